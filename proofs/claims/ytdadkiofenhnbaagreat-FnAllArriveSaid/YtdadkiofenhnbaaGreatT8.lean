/- What functions answer, in plain Lean. -/
import Derived.Test.YtdadkiofenhnbaaGreatT7
set_option linter.all false
set_option maxRecDepth 100000
set_option maxHeartbeats 4000000
namespace Go.Proofs.YtdadkiofenhnbaaGreat
open Go.RowKit
noncomputable section
def ysn(r:Reach)(a k:Int):0<=(rG r a k).2/\(rG r a k).2<=1000000000:=by
 unfold rG;split
 .rename_i h;simp only[ycj,zad,decide_eq_true_eq]at h;have f:=yF h.1.1;have hv:=aC.1 (show inRange r.ySh 0 1000000000=true from f.vol);have h2:=h.2;simp only[takeN]
  repeat' split
  all_goals omega
 .simp
def yTw(rs:List Reach):List (List C):=rs.map Reach.enc
def bM(ws:List yR8):List (List C):=ws.map yR8.enc
def yUi{rs:List Reach}{k:Nat}{r:Reach}(h:rs[k]?=some r):(yTw rs)[k]?=some r.enc:=by unfold yTw;rw[zau,h];rfl
def yt5{ws:List yR8}{k:Nat}{w:yR8}(h:ws[k]?=some w):(bM ws)[k]?=some w.enc:=by unfold bM;rw[zau,h];rfl
def yUN{rs:List Reach}{k:Nat}{r:Reach}:(yTw rs).set k r.enc=yTw (rs.set k r):=by unfold yTw;rw[zaZ]
def yk6{ws:List yR8}{k:Nat}{w:yR8}:(bM ws).set k w.enc=bM (ws.set k w):=by unfold bM;rw[zaZ]
def yTc{rs:List Reach}:(yTw rs).length=rs.length:=by simp[yTw]
def ygI{ws:List yR8}:(bM ws).length=ws.length:=by simp[bM]
def yU9{x:yRW}{q:Int}(h:yTn x q=false):yS2 x q=x:=by simp[yS2,h]
def yXQ(x:yRW)(q:Int)(hl:x.small):qB prg 73 [.agg (x.enc.map .c),.c (.i q)] (.agg ((yS2 x q).enc.map .c)):=by
 have hl0:=hl;obtain⟨s1,s2,s3,s4,s5,s6,s7,s8,s9⟩:=hl;have s11:=s1.1;have s31:=s3.1;refine dB yWI (goQ_ ?_);refine aA (yis x hl0) ?_;cases h:rC x with
 |false=>simp -dsimp -implicitDefEqProofs;simp[yU9,yTn,h]
 |true=>
 refine goQ_ ?_;refine aA (iC q 0 1000000000) ?_;cases hq:inRange q 0 1000000000 with
 |false=>simp -dsimp -implicitDefEqProofs;simp[yU9,yTn,hq]
 |true=>
 have hc:yTn x q=true:=by simp[yTn,h,hq]
 have hw:=yCL h;have pl:=yjV h;have p1:=pl.two;have p2:=pl.ways;have p3:=pl.wks;have e:yS2 x q=⟨x.Time,(stR x q).set (x.yRV.length-1) (yWH (stR x q) (stW x q) x.ySl (x.yRV.length-1)).1,x.ySl,stW x q,x.yR3,x.yR9,x.ySd,x.yRZ,x.Book,x.yR1,x.Start,x.In,x.Out+(yWH (stR x q) (stW x q) x.ySl (x.yRV.length-1)).2⟩:=by simp[yS2,hc]
 rw[e];refine goQ_ ?_;refine yX5 (yFx x.yRV s11) (goQ_ ?_);refine yX5 (yEV x.yRX s31) (goQ_ ?_);intro hlen;refine yX2 (λk=>k<=x.yRX.length) (λk=>xC [(1,.c (.i q)),(2,.box 2 0),(4,.box 4 0),(5,.box 5 0),(34,.own 31 22 x.yRX.length),(35,.c (.i x.yRX.length)),(36,.c (.i k))] [(2,.box (x.enc.map .c)),(4,zW),(5,.box [.c (.i x.Time),.own 27 3 x.yRV.length,.c (.sl 2 (x.ySl.map Way.enc)),.own 31 22 x.yRX.length,.c (.sl 1 (x.yR3.map nD)),.c (.sl 2 (x.yR9.map yRT.enc)),.c (.sl 1 (x.ySd.map qC)),.c (.i x.yRZ.Base),.c (.i x.yRZ.ySe),.c (.sl 1 (x.yRZ.yR5.map qC)),.c (.sl 1 (x.yRZ.yR7.map qC)),.c (.sl 5 (x.Book.map ySb.enc)),.c (.sl 4 (x.yR1.map yR2.enc)),.c (.i x.Start),.c (.i x.In),.c (.i x.Out)]),(27,.row 3 (yTw (ySX q x.yRV x.yRX k).1)),(31,.row 22 (bM (ySX q x.yRV x.yRX k).2))]) (λk=>x.yRX.length-k) (by apply aB<;>simp[ySX,yTw,bM,jA]) ?_
 rintro k hk
 obtain⟨l1,l2⟩:=yTG (q:=q) (rs:=x.yRV) (ws:=x.yRX) k;obtain⟨a1,a2,_,_⟩:=yUk (q:=q) s1 s3 (by omega) k hk;have hst1:(ySX q x.yRV x.yRX (k+1)).1=((ySX q x.yRV x.yRX k).1.set k (through q (ySX q x.yRV x.yRX k).1 (ySX q x.yRV x.yRX k).2 k).1).set (k+1) (through q (ySX q x.yRV x.yRX k).1 (ySX q x.yRV x.yRX k).2 k).2.1:=rfl;have hst2:(ySX q x.yRV x.yRX (k+1)).2=(ySX q x.yRV x.yRX k).2.set k (yUp (dW (ySX q x.yRV x.yRX k).2 k) (yTz q (ySX q x.yRV x.yRX k).1 (ySX q x.yRV x.yRX k).2 k)):=rfl;rcases zas k x.yRX.length with klt|kge
 .obtain⟨rs2,hrs2⟩:∃r,(ySX q x.yRV x.yRX (k+1)).1=r:=⟨_,rfl⟩;obtain⟨ws2,hws2⟩:∃r,(ySX q x.yRV x.yRX (k+1)).2=r:=⟨_,rfl⟩;rw[hrs2]at hst1;rw[hws2]at hst2;generalize(ySX q x.yRV x.yRX k).1=rs at *;generalize(ySX q x.yRV x.yRX k).2=ws at *;have r1:=ye8 (rs:=rs) (k:=k) (by omega);have r2:=ye8 (rs:=rs) (k:=k+1) (by omega);have w1:=yi4 (ws:=ws) (k:=k) (by omega);have sr1:=a1.2 _ (zac r1);have sr2:=a1.2 _ (zac r2);have sw1:=a2.2 _ (zac w1);have hnw:yTz q rs ws k=yS9 (dW ws k).ySp (dW ws k).Rule (kD (dR rs k)) (kD (dR rs (k+1))) q:=rfl;have hth:through q rs ws k=ySZ (dR rs k) (dR rs (k+1)) (yTz q rs ws k):=rfl;rw[hth]at hst1;have hLT:=yVM (dR rs k) (dR rs (k+1)) (yTz q rs ws k) sr1 sr2;generalize yTz q rs ws k=nw at *;have ar1:=yUi r1;have ar2:=yUi r2;have aw1:=yt5 w1;generalize dR rs k=ra at *;generalize dR rs (k+1)=rb at *;generalize dW ws k=wk at *;generalize ySZ ra rb nw=LT at *;obtain⟨k',hk'⟩:∃k',k'=k+1:=⟨_,rfl⟩;have ek:((k:Int)+1)=(k':Int):=by omega
  rw[<-hk']at ar2 hst1;have sR:∀(rs:List Reach) (j:Nat) (r:Reach),(yTw rs).set j [.sl 2 (r.ySg.map ySc.enc),.i r.ySh,.sl 1 (r.ySk.map qC)]=yTw (rs.set j r):=λ_ _ _=>yUN;have sW:=yk6 (ws:=ws) (k:=k) (w:=yUp wk nw);rw[<-hst2]at sW;simp only[Reach.enc]at ar1 ar2;simp only[yR8.enc,yUp]at aw1 sW;have gr1:=(zaa.1 ar1).2;have gr2:=(zaa.1 ar2).2;have gw1:=(zaa.1 aw1).2;have n1:k<x.yRV.length:=by omega
  have n2:k'<x.yRV.length:=by omega
  simp -dsimp -implicitDefEqProofs [yTc,ygI,l1,l2,ar1,gr1,ar2,gr2,aw1,gw1,klt,fC klt,n1,n2,ek];refine⟨by unfold inI;omega,?_⟩;refine yYr (qL ra) (goQ_ ?_);refine yYr (qL rb) (goQ_ ?_);have hSW:=yVT wk.ySp wk.Rule (kD ra) (kD rb) q;rw[<-hnw]at hSW;refine yYr hSW ?_;simp -dsimp -implicitDefEqProofs [yTc,ygI,l1,l2,ar1,gr1,ar2,gr2,aw1,gw1,klt,n1,n2,ek];refine⟨by unfold inI;omega,?_⟩;refine yYo hLT ?_;have hset:((yTw rs).set k [.sl 2 (LT.1.ySg.map ySc.enc),.i LT.1.ySh,.sl 1 (LT.1.ySk.map qC)]).set k' [.sl 2 (LT.2.1.ySg.map ySc.enc),.i LT.2.1.ySh,.sl 1 (LT.2.1.ySk.map qC)]=yTw rs2:=by rw[sR,sR,hst1]
  have hgs:∀(X:List C) (h),((yTw rs).set k X)[k']'h=[.sl 2 (rb.ySg.map ySc.enc),.i rb.ySh,.sl 1 (rb.ySk.map qC)]:=λX h=>by rw[zcd (by omega)];exact gr2
  simp -dsimp -implicitDefEqProofs [yTc,ygI,l1,l2,ar1,gr1,ar2,gr2,aw1,gw1,klt,n1,n2,ek,hset,sW,hgs];refine⟨by unfold inI;omega,k+1,klt,by omega,?_⟩;apply aB<;>simp[hset,sW,hrs2,hws2,ek,hgs]
 .have hkn:k=x.yRX.length:=by omega
  subst hkn;have hR:(ySX q x.yRV x.yRX x.yRX.length).1=stR x q:=rfl;have hW:(ySX q x.yRV x.yRX x.yRX.length).2=stW x q:=rfl;rw[hR]at l1 a1;rw[hW]at l2 a2;rw[hR,hW];generalize stR x q=rs at *;generalize stW x q=ws at *;obtain⟨n,hn⟩:∃n,n=x.yRV.length-1:=⟨_,rfl⟩;have en:((x.yRV.length:Int)-1)=(n:Int):=by omega
  obtain⟨m,hm⟩:∃m,m=n-1:=⟨_,rfl⟩;have em:((n:Int)-1)=(m:Int):=by omega
  rw[<-hn];have r1:=ye8 (rs:=rs) (k:=n) (by omega);have w1:=yi4 (ws:=ws) (k:=m) (by omega);have hy:x.ySl[n]?=some (x.ySl.getD n default):=by rw[zai,zab (by omega)];rfl
  have sr1:=a1.2 _ (zac r1);have hT:yWH rs ws x.ySl n=rG (dR rs n) (yS1 (dW ws m).ySp (kD (dR rs n)) 0) (fH (dR rs n).ySg (x.ySl.getD n default).Bed):=by rw[hm];rfl
  rw[hT];have ar1:=yUi r1;have aw1:=yt5 w1;generalize dR rs n=ra at *;generalize dW ws m=wk at *;generalize x.ySl.getD n default=wy at *;have gy:=(zaa.1 hy).2;have sR:∀(rs:List Reach) (j:Nat) (r:Reach),(yTw rs).set j [.sl 2 (r.ySg.map ySc.enc),.i r.ySh,.sl 1 (r.ySk.map qC)]=yTw (rs.set j r):=λ_ _ _=>yUN;simp only[Reach.enc]at ar1;simp only[yR8.enc]at aw1;have gr1:=(zaa.1 ar1).2;have gw1:=(zaa.1 aw1).2;have n1:n<x.yRV.length:=by omega
  have n2:m<x.yRX.length:=by omega
  have n3:n<x.ySl.length:=by omega
  simp -dsimp -implicitDefEqProofs [yTc,ygI,l1,l2,ar1,gr1,aw1,gw1,n1,n2,n3,hy,gy,en,em];intro hlen2;refine⟨by unfold inI;omega,by unfold inI;omega,?_⟩;refine yYs (qL ra) (goQ_ ?_);refine⟨_,_,yUb wk.ySp (kD ra) 0,by simp -dsimp -implicitDefEqProofs [aw1,gw1,gr1,n2],.inr rfl,yaeV n3 hy gy en ?_⟩;refine yYr (yxT ra.ySg wy.Bed) (goQ_ ?_);have hP:=yvU ra (yS1 wk.ySp (kD ra) 0) (fH ra.ySg wy.Bed) sr1;have hto:=ysn ra (yS1 wk.ySp (kD ra) 0) (fH ra.ySg wy.Bed);refine yYo hP ?_;generalize rG ra (yS1 wk.ySp (kD ra) 0) (fH ra.ySg wy.Bed)=z at *;have w5:=hw.out;simp -dsimp -implicitDefEqProofs [yTc,l1,n1,gr1,ar1,sR,en];refine⟨by unfold inI;omega,?_,(zae (by show(bM ws).length<=_;rw[ygI];omega)).symm⟩;rw[zae (by rw[yTc,zbn];omega)];exact sR rs n z.1
def ytB(W:Int)(k:Nat)(a:Int×Int×Int)(t:yRT):Int×Int×Int:=
 if 0<k/\a.2.1+iH t<=W then(a.1,a.2.1+iH t,if a.2.2<aI t then aI t else a.2.2)
 else(a.1+a.2.2,iH t,aI t)
def yc6(W:Int)(l:List yRT):Nat->Int×Int×Int
 |0=>(0,0,0)
 |k+1=>match l[k]? with
  |some t=>ytB W k (yc6 W l k) t
  |none=>yc6 W l k
def oO(L W:Int)(l:List yRT):Bool:=Distinct l&&l.all (λt=>decide (iH t<=W))&&decide ((yc6 W l l.length).1+(yc6 W l l.length).2.2<=L)
def ypI{W:Int}{l:List yRT}{k:Nat}{t:yRT}(h:l[k]?=some t):yc6 W l (k+1)=ytB W k (yc6 W l k) t:=by
 simp only[yc6,h]
def yzg{W:Int}{l:List yRT}:∀k:Nat,(0<=(yc6 W l k).1/\(yc6 W l k).1<=1200*k)/\(0<=(yc6 W l k).2.1/\(yc6 W l k).2.1<=180*k)/\(0<=(yc6 W l k).2.2/\(yc6 W l k).2.2<=1200)
 |0=>by simp[yc6]
 | k+1=>by
  have ih:=yzg (W:=W) (l:=l) k;cases h:l[k]? with
  |none=>simp only[yc6,h];omega
  | some t=>
   have h1:=yhm t;have h2:=yfk t;rw[ypI h];unfold ytB;split
   .simp only;refine⟨by omega,by omega,?_⟩;split<;>omega
   .simp only;omega
def ypV{L W:Int}{l:List yRT}(h:Distinct l=false):oO L W l=false:=by simp[oO,h]
def yg8{l:List yRT}(h:8<l.length):Distinct l=false:=by
 have:decide (l.length<=8)=false:=by simp;omega
 simp[Distinct,this]
def yqp{L W:Int}{l:List yRT}{k:Nat}{t:yRT}(h:l[k]?=some t)(hw:W<iH t):oO L W l=false:=by
 have:l.all (λt=>decide (iH t<=W))=false:=all_false (p:=λt=>decide (iH t<=W)) h (by simp;omega);simp only[oO,this,zbk,zbG]
def yP(l:List yRT)(e:yR0)(hs:aJ l):qB prg 354 [.agg (e.enc.map .c),.c (.sl 2 (l.map yRT.enc))] (.c (.b (oO e.Length e.Width l))):=by
 refine dB ym5 ?_;simp;refine aA (yfU l hs) ?_;cases hd:Distinct l with
 |false=>simp;exact ypV hd
 |true=>
 have h8:l.length<=8:=by simp only[Distinct,zad,decide_eq_true_eq]at hd;exact hd.1.1
 simp;intro hlen;refine yX2 (λk=>k<=l.length/\∀t∈l.take k,decide (iH t<=e.Width)=true) (λk=>xC [(2,.box 2 0),(5,.c (.i (yc6 e.Width l k).1)),(6,.c (.i (yc6 e.Width l k).2.1)),(7,.c (.i (yc6 e.Width l k).2.2)),(15,.c (.sl 2 (l.map yRT.enc))),(16,.c (.i l.length)),(17,.c (.i k))] [(2,.box (e.enc.map .c))]) (λk=>l.length-k) (by apply aB<;>simp[yc6]) ?_
 rintro k ⟨hk,hall⟩
 have hin:=yzg (W:=e.Width) (l:=l) k;rcases yX1 k l with⟨hlt,t,ht⟩|hge
 .have hts:=hs.2 t (zac ht);have h1:=yhm t;have h2:=yfk t;have e1:=ypI (W:=e.Width) ht;simp[ht,fC hlt];refine lC (ynE t hts) ?_;simp;refine lC (ymp t hts) ?_;simp;refine⟨λhw=>(yqp ht hw),λhw=>?_⟩;have hall':=lD (p:=λt=>decide (iH t<=e.Width)) ht hall (by simpa using hw);unfold ytB at e1;have hall2:∀x∈l.take (k+1),iH x<=e.Width:=by simpa using hall'
  refine⟨λhk0=>⟨by unfold inI;omega,λhf=>?_,λhf=>?_⟩,λhk0=>?_⟩
  .have e2:=e1.trans (if_pos ⟨hk0,hf⟩);refine⟨by unfold inI;omega,gB hlt hlen,k+1,⟨hlt,hall2⟩,by omega,?_⟩;apply aB<;>simp[e2]
  .have e2:=e1.trans (if_neg (λh=>by omega));refine⟨by unfold inI;omega,gB hlt hlen,k+1,⟨hlt,hall2⟩,by omega,?_⟩;apply aB<;>simp[e2]
  .have e2:=e1.trans (if_neg (λh=>by omega));refine⟨by unfold inI;omega,gB hlt hlen,k+1,⟨hlt,hall2⟩,by omega,?_⟩;apply aB<;>simp[e2]
 .have hall2:=dF (p:=λt=>decide (iH t<=e.Width)) hge hall;have:k=l.length:=by omega
  subst this;simp;refine⟨by unfold inI;omega,?_⟩;have ha:l.all (λt=>decide (iH t<=e.Width))=true:=hall2;simp only[oO,hd,ha,zaW]
def ynb(a b:Reach)(w:yR8)(c:yR4):Int:=if c.yRT.Up then kD b-w.yR0.ySj else kD a-w.yR0.ySi
def ybp(a b:Reach)(w:yR8)(c:yR4):Bool:=decide (oH c.yRT<=ynb a b w c)&&oO w.yR0.Length w.yR0.Width [c.yRT]
def able(a b:Reach)(w:yR8):List yR4:=w.Calls.filter (ybp a b w)
def ybX(a b:Reach)(w:yR8)(k:Nat):List yR4:=(w.Calls.take k).filter (ybp a b w)
def yqr{a b:Reach}{w:yR8}{k:Nat}{c:yR4}(h:w.Calls[k]?=some c):ybX a b w (k+1)=ybX a b w k++(if ybp a b w c then[c]else[]):=by
 unfold ybX;rw[zao,h,zcz];cases hc:ybp a b w c<;>simp[hc]
def ys9{a b:Reach}{w:yR8}{k:Nat}(h:w.Calls.length<=k):ybX a b w k=able a b w:=by
 unfold ybX able;rw[zae h]
def ytq{a b:Reach}{w:yR8}{k:Nat}:(ybX a b w k).length<=w.Calls.length:=by
 have:=zbX (ybp a b w) (w.Calls.take k);rw[zaA]at this;unfold ybX;omega
structure ySQ(w:yR8):Prop where
 a:0<=w.yR0.ySi/\w.yR0.ySi<=100000
 b:0<=w.yR0.ySj/\w.yR0.ySj<=100000
def yBO{w:yR8}(h:fJ w=true):ySQ w:=by
 simp only[fJ,lF,zad]at h;exact⟨aC.1 h.1.1.1.1.1.1.1.1.1.1.1.1.1.2,aC.1 h.1.1.1.1.1.1.1.1.1.1.1.1.2⟩
def yyG{t:yRT}(h:t.small):aJ [t]:=⟨by simp,λx hx=>by simp at hx;rw[hx];exact h⟩
def yGg(x:yRW)(k:Nat)(w:yR8)(a b:Reach)(hs:yR8.small w)(hw:x.yRX[k]?=some w)(ha:x.yRV[k]?=some a)(hb:x.yRV[k+1]?=some b)(hsill:ySQ w)(hrl:x.yRV.length<=1048576):
 qB prg 277 [.agg (x.enc.map .c),.c (.i k)] (.c (.sl 4 ((able a b w).map yR4.enc))):=by
 have kw:=(zaa.1 hw).1;have ka:=(zaa.1 ha).1;have kb:=(zaa.1 hb).1;have gw:=(zaa.1 hw).2;have ga:=(zaa.1 ha).2;have gb:=(zaa.1 hb).2;obtain⟨q1,q2⟩:=hsill;have la:=kM a;have lb:=kM b;have hc1:=hs.2.2.1;refine dB yBd ?_;simp[yqu,hw,gw,kw,fC kw];simp[ha,ga,ka,fC ka];refine lC (qL a) ?_;simp;refine⟨by unfold inI;omega,by unfold inI;omega,by omega,by omega,?_⟩;simp[hb,gb];refine lC (qL b) ?_;simp;refine⟨by unfold inI;omega,λhlen=>?_⟩;refine jX (k0:=4) 8 4 (by simp) (by simp) (by decide) ?_;refine yX2 (λi=>i<=w.Calls.length) (λi=>xC [(2,.box 2 0),(5,.box 5 0),(6,.c (.i (kD a-w.yR0.ySi))),(7,.c (.i (kD b-w.yR0.ySj))),(8,.own 8 4 (ybX a b w i).length),(39,.c (.sl 4 (w.Calls.map yR4.enc))),(40,.c (.i w.Calls.length)),(41,.c (.i i))] [(2,.box (x.enc.map .c)),(5,.box (w.enc.map .c)),(8,.row 4 ((ybX a b w i).map yR4.enc))]) (λi=>w.Calls.length-i) (by apply aB<;>simp[ybX]) ?_
 rintro i hi
 have hil:=ytq (a:=a) (b:=b) (w:=w) (k:=i);rcases yX1 i w.Calls with⟨hlt,c,hc⟩|hge
 .have g1:=(zaa.1 hc).2;have hcs:=hs.2.2.2 c (zac hc);have e1:=yqr (a:=a) (b:=b) hc;have hd:=ydq c.yRT;have fin:∀{z:Int},z=ynb a b w c->ybp a b w c=(decide (oH c.yRT<=z)&&oO w.yR0.Length w.yR0.Width [c.yRT]):=λh=>by rw[h];rfl
  cases hu:c.yRT.Up with
  | true=>
   have fin:=fin (z:=kD b-w.yR0.ySj) (by unfold ynb;rw[if_pos hu]);simp[hc,g1,hlt,fC hlt,hu];refine mD (yw c.yRT hcs) (by simp[hu]) rfl ?_;simp;refine⟨λhd1=>?_,λhd1=>?_⟩
   .have hff:=yP [c.yRT] w.yR0 (yyG hcs);refine mD (hff) (by simp[hu]) rfl ?_;cases hf:oO w.yR0.Length w.yR0.Width [c.yRT]with
    |true=>
     have e2:ybp a b w c=true:=by rw[fin];simp[hd1,hf]
     rw[e2]at e1;simp[hu];refine⟨by omega,gB hlt hlen,i+1,hlt,by omega,?_⟩;apply aB<;>simp[e1,hu]
    |false=>
     have e2:ybp a b w c=false:=by rw[fin];simp[hf]
     rw[e2]at e1;simp;refine⟨gB hlt hlen,i+1,hlt,by omega,?_⟩;apply aB<;>simp[e1]
   .have e2:ybp a b w c=false:=by
     have:¬oH c.yRT<=kD b-w.yR0.ySj:=by omega
     rw[fin];simp[this]
    rw[e2]at e1;refine⟨gB hlt hlen,i+1,hlt,by omega,?_⟩;apply aB<;>simp[e1]
  | false=>
   have fin:=fin (z:=kD a-w.yR0.ySi) (by unfold ynb;rw[if_neg (by simp[hu])]);simp[hc,g1,hlt,fC hlt,hu];refine mD (yw c.yRT hcs) (by simp[hu]) rfl ?_;simp;refine⟨λhd1=>?_,λhd1=>?_⟩
   .have hff:=yP [c.yRT] w.yR0 (yyG hcs);refine mD (hff) (by simp[hu]) rfl ?_;cases hf:oO w.yR0.Length w.yR0.Width [c.yRT]with
    |true=>
     have e2:ybp a b w c=true:=by rw[fin];simp[hd1,hf]
     rw[e2]at e1;simp[hu];refine⟨by omega,gB hlt hlen,i+1,hlt,by omega,?_⟩;apply aB<;>simp[e1,hu]
    |false=>
     have e2:ybp a b w c=false:=by rw[fin];simp[hf]
     rw[e2]at e1;simp;refine⟨gB hlt hlen,i+1,hlt,by omega,?_⟩;apply aB<;>simp[e1]
   .have e2:ybp a b w c=false:=by
     have:¬oH c.yRT<=kD a-w.yR0.ySi:=by omega
     rw[fin];simp[this]
    rw[e2]at e1;refine⟨gB hlt hlen,i+1,hlt,by omega,?_⟩;apply aB<;>simp[e1]
 .simp[aG hge];rw[ys9 hge];exact jA.symm
def ykT(a b:Int):Int:=if b<a then b else a
def bG(l:yR0):Int:=if lF l then ykT (l.Base+l.ySn.tdiv l.Area) 100000 else 0
structure ySN(l:yR0):Prop where
 sa:0<=l.ySi/\l.ySi<=100000
 sb:0<=l.ySj/\l.ySj<=100000
 base:0<=l.Base/\l.Base<=100000
 area:1<=l.Area/\l.Area<=10000
 rate:1<=l.ySs/\l.ySs<=100000
 water:0<=l.ySn/\l.ySn<=1000000000
 gate:0<=l.Gate/\l.Gate<=2
def qW{l:yR0}(h:lF l=true):ySN l:=by
 simp only[lF,zad]at h;obtain⟨⟨⟨⟨⟨⟨⟨⟨⟨h0,h1⟩,h2⟩,h3⟩,h4⟩,h5⟩,h6⟩,h7⟩,h8⟩,h9⟩:=h;exact⟨aC.1 h2,aC.1 h3,aC.1 h4,aC.1 h5,aC.1 h6,aC.1 h7,aC.1 h8⟩
def ytP{a b:Int}(ha:0<=a/\a<=1000000000)(hb:1<=b):0<=a.tdiv b/\a.tdiv b<=1000000000:=by
 rw[zaG ha.1];exact⟨zcV ha.1 (by omega),zel (zcM _ ha.1) ha.2⟩
def yd5(l:yR0):0<=bG l/\bG l<=100000:=by
 unfold bG;split
 .rename_i h;have f:=qW h;have f1:=f.base;have f2:=ytP f.water f.area.1;unfold ykT;split<;>omega
 .omega
@[simp] def yR0.setW(l:yR0)(w:Int):yR0:=⟨l.Length,l.Width,l.ySi,l.ySj,l.Base,l.Area,l.ySs,w,l.Gate,l.yRY⟩
@[simp] def yR0.yra(l:yR0)(g:Int):yR0:=⟨l.Length,l.Width,l.ySi,l.ySj,l.Base,l.Area,l.ySs,l.ySn,g,l.yRY⟩
@[simp] def yR0.yt1(l:yR0)(ts:List yRT):yR0:=⟨l.Length,l.Width,l.ySi,l.ySj,l.Base,l.Area,l.ySs,l.ySn,l.Gate,ts⟩
def ydG(a b:Reach)(g:Int):Int:=if g=1 then kD a else kD b
def oP(l:yR0)(a b:Reach)(g:Int):Bool:=lF l&&xE a&&xE b&&decide (l.Gate=0)&&(decide (g=1)||decide (g=2))&&inRange (bG l) (ydG a b g-1) (ydG a b g+1)
def tK(l:yR0)(a b:Reach)(g:Int):yR0×Bool:=if oP l a b g then(l.yra g,true)else(l,false)
def ya1(l:yR0)(r:Reach):Int:=ykT (l.Area*(kD r-bG l)) l.ySs
def dY(l:yR0)(r:Reach):Bool:=lF l&&xE r&&decide (l.Gate=0)&&decide (bG l<kD r)
def mM(l:yR0)(r:Reach):yR0×Reach:=
 if dY l r then(if 1000000000<l.ySn+(rG r (ya1 l r) 0).2 then(l,r)else(l.setW (l.ySn+(rG r (ya1 l r) 0).2),(rG r (ya1 l r) 0).1))else(l,r)
def rV(l:yR0)(r:Reach):Int:=ykT (ykT (l.Area*(bG l-kD r)) l.ySs) l.ySn
def yYU(l:yR0)(r:Reach):Bool:=lF l&&xE r&&decide (l.Gate=0)&&decide (kD r<bG l)
def rJ(l:yR0)(r:Reach):yR0×Reach:=
 if yYU l r then(if rO r<rV l r then(l,r)else(l.setW (l.ySn-rV l r),dU r (rV l r)))else(l,r)
def yeb(l:yR0)(g:Int):Int:=if g=1 then l.ySi else l.ySj
def yaI(up:Bool):Int:=if up then 2 else 1
def lJ(l:yR0)(r:Reach)(t:yRT):Bool:=lF l&&xE r&&oC t&&decide (l.Gate=yaI t.Up)&&decide (oH t<=kD r-yeb l (yaI t.Up))
def xH(l:yR0)(r:Reach)(t:yRT):yR0×Bool:=if lJ l r t&&oO l.Length l.Width (l.yRY++[t])then(l.yt1 (l.yRY++[t]),true)else(l,false)
def leaves(l:yR0)(r:Reach)(t:yRT):Bool:=(t.Up==decide (l.Gate=1))&&decide (oH t<=kD r-yeb l l.Gate)
def yh(l:yR0)(r:Reach):Bool:=lF l&&xE r&& !decide (l.Gate=0)
def leaver(l:yR0)(r:Reach):Option Nat:=if yh l r then l.yRY.findIdx? (leaves l r)else none
def yR0.yoT(l:yR0):(AV.agg (l.iD.map .c)).shr (.agg (l.enc.map .c)):=by simp[AV.shr,AV.yoE,dO,C.shr,eF yRT.bF]
def yeo(e:yR0)(hl:yR0.small e):qB prg 250 [.agg (e.enc.map .c)] (.agg (e.enc.map .c)):=(ysC e hl).pure (yR0.yoT _)
def jQ(l:yR0)(hl:l.small):qB prg 281 [.agg (l.enc.map .c)] (.c (.i (bG l))):=by
 refine dB ylu (goQ_ ?_);refine aA (pX l hl) ?_;cases h:lF l with
 |false=>simp -dsimp -implicitDefEqProofs;simp[bG,h]
 |true=>
 have f:=qW h;have f1:=f.base;have f2:=ytP f.water f.area.1;have f3:=f.area;have e:bG l=ykT (l.Base+l.ySn.tdiv l.Area) 100000:=by simp[bG,h]
 rw[e];refine goQ_ ?_;exact⟨by omega,by unfold inI;omega,by unfold inI;omega,rfl⟩
def yvt(l:yR0)(a b:Reach)(g:Int)(hl:l.small):qB prg 278 [.agg (l.enc.map .c),.agg (a.enc.map .c),.agg (b.enc.map .c),.c (.i g)] (.tup [.agg ((tK l a b g).1.enc.map .c),.c (.b (tK l a b g).2)]):=by
 have no:oP l a b g=false->tK l a b g=(l,false):=λh=>by simp[tK,h]
 have la:=kM a;have lb:=kM b;refine dB yq7 (goQ_ ?_);refine dD (yeo l hl) (goQ_ ?_);refine aA (pX l hl) ?_;cases h1:lF l with
 |false=>rw[no (by simp[oP,h1])];simp -dsimp -implicitDefEqProofs
 |true=>
 refine goQ_ ?_;refine aA (oL a) ?_;cases h2:xE a with
 |false=>rw[no (by simp[oP,h2])];simp -dsimp -implicitDefEqProofs
 |true=>
 refine goQ_ ?_;refine aA (oL b) ?_;cases h3:xE b with
 |false=>rw[no (by simp[oP,h3])];simp -dsimp -implicitDefEqProofs
 |true=>
 by_cases h4:l.Gate=0
 rotate_left
 .rw[no (by simp[oP,h4])];simp -dsimp -implicitDefEqProofs [h4]
 have hcl:=jQ l hl
 by_cases g1:g=1
 .subst g1;have hs:ydG a b 1=kD a:=rfl;refine yafw h4 ?_;refine aA (qL a) (goQ_ ?_);refine mD (hcl) (by simp[h4]) rfl (goQ_ ?_);refine⟨by unfold inI;omega,by unfold inI;omega,?_⟩;refine aA (iC (bG l) (kD a-1) (kD a+1)) ?_;cases h5:inRange (bG l) (kD a-1) (kD a+1)with
  |false=>rw[no (by simp[oP,hs,h5])];simp -dsimp -implicitDefEqProofs [h4]
  |true=>
   have e:tK l a b 1=(l.yra 1,true):=by simp[tK,oP,h1,h2,h3,h4,hs,h5]
   rw[e];simp -dsimp -implicitDefEqProofs
 by_cases g2:g=2
 .subst g2;have hs:ydG a b 2=kD b:=rfl;refine yafw h4 ?_;refine aA (qL b) (goQ_ ?_);refine mD (hcl) (by simp[h4]) rfl (goQ_ ?_);refine⟨by unfold inI;omega,by unfold inI;omega,?_⟩;refine aA (iC (bG l) (kD b-1) (kD b+1)) ?_;cases h5:inRange (bG l) (kD b-1) (kD b+1)with
  |false=>rw[no (by simp[oP,hs,h5])];simp -dsimp -implicitDefEqProofs [h4]
  |true=>
   have e:tK l a b 2=(l.yra 2,true):=by simp[tK,oP,h1,h2,h3,h4,hs,h5]
   rw[e];simp -dsimp -implicitDefEqProofs
 .rw[no (by simp[oP,g1,g2])];simp -dsimp -implicitDefEqProofs [h4,g1,g2]
def yvH(l:yR0)(r:Reach)(hl:l.small)(hr:r.small):qB prg 282 [.agg (l.enc.map .c),.agg (r.enc.map .c)] (.tup [.agg ((mM l r).1.enc.map .c),.agg ((mM l r).2.enc.map .c)]):=by
 have no:dY l r=false->mM l r=(l,r):=λh=>by simp[mM,h]
 have la:=kM r;have lc:=yd5 l;refine dB yrz (goQ_ ?_);refine bI (yeo l hl) (goQ_ ?_);refine bI (yqt r hr) (goQ_ ?_);refine lC (pX l hl) ?_;cases h1:lF l with
 |false=>rw[no (by simp[dY,h1])];simp -dsimp -implicitDefEqProofs
 |true=>
 refine goQ_ ?_;refine lC (oL r) ?_;cases h2:xE r with
 |false=>rw[no (by simp[dY,h2])];simp -dsimp -implicitDefEqProofs
 |true=>
 by_cases h4:l.Gate=0
 rotate_left
 .rw[no (by simp[dY,h4])];simp -dsimp -implicitDefEqProofs [h4]
 have f:=qW h1;have f1:=f.area;have f2:=f.water;have f3:=f.rate;refine yafw h4 ?_;refine⟨_,_,jQ l hl,by simp[h4],.inr rfl,goQ_ ?_⟩;refine lC (qL r) (goQ_ ?_);refine⟨λh5=>?_,λh5=>?_⟩
 .rw[no (by simp[dY];omega)];simp -dsimp -implicitDefEqProofs [h4]
 have hc:dY l r=true:=by simp[dY,h1,h2,h4];omega
 have e:mM l r=if 1000000000<l.ySn+(rG r (ya1 l r) 0).2 then(l,r)else(l.setW (l.ySn+(rG r (ya1 l r) 0).2),(rG r (ya1 l r) 0).1):=by simp only[mM,hc,if_true]
 rw[e];have m1:=yyJ (a:=l.Area) (b:=kD r-bG l) (A:=10000) (B:=1000000000) (by omega) (by omega);have hP:=yvU r (ya1 l r) 0 hr;have ht:=ysn r (ya1 l r) 0;have hN:ya1 l r=ykT (l.Area*(kD r-bG l)) l.ySs:=rfl;have hN2:(if l.ySs<l.Area*(kD r-bG l)then l.ySs else l.Area*(kD r-bG l))=ya1 l r:=by rw[hN];rfl
 refine lC (qL r) (goQ_ ?_);refine⟨_,_,jQ l hl,by simp[h4],.inr rfl,?_⟩;generalize rG r (ya1 l r) 0=z at *;refine yafw hN2 ?_;refine⟨by unfold inI;omega,by unfold inI;omega,?_⟩;refine dD hP (goQ_ ?_);refine⟨by unfold inI;omega,λh6=>?_,λh6=>?_⟩
 .rw[if_pos h6];simp -dsimp -implicitDefEqProofs [h4]
 .rw[if_neg (by omega)];simp -dsimp -implicitDefEqProofs [h4];unfold inI;omega
def yty(l:yR0)(r:Reach)(hl:l.small)(hr:r.small):qB prg 283 [.agg (l.enc.map .c),.agg (r.enc.map .c)] (.tup [.agg ((rJ l r).1.enc.map .c),.agg ((rJ l r).2.enc.map .c)]):=by
 have no:yYU l r=false->rJ l r=(l,r):=λh=>by simp[rJ,h]
 have la:=kM r;have lc:=yd5 l;refine dB ypP (goQ_ ?_);refine bI (yeo l hl) (goQ_ ?_);refine bI (yqt r hr) (goQ_ ?_);refine lC (pX l hl) ?_;cases h1:lF l with
 |false=>rw[no (by simp[yYU,h1])];simp -dsimp -implicitDefEqProofs
 |true=>
 refine goQ_ ?_;refine lC (oL r) ?_;cases h2:xE r with
 |false=>rw[no (by simp[yYU,h2])];simp -dsimp -implicitDefEqProofs
 |true=>
 by_cases h4:l.Gate=0
 rotate_left
 .rw[no (by simp[yYU,h4])];simp -dsimp -implicitDefEqProofs [h4]
 have f:=qW h1;have f1:=f.area;have f2:=f.water;have f3:=f.rate;refine yafw h4 ?_;refine⟨_,_,jQ l hl,by simp[h4],.inr rfl,goQ_ ?_⟩;refine lC (qL r) (goQ_ ?_);refine⟨λh5=>?_,λh5=>?_⟩
 .rw[no (by simp[yYU];omega)];simp -dsimp -implicitDefEqProofs [h4]
 have hc:yYU l r=true:=by simp[yYU,h1,h2,h4];omega
 have e:rJ l r=if rO r<rV l r then(l,r)else(l.setW (l.ySn-rV l r),dU r (rV l r)):=by simp only[rJ,hc,if_true]
 rw[e];have m1:=yyJ (a:=l.Area) (b:=bG l-kD r) (A:=10000) (B:=100000) (by omega) (by omega);have hP:=yyV r (rV l r) hr;have hN:rV l r=ykT (ykT (l.Area*(bG l-kD r)) l.ySs) l.ySn:=rfl;refine⟨_,_,jQ l hl,by simp[h4],.inr rfl,goQ_ ?_⟩;refine lC (qL r) (goQ_ ?_);have hN2:(if l.ySn<(if l.ySs<l.Area*(bG l-kD r)then l.ySs else l.Area*(bG l-kD r))then l.ySn else(if l.ySs<l.Area*(bG l-kD r)then l.ySs else l.Area*(bG l-kD r)))=rV l r:=by rw[hN];rfl
 have hd:0<=rV l r/\rV l r<=l.ySn:=by
  rw[<-hN2];generalize l.Area*(bG l-kD r)=m at *
  (repeat' split)<;>omega
 refine⟨by unfold inI;omega,by unfold inI;omega,?_⟩;refine aA (yo3 r) (yafw hN2 ?_);refine⟨λh6=>?_,λh6=>?_⟩
 .rw[if_pos h6];simp -dsimp -implicitDefEqProofs [h4]
 rw[if_neg (show¬rO r<rV l r by omega)];refine⟨by unfold inI;omega,?_⟩;refine bI hP ?_;exact yafA h4
def yjR(l:yR0)(g:Int):qB prg 355 [.agg (l.enc.map .c),.c (.i g)] (.c (.i (yeb l g))):=by
 refine dB ywO (goQ_ ?_);refine⟨λh=>?_,λh=>?_⟩
 .simp[yeb,h]
 .simp[yeb,h]
def yA2{l:yR0}(h:lF l=true)(g:Int):0<=yeb l g/\yeb l g<=100000:=by
 have f:=qW h;have f1:=f.sa;have f2:=f.sb;unfold yeb;split<;>omega
def ylM(l:yR0)(r:Reach)(t:yRT)(hl:l.small)(ht:t.small):qB prg 288 [.agg (l.enc.map .c),.agg (r.enc.map .c),.agg (t.enc.map .c)] (.c (.b (lJ l r t))):=by
 have la:=kM r;have ld:=ydq t;refine dB yrr (goQ_ ?_);refine aA (pX l hl) ?_;cases h1:lF l with
 |false=>simp -dsimp -implicitDefEqProofs;simp[lJ,h1]
 |true=>
 refine goQ_ ?_;refine aA (oL r) ?_;cases h2:xE r with
 |false=>simp -dsimp -implicitDefEqProofs;simp[lJ,h2]
 |true=>
 refine goQ_ ?_;refine aA (gK t ht) ?_;cases h3:oC t with
 |false=>simp -dsimp -implicitDefEqProofs;simp[lJ,h3]
 |true=>
 have e:lJ l r t=(decide (l.Gate=yaI t.Up)&&decide (oH t<=kD r-yeb l (yaI t.Up))):=by simp[lJ,h1,h2,h3]
 rw[e];have hs:=yA2 h1;cases hu:t.Up with
 | true=>
  have hs2:=hs 2
  by_cases hg:l.Gate=2
  .refine yaed hu hg ?_;refine lC (qL r) (goQ_ ?_);refine⟨_,_,yjR l 2,by simp[hg],.inr rfl,goQ_ ?_⟩;refine⟨by unfold inI;omega,?_⟩;refine⟨_,_,yw t ht,by simp[hu],.inr rfl,?_⟩;simp -dsimp -implicitDefEqProofs [yaI]
   exactλ_=>hg
  .simp -dsimp -implicitDefEqProofs [hu,hg,yaI]
 | false=>
  have hs2:=hs 1
  by_cases hg:l.Gate=1
  .refine yaed hu hg ?_;refine lC (qL r) (goQ_ ?_);refine⟨_,_,yjR l 1,by simp[hg],.inr rfl,goQ_ ?_⟩;refine⟨by unfold inI;omega,?_⟩;refine⟨_,_,yw t ht,by simp[hu],.inr rfl,?_⟩;simp -dsimp -implicitDefEqProofs [yaI]
   exactλ_=>hg
  .simp -dsimp -implicitDefEqProofs [hu,hg,yaI]
def ytO(l:yR0)(r:Reach)(t:yRT)(hl:l.small)(ht:t.small):qB prg 291 [.agg (l.enc.map .c),.agg (r.enc.map .c),.agg (t.enc.map .c)] (.tup [.agg ((xH l r t).1.enc.map .c),.c (.b (xH l r t).2)]):=by
 have no:(lJ l r t&&oO l.Length l.Width (l.yRY++[t]))=false->xH l r t=(l,false):=λh=>by simp only[xH,h];rfl
 have hll:=hl.1;refine dB yql (goQ_ ?_);refine dD (yeo l hl) (goQ_ ?_);refine aA (ylM l r t hl ht) ?_;cases h1:lJ l r t with
 |false=>rw[no (by simp[h1])];simp -dsimp -implicitDefEqProofs
 |true=>
 refine goQ_ ?_;refine yage (ybj l.yRY hl) (iJ yRT.aF _ _) (goT_ ?_);refine yage (yaU t ht) (dP (yRT.aF t)) ?_;simp -dsimp -implicitDefEqProofs [jA,iW];have hshr:=eF yRT.bF (l.yRY++[t]);rw[zaD,zaD]at hshr;simp only[zaC,zcj,yRT.iD,yRT.enc]at hshr;have htk2:List.take (l.yRY.length+1) (l.yRY.map yRT.iD++[[C.b t.Up,C.ot 1 (t.Rows.map jF)]])=l.yRY.map yRT.iD++[[C.b t.Up,C.ot 1 (t.Rows.map jF)]]:=zae (by simp)
 have h8:l.yRY.length<=8:=by
  have h1':=h1;simp only[lJ,lF,zad]at h1';rcases zas 8 l.yRY.length with e|e
  .have:=yg8 e;rw[this]at h1';simp at h1'
  .exact e
 refine⟨by omega,?_⟩
 have hF:=yP (l.yRY++[t]) l ⟨by rw[zah,zbN];omega,λy hy=>by
  rcases zaj.1 hy with e|e
  .exact hl.2 y e
  .rw[zak.1 e];exact ht⟩
 rw[zaD]at hF;refine mD (hF) (by simp -dsimp -implicitDefEqProofs [hshr,htk2,jA]) rfl ?_;cases h2:oO l.Length l.Width (l.yRY++[t])with
 |false=>rw[no (by simp[h2])];simp -dsimp -implicitDefEqProofs
 |true=>
 have e:xH l r t=(l.yt1 (l.yRY++[t]),true):=by simp[xH,h1,h2]
 rw[e];exact yafJ hshr htk2
def yfI{α:Type}(l:List α)(i:Nat):List α:=l.take i++l.drop (i+1)
def sK(l:yR0)(r:Reach):yR0×yRT×Bool:=
 match leaver l r with
 |some i=>(l.yt1 (yfI l.yRY i),l.yRY.getD i ⟨false,[]⟩,true)
 |none=>(l,⟨false,[]⟩,false)
def yuH{l:List yRT}(h:aJ l)(i:Nat):aJ (l.take i)/\aJ (l.drop i):=by
 refine⟨⟨?_,λt ht=>h.2 t (zaw ht)⟩,⟨?_,λt ht=>h.2 t (zaO ht)⟩⟩
 .have:=h.1;rw[zaA];omega
 .have:=h.1;rw[zaR];omega
set_option maxRecDepth 20000 in
def ysW(l:yR0)(r:Reach)(hl:l.small):qB prg 285 [.agg (l.enc.map .c),.agg (r.enc.map .c)] (.tup [.agg ((sK l r).1.enc.map .c),.agg ((sK l r).2.1.enc.map .c),.c (.b (sK l r).2.2)]):=by
 have no:leaver l r=none->sK l r=(l,⟨false,[]⟩,false):=λh=>by unfold sK;rw[h]
 have hll:=hl.1;have la:=kM r;refine dB yp6 (goQ_ ?_);refine dD (yeo l hl) (goQ_ ?_);refine aA (pX l hl) ?_;cases h1:lF l with
 |false=>rw[no (by simp[leaver,yh,h1])];simp -dsimp -implicitDefEqProofs
 |true=>
 refine goQ_ ?_;refine aA (oL r) ?_;cases h2:xE r with
 |false=>rw[no (by simp[leaver,yh,h2])];simp -dsimp -implicitDefEqProofs
 |true=>
 by_cases h4:l.Gate=0
 .rw[no (by simp[leaver,yh,h4])];simp -dsimp -implicitDefEqProofs [h4]
 have hc:yh l r=true:=by simp[yh,h1,h2,h4]
 have hs:=yA2 h1 l.Gate;have he:leaver l r=l.yRY.findIdx? (leaves l r):=by simp[leaver,hc]
 obtain⟨R,hR⟩:∃R,sK l r=R:=⟨_,rfl⟩;rw[hR];refine yafw h4 ?_;intro hlen;refine qA (ι:=Nat) (λi=>i<=l.yRY.length/\∀(j:Nat) (t:yRT),j<i->l.yRY[j]?=some t->leaves l r t=false) (λi=>xC [(2,.box 2 0),(3,.box 3 0),(4,.box 4 0),(5,.box 5 0),(6,.c (.b false)),(7,.box 7 0),(28,.c (.sl 2 (l.yRY.map yRT.enc))),(29,.c (.i l.yRY.length)),(30,.c (.i i))] [(2,.box (l.enc.map .c)),(3,.box (r.enc.map .c)),(4,.box [.c (.i 0),.c (.i 0),.c (.i 0),.c (.i 0),.c (.i 0),.c (.i 0),.c (.i 0),.c (.i 0),.c (.i 0),.nil 2]),(5,.box [.c (.b false),.nil 1]),(7,.box (l.enc.map .c))]) (λi=>l.yRY.length-i) 0 ⟨zbu _,λj t h=>by omega⟩ (by apply aB<;>simp) ?_
 rintro i ⟨hi,hno⟩
 rcases yX1 i l.yRY with⟨ilt,t,ht⟩|ige
 .have gt:=(zaa.1 ht).2;have sm:=hl.2 t (zac ht);have hd:=ydq t
  have next:leaves l r t=false->∀(j:Nat) (t:yRT),j<i+1->l.yRY[j]?=some t->leaves l r t=false:=by
   intro h0 j t' hj ht';rcases zas j i with e|e
   .exact hno j t' e ht'
   .obtain rfl:j=i:=by omega
    rw[ht]at ht';cases ht';exact h0
  refine yaeV ht gt ilt (fC ilt) ?_;refine⟨λhu=>?_,λhu=>?_⟩
  rotate_left
  .refine⟨gB ilt hlen,i+1,⟨ilt,next (by simp[leaves,hu])⟩,by omega,?_⟩;apply aB<;>simp
  refine lC (qL r) (goQ_ ?_);refine lC (yjR l l.Gate) (goQ_ ?_);refine⟨by unfold inI;omega,?_⟩;refine lC (yw t sm) (goQ_ ?_);refine⟨λhd1=>?_,λhd1=>?_⟩
  rotate_left
  .refine⟨gB ilt hlen,i+1,⟨ilt,next (by simp[leaves];intro _;omega)⟩,by omega,?_⟩;apply aB<;>simp
  have c1:=ybj (l.yRY.take i) (yuH hl i).1;have c2:=ybj (l.yRY.drop (i+1)) (yuH hl (i+1)).2;have k1:=iJ yRT.aF 2 (l.yRY.take i);have k2:=iJ yRT.aF 2 (l.yRY.drop (i+1));rw[zbl]at c1 k1;rw[zbl]at c1;rw[zdn]at c2 k2;rw[zdn]at c2;have hyes:leaves l r t=true:=by simp[leaves,hu];omega
  have el:leaver l r=some i:=by
   rw[he,zck];refine⟨ilt,by rw[gt];exact hyes,λj hj=>?_⟩;rw[hno j _ hj (zab (by omega))];exact zbZ
  have eR:R=(l.yt1 (yfI l.yRY i),t,true):=by
   rw[<-hR];unfold sK;rw[el];simp only[zai,ht,zbc]
  subst eR;refine⟨hi,?_⟩;refine pJ c1 (by simp) k1 (by simp[fD]) (goQ_ ?_);refine⟨by unfold inI;omega,by omega,by omega,?_⟩;refine pJ c2 (by simp) k2 (by simp[fD]) (goQ_ ?_)
  have h8:l.yRY.length<=8:=by
   have h1':=h1;simp only[lF,zad]at h1';rcases zas 8 l.yRY.length with e|e
   .have:=yg8 e;rw[this]at h1';simp at h1'
   .exact e
  refine⟨by omega,?_⟩;refine yage (yaU t sm) (dP (yRT.aF t)) ?_;have hsh:=eF yRT.bF (yfI l.yRY i);unfold yfI at hsh;rw[zaD,zaD,zbl,zbl,zdn,zdn]at hsh;have htk:List.take (min i l.yRY.length+(l.yRY.length-(i+1))) (List.take i (l.yRY.map yRT.iD)++List.drop (i+1) (l.yRY.map yRT.iD))=List.take i (l.yRY.map yRT.iD)++List.drop (i+1) (l.yRY.map yRT.iD):=zae (by simp);have htd:List.take (l.yRY.length-(i+1)) (List.drop (i+1) (l.yRY.map yRT.iD))=List.drop (i+1) (l.yRY.map yRT.iD):=zae (by simp);have hbo:=eF yI t.Rows;simp -dsimp -implicitDefEqProofs [htd,htk,hsh,hbo,jA,yfI]
 .obtain rfl:i=l.yRY.length:=by omega
  have e:leaver l r=none:=by
   rw[he,zcK];intro t ht;obtain⟨j,hj⟩:=zbd.1 ht;exact hno j t (zaa.1 hj).1 hj
  rw[no e]at hR;subst hR;exact yafA (aG ige)
def rF(c:yR4)(now:Int):Int:=
 if jO c=true/\inRange now c.Since 1000000=true then
  if c.Booked≠ -1/\c.Booked<=now then -1 else if(now-c.Since).tdiv 20<qO c.yRT then qO c.yRT-(now-c.Since).tdiv 20 else 0
 else 3
structure ySO(c:yR4):Prop where
 tr:oC c.yRT=true
 cls:0<=qO c.yRT/\qO c.yRT<=2
 snc:0<=c.Since/\c.Since<=1000000
 bkd: -1<=c.Booked/\c.Booked<=1000000
def yqg{c:yR4}(h:jO c=true):ySO c:=by
 simp only[jO,zad]at h;obtain⟨⟨h1,h2⟩,h3⟩:=h;exact⟨h1,yvn h1,aC.1 h2,aC.1 h3⟩
def ykx(c:yR4)(now:Int)(h:c.small):qB prg 356 [.agg (c.enc.map .c),.c (.i now)] (.c (.i (rF c now))):=by
 refine dB yvY (goQ_ ?_);refine aA (yqV c h) ?_;cases h1:jO c with
 |false=>simp -dsimp -implicitDefEqProofs;simp[rF,h1]
 |true=>
 have cf:=yqg h1;have f1:=cf.cls;have f2:=cf.snc;have f3:=cf.bkd;refine goQ_ ?_;refine aA (iC now c.Since 1000000) ?_;cases h2:inRange now c.Since 1000000 with
 |false=>simp -dsimp -implicitDefEqProofs;simp[rF,h1,h2]
 |true=>
 have r2:=aC.1 h2
 have hq:0<=(now-c.Since).tdiv 20/\(now-c.Since).tdiv 20<=50000:=by
  rw[zaG (by omega)];omega
 have fin:¬(c.Booked≠ -1/\c.Booked<=now)->rF c now=if(now-c.Since).tdiv 20<qO c.yRT then qO c.yRT-(now-c.Since).tdiv 20 else 0:=λhn=>by
  unfold rF;rw[if_pos ⟨h1,h2⟩,if_neg hn]
 have fyes:(c.Booked≠ -1/\c.Booked<=now)->rF c now= -1:=λhn=>by
  unfold rF;rw[if_pos ⟨h1,h2⟩,if_pos hn]
 by_cases hb:c.Booked= -1
 .refine yafw hb ?_;refine lC (yhh c.yRT h) (goQ_ ?_);refine⟨by unfold inI;omega,by unfold inI;omega,by unfold inI;omega,?_⟩;rw[fin (by simp[hb])]
 .by_cases hb2:c.Booked<=now
  .refine yaed hb hb2 ?_;rw[fyes ⟨hb,hb2⟩]
  .refine yaed hb hb2 ?_;refine lC (yhh c.yRT h) (goQ_ ?_);refine⟨by unfold inI;omega,by unfold inI;omega,by unfold inI;omega,?_⟩;rw[fin (by simp[hb];omega)]
def yli{c:yR4}{now:Int}(h:rF c now≠3):oC c.yRT=true/\0<(lG c.yRT).length:=by
 by_cases h1:jO c=true
 .have h2:=(yqg h1).tr;exact⟨h2,by rw[lG,if_pos h2,zal];exact(lK h2).pos⟩
 .exact absurd (by simp[rF,h1]) h
def before(a b:yR4)(now:Int):Bool:=
 if rF a now=3\/rF b now=3 then false
 else if rF a now≠rF b now then decide (rF a now<rF b now)
 else if rF a now= -1/\a.Booked≠b.Booked then decide (a.Booked<b.Booked)
 else if a.Since≠b.Since then decide (a.Since<b.Since)
 else decide ((lG a.yRT)[0]?.getD 0<(lG b.yRT)[0]?.getD 0)
def ygG(a b:yR4)(now:Int)(ha:a.small)(hb:b.small):qB prg 358 [.agg (a.enc.map .c),.agg (b.enc.map .c),.c (.i now)] (.c (.b (before a b now))):=by
 refine dB ym7 (goQ_ ?_);refine lC (ykx a now ha) (goQ_ ?_);refine lC (ykx b now hb) ?_
 by_cases h1:rF a now=3
 .refine yafw h1 ?_;simp[before,h1]
 by_cases h2:rF b now=3
 .refine yaed h1 h2 ?_;simp[before,h2]
 by_cases h3:rF a now=rF b now
 rotate_left
 .refine yaeT h1 h2 h3 ?_;simp[before,h1,h2,h3]
 have last:a.Since=b.Since->¬(rF a now= -1/\a.Booked≠b.Booked)->before a b now=decide ((lG a.yRT)[0]?.getD 0<(lG b.yRT)[0]?.getD 0):=λh5 h6=>by
  unfold before;rw[if_neg (by simp[h1,h2]),if_neg (by simp[h3]),if_neg h6,if_neg (by simp[h5])]
 have snc:a.Since≠b.Since->¬(rF a now= -1/\a.Booked≠b.Booked)->before a b now=decide (a.Since<b.Since):=λh5 h6=>by
  unfold before;rw[if_neg (by simp[h1,h2]),if_neg (by simp[h3]),if_neg h6,if_pos h5]
 have bkd:(rF a now= -1/\a.Booked≠b.Booked)->before a b now=decide (a.Booked<b.Booked):=λh6=>by
  unfold before;rw[if_neg (by simp[h1,h2]),if_neg (by simp[h3]),if_pos h6]
 obtain⟨_,pa⟩:=yli h1;obtain⟨_,pb⟩:=yli h2;obtain⟨x,hx⟩:∃x,(lG a.yRT)[0]?=some x:=⟨_,zab pa⟩;obtain⟨y,hy⟩:∃x,(lG b.yRT)[0]?=some x:=⟨_,zab pb⟩;have gx:=(zaa.1 hx).2;have gy:=(zaa.1 hy).2
 by_cases h6:rF a now= -1/\a.Booked≠b.Booked
 .have h3':rF b now= -1:=by rw[<-h3];exact h6.1
  simp -dsimp -implicitDefEqProofs [h1,h2,h3,h6.1,h6.2,h3'];rw[bkd h6]
 by_cases h5:a.Since=b.Since
 rotate_left
 .by_cases h7:rF a now= -1
  .have h8:a.Booked=b.Booked:=by
    by_cases h:a.Booked=b.Booked
    .exact h
    .exact absurd ⟨h7,h⟩ h6
   have h3':rF b now= -1:=by rw[<-h3];exact h7
   refine yaeV h7 h8 h5 h3' ?_;rw[snc h5 h6]
  .have h3':¬rF b now= -1:=by rw[<-h3];exact h7
   refine yaff h1 h2 h3 h5 h3' ?_;rw[snc h5 h6]
 .have hl:=last h5 h6;rw[hx,hy]at hl;simp only[zbc]at hl
  by_cases h7:rF a now= -1
  .have h8:a.Booked=b.Booked:=by
    by_cases h:a.Booked=b.Booked
    .exact h
    .exact absurd ⟨h7,h⟩ h6
   have h3':rF b now= -1:=by rw[<-h3];exact h7
   refine yaeV h7 h8 h5 h3' ?_;refine gX (ya0 a.yRT ha) (yaeT pa hx gx ?_);refine gX (ya0 b.yRT hb) (yaeT pb hy gy ?_);rw[hl]
  .have h3':¬rF b now= -1:=by rw[<-h3];exact h7
   refine yaff h1 h2 h3 h5 h3' ?_;refine gX (ya0 a.yRT ha) (yaeT pa hx gx ?_);refine gX (ya0 b.yRT hb) (yaeT pb hy gy ?_);rw[hl]
def kC(x:Nat):List C:=[.i x]
def yri(lt:Nat->Nat->Bool)(x:Nat)(P:List Nat):List Nat:=(P.reverse.dropWhile (lt x)).reverse++x::(P.reverse.takeWhile (lt x)).reverse
def yeu(lt:Nat->Nat->Bool)(xs:List Nat):Nat->List Nat
 |0=>[]
 |i+1=>match xs[i]? with
  |some x=>yri lt x (yeu lt xs i)
  |none=>yeu lt xs i
def yip{p:Nat->Bool}:∀{a b:List Nat},(∀x∈a,p x=true)->(∀y l,b=y::l->p y=false)->(a++b).takeWhile p=a/\(a++b).dropWhile p=b
 |[],[],_,_=>⟨rfl,rfl⟩
 |[],y::l,_,h=>by
  have:=h y l rfl;simp[zbw,zcu,this]
 |x::a,b,h1,h2=>by
  have hx:=h1 x (by simp);obtain⟨e1,e2⟩:=yip (p:=p) (a:=a) (b:=b) (λy hy=>h1 y (by simp[hy])) h2;simp[zbw,zcu,hx,e1,e2]
def yyn{lt:Nat->Nat->Bool}{x:Nat}{P l1 l2:List Nat}(e:l1++l2=P)(h2:∀y∈l2,lt x y=true)(h1:∀l y,l1=l++[y]->lt x y=false):yri lt x P=l1++x::l2:=by
 have hr:P.reverse=l2.reverse++l1.reverse:=by rw[<-e,zdp]
 obtain⟨e1,e2⟩:=yip (p:=lt x) (a:=l2.reverse) (b:=l1.reverse) (λy hy=>h2 y (zen.1 hy)) (λy l h=>h1 l.reverse y (by
  have:=congrArg List.reverse h;simpa using this))
 unfold yri;rw[hr,e1,e2,zcI,zcI]
def yEr{lt:Nat->Nat->Bool}{x:Nat}{P:List Nat}:(yri lt x P).Perm (x::P):=by
 have h:(P.reverse.dropWhile (lt x)).reverse++(P.reverse.takeWhile (lt x)).reverse=P:=by
  rw[<-zdp,zcs,zcI]
 unfold yri;refine List.perm_middle.trans ?_;rw[h]
def ydH{lt:Nat->Nat->Bool}{xs:List Nat}{i x:Nat}(h:xs[i]?=some x):yeu lt xs (i+1)=yri lt x (yeu lt xs i):=by
 rw[yeu,h]
def ylr{lt:Nat->Nat->Bool}{xs:List Nat}:∀i:Nat,i<=xs.length->(yeu lt xs i).Perm (xs.take i)
 |0,_=>by simp[yeu]
 |i+1,h=>by
  have ih:=ylr (lt:=lt) (xs:=xs) i (by omega);rw[ydH (zab (show i<xs.length by omega)),zao,zab (show i<xs.length by omega)];refine yEr.trans ((ih.cons _).trans ?_);exact(List.perm_append_singleton _ _).symm
def sorted(lt:Nat->Nat->Bool)(xs:List Nat):List Nat:=yeu lt xs xs.length
def sorted_perm{lt:Nat->Nat->Bool}{xs:List Nat}:(sorted lt xs).Perm xs:=by
 have:=ylr (lt:=lt) (xs:=xs) xs.length (Nat.le_refl _)
 rwa [zby]at this
def gO(lt:Nat->Nat->Bool)(xs:List Nat)(i:Nat):List Nat:=yeu lt xs i++xs.drop i
def gM(xs l1 l2:List Nat)(x i:Nat):List Nat:=(l1++x::l2)++xs.drop (i+1)
def yJ4{lt:Nat->Nat->Bool}{xs:List Nat}(h:1<=xs.length):gO lt xs 1=xs:=by
 obtain⟨x,l,rfl⟩:∃x l,xs=x::l:=by cases xs with|nil=>simp at h|cons x l=>exact⟨x,l,rfl⟩
 simp[gO,yeu,yri]
def yLn{lt:Nat->Nat->Bool}{xs:List Nat}:gO lt xs xs.length=sorted lt xs:=by simp[gO,sorted]
def gO_go{lt:Nat->Nat->Bool}{xs:List Nat}{i x:Nat}(h:xs[i]?=some x):gO lt xs i=gM xs (yeu lt xs i) [] x i:=by
 have hlt:=(zaa.1 h).1;have hx:=(zaa.1 h).2;unfold gO gM;rw[zaF hlt,hx];simp
def yGs{lt:Nat->Nat->Bool}{xs:List Nat}{i x:Nat}{l1 l2:List Nat}(hx:xs[i]?=some x)(h:yri lt x (yeu lt xs i)=l1++x::l2):gM xs l1 l2 x i=gO lt xs (i+1):=by
 unfold gO gM;rw[ydH hx,h]
def yMp{xs:List Nat}{i x:Nat}{l1 l2:List Nat}(h:l1.length+l2.length=i)(h2:i<xs.length):(gM xs l1 l2 x i).length=xs.length:=by simp[gM];omega
def yKv{xs:List Nat}{i x y:Nat}{l l2:List Nat}:(gM xs (l++[y]) l2 x i)[l.length+1]?=some x/\(gM xs (l++[y]) l2 x i)[l.length]?=some y/\
 ((gM xs (l++[y]) l2 x i).set (l.length+1) y).set l.length x=gM xs l (y::l2) x i:=by
 unfold gM;simp only[zbh,zcw,zcD];refine⟨by simp[zcr],by simp[zcr],?_⟩;simp[zcR]
def fE(cmp:Nat->Nat->Int)(x y:Nat):Bool:=decide (cmp x y<0)
def yDZ(o:List Nat):(cw 1 (o.map kC)).closed:=by
 cases o with
 |nil=>simp[cw,C.closed]
 |cons x l=>simp[cw,C.closed,kC]
def yCP(f:Nat)(a b:List C):InF prg 377 (.c (.sl 1 [])) (.c (.sl 1 [])) [.c (.i 0),.c (.i 0),.fn f [.elt a,.elt b]] (.tup []):=by
 refine aK dM (by simp) (by simp) rfl λhwf=>?_;refine goQ_ ?_;refine⟨by unfold inI;omega,?_⟩;refine qA (ι:=Unit) (λ_=>True) (λ_=>xC [(2,.c (.i 0)),(8,.c (.i 1)),(1000000,.c (.sl 1 []))] []) (λ_=>0) () trivial (by apply aB<;>simp) ?_
 rintro _ _
 refine goQ_ ?_;simp[ybG]
def yEk(f:Nat)(a b:List C):InF prg 350 (.c (.sl 1 [])) (.c (.sl 1 [])) [.c (.i 0),.fn f [.elt a,.elt b]] (.tup []):=by
 refine aK nS (by simp) (by simp) rfl λhwf=>?_;refine goQ_ ?_;refine qA (ι:=Unit) (λ_=>True) (λ_=>xC [(0,.c (.sl 1 [])),(1,.c (.i 0)),(2,.fn f [.elt a,.elt b]),(6,.c (.i 20)),(7,.c (.i 0)),(8,.c (.i 20)),(1000000,.c (.sl 1 []))] []) (λ_=>0) () trivial (by apply aB<;>simp) ?_
 rintro _ _
 refine goQ_ ?_;refine tH (up:=none) (yCP f a b) (by simp) rfl rfl (sS rfl) (goQ_ ?_);refine qA (ι:=Unit) (λ_=>True) (λ_=>xC [(1,.c (.i 0)),(6,.c (.i 20)),(1000000,.c (.sl 1 []))] []) (λ_=>0) () trivial (by apply aB<;>simp) ?_
 rintro _ _
 refine goQ_ ?_;simp[ybG]
def yv1(f:Nat)(a b:List C):InF prg 257 (.c (.sl 1 [])) (.c (.sl 1 [])) [.fn f [.elt a,.elt b]] (.tup []):=by
 refine aK iM (by simp) (by simp) rfl λhwf=>?_;refine goQ_ ?_;refine tH (up:=none) (yEk f a b) (by simp) rfl rfl (sS rfl) (goQ_ ?_);simp[ybG]
def yrt(list:List yR4)(now:Int)(x y:Nat):Int:=
 match list[x]?,list[y]? with
 |some a,some b=>if before a b now then -1 else if before b a now then 1 else 0
 |_,_=>0
def yBw(list:List yR4)(now:Int)(hs:oM list)(x y:Nat)(hx:x<list.length)(hy:y<list.length):
 qB prg 357 [.c (.i x),.c (.i y),.elt [.sl 4 (list.map yR4.enc)],.elt [.i now]] (.c (.i (yrt list now x y))):=by
 obtain⟨a,ha⟩:∃e,list[x]?=some e:=⟨_,zab hx⟩;obtain⟨b,hb⟩:∃e,list[y]?=some e:=⟨_,zab hy⟩;have g1:=(zaa.1 ha).2;have g2:=(zaa.1 hb).2;have sa:=hs.2 a (zac ha);have sb:=hs.2 b (zac hb);have e:yrt list now x y=if before a b now then -1 else if before b a now then 1 else 0:=by simp[yrt,ha,hb]
 rw[e];refine dB ylH ?_;simp -dsimp -implicitDefEqProofs [ydi,ha,hb,g1,g2,hx,hy];refine lC (ygG a b now sa sb) ?_;cases h1:before a b now with
 |true=>simp -dsimp -implicitDefEqProofs
 |false=>
 refine yafq ha hb g1 g2 hx hy ?_;refine lC (ygG b a now sb sa) ?_;cases h2:before b a now with
 |true=>simp -dsimp -implicitDefEqProofs
 |false=>simp -dsimp -implicitDefEqProofs
def oU(list:List yR4)(now:Int)(k:Nat):List Nat:=(List.range k).filter λi=>decide (rF (list[i]?.getD default) now≠3)
def yqT{list:List yR4}{now:Int}{k:Nat}{c:yR4}(h:list[k]?=some c):oU list now (k+1)=if rF c now=3 then oU list now k else oU list now k++[k]:=by
 unfold oU;rw[zdq,zcz]
 by_cases h2:rF c now=3<;>simp[h,h2]
def yxB{list:List yR4}{now:Int}{k x:Nat}(h:x∈oU list now k):x<k:=by
 unfold oU at h;exact zaN.1 (zbE.1 h).1
def ync{list:List yR4}{now:Int}{k:Nat}:(oU list now k).length<=k:=by
 unfold oU;exact zba (zbX _ _) (by simp)
def kS(list:List yR4)(now:Int):List Nat:=sorted (fE (yrt list now)) (oU list now list.length)
def yfv(t:yRT):Int:=t.qE.length
def yrA(t:yRT)(hs:t.small):qB prg 360 [.agg (t.enc.map .c)] (.c (.i (yfv t))):=by
 refine dB ynO ?_;have hR:t.Rows.flatten=t.qE:=rfl;refine goQ_ ?_;intro hlen;refine yX2 (λk=>k<=t.Rows.length) (λk=>xC [(1,.box 1 0),(3,.c (.i (heads t.Rows k).length)),(7,.c (.sl 1 (t.Rows.map jE))),(8,.c (.i t.Rows.length)),(9,.c (.i k))] [(1,.box (t.enc.map .c))]) (λk=>t.Rows.length-k) (by apply aB<;>simp[yaE]) ?_
 rintro k hk
 rcases yX1 k t.Rows with⟨hlt,r,hr⟩|hge
 .have g1:=(zaa.1 hr).2;have hsu:=ydL hr;have hb:=ycH hs (k+1);have hl2:(heads t.Rows (k+1)).length=(heads t.Rows k).length+r.length:=by rw[hsu,zah]
  refine yaeV hr g1 hlt (fC hlt) ?_;intro hm;refine⟨by unfold inI;omega,gB hlt hlen,k+1,hlt,by omega,?_⟩;apply aB<;>simp[hl2]
 .have:=ydD hge;simp -dsimp -implicitDefEqProofs [aG hge,this];simp[yfv,yRT.qE,List.length_flatten]
def ytJ(c:Int)(n i:Nat):Bool:=decide (yG1 (yzh c ((n:Int)-1-i)) 1=1)
def xF(c:Int)(n k:Nat):List Nat:=(List.range k).filter λi=>ytJ c n i
def yq3{c:Int}{n k:Nat}:xF c n (k+1)=if ytJ c n k then xF c n k++[k]else xF c n k:=by
 unfold xF;rw[zdq,zcz];cases h:ytJ c n k<;>simp[h]
def yb5{c:Int}{n k x:Nat}(h:x∈xF c n k):x<k:=zaN.1 (zbE.1 h).1
def ym9{c:Int}{n k:Nat}:(xF c n k).length<=k:=zba (zbX _ _) (by simp)
def qAt(q:List yRT)(l:List Nat):List yRT:=l.map λi=>q.getD i ⟨false,[]⟩
def yai(q:List yRT)(l:List Nat):Int:=((qAt q l).map yfv).sum
def ygs{q:List yRT}{l:List Nat}{k:Nat}{t:yRT}(h:q[k]?=some t):qAt q (l++[k])=qAt q l++[t]:=by
 simp[qAt,zai,h]
def yzt{q:List yRT}{l:List Nat}{k:Nat}{t:yRT}(h:q[k]?=some t):yai q (l++[k])=yai q l+yfv t:=by
 unfold yai;rw[ygs h];simp
def yg0{q:List yRT}{p:yRT->Prop}{l:List Nat}(hq:∀t∈q,p t)(hl:∀x∈l,x<q.length):∀t∈qAt q l,p t:=by
 intro t ht;obtain⟨x,hx,rfl⟩:=zaP.1 ht;have:=hl x hx;rw[zai,zab this];exact hq _ (zbo _)
def yFD(es:List yRT)(hl:es.length<=1048576):nI prg 359 [.c (.sl 2 (es.map yRT.enc))] (.c (.ow 2 (es.map yRT.enc))):=by
 refine fF rZ ?_;simp -dsimp -implicitDefEqProofs [kP,jA];omega
def ypM{t:yRT}(hs:t.small):0<=yfv t/\yfv t<=1099511627776:=by
 have:=ycH hs t.Rows.length;rw[ydD (Nat.le_refl _)]at this;have e:(t.qE.length)=(t.Rows.flatten).length:=rfl;unfold yfv;omega
def ylm{q:List yRT}(hq:∀t∈q,t.small):∀l:List Nat,(∀x∈l,x<q.length)->0<=yai q l/\yai q l<=1099511627776*l.length
 |[],_=>by simp[yai,qAt]
 | a::l,h=>by
  have ih:=ylm hq l λx hx=>h x (by simp[hx]);have h1:=h a (by simp);have h2:=ypM (hq _ (zbo h1))
  have e:yai q (a::l)=yfv q[a]+yai q l:=by
   simp[yai,qAt,zai,zab h1]
  rw[e,zar]
  push_cast
  omega
def ygf(l:yR0)(q:List yRT)(n:Nat)(s:Int×List Nat)(c:Int):Int×List Nat:=
 if s.1<yai q (xF c n n)/\oO l.Length l.Width (l.yRY++qAt q (xF c n n))=true then(yai q (xF c n n),xF c n n)else s
def aS(l:yR0)(q:List yRT)(n:Nat)(top:Nat):Nat->Int×List Nat
 |0=>(0,[])
 |k+1=>ygf l q n (aS l q n top k) ((top-k:Nat):Int)
def yau(q:List yRT):Nat:=min q.length 8
def yrO(n:Nat):Nat:=2^n-1
def yC9{n:Nat}(h:n<=8):yy4 1 (n:Int)=((yrO n:Nat):Int)+1/\yrO n<=255:=by
 have:n=0\/n=1\/n=2\/n=3\/n=4\/n=5\/n=6\/n=7\/n=8:=by omega
 rcases this with rfl|rfl|rfl|rfl|rfl|rfl|rfl|rfl|rfl<;>decide
def sQ(l:yR0)(q:List yRT):List Nat:=if lF l then(aS l q (yau q) (yrO (yau q)) (yrO (yau q))).2 else[]
def ykZ{l:yR0}{q:List yRT}{n top:Nat}(hq:∀t∈q,t.small)(hn:n<=q.length)(hn8:n<=8):∀k:Nat,(0<=(aS l q n top k).1/\(aS l q n top k).1<=10000000000000)/\(∀x∈(aS l q n top k).2,x<n)/\(aS l q n top k).2.length<=8
 |0=>by simp[aS]
 | k+1=>by
  have ih:=ykZ (l:=l) (top:=top) hq hn hn8 k;unfold aS ygf;split
  .have h1:∀x∈xF ((top-k:Nat):Int) n n,x<n:=λx hx=>yb5 hx;have h2:=ylm hq _ λx hx=>zds (h1 x hx) hn;have h3:(xF ((top-k:Nat):Int) n n).length<=n:=ym9;exact⟨⟨by simp only;omega,by simp only;omega⟩,h1,by simp only;omega⟩
  .exact ih
set_option maxRecDepth 20000 in
def ysZ(l:yR0)(q:List yRT)(hl:l.small)(hq:∀t∈q,t.small)(hql:q.length<=1000):nI prg 289 [.agg (l.enc.map .c),.c (.sl 2 (q.map yRT.enc))] (.c (.ow 1 ((sQ l q).map kC))):=by
 refine fF ypd (goQ_ ?_);refine aA (pX l hl) ?_;cases h1:lF l with
 |false=>simp -dsimp -implicitDefEqProofs;simp[sQ,h1]
 |true=>
 have h8:l.yRY.length<=8:=by
  have h1':=h1;simp only[lF,zad]at h1';rcases zas 8 l.yRY.length with e|e
  .have:=yg8 e;rw[this]at h1';simp at h1'
  .exact e
 have hb:sQ l q=(aS l q (yau q) (yrO (yau q)) (yrO (yau q))).2:=by simp only[sQ,h1,if_true]
 rw[hb];obtain⟨n,hn⟩:∃n,yau q=n:=⟨_,rfl⟩;have hnl:n<=q.length/\n<=8:=by rw[<-hn];unfold yau;omega
 obtain⟨ht,ht2⟩:=yC9 hnl.2;rw[hn];have hmn:(if(8:Int)<(q.length:Int)then(8:Int)else(q.length:Int))=(n:Int):=by rw[<-hn];unfold yau;split<;>omega
 obtain⟨top,htop⟩:∃top,yrO n=top:=⟨_,rfl⟩;rw[htop]at ht ht2;rw[htop];have hi0:yy4 1 (n:Int)-1=((top:Nat):Int):=by omega
 refine yaed hmn hi0 ?_
 refineλhlen=>⟨by unfold inI;omega,?_⟩
 refine jX (k0:=1) 6 1 (by simp) (by simp) (by decide) ?_;refine yX2 (λk=>k<=top) (λk=>xC [(1,.c (.sl 2 (q.map yRT.enc))),(2,.box 2 0),(5,.c (.i n)),(6,.own 6 1 (aS l q n top k).2.length),(7,.c (.i (aS l q n top k).1)),(8,.c (.i ((top-k:Nat):Int)))] [(2,.box (l.enc.map .c)),(6,.row 1 ((aS l q n top k).2.map kC))]) (λk=>top-k) (by apply aB<;>simp[aS]) ?_
 rintro k hk
 obtain⟨hB1,hB2,hB3⟩:=ykZ (l:=l) (top:=top) hq hnl.1 hnl.2 k;have hsuc:aS l q n top (k+1)=ygf l q n (aS l q n top k) ((top-k:Nat):Int):=rfl;obtain⟨B,hBe⟩:∃B,aS l q n top k=B:=⟨_,rfl⟩;rw[hBe]at hB1 hB2 hB3 hsuc|-;obtain⟨c,hc⟩:∃c,top-k=c:=⟨_,rfl⟩;rw[hc]at hsuc|-;rcases zas k top with klt|kge
 .have c0:((0:Int)<(c:Int))=True:=eq_true (by omega);have c0':(0<c)=True:=eq_true (by omega);refine yaed c0 c0' ?_;refine yX5 (yFD l.yRY hl.1) (goT_ ?_);refine jX (k0:=1) 10 1 (by simp) (by simp) (by decide) ?_;refine yX2 (λi=>i<=n) (λi=>xC [(1,.c (.sl 2 (q.map yRT.enc))),(2,.box 2 0),(5,.c (.i n)),(6,.own 6 1 B.2.length),(7,.c (.i B.1)),(8,.c (.i c)),(9,.own 28 2 (l.yRY.length+(xF c n i).length)),(10,.own 10 1 (xF c n i).length),(11,.c (.i (yai q (xF c n i)))),(12,.c (.i i))] [(2,.box (l.enc.map .c)),(6,.row 1 (B.2.map kC)),(28,.row 2 ((l.yRY++qAt q (xF c n i)).map yRT.enc)),(10,.row 1 ((xF c n i).map kC))]) (λi=>n-i) (by apply aB<;>simp[xF,qAt,yai]) ?_
  rintro i hi
  have hpl:(xF c n i).length<=i:=ym9;have hps:=yq3 (c:=c) (n:=n) (k:=i);have hql2:(qAt q (xF c n i)).length=(xF c n i).length:=by simp[qAt]
  rcases zas i n with ilt|ige
  .obtain⟨t,htq⟩:∃t,q[i]?=some t:=⟨_,zab (by omega)⟩;have gt:=(zaa.1 htq).2;have iq:i<q.length:=by omega
   have sm:=hq t (zac htq);have i0:((i:Int)<(n:Int))=True:=eq_true (by omega);have bt:=ypM sm;have bq:=ylm hq (xF c n i) λx hx=>by have:=yb5 hx;omega
   have nneg:(0:Int)<=(n:Int)-1-i:=by omega
   refine yaff i0 ilt htq gt iq ?_;refine⟨by unfold inI;omega,by unfold inI;omega,by omega,λhbt=>?_,λhbt=>?_⟩
   .rw[if_pos (show ytJ (c:Int) n i=true from decide_eq_true hbt)]at hps;have e1:=yzt (l:=xF c n i) htq;have e2:=ygs (l:=xF c n i) htq;rw[<-hps]at e1 e2;have e3:(xF c n (i+1)).length=(xF c n i).length+1:=by rw[hps,zah,zbN]
    refine⟨by omega,by omega,by omega,?_⟩;refine yYq (yrA t sm) (goQ_ ?_);refine⟨by unfold inI;omega,by unfold inI;omega,i+1,ilt,by omega,?_⟩;have hpm:(xF c n (i+1)).map kC=(xF c n i).map kC++[[C.i i]]:=by rw[hps];simp[kC]
    have hln:l.yRY.length+(qAt q (xF c n i)).length+1=l.yRY.length+((xF c n i).length+1):=by omega
    apply aB<;>simp[e1,e2,e3,hpm,hln]
   .rw[if_neg (show¬ytJ (c:Int) n i=true fromλh=>hbt (of_decide_eq_true h))]at hps;refine⟨by unfold inI;omega,i+1,ilt,by omega,?_⟩;apply aB<;>simp[hps]
  .obtain rfl:i=n:=by omega
   refine goQ_ ?_;have hsmq:=yg0 hq (l:=xF c i i) λx hx=>by have:=yb5 hx;omega
   have hF:=yP (l.yRY++qAt q (xF c i i)) l ⟨by rw[zah];omega,λy hy=>by
    rcases zaj.1 hy with e|e
    .exact hl.2 y e
    .exact hsmq y e⟩
   rw[zaD]at hF;have hpb:=ylm hq (xF c i i) λx hx=>by have:=yb5 hx;omega
   unfold ygf at hsuc;have ek:((top-(k+1):Nat):Int)=(c:Int)-1:=by omega
   have htk:List.take (l.yRY.length+(xF c i i).length) (l.yRY.map yRT.enc++(qAt q (xF c i i)).map yRT.enc)=l.yRY.map yRT.enc++(qAt q (xF c i i)).map yRT.enc:=zae (by simp[hql2]);refine⟨λhm=>?_,λhm=>?_⟩
   .have hm':=hm;refine mD (hF) (by simp -dsimp -implicitDefEqProofs [jA,htk]) rfl ?_;cases hf:oO l.Length l.Width (l.yRY++qAt q (xF c i i))with
    |true=>
     rw[if_pos ⟨hm,hf⟩]at hsuc;refine goQ_ ?_;refine⟨by unfold inI;omega,k+1,klt,by omega,?_⟩;refine yyv 6 10 ?_;apply aB<;>simp[hsuc,ek,AV.ren,AV.yzO,AV.ytG,Obj.ren,yas]
    |false=>
     rw[if_neg (by rw[hf];simp)]at hsuc;refine goQ_ ?_;refine⟨by unfold inI;omega,k+1,klt,by omega,?_⟩;apply aB<;>simp[hsuc,ek]
   .rw[if_neg (λh=>by omega)]at hsuc;refine⟨by unfold inI;omega,k+1,klt,by omega,?_⟩;apply aB<;>simp[hsuc,ek]
 .obtain rfl:k=top:=by omega
  have c0:c=0:=by omega
  subst c0;refine yafw hBe ?_;exact(zae (by simp)).symm
def yET(es:List (List yR6))(hl:es.length<=1048576):nI prg 158 [.c (.sl 1 (es.map nD))] (.c (.ot 1 (es.map nD))):=by
 refine fF lX ?_;simp -dsimp -implicitDefEqProofs [aN,jA];omega
def yIe(es:List yR6):qB prg 159 [.c (.sl 3 (es.map yR6.enc))] (.clip 3 (es.map yR6.enc)):=by
 refine dB yu ?_;simp -dsimp -implicitDefEqProofs [bQ,jA]
def oG(x:yRW)(k:Nat)(m:yR6):yRW:={x with yR3:=x.yR3.set k (x.yR3.getD k []++[m])}
def ykB(x:yRW)(k:Nat)(m:yR6):List C:=[.i x.Time,.sl 3 (x.yRV.map Reach.enc),.sl 2 (x.ySl.map Way.enc),.sl 22 (x.yRX.map yR8.enc),.ot 1 ((x.yR3.map nD).set k [.ow 3 ((x.yR3.getD k []++[m]).map yR6.enc)]),.sl 2 (x.yR9.map yRT.enc),.sl 1 (x.ySd.map qC),.i x.yRZ.Base,.i x.yRZ.ySe,.sl 1 (x.yRZ.yR5.map qC),.sl 1 (x.yRZ.yR7.map qC),.sl 5 (x.Book.map ySb.enc),.sl 4 (x.yR1.map yR2.enc),.i x.Start,.i x.In,.i x.Out]
def yAh(x:yRW)(k:Nat)(l:List yR6)(m:yR6)(hs:x.yR3.length<=1048576)(hk:x.yR3[k]?=some l)(hll:l.length<=1048576):
 nI prg 58 [.agg (x.enc.map .c),.c (.i k),.agg (m.enc.map .c)] (.agg ((ykB x k m).map .c)):=by
 have kl:=(zaa.1 hk).1;have gl:=(zaa.1 hk).2;refine fF ypS (goQ_ ?_);refine yX5 (yET x.yR3 hs) (goT_4 hk gl kl (fC kl) ?_);refine bI (yIe l) ?_;simp -dsimp -implicitDefEqProofs [jA,hk,gl,kl,fC kl,ykB];refine⟨by omega,?_⟩;have e1:∀y:List C,List.take (l.length+1) (List.map yR6.enc l++[y])=List.map yR6.enc l++[y]:=λy=>zae (by simp);have e2:∀y:List C,List.take x.yR3.length ((List.map nD x.yR3).set k y)=(List.map nD x.yR3).set k y:=λy=>zae (by simp);simp[setAt,hk,gl,kl,nD,e1,e2]
def ysh(xs:List (List yR6)):yaq (xs.map nD)=some (xs.map nD):=by
 induction xs with
 |nil=>rfl
 |cons a xs ih=>rw[zaC];simp only[yaq,ih];rfl
def yBn{rows rs:List (List C)}{r s:List C}(h:yaq rows=some rs)(hr:dO r=some s)(k:Nat):yaq (rows.set k r)=some (rs.set k s):=by
 induction rows generalizing rs k with
 |nil=>simp only[yaq,Option.some.injEq]at h;subst h;rfl
 | cons a l ih=>
  simp only[yaq]at h;cases ha:dO a with
  |none=>rw[ha]at h;cases h
  | some x=>
   cases hl:yaq l with
   |none=>rw[ha,hl]at h;cases h
   |some y=>
    rw[ha,hl]at h;simp only[Option.some.injEq]at h;subst h;cases k with
    |zero=>simp only[zbC,yaq,hr,hl]
    |succ k=>simp only[zch,yaq,ha,ih hl k]
def yv5(x:yRW)(k:Nat)(m:yR6):yaq ((x.yR3.map nD).set k [.ow 3 ((x.yR3.getD k []++[m]).map yR6.enc)])=some ((oG x k m).yR3.map nD):=by
 rw[yBn (ysh x.yR3) (s:=nD (x.yR3.getD k []++[m])) rfl k];simp[oG,zaZ]
structure SWO(lt:Nat->Nat->Bool)(S:Nat->Prop):Prop where
 asym:∀x y,S x->S y->lt x y=true->lt y x=false
 trans:∀x y z,S x->S y->S z->lt x y=true->lt y z=true->lt x z=true
 neg:∀x y z,S x->S y->S z->lt x y=false->lt y z=false->lt x z=false
def tot(lt:Nat->Nat->Bool)(x y:Nat):Prop:=lt x y=true\/(lt y x=false/\x<y)
section
variable {lt:Nat->Nat->Bool} {S:Nat->Prop}
def yk1(h:SWO lt S){x y z:Nat}(hx:S x)(hy:S y)(hz:S z)(h1:tot lt x y)(h2:tot lt y z):tot lt x z:=by
 rcases h1 with h1|⟨h1,h1'⟩<;>rcases h2 with h2|⟨h2,h2'⟩
 .exact .inl (h.trans x y z hx hy hz h1 h2)
 .left
  cases h3:lt x z with
  |true=>rfl
  |false=>rw[h.neg x z y hx hz hy h3 h2]at h1;cases h1
 .left
  cases h3:lt x z with
  |true=>rfl
  |false=>rw[h.neg y x z hy hx hz h1 h3]at h2;cases h2
 .exact .inr ⟨h.neg z y x hz hy hx h2 h1,by omega⟩
def yAa(h:SWO lt S){x y:Nat}(hx:S x)(hy:S y)(h1:tot lt x y)(h2:tot lt y x):False:=by
 rcases h1 with h1|⟨h1,h1'⟩<;>rcases h2 with h2|⟨h2,h2'⟩
 .rw[h.asym x y hx hy h1]at h2;cases h2
 .rw[h1]at h2;cases h2
 .rw[h1]at h2;cases h2
 .omega
def yE1{x y:Nat}(h:x≠y):tot lt x y\/tot lt y x:=by
 cases h1:lt x y with
 |true=>exact .inl (.inl h1)
 | false=>
  cases h2:lt y x with
  |true=>exact .inr (.inl h2)
  |false=>
   rcases zbY h with h|h
   .exact .inl (.inr ⟨h2,h⟩)
   .exact .inr (.inr ⟨h1,h⟩)
def cZ(h:SWO lt S):∀{a b:List Nat},(∀x∈a,S x)->a.Perm b->a.Pairwise (tot lt)->b.Pairwise (tot lt)->a=b
 |[],b,_,hp,_,_=>(List.nil_perm.1 hp).symm
 |x::a,[],_,hp,_,_=>by simp at hp
 | x ::a,y::b,hS,hp,ha,hb=>by
  rw[zbq]at ha hb
  have e:x=y:=by
   rcases Decidable.em (x=y)with e|e
   .exact e
   .have h1:x∈b:=by
     have:x∈y::b:=hp.mem_iff.1 (by simp);rcases zax.1 this with h1|h1
     .exact absurd h1 e
     .exact h1
    have h2:y∈a:=by
     have:y∈x::a:=hp.mem_iff.2 (by simp);rcases zax.1 this with h2|h2
     .exact absurd h2.symm e
     .exact h2
    exact(yAa h (hS x (by simp)) (hS y (by simp[h2])) (ha.1 y h2) (hb.1 x h1)).elim
  subst e;rw[cZ h (λz hz=>hS z (by simp[hz])) hp.cons_inv ha.2 hb.2]
def ymx(h:SWO lt S){x:Nat}(hx:S x):∀{a:List Nat},(∀y∈a,S y)->x∉a->a.Pairwise (tot lt)->∃b:List Nat,b.Perm (x::a)/\b.Pairwise (tot lt)
 |[],_,_,_=>⟨[x],.refl _,by simp⟩
 | y::a,hS,hn,ha=>by
  have hxy:x≠y:=λe=>hn (by simp[e]);rw[zbq]at ha;rcases yE1 (lt:=lt) hxy with h1|h1
  .refine⟨x::y::a,.refl _,?_⟩;rw[zbq,zbq];refine⟨λz hz=>?_,ha⟩;rcases zax.1 hz with rfl|hz
   .exact h1
   .exact yk1 h hx (hS y (by simp)) (hS z (by simp[hz])) h1 (ha.1 z hz)
  .obtain⟨b,hb1,hb2⟩:=ymx h hx (a:=a) (λz hz=>hS z (by simp[hz])) (λe=>hn (by simp[e])) ha.2;refine⟨y::b,(hb1.cons y).trans (.swap _ _ _),?_⟩;rw[zbq];refine⟨λz hz=>?_,hb2⟩;rcases zax.1 (hb1.mem_iff.1 hz)with rfl|hz
   .exact h1
   .exact ha.1 z hz
def yma(h:SWO lt S):∀{a:List Nat},(∀y∈a,S y)->a.Nodup->∃b:List Nat,b.Perm a/\b.Pairwise (tot lt)
 |[],_,_=>⟨[],.refl _,by simp⟩
 |x::a,hS,hn=>by
  rw[zcC]at hn;obtain⟨b,h1,h2⟩:=yma h (a:=a) (λy hy=>hS y (by simp[hy])) hn.2;obtain⟨c,h3,h4⟩:=ymx h (hS x (by simp)) (a:=b) (λy hy=>hS y (by simp[h1.mem_iff.1 hy])) (λe=>hn.1 (h1.mem_iff.1 e)) h2;exact⟨c,h3.trans (h1.cons x),h4⟩
def ypF(h:SWO lt S):∀{a:List Nat},(∀y∈a,S y)->a.Pairwise (tot lt)->a.Nodup
 |[],_,_=>by simp
 |x::a,hS,ha=>by
  rw[zbq]at ha;rw[zcC];refine⟨λe=>?_,ypF h (λy hy=>hS y (by simp[hy])) ha.2⟩;have:=ha.1 x e;exact yAa h (hS x (by simp)) (hS x (by simp)) this this
def yHo(h:SWO lt S){x:Nat}{P:List Nat}(hx:S x)(hP:∀y∈P,S y)(hlt:∀y∈P,y<x)(hs:P.Pairwise (tot lt)):(yri lt x P).Pairwise (tot lt):=by
 have e:(P.reverse.dropWhile (lt x)).reverse++(P.reverse.takeWhile (lt x)).reverse=P:=by
  rw[<-zdp,zcs,zcI]
 have h2:∀y∈(P.reverse.takeWhile (lt x)).reverse,lt x y=true:=λy hy=>zaf.1 zec y (zen.1 hy)
 have h1:∀l y,(P.reverse.dropWhile (lt x)).reverse=l++[y]->lt x y=false:=by
  intro l y he
  have he2:P.reverse.dropWhile (lt x)=y::l.reverse:=by
   have:=congrArg List.reverse he;simpa using this
  have:=List.head?_dropWhile_not (lt x) P.reverse;rw[he2]at this;simpa using this
 unfold yri;generalize(P.reverse.dropWhile (lt x)).reverse=l1 at *;generalize(P.reverse.takeWhile (lt x)).reverse=l2 at *;subst e;rw[zaS]at hs|-;obtain⟨s1,s2,s3⟩:=hs;refine⟨s1,?_,λa ha b hb=>?_⟩
 .rw[zbq];exact⟨λy hy=>.inl (h2 y hy),s2⟩
 .rcases zax.1 hb with rfl|hb
  .rcases zcl l1 with e|⟨l,z,e⟩
   .subst e;cases ha
   .rw[zcm]at e;have hz:=h1 l z e;subst e;have hzx:tot lt z b:=.inr ⟨hz,hlt z (by simp)⟩;rcases zaj.1 ha with ha'|ha'
    .rw[zaS]at s1;exact yk1 h (hP a (by simp[ha'])) (hP z (by simp)) hx (s1.2.2 a ha' z (by simp)) hzx
    .rw[zak]at ha';subst ha';exact hzx
  .exact s3 a ha b hb
def yz8(h:SWO lt S){xs:List Nat}(hS:∀y∈xs,S y)(hup:xs.Pairwise (·<·)):∀i:Nat,i<=xs.length->(yeu lt xs i).Pairwise (tot lt)
 |0,_=>by simp[yeu]
 |i+1,hi=>by
  have hx:xs[i]?=some (xs[i]'(by omega)):=zab (by omega);have hp:=ylr (lt:=lt) (xs:=xs) i (by omega);rw[ydH hx];refine yHo h (hS _ (zbo _)) (λy hy=>hS y (zaw (hp.mem_iff.1 hy))) (λy hy=>?_) (yz8 h hS hup i (by omega));obtain⟨j,hj,rfl⟩:=zcq.1 (hp.mem_iff.1 hy);rw[zaA]at hj;rw[zef];exact zcp.1 hup j i _ _ (by omega)
def yna(h:SWO lt S){xs:List Nat}(hS:∀y∈xs,S y)(hup:xs.Pairwise (·<·)):(sorted lt xs).Pairwise (tot lt):=yz8 h hS hup _ (Nat.le_refl _)
end
section
variable {lt:Nat->Nat->Bool} {S:Nat->Prop} {l r:List Nat}
def ysO(h:SWO lt S){x u:Nat}{i:Nat}(sl:l.Pairwise (tot lt))(hx:x∈l.take i)(hu:l[i-1]?=some u):x=u\/tot lt x u:=by
 obtain⟨k,hk,rfl⟩:=zcq.1 hx;rw[zaA]at hk;rw[zef];obtain⟨hi,rfl⟩:=zaa.1 hu;rcases zas k (i-1)with h1|h1
 .exact .inr (zcp.1 sl k (i-1) _ _ h1)
 .have:k=i-1:=by omega
  subst this;exact .inl rfl
def yp7(h:SWO lt S){y v:Nat}{j:Nat}(sr:r.Pairwise (tot lt))(hy:y∈r.drop j)(hv:r[j]?=some v):y=v\/tot lt v y:=by
 obtain⟨k,hk,rfl⟩:=zcq.1 hy;rw[zaR]at hk;rw[List.getElem_drop];obtain⟨hj,rfl⟩:=zaa.1 hv;rcases zaB k with h1|h1
 .subst h1;exact .inl rfl
 .exact .inr (zcp.1 sr j (j+k) _ _ (by omega))
def yxs(h:SWO lt S)(hl:∀x∈l,S x)(hr:∀x∈r,S x)(sl:l.Pairwise (tot lt))(sr:r.Pairwise (tot lt)){i j:Nat}
 (hA:i=0\/r.length<=j\/∃u v,l[i-1]?=some u/\r[j]?=some v/\tot lt u v) {x y:Nat} (hx:x∈l.take i) (hy:y∈r.drop j):tot lt x y:=by
 rcases hA with e|e|⟨u,v,hu,hv,huv⟩
 .subst e;simp at hx
 .rw[zbJ e]at hy;cases hy
 .have su:=hl u (zac hu);have sv:=hr v (zac hv);have sx:=hl x (zaw hx);have sy:=hr y (zaO hy)
  have h1:tot lt x v:=by
   rcases ysO h sl hx hu with e|e
   .rw[e];exact huv
   .exact yk1 h sx su sv e huv
  rcases yp7 h sr hy hv with e|e
  .rw[e];exact h1
  .exact yk1 h sx sv sy h1 e
def yGQ(h:SWO lt S)(hl:∀x∈l,S x)(hr:∀x∈r,S x)(sl:l.Pairwise (tot lt))(sr:r.Pairwise (tot lt)){i j:Nat}
 (hA:i=0\/r.length<=j\/∃u v,l[i-1]?=some u/\r[j]?=some v/\tot lt u v)
 (hB:j=0\/l.length<=i\/∃u v,r[j-1]?=some u/\l[i]?=some v/\tot lt u v):∀x∈l.take i++r.take j,∀y∈l.drop i++r.drop j,tot lt x y:=by
 have pw:∀{a:List Nat} {k:Nat},a.Pairwise (tot lt)->∀x∈a.take k,∀y∈a.drop k,tot lt x y:=by
  intro a k ha x hx y hy;rw[<-zav k a,zaS]at ha;exact ha.2.2 x hx y hy
 intro x hx y hy;rcases zaj.1 hx with hx|hx<;>rcases zaj.1 hy with hy|hy
 .exact pw sl x hx y hy
 .exact yxs h hl hr sl sr hA hx hy
 .exact yxs h hr hl sr sl hB hx hy
 .exact pw sr x hx y hy
def halves(h:SWO lt S)(hl:∀x∈l,S x)(hr:∀x∈r,S x){i j:Nat}{o o1 o2:List Nat}(ho:o.Perm (l++r))(so:o.Pairwise (tot lt))
 (h1:o1.Perm (l.take i++r.take j)) (s1:o1.Pairwise (tot lt)) (h2:o2.Perm (l.drop i++r.drop j)) (s2:o2.Pairwise (tot lt))
 (hc:∀x∈l.take i++r.take j,∀y∈l.drop i++r.drop j,tot lt x y):o=o1++o2:=by
 have hp:(o1++o2).Perm (l++r):=by
  refine(h1.append h2).trans ?_
  have e:(l.take i++r.take j++(l.drop i++r.drop j)).Perm (l.take i++l.drop i++(r.take j++r.drop j)):=by
   rw[zbh,zbh];refine .append_left _ ?_;rw[<-zbh,<-zbh];exact .append_right _ zdM
  rw[zav,zav]at e;exact e
 refine cZ h (λx hx=>?_) (ho.trans hp.symm) so ?_
 .rcases zaj.1 (ho.mem_iff.1 hx)with hx|hx
  .exact hl x hx
  .exact hr x hx
 .rw[zaS];exact⟨s1,s2,λx hx y hy=>hc x (h1.mem_iff.1 hx) y (h2.mem_iff.1 hy)⟩
def yCn{x y:Nat}(h:x<y)(h1:lt y x=false):tot lt x y:=by
 cases h2:lt x y with
 |true=>exact .inl h2
 |false=>exact .inr ⟨h1,h⟩
def yAY(h:SWO lt S)(hl:∀x∈l,S x)(hr:∀x∈r,S x)(sl:l.Pairwise (tot lt))(sr:r.Pairwise (tot lt))(hc:∀x∈l,∀y∈r,x<y):(l++r).Nodup:=by
 rw[zaY];refine⟨ypF h hl sl,ypF h hr sr,λx hx y hy e=>?_⟩;have:=hc x hx y hy;omega
end
def yx4{P R Q:List Nat}{x y:Nat}{i j:Nat}(hi:i=P.length)(hj:j=P.length+1+R.length):(P++x::(R++y::Q))[i]?=some x/\(P++x::(R++y::Q))[j]?=some y/\
 ((P++x::(R++y::Q)).set i y).set j x=P++y::(R++x::Q):=by
 subst hi hj;refine⟨by simp[zcr],?_,?_⟩
 .rw[zaz (by omega),show P.length+1+R.length-P.length=R.length+1 by omega,zdG,zaz (by omega)];simp
 .rw[zcR,if_neg (by omega),zcc,zbC,zcR,if_neg (by omega),show P.length+1+R.length-P.length=R.length+1 by omega,zch,zcR,if_neg (by omega),zcc,zbC]
def yr9{A l B:List Nat}{t k:Nat}(hk:k=A.length+t)(h:t<l.length):(A++(l++B))[k]?=l[t]?:=by
 subst hk;rw[zaz (by omega),zct,zaX h]
def set_mid{A l B:List Nat}{t k v:Nat}(hk:k=A.length+t)(h:t<l.length):(A++(l++B)).set k v=A++(l.set t v++B):=by
 subst hk;rw[zci _ _ (by omega),zct,List.set_append_left _ _ h]
def pM(A l B:List Nat):List Nat:=A++(l++B)
def yc{A l B:List Nat}:(pM A l B).length=A.length+l.length+B.length:=by simp[pM];omega
def yJ3{A B xs l l2:List Nat}{t x y q j m:Nat}(hq:q=A.length)(hj:j=q+l.length+1)(hm:m=q+l.length):
 (pM A (gM xs (l++[y]) l2 x t) B)[j]?=some x/\(pM A (gM xs (l++[y]) l2 x t) B)[m]?=some y/\
 ((pM A (gM xs (l++[y]) l2 x t) B).set j y).set m x=pM A (gM xs l (y::l2) x t) B:=by
 unfold pM;obtain⟨w1,w2,w3⟩:=yKv (xs:=xs) (i:=t) (x:=x) (y:=y) (l:=l) (l2:=l2);have k1:=(zaa.1 w1).1;have k2:=(zaa.1 w2).1;refine⟨by rw[yr9 (t:=l.length+1) (by omega) k1];exact w1,by rw[yr9 (t:=l.length) (by omega) k2];exact w2,?_⟩;rw[set_mid (t:=l.length+1) (by omega) k1,set_mid (t:=l.length) (by omega) (by simpa using k2),w3]
section
variable {lt:Nat->Nat->Bool} {S:Nat->Prop} {l r:List Nat}
def yLa(h:SWO lt S)(hr:∀x∈r,S x){x y:Nat}{k:Nat}(hx:S x)(sr:r.Pairwise (tot lt))(hy:r[k]?=some y)(hl:lt y x=true):∀u∈r.take (k+1),lt u x=true:=by
 intro u hu;have hy0:=hr y (zac hy);have hu0:=hr u (zaw hu);rcases ysO (i:=k+1) h sr hu (by simpa using hy)with e|e
 .rw[e];exact hl
 .cases h1 :lt u x with
  |true=>rfl
  |false=>
   cases h2:lt y u with
   | true=>rcases e with e|e
           .rw[h.asym u y hu0 hy0 e]at h2;cases h2
           .rw[e.1]at h2;cases h2
   |false=>rw[h.neg y u x hy0 hu0 hx h2 h1]at hl;cases hl
def yIv(h:SWO lt S)(hr:∀x∈r,S x){x y:Nat}{k:Nat}(hx:S x)(sr:r.Pairwise (tot lt))(hy:r[k]?=some y)(hl:lt y x=false):∀u∈r.drop k,lt u x=false:=by
 intro u hu;have hy0:=hr y (zac hy);have hu0:=hr u (zaO hu);rcases yp7 h sr hu hy with e|e
 .rw[e];exact hl
 .have h3:lt u y=false:=by
   rcases e with e|e
   .exact h.asym y u hy0 hu0 e
   .exact e.1
  exact h.neg u y x hu0 hy0 hx h3 hl
def yH4(h:SWO lt S)(hr:∀x∈r,S x){x y:Nat}{k:Nat}(hx:S x)(sr:r.Pairwise (tot lt))(hy:r[k]?=some y)(hl:lt x y=false):∀u∈r.take (k+1),lt x u=false:=by
 intro u hu;have hy0:=hr y (zac hy);have hu0:=hr u (zaw hu);rcases ysO (i:=k+1) h sr hu (by simpa using hy)with e|e
 .rw[e];exact hl
 .have h3:lt y u=false:=by
   rcases e with e|e
   .exact h.asym u y hu0 hy0 e
   .exact e.1
  exact h.neg x y u hx hy0 hu0 hl h3
def yFw(h:SWO lt S)(hr:∀x∈r,S x){x y:Nat}{k:Nat}(hx:S x)(sr:r.Pairwise (tot lt))(hy:r[k]?=some y)(hl:lt x y=true):∀u∈r.drop k,lt x u=true:=by
 intro u hu;have hy0:=hr y (zac hy);have hu0:=hr u (zaO hu);rcases yp7 h sr hu hy with e|e
 .rw[e];exact hl
 .cases h1:lt x u with
  |true=>rfl
  | false=>
   have h3:lt u y=false:=by
    rcases e with e|e
    .exact h.asym y u hy0 hu0 e
    .exact e.1
   rw[h.neg x u y hx hu0 hy0 h1 h3]at hl;cases hl
def yHr(h:SWO lt S)(hr:∀x∈r,S x){x:Nat}{k:Nat}{o:List Nat}(hx:S x)(sr:r.Pairwise (tot lt))(hlt:∀u∈r,x<u)(h1:∀u∈r.take k,lt u x=true)(h2:∀u∈r.drop k,lt u x=false)
 (po:o.Perm ([x]++r)) (so:o.Pairwise (tot lt)):o=r.take k++x::r.drop k:=by
 have hp:(r.take k++x::r.drop k).Perm ([x]++r):=by
  refine List.perm_middle.trans ?_;rw[zav];exact .refl _
 refine cZ h (S:=S) (λu hu=>?_) (po.trans hp.symm) so ?_
 .rcases zaj.1 (po.mem_iff.1 hu)with hu|hu
  .simp at hu;subst hu;exact hx
  .exact hr u hu
 .rw[<-zav k r,zaS]at sr;rw[zaS,zbq];refine⟨sr.1,⟨λu hu=>yCn (hlt u (zaO hu)) (h2 u hu),sr.2.1⟩,λu hu v hv=>?_⟩;rcases zax.1 hv with rfl|hv
  .exact .inl (h1 u hu)
  .exact sr.2.2 u hu v hv
def yD0(h:SWO lt S)(hl:∀x∈l,S x){y:Nat}{k:Nat}{o:List Nat}(hy:S y)(sl:l.Pairwise (tot lt))(hlt:∀u∈l,u<y)(h1:∀u∈l.take k,lt y u=false)(h2:∀u∈l.drop k,lt y u=true)
 (po:o.Perm (l++[y])) (so:o.Pairwise (tot lt)):o=l.take k++y::l.drop k:=by
 have hp:(l.take k++y::l.drop k).Perm (l++[y]):=by
  refine List.perm_middle.trans ?_;rw[zav];exact(zdM (l₁:=[y]) (l₂:=l))
 refine cZ h (S:=S) (λu hu=>?_) (po.trans hp.symm) so ?_
 .rcases zaj.1 (po.mem_iff.1 hu)with hu|hu
  .exact hl u hu
  .simp at hu;subst hu;exact hy
 .rw[<-zav k l,zaS]at sl;rw[zaS,zbq];refine⟨sl.1,⟨λu hu=>.inl (h2 u hu),sl.2.1⟩,λu hu v hv=>?_⟩;rcases zax.1 hv with rfl|hv
  .exact yCn (hlt u (zaw hu)) (h1 u hu)
  .exact sl.2.2 u hu v hv
end
def yvh(cmp:Nat→Nat→Int)(A xs B M0 M1:List Nat)(hM0:M0=pM A xs B)(hM1:M1=pM A (sorted (fE cmp) xs) B)(q e N:Nat)(hq:q=A.length)(he:e=q+xs.length)(hN:N=M0.length)(hn:1≤N)(hn2:N≤1048576)(f:Nat)(a b:List C)(hf:∃fn,Tryz.prog.funcs[f]?=some fn∧fn.body.isSome=true∧(fn.name != "runtime.NumGoroutine")=true)
 (hc:∀x y:Nat,x∈xs->y∈xs->qB prg f [.c (.i x),.c (.i y),.elt a,.elt b] (.c (.i (cmp x y)))):
 InF prg 377 (.c (cw 1 (M0.map kC))) (.c (cw 1 (M1.map kC))) [.c (.i q),.c (.i e),.fn f [.elt a,.elt b]] (.tup []):=by
 have hpl:(sorted (fE cmp) xs).length=xs.length:=sorted_perm.length_eq;have hL:M1.length=N:=by rw[hN,hM0,hM1,yc,yc,hpl]
 have hN2:q+xs.length+B.length=N:=by rw[hN,hM0,yc];omega
 rw[kH (by rw[zal];omega),kH (by rw[zal,hL];omega)];refine aK dM (by simp) (by simp) rfl λhwf=>?_
 have hg1:gO (fE cmp) xs 1=xs\/xs.length=0:=by
  rcases zaB xs.length with h|h
  .exact .inr h
  .exact .inl (yJ4 h)
 have hg2:gO (fE cmp) xs 1=xs:=by
  rcases hg1 with h|h
  .exact h
  .rw[zay]at h;subst h;rfl
 have hg3:xs.length=0->sorted (fE cmp) xs=xs:=λh=>by rw[zay]at h;subst h;rfl
 refine goQ_ ?_;refine⟨by unfold inI;omega,?_⟩;refine qA (ι:=Nat) (λi=>q+1<=i/\(i<=e\/i=q+1)) (λi=>xC [(0,.own 0 1 N),(1,.c (.i q)),(2,.c (.i e)),(3,.fn f [.elt a,.elt b]),(8,.c (.i i)),(1000000,.own 0 1 N)] [(0,.row 1 ((pM A (gO (fE cmp) xs (i-q)) B).map kC))]) (λi=>e-i) (q+1) ⟨Nat.le_refl _,.inr rfl⟩ (by apply aB<;>simp[hg2,hN,hM0]) ?_
 rintro i ⟨hi1,hi⟩
 rcases zas i e with hlt|hge
 .obtain⟨t,ht⟩:∃t,t=i-q:=⟨_,rfl⟩;rw[<-ht];have hop:=ylr (lt:=fE cmp) (xs:=xs) t (by omega);have hol:(yeu (fE cmp) xs t).length=t:=by rw[hop.length_eq,zaA];omega
  have hom:∀y∈yeu (fE cmp) xs t,y∈xs:=λy hy=>zaw (hop.mem_iff.1 hy);obtain⟨x,hx⟩:∃x,xs[t]?=some x:=⟨_,zab (by omega)⟩;have hxm:=zac hx;have ht1:i+1-q=t+1:=by omega
  refine yafw (fC hlt) ?_;rw[gO_go hx];generalize hP:yeu (fE cmp) xs t=P at *;refine qA (ι:=Nat×List Nat×List Nat) (λp=>p.1=q+p.2.1.length/\p.2.1++p.2.2=P/\∀y∈p.2.2,fE cmp x y=true) (λp=>xC [(0,.own 0 1 N),(1,.c (.i q)),(2,.c (.i e)),(3,.fn f [.elt a,.elt b]),(8,.c (.i i)),(9,.c (.i p.1)),(1000000,.own 0 1 N)] [(0,.row 1 ((pM A (gM xs p.2.1 p.2.2 x t) B).map kC))]) (λp=>p.1) (i,P,[]) ⟨by simp only;omega,by simp,by simp⟩ (by apply aB<;>simp) ?_
  rintro⟨j,l1,l2⟩ ⟨hj,he2,h2⟩
  simp only at hj he2 h2;rcases zcl l1 with e0|⟨l,y,e0⟩
  .subst e0;have hins:=yyn (lt:=fE cmp) (x:=x) he2 h2 (λl y h=>by simp at h);have hend:=yGs (lt:=fE cmp) hx (by rw[hP];exact hins);have hjq:j=q:=by simpa using hj
   subst hjq;refine goQ_ ?_;refine⟨by unfold inI;omega,i+1,⟨by omega,by omega⟩,by omega,?_⟩;apply aB<;>simp[hend,ht1]
  .rw[zcm]at e0;subst e0;have hyP:y∈xs:=hom y (by rw[<-he2];simp);have hj2:j=q+l.length+1:=by rw[hj];simp;omega
   obtain⟨m,hm⟩:∃m,m=q+l.length:=⟨_,rfl⟩;obtain⟨w1,w2,w3⟩:=yJ3 (A:=A) (B:=B) (xs:=xs) (t:=t) (x:=x) (y:=y) (l:=l) (l2:=l2) hq hj2 hm;have hend:=λh=>yGs (lt:=fE cmp) (l1:=l++[y]) (l2:=l2) hx (by rw[hP];exact yyn (lt:=fE cmp) (x:=x) he2 h2 h)
   have hlen:(pM A (gM xs (l++[y]) l2 x t) B).length=N:=by
    have:=yMp (x:=x) (xs:=xs) (l1:=l++[y]) (l2:=l2) (i:=t) (by rw[<-zah,he2,hol]) (by omega);rw[yc,this];omega
   have hll:j<N:=by rw[<-hlen];exact(zaa.1 w1).1
   have hMe:(∀l' y',l++[y]=l'++[y']->fE cmp x y'=false)->pM A (gM xs (l++[y]) l2 x t) B=pM A (gO (fE cmp) xs (t+1)) B:=λh=>by rw[hend h]
   clear hend;generalize pM A (gM xs (l++[y]) l2 x t) B=M at *;have v1:=(zaa.1 w1).2;have v2:=(zaa.1 w2).2;have k1:j<M.length:=(zaa.1 w1).1;have k2:m<M.length:=(zaa.1 w2).1;have ej:((j:Int)-1)=(m:Int):=by omega
   have j0:((q:Int)<(j:Int))=True:=by simp;omega
   have j0':(q<j)=True:=by simp;omega
   have mn:m<N:=by omega
   have hf':∃fn,Tryz.prog.funcs[f]?=some fn∧fn.body.isSome=true∧¬fn.name= "runtime.NumGoroutine":=by simpa using hf
   simp -dsimp -implicitDefEqProofs [j0,j0',ej,w1,w2,v1,v2,k1,k2,kC,hll,mn];refine⟨by unfold inI;omega,hf',?_⟩;refine lC (hc x y hxm hyP) ?_;have hr2:∀h,((M.map kC).set j [C.i y])[m]'h=[C.i y]:=by intro h;rw[zcd (by omega)];simp[v2,kC]
   have hs3:((M.map kC).set j [C.i y]).set m [C.i x]=(pM A (gM xs l (y::l2) x t) B).map kC:=by rw[<-w3,zaZ,zaZ];rfl
   simp -dsimp -implicitDefEqProofs [ej,w1,w2,v1,v2,k1,k2,hll,mn,hr2,hs3];refine⟨λhcm=>?_,λhcm=>?_⟩
   .refine⟨by unfold inI;omega,m,l,y::l2,⟨hm,by rw[<-he2];simp,λz hz=>?_⟩,by omega,?_⟩
    .rcases zax.1 hz with hz|hz
     .subst hz;simp[fE];omega
     .exact h2 z hz
    .apply aB<;>simp[kC,w1,w2,v1,v2,hr2,hs3]
   .have hM:=hMe λl' y' h=>by
     have:=(zeq h rfl).2;simp at this;subst this;simp[fE];omega
    refine⟨by unfold inI;omega,i+1,⟨by omega,by omega⟩,by omega,?_⟩;apply aB<;>simp[hM,ht1]
 .have hfin:gO (fE cmp) xs (i-q)=sorted (fE cmp) xs:=by
   rcases zaB xs.length with h|h
   .rw[hg3 h];rw[show i-q=1 by omega,hg2]
   .rw[show i-q=xs.length by omega,yLn]
  refine yafw (aG hge) ?_;rw[hfin,<-hM1];refine⟨by rw[zae (by rw[zal,hL];exact Nat.le_refl _)],?_⟩;simp[ybG]
def yhS(P X R Y Q:List Nat)(i:Nat):List Nat:=P++((Y.take i++X.drop i)++(R++((X.take i++Y.drop i)++Q)))
def ysV{P X R Y Q:List Nat}{i n:Nat}(hX:X.length=n)(hY:Y.length=n)(hi:i<=n):(yhS P X R Y Q i).length=P.length+n+R.length+n+Q.length:=by
 simp[yhS];omega
def yEe{P X R Y Q:List Nat}{i n x y p q:Nat}(hX:X.length=n)(hY:Y.length=n)(hx:X[i]?=some x)(hy:Y[i]?=some y)(hp:p=P.length+i)(hq:q=P.length+n+R.length+i):
 (yhS P X R Y Q i)[p]?=some x/\(yhS P X R Y Q i)[q]?=some y/\((yhS P X R Y Q i).set p y).set q x=yhS P X R Y Q (i+1):=by
 have i1:=(zaa.1 hx).1;have i2:=(zaa.1 hy).1;have d1:X.drop i=x::X.drop (i+1):=by rw[zaF i1,(zaa.1 hx).2]
 have d2:Y.drop i=y::Y.drop (i+1):=by rw[zaF i2,(zaa.1 hy).2]
 have t1:X.take (i+1)=X.take i++[x]:=by rw[zao,hx];rfl
 have t2:Y.take (i+1)=Y.take i++[y]:=by rw[zao,hy];rfl
 have e1:yhS P X R Y Q i=(P++Y.take i)++x::((X.drop (i+1)++(R++X.take i))++y::(Y.drop (i+1)++Q)):=by
  unfold yhS;rw[d1,d2];simp
 have e2:yhS P X R Y Q (i+1)=(P++Y.take i)++y::((X.drop (i+1)++(R++X.take i))++x::(Y.drop (i+1)++Q)):=by
  unfold yhS;rw[t1,t2];simp
 rw[e1,e2];exact yx4 (by simp;omega) (by simp;omega)
def yCA{P X R Y Q:List Nat}:yhS P X R Y Q 0=P++(X++(R++(Y++Q))):=by simp[yhS]
def yBK{P X R Y Q:List Nat}{n:Nat}(hX:X.length=n)(hY:Y.length=n):yhS P X R Y Q n=P++(Y++(R++(X++Q))):=by
 unfold yhS;rw[show X.drop n=[]from zbJ (by omega),show X.take n=X from zae (by omega),show Y.drop n=[]from zbJ (by omega),show Y.take n=Y from zae (by omega)];simp
def yy9(P X R Y Q M0 M1:List Nat)(p q n N:Nat)(hM0:M0=yhS P X R Y Q 0)(hM1:M1=yhS P X R Y Q n)(hX:X.length=n)(hY:Y.length=n)(hp:p=P.length)(hq:q=P.length+n+R.length)(hN:N=M0.length)(hn:1<=N)(hn2:N<=1048576)(f:Nat)(a b:List C):
 InF prg 382 (.c (cw 1 (M0.map kC))) (.c (cw 1 (M1.map kC))) [.c (.i p),.c (.i q),.c (.i n),.fn f [.elt a,.elt b]] (.tup []):=by
 have hN2:P.length+n+R.length+n+Q.length=N:=by rw[hN,hM0,ysV hX hY (zbu _)]
 have hL:M1.length=N:=by rw[hM1,ysV hX hY (Nat.le_refl _)];omega
 rw[kH (by rw[zal];omega),kH (by rw[zal,hL];omega)];refine aK ybL (by simp) (by simp) rfl λhwf=>?_;refine goQ_ ?_;refine qA (ι:=Nat) (λi=>i<=n) (λi=>xC [(0,.own 0 1 N),(1,.c (.i p)),(2,.c (.i q)),(3,.c (.i n)),(10,.c (.i i)),(1000000,.own 0 1 N)] [(0,.row 1 ((yhS P X R Y Q i).map kC))]) (λi=>n-i) 0 (zbu _) (by apply aB<;>simp[hN,hM0]) ?_
 rintro i hi
 rcases zas i n with hlt|hge
 .obtain⟨x,hx⟩:∃x,X[i]?=some x:=⟨_,zab (by omega)⟩;obtain⟨y,hy⟩:∃y,Y[i]?=some y:=⟨_,zab (by omega)⟩;obtain⟨m,hm⟩:∃m,m=P.length+i:=⟨_,rfl⟩;obtain⟨j,hj⟩:∃j,j=P.length+n+R.length+i:=⟨_,rfl⟩;obtain⟨w1,w2,w3⟩:=yEe (P:=P) (R:=R) (Q:=Q) hX hY hx hy hm hj;have hlen:=ysV (P:=P) (R:=R) (Q:=Q) hX hY hi;generalize yhS P X R Y Q i=M at *;have v1:=(zaa.1 w1).2;have v2:=(zaa.1 w2).2;have k1:m<M.length:=(zaa.1 w1).1;have k2:j<M.length:=(zaa.1 w2).1;have em:((p:Int)+i)=(m:Int):=by omega
  have ej:((q:Int)+i)=(j:Int):=by omega
  have n1:m<N:=by omega
  have n2:j<N:=by omega
  have hr2:∀h,((M.map kC).set m [C.i y])[j]'h=[C.i y]:=by intro h;rw[zcd (by omega)];simp[v2,kC]
  have hs3:((M.map kC).set m [C.i y]).set j [C.i x]=(yhS P X R Y Q (i+1)).map kC:=by rw[<-w3,zaZ,zaZ];rfl
  simp -dsimp -implicitDefEqProofs [em,ej,fC hlt,w1,w2,v1,v2,k1,k2,kC,n1,n2,hr2,hs3];refine⟨by unfold inI;omega,by unfold inI;omega,by unfold inI;omega,by unfold inI;omega,i+1,hlt,by omega,?_⟩;apply aB<;>simp[hs3]
 .have:i=n:=by omega
  subst this;refine goQ_ ?_;rw[<-hM1];refine⟨by rw[zae (by rw[zal,hL];exact Nat.le_refl _)],?_⟩;simp[ybG]
def gQ(P U V Q:List Nat):List Nat:=P++(U++(V++Q))
def bU{P U V Q:List Nat}:(gQ P U V Q).length=P.length+U.length+V.length+Q.length:=by simp[gQ];omega
def yLS(P0 U0 V0 Q0 M0 M1:List Nat)(hM0:M0=gQ P0 U0 V0 Q0)(hM1:M1=gQ P0 V0 U0 Q0)(p m b N:Nat)(hU0:1<=U0.length)(hV0:1<=V0.length)(hp:p=P0.length)(hm:m=p+U0.length)(hb:b=m+V0.length)(hN:N=M0.length)(hn2:N<=1048576)(f:Nat)(ca cb:List C):
 InF prg 381 (.c (cw 1 (M0.map kC))) (.c (cw 1 (M1.map kC))) [.c (.i p),.c (.i m),.c (.i b),.fn f [.elt ca,.elt cb]] (.tup []):=by
 have hN2:P0.length+U0.length+V0.length+Q0.length=N:=by rw[hN,hM0,bU]
 have hL:M1.length=N:=by rw[hM1,bU];omega
 rw[kH (by rw[zal];omega),kH (by rw[zal,hL];omega)];refine aK ydC (by simp) (by simp) rfl λhwf=>?_;refine goQ_ ?_;have e1:((m:Int)-p)=((U0.length:Nat):Int):=by omega
 have e2:((b:Int)-m)=((V0.length:Nat):Int):=by omega
 rw[e1,e2];refine⟨by unfold inI;omega,by unfold inI;omega,?_⟩
 refine qA (ι:=(Nat×Nat)×(List Nat×List Nat×List Nat×List Nat)) (λz=>z.1.1=z.2.2.1.length/\z.1.2=z.2.2.2.1.length/\1<=z.1.1/\1<=z.1.2/\m=z.2.1.length+z.1.1/\gQ z.2.1 z.2.2.2.1 z.2.2.1 z.2.2.2.2=M1)
  (λz=>xC [(0,.own 0 1 N),(2,.c (.i m)),(4,.fn f [.elt ca,.elt cb]),(10,.c (.i z.1.1)),(11,.c (.i z.1.2)),(1000000,.own 0 1 N)] [(0,.row 1 ((gQ z.2.1 z.2.2.1 z.2.2.2.1 z.2.2.2.2).map kC))]) (λz=>z.1.1+z.1.2) ((U0.length,V0.length),(P0,U0,V0,Q0)) ⟨rfl,rfl,hU0,hV0,by simp only;omega,hM1.symm⟩ (by apply aB<;>simp[hM0,bU,hN2]) ?_
 rintro⟨⟨i,j⟩,P,U,V,Q⟩ ⟨hU,hV,hi,hj,hmm,hT⟩
 simp only at hU hV hi hj hmm hT
 have hTl:P.length+U.length+V.length+Q.length=N:=by
  have:=congrArg List.length hT;rw[hL,bU]at this;omega
 have em:((m:Int)-i)=((P.length:Nat):Int):=by omega
 rcases zcH i j with h|h|h
 ·-- the left part is the shorter one
  obtain⟨Va,Vb,hVe,hVb⟩:∃Va Vb,V=Va++Vb/\Vb.length=i:=⟨V.take (j-i),V.drop (j-i),(zav _ _).symm,by simp;omega⟩;subst hVe;have hVa:Va.length=j-i:=by simp at hV;omega
  have g1:(gQ P U (Va++Vb) Q).length=N:=by rw[bU];omega
  have g2:(gQ P Vb Va (U++Q)).length=N:=by rw[bU];simp;simp at hTl;omega
  have hs:=yy9 P U Va Vb Q (gQ P U (Va++Vb) Q) (gQ P Vb Va (U++Q)) P.length (m+j-i) i N (by rw[yCA];simp[gQ]) (by rw[yBK hU.symm hVb];simp[gQ]) hU.symm hVb rfl (by omega) g1.symm (by omega) hn2 f ca cb;have q1:((i:Int)=(j:Int))=False:=by simp;omega
  have q1':(i=j)=False:=by simp;omega
  have q2:((j:Int)<(i:Int))=False:=by simp;omega
  have q2':(j<i)=False:=by simp;omega
  have q3:((m:Int)+j-i)=((m+j-i:Nat):Int):=by omega
  have q4:((j:Int)-i)=((j-i:Nat):Int):=by omega
  refine yafq q1 q1' q2 q2' em q3 ?_;refine⟨by unfold inI;omega,by unfold inI;omega,by unfold inI;omega,?_⟩;refine tH (up:=some (0,.row 1 ((gQ P Vb Va (U++Q)).map kC))) hs (by simp) rfl rfl (qH (rows:=(gQ P U (Va++Vb) Q).map kC) (by simp) rfl rfl (by simp[g1]) (by simp[g1,g2]) rfl rfl) (yafw q4 ?_);refine⟨by unfold inI;omega,i,j-i,P,Vb,Va,U++Q,⟨hVb.symm,hVa.symm,hi,by omega,hmm,by rw[<-hT];simp[gQ]⟩,by omega,?_⟩;apply aB<;>simp
 .have g1:(gQ P U V Q).length=N:=by rw[bU];omega
  have g2:(gQ P V U Q).length=N:=by rw[bU];omega
  have hs:=yy9 P U [] V Q (gQ P U V Q) (gQ P V U Q) P.length m i N (by rw[yCA];simp[gQ]) (by rw[yBK hU.symm (by omega)];simp[gQ]) hU.symm (by omega) rfl (by simp;omega) g1.symm (by omega) hn2 f ca cb;subst h;refine yafw em ?_;refine⟨by unfold inI;omega,?_⟩;refine tH (up:=some (0,.row 1 ((gQ P V U Q).map kC))) hs (by simp) rfl rfl (qH (rows:=(gQ P U V Q).map kC) (by simp) rfl rfl (by simp[g1]) (by simp[g1,g2]) rfl rfl) (goQ_ ?_);rw[hT];refine⟨by rw[zae (by rw[zal,hL];exact Nat.le_refl _)],?_⟩;simp[ybG]
 .obtain⟨Ua,Ub,hUe,hUa⟩:∃Ua Ub,U=Ua++Ub/\Ua.length=j:=⟨U.take j,U.drop j,(zav _ _).symm,by simp;omega⟩;subst hUe;have hUb:Ub.length=i-j:=by simp at hU;omega
  have g1:(gQ P (Ua++Ub) V Q).length=N:=by rw[bU];omega
  have g2:(gQ (P++V) Ub Ua Q).length=N:=by rw[bU];simp;simp at hTl;omega
  have hs:=yy9 P Ua Ub V Q (gQ P (Ua++Ub) V Q) (gQ (P++V) Ub Ua Q) P.length m j N (by rw[yCA];simp[gQ]) (by rw[yBK hUa hV.symm];simp[gQ]) hUa hV.symm rfl (by omega) g1.symm (by omega) hn2 f ca cb;have q1:((i:Int)=(j:Int))=False:=by simp;omega
  have q1':(i=j)=False:=by simp;omega
  have q2:((j:Int)<(i:Int))=True:=by simp;omega
  have q2':(j<i)=True:=by simp;omega
  have q4:((i:Int)-j)=((i-j:Nat):Int):=by omega
  refine yaff q1 q1' q2 q2' em ?_;refine⟨by unfold inI;omega,?_⟩;refine tH (up:=some (0,.row 1 ((gQ (P++V) Ub Ua Q).map kC))) hs (by simp) rfl rfl (qH (rows:=(gQ P (Ua++Ub) V Q).map kC) (by simp) rfl rfl (by simp[g1]) (by simp[g1,g2]) rfl rfl) (yafw q4 ?_);refine⟨by unfold inI;omega,i-j,j,P++V,Ub,Ua,Q,⟨hUb.symm,hUa.symm,by omega,hj,by simp;omega,by rw[<-hT];simp[gQ]⟩,by omega,?_⟩;apply aB<;>simp
structure MG(lt:Nat->Nat->Bool)(S:Nat->Prop)(A l r B o M0 M1:List Nat)(a m b N:Nat):Prop where
 pl:1<=l.length
 pr:1<=r.length
 sl:∀x∈l,S x
 sr:∀x∈r,S x
 ol:l.Pairwise (tot lt)
 or:r.Pairwise (tot lt)
 cr:∀x∈l,∀y∈r,x<y
 po:o.Perm (l++r)
 oo:o.Pairwise (tot lt)
 ha:a=A.length
 hm:m=a+l.length
 hb:b=m+r.length
 h0:M0=gQ A l r B
 h1:M1=pM A o B
 hN:N=M0.length
 hn:N<=1048576
def MG.len1{lt:Nat->Nat->Bool}{S:Nat->Prop}{A l r B o M0 M1:List Nat}{a m b N:Nat}(g:MG lt S A l r B o M0 M1 a m b N):M1.length=N/\1<=N/\b<=N:=by
 have h1:=g.po.length_eq;have h2:=g.hN;have h3:=g.pl;have h4:=g.hb;have h5:=g.hm;have h6:=g.ha;rw[g.h0,bU]at h2;rw[g.h1,yc,h1,zah];omega
def ysg{i j:Nat}:((i:Int)+j).toNat/2=(i+j)/2:=by congr 1
def yui{A l r B:List Nat}{k t:Nat}(hk:k=A.length+t)(h:t<l.length):(gQ A l r B)[k]?=l[t]?:=by
 unfold gQ;exact yr9 hk h
def yt7{A l r B:List Nat}{k t:Nat}(hk:k=A.length+l.length+t)(h:t<r.length):(gQ A l r B)[k]?=r[t]?:=by
 unfold gQ;rw[<-zbh];exact yr9 (by rw[zah];exact hk) h
def swp_right{A r B:List Nat}{x y k t:Nat}(hy:r[t]?=some y)(hk:k=A.length+t):
 (pM A (r.take t++x::r.drop t) B)[k]?=some x/\(pM A (r.take t++x::r.drop t) B)[k+1]?=some y/\
 ((pM A (r.take t++x::r.drop t) B).set k y).set (k+1) x=pM A (r.take (t+1)++x::r.drop (t+1)) B:=by
 have i1:=(zaa.1 hy).1;have d1:r.drop t=y::r.drop (t+1):=by rw[zaF i1,(zaa.1 hy).2]
 have t1:r.take (t+1)=r.take t++[y]:=by rw[zao,hy];rfl
 have e1:pM A (r.take t++x::r.drop t) B=(A++r.take t)++x::([]++y::(r.drop (t+1)++B)):=by unfold pM;rw[d1];simp
 have e2:pM A (r.take (t+1)++x::r.drop (t+1)) B=(A++r.take t)++y::([]++x::(r.drop (t+1)++B)):=by unfold pM;rw[t1];simp
 rw[e1,e2];exact yx4 (by simp;omega) (by simp;omega)
def swp_left{A l B:List Nat}{y u k t:Nat}(hu:l[t]?=some u)(hk:k=A.length+t):
 (pM A (l.take (t+1)++y::l.drop (t+1)) B)[k+1]?=some y/\(pM A (l.take (t+1)++y::l.drop (t+1)) B)[k]?=some u/\
 ((pM A (l.take (t+1)++y::l.drop (t+1)) B).set (k+1) u).set k y=pM A (l.take t++y::l.drop t) B:=by
 have i1:=(zaa.1 hu).1;have d1:l.drop t=u::l.drop (t+1):=by rw[zaF i1,(zaa.1 hu).2]
 have t1:l.take (t+1)=l.take t++[u]:=by rw[zao,hu];rfl
 have e1:pM A (l.take (t+1)++y::l.drop (t+1)) B=(A++l.take t)++u::([]++y::(l.drop (t+1)++B)):=by unfold pM;rw[t1];simp
 have e2:pM A (l.take t++y::l.drop t) B=(A++l.take t)++y::([]++u::(l.drop (t+1)++B)):=by unfold pM;rw[d1];simp
 rw[e1,e2];obtain⟨a1,a2,a3⟩:=yx4 (P:=A++l.take t) (R:=[]) (Q:=l.drop (t+1)++B) (x:=u) (y:=y) (i:=k) (j:=k+1) (by simp;omega) (by simp;omega);exact⟨a2,a1,by rw[List.set_comm _ _ (by omega)];exact a3⟩
section
variable {cmp:Nat->Nat->Int} {S:Nat->Prop} {f:Nat} {ca cb:List C}
def yFc(h:SWO (fE cmp) S)(hf:∃fn,Tryz.prog.funcs[f]?=some fn∧fn.body.isSome=true∧(fn.name != "runtime.NumGoroutine")=true)
 (hc:∀x y:Nat,S x->S y->qB prg f [.c (.i x),.c (.i y),.elt ca,.elt cb] (.c (.i (cmp x y)))) {A r B o M0 M1:List Nat} {a m b N x:Nat} (g:MG (fE cmp) S A [x] r B o M0 M1 a m b N):
 InF prg 378 (.c (cw 1 (M0.map kC))) (.c (cw 1 (M1.map kC))) [.c (.i a),.c (.i m),.c (.i b),.fn f [.elt ca,.elt cb]] (.tup []):=by
 obtain⟨hL,hN1,hbN⟩:=g.len1;have hN:=g.hN;have hn:=g.hn;have ha:=g.ha;have hm:=g.hm;have hb:=g.hb;have h0:=g.h0;have h1:=g.h1;simp only[zbN]at hm;have hx:S x:=g.sl x (by simp);rw[kH (by rw[zal];omega),kH (by rw[zal,hL];omega)];refine aK aQ (by simp) (by simp) rfl λhwf=>?_;have e1:((m:Int)-a)=1:=by omega
 simp -dsimp -implicitDefEqProofs [qK,e1];refine⟨by unfold inI;omega,?_⟩
 refine qA (ι:=Nat×Nat) (λz=>m<=z.1/\z.1<=z.2/\z.2<=b/\(∀u∈r.take (z.1-m),fE cmp u x=true)/\(∀u∈r.drop (z.2-m),fE cmp u x=false))
  (λz=>xC [(0,.own 0 1 N),(1,.c (.i a)),(4,.fn f [.elt ca,.elt cb]),(10,.c (.i z.1)),(11,.c (.i z.2)),(1000000,.own 0 1 N)] [(0,.row 1 (M0.map kC))]) (λz=>z.2-z.1) (m,b) ⟨by simp,by simp only;omega,by simp,by simp,by simp[hb]⟩ (by apply aB<;>simp[hN]) ?_
 rintro⟨i,j⟩ ⟨b1,b2,b3,b4,b5⟩
 simp only at b1 b2 b3 b4 b5;have hf':∃fn,Tryz.prog.funcs[f]?=some fn∧fn.body.isSome=true∧¬fn.name= "runtime.NumGoroutine":=by simpa using hf
 have wx:M0[a]?=some x:=by rw[h0,yui (t:=0) (by omega) (by simp)];rfl
 have vx:=(zaa.1 wx).2;have kx:a<N:=by rw[hN];exact(zaa.1 wx).1
 rcases zas i j with hlt|hge
 .obtain⟨k,hk⟩:∃k,k=(i+j)/2:=⟨_,rfl⟩;obtain⟨y,hy⟩:∃y,r[k-m]?=some y:=⟨_,zab (by omega)⟩;have wy:M0[k]?=some y:=by rw[h0,yt7 (t:=k-m) (by simp;omega) (by omega)];exact hy
  have vy:=(zaa.1 wy).2;have ky:k<N:=by rw[hN];exact(zaa.1 wy).1
  have hyS:=g.sr y (zac hy);simp -dsimp -implicitDefEqProofs [fC hlt,ysg,<-hk,wx,vx,kx,wy,vy,ky,kC];refine⟨by unfold inI;omega,by omega,by omega,by omega,by omega,hf',?_⟩;refine lC (hc y x hyS hx) (goQ_ ?_);refine⟨λhcm=>?_,λhcm=>?_⟩
  .refine⟨by unfold inI;omega,k+1,j,⟨by omega,by omega,b3,?_,b5⟩,by omega,?_⟩
   .rw[show k+1-m=(k-m)+1 by omega];exact yLa h g.sr hx g.or hy (by simpa[fE]using hcm)
   .apply aB<;>simp
  .refine⟨i,k,⟨b1,by omega,by omega,b4,yIv h g.sr hx g.or hy (by simpa[fE]using hcm)⟩,by omega,?_⟩;apply aB<;>simp
 .have hij:i=j:=by omega
  subst hij;have ho:=yHr h g.sr hx g.or (λu hu=>g.cr x (by simp) u hu) b4 b5 g.po g.oo;obtain⟨t,ht⟩:∃t,t=i-m:=⟨_,rfl⟩;rw[<-ht]at ho;have hM0:M0=pM A (r.take 0++x::r.drop 0) B:=by rw[h0];simp[gQ,pM]
  refine goQ_ ?_;refine qA (ι:=Nat) (λk=>a<=k/\k<=a+t) (λk=>xC [(0,.own 0 1 N),(10,.c (.i i)),(13,.c (.i k)),(1000000,.own 0 1 N)] [(0,.row 1 ((pM A (r.take (k-a)++x::r.drop (k-a)) B).map kC))]) (λk=>a+t-k) a ⟨Nat.le_refl _,by omega⟩ (by apply aB<;>simp[hM0]) ?_
  rintro k ⟨k1,k2⟩
  rcases zas k (a+t)with klt|kge
  .obtain⟨y,hy⟩:∃y,r[k-a]?=some y:=⟨_,zab (by omega)⟩;obtain⟨w1,w2,w3⟩:=swp_right (A:=A) (B:=B) (x:=x) hy (k:=k) (by omega);have hml:(pM A (r.take (k-a)++x::r.drop (k-a)) B).length=N:=by rw[hN,hM0,yc,yc];simp;omega
   rw[show k-a+1=k+1-a by omega]at w3;generalize pM A (r.take (k-a)++x::r.drop (k-a)) B=M at *;obtain⟨j,hj⟩:∃j,j=k+1:=⟨_,rfl⟩;rw[<-hj]at w2 w3;have v1:=(zaa.1 w1).2;have v2:=(zaa.1 w2).2;have q1:k<M.length:=(zaa.1 w1).1;have q2:j<M.length:=(zaa.1 w2).1;have n1:k<N:=by omega
   have n2:j<N:=by omega
   have ej:((k:Int)+1)=(j:Int):=by omega
   have c1:((k:Int)<(i:Int)-1)=True:=by simp;omega
   have hr2:∀h,((M.map kC).set k [C.i y])[j]'h=[C.i y]:=by intro h;rw[zcd (by omega)];simp[v2,kC]
   have hs3:((M.map kC).set k [C.i y]).set j [C.i x]=(pM A (r.take (j-a)++x::r.drop (j-a)) B).map kC:=by rw[<-w3,zaZ,zaZ];rfl
   simp -dsimp -implicitDefEqProofs [c1,ej,w1,w2,v1,v2,q1,q2,kC,n1,n2,hr2,hs3];refine⟨by unfold inI;omega,by unfold inI;omega,j,⟨by omega,by omega⟩,by omega,?_⟩;apply aB<;>simp[hs3]
  .have c1:((k:Int)<(i:Int)-1)=False:=by simp;omega
   refine yafw c1 ?_;refine⟨by unfold inI;omega,?_⟩;rw[show k-a=t by omega,<-ho,<-h1];refine⟨by rw[zae (by rw[zal,hL];exact Nat.le_refl _)],?_⟩;simp[ybG]
def yBr(h:SWO (fE cmp) S)(hf:∃fn,Tryz.prog.funcs[f]?=some fn∧fn.body.isSome=true∧(fn.name != "runtime.NumGoroutine")=true)
 (hc:∀x y:Nat,S x->S y->qB prg f [.c (.i x),.c (.i y),.elt ca,.elt cb] (.c (.i (cmp x y)))) {A l B o M0 M1:List Nat} {a m b N y:Nat} (hl2:2<=l.length) (g:MG (fE cmp) S A l [y] B o M0 M1 a m b N):
 InF prg 378 (.c (cw 1 (M0.map kC))) (.c (cw 1 (M1.map kC))) [.c (.i a),.c (.i m),.c (.i b),.fn f [.elt ca,.elt cb]] (.tup []):=by
 obtain⟨hL,hN1,hbN⟩:=g.len1;have hN:=g.hN;have hn:=g.hn;have ha:=g.ha;have hm:=g.hm;have hb:=g.hb;have h0:=g.h0;have h1:=g.h1;simp only[zbN]at hb;have hx:S y:=g.sr y (by simp);rw[kH (by rw[zal];omega),kH (by rw[zal,hL];omega)];refine aK aQ (by simp) (by simp) rfl λhwf=>?_;have e1:((m:Int)-a=1)=False:=by simp;omega
 have e2:((b:Int)-m)=1:=by omega
 simp -dsimp -implicitDefEqProofs [qK,e1,e2];refine⟨by unfold inI;omega,by unfold inI;omega,?_⟩
 refine qA (ι:=Nat×Nat) (λz=>a<=z.1/\z.1<=z.2/\z.2<=m/\(∀u∈l.take (z.1-a),fE cmp y u=false)/\(∀u∈l.drop (z.2-a),fE cmp y u=true))
  (λz=>xC [(0,.own 0 1 N),(2,.c (.i m)),(4,.fn f [.elt ca,.elt cb]),(14,.c (.i z.1)),(15,.c (.i z.2)),(1000000,.own 0 1 N)] [(0,.row 1 (M0.map kC))]) (λz=>z.2-z.1) (a,m) ⟨by simp,by simp only;omega,by simp,by simp,by simp[hm]⟩ (by apply aB<;>simp[hN]) ?_
 rintro⟨i,j⟩ ⟨b1,b2,b3,b4,b5⟩
 simp only at b1 b2 b3 b4 b5;have hf':∃fn,Tryz.prog.funcs[f]?=some fn∧fn.body.isSome=true∧¬fn.name= "runtime.NumGoroutine":=by simpa using hf
 have wx:M0[m]?=some y:=by rw[h0,yt7 (t:=0) (by omega) (by simp)];rfl
 have vx:=(zaa.1 wx).2;have kx:m<N:=by rw[hN];exact(zaa.1 wx).1
 rcases zas i j with hlt|hge
 .obtain⟨k,hk⟩:∃k,k=(i+j)/2:=⟨_,rfl⟩;obtain⟨u,hu⟩:∃u,l[k-a]?=some u:=⟨_,zab (by omega)⟩;have wy:M0[k]?=some u:=by rw[h0,yui (t:=k-a) (by omega) (by omega)];exact hu
  have vy:=(zaa.1 wy).2;have ky:k<N:=by rw[hN];exact(zaa.1 wy).1
  have huS:=g.sl u (zac hu);simp -dsimp -implicitDefEqProofs [fC hlt,ysg,<-hk,wx,vx,kx,wy,vy,ky,kC];refine⟨by unfold inI;omega,by omega,by omega,by omega,by omega,hf',?_⟩;refine lC (hc y u hx huS) (goQ_ ?_);refine⟨λhcm=>?_,λhcm=>?_⟩
  .refine⟨by unfold inI;omega,k+1,j,⟨by omega,by omega,b3,?_,b5⟩,by omega,?_⟩
   .rw[show k+1-a=(k-a)+1 by omega];exact yH4 h g.sl hx g.ol hu (by simpa[fE]using hcm)
   .apply aB<;>simp
  .refine⟨i,k,⟨b1,by omega,by omega,b4,yFw h g.sl hx g.ol hu (by simpa[fE]using hcm)⟩,by omega,?_⟩;apply aB<;>simp
 .have hij:i=j:=by omega
  subst hij;have ho:=yD0 h g.sl hx g.ol (λu hu=>g.cr u hu y (by simp)) b4 b5 g.po g.oo;have hM0:M0=pM A (l.take (m-a)++y::l.drop (m-a)) B:=by rw[h0,show m-a=l.length by omega];simp[gQ,pM]
  refine goQ_ ?_;refine qA (ι:=Nat) (λk=>i<=k/\k<=m) (λk=>xC [(0,.own 0 1 N),(14,.c (.i i)),(17,.c (.i k)),(1000000,.own 0 1 N)] [(0,.row 1 ((pM A (l.take (k-a)++y::l.drop (k-a)) B).map kC))]) (λk=>k-i) m ⟨by omega,Nat.le_refl _⟩ (by apply aB<;>simp[<-hM0]) ?_
  rintro k ⟨k1,k2⟩
  rcases zas i k with klt|kge
  .obtain⟨j,hj⟩:∃j,j=k-1:=⟨_,rfl⟩;obtain⟨u,hu⟩:∃u,l[j-a]?=some u:=⟨_,zab (by omega)⟩;obtain⟨w1,w2,w3⟩:=swp_left (A:=A) (B:=B) (y:=y) hu (k:=j) (by omega);have ejk:j+1=k:=by omega
   rw[show j-a+1=k-a by omega]at w1 w2 w3;rw[ejk]at w1 w3;have hml:(pM A (l.take (k-a)++y::l.drop (k-a)) B).length=N:=by rw[hN,hM0,yc,yc];simp;omega
   generalize pM A (l.take (k-a)++y::l.drop (k-a)) B=M at *;have v1:=(zaa.1 w1).2;have v2:=(zaa.1 w2).2;have q1:k<M.length:=(zaa.1 w1).1;have q2:j<M.length:=(zaa.1 w2).1;have n1:k<N:=by omega
   have n2:j<N:=by omega
   have ej:((k:Int)-1)=(j:Int):=by omega
   have hr2:∀h,((M.map kC).set k [C.i u])[j]'h=[C.i u]:=by intro h;rw[zcd (by omega)];simp[v2,kC]
   have hs3:((M.map kC).set k [C.i u]).set j [C.i y]=(pM A (l.take (j-a)++y::l.drop (j-a)) B).map kC:=by rw[<-w3,zaZ,zaZ];rfl
   simp -dsimp -implicitDefEqProofs [fC klt,klt,ej,w1,w2,v1,v2,q1,q2,kC,n1,n2,hr2,hs3];refine⟨by unfold inI;omega,j,⟨by omega,by omega⟩,by omega,?_⟩;apply aB<;>simp[hs3]
  .have hki:k=i:=by omega
   subst hki;refine goQ_ ?_;rw[<-ho,<-h1];refine⟨by rw[zae (by rw[zal,hL];exact Nat.le_refl _)],?_⟩;simp[ybG]
end
section
variable {cmp:Nat->Nat->Int} {S:Nat->Prop} {f:Nat} {ca cb:List C}
def ytV(h:SWO (fE cmp) S){l r:List Nat}(hl:∀x∈l,S x)(hr:∀x∈r,S x)(sl:l.Pairwise (tot (fE cmp)))(sr:r.Pairwise (tot (fE cmp)))(hc:∀x∈l,∀y∈r,x<y):
 ∃o:List Nat,o.Perm (l++r)/\o.Pairwise (tot (fE cmp)):=yma h (λy hy=>by rcases zaj.1 hy with hy|hy;exact hl y hy;exact hr y hy) (yAY h hl hr sl sr hc)
def yDA(cmp:Nat->Nat->Int)(M0:List Nat)(n s0 s:Nat):Prop:=s=s0\/∃u v,M0[s-1]?=some u/\M0[n-s]?=some v/\fE cmp v u=false
def yDd(cmp:Nat->Nat->Int)(M0:List Nat)(p r0 s:Nat):Prop:=s=r0\/∃u v,M0[s]?=some u/\M0[p-s]?=some v/\fE cmp v u=true
def yEM(h:SWO (fE cmp) S){A l r B o M0 M1:List Nat}{a m b N d n p s0 r0 s z:Nat}(g:MG (fE cmp) S A l r B o M0 M1 a m b N)(hd:d=(a+b)/2)(hn':n=d+m)(hp:p=n-1)
 (F1:s0<=r0) (F2:a<=s0) (F3:r0<=m) (F4:r0<=d) (F5:n<=b+s0) (F6:s0=a\/n-s0=b) (F7:r0=m\/r0=d) (b1:s0<=s) (b3:s<=r0)
 (b4:yDA cmp M0 n s0 s) (b5:yDd cmp M0 p r0 s) (hz:z=n-s) (hl2:2<=l.length) (hr2:2<=r.length):∀x∈l.take (s-a)++r.take (z-m),∀y∈l.drop (s-a)++r.drop (z-m),tot (fE cmp) x y:=by
 have ha:=g.ha;have hm:=g.hm;have hb:=g.hb;have h0:=g.h0
 have hA:s-a=0\/r.length<=z-m\/∃u v,l[s-a-1]?=some u/\r[z-m]?=some v/\tot (fE cmp) u v:=by
  rcases b4 with e|⟨u,v,hu,hv,hlt⟩
  .rcases F6 with e2|e2
   .left;omega
   .right;left;omega
  .rcases zaB (s-a)with e|e
   .exact .inl e
   rcases zas (z-m) r.length with e2|e2
   .right;right
    have hu':l[s-a-1]?=some u:=by rw[h0,yui (t:=s-a-1) (by omega) (by omega)]at hu;exact hu
    have hv':r[z-m]?=some v:=by rw[h0,yt7 (t:=z-m) (by omega) (by omega)]at hv;exact hv
    exact⟨u,v,hu',hv',yCn (g.cr u (zac hu') v (zac hv')) hlt⟩
   .exact .inr (.inl e2)
 have hB:z-m=0\/l.length<=s-a\/∃u v,r[z-m-1]?=some u/\l[s-a]?=some v/\tot (fE cmp) u v:=by
  rcases b5 with e|⟨u,v,hu,hv,hlt⟩
  .rcases F7 with e2|e2
   .right;left;omega
   .left;omega
  .rcases zaB (z-m)with e|e
   .exact .inl e
   rcases zas (s-a) l.length with e2|e2
   .right;right
    have hu':l[s-a]?=some u:=by rw[h0,yui (t:=s-a) (by omega) (by omega)]at hu;exact hu
    have hv':r[z-m-1]?=some v:=by rw[h0,yt7 (t:=z-m-1) (by omega) (by omega)]at hv;exact hv
    exact⟨v,u,hv',hu',.inl hlt⟩
   .exact .inr (.inl e2)
 exact yGQ h g.sl g.sr g.ol g.or hA hB
def yEn(h:SWO (fE cmp) S){A l r B o M0 M1:List Nat}{a m b N d n p s0 r0 s z:Nat}(g:MG (fE cmp) S A l r B o M0 M1 a m b N)(hd:d=(a+b)/2)(hn':n=d+m)(hp:p=n-1)
 (F1:s0<=r0) (F2:a<=s0) (F3:r0<=m) (F4:r0<=d) (F5:n<=b+s0) (F6:s0=a\/n-s0=b) (F7:r0=m\/r0=d) (b1:s0<=s) (b3:s<=r0)
 (b4:yDA cmp M0 n s0 s) (b5:yDd cmp M0 p r0 s) (hz:z=n-s) (hl2:2<=l.length) (hr2:2<=r.length):
 ∃l1 l2 r1 r2 o1 o2 Mr M2:List Nat,Mr.length=N/\M2.length=N/\l1.length=s-a/\l2.length=m-s/\r1.length=z-m/\r2.length=b-z/\
  (M0=gQ (A++l1) l2 r1 (r2++B)/\Mr=gQ (A++l1) r1 l2 (r2++B))/\
  (a<s->m<z->MG (fE cmp) S A l1 r1 (l2++(r2++B)) o1 Mr M2 a s d N)/\(s<m->z<b->MG (fE cmp) S (A++o1) l2 r2 B o2 M2 M1 d z b N)/\
  (m<=s\/z<=m->M0=Mr)/\(s<=a\/z<=m->Mr=M2)/\(m<=s\/b<=z->M2=M1):=by
 have hN:=g.hN;have ha:=g.ha;have hm:=g.hm;have hb:=g.hb;have h0:=g.h0;have h1:=g.h1;have hNl:A.length+l.length+r.length+B.length=N:=by rw[hN,h0,bU]
 have el:l.take (s-a)++l.drop (s-a)=l:=zav _ _;have er:r.take (z-m)++r.drop (z-m)=r:=zav _ _;have sl1:∀x∈l.take (s-a),S x:=λx hx=>g.sl x (zaw hx);have sl2:∀x∈l.drop (s-a),S x:=λx hx=>g.sl x (zaO hx);have sr1:∀x∈r.take (z-m),S x:=λx hx=>g.sr x (zaw hx);have sr2:∀x∈r.drop (z-m),S x:=λx hx=>g.sr x (zaO hx);have ol:=g.ol;have or:=g.or;rw[<-el,zaS]at ol;rw[<-er,zaS]at or;have cross:=yEM h g hd hn' hp F1 F2 F3 F4 F5 F6 F7 b1 b3 b4 b5 hz hl2 hr2;have zb:m<=z/\z<=b/\s<=m/\a<=s/\s+z=d+m:=by omega
 obtain⟨zb1,zb2,zb3,zb4,zb5⟩:=zb;clear b4 b5 F1 F2 F3 F4 F5 F6 F7 b1 b3 hz hp hn' hd;obtain⟨o1,po1,so1⟩:=ytV h sl1 sr1 ol.1 or.1 (λx hx y hy=>g.cr x (zaw hx) y (zaw hy));obtain⟨o2,po2,so2⟩:=ytV h sl2 sr2 ol.2.1 or.2.1 (λx hx y hy=>g.cr x (zaO hx) y (zaO hy));have ho:=halves h g.sl g.sr g.po g.oo po1 so1 po2 so2 cross;have lo1:=po1.length_eq;have lo2:=po2.length_eq;have q1:(l.take (s-a)).length=s-a:=by rw[zaA];omega
 have q2:(l.drop (s-a)).length=m-s:=by rw[zaR];omega
 have q3:(r.take (z-m)).length=z-m:=by rw[zaA];omega
 have q4:(r.drop (z-m)).length=b-z:=by rw[zaR];omega
 rw[zah]at lo1 lo2
 have hM0:M0=gQ (A++l.take (s-a)) (l.drop (s-a)) (r.take (z-m)) (r.drop (z-m)++B):=by
  rw[h0];conv=>lhs;rw[<-el,<-er]
  simp only[gQ,zbh]
 have one1:l.take (s-a)=[]\/r.take (z-m)=[]->o1=l.take (s-a)++r.take (z-m):=λe=>by
  refine cZ h (S:=S) (λx hx=>?_) po1 so1 ?_
  .rcases zaj.1 (po1.mem_iff.1 hx)with hx|hx
   .exact sl1 x hx
   .exact sr1 x hx
  .rcases e with e|e<;>rw[e]
   .simpa using or.1
   .simpa using ol.1
 have one2:l.drop (s-a)=[]\/r.drop (z-m)=[]->o2=l.drop (s-a)++r.drop (z-m):=λe=>by
  refine cZ h (S:=S) (λx hx=>?_) po2 so2 ?_
  .rcases zaj.1 (po2.mem_iff.1 hx)with hx|hx
   .exact sl2 x hx
   .exact sr2 x hx
  .rcases e with e|e<;>rw[e]
   .simpa using or.2.1
   .simpa using ol.2.1
 generalize l.take (s-a)=l1 at *;generalize l.drop (s-a)=l2 at *;generalize r.take (z-m)=r1 at *;generalize r.drop (z-m)=r2 at *;have nil:∀{x:List Nat} {k:Nat},x.length=k->k=0->x=[]:=λh1 h2=>zay.1 (h1.trans h2);refine⟨l1,l2,r1,r2,o1,o2,gQ (A++l1) r1 l2 (r2++B),pM A o1 (l2++(r2++B)),?_,?_,q1,q2,q3,q4,⟨hM0,rfl⟩,λe1 e2=>?_,λe1 e2=>?_,λe=>?_,λe=>?_,λe=>?_⟩
 .rw[bU];simp only[zah];omega
 .rw[yc];simp only[zah];omega
 .exact⟨by omega,by omega,sl1,sr1,ol.1,or.1,λx hx y hy=>g.cr x (by rw[<-el];simp[hx]) y (by rw[<-er];simp[hy]),po1,so1,ha,by omega,by omega,by simp[gQ],rfl,by rw[bU];simp only[zah];omega,g.hn⟩
 .exact⟨by omega,by omega,sl2,sr2,ol.2.1,or.2.1,λx hx y hy=>g.cr x (by rw[<-el];simp[hx]) y (by rw[<-er];simp[hy]),po2,so2,by simp only[zah];omega,by omega,by omega,by simp[gQ,pM],by rw[h1,ho];simp[pM],by rw[yc];simp only[zah];omega,g.hn⟩
 .rw[hM0];rcases e with e|e
  .rw[nil q2 (by omega)];simp[gQ]
  .rw[nil q3 (by omega)];simp[gQ]
 .rcases e with e|e
  .rw[one1 (.inl (nil q1 (by omega)))];simp[gQ,pM]
  .rw[one1 (.inr (nil q3 (by omega)))];simp[gQ,pM]
 .rw[h1,ho];rcases e with e|e
  .rw[one2 (.inl (nil q2 (by omega)))];simp[pM]
  .rw[one2 (.inr (nil q4 (by omega)))];simp[pM]
def yFT(h:SWO (fE cmp) S)(hf:∃fn,Tryz.prog.funcs[f]?=some fn∧fn.body.isSome=true∧(fn.name != "runtime.NumGoroutine")=true)
 (hc:∀x y:Nat,S x->S y->qB prg f [.c (.i x),.c (.i y),.elt ca,.elt cb] (.c (.i (cmp x y)))) {A l r B o M0 M1:List Nat} {a m b N:Nat} (hl2:2<=l.length) (hr2:2<=r.length) (g:MG (fE cmp) S A l r B o M0 M1 a m b N)
 (ih:∀(A' l' r' B' o' M0' M1':List Nat) (a' m' b':Nat),l'.length+r'.length<l.length+r.length->MG (fE cmp) S A' l' r' B' o' M0' M1' a' m' b' N->
  InF prg 378 (.c (cw 1 (M0'.map kC))) (.c (cw 1 (M1'.map kC))) [.c (.i a'),.c (.i m'),.c (.i b'),.fn f [.elt ca,.elt cb]] (.tup [])):
 InF prg 378 (.c (cw 1 (M0.map kC))) (.c (cw 1 (M1.map kC))) [.c (.i a),.c (.i m),.c (.i b),.fn f [.elt ca,.elt cb]] (.tup []):=by
 obtain⟨hL,hN1,hbN⟩:=g.len1;have hN:=g.hN;have hn:=g.hn;have ha:=g.ha;have hm:=g.hm;have hb:=g.hb;have h0:=g.h0;have h1:=g.h1;have hNl:A.length+l.length+r.length+B.length=N:=by rw[hN,h0,bU]
 rw[kH (by rw[zal];omega),kH (by rw[zal,hL];omega)];refine aK aQ (by simp) (by simp) rfl λhwf=>?_;have e1:((m:Int)-a=1)=False:=by simp;omega
 have e2:((b:Int)-m=1)=False:=by simp;omega
 obtain⟨d,hd⟩:∃d,d=(a+b)/2:=⟨_,rfl⟩;obtain⟨n,hn'⟩:∃n,n=d+m:=⟨_,rfl⟩;obtain⟨p,hp⟩:∃p,p=n-1:=⟨_,rfl⟩;have en:((d:Int)+m)=(n:Int):=by omega
 have ep:((n:Int)-1)=(p:Int):=by omega
 have hf':∃fn,Tryz.prog.funcs[f]?=some fn∧fn.body.isSome=true∧¬fn.name= "runtime.NumGoroutine":=by simpa using hf
 obtain⟨s0,r0,hs1,hs2⟩:∃s0 r0:Nat,(d<m->s0=n-b/\r0=d)/\(m<=d->s0=a/\r0=m):=by
  rcases zas d m with q|q
  .exact⟨n-b,d,λ_=>⟨rfl,rfl⟩,λq2=>by omega⟩
  .exact⟨a,m,λq2=>by omega,λ_=>⟨rfl,rfl⟩⟩
 have F:s0<=r0/\a<=s0/\r0<=m/\r0<=d/\n<=b+s0/\(s0=a\/n-s0=b)/\(r0=m\/r0=d):=by
  rcases zas d m with q|q
  .obtain⟨z1,z2⟩:=hs1 q;omega
  .obtain⟨z1,z2⟩:=hs2 q;omega
 obtain⟨F1,F2,F3,F4,F5,F6,F7⟩:=F;simp -dsimp -implicitDefEqProofs [qK,e1,e2,ysg,<-hd,en,ep];refine⟨by unfold inI;omega,by unfold inI;omega,by unfold inI;omega,by omega,by omega,by unfold inI;omega,λhdm=>?_,λhdm=>?_⟩
 case' refine_1=>
  obtain⟨z1,er⟩:=hs1 hdm;have es:((n:Int)-b)=(s0:Int):=by omega
  refine⟨by unfold inI;omega,by unfold inI;omega,?_⟩;refine qA (ι:=Nat×Nat) (λz=>s0<=z.1/\z.1<=z.2/\z.2<=r0/\yDA cmp M0 n s0 z.1/\yDd cmp M0 p r0 z.2) (λz=>xC [(0,.own 0 1 N),(1,.c (.i a)),(2,.c (.i m)),(3,.c (.i b)),(4,.fn f [.elt ca,.elt cb]),(18,.c (.i d)),(19,.c (.i n)),(20,.c (.i z.1)),(21,.c (.i z.2)),(22,.c (.i p)),(1000000,.own 0 1 N)] [(0,.row 1 (M0.map kC))]) (λz=>z.2-z.1) (s0,r0) ⟨Nat.le_refl _,F1,Nat.le_refl _,.inl rfl,.inl rfl⟩ (by apply aB<;>simp[hN,es,er]) ?_
 case' refine_2=>
  obtain⟨es,er⟩:=hs2 hdm;refine⟨by unfold inI;omega,?_⟩;refine qA (ι:=Nat×Nat) (λz=>s0<=z.1/\z.1<=z.2/\z.2<=r0/\yDA cmp M0 n s0 z.1/\yDd cmp M0 p r0 z.2) (λz=>xC [(0,.own 0 1 N),(1,.c (.i a)),(2,.c (.i m)),(3,.c (.i b)),(4,.fn f [.elt ca,.elt cb]),(18,.c (.i d)),(19,.c (.i n)),(20,.c (.i z.1)),(21,.c (.i z.2)),(22,.c (.i p)),(1000000,.own 0 1 N)] [(0,.row 1 (M0.map kC))]) (λz=>z.2-z.1) (s0,r0) ⟨Nat.le_refl _,F1,Nat.le_refl _,.inl rfl,.inl rfl⟩ (by apply aB<;>simp[hN,es,er]) ?_
 all_goals
  rintro⟨s,e⟩ ⟨b1,b2,b3,b4,b5⟩
  simp only at b1 b2 b3 b4 b5;rcases zas s e with hlt|hge
  .obtain⟨k,hk⟩:∃k,k=(s+e)/2:=⟨_,rfl⟩;obtain⟨q,hq⟩:∃q,q=p-k:=⟨_,rfl⟩;have eq:((p:Int)-k)=(q:Int):=by omega
   obtain⟨u,hu⟩:∃u,l[k-a]?=some u:=⟨_,zab (by omega)⟩;obtain⟨v,hv⟩:∃v,r[q-m]?=some v:=⟨_,zab (by omega)⟩;have wu:M0[k]?=some u:=by rw[h0,yui (t:=k-a) (by omega) (by omega)];exact hu
   have wv:M0[q]?=some v:=by rw[h0,yt7 (t:=q-m) (by omega) (by omega)];exact hv
   have vu:=(zaa.1 wu).2;have vv:=(zaa.1 wv).2;have ku:k<N:=by rw[hN];exact(zaa.1 wu).1
   have kv:q<N:=by rw[hN];exact(zaa.1 wv).1
   have uS:=g.sl u (zac hu);have vS:=g.sr v (zac hv);simp -dsimp -implicitDefEqProofs [fC hlt,ysg,<-hk,eq,wu,vu,ku,wv,vv,kv,kC];refine⟨by unfold inI;omega,by omega,by omega,by unfold inI;omega,by omega,by omega,hf',?_⟩;refine lC (hc v u vS uS) (goQ_ ?_);refine⟨λhcm=>?_,λhcm=>?_⟩
   .have hcf:fE cmp v u=false:=by simpa[fE]using hcm
    refine⟨by unfold inI;omega,k+1,e,⟨by omega,by omega,b3,.inr ⟨u,v,wu,by rw[show n-(k+1)=q by omega];exact wv,hcf⟩,b5⟩,by omega,?_⟩;apply aB<;>simp
   .have hcf:fE cmp v u=true:=by simpa[fE]using hcm
    refine⟨s,k,⟨b1,by omega,by omega,b4,.inr ⟨u,v,wu,by rw[<-hq];exact wv,hcf⟩⟩,by omega,?_⟩;apply aB<;>simp
  .have hse:s=e:=by omega
   subst hse;obtain⟨z,hz⟩:∃z,z=n-s:=⟨_,rfl⟩;have ez:((n:Int)-s)=(z:Int):=by omega
   obtain⟨l1,l2,r1,r2,o1,o2,Mr,M2,p1⟩:=yEn h g hd hn' hp F1 F2 F3 F4 F5 F6 F7 b1 b3 b4 b5 hz hl2 hr2;obtain⟨hmr,hm2,hL1,hL2,hR1,hR2,hmr1,hmg1,hmg2,n1,n2,n3⟩:=p1;have hrot:=λ(c1:s<m) (c2:m<z)=>yLS (A++l1) l2 r1 (r2++B) M0 Mr hmr1.1 hmr1.2 s m z N (by omega) (by omega) (by simp;omega) (by omega) (by omega) hN hn f ca cb;have hm1:=λc1 c2=>ih _ _ _ _ _ _ _ _ _ _ (by omega) (hmg1 c1 c2);have hm2':=λc1 c2=>ih _ _ _ _ _ _ _ _ _ _ (by omega) (hmg2 c1 c2);clear hmg1 hmg2 ih;have lr:(Mr.map kC).length=N:=by rw[zal,hmr]
   have l0:(M0.map kC).length=N:=by rw[zal,hN]
   have lm2:(M2.map kC).length=N:=by rw[zal,hm2]
   have lm1:(M1.map kC).length=N:=by rw[zal,hL]
   cases hb1:decide (s<m)<;>cases hb2:decide (m<z)<;>cases hb5:decide (a<s)<;>cases hb6:decide (z<b)
   all_goals
    have hb3:decide (s<d)=decide (m<z):=decide_eq_decide.2 (by omega);have hb4:decide (d<z)=decide (s<m):=decide_eq_decide.2 (by omega);rw[hb2]at hb3;rw[hb1]at hb4;have c1:=hb1;have c2:=hb2;have c5:=hb5;have c6:=hb6;simp only[decide_eq_true_eq,decide_eq_false_iff_not,Nat.not_lt]at c1 c2 c5 c6
    first
     |(exfalso;omega)
     |skip
   all_goals
    try rw[n1 (by omega)]
    refine yafn ez hb1 hb2 hb3 hb4 hb5 hb6 ?_;refine⟨by unfold inI;omega,?_⟩
    try
     refine tH (up:=some (0,.row 1 (Mr.map kC))) (hrot c1 c2) (by simp) rfl rfl (qH (rows:=M0.map kC) (by simp) rfl rfl (by simp[l0]) (by simp[l0,lr]) rfl rfl) ?_;simp -dsimp -implicitDefEqProofs [hb1,hb2,hb3,hb4,hb5,hb6]
    try rw[n2 (by omega)]
    try
     refine tH (up:=some (0,.row 1 (M2.map kC))) (hm1 c5 c2) (by simp) rfl rfl (qH (rows:=Mr.map kC) (by simp) rfl rfl (by simp[lr]) (by simp[lm2,lr]) rfl rfl) ?_;simp -dsimp -implicitDefEqProofs [hb1,hb2,hb3,hb4,hb5,hb6]
    try rw[n3 (by omega)]
    try
     refine tH (up:=some (0,.row 1 (M1.map kC))) (hm2' c1 c6) (by simp) rfl rfl (qH (rows:=M2.map kC) (by simp) rfl rfl (by simp[lm2]) (by simp[lm2,lm1]) rfl rfl) ?_;simp -dsimp -implicitDefEqProofs [hb1,hb2,hb3,hb4,hb5,hb6]
    exact⟨by rw[zae (by rw[lm1];exact Nat.le_refl _)],by simp[ybG]⟩
def yCQ(h:SWO (fE cmp) S)(hf:∃fn,Tryz.prog.funcs[f]?=some fn∧fn.body.isSome=true∧(fn.name != "runtime.NumGoroutine")=true)
 (hc:∀x y:Nat,S x->S y->qB prg f [.c (.i x),.c (.i y),.elt ca,.elt cb] (.c (.i (cmp x y)))) {N:Nat}:∀(k:Nat) (A l r B o M0 M1:List Nat) (a m b:Nat),l.length+r.length<=k->MG (fE cmp) S A l r B o M0 M1 a m b N->
 InF prg 378 (.c (cw 1 (M0.map kC))) (.c (cw 1 (M1.map kC))) [.c (.i a),.c (.i m),.c (.i b),.fn f [.elt ca,.elt cb]] (.tup [])
 |0,A,l,r,B,o,M0,M1,a,m,b,hk,g=>by have:=g.pl;omega
 | k+1,A,l,r,B,o,M0,M1,a,m,b,hk,g=>by
  have pl:=g.pl;have pr:=g.pr;rcases zas l.length 2 with e|e
  .obtain⟨x,rfl⟩:=zbI.1 (show l.length=1 by omega);exact yFc h hf hc g
  rcases zas r.length 2 with e2|e2
  .obtain⟨y,rfl⟩:=zbI.1 (show r.length=1 by omega);exact yBr h hf hc e g
  exact yFT h hf hc e e2 g λA' l' r' B' o' M0' M1' a' m' b' hk' g'=>yCQ h hf hc k A' l' r' B' o' M0' M1' a' m' b' (by omega) g'
end
def bl(lt:Nat->Nat->Bool)(s:Nat):Nat->List Nat->List Nat
 |0,_=>[]
 |k+1,l=>sorted lt (l.take s)++bl lt s k (l.drop s)
def blk(lt:Nat->Nat->Bool)(s:Nat)(l:List Nat):List Nat:=bl lt s l.length l
section
variable {lt:Nat->Nat->Bool} {s:Nat}
def ym3:∀k:Nat,bl lt s k []=[]
 |0=>rfl
 |k+1=>by simp[bl,ym3 k,sorted,yeu]
def yyk(hs:1<=s):∀(k k':Nat) (l:List Nat),l.length<=k->l.length<=k'->bl lt s k l=bl lt s k' l
 |0,k',l,h,_=>by
  rw[zay.1 (show l.length=0 by omega),ym3,ym3]
 |k+1,0,l,_,h=>by rw[zay.1 (show l.length=0 by omega),ym3,ym3]
 | k+1,k'+1,l,h,h'=>by
  rcases zaB l.length with e|e
  .rw[zay.1 e,ym3,ym3]
  .unfold bl;rw[yyk hs k k' (l.drop s) (by rw[zaR];omega) (by rw[zaR];omega)]
def yf6(hs:1<=s)(l:List Nat):blk lt s l=sorted lt (l.take s)++blk lt s (l.drop s):=by
 rcases zaB l.length with e|e
 .rw[zay.1 e];simp[blk,bl,sorted,yeu]
 .unfold blk;rw[yyk hs l.length ((l.length-1)+1) l (by omega) (by omega)]
  show sorted lt (l.take s)++bl lt s (l.length-1) (l.drop s)=_
  rw[yyk hs (l.length-1) (l.drop s).length (l.drop s) (by rw[zaR];omega) (Nat.le_refl _)]
def ypX(hs:1<=s){l:List Nat}(h:l.length<=s):blk lt s l=sorted lt l:=by
 rw[yf6 hs,zae h,zbJ h];simp[blk,bl]
def ygv(hs:1<=s):∀(q:Nat) (u v:List Nat),u.length=q*s->v.length<=s->blk lt s (u++v)=blk lt s u++sorted lt v
 |0,u,v,h,hv=>by
  rw[zay.1 (show u.length=0 by omega),zcD,ypX hs hv];rfl
 |q+1,u,v,h,hv=>by
  rw[zej]at h;rw[yf6 hs (u++v),yf6 hs u,zdh (by omega),List.drop_append_of_le_length (by omega),ygv hs q (u.drop s) v (by rw[zaR];omega) hv,zbh]
def yfg(hs:1<=s):∀(k:Nat) (l:List Nat),l.length<=k->(blk lt s l).length=l.length
 |0,l,h=>by rw[zay.1 (show l.length=0 by omega)];rfl
 |k+1,l,h=>by
  rcases zaB l.length with e|e
  .rw[zay.1 e];rfl
  .rw[yf6 hs,zah,sorted_perm.length_eq,yfg hs k (l.drop s) (by rw[zaR];omega),zaA,zaR];omega
end
section
variable {cmp:Nat->Nat->Int} {S:Nat->Prop} {f:Nat} {ca cb:List C}
def ykQ(lt:Nat->Nat->Bool)(xs:List Nat)(a:Nat):List Nat:=blk lt 20 (xs.take a)++xs.drop a
def ykS(lt:Nat->Nat->Bool)(s:Nat)(xs:List Nat)(a:Nat):List Nat:=blk lt (2*s) (xs.take a)++blk lt s (xs.drop a)
def yj4{lt:Nat->Nat->Bool}{xs:List Nat}{a:Nat}:(ykQ lt xs a).length=xs.length:=by
 unfold ykQ;rw[zah,yfg (by omega) _ _ (Nat.le_refl _),zaA,zaR];omega
def ysK{lt:Nat->Nat->Bool}{s:Nat}{xs:List Nat}{a:Nat}(hs:1<=s):(ykS lt s xs a).length=xs.length:=by
 unfold ykS;rw[zah,yfg (by omega) _ _ (Nat.le_refl _),yfg hs _ _ (Nat.le_refl _),zaA,zaR];omega
def yEY{lt:Nat->Nat->Bool}{xs:List Nat}{a q:Nat}(ha:a=q*20)(h:a+20<=xs.length):
 ykQ lt xs a=pM (blk lt 20 (xs.take a)) ((xs.drop a).take 20) (xs.drop (a+20))/\ykQ lt xs (a+20)=pM (blk lt 20 (xs.take a)) (sorted lt ((xs.drop a).take 20)) (xs.drop (a+20)):=by
 have e:xs.take (a+20)=xs.take a++(xs.drop a).take 20:=zdF;refine⟨?_,?_⟩
 .unfold ykQ pM
  congr 1
  rw[<-zdd,zav]
 .unfold ykQ pM;rw[e,ygv (by omega) q _ _ (by rw[zaA];omega) (by rw[zaA];omega),zbh]
def yHd{lt:Nat->Nat->Bool}{xs:List Nat}{a q:Nat}(ha:a=q*20)(h:a<=xs.length)(h2:xs.length<a+20):
 ykQ lt xs a=pM (blk lt 20 (xs.take a)) (xs.drop a) []/\blk lt 20 xs=pM (blk lt 20 (xs.take a)) (sorted lt (xs.drop a)) []:=by
 refine⟨by simp[ykQ,pM],?_⟩
 conv=>lhs;rw[<-zav a xs]
 rw[ygv (by omega) q _ _ (by rw[zaA];omega) (by rw[zaR];omega)];simp[pM]
def yxC(h:SWO (fE cmp) S){xs:List Nat}(hS:∀x∈xs,S x)(hup:xs.Pairwise (·<·)){a q s N:Nat}(hs:1<=s)(ha:a=q*(2*s)){b:Nat}(hb:b=if a+2*s<=xs.length then a+2*s else xs.length)(h2:a+s<xs.length)(hN:N=xs.length)(hn:N<=1048576):
 MG (fE cmp) S (blk (fE cmp) (2*s) (xs.take a)) (sorted (fE cmp) ((xs.drop a).take s)) (sorted (fE cmp) ((xs.drop (a+s)).take s)) (blk (fE cmp) s (xs.drop (a+2*s))) (sorted (fE cmp) ((xs.drop a).take (2*s)))
  (ykS (fE cmp) s xs a) (if a+2*s<=xs.length then ykS (fE cmp) s xs (a+2*s)else blk (fE cmp) (2*s) xs) a (a+s) b N:=by
 have lA:(blk (fE cmp) (2*s) (xs.take a)).length=a:=by rw[yfg (by omega) _ _ (Nat.le_refl _),zaA];omega
 have l1:((xs.drop a).take s).length=s:=by rw[zaA,zaR];omega
 have l2:((xs.drop (a+s)).take s).length=b-(a+s):=by rw[zaA,zaR,hb];split<;>omega
 have hb2:a+s<b:=by rw[hb];split<;>omega
 have e2:(xs.drop a).take (2*s)=(xs.drop a).take s++(xs.drop (a+s)).take s:=by
  rw[show 2*s=s+s by omega,zdF,zdd]
 have sub:∀{l:List Nat},l.Sublist xs->(∀x∈l,S x)/\l.Pairwise (·<·):=λhl=>⟨λx hx=>hS x (hl.subset hx),hup.sublist hl⟩;have c1:=sub ((zdz s (xs.drop a)).trans (zdB a xs));have c2:=sub ((zdz s (xs.drop (a+s))).trans (zdB (a+s) xs));have c3:=sub ((zdz (2*s) (xs.drop a)).trans (zdB a xs));have p1:=sorted_perm (lt:=fE cmp) (xs:=(xs.drop a).take s);have p2:=sorted_perm (lt:=fE cmp) (xs:=(xs.drop (a+s)).take s);have p3:=sorted_perm (lt:=fE cmp) (xs:=(xs.drop a).take (2*s))
 have hM0:ykS (fE cmp) s xs a=gQ (blk (fE cmp) (2*s) (xs.take a)) (sorted (fE cmp) ((xs.drop a).take s)) (sorted (fE cmp) ((xs.drop (a+s)).take s)) (blk (fE cmp) s (xs.drop (a+2*s))):=by
  unfold ykS gQ;rw[yf6 hs (xs.drop a),zdd,yf6 hs (xs.drop (a+s)),zdd,show a+s+s=a+2*s by omega]
 have c3u:=c3.2;rw[e2,zaS]at c3u;refine⟨by rw[p1.length_eq];omega,by rw[p2.length_eq];omega,λx hx=>c1.1 x (p1.mem_iff.1 hx),λx hx=>c2.1 x (p2.mem_iff.1 hx),yna h c1.1 c1.2,yna h c2.1 c2.2,λx hx y hy=>c3u.2.2 x (p1.mem_iff.1 hx) y (p2.mem_iff.1 hy),?_,yna h c3.1 c3.2,lA.symm,by rw[p1.length_eq,l1],by rw[p2.length_eq,l2];omega,hM0,?_,by rw[ysK hs];exact hN,hn⟩
 .refine p3.trans ?_;rw[e2];exact(p1.append p2).symm
 .split
  .rename_i hle;unfold ykS pM;rw[show xs.take (a+2*s)=xs.take a++(xs.drop a).take (2*s)from zdF,ygv (by omega) q _ _ (by rw[zaA];omega) (by rw[zaA];omega),zbh]
  .rename_i hle;have e3:(xs.drop a).take (2*s)=xs.drop a:=zae (by rw[zaR];omega);rw[e3,show xs.drop (a+2*s)=[]from zbJ (by omega)]
   conv=>lhs;rw[<-zav a xs]
   rw[ygv (by omega) q _ _ (by rw[zaA];omega) (by rw[zaR];omega)];simp[pM,blk,bl]
def yF0{lt:Nat->Nat->Bool}{xs:List Nat}{a q s:Nat}(hs:1<=s)(ha:a=q*(2*s))(h1:a<=xs.length)(h2:xs.length<=a+s):ykS lt s xs a=blk lt (2*s) xs:=by
 unfold ykS
 conv=>rhs;rw[<-zav a xs]
 rw[ygv (by omega) q _ _ (by rw[zaA];omega) (by rw[zaR];omega),ypX hs (by rw[zaR];omega)]
def yER(h:SWO (fE cmp) S)(hf:∃fn,Tryz.prog.funcs[f]?=some fn∧fn.body.isSome=true∧(fn.name != "runtime.NumGoroutine")=true)
 (hc:∀x y:Nat,S x->S y->qB prg f [.c (.i x),.c (.i y),.elt ca,.elt cb] (.c (.i (cmp x y)))) (xs:List Nat) (hS:∀x∈xs,S x) (hup:xs.Pairwise (·<·)) (N:Nat) (hN:N=xs.length) (hn1:1<=N) (hn2:N<=1048576):
 InF prg 350 (.c (cw 1 (xs.map kC))) (.c (cw 1 ((sorted (fE cmp) xs).map kC))) [.c (.i N),.fn f [.elt ca,.elt cb]] (.tup []):=by
 have hpl:(sorted (fE cmp) xs).length=xs.length:=sorted_perm.length_eq;rw[kH (by simp;omega),kH (by rw[zal,hpl];omega)];refine aK nS (by simp) (by simp) rfl λhwf=>?_;have i0:ykQ (fE cmp) xs 0=xs:=by simp[ykQ,blk,bl]
 refine goQ_ ?_;refine qA (ι:=Nat×Nat×Nat) (λz=>z.1=z.2.2*20/\z.2.1=z.1+20/\z.1<=N) (λz=>xC [(0,.own 0 1 N),(1,.c (.i N)),(2,.fn f [.elt ca,.elt cb]),(6,.c (.i 20)),(7,.c (.i z.1)),(8,.c (.i z.2.1)),(1000000,.own 0 1 N)] [(0,.row 1 ((ykQ (fE cmp) xs z.1).map kC))]) (λz=>N-z.1) (0,20,0) ⟨rfl,rfl,zbu _⟩ (by apply aB<;>simp[hN,i0]) ?_
 rintro⟨a,b,q⟩ ⟨h1,h2,h3⟩
 simp only at h1 h2 h3;have lA:(blk (fE cmp) 20 (xs.take a)).length=a:=by rw[yfg (by omega) _ _ (Nat.le_refl _),zaA];omega
 rcases zas N b with hlt|hge
 .have q1:((b:Int)<=(N:Int))=False:=by simp;omega
  have q1':(b<=N)=False:=by simp;omega
  obtain⟨e1,e2⟩:=yHd (lt:=fE cmp) (xs:=xs) h1 (by omega) (by omega);have hi:=yvh cmp _ _ _ _ _ e1 e2 a N N lA.symm (by rw[zaR];omega) (by rw[yj4];exact hN) hn1 hn2 f ca cb hf (λx y hx hy=>hc x y (hS x (zaO hx)) (hS y (zaO hy)));have lb:(blk (fE cmp) 20 xs).length=N:=by rw[yfg (by omega) _ _ (Nat.le_refl _)];exact hN.symm
  have ls:(ykQ (fE cmp) xs a).length=N:=by rw[yj4];exact hN.symm
  refine yaed q1 q1' ?_;refine tH (up:=some (0,.row 1 ((blk (fE cmp) 20 xs).map kC))) hi (by simp) rfl rfl (qH (rows:=(ykQ (fE cmp) xs a).map kC) (by simp) rfl rfl (by simp[ls]) (by simp[ls,lb]) rfl rfl) (goQ_ ?_);refine qA (ι:=Nat) (λs=>20<=s/\s<=2*N+20) (λs=>xC [(0,.own 0 1 N),(1,.c (.i N)),(2,.fn f [.elt ca,.elt cb]),(6,.c (.i s)),(1000000,.own 0 1 N)] [(0,.row 1 ((blk (fE cmp) s xs).map kC))]) (λs=>N-s) 20 ⟨Nat.le_refl _,by omega⟩ (by apply aB<;>simp) ?_
  rintro s ⟨s1,s2⟩
  rcases zas s N with slt|sge
  .obtain⟨t,ht⟩:∃t,t=2*s:=⟨_,rfl⟩;have et:2*(s:Int)=(t:Int):=by omega
   have et2:(s:Int)*2=(t:Int):=by omega
   have i2:ykS (fE cmp) s xs 0=blk (fE cmp) s xs:=by simp[ykS,blk,bl]
   refine yaed (fC slt) et ?_;refine⟨by unfold inI;omega,?_⟩;refine qA (ι:=Nat×Nat×Nat) (λz=>z.1=z.2.2*(2*s)/\z.2.1=z.1+2*s/\z.1<=N) (λz=>xC [(0,.own 0 1 N),(1,.c (.i N)),(2,.fn f [.elt ca,.elt cb]),(6,.c (.i s)),(7,.c (.i z.1)),(8,.c (.i z.2.1)),(1000000,.own 0 1 N)] [(0,.row 1 ((ykS (fE cmp) s xs z.1).map kC))]) (λz=>N-z.1) (0,t,0) ⟨by simp,by simp only;omega,zbu _⟩ (by apply aB<;>simp[i2]) ?_
   rintro⟨a,b,q⟩ ⟨h1,h2,h3⟩
   simp only at h1 h2 h3;obtain⟨m,hm⟩:∃m,m=a+s:=⟨_,rfl⟩;have em:((a:Int)+s)=(m:Int):=by omega
   have ls:(ykS (fE cmp) s xs a).length=N:=by rw[ysK (by omega)];exact hN.symm
   have lb:(blk (fE cmp) t xs).length=N:=by rw[yfg (by omega) _ _ (Nat.le_refl _)];exact hN.symm
   rcases zas N b with blt|bge
   .have q2:((b:Int)<=(N:Int))=False:=by simp;omega
    have q2':(b<=N)=False:=by simp;omega
    rcases zas m N with mlt|mge
    .have g:=yxC h hS hup (by omega) h1 (b:=N) (N:=N) (by rw[if_neg (by omega)];exact hN) (by omega) hN hn2;rw[if_neg (by omega),<-hm,<-ht]at g;have hms:=yCQ h hf hc _ _ _ _ _ _ _ _ _ _ _ (Nat.le_refl _) g;refine yaeV q2 q2' em (fC mlt) ?_;refine⟨by unfold inI;omega,?_⟩;refine tH (up:=some (0,.row 1 ((blk (fE cmp) t xs).map kC))) hms (by simp) rfl rfl (qH (rows:=(ykS (fE cmp) s xs a).map kC) (by simp) rfl rfl (by simp[ls]) (by simp[ls,lb]) rfl rfl) (yafw et2 ?_);refine⟨by unfold inI;omega,t,⟨by omega,by omega⟩,by omega,?_⟩;apply aB<;>simp
    .have e:=yF0 (lt:=fE cmp) (xs:=xs) (s:=s) (by omega) h1 (by omega) (by omega);rw[<-ht]at e;rw[e];refine yaff q2 q2' em (aG mge) et2 ?_;refine⟨by unfold inI;omega,by unfold inI;omega,t,⟨by omega,by omega⟩,by omega,?_⟩;apply aB<;>simp
   .have q2:((b:Int)<=(N:Int))=True:=by simp;omega
    have q2':(b<=N)=True:=by simp;omega
    have g:=yxC h hS hup (by omega) h1 (b:=b) (N:=N) (by rw[if_pos (by omega)];exact h2) (by omega) hN hn2;rw[if_pos (by omega),<-hm,<-h2]at g;have hms:=yCQ h hf hc _ _ _ _ _ _ _ _ _ _ _ (Nat.le_refl _) g;have ls2:(ykS (fE cmp) s xs b).length=N:=by rw[ysK (by omega)];exact hN.symm
    obtain⟨b2,hb2⟩:∃b2,b2=b+t:=⟨_,rfl⟩;have eb2:((b:Int)+t)=(b2:Int):=by omega
    refine yaeT q2 q2' em ?_;refine⟨by unfold inI;omega,?_⟩;refine tH (up:=some (0,.row 1 ((ykS (fE cmp) s xs b).map kC))) hms (by simp) rfl rfl (qH (rows:=(ykS (fE cmp) s xs a).map kC) (by simp) rfl rfl (by simp[ls]) (by simp[ls,ls2]) rfl rfl) (yaed et eb2 ?_);refine⟨by unfold inI;omega,by unfold inI;omega,b,b2,⟨⟨q+1,by rw[zej];omega⟩,by omega,bge⟩,by omega,?_⟩;apply aB<;>simp
  .have e:blk (fE cmp) s xs=sorted (fE cmp) xs:=ypX (by omega) (by omega);rw[e];refine yafw (aG sge) ?_;exact⟨by rw[zae (by rw[zal,hpl];omega)],by simp[ybG]⟩
 .have q1:((b:Int)<=(N:Int))=True:=by simp;omega
  have q1':(b<=N)=True:=by simp;omega
  obtain⟨e1,e2⟩:=yEY (lt:=fE cmp) (xs:=xs) h1 (by omega);rw[<-h2]at e1 e2;have hi:=yvh cmp _ _ _ _ _ e1 e2 a b N lA.symm (by rw[zaA,zaR];omega) (by rw[yj4];exact hN) hn1 hn2 f ca cb hf (λx y hx hy=>hc x y (hS x (zaO (zaw hx))) (hS y (zaO (zaw hy))));have ls:(ykQ (fE cmp) xs a).length=N:=by rw[yj4];exact hN.symm
  have lb:(ykQ (fE cmp) xs b).length=N:=by rw[yj4];exact hN.symm
  obtain⟨b2,hb2⟩:∃b2,b2=b+20:=⟨_,rfl⟩;have eb2:((b:Int)+20)=(b2:Int):=by omega
  refine yaed q1 q1' ?_;refine tH (up:=some (0,.row 1 ((ykQ (fE cmp) xs b).map kC))) hi (by simp) rfl rfl (qH (rows:=(ykQ (fE cmp) xs a).map kC) (by simp) rfl rfl (by simp[ls]) (by simp[ls,lb]) rfl rfl) (yafw eb2 ?_);refine⟨by unfold inI;omega,b,b2,⟨⟨q+1,by rw[zej];omega⟩,by omega,hge⟩,by omega,?_⟩;apply aB<;>simp
def yHM(h:SWO (fE cmp) S)(hf:∃fn,Tryz.prog.funcs[f]?=some fn∧fn.body.isSome=true∧(fn.name != "runtime.NumGoroutine")=true)
 (hc:∀x y:Nat,S x->S y->qB prg f [.c (.i x),.c (.i y),.elt ca,.elt cb] (.c (.i (cmp x y)))) (xs:List Nat) (hS:∀x∈xs,S x) (hup:xs.Pairwise (·<·)) (hn1:1<=xs.length) (hn2:xs.length<=1048576):
 InF prg 257 (.c (cw 1 (xs.map kC))) (.c (cw 1 ((sorted (fE cmp) xs).map kC))) [.fn f [.elt ca,.elt cb]] (.tup []):=by
 have hpl:(sorted (fE cmp) xs).length=xs.length:=sorted_perm.length_eq;have hi:=yER h hf hc xs hS hup xs.length rfl hn1 hn2;have hcw:cw 1 ((sorted (fE cmp) xs).map kC)=.ow 1 ((sorted (fE cmp) xs).map kC):=kH (by rw[zal,hpl];omega);have hcw0:cw 1 (xs.map kC)=.ow 1 (xs.map kC):=kH (by simp;omega);rw[hcw,hcw0];refine aK iM (by simp) (by simp) rfl λhwf=>?_;refine goQ_ ?_;intro _;refine tH (up:=some (0,.row 1 ((sorted (fE cmp) xs).map kC))) hi (by simp) rfl rfl (qH (rows:=xs.map kC) (by simp) rfl rfl (by simp) (by simp[hpl]) rfl rfl) (goQ_ ?_);exact⟨by rw[zae (by rw[zal,hpl];exact Nat.le_refl _)],by simp[ybG]⟩
end
end
end Go.Proofs.YtdadkiofenhnbaaGreat
