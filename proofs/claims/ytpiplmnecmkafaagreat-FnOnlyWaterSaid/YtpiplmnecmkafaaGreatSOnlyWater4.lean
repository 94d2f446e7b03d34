/- What the law FnOnlyWater stands on: contracts of functions, what each answers as plain Lean, in short form (names, layout). -/
import Derived.Test.YtpiplmnecmkafaaGreatSOnlyWater3
set_option linter.all false
namespace Go.Proofs.YtpiplmnecmkafaaGreat
open Go.RowKit
open Go.ChangeShapes Go.WideShapes
theorem yeQ{x:Waterway}{q:Int}(h:Idle x):Idle (kG x q):=by
 unfold kG;split
 ·exact⟨h.mv,h.wk⟩
 ·exact h
theorem yfH{q:Int}{rs:List Reach}{ws:List Work}(h:∀w∈ws,w.Calls=[]/\w.Lock.Inside=[]/\w.Lock.Gate=0):∀k:Nat,k<=ws.length->∀w∈(jE q rs ws k).2,w.Calls=[]/\w.Lock.Inside=[]/\w.Lock.Gate=0
 |0,_=>h
 | k+1,hk=>by
  intro w hw;have ih:=yfH (q:=q) (rs:=rs) h k (by omega);have l2:=(lT (q:=q) (rs:=rs) (ws:=ws) k).2;rcases zaJ hw with e|e
  ·exact ih w e
  ·rw[e];have t:=ih (dW (jE q rs ws k).2 k) (zac (ynu (by omega)));exact t
theorem ybF{x:Waterway}{q:Int}(h:Idle x):Idle (oG x q):=by
 unfold oG;split
 ·exact⟨h.mv,yfH h.wk _ (Nat.le_refl _)⟩
 ·exact h
def yaj(x:Waterway)(q:Int):Bool:=xB x&& !decide (x.Time=1000000)&&inRange q 0 1000000000
def yaS(x:Waterway)(q:Int):Waterway:=if yaj x q then oG (kG x q) q else x
theorem ykM{x:Waterway}{q:Int}(h:yaj x q=false):yaS x q=x:=by simp[yaS,h]
theorem ype{x:Waterway}{q:Int}(h:x.small):(yaS x q).small:=by
 unfold yaS;split
 ·exact yci (ybr h)
 ·exact h
theorem yrm{x:Waterway}{q:Int}(h:Idle x):Idle (yaS x q):=by
 unfold yaS;split
 ·exact ybF (yeQ h)
 ·exact h
set_option maxRecDepth 20000 in
theorem yt7(x:Waterway)(q:Int)(hs:x.small)(hi:Idle x):lC Tryz.prog 32 [.agg (x.enc.map .c),.c (.i q)] (.agg ((yaS x q).enc.map .c)):=by
 have hp:=yyP x q hs;have hst:=yuc (kG x q) q (ybr hs);have hsl:=yvf (oG (kG x q) q) (yci (ybr hs)) (ybF (yeQ hi));have ha:=λk=>yxz (oG (kG x q) q) k (yci (ybr hs)) (ybF (yeQ hi));refine qB ynz ?_;simp -dsimp -implicitDefEqProofs;refine mF (lH x hs) (by simp -dsimp -implicitDefEqProofs) rfl ?_;cases h:xB x with
 |false=>simp -dsimp -implicitDefEqProofs;simp[ykM,yaj,h]
 |true=>
 simp -dsimp -implicitDefEqProofs;refine⟨λht=>?_,λht=>?_⟩
 rotate_left
 ·simp[ykM,yaj,ht]
 refine mF (gB q 0 1000000000) (by simp -dsimp -implicitDefEqProofs) rfl ?_;cases hq:inRange q 0 1000000000 with
 |false=>simp -dsimp -implicitDefEqProofs;simp[ykM,yaj,hq]
 |true=>
 have e:yaS x q=oG (kG x q) q:=by simp[yaS,yaj,h,ht,hq]
 rw[e];generalize kG x q=u at *;generalize oG u q=v at *;simp -dsimp -implicitDefEqProofs;refine nI (hp) (by simp -dsimp -implicitDefEqProofs) rfl ?_;simp -dsimp -implicitDefEqProofs;refine nI (hst) (by simp -dsimp -implicitDefEqProofs) rfl ?_;simp -dsimp -implicitDefEqProofs;refine nI (hsl) (by simp -dsimp -implicitDefEqProofs) rfl ?_;simp -dsimp -implicitDefEqProofs;intro hlen;refine qA (ι:=Nat) (λk=>k<=x.Works.length) (λk=>rD [(4,.box 4 0),(5,.box 5 0),(29,.c (.i x.Works.length)),(30,.c (.i k))] [(4,.box [.c (.i 0),.nil 3,.nil 2,.nil 22,.nil 1,.nil 2,.nil 1,.c (.i 0),.c (.i 0),.nil 1,.nil 1,.nil 5,.nil 4,.c (.i 0),.c (.i 0),.c (.i 0)]),(5,.box (v.enc.map .c))]) (λk=>x.Works.length-k) 0 (by simp) (by apply dB<;>simp) ?_
 rintro k hk
 rcases zah k x.Works.length with klt|kge
 ·simp -dsimp -implicitDefEqProofs [kD klt];refine nI (ha k) (by simp -dsimp -implicitDefEqProofs) rfl ?_;simp -dsimp -implicitDefEqProofs;refine⟨aC klt hlen,k+1,klt,by omega,?_⟩;apply dB<;>simp
 ·simp -dsimp -implicitDefEqProofs [eH kge]
def yew(x:Waterway)(q:Int):Nat->Waterway
 |0=>x
 |k+1=>yaS (yew x q k) q
theorem ye8{x:Waterway}{q:Int}(h:x.small):∀k:Nat,(yew x q k).small
 |0=>h
 |k+1=>ype (ye8 h k)
theorem ynL{x:Waterway}{q:Int}(h:Idle x):∀k:Nat,Idle (yew x q k)
 |0=>h
 |k+1=>yrm (ynL h k)
theorem yxb(x:Waterway)(q:Int)(hs:x.small)(hi:Idle x):lC Tryz.prog 13 [.agg (x.enc.map .c),.c (.i q),.c (.i 30)] (.agg ((yew x q 30).enc.map .c)):=by
 refine pM.pure (res:=.agg ((yew x q 30).iE.map .c)) ?_ (by simp[AV.shr,AV.ygz,mM,C.shr,bT Reach.oH,bT Work.oH,bT ycR,bT Train.oH,bT Passing.oH]);refine mG ydj ?_;simp -dsimp -implicitDefEqProofs;refine mF (gB 30 0 2000) (by simp -dsimp -implicitDefEqProofs) rfl ?_;have hin:inRange 30 0 2000=true:=by decide
 simp -dsimp -implicitDefEqProofs [hin];refine qA (ι:=Nat) (λk=>k<=30) (λk=>rD [(1,.c (.i q)),(3,.box 3 0),(6,.box 6 0),(9,.c (.i 30)),(10,.c (.i k))] [(3,.box ((yew x q k).enc.map .c)),(6,.box [.c (.i 0),.nil 3,.nil 2,.nil 22,.nil 1,.nil 2,.nil 1,.c (.i 0),.c (.i 0),.nil 1,.nil 1,.nil 5,.nil 4,.c (.i 0),.c (.i 0),.c (.i 0)])]) (λk=>30-k) 0 (by simp) (by apply dB<;>simp[yew]) ?_
 rintro k hk
 have sk:=ye8 (q:=q) hs k;rcases zah k 30 with klt|kge
 ·have t1:((k:Int)<30)=True:=eq_true (by omega);have hc:=yt7 (yew x q k) q sk (ynL hi k);have e:yew x q (k+1)=yaS (yew x q k) q:=rfl;rw[<-e]at hc;generalize yew x q (k+1)=v at *;simp -dsimp -implicitDefEqProofs [t1];refine nI (hc) (by simp -dsimp -implicitDefEqProofs) rfl ?_;simp -dsimp -implicitDefEqProofs;refine⟨by unfold inI;omega,k+1,klt,by omega,?_⟩;have e2:yew x q (k+1)=v:=e.symm▸rfl;apply dB<;>simp[e2]
 ·obtain rfl:k=30:=by omega
  simp -dsimp -implicitDefEqProofs;refine rG (yhl _ sk) (by simp) (yZ (Waterway.lF _)) (by simp[tC]) ?_;simp -dsimp -implicitDefEqProofs [aB]
def yco(rs:List Reach)(ws:List Way)(wk:List Work)(t:Tariff):Waterway:=⟨0,rs,ws,wk,List.replicate rs.length [],[],[],t,[],[],0,0,0⟩
def ycP(rs:List Reach)(ws:List Way)(wk:List Work)(t:Tariff):Waterway:=⟨0,rs,ws,wk,List.replicate rs.length [],[],[],t,[],[],qG (yco rs ws wk t),0,0⟩
def lQ(w:Work):Bool:=decide (w.Lock.Inside.length=0)&&decide (w.Calls.length=0)
def ycm:Waterway:=⟨0,[],[],[],[],[],[],⟨0,0,[],[]⟩,[],[],0,0,0⟩
def eG(rs:List Reach)(ws:List Way)(wk:List Work)(t:Tariff):Waterway×Bool:=
 if wk.all lQ&&xB (ycP rs ws wk t)then(ycP rs ws wk t,true)else(ycm,false)
theorem yjY{rs:List Reach}{ws:List Way}{wk:List Work}{t:Tariff}(h1:dJ rs)(h2:yT ws)(h3:qM wk)(h4:t.small):(yco rs ws wk t).small:=by
 have e:∀{α:Type} {p:α->Prop},lN p []:=λ{_ _}=>⟨by simp,λx hx=>by simp at hx⟩;exact⟨h1,h2,h3,⟨by simpa[yco]using h1.1,λl hl=>by rw[(zbq.1 hl).2];exact e⟩,e,e,h4,e,e⟩
theorem yjV{rs:List Reach}{ws:List Way}{wk:List Work}{t:Tariff}(h1:dJ rs)(h2:yT ws)(h3:qM wk)(h4:t.small):(ycP rs ws wk t).small:=yjY h1 h2 h3 h4
theorem yyH{rs:List Reach}{ws:List Way}{wk:List Work}{t:Tariff}(h:wk.all lQ=false):eG rs ws wk t=(ycm,false):=by simp only[eG,h,zbm];rfl
theorem yuQ{rs:List Reach}{ws:List Way}{wk:List Work}{t:Tariff}(h:xB (ycP rs ws wk t)=false):eG rs ws wk t=(ycm,false):=by simp only[eG,h,zbc];rfl
def vAt(l:List Int)(k:Nat):Int:=l[k]?.getD 0
def iW(l:List Int):Nat->Nat
 |0=>0
 |k+1=>if vAt l (iW l k)<vAt l k then k else iW l k
theorem ynN{l:List Int}{k:Nat}:iW l (k+1)=if vAt l (iW l k)<vAt l k then k else iW l k:=rfl
theorem ykg{l:List Int}(h:0<l.length):∀{k:Nat},k<=l.length->iW l k<l.length
 |0,_=>h
 |k+1,hk=>by
  rw[ynN];split
  ·omega
  ·exact ykg h (by omega)
def ylw:Nat->List Int->List Int->List Int
 |0,out,_=>out
 |n+1,out,rest=>ylw n (out.set (iW rest rest.length) (vAt out (iW rest rest.length)+1)) (rest.set (iW rest rest.length) (-1))
def quota(t s w:Int):Int:=(t*w).tdiv s
def remn(t s w:Int):Int:=(t*w).tmod s
def yuC(t:Int)(ws:List Int):Bool:=inRange t 0 1000000000&&decide (1<=ws.length)&&decide (ws.length<=12)&&ws.all (λw=>inRange w 0 1000000)&&decide (ws.sum≠0)
def yye(t:Int)(ws:List Int):Int:=t-(ws.map (quota t ws.sum)).sum
def yrS(t:Int)(ws:List Int):List Int:=if yuC t ws then ylw (yye t ws).toNat (ws.map (quota t ws.sum)) (ws.map (remn t ws.sum))else[]
structure Picks(t:Int)(ws:List Int)(m:Nat)(out rest:List Int):Prop where
 lo:out.length=ws.length
 lr:rest.length=ws.length
 all:ylw m out rest=yrS t ws
 few:m<=12
 rng:∀x∈out,0<=x/\x<=1000000000000100-m
theorem Picks.next{t:Int}{ws:List Int}{m:Nat}{out rest:List Int}(h:Picks t ws (m+1) out rest)(hp:1<=ws.length):
 Picks t ws m (out.set (iW rest ws.length) (vAt out (iW rest ws.length)+1)) (rest.set (iW rest ws.length) (-1)):=by
 have hl:=h.lr;refine⟨by rw[zbB];exact h.lo,by rw[zbB];exact hl,?_,by have:=h.few;omega,λx hx=>?_⟩
 ·rw[<-h.all,ylw,hl]
 ·have e:((m+1:Nat):Int)=m+1:=by simp
  have r:=h.rng;rw[e]at r;rcases zaJ hx with hx|rfl
  ·have:=r x hx;omega
  ·have hlt:iW rest ws.length<out.length:=by rw[h.lo,<-hl];exact ykg (by omega) (by omega)
   have:=r (vAt out (iW rest ws.length)) (by unfold vAt;rw[zaa hlt];exact zbx hlt);omega
def lens(a b:Nat)(k:Nat):Int:=if k=0 then 0 else if k=1 then a else a+b
def fl{α:Type}(f:α->List Int)(l:List α)(k:Nat):List Int:=(l.take k).flatMap f
theorem ycx{α:Type}{f:α->List Int}{l:List α}:fl f l 0=[]:=rfl
theorem ybG{α:Type}{f:α->List Int}{l:List α}{k:Nat}{x:α}(h:l[k]?=some x):fl f l (k+1)=fl f l k++f x:=by
 unfold fl;rw[zar,h,zbU];simp
theorem yeW{α:Type}{f:α->List Int}{l:List α}{k:Nat}(h:l.length<=k):fl f l k=l.flatMap f:=by
 unfold fl;rw[zaf h]
theorem yfb{α:Type}{f:α->List Int}{l:List α}{k:Nat}{x:α}(h:l[k]?=some x):(fl f l k).length+(f x).length<=(l.flatMap f).length:=by
 have:l.flatMap f=fl f l (k+1)++(l.drop (k+1)).flatMap f:=by
  unfold fl;rw[<-zbU,zbd]
 rw[this,ybG h];simp only[zau];omega
def ybA(m:Mover):List Int:=kE m.Train
def yw(c:CallT):List Int:=kE c.Train
def qR(l:List Mover):List Int:=l.flatMap ybA
def yc8(w:Work):List Int:=w.Calls.flatMap yw++w.Lock.Inside.flatMap kE
def iV(x:Waterway):List Int:=x.Movers.flatMap qR++x.Works.flatMap yc8++x.Arrived.flatMap kE
theorem yk4(x:Waterway):(iV x).length=(x.Movers.flatMap qR).length+(x.Works.flatMap yc8).length+(x.Arrived.flatMap kE).length:=by
 simp only[iV,zau]
theorem cat3{A B D:List Int}:List.take (A.length+(B.length+D.length)) (List.map qC A++(List.map qC B++List.map qC D))=List.map qC (A++B++D):=by
 rw[zaf (by simp)];simp
set_option maxRecDepth 20000 in
theorem yjp(x:Waterway)(hs:x.small)(hB:(iV x).length<=1000000000):pM Tryz.prog 9 [.agg (x.enc.map .c)] (.c (.ow 1 ((iV x).map qC))):=by
 obtain⟨s1,s2,s3,s4,s5,s6,s7,s8,s9⟩:=hs;have hP:iV x=x.Movers.flatMap qR++x.Works.flatMap yc8++x.Arrived.flatMap kE:=rfl;rw[yk4]at hB;refine mG ygv ?_;simp -dsimp -implicitDefEqProofs;intro hlen;refine yE (k0:=1) 3 1 (by simp) (by simp) (by decide) ?_;refine qA (ι:=Nat) (λk=>k<=x.Movers.length) (λk=>rD [(1,.box 1 0),(3,.own 3 1 (fl qR x.Movers k).length),(17,.c (.sl 1 (x.Movers.map qE))),(18,.c (.i x.Movers.length)),(19,.c (.i k))] [(1,.box (x.enc.map .c)),(3,.row 1 ((fl qR x.Movers k).map qC))]) (λk=>x.Movers.length-k) 0 (by simp) (by apply dB<;>simp[ycx]) ?_
 rintro k hk
 rcases zah k x.Movers.length with klt|kge
 ·obtain⟨l,hl⟩:∃l,x.Movers[k]?=some l:=⟨_,zaa klt⟩;have hls:=s4.2 l (zac hl);have hb1:=yfb (f:=qR) hl;have e1:=ybG (f:=qR) hl;simp -dsimp -implicitDefEqProofs [hl,kD klt];intro hlen2;generalize fl qR x.Movers k=A at hb1 e1;refine qA (ι:=Nat) (λj=>j<=l.length) (λj=>rD [(1,.box 1 0),(3,.own 3 1 (A++fl ybA l j).length),(17,.c (.sl 1 (x.Movers.map qE))),(18,.c (.i x.Movers.length)),(19,.c (.i k)),(23,.c (.sl 3 (l.map Mover.enc))),(24,.c (.i l.length)),(25,.c (.i j))] [(1,.box (x.enc.map .c)),(3,.row 1 ((A++fl ybA l j).map qC))]) (λj=>l.length-j) 0 (by simp) (by apply dB<;>simp[ycx]) ?_
  rintro j hj
  rcases zah j l.length with jlt|jge
  ·obtain⟨m,hm⟩:∃m,l[j]?=some m:=⟨_,zaa jlt⟩;have hms:=hls.2 m (zac hm);have hb2:=yfb (f:=ybA) hm;have hb3:(qR l).length=(l.flatMap ybA).length:=rfl;have hb4:(ybA m).length=(kE m.Train).length:=rfl;simp -dsimp -implicitDefEqProofs [hl,hm,kD klt,kD jlt];refine xG (jY m.Train hms) ?_;simp -dsimp -implicitDefEqProofs;refine⟨by omega,aC jlt hlen2,j+1,jlt,by omega,?_⟩;apply dB<;>simp[ybG hm,ybA,zbp]
  ·simp -dsimp -implicitDefEqProofs [eH jge,hl];rw[yeW jge];have e2:A++l.flatMap ybA=fl qR x.Movers (k+1):=by rw[e1];rfl
   have e3:A.length+(l.flatMap ybA).length=(fl qR x.Movers (k+1)).length:=by rw[<-e2];simp only[zau]
   refine⟨aC klt hlen,k+1,klt,by omega,?_⟩;apply dB<;>simp[<-e2]
 simp -dsimp -implicitDefEqProofs [eH kge];rw[yeW kge];generalize x.Movers.flatMap qR=B1 at hB hP;intro hlen;refine qA (ι:=Nat) (λq=>q<=x.Works.length) (λq=>rD [(1,.box 1 0),(3,.own 3 1 (B1++fl yc8 x.Works q).length),(37,.c (.sl 22 (x.Works.map Work.enc))),(38,.c (.i x.Works.length)),(39,.c (.i q))] [(1,.box (x.enc.map .c)),(3,.row 1 ((B1++fl yc8 x.Works q).map qC))]) (λq=>x.Works.length-q) 0 (by simp) (by apply dB<;>simp[ycx]) ?_
 rintro q hq
 rcases zah q x.Works.length with qlt|qge
 ·obtain⟨w,hl⟩:∃w,x.Works[q]?=some w:=⟨_,zaa qlt⟩;have hws:=s3.2 w (zac hl);have hb1:=yfb (f:=yc8) hl;have hb3:(yc8 w).length=(w.Calls.flatMap yw).length+(w.Lock.Inside.flatMap kE).length:=by simp only[yc8,zau]
  have e1:=ybG (f:=yc8) hl;have g1:=(zab.1 hl).2;simp -dsimp -implicitDefEqProofs [hl,g1,qlt,kD qlt];intro hlen2;generalize fl yc8 x.Works q=A at hb1 e1;refine qA (ι:=Nat) (λj=>j<=w.Calls.length) (λj=>rD [(1,.box 1 0),(3,.own 3 1 (B1++A++fl yw w.Calls j).length),(37,.c (.sl 22 (x.Works.map Work.enc))),(38,.c (.i x.Works.length)),(39,.c (.i q)),(9,.box 9 0),(44,.c (.sl 4 (w.Calls.map CallT.enc))),(45,.c (.i w.Calls.length)),(46,.c (.i j))] [(1,.box (x.enc.map .c)),(3,.row 1 ((B1++A++fl yw w.Calls j).map qC)),(9,.box (w.enc.map .c))]) (λj=>w.Calls.length-j) 0 (by simp) (by apply dB<;>simp[ycx]) ?_
  rintro j hj
  rcases zah j w.Calls.length with jlt|jge
  ·obtain⟨c,hm⟩:∃c,w.Calls[j]?=some c:=⟨_,zaa jlt⟩;have hms:=hws.2.2.2 c (zac hm);have hb2:=yfb (f:=yw) hm;have hb4:(yw c).length=(kE c.Train).length:=rfl;simp -dsimp -implicitDefEqProofs [hl,hm,g1,qlt,kD qlt,kD jlt];refine xG (jY c.Train hms) ?_;simp -dsimp -implicitDefEqProofs;refine⟨by omega,aC jlt hlen2,j+1,jlt,by omega,?_⟩;apply dB<;>simp[ybG hm,yw,zbp]
  simp -dsimp -implicitDefEqProofs [eH jge,hl];rw[yeW jge];have hW:yc8 w=w.Calls.flatMap yw++w.Lock.Inside.flatMap kE:=rfl;generalize w.Calls.flatMap yw=A2 at hb3 hW;intro hlen2;refine qA (ι:=Nat) (λi=>i<=w.Lock.Inside.length) (λi=>rD [(1,.box 1 0),(3,.own 3 1 (B1++A++A2++fl kE w.Lock.Inside i).length),(37,.c (.sl 22 (x.Works.map Work.enc))),(38,.c (.i x.Works.length)),(39,.c (.i q)),(58,.c (.sl 2 (w.Lock.Inside.map Train.enc))),(59,.c (.i w.Lock.Inside.length)),(60,.c (.i i))] [(1,.box (x.enc.map .c)),(3,.row 1 ((B1++A++A2++fl kE w.Lock.Inside i).map qC))]) (λi=>w.Lock.Inside.length-i) 0 (by simp) (by apply dB<;>simp[ycx]) ?_
  rintro i hi
  rcases zah i w.Lock.Inside.length with ilt|ige
  ·obtain⟨t,hm⟩:∃t,w.Lock.Inside[i]?=some t:=⟨_,zaa ilt⟩;have hms:=hws.1.2 t (zac hm);have hb2:=yfb (f:=kE) hm;simp -dsimp -implicitDefEqProofs [hl,hm,g1,qlt,kD qlt,kD ilt];refine xG (jY t hms) ?_;simp -dsimp -implicitDefEqProofs;refine⟨by omega,aC ilt hlen2,i+1,ilt,by omega,?_⟩;apply dB<;>simp[ybG hm,zbp]
  ·simp -dsimp -implicitDefEqProofs [eH ige,hl];rw[yeW ige];have e2:A++A2++w.Lock.Inside.flatMap kE=fl yc8 x.Works (q+1):=by rw[e1,zbQ];exact congrArg _ hW.symm
   refine⟨aC qlt hlen,q+1,qlt,by omega,?_⟩;apply dB<;>simp[<-e2,zbp]
 simp -dsimp -implicitDefEqProofs [eH qge];rw[yeW qge];generalize x.Works.flatMap yc8=B2 at hB hP;intro hlen;refine qA (ι:=Nat) (λp=>p<=x.Arrived.length) (λp=>rD [(1,.box 1 0),(3,.own 3 1 (B1++B2++fl kE x.Arrived p).length),(71,.c (.sl 2 (x.Arrived.map Train.enc))),(72,.c (.i x.Arrived.length)),(73,.c (.i p))] [(1,.box (x.enc.map .c)),(3,.row 1 ((B1++B2++fl kE x.Arrived p).map qC))]) (λp=>x.Arrived.length-p) 0 (by simp) (by apply dB<;>simp[ycx]) ?_
 rintro p hp
 rcases zah p x.Arrived.length with plt|pge
 ·obtain⟨t,hm⟩:∃t,x.Arrived[p]?=some t:=⟨_,zaa plt⟩;have hms:=s5.2 t (zac hm);have hb2:=yfb (f:=kE) hm;simp -dsimp -implicitDefEqProofs [hm,kD plt];refine xG (jY t hms) ?_;simp -dsimp -implicitDefEqProofs;refine⟨by omega,aC plt hlen,p+1,plt,by omega,?_⟩;apply dB<;>simp[ybG hm,zbp]
 ·simp -dsimp -implicitDefEqProofs [eH pge];rw[yeW pge,hP];exact cat3.symm
theorem yh2(x:Waterway)(hs:x.small)(hB:(iV x).length<=1000000000):lC Tryz.prog 9 [.agg (x.enc.map .c)] (.c (.sl 1 ((iV x).map qC))):=(yjp x hs hB).pure rfl
@[simp] theorem leO_mps {a b:List (Int×Int)}:(Obj.mp a).leO (.mp b)=(a=b):=by
 show(Obj.mp a=Obj.mp b)=_
 simp
structure Bare(x:Waterway):Prop where
 ok:xB x=true
 mv:∀l∈x.Movers,l=[]
 ent:x.Entered=[]
 arr:x.Arrived=[]
 book:x.Book=[]
 pas:x.Passings=[]
 wk:∀w∈x.Works,w.Calls=[]/\w.Lock.Inside=[]
 kept:qG x+x.Out=x.Start+x.In
theorem ygM{a m:Int}(h0:0<=m)(h1:m<=9223372036854775807):0<=yjC a m/\yjC a m<=m:=by
 unfold yjC
 have h2:(BitVec.ofInt 64 m).toNat=m.toNat:=by
  rw[BitVec.toNat_ofInt,Int.emod_eq_of_lt h0 (by omega)]
 have h3:(BitVec.ofInt 64 a&&& BitVec.ofInt 64 m).toNat<=m.toNat:=by rw[BitVec.toNat_and,h2];exact Nat.and_le_right
 rw[sV (yxN (by omega) (by omega))];omega
def yoa(n:Nat):List C:=[.u n]
def hNext(h:Int):Int:=IntKind.i64.wrap (IntKind.i64.wrap (h*6364136223846793005)+1442695040888963407)
def ynZ(h:Int):Int:=yjC (yt1 (yjn (hNext h) 33) (yjn (hNext h) 45)) 255
def kL(code:List UInt8)(p:Nat×Int):List C:=[.sl 1 (code.map ybW),.i p.1,.i p.2]
def pJ(code:List UInt8)(p:Nat×Int):Nat×Int:=(if p.1<code.length then p.1+1 else p.1,hNext p.2)
def yck(code:List UInt8)(p:Nat×Int):Int:=
 match code[p.1]? with
 |some b=>yjC (ynZ p.2+b.toNat) 255
 |none=>ynZ p.2
theorem fQ{code:List UInt8}{p:Nat×Int}(h:p.1<=code.length):(pJ code p).1<=code.length:=by
 unfold pJ;dsimp only;split<;>omega
theorem qU(code:List UInt8)(p:Nat×Int):0<=yck code p/\yck code p<=255:=by
 unfold yck;split
 ·exact ygM (by omega) (by omega)
 ·exact ygM (by omega) (by omega)
theorem ysg(h:Int):0<=ynZ h/\ynZ h<=255:=ygM (by omega) (by omega)
theorem ypD(b:UInt8):b.toNat<=255:=by have:=b.toNat_lt;omega
theorem yaI(code:List UInt8)(p:Nat×Int)(hp:p.1<=code.length):ycN Tryz.prog 43 (kL code p) (kL code (pJ code p)) [] (.c (.i (yck code p))):=by
 refine yb9 yih (by simp) λhwf hwf2=>?_;cases hb:code[p.1]? with
 |none=>
  have hge:code.length<=p.1:=by simpa using hb
  have hnl:(p.1<code.length)=False:=by simp;omega
  simp -dsimp -implicitDefEqProofs [yL,kL,hnl];intro _;simp[pJ,yck,hNext,ynZ,hb,hnl]
 |some b=>
  have hlt:p.1<code.length:=(zab.1 hb).1;have hr:=ysg p.2;have g1:=(zab.1 hb).2;have h8:=ypD b;simp only[ynZ,hNext]at hr;simp -dsimp -implicitDefEqProofs [yL,kL,hb,g1,hlt,ybW]
  refineλhl=>⟨by unfold inI;omega,by unfold maxLen at hl;unfold inI;omega,?_⟩
  simp[pJ,yck,hNext,ynZ,hb,g1,hlt]
def nC(code:List UInt8)(n:Int)(p:Nat×Int):Nat×Int:=
 if n<=256 then pJ code p else pJ code (pJ code (pJ code (pJ code p)))
def jC(code:List UInt8)(n:Int)(p:Nat×Int):Int:=
 if n<=256 then(yck code p).tmod n
 else(yck code p*16777216+yck code (pJ code p)*65536+yck code (pJ code (pJ code p))*256+yck code (pJ code (pJ code (pJ code p)))).tmod n
theorem rC{code:List UInt8}{n:Int}{p:Nat×Int}(h:p.1<=code.length):(nC code n p).1<=code.length:=by
 unfold nC;split
 ·exact fQ h
 ·exact fQ (fQ (fQ (fQ h)))
theorem xC{code:List UInt8}{n:Int}{p:Nat×Int}(hn:1<=n):0<=jC code n p/\jC code n p<n:=by
 have h1:=qU code p;have h2:=qU code (pJ code p);have h3:=qU code (pJ code (pJ code p));have h4:=qU code (pJ code (pJ code (pJ code p)));unfold jC;split
 ·rw[zbE (by omega)];exact⟨Int.emod_nonneg _ (by omega),zdg _ (by omega)⟩
 ·rw[zbE (by omega)];exact⟨Int.emod_nonneg _ (by omega),zdg _ (by omega)⟩
theorem nD(code:List UInt8)(n:Int)(p:Nat×Int)(hp:p.1<=code.length)(hn:1<=n)(hn2:n<=1000000):ycN Tryz.prog 18 (kL code p) (kL code (nC code n p)) [.c (.i n)] (.c (.i (jC code n p))):=by
 refine yb9 ygr (by simp) λhwf hwf2=>?_;simp -dsimp -implicitDefEqProofs;have n0:(n<=0)=False:=by simp;omega
 simp -dsimp -implicitDefEqProofs [n0];have hv:=xC (code:=code) (p:=p) hn
 refineλ_=>⟨λh=>?_,λh=>?_⟩
 ·skip
  simp only[jC,nC,if_pos h]at hv|-;refine mD (yaI code p hp) (by simp) (by simp) rfl (by simp[tC]) ?_;simp -dsimp -implicitDefEqProofs;refine⟨by omega,by unfold inI;omega,?_⟩;simp[h];intros;omega
 ·skip
  have h':¬n<=256:=by omega
  simp only[jC,nC,if_neg h']at hv|-;have h1:=qU code p;have h2:=qU code (pJ code p);have h3:=qU code (pJ code (pJ code p));have h4:=qU code (pJ code (pJ code (pJ code p)));refine mD (yaI code p hp) (by simp) (by simp) rfl (by simp[tC]) ?_;simp -dsimp -implicitDefEqProofs;refine mD (yaI code (pJ code p) (fQ hp)) (by simp) (by simp) rfl (by simp[tC]) ?_;simp -dsimp -implicitDefEqProofs;refine mD (yaI code (pJ code (pJ code p)) (fQ (fQ hp))) (by simp) (by simp) rfl (by simp[tC]) ?_;simp -dsimp -implicitDefEqProofs;refine mD (yaI code (pJ code (pJ code (pJ code p))) (fQ (fQ (fQ hp)))) (by simp) (by simp) rfl (by simp[tC]) ?_;simp -dsimp -implicitDefEqProofs;refine⟨by unfold inI;omega,by unfold inI;omega,by unfold inI;omega,by unfold inI;omega,by unfold inI;omega,by unfold inI;omega,by omega,by unfold inI;omega,?_⟩;simp[h']
def ynG(h:Int)(b:UInt8):Int:=yjC (h*131+b.toNat+7) 1073741823
def yR(code:List UInt8)(k:Nat):Int:=(code.take k).foldl ynG (33173+code.length)
def hash(code:List UInt8):Int:=yR code (min code.length 4000)
theorem yfS{code:List UInt8}:yR code 0=33173+code.length:=rfl
theorem yfP{code:List UInt8}{k:Nat}{b:UInt8}(h:code[k]?=some b):yR code (k+1)=ynG (yR code k) b:=by
 unfold yR;rw[zar,h,zcy];rfl
theorem yqu(h:Int)(b:UInt8):0<=ynG h b/\ynG h b<=1073741823:=ygM (by omega) (by omega)
theorem yis{code:List UInt8}(hl:code.length<=1048576):∀k:Nat,0<=yR code k/\yR code k<=1073741823
 |0=>by rw[yfS];omega
 | k+1=>by
  cases h:code[k]? with
  |none=>
   have hk:code.length<=k:=by simpa using h
   have:yR code (k+1)=yR code k:=by unfold yR;rw[zaf (by omega),zaf hk]
   rw[this];exact yis hl k
  |some b=>rw[yfP h];exact yqu _ _
theorem yrI(code:List UInt8)(hl:code.length<=1048576):pM Tryz.prog 16 [.c (.sl 1 (code.map ybW))] (.c (.bx (kL code (0,hash code)))):=by
 refine mG yjx ?_;simp -dsimp -implicitDefEqProofs
 refineλhlen=>⟨by unfold inI;omega,?_⟩
 refine qA (ι:=Nat) (λk=>k<=min code.length 4000) (λk=>rD [(0,.c (.sl 1 (code.map ybW))),(3,.c (.i (yR code k))),(4,.c (.i k))] []) (λk=>min code.length 4000-k) 0 (by simp) (by apply dB<;>simp[yfS]) ?_
 rintro k hk
 have hr:=yis hl k;rcases zah k code.length with hlt|hge
 ·obtain⟨b,hb⟩:∃b,code[k]?=some b:=⟨_,zaa hlt⟩;have g1:=(zab.1 hb).2;have h8:=ypD b;have hs:=yfP hb;simp only[ynG]at hs;simp -dsimp -implicitDefEqProofs [hb,g1,hlt,ybW]
  refineλ_=>⟨λh4=>⟨by unfold inI;omega,by unfold inI;omega,by unfold inI;omega,by unfold inI;omega,k+1,by omega,by omega,?_⟩,λh4=>?_⟩
  ·apply dB<;>simp[hs]
  ·have e:min code.length 4000=k:=by omega
   simp[kL,hash,e,C.plain]
 ·have hnl:(k<code.length)=False:=by simp;omega
  simp -dsimp -implicitDefEqProofs [hnl];intro _;have e:min code.length 4000=k:=by omega
  simp[kL,hash,e,C.plain]
def yfM(code:List UInt8)(n:Int)(p:Nat×Int):Bool:=decide (jC code n p=0)
theorem ykC(code:List UInt8)(n:Int)(p:Nat×Int)(hp:p.1<=code.length)(hn:1<=n)(hn2:n<=1000000):ycN Tryz.prog 44 (kL code p) (kL code (nC code n p)) [.c (.i n)] (.c (.b (yfM code n p))):=by
 refine yb9 yi0 (by simp) λhwf hwf2=>?_;simp -dsimp -implicitDefEqProofs;refine mD (nD code n p hp hn hn2) (by simp) (by simp) rfl (by simp[tC]) ?_;simp -dsimp -implicitDefEqProofs;simp[yfM]
def lI(code:List UInt8)(l:List Int)(p:Nat×Int):Int:=l[(jC code l.length p).toNat]?.getD 0
def aQ(code:List UInt8)(l:List Int)(p:Nat×Int):Nat×Int:=nC code l.length p
theorem rU{code:List UInt8}{l:List Int}{p:Nat×Int}(hl:1<=l.length):lI code l p∈l:=by
 have h:=xC (code:=code) (n:=l.length) (p:=p) (by omega);have hlt:(jC code l.length p).toNat<l.length:=by omega
 unfold lI;rw[zaa hlt];exact zbx hlt
theorem qH(code:List UInt8)(l:List Int)(p:Nat×Int)(hp:p.1<=code.length)(hl:1<=l.length)(hl2:l.length<=1000):yo6 Tryz.prog 38 (kL code p) (kL code (aQ code l p)) 1 (l.map qC) (.c (.i (lI code l p))):=by
 have h:=xC (code:=code) (n:=l.length) (p:=p) (by omega);have hlt:(jC code l.length p).toNat<l.length:=by omega
 obtain⟨v,hv⟩:∃v,l[(jC code l.length p).toNat]?=some v:=⟨_,zaa hlt⟩;have gv:=(zab.1 hv).2;have hpv:lI code l p=v:=by simp[lI,hv]
 refine yt6 ydA (by omega) rfl ?_;simp -dsimp -implicitDefEqProofs;intro hlen;refine mD (nD code l.length p hp (by omega) (by omega)) (by simp) (by simp) rfl (by simp[tC]) ?_;simp -dsimp -implicitDefEqProofs [hv,gv,hlt,h.1,h.2];exact⟨rfl,hpv⟩
theorem oO{code:List UInt8}{l:List Int}{p:Nat×Int}(h:p.1<=code.length):(aQ code l p).1<=code.length:=rC h
def ykc:List Int:=[5,12,30,80]
def yfy(code:List UInt8)(p:Nat×Int):Nat×Int:=aQ code ykc p
def yeV(code:List UInt8)(p:Nat×Int):Nat×Int:=nC code 9 (yfy code p)
def ye9(code:List UInt8)(p:Nat×Int):Nat×Int:=nC code 30 (yeV code p)
def ye6(code:List UInt8)(p:Nat×Int):Nat×Int:=nC code 12 (ye9 code p)
def ycq(code:List UInt8)(p:Nat×Int):Nat×Int:=nC code 3 (ye6 code p)
def ydI(code:List UInt8)(id:Int)(p:Nat×Int):Boat:=
 ⟨id,lI code ykc p,1+jC code 9 (yfy code p),1+jC code 30 (yeV code p),1+jC code 12 (ye9 code p),jC code 3 (ye6 code p)⟩
theorem yhi{code:List UInt8}{p:Nat×Int}(h:p.1<=code.length):(ycq code p).1<=code.length:=rC (rC (rC (rC (oO h))))
theorem ykz(code:List UInt8)(id:Int)(p:Nat×Int)(hp:p.1<=code.length):ycN Tryz.prog 45 (kL code p) (kL code (ycq code p)) [.c (.i id)] (.agg ((ydI code id p).enc.map .c)):=by
 have p1:(yfy code p).1<=code.length:=oO hp;have p2:(yeV code p).1<=code.length:=rC p1;have p3:(ye9 code p).1<=code.length:=rC p2;have p4:(ye6 code p).1<=code.length:=rC p3;have h2:=xC (code:=code) (n:=9) (p:=yfy code p) (by omega);have h3:=xC (code:=code) (n:=30) (p:=yeV code p) (by omega);have h4:=xC (code:=code) (n:=12) (p:=ye9 code p) (by omega);have h5:=xC (code:=code) (n:=3) (p:=ye6 code p) (by omega);have hpk:=qH code ykc p hp (by simp[ykc]) (by simp[ykc]);have e4:ykc.map qC=[[.i 5],[.i 12],[.i 30],[.i 80]]:=rfl;refine yb9 yiq (by simp) λhwf hwf2=>?_;simp -dsimp -implicitDefEqProofs;refine aS (rows:=[[.i 5],[.i 12],[.i 30],[.i 80]]) (by simpa[e4]using hpk) (by simp) (by simp) rfl ?_;simp -dsimp -implicitDefEqProofs;refine mD (nD code 9 (yfy code p) p1 (by omega) (by omega)) (by simp[yfy]) (by simp) rfl (by simp[tC]) ?_;simp -dsimp -implicitDefEqProofs;refine⟨by unfold inI;omega,?_⟩;refine mD (nD code 30 (yeV code p) p2 (by omega) (by omega)) (by simp[yeV]) (by simp) rfl (by simp[tC]) ?_;simp -dsimp -implicitDefEqProofs;refine⟨by unfold inI;omega,?_⟩;refine mD (nD code 12 (ye9 code p) p3 (by omega) (by omega)) (by simp[ye9]) (by simp) rfl (by simp[tC]) ?_;simp -dsimp -implicitDefEqProofs;refine⟨by unfold inI;omega,?_⟩;refine mD (nD code 3 (ye6 code p) p4 (by omega) (by omega)) (by simp[ye6]) (by simp) rfl (by simp[tC]) ?_;simp -dsimp -implicitDefEqProofs;simp[ycq,ydI]
def eoB(r:List Boat):List C:=[.ow 6 (r.map Boat.enc)]
def addLast(rows:List (List Boat))(b:Boat):List (List Boat):=rows.set (rows.length-1) (rows[rows.length-1]?.getD []++[b])
def dG(code:List UInt8)(id:Int)(p:Nat×Int):Nat->(Nat×Int)×List (List Boat)
 |0=>(p,[])
 |k+1=>
  let q:=dG code id p k
  if k=0 then(ycq code q.1,q.2++[[ydI code (id+k) q.1]])
  else(nC code 2 (ycq code q.1),if yfM code 2 (ycq code q.1)then addLast q.2 (ydI code (id+k) q.1)else q.2++[[ydI code (id+k) q.1]])
theorem ydc{code:List UInt8}{id:Int}{p:Nat×Int}(h:p.1<=code.length):∀k:Nat,(dG code id p k).1.1<=code.length
 |0=>h
 |k+1=>by
  have ih:=ydc (id:=id) h k;simp only[dG];split
  ·exact yhi ih
  ·exact rC (yhi ih)
theorem ygd{code:List UInt8}{id:Int}{p:Nat×Int}:∀k:Nat,(dG code id p k).2.length<=k/\(1<=k->1<=(dG code id p k).2.length)
 |0=>by simp[dG]
 | k+1=>by
  have ih:=ygd (code:=code) (id:=id) (p:=p) k;simp only[dG];split
  ·simp;omega
  ·simp only[];split
   ·simp[addLast];omega
   ·simp;omega
theorem yfW{code:List UInt8}{id:Int}{p:Nat×Int}:∀k:Nat,∀r∈(dG code id p k).2,r.length<=k/\1<=r.length
 |0,r,h=>by simp[dG]at h
 | k +1,r,h=>by
  have ih:=yfW (code:=code) (id:=id) (p:=p) k;simp only[dG]at h;split at h
  ·rcases zao.1 h with h|h
   ·have:=ih r h;omega
   ·simp at h;subst h;simp
  ·simp only[]at h;split at h
   ·unfold addLast at h;rcases zaJ h with h|rfl
    ·have:=ih r h;omega
    ·cases hr:(dG code id p k).2[(dG code id p k).2.length-1]? with
     |none=>simp
     |some r0=>have:=ih r0 (zac hr);simp;omega
   ·rcases zao.1 h with h|h
    ·have:=ih r h;omega
    ·simp at h;subst h;simp
theorem yoG{rows:List (List Boat)}{z:Nat}{r0:List Boat}{b:Boat}(h:rows[z]?=some r0):setAt (setAt (rows.map eoB) z 0 .jk) z 0 (.ow 6 (r0.map Boat.enc++[b.enc]))=(rows.set z (r0++[b])).map eoB:=by
 have hlt:=(zab.1 h).1;have e1:(rows.map eoB).getD z []=eoB r0:=by simp[List.getD,h]
 have e2:((rows.map eoB).set z [C.jk]).getD z []=[C.jk]:=by simp[List.getD,hlt]
 have e3:setAt (rows.map eoB) z 0 .jk=(rows.map eoB).set z [C.jk]:=by unfold setAt;rw[e1];rfl
 rw[e3];unfold setAt;rw[e2,List.set_set,zcq];simp[eoB]
def yba(code:List UInt8)(p:Nat×Int):Nat:=(1+jC code 4 (nC code 2 p)).toNat
def yfu(code:List UInt8)(id:Int)(p:Nat×Int):Nat×Int:=(dG code id (nC code 4 (nC code 2 p)) (yba code p)).1
def yaC(code:List UInt8)(id:Int)(p:Nat×Int):Train:=⟨yfM code 2 p,(dG code id (nC code 4 (nC code 2 p)) (yba code p)).2⟩
theorem yrf(code:List UInt8)(p:Nat×Int):(yba code p:Int)=1+jC code 4 (nC code 2 p)/\1<=yba code p/\yba code p<=4:=by
 have h:=xC (code:=code) (n:=4) (p:=nC code 2 p) (by omega);unfold yba;omega
set_option maxRecDepth 4000 in
theorem yoF(code:List UInt8)(id:Int)(p:Nat×Int)(hp:p.1<=code.length)(hid:0<=id/\id<=1000000):ycN Tryz.prog 19 (kL code p) (kL code (yfu code id p)) [.c (.i id)] (.agg [.c (.b (yaC code id p).Up),.c (.ot 1 ((yaC code id p).Rows.map eoB))]):=by
 refine yb9 ygi (by simp) λhwf hwf2=>?_;have hK:=yrf code p;simp -dsimp -implicitDefEqProofs;refine mD (ykC code 2 p hp (by omega) (by omega)) (by simp) (by simp) rfl (by simp[tC]) ?_;simp -dsimp -implicitDefEqProofs;refine mD (nD code 4 (nC code 2 p) (rC hp) (by omega) (by omega)) (by simp) (by simp) rfl (by simp[tC]) ?_;simp -dsimp -implicitDefEqProofs;refine⟨by unfold inI;omega,?_⟩;have hp0:(nC code 4 (nC code 2 p)).1<=code.length:=rC (rC hp);rw[<-hK.1];have eN:yfu code id p=(dG code id (nC code 4 (nC code 2 p)) (yba code p)).1:=rfl;have eV:(yaC code id p).Rows=(dG code id (nC code 4 (nC code 2 p)) (yba code p)).2:=rfl;have eU:(yaC code id p).Up=yfM code 2 p:=rfl;rw[eN,eV,eU];generalize yba code p=n at *;generalize nC code 4 (nC code 2 p)=p0 at *;generalize yfM code 2 p=up at *
 refine qA (ι:=Nat×Nat) (λq=>q.1<=n) (λq=>if q.1=0 then rD [(0,.box 0 0),(1000000,.box 0 0),(1,.c (.i id)),(4,.box 4 0),(5,.box 5 0),(6,.c (.i n)),(7,.c (.i 0))] [(0,.box ((kL code p0).map .c)),(4,.box [.c (.b false),.nil 1]),(5,.box [.c (.b up),.nil 1])]
  else rD [(0,.box 0 0),(1000000,.box 0 0),(1,.c (.i id)),(4,.box 4 0),(5,.box 5 0),(6,.c (.i n)),(7,.c (.i q.1))] [(0,.box ((kL code (dG code id p0 q.1).1).map .c)),(4,.box [.c (.b false),.nil 1]),(5,.box [.c (.b up),.own 54 1 (dG code id p0 q.1).2.length]),(54,.tr 1 q.2 ((dG code id p0 q.1).2.map eoB))]) (λq=>n-q.1) (0,0) (by simp) (by rw[if_pos rfl];apply dB<;>simp) ?_
 rintro⟨k,ver⟩ hk
 simp only at hk;rcases zaK k with e|hk0
 ·subst e;have hn0:((0:Int)<(n:Int))=True:=by simp;omega
  have hn0':(0<n)=True:=by simp;omega
  rw[if_pos rfl];have hs1:dG code id p0 1=(ycq code p0,[[ydI code id p0]]):=by simp[dG]
  simp -dsimp -implicitDefEqProofs [hn0,hn0'];refine⟨by unfold inI;omega,?_⟩;refine mD (ykz code id p0 hp0) (by simp) (by simp) rfl (by simp[tC]) ?_;simp -dsimp -implicitDefEqProofs;refine⟨by unfold inI;omega,1,by omega,by omega,0,?_⟩;rw[if_neg (by simp)];apply dB<;>simp[hs1,eoB]
 ·have hne:(k=0)=False:=by simp;omega
  simp only[hne,if_false];have hq:=ydc (id:=id) hp0 k;have hln:=ygd (code:=code) (id:=id) (p:=p0) k;have hrow:=yfW (code:=code) (id:=id) (p:=p0) k
  have hsuc:dG code id p0 (k+1)=(nC code 2 (ycq code (dG code id p0 k).1),if yfM code 2 (ycq code (dG code id p0 k).1)then addLast (dG code id p0 k).2 (ydI code (id+k) (dG code id p0 k).1)else(dG code id p0 k).2++[[ydI code (id+k) (dG code id p0 k).1]]):=by
   simp only[dG,hne,if_false]
  generalize hQ:dG code id p0 k=Q at *;obtain⟨q,rows⟩:=Q;simp only at hq hln hsuc hrow|-;rcases zah k n with hlt|hge
  ·simp -dsimp -implicitDefEqProofs [kD hlt,hlt];refine⟨by unfold inI;omega,?_⟩;refine mD (ykz code (id+k) q hq) (by simp) (by simp) rfl (by simp[tC]) ?_;simp -dsimp -implicitDefEqProofs;refine⟨λ_=>?_,λh=>by omega⟩;refine mD (ykC code 2 (ycq code q) (yhi hq) (by omega) (by omega)) (by simp) (by simp) rfl (by simp[tC]) ?_;generalize ydI code (id+k) q=b at *;have hr1:=hln.2 (by omega);cases ho:yfM code 2 (ycq code q)with
   |false=>
    rw[ho]at hsuc;simp -dsimp -implicitDefEqProofs;have hl:=hln.1;refine⟨by omega,by unfold inI;omega,k+1,hlt,by omega,0,?_⟩;rw[if_neg (by omega)];apply dB<;>simp[hsuc,eoB]
   |true=>
    rw[ho]at hsuc;obtain⟨r0,hr0⟩:∃r,rows[rows.length-1]?=some r:=⟨_,zaa (by omega)⟩;have g0:=(zab.1 hr0).2;have hadd:addLast rows b=rows.set (rows.length-1) (r0++[b]):=by simp[addLast,hr0]
    have hl:=hln.1;have ez:((rows.length:Int)-1)=((rows.length-1:Nat):Int):=by omega
    have m1:rows.length-1<rows.length:=by omega
    obtain⟨z,hz⟩:∃z,z=rows.length-1:=⟨_,rfl⟩;rw[<-hz]at hr0 hadd ez m1;have hrl:=hrow r0 (zac hr0);have g0:=(zab.1 hr0).2;have hset:=yoG (b:=b) hr0;have hjl:(setAt (rows.map eoB) z 0 C.jk).length=rows.length:=by simp[setAt]
    have htk:(r0.map Boat.enc++[b.enc]).take (r0.length+1)=r0.map Boat.enc++[b.enc]:=zaf (by simp);simp only[Boat.enc]at htk hset;simp -dsimp -implicitDefEqProofs [ez,hr0,m1,eoB,g0,hjl,htk]
    refineλ_=>⟨by unfold inI;omega,λ_=>⟨by unfold inI;omega,by omega,by unfold inI;omega,k+1,hlt,by omega,ver+2,?_⟩⟩
    rw[if_neg (by omega)];apply dB<;>simp[hsuc,hadd,g0,htk,hset]
  ·have:k=n:=by omega
   subst this;simp -dsimp -implicitDefEqProofs;rw[hQ,zaf (by simp)];exact⟨rfl,rfl⟩
def yev:List Int:=[0,3,30]
def yhW:List Int:=[-1,0,500,1000000]
def yf4:List Int:=[0,500,600,1000000,1000001]
def mV(code:List UInt8)(p:Nat×Int)(t:Int):Nat->(Nat×Int)×Int×List Pause
 |0=>(p,t,[])
 |k+1=>
  let q:=mV code p t k
  (aQ code yev (nC code 20 q.1),q.2.1+(1+jC code 20 q.1)+lI code yev (nC code 20 q.1),q.2.2++[⟨q.2.1,q.2.1+(1+jC code 20 q.1)⟩])
theorem ypX{x:Int}(h:x∈yev):0<=x/\x<=30:=by
 simp[yev]at h;omega
theorem ykQ{code:List UInt8}{p:Nat×Int}{t:Int}(h:p.1<=code.length):∀k:Nat,(mV code p t k).1.1<=code.length
 |0=>h
 |k+1=>oO (rC (ykQ h k))
theorem yhL{code:List UInt8}{p:Nat×Int}{t:Int}:∀k:Nat,(mV code p t k).2.2.length=k
 |0=>rfl
 |k+1=>by simp[mV,yhL (code:=code) (p:=p) (t:=t) k]
theorem ynA{code:List UInt8}{p:Nat×Int}{t:Int}(h:0<=t/\t<=20):∀k:Nat,0<=(mV code p t k).2.1/\(mV code p t k).2.1<=20+50*k
 |0=>by simp only[mV];omega
 |k+1=>by
  have ih:=ynA (code:=code) (p:=p) h k;have h1:=xC (code:=code) (n:=20) (p:=(mV code p t k).1) (by omega);have h2:=ypX (rU (code:=code) (l:=yev) (p:=nC code 20 (mV code p t k).1) (by simp[yev]));simp only[mV];omega
def ycn(code:List UInt8):Nat->Nat×Int->List Pause->(Nat×Int)×List Pause
 |0,p,l=>(p,l)
 |f+1,p,l=>if(l.length:Int)<8+jC code 2 p then ycn code f (nC code 2 p) (l++[⟨1000+10*l.length,1005+10*l.length⟩])else(nC code 2 p,l)
theorem ymr{code:List UInt8}:∀(f:Nat) {p:Nat×Int} {l:List Pause},p.1<=code.length->(ycn code f p l).1.1<=code.length
 |0,p,l,h=>h
 |f+1,p,l,h=>by
  unfold ycn;split
  ·exact ymr f (rC h)
  ·exact rC h
theorem yj9{code:List UInt8}:∀(f:Nat) {p:Nat×Int} {l:List Pause},(ycn code f p l).2.length<=l.length+f
 |0,p,l=>Nat.le_refl _
 | f+1,p,l=>by
  unfold ycn;split
  ·have:=yj9 (code:=code) f (p:=nC code 2 p) (l:=l++[⟨1000+10*l.length,1005+10*l.length⟩]);simp only[zau,zaC,zbv]at this;omega
  ·simp only;omega
def paP(code:List UInt8)(p:Nat×Int):Nat×Int:=nC code 4 (nC code 20 p)
def paK(code:List UInt8)(p:Nat×Int):Nat:=(jC code 4 (nC code 20 p)).toNat
def paM(code:List UInt8)(p:Nat×Int):(Nat×Int)×Int×List Pause:=mV code (paP code p) (jC code 20 p) (paK code p)
def paR(code:List UInt8)(d:Int)(q:Nat×Int)(l:List Pause):(Nat×Int)×List Pause:=
 if d=0 then(aQ code yf4 (aQ code yhW q),l++[⟨lI code yhW q,lI code yf4 (aQ code yhW q)⟩])
 else if d=1 then ycn code (10-l.length) q l else(q,l)
def bM(code:List UInt8)(p:Nat×Int):(Nat×Int)×List Pause:=paR code (jC code 10 (paM code p).1) (nC code 10 (paM code p).1) (paM code p).2.2
theorem ytz(code:List UInt8)(p:Nat×Int):(paK code p:Int)=jC code 4 (nC code 20 p)/\paK code p<=3:=by
 have h:=xC (code:=code) (n:=4) (p:=nC code 20 p) (by omega);unfold paK;omega
theorem ywF{code:List UInt8}{p:Nat×Int}(h:p.1<=code.length):(paM code p).1.1<=code.length:=ykQ (rC (rC h)) _
theorem yyc{code:List UInt8}{d:Int}{q:Nat×Int}{l:List Pause}(h:q.1<=code.length):(paR code d q l).1.1<=code.length:=by
 unfold paR;split
 ·exact oO (oO h)
 ·split
  ·exact ymr _ h
  ·exact h
theorem yoX{code:List UInt8}{p:Nat×Int}(h:p.1<=code.length):(bM code p).1.1<=code.length:=yyc (rC (ywF h))
theorem yny{code:List UInt8}{p:Nat×Int}:(bM code p).2.length<=13:=by
 have h1:=(ytz code p).2;have h2:(paM code p).2.2.length=paK code p:=yhL _;unfold bM paR;split
 ·simp;omega
 ·split
  ·have:=yj9 (code:=code) (10-(paM code p).2.2.length) (p:=nC code 10 (paM code p).1) (l:=(paM code p).2.2);omega
  ·simp only;omega
theorem yoO{code:List UInt8}{f:Nat}{p:Nat×Int}{l:List Pause}:ycn code (f+1) p l=if(l.length:Int)<8+jC code 2 p then ycn code f (nC code 2 p) (l++[⟨1000+10*l.length,1005+10*l.length⟩])else(nC code 2 p,l):=rfl
theorem yrn{code:List UInt8}{p:Nat×Int}{t:Int}{k:Nat}:mV code p t (k+1)=(aQ code yev (nC code 20 (mV code p t k).1),(mV code p t k).2.1+(1+jC code 20 (mV code p t k).1)+lI code yev (nC code 20 (mV code p t k).1),(mV code p t k).2.2++[⟨(mV code p t k).2.1,(mV code p t k).2.1+(1+jC code 20 (mV code p t k).1)⟩]):=rfl
set_option maxRecDepth 4000 in
theorem ymw(code:List UInt8)(p:Nat×Int)(hp:p.1<=code.length):ycN Tryz.prog 39 (kL code p) (kL code (bM code p).1) [] (.c (.ow 2 ((bM code p).2.map Pause.enc))):=by
 have hK:=ytz code p;have hR:=xC (code:=code) (n:=20) (p:=p) (by omega);have q0:(paP code p).1<=code.length:=rC (rC hp);have eD:bM code p=paR code (jC code 10 (mV code (paP code p) (jC code 20 p) (paK code p)).1) (nC code 10 (mV code (paP code p) (jC code 20 p) (paK code p)).1) (mV code (paP code p) (jC code 20 p) (paK code p)).2.2:=rfl;refine yb9 yfj (by simp) λhwf hwf2=>?_;rw[eD];simp -dsimp -implicitDefEqProofs;refine mD (nD code 20 p hp (by omega) (by omega)) (by simp) (by simp) rfl (by simp[tC]) ?_;simp -dsimp -implicitDefEqProofs;refine mD (nD code 4 (nC code 20 p) (rC hp) (by omega) (by omega)) (by simp) (by simp) rfl (by simp[tC]) ?_;simp -dsimp -implicitDefEqProofs;rw[<-hK.1];have hP:nC code 4 (nC code 20 p)=paP code p:=rfl;rw[hP];have hn3:=hK.2;clear hK eD hP;generalize paK code p=n at *;generalize paP code p=qq at *;generalize jC code 20 p=t0 at *;refine qA (ι:=Nat) (λj=>j<=n) (λj=>rD [(0,.box 0 0),(1000000,.box 0 0),(3,.own 7 2 j),(4,.c (.i (mV code qq t0 j).2.1)),(5,.c (.i (n-j)))] [(0,.box ((kL code (mV code qq t0 j).1).map .c)),(7,.row 2 ((mV code qq t0 j).2.2.map Pause.enc))]) (λj=>n-j) 0 (by simp) (by apply dB<;>simp[mV]) ?_
 rintro j hj
 have hq:=ykQ (t:=t0) q0 j;have hln:=yhL (code:=code) (p:=qq) (t:=t0) j;have hrg:=ynA (code:=code) (p:=qq) (t:=t0) (by omega) j;have hsuc:=yrn (code:=code) (p:=qq) (t:=t0) (k:=j);rcases zah j n with hlt|hge
 ·have hgt:(0<(n:Int)-(j:Int))=True:=eq_true (by omega);generalize mV code qq t0 j=Q at *;obtain⟨q,t,l⟩:=Q;simp only at hq hln hrg hsuc|-;have hv:=xC (code:=code) (n:=20) (p:=q) (by omega);have hg:=ypX (rU (code:=code) (l:=yev) (p:=nC code 20 q) (by simp[yev]));have hpk:=qH code yev (nC code 20 q) (rC hq) (by simp[yev]) (by simp[yev]);have eg:yev.map qC=[[.i 0],[.i 3],[.i 30]]:=rfl;simp -dsimp -implicitDefEqProofs [hgt];refine⟨λ_=>?_,λh=>by omega⟩;refine mD (nD code 20 q hq (by omega) (by omega)) (by simp) (by simp) rfl (by simp[tC]) ?_;simp -dsimp -implicitDefEqProofs;refine⟨by unfold inI;omega,by unfold inI;omega,by omega,by omega,by unfold inI;omega,?_⟩;refine aS (rows:=[[.i 0],[.i 3],[.i 30]]) (by simpa[eg]using hpk) (by simp) (by simp) rfl ?_;simp -dsimp -implicitDefEqProofs;refine⟨by unfold inI;omega,by unfold inI;omega,j+1,hlt,by omega,?_⟩;apply dB<;>simp[hsuc]<;>omega
 ·have hgt:(0<(n:Int)-(j:Int))=False:=eq_false (by omega);have:j=n:=by omega
  subst this;generalize mV code qq t0 j=Q at *;obtain⟨q,t,l⟩:=Q;simp only at hq hln hrg hsuc|-;have hv:=xC (code:=code) (n:=10) (p:=q) (by omega);have q1:(nC code 10 q).1<=code.length:=rC hq;simp -dsimp -implicitDefEqProofs [hgt];refine mD (nD code 10 q hq (by omega) (by omega)) (by simp) (by simp) rfl (by simp[tC]) ?_;generalize jC code 10 q=d at *;generalize nC code 10 q=q' at *;simp -dsimp -implicitDefEqProofs;refine⟨λh0=>?_,λh0=>⟨λh1=>?_,λh1=>?_⟩⟩
  ·have e:paR code d q' l=(aQ code yf4 (aQ code yhW q'),l++[⟨lI code yhW q',lI code yf4 (aQ code yhW q')⟩]):=if_pos h0;rw[e];have g1:=qH code yhW q' q1 (by simp[yhW]) (by simp[yhW]);have g2:=qH code yf4 (aQ code yhW q') (oO q1) (by simp[yf4]) (by simp[yf4]);have e1:yhW.map qC=[[.i (-1)],[.i 0],[.i 500],[.i 1000000]]:=rfl;have e2:yf4.map qC=[[.i 0],[.i 500],[.i 600],[.i 1000000],[.i 1000001]]:=rfl;refine aS (rows:=[[.i (-1)],[.i 0],[.i 500],[.i 1000000]]) (by simpa[e1]using g1) (by simp) (by simp) rfl ?_;simp -dsimp -implicitDefEqProofs;refine aS (rows:=[[.i 0],[.i 500],[.i 600],[.i 1000000],[.i 1000001]]) (by simpa[e2]using g2) (by simp) (by simp) rfl ?_;simp -dsimp -implicitDefEqProofs [aB];refine⟨hln.symm,by omega,?_⟩;rw[zaf (by simp)]
  ·have e:paR code d q' l=ycn code (10-l.length) q' l:=by unfold paR;rw[if_neg h0,if_pos h1]
   rw[e];have hf0:10-l.length+l.length=10:=by omega
   have hl9:l.length<=9:=by omega
   generalize hR:ycn code (10-l.length) q' l=R;refine qA (ι:=Nat×(Nat×Int)×List Pause) (λx=>x.2.1.1<=code.length/\x.2.2.length<=9/\x.1+x.2.2.length=10/\ycn code x.1 x.2.1 x.2.2=R) (λx=>rD [(0,.box 0 0),(1000000,.box 0 0),(3,.own 7 2 x.2.2.length)] [(0,.box ((kL code x.2.1).map .c)),(7,.row 2 (x.2.2.map Pause.enc))]) (λx=>x.1) (10-l.length,q',l) ⟨q1,hl9,hf0,hR⟩ (by apply dB<;>simp[hln]) ?_
   rintro⟨f,p2,l2⟩ ⟨i1,i2,i3,i4⟩
   simp only at i1 i2 i3 i4;obtain⟨f,rfl⟩:∃f',f=f'+1:=⟨f-1,by omega⟩;rw[yoO]at i4;have hv2:=xC (code:=code) (n:=2) (p:=p2) (by omega);simp -dsimp -implicitDefEqProofs;intro hm;refine mD (nD code 2 p2 i1 (by omega) (by omega)) (by simp) (by simp) rfl (by simp[tC]) ?_;simp -dsimp -implicitDefEqProofs;refine⟨by unfold inI;omega,λhlt hm2=>?_,λhge=>?_⟩
   ·rw[if_pos hlt]at i4;refine⟨by unfold inI;omega,by unfold inI;omega,λ_=>⟨by unfold inI;omega,by unfold inI;omega,by omega,f,(nC code 2 p2).1,(nC code 2 p2).2,l2++[⟨1000+10*l2.length,1005+10*l2.length⟩],⟨rC i1,by simp;omega,by simp;omega,i4⟩,by omega,?_⟩⟩;apply dB<;>simp
   ·rw[if_neg (by omega)]at i4;rw[<-i4];simp[aB]
  ·have e:paR code d q' l=(q',l):=by unfold paR;rw[if_neg h0,if_neg h1]
   rw[e];simp[aB];rw[zaf (by simp;omega)]
theorem yl6(code:List UInt8)(p:Nat×Int)(hp:p.1<=code.length):ycN Tryz.prog 39 (kL code p) (kL code (bM code p).1) [] (.c (.sl 2 ((bM code p).2.map Pause.enc))):=
 (ymw code p hp).share (by simp[AV.shr,AV.ygz]) (λl h=>by cases h)
set_option maxRecDepth 20000 in
theorem yfc(rs:List Reach)(ws:List Way)(wk:List Work)(t:Tariff)(h1:dJ rs)(h2:yT ws)(h3:qM wk)(h4:t.small):
 lC Tryz.prog 41 [.c (.sl 3 (rs.map Reach.enc)),.c (.sl 2 (ws.map Way.enc)),.c (.sl 22 (wk.map Work.enc)),.agg (t.enc.map .c)] (.tup [.agg ((eG rs ws wk t).1.enc.map .c),.c (.b (eG rs ws wk t).2)]):=by
 have hr:=yjY h1 h2 h3 h4;have hn:=yjV h1 h2 h3 h4;have hl1:=h1.1
 have hrep:∀n:Nat,pW (List.replicate n [C.sl 3 []])=some (List.replicate n [C.sl 3 []]):=by
  intro n;induction n with
  |zero=>rfl
  |succ n ih=>rw[zbn];simp[pW,ih,mM,C.shr]
 have hrm:(List.replicate rs.length ([]:List Mover)).map qE=List.replicate rs.length [C.sl 3 []]:=by rw[zdd];rfl
 have hco:=yq4 (yco rs ws wk t) hr;have hW:=ylK (yco rs ws wk t) hr;have hV:=ybJ (ycP rs ws wk t) hn;have hwr:=ygb (yco rs ws wk t);have he:(yco rs ws wk t).enc=[.i 0,.sl 3 (rs.map Reach.enc),.sl 2 (ws.map Way.enc),.sl 22 (wk.map Work.enc),.sl 1 (List.replicate rs.length [C.sl 3 []]),.sl 2 [],.sl 1 [],.i t.Base,.i t.PerArea,.sl 1 (t.PerClass.map qC),.sl 1 (t.Weights.map qC),.sl 5 [],.sl 4 [],.i 0,.i 0,.i 0]:=by simp[yco,Waterway.enc,hrm]
 have he2:(ycP rs ws wk t).enc=[.i 0,.sl 3 (rs.map Reach.enc),.sl 2 (ws.map Way.enc),.sl 22 (wk.map Work.enc),.sl 1 (List.replicate rs.length [C.sl 3 []]),.sl 2 [],.sl 1 [],.i t.Base,.i t.PerArea,.sl 1 (t.PerClass.map qC),.sl 1 (t.Weights.map qC),.sl 5 [],.sl 4 [],.i (qG (yco rs ws wk t)),.i 0,.i 0]:=by simp[ycP,Waterway.enc,hrm]
 have hse:(yco rs ws wk t).ysq=[.i 0,.ow 3 (rs.map Reach.enc),.ow 2 (ws.map Way.enc),.ow 22 (wk.map Work.enc),.ot 1 (List.replicate rs.length [C.ow 3 []]),.ow 2 [],.ow 1 [],.i t.Base,.i t.PerArea,.ow 1 (t.PerClass.map qC),.ow 1 (t.Weights.map qC),.ow 5 [],.ow 4 [],.i 0,.i 0,.i 0]:=by simp[yco,Waterway.ysq,em,zdd]
 have hrep2:∀n:Nat,pW (List.replicate n [C.ow 3 []])=some (List.replicate n [C.sl 3 []]):=by
  intro n;induction n with
  |zero=>rfl
  |succ n ih=>rw[zbn,zbn];simp[pW,ih,mM,C.shr]
 rw[he,hse]at hco;rw[he]at hW;rw[he2]at hV;have hN1:∀h:xB (ycP rs ws wk t)=true,wk.all lQ=true->eG rs ws wk t=(ycP rs ws wk t,true):=λh h'=>by simp[eG,h,h']
 have hN2:xB (ycP rs ws wk t)=false->eG rs ws wk t=(ycm,false):=λh=>yuQ h;have hN3:wk.all lQ=false->eG rs ws wk t=(ycm,false):=λh=>yyH h;have he3:(ycP rs ws wk t).enc.map AV.c=_:=congrArg (List.map AV.c) he2;generalize qG (yco rs ws wk t)=z at *;generalize eG rs ws wk t=R at *;generalize ycP rs ws wk t=y at *;generalize hok:xB y=ok at *;refine qB ydb ?_;simp -dsimp -implicitDefEqProofs;intro hlen;refine⟨by omega,ylJ ?_⟩;simp -dsimp -implicitDefEqProofs;refine yqq [18] hco (by simp -dsimp -implicitDefEqProofs [hrep,List.take_replicate]) rfl (by simp[tC]) ?_;simp -dsimp -implicitDefEqProofs;refine mF (hW) (by simp -dsimp -implicitDefEqProofs [aB,hrep2,List.take_replicate]) rfl ?_;simp -dsimp -implicitDefEqProofs;refine qA (ι:=Nat) (λk=>k<=wk.length/\∀w∈wk.take k,lQ w=true) (λk=>rD [(0,.c (.sl 3 (rs.map Reach.enc))),(1,.c (.sl 2 (ws.map Way.enc))),(2,.c (.sl 22 (wk.map Work.enc))),(8,.box 8 0),(9,.c (.b false)),(10,.box 10 0),(11,.c (.i k))] [(8,.box [.c (.i 0),.nil 3,.nil 2,.nil 22,.nil 1,.nil 2,.nil 1,.c (.i 0),.c (.i 0),.nil 1,.nil 1,.nil 5,.nil 4,.c (.i 0),.c (.i 0),.c (.i 0)]),(10,.box [.c (.i 0),.own 20021 3 rs.length,.own 30021 2 ws.length,.own 40021 22 wk.length,.own 50021 1 rs.length,.own 60021 2 0,.own 70021 1 0,.c (.i t.Base),.c (.i t.PerArea),.own 100021 1 t.PerClass.length,.own 110021 1 t.Weights.length,.own 120021 5 0,.own 130021 4 0,.c (.i z),.c (.i 0),.c (.i 0)]),(20021,.row 3 (rs.map Reach.enc)),(30021,.row 2 (ws.map Way.enc)),(40021,.row 22 (wk.map Work.enc)),(50021,.tr 1 0 (List.replicate rs.length [C.ow 3 []])),(60021,.row 2 []),(70021,.row 1 []),(100021,.row 1 (t.PerClass.map qC)),(110021,.row 1 (t.Weights.map qC)),(120021,.row 5 []),(130021,.row 4 [])]) (λk=>wk.length-k) 0 (by simp) (by apply dB<;>simp) ?_
 rintro k ⟨hk,hall⟩
 rcases zah k wk.length with klt|kge
 ·obtain⟨w,hw⟩:∃w,wk[k]?=some w:=⟨_,zaa klt⟩;have g1:=(zab.1 hw).2;simp -dsimp -implicitDefEqProofs [hw,g1,klt,kD klt];intro hlen2;have bad:lQ w=false->R=(ycm,false):=λh=>hN3 (all_false (p:=lQ) hw h)
  have badL:0<w.Lock.Inside.length->R=(ycm,false):=by
   intro h;have h2:¬w.Lock.Inside.length=0:=by omega
   exact bad (by simp only[lQ,decide_eq_false h2,zbm])
  have badC:0<w.Calls.length->R=(ycm,false):=by
   intro h;have h2:¬w.Calls.length=0:=by omega
   exact bad (by simp only[lQ,decide_eq_false h2,zbc])
  refineλhlen3=>⟨λhi hlen4=>⟨λhc=>?_,λhc=>?_⟩,λhi=>?_⟩
  ·rw[badC hc];simp[ycm]
  ·have hok:lQ w=true:=by
    have h1:w.Lock.Inside.length=0:=by rw[hi];rfl
    have h3:w.Calls.length=0:=by rw[hc];rfl
    simp[lQ,h1,h3]
   have hall':=iC (p:=lQ) hw hall hok;refine⟨aC klt hlen2,k+1,⟨klt,hall'⟩,by omega,?_⟩;apply dB<;>simp
  ·rw[badL hi];simp[ycm]
 have hall2:wk.all lQ=true:=dD (p:=lQ) kge hall;simp -dsimp -implicitDefEqProofs [eH kge];intro _;refine mF (hV) (by simp -dsimp -implicitDefEqProofs [aB,hrep2,List.take_replicate]) rfl ?_;cases ok with
 |false=>
  rw[hN2 rfl];simp -dsimp -implicitDefEqProofs;simp[ycm]
 |true=>
  rw[hN1 rfl hall2];simp -dsimp -implicitDefEqProofs;simp only[Waterway.enc,List.cons.injEq,C.i.injEq,C.sl.injEq,true_and,and_true]at he2;obtain⟨e0,e1,e2,e3,e4,e5,e6,e7,e8,e9,e10,e11,e12,e13,e14,e15⟩:=he2;simp only[List.map_eq_nil_iff]at e5 e6 e11 e12;simp only[e0,e1,e2,e3,e4,e5,e6,e7,e8,e9,e10,e11,e12,e13,e14,e15,hrep2,aB,yqJ];simp
def nO(t:List Point)(level:Int)(delay:Int):Reach×Bool:=
 if inRange delay 0 12 then(if bC ⟨t,iD t level,List.replicate delay.toNat 0⟩then(⟨t,iD t level,List.replicate delay.toNat 0⟩,true)else(⟨[],0,[]⟩,false))else(⟨[],0,[]⟩,false)
set_option maxRecDepth 4000 in
theorem yoN(t:List Point)(level delay:Int)(hl:t.length<=1048576):pM Tryz.prog 37 [.c (.sl 2 (t.map Point.enc)),.c (.i level),.c (.i delay)] (.tup [.agg ((nO t level delay).1.iE.map .c),.c (.b (nO t level delay).2)]):=by
 refine mG ygf ?_;simp -dsimp -implicitDefEqProofs
 first
  |refine mF (jB delay 0 12) (by simp) rfl ?_
  |refine nI (jB delay 0 12) (by simp) rfl ?_
  |refine⟨_,_,jB delay 0 12,by simp,.inr rfl,?_⟩
  |refine⟨_,_,jB delay 0 12,by simp,.inl rfl,?_⟩
  |refine tH (jB delay 0 12) (by simp) (.inr rfl) ?_
  |refine tH (jB delay 0 12) (by simp) (.inl rfl) ?_
 simp -dsimp -implicitDefEqProofs;cases h1:inRange delay 0 12 with
 |false=>
  simp -dsimp -implicitDefEqProofs;have e:nO t level delay=(⟨[],0,[]⟩,false):=by simp[nO,h1]
  rw[e];refine yH ?_;simp
 | true=>
  have h2:=jA.1 h1;simp -dsimp -implicitDefEqProofs;refine⟨by omega,?_⟩
  first
   |refine mF (oQ t level) (by simp) rfl ?_
   |refine nI (oQ t level) (by simp) rfl ?_
   |refine⟨_,_,oQ t level,by simp,.inr rfl,?_⟩
   |refine⟨_,_,oQ t level,by simp,.inl rfl,?_⟩
   |refine tH (oQ t level) (by simp) (.inr rfl) ?_
   |refine tH (oQ t level) (by simp) (.inl rfl) ?_
  simp -dsimp -implicitDefEqProofs;refine⟨h2.1,by omega,?_⟩
  first
   |refine mF (oN ⟨t,iD t level,List.replicate delay.toNat 0⟩) (by simp[aB,qC]) rfl ?_
   |refine nI (oN ⟨t,iD t level,List.replicate delay.toNat 0⟩) (by simp[aB,qC]) rfl ?_
   |refine⟨_,_,oN ⟨t,iD t level,List.replicate delay.toNat 0⟩,by simp[aB,qC],.inr rfl,?_⟩
   |refine⟨_,_,oN ⟨t,iD t level,List.replicate delay.toNat 0⟩,by simp[aB,qC],.inl rfl,?_⟩
   |refine tH (oN ⟨t,iD t level,List.replicate delay.toNat 0⟩) (by simp[aB,qC]) (.inr rfl) ?_
   |refine tH (oN ⟨t,iD t level,List.replicate delay.toNat 0⟩) (by simp[aB,qC]) (.inl rfl) ?_
  have e:nO t level delay=if bC ⟨t,iD t level,List.replicate delay.toNat 0⟩then(⟨t,iD t level,List.replicate delay.toNat 0⟩,true)else(⟨[],0,[]⟩,false):=by simp[nO,h1]
  rw[e];cases hr:bC ⟨t,iD t level,List.replicate delay.toNat 0⟩with
  |false=>
   simp -dsimp -implicitDefEqProofs;refine yH ?_;simp
  |true=>
   simp -dsimp -implicitDefEqProofs;refine yH ?_;simp[aB,qC]
theorem ynt{k:Nat}{xs:List X}{s:St}:wOf (.bsl k xs) s=(xs.map s.ev).flatMap AV.ids:=rfl
def yaJ:List Int:=[1,2,3,7,0]
def dM(code:List UInt8)(p:Nat×Int):Nat->(Nat×Int)×List Int
 |0=>(p,[])
 |k+1=>(aQ code yaJ (dM code p k).1,(dM code p k).2++[lI code yaJ (dM code p k).1])
theorem yhw{code:List UInt8}{p:Nat×Int}(h:p.1<=code.length):∀k:Nat,(dM code p k).1.1<=code.length
 |0=>h
 |k+1=>oO (yhw h k)
theorem yeU{code:List UInt8}{p:Nat×Int}:∀k:Nat,(dM code p k).2.length=k
 |0=>rfl
 |k+1=>by simp[dM,yeU (code:=code) (p:=p) k]
theorem yfn{code:List UInt8}{p:Nat×Int}:∀k:Nat,∀w∈(dM code p k).2,0<=w/\w<=7
 |0,w,h=>by simp[dM]at h
 | k+1,w,h=>by
  simp only[dM]at h;rcases zao.1 h with h|h
  ·exact yfn k w h
  ·rw[zal]at h;have h1:=rU (code:=code) (l:=yaJ) (p:=(dM code p k).1) (by simp[yaJ]);rw[<-h]at h1;revert h1;generalize w=v;intro h1;simp[yaJ]at h1;omega
def yec(code:List UInt8)(p:Nat×Int):Nat×Int:=nC code 50 p
def ydS(code:List UInt8)(p:Nat×Int):Nat×Int:=nC code 20 (yec code p)
def yey(code:List UInt8)(p:Nat×Int):Nat×Int:=nC code 9 (ydS code p)
def dY(code:List UInt8)(p:Nat×Int):Nat×Int:=nC code 30 (yey code p)
def yfv(code:List UInt8)(p:Nat×Int):Nat:=(1+jC code 4 (dY code p)).toNat
def yuR(code:List UInt8)(p:Nat×Int):Nat×Int:=(dM code (nC code 4 (dY code p)) (yfv code p)).1
def ygT:List Int->List Int
 |[]=>[]
 |w::l=>(w+1)::l
def fZ(code:List UInt8)(p:Nat×Int):Tariff:=
 ⟨jC code 50 p,jC code 20 (yec code p),[jC code 9 (ydS code p),jC code 30 (yey code p),0],ygT (dM code (nC code 4 (dY code p)) (yfv code p)).2⟩
theorem ypo(code:List UInt8)(p:Nat×Int):(yfv code p:Int)=1+jC code 4 (dY code p)/\1<=yfv code p/\yfv code p<=4:=by
 have h:=xC (code:=code) (n:=4) (p:=dY code p) (by omega);unfold yfv;omega
set_option maxRecDepth 4000 in
theorem ym9(code:List UInt8)(p:Nat×Int)(hp:p.1<=code.length):ycN Tryz.prog 42 (kL code p) (kL code (yuR code p)) [] (.agg [.c (.i (fZ code p).Base),.c (.i (fZ code p).PerArea),.c (.ow 1 ((fZ code p).PerClass.map qC)),.c (.ow 1 ((fZ code p).Weights.map qC))]):=by
 have q1:(yec code p).1<=code.length:=rC hp;have q2:(ydS code p).1<=code.length:=rC q1;have q3:(yey code p).1<=code.length:=rC q2;have q4:(dY code p).1<=code.length:=rC q3;have hK:=ypo code p;refine yb9 ye1 (by simp) λhwf hwf2=>?_;simp -dsimp -implicitDefEqProofs;refine mD (nD code 50 p hp (by omega) (by omega)) (by simp) (by simp) rfl (by simp[tC]) ?_;simp -dsimp -implicitDefEqProofs;refine mD (nD code 20 (yec code p) q1 (by omega) (by omega)) (by simp[yec]) (by simp) rfl (by simp[tC]) ?_;simp -dsimp -implicitDefEqProofs;refine mD (nD code 9 (ydS code p) q2 (by omega) (by omega)) (by simp[ydS]) (by simp) rfl (by simp[tC]) ?_;simp -dsimp -implicitDefEqProofs;refine mD (nD code 30 (yey code p) q3 (by omega) (by omega)) (by simp[yey]) (by simp) rfl (by simp[tC]) ?_;simp -dsimp -implicitDefEqProofs;refine mD (nD code 4 (dY code p) q4 (by omega) (by omega)) (by simp[dY]) (by simp) rfl (by simp[tC]) ?_;simp -dsimp -implicitDefEqProofs;have h4:=xC (code:=code) (n:=4) (p:=dY code p) (by omega);refine⟨by unfold inI;omega,?_⟩;rw[<-hK.1];have q5:(nC code 4 (dY code p)).1<=code.length:=rC q4;have eN:yuR code p=(dM code (nC code 4 (dY code p)) (yfv code p)).1:=rfl;have eW:(fZ code p).Weights=ygT (dM code (nC code 4 (dY code p)) (yfv code p)).2:=rfl;have eB:(fZ code p).Base=jC code 50 p:=rfl;have eA:(fZ code p).PerArea=jC code 20 (yec code p):=rfl;have eC:(fZ code p).PerClass=[jC code 9 (ydS code p),jC code 30 (yey code p),0]:=rfl;rw[eN,eW,eB,eA,eC];generalize yfv code p=n at *;generalize nC code 4 (dY code p)=q0 at *;generalize jC code 50 p=vb at *;generalize jC code 20 (yec code p)=va at *;generalize jC code 9 (ydS code p)=c0 at *;generalize jC code 30 (yey code p)=c1 at *
 refine qA (ι:=Nat) (λk=>k<=n) (λk=>if k=0 then rD [(0,.box 0 0),(1000000,.box 0 0),(2,.box 2 0),(3,.box 3 0),(4,.c (.i n))] [(0,.box ((kL code q0).map .c)),(2,.box [.c (.i 0),.c (.i 0),.nil 1,.nil 1]),(3,.box [.c (.i vb),.c (.i va),.own 13 1 3,.nil 1]),(13,.row 1 [[.i c0],[.i c1],[.i 0]])]
  else rD [(0,.box 0 0),(1000000,.box 0 0),(2,.box 2 0),(3,.box 3 0),(4,.c (.i (n-k)))] [(0,.box ((kL code (dM code q0 k).1).map .c)),(2,.box [.c (.i 0),.c (.i 0),.nil 1,.nil 1]),(3,.box [.c (.i vb),.c (.i va),.own 13 1 3,.own 28 1 k]),(13,.row 1 [[.i c0],[.i c1],[.i 0]]),(28,.row 1 ((dM code q0 k).2.map qC))]) (λk=>n-k) 0 (by simp) (by rw[if_pos rfl];apply dB<;>simp) ?_
 rintro k hk
 have e4:yaJ.map qC=[[.i 1],[.i 2],[.i 3],[.i 7],[.i 0]]:=rfl;rcases zaK k with e|hk0
 ·subst e;rw[if_pos rfl];have hn0:((0:Int)<(n:Int))=True:=by simp;omega
  have hn0':(0<n)=True:=by simp;omega
  have hpk:=qH code yaJ q0 q5 (by simp[yaJ]) (by simp[yaJ]);have hs1:dM code q0 1=(aQ code yaJ q0,[lI code yaJ q0]):=by simp[dM]
  simp -dsimp -implicitDefEqProofs [hn0,hn0'];have hg:yo6 Tryz.prog 38 (kL code q0) (kL code (aQ code yaJ q0)) 1 ([[C.i 1],[C.i 2],[C.i 3],[C.i 7],[C.i 0]].take 5) (.c (.i (lI code yaJ q0))):=hpk;refine yeB (id:=0) (id1:=25) hg (by simp) (by simp) (by simp) (by simp) rfl ?_;simp -dsimp -implicitDefEqProofs [ynt];refine⟨by unfold inI;omega,1,by omega,by omega,?_⟩;rw[if_neg (by omega)];apply dB<;>simp[hs1,qC]
 ·have hne:(k=0)=False:=by simp;omega
  simp only[hne,if_false];have hq:=yhw (p:=q0) q5 k;have hln:=yeU (code:=code) (p:=q0) k;have hsuc:dM code q0 (k+1)=(aQ code yaJ (dM code q0 k).1,(dM code q0 k).2++[lI code yaJ (dM code q0 k).1]):=rfl;rcases zah k n with hlt|hge
  ·have hgt:(0<(n:Int)-(k:Int))=True:=by simp;omega
   generalize dM code q0 k=Q at *;obtain⟨q,ws⟩:=Q;simp only at hq hln hsuc|-;have hpk:=qH code yaJ q hq (by simp[yaJ]) (by simp[yaJ]);have hg:yo6 Tryz.prog 38 (kL code q) (kL code (aQ code yaJ q)) 1 ([[C.i 1],[C.i 2],[C.i 3],[C.i 7],[C.i 0]].take 5) (.c (.i (lI code yaJ q))):=hpk;simp -dsimp -implicitDefEqProofs [hgt];refine⟨λ_=>?_,λh=>by omega⟩;refine yeB (id:=0) (id1:=25) hg (by simp) (by simp) (by simp) (by simp) rfl ?_;simp -dsimp -implicitDefEqProofs [hln,ynt];refine⟨by omega,by unfold inI;omega,k+1,hlt,by omega,?_⟩;rw[if_neg (by omega)];apply dB<;>simp[hsuc,qC]
   try omega
  ·have hgt:(0<(n:Int)-(k:Int))=False:=by simp;omega
   have:k=n:=by omega
   subst this
   obtain⟨w0,wl,hws⟩:∃w0 wl,(dM code q0 k).2=w0::wl:=by
    cases h:(dM code q0 k).2 with
    |nil=>exfalso;rw[h]at hln;simp only[zbv]at hln;omega
    |cons a l=>exact⟨a,l,rfl⟩
   have hw7:=yfn (code:=code) (p:=q0) k w0 (by rw[hws];simp);rw[hws];simp -dsimp -implicitDefEqProofs [hgt,ygT];rw[hws]at hln;refine⟨hk0,by unfold inI;omega,hk0,?_⟩;rw[zaf (by simpa using Nat.le_of_eq hln)]
theorem yst:∀(l:List Int),(∀x∈l,0<=x)->0<=l.sum
 |[],_=>by simp
 |a::l,h=>by
  have h1:=h a (by simp);have h2:=yst l λx hx=>h x (by simp[hx]);rw[zbg];omega
theorem ypu(code:List UInt8)(p:Nat×Int):sG (fZ code p)=true/\(fZ code p).small/\(fZ code p).Weights.length<=4:=by
 have hK:=ypo code p;have h1:=xC (code:=code) (n:=50) (p:=p) (by omega);have h2:=xC (code:=code) (n:=20) (p:=yec code p) (by omega);have h3:=xC (code:=code) (n:=9) (p:=ydS code p) (by omega);have h4:=xC (code:=code) (n:=30) (p:=yey code p) (by omega);have hl:=yeU (code:=code) (p:=nC code 4 (dY code p)) (yfv code p);have hr:=yfn (code:=code) (p:=nC code 4 (dY code p)) (yfv code p)
 have hw:∃w0 wl,(fZ code p).Weights=w0::wl/\(∀w∈w0::wl,0<=w/\w<=8)/\1<=w0/\wl.length<=3:=by
  show∃w0 wl,ygT (dM code (nC code 4 (dY code p)) (yfv code p)).2=w0::wl/\_
  generalize(dM code (nC code 4 (dY code p)) (yfv code p)).2=l at *;cases l with
  |nil=>simp at hl;omega
  |cons a l=>
   refine⟨a+1,l,rfl,λw hw=>?_,by have:=hr a (by simp);omega,by simp at hl;omega⟩;rcases zaH.1 hw with e|e
   ·have:=hr a (by simp);omega
   ·have:=hr w (by simp[e]);omega
 obtain⟨w0,wl,e,hw,hw0,hwl⟩:=hw
 have hsum:0<=wl.sum:=by
  have:=yst wl λx hx=>(hw x (by simp[hx])).1;omega
 have ec:(fZ code p).PerClass=[jC code 9 (ydS code p),jC code 30 (yey code p),0]:=rfl;refine⟨?_,⟨?_,?_⟩,?_⟩
 ·have a1:inRange (fZ code p).Base 0 10000=true:=jA.2 ⟨h1.1,by have:=h1.2;show jC code 50 p<=_;omega⟩;have a2:inRange (fZ code p).PerArea 0 100=true:=jA.2 ⟨h2.1,by have:=h2.2;show jC code 20 (yec code p)<=_;omega⟩
  have a3:(fZ code p).PerClass.all (λn=>inRange n 0 10000)=true:=by
   rw[ec,zae];intro x hx;simp only[zaH,zaG,or_false]at hx;rcases hx with rfl|rfl|rfl
   ·exact jA.2 ⟨h3.1,by omega⟩
   ·exact jA.2 ⟨h4.1,by omega⟩
   ·decide
  have a4:(fZ code p).Weights.all (λn=>inRange n 0 1000)=true:=by
   rw[e,zae]
   exactλx hx=>jA.2 ⟨(hw x hx).1,by have:=(hw x hx).2;omega⟩
  have a5:inRange (fZ code p).Weights.length 1 11=true:=by rw[e,zaC];exact jA.2 ⟨by omega,by omega⟩
  have a6:(fZ code p).PerClass.length=3:=by rw[ec];rfl
  have a7:0<(fZ code p).Weights.sum:=by rw[e,zbg];omega
  simp only[sG,a1,a2,a3,a4,a5,a6,a7,decide_true,zdj]
 ·rw[ec];simp
 ·rw[e];simp;omega
 ·rw[e];simp;omega
def yhM:List Int:=[8,20,40]
def ygp:List Int:=[60,120]
def ygm:List Int:=[10,16]
def ybO:List Int:=[60,300,2000]
def ydP:List Int:=[10,30,70]
def yiH(code:List UInt8)(p:Nat×Int):Nat×Int:=nC code 9 p
def yhq(code:List UInt8)(p:Nat×Int):Nat×Int:=nC code 30 (yiH code p)
def ynr(code:List UInt8)(p:Nat×Int):Nat×Int:=nC code 3 (yhq code p)
def ydr(code:List UInt8)(p:Nat×Int):Nat×Int:=aQ code yhM (ynr code p)
def ymT(code:List UInt8)(p:Nat×Int):Nat×Int:=aQ code ygp (ydr code p)
def yeb(code:List UInt8)(p:Nat×Int):Nat×Int:=aQ code ygm (ymT code p)
def ynl(code:List UInt8)(p:Nat×Int):Nat×Int:=nC code 8 (yeb code p)
def yrX(code:List UInt8)(p:Nat×Int):Nat×Int:=aQ code ybO (ynl code p)
def ygE(code:List UInt8)(p:Nat×Int):Nat×Int:=nC code 2 (yrX code p)
def ylO(code:List UInt8)(p:Nat×Int):Nat×Int:=aQ code ydP (ygE code p)
def ylD(code:List UInt8)(p:Nat×Int):Nat×Int:=nC code 9 (ylO code p)
def ylS(code:List UInt8)(p:Nat×Int):Nat×Int:=nC code 5 (ylD code p)
def yc7(code:List UInt8)(p:Nat×Int):Nat×Int:=nC code 20 (ylS code p)
def wkN(code:List UInt8)(p:Nat×Int):Nat×Int:=(bM code (yc7 code p)).1
theorem yql{code:List UInt8}{p:Nat×Int}(h:p.1<=code.length):(yiH code p).1<=code.length:=rC h
theorem yp9{code:List UInt8}{p:Nat×Int}(h:p.1<=code.length):(yhq code p).1<=code.length:=rC (yql h)
theorem yqj{code:List UInt8}{p:Nat×Int}(h:p.1<=code.length):(ynr code p).1<=code.length:=rC (yp9 h)
theorem ygU{code:List UInt8}{p:Nat×Int}(h:p.1<=code.length):(ydr code p).1<=code.length:=oO (yqj h)
theorem ypw{code:List UInt8}{p:Nat×Int}(h:p.1<=code.length):(ymT code p).1<=code.length:=oO (ygU h)
theorem ypR{code:List UInt8}{p:Nat×Int}(h:p.1<=code.length):(yeb code p).1<=code.length:=oO (ypw h)
theorem ypk{code:List UInt8}{p:Nat×Int}(h:p.1<=code.length):(ynl code p).1<=code.length:=rC (ypR h)
theorem ypl{code:List UInt8}{p:Nat×Int}(h:p.1<=code.length):(yrX code p).1<=code.length:=oO (ypk h)
theorem yp3{code:List UInt8}{p:Nat×Int}(h:p.1<=code.length):(ygE code p).1<=code.length:=rC (ypl h)
theorem yqd{code:List UInt8}{p:Nat×Int}(h:p.1<=code.length):(ylO code p).1<=code.length:=oO (yp3 h)
theorem ypq{code:List UInt8}{p:Nat×Int}(h:p.1<=code.length):(ylD code p).1<=code.length:=rC (yqd h)
theorem ypS{code:List UInt8}{p:Nat×Int}(h:p.1<=code.length):(ylS code p).1<=code.length:=rC (ypq h)
theorem ypJ{code:List UInt8}{p:Nat×Int}(h:p.1<=code.length):(yc7 code p).1<=code.length:=rC (ypS h)
theorem yx8{code:List UInt8}{p:Nat×Int}(h:p.1<=code.length):(wkN code p).1<=code.length:=yoX (ypJ h)
def aX(bed y:Int):List Point:=[⟨bed,0⟩,⟨bed+60,y⟩,⟨bed+90,20000⟩]
def ybl(code:List UInt8)(bed:Int)(p:Nat×Int):Reach:=(nO (aX bed (6000+600*jC code 9 p)) (bed+25+jC code 30 (yiH code p)) (jC code 3 (yhq code p))).1
def yjK(code:List UInt8)(bed:Int)(p:Nat×Int):Way:=⟨lI code yhM (ynr code p),bed⟩
def ybi(code:List UInt8)(p:Nat×Int):List Pause:=if jJ (bM code p).2 then(bM code p).2 else[]
def yja(code:List UInt8)(bed:Int)(p:Nat×Int):Lock:=⟨lI code ygp (ydr code p),lI code ygm (ymT code p),bed,bed-40,bed-40,1+jC code 8 (yeb code p),lI code ybO (ynl code p),(1+jC code 8 (yeb code p))*lI code ydP (ygE code p),0,[]⟩
def ymS(code:List UInt8)(bed:Int)(p:Nat×Int):Weir:=⟨2,jC code 9 (ylO code p),1+jC code 5 (ylD code p),bed+10,1+jC code 20 (ylS code p)⟩
def rY(code:List UInt8)(bed:Int)(p:Nat×Int):Work:=⟨yja code bed p,ymS code bed p,⟨bed+20,bed+45,bed+70⟩,ybi code (yc7 code p),⟨false,0⟩,[]⟩
structure Drawn where
 p:Nat×Int
 R:List Reach
 W:List Way
 K:List Work
def fG(code:List UInt8)(n:Nat)(p:Nat×Int):Nat->Drawn
 |0=>⟨p,[],[],[]⟩
 |k+1=>
  let q:=fG code n p k
  if k+1=n then⟨ydr code q.p,q.R++[ybl code (40*(n-k:Int)) q.p],q.W++[yjK code (40*(n-k:Int)) q.p],q.K⟩
  else⟨wkN code q.p,q.R++[ybl code (40*(n-k:Int)) q.p],q.W++[yjK code (40*(n-k:Int)) q.p],q.K++[rY code (40*(n-k:Int)) q.p]⟩
theorem yiV{code:List UInt8}{n:Nat}{p:Nat×Int}(h:p.1<=code.length):∀k:Nat,(fG code n p k).p.1<=code.length
 |0=>h
 |k+1=>by
  have ih:=yiV (n:=n) h k;unfold fG;simp only;split
  ·exact ygU ih
  ·exact yx8 ih
theorem ykv{code:List UInt8}{n:Nat}{p:Nat×Int}:∀k:Nat,k<=n->(fG code n p k).R.length=k/\(fG code n p k).W.length=k/\(k<n->(fG code n p k).K.length=k)/\(k=n->(fG code n p k).K.length=n-1)
 |0,_=>by simp[fG];omega
 |k+1,hk=>by
  have ih:=ykv (code:=code) (n:=n) (p:=p) k (by omega);unfold fG;simp only;split
  ·simp only[zau,zaC,zbv];omega
  ·simp only[zau,zaC,zbv];omega
def ybV(code:List UInt8)(p:Nat×Int):Nat:=(2+jC code 3 p).toNat
theorem ylQ(code:List UInt8)(p:Nat×Int):(ybV code p:Int)=2+jC code 3 p/\2<=ybV code p/\ybV code p<=4:=by
 have h:=xC (code:=code) (n:=3) (p:=p) (by omega);unfold ybV;omega
def yaU(code:List UInt8)(p:Nat×Int):Drawn:=fG code (ybV code p) (nC code 3 p) (ybV code p)
theorem yu8{code:List UInt8}{p:Nat×Int}(h:p.1<=code.length):(yaU code p).p.1<=code.length:=yiV (rC h) _
def ynb(code:List UInt8)(p:Nat×Int):Waterway:=(eG (yaU code p).R (yaU code p).W (yaU code p).K (fZ code (yaU code p).p)).1
def yrH(code:List UInt8)(p:Nat×Int):Nat×Int:=yuR code (yaU code p).p
theorem yqH{bed y:Int}(hb:0<=bed/\bed<=1000)(hy:0<=y/\y<=20000):fF (aX bed y)=true:=by
 simp[fF,upTo,yau,aX,xZ,follows,inRange];omega
theorem yvP(n:Nat):(List.replicate n (0:Int)).sum=0/\∀x∈List.replicate n (0:Int),amount x=true:=by
 refine⟨?_,λx hx=>by rw[(zbq.1 hx).2];decide⟩
 induction n with
 |zero=>rfl
 |succ n ih=>rw[zbn,zbg,ih];rfl
theorem yrj{code:List UInt8}{bed:Int}{p:Nat×Int}(hb:0<=bed/\bed<=1000):∃(t:List Point) (v:Int) (d:Nat),ybl code bed p=⟨t,v,List.replicate d 0⟩/\t.length=3/\0<=v/\v<=20000/\d<=2/\bC ⟨t,v,List.replicate d 0⟩=true:=by
 have h1:=xC (code:=code) (n:=9) (p:=p) (by omega);have h2:=xC (code:=code) (n:=30) (p:=yiH code p) (by omega);have h3:=xC (code:=code) (n:=3) (p:=yhq code p) (by omega);unfold ybl nO;generalize jC code 9 p=a at *;generalize jC code 30 (yiH code p)=b at *;generalize jC code 3 (yhq code p)=c at *;have hT:=yqH (bed:=bed) (y:=6000+600*a) hb (by omega);have p0:bI (aX bed (6000+600*a)) 0=⟨bed,0⟩:=rfl;have p2:bI (aX bed (6000+600*a)) ((aX bed (6000+600*a)).length-1)=⟨bed+90,20000⟩:=rfl;have v0:=yN hT (x:=bed) (by rw[p0];exact zbJ _);have v1:=ybD hT (x:=bed+90) (by rw[p2];exact zbJ _);have m0:=ybm hT (x:=bed) (y:=bed+25+b) (by omega);have m1:=ybm hT (x:=bed+25+b) (y:=bed+90) (by omega);rw[v0,p0]at m0;rw[v1,p2]at m1;simp only at m0 m1;have hin:inRange c 0 12=true:=jA.2 ⟨by omega,by omega⟩
 have hok:bC ⟨aX bed (6000+600*a),iD (aX bed (6000+600*a)) (bed+25+b),List.replicate c.toNat 0⟩=true:=by
  obtain⟨z1,z2⟩:=yvP c.toNat;simp only[bC,sD,hT,z1,zad,decide_eq_true_eq,zae,zbo,zbz];exact⟨⟨⟨jA.2 ⟨by omega,by omega⟩,by omega⟩,z2⟩,by omega⟩
 rw[if_pos hin,if_pos hok];exact⟨_,_,_,rfl,rfl,by omega,by omega,by omega,hok⟩
theorem yvJ{code:List UInt8}{p:Nat×Int}:let x:=lI code yhM p;x=8\/x=20\/x=40:=by
 have:=rU (code:=code) (l:=yhM) (p:=p) (by simp[yhM]);simpa[yhM]using this
theorem yxB{code:List UInt8}{p:Nat×Int}:let x:=lI code ygp p;x=60\/x=120:=by
 have:=rU (code:=code) (l:=ygp) (p:=p) (by simp[ygp]);simpa[ygp]using this
theorem yxY{code:List UInt8}{p:Nat×Int}:let x:=lI code ygm p;x=10\/x=16:=by
 have:=rU (code:=code) (l:=ygm) (p:=p) (by simp[ygm]);simpa[ygm]using this
theorem yw5{code:List UInt8}{p:Nat×Int}:let x:=lI code ybO p;x=60\/x=300\/x=2000:=by
 have:=rU (code:=code) (l:=ybO) (p:=p) (by simp[ybO]);simpa[ybO]using this
theorem ysC{code:List UInt8}{p:Nat×Int}:let x:=lI code ydP p;x=10\/x=30\/x=70:=by
 have:=rU (code:=code) (l:=ydP) (p:=p) (by simp[ydP]);simpa[ydP]using this
theorem yj4{a w:Int}(h:1<=a/\a<=8)(hw:w=10\/w=30\/w=70):0<=a*w/\a*w<=560:=by
 rcases hw with rfl|rfl|rfl<;>omega
theorem yuX{code:List UInt8}{bed:Int}{p:Nat×Int}(hb:0<=bed/\bed<=1000):yK (yjK code bed p)=true:=by
 have h:=yvJ (code:=code) (p:=ynr code p);simp only[yK,yjK,zad];exact⟨jA.2 ⟨by omega,by omega⟩,jA.2 ⟨by omega,by omega⟩⟩
theorem ylF:Distinct []=true:=by decide
theorem ytv{code:List UInt8}{bed:Int}{p:Nat×Int}(hb:40<=bed/\bed<=1000):dF (rY code bed p)=true/\lQ (rY code bed p)=true/\(0<=xF (rY code bed p)/\xF (rY code bed p)<=560)/\(rY code bed p).Calls=[]/\(rY code bed p).Lock.Inside=[]/\(rY code bed p).small/\(rY code bed p).Lock.Gate=0:=by
 have e1:=yxB (code:=code) (p:=ydr code p);have e2:=yxY (code:=code) (p:=ymT code p);have e3:=xC (code:=code) (n:=8) (p:=yeb code p) (by omega);have e4:=yw5 (code:=code) (p:=ynl code p);have e5:=ysC (code:=code) (p:=ygE code p);have e6:=xC (code:=code) (n:=9) (p:=ylO code p) (by omega);have e7:=xC (code:=code) (n:=5) (p:=ylD code p) (by omega);have e8:=xC (code:=code) (n:=20) (p:=ylS code p) (by omega);have hw:=yj4 (a:=1+jC code 8 (yeb code p)) (by omega) e5
 have hl:kH (yja code bed p)=true:=by
  simp only[kH,yja,ylF,zdi,zad];exact⟨⟨⟨⟨⟨⟨⟨⟨jA.2 ⟨by omega,by omega⟩,jA.2 ⟨by omega,by omega⟩⟩,jA.2 ⟨by omega,by omega⟩⟩,jA.2 ⟨by omega,by omega⟩⟩,jA.2 ⟨by omega,by omega⟩⟩,jA.2 ⟨by omega,by omega⟩⟩,jA.2 ⟨by omega,by omega⟩⟩,jA.2 ⟨by omega,by omega⟩⟩,by decide⟩
 have hv:qF (ymS code bed p)=true:=by
  simp only[qF,ymS,zad];exact⟨⟨⟨⟨by decide,jA.2 ⟨by omega,by omega⟩⟩,jA.2 ⟨by omega,by omega⟩⟩,jA.2 ⟨by omega,by omega⟩⟩,jA.2 ⟨by omega,by omega⟩⟩
 have hr:qK ⟨bed+20,bed+45,bed+70⟩=true:=by
  simp only[qK,zad,decide_eq_true_eq];exact⟨⟨⟨⟨jA.2 ⟨by omega,by omega⟩,jA.2 ⟨by omega,by omega⟩⟩,jA.2 ⟨by omega,by omega⟩⟩,by omega⟩,by omega⟩
 have hp:jJ (ybi code (yc7 code p))=true/\(ybi code (yc7 code p)).length<=13:=by
  unfold ybi;split
  ·rename_i h;exact⟨h,yny⟩
  ·exact⟨by decide,by simp⟩
 refine⟨?_,rfl,hw,rfl,rfl,?_,rfl⟩
 ·have ht:yfs ⟨false,0⟩=true:=by decide
  simp only[dF,rY,hl,hv,hr,hp.1,ht,zbv,List.all_nil];rfl
 ·exact⟨⟨by simp[rY,yja],λx hx=>by simp[rY,yja]at hx⟩,⟨by have:=hp.2;show(ybi code (yc7 code p)).length<=_;omega,λ_ _=>trivial⟩,⟨by simp[rY],λx hx=>by simp[rY]at hx⟩⟩
structure SoundD(d:Drawn)(k j:Nat):Prop where
 lr:d.R.length=k
 lw:d.W.length=k
 lk:d.K.length=j
 r:∀r∈d.R,bC r=true/\r.small/\0<=sD r/\sD r<=20000
 w:∀w∈d.W,yK w=true
 k:∀w∈d.K,dF w=true/\lQ w=true/\(0<=xF w/\xF w<=560)/\w.Calls=[]/\w.Lock.Inside=[]/\w.small/\w.Lock.Gate=0
theorem ygc{code:List UInt8}{n:Nat}{p:Nat×Int}(hn:n<=4):∀k:Nat,k<=n->SoundD (fG code n p k) k (min k (n-1))
 |0,_=>⟨rfl,rfl,by simp[fG],λr h=>by simp[fG]at h,λr h=>by simp[fG]at h,λr h=>by simp[fG]at h⟩
 | k+1,hk=>by
  have ih:=ygc (code:=code) (p:=p) hn k (by omega);have hb:40<=(40*(n-k:Int))/\(40*(n-k:Int))<=1000:=by omega
  obtain⟨t,v,d,h1,h2,h3,h4,h5,h6⟩:=yrj (code:=code) (bed:=40*(n-k:Int)) (p:=(fG code n p k).p) (by omega)
  have hr:∀r∈(fG code n p k).R++[ybl code (40*(n-k:Int)) (fG code n p k).p],bC r=true/\r.small/\0<=sD r/\sD r<=20000:=by
   intro r h;rcases zao.1 h with h|h
   ·exact ih.r r h
   ·rw[zal,h1]at h;subst h;refine⟨h6,⟨⟨by simp only;omega,λ_ _=>trivial⟩,⟨by simp only[zbo];omega,λ_ _=>trivial⟩⟩,?_⟩;simp only[sD,(yvP d).1];omega
  have hw:∀w∈(fG code n p k).W++[yjK code (40*(n-k:Int)) (fG code n p k).p],yK w=true:=by
   intro w h;rcases zao.1 h with h|h
   ·exact ih.w w h
   ·rw[zal]at h;subst h;exact yuX (by omega)
  have a1:=ih.lr;have a2:=ih.lw;have a3:=ih.lk;unfold fG;simp only;split
  ·refine⟨by simp;omega,by simp;omega,by simp only;omega,hr,hw,ih.k⟩
  ·refine⟨by simp;omega,by simp;omega,by simp only[zau,zaC,zbv];omega,hr,hw,λw h=>?_⟩;rcases zao.1 h with h|h
   ·exact ih.k w h
   ·rw[zal]at h;subst h;exact ytv hb
theorem yll{α:Type}{f:α->Int}{m:Int}:∀(l:List α),(∀x∈l,0<=f x/\f x<=m)->0<=(l.map f).sum/\(l.map f).sum<=m*l.length
 |[],_=>by simp
 |a::l,h=>by
  have ih:=yll (f:=f) (m:=m) l λx hx=>h x (by simp[hx]);have h1:=h a (by simp);have h2:m*((a::l).length:Int)=m*l.length+m:=by rw[zaC];push_cast;rw[zdn,Int.mul_one]
  simp only[zaD,zbg];rw[h2];omega
theorem yg5(code:List UInt8)(p:Nat×Int):SoundD (yaU code p) (ybV code p) (ybV code p-1)/\dJ (yaU code p).R/\yT (yaU code p).W/\qM (yaU code p).K:=by
 obtain⟨_,h2,h4⟩:=ylQ code p
 have S:SoundD (yaU code p) (ybV code p) (ybV code p-1):=by
  have:=ygc (code:=code) (p:=nC code 3 p) h4 (ybV code p) (Nat.le_refl _);rw[show min (ybV code p) (ybV code p-1)=ybV code p-1 by omega]at this;exact this
 have a1:=S.lr;have a2:=S.lw;have a3:=S.lk;exact⟨S,⟨by omega,λr h=>(S.r r h).2.1⟩,⟨by omega,λ_ _=>trivial⟩,⟨by omega,λw h=>(S.k w h).2.2.2.2.2.1⟩⟩
structure Fresh(x:Waterway):Prop where
 gate:∀w∈x.Works,w.Lock.Gate=0
 start:x.Start<=1000000
 time:x.Time=0
 inn:x.In=0
theorem yqN(code:List UInt8)(p:Nat×Int):Bare (ynb code p)/\(ynb code p).small/\Fresh (ynb code p):=by
 obtain⟨S,s1,s2,s3⟩:=yg5 code p;obtain⟨_,h2,h4⟩:=ylQ code p;obtain⟨t1,t2,_⟩:=ypu code (yaU code p).p;have a1:=S.lr;have a2:=S.lw;have a3:=S.lk;unfold ynb;generalize fZ code (yaU code p).p=T at *;generalize yaU code p=d at *;generalize ybV code p=n at *;have hno:d.K.all lQ=true:=zae.2 λw h=>(S.k w h).2.1
 have hriv:pG d.R=true:=by
  have:=yll (f:=sD) (m:=20000) d.R λr h=>(S.r r h).2.2;simp only[pG,river,zad,decide_eq_true_eq,zae];refine⟨⟨⟨by omega,by omega⟩,λr h=>(S.r r h).1⟩,decide_eq_true (by omega)⟩
 have hlan:(d.W.zip (List.replicate d.R.length [])).all fK=true:=by
  refine zae.2 λq hq=>?_;obtain⟨w,l⟩:=q;obtain⟨m1,m2⟩:=List.of_mem_zip hq;rw[(zbq.1 m2).2];simp only[fK,S.w w m1,zbv,List.all_nil];rfl
 have hwk:d.K.all dF=true:=zae.2 λw h=>(S.k w h).1
 have hany:∀s:Int,0<=s->s<=1000000000->xB ⟨0,d.R,d.W,d.K,List.replicate d.R.length [],[],[],T,[],[],s,0,0⟩=true:=by
  intro s g1 g2;have g3:inRange s 0 1000000000=true:=jA.2 ⟨g1,g2⟩
  have hp:bG ⟨0,d.R,d.W,d.K,List.replicate d.R.length [],[],[],T,[],[],s,0,0⟩=true:=by
   simp only[bG,hriv,hlan,hwk,zbo,zbz,zdi,zad];exact⟨⟨⟨decide_eq_true (by omega),decide_eq_true (by omega)⟩,decide_eq_true (by simp)⟩,decide_eq_true (by omega)⟩
  have hl:gI ⟨0,d.R,d.W,d.K,List.replicate d.R.length [],[],[],T,[],[],s,0,0⟩=true:=by
   simp[gI]
  have hbk:yaz []=true:=by decide
  have h0:inRange 0 0 1000000=true:=by decide
  have h00:inRange 0 0 1000000000=true:=by decide
  simp only[xB,hp,hl,t1,hbk,g3,h0,h00,zdj]
 have hraw:xB (yco d.R d.W d.K T)=true:=hany 0 (by omega) (by omega)
 have hwat:0<=qG (yco d.R d.W d.K T)/\qG (yco d.R d.W d.K T)<=1000000:=by
  have e1:=yll (f:=sD) (m:=20000) d.R λr h=>(S.r r h).2.2;have e2:=yll (f:=xF) (m:=560) d.K λw h=>(S.k w h).2.2.1;unfold qG nG;rw[if_pos hraw]
  show 0<=(if pG d.R then river d.R else 0)+(d.K.map xF).sum/\(if pG d.R then river d.R else 0)+(d.K.map xF).sum<=1000000
  rw[if_pos hriv];unfold river;omega
 have hnew:xB (ycP d.R d.W d.K T)=true:=hany _ hwat.1 (by omega)
 have e:eG d.R d.W d.K T=(ycP d.R d.W d.K T,true):=by
  unfold eG;rw[hno,hnew];rfl
 rw[e];refine⟨⟨hnew,λl hl=>(zbq.1 hl).2,rfl,rfl,rfl,rfl,λw hw=>⟨(S.k w hw).2.2.2.1,(S.k w hw).2.2.2.2.1⟩,?_⟩,yjV s1 s2 s3 t2,λw hw=>(S.k w hw).2.2.2.2.2.2,hwat.2,rfl,rfl⟩
 show qG (ycP d.R d.W d.K T)+0=qG (yco d.R d.W d.K T)+0
 have:qG (ycP d.R d.W d.K T)=qG (yco d.R d.W d.K T):=by
  unfold qG;rw[if_pos hnew,if_pos hraw];rfl
 rw[this]
theorem ycJ{α:Type}{f:α->Int}{b:α}:∀{l:List α} {k:Nat} {a:α},l[k]?=some a->((l.set k b).map f).sum=(l.map f).sum-f a+f b
 |[],_,_,h=>by cases h
 |c::l,0,a,h=>by
  obtain rfl:c=a:=by simpa using h
  simp only[zbZ,zaD,zbg];omega
 |c::l,k+1,a,h=>by
  have:=ycJ (f:=f) (b:=b) (l:=l) (k:=k) (a:=a) (by simpa using h);simp only[List.set_cons_succ,zaD,zbg];omega
theorem yun{b:Int}:∀{l:List Int} {k:Nat} {a:Int},l[k]?=some a->(l.set k b).sum=l.sum-a+b:=by
 intro l k a h;have:=ycJ (f:=λx:Int=>x) (b:=b) h;simpa using this
def Reach.has(r:Reach)(n:Int):Prop:=bC r=true/\sD r=n
theorem yd8{t:List Point}{v:Int}{p:List Int}(ht:fF t=true)(hv:0<=v)(hl:p.length<=12)(hp:∀x∈p,0<=x)(hs:v+p.sum<=1000000000):bC ⟨t,v,p⟩=true:=by
 have hall:∀(p:List Int),(∀x∈p,0<=x)->0<=p.sum/\∀x∈p,x<=p.sum:=by
  intro p
  induction p with
  |nil=>intro _;exact⟨by simp,λx hx=>by cases hx⟩
  |cons a p ih=>
   intro h;obtain⟨h1,h2⟩:=ih λx hx=>h x (by simp[hx]);have h3:=h a (by simp);refine⟨by simp only[zbg];omega,λx hx=>?_⟩;rw[zbg];rcases zaH.1 hx with e|e
   ·omega
   ·have:=h2 x e;omega
 obtain⟨h1,h2⟩:=hall p hp;simp only[bC,sD,ht,zad,decide_eq_true_eq,zae,zbz];exact⟨⟨⟨jA.2 ⟨hv,by omega⟩,hl⟩,λx hx=>jA.2 ⟨hp x hx,by have:=h2 x hx;omega⟩⟩,decide_eq_true hs⟩
structure ReachF(r:Reach):Prop where
 t:fF r.Table=true
 v:0<=r.Volume
 l:r.Pipe.length<=12
 p:∀x∈r.Pipe,0<=x
 s:r.Volume+r.Pipe.sum<=1000000000
 ps:0<=r.Pipe.sum
theorem yo9{r:Reach}(h:bC r=true):ReachF r:=by
 have f:=dQ h;simp only[bC,zad,decide_eq_true_eq]at h;refine⟨h.1.1.1.1,(jA.1 (show inRange r.Volume 0 1000000000=true from f.vol)).1,f.len,λx hx=>(jA.1 (show inRange x 0 1000000000=true from f.amt x hx)).1,h.2,ybz f.amt⟩
theorem ypB{r:Reach}{q:Int}(h:bC r=true)(h0:0<=q)(hq:q<=gK r):(lJ r q).has (sD r+q):=by
 have f:=yo9 h;have f1:=f.v;have f2:=f.s;have f3:=f.l;have f4:=f.ps;have hsp:gK r=1000000000-(r.Volume+r.Pipe.sum):=by unfold gK;rw[if_pos h];rfl
 have hc:yae r q=true:=by simp[yae,h,h0,hq]
 unfold lJ;rw[if_pos hc];split
 ·refine⟨yd8 f.t (by omega) f3 f.p (by omega),?_⟩;simp only[sD];omega
 ·rename_i hp;obtain⟨v,hv⟩:∃v,r.Pipe[r.Pipe.length-1]?=some v:=⟨_,zaa (by omega)⟩;have hg:r.Pipe.getD (r.Pipe.length-1) 0=v:=by rw[zbe,hv];rfl
  have hv0:=f.p v (zac hv);have hs:=yun (b:=v+q) hv;rw[hg];refine⟨yd8 f.t f1 (by simpa using f3) (λx hx=>?_) (by omega),?_⟩
  ·rcases zaJ hx with e|e
   ·exact f.p x e
   ·omega
  ·simp only[sD];omega
theorem yud{r:Reach}(h:bC r=true):(jK r).has (sD r):=by
 have f:=yo9 h;have f1:=f.v;have f2:=f.s;have f3:=f.l;have f4:=f.ps;have f5:=f.p;unfold jK;split
 ·obtain⟨t,v,p⟩:=r;cases p with
  |nil=>rename_i h2;simp at h2
  | cons a p=>
   have ha:=f5 a (by simp);have f1:0<=v:=f1;simp only[zbg]at f2;have e:(List.tail (a::p)++[0]).sum=p.sum:=by simp
   simp only[zbe,zbr,zbs];refine⟨yd8 f.t (by omega) (by simp at f3|-;omega) (λx hx=>?_) (by rw[e];omega),?_⟩
   ·rcases zao.1 hx with e|e
    ·exact f5 x (by simp at e;simp[e])
    ·simp at e;omega
   ·simp only[sD,e,zbg];omega
 ·exact⟨h,rfl⟩
theorem yqb{r:Reach}{a k:Int}(h:bC r=true):(eF r a k).1.has (sD r-(eF r a k).2)/\0<=(eF r a k).2:=by
 have f:=yo9 h;have f1:=f.v;have f2:=f.s;have f4:=f.ps;unfold eF;split
 ·rename_i hc;simp only[ybv,zad,decide_eq_true_eq]at hc;obtain⟨n,hn⟩:∃n,takeN r a k=n:=⟨_,rfl⟩
  have hn2:0<=n/\n<=r.Volume:=by
   rw[<-hn];simp only[takeN];(repeat' split)<;>omega
  rw[hn];refine⟨⟨yd8 f.t (by omega) f.l f.p (by omega),?_⟩,hn2.1⟩;simp only[sD];omega
 ·exact⟨⟨h,by simp⟩,by simp⟩
theorem yre{r:Reach}{a k:Int}(h:0<=a):(eF r a k).2<=a:=by
 unfold eF;split
 ·simp only[takeN];(repeat' split)<;>omega
 ·exact h
theorem yup{a b:Reach}{q k:Int}(ha:bC a=true)(hb:bC b=true):bC (qL a b q k).1=true/\bC (qL a b q k).2.1=true/\sD (qL a b q k).1+sD (qL a b q k).2.1=sD a+sD b:=by
 unfold qL;split
 ·rename_i hc;simp only[yt,zad,decide_eq_true_eq]at hc;obtain⟨t1,t2⟩:=yqb (a:=ybK b q) (k:=k) ha;have hsp:=yh5 b;have hq:0<=ybK b q/\ybK b q<=gK b:=by unfold ybK;split<;>omega
  have tm:=yre (r:=a) (k:=k) hq.1;have s1:=ypB hb t2 (by omega);refine⟨t1.1,s1.1,?_⟩;rw[t1.2,s1.2];omega
 ·exact⟨ha,hb,rfl⟩
theorem ywf{a b:Reach}{w:Weir}(ha:bC a=true)(hb:bC b=true):bC (iF a b w).1=true/\bC (iF a b w).2.1=true/\sD (iF a b w).1+sD (iF a b w).2.1=sD a+sD b:=by
 unfold iF;split
 ·exact yup ha hb
 ·exact⟨ha,hb,rfl⟩
theorem ypK{w:Weir}{o:Int}(h:qF w=true):qF (iQ w o)=true:=by
 unfold iQ;split
 ·rename_i hc;simp only[zad]at hc;have hr:=jA.1 hc.2;have f:=yaV h;have f2:=f.opn;have f3:=f.stp
  have hg:inRange (yhH w o) 0 (10*w.Gates)=true:=by
   refine jA.2 ?_;simp only[yhH];(repeat' split)<;>omega
  simp only[qF,zad]at h|-;exact⟨⟨⟨⟨h.1.1.1.1,hg⟩,h.1.1.2⟩,h.1.2⟩,h.2⟩
 ·exact h
theorem ytn{w:Weir}{r:Rule}{u d q:Int}(h:qF w=true):qF (lM w r u d q)=true:=by
 unfold lM;split
 ·split
  ·exact ypK h
  ·exact ypK h
 ·exact h
theorem ywg{w:Work}{v:Weir}(h:dF w=true)(hv:qF v=true):dF (yam w v)=true:=by
 simp only[dF,yam,zad]at h|-;exact⟨⟨⟨⟨⟨⟨h.1.1.1.1.1.1,hv⟩,h.1.1.1.1.2⟩,h.1.1.1.2⟩,h.1.1.2⟩,h.1.2⟩,h.2⟩
theorem ygK{α:Type}{p:α->Bool}{l:List α}{k:Nat}{b:α}(h:∀x∈l,p x=true)(hb:p b=true):∀x∈l.set k b,p x=true:=by
 intro x hx;rcases zaJ hx with e|e
 ·exact h x e
 ·rw[e];exact hb
structure Steered(rs:List Reach)(ws:List Work)(s:List Reach×List Work):Prop where
 r:∀r∈s.1,bC r=true
 w:∀w∈s.2,dF w=true
 rs:river s.1=river rs
 ws:(s.2.map xF).sum=(ws.map xF).sum
theorem yqi{q:Int}{rs:List Reach}{ws:List Work}(hr:∀r∈rs,bC r=true)(hw:∀w∈ws,dF w=true)(hn:ws.length<rs.length):∀k:Nat,k<=ws.length->Steered rs ws (jE q rs ws k)
 |0,_=>⟨hr,hw,rfl,rfl⟩
 | k+1,hk=>by
  obtain⟨a,b,c,d⟩:=yqi (q:=q) hr hw hn k (by omega);obtain⟨l1,l2⟩:=lT (q:=q) (rs:=rs) (ws:=ws) k;simp only[jE];generalize(jE q rs ws k).1=rs' at *;generalize(jE q rs ws k).2=ws' at *;have r1:=ydZ (rs:=rs') (k:=k) (by omega);have r2:=ydZ (rs:=rs') (k:=k+1) (by omega);have w1:=ynu (ws:=ws') (k:=k) (by omega);have wk:=b _ (zac w1);have wv:=wk;simp only[dF,zad]at wv;obtain⟨t1,t2,t3⟩:=ywf (w:=iT q rs' ws' k) (a _ (zac r1)) (a _ (zac r2));have h2:(rs'.set k (through q rs' ws' k).1)[k+1]?=some (dR rs' (k+1)):=by rw[zcT (by omega)];exact r2
  refine⟨ygK (ygK a t1) t2,ygK b (ywg wk (ytn wv.1.1.1.1.1.2)),?_,?_⟩
  ·have e1:=ycJ (f:=sD) (b:=(through q rs' ws' k).1) r1;have e2:=ycJ (f:=sD) (b:=(through q rs' ws' k).2.1) h2;have t3:sD (through q rs' ws' k).1+sD (through q rs' ws' k).2.1=sD (dR rs' k)+sD (dR rs' (k+1)):=t3;unfold river at c|-;simp only;omega
  ·have e1:=ycJ (f:=xF) (b:=yam (dW ws' k) (iT q rs' ws' k)) w1;have e3:xF (yam (dW ws' k) (iT q rs' ws' k))=xF (dW ws' k):=rfl;simp only;omega
structure Wet(x0:Waterway)(q:Int)(k:Nat)(x:Waterway):Prop where
 ok:xB x=true
 idle:Idle x
 kept:qG x+x.Out=x.Start+x.In
 time:x.Time=k
 inn:x.In=k*q
 start:x.Start=x0.Start
 pas:x.Passings=[]
 book:x.Book=[]
 arr:x.Arrived=[]
theorem yb5{x:Waterway}(h:xB x=true):qG x=river x.Reaches+(x.Works.map xF).sum:=by
 unfold qG nG;rw[if_pos h,if_pos (tJ h).river]
theorem yfx{x:Waterway}(h:xB x=true):0<=(x.Works.map xF).sum:=by
 have hw:=(tJ h).rng
 have:∀l:List Work,(∀w∈l,0<=xF w)->0<=(l.map xF).sum:=by
  intro l
  induction l with
  |nil=>intro _;simp
  |cons a l ih=>
   intro h;have h1:=h a (by simp);have h2:=ih λw hw=>h w (by simp[hw]);simp only[zaD,zbg];omega
 exact this _ λw h=>(hw w h).1
theorem ypm{x:Waterway}{rs:List Reach}{ws:List Work}{t i o:Int}(h:xB x=true)(hl:rs.length=x.Reaches.length)(hl2:ws.length=x.Works.length)(hr:∀r∈rs,bC r=true)(hrs:river rs<=1000000000)(hw:∀w∈ws,dF w=true)(ht:0<=t/\t<=1000000)(hi:0<=i/\i<=1000000000)(ho:0<=o/\o<=1000000000):
 xB ⟨t,rs,x.Ways,ws,x.Movers,x.Arrived,x.Entered,x.Tariff,x.Book,x.Passings,x.Start,i,o⟩=true:=by
 simp only[xB,zad]at h|-;obtain⟨⟨⟨⟨⟨⟨⟨h1,h2⟩,h3⟩,h4⟩,h5⟩,h6⟩,h7⟩,h8⟩:=h;refine⟨⟨⟨⟨⟨⟨⟨jA.2 ht,?_⟩,?_⟩,h4⟩,h5⟩,h6⟩,jA.2 hi⟩,jA.2 ho⟩
 ·simp only[bG,pG,zad,decide_eq_true_eq,zae]at h2|-;rw[hl,hl2];obtain⟨⟨⟨⟨⟨⟨⟨⟨⟨p0,p0'⟩,p1⟩,p1'⟩,p2⟩,p3⟩,p4⟩,p5⟩,p6⟩,p7⟩:=h2;exact⟨⟨⟨⟨⟨⟨⟨⟨⟨p0,p0'⟩,hr⟩,hrs⟩,p2⟩,p3⟩,p4⟩,p5⟩,p6⟩,hw⟩
 ·simp only[gI]at h3|-;rw[hl2];exact h3
theorem ykb{rs:List Reach}(h:∀r∈rs,bC r=true):0<=river rs:=by
 have:=(jQ (l:=rs) (k:=rs.length) (by rw[zbL];exact h)).1
 rwa [rM (Nat.le_refl _)]at this
theorem yg4:∀{rs:List Reach},(∀r∈rs,bC r=true)->(∀r∈rs.map jK,bC r=true)/\river (rs.map jK)=river rs
 |[],_=>⟨λr h=>(by cases h),rfl⟩
 | r::rs,h=>by
  obtain⟨h1,h2⟩:=yg4 (rs:=rs) λr hr=>h r (by simp[hr]);have h3:=yud (h r (by simp));refine⟨λy hy=>?_,?_⟩
  ·rw[zaD]at hy;rcases zaH.1 hy with e|e
   ·rw[e];exact h3.1
   ·exact h1 y e
  ·have h4:=h3.2;unfold river at h2|-;simp only[zaD,zbg];omega
theorem ytU{x0 x:Waterway}{q:Int}{k:Nat}(h:Wet x0 q k x)(hs:x0.Start<=1000000)(hq:0<=q/\q<=320)(hk:k<30):Wet x0 q (k+1) (kG x q):=by
 have hok:=h.ok;have wf:=tJ hok;have rf:=oU wf.river;have we:=yb5 hok;have lp:=yfx hok;have h1:=h.kept;have h2:=h.time;have h3:=h.inn;have h4:=h.start;have w1:=wf.out;have hkq:=yi1 (a:=(k:Int)) (b:=q) (A:=30) (B:=320) (by omega) (by omega);have hin:yct x q=true:=by simp[yct];omega
 have hc:yh x q=true:=by simp[yh,hok];omega
 obtain⟨r,l,hrl⟩:=ymo hok;have hrv:river x.Reaches=sD r+river l:=by rw[hrl];simp[river]
 have hlp:=ykb (rs:=l) λr hr=>rf.ok r (by rw[hrl];simp[hr]);have hro:=rf.ok r (by rw[hrl];simp);have hsp:gK r=1000000000-sD r:=by unfold gK;rw[if_pos hro]
 have hsend:=ypB hro hq.1 (by omega)
 have hall:∀y∈lJ r q::l,bC y=true:=by
  intro y hy;rcases zaH.1 hy with e|e
  ·rw[e];exact hsend.1
  ·exact rf.ok y (by rw[hrl];simp[e])
 obtain⟨f1,f2⟩:=yg4 hall
 have f3:river (lJ r q::l)=river x.Reaches+q:=by
  have:=hsend.2;rw[hrv];unfold river;simp only[zaD,zbg];omega
 have e:kG x q=⟨x.Time+1,(lJ r q::l).map jK,x.Ways,x.Works,x.Movers,x.Arrived,x.Entered,x.Tariff,x.Book,x.Passings,x.Start,x.In+q,x.Out⟩:=by
  unfold kG;rw[if_pos hc,if_pos hin];simp[tY,hin,hrl,sent]
 have hnew:=ypm (t:=x.Time+1) (i:=x.In+q) (o:=x.Out) hok (rs:=(lJ r q::l).map jK) (ws:=x.Works) (by rw[hrl];simp) rfl f1 (by omega) (λw hw=>by
  have hh:=hok;simp only[xB,bG,zad,zae]at hh;exact hh.1.1.1.1.1.1.2.2 w hw) (by omega) (by omega) w1
 rw[e];refine⟨hnew,⟨h.idle.mv,h.idle.wk⟩,?_,?_,?_,h4,h.pas,h.book,h.arr⟩
 ·rw[yb5 hnew];simp only;omega
 ·simp only;omega
 ·have:((k+1:Nat):Int)*q=k*q+q:=by push_cast;rw[Int.add_mul,Int.one_mul]
  simp only;omega
theorem yrB{x0 x:Waterway}{q:Int}{k:Nat}(h:Wet x0 q k x)(hs:x0.Start<=1000000)(hq:0<=q/\q<=320)(hk:k<=30):Wet x0 q k (oG x q):=by
 have hok:=h.ok;have wf:=tJ hok;have rf:=oU wf.river;have we:=yb5 hok;have lp:=yfx hok;have pl:=ydD hok;have p1:=pl.two;have p2:=pl.wks;have h1:=h.kept;have h2:=h.time;have h3:=h.inn;have h4:=h.start;have w1:=wf.out;have w2:=wf.inn;have w3:=wf.start;have hkq:=yi1 (a:=(k:Int)) (b:=q) (A:=30) (B:=320) (by omega) (by omega)
 have hc:mQ x q=true:=by
  simp only[mQ,hok,zbz];exact jA.2 (by omega)
 have hwk:∀w∈x.Works,dF w=true:=by
  have hh:=hok;simp only[xB,bG,zad,zae]at hh;exact hh.1.1.1.1.1.1.2.2
 have S:=yqi (q:=q) rf.ok hwk (by omega) _ (Nat.le_refl _);obtain⟨l1,l2⟩:=lT (q:=q) (rs:=x.Reaches) (ws:=x.Works) x.Works.length;have S:Steered x.Reaches x.Works (stR x q,stW x q):=S;have l1:(stR x q).length=x.Reaches.length:=l1;have l2:(stW x q).length=x.Works.length:=l2;have I:=ybF (q:=q) h.idle;have e:oG x q=⟨x.Time,(stR x q).set (x.Reaches.length-1) (ygo (stR x q) (stW x q) x.Ways (x.Reaches.length-1)).1,x.Ways,stW x q,x.Movers,x.Arrived,x.Entered,x.Tariff,x.Book,x.Passings,x.Start,x.In,x.Out+(ygo (stR x q) (stW x q) x.Ways (x.Reaches.length-1)).2⟩:=by simp[oG,hc]
 rw[e]at I|-;generalize stR x q=rs at *;generalize stW x q=ws at *;have d1:=ydZ (rs:=rs) (k:=x.Reaches.length-1) (by omega);have hto:(ygo rs ws x.Ways (x.Reaches.length-1)).1.has (sD (dR rs (x.Reaches.length-1))-(ygo rs ws x.Ways (x.Reaches.length-1)).2)/\0<=(ygo rs ws x.Ways (x.Reaches.length-1)).2:=yqb (S.r _ (zac d1));have hsum:=ycJ (f:=sD) (b:=(ygo rs ws x.Ways (x.Reaches.length-1)).1) d1;generalize ygo rs ws x.Ways (x.Reaches.length-1)=z at *;obtain⟨⟨z1,z2⟩,z3⟩:=hto;have S3:=S.rs;have S4:=S.ws;have ha:=ygK (k:=x.Reaches.length-1) S.r z1;have hp:=ykb ha
 have hriv:river (rs.set (x.Reaches.length-1) z.1)=river x.Reaches-z.2:=by
  simp only at S3;unfold river at S3|-;omega
 simp only at S4 hp;have hnew:=ypm (t:=x.Time) (i:=x.In) (o:=x.Out+z.2) hok (rs:=rs.set (x.Reaches.length-1) z.1) (ws:=ws) (by simpa using l1) l2 ha (by omega) S.w (by omega) w2 (by omega);refine⟨hnew,I,?_,h2,h3,h4,h.pas,h.book,h.arr⟩;rw[yb5 hnew];simp only;omega
theorem ysO{x0 x:Waterway}{q:Int}{k:Nat}(h:Wet x0 q k x)(hs:x0.Start<=1000000)(hq:0<=q/\q<=320)(hk:k<30):Wet x0 q (k+1) (yaS x q):=by
 have h2:=h.time
 have hc:yaj x q=true:=by
  have t:inRange q 0 1000000000=true:=jA.2 (by omega);simp[yaj,h.ok,t];omega
 unfold yaS;rw[if_pos hc];exact yrB (ytU h hs hq hk) hs hq hk
theorem ypI{x0:Waterway}{q:Int}(h:Wet x0 q 0 x0)(hs:x0.Start<=1000000)(hq:0<=q/\q<=320):∀k:Nat,k<=30->Wet x0 q k (yew x0 q k)
 |0,_=>h
 |k+1,hk=>ysO (ypI h hs hq k (by omega)) hs hq (by omega)
theorem yin{x0 x:Waterway}{q:Int}{k:Nat}(h:Wet x0 q k x):iV x=[]:=by
 have e1:x.Movers.flatMap qR=[]:=by
  rw[zbK];intro l hl;rw[h.idle.mv l hl];rfl
 have e2:x.Works.flatMap yc8=[]:=by
  rw[zbK];intro w hw;obtain⟨c1,c2,_⟩:=h.idle.wk w hw;simp[yc8,c1,c2]
 unfold iV;rw[e1,e2,h.arr];rfl
theorem ytF{x0 x:Waterway}{q:Int}{k:Nat}(h:Wet x0 q k x):yaR x=true/\x.Out<=x.Start+x.In:=by
 have h1:=h.kept;have we:=yb5 h.ok;have lp:=yfx h.ok;have rp:=(oU (tJ h.ok).river).rng;refine⟨?_,by omega⟩;unfold yaR;rw[h.ok];simp[h1]
theorem yoU(t:List Point)(level delay:Int)(hl:t.length<=1048576):lC Tryz.prog 37 [.c (.sl 2 (t.map Point.enc)),.c (.i level),.c (.i delay)] (.tup [.agg ((nO t level delay).1.enc.map .c),.c (.b (nO t level delay).2)]):=
 (yoN t level delay hl).pure (by simp[AV.shr,AV.yrZ,AV.ygz,mM,C.shr])
theorem yod{code:List UInt8}{n:Nat}{p:Nat×Int}{k:Nat}(h:k+1=n):fG code n p (k+1)=⟨ydr code (fG code n p k).p,(fG code n p k).R++[ybl code (40*(n-k:Int)) (fG code n p k).p],(fG code n p k).W++[yjK code (40*(n-k:Int)) (fG code n p k).p],(fG code n p k).K⟩:=by
 conv=>lhs;unfold fG
 rw[if_pos h]
theorem ypa{code:List UInt8}{n:Nat}{p:Nat×Int}{k:Nat}(h:¬k+1=n):fG code n p (k+1)=⟨wkN code (fG code n p k).p,(fG code n p k).R++[ybl code (40*(n-k:Int)) (fG code n p k).p],(fG code n p k).W++[yjK code (40*(n-k:Int)) (fG code n p k).p],(fG code n p k).K++[rY code (40*(n-k:Int)) (fG code n p k).p]⟩:=by
 conv=>lhs;unfold fG
 rw[if_neg h]
theorem yl7:∀{a b a' b':List (List C)},pW a=some a'->pW b=some b'->pW (a++b)=some (a'++b')
 |[],b,a',b',h1,h2=>by simp only[pW]at h1;cases h1;exact h2
 | x::a,b,a',b',h1,h2=>by
  simp only[zcG,pW]at h1|-;cases hx:mM x with
  |none=>rw[hx]at h1;cases h1
  | some y=>
   cases hl:pW a with
   |none=>rw[hx,hl]at h1;cases h1
   |some r=>
    rw[hx,hl]at h1;cases h1;rw[yl7 hl h2];rfl
theorem ykh(K:List Work):pW (K.map Work.enc)=some (K.map Work.enc):=by
 have h:=bT (f:=Work.enc) (g:=Work.enc) (λw=>by simp[mM,C.shr]) K;exact h
set_option maxRecDepth 20000 in
theorem yr3(code:List UInt8)(p:Nat×Int)(hp:p.1<=code.length):ycN Tryz.prog 17 (kL code p) (kL code (yrH code p)) [] (.agg ((ynb code p).enc.map .c)):=by
 obtain⟨hK,hn2,hn4⟩:=ylQ code p;have h3:=xC (code:=code) (n:=3) (p:=p) (by omega);obtain⟨_,s1,s2,s3⟩:=yg5 code p;have q0:(nC code 3 p).1<=code.length:=rC hp;have eN:yrH code p=yuR code (yaU code p).p:=rfl;have eV:ynb code p=(eG (yaU code p).R (yaU code p).W (yaU code p).K (fZ code (yaU code p).p)).1:=rfl;have eD:yaU code p=fG code (ybV code p) (nC code 3 p) (ybV code p):=rfl;rw[eN,eV];refine yb9 yjk (by simp) λhwf hwf2=>?_;simp -dsimp -implicitDefEqProofs;refine mD (nD code 3 p hp (by omega) (by omega)) (by simp) (by simp) rfl (by simp[tC]) ?_;simp -dsimp -implicitDefEqProofs;refine⟨by unfold inI;omega,?_⟩;rw[<-hK];rw[eD]at s1 s2 s3|-;clear eN eV eD hK;generalize ybV code p=n at *;generalize nC code 3 p=qq at *;refine qA (ι:=Nat) (λk=>k<n) (λk=>rD [(0,.box 0 0),(1000000,.box 0 0),(2,.box 2 0),(3,.c (.i n)),(4,.own 19 3 (fG code n qq k).R.length),(5,.own 20 2 (fG code n qq k).W.length),(6,.own 21 22 (fG code n qq k).K.length),(7,.c (.i k))] [(0,.box ((kL code (fG code n qq k).p).map .c)),(2,.box [.c (.i 0),.nil 3,.nil 2,.nil 22,.nil 1,.nil 2,.nil 1,.c (.i 0),.c (.i 0),.nil 1,.nil 1,.nil 5,.nil 4,.c (.i 0),.c (.i 0),.c (.i 0)]),(19,.row 3 ((fG code n qq k).R.map Reach.enc)),(20,.row 2 ((fG code n qq k).W.map Way.enc)),(21,.tr 22 0 ((fG code n qq k).K.map Work.enc))]) (λk=>n-k) 0 (by show 0<n;omega) (by apply dB<;>simp[fG]) ?_
 rintro k hk
 have hk':k<n:=hk;have hq:=yiV (n:=n) q0 k;have hln:=ykv (code:=code) (n:=n) (p:=qq) k (by omega);have hlast:=yod (code:=code) (n:=n) (p:=qq) (k:=k);have hnext:=ypa (code:=code) (n:=n) (p:=qq) (k:=k);generalize hQ:fG code n qq k=Q at *;obtain⟨q,R,W,K⟩:=Q;simp only at hq hln hlast hnext|-;obtain⟨l1,l2,l3,_⟩:=hln;have l3:=l3 hk';obtain⟨bed,hbed⟩:∃b:Int,b=40*((n:Int)-k):=⟨_,rfl⟩;rw[<-hbed]at hlast hnext;have hb:40<=bed/\bed<=160:=by omega
 have v1:=xC (code:=code) (n:=9) (p:=q) (by omega);have v2:=xC (code:=code) (n:=30) (p:=yiH code q) (by omega);have v3:=xC (code:=code) (n:=3) (p:=yhq code q) (by omega);have v4:=yvJ (code:=code) (p:=ynr code q);have w1:=qH code yhM (ynr code q) (yqj hq) (by simp[yhM]) (by simp[yhM]);have y1:yhM.map qC=[[.i 8],[.i 20],[.i 40]]:=rfl;have hNR:=yoU (aX bed (6000+600*jC code 9 q)) (bed+25+jC code 30 (yiH code q)) (jC code 3 (yhq code q)) (by simp[aX]);have hrT:(aX bed (6000+600*jC code 9 q)).map Point.enc=[[.i bed,.i 0],[.i (bed+60),.i (6000+600*jC code 9 q)],[.i (bed+90),.i 20000]]:=rfl;rw[hrT]at hNR;have eR:ybl code bed q=(nO (aX bed (6000+600*jC code 9 q)) (bed+25+jC code 30 (yiH code q)) (jC code 3 (yhq code q))).1:=rfl;have eW:yjK code bed q=⟨lI code yhM (ynr code q),bed⟩:=rfl;simp -dsimp -implicitDefEqProofs [kD hk',hk',<-hbed];refine⟨by unfold inI;omega,by unfold inI;omega,by unfold inI;omega,?_⟩;refine mD (nD code 9 q hq (by omega) (by omega)) (by simp) (by simp) rfl (by simp[tC]) ?_;simp -dsimp -implicitDefEqProofs;refine⟨by unfold inI;omega,by unfold inI;omega,by unfold inI;omega,by unfold inI;omega,?_⟩;refine mD (nD code 30 (yiH code q) (yql hq) (by omega) (by omega)) (by simp[yiH]) (by simp) rfl (by simp[tC]) ?_;simp -dsimp -implicitDefEqProofs;refine⟨by unfold inI;omega,?_⟩;refine mD (nD code 3 (yhq code q) (yp9 hq) (by omega) (by omega)) (by simp[yhq]) (by simp) rfl (by simp[tC]) ?_;simp -dsimp -implicitDefEqProofs;refine ymZ [44] hNR (by simp -dsimp -implicitDefEqProofs) rfl ?_;rw[<-eR];generalize ybl code bed q=r at *;generalize(nO (aX bed (6000+600*jC code 9 q)) (bed+25+jC code 30 (yiH code q)) (jC code 3 (yhq code q))).2=rb at *;simp -dsimp -implicitDefEqProofs;refine⟨by omega,?_⟩;refine aS (rows:=[[.i 8],[.i 20],[.i 40]]) (by simpa[y1]using w1) (by simp[ynr]) (by simp) rfl ?_;simp -dsimp -implicitDefEqProofs;refine⟨by omega,by unfold inI;omega,λhend=>?_,λhgo=>?_⟩
 ·have hkn:k+1=n:=by omega
  have hL:fG code n qq n=_:=(congrArg (fG code n qq) hkn.symm).trans (hlast hkn);rw[hL]at s1 s2 s3|-;clear hlast hnext hL;simp only at s1 s2 s3|-;refine mD (ym9 code (ydr code q) (ygU hq)) (by simp[ydr]) (by simp) rfl (by simp[tC]) ?_;simp -dsimp -implicitDefEqProofs;have hNW:=yfc (R++[r]) (W++[yjK code bed q]) K (fZ code (ydr code q)) s1 s2 s3 (ypu code (ydr code q)).2.1;generalize eG (R++[r]) (W++[yjK code bed q]) K (fZ code (ydr code q))=X at *;refine ymZ [19,20,21,30137,40137] hNW (by simp -dsimp -implicitDefEqProofs [aB,eW,ykh];exact⟨(zaf (by simp)).symm,(zaf (by simp)).symm⟩) rfl ?_;simp -dsimp -implicitDefEqProofs
 ·have hnx:=hnext (by omega);have b1:=qH code ygp (ydr code q) (ygU hq) (by simp[ygp]) (by simp[ygp]);have b2:=qH code ygm (ymT code q) (ypw hq) (by simp[ygm]) (by simp[ygm]);have b4:=qH code ybO (ynl code q) (ypk hq) (by simp[ybO]) (by simp[ybO]);have b6:=qH code ydP (ygE code q) (yp3 hq) (by simp[ydP]) (by simp[ydP]);have f1:ygp.map qC=[[.i 60],[.i 120]]:=rfl;have f2:ygm.map qC=[[.i 10],[.i 16]]:=rfl;have f4:ybO.map qC=[[.i 60],[.i 300],[.i 2000]]:=rfl;have f6:ydP.map qC=[[.i 10],[.i 30],[.i 70]]:=rfl;rw[f1]at b1;rw[f2]at b2;rw[f4]at b4;rw[f6]at b6;have r3:=xC (code:=code) (n:=8) (p:=yeb code q) (by omega);have r5:=xC (code:=code) (n:=2) (p:=yrX code q) (by omega);have r6:=ysC (code:=code) (p:=ygE code q);have r7:=xC (code:=code) (n:=9) (p:=ylO code q) (by omega);have r8:=xC (code:=code) (n:=5) (p:=ylD code q) (by omega);have r9:=xC (code:=code) (n:=20) (p:=ylS code q) (by omega);have hwat:=yj4 (a:=1+jC code 8 (yeb code q)) (by omega) r6;refine aS (rows:=[[.i 60],[.i 120]]) (by simpa using b1) (by simp[ydr]) (by simp) rfl ?_;simp -dsimp -implicitDefEqProofs;refine aS (rows:=[[.i 10],[.i 16]]) (by simpa using b2) (by simp[ymT]) (by simp) rfl ?_;simp -dsimp -implicitDefEqProofs;refine⟨by unfold inI;omega,?_⟩;refine mD (nD code 8 (yeb code q) (ypR hq) (by omega) (by omega)) (by simp[yeb]) (by simp) rfl (by simp[tC]) ?_;simp -dsimp -implicitDefEqProofs;refine⟨by unfold inI;omega,?_⟩;refine aS (rows:=[[.i 60],[.i 300],[.i 2000]]) (by simpa using b4) (by simp[ynl]) (by simp) rfl ?_;simp -dsimp -implicitDefEqProofs;refine mD (nD code 2 (yrX code q) (ypl hq) (by omega) (by omega)) (by simp[yrX]) (by simp) rfl (by simp[tC]) ?_;simp -dsimp -implicitDefEqProofs;have hg:yo6 Tryz.prog 38 (kL code (ygE code q)) (kL code (aQ code ydP (ygE code q))) 1 ([[C.i 10],[C.i 30],[C.i 70]].take 3) (.c (.i (lI code ydP (ygE code q)))):=b6;refine yeB (id:=0) (id1:=94) hg (by simp) (by simp) (by simp[ygE]) (by simp) rfl ?_;simp -dsimp -implicitDefEqProofs;have hpz:=yl6 code (yc7 code q) (ypJ hq);refine⟨by unfold inI;omega,by unfold inI;omega,by unfold inI;omega,by unfold inI;omega,?_⟩;refine yek (id:=0) (nD code 9 (ylO code q) (yqd hq) (by omega) (by omega)) (by simp) (by simp[ylO]) (λ_=>by simp) rfl rfl rfl ?_;simp -dsimp -implicitDefEqProofs;refine yek (id:=0) (nD code 5 (ylD code q) (ypq hq) (by omega) (by omega)) (by simp) (by simp[ylD]) (λ_=>by simp) rfl rfl rfl ?_;simp -dsimp -implicitDefEqProofs;refine⟨by unfold inI;omega,by unfold inI;omega,?_⟩;refine yek (id:=0) (nD code 20 (ylS code q) (ypS hq) (by omega) (by omega)) (by simp) (by simp[ylS]) (λ_=>by simp) rfl rfl rfl ?_;simp -dsimp -implicitDefEqProofs;refine⟨by unfold inI;omega,?_⟩;refine yek (id:=0) hpz (by simp) (by simp[yc7]) (λ_=>by simp) rfl rfl rfl ?_;simp -dsimp -implicitDefEqProofs;have eP:wkN code q=(bM code (yc7 code q)).1:=rfl;have eV:ybi code (yc7 code q)=if jJ (bM code (yc7 code q)).2 then(bM code (yc7 code q)).2 else[]:=rfl
  have eK:rY code bed q=⟨yja code bed q,ymS code bed q,⟨bed+20,bed+45,bed+70⟩,ybi code (yc7 code q),⟨false,0⟩,[]⟩:=rfl;have eL:yja code bed q=⟨lI code ygp (ydr code q),lI code ygm (ymT code q),bed,bed-40,bed-40,1+jC code 8 (yeb code q),lI code ybO (ynl code q),(1+jC code 8 (yeb code q))*lI code ydP (ygE code q),0,[]⟩:=rfl;have eX:ymS code bed q=⟨2,jC code 9 (ylO code q),1+jC code 5 (ylD code q),bed+10,1+jC code 20 (ylS code q)⟩:=rfl;refine mF (ycV (bM code (yc7 code q)).2) (by simp -dsimp -implicitDefEqProofs) rfl ?_;cases hpo:jJ (bM code (yc7 code q)).2 with
  | false=>
   rw[hpo]at eV;simp -dsimp -implicitDefEqProofs;refine⟨by omega,by unfold inI;omega,k+1,by omega,by omega,?_⟩
   have hgs:pW (K.map Work.enc++[[.i (lI code ygp (ydr code q)),.i (lI code ygm (ymT code q)),.i bed,.i (bed-40),.i (bed-40),.i (1+jC code 8 (yeb code q)),.i (lI code ybO (ynl code q)),.i ((1+jC code 8 (yeb code q))*lI code ydP (ygE code q)),.i 0,.sl 2 [],.i 2,.i (jC code 9 (ylO code q)),.i (1+jC code 5 (ylD code q)),.i (bed+10),.i (1+jC code 20 (ylS code q)),.i (bed+20),.i (bed+45),.i (bed+70),.ow 2 [],.b false,.i 0,.sl 4 []]])=some (K.map Work.enc++[(rY code bed q).enc]):=
    yl7 (ykh K) (by simp[pW,mM,C.shr,eV,eK,eL,eX])
   refine ytq 21 (k:=22) (v:=0) (by simp) hgs ?_;apply dB<;>simp[hnx,eP,eV,eK,eL,eX,eW]
  |true=>
   rw[hpo]at eV;simp -dsimp -implicitDefEqProofs;refine⟨by omega,by unfold inI;omega,k+1,by omega,by omega,?_⟩;apply dB<;>simp[hnx,eP,eV,eK,eL,eX,eW]
theorem yoH(code:List UInt8)(id:Int)(p:Nat×Int)(hp:p.1<=code.length)(hid:0<=id/\id<=1000000):ycN Tryz.prog 19 (kL code p) (kL code (yfu code id p)) [.c (.i id)] (.agg ((yaC code id p).enc.map .c)):=by
 have hsh:pW ((yaC code id p).Rows.map eoB)=some ((yaC code id p).Rows.map iH):=bT (λr=>by simp[eoB,mM,C.shr,iH]) _;exact(yoF code id p hp hid).share (by simp[AV.shr,AV.ygz,mM,C.shr,hsh]) (λl h=>by cases h)
theorem ynX{code:List UInt8}{id:Int}{p:Nat×Int}(h:p.1<=code.length):(yfu code id p).1<=code.length:=ydc (rC (rC h)) _
def dtP(code:List UInt8)(n:Nat)(p:Nat×Int):Nat->Nat×Int
 |0=>p
 |j+1=>yfu code (10*(n-j:Nat)) (dtP code n p j)
def dtS(code:List UInt8)(n:Nat)(p:Nat×Int):Nat->List Train
 |0=>[]
 |j+1=>dtS code n p j++[yaC code (10*(n-j:Nat)) (dtP code n p j)]
theorem ysx{code:List UInt8}{n:Nat}{p:Nat×Int}(h:p.1<=code.length):∀j:Nat,(dtP code n p j).1<=code.length
 |0=>h
 |j+1=>ynX (ysx h j)
theorem yqh{code:List UInt8}{n:Nat}{p:Nat×Int}:∀j:Nat,(dtS code n p j).length=j
 |0=>rfl
 |j+1=>by simp[dtS,yqh j]
def dwX(code:List UInt8):Waterway:=ynb code (0,hash code)
def dwP(code:List UInt8):Nat×Int:=yrH code (0,hash code)
def dwK(code:List UInt8):Nat:=(jC code 9 (dwP code)).toNat
def dwT(code:List UInt8):List Train:=dtS code (dwK code) (nC code 9 (dwP code)) (dwK code)
theorem yyi(code:List UInt8):(dwK code:Int)=jC code 9 (dwP code)/\dwK code<=8:=by
 have h:=xC (code:=code) (n:=9) (p:=dwP code) (by omega);unfold dwK;omega
theorem yuz{code:List UInt8}{p:Nat×Int}(h:p.1<=code.length):(yrH code p).1<=code.length:=yhw (rC (rC (rC (rC (rC (yu8 h)))))) _
set_option maxRecDepth 4000 in
theorem yhs(code:List UInt8)(hl:code.length<=1048576):lC Tryz.prog 6 [.c (.sl 1 (code.map ybW))] (.tup [.agg ((dwX code).enc.map .c),.c (.sl 2 ((dwT code).map Train.enc))]):=by
 refine qB ycQ ?_;have hpl:(∀x,x∈kL code (0,hash code)->x.plain=true)=True:=by simp[kL,C.plain]
 have hK:=yyi code;have hq0:(dwP code).1<=code.length:=yuz (by simp);have hnew:=yr3 code (0,hash code) (by simp);have eX:ynb code (0,hash code)=dwX code:=rfl;have eP:yrH code (0,hash code)=dwP code:=rfl;have eT:dwT code=dtS code (dwK code) (nC code 9 (dwP code)) (dwK code):=rfl;rw[eX,eP]at hnew;rw[eT];generalize dwX code=x at *;simp -dsimp -implicitDefEqProofs;refine kX (yrI code hl) (by simp) rfl (by simp[tC,hpl]) ?_;simp -dsimp -implicitDefEqProofs [hpl];refine mD hnew (by simp[hpl]) (by simp) rfl (by simp[tC]) ?_;simp -dsimp -implicitDefEqProofs [hpl];refine mD (nD code 9 (dwP code) hq0 (by omega) (by omega)) (by simp) (by simp) rfl (by simp[tC]) ?_;simp -dsimp -implicitDefEqProofs;rw[<-hK.1];have q9:(nC code 9 (dwP code)).1<=code.length:=rC hq0;have hn8:=hK.2;clear hK eT eX eP hnew;generalize dwK code=n at *;generalize nC code 9 (dwP code)=qq at *;refine qA (ι:=Nat) (λj=>j<=n) (λj=>rD [(2,.box 2 0),(4,.box 9 0),(5,.box 5 0),(6,.own 12 2 j),(7,.c (.i (n-j)))] [(2,.box [.c (.i 0),.nil 3,.nil 2,.nil 22,.nil 1,.nil 2,.nil 1,.c (.i 0),.c (.i 0),.nil 1,.nil 1,.nil 5,.nil 4,.c (.i 0),.c (.i 0),.c (.i 0)]),(5,.box (x.enc.map .c)),(9,.box ((kL code (dtP code n qq j)).map .c)),(12,.row 2 ((dtS code n qq j).map Train.enc))]) (λj=>n-j) 0 (by simp) (by apply dB<;>simp[dtP,dtS,hpl]) ?_
 rintro j hj
 have hq:=ysx (n:=n) q9 j;have hlen:=yqh (code:=code) (n:=n) (p:=qq) j;have hp1:dtP code n qq (j+1)=yfu code (10*(n-j:Nat)) (dtP code n qq j):=rfl;have hs1:dtS code n qq (j+1)=dtS code n qq j++[yaC code (10*(n-j:Nat)) (dtP code n qq j)]:=rfl;rcases zah j n with hlt|hge
 ·have hgt:(0<(n:Int)-(j:Int))=True:=eq_true (by omega);have hid:(10:Int)*((n:Int)-(j:Int))=10*(n-j:Nat):=by omega
  have htr:=yoH code (10*(n-j:Nat)) (dtP code n qq j) hq (by omega);generalize dtP code n qq j=q at *;generalize dtS code n qq j=ts at *;generalize yaC code (10*(n-j:Nat)) q=t at *;simp -dsimp -implicitDefEqProofs [hgt];refine⟨λ_=>?_,λh=>by omega⟩;rw[hid];refine⟨by unfold inI;omega,?_⟩;refine mD htr (by simp) (by simp) rfl (by simp[tC]) ?_;simp -dsimp -implicitDefEqProofs;refine⟨hlen.symm,by omega,by unfold inI;omega,j+1,by omega,by omega,?_⟩;apply dB<;>simp[hp1,hs1]<;>omega
 ·have hgt:(0<(n:Int)-(j:Int))=False:=eq_false (by omega);have:j=n:=by omega
  subst this;generalize dtS code j qq j=ts at *;simp -dsimp -implicitDefEqProofs [hgt];rw[zaf (by simp;omega)]
theorem ysZ{x:List Nat}(h:(C.sl 1 (x.map yoa)).WF):∃code:List UInt8,x.map yoa=code.map ybW:=by
 simp only[C.WF]at h;refine⟨x.map λn=>UInt8.ofNat n,?_⟩;rw[zcr];apply zbb;intro n hn;have h1:=(h.2 _ (zaA hn)).2 (.u n) (by simp[yoa]);simp only[C.WF]at h1;simp[yoa,ybW,zcE h1]
theorem big_c(code:List UInt8):lC Tryz.prog 5 [.c (.sl 1 (code.map ybW))] (.c (.b (decide (1048576<code.length)))):=by
 refine qB yn9 ?_;simp -dsimp -implicitDefEqProofs;intro _;omega
def atV(code:List UInt8)(i:Nat):Int:=if code.length=0 then 0 else(code[(i*5+1)%code.length]?.map λb=>(b.toNat:Int)).getD 0
theorem yub(code:List UInt8)(i:Nat):0<=atV code i/\atV code i<=255:=by
 unfold atV;split
 ·omega
 ·cases h:code[(i*5+1)%code.length]? with
  |none=>simp
  |some b=>have:=ypD b;simp;omega
theorem at_c(code:List UInt8)(i:Nat)(hi:i<=1000):lC Tryz.prog 12 [.c (.sl 1 (code.map ybW)),.c (.i i)] (.c (.i (atV code i))):=by
 refine qB yqI ?_;cases code with
 |nil=>simp -dsimp -implicitDefEqProofs [yff];simp[atV]
 | cons b0 l=>
  obtain⟨cs,hcs⟩:∃cs,cs=b0::l:=⟨_,rfl⟩;have hl:0<cs.length:=by rw[hcs];simp
  rw[<-hcs];obtain⟨j,hj⟩:∃j,j=(i*5+1)%cs.length:=⟨_,rfl⟩;have hjl:j<cs.length:=by rw[hj];exact zdo _ hl
  obtain⟨b,hb⟩:∃b,cs[j]?=some b:=⟨_,zaa hjl⟩;have gb:=(zab.1 hb).2;have h8:=ypD b;have hv:atV cs i=b.toNat:=by unfold atV;rw[if_neg (by omega),<-hj,hb];rfl
  have hji:((i:Int)*5+1).tmod cs.length=(j:Int):=by
   rw[hj,zbE (by omega),Int.natCast_emod];simp
  have hne:(cs=[])=False:=by simp only[eq_iff_iff,iff_false];intro h;rw[h]at hl;simp at hl
  have hne0:(cs.length=0)=False:=by simp only[eq_iff_iff,iff_false];omega
  rw[hv];simp -dsimp -implicitDefEqProofs [yff,hne,hne0,hji,hb,gb,hjl,ybW]
  refineλhml=>⟨by unfold inI;omega,by unfold inI;omega,λ_=>?_⟩
  unfold maxLen at hml;unfold inI;omega
theorem yqe{x:Waterway}{q:Int}(h:Bare x)(f:Fresh x):Wet x q 0 x:=
 ⟨h.ok,⟨h.mv,λw hw=>⟨(h.wk w hw).1,(h.wk w hw).2,f.gate w hw⟩⟩,h.kept,f.time,by rw[f.inn];simp,rfl,h.pas,h.book,h.arr⟩
set_option maxRecDepth 20000 in
theorem yjf(x0:List Nat):lC Tryz.prog 4 [.c (.sl 1 (x0.map yoa))] (.c (.b true)):=by
 refine ytf ydk λhwf=>?_;obtain⟨code,hcode⟩:=ysZ (x:=x0) hwf.1;rw[hcode];clear hwf;simp -dsimp -implicitDefEqProofs;refine aA (big_c code) ?_
 by_cases hbig:1048576<code.length
 ·have t1:(1048576<code.length)=True:=eq_true hbig;simp -dsimp -implicitDefEqProofs [t1]
 ·have t1:(1048576<code.length)=False:=eq_false hbig;simp -dsimp -implicitDefEqProofs [t1];have hD:=yhs code (by omega);obtain⟨hB,hBs,hF⟩:=yqN code (0,hash code);have hB:Bare (dwX code):=hB;have hBs:(dwX code).small:=hBs;have hF:Fresh (dwX code):=hF;generalize dwX code=x at *;generalize dwT code=ts at *;have ha:=yub code 0
  have hq:0<=40*(atV code 0).tmod 9/\40*(atV code 0).tmod 9<=320:=by
   rw[zbE ha.1];omega
  refine nI (hD) (by simp -dsimp -implicitDefEqProofs) rfl ?_;simp -dsimp -implicitDefEqProofs;refine mF (at_c code 0 (by omega)) (by simp -dsimp -implicitDefEqProofs) rfl ?_;generalize atV code 0=a at *;simp -dsimp -implicitDefEqProofs;have hR:=yxb x (40*a.tmod 9) hBs (yqe (q:=0) hB hF).idle;have hW:=ypI (yqe (q:=40*a.tmod 9) hB hF) hF.start hq 30 (Nat.le_refl _);have hS:=ye8 (q:=40*a.tmod 9) hBs 30;generalize yew x (40*a.tmod 9) 30=y at *;obtain⟨f,hf⟩:∃f,40*a.tmod 9=f:=⟨_,rfl⟩;have ha9:inI (a.tmod 9):=by unfold inI;omega
  rw[hf]at hR hW hq;have hI:y.In=30*f:=hW.inn;have hT:y.Time=30:=hW.time;obtain⟨hK,hO⟩:=ytF hW;have hP:=yh2 y hS (by rw[yin hW];simp);rw[yin hW]at hP;have wf:=tJ hW.ok;have w1:=wf.start;have w2:=wf.inn;have w3:=wf.out;have hKc:=yiA y hS;rw[hK]at hKc;have hOk:=lH y hS;rw[hW.ok]at hOk;have hps:=hW.pas;have hbk:=hW.book;simp -dsimp -implicitDefEqProofs [hf];refine⟨ha9,by unfold inI;omega,?_⟩;refine nI (hR) (by simp -dsimp -implicitDefEqProofs) rfl ?_;have i1:(y.In=30*f)=True:=eq_true hI;have i2:(y.Out<=y.Start+y.In)=True:=eq_true hO;have i3:(y.Passings=[])=True:=eq_true hps;have i4:(y.Book=[])=True:=eq_true hbk;have i5:(y.Time=30)=True:=eq_true hT;simp -dsimp -implicitDefEqProofs [i1];refine⟨by unfold inI;omega,?_⟩;refine mF (hKc) (by simp -dsimp -implicitDefEqProofs) rfl ?_;simp -dsimp -implicitDefEqProofs [i2,i3,i4];refine⟨by unfold inI;omega,?_⟩;intro _ _;refine nI (hP) (by simp -dsimp -implicitDefEqProofs) rfl ?_;simp -dsimp -implicitDefEqProofs [i5];refine mF (hOk) (by simp -dsimp -implicitDefEqProofs) rfl ?_;simp -dsimp -implicitDefEqProofs
theorem ysS{xs:List C}(h:Fits [.u] xs):∃n:Nat,xs=yoa n:=by
 obtain⟨c0,ys,rfl,h0,h⟩:=h.cons_inv;obtain rfl:=h.ypT;obtain⟨n0,rfl⟩:=h0.u_inv;exact⟨n0,rfl⟩
theorem yef:IsLaw Rows.fnOnlyWaterSpec Tryz.f4.params.size:=by
 refine⟨rfl,λH ds h=>?_⟩
 match ds,h with
 |[d0],_=>rfl
theorem ycj:LawFacts Tryz.prog Tryz.f4 (Tryz.f4.resultTypes.getD 0 0) [(false,[.sl [.u]])]:=
 ⟨yki,by kernel_rfl,by kernel_rfl,by kernel_rfl,by kernel_rfl⟩
set_option maxRecDepth 100000 in
theorem ydp(os:Os)(started:os.Started)(H:Type)(enc:TypeId×Value->H):
 ReturnsInHanded {} Tryz.checked os 4 .any (Rows.fnOnlyWaterSpec.pre6 enc Tryz.prog Tryz.f4 Rows.fnOnlyWaterRow.domain false) (Rows.fnOnlyWaterSpec.post enc Tryz.prog Tryz.f4 false true false false):=by
 refine law_lifted (C:=Tryz.checked) ymU started (by kernel_rfl) Tryz.func4
  (ChangeSpec.witness6 (enc:=enc) (C:=Tryz.checked) false ⟨#[],#[.slice none 0 0],[]⟩ 8 (by kernel_rfl) (by kernel_rfl) (by kernel_rfl) (by kernel_rfl)) yef ycj ?_
 rintro avs ⟨a,avs0,rfl,ha,rfl⟩
 cases ha with
 |one h0=>
  obtain⟨x0,rfl⟩:=h0.yxH yoa λxs h=>ysS h;exact yjf x0
theorem yea:yhG Tryz.prog 4 Tryz.f4 Rows.fnOnlyWaterSpec Rows.fnOnlyWaterRow=true:=by kernel_rfl
theorem ydt:Tryz.pinned.checked.prog.funcNamed Rows.fnOnlyWaterRow.func=some 4:=by kernel_rfl
theorem yfi:Tryz.f4.isInstance Tryz.pinned.checked.prog Rows.fnOnlyWaterRow.origin Rows.fnOnlyWaterRow.targs:=(of_decide_eq_true (by kernel_rfl))
theorem yeT:Tryz.f4.isWrapper Tryz.pinned.checked.prog Rows.fnOnlyWaterRow.wrapper Rows.fnOnlyWaterRow.mainSum:=by
 unfold Func.isWrapper;first|(rw[if_pos (by decide+kernel)];kernel_rfl)|(rw[if_neg (by decide+kernel)];exact⟨rfl,rfl⟩)
theorem FnOnlyWater_holds:Rows.FnOnlyWaterSaid:=
 OpenClaim.holds_of_wide (p:=Tryz.pinned) (s:=Rows.fnOnlyWaterSpec) (c:=Rows.fnOnlyWaterRow) 4 Tryz.f4 rfl rfl rfl rfl rfl rfl rfl ⟨rfl,rfl,rfl,rfl,rfl⟩ rfl rfl rfl rfl rfl ydt Tryz.func4
  (yry yq3 yea ⟨rfl,rfl,rfl,rfl,rfl,rfl,rfl,rfl⟩) yfi yeT (λos started H enc _=>ydp os started H enc)
end Go.Proofs.YtpiplmnecmkafaaGreat
