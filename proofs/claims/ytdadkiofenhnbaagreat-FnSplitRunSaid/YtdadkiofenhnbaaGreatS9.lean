/- What functions answer, in plain Lean. -/
import Derived.Test.YtdadkiofenhnbaaGreatS8
set_option linter.all false
set_option maxRecDepth 100000
set_option maxHeartbeats 4000000
namespace Go.Proofs.YtdadkiofenhnbaaGreat
open Go.RowKit
noncomputable section
def ywH(t:Int)(ws:List Int):nI prg 169 [.c (.i t),.c (.sl 1 (ws.map qC))] (.c (.ow 1 ((xK t ws).map qC))):=by
 refine fF yrT (goQ_ ?_);refine aA (iC t 0 1000000000) ?_;cases ht:inRange t 0 1000000000 with
 |false=>refine goQ_ ?_;rw[sV (by simp[lS,ht])]
 |true=>
 refine goQ_ ?_
 refineλhlen=>⟨λh1=>?_,λh1=>?_⟩
 rotate_left
 .rw[sV (by simp[lS];omega)]
 refineλ_=>⟨λh12=>by rw[sV (by simp[lS];omega)],λh12=>?_⟩
 have h12:ws.length<=12:=by omega
 have h1:1<=ws.length:=by omega
 refineλ_=>qA (ι:=Nat) (λk=>k<=ws.length/\∀x∈ws.take k,inRange x 0 1000000=true) (λk=>xC [(2,.box 2 0),(3,.box 3 0),(5,.box 5 0),(27,.c (.sl 1 (ws.map qC))),(28,.c (.i ws.length)),(29,.c (.i k))] [(2,.box [.c (.i t)]),(3,.box [.c (.sl 1 (ws.map qC))]),(5,.box [.c (.i (sumTo ws k))])]) (λk=>ws.length-k) 0 (by simp) (by apply aB<;>simp[aY]) ?_
 rintro k ⟨hk,hall⟩
 rcases yX1 k ws with⟨hlt,x,hx⟩|hge
 .have g1:=(zaa.1 hx).2;refine yaeV hx g1 (fC hlt) hlt ?_;refine aA (iC x 0 1000000) ?_;cases hr:inRange x 0 1000000 with
  |false=>refine goQ_ ?_;rw[sV (by have:=all_false (p:=λw=>inRange w 0 1000000) hx hr;simp[lS,this])]
  |true=>
   refine goQ_ ?_;have hall':=lD (p:=λn=>inRange n 0 1000000) hx hall hr;have hs:=yAZ h12 hall';rw[nV hx]at hs;refine⟨by unfold inI;omega,gB hlt hlen,k+1,⟨hlt,hall'⟩,by omega,?_⟩;apply aB<;>simp[nV hx]
 .have hall2:=dF (p:=λn=>inRange n 0 1000000) hge hall;refine yafw (aG hge) ?_;rw[yb4 hge];refine⟨λh0=>by rw[sV (by simp[lS,h0])],λh0=>?_⟩;have hok:lS t ws=true:=by simp[lS,ht,h12,h1,hall2,h0]
  have f:=yhO hok;have hlft:=ysB f;rw[yqN hok];have ft:=f.tot;have fs:=f.sum;have frng:=f.rng
  refineλ_=>⟨by omega,λ_=>⟨by omega,λ_=>?_⟩⟩
  obtain⟨Q,hQd⟩:∃Q,Q=ws.map (quota t ws.sum):=⟨_,rfl⟩;have hQl:Q.length=ws.length:=by rw[hQd,zam]
  have hQr:∀q∈Q,0<=q/\q<=1000000000000000:=λq hq=>by
   rw[hQd]at hq;obtain⟨w,hw,rfl⟩:=zaM.1 hq;have:=yR ft fs.1 (frng w hw);omega
  have hrest:lV t ws=t-Q.sum:=by rw[hQd];rfl
  rw[<-hQd]
  refine qA (ι:=Nat) (λk=>k<=ws.length) (λk=>xC [(2,.box 2 0),(3,.box 3 0),(5,.box 5 0),(8,.own 44 1 ws.length),(9,.own 47 1 ws.length),(10,.c (.i (t-sumTo Q k))),(49,.c (.sl 1 (ws.map qC))),(50,.c (.i ws.length)),(51,.c (.i k))]
   [(2,.box [.c (.i t)]),(3,.box [.c (.sl 1 (ws.map qC))]),(5,.box [.c (.i ws.sum)]),(44,.row 1 (partly qC [.i 0] Q k)),(47,.row 1 (partly dL [.i 0] (List.range ws.length) k))]) (λk=>ws.length-k) 0 (by simp) (by apply aB<;>simp[aY,mF,hQl]) ?_
  clear hall hk hge k
  rintro k hk
  rcases yX1 k ws with⟨hlt,w,hw⟩|hge
  .have g1:=(zaa.1 hw).2;have hQ:Q[k]?=some (quota t ws.sum w):=by rw[hQd];simp[hw]
   have hO:(List.range ws.length)[k]?=some k:=by simp[hlt]
   have q1:=yR ft fs.1 (frng w (zac hw));have hs1:=fG (f:=qC) (z:=[.i 0]) hQ;have hs2:=fG (f:=dL) (z:=[.i 0]) hO;have hl1:=dG (f:=qC) (z:=[.i 0]) (es:=Q) (k:=k) (by omega);have hl2:=dG (f:=dL) (z:=[.i 0]) (es:=List.range ws.length) (k:=k) (by simp;omega)
   have hd1:((partly qC [.i 0] Q k)[k]?.getD []).set 0 (.i (quota t ws.sum w))=[.i (quota t ws.sum w)]:=by
    have:=tX (f:=qC) (z:=[.i 0]) (n:=1) (es:=Q) (k:=k) rfl (λ_=>rfl) (by omega);obtain⟨x,hx⟩:=zbw.1 this;rw[hx];rfl
   have hd2:((partly dL [.i 0] (List.range ws.length) k)[k]?.getD []).set 0 (.i k)=[.i k]:=by
    have:=tX (f:=dL) (z:=[.i 0]) (n:=1) (es:=List.range ws.length) (k:=k) rfl (λ_=>rfl) (by simp;omega);obtain⟨x,hx⟩:=zbw.1 this;rw[hx];rfl
   rw[zcI]at hl2;have hsum:=nV hQ;have hb1:=sum_bnd (l:=Q.take k) (m:=1000000000000000) λx hx=>hQr x (zas hx);have hbl:(Q.take k).length<=12:=by rw[zay];omega
   have hb1':0<=sumTo Q k/\sumTo Q k<=12000000000000000:=by unfold sumTo;omega
   have hqd:(t*w).tdiv ws.sum=quota t ws.sum w:=rfl;have hs1':(partly qC [.i 0] Q k).set k [.i (quota t ws.sum w)]=partly qC [.i 0] Q (k+1):=hs1;have hs2':(partly dL [.i 0] (List.range ws.length) k).set k [.i k]=partly dL [.i 0] (List.range ws.length) (k+1):=hs2;have hself:(partly qC [.i 0] Q (k+1))[k]?=some [.i (quota t ws.sum w)]:=by rw[<-hs1'];exact List.getElem?_set_self (by omega)
   generalize partly qC [.i 0] Q k=A at *;generalize hA':partly qC [.i 0] Q (k+1)=A' at *;generalize partly dL [.i 0] (List.range ws.length) k=B at *;generalize hB':partly dL [.i 0] (List.range ws.length) (k+1)=B' at *;have hk1:k<A.length:=by omega
   have hk2:k<B.length:=by omega
   have hd1':A[k].set 0 (C.i (quota t ws.sum w))=[C.i (quota t ws.sum w)]:=by rw[zab hk1]at hd1;exact hd1
   have hd2':B[k].set 0 (C.i k)=[C.i k]:=by rw[zab hk2]at hd2;exact hd2
   simp -dsimp -implicitDefEqProofs [hw,g1,fC hlt,hlt,hqd,hl1,hl2,hd1',hd2',hs1',hs2',hself,hQl];have hl3:A'.length=Q.length:=by rw[<-hs1',zbF,hl1]
   refine⟨by unfold inI;omega,by omega,by unfold inI;omega,by omega,?_⟩;refine⟨by unfold inI;omega,?_⟩;refine⟨by unfold inI;omega,k+1,hlt,by omega,?_⟩;apply aB<;>simp[hd1',hd2',hs1',hs2',hsum,hA',hB'];omega
  .have hkn:k=ws.length:=by omega
   subst hkn;have p1:=eG (f:=qC) (z:=[.i 0]) (es:=Q) (k:=ws.length) (by omega);have p2:=eG (f:=dL) (z:=[.i 0]) (es:=List.range ws.length) (k:=ws.length) (by simp);refine yaed p1 p2 ?_;rw[yb4 (by omega),<-hrest];have hord:=ycJ (ws.map (yct t ws.sum)) ws.length;have hR:(ws.map (yct t ws.sum)).length=ws.length:=by simp
   have hcmp:=yCM t ws.sum ws ft fs.1 fs.2 frng;have hsort:=yzf (ws.map (yct t ws.sum)) ws.length h1 (by omega) 258 [.i t] [.sl 1 (ws.map qC)] [.i ws.sum] ⟨Tryz.f258,Tryz.func258,rfl,by decide⟩ hcmp;generalize yA (ws.map (yct t ws.sum)) ws.length=o at *;refine yw0 (up:=some (47,.row 1 (o.map dL))) hsort ⟨yHw ⟨yjt (by simp) (by simp[kQ]),yjt (by simp) (by simp[kQ]),yjt (by simp) (by simp[kQ]),trivial⟩,trivial⟩ (by rw[kH (by rw[zam,hord.len];omega)];simp[C.closed,dL]) rfl (qH (rows:=(List.range ws.length).map dL) (by simp) rfl rfl (by simp) (by simp[hord.len]) rfl rfl) ?_;have hp1:∀x∈o,x<Q.length:=λx hx=>by have:=hord.lt x hx;omega
   refine goQ_ ?_;have hn0:((lV t ws).toNat:Int)=lV t ws:=zdJ hlft.1;have hnl:(lV t ws).toNat<ws.length:=by omega
   rw[<-hn0];generalize(lV t ws).toNat=n at *;have hshl:∀j:Nat,(yek Q o j).length=ws.length:=λj=>by rw[yoC,hQl]
   refine yX2 (λj=>j<=n) (λj=>xC [(8,.own 44 1 ws.length),(9,.own 47 1 ws.length),(10,.c (.i n)),(13,.c (.i j))] [(44,.row 1 ((yek Q o j).map qC)),(47,.row 1 (o.map dL))]) (λj=>n-j) (by apply aB<;>simp[ywY]) ?_
   rintro j hj
   rcases zaq j n with hlt|hge
   .have hjo:j<o.length:=by rw[hord.len];omega
    obtain⟨a,ha⟩:∃a,o[j]?=some a:=⟨_,zab hjo⟩;have ga:=(zaa.1 ha).2;have hal:=hord.lt a (zac ha);have hss:=yk3 (out:=Q) ha;have hl:=hshl j;have hbd:=yzK (o:=o) (m:=1000000000000000) (by omega) hQr j;generalize yek Q o j=S at *;obtain⟨v,hv⟩:∃v,S[a]?=some v:=⟨_,zab (by omega)⟩;have gv:=(zaa.1 hv).2;have hvv:=yfM hv;have hb:=hbd v (zac hv);have hs4:(S.map qC).set a [.i (v+1)]=(yek Q o (j+1)).map qC:=by rw[hss,hvv,zaP]
    have hln:j<ws.length:=by omega
    have hal2:a<S.length:=by omega
    simp -dsimp -implicitDefEqProofs [ha,ga,fC hlt,hlt,hjo,dL,hv,gv,hal,hal2,hln,hs4];refine⟨by unfold inI;omega,by unfold inI;omega,j+1,hlt,by omega,?_⟩;apply aB<;>simp
   .have:j=n:=by omega
    subst this;refine goQ_ ?_;rw[List.take_of_length_le (by rw[zam,hshl];exact Nat.le_refl _)]
def yg9(t:Int)(ws:List Int):(xK t ws).length<=12:=by
 cases h:lS t ws with
 |false=>rw[sV h];simp
 |true=>rw[yqN h,yoC,zam];exact(yhO h).len.2
def yus(t:Int)(ws:List Int):qB prg 169 [.c (.i t),.c (.sl 1 (ws.map qC))] (.c (.sl 1 ((xK t ws).map qC))):=(ywH t ws).pure (by simp)
def pre(l:List Int)(k:Nat):List Int:=l.take k
def yFS{l:List Int}:pre l 0=[]:=rfl
def yC5{l:List Int}{k:Nat}(h:k<=l.length):(pre l k).length=k:=by simp[pre];omega
def yz2{l:List Int}{k:Nat}{x:Int}(h:l[k]?=some x):pre l (k+1)=pre l k++[x]:=by unfold pre;rw[zao,h];rfl
def yC4{l:List Int}{k:Nat}(h:l.length<=k):pre l k=l:=by unfold pre;exact List.take_of_length_le h
structure ySJ(t:Int)(ws:List Int)(m:Nat)(out rest:List Int):Prop where
 lo:out.length=ws.length
 lr:rest.length=ws.length
 all:yku m out rest=xK t ws
 few:m<=12
 rng:∀x∈out,0<=x/\x<=1000000000000100-m
def ySJ.next{t:Int}{ws:List Int}{m:Nat}{out rest:List Int}(h:ySJ t ws (m+1) out rest)(hp:1<=ws.length):
 ySJ t ws m (out.set (kL rest ws.length) (vAt out (kL rest ws.length)+1)) (rest.set (kL rest ws.length) (-1)):=by
 have hl:=h.lr;refine⟨by rw[zbF];exact h.lo,by rw[zbF];exact hl,?_,by have:=h.few;omega,λx hx=>?_⟩
 .rw[<-h.all,yku,hl]
 .have e:((m+1:Nat):Int)=m+1:=by simp
  have r:=h.rng;rw[e]at r;rcases zaS hx with hx|rfl
  .have:=r x hx;omega
  .have hlt:kL rest ws.length<out.length:=by rw[h.lo,<-hl];exact ygL (by omega) (by omega)
   have:=r (vAt out (kL rest ws.length)) (by unfold vAt;rw[zab hlt];exact zbJ hlt);omega
def yvG(t:Int)(ws:List Int)(hl:ws.length<=1048576):qB prg 254 [.c (.i t),.c (.sl 1 (ws.map qC))] (.c (.sl 1 ((xK t ws).map qC))):=by
 refine dB yrN (goQ_ ?_);refine yX2 (λk=>k<=ws.length/\(∀x∈ws.take k,inRange x 0 1000000=true)/\(k≠0->ws.length<=12)) (λk=>xC [(0,.c (.i t)),(1,.c (.sl 1 (ws.map qC))),(5,.own 13 1 0),(6,.own 14 1 0),(7,.c (.i (sumTo ws k))),(8,.c (.i k))] [(13,.row 1 []),(14,.row 1 [])]) (λk=>ws.length-k) (by apply aB<;>simp[aY]) ?_
 rintro k ⟨hk,hall,h12'⟩
 rcases yX1 k ws with⟨hlt,x,hx⟩|hge
 .have g1:=(zaa.1 hx).2;refine yaeV hx (fC hlt) g1 hlt ?_;intro hlen;refine aA (bC x 0 1000000) ?_;cases h1:inRange x 0 1000000 with
  |false=>refine goQ_ ?_;rw[sV (by have:=all_false (p:=λw=>inRange w 0 1000000) hx h1;simp[lS,this])]
  |true=>
   refine yaeV hx (fC hlt) g1 hlt ?_
   refineλ_=>⟨λh12=>?_,λh12=>?_⟩
   .rw[sV (by simp[lS];omega)]
   have h12:ws.length<=12:=by omega
   have hall':=lD (p:=λn=>inRange n 0 1000000) hx hall h1;have hs:=yAZ h12 hall';rw[nV hx]at hs;exact⟨by unfold inI;omega,gB hlt hlen,k+1,⟨hlt,hall',λ_=>h12⟩,by omega,by apply aB<;>simp[nV hx]⟩
 .have hall2:=dF (p:=λn=>inRange n 0 1000000) hge hall
  have h12:ws.length<=12:=by
   rcases zau k with e|e
   .omega
   .exact h12' (by omega)
  refine yafw (aG hge) ?_;rw[yb4 hge];clear hall hk hge h12'
  refineλhlen=>⟨λh0=>?_,λh0=>by rw[sV (by simp[lS,h0])]⟩
  refine aA (bC t 0 1000000000) ?_;cases ht:inRange t 0 1000000000 with
  |false=>refine goQ_ ?_;rw[sV (by simp[lS,ht])]
  |true=>
  have h1:1<=ws.length:=by
   rcases zau ws.length with e|e
   .rw[zav.1 e]at h0;simp at h0
   .exact e
  have hok:lS t ws=true:=by simp[lS,ht,h12,h1,hall2,h0]
  have f:=yhO hok;have hlft:=ysB f;have ft:=f.tot;have fs:=f.sum;have frng:=f.rng;have hSO:xK t ws=yku (lV t ws).toNat (ws.map (quota t ws.sum)) (ws.map (yct t ws.sum)):=by rw[xK,if_pos hok]
  obtain⟨Q,hQd⟩:∃Q,Q=ws.map (quota t ws.sum):=⟨_,rfl⟩;obtain⟨R,hRd⟩:∃R,R=ws.map (yct t ws.sum):=⟨_,rfl⟩;have hQl:Q.length=ws.length:=by rw[hQd,zam]
  have hRl:R.length=ws.length:=by rw[hRd,zam]
  have hQr:∀q∈Q,0<=q/\q<=1000000000000000:=λq hq=>by
   rw[hQd]at hq;obtain⟨w,hw,rfl⟩:=zaM.1 hq;have:=yR ft fs.1 (frng w hw);omega
  have hrest:lV t ws=t-Q.sum:=by rw[hQd];rfl
  rw[<-hQd,<-hRd]at hSO;refine goQ_ ?_
  refine qA (ι:=Nat) (λk=>k<=ws.length) (λk=>xC [(0,.c (.i t)),(1,.c (.sl 1 (ws.map qC))),(5,.own 13 1 k),(6,.own 14 1 k),(7,.c (.i ws.sum)),(9,.c (.i (t-sumTo Q k))),(10,.c (.i k))]
   [(13,.row 1 ((pre Q k).map qC)),(14,.row 1 ((pre R k).map qC))]) (λk=>ws.length-k) 0 (by simp) (by apply aB<;>simp[aY,yFS]) ?_
  rintro k hk
  rcases yX1 k ws with⟨hlt,w,hw⟩|hge
  .have g1:=(zaa.1 hw).2;have hQ:Q[k]?=some (quota t ws.sum w):=by rw[hQd];simp[hw]
   have hR:R[k]?=some (yct t ws.sum w):=by rw[hRd];simp[hw]
   have q1:=yR ft fs.1 (frng w (zac hw));have hsum:=nV hQ;have hb1:=sum_bnd (l:=pre Q k) (m:=1000000000000000) λx hx=>hQr x (zas hx);have hbl:(pre Q k).length=k:=yC5 (by omega);have hbr:(pre R k).length=k:=yC5 (by omega)
   have hb1':0<=sumTo Q k/\sumTo Q k<=12000000000000000:=by
    have:sumTo Q k=(pre Q k).sum:=rfl;omega
   have hqd:(t*w).tdiv ws.sum=quota t ws.sum w:=rfl;have hrd:(t*w).tmod ws.sum=yct t ws.sum w:=rfl;have tQ:=yz2 hQ;have tR:=yz2 hR;generalize pre Q k=A at *;generalize pre R k=B at *;have hgk:(A.map qC++[[C.i (quota t ws.sum w)]])[k]?=some [C.i (quota t ws.sum w)]:=by rw[zax (by simp[hbl])];simp[hbl]
   have hkl:k<A.length+1:=by omega
   simp -dsimp -implicitDefEqProofs [hw,g1,fC hlt,hlt,hqd,hrd,hbl,hbr,hgk]
   refineλhlen=>⟨by unfold inI;omega,by omega,by unfold inI;omega,by omega,by unfold inI;omega,by omega,by unfold inI;omega,by omega,by omega,by unfold inI;omega,by unfold inI;omega,k+1,hlt,by omega,?_⟩
   apply aB<;>simp[tQ,tR,hsum,hbl,hbr];omega
  .have:k=ws.length:=by omega
   subst this;refine yaed (yC4 (l:=Q) (k:=ws.length) (by omega)) (yC4 (l:=R) (k:=ws.length) (by omega)) ?_;rw[yb4 (by omega),<-hrest];have hn0:((lV t ws).toNat:Int)=lV t ws:=zdJ hlft.1;have hnl:(lV t ws).toNat<ws.length:=by omega
   have hP:ySJ t ws (lV t ws).toNat Q R:=⟨hQl,hRl,hSO.symm,by omega,λx hx=>by have:=hQr x hx;omega⟩;rw[<-hn0];generalize(lV t ws).toNat=n at *
   refineλhlen=>qA (ι:=Nat×List Int×List Int) (λp=>ySJ t ws p.1 p.2.1 p.2.2) (λp=>xC [(5,.own 13 1 ws.length),(6,.own 14 1 ws.length),(9,.c (.i p.1))] [(13,.row 1 (p.2.1.map qC)),(14,.row 1 (p.2.2.map qC))]) (λp=>p.1) (n,Q,R) hP (by apply aB<;>simp) ?_
   rintro⟨m,out,rest⟩ hM
   simp only at hM;have hlo:=hM.lo;have hlr:=hM.lr;rcases zau m with e|e
   .subst e;have hall:=hM.all;rw[yku]at hall;refine goQ_ ?_;rw[List.take_of_length_le (by rw[zam,hlo];exact Nat.le_refl _),hall]
   .obtain⟨m,rfl⟩:∃j,m=j+1:=⟨m-1,by omega⟩;have hN:=hM.next h1;refine goQ_ ?_;refine qA (ι:=Nat) (λk=>1<=k/\k<=ws.length) (λk=>xC [(5,.own 13 1 ws.length),(6,.own 14 1 ws.length),(9,.c (.i ((m+1:Nat):Int))),(11,.c (.i (kL rest k:Nat))),(12,.c (.i k))] [(13,.row 1 (out.map qC)),(14,.row 1 (rest.map qC))]) (λk=>ws.length-k) 1 ⟨Nat.le_refl _,h1⟩ (by apply aB<;>simp[yaV,yAD]) ?_
    rintro k ⟨hk1,hk⟩
    rcases zaq k ws.length with hlt|hge
    .obtain⟨x,hx⟩:∃x,rest[k]?=some x:=⟨_,zab (by omega)⟩;have i1:=ygL (l:=rest) (by omega) (k:=k) (by omega);obtain⟨p,hp⟩:∃p,rest[kL rest k]?=some p:=⟨_,zab i1⟩;have g1:=(zaa.1 hx).2;have g2:=(zaa.1 hp).2;have e1:kL rest (k+1)=if p<x then k else kL rest k:=by rw[yaV,yfM hx,yfM hp]
     generalize kL rest k=u at *;have j1:((u:Nat):Int)<(ws.length:Int):=by omega
     have hlt':k<rest.length:=by omega
     simp -dsimp -implicitDefEqProofs [hx,hp,g1,g2,i1,hlt,hlt',j1,fC hlt]
     refineλhl=>⟨λc1=>?_,λc1=>?_⟩
     all_goals
      refine⟨gB hlt hl,k+1,⟨by omega,hlt⟩,by omega,?_⟩;apply aB<;>simp[e1]<;>(repeat' split)<;>omega
    .have:k=ws.length:=by omega
     subst this;have i1:=ygL (l:=rest) (by omega) (k:=ws.length) (by omega);have hN':=hN;generalize kL rest ws.length=u at *;obtain⟨v,hv⟩:∃p,out[u]?=some p:=⟨_,zab (by omega)⟩;obtain⟨p,hp⟩:∃p,rest[u]?=some p:=⟨_,zab i1⟩;have g1:=(zaa.1 hv).2;have g2:=(zaa.1 hp).2;rw[yfM hv]at hN;have hb:=hM.rng v (zac hv);have hfew:=hM.few;have j1:u<ws.length:=by omega
     have j2:u<out.length:=by omega
     have s1:(out.map qC).set u [.i (v+1)]=(out.set u (v+1)).map qC:=by rw[zaP]
     have s2:(rest.map qC).set u [.i (-1)]=(rest.set u (-1)).map qC:=by rw[zaP]
     generalize out.set u (v+1)=out' at *;generalize rest.set u (-1)=rest' at *;simp -dsimp -implicitDefEqProofs [hv,hp,g1,g2,j1,j2,i1,s1,s2,hlo,hlr];have hmm:((m+1:Nat):Int)=m+1:=by simp
     rw[hmm]at hb
     refineλ_=>⟨by unfold inI;omega,by unfold inI;omega,m,out',rest',hN,by omega,?_⟩
     apply aB<;>simp
def yb9(l:List Int)(t w:Int):Nat->List ySb
 |0=>[]
 |k+1=>yb9 l t w k++(if 0<vAt l k then[⟨0,k+1,vAt l k,t,w⟩]else[])
def yqz{l:List Int}{t w:Int}:yb9 l t w 0=[]:=rfl
def ykr{l:List Int}{t w:Int}{k:Nat}:yb9 l t w (k+1)=yb9 l t w k++(if 0<vAt l k then[⟨0,k+1,vAt l k,t,w⟩]else[]):=rfl
def ygZ{l:List Int}{t w:Int}:∀k:Nat,(yb9 l t w k).length<=k
 |0=>by simp[yb9]
 |k+1=>by
  have:=ygZ (l:=l) (t:=t) (w:=w) k;rw[ykr,zah];split<;>simp<;>omega
def ycT(t:yRZ)(x:yRT)(n:Int):Bool:=nH t&&oC x&&inRange n 0 1000000
def jH(t:yRZ)(x:yRT)(n:Int):List ySb:=if ycT t x n then yb9 (xK (lT t x) t.yR7) n (vAt (lG x) 0) (xK (lT t x) t.yR7).length else[]
def yp0{t:yRZ}{x:yRT}{n:Int}(h:ycT t x n=false):jH t x n=[]:=by simp[jH,h]
def yw9{x:yRT}(h:oC x=true):∃w,(lG x)[0]?=some w:=by
 have tf:=lK h;have h1:=tf.pos;refine⟨_,zab (show 0<(lG x).length by rw[lG,if_pos h,zam];omega)⟩
def yqk(t:yRZ)(x:yRT)(n:Int)(hx:x.small):nI prg 68 [.agg (t.enc.map .c),.agg (x.enc.map .c),.c (.i n)] (.c (.ow 5 ((jH t x n).map ySb.enc))):=by
 refine fF yno (goQ_ ?_);refine aA (yfw t) ?_;cases h1:nH t with
 |false=>refine goQ_ ?_;rw[yp0 (by simp[ycT,h1])]
 |true=>
 refine goQ_ ?_;refine aA (gK x hx) ?_;cases h2:oC x with
 |false=>refine goQ_ ?_;rw[yp0 (by simp[ycT,h2])]
 |true=>
 refine goQ_ ?_;refine aA (iC n 0 1000000) ?_;cases h3:inRange n 0 1000000 with
 |false=>refine goQ_ ?_;rw[yp0 (by simp[ycT,h3])]
 |true=>
 refine goQ_ ?_;have hok:ycT t x n=true:=by simp[ycT,h1,h2,h3]
 have he:jH t x n=yb9 (xK (lT t x) t.yR7) n (vAt (lG x) 0) (xK (lT t x) t.yR7).length:=by rw[jH,if_pos hok]
 obtain⟨w,hw⟩:=yw9 h2;rw[yfM hw]at he;rw[he];refine dD (ya0 x hx) ?_;have gw:=(zaa.1 hw).2;have lw:=(zaa.1 hw).1;refine yaeT hw gw lw ?_;refine lC (yAg t x hx) (goQ_ ?_);refine gX (yus (lT t x) t.yR7) ?_;have hsl:=yg9 (lT t x) t.yR7;generalize xK (lT t x) t.yR7=sh at *;refine goQ_ ?_;intro hlen;refine jX (k0:=5) 8 5 (by simp) (by simp) (by decide) ?_;refine yX2 (λk=>k<=sh.length) (λk=>xC [(2,.c (.i n)),(7,.c (.i w)),(8,.own 8 5 (yb9 sh n w k).length),(33,.c (.sl 1 (sh.map qC))),(34,.c (.i sh.length)),(35,.c (.i k))] [(8,.row 5 ((yb9 sh n w k).map ySb.enc))]) (λk=>sh.length-k) (by apply aB<;>simp[yqz]) ?_
 rintro k hk
 have htl:=ygZ (l:=sh) (t:=n) (w:=w) k;rcases yX1 k sh with⟨hlt,v,hv⟩|hge
 .have gv:=(zaa.1 hv).2;have hs:=ykr (l:=sh) (t:=n) (w:=w) (k:=k);rw[yfM hv]at hs;refine yaeV hv gv (fC hlt) hlt ?_;refine⟨λh0=>?_,λh0=>?_⟩
  .rw[if_pos (by omega)]at hs;refine⟨by unfold inI;omega,by omega,gB hlt hlen,k+1,hlt,by omega,?_⟩;apply aB<;>simp[hs]
  .rw[if_neg (by omega),zbH]at hs;refine⟨gB hlt hlen,k+1,hlt,by omega,?_⟩;apply aB<;>simp[hs]
 .have:k=sh.length:=by omega
  subst this;exact goU_
def ycW(t:yRZ)(x:yRT)(n:Int):(jH t x n).length<=12:=by
 unfold jH;split
 .have h1:=ygZ (l:=xK (lT t x) t.yR7) (t:=n) (w:=vAt (lG x) 0) (xK (lT t x) t.yR7).length;have h2:=yg9 (lT t x) t.yR7;omega
 .simp
def ynv(t:yRZ)(x:yRT)(n:Int)(hx:x.small):qB prg 68 [.agg (t.enc.map .c),.agg (x.enc.map .c),.c (.i n)] (.c (.sl 5 ((jH t x n).map ySb.enc))):=(yqk t x n hx).pure (by simp)
def yqj(t:yRZ)(x:yRT)(n:Int)(ht:t.small)(hx:x.small):qB prg 165 [.agg (t.enc.map .c),.agg (x.enc.map .c),.c (.i n)] (.c (.sl 5 ((jH t x n).map ySb.enc))):=by
 refine dB ynh (goQ_ ?_);refine aA (yfH t) ?_;cases h1:nH t with
 |false=>refine goQ_ ?_;rw[yp0 (by simp[ycT,h1])]
 |true=>
 refine goQ_ ?_;refine aA (jJ x hx) ?_;cases h2:oC x with
 |false=>refine goQ_ ?_;rw[yp0 (by simp[ycT,h2])]
 |true=>
 refine goQ_ ?_;refine aA (bC n 0 1000000) ?_;cases h3:inRange n 0 1000000 with
 |false=>refine goQ_ ?_;rw[yp0 (by simp[ycT,h3])]
 |true=>
 refine goQ_ ?_;have hok:ycT t x n=true:=by simp[ycT,h1,h2,h3]
 have he:jH t x n=yb9 (xK (lT t x) t.yR7) n (vAt (lG x) 0) (xK (lT t x) t.yR7).length:=by rw[jH,if_pos hok]
 obtain⟨w,hw⟩:=yw9 h2;rw[yfM hw]at he;rw[he];have gw:=(zaa.1 hw).2;have lw:=(zaa.1 hw).1;refine lC (yBg t x hx) (goQ_ ?_);refine gX (yvG (lT t x) t.yR7 ht.2) ?_;have hsl:=yg9 (lT t x) t.yR7;generalize xK (lT t x) t.yR7=sh at *;refine goQ_ ?_;refine yX2 (λk=>k<=sh.length) (λk=>xC [(2,.c (.i n)),(4,.box 4 0),(7,.own 10 5 (yb9 sh n w k).length),(8,.c (.sl 1 (sh.map qC))),(9,.c (.i k))] [(4,.box (x.enc.map .c)),(10,.row 5 ((yb9 sh n w k).map ySb.enc))]) (λk=>sh.length-k) (by apply aB<;>simp[yqz]) ?_
 rintro k hk
 have htl:=ygZ (l:=sh) (t:=n) (w:=w) k;rcases yX1 k sh with⟨hlt,v,hv⟩|hge
 .have gv:=(zaa.1 hv).2;have hs:=ykr (l:=sh) (t:=n) (w:=w) (k:=k);rw[yfM hv]at hs;refine yaeV hv gv (fC hlt) hlt ?_
  refineλhlen=>⟨λh0=>?_,λh0=>?_⟩
  .rw[if_pos (by omega)]at hs;refine⟨by unfold inI;omega,?_⟩;refine bI (yaG x hx) (yaeT hw gw lw ?_);refine⟨by omega,gB hlt hlen,k+1,hlt,by omega,?_⟩;apply aB<;>simp[hs]
  .rw[if_neg (by omega),zbH]at hs;refine⟨gB hlt hlen,k+1,hlt,by omega,?_⟩;apply aB<;>simp[hs]
 .have:k=sh.length:=by omega
  subst this;exact goU_
def yKj(m:Int)(h0:0<=m)(h1:m<=2097152):nI prg 256 [.nil 5,.c (.i m)] (.c (.ow 5 [])):=by
 refine fF tZ (goQ_ ?_);exact⟨h0,λ_=>⟨by unfold inI;omega,by unfold inI;omega,λh=>⟨h0,by omega,by omega⟩⟩⟩
def ypG(es:List ySb)(hl:es.length<=2097152):nI prg 154 [.c (.sl 5 (es.map ySb.enc))] (.c (.ow 5 (es.map ySb.enc))):=by
 refine fF fP ?_;simp -dsimp -implicitDefEqProofs [oJ,jA];omega
def lens(a b:Nat)(k:Nat):Int:=if k=0 then 0 else if k=1 then a else a+b
def yxk(a b:List ySb)(k:Nat):List ySb:=if k=0 then[]else if k=1 then a else a++b
def yBP(a b:List ySb)(ha:a.length<=1048576)(hb:b.length<=1048576):
 nI prg 168 [.c (.sl 1 [[.sl 5 (a.map ySb.enc)],[.sl 5 (b.map ySb.enc)]])] (.c (.ow 5 ((a++b).map ySb.enc))):=by
 refine fF dZ (goQ_ ?_)
 refineλ_=>qA (ι:=Nat) (λk=>k<=2) (λk=>xC [(0,.c (.sl 1 [[.sl 5 (a.map ySb.enc)],[.sl 5 (b.map ySb.enc)]])),(3,.c (.i (lens a.length b.length k))),(9,.c (.sl 1 [[.sl 5 (a.map ySb.enc)],[.sl 5 (b.map ySb.enc)]])),(10,.c (.i 2)),(11,.c (.i k))] []) (λk=>2-k) 0 (by simp) (by apply aB<;>simp[lens]) ?_
 intro k hk;obtain rfl|rfl|rfl:k=0\/k=1\/k=2:=by omega
 .simp -dsimp -implicitDefEqProofs [lens]
  refineλ_=>⟨by unfold inI;omega,by unfold inI;omega,1,by omega,by omega,?_⟩
  apply aB<;>simp
 .simp -dsimp -implicitDefEqProofs [lens]
  refineλ_=>⟨by unfold inI;omega,by omega,λ_=>⟨by unfold inI;omega,2,by omega,by omega,?_⟩⟩
  apply aB<;>simp
 .simp -dsimp -implicitDefEqProofs [lens];refine sD (yKj (a.length+b.length) (by omega) (by omega)) (by simp) (by simp[AV.closed,AV.jI,C.closed]) (by simp[fD]) (goQ_ ?_)
  refineλ_=>qA (ι:=Nat) (λk=>k<=2) (λk=>xC [(6,.own 24 5 (yxk a b k).length),(25,.c (.sl 1 [[.sl 5 (a.map ySb.enc)],[.sl 5 (b.map ySb.enc)]])),(26,.c (.i 2)),(27,.c (.i k))] [(24,.row 5 ((yxk a b k).map ySb.enc))]) (λk=>2-k) 0 (by simp) (by apply aB<;>simp[yxk]) ?_
  intro k hk;obtain rfl|rfl|rfl:k=0\/k=1\/k=2:=by omega
  .simp -dsimp -implicitDefEqProofs [yxk];refine⟨by omega,by unfold inI;omega,1,by omega,by omega,?_⟩;apply aB<;>simp
  .simp -dsimp -implicitDefEqProofs [yxk];refine⟨by omega,by unfold inI;omega,2,by omega,by omega,?_⟩;apply aB<;>simp
  .simp -dsimp -implicitDefEqProofs [yxk];rw[List.take_of_length_le (by simp)]
def gJ(book more:List ySb):List ySb×Bool:=if kU book&&kU (book++more)then(book++more,true)else(book,false)
def yo9(a b:List ySb)(ha:a.length<=1048576)(hb:b.length<=1048576):
 nI prg 67 [.c (.sl 5 (a.map ySb.enc)),.c (.sl 5 (b.map ySb.enc))] (.tup [.c (.ow 5 ((gJ a b).1.map ySb.enc)),.c (.b (gJ a b).2)]):=by
 have hcat:=yBP a b ha hb;have hp:gJ a b=if kU a&&kU (a++b)then(a++b,true)else(a,false):=rfl
 have hn:2000<b.length->kU (a++b)=false:=λh=>by simp[kU];omega
 generalize a++b=c at hcat hp hn;refine fF ynj (goQ_ ?_);refine aA (ykw a) ?_;cases h:kU a with
 |false=>
  refine goQ_ ?_;refine sD (ypG a (by omega)) (by simp) (by simp[AV.closed,AV.jI,C.closed]) (by simp[fD]) (goQ_ ?_);simp[hp,h,jA]
 | true=>
  refine goQ_ ?_
  refineλ_=>⟨λh2=>?_,λh2=>?_⟩
  .skip
   refine sD (hcat) (by simp) (by simp[AV.closed,AV.jI,C.closed]) (by simp[fD]) (goQ_ ?_);refine mD (ykw c) (by simp[jA]) rfl ?_;cases h3:kU c with
   |false=>
    refine goQ_ ?_;refine sD (ypG a (by omega)) (by simp) (by simp[AV.closed,AV.jI,C.closed]) (by simp[fD]) (goQ_ ?_);simp[hp,h,h3,jA]
   |true=>
    refine goQ_ ?_;refine sD (hcat) (by simp) (by simp[AV.closed,AV.jI,C.closed]) (by simp[fD]) (goQ_ ?_);simp[hp,h,h3,jA]
  .skip
   have h3:=hn (by omega);refine sD (ypG a (by omega)) (by simp) (by simp[AV.closed,AV.jI,C.closed]) (by simp[fD]) (goQ_ ?_);simp[hp,h,h3,jA]
def yp5(a b:List ySb)(ha:a.length<=1048576)(hb:b.length<=1048576):
 qB prg 164 [.c (.sl 5 (a.map ySb.enc)),.c (.sl 5 (b.map ySb.enc))] (.tup [.c (.sl 5 ((gJ a b).1.map ySb.enc)),.c (.b (gJ a b).2)]):=by
 have hp:gJ a b=if kU a&&kU (a++b)then(a++b,true)else(a,false):=rfl
 have e1:a.map ySb.enc++b.map ySb.enc=(a++b).map ySb.enc:=List.map_append.symm;have e2:a.length+b.length=(a++b).length:=List.length_append.symm;generalize a++b=c at hp e1 e2;refine dB ynd (goQ_ ?_);refine⟨by omega,by omega,?_⟩;rw[e1,e2];refine aA (yjB a) ?_;cases h:kU a with
 |false=>
  refine goQ_ ?_;simp[hp,h,jA];omega
 | true=>
  refine goQ_ ?_;refine mD (yjB c) (by simp[jA]) rfl ?_;cases h3:kU c with
  |false=>
   refine goQ_ ?_;simp[hp,h,h3,jA];omega
  |true=>
   refine goQ_ ?_;simp[hp,h,h3,jA]
def yol(a b:List ySb)(ha:a.length<=1048576)(hb:b.length<=1048576):
 qB prg 67 [.c (.sl 5 (a.map ySb.enc)),.c (.sl 5 (b.map ySb.enc))] (.tup [.c (.sl 5 ((gJ a b).1.map ySb.enc)),.c (.b (gJ a b).2)]):=(yo9 a b ha hb).pure (by simp[AV.shr,AV.yEj,AV.yoE,C.shr])
def yrC(a b:List ySb):(gJ a b).1.length<=a.length+b.length:=by
 unfold gJ;split<;>simp
def fl{α:Type}(f:α->List Int)(l:List α)(k:Nat):List Int:=(l.take k).flatMap f
def yZS{α:Type}{f:α->List Int}{l:List α}:fl f l 0=[]:=rfl
def yZA{α:Type}{f:α->List Int}{l:List α}{k:Nat}{x:α}(h:l[k]?=some x):fl f l (k+1)=fl f l k++f x:=by
 unfold fl;rw[zao,h,zbB];simp
def yaay{α:Type}{f:α->List Int}{l:List α}{k:Nat}(h:l.length<=k):fl f l k=l.flatMap f:=by
 unfold fl;rw[List.take_of_length_le h]
def yaaw{α:Type}{f:α->List Int}{l:List α}{k:Nat}{x:α}(h:l[k]?=some x):(fl f l k).length+(f x).length<=(l.flatMap f).length:=by
 have:l.flatMap f=fl f l (k+1)++(l.drop (k+1)).flatMap f:=by
  unfold fl;rw[<-zbB,zaw]
 rw[this,yZA h];simp only[zah];omega
def yZi(m:yR6):List Int:=lG m.yRT
def yZc(c:yR4):List Int:=lG c.yRT
def yYR(l:List yR6):List Int:=l.flatMap yZi
def yZy(w:yR8):List Int:=w.Calls.flatMap yZc++w.yR0.yRY.flatMap lG
def yYP(x:yRW):List Int:=x.yR3.flatMap yYR++x.yRX.flatMap yZy++x.yR9.flatMap lG
def yaai(x:yRW):(yYP x).length=(x.yR3.flatMap yYR).length+(x.yRX.flatMap yZy).length+(x.yR9.flatMap lG).length:=by
 simp only[yYP,zah]
def cat3{A B D:List Int}:List.take (A.length+(B.length+D.length)) (List.map qC A++(List.map qC B++List.map qC D))=List.map qC (A++B++D):=by
 rw[List.take_of_length_le (by simp)];simp
def yabG(x:yRW)(hs:x.small)(hB:(yYP x).length<=1000000000):nI prg 33 [.agg (x.enc.map .c)] (.c (.ow 1 ((yYP x).map qC))):=by
 obtain⟨s1,s2,s3,s4,s5,s6,s7,s8,s9⟩:=hs;have hP:yYP x=x.yR3.flatMap yYR++x.yRX.flatMap yZy++x.yR9.flatMap lG:=rfl;rw[yaai]at hB;refine fF yaaT (goQ_ ?_);intro hlen;refine jX (k0:=1) 3 1 (by simp) (by simp) (by decide) ?_;refine yX2 (λk=>k<=x.yR3.length) (λk=>xC [(1,.box 1 0),(3,.own 3 1 (fl yYR x.yR3 k).length),(17,.c (.sl 1 (x.yR3.map nD))),(18,.c (.i x.yR3.length)),(19,.c (.i k))] [(1,.box (x.enc.map .c)),(3,.row 1 ((fl yYR x.yR3 k).map qC))]) (λk=>x.yR3.length-k) (by apply aB<;>simp[yZS]) ?_
 rintro k hk
 rcases yX1 k x.yR3 with⟨klt,l,hl⟩|kge
 .have hls:=s4.2 l (zac hl);have hb1:=yaaw (f:=yYR) hl;have e1:=yZA (f:=yYR) hl;refine yaed hl (fC klt) ?_;intro hlen2;generalize fl yYR x.yR3 k=A at hb1 e1;refine yX2 (λj=>j<=l.length) (λj=>xC [(1,.box 1 0),(3,.own 3 1 (A++fl yZi l j).length),(17,.c (.sl 1 (x.yR3.map nD))),(18,.c (.i x.yR3.length)),(19,.c (.i k)),(23,.c (.sl 3 (l.map yR6.enc))),(24,.c (.i l.length)),(25,.c (.i j))] [(1,.box (x.enc.map .c)),(3,.row 1 ((A++fl yZi l j).map qC))]) (λj=>l.length-j) (by apply aB<;>simp[yZS]) ?_
  rintro j hj
  rcases yX1 j l with⟨jlt,m,hm⟩|jge
  .have hms:=hls.2 m (zac hm);have hb2:=yaaw (f:=yZi) hm;have hb3:(yYR l).length=(l.flatMap yZi).length:=rfl;have hb4:(yZi m).length=(lG m.yRT).length:=rfl;refine yaeV hl hm (fC klt) (fC jlt) ?_;refine dD (ya0 m.yRT hms) (goQ_ ?_);refine⟨by omega,gB jlt hlen2,j+1,jlt,by omega,?_⟩;apply aB<;>simp[yZA hm,yZi,zcl]
  .refine yaed (aG jge) hl ?_;rw[yaay jge];have e2:A++l.flatMap yZi=fl yYR x.yR3 (k+1):=by rw[e1];rfl
   have e3:A.length+(l.flatMap yZi).length=(fl yYR x.yR3 (k+1)).length:=by rw[<-e2];simp only[zah]
   refine⟨gB klt hlen,k+1,klt,by omega,?_⟩;apply aB<;>simp[<-e2]
 refine yafw (aG kge) ?_;rw[yaay kge];generalize x.yR3.flatMap yYR=B1 at hB hP;intro hlen;refine yX2 (λq=>q<=x.yRX.length) (λq=>xC [(1,.box 1 0),(3,.own 3 1 (B1++fl yZy x.yRX q).length),(37,.c (.sl 22 (x.yRX.map yR8.enc))),(38,.c (.i x.yRX.length)),(39,.c (.i q))] [(1,.box (x.enc.map .c)),(3,.row 1 ((B1++fl yZy x.yRX q).map qC))]) (λq=>x.yRX.length-q) (by apply aB<;>simp[yZS]) ?_
 rintro q hq
 rcases yX1 q x.yRX with⟨qlt,w,hl⟩|qge
 .have hws:=s3.2 w (zac hl);have hb1:=yaaw (f:=yZy) hl;have hb3:(yZy w).length=(w.Calls.flatMap yZc).length+(w.yR0.yRY.flatMap lG).length:=by simp only[yZy,zah]
  have e1:=yZA (f:=yZy) hl;have g1:=(zaa.1 hl).2;refine yaeV hl g1 qlt (fC qlt) ?_;intro hlen2;generalize fl yZy x.yRX q=A at hb1 e1;refine yX2 (λj=>j<=w.Calls.length) (λj=>xC [(1,.box 1 0),(3,.own 3 1 (B1++A++fl yZc w.Calls j).length),(37,.c (.sl 22 (x.yRX.map yR8.enc))),(38,.c (.i x.yRX.length)),(39,.c (.i q)),(9,.box 9 0),(44,.c (.sl 4 (w.Calls.map yR4.enc))),(45,.c (.i w.Calls.length)),(46,.c (.i j))] [(1,.box (x.enc.map .c)),(3,.row 1 ((B1++A++fl yZc w.Calls j).map qC)),(9,.box (w.enc.map .c))]) (λj=>w.Calls.length-j) (by apply aB<;>simp[yZS]) ?_
  rintro j hj
  rcases yX1 j w.Calls with⟨jlt,c,hm⟩|jge
  .have hms:=hws.2.2.2 c (zac hm);have hb2:=yaaw (f:=yZc) hm;have hb4:(yZc c).length=(lG c.yRT).length:=rfl;refine yafq hl hm g1 qlt (fC qlt) (fC jlt) ?_;refine dD (ya0 c.yRT hms) (goQ_ ?_);refine⟨by omega,gB jlt hlen2,j+1,jlt,by omega,?_⟩;apply aB<;>simp[yZA hm,yZc,zcl]
  refine yaed (aG jge) hl ?_;rw[yaay jge];have hW:yZy w=w.Calls.flatMap yZc++w.yR0.yRY.flatMap lG:=rfl;generalize w.Calls.flatMap yZc=A2 at hb3 hW;intro hlen2;refine yX2 (λi=>i<=w.yR0.yRY.length) (λi=>xC [(1,.box 1 0),(3,.own 3 1 (B1++A++A2++fl lG w.yR0.yRY i).length),(37,.c (.sl 22 (x.yRX.map yR8.enc))),(38,.c (.i x.yRX.length)),(39,.c (.i q)),(58,.c (.sl 2 (w.yR0.yRY.map yRT.enc))),(59,.c (.i w.yR0.yRY.length)),(60,.c (.i i))] [(1,.box (x.enc.map .c)),(3,.row 1 ((B1++A++A2++fl lG w.yR0.yRY i).map qC))]) (λi=>w.yR0.yRY.length-i) (by apply aB<;>simp[yZS]) ?_
  rintro i hi
  rcases yX1 i w.yR0.yRY with⟨ilt,t,hm⟩|ige
  .have hms:=hws.1.2 t (zac hm);have hb2:=yaaw (f:=lG) hm;refine yafq hl hm g1 qlt (fC qlt) (fC ilt) ?_;refine dD (ya0 t hms) (goQ_ ?_);refine⟨by omega,gB ilt hlen2,i+1,ilt,by omega,?_⟩;apply aB<;>simp[yZA hm,zcl]
  .refine yaed (aG ige) hl ?_;rw[yaay ige];have e2:A++A2++w.yR0.yRY.flatMap lG=fl yZy x.yRX (q+1):=by rw[e1,zaW];exact congrArg _ hW.symm
   refine⟨gB qlt hlen,q+1,qlt,by omega,?_⟩;apply aB<;>simp[<-e2,zcl]
 refine yafw (aG qge) ?_;rw[yaay qge];generalize x.yRX.flatMap yZy=B2 at hB hP;intro hlen;refine yX2 (λp=>p<=x.yR9.length) (λp=>xC [(1,.box 1 0),(3,.own 3 1 (B1++B2++fl lG x.yR9 p).length),(71,.c (.sl 2 (x.yR9.map yRT.enc))),(72,.c (.i x.yR9.length)),(73,.c (.i p))] [(1,.box (x.enc.map .c)),(3,.row 1 ((B1++B2++fl lG x.yR9 p).map qC))]) (λp=>x.yR9.length-p) (by apply aB<;>simp[yZS]) ?_
 rintro p hp
 rcases yX1 p x.yR9 with⟨plt,t,hm⟩|pge
 .have hms:=s5.2 t (zac hm);have hb2:=yaaw (f:=lG) hm;refine yaed hm (fC plt) ?_;refine dD (ya0 t hms) (goQ_ ?_);refine⟨by omega,gB plt hlen,p+1,plt,by omega,?_⟩;apply aB<;>simp[yZA hm,zcl]
 .refine yafw (aG pge) ?_;rw[yaay pge,hP];exact cat3.symm
def yZI(x:yRW)(hs:x.small)(hB:(yYP x).length<=1000000000):qB prg 33 [.agg (x.enc.map .c)] (.c (.sl 1 ((yYP x).map qC))):=(yabG x hs hB).pure rfl
def ytB(W:Int)(k:Nat)(a:Int×Int×Int)(t:yRT):Int×Int×Int:=
 if 0<k/\a.2.1+iH t<=W then(a.1,a.2.1+iH t,if a.2.2<aI t then aI t else a.2.2)
 else(a.1+a.2.2,iH t,aI t)
def yc6(W:Int)(l:List yRT):Nat->Int×Int×Int
 |0=>(0,0,0)
 |k+1=>match l[k]? with
  |some t=>ytB W k (yc6 W l k) t
  |none=>yc6 W l k
def oO(L W:Int)(l:List yRT):Bool:=Distinct l&&l.all (λt=>decide (iH t<=W))&&decide ((yc6 W l l.length).1+(yc6 W l l.length).2.2<=L)
def ypI{W:Int}{l:List yRT}{k:Nat}{t:yRT}(h:l[k]?=some t):yc6 W l (k+1)=ytB W k (yc6 W l k) t:=by
 simp only[yc6,h]
def yzg{W:Int}{l:List yRT}:∀k:Nat,(0<=(yc6 W l k).1/\(yc6 W l k).1<=1200*k)/\(0<=(yc6 W l k).2.1/\(yc6 W l k).2.1<=180*k)/\(0<=(yc6 W l k).2.2/\(yc6 W l k).2.2<=1200)
 |0=>by simp[yc6]
 | k+1=>by
  have ih:=yzg (W:=W) (l:=l) k;cases h:l[k]? with
  |none=>simp only[yc6,h];omega
  | some t=>
   have h1:=yhm t;have h2:=yfk t;rw[ypI h];unfold ytB;split
   .simp only;refine⟨by omega,by omega,?_⟩;split<;>omega
   .simp only;omega
def ypV{L W:Int}{l:List yRT}(h:Distinct l=false):oO L W l=false:=by simp[oO,h]
def yg8{l:List yRT}(h:8<l.length):Distinct l=false:=by
 have:decide (l.length<=8)=false:=by simp;omega
 simp[Distinct,this]
def yqp{L W:Int}{l:List yRT}{k:Nat}{t:yRT}(h:l[k]?=some t)(hw:W<iH t):oO L W l=false:=by
 have:l.all (λt=>decide (iH t<=W))=false:=all_false (p:=λt=>decide (iH t<=W)) h (by simp;omega);simp only[oO,this,zba,zbs]
def yP(l:List yRT)(e:yR0)(hs:aJ l):qB prg 354 [.agg (e.enc.map .c),.c (.sl 2 (l.map yRT.enc))] (.c (.b (oO e.Length e.Width l))):=by
 refine dB ym5 ?_;simp;refine aA (yfU l hs) ?_;cases hd:Distinct l with
 |false=>simp;exact ypV hd
 |true=>
 have h8:l.length<=8:=by simp only[Distinct,zad,decide_eq_true_eq]at hd;exact hd.1.1
 simp;intro hlen;refine yX2 (λk=>k<=l.length/\∀t∈l.take k,decide (iH t<=e.Width)=true) (λk=>xC [(2,.box 2 0),(5,.c (.i (yc6 e.Width l k).1)),(6,.c (.i (yc6 e.Width l k).2.1)),(7,.c (.i (yc6 e.Width l k).2.2)),(15,.c (.sl 2 (l.map yRT.enc))),(16,.c (.i l.length)),(17,.c (.i k))] [(2,.box (e.enc.map .c))]) (λk=>l.length-k) (by apply aB<;>simp[yc6]) ?_
 rintro k ⟨hk,hall⟩
 have hin:=yzg (W:=e.Width) (l:=l) k;rcases yX1 k l with⟨hlt,t,ht⟩|hge
 .have hts:=hs.2 t (zac ht);have h1:=yhm t;have h2:=yfk t;have e1:=ypI (W:=e.Width) ht;simp[ht,fC hlt];refine lC (ynE t hts) ?_;simp;refine lC (ymp t hts) ?_;simp;refine⟨λhw=>(yqp ht hw),λhw=>?_⟩;have hall':=lD (p:=λt=>decide (iH t<=e.Width)) ht hall (by simpa using hw);unfold ytB at e1;have hall2:∀x∈l.take (k+1),iH x<=e.Width:=by simpa using hall'
  refine⟨λhk0=>⟨by unfold inI;omega,λhf=>?_,λhf=>?_⟩,λhk0=>?_⟩
  .have e2:=e1.trans (if_pos ⟨hk0,hf⟩);refine⟨by unfold inI;omega,gB hlt hlen,k+1,⟨hlt,hall2⟩,by omega,?_⟩;apply aB<;>simp[e2]
  .have e2:=e1.trans (if_neg (λh=>by omega));refine⟨by unfold inI;omega,gB hlt hlen,k+1,⟨hlt,hall2⟩,by omega,?_⟩;apply aB<;>simp[e2]
  .have e2:=e1.trans (if_neg (λh=>by omega));refine⟨by unfold inI;omega,gB hlt hlen,k+1,⟨hlt,hall2⟩,by omega,?_⟩;apply aB<;>simp[e2]
 .have hall2:=dF (p:=λt=>decide (iH t<=e.Width)) hge hall;have:k=l.length:=by omega
  subst this;simp;refine⟨by unfold inI;omega,?_⟩;have ha:l.all (λt=>decide (iH t<=e.Width))=true:=hall2;simp only[oO,hd,ha,zbN]
def yX(l:List yRT)(e:yR0)(hs:aJ l):qB prg 314 [.agg (e.enc.map .c),.c (.sl 2 (l.map yRT.enc))] (.c (.b (oO e.Length e.Width l))):=by
 refine dB ym1 ?_;simp;intro hlen0;refine⟨λh8=>ypV (yg8 (by omega)),λh8=>?_⟩;refine yX2 (λk=>k<=l.length/\(∀t∈l.take k,oC t=true)/\∀t∈l.take k,decide (iH t<=e.Width)=true) (λk=>xC [(2,.box 2 0),(1,.c (.sl 2 (l.map yRT.enc))),(5,.c (.i (yc6 e.Width l k).1)),(7,.c (.i (yc6 e.Width l k).2.1)),(6,.c (.i (yc6 e.Width l k).2.2)),(8,.c (.i k))] [(2,.box (e.enc.map .c))]) (λk=>l.length-k) (by apply aB<;>simp[yc6]) ?_
 rintro k ⟨hk,hok,hall⟩
 have hin:=yzg (W:=e.Width) (l:=l) k;rcases yX1 k l with⟨hlt,t,ht⟩|hge
 .have hts:=hs.2 t (zac ht);have h1:=yhm t;have h2:=yfk t;have e1:=ypI (W:=e.Width) ht;simp[ht,fC hlt];intro hlen;refine aA (jJ t hts) ?_;cases hto:oC t with
  |false=>simp;exact ypV (yp8 ht hto)
  |true=>
  have hok':=lD (p:=oC) ht hok hto;simp[ht,fC hlt];refine aA (ynV t hts) ?_;simp;refine⟨λhw=>(yqp ht hw),λhw=>?_⟩;have hall':=lD (p:=λt=>decide (iH t<=e.Width)) ht hall (by simpa using hw);unfold ytB at e1;have hall2:∀x∈l.take (k+1),iH x<=e.Width:=by simpa using hall'
  refine⟨λhk0=>⟨by unfold inI;omega,λhf=>?_,λhf=>?_⟩,λhk0=>?_⟩
  .have e2:=e1.trans (if_pos ⟨hk0,hf⟩);refine⟨by unfold inI;omega,?_⟩;simp[ht,(zaa.1 ht).2,hlt,fC hlt];refine aA (ycg t hts) ?_;simp;refine⟨gB hlt hlen,k+1,⟨hlt,hok',hall2⟩,by omega,?_⟩;apply aB<;>simp[e2]
  .have e2:=e1.trans (if_neg (λh=>by omega));refine⟨by unfold inI;omega,?_⟩;simp[ht,(zaa.1 ht).2,hlt,fC hlt];refine aA (ycg t hts) ?_;simp;refine⟨gB hlt hlen,k+1,⟨hlt,hok',hall2⟩,by omega,?_⟩;apply aB<;>simp[e2]
  .have e2:=e1.trans (if_neg (λh=>by omega));refine⟨by unfold inI;omega,?_⟩;simp[ht,(zaa.1 ht).2,hlt,fC hlt];refine aA (ycg t hts) ?_;simp;refine⟨gB hlt hlen,k+1,⟨hlt,hok',hall2⟩,by omega,?_⟩;apply aB<;>simp[e2]
 .have hall2:=dF (p:=λt=>decide (iH t<=e.Width)) hge hall;have hok2:=dF (p:=oC) hge hok;have hok3:∀t∈l,oC t=true:=zae.1 hok2;have:k=l.length:=by omega
  subst this;simp;intro _;refine⟨by unfold inI;omega,λhL=>?_,λhL=>?_⟩
  .have h88:l.length<=8:=by omega
   refine aA (yju l hs h88 hok3) ?_;simp;have:l.length<=8:=by omega
   simp[oO,Distinct,hok2,hall2,hL,this]
  .simp only[oO];have:¬((yc6 e.Width l l.length).1+(yc6 e.Width l l.length).2.2<=e.Length):=by omega
   simp[this]
def ynb(a b:Reach)(w:yR8)(c:yR4):Int:=if c.yRT.Up then kD b-w.yR0.ySj else kD a-w.yR0.ySi
def ybp(a b:Reach)(w:yR8)(c:yR4):Bool:=decide (oH c.yRT<=ynb a b w c)&&oO w.yR0.Length w.yR0.Width [c.yRT]
def able(a b:Reach)(w:yR8):List yR4:=w.Calls.filter (ybp a b w)
def ybX(a b:Reach)(w:yR8)(k:Nat):List yR4:=(w.Calls.take k).filter (ybp a b w)
def yqr{a b:Reach}{w:yR8}{k:Nat}{c:yR4}(h:w.Calls[k]?=some c):ybX a b w (k+1)=ybX a b w k++(if ybp a b w c then[c]else[]):=by
 unfold ybX;rw[zao,h,zcp];cases hc:ybp a b w c<;>simp[hc]
def ys9{a b:Reach}{w:yR8}{k:Nat}(h:w.Calls.length<=k):ybX a b w k=able a b w:=by
 unfold ybX able;rw[List.take_of_length_le h]
def ytq{a b:Reach}{w:yR8}{k:Nat}:(ybX a b w k).length<=w.Calls.length:=by
 have:=zbQ (ybp a b w) (w.Calls.take k);rw[zay]at this;unfold ybX;omega
structure ySQ(w:yR8):Prop where
 a:0<=w.yR0.ySi/\w.yR0.ySi<=100000
 b:0<=w.yR0.ySj/\w.yR0.ySj<=100000
def yBO{w:yR8}(h:fJ w=true):ySQ w:=by
 simp only[fJ,lF,zad]at h;exact⟨aC.1 h.1.1.1.1.1.1.1.1.1.1.1.1.1.2,aC.1 h.1.1.1.1.1.1.1.1.1.1.1.1.2⟩
def yyG{t:yRT}(h:t.small):aJ [t]:=⟨by simp,λx hx=>by simp at hx;rw[hx];exact h⟩
def yGg(x:yRW)(k:Nat)(w:yR8)(a b:Reach)(hs:yR8.small w)(hw:x.yRX[k]?=some w)(ha:x.yRV[k]?=some a)(hb:x.yRV[k+1]?=some b)(hsill:ySQ w)(hrl:x.yRV.length<=1048576):
 qB prg 277 [.agg (x.enc.map .c),.c (.i k)] (.c (.sl 4 ((able a b w).map yR4.enc))):=by
 have kw:=(zaa.1 hw).1;have ka:=(zaa.1 ha).1;have kb:=(zaa.1 hb).1;have gw:=(zaa.1 hw).2;have ga:=(zaa.1 ha).2;have gb:=(zaa.1 hb).2;obtain⟨q1,q2⟩:=hsill;have la:=kM a;have lb:=kM b;have hc1:=hs.2.2.1;refine dB yBd ?_;simp[yqu,hw,gw,kw,fC kw];simp[ha,ga,ka,fC ka];refine lC (qL a) ?_;simp;refine⟨by unfold inI;omega,by unfold inI;omega,by omega,by omega,?_⟩;simp[hb,gb];refine lC (qL b) ?_;simp;refine⟨by unfold inI;omega,λhlen=>?_⟩;refine jX (k0:=4) 8 4 (by simp) (by simp) (by decide) ?_;refine yX2 (λi=>i<=w.Calls.length) (λi=>xC [(2,.box 2 0),(5,.box 5 0),(6,.c (.i (kD a-w.yR0.ySi))),(7,.c (.i (kD b-w.yR0.ySj))),(8,.own 8 4 (ybX a b w i).length),(39,.c (.sl 4 (w.Calls.map yR4.enc))),(40,.c (.i w.Calls.length)),(41,.c (.i i))] [(2,.box (x.enc.map .c)),(5,.box (w.enc.map .c)),(8,.row 4 ((ybX a b w i).map yR4.enc))]) (λi=>w.Calls.length-i) (by apply aB<;>simp[ybX]) ?_
 rintro i hi
 have hil:=ytq (a:=a) (b:=b) (w:=w) (k:=i);rcases yX1 i w.Calls with⟨hlt,c,hc⟩|hge
 .have g1:=(zaa.1 hc).2;have hcs:=hs.2.2.2 c (zac hc);have e1:=yqr (a:=a) (b:=b) hc;have hd:=ydq c.yRT;have fin:∀{z:Int},z=ynb a b w c->ybp a b w c=(decide (oH c.yRT<=z)&&oO w.yR0.Length w.yR0.Width [c.yRT]):=λh=>by rw[h];rfl
  cases hu:c.yRT.Up with
  | true=>
   have fin:=fin (z:=kD b-w.yR0.ySj) (by unfold ynb;rw[if_pos hu]);simp[hc,g1,hlt,fC hlt,hu];refine mD (yw c.yRT hcs) (by simp[hu]) rfl ?_;simp;refine⟨λhd1=>?_,λhd1=>?_⟩
   .have hff:=yP [c.yRT] w.yR0 (yyG hcs);refine mD (hff) (by simp[hu]) rfl ?_;cases hf:oO w.yR0.Length w.yR0.Width [c.yRT]with
    |true=>
     have e2:ybp a b w c=true:=by rw[fin];simp[hd1,hf]
     rw[e2]at e1;simp[hu];refine⟨by omega,gB hlt hlen,i+1,hlt,by omega,?_⟩;apply aB<;>simp[e1,hu]
    |false=>
     have e2:ybp a b w c=false:=by rw[fin];simp[hf]
     rw[e2]at e1;simp;refine⟨gB hlt hlen,i+1,hlt,by omega,?_⟩;apply aB<;>simp[e1]
   .have e2:ybp a b w c=false:=by
     have:¬oH c.yRT<=kD b-w.yR0.ySj:=by omega
     rw[fin];simp[this]
    rw[e2]at e1;refine⟨gB hlt hlen,i+1,hlt,by omega,?_⟩;apply aB<;>simp[e1]
  | false=>
   have fin:=fin (z:=kD a-w.yR0.ySi) (by unfold ynb;rw[if_neg (by simp[hu])]);simp[hc,g1,hlt,fC hlt,hu];refine mD (yw c.yRT hcs) (by simp[hu]) rfl ?_;simp;refine⟨λhd1=>?_,λhd1=>?_⟩
   .have hff:=yP [c.yRT] w.yR0 (yyG hcs);refine mD (hff) (by simp[hu]) rfl ?_;cases hf:oO w.yR0.Length w.yR0.Width [c.yRT]with
    |true=>
     have e2:ybp a b w c=true:=by rw[fin];simp[hd1,hf]
     rw[e2]at e1;simp[hu];refine⟨by omega,gB hlt hlen,i+1,hlt,by omega,?_⟩;apply aB<;>simp[e1,hu]
    |false=>
     have e2:ybp a b w c=false:=by rw[fin];simp[hf]
     rw[e2]at e1;simp;refine⟨gB hlt hlen,i+1,hlt,by omega,?_⟩;apply aB<;>simp[e1]
   .have e2:ybp a b w c=false:=by
     have:¬oH c.yRT<=kD a-w.yR0.ySi:=by omega
     rw[fin];simp[this]
    rw[e2]at e1;refine⟨gB hlt hlen,i+1,hlt,by omega,?_⟩;apply aB<;>simp[e1]
 .simp[aG hge];rw[ys9 hge];exact jA.symm
def yK(x:yRW)(k:Int):List yR4:=
 if rC x&&decide (0<=k)&&decide (k<x.yRX.length)then(match x.yRX[k.toNat]?,x.yRV[k.toNat]?,x.yRV[k.toNat+1]? with
  |some w,some a,some b=>able a b w
  |_,_,_=>[])else[]
structure ySR(x:yRW)(k:Nat)(w:yR8)(a b:Reach):Prop where
 hw:x.yRX[k]?=some w
 ha:x.yRV[k]?=some a
 hb:x.yRV[k+1]?=some b
 ok:fJ w=true
 wl:x.yRX.length+1=x.yRV.length
def yKm{x:yRW}{k:Nat}(h:rC x=true)(hk:k<x.yRX.length):∃w a b,ySR x k w a b:=by
 simp only[rC,zad]at h;obtain⟨⟨⟨⟨⟨⟨⟨h1,h2⟩,h3⟩,h4⟩,h5⟩,h6⟩,h7⟩,h8⟩:=h;simp only[sJ,zad,decide_eq_true_eq,zae]at h2;obtain⟨⟨⟨⟨⟨⟨p1,p2⟩,p3⟩,p4⟩,p5⟩,p6⟩,p7⟩:=h2;have e1:x.yRX[k]?=some x.yRX[k]:=zab hk;exact⟨x.yRX[k],x.yRV[k]'(by omega),x.yRV[k+1]'(by omega),e1,zab _,zab _,p7 _ (zac e1),p5⟩
def yHy{x:yRW}{k:Int}(h:rC x=false):yK x k=[]:=by simp[yK,h]
def yGo{x:yRW}{k:Int}(h:k<0):yK x k=[]:=by
 have:¬0<=k:=by omega
 simp[yK,this]
def yHu{x:yRW}{k:Int}(h:(x.yRX.length:Int)<=k):yK x k=[]:=by
 have:¬k<x.yRX.length:=by omega
 simp[yK,this]
def ytL{x:yRW}{k:Nat}{w:yR8}{a b:Reach}(h:rC x=true)(hw:ySR x k w a b):yK x k=able a b w:=by
 have hk:=(zaa.1 hw.hw).1;have h1:((k:Nat):Int)<x.yRX.length:=by omega
 simp[yK,h,h1,hw.hw,hw.ha,hw.hb]
def yZJ{t:yRT}(ht:oC t=true):lG t=t.qE.map yc0/\1<=(lG t).length/\(lG t).length<=6/\∀i∈lG t,inRange i 1 9999=true:=by
 have h:=ht;simp only[oC,zad,inRange,decide_eq_true_eq]at h;obtain⟨⟨⟨h1,h2⟩,h3⟩,h4,h5⟩:=h;have e:lG t=t.qE.map yc0:=by unfold lG;rw[if_pos ht]
 refine⟨e,by rw[e,zam];omega,by rw[e,zam];omega,λi hi=>?_⟩;rw[e]at hi;obtain⟨b,hb,rfl⟩:=zaM.1 hi;have:=zae.1 h2 b hb;simp only[iL,zad]at this;exact this.1.1.1.1.1
def yacn{ws:List Way}{ms:List (List yR6)}(hl:ws.length=ms.length):(ws.zip ms).all jS=true↔∀(k:Nat) (w:Way) (l:List yR6),ws[k]?=some w->ms[k]?=some l->jS (w,l)=true:=by
 rw[zae];constructor
 .intro h k w l hw hm;refine h (w,l) (zbn.2 ⟨k,?_⟩);rw[zby];exact⟨hw,hm⟩
 .rintro h ⟨w,l⟩ hp
  obtain⟨k,hk⟩:=zbn.1 hp;rw[zby]at hk;exact h k w l hk.1 hk.2
def yacq{x:yRW}(h:rC x=true):x.ySl.length=x.yRV.length/\x.yR3.length=x.yRV.length/\2<=x.yRV.length/\x.yRX.length+1=x.yRV.length/\(x.ySl.zip x.yR3).all jS=true:=by
 simp only[rC,zad]at h;obtain⟨⟨⟨⟨⟨⟨⟨h1,h2⟩,h3⟩,h4⟩,h5⟩,h6⟩,h7⟩,h8⟩:=h;simp only[sJ,zad,decide_eq_true_eq]at h2;obtain⟨⟨⟨⟨⟨⟨p1,p2⟩,p3⟩,p4⟩,p5⟩,p6⟩,p7⟩:=h2;exact⟨p3,p4,p2,p5,p6⟩
def yadx{x:yRW}{t:yRT}(h:rC x=true)(ht:oC t=true)(hroom:∀l∈x.yR3,l.length<24)(hent:x.ySd.length<=1900):rC (yYK x t)=true:=by
 obtain⟨b1,b2,b3,b4⟩:=yZJ ht;obtain⟨q1,q2,q3,q4,q5⟩:=yacq h;have F:=yZQ h ht;have hh:=h;simp only[rC,zad]at hh|-;obtain⟨⟨⟨⟨⟨⟨⟨h1,h2⟩,h3⟩,h4⟩,h5⟩,h6⟩,h7⟩,h8⟩:=hh;refine⟨⟨⟨⟨⟨⟨⟨h1,?_⟩,?_⟩,h4⟩,h5⟩,h6⟩,h7⟩,h8⟩
 .simp only[sJ,zad,decide_eq_true_eq]at h2|-;obtain⟨⟨⟨⟨⟨⟨p1,p2⟩,p3⟩,p4⟩,p5⟩,p6⟩,p7⟩:=h2;refine⟨⟨⟨⟨⟨⟨p1,p2⟩,p3⟩,by simp[yYK,oG];exact p4⟩,p5⟩,?_⟩,p7⟩;have hl1:x.ySl.length=x.yR3.length:=by omega
  have hl2:(yYK x t).ySl.length=(yYK x t).yR3.length:=by simp[yYK,oG];omega
  rw[yacn hl1]at p6;rw[yacn hl2];intro k w l hw hm;have hw':x.ySl[k]?=some w:=hw;have hm':(x.yR3.set (yZr x t) (x.yR3.getD (yZr x t) []++[⟨t,entP x t⟩]))[k]?=some l:=hm;rw[zaR]at hm';split at hm'
  .rename_i e;rw[if_pos F.kl]at hm';cases hm';obtain⟨l0,hl0⟩:∃l0,x.yR3[yZr x t]?=some l0:=⟨_,zab F.kl⟩;have hg:x.yR3.getD (yZr x t) []=l0:=by rw[zaf,hl0];rfl
   rw[hg];have hold:=p6 k w l0 hw' (by rw[<-e];exact hl0);have hr:=hroom l0 (zac hl0);simp only[jS,zad,decide_eq_true_eq]at hold|-;obtain⟨⟨o1,o2⟩,o3⟩:=hold;refine⟨⟨o1,by simp;omega⟩,?_⟩;rw[List.all_append,o3];simp only[zdQ,zdX,zda,zbN,xN,o1,ht];have o1':=o1;simp only[ykM,inRange,zad,decide_eq_true_eq]at o1';unfold entP;split
   .rename_i hu;have hk:yZr x t=x.yRV.length-1:=by unfold yZr;rw[if_pos hu]
    rw[<-hk,e,zaf,hw'];simp only[zbc,inRange,zad,decide_eq_true_eq];omega
   .simp only[inRange,zad,decide_eq_true_eq];omega
  .exact p6 k w l hw' hm'
 .simp only[pO,zad,decide_eq_true_eq]at h3|-;obtain⟨⟨⟨⟨⟨l1,l2⟩,l3⟩,l4⟩,l5⟩,l6⟩:=h3;refine⟨⟨⟨⟨⟨l1,by simp[yYK];omega⟩,l3⟩,l4⟩,?_⟩,l6⟩;simp only[yYK,List.all_append,l5,zbN];exact zae.2 b4
structure Went(x0:yRW)(ts:List yRT)(x:yRW):Prop where
 ok:rC x=true
 same:x={x0 with yR3:=x.yR3,ySd:=ts.flatMap lG}
 room:∀l∈x.yR3,l.length<=ts.length
 perm:(x.yR3.flatMap yYR).Perm (ts.flatMap lG)
def yadK{ms:List (List yR6)}{k:Nat}{l:List yR6}{m:yR6}(h:ms[k]?=some l):((ms.set k (l++[m])).flatMap yYR).Perm (ms.flatMap yYR++yZi m):=by
 induction ms generalizing k with
 |nil=>cases h
 | cons a ms ih=>
  cases k with
  |zero=>
   have e:a=l:=by simpa using h
   subst e;simp only[zbD,zaZ];have:yYR (a++[m])=yYR a++yZi m:=by simp[yYR]
   rw[this,zaW,zaW];exact List.Perm.append_left _ zcQ
  |succ k=>
   simp only[zcA,zaZ,zaW];exact List.Perm.append_left _ (ih (by simpa using h))
structure Bare(x:yRW):Prop where
 ok:rC x=true
 mv:∀l∈x.yR3,l=[]
 ent:x.ySd=[]
 arr:x.yR9=[]
 book:x.Book=[]
 pas:x.yR1=[]
 wk:∀w∈x.yRX,w.Calls=[]/\w.yR0.yRY=[]
 kept:yYN x+x.Out=x.Start+x.In
def yadR{x:yRW}(h:Bare x):Went x [] x:=by
 refine⟨h.ok,?_,λl hl=>by rw[h.mv l hl];simp,?_⟩
 .have:=h.ent;cases x;simp only at this;subst this;rfl
 .have:x.yR3.flatMap yYR=[]:=by
   rw[zdq];intro l hl;rw[h.mv l hl];rfl
  rw[this];exact List.Perm.refl _
def yabM{x0 x:yRW}{ts:List yRT}{t:yRT}(h:Went x0 ts x)(ht:oC t=true)(hts:∀t∈ts,oC t=true)(hn:ts.length<20):Went x0 (ts++[t]) (yYK x t):=by
 have hE:x.ySd=ts.flatMap lG:=by rw[h.same]
 have hlen:(ts.flatMap lG).length<=6*ts.length:=by
  clear h hE hn
  induction ts with
  |nil=>simp
  |cons a ts ih=>
   have:=(yZJ (hts a (by simp))).2.2.1;have:=ih λt h=>hts t (zcW _ h);simp only[zaZ,zah,zaA];omega
 have F:=yZQ h.ok ht;obtain⟨l0,hl0⟩:∃l0,x.yR3[yZr x t]?=some l0:=⟨_,zab F.kl⟩;have hg:x.yR3.getD (yZr x t) []=l0:=by rw[zaf,hl0];rfl
 refine⟨yadx h.ok ht (λl hl=>by have:=h.room l hl;omega) (by rw[hE];omega),?_,λl hl=>?_,?_⟩
 .have e:(yYK x t).ySd=(ts++[t]).flatMap lG:=by
   show x.ySd++lG t=_
   rw[hE];simp
  have h1:yYK x t={x with yR3:=(yYK x t).yR3,ySd:=(yYK x t).ySd}:=rfl;rw[h1,e];have h2:=h.same;generalize(yYK x t).yR3=M;rw[h2]
 .have hm:l∈x.yR3.set (yZr x t) (x.yR3.getD (yZr x t) []++[⟨t,entP x t⟩]):=hl;simp only[zah,zaA,zbr];rcases zaS hm with e|e
  .have:=h.room l e;omega
  .rw[e,hg];have:=h.room l0 (zac hl0);simp;omega
 .show((x.yR3.set (yZr x t) (x.yR3.getD (yZr x t) []++[⟨t,entP x t⟩])).flatMap yYR).Perm _
  rw[hg];refine(yadK hl0).trans ?_;rw[zbB];refine(List.Perm.append_right _ h.perm).trans ?_;simp[yZi]
def yadv{x0 x:yRW}{ts:List yRT}{t:yRT}(h:Went x0 ts x)(ht:oC t=true)(hts:∀t∈ts,oC t=true)(hn:ts.length<20)(hnew:∀i∈lG t,i∉ts.flatMap lG):yYL x t=(yYK x t,true):=by
 have hE:x.ySd=ts.flatMap lG:=by rw[h.same]
 have h1:=(yabM h ht hts hn).ok
 have h2:(lG t).all (yZE x)=true:=zae.2 λi hi=>by
  unfold yZE;rw[hE];simpa using hnew i hi
 unfold yYL;rw[h.ok,ht,h2,h1];rfl
def yabb{a m:Int}(h0:0<=m)(h1:m<=9223372036854775807):0<=yG1 a m/\yG1 a m<=m:=by
 unfold yG1
 have h2:(BitVec.ofInt 64 m).toNat=m.toNat:=by
  rw[BitVec.toNat_ofInt,Int.emod_eq_of_lt h0 (by omega)]
 have h3:(BitVec.ofInt 64 a&&& BitVec.ofInt 64 m).toNat<=m.toNat:=by rw[BitVec.toNat_and,h2];exact Nat.and_le_right
 rw[ycG (yaeu (by omega) (by omega))];omega
def nenc(n:Nat):List C:=[.u n]
def hNext(h:Int):Int:=IntKind.i64.wrap (IntKind.i64.wrap (h*6364136223846793005)+1442695040888963407)
def hVal(h:Int):Int:=yG1 (yHQ (yzh (hNext h) 33) (yzh (hNext h) 45)) 255
def yYV(code:List UInt8)(p:Nat×Int):List C:=[.sl 1 (code.map yBD),.i p.1,.i p.2]
def yYS(code:List UInt8)(p:Nat×Int):Nat×Int:=(if p.1<code.length then p.1+1 else p.1,hNext p.2)
def yZH(code:List UInt8)(p:Nat×Int):Int:=
 match code[p.1]? with
 |some b=>yG1 (hVal p.2+b.toNat) 255
 |none=>hVal p.2
def yY2{code:List UInt8}{p:Nat×Int}(h:p.1<=code.length):(yYS code p).1<=code.length:=by
 unfold yYS;dsimp only;split<;>omega
def yY8(code:List UInt8)(p:Nat×Int):0<=yZH code p/\yZH code p<=255:=by
 unfold yZH;split
 .exact yabb (by omega) (by omega)
 .exact yabb (by omega) (by omega)
def yadI(h:Int):0<=hVal h/\hVal h<=255:=yabb (by omega) (by omega)
def yadg(b:UInt8):b.toNat<=255:=by have:=b.toNat_lt;omega
def yZu(code:List UInt8)(p:Nat×Int)(hp:p.1<=code.length):yZW prg 131 (yYV code p) (yYV code (yYS code p)) [] (.c (.i (yZH code p))):=by
 refine yZP yabh (by simp) λhwf hwf2=>?_;cases hb:code[p.1]? with
 |none=>
  have hge:code.length<=p.1:=by simpa using hb
  have hnl:(p.1<code.length)=False:=by simp;omega
  simp -dsimp -implicitDefEqProofs [yZm,yYV,hnl];intro _;simp[yYS,yZH,hNext,hVal,hb,hnl]
 |some b=>
  have hlt:p.1<code.length:=(zaa.1 hb).1;have hr:=yadI p.2;have g1:=(zaa.1 hb).2;have h8:=yadg b;simp only[hVal,hNext]at hr;simp -dsimp -implicitDefEqProofs [yZm,yYV,hb,g1,hlt,yBD]
  refineλhl=>⟨by unfold inI;omega,by unfold maxLen at hl;unfold inI;omega,?_⟩
  simp[yYS,yZH,hNext,hVal,hb,g1,hlt]
def yYA(code:List UInt8)(n:Int)(p:Nat×Int):Nat×Int:=
 if n<=256 then yYS code p else yYS code (yYS code (yYS code (yYS code p)))
def yYB(code:List UInt8)(n:Int)(p:Nat×Int):Int:=
 if n<=256 then(yZH code p).tmod n
 else(yZH code p*16777216+yZH code (yYS code p)*65536+yZH code (yYS code (yYS code p))*256+yZH code (yYS code (yYS code (yYS code p)))).tmod n
def yYD{code:List UInt8}{n:Int}{p:Nat×Int}(h:p.1<=code.length):(yYA code n p).1<=code.length:=by
 unfold yYA;split
 .exact yY2 h
 .exact yY2 (yY2 (yY2 (yY2 h)))
def yYC{code:List UInt8}{n:Int}{p:Nat×Int}(hn:1<=n):0<=yYB code n p/\yYB code n p<n:=by
 have h1:=yY8 code p;have h2:=yY8 code (yYS code p);have h3:=yY8 code (yYS code (yYS code p));have h4:=yY8 code (yYS code (yYS code (yYS code p)));unfold yYB;split
 .rw[zbK (by omega)];exact⟨zdE _ (by omega),zdf _ (by omega)⟩
 .rw[zbK (by omega)];exact⟨zdE _ (by omega),zdf _ (by omega)⟩
def yYF(code:List UInt8)(n:Int)(p:Nat×Int)(hp:p.1<=code.length)(hn:1<=n)(hn2:n<=1000000):yZW prg 45 (yYV code p) (yYV code (yYA code n p)) [.c (.i n)] (.c (.i (yYB code n p))):=by
 refine yZP yaaV (by simp) λhwf hwf2=>?_;refine goQ_ ?_;have n0:(n<=0)=False:=by simp;omega
 refine yafw n0 ?_;have hv:=yYC (code:=code) (p:=p) hn
 refineλ_=>⟨λh=>?_,λh=>?_⟩
 .skip
  simp only[yYB,yYA,if_pos h]at hv|-;refine yYE (yZu code p hp) (by simp) (by simp) rfl (by simp[fD]) (goQ_ ?_);refine⟨by omega,by unfold inI;omega,?_⟩;simp[h];intros;omega
 .skip
  have h':¬n<=256:=by omega
  simp only[yYB,yYA,if_neg h']at hv|-;have h1:=yY8 code p;have h2:=yY8 code (yYS code p);have h3:=yY8 code (yYS code (yYS code p));have h4:=yY8 code (yYS code (yYS code (yYS code p)));refine yYE (yZu code p hp) (by simp) (by simp) rfl (by simp[fD]) (goQ_ ?_);refine yYE (yZu code (yYS code p) (yY2 hp)) (by simp) (by simp) rfl (by simp[fD]) (goQ_ ?_);refine yYE (yZu code (yYS code (yYS code p)) (yY2 (yY2 hp))) (by simp) (by simp) rfl (by simp[fD]) (goQ_ ?_);refine yYE (yZu code (yYS code (yYS code (yYS code p))) (yY2 (yY2 (yY2 hp)))) (by simp) (by simp) rfl (by simp[fD]) (goQ_ ?_);refine⟨by unfold inI;omega,by unfold inI;omega,by unfold inI;omega,by unfold inI;omega,by unfold inI;omega,by unfold inI;omega,by omega,by unfold inI;omega,?_⟩;simp[h']
def yaco(h:Int)(b:UInt8):Int:=yG1 (h*131+b.toNat+7) 1073741823
def yZn(code:List UInt8)(k:Nat):Int:=(code.take k).foldl yaco (33173+code.length)
def hash(code:List UInt8):Int:=yZn code (min code.length 4000)
def yaaM{code:List UInt8}:yZn code 0=33173+code.length:=rfl
def yaaJ{code:List UInt8}{k:Nat}{b:UInt8}(h:code[k]?=some b):yZn code (k+1)=yaco (yZn code k) b:=by
 unfold yZn;rw[zao,h,zcj];rfl
def yadD(h:Int)(b:UInt8):0<=yaco h b/\yaco h b<=1073741823:=yabb (by omega) (by omega)
def yabu{code:List UInt8}(hl:code.length<=1048576):∀k:Nat,0<=yZn code k/\yZn code k<=1073741823
 |0=>by rw[yaaM];omega
 | k+1=>by
  cases h:code[k]? with
  |none=>
   have hk:code.length<=k:=by simpa using h
   have:yZn code (k+1)=yZn code k:=by unfold yZn;rw[List.take_of_length_le (by omega),List.take_of_length_le hk]
   rw[this];exact yabu hl k
  |some b=>rw[yaaJ h];exact yadD _ _
def yadL(code:List UInt8)(hl:code.length<=1048576):nI prg 43 [.c (.sl 1 (code.map yBD))] (.c (.bx (yYV code (0,hash code)))):=by
 refine fF yabJ (goQ_ ?_)
 refineλhlen=>⟨by unfold inI;omega,?_⟩
 refine yX2 (λk=>k<=min code.length 4000) (λk=>xC [(0,.c (.sl 1 (code.map yBD))),(3,.c (.i (yZn code k))),(4,.c (.i k))] []) (λk=>min code.length 4000-k) (by apply aB<;>simp[yaaM]) ?_
 rintro k hk
 have hr:=yabu hl k;rcases yX1 k code with⟨hlt,b,hb⟩|hge
 .have g1:=(zaa.1 hb).2;have h8:=yadg b;have hs:=yaaJ hb;simp only[yaco]at hs;simp -dsimp -implicitDefEqProofs [hb,g1,hlt,yBD]
  refineλ_=>⟨λh4=>⟨by unfold inI;omega,by unfold inI;omega,by unfold inI;omega,by unfold inI;omega,k+1,by omega,by omega,?_⟩,λh4=>?_⟩
  .apply aB<;>simp[hs]
  .have e:min code.length 4000=k:=by omega
   simp[yYV,hash,e,C.plain]
 .have hnl:(k<code.length)=False:=by simp;omega
  refine yafw hnl ?_;intro _;have e:min code.length 4000=k:=by omega
  simp[yYV,hash,e,C.plain]
def yaaI(code:List UInt8)(n:Int)(p:Nat×Int):Bool:=decide (yYB code n p=0)
def yabR(code:List UInt8)(n:Int)(p:Nat×Int)(hp:p.1<=code.length)(hn:1<=n)(hn2:n<=1000000):yZW prg 132 (yYV code p) (yYV code (yYA code n p)) [.c (.i n)] (.c (.b (yaaI code n p))):=by
 refine yZP yabq (by simp) λhwf hwf2=>?_;refine goQ_ ?_;refine yYE (yYF code n p hp hn hn2) (by simp) (by simp) rfl (by simp[fD]) (goQ_ ?_);simp[yaaI]
def yYO(code:List UInt8)(l:List Int)(p:Nat×Int):Int:=l[(yYB code l.length p).toNat]?.getD 0
def yY1(code:List UInt8)(l:List Int)(p:Nat×Int):Nat×Int:=yYA code l.length p
def yY6{code:List UInt8}{l:List Int}{p:Nat×Int}(hl:1<=l.length):yYO code l p∈l:=by
 have h:=yYC (code:=code) (n:=l.length) (p:=p) (by omega);have hlt:(yYB code l.length p).toNat<l.length:=by omega
 unfold yYO;rw[zab hlt];exact zbJ hlt
def yYM(code:List UInt8)(l:List Int)(p:Nat×Int)(hp:p.1<=code.length)(hl:1<=l.length)(hl2:l.length<=1000):CurG prg 127 (yYV code p) (yYV code (yY1 code l p)) 1 (l.map qC) (.c (.i (yYO code l p))):=by
 have h:=yYC (code:=code) (n:=l.length) (p:=p) (by omega);have hlt:(yYB code l.length p).toNat<l.length:=by omega
 obtain⟨v,hv⟩:∃v,l[(yYB code l.length p).toNat]?=some v:=⟨_,zab hlt⟩;have gv:=(zaa.1 hv).2;have hpv:yYO code l p=v:=by simp[yYO,hv]
 refine yaeg yZ8 (by omega) rfl (goQ_ ?_);intro hlen;refine yYE (yYF code l.length p hp (by omega) (by omega)) (by simp) (by simp) rfl (by simp[fD]) ?_;simp -dsimp -implicitDefEqProofs [hv,gv,hlt,h.1,h.2];exact⟨rfl,hpv⟩
def yYZ{code:List UInt8}{l:List Int}{p:Nat×Int}(h:p.1<=code.length):(yY1 code l p).1<=code.length:=yYD h
def yZY:List Int:=[5,12,30,80]
def yZ7(code:List UInt8)(p:Nat×Int):Nat×Int:=yY1 code yZY p
def yZ0(code:List UInt8)(p:Nat×Int):Nat×Int:=yYA code 9 (yZ7 code p)
def yZ3(code:List UInt8)(p:Nat×Int):Nat×Int:=yYA code 30 (yZ0 code p)
def yZ6(code:List UInt8)(p:Nat×Int):Nat×Int:=yYA code 12 (yZ3 code p)
def yZK(code:List UInt8)(p:Nat×Int):Nat×Int:=yYA code 3 (yZ6 code p)
def yZD(code:List UInt8)(id:Int)(p:Nat×Int):ySa:=
 ⟨id,yYO code yZY p,1+yYB code 9 (yZ7 code p),1+yYB code 30 (yZ0 code p),1+yYB code 12 (yZ3 code p),yYB code 3 (yZ6 code p)⟩
def yabp{code:List UInt8}{p:Nat×Int}(h:p.1<=code.length):(yZK code p).1<=code.length:=yYD (yYD (yYD (yYD (yYZ h))))
def yabS(code:List UInt8)(id:Int)(p:Nat×Int)(hp:p.1<=code.length):yZW prg 133 (yYV code p) (yYV code (yZK code p)) [.c (.i id)] (.agg ((yZD code id p).enc.map .c)):=by
 have p1:(yZ7 code p).1<=code.length:=yYZ hp;have p2:(yZ0 code p).1<=code.length:=yYD p1;have p3:(yZ3 code p).1<=code.length:=yYD p2;have p4:(yZ6 code p).1<=code.length:=yYD p3;have h2:=yYC (code:=code) (n:=9) (p:=yZ7 code p) (by omega);have h3:=yYC (code:=code) (n:=30) (p:=yZ0 code p) (by omega);have h4:=yYC (code:=code) (n:=12) (p:=yZ3 code p) (by omega);have h5:=yYC (code:=code) (n:=3) (p:=yZ6 code p) (by omega);have hpk:=yYM code yZY p hp (by simp[yZY]) (by simp[yZY]);have e4:yZY.map qC=[[.i 5],[.i 12],[.i 30],[.i 80]]:=rfl;refine yZP yabA (by simp) λhwf hwf2=>?_;refine goQ_ ?_;refine yY5 (rows:=[[.i 5],[.i 12],[.i 30],[.i 80]]) (by simpa[e4]using hpk) (by simp) (by simp) rfl (goQ_ ?_);refine yYE (yYF code 9 (yZ7 code p) p1 (by omega) (by omega)) (by simp[yZ7]) (by simp) rfl (by simp[fD]) (goQ_ ?_);refine⟨by unfold inI;omega,?_⟩;refine yYE (yYF code 30 (yZ0 code p) p2 (by omega) (by omega)) (by simp[yZ0]) (by simp) rfl (by simp[fD]) (goQ_ ?_);refine⟨by unfold inI;omega,?_⟩;refine yYE (yYF code 12 (yZ3 code p) p3 (by omega) (by omega)) (by simp[yZ3]) (by simp) rfl (by simp[fD]) (goQ_ ?_);refine⟨by unfold inI;omega,?_⟩;refine yYE (yYF code 3 (yZ6 code p) p4 (by omega) (by omega)) (by simp[yZ6]) (by simp) rfl (by simp[fD]) (goQ_ ?_);simp[yZK,yZD]
def eoB(r:List ySa):List C:=[.ow 6 (r.map ySa.enc)]
def addLast(rows:List (List ySa))(b:ySa):List (List ySa):=rows.set (rows.length-1) (rows[rows.length-1]?.getD []++[b])
def yYG(code:List UInt8)(id:Int)(p:Nat×Int):Nat->(Nat×Int)×List (List ySa)
 |0=>(p,[])
 |k+1=>
  let q:=yYG code id p k
  if k=0 then(yZK code q.1,q.2++[[yZD code (id+k) q.1]])
  else(yYA code 2 (yZK code q.1),if yaaI code 2 (yZK code q.1)then addLast q.2 (yZD code (id+k) q.1)else q.2++[[yZD code (id+k) q.1]])
def yZ1{code:List UInt8}{id:Int}{p:Nat×Int}(h:p.1<=code.length):∀k:Nat,(yYG code id p k).1.1<=code.length
 |0=>h
 |k+1=>by
  have ih:=yZ1 (id:=id) h k;simp only[yYG];split
  .exact yabp ih
  .exact yYD (yabp ih)
def yZq{code:List UInt8}{id:Int}{p:Nat×Int}:∀k:Nat,(yYG code id p k).2.length<=k/\(1<=k->1<=(yYG code id p k).2.length)
 |0=>by simp[yYG]
 | k+1=>by
  have ih:=yZq (code:=code) (id:=id) (p:=p) k;simp only[yYG];split
  .simp;omega
  .simp only[];split
   .simp[addLast];omega
   .simp;omega
def yZp{code:List UInt8}{id:Int}{p:Nat×Int}:∀k:Nat,∀r∈(yYG code id p k).2,r.length<=k/\1<=r.length
 |0,r,h=>by simp[yYG]at h
 | k +1,r,h=>by
  have ih:=yZp (code:=code) (id:=id) (p:=p) k;simp only[yYG]at h;split at h
  .rcases zaj.1 h with h|h
   .have:=ih r h;omega
   .simp at h;subst h;simp
  .simp only[]at h;split at h
   .unfold addLast at h;rcases zaS h with h|rfl
    .have:=ih r h;omega
    .cases hr:(yYG code id p k).2[(yYG code id p k).2.length-1]? with
     |none=>simp
     |some r0=>have:=ih r0 (zac hr);simp;omega
   .rcases zaj.1 h with h|h
    .have:=ih r h;omega
    .simp at h;subst h;simp
def yacW{rows:List (List ySa)}{z:Nat}{r0:List ySa}{b:ySa}(h:rows[z]?=some r0):setAt (setAt (rows.map eoB) z 0 .jk) z 0 (.ow 6 (r0.map ySa.enc++[b.enc]))=(rows.set z (r0++[b])).map eoB:=by
 have hlt:=(zaa.1 h).1;have e1:(rows.map eoB).getD z []=eoB r0:=by simp[List.getD,h]
 have e2:((rows.map eoB).set z [C.jk]).getD z []=[C.jk]:=by simp[List.getD,hlt]
 have e3:setAt (rows.map eoB) z 0 .jk=(rows.map eoB).set z [C.jk]:=by unfold setAt;rw[e1];rfl
 rw[e3];unfold setAt;rw[e2,List.set_set,zaP];simp[eoB]
def yY7(code:List UInt8)(p:Nat×Int):Nat:=(1+yYB code 4 (yYA code 2 p)).toNat
def yaaC(code:List UInt8)(id:Int)(p:Nat×Int):Nat×Int:=(yYG code id (yYA code 4 (yYA code 2 p)) (yY7 code p)).1
def yY3(code:List UInt8)(id:Int)(p:Nat×Int):yRT:=⟨yaaI code 2 p,(yYG code id (yYA code 4 (yYA code 2 p)) (yY7 code p)).2⟩
def yZT(code:List UInt8)(p:Nat×Int):(yY7 code p:Int)=1+yYB code 4 (yYA code 2 p)/\1<=yY7 code p/\yY7 code p<=4:=by
 have h:=yYC (code:=code) (n:=4) (p:=yYA code 2 p) (by omega);unfold yY7;omega
def yacH(code:List UInt8)(id:Int)(p:Nat×Int)(hp:p.1<=code.length)(hid:0<=id/\id<=1000000):yZW prg 46 (yYV code p) (yYV code (yaaC code id p)) [.c (.i id)] (.agg [.c (.b (yY3 code id p).Up),.c (.ot 1 ((yY3 code id p).Rows.map eoB))]):=by
 refine yZP yaaZ (by simp) λhwf hwf2=>?_;have hK:=yZT code p;refine goQ_ ?_;refine yYE (yabR code 2 p hp (by omega) (by omega)) (by simp) (by simp) rfl (by simp[fD]) (goQ_ ?_);refine yYE (yYF code 4 (yYA code 2 p) (yYD hp) (by omega) (by omega)) (by simp) (by simp) rfl (by simp[fD]) (goQ_ ?_);refine⟨by unfold inI;omega,?_⟩;have hp0:(yYA code 4 (yYA code 2 p)).1<=code.length:=yYD (yYD hp);rw[<-hK.1];have eN:yaaC code id p=(yYG code id (yYA code 4 (yYA code 2 p)) (yY7 code p)).1:=rfl;have eV:(yY3 code id p).Rows=(yYG code id (yYA code 4 (yYA code 2 p)) (yY7 code p)).2:=rfl;have eU:(yY3 code id p).Up=yaaI code 2 p:=rfl;rw[eN,eV,eU];generalize yY7 code p=n at *;generalize yYA code 4 (yYA code 2 p)=p0 at *;generalize yaaI code 2 p=up at *
 refine qA (ι:=Nat×Nat) (λq=>q.1<=n) (λq=>if q.1=0 then xC [(0,.box 0 0),(1000000,.box 0 0),(1,.c (.i id)),(4,.box 4 0),(5,.box 5 0),(6,.c (.i n)),(7,.c (.i 0))] [(0,.box ((yYV code p0).map .c)),(4,.box [.c (.b false),.nil 1]),(5,.box [.c (.b up),.nil 1])]
  else xC [(0,.box 0 0),(1000000,.box 0 0),(1,.c (.i id)),(4,.box 4 0),(5,.box 5 0),(6,.c (.i n)),(7,.c (.i q.1))] [(0,.box ((yYV code (yYG code id p0 q.1).1).map .c)),(4,.box [.c (.b false),.nil 1]),(5,.box [.c (.b up),.own 54 1 (yYG code id p0 q.1).2.length]),(54,.tr 1 q.2 ((yYG code id p0 q.1).2.map eoB))]) (λq=>n-q.1) (0,0) (by simp) (by rw[if_pos rfl];apply aB<;>simp) ?_
 rintro⟨k,ver⟩ hk
 simp only at hk;rcases zau k with e|hk0
 .subst e;have hn0:((0:Int)<(n:Int))=True:=by simp;omega
  have hn0':(0<n)=True:=by simp;omega
  rw[if_pos rfl];have hs1:yYG code id p0 1=(yZK code p0,[[yZD code id p0]]):=by simp[yYG]
  refine yaed hn0 hn0' ?_;refine⟨by unfold inI;omega,?_⟩;refine yYE (yabS code id p0 hp0) (by simp) (by simp) rfl (by simp[fD]) (goQ_ ?_);refine⟨by unfold inI;omega,1,by omega,by omega,0,?_⟩;rw[if_neg (by simp)];apply aB<;>simp[hs1,eoB]
 .have hne:(k=0)=False:=by simp;omega
  simp only[hne,if_false];have hq:=yZ1 (id:=id) hp0 k;have hln:=yZq (code:=code) (id:=id) (p:=p0) k;have hrow:=yZp (code:=code) (id:=id) (p:=p0) k
  have hsuc:yYG code id p0 (k+1)=(yYA code 2 (yZK code (yYG code id p0 k).1),if yaaI code 2 (yZK code (yYG code id p0 k).1)then addLast (yYG code id p0 k).2 (yZD code (id+k) (yYG code id p0 k).1)else(yYG code id p0 k).2++[[yZD code (id+k) (yYG code id p0 k).1]]):=by
   simp only[yYG,hne,if_false]
  generalize hQ:yYG code id p0 k=Q at *;obtain⟨q,rows⟩:=Q;simp only at hq hln hsuc hrow|-;rcases zaq k n with hlt|hge
  .refine yaed (fC hlt) hlt ?_;refine⟨by unfold inI;omega,?_⟩;refine yYE (yabS code (id+k) q hq) (by simp) (by simp) rfl (by simp[fD]) (goQ_ ?_);refine⟨λ_=>?_,λh=>by omega⟩;refine yYE (yabR code 2 (yZK code q) (yabp hq) (by omega) (by omega)) (by simp) (by simp) rfl (by simp[fD]) ?_;generalize yZD code (id+k) q=b at *;have hr1:=hln.2 (by omega);cases ho:yaaI code 2 (yZK code q)with
   |false=>
    rw[ho]at hsuc;refine goQ_ ?_;have hl:=hln.1;refine⟨by omega,by unfold inI;omega,k+1,hlt,by omega,0,?_⟩;rw[if_neg (by omega)];apply aB<;>simp[hsuc,eoB]
   |true=>
    rw[ho]at hsuc;obtain⟨r0,hr0⟩:∃r,rows[rows.length-1]?=some r:=⟨_,zab (by omega)⟩;have g0:=(zaa.1 hr0).2;have hadd:addLast rows b=rows.set (rows.length-1) (r0++[b]):=by simp[addLast,hr0]
    have hl:=hln.1;have ez:((rows.length:Int)-1)=((rows.length-1:Nat):Int):=by omega
    have m1:rows.length-1<rows.length:=by omega
    obtain⟨z,hz⟩:∃z,z=rows.length-1:=⟨_,rfl⟩;rw[<-hz]at hr0 hadd ez m1;have hrl:=hrow r0 (zac hr0);have g0:=(zaa.1 hr0).2;have hset:=yacW (b:=b) hr0;have hjl:(setAt (rows.map eoB) z 0 C.jk).length=rows.length:=by simp[setAt]
    have htk:(r0.map ySa.enc++[b.enc]).take (r0.length+1)=r0.map ySa.enc++[b.enc]:=List.take_of_length_le (by simp);simp only[ySa.enc]at htk hset;simp -dsimp -implicitDefEqProofs [ez,hr0,m1,eoB,g0,hjl,htk]
    refineλ_=>⟨by unfold inI;omega,λ_=>⟨by unfold inI;omega,by omega,by unfold inI;omega,k+1,hlt,by omega,ver+2,?_⟩⟩
    rw[if_neg (by omega)];apply aB<;>simp[hsuc,hadd,g0,htk,hset]
  .have:k=n:=by omega
   subst this;refine goQ_ ?_;rw[hQ,List.take_of_length_le (by simp)];exact⟨rfl,rfl⟩
def gapL:List Int:=[0,3,30]
def pfrL:List Int:=[-1,0,500,1000000]
def yaaG:List Int:=[0,500,600,1000000,1000001]
def yZa(code:List UInt8)(p:Nat×Int)(t:Int):Nat->(Nat×Int)×Int×List ySf
 |0=>(p,t,[])
 |k+1=>
  let q:=yZa code p t k
  (yY1 code gapL (yYA code 20 q.1),q.2.1+(1+yYB code 20 q.1)+yYO code gapL (yYA code 20 q.1),q.2.2++[⟨q.2.1,q.2.1+(1+yYB code 20 q.1)⟩])
def yadp{x:Int}(h:x∈gapL):0<=x/\x<=30:=by
 simp[gapL]at h;omega
def yabX{code:List UInt8}{p:Nat×Int}{t:Int}(h:p.1<=code.length):∀k:Nat,(yZa code p t k).1.1<=code.length
 |0=>h
 |k+1=>yYZ (yYD (yabX h k))
def yabD{code:List UInt8}{p:Nat×Int}{t:Int}:∀k:Nat,(yZa code p t k).2.2.length=k
 |0=>rfl
 |k+1=>by simp[yZa,yabD (code:=code) (p:=p) (t:=t) k]
def yacp{code:List UInt8}{p:Nat×Int}{t:Int}(h:0<=t/\t<=20):∀k:Nat,0<=(yZa code p t k).2.1/\(yZa code p t k).2.1<=20+50*k
 |0=>by simp only[yZa];omega
 |k+1=>by
  have ih:=yacp (code:=code) (p:=p) h k;have h1:=yYC (code:=code) (n:=20) (p:=(yZa code p t k).1) (by omega);have h2:=yadp (yY6 (code:=code) (l:=gapL) (p:=yYA code 20 (yZa code p t k).1) (by simp[gapL]));simp only[yZa];omega
def yZN(code:List UInt8):Nat->Nat×Int->List ySf->(Nat×Int)×List ySf
 |0,p,l=>(p,l)
 |f+1,p,l=>if(l.length:Int)<8+yYB code 2 p then yZN code f (yYA code 2 p) (l++[⟨1000+10*l.length,1005+10*l.length⟩])else(yYA code 2 p,l)
def yack{code:List UInt8}:∀(f:Nat) {p:Nat×Int} {l:List ySf},p.1<=code.length->(yZN code f p l).1.1<=code.length
 |0,p,l,h=>h
 |f+1,p,l,h=>by
  unfold yZN;split
  .exact yack f (yYD h)
  .exact yYD h
def yabU{code:List UInt8}:∀(f:Nat) {p:Nat×Int} {l:List ySf},(yZN code f p l).2.length<=l.length+f
 |0,p,l=>Nat.le_refl _
 | f+1,p,l=>by
  unfold yZN;split
  .have:=yabU (code:=code) f (p:=yYA code 2 p) (l:=l++[⟨1000+10*l.length,1005+10*l.length⟩]);simp only[zah,zaA,zbr]at this;omega
  .simp only;omega
def paP(code:List UInt8)(p:Nat×Int):Nat×Int:=yYA code 4 (yYA code 20 p)
def paK(code:List UInt8)(p:Nat×Int):Nat:=(yYB code 4 (yYA code 20 p)).toNat
def paM(code:List UInt8)(p:Nat×Int):(Nat×Int)×Int×List ySf:=yZa code (paP code p) (yYB code 20 p) (paK code p)
def paR(code:List UInt8)(d:Int)(q:Nat×Int)(l:List ySf):(Nat×Int)×List ySf:=
 if d=0 then(yY1 code yaaG (yY1 code pfrL q),l++[⟨yYO code pfrL q,yYO code yaaG (yY1 code pfrL q)⟩])
 else if d=1 then yZN code (10-l.length) q l else(q,l)
def yYW(code:List UInt8)(p:Nat×Int):(Nat×Int)×List ySf:=paR code (yYB code 10 (paM code p).1) (yYA code 10 (paM code p).1) (paM code p).2.2
def yadP(code:List UInt8)(p:Nat×Int):(paK code p:Int)=yYB code 4 (yYA code 20 p)/\paK code p<=3:=by
 have h:=yYC (code:=code) (n:=4) (p:=yYA code 20 p) (by omega);unfold paK;omega
def yaeA{code:List UInt8}{p:Nat×Int}(h:p.1<=code.length):(paM code p).1.1<=code.length:=yabX (yYD (yYD h)) _
def yaey{code:List UInt8}{d:Int}{q:Nat×Int}{l:List ySf}(h:q.1<=code.length):(paR code d q l).1.1<=code.length:=by
 unfold paR;split
 .exact yYZ (yYZ h)
 .split
  .exact yack _ h
  .exact h
def yacS{code:List UInt8}{p:Nat×Int}(h:p.1<=code.length):(yYW code p).1.1<=code.length:=yaey (yYD (yaeA h))
def yact{code:List UInt8}{p:Nat×Int}:(yYW code p).2.length<=13:=by
 have h1:=(yadP code p).2;have h2:(paM code p).2.2.length=paK code p:=yabD _;unfold yYW paR;split
 .simp;omega
 .split
  .have:=yabU (code:=code) (10-(paM code p).2.2.length) (p:=yYA code 10 (paM code p).1) (l:=(paM code p).2.2);omega
  .simp only;omega
def yacL{code:List UInt8}{f:Nat}{p:Nat×Int}{l:List ySf}:yZN code (f+1) p l=if(l.length:Int)<8+yYB code 2 p then yZN code f (yYA code 2 p) (l++[⟨1000+10*l.length,1005+10*l.length⟩])else(yYA code 2 p,l):=rfl
def yadw{code:List UInt8}{p:Nat×Int}{t:Int}{k:Nat}:yZa code p t (k+1)=(yY1 code gapL (yYA code 20 (yZa code p t k).1),(yZa code p t k).2.1+(1+yYB code 20 (yZa code p t k).1)+yYO code gapL (yYA code 20 (yZa code p t k).1),(yZa code p t k).2.2++[⟨(yZa code p t k).2.1,(yZa code p t k).2.1+(1+yYB code 20 (yZa code p t k).1)⟩]):=rfl
def yacs(code:List UInt8)(p:Nat×Int)(hp:p.1<=code.length):yZW prg 128 (yYV code p) (yYV code (yYW code p).1) [] (.c (.ow 2 ((yYW code p).2.map ySf.enc))):=by
 have hK:=yadP code p;have hR:=yYC (code:=code) (n:=20) (p:=p) (by omega);have q0:(paP code p).1<=code.length:=yYD (yYD hp);have eD:yYW code p=paR code (yYB code 10 (yZa code (paP code p) (yYB code 20 p) (paK code p)).1) (yYA code 10 (yZa code (paP code p) (yYB code 20 p) (paK code p)).1) (yZa code (paP code p) (yYB code 20 p) (paK code p)).2.2:=rfl;refine yZP yaav (by simp) λhwf hwf2=>?_;rw[eD];refine goQ_ ?_;refine yYE (yYF code 20 p hp (by omega) (by omega)) (by simp) (by simp) rfl (by simp[fD]) (goQ_ ?_);refine yYE (yYF code 4 (yYA code 20 p) (yYD hp) (by omega) (by omega)) (by simp) (by simp) rfl (by simp[fD]) (goQ_ ?_);rw[<-hK.1];have hP:yYA code 4 (yYA code 20 p)=paP code p:=rfl;rw[hP];have hn3:=hK.2;clear hK eD hP;generalize paK code p=n at *;generalize paP code p=qq at *;generalize yYB code 20 p=t0 at *;refine yX2 (λj=>j<=n) (λj=>xC [(0,.box 0 0),(1000000,.box 0 0),(3,.own 7 2 j),(4,.c (.i (yZa code qq t0 j).2.1)),(5,.c (.i (n-j)))] [(0,.box ((yYV code (yZa code qq t0 j).1).map .c)),(7,.row 2 ((yZa code qq t0 j).2.2.map ySf.enc))]) (λj=>n-j) (by apply aB<;>simp[yZa]) ?_
 rintro j hj
 have hq:=yabX (t:=t0) q0 j;have hln:=yabD (code:=code) (p:=qq) (t:=t0) j;have hrg:=yacp (code:=code) (p:=qq) (t:=t0) (by omega) j;have hsuc:=yadw (code:=code) (p:=qq) (t:=t0) (k:=j);rcases zaq j n with hlt|hge
 .have hgt:(0<(n:Int)-(j:Int))=True:=eq_true (by omega);generalize yZa code qq t0 j=Q at *;obtain⟨q,t,l⟩:=Q;simp only at hq hln hrg hsuc|-;have hv:=yYC (code:=code) (n:=20) (p:=q) (by omega);have hg:=yadp (yY6 (code:=code) (l:=gapL) (p:=yYA code 20 q) (by simp[gapL]));have hpk:=yYM code gapL (yYA code 20 q) (yYD hq) (by simp[gapL]) (by simp[gapL]);have eg:gapL.map qC=[[.i 0],[.i 3],[.i 30]]:=rfl;refine yafw hgt ?_;refine⟨λ_=>?_,λh=>by omega⟩;refine yYE (yYF code 20 q hq (by omega) (by omega)) (by simp) (by simp) rfl (by simp[fD]) (goQ_ ?_);refine⟨by unfold inI;omega,by unfold inI;omega,by omega,by omega,by unfold inI;omega,?_⟩;refine yY5 (rows:=[[.i 0],[.i 3],[.i 30]]) (by simpa[eg]using hpk) (by simp) (by simp) rfl (goQ_ ?_);refine⟨by unfold inI;omega,by unfold inI;omega,j+1,hlt,by omega,?_⟩;apply aB<;>simp[hsuc]<;>omega
 .have hgt:(0<(n:Int)-(j:Int))=False:=eq_false (by omega);have:j=n:=by omega
  subst this;generalize yZa code qq t0 j=Q at *;obtain⟨q,t,l⟩:=Q;simp only at hq hln hrg hsuc|-;have hv:=yYC (code:=code) (n:=10) (p:=q) (by omega);have q1:(yYA code 10 q).1<=code.length:=yYD hq;refine yafw hgt ?_;refine yYE (yYF code 10 q hq (by omega) (by omega)) (by simp) (by simp) rfl (by simp[fD]) ?_;generalize yYB code 10 q=d at *;generalize yYA code 10 q=q' at *;refine goQ_ ?_;refine⟨λh0=>?_,λh0=>⟨λh1=>?_,λh1=>?_⟩⟩
  .have e:paR code d q' l=(yY1 code yaaG (yY1 code pfrL q'),l++[⟨yYO code pfrL q',yYO code yaaG (yY1 code pfrL q')⟩]):=if_pos h0;rw[e];have g1:=yYM code pfrL q' q1 (by simp[pfrL]) (by simp[pfrL]);have g2:=yYM code yaaG (yY1 code pfrL q') (yYZ q1) (by simp[yaaG]) (by simp[yaaG]);have e1:pfrL.map qC=[[.i (-1)],[.i 0],[.i 500],[.i 1000000]]:=rfl;have e2:yaaG.map qC=[[.i 0],[.i 500],[.i 600],[.i 1000000],[.i 1000001]]:=rfl;refine yY5 (rows:=[[.i (-1)],[.i 0],[.i 500],[.i 1000000]]) (by simpa[e1]using g1) (by simp) (by simp) rfl (goQ_ ?_);refine yY5 (rows:=[[.i 0],[.i 500],[.i 600],[.i 1000000],[.i 1000001]]) (by simpa[e2]using g2) (by simp) (by simp) rfl (goT_ ?_);refine⟨hln.symm,by omega,?_⟩;rw[List.take_of_length_le (by simp)]
  .have e:paR code d q' l=yZN code (10-l.length) q' l:=by unfold paR;rw[if_neg h0,if_pos h1]
   rw[e];have hf0:10-l.length+l.length=10:=by omega
   have hl9:l.length<=9:=by omega
   generalize hR:yZN code (10-l.length) q' l=R;refine qA (ι:=Nat×(Nat×Int)×List ySf) (λx=>x.2.1.1<=code.length/\x.2.2.length<=9/\x.1+x.2.2.length=10/\yZN code x.1 x.2.1 x.2.2=R) (λx=>xC [(0,.box 0 0),(1000000,.box 0 0),(3,.own 7 2 x.2.2.length)] [(0,.box ((yYV code x.2.1).map .c)),(7,.row 2 (x.2.2.map ySf.enc))]) (λx=>x.1) (10-l.length,q',l) ⟨q1,hl9,hf0,hR⟩ (by apply aB<;>simp[hln]) ?_
   rintro⟨f,p2,l2⟩ ⟨i1,i2,i3,i4⟩
   simp only at i1 i2 i3 i4;obtain⟨f,rfl⟩:∃f',f=f'+1:=⟨f-1,by omega⟩;rw[yacL]at i4;have hv2:=yYC (code:=code) (n:=2) (p:=p2) (by omega);refine goQ_ ?_;intro hm;refine yYE (yYF code 2 p2 i1 (by omega) (by omega)) (by simp) (by simp) rfl (by simp[fD]) (goQ_ ?_);refine⟨by unfold inI;omega,λhlt hm2=>?_,λhge=>?_⟩
   .rw[if_pos hlt]at i4;refine⟨by unfold inI;omega,by unfold inI;omega,λ_=>⟨by unfold inI;omega,by unfold inI;omega,by omega,f,(yYA code 2 p2).1,(yYA code 2 p2).2,l2++[⟨1000+10*l2.length,1005+10*l2.length⟩],⟨yYD i1,by simp;omega,by simp;omega,i4⟩,by omega,?_⟩⟩;apply aB<;>simp
   .rw[if_neg (by omega)]at i4;rw[<-i4];simp[jA]
  .have e:paR code d q' l=(q',l):=by unfold paR;rw[if_neg h0,if_neg h1]
   rw[e];simp[jA];rw[List.take_of_length_le (by simp;omega)]
def yacw(code:List UInt8)(p:Nat×Int)(hp:p.1<=code.length):yZW prg 128 (yYV code p) (yYV code (yYW code p).1) [] (.c (.sl 2 ((yYW code p).2.map ySf.enc))):=
 (yacs code p hp).share (by simp[AV.shr,AV.yoE]) (λl h=>by cases h)
def yaau(rs:List Reach)(ws:List Way)(wk:List yR8)(t:yRZ)(h1:ybv rs)(h2:yhE ws)(h3:ycw wk)(h4:t.small):
 qB prg 13 [.c (.sl 3 (rs.map Reach.enc)),.c (.sl 2 (ws.map Way.enc)),.c (.sl 22 (wk.map yR8.enc)),.agg (t.enc.map .c)] (.tup [.agg ((yYI rs ws wk t).1.enc.map .c),.c (.b (yYI rs ws wk t).2)]):=by
 have hr:=yabQ h1 h2 h3 h4;have hn:=yabP h1 h2 h3 h4;have hl1:=h1.1
 have hrep:∀n:Nat,yaq (List.replicate n [C.sl 3 []])=some (List.replicate n [C.sl 3 []]):=by
  intro n;induction n with
  |zero=>rfl
  |succ n ih=>rw[zbL];simp[yaq,ih,dO,C.shr]
 have hrm:(List.replicate rs.length ([]:List yR6)).map nD=List.replicate rs.length [C.sl 3 []]:=by rw[zdO];rfl
 have hco:=yWv (yZL rs ws wk t) hr;have hW:=yabW (yZL rs ws wk t) hr;have hV:=yc1 (yZU rs ws wk t) hn;have hwr:=yacC (yZL rs ws wk t);have he:(yZL rs ws wk t).enc=[.i 0,.sl 3 (rs.map Reach.enc),.sl 2 (ws.map Way.enc),.sl 22 (wk.map yR8.enc),.sl 1 (List.replicate rs.length [C.sl 3 []]),.sl 2 [],.sl 1 [],.i t.Base,.i t.ySe,.sl 1 (t.yR5.map qC),.sl 1 (t.yR7.map qC),.sl 5 [],.sl 4 [],.i 0,.i 0,.i 0]:=by simp[yZL,yRW.enc,hrm]
 have he2:(yZU rs ws wk t).enc=[.i 0,.sl 3 (rs.map Reach.enc),.sl 2 (ws.map Way.enc),.sl 22 (wk.map yR8.enc),.sl 1 (List.replicate rs.length [C.sl 3 []]),.sl 2 [],.sl 1 [],.i t.Base,.i t.ySe,.sl 1 (t.yR5.map qC),.sl 1 (t.yR7.map qC),.sl 5 [],.sl 4 [],.i (yYN (yZL rs ws wk t)),.i 0,.i 0]:=by simp[yZU,yRW.enc,hrm]
 have hse:(yZL rs ws wk t).yXO=[.i 0,.ow 3 (rs.map Reach.enc),.ow 2 (ws.map Way.enc),.ow 22 (wk.map yR8.enc),.ot 1 (List.replicate rs.length [C.ow 3 []]),.ow 2 [],.ow 1 [],.i t.Base,.i t.ySe,.ow 1 (t.yR5.map qC),.ow 1 (t.yR7.map qC),.ow 5 [],.ow 4 [],.i 0,.i 0,.i 0]:=by simp[yZL,yRW.yXO,em,zdO]
 have hrep2:∀n:Nat,yaq (List.replicate n [C.ow 3 []])=some (List.replicate n [C.sl 3 []]):=by
  intro n;induction n with
  |zero=>rfl
  |succ n ih=>rw[zbL,zbL];simp[yaq,ih,dO,C.shr]
 rw[he,hse]at hco;rw[he]at hW;rw[he2]at hV;have hN1:∀h:rC (yZU rs ws wk t)=true,wk.all yY0=true->yYI rs ws wk t=(yZU rs ws wk t,true):=λh h'=>by simp[yYI,h,h']
 have hN2:rC (yZU rs ws wk t)=false->yYI rs ws wk t=(yZG,false):=λh=>yaef h;have hN3:wk.all yY0=false->yYI rs ws wk t=(yZG,false):=λh=>yaes h;have he3:(yZU rs ws wk t).enc.map AV.c=_:=congrArg (List.map AV.c) he2;generalize yYN (yZL rs ws wk t)=z at *;generalize yYI rs ws wk t=R at *;generalize yZU rs ws wk t=y at *;generalize hok:rC y=ok at *;refine dB yZ5 (goQ_ ?_);intro hlen;refine⟨by omega,yoL ?_⟩;refine goQ_ ?_;refine yadt [18] hco (by simp -dsimp -implicitDefEqProofs [hrep,List.take_replicate]) rfl (by simp[fD]) (goQ_ ?_);refine mD (hW) (by simp -dsimp -implicitDefEqProofs [jA,hrep2,List.take_replicate]) rfl (goQ_ ?_);refine yX4 (λk=>k<=wk.length/\∀w∈wk.take k,yY0 w=true) (λk=>xC [(0,.c (.sl 3 (rs.map Reach.enc))),(1,.c (.sl 2 (ws.map Way.enc))),(2,.c (.sl 22 (wk.map yR8.enc))),(8,.box 8 0),(9,.c (.b false)),(10,.box 10 0),(11,.c (.i k))] [(8,zW),(10,.box [.c (.i 0),.own 20021 3 rs.length,.own 30021 2 ws.length,.own 40021 22 wk.length,.own 50021 1 rs.length,.own 60021 2 0,.own 70021 1 0,.c (.i t.Base),.c (.i t.ySe),.own 100021 1 t.yR5.length,.own 110021 1 t.yR7.length,.own 120021 5 0,.own 130021 4 0,.c (.i z),.c (.i 0),.c (.i 0)]),(20021,.row 3 (rs.map Reach.enc)),(30021,.row 2 (ws.map Way.enc)),(40021,.row 22 (wk.map yR8.enc)),(50021,.tr 1 0 (List.replicate rs.length [C.ow 3 []])),(60021,.row 2 []),(70021,.row 1 []),(100021,.row 1 (t.yR5.map qC)),(110021,.row 1 (t.yR7.map qC)),(120021,.row 5 []),(130021,.row 4 [])]) (λk=>wk.length-k) ?_
 rintro k ⟨hk,hall⟩
 rcases yX1 k wk with⟨klt,w,hw⟩|kge
 .have g1:=(zaa.1 hw).2;refine yaeV hw g1 klt (fC klt) ?_;intro hlen2;have bad:yY0 w=false->R=(yZG,false):=λh=>hN3 (all_false (p:=yY0) hw h)
  have badL:0<w.yR0.yRY.length->R=(yZG,false):=by
   intro h;have h2:¬w.yR0.yRY.length=0:=by omega
   exact bad (by simp only[yY0,decide_eq_false h2,zbs])
  have badC:0<w.Calls.length->R=(yZG,false):=by
   intro h;have h2:¬w.Calls.length=0:=by omega
   exact bad (by simp only[yY0,decide_eq_false h2,zba])
  refineλhlen3=>⟨λhi hlen4=>⟨λhc=>?_,λhc=>?_⟩,λhi=>?_⟩
  .rw[badC hc];simp[yZG]
  .have hok:yY0 w=true:=by
    have h1:w.yR0.yRY.length=0:=by rw[hi];rfl
    have h3:w.Calls.length=0:=by rw[hc];rfl
    simp[yY0,h1,h3]
   have hall':=lD (p:=yY0) hw hall hok;refine⟨gB klt hlen2,k+1,⟨klt,hall'⟩,by omega,?_⟩;apply aB<;>simp
  .rw[badL hi];simp[yZG]
 have hall2:wk.all yY0=true:=dF (p:=yY0) kge hall;refine yafw (aG kge) ?_;intro _;refine mD (hV) (by simp -dsimp -implicitDefEqProofs [jA,hrep2,List.take_replicate]) rfl ?_;cases ok with
 |false=>
  rw[hN2 rfl];refine goQ_ ?_;simp[yZG]
 |true=>
  rw[hN1 rfl hall2];refine goQ_ ?_;simp only[yRW.enc,List.cons.injEq,C.i.injEq,C.sl.injEq,true_and,and_true]at he2;obtain⟨e0,e1,e2,e3,e4,e5,e6,e7,e8,e9,e10,e11,e12,e13,e14,e15⟩:=he2;simp only[List.map_eq_nil_iff]at e5 e6 e11 e12;simp only[e0,e1,e2,e3,e4,e5,e6,e7,e8,e9,e10,e11,e12,e13,e14,e15,hrep2,jA,outR];simp
def yYY(t:List ySc)(level:Int)(delay:Int):Reach×Bool:=
 if inRange delay 0 12 then(if xE ⟨t,fH t level,List.replicate delay.toNat 0⟩then(⟨t,fH t level,List.replicate delay.toNat 0⟩,true)else(⟨[],0,[]⟩,false))else(⟨[],0,[]⟩,false)
def yacP(t:List ySc)(level delay:Int)(hl:t.length<=1048576):nI prg 11 [.c (.sl 2 (t.map ySc.enc)),.c (.i level),.c (.i delay)] (.tup [.agg ((yYY t level delay).1.iD.map .c),.c (.b (yYY t level delay).2)]):=by
 refine fF yaaO (goQ_ ?_);refine aA (bC delay 0 12) (goQ_ ?_);cases h1:inRange delay 0 12 with
 |false=>
  refine goQ_ ?_;have e:yYY t level delay=(⟨[],0,[]⟩,false):=by simp[yYY,h1]
  rw[e];refine ycx ?_;simp
 | true=>
  have h2:=aC.1 h1;refine goQ_ ?_;refine⟨by omega,?_⟩;refine ypC (yxU t level) (goQ_ ?_);refine⟨h2.1,by omega,?_⟩;refine mD (qN ⟨t,fH t level,List.replicate delay.toNat 0⟩) (by simp[jA,qC]) rfl ?_;have e:yYY t level delay=if xE ⟨t,fH t level,List.replicate delay.toNat 0⟩then(⟨t,fH t level,List.replicate delay.toNat 0⟩,true)else(⟨[],0,[]⟩,false):=by simp[yYY,h1]
  rw[e];cases hr:xE ⟨t,fH t level,List.replicate delay.toNat 0⟩with
  |false=>
   refine goQ_ ?_;refine ycx ?_;simp
  |true=>
   refine goQ_ ?_;refine ycx ?_;simp[jA,qC]
def yacA{k:Nat}{xs:List X}{s:St}:wOf (.bsl k xs) s=(xs.map s.ev).flatMap AV.ids:=rfl
def yZt:List Int:=[1,2,3,7,0]
def yYX(code:List UInt8)(p:Nat×Int):Nat->(Nat×Int)×List Int
 |0=>(p,[])
 |k+1=>(yY1 code yZt (yYX code p k).1,(yYX code p k).2++[yYO code yZt (yYX code p k).1])
def yabv{code:List UInt8}{p:Nat×Int}(h:p.1<=code.length):∀k:Nat,(yYX code p k).1.1<=code.length
 |0=>h
 |k+1=>yYZ (yabv h k)
def yaaF{code:List UInt8}{p:Nat×Int}:∀k:Nat,(yYX code p k).2.length=k
 |0=>rfl
 |k+1=>by simp[yYX,yaaF (code:=code) (p:=p) k]
def yaaD{code:List UInt8}{p:Nat×Int}:∀k:Nat,∀w∈(yYX code p k).2,0<=w/\w<=7
 |0,w,h=>by simp[yYX]at h
 | k+1,w,h=>by
  simp only[yYX]at h;rcases zaj.1 h with h|h
  .exact yaaD k w h
  .rw[zan]at h;have h1:=yY6 (code:=code) (l:=yZt) (p:=(yYX code p k).1) (by simp[yZt]);rw[<-h]at h1;revert h1;generalize w=v;intro h1;simp[yZt]at h1;omega
def yaaf(code:List UInt8)(p:Nat×Int):Nat×Int:=yYA code 50 p
def yaaj(code:List UInt8)(p:Nat×Int):Nat×Int:=yYA code 20 (yaaf code p)
def yaal(code:List UInt8)(p:Nat×Int):Nat×Int:=yYA code 9 (yaaj code p)
def yZe(code:List UInt8)(p:Nat×Int):Nat×Int:=yYA code 30 (yaal code p)
def tarK(code:List UInt8)(p:Nat×Int):Nat:=(1+yYB code 4 (yZe code p)).toNat
def tarN(code:List UInt8)(p:Nat×Int):Nat×Int:=(yYX code (yYA code 4 (yZe code p)) (tarK code p)).1
def yabg:List Int->List Int
 |[]=>[]
 |w::l=>(w+1)::l
def yZj(code:List UInt8)(p:Nat×Int):yRZ:=
 ⟨yYB code 50 p,yYB code 20 (yaaf code p),[yYB code 9 (yaaj code p),yYB code 30 (yaal code p),0],yabg (yYX code (yYA code 4 (yZe code p)) (tarK code p)).2⟩
def yade(code:List UInt8)(p:Nat×Int):(tarK code p:Int)=1+yYB code 4 (yZe code p)/\1<=tarK code p/\tarK code p<=4:=by
 have h:=yYC (code:=code) (n:=4) (p:=yZe code p) (by omega);unfold tarK;omega
def yacE(code:List UInt8)(p:Nat×Int)(hp:p.1<=code.length):yZW prg 130 (yYV code p) (yYV code (tarN code p)) [] (.agg [.c (.i (yZj code p).Base),.c (.i (yZj code p).ySe),.c (.ow 1 ((yZj code p).yR5.map qC)),.c (.ow 1 ((yZj code p).yR7.map qC))]):=by
 have q1:(yaaf code p).1<=code.length:=yYD hp;have q2:(yaaj code p).1<=code.length:=yYD q1;have q3:(yaal code p).1<=code.length:=yYD q2;have q4:(yZe code p).1<=code.length:=yYD q3;have hK:=yade code p;refine yZP yaaq (by simp) λhwf hwf2=>?_;refine goQ_ ?_;refine yYE (yYF code 50 p hp (by omega) (by omega)) (by simp) (by simp) rfl (by simp[fD]) (goQ_ ?_);refine yYE (yYF code 20 (yaaf code p) q1 (by omega) (by omega)) (by simp[yaaf]) (by simp) rfl (by simp[fD]) (goQ_ ?_);refine yYE (yYF code 9 (yaaj code p) q2 (by omega) (by omega)) (by simp[yaaj]) (by simp) rfl (by simp[fD]) (goQ_ ?_);refine yYE (yYF code 30 (yaal code p) q3 (by omega) (by omega)) (by simp[yaal]) (by simp) rfl (by simp[fD]) (goQ_ ?_);refine yYE (yYF code 4 (yZe code p) q4 (by omega) (by omega)) (by simp[yZe]) (by simp) rfl (by simp[fD]) (goQ_ ?_);have h4:=yYC (code:=code) (n:=4) (p:=yZe code p) (by omega);refine⟨by unfold inI;omega,?_⟩;rw[<-hK.1];have q5:(yYA code 4 (yZe code p)).1<=code.length:=yYD q4;have eN:tarN code p=(yYX code (yYA code 4 (yZe code p)) (tarK code p)).1:=rfl;have eW:(yZj code p).yR7=yabg (yYX code (yYA code 4 (yZe code p)) (tarK code p)).2:=rfl;have eB:(yZj code p).Base=yYB code 50 p:=rfl;have eA:(yZj code p).ySe=yYB code 20 (yaaf code p):=rfl;have eC:(yZj code p).yR5=[yYB code 9 (yaaj code p),yYB code 30 (yaal code p),0]:=rfl;rw[eN,eW,eB,eA,eC];generalize tarK code p=n at *;generalize yYA code 4 (yZe code p)=q0 at *;generalize yYB code 50 p=vb at *;generalize yYB code 20 (yaaf code p)=va at *;generalize yYB code 9 (yaaj code p)=c0 at *;generalize yYB code 30 (yaal code p)=c1 at *
 refine qA (ι:=Nat) (λk=>k<=n) (λk=>if k=0 then xC [(0,.box 0 0),(1000000,.box 0 0),(2,.box 2 0),(3,.box 3 0),(4,.c (.i n))] [(0,.box ((yYV code q0).map .c)),(2,.box [.c (.i 0),.c (.i 0),.nil 1,.nil 1]),(3,.box [.c (.i vb),.c (.i va),.own 13 1 3,.nil 1]),(13,.row 1 [[.i c0],[.i c1],[.i 0]])]
  else xC [(0,.box 0 0),(1000000,.box 0 0),(2,.box 2 0),(3,.box 3 0),(4,.c (.i (n-k)))] [(0,.box ((yYV code (yYX code q0 k).1).map .c)),(2,.box [.c (.i 0),.c (.i 0),.nil 1,.nil 1]),(3,.box [.c (.i vb),.c (.i va),.own 13 1 3,.own 28 1 k]),(13,.row 1 [[.i c0],[.i c1],[.i 0]]),(28,.row 1 ((yYX code q0 k).2.map qC))]) (λk=>n-k) 0 (by simp) (by rw[if_pos rfl];apply aB<;>simp) ?_
 rintro k hk
 have e4:yZt.map qC=[[.i 1],[.i 2],[.i 3],[.i 7],[.i 0]]:=rfl;rcases zau k with e|hk0
 .subst e;rw[if_pos rfl];have hn0:((0:Int)<(n:Int))=True:=by simp;omega
  have hn0':(0<n)=True:=by simp;omega
  have hpk:=yYM code yZt q0 q5 (by simp[yZt]) (by simp[yZt]);have hs1:yYX code q0 1=(yY1 code yZt q0,[yYO code yZt q0]):=by simp[yYX]
  refine yaed hn0 hn0' ?_;have hg:CurG prg 127 (yYV code q0) (yYV code (yY1 code yZt q0)) 1 ([[C.i 1],[C.i 2],[C.i 3],[C.i 7],[C.i 0]].take 5) (.c (.i (yYO code yZt q0))):=hpk;refine yaaz (id:=0) (id1:=25) hg (by simp) (by simp) (by simp) (by simp) rfl ?_;simp -dsimp -implicitDefEqProofs [yacA];refine⟨by unfold inI;omega,1,by omega,by omega,?_⟩;rw[if_neg (by omega)];apply aB<;>simp[hs1,qC]
 .have hne:(k=0)=False:=by simp;omega
  simp only[hne,if_false];have hq:=yabv (p:=q0) q5 k;have hln:=yaaF (code:=code) (p:=q0) k;have hsuc:yYX code q0 (k+1)=(yY1 code yZt (yYX code q0 k).1,(yYX code q0 k).2++[yYO code yZt (yYX code q0 k).1]):=rfl;rcases zaq k n with hlt|hge
  .have hgt:(0<(n:Int)-(k:Int))=True:=by simp;omega
   generalize yYX code q0 k=Q at *;obtain⟨q,ws⟩:=Q;simp only at hq hln hsuc|-;have hpk:=yYM code yZt q hq (by simp[yZt]) (by simp[yZt]);have hg:CurG prg 127 (yYV code q) (yYV code (yY1 code yZt q)) 1 ([[C.i 1],[C.i 2],[C.i 3],[C.i 7],[C.i 0]].take 5) (.c (.i (yYO code yZt q))):=hpk;refine yafw hgt ?_;refine⟨λ_=>?_,λh=>by omega⟩;refine yaaz (id:=0) (id1:=25) hg (by simp) (by simp) (by simp) (by simp) rfl ?_;simp -dsimp -implicitDefEqProofs [hln,yacA];refine⟨by omega,by unfold inI;omega,k+1,hlt,by omega,?_⟩;rw[if_neg (by omega)];apply aB<;>simp[hsuc,qC]
   try omega
  .have hgt:(0<(n:Int)-(k:Int))=False:=by simp;omega
   have:k=n:=by omega
   subst this
   obtain⟨w0,wl,hws⟩:∃w0 wl,(yYX code q0 k).2=w0::wl:=by
    cases h:(yYX code q0 k).2 with
    |nil=>exfalso;rw[h]at hln;simp only[zbr]at hln;omega
    |cons a l=>exact⟨a,l,rfl⟩
   have hw7:=yaaD (code:=code) (p:=q0) k w0 (by rw[hws];simp);rw[hws];simp -dsimp -implicitDefEqProofs [hgt,yabg];rw[hws]at hln;refine⟨hk0,by unfold inI;omega,hk0,?_⟩;rw[List.take_of_length_le (by simpa using Nat.le_of_eq hln)]
def yadX:∀(l:List Int),(∀x∈l,0<=x)->0<=l.sum
 |[],_=>by simp
 |a::l,h=>by
  have h1:=h a (by simp);have h2:=yadX l λx hx=>h x (by simp[hx]);rw[zcm];omega
def yadf(code:List UInt8)(p:Nat×Int):nH (yZj code p)=true/\(yZj code p).small/\(yZj code p).yR7.length<=4:=by
 have hK:=yade code p;have h1:=yYC (code:=code) (n:=50) (p:=p) (by omega);have h2:=yYC (code:=code) (n:=20) (p:=yaaf code p) (by omega);have h3:=yYC (code:=code) (n:=9) (p:=yaaj code p) (by omega);have h4:=yYC (code:=code) (n:=30) (p:=yaal code p) (by omega);have hl:=yaaF (code:=code) (p:=yYA code 4 (yZe code p)) (tarK code p);have hr:=yaaD (code:=code) (p:=yYA code 4 (yZe code p)) (tarK code p)
 have hw:∃w0 wl,(yZj code p).yR7=w0::wl/\(∀w∈w0::wl,0<=w/\w<=8)/\1<=w0/\wl.length<=3:=by
  show∃w0 wl,yabg (yYX code (yYA code 4 (yZe code p)) (tarK code p)).2=w0::wl/\_
  generalize(yYX code (yYA code 4 (yZe code p)) (tarK code p)).2=l at *;cases l with
  |nil=>simp at hl;omega
  |cons a l=>
   refine⟨a+1,l,rfl,λw hw=>?_,by have:=hr a (by simp);omega,by simp at hl;omega⟩;rcases zaC.1 hw with e|e
   .have:=hr a (by simp);omega
   .have:=hr w (by simp[e]);omega
 obtain⟨w0,wl,e,hw,hw0,hwl⟩:=hw
 have hsum:0<=wl.sum:=by
  have:=yadX wl λx hx=>(hw x (by simp[hx])).1;omega
 have ec:(yZj code p).yR5=[yYB code 9 (yaaj code p),yYB code 30 (yaal code p),0]:=rfl;refine⟨?_,⟨?_,?_⟩,?_⟩
 .have a1:inRange (yZj code p).Base 0 10000=true:=aC.2 ⟨h1.1,by have:=h1.2;show yYB code 50 p<=_;omega⟩;have a2:inRange (yZj code p).ySe 0 100=true:=aC.2 ⟨h2.1,by have:=h2.2;show yYB code 20 (yaaf code p)<=_;omega⟩
  have a3:(yZj code p).yR5.all (λn=>inRange n 0 10000)=true:=by
   rw[ec,zae];intro x hx;simp only[zaC,zaO,or_false]at hx;rcases hx with rfl|rfl|rfl
   .exact aC.2 ⟨h3.1,by omega⟩
   .exact aC.2 ⟨h4.1,by omega⟩
   .decide
  have a4:(yZj code p).yR7.all (λn=>inRange n 0 1000)=true:=by
   rw[e,zae]
   exactλx hx=>aC.2 ⟨(hw x hx).1,by have:=(hw x hx).2;omega⟩
  have a5:inRange (yZj code p).yR7.length 1 11=true:=by rw[e,zaA];exact aC.2 ⟨by omega,by omega⟩
  have a6:(yZj code p).yR5.length=3:=by rw[ec];rfl
  have a7:0<(yZj code p).yR7.sum:=by rw[e,zcm];omega
  simp only[nH,a1,a2,a3,a4,a5,a6,a7,decide_true,zds]
 .rw[ec];simp
 .rw[e];simp;omega
 .rw[e];simp;omega
def wayL:List Int:=[8,20,40]
def chlL:List Int:=[60,120]
def chwL:List Int:=[10,16]
def yZC:List Int:=[60,300,2000]
def watL:List Int:=[10,30,70]
def rcP1(code:List UInt8)(p:Nat×Int):Nat×Int:=yYA code 9 p
def rcP2(code:List UInt8)(p:Nat×Int):Nat×Int:=yYA code 30 (rcP1 code p)
def rcP3(code:List UInt8)(p:Nat×Int):Nat×Int:=yYA code 3 (rcP2 code p)
def yZZ(code:List UInt8)(p:Nat×Int):Nat×Int:=yY1 code wayL (rcP3 code p)
def wkP1(code:List UInt8)(p:Nat×Int):Nat×Int:=yY1 code chlL (yZZ code p)
def wkP2(code:List UInt8)(p:Nat×Int):Nat×Int:=yY1 code chwL (wkP1 code p)
def wkP3(code:List UInt8)(p:Nat×Int):Nat×Int:=yYA code 8 (wkP2 code p)
def wkP4(code:List UInt8)(p:Nat×Int):Nat×Int:=yY1 code yZC (wkP3 code p)
def wkP5(code:List UInt8)(p:Nat×Int):Nat×Int:=yYA code 2 (wkP4 code p)
def wkP6(code:List UInt8)(p:Nat×Int):Nat×Int:=yY1 code watL (wkP5 code p)
def wkP7(code:List UInt8)(p:Nat×Int):Nat×Int:=yYA code 9 (wkP6 code p)
def wkP8(code:List UInt8)(p:Nat×Int):Nat×Int:=yYA code 5 (wkP7 code p)
def yZ2(code:List UInt8)(p:Nat×Int):Nat×Int:=yYA code 20 (wkP8 code p)
def wkN(code:List UInt8)(p:Nat×Int):Nat×Int:=(yYW code (yZ2 code p)).1
def yadj{code:List UInt8}{p:Nat×Int}(h:p.1<=code.length):(rcP1 code p).1<=code.length:=yYD h
def yadl{code:List UInt8}{p:Nat×Int}(h:p.1<=code.length):(rcP2 code p).1<=code.length:=yYD (yadj h)
def yadi{code:List UInt8}{p:Nat×Int}(h:p.1<=code.length):(rcP3 code p).1<=code.length:=yYD (yadl h)
def yabc{code:List UInt8}{p:Nat×Int}(h:p.1<=code.length):(yZZ code p).1<=code.length:=yYZ (yadi h)
def yado{code:List UInt8}{p:Nat×Int}(h:p.1<=code.length):(wkP1 code p).1<=code.length:=yYZ (yabc h)
def yacY{code:List UInt8}{p:Nat×Int}(h:p.1<=code.length):(wkP2 code p).1<=code.length:=yYZ (yado h)
def yadc{code:List UInt8}{p:Nat×Int}(h:p.1<=code.length):(wkP3 code p).1<=code.length:=yYD (yacY h)
def yadn{code:List UInt8}{p:Nat×Int}(h:p.1<=code.length):(wkP4 code p).1<=code.length:=yYZ (yadc h)
def yada{code:List UInt8}{p:Nat×Int}(h:p.1<=code.length):(wkP5 code p).1<=code.length:=yYD (yadn h)
def yadh{code:List UInt8}{p:Nat×Int}(h:p.1<=code.length):(wkP6 code p).1<=code.length:=yYZ (yada h)
def yadm{code:List UInt8}{p:Nat×Int}(h:p.1<=code.length):(wkP7 code p).1<=code.length:=yYD (yadh h)
def yadk{code:List UInt8}{p:Nat×Int}(h:p.1<=code.length):(wkP8 code p).1<=code.length:=yYD (yadm h)
def yadb{code:List UInt8}{p:Nat×Int}(h:p.1<=code.length):(yZ2 code p).1<=code.length:=yYD (yadk h)
def yaet{code:List UInt8}{p:Nat×Int}(h:p.1<=code.length):(wkN code p).1<=code.length:=yacS (yadb h)
def yZb(bed y:Int):List ySc:=[⟨bed,0⟩,⟨bed+60,y⟩,⟨bed+90,20000⟩]
def yZz(code:List UInt8)(bed:Int)(p:Nat×Int):Reach:=(yYY (yZb bed (6000+600*yYB code 9 p)) (bed+25+yYB code 30 (rcP1 code p)) (yYB code 3 (rcP2 code p))).1
def wayV(code:List UInt8)(bed:Int)(p:Nat×Int):Way:=⟨yYO code wayL (rcP3 code p),bed⟩
def yZw(code:List UInt8)(p:Nat×Int):List ySf:=if xO (yYW code p).2 then(yYW code p).2 else[]
def yaby(code:List UInt8)(bed:Int)(p:Nat×Int):yR0:=⟨yYO code chlL (yZZ code p),yYO code chwL (wkP1 code p),bed,bed-40,bed-40,1+yYB code 8 (wkP2 code p),yYO code yZC (wkP3 code p),(1+yYB code 8 (wkP2 code p))*yYO code watL (wkP5 code p),0,[]⟩
def yacD(code:List UInt8)(bed:Int)(p:Nat×Int):ySp:=⟨2,yYB code 9 (wkP6 code p),1+yYB code 5 (wkP7 code p),bed+10,1+yYB code 20 (wkP8 code p)⟩
def yZf(code:List UInt8)(bed:Int)(p:Nat×Int):yR8:=⟨yaby code bed p,yacD code bed p,⟨bed+20,bed+45,bed+70⟩,yZw code (yZ2 code p),⟨false,0⟩,[]⟩
structure yadQ where
 p:Nat×Int
 R:List Reach
 W:List Way
 K:List yR8
def yYH(code:List UInt8)(n:Nat)(p:Nat×Int):Nat->yadQ
 |0=>⟨p,[],[],[]⟩
 |k+1=>
  let q:=yYH code n p k
  if k+1=n then⟨yZZ code q.p,q.R++[yZz code (40*(n-k:Int)) q.p],q.W++[wayV code (40*(n-k:Int)) q.p],q.K⟩
  else⟨wkN code q.p,q.R++[yZz code (40*(n-k:Int)) q.p],q.W++[wayV code (40*(n-k:Int)) q.p],q.K++[yZf code (40*(n-k:Int)) q.p]⟩
def yabo{code:List UInt8}{n:Nat}{p:Nat×Int}(h:p.1<=code.length):∀k:Nat,(yYH code n p k).p.1<=code.length
 |0=>h
 |k+1=>by
  have ih:=yabo (n:=n) h k;unfold yYH;simp only;split
  .exact yabc ih
  .exact yaet ih
def yabN{code:List UInt8}{n:Nat}{p:Nat×Int}:∀k:Nat,k<=n->(yYH code n p k).R.length=k/\(yYH code n p k).W.length=k/\(k<n->(yYH code n p k).K.length=k)/\(k=n->(yYH code n p k).K.length=n-1)
 |0,_=>by simp[yYH];omega
 |k+1,hk=>by
  have ih:=yabN (code:=code) (n:=n) (p:=p) k (by omega);unfold yYH;simp only;split
  .simp only[zah,zaA,zbr];omega
  .simp only[zah,zaA,zbr];omega
def yZF(code:List UInt8)(p:Nat×Int):Nat:=(2+yYB code 3 p).toNat
def yabY(code:List UInt8)(p:Nat×Int):(yZF code p:Int)=2+yYB code 3 p/\2<=yZF code p/\yZF code p<=4:=by
 have h:=yYC (code:=code) (n:=3) (p:=p) (by omega);unfold yZF;omega
def yZs(code:List UInt8)(p:Nat×Int):yadQ:=yYH code (yZF code p) (yYA code 3 p) (yZF code p)
def yaei{code:List UInt8}{p:Nat×Int}(h:p.1<=code.length):(yZs code p).p.1<=code.length:=yabo (yYD h) _
def newV(code:List UInt8)(p:Nat×Int):yRW:=(yYI (yZs code p).R (yZs code p).W (yZs code p).K (yZj code (yZs code p).p)).1
def newN(code:List UInt8)(p:Nat×Int):Nat×Int:=tarN code (yZs code p).p
def yadA{bed y:Int}(hb:0<=bed/\bed<=1000)(hy:0<=y/\y<=20000):sH (yZb bed y)=true:=by
 simp[sH,upTo,yhG,yZb,yd3,follows,inRange];omega
def yaeq(n:Nat):(List.replicate n (0:Int)).sum=0/\∀x∈List.replicate n (0:Int),amount x=true:=by
 refine⟨?_,λx hx=>by rw[(zcE.1 hx).2];decide⟩
 induction n with
 |zero=>rfl
 |succ n ih=>rw[zbL,zcm,ih];rfl
def yadr{code:List UInt8}{bed:Int}{p:Nat×Int}(hb:0<=bed/\bed<=1000):∃(t:List ySc) (v:Int) (d:Nat),yZz code bed p=⟨t,v,List.replicate d 0⟩/\t.length=3/\0<=v/\v<=20000/\d<=2/\xE ⟨t,v,List.replicate d 0⟩=true:=by
 have h1:=yYC (code:=code) (n:=9) (p:=p) (by omega);have h2:=yYC (code:=code) (n:=30) (p:=rcP1 code p) (by omega);have h3:=yYC (code:=code) (n:=3) (p:=rcP2 code p) (by omega);unfold yZz yYY;generalize yYB code 9 p=a at *;generalize yYB code 30 (rcP1 code p)=b at *;generalize yYB code 3 (rcP2 code p)=c at *;have hT:=yadA (bed:=bed) (y:=6000+600*a) hb (by omega);have p0:fO (yZb bed (6000+600*a)) 0=⟨bed,0⟩:=rfl;have p2:fO (yZb bed (6000+600*a)) ((yZb bed (6000+600*a)).length-1)=⟨bed+90,20000⟩:=rfl;have v0:=yho hT (x:=bed) (by rw[p0];exact zbC _);have v1:=yg4 hT (x:=bed+90) (by rw[p2];exact zbC _);have m0:=yo0 hT (x:=bed) (y:=bed+25+b) (by omega);have m1:=yo0 hT (x:=bed+25+b) (y:=bed+90) (by omega);rw[v0,p0]at m0;rw[v1,p2]at m1;simp only at m0 m1;have hin:inRange c 0 12=true:=aC.2 ⟨by omega,by omega⟩
 have hok:xE ⟨yZb bed (6000+600*a),fH (yZb bed (6000+600*a)) (bed+25+b),List.replicate c.toNat 0⟩=true:=by
  obtain⟨z1,z2⟩:=yaeq c.toNat;simp only[xE,sZ,hT,z1,zad,decide_eq_true_eq,zae,zbq,zbN];exact⟨⟨⟨aC.2 ⟨by omega,by omega⟩,by omega⟩,z2⟩,by omega⟩
 rw[if_pos hin,if_pos hok];exact⟨_,_,_,rfl,rfl,by omega,by omega,by omega,hok⟩
def yaep{code:List UInt8}{p:Nat×Int}:let x:=yYO code wayL p;x=8\/x=20\/x=40:=by
 have:=yY6 (code:=code) (l:=wayL) (p:=p) (by simp[wayL]);simpa[wayL]using this
def yaez{code:List UInt8}{p:Nat×Int}:let x:=yYO code chlL p;x=60\/x=120:=by
 have:=yY6 (code:=code) (l:=chlL) (p:=p) (by simp[chlL]);simpa[chlL]using this
def yaeC{code:List UInt8}{p:Nat×Int}:let x:=yYO code chwL p;x=10\/x=16:=by
 have:=yY6 (code:=code) (l:=chwL) (p:=p) (by simp[chwL]);simpa[chwL]using this
def yaeD{code:List UInt8}{p:Nat×Int}:let x:=yYO code yZC p;x=60\/x=300\/x=2000:=by
 have:=yY6 (code:=code) (l:=yZC) (p:=p) (by simp[yZC]);simpa[yZC]using this
def yadY{code:List UInt8}{p:Nat×Int}:let x:=yYO code watL p;x=10\/x=30\/x=70:=by
 have:=yY6 (code:=code) (l:=watL) (p:=p) (by simp[watL]);simpa[watL]using this
def yabT{a w:Int}(h:1<=a/\a<=8)(hw:w=10\/w=30\/w=70):0<=a*w/\a*w<=560:=by
 rcases hw with rfl|rfl|rfl<;>omega
def yaeh{code:List UInt8}{bed:Int}{p:Nat×Int}(hb:0<=bed/\bed<=1000):ykM (wayV code bed p)=true:=by
 have h:=yaep (code:=code) (p:=rcP3 code p);simp only[ykM,wayV,zad];exact⟨aC.2 ⟨by omega,by omega⟩,aC.2 ⟨by omega,by omega⟩⟩
def yacg:Distinct []=true:=by decide
def yadE{code:List UInt8}{bed:Int}{p:Nat×Int}(hb:40<=bed/\bed<=1000):fJ (yZf code bed p)=true/\yY0 (yZf code bed p)=true/\(0<=yYT (yZf code bed p)/\yYT (yZf code bed p)<=560)/\(yZf code bed p).Calls=[]/\(yZf code bed p).yR0.yRY=[]/\(yZf code bed p).small/\(yZf code bed p).yR0.Gate=0:=by
 have e1:=yaez (code:=code) (p:=yZZ code p);have e2:=yaeC (code:=code) (p:=wkP1 code p);have e3:=yYC (code:=code) (n:=8) (p:=wkP2 code p) (by omega);have e4:=yaeD (code:=code) (p:=wkP3 code p);have e5:=yadY (code:=code) (p:=wkP5 code p);have e6:=yYC (code:=code) (n:=9) (p:=wkP6 code p) (by omega);have e7:=yYC (code:=code) (n:=5) (p:=wkP7 code p) (by omega);have e8:=yYC (code:=code) (n:=20) (p:=wkP8 code p) (by omega);have hw:=yabT (a:=1+yYB code 8 (wkP2 code p)) (by omega) e5
 have hl:lF (yaby code bed p)=true:=by
  simp only[lF,yaby,yacg,zda,zad];exact⟨⟨⟨⟨⟨⟨⟨⟨aC.2 ⟨by omega,by omega⟩,aC.2 ⟨by omega,by omega⟩⟩,aC.2 ⟨by omega,by omega⟩⟩,aC.2 ⟨by omega,by omega⟩⟩,aC.2 ⟨by omega,by omega⟩⟩,aC.2 ⟨by omega,by omega⟩⟩,aC.2 ⟨by omega,by omega⟩⟩,aC.2 ⟨by omega,by omega⟩⟩,by decide⟩
 have hv:iZ (yacD code bed p)=true:=by
  simp only[iZ,yacD,zad];exact⟨⟨⟨⟨by decide,aC.2 ⟨by omega,by omega⟩⟩,aC.2 ⟨by omega,by omega⟩⟩,aC.2 ⟨by omega,by omega⟩⟩,aC.2 ⟨by omega,by omega⟩⟩
 have hr:ya3 ⟨bed+20,bed+45,bed+70⟩=true:=by
  simp only[ya3,zad,decide_eq_true_eq];exact⟨⟨⟨⟨aC.2 ⟨by omega,by omega⟩,aC.2 ⟨by omega,by omega⟩⟩,aC.2 ⟨by omega,by omega⟩⟩,by omega⟩,by omega⟩
 have hp:xO (yZw code (yZ2 code p))=true/\(yZw code (yZ2 code p)).length<=13:=by
  unfold yZw;split
  .rename_i h;exact⟨h,yact⟩
  .exact⟨by decide,by simp⟩
 refine⟨?_,rfl,hw,rfl,rfl,?_,rfl⟩
 .have ht:ybY ⟨false,0⟩=true:=by decide
  simp only[fJ,yZf,hl,hv,hr,hp.1,ht,zbr,zdX];rfl
 .exact⟨⟨by simp[yZf,yaby],λx hx=>by simp[yZf,yaby]at hx⟩,⟨by have:=hp.2;show(yZw code (yZ2 code p)).length<=_;omega,λ_ _=>trivial⟩,⟨by simp[yZf],λx hx=>by simp[yZf]at hx⟩⟩
structure yacO(d:yadQ)(k j:Nat):Prop where
 lr:d.R.length=k
 lw:d.W.length=k
 lk:d.K.length=j
 r:∀r∈d.R,xE r=true/\r.small/\0<=sZ r/\sZ r<=20000
 w:∀w∈d.W,ykM w=true
 k:∀w∈d.K,fJ w=true/\yY0 w=true/\(0<=yYT w/\yYT w<=560)/\w.Calls=[]/\w.yR0.yRY=[]/\w.small/\w.yR0.Gate=0
def yaaL{code:List UInt8}{n:Nat}{p:Nat×Int}(hn:n<=4):∀k:Nat,k<=n->yacO (yYH code n p k) k (min k (n-1))
 |0,_=>⟨rfl,rfl,by simp[yYH],λr h=>by simp[yYH]at h,λr h=>by simp[yYH]at h,λr h=>by simp[yYH]at h⟩
 | k+1,hk=>by
  have ih:=yaaL (code:=code) (p:=p) hn k (by omega);have hb:40<=(40*(n-k:Int))/\(40*(n-k:Int))<=1000:=by omega
  obtain⟨t,v,d,h1,h2,h3,h4,h5,h6⟩:=yadr (code:=code) (bed:=40*(n-k:Int)) (p:=(yYH code n p k).p) (by omega)
  have hr:∀r∈(yYH code n p k).R++[yZz code (40*(n-k:Int)) (yYH code n p k).p],xE r=true/\r.small/\0<=sZ r/\sZ r<=20000:=by
   intro r h;rcases zaj.1 h with h|h
   .exact ih.r r h
   .rw[zan,h1]at h;subst h;refine⟨h6,⟨⟨by simp only;omega,λ_ _=>trivial⟩,⟨by simp only[zbq];omega,λ_ _=>trivial⟩⟩,?_⟩;simp only[sZ,(yaeq d).1];omega
  have hw:∀w∈(yYH code n p k).W++[wayV code (40*(n-k:Int)) (yYH code n p k).p],ykM w=true:=by
   intro w h;rcases zaj.1 h with h|h
   .exact ih.w w h
   .rw[zan]at h;subst h;exact yaeh (by omega)
  have a1:=ih.lr;have a2:=ih.lw;have a3:=ih.lk;unfold yYH;simp only;split
  .refine⟨by simp;omega,by simp;omega,by simp only;omega,hr,hw,ih.k⟩
  .refine⟨by simp;omega,by simp;omega,by simp only[zah,zaA,zbr];omega,hr,hw,λw h=>?_⟩;rcases zaj.1 h with h|h
   .exact ih.k w h
   .rw[zan]at h;subst h;exact yadE hb
def yacf{α:Type}{f:α->Int}{m:Int}:∀(l:List α),(∀x∈l,0<=f x/\f x<=m)->0<=(l.map f).sum/\(l.map f).sum<=m*l.length
 |[],_=>by simp
 |a::l,h=>by
  have ih:=yacf (f:=f) (m:=m) l λx hx=>h x (by simp[hx]);have h1:=h a (by simp);have h2:m*((a::l).length:Int)=m*l.length+m:=by rw[zaA];push_cast;rw[zdr,zeb]
  simp only[zbk,zcm];rw[h2];omega
def yabC(code:List UInt8)(p:Nat×Int):yacO (yZs code p) (yZF code p) (yZF code p-1)/\ybv (yZs code p).R/\yhE (yZs code p).W/\ycw (yZs code p).K:=by
 obtain⟨_,h2,h4⟩:=yabY code p
 have S:yacO (yZs code p) (yZF code p) (yZF code p-1):=by
  have:=yaaL (code:=code) (p:=yYA code 3 p) h4 (yZF code p) (Nat.le_refl _);rw[show min (yZF code p) (yZF code p-1)=yZF code p-1 by omega]at this;exact this
 have a1:=S.lr;have a2:=S.lw;have a3:=S.lk;exact⟨S,⟨by omega,λr h=>(S.r r h).2.1⟩,⟨by omega,λ_ _=>trivial⟩,⟨by omega,λw h=>(S.k w h).2.2.2.2.2.1⟩⟩
structure Fresh(x:yRW):Prop where
 gate:∀w∈x.yRX,w.yR0.Gate=0
 start:x.Start<=1000000
 time:x.Time=0
 inn:x.In=0
def yadB(code:List UInt8)(p:Nat×Int):Bare (newV code p)/\(newV code p).small/\Fresh (newV code p):=by
 obtain⟨S,s1,s2,s3⟩:=yabC code p;obtain⟨_,h2,h4⟩:=yabY code p;obtain⟨t1,t2,_⟩:=yadf code (yZs code p).p;have a1:=S.lr;have a2:=S.lw;have a3:=S.lk;unfold newV;generalize yZj code (yZs code p).p=T at *;generalize yZs code p=d at *;generalize yZF code p=n at *;have hno:d.K.all yY0=true:=zae.2 λw h=>(S.k w h).2.1
 have hriv:jY d.R=true:=by
  have:=yacf (f:=sZ) (m:=20000) d.R λr h=>(S.r r h).2.2;simp only[jY,ySA,zad,decide_eq_true_eq,zae];refine⟨⟨⟨by omega,by omega⟩,λr h=>(S.r r h).1⟩,decide_eq_true (by omega)⟩
 have hlan:(d.W.zip (List.replicate d.R.length [])).all jS=true:=by
  refine zae.2 λq hq=>?_;obtain⟨w,l⟩:=q;obtain⟨m1,m2⟩:=List.of_mem_zip hq;rw[(zcE.1 m2).2];simp only[jS,S.w w m1,zbr,zdX];rfl
 have hwk:d.K.all fJ=true:=zae.2 λw h=>(S.k w h).1
 have hany:∀s:Int,0<=s->s<=1000000000->rC ⟨0,d.R,d.W,d.K,List.replicate d.R.length [],[],[],T,[],[],s,0,0⟩=true:=by
  intro s g1 g2;have g3:inRange s 0 1000000000=true:=aC.2 ⟨g1,g2⟩
  have hp:sJ ⟨0,d.R,d.W,d.K,List.replicate d.R.length [],[],[],T,[],[],s,0,0⟩=true:=by
   simp only[sJ,hriv,hlan,hwk,zbq,zbN,zda,zad];exact⟨⟨⟨decide_eq_true (by omega),decide_eq_true (by omega)⟩,decide_eq_true (by simp)⟩,decide_eq_true (by omega)⟩
  have hl:pO ⟨0,d.R,d.W,d.K,List.replicate d.R.length [],[],[],T,[],[],s,0,0⟩=true:=by
   simp[pO]
  have hbk:kU []=true:=by decide
  have h0:inRange 0 0 1000000=true:=by decide
  have h00:inRange 0 0 1000000000=true:=by decide
  simp only[rC,hp,hl,t1,hbk,g3,h0,h00,zds]
 have hraw:rC (yZL d.R d.W d.K T)=true:=hany 0 (by omega) (by omega)
 have hwat:0<=yYN (yZL d.R d.W d.K T)/\yYN (yZL d.R d.W d.K T)<=1000000:=by
  have e1:=yacf (f:=sZ) (m:=20000) d.R λr h=>(S.r r h).2.2;have e2:=yacf (f:=yYT) (m:=560) d.K λw h=>(S.k w h).2.2.1;unfold yYN yYJ;rw[if_pos hraw]
  show 0<=(if jY d.R then ySA d.R else 0)+(d.K.map yYT).sum/\(if jY d.R then ySA d.R else 0)+(d.K.map yYT).sum<=1000000
  rw[if_pos hriv];unfold ySA;omega
 have hnew:rC (yZU d.R d.W d.K T)=true:=hany _ hwat.1 (by omega)
 have e:yYI d.R d.W d.K T=(yZU d.R d.W d.K T,true):=by
  unfold yYI;rw[hno,hnew];rfl
 rw[e];refine⟨⟨hnew,λl hl=>(zcE.1 hl).2,rfl,rfl,rfl,rfl,λw hw=>⟨(S.k w hw).2.2.2.1,(S.k w hw).2.2.2.2.1⟩,?_⟩,yabP s1 s2 s3 t2,λw hw=>(S.k w hw).2.2.2.2.2.2,hwat.2,rfl,rfl⟩
 show yYN (yZU d.R d.W d.K T)+0=yYN (yZL d.R d.W d.K T)+0
 have:yYN (yZU d.R d.W d.K T)=yYN (yZL d.R d.W d.K T):=by
  unfold yYN;rw[if_pos hnew,if_pos hraw];rfl
 rw[this]
def yacI(t:List ySc)(level delay:Int)(hl:t.length<=1048576):qB prg 11 [.c (.sl 2 (t.map ySc.enc)),.c (.i level),.c (.i delay)] (.tup [.agg ((yYY t level delay).1.enc.map .c),.c (.b (yYY t level delay).2)]):=
 (yacP t level delay hl).pure (by simp[AV.shr,AV.yEj,AV.yoE,dO,C.shr])
def yacJ{code:List UInt8}{n:Nat}{p:Nat×Int}{k:Nat}(h:k+1=n):yYH code n p (k+1)=⟨yZZ code (yYH code n p k).p,(yYH code n p k).R++[yZz code (40*(n-k:Int)) (yYH code n p k).p],(yYH code n p k).W++[wayV code (40*(n-k:Int)) (yYH code n p k).p],(yYH code n p k).K⟩:=by
 conv=>lhs;unfold yYH
 rw[if_pos h]
def yacT{code:List UInt8}{n:Nat}{p:Nat×Int}{k:Nat}(h:¬k+1=n):yYH code n p (k+1)=⟨wkN code (yYH code n p k).p,(yYH code n p k).R++[yZz code (40*(n-k:Int)) (yYH code n p k).p],(yYH code n p k).W++[wayV code (40*(n-k:Int)) (yYH code n p k).p],(yYH code n p k).K++[yZf code (40*(n-k:Int)) (yYH code n p k).p]⟩:=by
 conv=>lhs;unfold yYH
 rw[if_neg h]
def yacu:∀{a b a' b':List (List C)},yaq a=some a'->yaq b=some b'->yaq (a++b)=some (a'++b')
 |[],b,a',b',h1,h2=>by simp only[yaq]at h1;cases h1;exact h2
 | x::a,b,a',b',h1,h2=>by
  simp only[zcU,yaq]at h1|-;cases hx:dO x with
  |none=>rw[hx]at h1;cases h1
  | some y=>
   cases hl:yaq a with
   |none=>rw[hx,hl]at h1;cases h1
   |some r=>
    rw[hx,hl]at h1;cases h1;rw[yacu hl h2];rfl
def yabL(K:List yR8):yaq (K.map yR8.enc)=some (K.map yR8.enc):=by
 have h:=eF (f:=yR8.enc) (g:=yR8.enc) (λw=>by simp[dO,C.shr]) K;exact h
end
end Go.Proofs.YtdadkiofenhnbaaGreat
