/- The law FnSplitRun holds for all arguments, without conditions. -/
import Derived.Test.YtdadkiofenhnbaaGreatS12
set_option linter.all false
set_option maxRecDepth 100000
set_option maxHeartbeats 4000000
namespace Go.Proofs.YtdadkiofenhnbaaGreat
open Go.RowKit
open Go.ChangeShapes Go.WideShapes
noncomputable section
@[simp] def zzkc{id k:Nat}{r:List (List C)}:(AV.clip k r).fV id=.clip k r:=rfl
def yvT(x:yRW)(k:Int)(hs:x.small):qB prg 37 [.agg (x.enc.map .c),.c (.i k)] (.agg ((fQ x k).enc.map .c)):=by
 have hco:=yDS x hs;simp only[yRW.qX]at hco;have hme:=eF yHe x.yR3;have hwe:yaq (x.yRX.map yR8.enc)=some (x.yRX.map yR8.enc):=ycb x.yRX;refine dB yrM (goQ_ ?_);refine qU hco (by simp) rfl (by simp[fD,em]) (goT_ ?_);refine yYq (yc1 x hs) ?_;cases h:rC x with
 |false=>
  rw[yuv (by simp[yd9,h])];simp -dsimp -implicitDefEqProofs [jA,hme,hwe]
 |true=>
 have hwl:=hs.2.2.1.1;refine goQ_ ?_
 refineλhlen=>⟨by unfold inI;omega,?_⟩
 refine yYq (bC k 0 (x.yRX.length-1)) ?_;cases hin:inRange k 0 (x.yRX.length-1)with
 |false=>
  have hno:¬(0<=k/\k<=x.yRX.length-1):=λh=>by rw[aC.2 h]at hin;cases hin
  rw[yuv (by simp[yd9,h];omega)];simp -dsimp -implicitDefEqProofs [jA,hme,hwe]
 |true=>
 have hr:=aC.1 hin;obtain⟨n,rfl⟩:=zbI hr.1;have F:=ym8 h hs (k:=n) (by omega);have kw:=F.kw;have hw:=yi4 F.kw;have gw:=(zaa.1 hw).2;have hgt:yag x n=(dW x.yRX n).yR0.Gate:=rfl;have hSh:=yD5 x n hs F h (x.yR3.map em) hme;have hOp:=yD1 x n hs F h;have hys:(yeU x n).small:=yjy hs F;have hV:=yc1 (yeU x n) hys;have e:fQ x (n:Int)=if rC (yeU x n)then yeU x n else x:=by simp[fQ,yd9,h,kw]
 have yS:yag x n=0->yeU x n=qM x n:=λh=>by unfold yeU;rw[if_pos h]
 have yO:yag x n≠0->yeU x n=yew x n:=λh=>by unfold yeU yew;rw[if_neg h]
 have hWS:yaq (bM (qM x n).yRX)=some ((qM x n).yRX.map yR8.enc):=ycb _
 have hMS:(qM x n).yR3=x.yR3:=by
  unfold qM yls;split
  .rfl
  .split<;>rfl
 have hWO:yag x n≠0->yaq (yo5 x n)=some ((yew x n).yRX.map yR8.enc):=by
  intro _;unfold yo5 yew;split
  .exact ycb _
  .split
   .rename_i h1 h2
    have hm:yeC x n=true:=by
     unfold bH at h2;split at h2
     .rename_i h3;exact h3
     .cases h2
    have e3:(bH x n).1.yRX=x.yRX.set n (yj x n):=by unfold bH;rw[if_pos hm];rfl
    rw[e3,zaP];exact yBn (ycb x.yRX) (yLy (yj x n)) n
   .exact ycb _
 have hRW:bM x.yRX=x.yRX.map yR8.enc:=rfl;have hRM:ybD x.yR3=x.yR3.map em:=rfl;rw[hRW]at hSh hOp;rw[hRM]at hOp;rw[e]
 by_cases hg:yag x n=0
 .rw[yS hg]at hV|-;have hms:yaq (x.yR3.map em)=some ((qM x n).yR3.map nD):=by rw[hMS];exact hme
  have hws:=hWS;rw[hgt]at hg;clear hWO hOp yS yO hMS hWS e hys;generalize qM x n=y at *;generalize bM y.yRX=W at *;simp only[yRW.qX]at hSh;generalize dW x.yRX n=w at *;obtain⟨res,hres⟩:∃r,(if rC y then y else x)=r:=⟨_,rfl⟩;rw[hres];rcases zcy (rC y)with hv|hv
  .rw[hv,if_pos rfl]at hres;rw[hv]at hV;subst hres;refine yaff hw gw kw (fC kw) hg ?_;refine yfT 30 (xs:=yiY 7 x x.yRX.length x.yR3.length) (ids:=[20007,40007,50007,130007]) hSh (by simp -dsimp -implicitDefEqProofs [yiY]) (by simp -dsimp -implicitDefEqProofs [yiY,jA]) (by decide) (by simp -dsimp -implicitDefEqProofs) rfl rfl (by simp[fD]) (goQ_ ?_);refine mD (hV) (by simp -dsimp -implicitDefEqProofs [jA,hws,hms,List.take_length]) rfl ?_;simp -dsimp -implicitDefEqProofs [jA,hws,hms,List.take_length]
  .rw[hv,if_neg zaH]at hres;rw[hv]at hV;subst hres;refine yaff hw gw kw (fC kw) hg ?_;refine yfT 30 (xs:=yiY 7 x x.yRX.length x.yR3.length) (ids:=[20007,40007,50007,130007]) hSh (by simp -dsimp -implicitDefEqProofs [yiY]) (by simp -dsimp -implicitDefEqProofs [yiY,jA]) (by decide) (by simp -dsimp -implicitDefEqProofs) rfl rfl (by simp[fD]) (goQ_ ?_);refine mD (hV) (by simp -dsimp -implicitDefEqProofs [jA,hws,hms,List.take_length]) rfl (goQ_ ?_);refine qU hco (by simp) rfl (by simp[fD,em]) ?_;simp -dsimp -implicitDefEqProofs [jA,hme,hwe]
 .have hOp:=hOp hg;rw[yO hg]at hV|-;have hms:yaq (ybD (yew x n).yR3)=some ((yew x n).yR3.map nD):=yw2 _;have hws:=hWO hg;rw[hgt]at hg;clear hWO hSh yS yO hMS hWS e hys;generalize yew x n=y at *;generalize yo5 x n=W at *;generalize ybD y.yR3=M at *;simp only[yRW.qX]at hOp;generalize dW x.yRX n=w at *;obtain⟨res,hres⟩:∃r,(if rC y then y else x)=r:=⟨_,rfl⟩;rw[hres];rcases zcy (rC y)with hv|hv
  .rw[hv,if_pos rfl]at hres;rw[hv]at hV;subst hres;refine yaff hw gw kw (fC kw) hg ?_;refine yfT 32 (xs:=yiY 7 x x.yRX.length x.yR3.length) (ids:=[20007,40007,50007,130007]) hOp (by simp -dsimp -implicitDefEqProofs [yiY]) (by simp -dsimp -implicitDefEqProofs [yiY,jA]) (by decide) (by simp -dsimp -implicitDefEqProofs) rfl rfl (by simp[fD]) (goQ_ ?_);refine mD (hV) (by simp -dsimp -implicitDefEqProofs [jA,hws,hms,List.take_length]) rfl ?_;simp -dsimp -implicitDefEqProofs [jA,hws,hms,List.take_length]
  .rw[hv,if_neg zaH]at hres;rw[hv]at hV;subst hres;refine yaff hw gw kw (fC kw) hg ?_;refine yfT 32 (xs:=yiY 7 x x.yRX.length x.yR3.length) (ids:=[20007,40007,50007,130007]) hOp (by simp -dsimp -implicitDefEqProofs [yiY]) (by simp -dsimp -implicitDefEqProofs [yiY,jA]) (by decide) (by simp -dsimp -implicitDefEqProofs) rfl rfl (by simp[fD]) (goQ_ ?_);refine mD (hV) (by simp -dsimp -implicitDefEqProofs [jA,hws,hms,List.take_length]) rfl (goQ_ ?_);refine qU hco (by simp) rfl (by simp[fD,em]) ?_;simp -dsimp -implicitDefEqProofs [jA,hme,hwe]
def yabZ{x:yRW}{K:Nat}{l:List yR6}{t:yRT}{p:Int}(hl:x.yR3[K]?=some l):yaq (List.take x.yR3.length (setAt (setAt (x.yR3.map em) K 0 C.jk) K 0 (.ow 3 (List.take (l.length+1) (l.map yR6.enc++[[.b t.Up,.sl 1 (t.Rows.map jE),.i p]])))))=some ((oG x K ⟨t,p⟩).yR3.map nD):=by
 have kl:=(zaa.1 hl).1;have gl:=(zaa.1 hl).2
 have e1:List.take (l.length+1) (l.map yR6.enc++[[.b t.Up,.sl 1 (t.Rows.map jE),.i p]])=(l++[(⟨t,p⟩:yR6)]).map yR6.enc:=by
  rw[List.take_of_length_le (by simp)];simp[yR6.enc,yRT.enc]
 rw[e1]
 have e2:∀c:C,setAt (setAt (x.yR3.map em) K 0 C.jk) K 0 c=(x.yR3.map em).set K [c]:=by
  intro c;simp[setAt,hl,gl,kl,em]
 rw[e2,List.take_of_length_le (by simp),yBn (eF yHe x.yR3) (s:=nD (l++[(⟨t,p⟩:yR6)])) rfl K];simp[oG,zaP,hl]
def yaaY(x:yRW)(t:yRT)(hs:x.small)(ht:t.small):
 qB prg 26 [.agg (x.enc.map .c),.agg (t.enc.map .c)] (.tup [.agg ((yYL x t).1.enc.map .c),.c (.b (yYL x t).2)]):=by
 have hco:=yWv x hs;have hco2:=hco;simp only[yRW.yXO]at hco;have no1:rC x=false->yYL x t=(x,false):=λh=>by simp[yYL,h]
 have no2:oC t=false->yYL x t=(x,false):=λh=>by simp[yYL,h]
 have no3:(lG t).all (yZE x)=false->yYL x t=(x,false):=λh=>by simp only[yYL,h,zba,zbs];rfl
 refine dB yaak (goQ_ ?_);refine qU hco (by simp) rfl (by simp[fD,em]) (goT_ ?_);refine yYq (yc1 x hs) ?_;cases hok:rC x with
 |false=>rw[no1 hok];simp -dsimp -implicitDefEqProofs [jA,eF yHe]
 |true=>
 refine goQ_ ?_;refine yYq (jJ t ht) ?_;cases htk:oC t with
 |false=>rw[no2 htk];simp -dsimp -implicitDefEqProofs [jA,eF yHe]
 |true=>
 have F:=yZQ hok htk;refine goQ_ ?_;refine yYp (yaG t ht) (goQ_ ?_);refine yX4 (λk=>k<=(lG t).length/\∀i∈(lG t).take k,yZE x i=true) (λk=>xC [(2,.box 2 0),(3,.box 3 0),(4,.box 4 0),(5,.c (.b false)),(6,.box 6 0),(7,.c (.sl 1 ((lG t).map qC))),(8,.c (.i k))] [(2,.box (x.enc.map .c)),(3,.box (t.enc.map .c)),(4,zW),(6,.box [.c (.i x.Time),.own 20012 3 x.yRV.length,.own 30012 2 x.ySl.length,.own 40012 22 x.yRX.length,.own 50012 1 x.yR3.length,.own 60012 2 x.yR9.length,.own 70012 1 x.ySd.length,.c (.i x.yRZ.Base),.c (.i x.yRZ.ySe),.own 100012 1 x.yRZ.yR5.length,.own 110012 1 x.yRZ.yR7.length,.own 120012 5 x.Book.length,.own 130012 4 x.yR1.length,.c (.i x.Start),.c (.i x.In),.c (.i x.Out)]),(20012,.row 3 (x.yRV.map Reach.enc)),(40012,.row 22 (x.yRX.map yR8.enc)),(30012,.row 2 (x.ySl.map Way.enc)),(50012,.tr 1 0 (x.yR3.map em)),(60012,.row 2 (x.yR9.map yRT.enc)),(70012,.row 1 (x.ySd.map qC)),(100012,.row 1 (x.yRZ.yR5.map qC)),(110012,.row 1 (x.yRZ.yR7.map qC)),(120012,.row 5 (x.Book.map ySb.enc)),(130012,.row 4 (x.yR1.map yR2.enc))]) (λk=>(lG t).length-k) ?_
 rintro k ⟨hk,hall⟩
 rcases zaq k (lG t).length with klt|kge
 .obtain⟨i,hi⟩:∃i,(lG t)[k]?=some i:=⟨_,zab klt⟩;have g1:=(zaa.1 hi).2;refine yaeV hi g1 klt (fC klt) ?_;intro hlen;refine yX4 (λj=>j<=x.ySd.length/\∀e∈x.ySd.take j,(λe=>!decide (e=i)) e=true) (λj=>xC [(2,.box 2 0),(3,.box 3 0),(4,.box 4 0),(5,.c (.b false)),(6,.box 6 0),(7,.c (.sl 1 ((lG t).map qC))),(8,.c (.i k)),(9,.c (.i j))] [(2,.box (x.enc.map .c)),(3,.box (t.enc.map .c)),(4,zW),(6,.box [.c (.i x.Time),.own 20012 3 x.yRV.length,.own 30012 2 x.ySl.length,.own 40012 22 x.yRX.length,.own 50012 1 x.yR3.length,.own 60012 2 x.yR9.length,.own 70012 1 x.ySd.length,.c (.i x.yRZ.Base),.c (.i x.yRZ.ySe),.own 100012 1 x.yRZ.yR5.length,.own 110012 1 x.yRZ.yR7.length,.own 120012 5 x.Book.length,.own 130012 4 x.yR1.length,.c (.i x.Start),.c (.i x.In),.c (.i x.Out)]),(20012,.row 3 (x.yRV.map Reach.enc)),(40012,.row 22 (x.yRX.map yR8.enc)),(30012,.row 2 (x.ySl.map Way.enc)),(50012,.tr 1 0 (x.yR3.map em)),(60012,.row 2 (x.yR9.map yRT.enc)),(70012,.row 1 (x.ySd.map qC)),(100012,.row 1 (x.yRZ.yR5.map qC)),(110012,.row 1 (x.yRZ.yR7.map qC)),(120012,.row 5 (x.Book.map ySb.enc)),(130012,.row 4 (x.yR1.map yR2.enc))]) (λj=>x.ySd.length-j) ?_
  rintro j ⟨hj,hallj⟩
  rcases yX1 j x.ySd with⟨jlt,e,he⟩|jge
  .have g2:=(zaa.1 he).2;refine yafK hi g1 klt (fC klt) he g2 jlt (fC jlt) ?_;have hem:=zac he
   refineλhlen5=>⟨λhc=>?_,λhc=>?_⟩
   .rw[no3 (all_false (p:=yZE x) hi (by simp only[yZE,<-hc,hem,decide_true,zcZ]))];simp[jA,eF yHe]
   .have hall5:=lD (p:=λe=>!decide (e=i)) he hallj (by simp[hc]);refine⟨gB jlt hlen5,j+1,⟨jlt,λa ha=>by simpa using hall5 a ha⟩,by omega,?_⟩;apply aB<;>simp
  refine yafw (aG jge) ?_;intro hlen5
  have hni:yZE x i=true:=by
   simp only[yZE,zaU,decide_eq_false_iff_not];intro hm;have:=hallj i (by rw[List.take_of_length_le jge];exact hm);simp at this
  have hall':=lD (p:=yZE x) hi hall hni;refine⟨gB klt hlen,k+1,⟨klt,hall'⟩,by omega,?_⟩;apply aB<;>simp
 have hall2:(lG t).all (yZE x)=true:=dF (p:=yZE x) kge hall;have s11:=hs.1.1;have no4:rC (yYK x t)=false->yYL x t=(x,false):=λh=>by simp only[yYL,h,zba];rfl
 have yes:rC (yYK x t)=true->yYL x t=(yYK x t,true):=λh=>by simp only[yYL,hok,htk,hall2,h,zda,if_true]
 have f1:=F.two;have f2:=F.ways;have f3:=F.mvs;have f4:=F.ent;have f5:=F.ids;refine yafw (aG kge) ?_
 refineλ_=>⟨by omega,λ_=>⟨by unfold inI;omega,⟨λhup=>⟨by omega,by omega,by omega,?_⟩,λhup=>?_⟩⟩⟩
 .obtain⟨w,hw⟩:∃w,x.ySl[x.yRV.length-1]?=some w:=⟨_,zab (by omega)⟩;obtain⟨l,hl⟩:∃l,x.yR3[x.yRV.length-1]?=some l:=⟨_,zab (by omega)⟩;have hll:=F.few _ _ hl;refine yYo (ybP t ht) ?_;simp -dsimp -implicitDefEqProofs [hw,hl,em];refine⟨by omega,by omega,by omega,by omega,by omega,by simp[setAt];omega,?_⟩;have ek:yZr x t=x.yRV.length-1:=by simp[yZr,hup]
  have ep:entP x t=w.Long:=by simp[entP,hup,hw]
  have hes:=yZO F hs ht;have hV:=yc1 (yYK x t) hes;rw[yZB,ek,ep]at hV;refine mD (hV) (by simp -dsimp -implicitDefEqProofs [jA,yabZ hl,yaab]) rfl ?_;cases hv:rC (yYK x t)with
  |false=>
   rw[no4 hv];refine goQ_ ?_;refine qU hco (by simp) rfl (by simp[fD,em]) ?_;simp -dsimp -implicitDefEqProofs [jA,eF yHe]
  |true=>
   rw[yes hv];refine goQ_ ?_;have he:=yZB x t;rw[ek,ep]at he;simp only[yRW.enc,List.cons.injEq,C.i.injEq,C.sl.injEq,true_and,and_true]at he;obtain⟨e0,e1,e2,e3,e4,e5,e6,e7,e8,e9,e10,e11,e12,e13,e14,e15⟩:=he;simp only[e0,e1,e2,e3,e4,e5,e6,e7,e8,e9,e10,e11,e12,e13,e14,e15,yabZ hl,jA,yaab,zaB,outR];simp
 .obtain⟨l,hl⟩:∃l,x.yR3[0]?=some l:=⟨_,zab (by omega)⟩;have hll:=F.few _ _ hl;refine⟨by omega,?_⟩;refine yYo (ybP t ht) ?_;simp -dsimp -implicitDefEqProofs [hl,em];refine⟨by omega,by omega,by simp[setAt];omega,?_⟩;have ek:yZr x t=0:=by simp[yZr,hup]
  have ep:entP x t=0:=by simp[entP,hup]
  have hes:=yZO F hs ht;have hV:=yc1 (yYK x t) hes;rw[yZB,ek,ep]at hV;refine mD (hV) (by simp -dsimp -implicitDefEqProofs [jA,yabZ hl,yaab]) rfl ?_;cases hv:rC (yYK x t)with
  |false=>
   rw[no4 hv];refine goQ_ ?_;refine qU hco (by simp) rfl (by simp[fD,em]) ?_;simp -dsimp -implicitDefEqProofs [jA,eF yHe]
  |true=>
   rw[yes hv];refine goQ_ ?_;have he:=yZB x t;rw[ek,ep]at he;simp only[yRW.enc,List.cons.injEq,C.i.injEq,C.sl.injEq,true_and,and_true]at he;obtain⟨e0,e1,e2,e3,e4,e5,e6,e7,e8,e9,e10,e11,e12,e13,e14,e15⟩:=he;simp only[e0,e1,e2,e3,e4,e5,e6,e7,e8,e9,e10,e11,e12,e13,e14,e15,yabZ hl,jA,yaab,zaB,outR];simp
abbrev yVr:=List yR6×List yR8×List yRT
def noRoom(W:List yR8)(j:Nat):Bool:=match W[j]? with
 |some w=>decide (24<=w.Calls.length)
 |none=>true
def yTE(W:List yR8)(j:Nat)(c:yR4):List yR8:=match W[j]? with
 |some w=>W.set j {w with Calls:=w.Calls++[c]}
 |none=>W
def yT7(k:Nat)(t:yRT):Nat:=if t.Up then k-1 else k
def yTh(x:yRW)(k:Nat)(t:yRT):Bool:=(t.Up&&decide (k=0))||(!t.Up&&decide (k+1=x.yRV.length))
def yS3(x:yRW)(k:Nat)(w:Way)(s:yVr)(m:yR6):yVr:=
 if AtEnd m w then
  if yTh x k m.yRT then(s.1,s.2.1,s.2.2++[m.yRT])
  else if noRoom s.2.1 (yT7 k m.yRT)then(s.1++[m],s.2)
  else(s.1,yTE s.2.1 (yT7 k m.yRT) ⟨m.yRT,x.Time,-1⟩,s.2.2)
 else(s.1++[m],s.2)
def yS4(x:yRW)(k:Nat)(w:Way)(r:Reach)(s:List yR8×List yRT)(ms:List yR6):yVr:=
 ms.foldl (λq m=>yS3 x k w q (yS7 m w r)) ([],s)
def ySW(x:yRW):Nat->List (List yR6)×List yR8×List yRT
 |0=>([],x.yRX,x.yR9)
 |k+1=>match x.ySl[k]?,x.yRV[k]?,x.yR3[k]? with
  |some w,some r,some ms=>((ySW x k).1++[(yS4 x k w r (ySW x k).2 ms).1],(yS4 x k w r (ySW x k).2 ms).2)
  |_,_,_=>ySW x k
def yTL(x:yRW):yRW:={x with yR3:=(ySW x x.yR3.length).1,yRX:=(ySW x x.yR3.length).2.1,yR9:=(ySW x x.yR3.length).2.2}
def yTd(x:yRW):yRW:=if rC x&&rC (yTL x)then yTL x else x
def yTN(W:List yR8)(j:Nat)(c:yR4):(yTE W j c).length=W.length:=by unfold yTE;split<;>simp
def yW9{x:yRW}{k:Nat}{w:Way}{s:yVr}{m:yR6}:(yS3 x k w s m).1.length<=s.1.length+1/\(yS3 x k w s m).2.1.length=s.2.1.length/\(yS3 x k w s m).2.2.length<=s.2.2.length+1:=by
 unfold yS3;split
 .split
  .simp
  .split
   .simp
   .simp[yTN]
 .simp
def yWA{x:yRW}{k:Nat}{w:Way}{r:Reach}(ms:List yR6):∀s:yVr,(ms.foldl (λq m=>yS3 x k w q (yS7 m w r)) s).1.length<=s.1.length+ms.length/\(ms.foldl (λq m=>yS3 x k w q (yS7 m w r)) s).2.1.length=s.2.1.length/\(ms.foldl (λq m=>yS3 x k w q (yS7 m w r)) s).2.2.length<=s.2.2.length+ms.length:=by
 induction ms with
 |nil=>intro s;simp
 |cons m ms ih=>
  intro s;obtain⟨a1,a2,a3⟩:=ih (yS3 x k w s (yS7 m w r));obtain⟨b1,b2,b3⟩:=yW9 (x:=x) (k:=k) (w:=w) (s:=s) (m:=yS7 m w r);simp only[zci,zaA];omega
def yXC(es:List yR8)(hl:es.length<=1048576):nI prg 171 [.c (.sl 22 (es.map yR8.enc))] (.c (.ot 22 (es.map yR8.enc))):=by
 refine fF yQ ?_;simp -dsimp -implicitDefEqProofs [mQ,jA];omega
def yXH(es:List yRT):qB prg 172 [.c (.sl 2 (es.map yRT.enc))] (.clip 2 (es.map yRT.enc)):=by
 refine dB yTA ?_;simp -dsimp -implicitDefEqProofs [yTb,jA]
def yWR(es:List yR4):qB prg 175 [.c (.sl 4 (es.map yR4.enc))] (.clip 4 (es.map yR4.enc)):=by
 refine dB yTD ?_;simp -dsimp -implicitDefEqProofs [yTg,jA]
structure ySM(x:yRW):Prop where
 two:2<=x.yRV.length
 six:x.yRV.length<=6
 ways:x.ySl.length=x.yRV.length
 mvs:x.yR3.length=x.yRV.length
 wks:x.yRX.length+1=x.yRV.length
 few:∀(k:Nat) (l:List yR6),x.yR3[k]?=some l->l.length<=24
 arr:x.yR9.length<=500
def yCK{x:yRW}(h:rC x=true):ySM x:=by
 simp only[rC,zad]at h;obtain⟨⟨⟨⟨⟨⟨⟨h1,h2⟩,h3⟩,h4⟩,h5⟩,h6⟩,h7⟩,h8⟩:=h;simp only[sJ,zad,decide_eq_true_eq]at h2;obtain⟨⟨⟨⟨⟨⟨p1,p2⟩,p3⟩,p4⟩,p5⟩,p6⟩,p7⟩:=h2;have rf:=(ynr p1).len;refine⟨p2,rf.2,p3,p4,p5,λk l hk=>?_,?_⟩
 .have kl:=(zaa.1 hk).1;have gl:=(zaa.1 hk).2;have:=zae.1 p6 (x.ySl[k]'(by omega),l) (zcf.2 ⟨k,by simp;omega,by simp[gl]⟩);simp only[jS,zad,decide_eq_true_eq]at this;exact this.1.2
 .simp only[pO,zad,decide_eq_true_eq]at h3;omega
structure yV5(n a:Nat)(s:yVr):Prop where
 rest:s.1.length<=n/\∀m∈s.1,m.small
 works:ycw s.2.1
 arr:s.2.2.length<=a+n/\∀t∈s.2.2,t.small
def yWn{W:List yR8}{j:Nat}{c:yR4}(h:ycw W)(hc:c.small)(hr:noRoom W j=false):ycw (yTE W j c):=by
 refine⟨by rw[yTN];exact h.1,λw hw=>?_⟩;unfold yTE at hw;unfold noRoom at hr;cases hw0:W[j]? with
 |none=>rw[hw0]at hr;cases hr
 | some w0=>
  rw[hw0]at hr hw;simp only[decide_eq_false_iff_not]at hr;rcases zaS hw with e|e
  .exact h.2 w e
  .subst e;obtain⟨a,b,c1⟩:=h.2 w0 (zac hw0);refine⟨a,b,by simp;omega,λy hy=>?_⟩;rcases zaj.1 hy with e|e
   .exact c1.2 y e
   .rw[zan.1 e];exact hc
def yWc{α:Type}{p:α->Prop}{l:List α}{a:α}(h:∀x∈l,p x)(ha:p a):∀x∈l++[a],p x:=by
 intro x hx;rcases zaj.1 hx with e|e
 .exact h x e
 .rw[zan.1 e];exact ha
def yWl{x:yRW}{k:Nat}{w:Way}{n a:Nat}{s:yVr}{m:yR6}(h:yV5 n a s)(hm:m.small):yV5 (n+1) a (yS3 x k w s m):=by
 obtain⟨r,wk,ar⟩:=h;have r1:s.1.length<=n+1:=Nat.le_succ_of_le r.1;have a1:s.2.2.length<=a+(n+1):=zaX ar.1 (by omega);have ar1:=ar.1;have rr1:=r.1;unfold yS3;split
 .split
  .exact⟨⟨r1,r.2⟩,wk,by simp;omega,yWc ar.2 hm⟩
  .split
   .exact⟨⟨by simp;omega,yWc r.2 hm⟩,wk,a1,ar.2⟩
   .rename_i hr;exact⟨⟨r1,r.2⟩,yWn wk hm (by simpa using hr),a1,ar.2⟩
 .exact⟨⟨by simp;omega,yWc r.2 hm⟩,wk,a1,ar.2⟩
def yT8{m:yR6}{w:Way}{r:Reach}(h:m.small):(yS7 m w r).small:=by
 show(yS7 m w r).yRT.small
 rw[yWg];exact h
def yUH{x:yRW}{k:Nat}{w:Way}{r:Reach}{a:Nat}:∀(ms:List yR6),(∀m∈ms,m.small)->∀(s:yVr) (n:Nat),yV5 n a s->yV5 (n+ms.length) a (ms.foldl (λq m=>yS3 x k w q (yS7 m w r)) s)
 |[],_,s,n,h=>h
 |m::ms,hm,s,n,h=>by
  have:=yUH (x:=x) (k:=k) (w:=w) (r:=r) (a:=a) ms (λy hy=>hm y (zcW _ hy)) _ (n+1) (yWl (x:=x) (k:=k) (w:=w) h (yT8 (w:=w) (r:=r) (hm m zde)));rw[zaA,show n+(ms.length+1)=n+1+ms.length by omega];exact this
def yUD{x:yRW}{k:Nat}{w:Way}{r:Reach}{ms:List yR6}(h1:x.ySl[k]?=some w)(h2:x.yRV[k]?=some r)(h3:x.yR3[k]?=some ms):ySW x (k+1)=((ySW x k).1++[(yS4 x k w r (ySW x k).2 ms).1],(yS4 x k w r (ySW x k).2 ms).2):=by
 simp[ySW,h1,h2,h3]
def yUW{x:yRW}{k:Nat}{w:Way}{r:Reach}{s:List yR8×List yRT}{ms:List yR6}{i:Nat}{m:yR6}(h:ms[i]?=some m):yS4 x k w r s (ms.take (i+1))=yS3 x k w (yS4 x k w r s (ms.take i)) (yS7 m w r):=by
 unfold yS4;rw[zao,h];simp
structure yW8(x:yRW)(k:Nat):Prop where
 len:(ySW x k).1.length=k
 rest:∀l∈(ySW x k).1,l.length<=24/\∀m∈l,m.small
 works:ycw (ySW x k).2.1
 yXM:(ySW x k).2.1.length=x.yRX.length
 arr:(ySW x k).2.2.length<=500+24*k/\∀t∈(ySW x k).2.2,t.small
def yU8{x:yRW}{k:Nat}{w:Way}{r:Reach}(hs:x.small)(h:yW8 x k){ms:List yR6}(hm:∀m∈ms,m.small):yV5 ms.length (500+24*k) (yS4 x k w r (ySW x k).2 ms)/\(yS4 x k w r (ySW x k).2 ms).2.1.length=x.yRX.length:=by
 refine⟨?_,?_⟩
 .have:=yUH (x:=x) (k:=k) (w:=w) (r:=r) (a:=500+24*k) ms hm ([],(ySW x k).2) 0 ⟨⟨by simp,by simp⟩,h.works,by have:=h.arr.1;show(ySW x k).2.2.length<=_;omega,h.arr.2⟩;rw[zbv]at this;exact this
 .have:=(yWA (x:=x) (k:=k) (w:=w) (r:=r) ms ([],(ySW x k).2)).2.1;unfold yS4;rw[this];exact h.yXM
def yTU{x:yRW}(F:ySM x)(hs:x.small):∀k:Nat,k<=x.yR3.length->yW8 x k
 |0,_=>⟨rfl,λl hl=>(by cases hl),hs.2.2.1,rfl,by have:=F.arr;show x.yR9.length<=_;omega,hs.2.2.2.2.1.2⟩
 |k+1,hk=>by
  have ih:=yTU F hs k (by omega);have f1:=F.ways;have f2:=F.mvs;obtain⟨w,hw⟩:∃w,x.ySl[k]?=some w:=⟨_,zab (by omega)⟩;obtain⟨r,hr⟩:∃r,x.yRV[k]?=some r:=⟨_,zab (by omega)⟩;obtain⟨ms,hms⟩:∃ms,x.yR3[k]?=some ms:=⟨_,zab (by omega)⟩;have hm:=F.few k ms hms;obtain⟨⟨a1,a2,a3⟩,a4⟩:=yU8 (w:=w) (r:=r) hs ih (ms:=ms) (λm h=>(hs.2.2.2.1.2 ms (zac hms)).2 m h);have e:=yUD hw hr hms;refine⟨by rw[e];simp[ih.len],λl hl=>?_,by rw[e];exact a2,by rw[e];exact a4,by rw[e];show(yS4 x k w r (ySW x k).2 ms).2.2.length<=_;omega,by rw[e];exact a3.2⟩;rw[e]at hl;rcases zaj.1 hl with h|h
  .exact ih.rest l h
  .rw[zan.1 h];exact⟨by omega,a1.2⟩
def yUr{x:yRW}(F:ySM x)(hs:x.small):(yTL x).small:=by
 have h:=yTU F hs x.yR3.length (Nat.le_refl _);have f6:=F.six;have f2:=F.mvs;refine⟨hs.1,hs.2.1,h.works,⟨by show(ySW x x.yR3.length).1.length<=_;rw[h.len];omega,λl hl=>⟨by have:=(h.rest l hl).1;omega,(h.rest l hl).2⟩⟩,⟨by have:=h.arr.1;show(ySW x x.yR3.length).2.2.length<=_;omega,h.arr.2⟩,hs.2.2.2.2.2⟩
def yVX(x:yRW):(yTL x).enc=[.i x.Time,.sl 3 (x.yRV.map Reach.enc),.sl 2 (x.ySl.map Way.enc),.sl 22 ((ySW x x.yR3.length).2.1.map yR8.enc),.sl 1 ((ySW x x.yR3.length).1.map nD),.sl 2 ((ySW x x.yR3.length).2.2.map yRT.enc),.sl 1 (x.ySd.map qC),.i x.yRZ.Base,.i x.yRZ.ySe,.sl 1 (x.yRZ.yR5.map qC),.sl 1 (x.yRZ.yR7.map qC),.sl 5 (x.Book.map ySb.enc),.sl 4 (x.yR1.map yR2.enc),.i x.Start,.i x.In,.i x.Out]:=rfl
def yvO(x:yRW)(k:Int)(hl:x.small):nI prg 30 [.agg (x.enc.map .c),.c (.i k)] (.agg ((fQ x k).iD.map .c)):=by
 have hp:=ykL (k:=k) hl;have hpc:=yaen x k hl;refine fF yrg (goQ_ ?_);refine dD hpc ?_;generalize fQ x k=r at *;refine goQ_ ?_;refine yX3 (yuq r hp) (dP (yRW.aF r)) ?_;exact goU_
def wkR(W:List yR8):List (List C):=W.map yR8.enc
def yUo{W:List yR8}:(wkR W).length=W.length:=by simp[wkR]
def yXc{W:List yR8}{k:Nat}{w:yR8}(h:W[k]?=some w):(wkR W)[k]?=some w.enc:=by unfold wkR;rw[zat,h];rfl
def yWy:∀W:List yR8,yaq (wkR W)=some (wkR W)
 |[]=>rfl
 |a::W=>by
  show yaq (yR8.enc a::wkR W)=some (yR8.enc a::wkR W)
  simp only[yaq,yWy W];rfl
def yTW(D:List (List yR6))(L:List yR6)(n:Nat):List (List C):=D.map em++em L::List.replicate (n-D.length-1) (em [])
def yUx(D:List (List yR6))(n:Nat):List (List C):=D.map em++List.replicate (n-D.length) (em [])
def yXS{D:List (List yR6)}{n:Nat}(h:D.length<n):yUx D n=yTW D [] n:=by
 unfold yUx yTW;rw[show n-D.length=(n-D.length-1)+1 by omega,zbL];rfl
def yXN{D:List (List yR6)}{L:List yR6}{n:Nat}:yTW D L n=yUx (D++[L]) n:=by
 unfold yUx yTW;rw[zaB,zah,zaW,zaY,Nat.sub_sub];rfl
def yXs{D:List (List yR6)}{L:List yR6}{n:Nat}(h:D.length<n):(yTW D L n).length=n:=by
 simp[yTW];omega
def yXb{D:List (List yR6)}{L:List yR6}{n k:Nat}(h:D.length=k):(yTW D L n)[k]?=some (em L):=by
 subst h;unfold yTW;rw[zax (by simp)];simp
def yXq{D:List (List yR6)}{L:List yR6}{n k:Nat}{m:yR6}(h:D.length=k):setAt (setAt (yTW D L n) k 0 C.jk) k 0 (.ow 3 (L.map yR6.enc++[m.enc]))=yTW D (L++[m]) n:=by
 have hk:=yXb (L:=L) (n:=n) h
 have e2:∀c:C,setAt (setAt (yTW D L n) k 0 C.jk) k 0 c=(yTW D L n).set k [c]:=by
  intro c;have kl:=(zaa.1 hk).1;have gl:=(zaa.1 hk).2;simp[setAt,hk,gl,kl,em]
 rw[e2];subst h;unfold yTW;rw[zbP _ _ (by simp)];simp[em,zaB]
def yXr(D:List (List yR6)):yaq (yUx D D.length)=some (D.map nD):=by
 unfold yUx;rw[zca];simp only[List.replicate_zero,zbH];exact eF yHe D
def yVA{W:List yR8}{j:Nat}{w:yR8}{c:yR4}(h:W[j]?=some w):yaq (setAt (wkR W) j 21 (.ow 4 (w.Calls.map yR4.enc++[c.enc])))=some (wkR (yTE W j c)):=by
 have hk:=yXc h;have kl:=(zaa.1 hk).1;have gl:=(zaa.1 hk).2
 have e:setAt (wkR W) j 21 (.ow 4 (w.Calls.map yR4.enc++[c.enc]))=(wkR W).set j (w.enc.set 21 (.ow 4 (w.Calls.map yR4.enc++[c.enc]))):=by
  simp[setAt,gl,kl]
 rw[e,yBn (yWy W) (s:=({w with Calls:=w.Calls++[c]}:yR8).enc) (by simp only[yR8.enc,zcA,zbD,zaB];rfl) j];unfold yTE wkR;rw[h];simp only[zaP]
def yUP(B A:List yRT):AV:=match A with
 |[]=>.clip 2 (B.map yRT.enc)
 |t::A=>.own 102 2 (B.length+(A.length+1))
def yUQ(B A:List yRT):Obj:=match A with
 |[]=>.none
 |t::A=>.row 2 ((B++t::A).map yRT.enc)
def yXo{a b:List yRT}{y:List C}:List.take (a.length+(b.length+1)) (a.map yRT.enc++y::b.map yRT.enc)=a.map yRT.enc++y::b.map yRT.enc:=List.take_of_length_le (by simp)
def yTR(x:yRW)(c:AV):List AV:=[.c (.i x.Time),.c (.sl 3 (x.yRV.map Reach.enc)),.c (.sl 2 (x.ySl.map Way.enc)),.own 18 22 x.yRX.length,.own 23 1 x.yR3.length,c,.c (.sl 1 (x.ySd.map qC)),.c (.i x.yRZ.Base),.c (.i x.yRZ.ySe),.c (.sl 1 (x.yRZ.yR5.map qC)),.c (.sl 1 (x.yRZ.yR7.map qC)),.c (.sl 5 (x.Book.map ySb.enc)),.c (.sl 4 (x.yR1.map yR2.enc)),.c (.i x.Start),.c (.i x.In),.c (.i x.Out)]
set_option maxRecDepth 40000 in
def yXp (x:yRW) (hs:x.small):qB prg 72 [.agg (x.enc.map .c)] (.agg ((yTd x).enc.map .c)):=by
 have hW:=yis x hs;have s41:=hs.2.2.2.1.1;have s31:=hs.2.2.1.1;refine dB yW1 (goQ_ ?_);refine yYq hW ?_;cases hok:rC x with
 |false=>
  have e:yTd x=x:=by simp[yTd,hok]
  rw[e];exact goE_
 |true=>
 have F:=yCK hok;have f1:=F.two;have f2:=F.six;have f3:=F.ways;have f4:=F.mvs;have f5:=F.wks;obtain⟨res,hres⟩:∃r,yTd x=r:=⟨_,rfl⟩;rw[hres];refine goQ_ ?_;refine yX5 (yXC x.yRX s31) (goT_ ?_)
 refineλhlen=>⟨by omega,yXV ?_⟩
 refine goQ_ ?_;refine yYp (yXH x.yR9) (goQ_ ?_)
 refineλhlen2=>⟨by unfold inI;omega,λhlen3=>?_⟩
 refine qA (ι:=Nat×List yRT) (λp=>p.1<=x.yR3.length/\(ySW x p.1).2.2=x.yR9++p.2) (λp=>xC [(1,.box 1 0),(2,.box 2 0),(3,.box 3 0),(4,.c (.i ((x.yRV.length:Int)-1))),(34,.c (.sl 1 (x.yR3.map nD))),(35,.c (.i x.yR3.length)),(36,.c (.i p.1))] [(1,.box (x.enc.map .c)),(2,zW),(3,.box (yTR x (yUP x.yR9 p.2))),(18,.tr 22 0 (wkR (ySW x p.1).2.1)),(23,.tr 1 0 (yUx (ySW x p.1).1 x.yR3.length)),(102,yUQ x.yR9 p.2)]) (λp=>x.yR3.length-p.1) (0,[]) (by simp[ySW]) (by apply aB<;>simp[Obj.leO,ySW,wkR,yUx,em,yUP,yUQ,yTR]) ?_
 rintro⟨k,A⟩ ⟨hk,hA⟩
 simp only at hk hA;have T:=yTU F hs k hk;rcases zaq k x.yR3.length with klt|kge
 .obtain⟨w,hw⟩:∃w,x.ySl[k]?=some w:=⟨_,zab (by omega)⟩;obtain⟨r,hr⟩:∃r,x.yRV[k]?=some r:=⟨_,zab (by omega)⟩;obtain⟨ms,hms⟩:∃ms,x.yR3[k]?=some ms:=⟨_,zab (by omega)⟩;have gw:=(zaa.1 hw).2;have gr:=(zaa.1 hr).2;have gms:=(zaa.1 hms).2;have klw:k<x.ySl.length:=by omega
  have klr:k<x.yRV.length:=by omega
  have hro:yUx (ySW x k).1 x.yR3.length=yTW (ySW x k).1 [] x.yR3.length:=yXS (by rw[T.len];exact klt);have hsm:∀m∈ms,m.small:=(hs.2.2.2.1.2 ms (zac hms)).2;have h24:=F.few k ms hms;have hA0:(yS4 x k w r (ySW x k).2 []).2.2=x.yR9++A:=hA;refine yaff hms gms klt (fC klt) hro ?_;intro hlen4;refine qA (ι:=Nat×List yRT) (λp=>p.1<=ms.length/\(yS4 x k w r (ySW x k).2 (ms.take p.1)).2.2=x.yR9++p.2) (λp=>xC [(1,.box 1 0),(2,.box 2 0),(3,.box 3 0),(4,.c (.i ((x.yRV.length:Int)-1))),(34,.c (.sl 1 (x.yR3.map nD))),(35,.c (.i x.yR3.length)),(36,.c (.i k)),(5,.c (.i k)),(41,.c (.sl 3 (ms.map yR6.enc))),(42,.c (.i ms.length)),(43,.c (.i p.1))] [(1,.box (x.enc.map .c)),(2,zW),(3,.box (yTR x (yUP x.yR9 p.2))),(18,.tr 22 0 (wkR (yS4 x k w r (ySW x k).2 (ms.take p.1)).2.1)),(23,.tr 1 0 (yTW (ySW x k).1 (yS4 x k w r (ySW x k).2 (ms.take p.1)).1 x.yR3.length)),(102,yUQ x.yR9 p.2)]) (λp=>ms.length-p.1) (0,A) (by simpa using hA0) (by rcases A with _|⟨t0,A⟩<;>apply aB<;>simp[Obj.leO,yS4,yUP,yUQ,yTR]) ?_
  rintro⟨i,A2⟩ ⟨hi,hA2⟩
  simp only at hi hA2;obtain⟨LS,LL⟩:=yU8 (w:=w) (r:=r) hs T (ms:=ms.take i) (λm h=>hsm m (zas h));obtain⟨q,hq⟩:∃q,yS4 x k w r (ySW x k).2 (ms.take i)=q:=⟨_,rfl⟩;rw[hq]at LS LL hA2;have hrl:=yXs (D:=(ySW x k).1) (L:=q.1) (n:=x.yR3.length) (by rw[T.len];exact klt);have hge:=yXb (L:=q.1) (n:=x.yR3.length) T.len;have gge:=(zaa.1 hge).2;rcases yX1 i ms with⟨ilt,m,hm⟩|ige
  .have gm:=(zaa.1 hm).2;have hsuc:=yUW (x:=x) (k:=k) (w:=w) (r:=r) (s:=(ySW x k).2) hm;have hcall:=yXR m w r (hsm m (zac hm));have hsm':(yS7 m w r).small:=yT8 (hsm m (zac hm));obtain⟨m',hm'⟩:∃m',yS7 m w r=m':=⟨_,rfl⟩;rw[hm']at hsuc hcall hsm';rw[hq]at hsuc;have hat:=yXh m' w hsm';have hput:=yXq (L:=q.1) (n:=x.yR3.length) (m:=m') T.len;simp only[yR6.enc]at hput;have htk:List.take (q.1.length+1) (q.1.map yR6.enc++[[.b m'.yRT.Up,.sl 1 (m'.yRT.Rows.map jE),.i m'.Place]])=q.1.map yR6.enc++[[.b m'.yRT.Up,.sl 1 (m'.yRT.Rows.map jE),.i m'.Place]]:=List.take_of_length_le (by simp)
   have hal:q.2.2.length<=2000:=by
    have e1:=LS.arr.1;have e2:(ms.take i).length<=24:=by simp;omega
    omega
   rw[hA2]at hal;simp only[zah]at hal;have hl1:q.1.length<=24:=zaX LS.rest.1 (by simp;omega);rcases A2 with _|⟨t0,A2⟩
   all_goals
    try simp only[zaA]at hal
    simp -dsimp -implicitDefEqProofs [hm,gm,ilt,fC ilt,hw,gw,hr,gr,klt,klw,klr,hq,yTR,yUP,yUQ];refine yYo hcall (yaeT hw gw klw ?_);refine yYs hat ?_;cases hae:AtEnd m' w with
    |false=>
     have hs1:yS3 x k w q m'=(q.1++[m'],q.2):=by simp[yS3,hae]
     rw[hs1]at hsuc;simp -dsimp -implicitDefEqProofs [hge,gge,hrl,klt,em,hput,hq,yTR,yUP,yUQ];refine⟨by omega,by simp[setAt,hrl,klt],gB ilt hlen4,i+1,_,⟨ilt,by rw[hsuc];exact hA2⟩,by omega,?_⟩;apply aB<;>simp[Obj.leO,hsuc,htk,hput,hq,hrl]
    | true=>
     cases hu:m'.yRT.Up with
     | true=>
      by_cases k0:k=0
      .have hs1:yS3 x k w q m'=(q.1,q.2.1,q.2.2++[m'.yRT]):=by simp[yS3,hae,yTh,hu,k0]
       have z1:((k:Int)=0)=True:=by simp[k0]
       have z2:(k=0)=True:=by simp[k0]
       rw[hs1]at hsuc;simp -dsimp -implicitDefEqProofs [hu,z1,z2,hq,yTR,yUP,yUQ]
       first
        |(have hA3:q.2.2=x.yR9++[]:=hA2;refine⟨by omega,gB ilt hlen4,i+1,[m'.yRT],⟨ilt,by rw[hsuc];simp[hA3]⟩,by omega,?_⟩)
        |(have hA3:q.2.2=x.yR9++t0::A2:=hA2;refine⟨by omega,gB ilt hlen4,i+1,t0::(A2++[m'.yRT]),⟨ilt,by rw[hsuc];simp[hA3]⟩,by omega,?_⟩)
       apply aB<;>simp[Obj.leO,hsuc,hq,hrl,hu,zcl]
      .obtain⟨j,hj⟩:∃j,j=k-1:=⟨_,rfl⟩;have z1:((k:Int)=0)=False:=by simp;omega
       have z2:(k=0)=False:=by simp[k0]
       have ej:((k:Int)-1)=(j:Int):=by omega
       have hlj:yT7 k m'.yRT=j:=by simp[yT7,hu,hj]
       have hle:yTh x k m'.yRT=false:=by simp[yTh,hu,k0]
       obtain⟨wj,hwj⟩:∃wj,q.2.1[j]?=some wj:=⟨_,zab (by omega)⟩;have aw:=yXc hwj;simp only[yR8.enc]at aw;have gaw:=(zaa.1 aw).2;have jlt:j<x.yRX.length:=by omega
       have hcs:=(LS.works.2 wj (zac hwj)).2.2.1;have hgs:=@yVA q.2.1 j wj ⟨m'.yRT,x.Time,-1⟩ hwj;simp only[yR4.enc,hu]at hgs;have htk2:List.take (wj.Calls.length+1) (wj.Calls.map yR4.enc++[[.b true,.sl 1 (m'.yRT.Rows.map jE),.i x.Time,.i (-1)]])=wj.Calls.map yR4.enc++[[.b true,.sl 1 (m'.yRT.Rows.map jE),.i x.Time,.i (-1)]]:=List.take_of_length_le (by simp);have hput2:=hput;have htk3:=htk;simp only[hu]at hput2 htk3
       by_cases hroom:24<=wj.Calls.length
       .have z3:((24:Int)<=(wj.Calls.length:Int))=True:=by simp;omega
        have hs1:yS3 x k w q m'=(q.1++[m'],q.2):=by simp[yS3,hae,hle,hlj,noRoom,hwj,hroom]
        rw[hs1]at hsuc;simp -dsimp -implicitDefEqProofs [hu,z1,z2,z3,hq,yTR,yUP,yUQ,ej,aw,gaw,yUo,LL,jlt,hge,gge,hrl,klt,em];refine⟨by unfold inI;omega,λhlc=>⟨by omega,by simp[setAt,hrl,klt],gB ilt hlen4,i+1,_,⟨ilt,by rw[hsuc];exact hA2⟩,by omega,?_⟩⟩;apply aB<;>simp[Obj.leO,hsuc,htk3,hput2,hq,hrl]
       .have z3:((24:Int)<=(wj.Calls.length:Int))=False:=by simp;omega
        have hs1:yS3 x k w q m'=(q.1,yTE q.2.1 j ⟨m'.yRT,x.Time,-1⟩,q.2.2):=by simp[yS3,hae,hle,hlj,noRoom,hwj,hroom]
        rw[hs1]at hsuc;simp -dsimp -implicitDefEqProofs [hu,z1,z2,z3,hq,yTR,yUP,yUQ,ej,aw,gaw,yUo,LL,jlt];refine⟨by unfold inI;omega,λhlc=>?_⟩;refine yYo (yWR wj.Calls) ?_;simp -dsimp -implicitDefEqProofs [hq,aw,gaw,yUo,LL,jlt,ej];refine⟨by omega,gB ilt hlen4,i+1,_,⟨ilt,by rw[hsuc];exact hA2⟩,by omega,?_⟩;refine yVb 18 (k:=22) (v:=1) (by simp[htk2]) hgs ?_;apply aB<;>simp[Obj.leO,hsuc,hq,hrl,yTR,yUP,yUQ]
     | false=>
      by_cases k0:k+1=x.yRV.length
      .have hs1:yS3 x k w q m'=(q.1,q.2.1,q.2.2++[m'.yRT]):=by simp[yS3,hae,yTh,hu,k0]
       have z1:((k:Int)=(x.yRV.length:Int)-1)=True:=by simp;omega
       have z2:(k+1=x.yRV.length)=True:=by simp[k0]
       rw[hs1]at hsuc;simp -dsimp -implicitDefEqProofs [hu,z1,z2,hq,yTR,yUP,yUQ]
       first
        |(have hA3:q.2.2=x.yR9++[]:=hA2;refine⟨by omega,gB ilt hlen4,i+1,[m'.yRT],⟨ilt,by rw[hsuc];simp[hA3]⟩,by omega,?_⟩)
        |(have hA3:q.2.2=x.yR9++t0::A2:=hA2;refine⟨by omega,gB ilt hlen4,i+1,t0::(A2++[m'.yRT]),⟨ilt,by rw[hsuc];simp[hA3]⟩,by omega,?_⟩)
       apply aB<;>simp[Obj.leO,hsuc,hq,hrl,hu,zcl]
      .have z1:((k:Int)=(x.yRV.length:Int)-1)=False:=by simp;omega
       have z2:(k+1=x.yRV.length)=False:=by simp[k0]
       have hlj:yT7 k m'.yRT=k:=by simp[yT7,hu]
       have hle:yTh x k m'.yRT=false:=by simp[yTh,hu,k0]
       obtain⟨wj,hwj⟩:∃wj,q.2.1[k]?=some wj:=⟨_,zab (by omega)⟩;have aw:=yXc hwj;simp only[yR8.enc]at aw;have gaw:=(zaa.1 aw).2;have jlt:k<x.yRX.length:=by omega
       have hcs:=(LS.works.2 wj (zac hwj)).2.2.1;have hgs:=@yVA q.2.1 k wj ⟨m'.yRT,x.Time,-1⟩ hwj;simp only[yR4.enc,hu]at hgs;have htk2:List.take (wj.Calls.length+1) (wj.Calls.map yR4.enc++[[.b false,.sl 1 (m'.yRT.Rows.map jE),.i x.Time,.i (-1)]])=wj.Calls.map yR4.enc++[[.b false,.sl 1 (m'.yRT.Rows.map jE),.i x.Time,.i (-1)]]:=List.take_of_length_le (by simp);have hput2:=hput;have htk3:=htk;simp only[hu]at hput2 htk3
       by_cases hroom:24<=wj.Calls.length
       .have z3:((24:Int)<=(wj.Calls.length:Int))=True:=by simp;omega
        have hs1:yS3 x k w q m'=(q.1++[m'],q.2):=by simp[yS3,hae,hle,hlj,noRoom,hwj,hroom]
        rw[hs1]at hsuc;simp -dsimp -implicitDefEqProofs [hu,z1,z2,z3,hq,yTR,yUP,yUQ,aw,gaw,yUo,LL,jlt,hge,gge,hrl,klt,em]
        refineλhlc=>⟨by omega,by simp[setAt,hrl,klt],gB ilt hlen4,i+1,_,⟨ilt,by rw[hsuc];exact hA2⟩,by omega,?_⟩
        apply aB<;>simp[Obj.leO,hsuc,htk3,hput2,hq,hrl]
       .have z3:((24:Int)<=(wj.Calls.length:Int))=False:=by simp;omega
        have hs1:yS3 x k w q m'=(q.1,yTE q.2.1 k ⟨m'.yRT,x.Time,-1⟩,q.2.2):=by simp[yS3,hae,hle,hlj,noRoom,hwj,hroom]
        rw[hs1]at hsuc;simp -dsimp -implicitDefEqProofs [hu,z1,z2,z3,hq,yTR,yUP,yUQ,aw,gaw,yUo,LL,jlt];intro hlc;refine yYo (yWR wj.Calls) ?_;simp -dsimp -implicitDefEqProofs [hq,aw,gaw,yUo,LL,jlt];refine⟨by omega,gB ilt hlen4,i+1,_,⟨ilt,by rw[hsuc];exact hA2⟩,by omega,?_⟩;refine yVb 18 (k:=22) (v:=1) (by simp[htk2]) hgs ?_;apply aB<;>simp[Obj.leO,hsuc,hq,hrl,yTR,yUP,yUQ]
  .have hts:=yUD hw hr hms;rw[List.take_of_length_le ige]at hq;rw[hq]at hts;refine yaeT (aG ige) hq (List.take_of_length_le ige) ?_;refine⟨gB klt hlen3,k+1,A2,⟨klt,by rw[hts];exact hA2⟩,by omega,?_⟩;rcases A2 with _|⟨t0,A2⟩<;>apply aB<;>simp[Obj.leO,hts,yXN,hq,List.take_of_length_le ige,yTR,yUP,yUQ]
 .obtain rfl:k=x.yR3.length:=by omega
  have hes:=yUr F hs;have hV:=yis (yTL x) hes;rw[yVX,hA]at hV;have htw:List.take x.yRX.length (wkR (ySW x x.yR3.length).2.1)=wkR (ySW x x.yR3.length).2.1:=List.take_of_length_le (by rw[yUo,T.yXM];omega);have hsw:=yWy (ySW x x.yR3.length).2.1;have hsr:=yXr (ySW x x.yR3.length).1;rw[T.len]at hsr;have htr:List.take x.yR3.length (yUx (ySW x x.yR3.length).1 x.yR3.length)=yUx (ySW x x.yR3.length).1 x.yR3.length:=List.take_of_length_le (by simp[yUx];have:=T.len;omega);have hwk:(ySW x x.yR3.length).2.1.map yR8.enc=wkR (ySW x x.yR3.length).2.1:=rfl;rw[hwk]at hV;rcases A with _|⟨t0,A⟩
  all_goals
   simp -dsimp -implicitDefEqProofs [aG kge,yTR,yUP,yUQ];refine mD (hV) (by simp -dsimp -implicitDefEqProofs [jA,htw,hsw,hsr,htr,yXo]) rfl ?_;cases hv:rC (yTL x)with
   |false=>
    have e:res=x:=by rw[<-hres];simp[yTd,hv]
    rw[e];exact goE_
   |true=>
    have e:res=yTL x:=by rw[<-hres];simp[yTd,hok,hv]
    rw[e];simp -dsimp -implicitDefEqProofs [yTL,hA,hwk,htw,hsw,hsr,htr,yXo,jA]
def yTH(x:yRW)(W mr:List (List C))(A:List yRT):List C:=[.i x.Time,.ow 3 (x.yRV.map Reach.enc),.ow 2 (x.ySl.map Way.enc),.ot 22 W,.ot 1 mr,.ow 2 (A.map yRT.enc),.ow 1 (x.ySd.map qC),.i x.yRZ.Base,.i x.yRZ.ySe,.ow 1 (x.yRZ.yR5.map qC),.ow 1 (x.yRZ.yR7.map qC),.ow 5 (x.Book.map ySb.enc),.ow 4 (x.yR1.map yR2.enc),.i x.Start,.i x.In,.i x.Out]
def wkE(W:List yR8):List (List C):=W.map wE
def yTi{W:List yR8}:(wkE W).length=W.length:=by simp[wkE]
def yXd{W:List yR8}{k:Nat}{w:yR8}(h:W[k]?=some w):(wkE W)[k]?=some (wE w):=by unfold wkE;rw[zat,h];rfl
def yXL(W:List yR8):yaq (wkE W)=some (W.map yR8.enc):=eF yK7 W
def yXm{W:List yR8}{j:Nat}{w:yR8}{c:yR4}(h:W[j]?=some w):setAt (setAt (wkE W) j 21 C.jk) j 21 (.ow 4 (w.Calls.map yR4.enc++[c.enc]))=wkE (yTE W j c):=by
 have hk:=yXd h;have kl:=(zaa.1 hk).1;have gl:=(zaa.1 hk).2
 have e:setAt (setAt (wkE W) j 21 C.jk) j 21 (.ow 4 (w.Calls.map yR4.enc++[c.enc]))=(wkE W).set j (wE ({w with Calls:=w.Calls++[c]}:yR8)):=by
  simp[setAt,gl,kl,wE,hk]
 rw[e];unfold yTE wkE;rw[h];simp only[zaP]
def yUu(x:yRW)(k:Nat)(t:yRT)(W:List yR8):List yR8:=if yTh x k t then W else if noRoom W (yT7 k t)then W else yTE W (yT7 k t) ⟨t,x.Time,-1⟩
def yU0(x:yRW)(k:Nat)(t:yRT)(A:List yRT):List yRT:=if yTh x k t then A++[t]else A
def yU3(x:yRW)(k:Nat)(t:yRT)(W:List yR8):Bool:=yTh x k t|| !noRoom W (yT7 k t)
def yTy(x:yRW)(w m a:Nat):List AV:=[.c (.i x.Time),.own 20000 3 x.yRV.length,.own 30000 2 x.ySl.length,.own 40000 22 w,.own 50000 1 m,.own 60000 2 a,.own 70000 1 x.ySd.length,.c (.i x.yRZ.Base),.c (.i x.yRZ.ySe),.own 100000 1 x.yRZ.yR5.length,.own 110000 1 x.yRZ.yR7.length,.own 120000 5 x.Book.length,.own 130000 4 x.yR1.length,.c (.i x.Start),.c (.i x.In),.c (.i x.Out)]
set_option maxRecDepth 20000 in
def yXt(x:yRW)(hF:ySM x)(k:Nat)(t:yRT)(W:List yR8)(mr:List (List C))(A:List yRT)(hk:k<x.yRV.length)(hWl:W.length=x.yRX.length)(hW:ycw W)(hA:A.length<=1000000):
 InF prg 191 (.c (.bx (yTH x (wkE W) mr A))) (.c (.bx (yTH x (wkE (yUu x k t W)) mr (yU0 x k t A)))) [.c (.i k),.agg (t.enc.map .c)] (.c (.b (yU3 x k t W))):=by
 have htw:List.take W.length (wkE W)=wkE W:=List.take_of_length_le (by rw[yTi];omega);have hta:List.take A.length (A.map yRT.enc)=A.map yRT.enc:=List.take_of_length_le (by simp);have f1:=hF.two;have f2:=hF.six;have f3:=hF.wks;refine ycN yV4 (by simp) (by simp[yTH]) rfl λhwf=>?_;cases hu:t.Up with
 | true=>
  by_cases k0:k=0
  .have z1:((k:Int)=0)=True:=by simp[k0]
   have z2:(k=0)=True:=by simp[k0]
   have hle:yTh x k t=true:=by simp[yTh,hu,k0]
   simp only[yUu,yU0,yU3,hle,if_true,Bool.true_or];simp -dsimp -implicitDefEqProofs [yTj,yTH,hu,z1,z2];refine⟨by omega,by simp -dsimp -implicitDefEqProofs,⟨yTy x (wkE W).length mr.length (A.length+1),[20000,30000,40000,50000,60000,70000,100000,110000,120000,130000],by simp -dsimp -implicitDefEqProofs [yTy],?_,by decide⟩,by simp -dsimp -implicitDefEqProofs⟩;simp -dsimp -implicitDefEqProofs [yTy,jA];exact List.take_of_length_le (by simp)
  .have z1:((k:Int)=0)=False:=by simp;omega
   have z2:(k=0)=False:=by simp[k0]
   have hle:yTh x k t=false:=by simp[yTh,hu,k0]
   obtain⟨j,hj⟩:∃j,j=k-1:=⟨_,rfl⟩;have ej:((k:Int)-1)=(j:Int):=by omega
   have hlj:yT7 k t=j:=by simp[yT7,hu,hj]
   obtain⟨wj,hwj⟩:∃wj,W[j]?=some wj:=⟨_,zab (by omega)⟩;have aw:=yXd hwj;simp only[wE]at aw;have gaw:=(zaa.1 aw).2;have jlt:j<x.yRX.length:=by omega
   have hcs:=(hW.2 wj (zac hwj)).2.2.1
   by_cases hroom:24<=wj.Calls.length
   .have z3:((24:Int)<=(wj.Calls.length:Int))=True:=by simp;omega
    have hnr:noRoom W j=true:=by simp[noRoom,hwj,hroom]
    simp only[yUu,yU0,yU3,hle,hlj,hnr,if_true,zbi,if_false,zcZ,zcY];simp -dsimp -implicitDefEqProofs [yTj,yTH,hu,z1,z2,z3,aw,gaw,yTi,hWl,jlt,ej];refine⟨by unfold inI;omega,λ_=>⟨by simp -dsimp -implicitDefEqProofs,⟨yTy x W.length mr.length A.length,[20000,30000,40000,50000,60000,70000,100000,110000,120000,130000],by simp -dsimp -implicitDefEqProofs [yTy,hWl,yTi],?_,by decide⟩,by simp -dsimp -implicitDefEqProofs⟩⟩;simp -dsimp -implicitDefEqProofs [yTy,jA,htw,hta]
   .have z3:((24:Int)<=(wj.Calls.length:Int))=False:=by simp;omega
    have hnr:noRoom W j=false:=by simp[noRoom,hwj,hroom]
    have htk:List.take (wj.Calls.length+1) (wj.Calls.map yR4.enc++[[.b true,.sl 1 (t.Rows.map jE),.i x.Time,.i (-1)]])=wj.Calls.map yR4.enc++[[.b true,.sl 1 (t.Rows.map jE),.i x.Time,.i (-1)]]:=List.take_of_length_le (by simp);simp only[yUu,yU0,yU3,hle,hlj,hnr,zbi,if_false,zdh,Bool.or_true];simp -dsimp -implicitDefEqProofs [yTj,yTH,hu,z1,z2,z3,aw,gaw,yTi,hWl,jlt,ej];have hput:=@yXm W j wj ⟨t,x.Time,-1⟩ hwj;simp only[yR4.enc,hu]at hput;refine⟨by unfold inI;omega,λ_=>⟨by omega,by simp[setAt,yTi,hWl,jlt],by simp -dsimp -implicitDefEqProofs,⟨yTy x W.length mr.length A.length,[20000,30000,40000,50000,60000,70000,100000,110000,120000,130000],by simp -dsimp -implicitDefEqProofs [yTy,hWl,yTi],?_,by decide⟩,by simp -dsimp -implicitDefEqProofs⟩⟩;simp -dsimp -implicitDefEqProofs [yTy,jA,htk,hput,hta];exact List.take_of_length_le (by rw[yTi,yTN];omega)
 | false=>
  by_cases k0:k+1=x.yRV.length
  .have z1:((k:Int)=(x.yRV.length:Int)-1)=True:=by simp;omega
   have z2:(k+1=x.yRV.length)=True:=by simp[k0]
   have hle:yTh x k t=true:=by simp[yTh,hu,k0]
   simp only[yUu,yU0,yU3,hle,if_true,Bool.true_or];simp -dsimp -implicitDefEqProofs [yTj,yTH,hu,z1,z2]
   refineλ_=>⟨by unfold inI;omega,by omega,by simp -dsimp -implicitDefEqProofs,⟨yTy x (wkE W).length mr.length (A.length+1),[20000,30000,40000,50000,60000,70000,100000,110000,120000,130000],by simp -dsimp -implicitDefEqProofs [yTy],?_,by decide⟩,by simp -dsimp -implicitDefEqProofs⟩
   simp -dsimp -implicitDefEqProofs [yTy,jA];exact List.take_of_length_le (by simp)
  .have z1:((k:Int)=(x.yRV.length:Int)-1)=False:=by simp;omega
   have z2:(k+1=x.yRV.length)=False:=by simp[k0]
   have hle:yTh x k t=false:=by simp[yTh,hu,k0]
   have hlj:yT7 k t=k:=by simp[yT7,hu]
   obtain⟨wj,hwj⟩:∃wj,W[k]?=some wj:=⟨_,zab (by omega)⟩;have aw:=yXd hwj;simp only[wE]at aw;have gaw:=(zaa.1 aw).2;have jlt:k<x.yRX.length:=by omega
   have hcs:=(hW.2 wj (zac hwj)).2.2.1
   by_cases hroom:24<=wj.Calls.length
   .have z3:((24:Int)<=(wj.Calls.length:Int))=True:=by simp;omega
    have hnr:noRoom W k=true:=by simp[noRoom,hwj,hroom]
    simp only[yUu,yU0,yU3,hle,hlj,hnr,if_true,zbi,if_false,zcZ,zcY];simp -dsimp -implicitDefEqProofs [yTj,yTH,hu,z1,z2,z3,aw,gaw,yTi,hWl,jlt]
    refineλ_=>⟨by unfold inI;omega,λ_=>⟨by simp -dsimp -implicitDefEqProofs,⟨yTy x W.length mr.length A.length,[20000,30000,40000,50000,60000,70000,100000,110000,120000,130000],by simp -dsimp -implicitDefEqProofs [yTy,hWl,yTi],?_,by decide⟩,by simp -dsimp -implicitDefEqProofs⟩⟩
    simp -dsimp -implicitDefEqProofs [yTy,jA,htw,hta]
   .have z3:((24:Int)<=(wj.Calls.length:Int))=False:=by simp;omega
    have hnr:noRoom W k=false:=by simp[noRoom,hwj,hroom]
    have htk:List.take (wj.Calls.length+1) (wj.Calls.map yR4.enc++[[.b false,.sl 1 (t.Rows.map jE),.i x.Time,.i (-1)]])=wj.Calls.map yR4.enc++[[.b false,.sl 1 (t.Rows.map jE),.i x.Time,.i (-1)]]:=List.take_of_length_le (by simp);simp only[yUu,yU0,yU3,hle,hlj,hnr,zbi,if_false,zdh,Bool.or_true];simp -dsimp -implicitDefEqProofs [yTj,yTH,hu,z1,z2,z3,aw,gaw,yTi,hWl,jlt];have hput:=@yXm W k wj ⟨t,x.Time,-1⟩ hwj;simp only[yR4.enc,hu]at hput
    refineλ_=>⟨by unfold inI;omega,λ_=>⟨by omega,by simp[setAt,yTi,hWl,jlt],by simp -dsimp -implicitDefEqProofs,⟨yTy x W.length mr.length A.length,[20000,30000,40000,50000,60000,70000,100000,110000,120000,130000],by simp -dsimp -implicitDefEqProofs [yTy,hWl,yTi],?_,by decide⟩,by simp -dsimp -implicitDefEqProofs⟩⟩
    simp -dsimp -implicitDefEqProofs [yTy,jA,htk,hput,hta];exact List.take_of_length_le (by rw[yTi,yTN];omega)
def yWE(m:yR6)(w:Way)(r:Reach)(hm:m.small):qB prg 189 [.agg (m.enc.map .c),.agg (w.enc.map .c),.agg (r.enc.map .c)] (.agg ((yS7 m w r).enc.map .c)):=by
 refine dB yV8 (goQ_ ?_);refine dD (yFb m hm) (goQ_ ?_);refine aA (yof m w hm) ?_;cases h1:xN m w with
 |false=>simp -dsimp -implicitDefEqProofs;simp[yS7,h1]
 | true=>
  refine goQ_ ?_;refine aA (qN r) ?_;cases h2:xE r with
  |false=>simp -dsimp -implicitDefEqProofs;simp[yS7,h2]
  | true=>
   refine goQ_ ?_;refine lC (yWC w r) (goQ_ ?_);refine lC (yWW m.yRT (yTp w r) hm) ?_;have hp:=yV0 m.yRT (yTp w r);have hf:=yVE h1;cases hu:m.yRT.Up with
   |true=>
    refine yafw hu ?_;refine⟨by unfold inI;omega,?_⟩;simp[yS7,h1,h2,yUF,hu]
   |false=>
    refine yafw hu ?_;refine⟨by unfold inI;omega,?_⟩;simp[yS7,h1,h2,yUF,hu]
def yTB(D M:List (List yR6)):List (List C):=(D++M).map nD
def yWQ{D M:List (List yR6)}{k:Nat}{l:List yR6}(hd:D.length=k)(h:M[0]?=some l):(yTB D M)[k]?=some [.sl 3 (l.map yR6.enc)]:=by
 subst hd;unfold yTB;rw[zat,zax (Nat.le_refl _),zca,h];rfl
def yWu(D M:List (List yR6)):yaq (yTB D M)=some (yTB D M):=ysh (D++M)
def yXu{D M:List (List yR6)}{k:Nat}{l L:List yR6}(hd:D.length=k)(h:M[0]?=some l):yaq (setAt (yTB D M) k 0 (.ow 3 (L.map yR6.enc)))=some (yTB (D++[L]) (M.drop 1)):=by
 have hk:=yWQ hd h;have kl:=(zaa.1 hk).1;have gl:=(zaa.1 hk).2;have e:setAt (yTB D M) k 0 (.ow 3 (L.map yR6.enc))=(yTB D M).set k [.ow 3 (L.map yR6.enc)]:=by simp[setAt,gl,kl,hk]
 rw[e,yBn (yWu D M) (s:=nD L) rfl k];subst hd;cases M with
 |nil=>cases h
 |cons a M=>
  unfold yTB;simp[zaB,zbP]
def yWF{x:yRW}{k:Nat}{w:Way}{q:yVr}{m:yR6}(h:AtEnd m w=true):yS3 x k w q m=(if yU3 x k m.yRT q.2.1 then q.1 else q.1++[m],yUu x k m.yRT q.2.1,yU0 x k m.yRT q.2.2):=by
 unfold yS3 yU3 yUu yU0;rw[if_pos h];cases yTh x k m.yRT with
 |true=>simp
 |false=>
  cases noRoom q.2.1 (yT7 k m.yRT)with
  |true=>simp
  |false=>simp
def xsS(x:yRW)(a:Nat):List AV:=[.c (.i x.Time),.own 20009 3 x.yRV.length,.own 30009 2 x.ySl.length,.own 40009 22 x.yRX.length,.own 50009 1 x.yR3.length,.own 60009 2 a,.own 70009 1 x.ySd.length,.c (.i x.yRZ.Base),.c (.i x.yRZ.ySe),.own 100009 1 x.yRZ.yR5.length,.own 110009 1 x.yRZ.yR7.length,.own 120009 5 x.Book.length,.own 130009 4 x.yR1.length,.c (.i x.Start),.c (.i x.In),.c (.i x.Out)]
set_option maxRecDepth 40000 in
def yWM(x:yRW)(hs:x.small):qB prg 76 [.agg (x.enc.map .c)] (.agg ((yTd x).enc.map .c)):=by
 have hco:=yEs x hs;simp only[yRW.yIh]at hco;have hW:=yc1 x hs;refine dB yVS (goQ_ ?_);refine qU hco (by simp) rfl (by simp[fD,em]) (goT_ ?_);refine yYq hW ?_;cases hok:rC x with
 |false=>
  have e:yTd x=x:=by simp[yTd,hok]
  rw[e];simp -dsimp -implicitDefEqProofs [jA,eF yHe,eF yK7]
 |true=>
 have F:=yCK hok;have f1:=F.two;have f2:=F.six;have f3:=F.ways;have f4:=F.mvs;have f5:=F.wks;obtain⟨res,hres⟩:∃r,yTd x=r:=⟨_,rfl⟩;rw[hres];refine goQ_ ?_;have hro0:yTB [] x.yR3=x.yR3.map nD:=by simp[yTB]
 refine qA (ι:=Nat) (λk=>k<=x.yR3.length) (λk=>xC [(1,.box 1 0),(2,.box 2 0),(3,.box 3 0),(4,.c (.i k))] [(1,.box (x.enc.map .c)),(2,zW),(3,.box (xsS x ((ySW x k).2.2).length)),(20009,.row 3 (x.yRV.map Reach.enc)),(30009,.row 2 (x.ySl.map Way.enc)),(40009,.tr 22 0 (wkE (ySW x k).2.1)),(50009,.tr 1 0 (yTB (ySW x k).1 (x.yR3.drop k))),(60009,.row 2 (((ySW x k).2.2).map yRT.enc)),(70009,.row 1 (x.ySd.map qC)),(100009,.row 1 (x.yRZ.yR5.map qC)),(110009,.row 1 (x.yRZ.yR7.map qC)),(120009,.row 5 (x.Book.map ySb.enc)),(130009,.row 4 (x.yR1.map yR2.enc))]) (λk=>x.yR3.length-k) 0 (by simp) (by refine yVb 50009 (k:=1) (v:=0) (rows:=x.yR3.map em) (by simp) (eF yHe x.yR3) ?_;apply aB<;>simp[Obj.leO,ySW,wkE,hro0,xsS]) ?_
 rintro k hk
 have T:=yTU F hs k hk;have hls:(yTB (ySW x k).1 (x.yR3.drop k)).length=x.yR3.length:=by simp[yTB,T.len];omega
 rcases zaq k x.yR3.length with klt|kge
 .obtain⟨w,hw⟩:∃w,x.ySl[k]?=some w:=⟨_,zab (by omega)⟩;obtain⟨r,hr⟩:∃r,x.yRV[k]?=some r:=⟨_,zab (by omega)⟩;obtain⟨ms,hms⟩:∃ms,x.yR3[k]?=some ms:=⟨_,zab (by omega)⟩;have gw:=(zaa.1 hw).2;have gr:=(zaa.1 hr).2;have klw:k<x.ySl.length:=by omega
  have klr:k<x.yRV.length:=by omega
  have hm0:(x.yR3.drop k)[0]?=some ms:=by rw[zbm];simpa using hms
  have hmr:=yWQ T.len hm0;have gmr:=(zaa.1 hmr).2;have hsm:∀m∈ms,m.small:=(hs.2.2.2.1.2 ms (zac hms)).2;have h24:=F.few k ms hms;have hll:ms.length<=maxLen:=by unfold maxLen;omega
  simp -dsimp -implicitDefEqProofs [fC klt,xsS];intro hlen;refine yX2 (λi=>i<=ms.length) (λi=>xC [(1,.box 1 0),(2,.box 2 0),(3,.box 3 0),(4,.c (.i k)),(5,.own 21 3 (yS4 x k w r (ySW x k).2 (ms.take i)).1.length),(6,.c (.i i))] [(1,.box (x.enc.map .c)),(2,zW),(3,.box (xsS x ((yS4 x k w r (ySW x k).2 (ms.take i)).2.2).length)),(20009,.row 3 (x.yRV.map Reach.enc)),(30009,.row 2 (x.ySl.map Way.enc)),(40009,.tr 22 0 (wkE (yS4 x k w r (ySW x k).2 (ms.take i)).2.1)),(50009,.tr 1 0 (yTB (ySW x k).1 (x.yR3.drop k))),(60009,.row 2 (((yS4 x k w r (ySW x k).2 (ms.take i)).2.2).map yRT.enc)),(70009,.row 1 (x.ySd.map qC)),(100009,.row 1 (x.yRZ.yR5.map qC)),(110009,.row 1 (x.yRZ.yR7.map qC)),(120009,.row 5 (x.Book.map ySb.enc)),(130009,.row 4 (x.yR1.map yR2.enc)),(21,.row 3 ((yS4 x k w r (ySW x k).2 (ms.take i)).1.map yR6.enc))]) (λi=>ms.length-i) (by apply aB<;>simp[Obj.leO,yS4,xsS]) ?_
  rintro i hi
  obtain⟨LS,LL⟩:=yU8 (w:=w) (r:=r) hs T (ms:=ms.take i) (λm h=>hsm m (zas h));obtain⟨q,hq⟩:∃q,yS4 x k w r (ySW x k).2 (ms.take i)=q:=⟨_,rfl⟩;rw[hq]at LS LL
  have hal:q.2.2.length<=2000:=by
   have e1:=LS.arr.1;have e2:(ms.take i).length<=24:=by simp;omega
   omega
  have hl1:q.1.length<=24:=zaX LS.rest.1 (by simp;omega);rcases yX1 i ms with⟨ilt,m,hm⟩|ige
  .have gm:=(zaa.1 hm).2;have hsuc:=yUW (x:=x) (k:=k) (w:=w) (r:=r) (s:=(ySW x k).2) hm;have hcall:=yWE m w r (hsm m (zac hm));have hsm':(yS7 m w r).small:=yT8 (hsm m (zac hm));obtain⟨m',hm'⟩:∃m',yS7 m w r=m':=⟨_,rfl⟩;rw[hm']at hsuc hcall hsm';rw[hq]at hsuc;have hat:=yXf m' w hsm';have htw2:List.take x.yRX.length (wkE q.2.1)=wkE q.2.1:=List.take_of_length_le (by rw[yTi];omega);have htm:List.take x.yR3.length (yTB (ySW x k).1 (x.yR3.drop k))=yTB (ySW x k).1 (x.yR3.drop k):=List.take_of_length_le (by rw[hls];exact Nat.le_refl _);simp -dsimp -implicitDefEqProofs [hq,hmr,gmr,hls,klt,fC ilt,hm,gm,ilt,hw,gw,hr,gr,klw,klr,xsS];intro hlen2;refine yYo hcall ?_;simp -dsimp -implicitDefEqProofs [hw,gw,klw,hls,klt,xsS,hq];refine yYr hat ?_;cases hae:AtEnd m' w with
   |false=>
    have hs1:yS3 x k w q m'=(q.1++[m'],q.2):=by simp[yS3,hae]
    rw[hs1]at hsuc;refine goQ_ ?_;refine yha (by simp -dsimp -implicitDefEqProofs) ?_;simp -dsimp -implicitDefEqProofs [xsS,hq];refine⟨by omega,gB ilt hlen2,i+1,ilt,by omega,?_⟩;apply aB<;>simp[Obj.leO,hsuc,hq,xsS]
   | true=>
    have hs1:=yWF (x:=x) (k:=k) (q:=q) hae;rw[hs1]at hsuc;refine goQ_ ?_;refine ynX (by simp -dsimp -implicitDefEqProofs) (λK2 hK2=>yfT 9 (xs:=xsS x q.2.2.length) (ids:=[20009,30009,40009,50009,60009,70009,100009,110009,120009,130009]) (yXt x F k m'.yRT q.2.1 (yTB (ySW x k).1 (x.yR3.drop k)) q.2.2 klr LL LS.works (by omega)) (by simp -dsimp -implicitDefEqProofs [xsS,hq]) (by simp -dsimp -implicitDefEqProofs [xsS,hq,yTH,jA,htw2,htm]) (by decide) (by simp -dsimp -implicitDefEqProofs) rfl rfl (by simp[fD,yTH]) hK2) ?_;have hlw:(yUu x k m'.yRT q.2.1).length=x.yRX.length:=by unfold yUu;split;exact LL;split;exact LL;rw[yTN];exact LL
    generalize yUu x k m'.yRT q.2.1=W' at *;generalize yU0 x k m'.yRT q.2.2=A' at *;generalize yU3 x k m'.yRT q.2.1=B' at *;cases B' with
    |true=>
     simp only[if_true]at hsuc;simp -dsimp -implicitDefEqProofs [yTH,xsS,hq,yTi,hlw,hls];refine⟨gB ilt hlen2,i+1,ilt,by omega,?_⟩;apply aB<;>simp[Obj.leO,hsuc,hq,xsS,yTH,yTi,hlw,hls]
    |false=>
     simp only[zbi,if_false]at hsuc;simp -dsimp -implicitDefEqProofs [yTH,xsS,hq,yTi,hlw,hls];refine⟨by omega,gB ilt hlen2,i+1,ilt,by omega,?_⟩;apply aB<;>simp[Obj.leO,hsuc,hq,xsS,yTH,yTi,hlw,hls]
  .have hts:=yUD hw hr hms;rw[List.take_of_length_le ige]at hq;rw[hq]at hts;have hpt:=yXu (L:=q.1) T.len hm0;have htq:List.take q.1.length (q.1.map yR6.enc)=q.1.map yR6.enc:=List.take_of_length_le (by simp);simp -dsimp -implicitDefEqProofs [hq,hmr,gmr,hls,klt,aG ige,List.take_of_length_le ige,xsS]
   refineλ_=>⟨gB klt hlen,k+1,klt,by omega,?_⟩
   refine yVb 50009 (k:=1) (v:=1) (by simp[htq]) hpt ?_;apply aB<;>simp[Obj.leO,hts,hq,xsS,List.take_of_length_le ige,zcv]
 .obtain rfl:k=x.yR3.length:=by omega
  have hes:=yUr F hs;have hV:=yc1 (yTL x) hes;rw[yVX]at hV;have hdr:x.yR3.drop x.yR3.length=[]:=zbY (Nat.le_refl _);have htw:List.take x.yRX.length (wkE (ySW x x.yR3.length).2.1)=wkE (ySW x x.yR3.length).2.1:=List.take_of_length_le (by rw[yTi,T.yXM];omega);have hsw:=yXL (ySW x x.yR3.length).2.1;rw[hdr]at hls;have hsr:=yWu (ySW x x.yR3.length).1 [];have htr:List.take x.yR3.length (yTB (ySW x x.yR3.length).1 [])=yTB (ySW x x.yR3.length).1 []:=List.take_of_length_le (by rw[hls];exact Nat.le_refl _);have hrm:yTB (ySW x x.yR3.length).1 []=(ySW x x.yR3.length).1.map nD:=by simp[yTB]
  simp -dsimp -implicitDefEqProofs [aG kge,xsS,hdr];intro _;rw[<-hrm]at hV;refine mD (hV) (by simp -dsimp -implicitDefEqProofs [jA,htw,hsw,hsr,htr]) rfl ?_;cases hv:rC (yTL x)with
  |false=>
   have e:res=x:=by rw[<-hres];simp[yTd,hv]
   rw[e];refine goQ_ ?_;refine qU hco (by simp) rfl (by simp[fD,em]) ?_;simp -dsimp -implicitDefEqProofs [jA,eF yHe,eF yK7]
  |true=>
   have e:res=yTL x:=by rw[<-hres];simp[yTd,hok,hv]
   rw[e];simp -dsimp -implicitDefEqProofs [yTL,<-hrm,htw,hsw,hsr,htr,jA]
def yWk{x:yRW}(hs:x.small):(yTd x).small:=by
 unfold yTd;split
 .rename_i h;simp only[zad]at h;exact yUr (yCK h.1) hs
 .exact hs
def yacb(x:yRW)(hs:x.small):nI prg 27 [.agg (x.enc.map .c)] (.agg ((yTd x).iD.map .c)):=by
 have hp:=yWk hs;have hpc:=yXp x hs;refine fF yabr (goQ_ ?_);refine dD hpc ?_;generalize yTd x=r at *;refine goQ_ ?_;refine yX3 (yuq r hp) (dP (yRW.aF r)) ?_;exact goU_
def yVG(x:yRW)(q:Int)(hl:x.small):qB prg 77 [.agg (x.enc.map .c),.c (.i q)] (.agg ((yS2 x q).enc.map .c)):=by
 have hl0:=hl;obtain⟨s1,s2,s3,s4,s5,s6,s7,s8,s9⟩:=hl;have s11:=s1.1;have s31:=s3.1;refine dB yVh (goQ_ ?_);have hco:=yWv x hl0;simp only[yRW.yXO]at hco;refine qU hco (by simp) rfl (by simp[fD,em]) (goT_ ?_);refine yYq (yc1 x hl0) ?_;cases h:rC x with
 |false=>simp -dsimp -implicitDefEqProofs [jA,eF yHe];simp[yU9,yTn,h]
 |true=>
 refine goQ_ ?_;refine yYq (bC q 0 1000000000) ?_;cases hq:inRange q 0 1000000000 with
 |false=>simp -dsimp -implicitDefEqProofs [jA,eF yHe];simp[yU9,yTn,hq]
 |true=>
 have hc:yTn x q=true:=by simp[yTn,h,hq]
 have hw:=yCL h;have pl:=yjV h;have p1:=pl.two;have p2:=pl.ways;have p3:=pl.wks;have e:yS2 x q=⟨x.Time,(stR x q).set (x.yRV.length-1) (yWH (stR x q) (stW x q) x.ySl (x.yRV.length-1)).1,x.ySl,stW x q,x.yR3,x.yR9,x.ySd,x.yRZ,x.Book,x.yR1,x.Start,x.In,x.Out+(yWH (stR x q) (stW x q) x.ySl (x.yRV.length-1)).2⟩:=by simp[yS2,hc]
 rw[e];refine goQ_ ?_;refine yX2 (λk=>k<=x.yRX.length) (λk=>xC [(1,.c (.i q)),(2,.box 2 0),(4,.box 4 0),(5,.box 5 0),(6,.c (.i k))] [(2,.box (x.enc.map .c)),(4,zW),(5,.box [.c (.i x.Time),.own 20016 3 x.yRV.length,.own 30016 2 x.ySl.length,.own 40016 22 x.yRX.length,.own 50016 1 x.yR3.length,.own 60016 2 x.yR9.length,.own 70016 1 x.ySd.length,.c (.i x.yRZ.Base),.c (.i x.yRZ.ySe),.own 100016 1 x.yRZ.yR5.length,.own 110016 1 x.yRZ.yR7.length,.own 120016 5 x.Book.length,.own 130016 4 x.yR1.length,.c (.i x.Start),.c (.i x.In),.c (.i x.Out)]),(20016,.row 3 (yTw (ySX q x.yRV x.yRX k).1)),(40016,.row 22 (bM (ySX q x.yRV x.yRX k).2)),(30016,.row 2 (x.ySl.map Way.enc)),(50016,.tr 1 0 (x.yR3.map em)),(60016,.row 2 (x.yR9.map yRT.enc)),(70016,.row 1 (x.ySd.map qC)),(100016,.row 1 (x.yRZ.yR5.map qC)),(110016,.row 1 (x.yRZ.yR7.map qC)),(120016,.row 5 (x.Book.map ySb.enc)),(130016,.row 4 (x.yR1.map yR2.enc))]) (λk=>x.yRX.length-k) (by apply aB<;>simp[Obj.leO,ySX,yTw,bM,jA]) ?_
 rintro k hk
 obtain⟨l1,l2⟩:=yTG (q:=q) (rs:=x.yRV) (ws:=x.yRX) k;obtain⟨a1,a2,_,_⟩:=yUk (q:=q) s1 s3 (by omega) k hk;have hst1:(ySX q x.yRV x.yRX (k+1)).1=((ySX q x.yRV x.yRX k).1.set k (through q (ySX q x.yRV x.yRX k).1 (ySX q x.yRV x.yRX k).2 k).1).set (k+1) (through q (ySX q x.yRV x.yRX k).1 (ySX q x.yRV x.yRX k).2 k).2.1:=rfl;have hst2:(ySX q x.yRV x.yRX (k+1)).2=(ySX q x.yRV x.yRX k).2.set k (yUp (dW (ySX q x.yRV x.yRX k).2 k) (yTz q (ySX q x.yRV x.yRX k).1 (ySX q x.yRV x.yRX k).2 k)):=rfl;rcases zaq k x.yRX.length with klt|kge
 .obtain⟨rs2,hrs2⟩:∃r,(ySX q x.yRV x.yRX (k+1)).1=r:=⟨_,rfl⟩;obtain⟨ws2,hws2⟩:∃r,(ySX q x.yRV x.yRX (k+1)).2=r:=⟨_,rfl⟩;rw[hrs2]at hst1;rw[hws2]at hst2;generalize(ySX q x.yRV x.yRX k).1=rs at *;generalize(ySX q x.yRV x.yRX k).2=ws at *;have r1:=ye8 (rs:=rs) (k:=k) (by omega);have r2:=ye8 (rs:=rs) (k:=k+1) (by omega);have w1:=yi4 (ws:=ws) (k:=k) (by omega);have sr1:=a1.2 _ (zac r1);have sr2:=a1.2 _ (zac r2);have sw1:=a2.2 _ (zac w1);have hnw:yTz q rs ws k=yS9 (dW ws k).ySp (dW ws k).Rule (kD (dR rs k)) (kD (dR rs (k+1))) q:=rfl;have hth:through q rs ws k=ySZ (dR rs k) (dR rs (k+1)) (yTz q rs ws k):=rfl;rw[hth]at hst1;have hLT:=yVN (dR rs k) (dR rs (k+1)) (yTz q rs ws k) sr1 sr2;generalize yTz q rs ws k=nw at *;have ar1:=yUi r1;have ar2:=yUi r2;have aw1:=yt5 w1;generalize dR rs k=ra at *;generalize dR rs (k+1)=rb at *;generalize dW ws k=wk at *;generalize ySZ ra rb nw=LT at *;obtain⟨k',hk'⟩:∃k',k'=k+1:=⟨_,rfl⟩;have ek:((k:Int)+1)=(k':Int):=by omega
  rw[<-hk']at ar2 hst1;have sR:∀(rs:List Reach) (j:Nat) (r:Reach),(yTw rs).set j [.sl 2 (r.ySg.map ySc.enc),.i r.ySh,.sl 1 (r.ySk.map qC)]=yTw (rs.set j r):=λ_ _ _=>yUN;have sW:=yk6 (ws:=ws) (k:=k) (w:=yUp wk nw);rw[<-hst2]at sW;simp only[Reach.enc]at ar1 ar2;simp only[yR8.enc,yUp]at aw1 sW;have gr1:=(zaa.1 ar1).2;have gr2:=(zaa.1 ar2).2;have gw1:=(zaa.1 aw1).2;have n1:k<x.yRV.length:=by omega
  have n2:k'<x.yRV.length:=by omega
  simp -dsimp -implicitDefEqProofs [yTc,ygI,l1,l2,ar1,gr1,ar2,gr2,aw1,gw1,klt,fC klt,n1,n2,ek];intro hlen;refine nC (dN ra) (by simp -dsimp -implicitDefEqProofs [ar1,gr1,n1,yTc,l1]) (.inr rfl) ?_;simp -dsimp -implicitDefEqProofs [yTc,ygI,l1,l2,ar1,gr1,ar2,gr2,aw1,gw1,klt,n1,n2,ek];refine⟨by unfold inI;omega,?_⟩;refine nC (dN rb) (by simp -dsimp -implicitDefEqProofs [ar2,gr2,n2]) (.inr rfl) (yaeT aw1 gw1 klt ?_);have hSW:=yV6 wk.ySp wk.Rule (kD ra) (kD rb) q;rw[<-hnw]at hSW;refine nC (hSW) (by simp -dsimp -implicitDefEqProofs [aw1,gw1,klt]) (.inr rfl) ?_;have sW2:∀h,((bM ws).set k [.i wk.yR0.Length,.i wk.yR0.Width,.i wk.yR0.ySi,.i wk.yR0.ySj,.i wk.yR0.Base,.i wk.yR0.Area,.i wk.yR0.ySs,.i wk.yR0.ySn,.i wk.yR0.Gate,.sl 2 (wk.yR0.yRY.map yRT.enc),.i nw.ySu,.i nw.Open,.i nw.Step,.i nw.ySy,.i nw.Width,.i wk.Rule.Low,.i wk.Rule.High,.i wk.Rule.ySx,.sl 2 (wk.Pauses.map ySf.enc),.b wk.Turn.Up,.i wk.Turn.Count,.sl 4 (wk.Calls.map yR4.enc)])[k]'h=[.i wk.yR0.Length,.i wk.yR0.Width,.i wk.yR0.ySi,.i wk.yR0.ySj,.i wk.yR0.Base,.i wk.yR0.Area,.i wk.yR0.ySs,.i wk.yR0.ySn,.i wk.yR0.Gate,.sl 2 (wk.yR0.yRY.map yRT.enc),.i nw.ySu,.i nw.Open,.i nw.Step,.i nw.ySy,.i nw.Width,.i wk.Rule.Low,.i wk.Rule.High,.i wk.Rule.ySx,.sl 2 (wk.Pauses.map ySf.enc),.b wk.Turn.Up,.i wk.Turn.Count,.sl 4 (wk.Calls.map yR4.enc)]:=λh=>by rw[List.getElem_set_self]
  simp -dsimp -implicitDefEqProofs [yTc,ygI,l1,l2,ar1,gr1,ar2,gr2,aw1,gw1,klt,n1,n2,ek];refine⟨by unfold inI;omega,?_⟩;refine nC (hLT) (by simp -dsimp -implicitDefEqProofs [ar1,gr1,ar2,gr2,n1,n2,sW2,klt]) (.inl rfl) ?_;have hset:((yTw rs).set k [.sl 2 (LT.1.ySg.map ySc.enc),.i LT.1.ySh,.sl 1 (LT.1.ySk.map qC)]).set k' [.sl 2 (LT.2.1.ySg.map ySc.enc),.i LT.2.1.ySh,.sl 1 (LT.2.1.ySk.map qC)]=yTw rs2:=by rw[sR,sR,hst1]
  have hgs:∀(X:List C) (h),((yTw rs).set k X)[k']'h=[.sl 2 (rb.ySg.map ySc.enc),.i rb.ySh,.sl 1 (rb.ySk.map qC)]:=λX h=>by rw[zbM (by omega)];exact gr2
  simp -dsimp -implicitDefEqProofs [yTc,ygI,l1,l2,ar1,gr1,ar2,gr2,aw1,gw1,klt,n1,n2,ek,hset,sW,hgs];refine⟨by unfold inI;omega,k+1,klt,by omega,?_⟩;apply aB<;>simp[Obj.leO,hset,sW,hrs2,hws2,ek,hgs]
 .have hkn:k=x.yRX.length:=by omega
  subst hkn;have hR:(ySX q x.yRV x.yRX x.yRX.length).1=stR x q:=rfl;have hW:(ySX q x.yRV x.yRX x.yRX.length).2=stW x q:=rfl;rw[hR]at l1 a1;rw[hW]at l2 a2;rw[hR,hW];generalize stR x q=rs at *;generalize stW x q=ws at *;obtain⟨n,hn⟩:∃n,n=x.yRV.length-1:=⟨_,rfl⟩;have en:((x.yRV.length:Int)-1)=(n:Int):=by omega
  obtain⟨m,hm⟩:∃m,m=n-1:=⟨_,rfl⟩;have em:((n:Int)-1)=(m:Int):=by omega
  rw[<-hn];have r1:=ye8 (rs:=rs) (k:=n) (by omega);have w1:=yi4 (ws:=ws) (k:=m) (by omega);have hy:x.ySl[n]?=some (x.ySl.getD n default):=by rw[zaf,zab (by omega)];rfl
  have sr1:=a1.2 _ (zac r1);have hT:yWH rs ws x.ySl n=rG (dR rs n) (yS1 (dW ws m).ySp (kD (dR rs n)) 0) (fH (dR rs n).ySg (x.ySl.getD n default).Bed):=by rw[hm];rfl
  rw[hT];have ar1:=yUi r1;have aw1:=yt5 w1;generalize dR rs n=ra at *;generalize dW ws m=wk at *;generalize x.ySl.getD n default=wy at *;have gy:=(zaa.1 hy).2;have sR:∀(rs:List Reach) (j:Nat) (r:Reach),(yTw rs).set j [.sl 2 (r.ySg.map ySc.enc),.i r.ySh,.sl 1 (r.ySk.map qC)]=yTw (rs.set j r):=λ_ _ _=>yUN;simp only[Reach.enc]at ar1;simp only[yR8.enc]at aw1;have gr1:=(zaa.1 ar1).2;have gw1:=(zaa.1 aw1).2;have n1:n<x.yRV.length:=by omega
  have n2:m<x.yRX.length:=by omega
  have n3:n<x.ySl.length:=by omega
  simp -dsimp -implicitDefEqProofs [yTc,ygI,l1,l2,ar1,gr1,aw1,gw1,n1,n2,n3,hy,gy,en,em];intro hlen2 hlen3;refine⟨by unfold inI;omega,by unfold inI;omega,?_⟩;refine yYr (dN ra) (goQ_ ?_);refine nC (yUe wk.ySp (kD ra) 0) (by simp -dsimp -implicitDefEqProofs [aw1,gw1,gr1,n2]) (.inr rfl) (yaeV n3 hy gy en ?_);refine yYr (yxU ra.ySg wy.Bed) (goQ_ ?_);have hP:=yyN ra (yS1 wk.ySp (kD ra) 0) (fH ra.ySg wy.Bed) sr1;have hto:=ysn ra (yS1 wk.ySp (kD ra) 0) (fH ra.ySg wy.Bed);refine yYo hP ?_;generalize rG ra (yS1 wk.ySp (kD ra) 0) (fH ra.ySg wy.Bed)=z at *;have w5:=hw.out;simp -dsimp -implicitDefEqProofs [yTc,l1,n1,gr1,ar1,sR,en,jA,eF yHe];refine⟨by unfold inI;omega,?_,(List.take_of_length_le (by show(bM ws).length<=_;rw[ygI];omega)).symm⟩;rw[List.take_of_length_le (by rw[yTc,zbF];omega)];exact sR rs n z.1
def yabx(x:yRW)(q:Int)(hl:x.small):nI prg 29 [.agg (x.enc.map .c),.c (.i q)] (.agg ((yS0 x q).iD.map .c)):=by
 have hp:=yTM (q:=q) hl;have hpc:=yXU x q hl;refine fF yaar (goQ_ ?_);refine dD hpc ?_;generalize yS0 x q=r at *;refine goQ_ ?_;refine yX3 (yuq r hp) (dP (yRW.aF r)) ?_;exact goU_
def yWd(x:yRW)(q:Int)(hl:x.small):qB prg 78 [.agg (x.enc.map .c),.c (.i q)] (.agg ((yS0 x q).enc.map .c)):=by
 have hl0:=hl;obtain⟨s1,s2,s3,s4,s5,s6,s7,s8,s9⟩:=hl;have s11:=s1.1;refine dB yVy (goQ_ ?_);have hco:=yWv x hl0;simp only[yRW.yXO]at hco;refine qU hco (by simp) rfl (by simp[fD,em]) (goT_ ?_);refine aA (yc1 x hl0) ?_;cases h:rC x with
 |false=>simp -dsimp -implicitDefEqProofs [jA,eF yHe];simp[yUO,yTF,h]
 |true=>
 have ht:=yXn h;have hw:=yCL h;obtain⟨r0,rl,hrl⟩:=yWX h;simp -dsimp -implicitDefEqProofs [jA,eF yHe];refine⟨λht2=>?_,λht2=>?_⟩
 rotate_left
 .rw[yUO (by simp[yTF,ht2])];simp
 refine⟨λhq=>?_,λhq=>?_⟩
 .have:¬0<=q:=by omega
  rw[yUO (by simp[yTF,this])];simp
 have hc:yTF x q=true:=by simp[yTF,h,ht2,hq]
 have w1:=hw.start;have w2:=hw.inn;refine⟨by unfold inI;omega,by unfold inI;omega,by unfold inI;omega,λhp=>?_,λhp=>?_⟩
 .have hpi:yUd x q=true:=by simp[yUd];omega
  have hrs:yTo x q=dU r0 q::rl:=by simp[yTo,hpi,hrl,sent]
  have e:yS0 x q=⟨x.Time+1,(yTo x q).map yS8,x.ySl,x.yRX,x.yR3,x.yR9,x.ySd,x.yRZ,x.Book,x.yR1,x.Start,x.In+q,x.Out⟩:=by simp[yS0,hc,hpi]
  rw[e];have h00:x.yRV[0]?=some r0:=by rw[hrl];rfl
  have hg0:0<x.yRV.length:=by rw[hrl];simp
  have hset0:(x.yRV.map Reach.enc).set 0 (dU r0 q).enc=(yTo x q).map Reach.enc:=by rw[hrs,hrl];rfl
  have hr0:r0.small:=s1.2 r0 (by rw[hrl];simp);simp only[Reach.enc]at hset0;have g00:=(zaa.1 h00).2;refine yaeT h00 g00 hg0 ?_;refine bI (yAK r0 q hr0) (yaeV h00 g00 hg0 hset0 ?_);refine⟨by unfold inI;omega,?_⟩;refine yX2 (λk=>k<=x.yRV.length) (λk=>xC [(2,.box 2 0),(4,.box 4 0),(5,.box 5 0),(6,.c (.i k))] [(2,.box [.c (.i x.Time),.c (.sl 3 (x.yRV.map Reach.enc)),.c (.sl 2 (x.ySl.map Way.enc)),.c (.sl 22 (x.yRX.map yR8.enc)),.c (.sl 1 (x.yR3.map nD)),.c (.sl 2 (x.yR9.map yRT.enc)),.c (.sl 1 (x.ySd.map qC)),.c (.i x.yRZ.Base),.c (.i x.yRZ.ySe),.c (.sl 1 (x.yRZ.yR5.map qC)),.c (.sl 1 (x.yRZ.yR7.map qC)),.c (.sl 5 (x.Book.map ySb.enc)),.c (.sl 4 (x.yR1.map yR2.enc)),.c (.i x.Start),.c (.i x.In),.c (.i x.Out)]),(4,zW),(5,.box [.c (.i (x.Time+1)),.own 20008 3 x.yRV.length,.own 30008 2 x.ySl.length,.own 40008 22 x.yRX.length,.own 50008 1 x.yR3.length,.own 60008 2 x.yR9.length,.own 70008 1 x.ySd.length,.c (.i x.yRZ.Base),.c (.i x.yRZ.ySe),.own 100008 1 x.yRZ.yR5.length,.own 110008 1 x.yRZ.yR7.length,.own 120008 5 x.Book.length,.own 130008 4 x.yR1.length,.c (.i x.Start),.c (.i (x.In+q)),.c (.i x.Out)]),(20008,.row 3 (rsC (yTo x q) k)),(30008,.row 2 (x.ySl.map Way.enc)),(40008,.row 22 (x.yRX.map yR8.enc)),(50008,.tr 1 0 (x.yR3.map em)),(60008,.row 2 (x.yR9.map yRT.enc)),(70008,.row 1 (x.ySd.map qC)),(100008,.row 1 (x.yRZ.yR5.map qC)),(110008,.row 1 (x.yRZ.yR7.map qC)),(120008,.row 5 (x.Book.map ySb.enc)),(130008,.row 4 (x.yR1.map yR2.enc))]) (λk=>x.yRV.length-k) (by apply aB<;>simp[Obj.leO,yVf]) ?_
  rintro k hk
  have hrl2:(rsC (yTo x q) k).length=x.yRV.length:=by rw[yVP,yTx]
  rcases zaq k x.yRV.length with klt|kge
  .obtain⟨r,hr⟩:∃r,(yTo x q)[k]?=some r:=⟨_,zab (by rw[yTx];exact klt)⟩;have hrs2:=(yUz (q:=q) s1).2 r (zac hr);have hat:=yWL hr;have hset:=yVQ hr;simp only[Reach.enc]at hat hset;have hat2:=(zaa.1 hat).2;refine yaff hrl2 hat hat2 klt (fC klt) ?_;intro hlen;refine bI (yVB r hrs2) (yafq hrl2 hat hat2 klt (fC klt) hset ?_);refine⟨gB klt hlen,k+1,klt,by omega,?_⟩;apply aB<;>simp[Obj.leO,hset]
  .have hall:=yVR (rs:=(yTo x q)) (k:=k) (by rw[yTx];exact kge);simp -dsimp -implicitDefEqProofs [aG kge,hall,jA,eF yHe];intro _;exact(List.take_of_length_le (by simp[yTx])).symm
 .have hpi:yUd x q=false:=by simp[yUd];omega
  have hrs:yTo x q=x.yRV:=by simp[yTo,hpi]
  have e:yS0 x q=⟨x.Time+1,(yTo x q).map yS8,x.ySl,x.yRX,x.yR3,x.yR9,x.ySd,x.yRZ,x.Book,x.yR1,x.Start,x.In,x.Out⟩:=by simp[yS0,hc,hpi]
  rw[e,hrs];refine yX2 (λk=>k<=x.yRV.length) (λk=>xC [(2,.box 2 0),(4,.box 4 0),(5,.box 5 0),(6,.c (.i k))] [(2,.box [.c (.i x.Time),.c (.sl 3 (x.yRV.map Reach.enc)),.c (.sl 2 (x.ySl.map Way.enc)),.c (.sl 22 (x.yRX.map yR8.enc)),.c (.sl 1 (x.yR3.map nD)),.c (.sl 2 (x.yR9.map yRT.enc)),.c (.sl 1 (x.ySd.map qC)),.c (.i x.yRZ.Base),.c (.i x.yRZ.ySe),.c (.sl 1 (x.yRZ.yR5.map qC)),.c (.sl 1 (x.yRZ.yR7.map qC)),.c (.sl 5 (x.Book.map ySb.enc)),.c (.sl 4 (x.yR1.map yR2.enc)),.c (.i x.Start),.c (.i x.In),.c (.i x.Out)]),(4,zW),(5,.box [.c (.i (x.Time+1)),.own 20008 3 x.yRV.length,.own 30008 2 x.ySl.length,.own 40008 22 x.yRX.length,.own 50008 1 x.yR3.length,.own 60008 2 x.yR9.length,.own 70008 1 x.ySd.length,.c (.i x.yRZ.Base),.c (.i x.yRZ.ySe),.own 100008 1 x.yRZ.yR5.length,.own 110008 1 x.yRZ.yR7.length,.own 120008 5 x.Book.length,.own 130008 4 x.yR1.length,.c (.i x.Start),.c (.i x.In),.c (.i x.Out)]),(20008,.row 3 (rsC x.yRV k)),(30008,.row 2 (x.ySl.map Way.enc)),(40008,.row 22 (x.yRX.map yR8.enc)),(50008,.tr 1 0 (x.yR3.map em)),(60008,.row 2 (x.yR9.map yRT.enc)),(70008,.row 1 (x.ySd.map qC)),(100008,.row 1 (x.yRZ.yR5.map qC)),(110008,.row 1 (x.yRZ.yR7.map qC)),(120008,.row 5 (x.Book.map ySb.enc)),(130008,.row 4 (x.yR1.map yR2.enc))]) (λk=>x.yRV.length-k) (by apply aB<;>simp[Obj.leO,yVf]) ?_
  rintro k hk
  have hrl2:(rsC x.yRV k).length=x.yRV.length:=yVP;rcases yX1 k x.yRV with⟨klt,r,hr⟩|kge
  .have hrs2:=s1.2 r (zac hr);have hat:=yWL hr;have hset:=yVQ hr;simp only[Reach.enc]at hat hset;have hat2:=(zaa.1 hat).2;refine yaff hrl2 hat hat2 klt (fC klt) ?_;intro hlen;refine bI (yVB r hrs2) (yafq hrl2 hat hat2 klt (fC klt) hset ?_);refine⟨gB klt hlen,k+1,klt,by omega,?_⟩;apply aB<;>simp[Obj.leO,hset]
  .have hall:=yVR (rs:=x.yRV) (k:=k) (by exact kge);simp -dsimp -implicitDefEqProofs [aG kge,hall,jA,eF yHe]
def yTS(x:yRW)(q:Int):Bool:=rC x&& !decide (x.Time=1000000)&&inRange q 0 1000000000
def yTl(x:yRW):Nat->yRW
 |0=>x
 |k+1=>fQ (yTl x k) k
def yTY(x:yRW)(q:Int):yRW:=yTd (yS2 (yS0 x q) q)
def ySY(x:yRW)(q:Int):yRW:=if yTS x q then yTl (yTY x q) x.yRX.length else x
def yTK{x:yRW}(h:x.small):∀k,(yTl x k).small
 |0=>h
 |k+1=>ykL (yTK h k)
def yTJ{x:yRW}{q:Int}(h:x.small):(yTY x q).small:=yWk (yUC (yTM h))
def yXi{x:yRW}{q:Int}(h:x.small):(ySY x q).small:=by
 unfold ySY;split
 .exact yTK (yTJ h) _
 .exact h
def yXj{x:yRW}{k:Int}:(fQ x k).yRX.length=x.yRX.length:=by
 unfold fQ;split
 .unfold yeU;split
  .unfold qM yls;split
   .rfl
   .split<;>simp[rD,qJ]
  .split
   .unfold iK;split<;>simp[rD,oG]
   .split
    .unfold bH;split<;>simp[rD]
    .unfold xY;split<;>simp[rD]
 .rfl
def yWr{x:yRW}:∀k,(yTl x k).yRX.length=x.yRX.length
 |0=>rfl
 |k+1=>yXj.trans (yWr k)
def yXa{x:yRW}{q:Int}:(yTY x q).yRX.length=x.yRX.length:=by
 have h1:(yS0 x q).yRX=x.yRX:=by unfold yS0;split<;>rfl
 have h2:∀y:yRW,(yS2 y q).yRX.length=y.yRX.length:=λy=>by
  unfold yS2;split
  .exact(yTG (q:=q) (rs:=y.yRV) (ws:=y.yRX) y.yRX.length).2
  .rfl
 have h3:∀y:yRW,(yTd y).yRX.length=y.yRX.length:=λy=>by
  unfold yTd;split
  .rename_i hc;simp only[zad]at hc;have a:=(yjV hc.1).wks;have b:(yTL y).yRX.length+1=y.yRV.length:=(yjV hc.2).wks;omega
  .rfl
 unfold yTY;rw[h3,h2,h1]
def yXT(x:yRW)(q:Int)(hs:x.small):qB prg 61 [.agg (x.enc.map .c),.c (.i q)] (.agg ((ySY x q).enc.map .c)):=by
 have hp:=yXU x q hs;have hst:=yXQ (yS0 x q) q (yTM hs);have hsl:=yXp (yS2 (yS0 x q) q) (yUC (yTM hs));have hs4:=yTJ (q:=q) hs;have e1:yTd (yS2 (yS0 x q) q)=yTY x q:=rfl;rw[e1]at hsl;refine dB yWP (goQ_ ?_);refine yYq (yis x hs) ?_;cases h:rC x with
 |false=>simp -dsimp -implicitDefEqProofs;simp[ySY,yTS,h]
 |true=>
 refine goQ_ ?_;refine⟨λht=>?_,λht=>?_⟩
 rotate_left
 .simp[ySY,yTS,ht]
 refine yYq (iC q 0 1000000000) ?_;cases hq:inRange q 0 1000000000 with
 |false=>simp -dsimp -implicitDefEqProofs;simp[ySY,yTS,hq]
 |true=>
 have e:ySY x q=yTl (yTY x q) x.yRX.length:=by simp[ySY,yTS,h,ht,hq]
 rw[e];generalize yS0 x q=u at *;generalize yS2 u q=v at *;generalize yTY x q=z at *;refine goQ_ ?_;refine yYp hp (goQ_ ?_);refine yYp hst (goQ_ ?_);refine yYp hsl (goQ_ ?_);intro hlen;refine yX2 (λk=>k<=x.yRX.length) (λk=>xC [(4,.box 4 0),(5,.box 5 0),(29,.c (.i x.yRX.length)),(30,.c (.i k))] [(4,zW),(5,.box ((yTl z k).enc.map .c))]) (λk=>x.yRX.length-k) (by apply aB<;>simp[yTl]) ?_
 rintro k hk
 rcases zaq k x.yRX.length with klt|kge
 .have hc:=yaen (yTl z k) k (yTK hs4 k);have e2:yTl z (k+1)=fQ (yTl z k) k:=rfl;rw[<-e2]at hc;generalize yTl z (k+1)=z1 at *;refine yafw (fC klt) ?_;refine yYp hc (goQ_ ?_);refine⟨gB klt hlen,k+1,klt,by omega,?_⟩;have e3:yTl z (k+1)=z1:=e2.symm▸rfl;apply aB<;>simp[e3]
 .obtain rfl:k=x.yRX.length:=by omega
  exact yafA (aG kge)
def yYn(x:yRW)(q:Int)(hl:x.small):nI prg 19 [.agg (x.enc.map .c),.c (.i q)] (.agg ((ySY x q).iD.map .c)):=by
 have hp:=yXi (q:=q) hl;have hpc:=yXT x q hl;refine fF yYl (goQ_ ?_);refine dD hpc ?_;generalize ySY x q=r at *;refine goQ_ ?_;refine yX3 (yuq r hp) (dP (yRW.aF r)) ?_;exact goU_
def yVe(x:yRW)(q:Int)(hs:x.small):qB prg 31 [.agg (x.enc.map .c),.c (.i q)] (.agg ((ySY x q).enc.map .c)):=by
 have hco:qB prg 50 [.agg (x.enc.map .c)] (.agg (x.enc.map .c)):=(yDS x hs).pure (by simp[AV.shr,AV.yoE,dO,C.shr,eF yHe,show yaq (x.yRX.map yR8.enc)=some (x.yRX.map yR8.enc)from ycb x.yRX,yRW.qX]);have hp:=yWd x q hs;have hst:=yVG (yS0 x q) q (yTM hs);have hsl:=yWM (yS2 (yS0 x q) q) (yUC (yTM hs));have hs4:=yTJ (q:=q) hs;have hwm:=yXa (x:=x) (q:=q);have e1:yTd (yS2 (yS0 x q) q)=yTY x q:=rfl;rw[e1]at hsl;refine dB yUR (goQ_ ?_);refine yYq (yc1 x hs) ?_;cases h:rC x with
 |false=>
  have e:ySY x q=x:=by simp[ySY,yTS,h]
  rw[e];refine goQ_ ?_;refine yYp hco ?_;exact goE_
 |true=>
 refine goQ_ ?_;refine⟨λht=>?_,λht=>?_⟩
 rotate_left
 .have e:ySY x q=x:=by simp[ySY,yTS,ht]
  rw[e];refine yYp hco ?_;exact goE_
 refine yYq (bC q 0 1000000000) ?_;cases hq:inRange q 0 1000000000 with
 |false=>
  have e:ySY x q=x:=by simp[ySY,yTS,hq]
  rw[e];refine goQ_ ?_;refine yYp hco ?_;exact goE_
 |true=>
 have e:ySY x q=yTl (yTY x q) x.yRX.length:=by simp[ySY,yTS,h,ht,hq]
 rw[e];generalize yS0 x q=u at *;generalize yS2 u q=v at *;generalize yTY x q=z at *;refine goQ_ ?_;refine yYp hp (goQ_ ?_);refine yYp hst (goQ_ ?_);refine yYp hsl (goQ_ ?_);rw[<-hwm];refine yX2 (λk=>k<=z.yRX.length) (λk=>xC [(1,.c (.i q)),(2,.box 2 0),(4,.box 4 0),(5,.box 5 0),(6,.c (.i k))] [(2,.box (x.enc.map .c)),(4,zW),(5,.box ((yTl z k).enc.map .c))]) (λk=>z.yRX.length-k) (by apply aB<;>simp[yTl]) ?_
 rintro k hk
 have hwk:=yWr (x:=z) k;rcases zaq k z.yRX.length with klt|kge
 .have hc:=yvT (yTl z k) k (yTK hs4 k);have e2:yTl z (k+1)=fQ (yTl z k) k:=rfl;rw[<-e2]at hc;generalize yTl z (k+1)=z1 at *;refine yaed hwk (fC klt) ?_;intro hlen;refine yYp hc (goQ_ ?_);refine⟨gB klt hlen,k+1,klt,by omega,?_⟩;have e3:yTl z (k+1)=z1:=e2.symm▸rfl;apply aB<;>simp[e3]
 .obtain rfl:k=z.yRX.length:=by omega
  exact yafJ hwk (aG kge)
def yUn(x:yRW)(q:Int):Nat->yRW
 |0=>x
 |k+1=>ySY (yUn x q k) q
def yS6(x:yRW)(q n:Int):yRW:=if inRange n 0 2000 then yUn x q n.toNat else x
def yUq{x:yRW}{q:Int}(h:x.small):∀k:Nat,(yUn x q k).small
 |0=>h
 |k+1=>yXi (yUq h k)
def yabK{x:yRW}{q n:Int}(h:x.small):(yS6 x q n).small:=by
 unfold yS6;split
 .exact yUq h _
 .exact h
def yVv(x:yRW)(q n:Int)(hs:x.small):nI prg 15 [.agg (x.enc.map .c),.c (.i q),.c (.i n)] (.agg ((yS6 x q n).iD.map .c)):=by
 refine fF yU5 (goQ_ ?_);refine yYq (iC n 0 2000) ?_;cases hin:inRange n 0 2000 with
 |false=>
  have e:yS6 x q n=x:=by simp[yS6,hin]
  rw[e];refine goQ_ ?_;refine yX3 (yuq x hs) (dP (yRW.aF _)) ?_;exact goU_
 |true=>
 have hr:=aC.1 hin;obtain⟨m,rfl⟩:=zbI hr.1;have e:yS6 x q m=yUn x q m:=by simp[yS6,hin]
 rw[e];refine goQ_ ?_;refine yX2 (λk=>k<=m) (λk=>xC [(1,.c (.i q)),(3,.box 3 0),(6,.box 6 0),(9,.c (.i m)),(10,.c (.i k))] [(3,.box ((yUn x q k).enc.map .c)),(6,zW)]) (λk=>m-k) (by apply aB<;>simp[yUn]) ?_
 rintro k hk
 have sk:=yUq (q:=q) hs k;rcases zaq k m with klt|kge
 .have hc:=yXT (yUn x q k) q sk;have e:yUn x q (k+1)=ySY (yUn x q k) q:=rfl;rw[<-e]at hc;generalize yUn x q (k+1)=v at *;refine yafw (fC klt) ?_;refine yYp hc (goQ_ ?_);refine⟨by unfold inI;omega,k+1,klt,by omega,?_⟩;have e2:yUn x q (k+1)=v:=e.symm▸rfl;apply aB<;>simp[e2]
 .obtain rfl:k=m:=by omega
  refine yafw (aG kge) ?_;refine yX3 (yuq _ sk) (dP (yRW.aF _)) ?_;exact goU_
def yabs{α β:Type}{f:α->List β}{b:α}:∀{l:List α} {k:Nat} {a:α},l[k]?=some a->f b=f a->(l.set k b).flatMap f=l.flatMap f
 |[],_,_,h,_=>by cases h
 |c::l,0,a,h,e=>by
  obtain rfl:c=a:=by simpa using h
  simp[e]
 |c::l,k+1,a,h,e=>by
  have:=yabs (f:=f) (b:=b) (l:=l) (k:=k) (a:=a) (by simpa using h) e;simp[this]
def yabi{q:Int}{rs:List Reach}{ws:List yR8}:∀k:Nat,k<=ws.length->(ySX q rs ws k).2.flatMap yZy=ws.flatMap yZy
 |0,_=>rfl
 |k+1,hk=>by
  have ih:=yabi (q:=q) (rs:=rs) (ws:=ws) k (by omega);have l2:=(yTG (q:=q) (rs:=rs) (ws:=ws) k).2;rw[<-ih];exact yabs (yi4 (by omega)) rfl
def yacj{x:yRW}{q:Int}:yYP (yS2 x q)=yYP x:=by
 unfold yS2;split
 .have:=yabi (q:=q) (rs:=x.yRV) (ws:=x.yRX) _ (Nat.le_refl _);unfold yYP;simp only;rw[show(stW x q).flatMap yZy=x.yRX.flatMap yZy from this]
 .rfl
def yacr{x:yRW}{q:Int}:yYP (yS0 x q)=yYP x:=by
 unfold yS0;split<;>rfl
def yZR{α β:Type}{f:α->List β}{B n:Nat}{l:List α}(hl:l.length<=n)(h:∀a∈l,(f a).length<=B):(l.flatMap f).length<=n*B:=by
 have key:∀l:List α,(∀a∈l,(f a).length<=B)->(l.flatMap f).length<=l.length*B:=by
  intro l
  induction l with
  |nil=>intro _;simp
  |cons a l ih=>
   intro h;have h1:=h a (by simp);have h2:=ih λb hb=>h b (by simp[hb]);simp only[zaZ,zah,zaA,zbp,zcd];omega
 exact zaX (key l h) (zal _ hl)
def yabf(t:yRT):(lG t).length<=6:=by
 cases h:oC t with
 |true=>exact yx0 h
 |false=>unfold lG;rw[if_neg (by simp[h])];simp
def yaas{x:yRW}(h:rC x=true):(yYP x).length<=10000:=by
 have F:=yCK h
 have hw:∀w∈x.yRX,fJ w=true:=by
  have hh:=h;simp only[rC,sJ,zad,zae]at hh;exact hh.1.1.1.1.1.1.2.2
 have f1:=F.six;have f2:=F.mvs;have f3:=F.wks;have f4:=F.arr
 have a1:(x.yR3.flatMap yYR).length<=6*(24*6):=yZR (by omega) λl hl=>by
  obtain⟨k,hk⟩:=zbn.1 hl;exact yZR (F.few k l hk) λm _=>yabf m.yRT
 have a2:(x.yRX.flatMap yZy).length<=6*(24*6+8*6):=yZR (by omega) λw hm=>by
  have ok:=hw w hm;simp only[fJ,lF,Distinct,zad,decide_eq_true_eq]at ok;have b1:(w.Calls.flatMap yZc).length<=24*6:=yZR ok.1.2 λc _=>yabf c.yRT;have b2:(w.yR0.yRY.flatMap lG).length<=8*6:=yZR ok.1.1.1.1.1.1.2.1.1 λt _=>yabf t;unfold yZy;rw[zah];omega
 have a3:(x.yR9.flatMap lG).length<=500*6:=yZR f4 λt _=>yabf t;rw[yaai];omega
def Few(x:yRW):Prop:=(yYP x).length<=10000
def yaee{x:yRW}{k:Int}(h:Few x):Few (fQ x k):=by
 unfold fQ;split
 .rename_i hc;simp only[zad]at hc;exact yaas hc.2
 .exact h
def yacZ{x:yRW}(h:Few x):∀k,Few (yTl x k)
 |0=>h
 |k+1=>yaee (yacZ h k)
def yadu{x:yRW}{q:Int}(h:Few x):Few (yTY x q):=by
 unfold yTY yTd;split
 .rename_i hc;simp only[zad]at hc;exact yaas hc.2
 .unfold Few at h|-;rw[yacj,yacr];exact h
def yacl{x:yRW}{q:Int}(h:Few x):Few (ySY x q):=by
 unfold ySY;split
 .exact yacZ (yadu h) _
 .exact h
def yadd{x:yRW}{q:Int}(h:Few x):∀k,Few (yUn x q k)
 |0=>h
 |k+1=>yacl (yadd h k)
def yacm{x:yRW}{q:Int}{n:Nat}:∀m,yUn (yUn x q n) q m=yUn x q (n+m)
 |0=>rfl
 |m+1=>by
  show ySY (yUn (yUn x q n) q m) q=ySY (yUn x q (n+m)) q
  rw[yacm m]
def yaek{x:yRW}{n:Int}(h:0<=n/\n<20):yS6 (yS6 x 100 n) 100 (20-n)=yS6 x 100 20:=by
 obtain⟨m,rfl⟩:=zbI h.1;have r1:inRange (m:Int) 0 2000=true:=aC.2 (by omega);have r2:inRange (20-(m:Int)) 0 2000=true:=aC.2 (by omega);have r3:inRange 20 0 2000=true:=by decide
 have e:(20-(m:Int)).toNat=20-m:=by omega
 unfold yS6;rw[if_pos r1,if_pos r2,if_pos r3,e,yacm]
 congr 1
 simp;omega
def yadH{x:yRW}{q n:Int}(h:Few x):Few (yS6 x q n):=by
 unfold yS6;split
 .exact yadd h _
 .exact h
def yads{x:yRW}(h:rC x=true)(ht:x.Time=0):ySY x 100=yTl (yTd (yS2 (yS0 x 100) 100)) x.yRX.length:=by
 have r:inRange 100 0 1000000000=true:=by decide
 have hc:yTS x 100=true:=by simp[yTS,h,ht,r]
 unfold ySY;rw[if_pos hc];rfl
def yZg{f:Nat}{args:List AV}{y:yRW}(h:nI prg f args (.agg (y.iD.map .c))):qB prg f args (.agg (y.enc.map .c)):=
 h.pure (by simp[AV.shr,AV.yEj,AV.yoE,dO,C.shr,yRW.iD,eF Reach.bF,eF yR8.bF,eF oV,eF yRT.bF,eF yR2.bF])
def came{x0 x:yRW}{ts:List yRT}{t:yRT}{k:Nat}(h:Went x0 (ts.take k) x)(hs:x.small)(hk:ts[k]?=some t)(hok:∀t∈ts,oC t=true/\t.small)(hnd:(ts.flatMap lG).Nodup)(h8:ts.length<=8):
 yYL x t=(yYK x t,true)/\(yYK x t).small/\Went x0 (ts.take (k+1)) (yYK x t):=by
 have hmem:=zac hk;have klt:=(zaa.1 hk).1;obtain⟨hto,hts⟩:=hok t hmem;have hsub:∀t∈ts.take k,oC t=true:=λt h=>(hok t (zas h)).1;have hlk:(ts.take k).length<20:=by rw[zay];omega
 have htk:ts.take (k+1)=ts.take k++[t]:=by rw[zao,hk];rfl
 have hW:=yabM h hto hsub hlk;rw[<-htk]at hW
 have hnew:∀i∈lG t,i∉(ts.take k).flatMap lG:=by
  intro i hi hm
  have hdr:ts=ts.take k++t::ts.drop (k+1):=by
   have h1:ts.drop k=t::ts.drop (k+1):=by
    rw[zaD klt,(zaa.1 hk).2]
   rw[<-h1,zaw]
  rw[hdr,zbB,zbb]at hnd;exact hnd.2.2 i hm i (by simp only[zaZ,zaj];exact .inl hi) rfl
 exact⟨yadv h hto hsub hlk hnew,yZO (yZQ h.ok hto) hs hts,hW⟩
def yach(x0:List Nat):qB prg 5 [.c (.sl 1 (x0.map nenc))] (.c (.b true)):=by
 refine yQy yaaa λhwf=>?_;obtain⟨code,hcode⟩:=yadT (x:=x0) hwf.1;rw[hcode];clear hwf;refine goQ_ ?_;refine aA (big_c code) ?_
 by_cases hbig:1048576<code.length
 .have t1:(1048576<code.length)=True:=eq_true hbig;exact yafA t1
 .have t1:(1048576<code.length)=False:=eq_false hbig;refine yafw t1 ?_;have hD:=yabw code (by omega);obtain⟨hB,hBs,hF⟩:=yadB code (0,hash code);have hB:Bare (dwX code):=hB;have hBs:(dwX code).small:=hBs;have hT0:(dwX code).Time=0:=hF.time;obtain⟨⟨tok,_,tnd⟩,t8⟩:=yaev code;have ha:=yaec code 0;have hAt:=at_c code 0 (by omega);clear hF;generalize dwX code=x0 at *;generalize dwT code=ts at *;refine yYp hD (goQ_ ?_);refine qA (ι:=Nat×yRW) (λq=>q.1<=ts.length/\Went x0 (ts.take q.1) q.2/\q.2.small) (λq=>xC [(0,.c (.sl 1 (code.map yBD))),(3,.box 3 0),(4,.c (.sl 2 (ts.map yRT.enc))),(5,.c (.i q.1))] [(3,.box (q.2.enc.map .c))]) (λq=>ts.length-q.1) (0,x0) ⟨zbA _,yadR hB,hBs⟩ (by apply aB<;>simp) ?_
  rintro⟨k,x⟩ ⟨hk,hw,hs⟩
  simp only at hk hw hs;rcases yX1 k ts with⟨klt,t,ht⟩|kge
  .have gt:=(zaa.1 ht).2;obtain⟨e1,hs2,hw2⟩:=came hw hs ht tok tnd t8;have p1:=yaaY x t hs (tok t (zac ht)).2;rw[e1]at p1;generalize yYK x t=y at *;refine yaeV ht gt klt (fC klt) ?_;intro hm;refine yYo p1 (goQ_ ?_);refine⟨gB klt hm,k+1,y,⟨klt,hw2,hs2⟩,by omega,?_⟩;apply aB<;>simp
  .have:k=ts.length:=by omega
   subst this;rw[List.take_length]at hw;have hok:=hw.ok;have hT:x.Time=0:=by rw[hw.same];exact hT0
   have hfew:Few x:=yaas hok;clear hD hB hBs hT0 hw tok tnd t8;generalize atV code 0=a at *;obtain⟨n,hn⟩:∃n,a.tmod 20=n:=⟨_,rfl⟩;have hn2:0<=n/\n<20:=by rw[<-hn,zbK ha.1];omega
   have hR1:=yZg (yVv x 100 20 hs);have hR2:=yZg (yVv x 100 n hs);have hR3:=yZg (yVv (yS6 x 100 n) 100 (20-n) (yabK hs));rw[yaek hn2]at hR3;have hAs:(yS6 x 100 20).small:=yabK hs;have hAf:Few (yS6 x 100 20):=yadH hfew;have hM1:=yZg (yabx x 100 hs);have hM2:=yZg (yaaX (yS0 x 100) 100 (yTM hs));have hM3:=yZg (yacb (yS2 (yS0 x 100) 100) (yUC (yTM hs)));have hMs:(yTd (yS2 (yS0 x 100) 100)).small:=yWk (yUC (yTM hs));have hSt:=yads hok hT;have hD1:=yZg (yYn x 100 hs);have hD2:=yVe x 100 hs;have hDs:=yXi (q:=100) hs;have hDf:Few (ySY x 100):=yacl hfew;generalize yS6 x 100 20=A at *;generalize yS6 x 100 n=B at *;generalize yS0 x 100=M1 at *;generalize yS2 M1 100=M2 at *;generalize yTd M2=M at *;generalize ySY x 100=D at *;refine yafw (aG kge) ?_;intro hm;refine yYq hAt (yafw hn ?_);refine⟨by unfold inI;omega,?_⟩;refine yYp hR1 (goQ_ ?_);refine yYp hR2 (goQ_ ?_);refine⟨by unfold inI;omega,?_⟩;refine yYp hR3 (goQ_ ?_);refine yYp hM1 (goQ_ ?_);refine yYp hM2 (goQ_ ?_);refine yYp hM3 (goQ_ ?_);refine yX2 (λj=>j<=x.yRX.length) (λj=>xC [(3,.box 3 0),(7,.box 7 0),(8,.box 8 0),(9,.box 9 0),(10,.c (.i j))] [(3,.box (x.enc.map .c)),(7,.box (A.enc.map .c)),(8,.box (A.enc.map .c)),(9,.box ((yTl M j).enc.map .c))]) (λj=>x.yRX.length-j) (by apply aB<;>simp[yTl]) ?_
   rintro j hj
   rcases zaq j x.yRX.length with jlt|jge
   .have hW:=yZg (yvO (yTl M j) j (yTK hMs j));have e:fQ (yTl M j) j=yTl M (j+1):=rfl;rw[e]at hW;refine yafw (fC jlt) ?_;intro hm2;refine yYp hW (goQ_ ?_);refine⟨gB jlt hm2,j+1,jlt,by omega,?_⟩;apply aB<;>simp
   .have:j=x.yRX.length:=by omega
    subst this;rw[<-hSt];have hI:=yabz (yYP A) (yYP A);have hI2:=yabz (yYP D) (yYP D);have hE:=yabF A.Book A.Book;have hP1:=yZI A hAs (by unfold Few at hAf;omega);have hP2:=yZI D hDs (by unfold Few at hDf;omega);have hW1:=yaah A hAs;have hW2:=yaah D hDs;refine yafw (aG jge) ?_;intro hm2;refine yYp hD1 (goQ_ ?_);refine yYt hD2 (goQ_ ?_);refine yYt hP1 (goQ_ ?_);refine yYt hP1 (goQ_ ?_);refine yYs hI (goQ_ ?_);refine yYs hW1 (goQ_ ?_);refine yYs hW1 (goQ_ ?_);refine yYs hE (goQ_ ?_);refine yYt hP2 (goQ_ ?_);refine yYt hP2 (goQ_ ?_);refine yYs hI2 (goQ_ ?_);refine yYs hW2 (goQ_ ?_);refine yYs hW2 ?_;exact goE_
def yadJ{xs:List C}(h:Fits [.u] xs):∃n:Nat,xs=nenc n:=by
 obtain⟨c0,ys,rfl,h0,h⟩:=h.cons_inv;obtain rfl:=h.gW;obtain⟨n0,rfl⟩:=h0.u_inv;exact⟨n0,rfl⟩
def yaaE:ySS Rows.fnSplitRunSpec Tryz.f5.params.size:=by
 refine⟨rfl,λH ds h=>?_⟩
 match ds,h with
 |[d0],_=>rfl
def yZX:ySD prg Tryz.f5 (Tryz.f5.resultTypes.getD 0 0) [(false,[.sl [.u]])]:=
 ⟨yxg,by kernel_rfl,by kernel_rfl,by kernel_rfl,by kernel_rfl⟩
def yaao(os:Os)(started:os.Started)(H:Type)(enc:TypeId×Value->H):
 ReturnsInHanded {} Tryz.checked os 5 .any (Rows.fnSplitRunSpec.pre6 enc prg Tryz.f5 Rows.fnSplitRunRow.domain false) (Rows.fnSplitRunSpec.post enc prg Tryz.f5 false true false false):=by
 refine law_lifted (C:=Tryz.checked) yBc started (by kernel_rfl) Tryz.func5
  (ChangeSpec.witness6 (enc:=enc) (C:=Tryz.checked) false ⟨#[],#[.slice none 0 0],[]⟩ 8 (by kernel_rfl) (by kernel_rfl) (by kernel_rfl) (by kernel_rfl)) yaaE yZX ?_
 rintro avs ⟨a,avs0,rfl,ha,rfl⟩
 cases ha with
 |one h0=>
  obtain⟨x0,rfl⟩:=h0.tV nenc λxs h=>yadJ h;exact yach x0
def yaat:yvb prg 5 Tryz.f5 Rows.fnSplitRunSpec Rows.fnSplitRunRow=true:=by kernel_rfl
def yaaB:Tryz.pinned.checked.prog.funcNamed Rows.fnSplitRunRow.func=some 5:=by kernel_rfl
def yaaQ:Tryz.f5.isInstance Tryz.pinned.checked.prog Rows.fnSplitRunRow.origin Rows.fnSplitRunRow.targs:=(of_decide_eq_true (by kernel_rfl))
def yaaR:Tryz.f5.isWrapper Tryz.pinned.checked.prog Rows.fnSplitRunRow.wrapper Rows.fnSplitRunRow.mainSum:=by
 unfold Func.isWrapper;first|(rw[if_pos (by decide+kernel)];kernel_rfl)|(rw[if_neg (by decide+kernel)];exact⟨rfl,rfl⟩)
theorem FnSplitRun_holds:Rows.FnSplitRunSaid:=
 OpenClaim.holds_of_wide (p:=Tryz.pinned) (s:=Rows.fnSplitRunSpec) (c:=Rows.fnSplitRunRow) 5 Tryz.f5 rfl rfl rfl rfl rfl rfl rfl ⟨rfl,rfl,rfl,rfl,rfl⟩ rfl rfl rfl rfl rfl yaaB Tryz.func5
  (yDX yDP yaat ⟨rfl,rfl,rfl,rfl,rfl,rfl,rfl,rfl⟩) yaaQ yaaR (λos started H enc _=>yaao os started H enc)
end
end Go.Proofs.YtdadkiofenhnbaaGreat
