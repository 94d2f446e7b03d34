/- What functions answer, in plain Lean. -/
import Derived.Test.YtdadkiofenhnbaaGreatT9
set_option linter.all false
set_option maxRecDepth 100000
set_option maxHeartbeats 4000000
namespace Go.Proofs.YtdadkiofenhnbaaGreat
open Go.RowKit
noncomputable section
@[simp] def zzkc{id k:Nat}{r:List (List C)}:(AV.clip k r).fV id=.clip k r:=rfl
def yafy{n v:Int}:∀{l:List (Int×Int)} {j i:Nat} {v0:Int},yft n j l=some (i,v0)->∀m:Int,j<=i/\yft m j (yiC l (i-j) v)=if m=n then some (i,v)else yft m j l
 |[],j,i,v0,h,m=>by cases h
 | q::l,j,i,v0,h,m=>by
  simp only[yft]at h;split at h
  .rename_i e;cases h;refine⟨Nat.le_refl _,?_⟩;rw[zcc]
   show yft m j ((q.1,v)::l)=_
   simp only[yft]
   by_cases hm:m=q.1
   .rw[if_pos hm,if_pos (by omega)]
   .rw[if_neg hm,if_neg (by omega),if_neg hm]
  .rename_i e;obtain⟨h1,h2⟩:=yafy (v:=v) h m;refine⟨by omega,?_⟩;rw[show i-j=(i-(j+1))+1 by omega]
   show yft m j (q::yiC l (i-(j+1)) v)=_
   simp only[yft]
   by_cases hm:m=q.1
   .rw[if_pos hm,if_pos hm,if_neg (by omega)]
   .rw[if_neg hm,if_neg hm,h2]
def yafF{n:Int}:∀{l:List (Int×Int)} {j:Nat},yft n j l=none->∀m v:Int,yft m j (l++[(n,v)])=if m=n then some (j+l.length,v)else yft m j l
 |[],j,_,m,v=>by simp[yft]
 | q::l,j,h,m,v=>by
  simp only[yft]at h;split at h
  .cases h
  .rename_i e;have h2:=yafF h m v;simp only[zcw,yft,zar]
   by_cases hm:m=q.1
   .rw[if_pos hm,if_pos hm,if_neg (by omega)]
   .rw[if_neg hm,if_neg hm,h2,show j+1+l.length=j+(l.length+1) by omega]
def yahm{n v m:Int}{l:List (Int×Int)}:ytd m (yu0 n v l)=if m=n then v else ytd m l:=by
 unfold yu0;cases h:yft n 0 l with
 |some p=>
  have hq:=(yafy (v:=v) (l:=l) (j:=0) (i:=p.1) (v0:=p.2) h m).2;rw[zek]at hq;simp only;unfold ytd;rw[hq]
  by_cases hm:m=n
  .rw[if_pos hm,if_pos hm]
  .rw[if_neg hm,if_neg hm]
 |none=>
  simp only;unfold ytd;rw[yafF h m v]
  by_cases hm:m=n
  .rw[if_pos hm,if_pos hm]
  .rw[if_neg hm,if_neg hm]
@[simp] def leO_mps {a b:List (Int×Int)}:(Obj.mp a).leO (.mp b)=(a=b):=by
 show(Obj.mp a=Obj.mp b)=_
 simp
def yagW(kvs:List (Int×Int))(l:List Int):Prop:=∀n,ytd n kvs=(l.count n:Int)
def yahd:yagW [] []:=λn=>by simp[ytd,yft]
def yahj{kvs:List (Int×Int)}{l:List Int}{k:Nat}{a:Int}(h:yagW kvs (l.take k))(ha:l[k]?=some a):yagW (yu0 a (ytd a kvs+1) kvs) (l.take (k+1)):=by
 intro n;rw[yahm,h a,h n,zao,ha];simp only[zdr,zeg,List.count_singleton]
 by_cases e:n=a
 .subst e;simp
 .have e2:¬a=n:=λe3=>e e3.symm;simp[e,e2]
def yO(x:yRW):Bool:=decide ((yYP x).length=x.ySd.length)&&x.ySd.all λi=>decide ((yYP x).count i=1)
def yagR{x:yRW}{k:Nat}{i:Int}(h:x.ySd[k]?=some i)(hi:¬(yYP x).count i=1):yO x=false:=by
 have:=all_false (p:=λi=>decide ((yYP x).count i=1)) h (by simp[hi]);simp[yO,this]
def yadz(x:yRW)(hs:x.small)(hB:(yYP x).length<=1000000000):qB prg 24 [.agg (x.enc.map .c)] (.c (.b (yO x))):=by
 have hP:=yZI x hs hB;obtain⟨P,hPe⟩:∃P,yYP x=P:=⟨_,rfl⟩;have hno:=λk i=>yagR (x:=x) (k:=k) (i:=i);have hyes:yO x=(decide ((yYP x).length=x.ySd.length)&&x.ySd.all λi=>decide ((yYP x).count i=1)):=rfl;rw[hPe]at hP hB hno hyes;refine dB yafe (goQ_ ?_);refine yYp hP (goQ_ ?_);intro hlen1 hlen2
 by_cases he:P.length=x.ySd.length
 case neg=>
  have z1:((P.length:Int)=(x.ySd.length:Int))=False:=by simp;omega
  refine yaed z1 he ?_;rw[hyes];simp[he]
 have z1:((P.length:Int)=(x.ySd.length:Int))=True:=by simp[he]
 refine yaed z1 he ?_;intro _;refine qA (ι:=Nat×List (Int×Int)) (λq=>q.1<=P.length/\yagW q.2 (P.take q.1)) (λq=>xC [(1,.box 1 0),(2,.c (.b false)),(4,.mpr 17),(18,.c (.sl 1 (P.map qC))),(19,.c (.i x.ySd.length)),(20,.c (.i q.1))] [(1,.box (x.enc.map .c)),(17,.mp q.2)]) (λq=>P.length-q.1) (0,[]) ⟨by simp,yahd⟩ (by apply aB<;>simp) ?_
 rintro⟨k,kvs⟩ ⟨hk,ht⟩
 simp only at hk ht;rcases yX1 k P with⟨klt,a,ha⟩|kge
 .have ga:=(zaa.1 ha).2
  have hc:ytd a kvs<=1000000000/\0<=ytd a kvs:=by
   rw[ht a];have:=zdl (l:=P.take k) (a:=a);rw[zaA]at this;omega
  have ht2:=yahj ht ha;have klt2:k<x.ySd.length:=by omega
  refine yaff ha ga klt klt2 (fC klt2) ?_;refine⟨by unfold inI;omega,by unfold inI;omega,k+1,_,⟨klt,ht2⟩,by omega,?_⟩;apply aB<;>simp
 .have kge2:x.ySd.length<=k:=by omega
  rw[zae kge]at ht;refine yafw (aG kge2) ?_;intro _;refine yX4 (λk=>k<=x.ySd.length/\∀i∈x.ySd.take k,decide (P.count i=1)=true) (λk=>xC [(1,.box 1 0),(2,.c (.b false)),(4,.mpr 17),(30,.c (.sl 1 (x.ySd.map qC))),(31,.c (.i x.ySd.length)),(32,.c (.i k))] [(1,.box (x.enc.map .c)),(17,.mp kvs)]) (λk=>x.ySd.length-k) ?_
  rintro j ⟨hj,hall⟩
  rcases yX1 j x.ySd with⟨jlt,i,hi⟩|jge
  .have gi:=(zaa.1 hi).2;have hti:=ht i
   by_cases hone:P.count i=1
   .have z2:ytd i kvs=1:=by rw[hti,hone];rfl
    have hall2:=lD (p:=λi=>decide (P.count i=1)) hi hall (by simp[hone]);refine yaff hi gi jlt (fC jlt) z2 ?_;refine⟨gB jlt hlen2,j+1,⟨jlt,by simpa using hall2⟩,by omega,?_⟩;apply aB<;>simp
   .have z2:(ytd i kvs=1)=False:=by rw[hti];simp;omega
    refine yaff hi gi jlt (fC jlt) z2 ?_;exact hno j i hi hone
  .have hall2:=dF (p:=λi=>decide (P.count i=1)) jge hall;refine yafw (aG jge) ?_;rw[hyes,hall2];simp[he]
def yafG(x:yRW)(hs:x.small)(hB:(yYP x).length<=1000000000):qB prg 64 [.agg (x.enc.map .c)] (.c (.b (yO x))):=by
 have hP:=yafI x hs hB;obtain⟨P,hPe⟩:∃P,yYP x=P:=⟨_,rfl⟩;have hno:=λk i=>yagR (x:=x) (k:=k) (i:=i);have hyes:yO x=(decide ((yYP x).length=x.ySd.length)&&x.ySd.all λi=>decide ((yYP x).count i=1)):=rfl;rw[hPe]at hP hB hno hyes;refine dB yaeZ (goQ_ ?_);refine yYp hP (goQ_ ?_);refine yX4 (λk=>k<=x.ySd.length/\∀i∈x.ySd.take k,decide (P.count i=1)=true) (λk=>xC [(1,.box 1 0),(2,.c (.b false)),(3,.c (.sl 1 (P.map qC))),(4,.c (.i k))] [(1,.box (x.enc.map .c))]) (λk=>x.ySd.length-k) ?_
 rintro j ⟨hj,hall⟩
 rcases yX1 j x.ySd with⟨jlt,i,hi⟩|jge
 .have gi:=(zaa.1 hi).2;refine yaeV hi gi jlt (fC jlt) ?_;intro hlen2;refine yYq (yadW P i) ?_
  by_cases hone:P.count i=1
  .have z2:((P.count i:Int)=1)=True:=by simp;omega
   have hall2:=lD (p:=λi=>decide (P.count i=1)) hi hall (by simp[hone]);refine yaed z2 hone ?_;refine⟨gB jlt hlen2,j+1,⟨jlt,by simpa using hall2⟩,by omega,?_⟩;apply aB<;>simp
  .have z2:((P.count i:Int)=1)=False:=by simp;omega
   refine yaed z2 hone ?_;exact hno j i hi hone
 .have hall2:=dF (p:=λi=>decide (P.count i=1)) jge hall;refine yafw (aG jge) ?_;intro hlen1 hlen2;rw[hyes,hall2]
  by_cases he:P.length=x.ySd.length
  .simp[he]
  .simp[he];omega
def yS(x:yRW):Bool:=rC x&&yN x&&yO x&&yaam x
def yafL(x:yRW)(hs:x.small)(hB:(yYP x).length<=1000000000):qB prg 16 [.agg (x.enc.map .c)] (.c (.b (yS x))):=by
 refine dB yafs (goQ_ ?_);refine yYq (yis x hs) ?_;cases h1:rC x with
 |false=>simp -dsimp -implicitDefEqProofs;simp[yS,h1]
 | true=>
  refine goQ_ ?_;refine yYq (yacK x hs) ?_;cases h2:yN x with
  |false=>simp -dsimp -implicitDefEqProofs;simp[yS,h2]
  | true=>
   refine goQ_ ?_;refine yYq (yadz x hs hB) ?_;cases h3:yO x with
   |false=>simp -dsimp -implicitDefEqProofs;simp[yS,h3]
   |true=>
    refine goQ_ ?_;refine yYq (yacU x hs) (goQ_ ?_);simp[yS,h1,h2,h3]
def yafN(x:yRW)(hs:x.small)(hB:(yYP x).length<=1000000000):qB prg 20 [.agg (x.enc.map .c)] (.c (.b (yS x))):=by
 refine dB yafr (goQ_ ?_);refine yYq (yc1 x hs) ?_;cases h1:rC x with
 |false=>simp -dsimp -implicitDefEqProofs;simp[yS,h1]
 | true=>
  refine goQ_ ?_;refine yYq (yafH x hs) ?_;cases h2:yN x with
  |false=>simp -dsimp -implicitDefEqProofs;simp[yS,h2]
  | true=>
   refine goQ_ ?_;refine yYq (yafG x hs hB) ?_;cases h3:yO x with
   |false=>simp -dsimp -implicitDefEqProofs;simp[yS,h3]
   |true=>
    refine goQ_ ?_;refine yYq (yafC x hs) (goQ_ ?_);simp[yS,h1,h2,h3]
def yZJ{t:yRT}(ht:oC t=true):lG t=t.qE.map yc0/\1<=(lG t).length/\(lG t).length<=6/\∀i∈lG t,inRange i 1 9999=true:=by
 have h:=ht;simp only[oC,zad,inRange,decide_eq_true_eq]at h;obtain⟨⟨⟨h1,h2⟩,h3⟩,h4,h5⟩:=h;have e:lG t=t.qE.map yc0:=by unfold lG;rw[if_pos ht]
 refine⟨e,by rw[e,zal];omega,by rw[e,zal];omega,λi hi=>?_⟩;rw[e]at hi;obtain⟨b,hb,rfl⟩:=zaP.1 hi;have:=zaf.1 h2 b hb;simp only[iL,zad]at this;exact this.1.1.1.1.1
def yacn{ws:List Way}{ms:List (List yR6)}(hl:ws.length=ms.length):(ws.zip ms).all jS=true↔∀(k:Nat) (w:Way) (l:List yR6),ws[k]?=some w->ms[k]?=some l->jS (w,l)=true:=by
 rw[zaf];constructor
 .intro h k w l hw hm;refine h (w,l) (zbd.2 ⟨k,?_⟩);rw[zbK];exact⟨hw,hm⟩
 .rintro h ⟨w,l⟩ hp
  obtain⟨k,hk⟩:=zbd.1 hp;rw[zbK]at hk;exact h k w l hk.1 hk.2
def yacq{x:yRW}(h:rC x=true):x.ySl.length=x.yRV.length/\x.yR3.length=x.yRV.length/\2<=x.yRV.length/\x.yRX.length+1=x.yRV.length/\(x.ySl.zip x.yR3).all jS=true:=by
 simp only[rC,zad]at h;obtain⟨⟨⟨⟨⟨⟨⟨h1,h2⟩,h3⟩,h4⟩,h5⟩,h6⟩,h7⟩,h8⟩:=h;simp only[sJ,zad,decide_eq_true_eq]at h2;obtain⟨⟨⟨⟨⟨⟨p1,p2⟩,p3⟩,p4⟩,p5⟩,p6⟩,p7⟩:=h2;exact⟨p3,p4,p2,p5,p6⟩
def yadx{x:yRW}{t:yRT}(h:rC x=true)(ht:oC t=true)(hroom:∀l∈x.yR3,l.length<24)(hent:x.ySd.length<=1900):rC (yYK x t)=true:=by
 obtain⟨b1,b2,b3,b4⟩:=yZJ ht;obtain⟨q1,q2,q3,q4,q5⟩:=yacq h;have F:=yZQ h ht;have hh:=h;simp only[rC,zad]at hh|-;obtain⟨⟨⟨⟨⟨⟨⟨h1,h2⟩,h3⟩,h4⟩,h5⟩,h6⟩,h7⟩,h8⟩:=hh;refine⟨⟨⟨⟨⟨⟨⟨h1,?_⟩,?_⟩,h4⟩,h5⟩,h6⟩,h7⟩,h8⟩
 .simp only[sJ,zad,decide_eq_true_eq]at h2|-;obtain⟨⟨⟨⟨⟨⟨p1,p2⟩,p3⟩,p4⟩,p5⟩,p6⟩,p7⟩:=h2;refine⟨⟨⟨⟨⟨⟨p1,p2⟩,p3⟩,by simp[yYK,oG];exact p4⟩,p5⟩,?_⟩,p7⟩;have hl1:x.ySl.length=x.yR3.length:=by omega
  have hl2:(yYK x t).ySl.length=(yYK x t).yR3.length:=by simp[yYK,oG];omega
  rw[yacn hl1]at p6;rw[yacn hl2];intro k w l hw hm;have hw':x.ySl[k]?=some w:=hw;have hm':(x.yR3.set (yZr x t) (x.yR3.getD (yZr x t) []++[⟨t,entP x t⟩]))[k]?=some l:=hm;rw[zaE]at hm';split at hm'
  .rename_i e;rw[if_pos F.kl]at hm';cases hm';obtain⟨l0,hl0⟩:∃l0,x.yR3[yZr x t]?=some l0:=⟨_,zab F.kl⟩;have hg:x.yR3.getD (yZr x t) []=l0:=by rw[zai,hl0];rfl
   rw[hg];have hold:=p6 k w l0 hw' (by rw[<-e];exact hl0);have hr:=hroom l0 (zac hl0);simp only[jS,zad,decide_eq_true_eq]at hold|-;obtain⟨⟨o1,o2⟩,o3⟩:=hold;refine⟨⟨o1,by simp;omega⟩,?_⟩;rw[zdP,o3];simp only[zdo,zdO,zcv,zaW,xN,o1,ht];have o1':=o1;simp only[ykM,inRange,zad,decide_eq_true_eq]at o1';unfold entP;split
   .rename_i hu;have hk:yZr x t=x.yRV.length-1:=by unfold yZr;rw[if_pos hu]
    rw[<-hk,e,zai,hw'];simp only[zbc,inRange,zad,decide_eq_true_eq];omega
   .simp only[inRange,zad,decide_eq_true_eq];omega
  .exact p6 k w l hw' hm'
 .simp only[pO,zad,decide_eq_true_eq]at h3|-;obtain⟨⟨⟨⟨⟨l1,l2⟩,l3⟩,l4⟩,l5⟩,l6⟩:=h3;refine⟨⟨⟨⟨⟨l1,by simp[yYK];omega⟩,l3⟩,l4⟩,?_⟩,l6⟩;simp only[yYK,zdP,l5,zaW];exact zaf.2 b4
def yahz{l:List Int}{i:Int}:l.Nodup->i∈l->l.count i=1:=by
 induction l with
 |nil=>intro _ h;cases h
 | cons a l ih=>
  intro hn hi;rw[zcC]at hn;rw[List.count_cons]
  by_cases e:a=i
  .subst e;rw[zdv.2 hn.1];simp
  .rcases zax.1 hi with e2|h
   .exact absurd e2.symm e
   .rw[ih hn.2 h];simp[e]
structure Bare(x:yRW):Prop where
 ok:rC x=true
 mv:∀l∈x.yR3,l=[]
 ent:x.ySd=[]
 arr:x.yR9=[]
 book:x.Book=[]
 pas:x.yR1=[]
 wk:∀w∈x.yRX,w.Calls=[]/\w.yR0.yRY=[]
 kept:yYN x+x.Out=x.Start+x.In
structure yaio(x:yRW):Prop where
 time:inRange x.Time 0 1000000=true
 ySA:jY x.yRV=true
 two:2<=x.yRV.length
 ways:x.ySl.length=x.yRV.length
 mvs:x.yR3.length=x.yRV.length
 wks:x.yRX.length+1=x.yRV.length
 lanes:∀(k:Nat) (w:Way) (l:List yR6),x.ySl[k]?=some w->x.yR3[k]?=some l->jS (w,l)=true
 works:∀w∈x.yRX,fJ w=true
 arr:x.yR9.length<=500
 ent:x.ySd.length<=2000
 pas:x.yR1.length<=500
 arrT:∀t∈x.yR9,oC t=true
 entI:∀n∈x.ySd,inRange n 1 9999=true
 pasO:∀p∈x.yR1,yt x.yRX.length p=true
 tar:nH x.yRZ=true
 book:kU x.Book=true
 start:inRange x.Start 0 1000000000=true
 inn:inRange x.In 0 1000000000=true
 out:inRange x.Out 0 1000000000=true
def yagk{x:yRW}:rC x=true↔yaio x:=by
 constructor
 .intro h;have hl:=yacq h;simp only[rC,sJ,pO,zad,decide_eq_true_eq,zaf]at h;obtain⟨⟨⟨⟨⟨⟨⟨h1,h2⟩,h3⟩,h4⟩,h5⟩,h6⟩,h7⟩,h8⟩:=h;obtain⟨⟨⟨⟨⟨⟨p1,p2⟩,p3⟩,p4⟩,p5⟩,p6⟩,p7⟩:=h2;obtain⟨⟨⟨⟨⟨l1,l2⟩,l3⟩,l4⟩,l5⟩,l6⟩:=h3;exact⟨h1,p1,p2,p3,p4,p5,(yacn (by omega)).1 hl.2.2.2.2,p7,l1,l2,l3,l4,l5,l6,h4,h5,h6,h7,h8⟩
 .intro h;have hl:=(yacn (ws:=x.ySl) (ms:=x.yR3) (by rw[h.ways,h.mvs])).2 h.lanes;have hw:x.yRX.all fJ=true:=zaf.2 h.works;have ha:x.yR9.all oC=true:=zaf.2 h.arrT;have he:(x.ySd.all λn=>inRange n 1 9999)=true:=zaf.2 h.entI;have hp:x.yR1.all (yt x.yRX.length)=true:=zaf.2 h.pasO;simp only[rC,sJ,pO,h.time,h.ySA,hl,hw,ha,he,hp,h.tar,h.book,h.start,h.inn,h.out,zad,decide_eq_true_eq,and_true,true_and];exact⟨⟨⟨⟨h.two,h.ways⟩,h.mvs⟩,h.wks⟩,⟨h.arr,h.ent⟩,h.pas⟩
def yait{x:yRW}{k:Nat}{w:yR8}(h:yaio x)(hw:fJ w=true):yaio (rD x k w):=
 { h with
  wks:=by show(x.yRX.set k w).length+1=_;rw[zbn];exact h.wks
  works:=λv hv=>by
   rcases zaK (show v∈x.yRX.set k w from hv)with e|e
   .exact h.works v e
   .rw[e];exact hw
  pasO:=λp hp=>by show yt (x.yRX.set k w).length p=true;rw[zbn];exact h.pasO p hp}
def yakP{x:yRW}{k:Nat}{r:Reach}(h:yaio x)(hr:jY (x.yRV.set k r)=true):yaio (qJ x k r):=
 {h with
  ySA:=hr
  two:=by show 2<=(x.yRV.set k r).length;rw[zbn];exact h.two
  ways:=by show _=(x.yRV.set k r).length;rw[zbn];exact h.ways
  mvs:=by show _=(x.yRV.set k r).length;rw[zbn];exact h.mvs
  wks:=by show _=(x.yRV.set k r).length;rw[zbn];exact h.wks}
def yakw{x:yRW}{k:Nat}{m:yR6}(h:yaio x)(hk:k<x.yR3.length)(hf:(x.yR3.getD k []).length<24)(hm:∀w,x.ySl[k]?=some w->xN m w=true):yaio (oG x k m):=
 { h with
  mvs:=by show(x.yR3.set k _).length=_;rw[zbn];exact h.mvs
  lanes:=λj w l hw hl=>by
   have hl':(x.yR3.set k (x.yR3.getD k []++[m]))[j]?=some l:=hl;rw[zaE]at hl';split at hl'
   .rename_i e;subst e
    try rw[if_pos hk]at hl'
    cases hl';obtain⟨l0,hl0⟩:∃l0,x.yR3[k]?=some l0:=⟨_,zab hk⟩;have hg:x.yR3.getD k []=l0:=by rw[zai,hl0];rfl
    rw[hg]at hf|-;have o:=h.lanes k w l0 hw hl0;simp only[jS,zad,decide_eq_true_eq,zdP,zdo,zdO,zcv,zah,zar,zbf]at o|-;exact⟨⟨o.1.1,by omega⟩,o.2,hm w hw⟩
   .exact h.lanes j w l hw hl'}
def aO(w:yR8)(i:Nat):yRT:=(w.Calls.getD i default).yRT
def bY(w:yR8)(r:Reach)(i:Nat):Bool:=lJ w.yR0 r (aO w i)
def placesTo(w:yR8)(r:Reach)(o:List Nat)(j:Nat):List Nat:=(o.take j).filter (bY w r)
def tC(w:yR8)(ps:List Nat):List yRT:=ps.map (aO w)
def yfE{w:yR8}{r:Reach}{o:List Nat}{j i:Nat}(h:o[j]?=some i):placesTo w r o (j+1)=if bY w r i then placesTo w r o j++[i]else placesTo w r o j:=by
 unfold placesTo;rw[zao,h,zcz];cases hm:bY w r i<;>simp[hm]
def ybs{w:yR8}{r:Reach}{o:List Nat}{j:Nat}:(placesTo w r o j).length<=o.length:=by
 refine zba (zbX _ _) ?_;rw[zaA];omega
def ydr{w:yR8}{ps:List Nat}:(tC w ps).length=ps.length:=by simp[tC]
def yCN{w:yR8}{r:Reach}{i:Nat}(h:bY w r i=true):(aO w i).Up=decide (w.yR0.Gate=2)/\oC (aO w i)=true:=by
 simp only[bY,lJ,zad,decide_eq_true_eq]at h;refine⟨?_,h.1.1.2⟩;rw[h.1.2];cases(aO w i).Up<;>simp[yaI]
def places(x:yRW)(k:Nat):List Nat:=placesTo (dW x.yRX k) (dR x.yRV (jM x k)) (kS (dW x.yRX k).Calls x.Time) (kS (dW x.yRX k).Calls x.Time).length
def yvB:(default:yR4).yRT.small:=⟨zbu _,λy hy=>nomatch hy⟩
def ya9{w:yR8}(h:oM w.Calls)(i:Nat):(aO w i).small:=by
 unfold aO;rw[zai];cases hci:w.Calls[i]? with
 |none=>exact yvB
 |some c=>exact h.2 c (zac hci)
def yxH{l:yR0}{q:List yRT}(hq:∀t∈q,t.small):(∀c∈sQ l q,c<q.length)/\(sQ l q).length<=8:=by
 unfold sQ;split
 .obtain⟨_,h2,h3⟩:=ykZ (l:=l) (q:=q) (n:=yau q) (top:=yrO (yau q)) hq (by unfold yau;omega) (by unfold yau;omega) (yrO (yau q));exact⟨λc hc=>by have:=h2 c hc;unfold yau at this;omega,h3⟩
 .simp
def yhn{w:yR8}{r:Reach}{o:List Nat}{j i:Nat}(h:i∈placesTo w r o j):i∈o/\bY w r i=true:=by
 obtain⟨h1,h2⟩:=zbE.1 h;exact⟨zaw h1,h2⟩
def xR(r:Reach)(l:yR0)(ts:List yRT):yR0:=ts.foldl (λl t=>(xH l r t).1) l
def aU(x:yRW)(ts:List yRT):List ySb:=ts.foldl (λb t=>(gJ b (jH x.yRZ t x.Time)).1) x.Book
def gZ(g:List Bool)(is:List Nat):List Bool:=is.foldl (λg i=>g.set i true) g
def nK(x:yRW)(k:Nat)(ts:List yRT):List yR2:=ts.map λt=>⟨x.Time,k,t⟩
def yqC{r:Reach}{l:yR0}{ts:List yRT}{t:yRT}:xR r l (ts++[t])=(xH (xR r l ts) r t).1:=by simp[xR]
def yqZ{x:yRW}{ts:List yRT}{t:yRT}:aU x (ts++[t])=(gJ (aU x ts) (jH x.yRZ t x.Time)).1:=by simp[aU]
def yqA{g:List Bool}{is:List Nat}{i:Nat}:gZ g (is++[i])=(gZ g is).set i true:=by simp[gZ]
def yhN{g:List Bool}:∀{is:List Nat},(gZ g is).length=g.length:=by
 intro is;unfold gZ
 induction is generalizing g with
 |nil=>rfl
 |cons i is ih=>rw[zbz,ih];simp
def mO(cs:List yR4)(g:List Bool)(k:Nat):List yR4:=((List.range k).filter λi=>!(g.getD i false)).map λi=>cs.getD i default
def yqL{cs:List yR4}{g:List Bool}{k:Nat}{c:yR4}(h:cs[k]?=some c):mO cs g (k+1)=if g.getD k false then mO cs g k else mO cs g k++[c]:=by
 unfold mO;rw[zdq,zcz];cases hg:g.getD k false<;>simp[zai]at hg|-<;>simp[hg,h]
def ymW{cs:List yR4}{g:List Bool}{k:Nat}:(mO cs g k).length<=k:=by
 unfold mO;rw[zal];exact zba (zbX _ _) (by simp)
def yBN{cs:List yR4}{g:List Bool}{k:Nat}(hk:k<=cs.length){p:yR4->Prop}(hp:∀c∈cs,p c):∀c∈mO cs g k,p c:=by
 intro c hc;obtain⟨i,hi,rfl⟩:=zaP.1 hc;have:=zaN.1 (zbE.1 hi).1;rw[zai,zab (by omega)];exact hp _ (zbo _)
def chosen(x:yRW)(k:Nat):List Nat:=sQ (dW x.yRX k).yR0 (tC (dW x.yRX k) (places x k))
def yeC(x:yRW)(k:Nat):Bool:=decide ((dW x.yRX k).yR0.yRY=[])&&bW (dW x.yRX k).Pauses x.Time&& !decide (chosen x k=[])
def yiZ(x:yRW)(k:Nat):List yRT:=qAt (tC (dW x.yRX k) (places x k)) (chosen x k)
def yyy(x:yRW)(k:Nat):List Bool:=gZ (List.replicate (dW x.yRX k).Calls.length false) ((chosen x k).map λc=>(places x k).getD c 0)
def yj(x:yRW)(k:Nat):yR8:=⟨(xR (dR x.yRV (jM x k)) (dW x.yRX k).yR0 (yiZ x k)).yra 0,(dW x.yRX k).ySp,(dW x.yRX k).Rule,(dW x.yRX k).Pauses,nY (dW x.yRX k).Turn ((yiZ x k).getD 0 ⟨false,[]⟩).Up,mO (dW x.yRX k).Calls (yyy x k) (dW x.yRX k).Calls.length⟩
def bH(x:yRW)(k:Nat):yRW×Bool:=
 if yeC x k then(rD ⟨x.Time,x.yRV,x.ySl,x.yRX,x.yR3,x.yR9,x.ySd,x.yRZ,aU x (yiZ x k),x.yR1++nK x k (yiZ x k),x.Start,x.In,x.Out⟩ k (yj x k),true)else(x,false)
def ypi(b:Bool):List C:=[.b b]
def ykm(x:yRW):List yRT->AV
 |[]=>.clip 4 (x.yR1.map yR2.enc)
 |t::ts=>.own 156 4 (x.yR1.length+(ts.length+1))
def yh3(x:yRW)(k:Nat):List yRT->Obj
 |[]=>.none
 |t::ts=>.row 4 ((x.yR1++nK x k (t::ts)).map yR2.enc)
def yIn(x:yRW)(ts:List yRT):List AV:=[.c (.i x.Time),.c (.sl 3 (x.yRV.map Reach.enc)),.c (.sl 2 (x.ySl.map Way.enc)),.c (.sl 22 (x.yRX.map yR8.enc)),.c (.sl 1 (x.yR3.map nD)),.c (.sl 2 (x.yR9.map yRT.enc)),.c (.sl 1 (x.ySd.map qC)),.c (.i x.yRZ.Base),.c (.i x.yRZ.ySe),.c (.sl 1 (x.yRZ.yR5.map qC)),.c (.sl 1 (x.yRZ.yR7.map qC)),.c (.sl 5 ((aU x ts).map ySb.enc)),ykm x ts,.c (.i x.Start),.c (.i x.In),.c (.i x.Out)]
def yAX{l:yR0}{r:Reach}{t:yRT}{n:Nat}(h:l.yRY.length<=n/\∀y∈l.yRY,y.small)(ht:t.small):(xH l r t).1.yRY.length<=n+1/\∀y∈(xH l r t).1.yRY,y.small:=by
 unfold xH;split
 .refine⟨by simp;omega,λy hy=>?_⟩;have hy:y∈l.yRY++[t]:=hy;rcases zaj.1 hy with e|e
  .exact h.2 y e
  .rw[zak.1 e];exact ht
 .exact⟨by simp only;omega,h.2⟩
def yZ{r:Reach}:∀(ts:List yRT) (l:yR0) (n:Nat),(l.yRY.length<=n/\∀y∈l.yRY,y.small)->(∀t∈ts,t.small)->(xR r l ts).yRY.length<=n+ts.length/\∀y∈(xR r l ts).yRY,y.small
 |[],l,n,h,_=>h
 |t::ts,l,n,h,ht=>by
  have h1:=yAX (r:=r) h (ht t (by simp));have h2:=yZ (r:=r) ts _ _ h1 λy hy=>ht y (by simp[hy]);have e:xR r l (t::ts)=xR r (xH l r t).1 ts:=rfl;rw[e,zar];exact⟨by omega,h2.2⟩
def ynk{x:yRW}:∀(n:Nat) (ts:List yRT),ts.length<=n->(aU x ts).length<=x.Book.length+12*ts.length:=by
 intro n
 have h:∀(ts:List yRT) (b:List ySb),(ts.foldl (λb t=>(gJ b (jH x.yRZ t x.Time)).1) b).length<=b.length+12*ts.length:=by
  intro ts
  induction ts with
  |nil=>intro b;simp
  |cons t ts ih=>
   intro b;have h1:=yrC b (jH x.yRZ t x.Time);have h2:=ycW x.yRZ t x.Time;have h3:=ih (gJ b (jH x.yRZ t x.Time)).1;rw[zbz,zar];omega
 exactλts _=>h ts x.Book
def yFG(es:List yR2):qB prg 290 [.c (.sl 4 (es.map yR2.enc))] (.clip 4 (es.map yR2.enc)):=by
 refine dB xX ?_;simp -dsimp -implicitDefEqProofs [sN,jA]
set_option maxHeartbeats 8000000 in
set_option maxRecDepth 40000 in
def ysl(x:yRW)(k:Nat)(hs:x.small)(F:ySq x k):qB prg 187 [.agg (x.enc.map .c),.c (.i k)] (.tup [.agg ((bH x k).1.enc.map .c),.c (.b (bH x k).2)]):=by
 have kw:=F.kw;have kr:=F.kr;have sw:=F.sw;have rl:=F.rl;have c24:=F.calls;have hw:=yi4 F.kw;have hsl:jM x k<x.yRV.length:=by unfold jM lI;split<;>omega
 have hr:=ye8 hsl;have hsr:=hs.1.2 _ (zac hr);have hSR:=yd4 k (yag x k) (by omega);have hsd:lI k (yag x k)=jM x k:=rfl;rw[hsd]at hSR;have hGA:yag x k=(dW x.yRX k).yR0.Gate:=rfl;rw[hGA]at hSR;obtain⟨R,hR⟩:∃R,bH x k=R:=⟨_,rfl⟩;rw[hR];unfold bH yeC yj yyy yiZ chosen places at hR;generalize jM x k=sd at *;generalize dR x.yRV sd=r at *;generalize dW x.yRX k=w at *;have gw:=(zaa.1 hw).2;have gr:=(zaa.1 hr).2;have hO:=yf8 w.Calls x.Time sw.2.2;have hol:=ygT (list:=w.Calls) (now:=x.Time);have hlt:=yjA (list:=w.Calls) (now:=x.Time);generalize kS w.Calls x.Time=o at *;refine dB ypN ?_;simp -dsimp -implicitDefEqProofs [ygE,hw,gw,kw,fC kw]
 by_cases hI:w.yR0.yRY=[]
 rotate_left
 .have i1:(0<w.yR0.yRY.length)=True:=eq_true (zbs.2 hI);have i2:(w.yR0.yRY=[])=False:=eq_false hI;rw[if_neg (by simp[hI])]at hR;subst hR;exact yafJ i1 i2
 have i1:(0<w.yR0.yRY.length)=False:=eq_false (by rw[hI];simp);have i2:(w.yR0.yRY=[])=True:=eq_true hI;refine yaed i1 i2 ?_;intro _;refine yYq (yAC w.Pauses x.Time) ?_;cases hop:bW w.Pauses x.Time with
 |false=>
  rw[if_neg (by simp[hop])]at hR;subst hR;exact goE_
 |true=>
 refine goQ_ ?_;refine yYr hSR (yaeT hr gr hsl ?_);refine qU hO (by simp) rfl (by simp[fD]) (goQ_ ?_);intro hlen;refine jX (k0:=1) 8 1 (by simp) (by simp) (by decide) ?_;refine jX (k0:=2) 9 2 (by simp) (by simp) (by decide) ?_;refine yX2 (λj=>j<=o.length) (λj=>xC [(1,.c (.i k)),(2,.box 2 0),(4,.box 4 0),(5,.c (.b false)),(6,.box 6 0),(7,.box 7 0),(8,.own 8 1 (placesTo w r o j).length),(9,.own 9 2 (placesTo w r o j).length),(53,.own 53 1 o.length),(54,.c (.i o.length)),(55,.c (.i j))] [(2,.box (x.enc.map .c)),(4,zW),(6,.box (w.enc.map .c)),(7,.box (r.enc.map .c)),(8,.row 1 ((placesTo w r o j).map kC)),(9,.row 2 ((tC w (placesTo w r o j)).map yRT.enc)),(53,.row 1 (o.map kC))]) (λj=>o.length-j) (by apply aB<;>simp[placesTo,tC]) ?_
 rintro j hj
 have hpl:=ybs (w:=w) (r:=r) (o:=o) (j:=j);have htl:=ydr (w:=w) (ps:=placesTo w r o j);rcases yX1 j o with⟨jlt,i,hi⟩|jge
 .have gi:=(zaa.1 hi).2;have il:=hlt i (zac hi);obtain⟨c,hc⟩:∃c,w.Calls[i]?=some c:=⟨_,zab il⟩;have gc:=(zaa.1 hc).2;have hca:aO w i=c.yRT:=by simp[aO,zai,hc]
  have hct:c.yRT.small:=sw.2.2.2 c (zac hc);have hps:=yfE (w:=w) (r:=r) hi;have hM:=ylM w.yR0 r c.yRT sw.1 hct;have hmc:lJ w.yR0 r c.yRT=bY w r i:=by unfold bY;rw[hca]
  rw[hmc]at hM;have hup:=yCN (w:=w) (r:=r) (i:=i);rw[hca]at hup;cases hm:bY w r i with
  |true=>
   rw[hm]at hM;rw[hm,if_pos rfl]at hps;have hup:=(hup hm).1;have upT:(c.yRT.Up=decide (w.yR0.Gate=2))=True:=eq_true hup;have e3:(placesTo w r o (j+1)).length=(placesTo w r o j).length+1:=by rw[hps,zah,zbN]
   have e4:(placesTo w r o (j+1)).map kC=(placesTo w r o j).map kC++[[C.i i]]:=by rw[hps];simp[kC]
   have e5:(tC w (placesTo w r o (j+1))).map yRT.enc=(tC w (placesTo w r o j)).map yRT.enc++[[C.b c.yRT.Up,C.sl 1 (c.yRT.Rows.map jE)]]:=by rw[hps];simp[tC,hca]
   simp -dsimp -implicitDefEqProofs [hi,gi,fC jlt,jlt,kC,hc,gc,il,upT];refine yYq hM (yafw htl ?_);refine⟨by omega,by omega,gB jlt hlen,j+1,jlt,by omega,?_⟩;apply aB<;>simp[e3,e4,e5]
  | false=>
   rw[hm]at hM;rw[hm,if_neg zbZ]at hps;simp -dsimp -implicitDefEqProofs [hi,gi,fC jlt,jlt,kC,hc,gc,il];refine⟨λ_=>?_,λ_=>?_⟩
   .have hM':=hM;refine yYq (hM') (goQ_ ?_);refine⟨gB jlt hlen,j+1,jlt,by omega,?_⟩;apply aB<;>simp[hps]
   .refine⟨gB jlt hlen,j+1,jlt,by omega,?_⟩;apply aB<;>simp[hps]
 .obtain rfl:j=o.length:=by omega
  have hPm:∀i∈placesTo w r o o.length,i<w.Calls.length:=λi hi=>hlt i (yhn hi).1;generalize placesTo w r o o.length=P at *
  have hqs:∀t∈tC w P,t.small:=λt ht=>by
   obtain⟨i,_,rfl⟩:=zaP.1 ht;exact ya9 sw.2.2 i
  have hB:=ysZ w.yR0 (tC w P) sw.1 hqs (by rw[htl];omega);obtain⟨hBm,hB8⟩:=yxH (l:=w.yR0) hqs;generalize sQ w.yR0 (tC w P)=B at *;have htk:List.take P.length ((tC w P).map yRT.enc)=(tC w P).map yRT.enc:=zae (by simp[htl]);refine yafw (aG jge) ?_;refine sD hB (by simp -dsimp -implicitDefEqProofs [htk]) (by simp[AV.closed,AV.jI,C.closed,kC]) (by simp[fD]) ?_
  by_cases hB0:B=[]
  .rw[if_neg (by simp[hB0])]at hR;subst hR;exact yafA hB0
  have b0:(B=[])=False:=eq_false hB0;have b1:((B.length:Int)=0)=False:=eq_false (by have:=zbs.2 hB0;omega);rw[if_pos (by simp[hI,hop,hB0])]at hR;refine yaed b0 b1 ?_;intro hlenB;refine yYp (yFG x.yR1) (goQ_ ?_)
  refineλhlenC=>⟨by omega,λhlenD=>?_⟩
  have hP8:=ybs (w:=w) (r:=r) (o:=o) (j:=o.length);have hts:∀j,(qAt (tC w P) (B.take j)).length<=j:=λj=>by simp[qAt];omega
  have htm:∀j,∀t∈qAt (tC w P) (B.take j),t.small:=λj=>yg0 hqs λy hy=>hBm y (zaw hy);refine yX2 (λj=>j<=B.length) (λj=>xC [(1,.c (.i k)),(2,.box 2 0),(4,.box 4 0),(5,.c (.b false)),(6,.box 6 0),(7,.box 7 0),(8,.own 8 1 P.length),(9,.own 9 2 P.length),(13,.own 91 1 B.length),(14,.box 14 0),(15,.own 104 1 w.Calls.length),(105,.own 91 1 B.length),(106,.c (.i B.length)),(107,.c (.i j))] [(2,.box (x.enc.map .c)),(4,zW),(6,.box ((rH w (xR r w.yR0 (qAt (tC w P) (B.take j)))).enc.map .c)),(7,.box (r.enc.map .c)),(8,.row 1 (P.map kC)),(9,.row 2 ((tC w P).map yRT.enc)),(91,.row 1 (B.map kC)),(14,.box (yIn x (qAt (tC w P) (B.take j)))),(104,.row 1 ((gZ (List.replicate w.Calls.length false) ((B.map λc=>P[c]?.getD 0).take j)).map ypi)),(156,yh3 x k (qAt (tC w P) (B.take j)))]) (λj=>B.length-j) (by apply aB<;>simp[Obj.leO,qAt,xR,aU,gZ,yIn,ykm,yh3,ypi]) ?_
  rintro j hj
  rcases yX1 j B with⟨jlt,c,hc⟩|jge2
  .have gc:=(zaa.1 hc).2;have cl:=hBm c (zac hc);rw[htl]at cl;obtain⟨p,hp⟩:∃p,P[c]?=some p:=⟨_,zab cl⟩;have gp:=(zaa.1 hp).2;have pl:=hPm p (zac hp);have htq:(tC w P)[c]?=some (aO w p):=by simp[tC,hp]
   have tsm:=ya9 sw.2.2 p;have hb1:B.take (j+1)=B.take j++[c]:=by rw[zao,hc];rfl
   have hq1:qAt (tC w P) (B.take (j+1))=qAt (tC w P) (B.take j)++[aO w p]:=by rw[hb1];exact ygs htq
   have hL1:=yqC (r:=r) (l:=w.yR0) (ts:=qAt (tC w P) (B.take j)) (t:=aO w p);have hK1:=yqZ (x:=x) (ts:=qAt (tC w P) (B.take j)) (t:=aO w p)
   have hG1:gZ (List.replicate w.Calls.length false) ((B.map λc=>P[c]?.getD 0).take (j+1))=(gZ (List.replicate w.Calls.length false) ((B.map λc=>P[c]?.getD 0).take j)).set p true:=by
    rw[<-zbl,<-zbl,hb1,zaD,List.map_singleton,yqA,hp];rfl
   have hgl:=yhN (g:=List.replicate w.Calls.length false) (is:=(B.map λc=>P[c]?.getD 0).take j);rw[zbW]at hgl;have hls:=yZ (r:=r) (qAt (tC w P) (B.take j)) w.yR0 1048 ⟨by rw[hI];simp,sw.1.2⟩ (htm j);have hbl:=ynk (x:=x) j (qAt (tC w P) (B.take j)) (hts j);have hts':=hts j;generalize qAt (tC w P) (B.take j)=ts at *;generalize gZ (List.replicate w.Calls.length false) ((B.map λc=>P[c]?.getD 0).take j)=G at *;have hbk:=F.book;have hE:=ytO (xR r w.yR0 ts) r (aO w p) ⟨by omega,hls.2⟩ tsm;have hTE:=ynv x.yRZ (aO w p) x.Time tsm;have hTl:=ycW x.yRZ (aO w p) x.Time;have hPE:=yol (aU x ts) (jH x.yRZ (aO w p) x.Time) (by omega) (by omega);generalize jH x.yRZ (aO w p) x.Time=te at *;generalize hEe:xH (xR r w.yR0 ts) r (aO w p)=EE at *;generalize gJ (aU x ts) te=PE at *;generalize aO w p=t at *;have gtq:=(zaa.1 htq).2;have ltq:c<(tC w P).length:=by rw[htl];exact cl
   have hpG:p<G.length:=by rw[hgl];exact pl
   obtain⟨gv,hgv⟩:∃gv,G[p]?=some gv:=⟨_,zab hpG⟩;have ggv:=(zaa.1 hgv).2;simp -dsimp -implicitDefEqProofs [fC jlt,jlt,hc,gc,kC,cl,htq,gtq,ltq];refine yYo hE ?_;simp -dsimp -implicitDefEqProofs [yIn,hc,gc,jlt,hp,gp,cl,pl,hgl,hpG,kC,htq,gtq,ltq];refine yYo hTE (goQ_ ?_);refine yYo hPE ?_;rcases ts with _|⟨t0,ts⟩
   .have hq1:qAt (tC w P) (B.take (j+1))=[t]:=hq1;have hL1:xR r w.yR0 [t]=EE.1:=hL1;have hK1:aU x [t]=PE.1:=hK1;have hpr:(nK x k [t]).map yR2.enc=[[C.i x.Time,C.i k,C.b t.Up,C.sl 1 (t.Rows.map jE)]]:=by simp[nK]
    simp -dsimp -implicitDefEqProofs [yIn,ykm,yh3,hc,gc,jlt,hp,gp,cl,kC,htq,gtq,ltq,hgv,ggv];refine⟨by have:=hs.2.2.2.2.2.2.2.2.1;omega,gB jlt hlenB,j+1,jlt,by omega,?_⟩;apply aB<;>simp[yIn,ykm,yh3,hpr,hq1,hL1,hK1,hG1,hgv,ggv,hpG,ypi,zaZ]
   .have hq1:qAt (tC w P) (B.take (j+1))=t0::(ts++[t]):=hq1;have hL1:xR r w.yR0 (t0::(ts++[t]))=EE.1:=hL1;have hK1:aU x (t0::(ts++[t]))=PE.1:=hK1;have hpl2:(nK x k (t0::ts)).length=ts.length+1:=by simp[nK]
    have hpl3:x.yR1.length+(nK x k (t0::ts)).length+1=x.yR1.length+(ts.length+1+1):=by omega
    have hpr:(nK x k (t0::(ts++[t]))).map yR2.enc=(nK x k (t0::ts)).map yR2.enc++[[C.i x.Time,C.i k,C.b t.Up,C.sl 1 (t.Rows.map jE)]]:=by simp[nK]
    simp only[zar]at hts';simp -dsimp -implicitDefEqProofs [yIn,ykm,yh3,hc,gc,jlt,hp,gp,cl,kC,htq,gtq,ltq,hgv,ggv];refine⟨hpl2.symm,by have:=hs.2.2.2.2.2.2.2.2.1;rw[hpl2];omega,gB jlt hlenB,j+1,jlt,by omega,?_⟩;apply aB<;>simp[yIn,ykm,yh3,hpr,hq1,hL1,hK1,hG1,hgv,ggv,hpG,hpl3,ypi,zaZ]
  .obtain rfl:j=B.length:=by omega
   obtain⟨ts,hT⟩:∃ts,qAt (tC w P) B=ts:=⟨_,rfl⟩;obtain⟨G,hG⟩:∃G,gZ (List.replicate w.Calls.length false) (B.map λc=>P[c]?.getD 0)=G:=⟨_,rfl⟩;have hgl:=yhN (g:=List.replicate w.Calls.length false) (is:=B.map λc=>P[c]?.getD 0);rw[zbW,hG]at hgl;have hls:=yZ (r:=r) ts w.yR0 1048 ⟨by rw[hI];simp,sw.1.2⟩ (by rw[<-hT];exact yg0 hqs hBm);have hts8:ts.length=B.length:=by rw[<-hT];simp[qAt]
   have e1:B.take B.length=B:=zby
   have e2:(B.map λc=>P[c]?.getD 0).take B.length=B.map λc=>P[c]?.getD 0:=zae (by simp);simp only[zai]at hR;rw[hT,hG]at hR;rw[e1,e2,hT,hG]
   obtain⟨t0,tl,hts⟩:∃t0 tl,ts=t0::tl:=by
    cases ts with
    |nil=>simp at hts8;exact absurd (zay.1 hts8.symm) hB0
    |cons a b=>exact⟨a,b,rfl⟩
   have hck:∀k0 t,w.Calls[k0]?=some t->mO w.Calls G (k0+1)=if G.getD k0 false then mO w.Calls G k0 else mO w.Calls G k0++[t]:=λk0 t h=>yqL h
   generalize hLI:xR r w.yR0 ts=LI at *;refine yafw (aG jge2) ?_;intro hlen3;refine jX (k0:=4) 18 4 (by simp) (by simp) (by decide) ?_;refine yX2 (λi=>i<=w.Calls.length) (λi=>xC [(1,.c (.i k)),(2,.box 2 0),(4,.box 4 0),(5,.c (.b false)),(6,.box 6 0),(9,.own 9 2 P.length),(13,.own 91 1 B.length),(14,.box 14 0),(15,.own 104 1 w.Calls.length),(18,.own 18 4 (mO w.Calls G i).length),(160,.c (.sl 4 (w.Calls.map yR4.enc))),(161,.c (.i w.Calls.length)),(162,.c (.i i))] [(2,.box (x.enc.map .c)),(4,zW),(6,.box ((rH w LI).enc.map .c)),(9,.row 2 ((tC w P).map yRT.enc)),(91,.row 1 (B.map kC)),(14,.box (yIn x ts)),(18,.row 4 ((mO w.Calls G i).map yR4.enc)),(104,.row 1 (G.map ypi)),(156,yh3 x k ts)]) (λi=>w.Calls.length-i) (by apply aB<;>simp[Obj.leO,mO,hts,yIn,ykm,yh3]) ?_
   rintro i hi
   have hll:=ymW (cs:=w.Calls) (g:=G) (k:=i);rcases yX1 i w.Calls with⟨ilt,c,hc⟩|ige
   .have gc:=(zaa.1 hc).2;obtain⟨gv,hgv⟩:∃gv,G[i]?=some gv:=⟨_,zab (by rw[hgl];exact ilt)⟩;have ggv:=(zaa.1 hgv).2;have igl:i<G.length:=by rw[hgl];exact ilt
    have hsu:=hck i c hc;rw[zai,hgv]at hsu;cases gv with
    |true=>
     rw[if_pos (by rfl)]at hsu;simp -dsimp -implicitDefEqProofs [fC ilt,ilt,hc,gc,hgv,ggv,igl,ypi];refine⟨gB ilt hlen3,i+1,ilt,by omega,?_⟩;apply aB<;>simp[hsu,hts,yIn,ykm,yh3]
    |false=>
     rw[if_neg (by simp)]at hsu;simp -dsimp -implicitDefEqProofs [fC ilt,ilt,hc,gc,hgv,ggv,igl,ypi];refine⟨by omega,gB ilt hlen3,i+1,ilt,by omega,?_⟩;apply aB<;>simp[hsu,hts,yIn,ykm,yh3]
   .obtain rfl:i=w.Calls.length:=by omega
    obtain⟨b0,hb0⟩:∃b0,B[0]?=some b0:=⟨_,zab (zbs.2 hB0)⟩;have gb0:=(zaa.1 hb0).2;have lb0:=(zaa.1 hb0).1;have lq0:=hBm b0 (zac hb0)
    have hq0:(tC w P)[b0]?=some t0:=by
     have h1:ts[0]?=some t0:=by rw[hts];rfl
     rw[<-hT]at h1;simp only[qAt,zau,hb0,zaT,Option.some.injEq,zai,zab lq0,zbc]at h1;rw[zab lq0,h1]
    have gq0:=(zaa.1 hq0).2;have lqP:b0<P.length:=by rw[<-htl];exact lq0
    have h0:ts[0]?.getD ⟨false,[]⟩=t0:=by rw[hts];rfl
    rw[h0]at hR;have hNT:=ywG w.Turn t0.Up;have hW1:=ycd ⟨x.Time,x.yRV,x.ySl,x.yRX,x.yR3,x.yR9,x.ySd,x.yRZ,aU x ts,x.yR1++nK x k ts,x.Start,x.In,x.Out⟩ k ⟨LI.yra 0,w.ySp,w.Rule,w.Pauses,nY w.Turn t0.Up,mO w.Calls G w.Calls.length⟩ hs.2.2.1.1 kw;generalize hNe:nY w.Turn t0.Up=NT at *;have hR:(rD ⟨x.Time,x.yRV,x.ySl,x.yRX,x.yR3,x.yR9,x.ySd,x.yRZ,aU x ts,x.yR1++nK x k ts,x.Start,x.In,x.Out⟩ k ⟨LI.yra 0,w.ySp,w.Rule,w.Pauses,NT,mO w.Calls G w.Calls.length⟩,true)=R:=hR;rw[<-hR];generalize rD ⟨x.Time,x.yRV,x.ySl,x.yRX,x.yR3,x.yR9,x.ySd,x.yRZ,aU x ts,x.yR1++nK x k ts,x.Start,x.In,x.Out⟩ k ⟨LI.yra 0,w.ySp,w.Rule,w.Pauses,NT,mO w.Calls G w.Calls.length⟩=W1 at *;generalize mO w.Calls G w.Calls.length=LC at *;have hpl2:(nK x k (t0::tl)).length=tl.length+1:=by simp[nK]
    subst hts;simp -dsimp -implicitDefEqProofs [aG ige,hb0,gb0,lb0,hq0,gq0,lq0,lqP,kC,yIn,ykm,yh3];refine yYr hNT ?_;simp -dsimp -implicitDefEqProofs [yIn,ykm,yh3];have htp:List.take (x.yR1.length+(tl.length+1)) (x.yR1.map yR2.enc++(nK x k (t0::tl)).map yR2.enc)=x.yR1.map yR2.enc++(nK x k (t0::tl)).map yR2.enc:=zae (by simp[hpl2]);refine yGz [18,156] hW1 (by simp -dsimp -implicitDefEqProofs [htp,jA]) rfl ?_;exact goE_
set_option maxRecDepth 20000 in
set_option maxHeartbeats 8000000 in
set_option maxRecDepth 40000 in
set_option maxRecDepth 20000 in
set_option maxHeartbeats 8000000 in
set_option maxRecDepth 40000 in
def oW{x:yRW}{k:Nat}{w:yR8}(h:x.small)(hw:yR8.small w):(rD x k w).small:=by
 obtain⟨s1,s2,s3,s4,s5,s6,s7,s8,s9⟩:=h;exact⟨s1,s2,yuN s3 hw,s4,s5,s6,s7,s8,s9⟩
def yq9{x:yRW}{k:Nat}{r:Reach}(h:x.small)(hr:r.small):(qJ x k r).small:=by
 obtain⟨s1,s2,s3,s4,s5,s6,s7,s8,s9⟩:=h;exact⟨yuN s1 hr,s2,s3,s4,s5,s6,s7,s8,s9⟩
def yfB{w:yR8}{l:yR0}(h:yR8.small w)(hl:l.small):yR8.small (rH w l):=⟨hl,h.2.1,h.2.2⟩
def ytT{l:yR0}{a b:Reach}{g:Int}(h:l.small):(tK l a b g).1.small:=by
 unfold tK;split<;>exact h
def yCw{l:yR0}{r:Reach}(h:l.small)(hr:r.small):(mM l r).1.small/\(mM l r).2.small:=by
 unfold mM;split
 .split
  .exact⟨h,hr⟩
  .exact⟨h,ywk hr⟩
 .exact⟨h,hr⟩
def yzD{l:yR0}{r:Reach}(h:l.small)(hr:r.small):(rJ l r).1.small/\(rJ l r).2.small:=by
 unfold rJ;split
 .split
  .exact⟨h,hr⟩
  .exact⟨h,yxR hr⟩
 .exact⟨h,hr⟩
def yrJ{x:yRW}{k:Nat}(h:x.small)(F:ySq x k):(qM x k).small:=by
 have sw:=F.sw;have kr:=F.kr;unfold qM;split
 .exact h
 .unfold yls;split
  .exact oW h (yfB sw (ytT sw.1))
  .generalize yan (dW x.yRX k) (ybZ x k)=g;have hsl:lI k g<x.yRV.length:=by unfold lI;split<;>omega
   have hr:=h.1.2 _ (zac (ye8 hsl))
   have hL:(jT (dW x.yRX k).yR0 (dR x.yRV (lI k g))).1.small/\(jT (dW x.yRX k).yR0 (dR x.yRV (lI k g))).2.small:=by
    unfold jT;split
    .exact yCw sw.1 hr
    .exact yzD sw.1 hr
   exact yq9 (oW h (yfB sw hL.1)) hL.2
def yuj{x:yRW}{k:Nat}(h:x.small)(F:ySq x k):(xY x k).small:=by
 have sw:=F.sw;unfold xY;split
 .exact oW h sw
 .exact oW h sw
def yrD{x:yRW}{k:Nat}(h:x.small)(F:ySq x k):(iK x k).1.small:=by
 have sw:=F.sw;unfold iK;split
 .have hT:(lW x k).1.small/\(lW x k).2.1.small:=by
   unfold lW sK;split
   .rename_i i _;refine⟨⟨?_,λy hy=>?_⟩,?_⟩
    .have:=sw.1.1;simp[yfI];omega
    .have hy:y∈yfI (dW x.yRX k).yR0.yRY i:=hy;unfold yfI at hy;rcases zaj.1 hy with e|e
     .exact sw.1.2 y (zaw e)
     .exact sw.1.2 y (zaO e)
    .simp only[zai];cases hi:(dW x.yRX k).yR0.yRY[i]? with
     |none=>exact⟨zbu _,λy hy=>nomatch hy⟩
     |some t=>exact sw.1.2 t (zac hi)
   .exact⟨sw.1,⟨zbu _,λy hy=>nomatch hy⟩⟩
  obtain⟨s1,s2,s3,s4,s5,s6,s7,s8,s9⟩:=oW (k:=k) h (yfB sw hT.1);refine⟨s1,s2,s3,⟨by have:=s4.1;simpa[oG]using this,λl hl=>?_⟩,s5,s6,s7,s8,s9⟩;rcases zaK hl with e|e
  .exact s4.2 l e
  .rw[e,zai]
   have hm:((rD x k (rH (dW x.yRX k) (lW x k).1)).yR3[jM x k]?.getD []).length<=24/\∀m∈((rD x k (rH (dW x.yRX k) (lW x k).1)).yR3[jM x k]?.getD []),m.small:=by
    show(x.yR3[jM x k]?.getD []).length<=24/\∀m∈(x.yR3[jM x k]?.getD []),m.small
    cases hk:x.yR3[jM x k]? with
    |none=>simp
    |some ms=>exact⟨F.few ms (zac hk),(h.2.2.2.1.2 ms (zac hk)).2⟩
   refine⟨by rw[zah,zbN];omega,λm hm2=>?_⟩;rcases zaj.1 hm2 with e|e
   .exact hm.2 m e
   .rw[zak.1 e];exact hT.2
 .exact h
def yrZ{x:yRW}{k:Nat}(h:x.small)(F:ySq x k):(bH x k).1.small:=by
 have sw:=F.sw;have c24:=F.calls;have hbk:=F.book;have hps:=F.pass;unfold bH;split
 .rename_i hm;simp only[yeC,zad,decide_eq_true_eq]at hm;have hI:=hm.1.1
  have hqs:∀t∈tC (dW x.yRX k) (places x k),t.small:=λt ht=>by
   obtain⟨i,_,rfl⟩:=zaP.1 ht;exact ya9 sw.2.2 i
  obtain⟨hBm,hB8⟩:=yxH (l:=(dW x.yRX k).yR0) hqs;have hT:∀t∈yiZ x k,t.small:=yg0 hqs hBm
  have hT8:(yiZ x k).length<=8:=by
   have:(yiZ x k).length=(chosen x k).length:=by simp[yiZ,qAt]
   rw[this];exact hB8
  have hL:=yZ (r:=dR x.yRV (jM x k)) (yiZ x k) (dW x.yRX k).yR0 8 ⟨by rw[hI];simp,sw.1.2⟩ hT;have hbl:=ynk (x:=x) 8 (yiZ x k) hT8;have hll:=ymW (cs:=(dW x.yRX k).Calls) (g:=yyy x k) (k:=(dW x.yRX k).Calls.length);obtain⟨s1,s2,s3,s4,s5,s6,s7,s8,s9⟩:=h;refine oW (x:=⟨x.Time,x.yRV,x.ySl,x.yRX,x.yR3,x.yR9,x.ySd,x.yRZ,aU x (yiZ x k),x.yR1++nK x k (yiZ x k),x.Start,x.In,x.Out⟩) ⟨s1,s2,s3,s4,s5,s6,s7,⟨by simp only;omega,λ_ _=>trivial⟩,⟨?_,λp hp=>?_⟩⟩ ⟨⟨?_,hL.2⟩,sw.2.1,⟨by show(mO _ _ _).length<=_;omega,yBN (Nat.le_refl _) sw.2.2.2⟩⟩
  .simp[nK];omega
  .rcases zaj.1 hp with e|e
   .exact s9.2 p e
   .obtain⟨t,ht,rfl⟩:=zaP.1 e;exact hT t ht
  .have:=hL.1
   show(xR _ _ _).yRY.length<=_
   omega
 .exact h
def yeU(x:yRW)(k:Nat):yRW:=
 if yag x k=0 then qM x k else if(iK x k).2 then(iK x k).1 else if(bH x k).2 then(bH x k).1 else xY x k
def yFL{x:yRW}{k:Nat}(h:(iK x k).2=false):(iK x k).1=x:=by
 unfold iK at h|-;split at h
 .cases h
 .rename_i h2;rw[if_neg h2]
def yGC{x:yRW}{k:Nat}(h:(bH x k).2=false):(bH x k).1=x:=by
 unfold bH at h|-;split at h
 .cases h
 .rename_i h2;rw[if_neg h2]
def yjy{x:yRW}{k:Nat}(h:x.small)(F:ySq x k):(yeU x k).small:=by
 unfold yeU;split
 .exact yrJ h F
 .split
  .exact yrD h F
  .split
   .exact yrZ h F
   .exact yuj h F
def yd9(x:yRW)(k:Int):Bool:=rC x&&decide (0<=k)&&decide (k<x.yRX.length)
def fQ(x:yRW)(k:Int):yRW:=if yd9 x k&&rC (yeU x k.toNat)then yeU x k.toNat else x
def yuv{x:yRW}{k:Int}(h:yd9 x k=false):fQ x k=x:=by simp[fQ,h]
set_option maxRecDepth 20000 in
def act_c(x:yRW)(k:Int)(hs:x.small):qB prg 75 [.agg (x.enc.map .c),.c (.i k)] (.agg ((fQ x k).enc.map .c)):=by
 refine dB yBF (goQ_ ?_);refine yYq (yis x hs) ?_;cases h:rC x with
 |false=>simp -dsimp -implicitDefEqProofs;simp[yuv,yd9,h]
 |true=>
 by_cases h0:k<0
 .have:¬0<=k:=by omega
  rw[yuv (by simp[yd9,this])];exact yafA h0
 obtain⟨n,rfl⟩:=zcU (by omega:0<=k)
 by_cases h1:(x.yRX.length:Int)<=n
 .have:¬(n:Int)<x.yRX.length:=by omega
  rw[yuv (by simp[yd9,this])];have t1:(x.yRX.length<=n)=True:=eq_true (by omega);exact yafA t1
 have F:=ym8 h hs (k:=n) (by omega);have kw:=F.kw;have hc:yd9 x (n:Int)=true:=by simp[yd9,h];omega
 have t1:(x.yRX.length<=n)=False:=eq_false (by omega);have hw:=yi4 F.kw;obtain⟨y,hy⟩:∃y,yeU x n=y:=⟨_,rfl⟩;have hys:y.small:=by rw[<-hy];exact yjy hs F
 have hY:=yis y hys;have e:fQ x (n:Int)=if rC y then y else x:=by simp[fQ,hc,hy]
 rw[e];have hWa:=ys1 x n hs F;have hLe:=ysR x n hs F;have hEn:=ysl x n hs F;have hSh:=ywM x n hs F;have hln:=yFL (x:=x) (k:=n);have hen:=yGC (x:=x) (k:=n);unfold yeU yag at hy;generalize qM x n=Wa at *;generalize iK x n=Le at *;generalize bH x n=En at *;generalize xY x n=Sh at *;generalize dW x.yRX n=w at *;have gw:=(zaa.1 hw).2;obtain⟨R,hR⟩:∃R,(if rC y then y else x)=R:=⟨_,rfl⟩;rw[hR];have t0:((n:Int)<0)=False:=eq_false (by omega);have fin:rC y=false->R=x:=λh=>by rw[<-hR,h];rfl
 have fin2:rC y=true->R=y:=λh=>by rw[<-hR,h];rfl
 by_cases hg:w.yR0.Gate=0
 .rw[if_pos hg]at hy;refine yafn t0 t1 hw gw kw (fC kw) hg ?_;intro _;rw[hy]at hWa;refine yYp hWa (goQ_ ?_);refine yYq hY ?_;cases hok:rC y with
  |false=>rw[fin hok];simp -dsimp -implicitDefEqProofs
  |true=>rw[fin2 hok];simp -dsimp -implicitDefEqProofs
 .rw[if_neg hg]at hy;refine yafn t0 t1 hw gw kw (fC kw) hg ?_;intro _;refine yYp hLe ?_;cases hl:Le.2 with
  |true=>
   rw[hl,if_pos rfl]at hy;rw[hy];refine goQ_ ?_;refine yYq hY ?_;cases hok:rC y with
   |false=>rw[fin hok];simp -dsimp -implicitDefEqProofs
   |true=>rw[fin2 hok];simp -dsimp -implicitDefEqProofs
  | false=>
   rw[hl,if_neg zbZ]at hy;rw[hln hl];refine goQ_ ?_;refine yYp hEn ?_;cases hn:En.2 with
   |true=>
    rw[hn,if_pos rfl]at hy;rw[hy];refine goQ_ ?_;refine yYq hY ?_;cases hok:rC y with
    |false=>rw[fin hok];simp -dsimp -implicitDefEqProofs
    |true=>rw[fin2 hok];simp -dsimp -implicitDefEqProofs
   |false=>
    rw[hn,if_neg zbZ]at hy;rw[hen hn];rw[hy]at hSh;refine goQ_ ?_;refine yYp hSh (goQ_ ?_);refine yYq hY ?_;cases hok:rC y with
    |false=>rw[fin hok];simp -dsimp -implicitDefEqProofs
    |true=>rw[fin2 hok];simp -dsimp -implicitDefEqProofs
def ykL{x:yRW}{k:Int}(h:x.small):(fQ x k).small:=by
 unfold fQ;split
 .rename_i hc;simp only[yd9,zad,decide_eq_true_eq]at hc;exact yjy h (ym8 hc.1.1.1 h (by omega))
 .exact h
set_option maxHeartbeats 8000000 in
set_option maxRecDepth 40000 in
set_option maxHeartbeats 8000000 in
set_option maxRecDepth 40000 in
set_option maxHeartbeats 8000000 in
set_option maxRecDepth 40000 in
abbrev yVr:=List yR6×List yR8×List yRT
def noRoom(W:List yR8)(j:Nat):Bool:=match W[j]? with
 |some w=>decide (24<=w.Calls.length)
 |none=>true
def yTE(W:List yR8)(j:Nat)(c:yR4):List yR8:=match W[j]? with
 |some w=>W.set j {w with Calls:=w.Calls++[c]}
 |none=>W
def yT7(k:Nat)(t:yRT):Nat:=if t.Up then k-1 else k
def yTh(x:yRW)(k:Nat)(t:yRT):Bool:=(t.Up&&decide (k=0))||(!t.Up&&decide (k+1=x.yRV.length))
def yS3(x:yRW)(k:Nat)(w:Way)(s:yVr)(m:yR6):yVr:=
 if AtEnd m w then
  if yTh x k m.yRT then(s.1,s.2.1,s.2.2++[m.yRT])
  else if noRoom s.2.1 (yT7 k m.yRT)then(s.1++[m],s.2)
  else(s.1,yTE s.2.1 (yT7 k m.yRT) ⟨m.yRT,x.Time,-1⟩,s.2.2)
 else(s.1++[m],s.2)
def yS4(x:yRW)(k:Nat)(w:Way)(r:Reach)(s:List yR8×List yRT)(ms:List yR6):yVr:=
 ms.foldl (λq m=>yS3 x k w q (yS7 m w r)) ([],s)
def ySW(x:yRW):Nat->List (List yR6)×List yR8×List yRT
 |0=>([],x.yRX,x.yR9)
 |k+1=>match x.ySl[k]?,x.yRV[k]?,x.yR3[k]? with
  |some w,some r,some ms=>((ySW x k).1++[(yS4 x k w r (ySW x k).2 ms).1],(yS4 x k w r (ySW x k).2 ms).2)
  |_,_,_=>ySW x k
def yTL(x:yRW):yRW:={x with yR3:=(ySW x x.yR3.length).1,yRX:=(ySW x x.yR3.length).2.1,yR9:=(ySW x x.yR3.length).2.2}
def yTd(x:yRW):yRW:=if rC x&&rC (yTL x)then yTL x else x
def yTN(W:List yR8)(j:Nat)(c:yR4):(yTE W j c).length=W.length:=by unfold yTE;split<;>simp
def yW9{x:yRW}{k:Nat}{w:Way}{s:yVr}{m:yR6}:(yS3 x k w s m).1.length<=s.1.length+1/\(yS3 x k w s m).2.1.length=s.2.1.length/\(yS3 x k w s m).2.2.length<=s.2.2.length+1:=by
 unfold yS3;split
 .split
  .simp
  .split
   .simp
   .simp[yTN]
 .simp
def yWA{x:yRW}{k:Nat}{w:Way}{r:Reach}(ms:List yR6):∀s:yVr,(ms.foldl (λq m=>yS3 x k w q (yS7 m w r)) s).1.length<=s.1.length+ms.length/\(ms.foldl (λq m=>yS3 x k w q (yS7 m w r)) s).2.1.length=s.2.1.length/\(ms.foldl (λq m=>yS3 x k w q (yS7 m w r)) s).2.2.length<=s.2.2.length+ms.length:=by
 induction ms with
 |nil=>intro s;simp
 |cons m ms ih=>
  intro s;obtain⟨a1,a2,a3⟩:=ih (yS3 x k w s (yS7 m w r));obtain⟨b1,b2,b3⟩:=yW9 (x:=x) (k:=k) (w:=w) (s:=s) (m:=yS7 m w r);simp only[zbz,zar];omega
def yXC(es:List yR8)(hl:es.length<=1048576):nI prg 171 [.c (.sl 22 (es.map yR8.enc))] (.c (.ot 22 (es.map yR8.enc))):=by
 refine fF yQ ?_;simp -dsimp -implicitDefEqProofs [mQ,jA];omega
def yXH(es:List yRT):qB prg 172 [.c (.sl 2 (es.map yRT.enc))] (.clip 2 (es.map yRT.enc)):=by
 refine dB yTA ?_;simp -dsimp -implicitDefEqProofs [yTb,jA]
def yWR(es:List yR4):qB prg 175 [.c (.sl 4 (es.map yR4.enc))] (.clip 4 (es.map yR4.enc)):=by
 refine dB yTD ?_;simp -dsimp -implicitDefEqProofs [yTg,jA]
structure ySM(x:yRW):Prop where
 two:2<=x.yRV.length
 six:x.yRV.length<=6
 ways:x.ySl.length=x.yRV.length
 mvs:x.yR3.length=x.yRV.length
 wks:x.yRX.length+1=x.yRV.length
 few:∀(k:Nat) (l:List yR6),x.yR3[k]?=some l->l.length<=24
 arr:x.yR9.length<=500
def yCK{x:yRW}(h:rC x=true):ySM x:=by
 simp only[rC,zad]at h;obtain⟨⟨⟨⟨⟨⟨⟨h1,h2⟩,h3⟩,h4⟩,h5⟩,h6⟩,h7⟩,h8⟩:=h;simp only[sJ,zad,decide_eq_true_eq]at h2;obtain⟨⟨⟨⟨⟨⟨p1,p2⟩,p3⟩,p4⟩,p5⟩,p6⟩,p7⟩:=h2;have rf:=(ynr p1).len;refine⟨p2,rf.2,p3,p4,p5,λk l hk=>?_,?_⟩
 .have kl:=(zaa.1 hk).1;have gl:=(zaa.1 hk).2;have:=zaf.1 p6 (x.ySl[k]'(by omega),l) (zcq.2 ⟨k,by simp;omega,by simp[gl]⟩);simp only[jS,zad,decide_eq_true_eq]at this;exact this.1.2
 .simp only[pO,zad,decide_eq_true_eq]at h3;omega
structure yV5(n a:Nat)(s:yVr):Prop where
 rest:s.1.length<=n/\∀m∈s.1,m.small
 works:ycw s.2.1
 arr:s.2.2.length<=a+n/\∀t∈s.2.2,t.small
def yWn{W:List yR8}{j:Nat}{c:yR4}(h:ycw W)(hc:c.small)(hr:noRoom W j=false):ycw (yTE W j c):=by
 refine⟨by rw[yTN];exact h.1,λw hw=>?_⟩;unfold yTE at hw;unfold noRoom at hr;cases hw0:W[j]? with
 |none=>rw[hw0]at hr;cases hr
 | some w0=>
  rw[hw0]at hr hw;simp only[decide_eq_false_iff_not]at hr;rcases zaK hw with e|e
  .exact h.2 w e
  .subst e;obtain⟨a,b,c1⟩:=h.2 w0 (zac hw0);refine⟨a,b,by simp;omega,λy hy=>?_⟩;rcases zaj.1 hy with e|e
   .exact c1.2 y e
   .rw[zak.1 e];exact hc
def yWc{α:Type}{p:α->Prop}{l:List α}{a:α}(h:∀x∈l,p x)(ha:p a):∀x∈l++[a],p x:=by
 intro x hx;rcases zaj.1 hx with e|e
 .exact h x e
 .rw[zak.1 e];exact ha
def yWl{x:yRW}{k:Nat}{w:Way}{n a:Nat}{s:yVr}{m:yR6}(h:yV5 n a s)(hm:m.small):yV5 (n+1) a (yS3 x k w s m):=by
 obtain⟨r,wk,ar⟩:=h;have r1:s.1.length<=n+1:=Nat.le_succ_of_le r.1;have a1:s.2.2.length<=a+(n+1):=zba ar.1 (by omega);have ar1:=ar.1;have rr1:=r.1;unfold yS3;split
 .split
  .exact⟨⟨r1,r.2⟩,wk,by simp;omega,yWc ar.2 hm⟩
  .split
   .exact⟨⟨by simp;omega,yWc r.2 hm⟩,wk,a1,ar.2⟩
   .rename_i hr;exact⟨⟨r1,r.2⟩,yWn wk hm (by simpa using hr),a1,ar.2⟩
 .exact⟨⟨by simp;omega,yWc r.2 hm⟩,wk,a1,ar.2⟩
def yT8{m:yR6}{w:Way}{r:Reach}(h:m.small):(yS7 m w r).small:=by
 show(yS7 m w r).yRT.small
 rw[yWg];exact h
def yUH{x:yRW}{k:Nat}{w:Way}{r:Reach}{a:Nat}:∀(ms:List yR6),(∀m∈ms,m.small)->∀(s:yVr) (n:Nat),yV5 n a s->yV5 (n+ms.length) a (ms.foldl (λq m=>yS3 x k w q (yS7 m w r)) s)
 |[],_,s,n,h=>h
 |m::ms,hm,s,n,h=>by
  have:=yUH (x:=x) (k:=k) (w:=w) (r:=r) (a:=a) ms (λy hy=>hm y (zbR _ hy)) _ (n+1) (yWl (x:=x) (k:=k) (w:=w) h (yT8 (w:=w) (r:=r) (hm m zdu)));rw[zar,show n+(ms.length+1)=n+1+ms.length by omega];exact this
def yUD{x:yRW}{k:Nat}{w:Way}{r:Reach}{ms:List yR6}(h1:x.ySl[k]?=some w)(h2:x.yRV[k]?=some r)(h3:x.yR3[k]?=some ms):ySW x (k+1)=((ySW x k).1++[(yS4 x k w r (ySW x k).2 ms).1],(yS4 x k w r (ySW x k).2 ms).2):=by
 simp[ySW,h1,h2,h3]
def yUW{x:yRW}{k:Nat}{w:Way}{r:Reach}{s:List yR8×List yRT}{ms:List yR6}{i:Nat}{m:yR6}(h:ms[i]?=some m):yS4 x k w r s (ms.take (i+1))=yS3 x k w (yS4 x k w r s (ms.take i)) (yS7 m w r):=by
 unfold yS4;rw[zao,h];simp
structure yW8(x:yRW)(k:Nat):Prop where
 len:(ySW x k).1.length=k
 rest:∀l∈(ySW x k).1,l.length<=24/\∀m∈l,m.small
 works:ycw (ySW x k).2.1
 wlen:(ySW x k).2.1.length=x.yRX.length
 arr:(ySW x k).2.2.length<=500+24*k/\∀t∈(ySW x k).2.2,t.small
def yU8{x:yRW}{k:Nat}{w:Way}{r:Reach}(hs:x.small)(h:yW8 x k){ms:List yR6}(hm:∀m∈ms,m.small):yV5 ms.length (500+24*k) (yS4 x k w r (ySW x k).2 ms)/\(yS4 x k w r (ySW x k).2 ms).2.1.length=x.yRX.length:=by
 refine⟨?_,?_⟩
 .have:=yUH (x:=x) (k:=k) (w:=w) (r:=r) (a:=500+24*k) ms hm ([],(ySW x k).2) 0 ⟨⟨by simp,by simp⟩,h.works,by have:=h.arr.1;show(ySW x k).2.2.length<=_;omega,h.arr.2⟩;rw[zbp]at this;exact this
 .have:=(yWA (x:=x) (k:=k) (w:=w) (r:=r) ms ([],(ySW x k).2)).2.1;unfold yS4;rw[this];exact h.wlen
def yTU{x:yRW}(F:ySM x)(hs:x.small):∀k:Nat,k<=x.yR3.length->yW8 x k
 |0,_=>⟨rfl,λl hl=>(by cases hl),hs.2.2.1,rfl,by have:=F.arr;show x.yR9.length<=_;omega,hs.2.2.2.2.1.2⟩
 |k+1,hk=>by
  have ih:=yTU F hs k (by omega);have f1:=F.ways;have f2:=F.mvs;obtain⟨w,hw⟩:∃w,x.ySl[k]?=some w:=⟨_,zab (by omega)⟩;obtain⟨r,hr⟩:∃r,x.yRV[k]?=some r:=⟨_,zab (by omega)⟩;obtain⟨ms,hms⟩:∃ms,x.yR3[k]?=some ms:=⟨_,zab (by omega)⟩;have hm:=F.few k ms hms;obtain⟨⟨a1,a2,a3⟩,a4⟩:=yU8 (w:=w) (r:=r) hs ih (ms:=ms) (λm h=>(hs.2.2.2.1.2 ms (zac hms)).2 m h);have e:=yUD hw hr hms;refine⟨by rw[e];simp[ih.len],λl hl=>?_,by rw[e];exact a2,by rw[e];exact a4,by rw[e];show(yS4 x k w r (ySW x k).2 ms).2.2.length<=_;omega,by rw[e];exact a3.2⟩;rw[e]at hl;rcases zaj.1 hl with h|h
  .exact ih.rest l h
  .rw[zak.1 h];exact⟨by omega,a1.2⟩
def yUr{x:yRW}(F:ySM x)(hs:x.small):(yTL x).small:=by
 have h:=yTU F hs x.yR3.length (Nat.le_refl _);have f6:=F.six;have f2:=F.mvs;refine⟨hs.1,hs.2.1,h.works,⟨by show(ySW x x.yR3.length).1.length<=_;rw[h.len];omega,λl hl=>⟨by have:=(h.rest l hl).1;omega,(h.rest l hl).2⟩⟩,⟨by have:=h.arr.1;show(ySW x x.yR3.length).2.2.length<=_;omega,h.arr.2⟩,hs.2.2.2.2.2⟩
def yVX(x:yRW):(yTL x).enc=[.i x.Time,.sl 3 (x.yRV.map Reach.enc),.sl 2 (x.ySl.map Way.enc),.sl 22 ((ySW x x.yR3.length).2.1.map yR8.enc),.sl 1 ((ySW x x.yR3.length).1.map nD),.sl 2 ((ySW x x.yR3.length).2.2.map yRT.enc),.sl 1 (x.ySd.map qC),.i x.yRZ.Base,.i x.yRZ.ySe,.sl 1 (x.yRZ.yR5.map qC),.sl 1 (x.yRZ.yR7.map qC),.sl 5 (x.Book.map ySb.enc),.sl 4 (x.yR1.map yR2.enc),.i x.Start,.i x.In,.i x.Out]:=rfl
def wkR(W:List yR8):List (List C):=W.map yR8.enc
def yUo{W:List yR8}:(wkR W).length=W.length:=by simp[wkR]
def yXc{W:List yR8}{k:Nat}{w:yR8}(h:W[k]?=some w):(wkR W)[k]?=some w.enc:=by unfold wkR;rw[zau,h];rfl
def yWy:∀W:List yR8,yaq (wkR W)=some (wkR W)
 |[]=>rfl
 |a::W=>by
  show yaq (yR8.enc a::wkR W)=some (yR8.enc a::wkR W)
  simp only[yaq,yWy W];rfl
def yTW(D:List (List yR6))(L:List yR6)(n:Nat):List (List C):=D.map em++em L::List.replicate (n-D.length-1) (em [])
def yUx(D:List (List yR6))(n:Nat):List (List C):=D.map em++List.replicate (n-D.length) (em [])
def yXS{D:List (List yR6)}{n:Nat}(h:D.length<n):yUx D n=yTW D [] n:=by
 unfold yUx yTW;rw[show n-D.length=(n-D.length-1)+1 by omega,zbT];rfl
def yXN{D:List (List yR6)}{L:List yR6}{n:Nat}:yTW D L n=yUx (D++[L]) n:=by
 unfold yUx yTW;rw[zaD,zah,zbh,zbN,Nat.sub_sub];rfl
def yXs{D:List (List yR6)}{L:List yR6}{n:Nat}(h:D.length<n):(yTW D L n).length=n:=by
 simp[yTW];omega
def yXb{D:List (List yR6)}{L:List yR6}{n k:Nat}(h:D.length=k):(yTW D L n)[k]?=some (em L):=by
 subst h;unfold yTW;rw[zaz (by simp)];simp
def yXq{D:List (List yR6)}{L:List yR6}{n k:Nat}{m:yR6}(h:D.length=k):setAt (setAt (yTW D L n) k 0 C.jk) k 0 (.ow 3 (L.map yR6.enc++[m.enc]))=yTW D (L++[m]) n:=by
 have hk:=yXb (L:=L) (n:=n) h
 have e2:∀c:C,setAt (setAt (yTW D L n) k 0 C.jk) k 0 c=(yTW D L n).set k [c]:=by
  intro c;have kl:=(zaa.1 hk).1;have gl:=(zaa.1 hk).2;simp[setAt,hk,gl,kl,em]
 rw[e2];subst h;unfold yTW;rw[zci _ _ (by simp)];simp[em,zaD]
def yXr(D:List (List yR6)):yaq (yUx D D.length)=some (D.map nD):=by
 unfold yUx;rw[zcc];simp only[zdV,zbF];exact eF yHe D
def yVA{W:List yR8}{j:Nat}{w:yR8}{c:yR4}(h:W[j]?=some w):yaq (setAt (wkR W) j 21 (.ow 4 (w.Calls.map yR4.enc++[c.enc])))=some (wkR (yTE W j c)):=by
 have hk:=yXc h;have kl:=(zaa.1 hk).1;have gl:=(zaa.1 hk).2
 have e:setAt (wkR W) j 21 (.ow 4 (w.Calls.map yR4.enc++[c.enc]))=(wkR W).set j (w.enc.set 21 (.ow 4 (w.Calls.map yR4.enc++[c.enc]))):=by
  simp[setAt,gl,kl]
 rw[e,yBn (yWy W) (s:=({w with Calls:=w.Calls++[c]}:yR8).enc) (by simp only[yR8.enc,zch,zbC,zaD];rfl) j];unfold yTE wkR;rw[h];simp only[zaZ]
def yUP(B A:List yRT):AV:=match A with
 |[]=>.clip 2 (B.map yRT.enc)
 |t::A=>.own 102 2 (B.length+(A.length+1))
def yUQ(B A:List yRT):Obj:=match A with
 |[]=>.none
 |t::A=>.row 2 ((B++t::A).map yRT.enc)
def yXo{a b:List yRT}{y:List C}:List.take (a.length+(b.length+1)) (a.map yRT.enc++y::b.map yRT.enc)=a.map yRT.enc++y::b.map yRT.enc:=zae (by simp)
def yTR(x:yRW)(c:AV):List AV:=[.c (.i x.Time),.c (.sl 3 (x.yRV.map Reach.enc)),.c (.sl 2 (x.ySl.map Way.enc)),.own 18 22 x.yRX.length,.own 23 1 x.yR3.length,c,.c (.sl 1 (x.ySd.map qC)),.c (.i x.yRZ.Base),.c (.i x.yRZ.ySe),.c (.sl 1 (x.yRZ.yR5.map qC)),.c (.sl 1 (x.yRZ.yR7.map qC)),.c (.sl 5 (x.Book.map ySb.enc)),.c (.sl 4 (x.yR1.map yR2.enc)),.c (.i x.Start),.c (.i x.In),.c (.i x.Out)]
set_option maxRecDepth 40000 in
def yXp (x:yRW) (hs:x.small):qB prg 72 [.agg (x.enc.map .c)] (.agg ((yTd x).enc.map .c)):=by
 have hW:=yis x hs;have s41:=hs.2.2.2.1.1;have s31:=hs.2.2.1.1;refine dB yW1 (goQ_ ?_);refine yYq hW ?_;cases hok:rC x with
 |false=>
  have e:yTd x=x:=by simp[yTd,hok]
  rw[e];exact goE_
 |true=>
 have F:=yCK hok;have f1:=F.two;have f2:=F.six;have f3:=F.ways;have f4:=F.mvs;have f5:=F.wks;obtain⟨res,hres⟩:∃r,yTd x=r:=⟨_,rfl⟩;rw[hres];refine goQ_ ?_;refine yX5 (yXC x.yRX s31) (goT_ ?_)
 refineλhlen=>⟨by omega,yXV ?_⟩
 refine goQ_ ?_;refine yYp (yXH x.yR9) (goQ_ ?_)
 refineλhlen2=>⟨by unfold inI;omega,λhlen3=>?_⟩
 refine qA (ι:=Nat×List yRT) (λp=>p.1<=x.yR3.length/\(ySW x p.1).2.2=x.yR9++p.2) (λp=>xC [(1,.box 1 0),(2,.box 2 0),(3,.box 3 0),(4,.c (.i ((x.yRV.length:Int)-1))),(34,.c (.sl 1 (x.yR3.map nD))),(35,.c (.i x.yR3.length)),(36,.c (.i p.1))] [(1,.box (x.enc.map .c)),(2,zW),(3,.box (yTR x (yUP x.yR9 p.2))),(18,.tr 22 0 (wkR (ySW x p.1).2.1)),(23,.tr 1 0 (yUx (ySW x p.1).1 x.yR3.length)),(102,yUQ x.yR9 p.2)]) (λp=>x.yR3.length-p.1) (0,[]) (by simp[ySW]) (by apply aB<;>simp[Obj.leO,ySW,wkR,yUx,em,yUP,yUQ,yTR]) ?_
 rintro⟨k,A⟩ ⟨hk,hA⟩
 simp only at hk hA;have T:=yTU F hs k hk;rcases zas k x.yR3.length with klt|kge
 .obtain⟨w,hw⟩:∃w,x.ySl[k]?=some w:=⟨_,zab (by omega)⟩;obtain⟨r,hr⟩:∃r,x.yRV[k]?=some r:=⟨_,zab (by omega)⟩;obtain⟨ms,hms⟩:∃ms,x.yR3[k]?=some ms:=⟨_,zab (by omega)⟩;have gw:=(zaa.1 hw).2;have gr:=(zaa.1 hr).2;have gms:=(zaa.1 hms).2;have klw:k<x.ySl.length:=by omega
  have klr:k<x.yRV.length:=by omega
  have hro:yUx (ySW x k).1 x.yR3.length=yTW (ySW x k).1 [] x.yR3.length:=yXS (by rw[T.len];exact klt);have hsm:∀m∈ms,m.small:=(hs.2.2.2.1.2 ms (zac hms)).2;have h24:=F.few k ms hms;have hA0:(yS4 x k w r (ySW x k).2 []).2.2=x.yR9++A:=hA;refine yaff hms gms klt (fC klt) hro ?_;intro hlen4;refine qA (ι:=Nat×List yRT) (λp=>p.1<=ms.length/\(yS4 x k w r (ySW x k).2 (ms.take p.1)).2.2=x.yR9++p.2) (λp=>xC [(1,.box 1 0),(2,.box 2 0),(3,.box 3 0),(4,.c (.i ((x.yRV.length:Int)-1))),(34,.c (.sl 1 (x.yR3.map nD))),(35,.c (.i x.yR3.length)),(36,.c (.i k)),(5,.c (.i k)),(41,.c (.sl 3 (ms.map yR6.enc))),(42,.c (.i ms.length)),(43,.c (.i p.1))] [(1,.box (x.enc.map .c)),(2,zW),(3,.box (yTR x (yUP x.yR9 p.2))),(18,.tr 22 0 (wkR (yS4 x k w r (ySW x k).2 (ms.take p.1)).2.1)),(23,.tr 1 0 (yTW (ySW x k).1 (yS4 x k w r (ySW x k).2 (ms.take p.1)).1 x.yR3.length)),(102,yUQ x.yR9 p.2)]) (λp=>ms.length-p.1) (0,A) (by simpa using hA0) (by rcases A with _|⟨t0,A⟩<;>apply aB<;>simp[Obj.leO,yS4,yUP,yUQ,yTR]) ?_
  rintro⟨i,A2⟩ ⟨hi,hA2⟩
  simp only at hi hA2;obtain⟨LS,LL⟩:=yU8 (w:=w) (r:=r) hs T (ms:=ms.take i) (λm h=>hsm m (zaw h));obtain⟨q,hq⟩:∃q,yS4 x k w r (ySW x k).2 (ms.take i)=q:=⟨_,rfl⟩;rw[hq]at LS LL hA2;have hrl:=yXs (D:=(ySW x k).1) (L:=q.1) (n:=x.yR3.length) (by rw[T.len];exact klt);have hge:=yXb (L:=q.1) (n:=x.yR3.length) T.len;have gge:=(zaa.1 hge).2;rcases yX1 i ms with⟨ilt,m,hm⟩|ige
  .have gm:=(zaa.1 hm).2;have hsuc:=yUW (x:=x) (k:=k) (w:=w) (r:=r) (s:=(ySW x k).2) hm;have hcall:=yXR m w r (hsm m (zac hm));have hsm':(yS7 m w r).small:=yT8 (hsm m (zac hm));obtain⟨m',hm'⟩:∃m',yS7 m w r=m':=⟨_,rfl⟩;rw[hm']at hsuc hcall hsm';rw[hq]at hsuc;have hat:=yXh m' w hsm';have hput:=yXq (L:=q.1) (n:=x.yR3.length) (m:=m') T.len;simp only[yR6.enc]at hput;have htk:List.take (q.1.length+1) (q.1.map yR6.enc++[[.b m'.yRT.Up,.sl 1 (m'.yRT.Rows.map jE),.i m'.Place]])=q.1.map yR6.enc++[[.b m'.yRT.Up,.sl 1 (m'.yRT.Rows.map jE),.i m'.Place]]:=zae (by simp)
   have hal:q.2.2.length<=2000:=by
    have e1:=LS.arr.1;have e2:(ms.take i).length<=24:=by simp;omega
    omega
   rw[hA2]at hal;simp only[zah]at hal;have hl1:q.1.length<=24:=zba LS.rest.1 (by simp;omega);rcases A2 with _|⟨t0,A2⟩
   all_goals
    try simp only[zar]at hal
    simp -dsimp -implicitDefEqProofs [hm,gm,ilt,fC ilt,hw,gw,hr,gr,klt,klw,klr,hq,yTR,yUP,yUQ];refine yYo hcall (yaeT hw gw klw ?_);refine yYs hat ?_;cases hae:AtEnd m' w with
    |false=>
     have hs1:yS3 x k w q m'=(q.1++[m'],q.2):=by simp[yS3,hae]
     rw[hs1]at hsuc;simp -dsimp -implicitDefEqProofs [hge,gge,hrl,klt,em,hput,hq,yTR,yUP,yUQ];refine⟨by omega,by simp[setAt,hrl,klt],gB ilt hlen4,i+1,_,⟨ilt,by rw[hsuc];exact hA2⟩,by omega,?_⟩;apply aB<;>simp[Obj.leO,hsuc,htk,hput,hq,hrl]
    | true=>
     cases hu:m'.yRT.Up with
     | true=>
      by_cases k0:k=0
      .have hs1:yS3 x k w q m'=(q.1,q.2.1,q.2.2++[m'.yRT]):=by simp[yS3,hae,yTh,hu,k0]
       have z1:((k:Int)=0)=True:=by simp[k0]
       have z2:(k=0)=True:=by simp[k0]
       rw[hs1]at hsuc;simp -dsimp -implicitDefEqProofs [hu,z1,z2,hq,yTR,yUP,yUQ]
       first
        |(have hA3:q.2.2=x.yR9++[]:=hA2;refine⟨by omega,gB ilt hlen4,i+1,[m'.yRT],⟨ilt,by rw[hsuc];simp[hA3]⟩,by omega,?_⟩)
        |(have hA3:q.2.2=x.yR9++t0::A2:=hA2;refine⟨by omega,gB ilt hlen4,i+1,t0::(A2++[m'.yRT]),⟨ilt,by rw[hsuc];simp[hA3]⟩,by omega,?_⟩)
       apply aB<;>simp[Obj.leO,hsuc,hq,hrl,hu,zbL]
      .obtain⟨j,hj⟩:∃j,j=k-1:=⟨_,rfl⟩;have z1:((k:Int)=0)=False:=by simp;omega
       have z2:(k=0)=False:=by simp[k0]
       have ej:((k:Int)-1)=(j:Int):=by omega
       have hlj:yT7 k m'.yRT=j:=by simp[yT7,hu,hj]
       have hle:yTh x k m'.yRT=false:=by simp[yTh,hu,k0]
       obtain⟨wj,hwj⟩:∃wj,q.2.1[j]?=some wj:=⟨_,zab (by omega)⟩;have aw:=yXc hwj;simp only[yR8.enc]at aw;have gaw:=(zaa.1 aw).2;have jlt:j<x.yRX.length:=by omega
       have hcs:=(LS.works.2 wj (zac hwj)).2.2.1;have hgs:=@yVA q.2.1 j wj ⟨m'.yRT,x.Time,-1⟩ hwj;simp only[yR4.enc,hu]at hgs;have htk2:List.take (wj.Calls.length+1) (wj.Calls.map yR4.enc++[[.b true,.sl 1 (m'.yRT.Rows.map jE),.i x.Time,.i (-1)]])=wj.Calls.map yR4.enc++[[.b true,.sl 1 (m'.yRT.Rows.map jE),.i x.Time,.i (-1)]]:=zae (by simp);have hput2:=hput;have htk3:=htk;simp only[hu]at hput2 htk3
       by_cases hroom:24<=wj.Calls.length
       .have z3:((24:Int)<=(wj.Calls.length:Int))=True:=by simp;omega
        have hs1:yS3 x k w q m'=(q.1++[m'],q.2):=by simp[yS3,hae,hle,hlj,noRoom,hwj,hroom]
        rw[hs1]at hsuc;simp -dsimp -implicitDefEqProofs [hu,z1,z2,z3,hq,yTR,yUP,yUQ,ej,aw,gaw,yUo,LL,jlt,hge,gge,hrl,klt,em];refine⟨by unfold inI;omega,λhlc=>⟨by omega,by simp[setAt,hrl,klt],gB ilt hlen4,i+1,_,⟨ilt,by rw[hsuc];exact hA2⟩,by omega,?_⟩⟩;apply aB<;>simp[Obj.leO,hsuc,htk3,hput2,hq,hrl]
       .have z3:((24:Int)<=(wj.Calls.length:Int))=False:=by simp;omega
        have hs1:yS3 x k w q m'=(q.1,yTE q.2.1 j ⟨m'.yRT,x.Time,-1⟩,q.2.2):=by simp[yS3,hae,hle,hlj,noRoom,hwj,hroom]
        rw[hs1]at hsuc;simp -dsimp -implicitDefEqProofs [hu,z1,z2,z3,hq,yTR,yUP,yUQ,ej,aw,gaw,yUo,LL,jlt];refine⟨by unfold inI;omega,λhlc=>?_⟩;refine yYo (yWR wj.Calls) ?_;simp -dsimp -implicitDefEqProofs [hq,aw,gaw,yUo,LL,jlt,ej];refine⟨by omega,gB ilt hlen4,i+1,_,⟨ilt,by rw[hsuc];exact hA2⟩,by omega,?_⟩;refine yVb 18 (k:=22) (v:=1) (by simp[htk2]) hgs ?_;apply aB<;>simp[Obj.leO,hsuc,hq,hrl,yTR,yUP,yUQ]
     | false=>
      by_cases k0:k+1=x.yRV.length
      .have hs1:yS3 x k w q m'=(q.1,q.2.1,q.2.2++[m'.yRT]):=by simp[yS3,hae,yTh,hu,k0]
       have z1:((k:Int)=(x.yRV.length:Int)-1)=True:=by simp;omega
       have z2:(k+1=x.yRV.length)=True:=by simp[k0]
       rw[hs1]at hsuc;simp -dsimp -implicitDefEqProofs [hu,z1,z2,hq,yTR,yUP,yUQ]
       first
        |(have hA3:q.2.2=x.yR9++[]:=hA2;refine⟨by omega,gB ilt hlen4,i+1,[m'.yRT],⟨ilt,by rw[hsuc];simp[hA3]⟩,by omega,?_⟩)
        |(have hA3:q.2.2=x.yR9++t0::A2:=hA2;refine⟨by omega,gB ilt hlen4,i+1,t0::(A2++[m'.yRT]),⟨ilt,by rw[hsuc];simp[hA3]⟩,by omega,?_⟩)
       apply aB<;>simp[Obj.leO,hsuc,hq,hrl,hu,zbL]
      .have z1:((k:Int)=(x.yRV.length:Int)-1)=False:=by simp;omega
       have z2:(k+1=x.yRV.length)=False:=by simp[k0]
       have hlj:yT7 k m'.yRT=k:=by simp[yT7,hu]
       have hle:yTh x k m'.yRT=false:=by simp[yTh,hu,k0]
       obtain⟨wj,hwj⟩:∃wj,q.2.1[k]?=some wj:=⟨_,zab (by omega)⟩;have aw:=yXc hwj;simp only[yR8.enc]at aw;have gaw:=(zaa.1 aw).2;have jlt:k<x.yRX.length:=by omega
       have hcs:=(LS.works.2 wj (zac hwj)).2.2.1;have hgs:=@yVA q.2.1 k wj ⟨m'.yRT,x.Time,-1⟩ hwj;simp only[yR4.enc,hu]at hgs;have htk2:List.take (wj.Calls.length+1) (wj.Calls.map yR4.enc++[[.b false,.sl 1 (m'.yRT.Rows.map jE),.i x.Time,.i (-1)]])=wj.Calls.map yR4.enc++[[.b false,.sl 1 (m'.yRT.Rows.map jE),.i x.Time,.i (-1)]]:=zae (by simp);have hput2:=hput;have htk3:=htk;simp only[hu]at hput2 htk3
       by_cases hroom:24<=wj.Calls.length
       .have z3:((24:Int)<=(wj.Calls.length:Int))=True:=by simp;omega
        have hs1:yS3 x k w q m'=(q.1++[m'],q.2):=by simp[yS3,hae,hle,hlj,noRoom,hwj,hroom]
        rw[hs1]at hsuc;simp -dsimp -implicitDefEqProofs [hu,z1,z2,z3,hq,yTR,yUP,yUQ,aw,gaw,yUo,LL,jlt,hge,gge,hrl,klt,em]
        refineλhlc=>⟨by omega,by simp[setAt,hrl,klt],gB ilt hlen4,i+1,_,⟨ilt,by rw[hsuc];exact hA2⟩,by omega,?_⟩
        apply aB<;>simp[Obj.leO,hsuc,htk3,hput2,hq,hrl]
       .have z3:((24:Int)<=(wj.Calls.length:Int))=False:=by simp;omega
        have hs1:yS3 x k w q m'=(q.1,yTE q.2.1 k ⟨m'.yRT,x.Time,-1⟩,q.2.2):=by simp[yS3,hae,hle,hlj,noRoom,hwj,hroom]
        rw[hs1]at hsuc;simp -dsimp -implicitDefEqProofs [hu,z1,z2,z3,hq,yTR,yUP,yUQ,aw,gaw,yUo,LL,jlt];intro hlc;refine yYo (yWR wj.Calls) ?_;simp -dsimp -implicitDefEqProofs [hq,aw,gaw,yUo,LL,jlt];refine⟨by omega,gB ilt hlen4,i+1,_,⟨ilt,by rw[hsuc];exact hA2⟩,by omega,?_⟩;refine yVb 18 (k:=22) (v:=1) (by simp[htk2]) hgs ?_;apply aB<;>simp[Obj.leO,hsuc,hq,hrl,yTR,yUP,yUQ]
  .have hts:=yUD hw hr hms;rw[zae ige]at hq;rw[hq]at hts;refine yaeT (aG ige) hq (zae ige) ?_;refine⟨gB klt hlen3,k+1,A2,⟨klt,by rw[hts];exact hA2⟩,by omega,?_⟩;rcases A2 with _|⟨t0,A2⟩<;>apply aB<;>simp[Obj.leO,hts,yXN,hq,zae ige,yTR,yUP,yUQ]
 .obtain rfl:k=x.yR3.length:=by omega
  have hes:=yUr F hs;have hV:=yis (yTL x) hes;rw[yVX,hA]at hV;have htw:List.take x.yRX.length (wkR (ySW x x.yR3.length).2.1)=wkR (ySW x x.yR3.length).2.1:=zae (by rw[yUo,T.wlen];omega);have hsw:=yWy (ySW x x.yR3.length).2.1;have hsr:=yXr (ySW x x.yR3.length).1;rw[T.len]at hsr;have htr:List.take x.yR3.length (yUx (ySW x x.yR3.length).1 x.yR3.length)=yUx (ySW x x.yR3.length).1 x.yR3.length:=zae (by simp[yUx];have:=T.len;omega);have hwk:(ySW x x.yR3.length).2.1.map yR8.enc=wkR (ySW x x.yR3.length).2.1:=rfl;rw[hwk]at hV;rcases A with _|⟨t0,A⟩
  all_goals
   simp -dsimp -implicitDefEqProofs [aG kge,yTR,yUP,yUQ];refine mD (hV) (by simp -dsimp -implicitDefEqProofs [jA,htw,hsw,hsr,htr,yXo]) rfl ?_;cases hv:rC (yTL x)with
   |false=>
    have e:res=x:=by rw[<-hres];simp[yTd,hv]
    rw[e];exact goE_
   |true=>
    have e:res=yTL x:=by rw[<-hres];simp[yTd,hok,hv]
    rw[e];simp -dsimp -implicitDefEqProofs [yTL,hA,hwk,htw,hsw,hsr,htr,yXo,jA]
set_option maxRecDepth 20000 in
set_option maxRecDepth 40000 in
def yWk{x:yRW}(hs:x.small):(yTd x).small:=by
 unfold yTd;split
 .rename_i h;simp only[zad]at h;exact yUr (yCK h.1) hs
 .exact hs
def yTS(x:yRW)(q:Int):Bool:=rC x&& !decide (x.Time=1000000)&&inRange q 0 1000000000
def yTl(x:yRW):Nat->yRW
 |0=>x
 |k+1=>fQ (yTl x k) k
def yTY(x:yRW)(q:Int):yRW:=yTd (yS2 (yS0 x q) q)
def ySY(x:yRW)(q:Int):yRW:=if yTS x q then yTl (yTY x q) x.yRX.length else x
def yTK{x:yRW}(h:x.small):∀k,(yTl x k).small
 |0=>h
 |k+1=>ykL (yTK h k)
def yTJ{x:yRW}{q:Int}(h:x.small):(yTY x q).small:=yWk (yUC (yTM h))
def yXi{x:yRW}{q:Int}(h:x.small):(ySY x q).small:=by
 unfold ySY;split
 .exact yTK (yTJ h) _
 .exact h
def yXT(x:yRW)(q:Int)(hs:x.small):qB prg 61 [.agg (x.enc.map .c),.c (.i q)] (.agg ((ySY x q).enc.map .c)):=by
 have hp:=yXU x q hs;have hst:=yXQ (yS0 x q) q (yTM hs);have hsl:=yXp (yS2 (yS0 x q) q) (yUC (yTM hs));have hs4:=yTJ (q:=q) hs;have e1:yTd (yS2 (yS0 x q) q)=yTY x q:=rfl;rw[e1]at hsl;refine dB yWP (goQ_ ?_);refine yYq (yis x hs) ?_;cases h:rC x with
 |false=>simp -dsimp -implicitDefEqProofs;simp[ySY,yTS,h]
 |true=>
 refine goQ_ ?_;refine⟨λht=>?_,λht=>?_⟩
 rotate_left
 .simp[ySY,yTS,ht]
 refine yYq (iC q 0 1000000000) ?_;cases hq:inRange q 0 1000000000 with
 |false=>simp -dsimp -implicitDefEqProofs;simp[ySY,yTS,hq]
 |true=>
 have e:ySY x q=yTl (yTY x q) x.yRX.length:=by simp[ySY,yTS,h,ht,hq]
 rw[e];generalize yS0 x q=u at *;generalize yS2 u q=v at *;generalize yTY x q=z at *;refine goQ_ ?_;refine yYp hp (goQ_ ?_);refine yYp hst (goQ_ ?_);refine yYp hsl (goQ_ ?_);intro hlen;refine yX2 (λk=>k<=x.yRX.length) (λk=>xC [(4,.box 4 0),(5,.box 5 0),(29,.c (.i x.yRX.length)),(30,.c (.i k))] [(4,zW),(5,.box ((yTl z k).enc.map .c))]) (λk=>x.yRX.length-k) (by apply aB<;>simp[yTl]) ?_
 rintro k hk
 rcases zas k x.yRX.length with klt|kge
 .have hc:=act_c (yTl z k) k (yTK hs4 k);have e2:yTl z (k+1)=fQ (yTl z k) k:=rfl;rw[<-e2]at hc;generalize yTl z (k+1)=z1 at *;refine yafw (fC klt) ?_;refine yYp hc (goQ_ ?_);refine⟨gB klt hlen,k+1,klt,by omega,?_⟩;have e3:yTl z (k+1)=z1:=e2.symm▸rfl;apply aB<;>simp[e3]
 .obtain rfl:k=x.yRX.length:=by omega
  exact yafA (aG kge)
def yYn(x:yRW)(q:Int)(hl:x.small):nI prg 19 [.agg (x.enc.map .c),.c (.i q)] (.agg ((ySY x q).iD.map .c)):=by
 have hp:=yXi (q:=q) hl;have hpc:=yXT x q hl;refine fF yYl (goQ_ ?_);refine dD hpc ?_;generalize ySY x q=r at *;refine goQ_ ?_;refine yX3 (yuq r hp) (dP (yRW.aF r)) ?_;exact goU_
def yUn(x:yRW)(q:Int):Nat->yRW
 |0=>x
 |k+1=>ySY (yUn x q k) q
def yS6(x:yRW)(q n:Int):yRW:=if inRange n 0 2000 then yUn x q n.toNat else x
def yUq{x:yRW}{q:Int}(h:x.small):∀k:Nat,(yUn x q k).small
 |0=>h
 |k+1=>yXi (yUq h k)
def yVv(x:yRW)(q n:Int)(hs:x.small):nI prg 15 [.agg (x.enc.map .c),.c (.i q),.c (.i n)] (.agg ((yS6 x q n).iD.map .c)):=by
 refine fF yU5 (goQ_ ?_);refine yYq (iC n 0 2000) ?_;cases hin:inRange n 0 2000 with
 |false=>
  have e:yS6 x q n=x:=by simp[yS6,hin]
  rw[e];refine goQ_ ?_;refine yX3 (yuq x hs) (dP (yRW.aF _)) ?_;exact goU_
 |true=>
 have hr:=aC.1 hin;obtain⟨m,rfl⟩:=zcU hr.1;have e:yS6 x q m=yUn x q m:=by simp[yS6,hin]
 rw[e];refine goQ_ ?_;refine yX2 (λk=>k<=m) (λk=>xC [(1,.c (.i q)),(3,.box 3 0),(6,.box 6 0),(9,.c (.i m)),(10,.c (.i k))] [(3,.box ((yUn x q k).enc.map .c)),(6,zW)]) (λk=>m-k) (by apply aB<;>simp[yUn]) ?_
 rintro k hk
 have sk:=yUq (q:=q) hs k;rcases zas k m with klt|kge
 .have hc:=yXT (yUn x q k) q sk;have e:yUn x q (k+1)=ySY (yUn x q k) q:=rfl;rw[<-e]at hc;generalize yUn x q (k+1)=v at *;refine yafw (fC klt) ?_;refine yYp hc (goQ_ ?_);refine⟨by unfold inI;omega,k+1,klt,by omega,?_⟩;have e2:yUn x q (k+1)=v:=e.symm▸rfl;apply aB<;>simp[e2]
 .obtain rfl:k=m:=by omega
  refine yafw (aG kge) ?_;refine yX3 (yuq _ sk) (dP (yRW.aF _)) ?_;exact goU_
def yabs{α β:Type}{f:α->List β}{b:α}:∀{l:List α} {k:Nat} {a:α},l[k]?=some a->f b=f a->(l.set k b).flatMap f=l.flatMap f
 |[],_,_,h,_=>by cases h
 |c::l,0,a,h,e=>by
  obtain rfl:c=a:=by simpa using h
  simp[e]
 |c::l,k+1,a,h,e=>by
  have:=yabs (f:=f) (b:=b) (l:=l) (k:=k) (a:=a) (by simpa using h) e;simp[this]
def yZR{α β:Type}{f:α->List β}{B n:Nat}{l:List α}(hl:l.length<=n)(h:∀a∈l,(f a).length<=B):(l.flatMap f).length<=n*B:=by
 have key:∀l:List α,(∀a∈l,(f a).length<=B)->(l.flatMap f).length<=l.length*B:=by
  intro l
  induction l with
  |nil=>intro _;simp
  |cons a l ih=>
   intro h;have h1:=h a (by simp);have h2:=ih λb hb=>h b (by simp[hb]);simp only[zaU,zah,zar,zbB,zco];omega
 exact zba (key l h) (zaq _ hl)
def yabf(t:yRT):(lG t).length<=6:=by
 cases h:oC t with
 |true=>exact yx0 h
 |false=>unfold lG;rw[if_neg (by simp[h])];simp
def yaas{x:yRW}(h:rC x=true):(yYP x).length<=10000:=by
 have F:=yCK h
 have hw:∀w∈x.yRX,fJ w=true:=by
  have hh:=h;simp only[rC,sJ,zad,zaf]at hh;exact hh.1.1.1.1.1.1.2.2
 have f1:=F.six;have f2:=F.mvs;have f3:=F.wks;have f4:=F.arr
 have a1:(x.yR3.flatMap yYR).length<=6*(24*6):=yZR (by omega) λl hl=>by
  obtain⟨k,hk⟩:=zbd.1 hl;exact yZR (F.few k l hk) λm _=>yabf m.yRT
 have a2:(x.yRX.flatMap yZy).length<=6*(24*6+8*6):=yZR (by omega) λw hm=>by
  have ok:=hw w hm;simp only[fJ,lF,Distinct,zad,decide_eq_true_eq]at ok;have b1:(w.Calls.flatMap yZc).length<=24*6:=yZR ok.1.2 λc _=>yabf c.yRT;have b2:(w.yR0.yRY.flatMap lG).length<=8*6:=yZR ok.1.1.1.1.1.1.2.1.1 λt _=>yabf t;unfold yZy;rw[zah];omega
 have a3:(x.yR9.flatMap lG).length<=500*6:=yZR f4 λt _=>yabf t;rw[yaai];omega
def yabn{α:Type}{f:α->Int}{b:α}:∀{l:List α} {k:Nat} {a:α},l[k]?=some a->((l.set k b).map f).sum=(l.map f).sum-f a+f b
 |[],_,_,h=>by cases h
 |c::l,0,a,h=>by
  obtain rfl:c=a:=by simpa using h
  simp only[zbC,zaC,zaM];omega
 |c::l,k+1,a,h=>by
  have:=yabn (f:=f) (b:=b) (l:=l) (k:=k) (a:=a) (by simpa using h);simp only[zch,zaC,zaM];omega
def yahR{b:Int}:∀{l:List Int} {k:Nat} {a:Int},l[k]?=some a->(l.set k b).sum=l.sum-a+b:=by
 intro l k a h;have:=yabn (f:=λx:Int=>x) (b:=b) h;simpa using this
def Reach.has(r:Reach)(n:Int):Prop:=xE r=true/\sZ r=n
def yaeR{t:List ySc}{v:Int}{p:List Int}(ht:sH t=true)(hv:0<=v)(hl:p.length<=12)(hp:∀x∈p,0<=x)(hs:v+p.sum<=1000000000):xE ⟨t,v,p⟩=true:=by
 have hall:∀(p:List Int),(∀x∈p,0<=x)->0<=p.sum/\∀x∈p,x<=p.sum:=by
  intro p
  induction p with
  |nil=>intro _;exact⟨by simp,λx hx=>by cases hx⟩
  |cons a p ih=>
   intro h;obtain⟨h1,h2⟩:=ih λx hx=>h x (by simp[hx]);have h3:=h a (by simp);refine⟨by simp only[zaM];omega,λx hx=>?_⟩;rw[zaM];rcases zax.1 hx with e|e
   .omega
   .have:=h2 x e;omega
 obtain⟨h1,h2⟩:=hall p hp;simp only[xE,sZ,ht,zad,decide_eq_true_eq,zaf,zaW];exact⟨⟨⟨aC.2 ⟨hv,by omega⟩,hl⟩,λx hx=>aC.2 ⟨hp x hx,by have:=h2 x hx;omega⟩⟩,decide_eq_true hs⟩
structure yahW(r:Reach):Prop where
 t:sH r.ySg=true
 v:0<=r.ySh
 l:r.ySk.length<=12
 p:∀x∈r.ySk,0<=x
 s:r.ySh+r.ySk.sum<=1000000000
 ps:0<=r.ySk.sum
def yagE{r:Reach}(h:xE r=true):yahW r:=by
 have f:=yF h;simp only[xE,zad,decide_eq_true_eq]at h;refine⟨h.1.1.1.1,(aC.1 (show inRange r.ySh 0 1000000000=true from f.vol)).1,f.len,λx hx=>(aC.1 (show inRange x 0 1000000000=true from f.amt x hx)).1,h.2,ymV f.amt⟩
def yagb{r:Reach}{q:Int}(h:xE r=true)(h0:0<=q)(hq:q<=rO r):(dU r q).has (sZ r+q):=by
 have f:=yagE h;have f1:=f.v;have f2:=f.s;have f3:=f.l;have f4:=f.ps;have hsp:rO r=1000000000-(r.ySh+r.ySk.sum):=by unfold rO;rw[if_pos h];rfl
 have hc:ybC r q=true:=by simp[ybC,h,h0,hq]
 unfold dU;rw[if_pos hc];split
 .refine⟨yaeR f.t (by omega) f3 f.p (by omega),?_⟩;simp only[sZ];omega
 .rename_i hp;obtain⟨v,hv⟩:∃v,r.ySk[r.ySk.length-1]?=some v:=⟨_,zab (by omega)⟩;have hg:r.ySk.getD (r.ySk.length-1) 0=v:=by rw[zai,hv];rfl
  have hv0:=f.p v (zac hv);have hs:=yahR (b:=v+q) hv;rw[hg];refine⟨yaeR f.t f1 (by simpa using f3) (λx hx=>?_) (by omega),?_⟩
  .rcases zaK hx with e|e
   .exact f.p x e
   .omega
  .simp only[sZ];omega
def yahN{r:Reach}(h:xE r=true):(yS8 r).has (sZ r):=by
 have f:=yagE h;have f1:=f.v;have f2:=f.s;have f3:=f.l;have f4:=f.ps;have f5:=f.p;unfold yS8;split
 .obtain⟨t,v,p⟩:=r;cases p with
  |nil=>rename_i h2;simp at h2
  | cons a p=>
   have ha:=f5 a (by simp);have f1:0<=v:=f1;simp only[zaM]at f2;have e:(List.tail (a::p)++[0]).sum=p.sum:=by simp
   simp only[zai,zbP,zbc];refine⟨yaeR f.t (by omega) (by simp at f3|-;omega) (λx hx=>?_) (by rw[e];omega),?_⟩
   .rcases zaj.1 hx with e|e
    .exact f5 x (by simp at e;simp[e])
    .simp at e;omega
   .simp only[sZ,e,zaM];omega
 .exact⟨h,rfl⟩
def yafZ{r:Reach}{a k:Int}(h:xE r=true):(rG r a k).1.has (sZ r-(rG r a k).2)/\0<=(rG r a k).2:=by
 have f:=yagE h;have f1:=f.v;have f2:=f.s;have f4:=f.ps;unfold rG;split
 .rename_i hc;simp only[ycj,zad,decide_eq_true_eq]at hc;obtain⟨n,hn⟩:∃n,takeN r a k=n:=⟨_,rfl⟩
  have hn2:0<=n/\n<=r.ySh:=by
   rw[<-hn];simp only[takeN];(repeat' split)<;>omega
  rw[hn];refine⟨⟨yaeR f.t (by omega) f.l f.p (by omega),?_⟩,hn2.1⟩;simp only[sZ];omega
 .exact⟨⟨h,by simp⟩,by simp⟩
def yahe{r:Reach}{a k:Int}(h:0<=a):(rG r a k).2<=a:=by
 unfold rG;split
 .simp only[takeN];(repeat' split)<;>omega
 .exact h
def yahP{a b:Reach}{q k:Int}(ha:xE a=true)(hb:xE b=true):xE (yTe a b q k).1=true/\xE (yTe a b q k).2.1=true/\sZ (yTe a b q k).1+sZ (yTe a b q k).2.1=sZ a+sZ b:=by
 unfold yTe;split
 .rename_i hc;simp only[yTr,zad,decide_eq_true_eq]at hc;obtain⟨t1,t2⟩:=yafZ (a:=yUl b q) (k:=k) ha;have hsp:=ys2 b;have hq:0<=yUl b q/\yUl b q<=rO b:=by unfold yUl;split<;>omega
  have tm:=yahe (r:=a) (k:=k) hq.1;have s1:=yagb hb t2 (by omega);refine⟨t1.1,s1.1,?_⟩;rw[t1.2,s1.2];omega
 .exact⟨ha,hb,rfl⟩
def yahU{a b:Reach}{w:ySp}(ha:xE a=true)(hb:xE b=true):xE (ySZ a b w).1=true/\xE (ySZ a b w).2.1=true/\sZ (ySZ a b w).1+sZ (ySZ a b w).2.1=sZ a+sZ b:=by
 unfold ySZ;split
 .exact yahP ha hb
 .exact⟨ha,hb,rfl⟩
def yagT{w:ySp}{o:Int}(h:iZ w=true):iZ (yTf w o)=true:=by
 unfold yTf;split
 .rename_i hc;simp only[zad]at hc;have hr:=aC.1 hc.2;have f:=yTI h;have f2:=f.opn;have f3:=f.stp
  have hg:inRange (yWe w o) 0 (10*w.ySu)=true:=by
   refine aC.2 ?_;simp only[yWe];(repeat' split)<;>omega
  simp only[iZ,zad]at h|-;exact⟨⟨⟨⟨h.1.1.1.1,hg⟩,h.1.1.2⟩,h.1.2⟩,h.2⟩
 .exact h
def yahD{w:ySp}{r:Rule}{u d q:Int}(h:iZ w=true):iZ (yS9 w r u d q)=true:=by
 unfold yS9;split
 .split
  .exact yagT h
  .exact yagT h
 .exact h
def yahV{w:yR8}{v:ySp}(h:fJ w=true)(hv:iZ v=true):fJ (yUp w v)=true:=by
 simp only[fJ,yUp,zad]at h|-;exact⟨⟨⟨⟨⟨⟨h.1.1.1.1.1.1,hv⟩,h.1.1.1.1.2⟩,h.1.1.1.2⟩,h.1.1.2⟩,h.1.2⟩,h.2⟩
def yaft{α:Type}{p:α->Bool}{l:List α}{k:Nat}{b:α}(h:∀x∈l,p x=true)(hb:p b=true):∀x∈l.set k b,p x=true:=by
 intro x hx;rcases zaK hx with e|e
 .exact h x e
 .rw[e];exact hb
structure yagU(rs:List Reach)(ws:List yR8)(s:List Reach×List yR8):Prop where
 r:∀r∈s.1,xE r=true
 w:∀w∈s.2,fJ w=true
 rs:ySA s.1=ySA rs
 ws:(s.2.map yYT).sum=(ws.map yYT).sum
def yagX{q:Int}{rs:List Reach}{ws:List yR8}(hr:∀r∈rs,xE r=true)(hw:∀w∈ws,fJ w=true)(hn:ws.length<rs.length):∀k:Nat,k<=ws.length->yagU rs ws (ySX q rs ws k)
 |0,_=>⟨hr,hw,rfl,rfl⟩
 | k+1,hk=>by
  obtain⟨a,b,c,d⟩:=yagX (q:=q) hr hw hn k (by omega);obtain⟨l1,l2⟩:=yTG (q:=q) (rs:=rs) (ws:=ws) k;simp only[ySX];generalize(ySX q rs ws k).1=rs' at *;generalize(ySX q rs ws k).2=ws' at *;have r1:=ye8 (rs:=rs') (k:=k) (by omega);have r2:=ye8 (rs:=rs') (k:=k+1) (by omega);have w1:=yi4 (ws:=ws') (k:=k) (by omega);have wk:=b _ (zac w1);have wv:=wk;simp only[fJ,zad]at wv;obtain⟨t1,t2,t3⟩:=yahU (w:=yTz q rs' ws' k) (a _ (zac r1)) (a _ (zac r2));have h2:(rs'.set k (through q rs' ws' k).1)[k+1]?=some (dR rs' (k+1)):=by rw[zcJ (by omega)];exact r2
  refine⟨yaft (yaft a t1) t2,yaft b (yahV wk (yahD wv.1.1.1.1.1.2)),?_,?_⟩
  .have e1:=yabn (f:=sZ) (b:=(through q rs' ws' k).1) r1;have e2:=yabn (f:=sZ) (b:=(through q rs' ws' k).2.1) h2;have t3:sZ (through q rs' ws' k).1+sZ (through q rs' ws' k).2.1=sZ (dR rs' k)+sZ (dR rs' (k+1)):=t3;unfold ySA at c|-;simp only;omega
  .have e1:=yabn (f:=yYT) (b:=yUp (dW ws' k) (yTz q rs' ws' k)) w1;have e3:yYT (yUp (dW ws' k) (yTz q rs' ws' k))=yYT (dW ws' k):=rfl;simp only;omega
def yagw{x:yRW}(h:rC x=true):yYN x=ySA x.yRV+(x.yRX.map yYT).sum:=by
 unfold yYN yYJ;rw[if_pos h,if_pos (yCL h).ySA]
def yafW{x:yRW}(h:rC x=true):0<=(x.yRX.map yYT).sum:=by
 have hw:=(yCL h).rng
 have:∀l:List yR8,(∀w∈l,0<=yYT w)->0<=(l.map yYT).sum:=by
  intro l
  induction l with
  |nil=>intro _;simp
  |cons a l ih=>
   intro h;have h1:=h a (by simp);have h2:=ih λw hw=>h w (by simp[hw]);simp only[zaC,zaM];omega
 exact this _ λw h=>(hw w h).1
def yagY{x:yRW}{rs:List Reach}{ws:List yR8}{t i o:Int}(h:rC x=true)(hl:rs.length=x.yRV.length)(hl2:ws.length=x.yRX.length)(hr:∀r∈rs,xE r=true)(hrs:ySA rs<=1000000000)(hw:∀w∈ws,fJ w=true)(ht:0<=t/\t<=1000000)(hi:0<=i/\i<=1000000000)(ho:0<=o/\o<=1000000000):
 rC ⟨t,rs,x.ySl,ws,x.yR3,x.yR9,x.ySd,x.yRZ,x.Book,x.yR1,x.Start,i,o⟩=true:=by
 simp only[rC,zad]at h|-;obtain⟨⟨⟨⟨⟨⟨⟨h1,h2⟩,h3⟩,h4⟩,h5⟩,h6⟩,h7⟩,h8⟩:=h;refine⟨⟨⟨⟨⟨⟨⟨aC.2 ht,?_⟩,?_⟩,h4⟩,h5⟩,h6⟩,aC.2 hi⟩,aC.2 ho⟩
 .simp only[sJ,jY,zad,decide_eq_true_eq,zaf]at h2|-;rw[hl,hl2];obtain⟨⟨⟨⟨⟨⟨⟨⟨⟨p0,p0'⟩,p1⟩,p1'⟩,p2⟩,p3⟩,p4⟩,p5⟩,p6⟩,p7⟩:=h2;exact⟨⟨⟨⟨⟨⟨⟨⟨⟨p0,p0'⟩,hr⟩,hrs⟩,p2⟩,p3⟩,p4⟩,p5⟩,p6⟩,hw⟩
 .simp only[pO]at h3|-;rw[hl2];exact h3
def yafT{rs:List Reach}(h:∀r∈rs,xE r=true):0<=ySA rs:=by
 have:=(yfj (l:=rs) (k:=rs.length) (by rw[zby];exact h)).1
 rwa [ycL (Nat.le_refl _)]at this
def yafx:∀{rs:List Reach},(∀r∈rs,xE r=true)->(∀r∈rs.map yS8,xE r=true)/\ySA (rs.map yS8)=ySA rs
 |[],_=>⟨λr h=>(by cases h),rfl⟩
 | r::rs,h=>by
  obtain⟨h1,h2⟩:=yafx (rs:=rs) λr hr=>h r (by simp[hr]);have h3:=yahN (h r (by simp));refine⟨λy hy=>?_,?_⟩
  .rw[zaC]at hy;rcases zax.1 hy with e|e
   .rw[e];exact h3.1
   .exact h1 y e
  .have h4:=h3.2;unfold ySA at h2|-;simp only[zaC,zaM];omega
def yaaN(l:List yR6):List yRT:=l.map λm=>m.yRT
def yL(w:yR8):List yRT:=(w.Calls.map λc=>c.yRT)++w.yR0.yRY
def yaba(x:yRW):List yRT:=x.yR3.flatMap yaaN++x.yRX.flatMap yL++x.yR9
def num(p:yRT->Bool)(x:yRW):Nat:=(yaba x).countP p
def one(p:yRT->Bool)(t:yRT):Nat:=[t].countP p
def yacy{p:yRT->Bool}{x:yRW}:num p x=(x.yR3.flatMap yaaN).countP p+(x.yRX.flatMap yL).countP p+x.yR9.countP p:=by
 simp only[num,yaba,zbm]
def yaeP{α β:Type}{f:α->List β}{q:β->Bool}{b:α}:∀{l:List α} {k:Nat} {a:α},l[k]?=some a->((l.set k b).flatMap f).countP q+(f a).countP q=(l.flatMap f).countP q+(f b).countP q
 |[],_,_,h=>by cases h
 |c::l,0,a,h=>by
  obtain rfl:c=a:=by simpa using h
  simp only[zbC,zaU,zbm];omega
 |c::l,k+1,a,h=>by
  have:=yaeP (f:=f) (q:=q) (b:=b) (l:=l) (k:=k) (a:=a) (by simpa using h);simp only[zch,zaU,zbm];omega
def yagt{p:yRT->Bool}{l:List yR6}{m:yR6}:(yaaN (l++[m])).countP p=(yaaN l).countP p+one p m.yRT:=by
 simp only[yaaN,zaD,zbm,zaC,zcj,one]
def yabI(p:yRT->Bool)(s:yVr):Nat:=(yaaN s.1).countP p+(s.2.1.flatMap yL).countP p+s.2.2.countP p
def yags{p:yRT->Bool}{W:List yR8}{j:Nat}{c:yR4}(h:noRoom W j=false):((yTE W j c).flatMap yL).countP p=(W.flatMap yL).countP p+one p c.yRT:=by
 unfold noRoom at h;unfold yTE;cases hw:W[j]? with
 |none=>rw[hw]at h;cases h
 | some w=>
  have:=yaeP (f:=yL) (q:=p) (b:=({w with Calls:=w.Calls++[c]}:yR8)) hw
  have e:(yL ({w with Calls:=w.Calls++[c]}:yR8)).countP p=(yL w).countP p+one p c.yRT:=by
   simp only[yL,zaD,zbm,zaC,zcj,one];omega
  simp only;omega
def yagm{p:yRT->Bool}{x:yRW}{k:Nat}{w:Way}{s:yVr}{m:yR6}:yabI p (yS3 x k w s m)=yabI p s+one p m.yRT:=by
 have a1:=yagt (p:=p) (l:=s.1) (m:=m);have a2:(s.2.2++[m.yRT]).countP p=s.2.2.countP p+one p m.yRT:=zbm;unfold yS3;split
 .split
  .simp only[yabI];omega
  .split
   .simp only[yabI];omega
   .rename_i h;have a3:=yags (p:=p) (c:=⟨m.yRT,x.Time,-1⟩) (by simpa using h);simp only[yabI]at a3|-;omega
 .simp only[yabI];omega
def yaeW{p:yRT->Bool}{x:yRW}{k:Nat}{w:Way}{r:Reach}:∀(ms:List yR6) (s:yVr),yabI p (ms.foldl (λq m=>yS3 x k w q (yS7 m w r)) s)=yabI p s+(yaaN ms).countP p
 |[],s=>by simp[yaaN]
 | m::ms,s=>by
  have h1:=yaeW (p:=p) (x:=x) (k:=k) (w:=w) (r:=r) ms (yS3 x k w s (yS7 m w r));have h2:=yagm (p:=p) (x:=x) (k:=k) (w:=w) (s:=s) (m:=yS7 m w r);rw[yWg]at h2
  have h3:(yaaN (m::ms)).countP p=one p m.yRT+(yaaN ms).countP p:=by
   simp only[yaaN,zaC,one];rw[show(m.yRT::ms.map λm=>m.yRT)=[m.yRT]++ms.map λm=>m.yRT from rfl,zbm]
  rw[zbz];omega
def yafB{p:yRT->Bool}{x:yRW}(F:ySM x):∀k:Nat,k<=x.yR3.length->((ySW x k).1.flatMap yaaN).countP p+((ySW x k).2.1.flatMap yL).countP p+(ySW x k).2.2.countP p=((x.yR3.take k).flatMap yaaN).countP p+(x.yRX.flatMap yL).countP p+x.yR9.countP p
 |0,_=>by simp[ySW]
 |k+1,hk=>by
  have ih:=yafB (p:=p) F k (by omega);have f1:=F.ways;have f2:=F.mvs;obtain⟨w,hw⟩:∃w,x.ySl[k]?=some w:=⟨_,zab (by omega)⟩;obtain⟨r,hr⟩:∃r,x.yRV[k]?=some r:=⟨_,zab (by omega)⟩;obtain⟨ms,hms⟩:∃ms,x.yR3[k]?=some ms:=⟨_,zab (by omega)⟩;have e:=yUD hw hr hms;have h1:=yaeW (p:=p) (x:=x) (k:=k) (w:=w) (r:=r) ms ([],(ySW x k).2);have h2:yabI p ([],(ySW x k).2)=((ySW x k).2.1.flatMap yL).countP p+(ySW x k).2.2.countP p:=by simp[yabI,yaaN]
  have h3:x.yR3.take (k+1)=x.yR3.take k++[ms]:=by rw[zao,hms];rfl
  rw[e,h3];have h6:yabI p (yS4 x k w r (ySW x k).2 ms)=yabI p ([],(ySW x k).2)+(yaaN ms).countP p:=h1;generalize yS4 x k w r (ySW x k).2 ms=q at *;simp only[yabI,zaV,zbm,zaU,zdi,zbF]at *;omega
def yahF{p:yRT->Bool}{x:yRW}:num p (yTd x)=num p x:=by
 unfold yTd;split
 .rename_i hc;simp only[zad]at hc;have:=yafB (p:=p) (yCK hc.1) x.yR3.length (Nat.le_refl _);rw[zby]at this;rw[yacy,yacy];exact this
 .rfl
def yagZ{p:yRT->Bool}{x:yRW}{q:Int}:num p (yS2 x q)=num p x:=by
 unfold yS2;split
 .have h:∀k:Nat,k<=x.yRX.length->(ySX q x.yRV x.yRX k).2.flatMap yL=x.yRX.flatMap yL:=by
   intro k
   induction k with
   |zero=>intro _;rfl
   |succ k ih=>
    intro hk;have l2:=(yTG (q:=q) (rs:=x.yRV) (ws:=x.yRX) k).2;rw[<-ih (by omega)];exact yabs (yi4 (by omega)) rfl
  have:=h _ (Nat.le_refl _);rw[yacy,yacy];simp only;rw[show(stW x q).flatMap yL=x.yRX.flatMap yL from this]
 .rfl
def yafz{p:yRT->Bool}{x:yRW}{k:Nat}{w w':yR8}(h:x.yRX[k]?=some w):num p (rD x k w')+(yL w).countP p=num p x+(yL w').countP p:=by
 have:=yaeP (f:=yL) (q:=p) (b:=w') h;rw[yacy,yacy];simp only[rD];omega
def yafV{p:yRT->Bool}{x:yRW}{k:Nat}{m:yR6}(h:k<x.yR3.length):num p (oG x k m)=num p x+one p m.yRT:=by
 obtain⟨l,hl⟩:∃l,x.yR3[k]?=some l:=⟨_,zab h⟩;have:=yaeP (f:=yaaN) (q:=p) (b:=l++[m]) hl;have a1:=yagt (p:=p) (l:=l) (m:=m);rw[yacy,yacy];simp only[oG,zai,hl,zbc];omega
def yahI{c:Int}{n k:Nat}:(xF c n k).Pairwise (·<·):=List.Pairwise.filter _ zdL
structure yahC(l:yR0)(q:List yRT)(cs:List Nat):Prop where
 up:cs.Pairwise (·<·)
 lt:∀c∈cs,c<q.length
 fits:cs≠[]->oO l.Length l.Width (l.yRY++qAt q cs)=true
def yadO{l:yR0}{q:List yRT}{n top:Nat}(hn:n<=q.length):∀k:Nat,yahC l q (aS l q n top k).2
 |0=>⟨by simp[aS],by simp[aS],by simp[aS]⟩
 | k+1=>by
  have ih:=yadO (l:=l) (top:=top) hn k;unfold aS ygf;split
  .rename_i h;exact⟨yahI,λx hx=>zds (yb5 hx) hn,λ_=>h.2⟩
  .exact ih
def yafk{l:yR0}{q:List yRT}:yahC l q (sQ l q):=by
 unfold sQ;split
 .exact yadO (by unfold yau;omega) _
 .exact⟨by simp,by simp,by simp⟩
def yagx{W:Int}{a b:List yRT}:∀k:Nat,k<=a.length->yc6 W (a++b) k=yc6 W a k
 |0,_=>rfl
 |k+1,hk=>by
  obtain⟨t,ht⟩:∃t,a[k]?=some t:=⟨_,zab (by omega)⟩;rw[ypI ht,ypI (by rw[zaX (by omega)];exact ht),yagx k (by omega)]
def yabm(W:Int)(l:List yRT)(k:Nat):Int:=(yc6 W l k).1+(yc6 W l k).2.2
def yafj{W:Int}{l:List yRT}{k:Nat}{t:yRT}(h:l[k]?=some t):yabm W l k<=yabm W l (k+1)/\aI t<=yabm W l (k+1):=by
 have h1:=yfk t;have h2:=(yzg (W:=W) (l:=l) k).1;have h3:=(yzg (W:=W) (l:=l) k).2.2;unfold yabm;rw[ypI h];unfold ytB;split
 .simp only;split<;>omega
 .simp only;omega
def yacV{W:Int}{l:List yRT}{j:Nat}:∀d:Nat,j+d<=l.length->yabm W l j<=yabm W l (j+d)
 |0,_=>zbj _
 |d+1,h=>by
  obtain⟨t,ht⟩:∃t,l[j+d]?=some t:=⟨_,zab (by omega)⟩;have h1:=yacV (W:=W) (l:=l) (j:=j) d (by omega);have h2:=(yafj (W:=W) ht).1;rw[show j+(d+1)=j+d+1 from rfl];omega
def yahB{L W:Int}{l:List yRT}(h:oO L W l=true){t:yRT}(ht:t∈l):aI t<=L/\iH t<=W:=by
 simp only[oO,zad,decide_eq_true_eq,zaf]at h;obtain⟨k,hk⟩:=zbd.1 ht;have kl:=(zaa.1 hk).1;have h1:=(yafj (W:=W) hk).2;have h2:=yacV (W:=W) (l:=l) (j:=k+1) (l.length-(k+1)) (by omega);rw[show k+1+(l.length-(k+1))=l.length by omega]at h2;have h3:yabm W l l.length<=L:=h.2;exact⟨by omega,h.1.2 t ht⟩
def yafO{a b:List yRT}(h:Distinct (a++b)=true):Distinct a=true:=by
 simp only[Distinct,zad,decide_eq_true_eq,zaf,zah,zaV]at h|-;exact⟨⟨by omega,λt ht=>h.1.2 t (zbi _ ht)⟩,(zaY.1 h.2).1⟩
def yafX{L W:Int}{a b:List yRT}(h:oO L W (a++b)=true):oO L W a=true:=by
 have h0:=h;simp only[oO,zad,decide_eq_true_eq,zaf]at h|-;refine⟨⟨yafO h.1.1,λt ht=>h.1.2 t (zbi _ ht)⟩,?_⟩;have h1:yabm W (a++b) a.length=yabm W a a.length:=by unfold yabm;rw[yagx _ (Nat.le_refl _)]
 have h2:=yacV (W:=W) (l:=a++b) (j:=a.length) b.length (by simp);rw[show a.length+b.length=(a++b).length by simp]at h2;have h3:yabm W (a++b) (a++b).length<=L:=h.2
 show yabm W a a.length<=L
 omega
def yahn{l:yR0}{ts:List yRT}(h:lF l=true)(hd:Distinct ts=true):lF (l.yt1 ts)=true:=by
 simp only[lF,zad]at h|-;obtain⟨h1,_⟩:=h;exact⟨h1,hd⟩
def yagG{r:Reach}{l:yR0}{ts:List yRT}(hl:lF l=true)(hI:l.yRY=[])(hf:oO l.Length l.Width ts=true)(hm:∀t∈ts,lJ l r t=true):xR r l ts=l.yt1 ts:=by
 have key:∀j:Nat,j<=ts.length->xR r l (ts.take j)=l.yt1 (ts.take j):=by
  intro j
  induction j with
  |zero=>intro _;cases l;simp only[zdy];simp only at hI;rw[hI];rfl
  | succ j ih=>
   intro hj;obtain⟨t,ht⟩:∃t,ts[j]?=some t:=⟨_,zab (by omega)⟩;have e:ts.take (j+1)=ts.take j++[t]:=by rw[zao,ht];rfl
   have hts:ts=ts.take j++[t]++ts.drop (j+1):=by rw[<-e,zav]
   have hf2:oO l.Length l.Width (ts.take j++[t])=true:=yafX (b:=ts.drop (j+1)) (by rw[<-hts];exact hf)
   have hd:Distinct (ts.take j)=true:=by
    have:=yafX hf2;simp only[oO,zad]at this;exact this.1.1
   have m:=hm t (zac ht)
   have m2:lJ (l.yt1 (ts.take j)) r t=true:=by
    have hlk:=yahn hl hd;simp only[lJ,zad]at m|-;exact⟨⟨⟨⟨hlk,m.1.1.1.2⟩,m.1.1.2⟩,m.1.2⟩,m.2⟩
   rw[e,yqC,ih (by omega)];unfold xH;rw[if_pos (by rw[m2,zaW];exact hf2)];rfl
 have:=key ts.length (Nat.le_refl _)
 rwa [zby]at this
def yagn{cs:List yR4}{now:Int}:(kS cs now).Nodup:=by
 unfold kS;refine sorted_perm.nodup_iff.2 ?_;exact List.Pairwise.filter _ zcL
def yagg{x:yRW}{k:Nat}:(places x k).Nodup:=by
 unfold places placesTo;rw[zae (Nat.le_refl _)];exact List.Pairwise.filter _ yagn
def yafS{x:yRW}{k:Nat}:∀i∈places x k,i<(dW x.yRX k).Calls.length/\bY (dW x.yRX k) (dR x.yRV (jM x k)) i=true:=λi hi=>by
 obtain⟨h1,h2⟩:=yhn hi;exact⟨yjA i h1,h2⟩
def yafY(x:yRW)(k:Nat):List Nat:=(chosen x k).map λc=>(places x k).getD c 0
def yahA{x:yRW}{k:Nat}:(yafY x k).Nodup/\(∀i∈yafY x k,i∈places x k)/\yiZ x k=(yafY x k).map (aO (dW x.yRX k)):=by
 have P:=yafk (l:=(dW x.yRX k).yR0) (q:=tC (dW x.yRX k) (places x k));have hlen:(tC (dW x.yRX k) (places x k)).length=(places x k).length:=by simp[tC]
 have P1:(chosen x k).Pairwise (·<·):=P.up;have P2:∀c∈chosen x k,c<(places x k).length:=λc hc=>by have:=P.lt c hc;omega
 have hget:∀c,c<(places x k).length->(places x k)[c]?=some ((places x k).getD c 0):=λc hc=>by
  rw[zai,zab hc];rfl
 refine⟨?_,?_,?_⟩
 .unfold yafY;refine List.pairwise_map.2 ?_;refine P1.imp_of_mem ?_;intro a b ha hb hab e;have h1:=hget a (P2 a ha);have h2:=hget b (P2 b hb);have:=(List.nodup_iff_pairwise_ne.1 (yagg (x:=x) (k:=k)));have h3:=zcp.1 this a b (P2 a ha) (P2 b hb) hab;apply h3;have e1:=(zaa.1 h1).2;have e2:=(zaa.1 h2).2;rw[e1,e2,e]
 .intro i hi;obtain⟨c,hc,rfl⟩:=zaP.1 hi;exact zac (hget c (P2 c hc))
 .unfold yiZ qAt yafY;rw[zdf];refine zbg λc hc=>?_;have h1:=hget c (P2 c hc)
  show(tC (dW x.yRX k) (places x k)).getD c ⟨false,[]⟩=aO (dW x.yRX k) ((places x k).getD c 0)
  rw[zai,tC,zau,h1];rfl
def yahq{is:List Nat}{i:Nat}:∀{g:List Bool},(∀j∈is,j<g.length)->(gZ g is).getD i false=(decide (i∈is)||g.getD i false):=by
 induction is with
 |nil=>intro g _;simp[gZ]
 | cons j is ih=>
  intro g h;have h1:=ih (g:=g.set j true) (λa ha=>by rw[zbn];exact h a (by simp[ha]));have hj:=h j (by simp);have e:gZ g (j::is)=gZ (g.set j true) is:=rfl;rw[e,h1]
  by_cases hij:j=i
  .subst hij;simp[zai,zcX hj]
  .simp[zai,zcJ hij,Ne.symm hij]
def yahv{p:yRT->Bool}{cs:List yR4}{is:List Nat}(hn:is.Nodup)(hl:∀i∈is,i<cs.length)(w:yR8)(hw:w.Calls=cs):
 ((mO cs (gZ (List.replicate cs.length false) is) cs.length).map λc=>c.yRT).countP p+(is.map (aO w)).countP p=(cs.map λc=>c.yRT).countP p:=by
 have hg:∀i,(gZ (List.replicate cs.length false) is).getD i false=decide (i∈is):=λi=>by
  rw[yahq (by simpa using hl)];simp[zai,zbO];intro h;split at h<;>simp at h
 have hc:∀i,aO w i=(cs.getD i default).yRT:=λi=>by unfold aO;rw[hw]
 have h1:cs.map (λc=>c.yRT)=(List.range cs.length).map (aO w):=by
  refine zbU λi=>?_;rw[zau,zau]
  by_cases hi:i<cs.length
  .rw[zdW hi];simp[hc,zai,zab hi]
  .rw[zdg (by omega),zdg (by simp;omega)];rfl
 have h2:(mO cs (gZ (List.replicate cs.length false) is) cs.length).map (λc=>c.yRT)=((List.range cs.length).filter λi=>!decide (i∈is)).map (aO w):=by
  unfold mO;rw[zdf];have e:((List.range cs.length).filter λi=>!(gZ (List.replicate cs.length false) is).getD i false)=(List.range cs.length).filter λi=>!decide (i∈is):=zda λi _=>by rw[hg]
  rw[e];exact zbg λi _=>(hc i).symm
 have h3:is.Perm ((List.range cs.length).filter λi=>decide (i∈is)):=by
  refine(List.perm_ext_iff_of_nodup hn (List.Pairwise.filter _ zcL)).2 λa=>?_;simp only[zbE,zaN,decide_eq_true_eq];exact⟨λh=>⟨hl a h,h⟩,λh=>h.2⟩
 have h4:=List.filter_append_perm (λi=>decide (i∈is)) (List.range cs.length);rw[h1,h2,(h3.map (aO w)).countP_eq p,<-(h4.map (aO w)).countP_eq p,zaD,zbm];omega
def yaaP{p:yRT->Bool}{x:yRW}{k:Nat}(kw:k<x.yRX.length){l:yR0}(hl:l.yRY=(dW x.yRX k).yR0.yRY):num p (rD x k (rH (dW x.yRX k) l))=num p x:=by
 have:=yafz (p:=p) (w':=rH (dW x.yRX k) l) (yi4 kw);have e:yL (rH (dW x.yRX k) l)=yL (dW x.yRX k):=by simp only[yL,rH,hl]
 rw[e]at this;omega
def yaeS{l:yR0}{r:Reach}:(jT l r).1.yRY=l.yRY:=by
 unfold jT mM rJ
 (repeat' split)<;>rfl
def yahb{p:yRT->Bool}{x:yRW}{k:Nat}(kw:k<x.yRX.length):num p (qM x k)=num p x:=by
 unfold qM;split
 .rfl
 .unfold yls;split
  .refine yaaP kw ?_;unfold opening tK;split<;>rfl
  .have h1:∀(y:yRW) (j:Nat) (r:Reach),num p (qJ y j r)=num p y:=λ_ _ _=>rfl;rw[h1];exact yaaP kw yaeS
def yahH{p:yRT->Bool}{x:yRW}{k:Nat}(kw:k<x.yRX.length):num p (xY x k)=num p x:=by
 unfold xY;split
 .exact yaaP (l:=(dW x.yRX k).yR0.yra 0) kw rfl
 .exact yaaP (l:=(dW x.yRX k).yR0) kw rfl
def yahx{p:yRT->Bool}{l:List yRT}{i:Nat}{t:yRT}(h:l[i]?=some t):(yfI l i).countP p+one p t=l.countP p:=by
 have il:=(zaa.1 h).1;have h1:l.drop i=[t]++l.drop (i+1):=by rw[zaF il,(zaa.1 h).2];rfl
 have h3:(l.take i++l.drop i).countP p=l.countP p:=by rw[zav]
 rw[h1]at h3;simp only[yfI,zbm,one]at h3|-;omega
def yafP{p:yRT->Bool}{l:yR0}{r:Reach}(h:(sK l r).2.2=true):(sK l r).1.yRY.countP p+one p (sK l r).2.1=l.yRY.countP p/\(sK l r).2.1∈l.yRY/\(sK l r).1.ySn=l.ySn:=by
 unfold sK at h|-;split at h
 .rename_i i hi;unfold leaver at hi;split at hi
  .have h1:=List.of_findIdx?_eq_some hi;cases ht:l.yRY[i]? with
   |none=>rw[ht]at h1;cases h1
   |some t=>
    have e:l.yRY.getD i ⟨false,[]⟩=t:=by rw[zai,ht];rfl
    refine⟨?_,?_,rfl⟩
    .simp only[e];exact yahx ht
    .simp only[e];exact zac ht
  .cases hi
 .cases h
def yahi{p:yRT->Bool}{x:yRW}{k:Nat}(F:ySq x k):num p (iK x k).1=num p x:=by
 have kw:=F.kw;have kr:=F.kr;have mv:=F.mvs;unfold iK;split
 .rename_i h;have h1:=(yafP (p:=p) h).1
  have hm:jM x k<(rD x k (rH (dW x.yRX k) (lW x k).1)).yR3.length:=by
   show jM x k<x.yR3.length
   unfold jM lI;split<;>omega
  have h2:=yafz (p:=p) (w':=rH (dW x.yRX k) (lW x k).1) (yi4 kw);have h3:=yafV (p:=p) (m:=⟨(lW x k).2.1,yfJ x k⟩) hm
  have e:(yL (rH (dW x.yRX k) (lW x k).1)).countP p+one p (lW x k).2.1=(yL (dW x.yRX k)).countP p:=by
   simp only[yL,rH,zbm];unfold lW at h1|-;omega
  simp only at h3|-;omega
 .rfl
structure yahX(x:yRW)(k:Nat):Prop where
 lock:xR (dR x.yRV (jM x k)) (dW x.yRX k).yR0 (yiZ x k)=(dW x.yRX k).yR0.yt1 (yiZ x k)
 fits:oO (dW x.yRX k).yR0.Length (dW x.yRX k).yR0.Width (yiZ x k)=true
 from_:∀t∈yiZ x k,∃c∈(dW x.yRX k).Calls,c.yRT=t
 num:∀p:yRT->Bool,((mO (dW x.yRX k).Calls (yyy x k) (dW x.yRX k).Calls.length).map λc=>c.yRT).countP p+(yiZ x k).countP p=((dW x.yRX k).Calls.map λc=>c.yRT).countP p
def yagS{x:yRW}{k:Nat}(F:ySq x k)(h:yeC x k=true):yahX x k:=by
 simp only[yeC,zad,decide_eq_true_eq,zbb,decide_eq_false_iff_not]at h;obtain⟨⟨hI,_⟩,hc⟩:=h;obtain⟨i1,i2,i3⟩:=yahA (x:=x) (k:=k);have P:=yafk (l:=(dW x.yRX k).yR0) (q:=tC (dW x.yRX k) (places x k));have hf:=P.fits hc;rw[hI,zcD]at hf;have hl:∀i∈yafY x k,i<(dW x.yRX k).Calls.length:=λi hi=>(yafS i (i2 i hi)).1;refine⟨yagG F.lok hI hf λt ht=>?_,hf,λt ht=>?_,λp=>?_⟩
 .rw[i3]at ht;obtain⟨i,hi,rfl⟩:=zaP.1 ht;exact(yafS i (i2 i hi)).2
 .rw[i3]at ht;obtain⟨i,hi,rfl⟩:=zaP.1 ht;have:=hl i hi;refine⟨(dW x.yRX k).Calls[i],zbo this,?_⟩;unfold aO;rw[zai,zab this];rfl
 .have:=yahv (p:=p) i1 hl (dW x.yRX k) rfl;rw[i3];exact this
def yahk{p:yRT->Bool}{x:yRW}{k:Nat}(F:ySq x k):num p (bH x k).1=num p x:=by
 unfold bH;split
 .rename_i h;have G:=yagS F h
  have hI:(dW x.yRX k).yR0.yRY=[]:=by
   simp only[yeC,zad,decide_eq_true_eq]at h;exact h.1.1
  have hn:=G.num p;have h1:=yafz (p:=p) (x:=⟨x.Time,x.yRV,x.ySl,x.yRX,x.yR3,x.yR9,x.ySd,x.yRZ,aU x (yiZ x k),x.yR1++nK x k (yiZ x k),x.Start,x.In,x.Out⟩) (w':=yj x k) (yi4 F.kw)
  have e1:(yL (yj x k)).countP p=((mO (dW x.yRX k).Calls (yyy x k) (dW x.yRX k).Calls.length).map λc=>c.yRT).countP p+(yiZ x k).countP p:=by
   unfold yL yj;rw[G.lock,zbm];rfl
  have e2:(yL (dW x.yRX k)).countP p=((dW x.yRX k).Calls.map λc=>c.yRT).countP p:=by
   unfold yL;rw[hI,zbF]
  have e3:num p ⟨x.Time,x.yRV,x.ySl,x.yRX,x.yR3,x.yR9,x.ySd,x.yRZ,aU x (yiZ x k),x.yR1++nK x k (yiZ x k),x.Start,x.In,x.Out⟩=num p x:=rfl;simp only at h1|-;omega
 .rfl
def total(x:yRW):Int:=ySA x.yRV+(x.yRX.map yYT).sum
def yacF{x:yRW}{k:Nat}{w w':yR8}(h:x.yRX[k]?=some w)(e:yYT w'=yYT w):total (rD x k w')=total x:=by
 have:=yabn (f:=yYT) (b:=w') h;unfold total;simp only[rD];omega
def yahl{l:yR0}{r:Reach}(hl:lF l=true)(h:kD r<bG l):0<=rV l r:=by
 have f:=qW hl;have f1:=f.area;have f2:=f.rate;have f3:=f.water;have h1:0<=l.Area*(bG l-kD r):=zcx (by omega) (by omega);unfold rV ykT;split<;>split<;>omega
def yahs{l:yR0}{r:Reach}(hl:lF l=true)(hr:xE r=true):sZ (jT l r).2+(jT l r).1.ySn=sZ r+l.ySn/\(jT l r).1.Length=l.Length/\(jT l r).1.Width=l.Width:=by
 unfold jT;split
 .unfold mM;split
  .split
   .exact⟨rfl,rfl,rfl⟩
   .have:=(yafZ (r:=r) (a:=ya1 l r) (k:=0) hr).1.2;refine⟨?_,rfl,rfl⟩;simp only[yR0.setW];omega
  .exact⟨rfl,rfl,rfl⟩
 .unfold rJ;split
  .rename_i hc;simp only[yYU,zad,decide_eq_true_eq]at hc;split
   .exact⟨rfl,rfl,rfl⟩
   .have:=(yagb (r:=r) (q:=rV l r) hr (yahl hl hc.2) (by omega)).2;refine⟨?_,rfl,rfl⟩;simp only[yR0.setW];omega
  .exact⟨rfl,rfl,rfl⟩
def nO(x:yRW):List (Int×Int):=x.yRX.map λw=>(w.yR0.Length,w.yR0.Width)
def yafc{α β:Type}{f:α->β}{l:List α}{k:Nat}{a b:α}(h:l[k]?=some a)(e:f b=f a):(l.set k b).map f=l.map f:=by
 rw[zaZ,e];refine zbU λj=>?_
 by_cases hj:k=j
 .subst hj;rw[zcX (by simpa using(zaa.1 h).1),zau,h];rfl
 .rw[zcJ hj]
def yaca{x:yRW}{k:Nat}{w w':yR8}(h:x.yRX[k]?=some w)(e:(w'.yR0.Length,w'.yR0.Width)=(w.yR0.Length,w.yR0.Width)):nO (rD x k w')=nO x:=yafc h e
structure yagO(x:yRW)(p:yR2):Prop where
 time:p.Time=x.Time
 who:p.yRT∈yaba x
 fits:∃k d,p.yR8=((k:Nat):Int)/\(nO x)[k]?=some d/\aI p.yRT<=d.1/\iH p.yRT<=d.2
structure Did(x y:yRW):Prop where
 num:∀p,num p y=num p x
 total:total y=total x
 time:y.Time=x.Time
 ent:y.ySd=x.ySd
 tar:y.yRZ=x.yRZ
 start:y.Start=x.Start
 inn:y.In=x.In
 out:y.Out=x.Out
 nO:nO y=nO x
 pas:∃new:List yR2,y.yR1=x.yR1++new/\y.Book=new.foldl (yaaA x) x.Book/\∀p∈new,yagO x p
def yacc(x:yRW):Did x x:=⟨λ_=>rfl,rfl,rfl,rfl,rfl,rfl,rfl,rfl,rfl,[],by simp,rfl,λp h=>nomatch h⟩
def yagV{x y:yRW}(h:∀p,num p y=num p x){t:yRT}(ht:t∈yaba y):t∈yaba x:=by
 classical
 have h1:0<num (λa=>decide (a=t)) y:=zcO.2 ⟨t,ht,by simp⟩;rw[h]at h1;obtain⟨a,ha,e⟩:=zcO.1 h1;have:a=t:=by simpa using e
 rwa [this]at ha
def Did.trans{x y z:yRW}(h:Did x y)(g:Did y z):Did x z:=by
 obtain⟨n1,p1,b1,o1⟩:=h.pas;obtain⟨n2,p2,b2,o2⟩:=g.pas;refine⟨λp=>(g.num p).trans (h.num p),g.total.trans h.total,g.time.trans h.time,g.ent.trans h.ent,g.tar.trans h.tar,g.start.trans h.start,g.inn.trans h.inn,g.out.trans h.out,g.nO.trans h.nO,n1++n2,?_,?_,?_⟩
 .rw[p2,p1,zbh]
 .have e:yaaA y=yaaA x:=by funext b p;unfold yaaA;rw[h.tar]
  rw[b2,b1,e,zbH]
 .intro p hp;rcases zaj.1 hp with hp|hp
  .exact o1 p hp
  .have o:=o2 p hp;exact⟨o.time.trans h.time,yagV h.num o.who,by have:=o.fits;rwa [h.nO]at this⟩
def yaci{x y:yRW}(hn:∀p,num p y=num p x)(ht:total y=total x)(hd:nO y=nO x)(h1:y.Time=x.Time)(h2:y.ySd=x.ySd)(h3:y.yRZ=x.yRZ)(h4:y.Start=x.Start)(h5:y.In=x.In)(h6:y.Out=x.Out)(h7:y.yR1=x.yR1)(h8:y.Book=x.Book):Did x y:=
 ⟨hn,ht,h1,h2,h3,h4,h5,h6,hd,[],by simp[h7],h8,λp h=>nomatch h⟩
def yahg{x:yRW}{k:Nat}(F:ySq x k)(hok:rC x=true):Did x (qM x k):=by
 have kw:=F.kw;have kr:=F.kr;have hw:=yi4 kw;have hn:=λp=>yahb (p:=p) kw;unfold qM at hn|-;split
 .exact yacc x
 .rename_i hr;simp only[hr,if_neg]at hn;unfold yls;split
  .have e:(opening x k (yan (dW x.yRX k) (ybZ x k))).1.ySn=(dW x.yRX k).yR0.ySn/\(opening x k (yan (dW x.yRX k) (ybZ x k))).1.Length=(dW x.yRX k).yR0.Length/\(opening x k (yan (dW x.yRX k) (ybZ x k))).1.Width=(dW x.yRX k).yR0.Width/\(opening x k (yan (dW x.yRX k) (ybZ x k))).1.yRY=(dW x.yRX k).yR0.yRY:=by
    unfold opening tK;split<;>exact⟨rfl,rfl,rfl,rfl⟩
   refine yaci (λp=>yaaP kw e.2.2.2) (yacF hw e.1) (yaca hw ?_) rfl rfl rfl rfl rfl rfl rfl rfl;simp only[rH,e.2.1,e.2.2.1]
  .generalize yan (dW x.yRX k) (ybZ x k)=g;have hs:lI k g<x.yRV.length:=by unfold lI;split<;>omega
   have hd:=ye8 hs;have rk:=(ynr (yCL hok).ySA).ok _ (zac hd);obtain⟨l1,l2,l3⟩:=yahs F.lok rk;refine yaci (λp=>?_) ?_ ?_ rfl rfl rfl rfl rfl rfl rfl rfl
   .show num p (rD x k (rH (dW x.yRX k) _))=_
    exact yaaP kw yaeS
   .have a1:=yabn (f:=yYT) (b:=rH (dW x.yRX k) (jT (dW x.yRX k).yR0 (dR x.yRV (lI k g))).1) hw;have a2:=yabn (f:=sZ) (b:=(jT (dW x.yRX k).yR0 (dR x.yRV (lI k g))).2) hd;have a3:yYT (rH (dW x.yRX k) (jT (dW x.yRX k).yR0 (dR x.yRV (lI k g))).1)=(jT (dW x.yRX k).yR0 (dR x.yRV (lI k g))).1.ySn:=rfl;have a4:yYT (dW x.yRX k)=(dW x.yRX k).yR0.ySn:=rfl;unfold total ySA;simp only[qJ,rD];omega
   .show nO (rD x k (rH (dW x.yRX k) _))=_
    refine yaca hw ?_;simp only[rH,l2,l3]
def yaht{x:yRW}{k:Nat}(kw:k<x.yRX.length):Did x (xY x k):=by
 have hw:=yi4 kw;have hn:=λp=>yahH (p:=p) kw;refine yaci hn ?_ ?_ rfl rfl rfl rfl rfl rfl rfl rfl
 .unfold xY;split<;>exact yacF hw rfl
 .unfold xY;split<;>exact yaca hw rfl
def yahc{x:yRW}{k:Nat}(F:ySq x k):Did x (iK x k).1:=by
 have hw:=yi4 F.kw;have hn:=λp=>yahi (p:=p) F;unfold iK at hn|-;split
 .rename_i h;rw[if_pos h]at hn;have hwt:(lW x k).1.ySn=(dW x.yRX k).yR0.ySn:=(yafP (p:=λ_=>true) h).2.2
  have hdm:(lW x k).1.Length=(dW x.yRX k).yR0.Length/\(lW x k).1.Width=(dW x.yRX k).yR0.Width:=by
   unfold lW sK;split<;>exact⟨rfl,rfl⟩
  refine yaci hn ?_ ?_ rfl rfl rfl rfl rfl rfl rfl rfl
  .exact yacF hw hwt
  .refine yaca hw ?_;simp only[rH,hdm.1,hdm.2]
 .exact yacc x
def yahf{x:yRW}{k:Nat}(F:ySq x k):Did x (bH x k).1:=by
 have hw:=yi4 F.kw;have hn:=λp=>yahk (p:=p) F;unfold bH at hn|-;split
 .rename_i h;rw[if_pos h]at hn;have G:=yagS F h;have hl:=G.lock;refine⟨hn,?_,rfl,rfl,rfl,rfl,rfl,rfl,?_,nK x k (yiZ x k),rfl,?_,?_⟩
  .refine yacF hw ?_
   show(yj x k).yR0.ySn=_
   unfold yj;rw[hl];rfl
  .refine yaca hw ?_;unfold yj;rw[hl];rfl
  .show aU x (yiZ x k)=_
   unfold aU nK;rw[List.foldl_map];rfl
  .intro p hp;obtain⟨t,ht,rfl⟩:=zaP.1 hp;obtain⟨c,hc,rfl⟩:=G.from_ t ht;refine⟨rfl,?_,k,((dW x.yRX k).yR0.Length,(dW x.yRX k).yR0.Width),rfl,?_,yahB G.fits ht⟩
   .unfold yaba;refine zbi _ (zaQ _ ?_);refine zaI.2 ⟨dW x.yRX k,zac hw,?_⟩;exact zbi _ (zaP.2 ⟨c,hc,rfl⟩)
   .unfold nO;rw[zau,hw];rfl
 .exact yacc x
def yahM{x:yRW}{k:Int}(hs:x.small):Did x (fQ x k):=by
 unfold fQ;split
 .rename_i hc;simp only[yd9,zad,decide_eq_true_eq]at hc;have F:=ym8 hc.1.1.1 hs (k:=k.toNat) (by omega);unfold yeU;split
  .exact yahg F hc.1.1.1
  .split
   .exact yahc F
   .split
    .exact yahf F
    .exact yaht F.kw
 .exact yacc x
def yagQ{x:yRW}(hs:x.small):∀k,Did x (yTl x k)
 |0=>yacc x
 |k+1=>(yagQ hs k).trans (yahM (yTK hs k))
def yago{β:Type}{f:yR8->β}(hf:∀(w:yR8) (cs:List yR4),f {w with Calls:=cs}=f w){W:List yR8}{j:Nat}{c:yR4}:(yTE W j c).map f=W.map f:=by
 unfold yTE;cases hw:W[j]? with
 |none=>rfl
 |some w=>exact yafc hw (hf w _)
def yagC{β:Type}{f:yR8->β}(hf:∀(w:yR8) (cs:List yR4),f {w with Calls:=cs}=f w){x:yRW}{k:Nat}{w:Way}{s:yVr}{m:yR6}:(yS3 x k w s m).2.1.map f=s.2.1.map f:=by
 unfold yS3;split
 .split
  .rfl
  .split
   .rfl
   .exact yago hf
 .rfl
def yaeX{β:Type}{f:yR8->β}(hf:∀(w:yR8) (cs:List yR4),f {w with Calls:=cs}=f w){x:yRW}{k:Nat}{w:Way}{r:Reach}:∀(ms:List yR6) (s:yVr),(ms.foldl (λq m=>yS3 x k w q (yS7 m w r)) s).2.1.map f=s.2.1.map f
 |[],_=>rfl
 |m::ms,s=>by
  rw[zbz,yaeX hf ms,yagC hf]
def yacB{β:Type}{f:yR8->β}(hf:∀(w:yR8) (cs:List yR4),f {w with Calls:=cs}=f w){x:yRW}:∀k:Nat,(ySW x k).2.1.map f=x.yRX.map f
 |0=>rfl
 |k+1=>by
  unfold ySW;split
  .exact(yaeX hf _ _).trans (yacB hf k)
  .exact yacB hf k
def yahu{x:yRW}:Did x (yTd x):=by
 have hn:=λp=>yahF (p:=p) (x:=x);unfold yTd at hn|-;split
 .rename_i h;rw[if_pos h]at hn;refine yaci hn ?_ (yacB (λ_ _=>rfl) _) rfl rfl rfl rfl rfl rfl rfl rfl;have:=yacB (f:=yYT) (λ_ _=>rfl) (x:=x) x.yR3.length
  show ySA x.yRV+((ySW x x.yR3.length).2.1.map yYT).sum=_
  rw[this];rfl
 .exact yacc x
structure Kept(x y:yRW):Prop where
 num:∀p,num p y=num p x
 ent:y.ySd=x.ySd
 tar:y.yRZ=x.yRZ
 start:y.Start=x.Start
 nO:nO y=nO x
 pas:y.yR1=x.yR1
 book:y.Book=x.Book
def yagq{x:yRW}(h:rC x=true):∀w∈x.yRX,fJ w=true:=by
 have hh:=h;simp only[rC,sJ,zad,zaf]at hh;exact hh.1.1.1.1.1.1.2.2
def yagK{x:yRW}{q:Int}(hok:rC x=true)(h1:total x+x.Out=x.Start+x.In)(h4:x.Start+x.In<=100000000)(hq:0<=q/\q<=1000000)(ht:x.Time<1000000):
 rC (yS0 x q)=true/\total (yS0 x q)+(yS0 x q).Out=(yS0 x q).Start+(yS0 x q).In/\(yS0 x q).In=x.In+q/\(yS0 x q).Time=x.Time+1/\Kept x (yS0 x q):=by
 have wf:=yCL hok;have rf:=ynr wf.ySA;have lp:=yafW hok;have w1:=wf.out;have w2:=wf.inn;have w3:=wf.start;have w4:=yXn hok;have hin:yUd x q=true:=by simp[yUd];omega
 have hc:yTF x q=true:=by simp[yTF,hok];omega
 obtain⟨r,l,hrl⟩:=yWX hok;have hrv:ySA x.yRV=sZ r+ySA l:=by rw[hrl];simp[ySA]
 have hlp:=yafT (rs:=l) λr hr=>rf.ok r (by rw[hrl];simp[hr]);have hro:=rf.ok r (by rw[hrl];simp);have hsp:rO r=1000000000-sZ r:=by unfold rO;rw[if_pos hro]
 unfold total at h1;have hsend:=yagb hro hq.1 (by omega)
 have hall:∀y∈dU r q::l,xE y=true:=by
  intro y hy;rcases zax.1 hy with e|e
  .rw[e];exact hsend.1
  .exact rf.ok y (by rw[hrl];simp[e])
 obtain⟨f1,f2⟩:=yafx hall
 have f3:ySA (dU r q::l)=ySA x.yRV+q:=by
  have:=hsend.2;rw[hrv];unfold ySA;simp only[zaC,zaM];omega
 have e:yS0 x q=⟨x.Time+1,(dU r q::l).map yS8,x.ySl,x.yRX,x.yR3,x.yR9,x.ySd,x.yRZ,x.Book,x.yR1,x.Start,x.In+q,x.Out⟩:=by
  unfold yS0;rw[if_pos hc,if_pos hin];simp[yTo,hin,hrl,sent]
 have hnew:=yagY (t:=x.Time+1) (i:=x.In+q) (o:=x.Out) hok (rs:=(dU r q::l).map yS8) (ws:=x.yRX) (by rw[hrl];simp) rfl f1 (by omega) (yagq hok) (by omega) (by omega) w1;rw[e];refine⟨hnew,?_,rfl,rfl,λ_=>rfl,rfl,rfl,rfl,rfl,rfl,rfl⟩;unfold total;simp only;omega
end
end Go.Proofs.YtdadkiofenhnbaaGreat
