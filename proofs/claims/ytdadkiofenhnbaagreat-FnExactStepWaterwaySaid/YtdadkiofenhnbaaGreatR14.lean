/- What functions answer, in plain Lean. -/
import Derived.Test.YtdadkiofenhnbaaGreatR13
set_option linter.all false
set_option maxRecDepth 100000
set_option maxHeartbeats 4000000
namespace Go.Proofs.YtdadkiofenhnbaaGreat
open Go.RowKit
open Go.ChangeShapes Go.WideShapes
noncomputable section
@[simp] def zzkc{id k:Nat}{r:List (List C)}:(AV.clip k r).fV id=.clip k r:=rfl
def yD5(x:yRW)(k:Nat)(hs:x.small)(F:ySq x k)(hok:rC x=true)(mr:List (List C))(hms:yaq mr=some (x.yR3.map nD)):
 InF prg 89 (.c (.bx (x.qX (bM x.yRX) mr))) (.c (.bx ((qM x k).qX (bM (qM x k).yRX) mr))) [.c (.i k)] (.tup []):=by
 have kw:=F.kw;have kr:=F.kr;have sw:=F.sw;have rl:=F.rl;have hmr:mr.length=x.yR3.length:=by have:=(yoU hms).1;simpa using this.symm
 have htm:List.take x.yR3.length mr=mr:=List.take_of_length_le (by omega);have hw:=yi4 F.kw;have ha:=ye8 (rs:=x.yRV) (k:=k) (by omega);have hb:=ye8 kr;have hA:=yiz x k hs;rw[ytL hok ⟨hw,ha,hb,F.wok,by have:=(yjV hok).wks;have:=(yjV hok).two;omega⟩]at hA;have hsm:=yhK (a:=dR x.yRV k) (b:=dR x.yRV (k+1)) sw;have hN:=ymP (able (dR x.yRV k) (dR x.yRV (k+1)) (dW x.yRX k)) (dW x.yRX k).Turn x.Time hsm;have hN2:ybZ x k=mW (able (dR x.yRV k) (dR x.yRV (k+1)) (dW x.yRX k)) (dW x.yRX k).Turn x.Time:=rfl;rw[<-hN2]at hN;generalize able (dR x.yRV k) (dR x.yRV (k+1)) (dW x.yRX k)=A at *;clear hN2;obtain⟨Y,hY⟩:∃Y,qM x k=Y:=⟨_,rfl⟩;rw[hY];unfold qM at hY;generalize ybZ x k=N at *;obtain⟨g,hg⟩:∃g,yan (dW x.yRX k) N=g:=⟨_,rfl⟩;rw[hg]at hY;have hg12:g=1\/g=2:=by rw[<-hg];unfold yan;split<;>omega
 have hsl:lI k g<x.yRV.length:=by unfold lI;split<;>omega
 have hr:=ye8 hsl;have hsr:=hs.1.2 _ (zac hr);have hO:=yvJ (dW x.yRX k).yR0 (dR x.yRV k) (dR x.yRV (k+1)) g sw.1;have hCh:=iQ (dW x.yRX k).yR0 sw.1;have hLv:=dN (dR x.yRV (lI k g));have hFi:=ywg (dW x.yRX k).yR0 (dR x.yRV (lI k g)) sw.1 hsr;have hDr:=yvo (dW x.yRX k).yR0 (dR x.yRV (lI k g)) sw.1 hsr;have hWT:yls x k g=if(opening x k g).2 then rD x k (rH (dW x.yRX k) (opening x k g).1)else qJ (rD x k (rH (dW x.yRX k) (jT (dW x.yRX k).yR0 (dR x.yRV (lI k g))).1)) (lI k g) (jT (dW x.yRX k).yR0 (dR x.yRV (lI k g))).2:=rfl
 have hO2:tK (dW x.yRX k).yR0 (dR x.yRV k) (dR x.yRV (k+1)) g=opening x k g:=rfl;have hLe:jT (dW x.yRX k).yR0 (dR x.yRV (lI k g))=if bG (dW x.yRX k).yR0<kD (dR x.yRV (lI k g))then mM (dW x.yRX k).yR0 (dR x.yRV (lI k g))else rJ (dW x.yRX k).yR0 (dR x.yRV (lI k g)):=rfl
 rw[hO2]at hO;rw[hWT]at hY;clear hWT hO2;generalize opening x k g=O at *;generalize jT (dW x.yRX k).yR0 (dR x.yRV (lI k g))=L at *;generalize mM (dW x.yRX k).yR0 (dR x.yRV (lI k g))=Fi at *;generalize rJ (dW x.yRX k).yR0 (dR x.yRV (lI k g))=Dr at *;have hsd:lI k g=if g=1 then k else k+1:=rfl
 generalize lI k g=sd at *;generalize bG (dW x.yRX k).yR0=cl at *;generalize kD (dR x.yRV sd)=lv at *;generalize dR x.yRV sd=rs at *;generalize dR x.yRV k=ra at *;generalize dR x.yRV (k+1)=rb at *;generalize dW x.yRX k=w at *;have hsw:=λl=>@yk6 x.yRX k (rH w l);simp only[yR8.enc,rH]at hsw;have aw:=yt5 hw;simp only[yR8.enc]at aw;have gaw:=(zaa.1 aw).2;have ga:=(zaa.1 ha).2;have gb:=(zaa.1 hb).2;have gr:=(zaa.1 hr).2;have ka:k<x.yRV.length:=by omega
 have hwl:=ygI (ws:=x.yRX);have kwl:k<(bM x.yRX).length:=by rw[hwl];exact kw
 have htw:∀ws:List yR8,ws.length=x.yRX.length->List.take x.yRX.length (bM ws)=bM ws:=λws h=>List.take_of_length_le (by rw[ygI];omega);have htw0:=htw x.yRX rfl;have htw1:=λv=>htw (x.yRX.set k v) (by simp);have hts:∀(i:Nat) (X:List C),List.take x.yRV.length ((x.yRV.map Reach.enc).set i X)=(x.yRV.map Reach.enc).set i X:=λi X=>List.take_of_length_le (by simp);have hrs:=ycb x.yRX;rw[yo2]at hrs;have hre:=yo2 x.yRX;obtain⟨n1,n2⟩:=N;refine ycN yvg (by simp) (by simp[yRW.qX]) rfl λhwf=>?_;simp -dsimp -implicitDefEqProofs [ykd,yRW.qX,aw,gaw,hwl,kw,fC kw];refine pJ hA (by simp -dsimp -implicitDefEqProofs [jA,hms,htm,hrs,hre]) (iJ yR4.aF _ _) (by simp[fD]) (yaeV aw gaw hwl kw ?_);refine nC (hN) (by simp -dsimp -implicitDefEqProofs [eF yR4.bF,jA]) (.inr rfl) (eP ?_)
 have hcase:(w.yR0.yRY=[]/\n2=false)\/(∃u,(w.yR0.yRY=[]/\n2=true/\n1= !u)/\g=if u then 1 else 2)\/(∃u t,(w.yR0.yRY[0]?=some t/\t.Up=u)/\g=if u then 1 else 2):=by
  by_cases hI:w.yR0.yRY=[]
  .cases h2:n2 with
   |false=>exact .inl ⟨hI,rfl⟩
   |true=>exact .inr (.inl ⟨!n1,⟨hI,rfl,by simp⟩,by rw[<-hg];simp[yan,yoI,hI]⟩)
  .obtain⟨t,ht⟩:∃t,w.yR0.yRY[0]?=some t:=⟨_,zab (zbc.2 hI)⟩;exact .inr (.inr ⟨t.Up,t,⟨ht,rfl⟩,by rw[<-hg];simp[yan,yoI,hI,zah,ht]⟩)
 rcases hcase with⟨hI,h2⟩|⟨u,⟨hI,h2,h1⟩,hgu⟩|⟨u,t,⟨ht,hu⟩,hgu⟩
 .have hre:rests w (n1,n2)=true:=by simp[rests,hI,h2]
  rw[if_pos hre]at hY;subst hY h2;refine yafq hI aw gaw hwl kw kwl ?_;refine⟨by simp -dsimp -implicitDefEqProofs,⟨bD x x.Book x.yR1.length,[20000,40000,50000,130000],by simp -dsimp -implicitDefEqProofs [bD,hwl,hmr],?_,by decide⟩,⟨[],rfl,trivial⟩⟩;simp -dsimp -implicitDefEqProofs [bD,jA,htm,htw0]
 .have hre:rests w (!u,true)=false:=by simp[rests,hI]
  have i1:(0<w.yR0.yRY.length)=False:=eq_false (by rw[hI];simp);have i2:(w.yR0.yRY=[])=True:=eq_true hI;subst h2 h1;rw[if_neg (show¬rests w (!u,true)=true fromλh=>by rw[hre]at h;cases h)]at hY;cases u with
  | true=>
   simp only[if_true]at hgu;subst hgu;rw[if_pos rfl]at hsd;rw[hsd]at hr hsl hY;have hrr:rs=ra:=by rw[ha]at hr;exact(Option.some.inj hr).symm
   subst hrr;simp -dsimp -implicitDefEqProofs [i1,i2,ha,ga,ka,hb,gb,kr,aw,gaw,hwl,kw,kwl]
   refineλ_=>⟨by unfold inI;omega,by omega,by omega,?_⟩
   refine yYo hO ?_;simp -dsimp -implicitDefEqProofs [ha,ga,ka,hb,gb,kr,aw,gaw,hwl,kw,kwl,hsw];refine⟨λhO2=>?_,λhO2=>?_⟩
   .rw[hO2,if_pos rfl]at hY;refine⟨by simp -dsimp -implicitDefEqProofs,⟨bD x x.Book x.yR1.length,[20000,40000,50000,130000],by simp -dsimp -implicitDefEqProofs [bD,hwl,hmr],?_,by decide⟩,⟨[],rfl,trivial⟩⟩;simp -dsimp -implicitDefEqProofs [<-hY,bD,jA,htm,htw0,rD,qJ,hwl,hsw,htw1,hts]
   .rw[hO2,if_neg zaG]at hY;refine yYr hCh ?_;simp -dsimp -implicitDefEqProofs [ha,ga,ka,hb,gb,kr,aw,gaw,hwl,kw,kwl];refine yYr hLv ?_;simp -dsimp -implicitDefEqProofs [ha,ga,ka,hb,gb,kr,aw,gaw,hwl,kw,kwl];refine⟨λhlt=>?_,λhlt=>?_⟩
    .rw[if_pos hlt]at hLe;rw[hLe]at hY;refine yYo hFi ?_;simp -dsimp -implicitDefEqProofs [ha,ga,ka,hb,gb,kr,aw,gaw,hwl,kw,kwl,hsw];refine⟨by simp -dsimp -implicitDefEqProofs,⟨bD x x.Book x.yR1.length,[20000,40000,50000,130000],by simp -dsimp -implicitDefEqProofs [bD,hwl,hmr],?_,by decide⟩,⟨[],rfl,trivial⟩⟩;simp -dsimp -implicitDefEqProofs [<-hY,bD,jA,htm,htw0,rD,qJ,hwl,hsw,htw1,hts]
    .rw[if_neg (show¬cl<lv by omega)]at hLe;rw[hLe]at hY;refine yYo hDr ?_;simp -dsimp -implicitDefEqProofs [ha,ga,ka,hb,gb,kr,aw,gaw,hwl,kw,kwl,hsw];refine⟨by simp -dsimp -implicitDefEqProofs,⟨bD x x.Book x.yR1.length,[20000,40000,50000,130000],by simp -dsimp -implicitDefEqProofs [bD,hwl,hmr],?_,by decide⟩,⟨[],rfl,trivial⟩⟩;simp -dsimp -implicitDefEqProofs [<-hY,bD,jA,htm,htw0,rD,qJ,hwl,hsw,htw1,hts]
  | false=>
   simp only[zbi,if_false]at hgu;subst hgu;rw[if_neg (show¬(2:Int)=1 from by decide)]at hsd;rw[hsd]at hr hsl hY;have hrr:rs=rb:=by rw[hb]at hr;exact(Option.some.inj hr).symm
   subst hrr;simp -dsimp -implicitDefEqProofs [i1,i2,ha,ga,ka,hb,gb,kr,aw,gaw,hwl,kw,kwl]
   refineλ_=>⟨by unfold inI;omega,by omega,by omega,?_⟩
   refine yYo hO ?_;simp -dsimp -implicitDefEqProofs [ha,ga,ka,hb,gb,kr,aw,gaw,hwl,kw,kwl,hsw];refine⟨λhO2=>?_,λhO2=>?_⟩
   .rw[hO2,if_pos rfl]at hY;refine⟨by simp -dsimp -implicitDefEqProofs,⟨bD x x.Book x.yR1.length,[20000,40000,50000,130000],by simp -dsimp -implicitDefEqProofs [bD,hwl,hmr],?_,by decide⟩,⟨[],rfl,trivial⟩⟩;simp -dsimp -implicitDefEqProofs [<-hY,bD,jA,htm,htw0,rD,qJ,hwl,hsw,htw1,hts]
   .rw[hO2,if_neg zaG]at hY;refine yYr hCh ?_;simp -dsimp -implicitDefEqProofs [ha,ga,ka,hb,gb,kr,aw,gaw,hwl,kw,kwl];refine⟨by omega,by omega,?_⟩;refine yYr hLv ?_;simp -dsimp -implicitDefEqProofs [ha,ga,ka,hb,gb,kr,aw,gaw,hwl,kw,kwl];refine⟨λhlt=>?_,λhlt=>?_⟩
    .rw[if_pos hlt]at hLe;rw[hLe]at hY;refine⟨by omega,by omega,?_⟩;refine yYo hFi ?_;simp -dsimp -implicitDefEqProofs [ha,ga,ka,hb,gb,kr,aw,gaw,hwl,kw,kwl,hsw];refine⟨by omega,by omega,?_⟩;refine⟨by simp -dsimp -implicitDefEqProofs,⟨bD x x.Book x.yR1.length,[20000,40000,50000,130000],by simp -dsimp -implicitDefEqProofs [bD,hwl,hmr],?_,by decide⟩,⟨[],rfl,trivial⟩⟩;simp -dsimp -implicitDefEqProofs [<-hY,bD,jA,htm,htw0,rD,qJ,hwl,hsw,htw1,hts]
    .rw[if_neg (show¬cl<lv by omega)]at hLe;rw[hLe]at hY;refine⟨by omega,by omega,?_⟩;refine yYo hDr ?_;simp -dsimp -implicitDefEqProofs [ha,ga,ka,hb,gb,kr,aw,gaw,hwl,kw,kwl,hsw];refine⟨by omega,by omega,?_⟩;refine⟨by simp -dsimp -implicitDefEqProofs,⟨bD x x.Book x.yR1.length,[20000,40000,50000,130000],by simp -dsimp -implicitDefEqProofs [bD,hwl,hmr],?_,by decide⟩,⟨[],rfl,trivial⟩⟩;simp -dsimp -implicitDefEqProofs [<-hY,bD,jA,htm,htw0,rD,qJ,hwl,hsw,htw1,hts]
 .have hre:rests w (n1,n2)=false:=by
   have:w.yR0.yRY≠[]:=λh=>by rw[h]at ht;cases ht
   simp[rests,this]
  have gt:=(zaa.1 ht).2;have i1:(0<w.yR0.yRY.length)=True:=eq_true (zaa.1 ht).1;have i2:(w.yR0.yRY=[])=False:=eq_false λh=>by rw[h]at ht;cases ht
  rw[if_neg (show¬rests w (n1,n2)=true fromλh=>by rw[hre]at h;cases h)]at hY;cases u with
  | true=>
   simp only[if_true]at hgu;subst hgu;rw[if_pos rfl]at hsd;rw[hsd]at hr hsl hY;have hrr:rs=ra:=by rw[ha]at hr;exact(Option.some.inj hr).symm
   subst hrr;simp -dsimp -implicitDefEqProofs [i1,i2,ht,gt,hu,ha,ga,ka,hb,gb,kr,aw,gaw,hwl,kw,kwl];refine⟨λ_=>?_,λ_=>?_⟩
   all_goals
    refineλ_=>⟨by unfold inI;omega,by omega,by omega,?_⟩
    refine yYo hO ?_;simp -dsimp -implicitDefEqProofs [ha,ga,ka,hb,gb,kr,aw,gaw,hwl,kw,kwl,hsw];refine⟨λhO2=>?_,λhO2=>?_⟩
    .rw[hO2,if_pos rfl]at hY;refine⟨by simp -dsimp -implicitDefEqProofs,⟨bD x x.Book x.yR1.length,[20000,40000,50000,130000],by simp -dsimp -implicitDefEqProofs [bD,hwl,hmr],?_,by decide⟩,⟨[],rfl,trivial⟩⟩;simp -dsimp -implicitDefEqProofs [<-hY,bD,jA,htm,htw0,rD,qJ,hwl,hsw,htw1,hts]
    .rw[hO2,if_neg zaG]at hY;refine yYr hCh ?_;simp -dsimp -implicitDefEqProofs [ha,ga,ka,hb,gb,kr,aw,gaw,hwl,kw,kwl];refine yYr hLv ?_;simp -dsimp -implicitDefEqProofs [ha,ga,ka,hb,gb,kr,aw,gaw,hwl,kw,kwl];refine⟨λhlt=>?_,λhlt=>?_⟩
     .rw[if_pos hlt]at hLe;rw[hLe]at hY;refine yYo hFi ?_;simp -dsimp -implicitDefEqProofs [ha,ga,ka,hb,gb,kr,aw,gaw,hwl,kw,kwl,hsw];refine⟨by simp -dsimp -implicitDefEqProofs,⟨bD x x.Book x.yR1.length,[20000,40000,50000,130000],by simp -dsimp -implicitDefEqProofs [bD,hwl,hmr],?_,by decide⟩,⟨[],rfl,trivial⟩⟩;simp -dsimp -implicitDefEqProofs [<-hY,bD,jA,htm,htw0,rD,qJ,hwl,hsw,htw1,hts]
     .rw[if_neg (show¬cl<lv by omega)]at hLe;rw[hLe]at hY;refine yYo hDr ?_;simp -dsimp -implicitDefEqProofs [ha,ga,ka,hb,gb,kr,aw,gaw,hwl,kw,kwl,hsw];refine⟨by simp -dsimp -implicitDefEqProofs,⟨bD x x.Book x.yR1.length,[20000,40000,50000,130000],by simp -dsimp -implicitDefEqProofs [bD,hwl,hmr],?_,by decide⟩,⟨[],rfl,trivial⟩⟩;simp -dsimp -implicitDefEqProofs [<-hY,bD,jA,htm,htw0,rD,qJ,hwl,hsw,htw1,hts]
  | false=>
   simp only[zbi,if_false]at hgu;subst hgu;rw[if_neg (show¬(2:Int)=1 from by decide)]at hsd;rw[hsd]at hr hsl hY;have hrr:rs=rb:=by rw[hb]at hr;exact(Option.some.inj hr).symm
   subst hrr;simp -dsimp -implicitDefEqProofs [i1,i2,ht,gt,hu,ha,ga,ka,hb,gb,kr,aw,gaw,hwl,kw,kwl];refine⟨λ_=>?_,λ_=>?_⟩
   all_goals
    refineλ_=>⟨by unfold inI;omega,by omega,by omega,?_⟩
    refine yYo hO ?_;simp -dsimp -implicitDefEqProofs [ha,ga,ka,hb,gb,kr,aw,gaw,hwl,kw,kwl,hsw];refine⟨λhO2=>?_,λhO2=>?_⟩
    .rw[hO2,if_pos rfl]at hY;refine⟨by simp -dsimp -implicitDefEqProofs,⟨bD x x.Book x.yR1.length,[20000,40000,50000,130000],by simp -dsimp -implicitDefEqProofs [bD,hwl,hmr],?_,by decide⟩,⟨[],rfl,trivial⟩⟩;simp -dsimp -implicitDefEqProofs [<-hY,bD,jA,htm,htw0,rD,qJ,hwl,hsw,htw1,hts]
    .rw[hO2,if_neg zaG]at hY;refine yYr hCh ?_;simp -dsimp -implicitDefEqProofs [ha,ga,ka,hb,gb,kr,aw,gaw,hwl,kw,kwl];refine⟨by omega,by omega,?_⟩;refine yYr hLv ?_;simp -dsimp -implicitDefEqProofs [ha,ga,ka,hb,gb,kr,aw,gaw,hwl,kw,kwl];refine⟨λhlt=>?_,λhlt=>?_⟩
     .rw[if_pos hlt]at hLe;rw[hLe]at hY;refine⟨by omega,by omega,?_⟩;refine yYo hFi ?_;simp -dsimp -implicitDefEqProofs [ha,ga,ka,hb,gb,kr,aw,gaw,hwl,kw,kwl,hsw];refine⟨by omega,by omega,?_⟩;refine⟨by simp -dsimp -implicitDefEqProofs,⟨bD x x.Book x.yR1.length,[20000,40000,50000,130000],by simp -dsimp -implicitDefEqProofs [bD,hwl,hmr],?_,by decide⟩,⟨[],rfl,trivial⟩⟩;simp -dsimp -implicitDefEqProofs [<-hY,bD,jA,htm,htw0,rD,qJ,hwl,hsw,htw1,hts]
     .rw[if_neg (show¬cl<lv by omega)]at hLe;rw[hLe]at hY;refine⟨by omega,by omega,?_⟩;refine yYo hDr ?_;simp -dsimp -implicitDefEqProofs [ha,ga,ka,hb,gb,kr,aw,gaw,hwl,kw,kwl,hsw];refine⟨by omega,by omega,?_⟩;refine⟨by simp -dsimp -implicitDefEqProofs,⟨bD x x.Book x.yR1.length,[20000,40000,50000,130000],by simp -dsimp -implicitDefEqProofs [bD,hwl,hmr],?_,by decide⟩,⟨[],rfl,trivial⟩⟩;simp -dsimp -implicitDefEqProofs [<-hY,bD,jA,htm,htw0,rD,qJ,hwl,hsw,htw1,hts]
def ybD(l:List (List yR6)):List (List C):=l.map em
def ywU{l:List (List yR6)}:(ybD l).length=l.length:=by simp[ybD]
def yAV{l:List (List yR6)}{k:Nat}{ms:List yR6}(h:l[k]?=some ms):(ybD l)[k]?=some [.ow 3 (ms.map yR6.enc)]:=by unfold ybD;rw[zaw,h];rfl
def yw2(l:List (List yR6)):yaq (ybD l)=some (l.map nD):=eF yHe l
def yEL{l:List (List yR6)}{k:Nat}{ms:List yR6}{m:yR6}(h:l[k]?=some ms):setAt (setAt (ybD l) k 0 C.jk) k 0 (.ow 3 (ms.map yR6.enc++[m.enc]))=ybD (l.set k (ms++[m])):=by
 have hk:=yAV h;have kl:=(zaa.1 hk).1;have gl:=(zaa.1 hk).2;have e:setAt (setAt (ybD l) k 0 C.jk) k 0 (.ow 3 (ms.map yR6.enc++[m.enc]))=(ybD l).set k (em (ms++[m])):=by simp[setAt,gl,kl,em,hk]
 rw[e];unfold ybD;rw[zaR]
def yew(x:yRW)(k:Nat):yRW:=if(iK x k).2 then(iK x k).1 else if(bH x k).2 then(bH x k).1 else xY x k
def yo5(x:yRW)(k:Nat):List (List C):=if(iK x k).2 then bM (iK x k).1.yRX else if(bH x k).2 then(bM x.yRX).set k (wC (yj x k))else bM (xY x k).yRX
set_option maxHeartbeats 8000000 in
set_option maxRecDepth 40000 in
def yD1(x:yRW)(k:Nat)(hs:x.small)(F:ySq x k)(hok:rC x=true)(hg0:yag x k≠0):
 InF prg 90 (.c (.bx (x.qX (bM x.yRX) (ybD x.yR3)))) (.c (.bx ((yew x k).qX (yo5 x k) (ybD (yew x k).yR3)))) [.c (.i k)] (.tup []):=by
 have kw:=F.kw;have kr:=F.kr;have sw:=F.sw;have rl:=F.rl;have lok:=F.lok;have wyl:=F.ways;have mvl:=F.mvs;have hms:=yw2 x.yR3;have hmr:=ywU (l:=x.yR3);have htm:∀l:List (List yR6),l.length=x.yR3.length->List.take x.yR3.length (ybD l)=ybD l:=λl h=>List.take_of_length_le (by rw[ywU];omega);have htm0:=htm x.yR3 rfl;have htm1:=λs (v:List yR6)=>htm (x.yR3.set s v) (by simp);have hw:=yi4 F.kw;have hsl:jM x k<x.yRV.length:=by unfold jM lI;split<;>omega
 have hr:=ye8 hsl;have hA:=yiz x k hs;have ha:=ye8 (rs:=x.yRV) (k:=k) (by omega);have hb:=ye8 kr;rw[ytL hok ⟨hw,ha,hb,F.wok,by have:=(yjV hok).wks;have:=(yjV hok).two;omega⟩]at hA;have hsm:=yhK (a:=dR x.yRV k) (b:=dR x.yRV (k+1)) sw;have hN:=ymP (able (dR x.yRV k) (dR x.yRV (k+1)) (dW x.yRX k)) (dW x.yRX k).Turn x.Time hsm;have hN2:ybZ x k=mW (able (dR x.yRV k) (dR x.yRV (k+1)) (dW x.yRX k)) (dW x.yRX k).Turn x.Time:=rfl;rw[<-hN2]at hN;generalize able (dR x.yRV k) (dR x.yRV (k+1)) (dW x.yRX k)=A at *;clear hN2 ha hb;have hLv:lW x k=sK (dW x.yRX k).yR0 (dR x.yRV (jM x k)):=rfl;have hLL:=yu6 (dW x.yRX k).yR0 (dR x.yRV (jM x k)) sw.1;rw[<-hLv]at hLL;have hSG:=ymz (dW x.yRX k).yR0 sw.1;rw[if_pos lok]at hSG;obtain⟨ms,hmm⟩:∃ms,x.yR3[jM x k]?=some ms:=⟨_,zab (by omega)⟩;have h24:=F.few ms (zac hmm);obtain⟨wy,hwy⟩:∃wy,x.ySl[jM x k]?=some wy:=⟨_,zab (by omega)⟩;have hIO:=yAu (dW x.yRX k).Pauses x.Time
 have yL:(lW x k).2.2=true->yew x k=oG (rD x k (rH (dW x.yRX k) (lW x k).1)) (jM x k) ⟨(lW x k).2.1,yfJ x k⟩/\yo5 x k=bM (x.yRX.set k (rH (dW x.yRX k) (lW x k).1)):=by
  intro h;have e:iK x k=(oG (rD x k (rH (dW x.yRX k) (lW x k).1)) (jM x k) ⟨(lW x k).2.1,yfJ x k⟩,true):=by unfold iK;rw[if_pos h]
  exact⟨by unfold yew;rw[e];rfl,by unfold yo5;rw[e];rfl⟩
 have yN:(lW x k).2.2=false->yew x k=(if(bH x k).2 then(bH x k).1 else xY x k)/\yo5 x k=(if(bH x k).2 then(bM x.yRX).set k (wC (yj x k))else bM (xY x k).yRX):=by
  intro h;have e:iK x k=(x,false):=by unfold iK;rw[if_neg (by rw[h];exact zaG)]
  exact⟨by unfold yew;rw[e];rfl,by unfold yo5;rw[e];rfl⟩
 have yE:yeC x k=true->(bH x k).2=true/\(bH x k).1=rD (ytx x k (yiZ x k)) k (yj x k):=by
  intro h;unfold bH;rw[if_pos h];exact⟨rfl,rfl⟩
 have yS:yeC x k=false->(bH x k).2=false:=by
  intro h;unfold bH;rw[if_neg (by rw[h];exact zaG)]
 have hS:xY x k=rD x k (if mG (dW x.yRX k) (ybZ x k)then ya7 (dW x.yRX k) 0 else dW x.yRX k):=rfl;have hMG:yeC x k=(decide ((dW x.yRX k).yR0.yRY=[])&&bW (dW x.yRX k).Pauses x.Time&& !decide (chosen x k=[])):=rfl;have hTg:=yBV x k hs F (ybD x.yR3) hmr;have hTn:=yBY x k hs F
 have hP:yfJ x k=if(dW x.yRX k).yR0.Gate=1 then wy.Long else 0:=by
  unfold yfJ yag;rw[zah,hwy];rfl
 have hgt:(dW x.yRX k).yR0.Gate=1\/(dW x.yRX k).yR0.Gate=2:=by
  have:=(qW lok).gate;have h:(dW x.yRX k).yR0.Gate≠0:=hg0;omega
 have hsd:jM x k=if(dW x.yRX k).yR0.Gate=1 then k else k+1:=rfl
 obtain⟨Y,hY⟩:∃Y,yew x k=Y:=⟨_,rfl⟩;obtain⟨W,hW⟩:∃W,yo5 x k=W:=⟨_,rfl⟩;rw[hY,hW];rw[hY,hW]at yL yN;generalize lW x k=T at *;generalize jM x k=sd at *;generalize dR x.yRV sd=r at *;generalize hTX:ytx x k (yiZ x k)=TX at *;generalize hLK:yj x k=LK at *;generalize bH x k=E at *;generalize xY x k=S at *;generalize yeC x k=mg at *;generalize chosen x k=ch at *;generalize ybZ x k=N at *;generalize yfJ x k=lp at *;generalize dW x.yRX k=w at *;have hsw:=λl=>@yk6 x.yRX k (rH w l);simp only[yR8.enc,rH]at hsw;have aw:=yt5 hw;simp only[yR8.enc]at aw;have gaw:=(zaa.1 aw).2;have ka:k<x.yRV.length:=by omega
 have hwl:=ygI (ws:=x.yRX);have kwl:k<(bM x.yRX).length:=by rw[hwl];exact kw
 have htw:∀ws:List yR8,ws.length=x.yRX.length->List.take x.yRX.length (bM ws)=bM ws:=λws h=>List.take_of_length_le (by rw[ygI];omega);have htw0:=htw x.yRX rfl;have htws:∀X,List.take x.yRX.length ((bM x.yRX).set k X)=(bM x.yRX).set k X:=λX=>List.take_of_length_le (by rw[zbA,hwl];exact Nat.le_refl _);have htw1:=λv=>htw (x.yRX.set k v) (by simp);have hsg:=@yk6 x.yRX k (ya7 w 0);simp only[yR8.enc,ya7,yR0.yra]at hsg;have hse:x.yRX.set k w=x.yRX:=by rw[<-(zaa.1 hw).2,zdq]
 have hrs:=ycb x.yRX;rw[yo2]at hrs;have hre:=yo2 x.yRX;have am:=yAV hmm;have hput:=λm=>@yEL x.yR3 sd ms m hmm;simp only[yR6.enc]at hput;have ksm:sd<x.yR3.length:=by omega
 have ksl:sd<(ybD x.yR3).length:=by rw[hmr];exact ksm
 rcases hgt with hg|hg
 focus
  rw[hg,if_pos rfl]at hsd hP;rw[hsd]at hr hsl hmm hwy am hput ksm ksl yL;have ek:(0:Int)=0:=rfl;have hk1:(0=1)=False:=by simp
 rotate_left
 focus
  rw[hg,if_neg (show¬(2:Int)=1 from by decide)]at hsd hP;have ek:(k:Int)+1=(sd:Int):=by omega
  have hk1:((sd:Int)=(k:Int))=False:=eq_false (by omega)
 all_goals
  have gr:=(zaa.1 hr).2;have gam:=(zaa.1 am).2;have gwy:=(zaa.1 hwy).2;have lwy:=(zaa.1 hwy).1;obtain⟨tl,tt,tb⟩:=T;simp only at hLL;rcases zcx tb with hT|hT<;>subst hT
  .obtain⟨y1,y2⟩:=yL rfl;refine ycN jL (by simp) (by simp[yRW.qX]) rfl λhwf=>?_;simp -dsimp -implicitDefEqProofs [bK,yRW.qX,fC kw,hg,ek,hr,gr,hsl,aw,gaw,hwl,kw,kwl]
   first|refine⟨by unfold inI;omega,?_⟩|skip
   refine nC (hLL) (by simp -dsimp -implicitDefEqProofs [hg]) (.inl rfl) ?_;simp -dsimp -implicitDefEqProofs [hg,ek,hr,gr,hsl,aw,gaw,hwl,kw,kwl,am,gam,hmr,ksm,ksl,hwy,gwy,lwy,hsw,hk1];have htk:∀(p:Int),List.take (ms.length+1) (ms.map yR6.enc++[[C.b tt.Up,C.sl 1 (tt.Rows.map jE),C.i p]])=ms.map yR6.enc++[[C.b tt.Up,C.sl 1 (tt.Rows.map jE),C.i p]]:=λp=>List.take_of_length_le (by simp);have hpt:=hput ⟨tt,lp⟩;rw[hP]at hpt y1;refine⟨by omega,by simp[setAt,hmr,ksm],?_⟩;rw[htk,hpt];refine⟨by simp -dsimp -implicitDefEqProofs,⟨bD x x.Book x.yR1.length,[20000,40000,50000,130000],by simp -dsimp -implicitDefEqProofs [bD,hwl,hmr],?_,by decide⟩,⟨[],rfl,trivial⟩⟩;simp -dsimp -implicitDefEqProofs [bD,jA,htm0,htm1,htw0,htw1,rD,oG,hwl,hmr,hsw,y1,y2,hmm]
  obtain⟨y1,y2⟩:=yN rfl
  by_cases hm:mg=true
  .obtain⟨e1,e2⟩:=yE hm;rw[e1,if_pos rfl]at y1 y2;rw[e2]at y1;rw[hMG]at hm;simp only[zad,decide_eq_true_eq,zaW,decide_eq_false_iff_not]at hm;obtain⟨⟨hI,hop⟩,hch⟩:=hm;have i2:(w.yR0.yRY=[])=True:=eq_true hI;have hTM:TX.yR3=x.yR3:=by rw[<-hTX];rfl
   refine ycN jL (by simp) (by simp[yRW.qX]) rfl λhwf=>?_;simp -dsimp -implicitDefEqProofs [bK,yRW.qX,fC kw,hg,ek,hr,gr,hsl,aw,gaw,hwl,kw,kwl]
   first|refine⟨by unfold inI;omega,?_⟩|skip
   refine nC (hLL) (by simp -dsimp -implicitDefEqProofs [hg]) (.inl rfl) ?_;simp -dsimp -implicitDefEqProofs [i2,hg,ek,hr,gr,hsl,aw,gaw,hwl,kw,kwl]
   refineλ_=>?_
   refine yYs hIO ?_;simp -dsimp -implicitDefEqProofs [hop,i2,hg,ek,hr,gr,hsl,aw,gaw,hwl,kw,kwl];have hTq:=hTg hI hch;simp only[yRW.qX,wC]at hTq;refine ynX (by simp -dsimp -implicitDefEqProofs [hop]) (λK2 hK2=>yfT 101 (xs:=bD x x.Book x.yR1.length) (ids:=[20000,40000,50000,130000]) hTq (by simp -dsimp -implicitDefEqProofs [bD,hwl,hmr]) (by simp -dsimp -implicitDefEqProofs [bD,jA,htm0,htw0]) (by decide) (by simp -dsimp -implicitDefEqProofs) rfl rfl (by simp[fD]) hK2) (eU hop ?_);refine⟨by simp -dsimp -implicitDefEqProofs,⟨[.c (.i TX.Time),.own 20101 3 TX.yRV.length,.c (.sl 2 (TX.ySl.map Way.enc)),.own 40101 22 x.yRX.length,.own 50101 1 x.yR3.length,.c (.sl 2 (TX.yR9.map yRT.enc)),.c (.sl 1 (TX.ySd.map qC)),.c (.i TX.yRZ.Base),.c (.i TX.yRZ.ySe),.c (.sl 1 (TX.yRZ.yR5.map qC)),.c (.sl 1 (TX.yRZ.yR7.map qC)),.c (.sl 5 (TX.Book.map ySb.enc)),.own 130101 4 TX.yR1.length,.c (.i TX.Start),.c (.i TX.In),.c (.i TX.Out)],[20101,40101,50101,130101],by simp -dsimp -implicitDefEqProofs [hwl,hmr],?_,by decide⟩,⟨[],rfl,trivial⟩⟩;simp -dsimp -implicitDefEqProofs [y1,y2,rD,wC,hTM,jA,htm0,htws,hwl,hmr]
  have hm:mg=false:=by simpa using hm
  rw[yS hm,if_neg zaG]at y1 y2;rw[hS]at y1 y2;rw[hMG]at hm
  by_cases hI:w.yR0.yRY=[]
  rotate_left
  .have i1:(0<w.yR0.yRY.length)=True:=eq_true (zbc.2 hI);have i2:(w.yR0.yRY=[])=False:=eq_false hI;rw[show mG w N=true by simp[mG,hI],if_pos rfl]at y1 y2;refine ycN jL (by simp) (by simp[yRW.qX]) rfl λhwf=>?_;simp -dsimp -implicitDefEqProofs [bK,yRW.qX,fC kw,hg,ek,hr,gr,hsl,aw,gaw,hwl,kw,kwl]
   first|refine⟨by unfold inI;omega,?_⟩|skip
   refine nC (hLL) (by simp -dsimp -implicitDefEqProofs [hg]) (.inl rfl) ?_;simp -dsimp -implicitDefEqProofs [i1,i2,hg,ek,hr,gr,hsl,aw,gaw,hwl,kw,kwl]
   refineλ_=>yha (by simp -dsimp -implicitDefEqProofs) (eP ?_)
   refine pJ hA (by simp -dsimp -implicitDefEqProofs [jA,hms,htm0,hrs,hre]) (iJ yR4.aF _ _) (by simp[fD]) ?_;simp -dsimp -implicitDefEqProofs [hg,ek,hr,gr,hsl,aw,gaw,hwl,kw,kwl];refine nC (hN) (by simp -dsimp -implicitDefEqProofs [eF yR4.bF,jA]) (.inr rfl) ?_;simp -dsimp -implicitDefEqProofs [i1,i2,hg,ek,hr,gr,hsl,aw,gaw,hwl,kw,kwl]
   refineλ_=>?_
   refine iF (hSG) (by simp -dsimp -implicitDefEqProofs [hg]) rfl ?_;simp -dsimp -implicitDefEqProofs [hsg,hg,ek,hr,gr,hsl,aw,gaw,hwl,kw,kwl];refine⟨by simp -dsimp -implicitDefEqProofs,⟨bD x x.Book x.yR1.length,[20000,40000,50000,130000],by simp -dsimp -implicitDefEqProofs [bD,hwl,hmr],?_,by decide⟩,⟨[],rfl,trivial⟩⟩;simp -dsimp -implicitDefEqProofs [bD,jA,htm0,htm1,htw0,htw1,rD,oG,hwl,hmr,hsw,y1,y2,hsg,hg,ya7]
  have i1:(0<w.yR0.yRY.length)=False:=eq_false (by rw[hI];simp);have i2:(w.yR0.yRY=[])=True:=eq_true hI
  have hoc:bW w.Pauses x.Time=false\/(bW w.Pauses x.Time=true/\ch=[]):=by
   cases h:bW w.Pauses x.Time with
   |false=>exact .inl rfl
   |true=>exact .inr ⟨rfl,by simpa[hI,h]using hm⟩
  clear hm;rcases hoc with hop|⟨hop,hch⟩
  all_goals
   refine ycN jL (by simp) (by simp[yRW.qX]) rfl λhwf=>?_;simp -dsimp -implicitDefEqProofs [bK,yRW.qX,fC kw,hg,ek,hr,gr,hsl,aw,gaw,hwl,kw,kwl]
   first|refine⟨by unfold inI;omega,?_⟩|skip
   refine nC (hLL) (by simp -dsimp -implicitDefEqProofs [hg]) (.inl rfl) ?_;simp -dsimp -implicitDefEqProofs [i1,i2,hg,ek,hr,gr,hsl,aw,gaw,hwl,kw,kwl]
   refineλ_=>?_
   refine yYs hIO ?_;simp -dsimp -implicitDefEqProofs [hop,i1,i2,hg,ek,hr,gr,hsl,aw,gaw,hwl,kw,kwl]
  rotate_left
  focus
   refine ynX (by simp -dsimp -implicitDefEqProofs [hop]) (λK2 hK2=>mD (hTn hch) (by simp -dsimp -implicitDefEqProofs [jA,hms,htm0,hrs,hre]) rfl hK2) ?_
  rotate_left
  focus
   refine yha (by simp -dsimp -implicitDefEqProofs [hop]) ?_
  all_goals
   refine eU hop ?_;refine pJ hA (by simp -dsimp -implicitDefEqProofs [jA,hms,htm0,hrs,hre]) (iJ yR4.aF _ _) (by simp[fD]) ?_;simp -dsimp -implicitDefEqProofs [hg,ek,hr,gr,hsl,aw,gaw,hwl,kw,kwl];refine nC (hN) (by simp -dsimp -implicitDefEqProofs [eF yR4.bF,jA]) (.inr rfl) ?_;simp -dsimp -implicitDefEqProofs [i1,i2,hg,ek,hr,gr,hsl,aw,gaw,hwl,kw,kwl]
   refineλ_=>⟨λh2=>⟨λh1=>?_,λh1=>?_⟩,λh2=>?_⟩
   .rw[show mG w N=true by simp[mG,hI,hg,h1,h2],if_pos rfl]at y1 y2;refine iF (hSG) (by simp -dsimp -implicitDefEqProofs [hg]) rfl ?_;simp -dsimp -implicitDefEqProofs [hsg,hg,ek,hr,gr,hsl,aw,gaw,hwl,kw,kwl];refine⟨by simp -dsimp -implicitDefEqProofs,⟨bD x x.Book x.yR1.length,[20000,40000,50000,130000],by simp -dsimp -implicitDefEqProofs [bD,hwl,hmr],?_,by decide⟩,⟨[],rfl,trivial⟩⟩;simp -dsimp -implicitDefEqProofs [bD,jA,htm0,htm1,htw0,htw1,rD,oG,hwl,hmr,hsw,y1,y2,hsg,hg,ya7]
   .rw[show mG w N=false by simp[mG,hI,hg,h1,h2],if_neg zaG]at y1 y2;refine⟨by simp -dsimp -implicitDefEqProofs,⟨bD x x.Book x.yR1.length,[20000,40000,50000,130000],by simp -dsimp -implicitDefEqProofs [bD,hwl,hmr],?_,by decide⟩,⟨[],rfl,trivial⟩⟩;simp -dsimp -implicitDefEqProofs [bD,jA,htm0,htm1,htw0,htw1,rD,oG,hwl,hmr,hsw,y1,y2,hse]
   .rw[show mG w N=false by simp[mG,hI,hg,h2],if_neg zaG]at y1 y2;refine⟨by simp -dsimp -implicitDefEqProofs,⟨bD x x.Book x.yR1.length,[20000,40000,50000,130000],by simp -dsimp -implicitDefEqProofs [bD,hwl,hmr],?_,by decide⟩,⟨[],rfl,trivial⟩⟩;simp -dsimp -implicitDefEqProofs [bD,jA,htm0,htm1,htw0,htw1,rD,oG,hwl,hmr,hsw,y1,y2,hse]
def yiY(d:Nat)(x:yRW)(w m:Nat):List AV:=[.c (.i x.Time),.own (20000+d) 3 x.yRV.length,.c (.sl 2 (x.ySl.map Way.enc)),.own (40000+d) 22 w,.own (50000+d) 1 m,.c (.sl 2 (x.yR9.map yRT.enc)),.c (.sl 1 (x.ySd.map qC)),.c (.i x.yRZ.Base),.c (.i x.yRZ.ySe),.c (.sl 1 (x.yRZ.yR5.map qC)),.c (.sl 1 (x.yRZ.yR7.map qC)),.c (.sl 5 (x.Book.map ySb.enc)),.own (130000+d) 4 x.yR1.length,.c (.i x.Start),.c (.i x.In),.c (.i x.Out)]
set_option maxHeartbeats 8000000 in
set_option maxRecDepth 40000 in
def yvT(x:yRW)(k:Int)(hs:x.small):qB prg 37 [.agg (x.enc.map .c),.c (.i k)] (.agg ((fQ x k).enc.map .c)):=by
 have hco:=yDS x hs;simp only[yRW.qX]at hco;have hme:=eF yHe x.yR3;have hwe:yaq (x.yRX.map yR8.enc)=some (x.yRX.map yR8.enc):=ycb x.yRX;refine dB yrM (eP ?_);refine qU hco (by simp) rfl (by simp[fD,em]) (goT_ ?_);refine yYq (yc1 x hs) ?_;cases h:rC x with
 |false=>
  rw[yuv (by simp[yd9,h])];simp -dsimp -implicitDefEqProofs [jA,hme,hwe]
 |true=>
 have hwl:=hs.2.2.1.1;refine eP ?_
 refineλhlen=>⟨by unfold inI;omega,?_⟩
 refine yYq (bC k 0 (x.yRX.length-1)) ?_;cases hin:inRange k 0 (x.yRX.length-1)with
 |false=>
  have hno:¬(0<=k/\k<=x.yRX.length-1):=λh=>by rw[aC.2 h]at hin;cases hin
  rw[yuv (by simp[yd9,h];omega)];simp -dsimp -implicitDefEqProofs [jA,hme,hwe]
 |true=>
 have hr:=aC.1 hin;obtain⟨n,rfl⟩:=zbE hr.1;have F:=ym8 h hs (k:=n) (by omega);have kw:=F.kw;have hw:=yi4 F.kw;have gw:=(zaa.1 hw).2;have hgt:yag x n=(dW x.yRX n).yR0.Gate:=rfl;have hSh:=yD5 x n hs F h (x.yR3.map em) hme;have hOp:=yD1 x n hs F h;have hys:(yeU x n).small:=yjy hs F;have hV:=yc1 (yeU x n) hys;have e:fQ x (n:Int)=if rC (yeU x n)then yeU x n else x:=by simp[fQ,yd9,h,kw]
 have yS:yag x n=0->yeU x n=qM x n:=λh=>by unfold yeU;rw[if_pos h]
 have yO:yag x n≠0->yeU x n=yew x n:=λh=>by unfold yeU yew;rw[if_neg h]
 have hWS:yaq (bM (qM x n).yRX)=some ((qM x n).yRX.map yR8.enc):=ycb _
 have hMS:(qM x n).yR3=x.yR3:=by
  unfold qM yls;split
  .rfl
  .split<;>rfl
 have hWO:yag x n≠0->yaq (yo5 x n)=some ((yew x n).yRX.map yR8.enc):=by
  intro _;unfold yo5 yew;split
  .exact ycb _
  .split
   .rename_i h1 h2
    have hm:yeC x n=true:=by
     unfold bH at h2;split at h2
     .rename_i h3;exact h3
     .cases h2
    have e3:(bH x n).1.yRX=x.yRX.set n (yj x n):=by unfold bH;rw[if_pos hm];rfl
    rw[e3,zaR];exact yBn (ycb x.yRX) (yLy (yj x n)) n
   .exact ycb _
 have hRW:bM x.yRX=x.yRX.map yR8.enc:=rfl;have hRM:ybD x.yR3=x.yR3.map em:=rfl;rw[hRW]at hSh hOp;rw[hRM]at hOp;rw[e]
 by_cases hg:yag x n=0
 .rw[yS hg]at hV|-;have hms:yaq (x.yR3.map em)=some ((qM x n).yR3.map nD):=by rw[hMS];exact hme
  have hws:=hWS;rw[hgt]at hg;clear hWO hOp yS yO hMS hWS e hys;generalize qM x n=y at *;generalize bM y.yRX=W at *;simp only[yRW.qX]at hSh;generalize dW x.yRX n=w at *;obtain⟨res,hres⟩:∃r,(if rC y then y else x)=r:=⟨_,rfl⟩;rw[hres];rcases zcx (rC y)with hv|hv
  .rw[hv,if_pos rfl]at hres;rw[hv]at hV;subst hres;refine yaff hw gw kw (fC kw) hg ?_;refine yfT 30 (xs:=yiY 7 x x.yRX.length x.yR3.length) (ids:=[20007,40007,50007,130007]) hSh (by simp -dsimp -implicitDefEqProofs [yiY]) (by simp -dsimp -implicitDefEqProofs [yiY,jA]) (by decide) (by simp -dsimp -implicitDefEqProofs) rfl rfl (by simp[fD]) (eP ?_);refine mD (hV) (by simp -dsimp -implicitDefEqProofs [jA,hws,hms,List.take_length]) rfl ?_;simp -dsimp -implicitDefEqProofs [jA,hws,hms,List.take_length]
  .rw[hv,if_neg zaG]at hres;rw[hv]at hV;subst hres;refine yaff hw gw kw (fC kw) hg ?_;refine yfT 30 (xs:=yiY 7 x x.yRX.length x.yR3.length) (ids:=[20007,40007,50007,130007]) hSh (by simp -dsimp -implicitDefEqProofs [yiY]) (by simp -dsimp -implicitDefEqProofs [yiY,jA]) (by decide) (by simp -dsimp -implicitDefEqProofs) rfl rfl (by simp[fD]) (eP ?_);refine mD (hV) (by simp -dsimp -implicitDefEqProofs [jA,hws,hms,List.take_length]) rfl (eP ?_);refine qU hco (by simp) rfl (by simp[fD,em]) ?_;simp -dsimp -implicitDefEqProofs [jA,hme,hwe]
 .have hOp:=hOp hg;rw[yO hg]at hV|-;have hms:yaq (ybD (yew x n).yR3)=some ((yew x n).yR3.map nD):=yw2 _;have hws:=hWO hg;rw[hgt]at hg;clear hWO hSh yS yO hMS hWS e hys;generalize yew x n=y at *;generalize yo5 x n=W at *;generalize ybD y.yR3=M at *;simp only[yRW.qX]at hOp;generalize dW x.yRX n=w at *;obtain⟨res,hres⟩:∃r,(if rC y then y else x)=r:=⟨_,rfl⟩;rw[hres];rcases zcx (rC y)with hv|hv
  .rw[hv,if_pos rfl]at hres;rw[hv]at hV;subst hres;refine yaff hw gw kw (fC kw) hg ?_;refine yfT 32 (xs:=yiY 7 x x.yRX.length x.yR3.length) (ids:=[20007,40007,50007,130007]) hOp (by simp -dsimp -implicitDefEqProofs [yiY]) (by simp -dsimp -implicitDefEqProofs [yiY,jA]) (by decide) (by simp -dsimp -implicitDefEqProofs) rfl rfl (by simp[fD]) (eP ?_);refine mD (hV) (by simp -dsimp -implicitDefEqProofs [jA,hws,hms,List.take_length]) rfl ?_;simp -dsimp -implicitDefEqProofs [jA,hws,hms,List.take_length]
  .rw[hv,if_neg zaG]at hres;rw[hv]at hV;subst hres;refine yaff hw gw kw (fC kw) hg ?_;refine yfT 32 (xs:=yiY 7 x x.yRX.length x.yR3.length) (ids:=[20007,40007,50007,130007]) hOp (by simp -dsimp -implicitDefEqProofs [yiY]) (by simp -dsimp -implicitDefEqProofs [yiY,jA]) (by decide) (by simp -dsimp -implicitDefEqProofs) rfl rfl (by simp[fD]) (eP ?_);refine mD (hV) (by simp -dsimp -implicitDefEqProofs [jA,hws,hms,List.take_length]) rfl (eP ?_);refine qU hco (by simp) rfl (by simp[fD,em]) ?_;simp -dsimp -implicitDefEqProofs [jA,hme,hwe]
abbrev yVr:=List yR6×List yR8×List yRT
def noRoom(W:List yR8)(j:Nat):Bool:=match W[j]? with
 |some w=>decide (24<=w.Calls.length)
 |none=>true
def yTE(W:List yR8)(j:Nat)(c:yR4):List yR8:=match W[j]? with
 |some w=>W.set j {w with Calls:=w.Calls++[c]}
 |none=>W
def yT7(k:Nat)(t:yRT):Nat:=if t.Up then k-1 else k
def yTh(x:yRW)(k:Nat)(t:yRT):Bool:=(t.Up&&decide (k=0))||(!t.Up&&decide (k+1=x.yRV.length))
def yS3(x:yRW)(k:Nat)(w:Way)(s:yVr)(m:yR6):yVr:=
 if AtEnd m w then
  if yTh x k m.yRT then(s.1,s.2.1,s.2.2++[m.yRT])
  else if noRoom s.2.1 (yT7 k m.yRT)then(s.1++[m],s.2)
  else(s.1,yTE s.2.1 (yT7 k m.yRT) ⟨m.yRT,x.Time,-1⟩,s.2.2)
 else(s.1++[m],s.2)
def yS4(x:yRW)(k:Nat)(w:Way)(r:Reach)(s:List yR8×List yRT)(ms:List yR6):yVr:=
 ms.foldl (λq m=>yS3 x k w q (yS7 m w r)) ([],s)
def ySW(x:yRW):Nat->List (List yR6)×List yR8×List yRT
 |0=>([],x.yRX,x.yR9)
 |k+1=>match x.ySl[k]?,x.yRV[k]?,x.yR3[k]? with
  |some w,some r,some ms=>((ySW x k).1++[(yS4 x k w r (ySW x k).2 ms).1],(yS4 x k w r (ySW x k).2 ms).2)
  |_,_,_=>ySW x k
def yTL(x:yRW):yRW:={x with yR3:=(ySW x x.yR3.length).1,yRX:=(ySW x x.yR3.length).2.1,yR9:=(ySW x x.yR3.length).2.2}
def yTd(x:yRW):yRW:=if rC x&&rC (yTL x)then yTL x else x
def yTN(W:List yR8)(j:Nat)(c:yR4):(yTE W j c).length=W.length:=by unfold yTE;split<;>simp
def yW9{x:yRW}{k:Nat}{w:Way}{s:yVr}{m:yR6}:(yS3 x k w s m).1.length<=s.1.length+1/\(yS3 x k w s m).2.1.length=s.2.1.length/\(yS3 x k w s m).2.2.length<=s.2.2.length+1:=by
 unfold yS3;split
 .split
  .simp
  .split
   .simp
   .simp[yTN]
 .simp
def yWA{x:yRW}{k:Nat}{w:Way}{r:Reach}(ms:List yR6):∀s:yVr,(ms.foldl (λq m=>yS3 x k w q (yS7 m w r)) s).1.length<=s.1.length+ms.length/\(ms.foldl (λq m=>yS3 x k w q (yS7 m w r)) s).2.1.length=s.2.1.length/\(ms.foldl (λq m=>yS3 x k w q (yS7 m w r)) s).2.2.length<=s.2.2.length+ms.length:=by
 induction ms with
 |nil=>intro s;simp
 |cons m ms ih=>
  intro s;obtain⟨a1,a2,a3⟩:=ih (yS3 x k w s (yS7 m w r));obtain⟨b1,b2,b3⟩:=yW9 (x:=x) (k:=k) (w:=w) (s:=s) (m:=yS7 m w r);simp only[zca,zaJ];omega
def yXC(es:List yR8)(hl:es.length<=1048576):nI prg 171 [.c (.sl 22 (es.map yR8.enc))] (.c (.ot 22 (es.map yR8.enc))):=by
 refine fF yQ ?_;simp -dsimp -implicitDefEqProofs [mQ,jA];omega
def yXH(es:List yRT):qB prg 172 [.c (.sl 2 (es.map yRT.enc))] (.clip 2 (es.map yRT.enc)):=by
 refine dB yTA ?_;simp -dsimp -implicitDefEqProofs [yTb,jA]
def yWR(es:List yR4):qB prg 175 [.c (.sl 4 (es.map yR4.enc))] (.clip 4 (es.map yR4.enc)):=by
 refine dB yTD ?_;simp -dsimp -implicitDefEqProofs [yTg,jA]
structure ySM(x:yRW):Prop where
 two:2<=x.yRV.length
 six:x.yRV.length<=6
 ways:x.ySl.length=x.yRV.length
 mvs:x.yR3.length=x.yRV.length
 wks:x.yRX.length+1=x.yRV.length
 few:∀(k:Nat) (l:List yR6),x.yR3[k]?=some l->l.length<=24
 arr:x.yR9.length<=500
def yCK{x:yRW}(h:rC x=true):ySM x:=by
 simp only[rC,zad]at h;obtain⟨⟨⟨⟨⟨⟨⟨h1,h2⟩,h3⟩,h4⟩,h5⟩,h6⟩,h7⟩,h8⟩:=h;simp only[sJ,zad,decide_eq_true_eq]at h2;obtain⟨⟨⟨⟨⟨⟨p1,p2⟩,p3⟩,p4⟩,p5⟩,p6⟩,p7⟩:=h2;have rf:=(ynr p1).len;refine⟨p2,rf.2,p3,p4,p5,λk l hk=>?_,?_⟩
 .have kl:=(zaa.1 hk).1;have gl:=(zaa.1 hk).2;have:=zaf.1 p6 (x.ySl[k]'(by omega),l) (zcq.2 ⟨k,by simp;omega,by simp[gl]⟩);simp only[jS,zad,decide_eq_true_eq]at this;exact this.1.2
 .simp only[pO,zad,decide_eq_true_eq]at h3;omega
structure yV5(n a:Nat)(s:yVr):Prop where
 rest:s.1.length<=n/\∀m∈s.1,m.small
 works:ycw s.2.1
 arr:s.2.2.length<=a+n/\∀t∈s.2.2,t.small
def yWn{W:List yR8}{j:Nat}{c:yR4}(h:ycw W)(hc:c.small)(hr:noRoom W j=false):ycw (yTE W j c):=by
 refine⟨by rw[yTN];exact h.1,λw hw=>?_⟩;unfold yTE at hw;unfold noRoom at hr;cases hw0:W[j]? with
 |none=>rw[hw0]at hr;cases hr
 | some w0=>
  rw[hw0]at hr hw;simp only[decide_eq_false_iff_not]at hr;rcases zbj hw with e|e
  .exact h.2 w e
  .subst e;obtain⟨a,b,c1⟩:=h.2 w0 (zac hw0);refine⟨a,b,by simp;omega,λy hy=>?_⟩;rcases zaq.1 hy with e|e
   .exact c1.2 y e
   .rw[zas.1 e];exact hc
def yWc{α:Type}{p:α->Prop}{l:List α}{a:α}(h:∀x∈l,p x)(ha:p a):∀x∈l++[a],p x:=by
 intro x hx;rcases zaq.1 hx with e|e
 .exact h x e
 .rw[zas.1 e];exact ha
def yWl{x:yRW}{k:Nat}{w:Way}{n a:Nat}{s:yVr}{m:yR6}(h:yV5 n a s)(hm:m.small):yV5 (n+1) a (yS3 x k w s m):=by
 obtain⟨r,wk,ar⟩:=h;have r1:s.1.length<=n+1:=Nat.le_succ_of_le r.1;have a1:s.2.2.length<=a+(n+1):=zaX ar.1 (by omega);have ar1:=ar.1;have rr1:=r.1;unfold yS3;split
 .split
  .exact⟨⟨r1,r.2⟩,wk,by simp;omega,yWc ar.2 hm⟩
  .split
   .exact⟨⟨by simp;omega,yWc r.2 hm⟩,wk,a1,ar.2⟩
   .rename_i hr;exact⟨⟨r1,r.2⟩,yWn wk hm (by simpa using hr),a1,ar.2⟩
 .exact⟨⟨by simp;omega,yWc r.2 hm⟩,wk,a1,ar.2⟩
def yT8{m:yR6}{w:Way}{r:Reach}(h:m.small):(yS7 m w r).small:=by
 show(yS7 m w r).yRT.small
 rw[yWg];exact h
def yUH{x:yRW}{k:Nat}{w:Way}{r:Reach}{a:Nat}:∀(ms:List yR6),(∀m∈ms,m.small)->∀(s:yVr) (n:Nat),yV5 n a s->yV5 (n+ms.length) a (ms.foldl (λq m=>yS3 x k w q (yS7 m w r)) s)
 |[],_,s,n,h=>h
 |m::ms,hm,s,n,h=>by
  have:=yUH (x:=x) (k:=k) (w:=w) (r:=r) (a:=a) ms (λy hy=>hm y (zdw _ hy)) _ (n+1) (yWl (x:=x) (k:=k) (w:=w) h (yT8 (w:=w) (r:=r) (hm m zdd)));rw[zaJ,show n+(ms.length+1)=n+1+ms.length by omega];exact this
def yUD{x:yRW}{k:Nat}{w:Way}{r:Reach}{ms:List yR6}(h1:x.ySl[k]?=some w)(h2:x.yRV[k]?=some r)(h3:x.yR3[k]?=some ms):ySW x (k+1)=((ySW x k).1++[(yS4 x k w r (ySW x k).2 ms).1],(yS4 x k w r (ySW x k).2 ms).2):=by
 simp[ySW,h1,h2,h3]
def yUW{x:yRW}{k:Nat}{w:Way}{r:Reach}{s:List yR8×List yRT}{ms:List yR6}{i:Nat}{m:yR6}(h:ms[i]?=some m):yS4 x k w r s (ms.take (i+1))=yS3 x k w (yS4 x k w r s (ms.take i)) (yS7 m w r):=by
 unfold yS4;rw[zar,h];simp
structure yW8(x:yRW)(k:Nat):Prop where
 len:(ySW x k).1.length=k
 rest:∀l∈(ySW x k).1,l.length<=24/\∀m∈l,m.small
 works:ycw (ySW x k).2.1
 yXM:(ySW x k).2.1.length=x.yRX.length
 arr:(ySW x k).2.2.length<=500+24*k/\∀t∈(ySW x k).2.2,t.small
def yU8{x:yRW}{k:Nat}{w:Way}{r:Reach}(hs:x.small)(h:yW8 x k){ms:List yR6}(hm:∀m∈ms,m.small):yV5 ms.length (500+24*k) (yS4 x k w r (ySW x k).2 ms)/\(yS4 x k w r (ySW x k).2 ms).2.1.length=x.yRX.length:=by
 refine⟨?_,?_⟩
 .have:=yUH (x:=x) (k:=k) (w:=w) (r:=r) (a:=500+24*k) ms hm ([],(ySW x k).2) 0 ⟨⟨by simp,by simp⟩,h.works,by have:=h.arr.1;show(ySW x k).2.2.length<=_;omega,h.arr.2⟩;rw[zbt]at this;exact this
 .have:=(yWA (x:=x) (k:=k) (w:=w) (r:=r) ms ([],(ySW x k).2)).2.1;unfold yS4;rw[this];exact h.yXM
def yTU{x:yRW}(F:ySM x)(hs:x.small):∀k:Nat,k<=x.yR3.length->yW8 x k
 |0,_=>⟨rfl,λl hl=>(by cases hl),hs.2.2.1,rfl,by have:=F.arr;show x.yR9.length<=_;omega,hs.2.2.2.2.1.2⟩
 |k+1,hk=>by
  have ih:=yTU F hs k (by omega);have f1:=F.ways;have f2:=F.mvs;obtain⟨w,hw⟩:∃w,x.ySl[k]?=some w:=⟨_,zab (by omega)⟩;obtain⟨r,hr⟩:∃r,x.yRV[k]?=some r:=⟨_,zab (by omega)⟩;obtain⟨ms,hms⟩:∃ms,x.yR3[k]?=some ms:=⟨_,zab (by omega)⟩;have hm:=F.few k ms hms;obtain⟨⟨a1,a2,a3⟩,a4⟩:=yU8 (w:=w) (r:=r) hs ih (ms:=ms) (λm h=>(hs.2.2.2.1.2 ms (zac hms)).2 m h);have e:=yUD hw hr hms;refine⟨by rw[e];simp[ih.len],λl hl=>?_,by rw[e];exact a2,by rw[e];exact a4,by rw[e];show(yS4 x k w r (ySW x k).2 ms).2.2.length<=_;omega,by rw[e];exact a3.2⟩;rw[e]at hl;rcases zaq.1 hl with h|h
  .exact ih.rest l h
  .rw[zas.1 h];exact⟨by omega,a1.2⟩
def yUr{x:yRW}(F:ySM x)(hs:x.small):(yTL x).small:=by
 have h:=yTU F hs x.yR3.length (Nat.le_refl _);have f6:=F.six;have f2:=F.mvs;refine⟨hs.1,hs.2.1,h.works,⟨by show(ySW x x.yR3.length).1.length<=_;rw[h.len];omega,λl hl=>⟨by have:=(h.rest l hl).1;omega,(h.rest l hl).2⟩⟩,⟨by have:=h.arr.1;show(ySW x x.yR3.length).2.2.length<=_;omega,h.arr.2⟩,hs.2.2.2.2.2⟩
def yVX(x:yRW):(yTL x).enc=[.i x.Time,.sl 3 (x.yRV.map Reach.enc),.sl 2 (x.ySl.map Way.enc),.sl 22 ((ySW x x.yR3.length).2.1.map yR8.enc),.sl 1 ((ySW x x.yR3.length).1.map nD),.sl 2 ((ySW x x.yR3.length).2.2.map yRT.enc),.sl 1 (x.ySd.map qC),.i x.yRZ.Base,.i x.yRZ.ySe,.sl 1 (x.yRZ.yR5.map qC),.sl 1 (x.yRZ.yR7.map qC),.sl 5 (x.Book.map ySb.enc),.sl 4 (x.yR1.map yR2.enc),.i x.Start,.i x.In,.i x.Out]:=rfl
def ya6{α:Type}{f:α->Nat}{B n:Nat}{l:List α}(hl:l.length<=n)(h:∀a∈l,f a<=B):yap f l<=n*(1+B):=by
 have key:∀l:List α,(∀a∈l,f a<=B)->yap f l<=l.length*(1+B):=by
  intro l
  induction l with
  |nil=>intro _;simp[yap]
  |cons a l ih=>
   intro h;have h1:=h a (by simp);have h2:=ih λb hb=>h b (by simp[hb]);unfold yap at h2|-;rw[zbd,zcf,zaJ,zbq];omega
 exact zaX (key l h) (zam _ hl)
def ybA{t:yRT}(h:t.small):iT t<=1099512676352:=
 ya6 (B:=1048576) (n:=1048576) h.1 λr hr=>(h.2 r hr).1
def yEH{y:yRW}(h:rC y=true)(hs:y.small):kV y<=9007199254740992:=by
 have F:=yCK h;have f1:=F.six;have f2:=F.ways;have f3:=F.mvs;have f4:=F.wks;have f5:=F.arr;obtain⟨s1,s2,s3,s4,s5,s6,s7,s8,s9⟩:=hs
 have hw:∀w∈y.yRX,fJ w=true:=by
  have hh:=h;simp only[rC,sJ,zad,zaf]at hh;exact hh.1.1.1.1.1.1.2.2
 have f6:y.yR1.length<=500:=by
  have hh:=h;simp only[rC,pO,zad,decide_eq_true_eq]at hh;exact hh.1.1.1.1.1.2.1.1.1.2
 have a1:ydQ y.yRV<=6*(1+2097152):=ya6 f1 λr hr=>by
  have h1:=(s1.2 r hr).1.1;have h2:=(s1.2 r hr).2.1
  show r.ySg.length+r.ySk.length<=_
  omega
 have a2:yf3 y.yRX<=6*(1+(8*(1+1099512676352)+1048576+24*(1+1099512676352))):=ya6 (by omega) λw hm=>by
  have sw:=s3.2 w hm;have ok:=hw w hm;simp only[fJ,lF,Distinct,zad,decide_eq_true_eq]at ok;have b1:gY w.yR0.yRY<=8*(1+1099512676352):=ya6 ok.1.1.1.1.1.1.2.1.1 λt ht=>ybA (sw.1.2 t ht);have b2:ygU w.Calls<=24*(1+1099512676352):=ya6 ok.1.2 λc hc=>ybA (sw.2.2.2 c hc);have b3:w.Pauses.length<=1048576:=sw.2.1.1
  show gY w.yR0.yRY+w.Pauses.length+ygU w.Calls<=_
  omega
 have a3:ycz y.yR3<=6*(1+24*(1+1099512676352)):=ya6 (by omega) λl hl=>by
  obtain⟨k,hk⟩:=zbx.1 hl;exact ya6 (F.few k l hk) λm hm=>ybA ((s4.2 l hl).2 m hm)
 have a4:gY y.yR9<=500*(1+1099512676352):=ya6 f5 λt ht=>ybA (s5.2 t ht);have a5:ybt y.yR1<=500*(1+1099512676352):=ya6 f6 λp hp=>ybA (s9.2 p hp);have b1:=s2.1;have b2:=s6.1;have b3:=s7.1;have b4:=s7.2;have b5:=s8.1;have e:kV y=ydQ y.yRV+y.ySl.length+yf3 y.yRX+ycz y.yR3+gY y.yR9+y.ySd.length+(y.yRZ.yR5.length+y.yRZ.yR7.length)+y.Book.length+ybt y.yR1:=rfl;omega
def wkR(W:List yR8):List (List C):=W.map yR8.enc
def yUo{W:List yR8}:(wkR W).length=W.length:=by simp[wkR]
def yXc{W:List yR8}{k:Nat}{w:yR8}(h:W[k]?=some w):(wkR W)[k]?=some w.enc:=by unfold wkR;rw[zaw,h];rfl
def yWy:∀W:List yR8,yaq (wkR W)=some (wkR W)
 |[]=>rfl
 |a::W=>by
  show yaq (yR8.enc a::wkR W)=some (yR8.enc a::wkR W)
  simp only[yaq,yWy W];rfl
def yTW(D:List (List yR6))(L:List yR6)(n:Nat):List (List C):=D.map em++em L::List.replicate (n-D.length-1) (em [])
def yUx(D:List (List yR6))(n:Nat):List (List C):=D.map em++List.replicate (n-D.length) (em [])
def yXS{D:List (List yR6)}{n:Nat}(h:D.length<n):yUx D n=yTW D [] n:=by
 unfold yUx yTW;rw[show n-D.length=(n-D.length-1)+1 by omega,zcX];rfl
def yXN{D:List (List yR6)}{L:List yR6}{n:Nat}:yTW D L n=yUx (D++[L]) n:=by
 unfold yUx yTW;rw[zaB,zak,zbb,zaY,Nat.sub_sub];rfl
def yXs{D:List (List yR6)}{L:List yR6}{n:Nat}(h:D.length<n):(yTW D L n).length=n:=by
 simp[yTW];omega
def yXb{D:List (List yR6)}{L:List yR6}{n k:Nat}(h:D.length=k):(yTW D L n)[k]?=some (em L):=by
 subst h;unfold yTW;rw[zau (by simp)];simp
def yXq{D:List (List yR6)}{L:List yR6}{n k:Nat}{m:yR6}(h:D.length=k):setAt (setAt (yTW D L n) k 0 C.jk) k 0 (.ow 3 (L.map yR6.enc++[m.enc]))=yTW D (L++[m]) n:=by
 have hk:=yXb (L:=L) (n:=n) h
 have e2:∀c:C,setAt (setAt (yTW D L n) k 0 C.jk) k 0 c=(yTW D L n).set k [c]:=by
  intro c;have kl:=(zaa.1 hk).1;have gl:=(zaa.1 hk).2;simp[setAt,hk,gl,kl,em]
 rw[e2];subst h;unfold yTW;rw[zbr _ _ (by simp)];simp[em,zaB]
def yXr(D:List (List yR6)):yaq (yUx D D.length)=some (D.map nD):=by
 unfold yUx;rw[zbw];simp only[List.replicate_zero,zcb];exact eF yHe D
def yVA{W:List yR8}{j:Nat}{w:yR8}{c:yR4}(h:W[j]?=some w):yaq (setAt (wkR W) j 21 (.ow 4 (w.Calls.map yR4.enc++[c.enc])))=some (wkR (yTE W j c)):=by
 have hk:=yXc h;have kl:=(zaa.1 hk).1;have gl:=(zaa.1 hk).2
 have e:setAt (wkR W) j 21 (.ow 4 (w.Calls.map yR4.enc++[c.enc]))=(wkR W).set j (w.enc.set 21 (.ow 4 (w.Calls.map yR4.enc++[c.enc]))):=by
  simp[setAt,gl,kl]
 rw[e,yBn (yWy W) (s:=({w with Calls:=w.Calls++[c]}:yR8).enc) (by simp only[yR8.enc,zdc,zbu,zaB];rfl) j];unfold yTE wkR;rw[h];simp only[zaR]
def yUP(B A:List yRT):AV:=match A with
 |[]=>.clip 2 (B.map yRT.enc)
 |t::A=>.own 102 2 (B.length+(A.length+1))
def yUQ(B A:List yRT):Obj:=match A with
 |[]=>.none
 |t::A=>.row 2 ((B++t::A).map yRT.enc)
def yXo{a b:List yRT}{y:List C}:List.take (a.length+(b.length+1)) (a.map yRT.enc++y::b.map yRT.enc)=a.map yRT.enc++y::b.map yRT.enc:=List.take_of_length_le (by simp)
def yTR(x:yRW)(c:AV):List AV:=[.c (.i x.Time),.c (.sl 3 (x.yRV.map Reach.enc)),.c (.sl 2 (x.ySl.map Way.enc)),.own 18 22 x.yRX.length,.own 23 1 x.yR3.length,c,.c (.sl 1 (x.ySd.map qC)),.c (.i x.yRZ.Base),.c (.i x.yRZ.ySe),.c (.sl 1 (x.yRZ.yR5.map qC)),.c (.sl 1 (x.yRZ.yR7.map qC)),.c (.sl 5 (x.Book.map ySb.enc)),.c (.sl 4 (x.yR1.map yR2.enc)),.c (.i x.Start),.c (.i x.In),.c (.i x.Out)]
set_option maxRecDepth 40000 in
def yXp (x:yRW) (hs:x.small):qB prg 72 [.agg (x.enc.map .c)] (.agg ((yTd x).enc.map .c)):=by
 have hW:=yis x hs;have s41:=hs.2.2.2.1.1;have s31:=hs.2.2.1.1;refine dB yW1 (eP ?_);refine yYq hW ?_;cases hok:rC x with
 |false=>
  have e:yTd x=x:=by simp[yTd,hok]
  rw[e];exact goE_
 |true=>
 have F:=yCK hok;have f1:=F.two;have f2:=F.six;have f3:=F.ways;have f4:=F.mvs;have f5:=F.wks;obtain⟨res,hres⟩:∃r,yTd x=r:=⟨_,rfl⟩;rw[hres];refine eP ?_;refine yX5 (yXC x.yRX s31) (goT_ ?_)
 refineλhlen=>⟨by omega,yXV ?_⟩
 refine eP ?_;refine yYp (yXH x.yR9) (eP ?_)
 refineλhlen2=>⟨by unfold inI;omega,λhlen3=>?_⟩
 refine qA (ι:=Nat×List yRT) (λp=>p.1<=x.yR3.length/\(ySW x p.1).2.2=x.yR9++p.2) (λp=>xC [(1,.box 1 0),(2,.box 2 0),(3,.box 3 0),(4,.c (.i ((x.yRV.length:Int)-1))),(34,.c (.sl 1 (x.yR3.map nD))),(35,.c (.i x.yR3.length)),(36,.c (.i p.1))] [(1,.box (x.enc.map .c)),(2,zW),(3,.box (yTR x (yUP x.yR9 p.2))),(18,.tr 22 0 (wkR (ySW x p.1).2.1)),(23,.tr 1 0 (yUx (ySW x p.1).1 x.yR3.length)),(102,yUQ x.yR9 p.2)]) (λp=>x.yR3.length-p.1) (0,[]) (by simp[ySW]) (by apply aB<;>simp[Obj.leO,ySW,wkR,yUx,em,yUP,yUQ,yTR]) ?_
 rintro⟨k,A⟩ ⟨hk,hA⟩
 simp only at hk hA;have T:=yTU F hs k hk;rcases zan k x.yR3.length with klt|kge
 .obtain⟨w,hw⟩:∃w,x.ySl[k]?=some w:=⟨_,zab (by omega)⟩;obtain⟨r,hr⟩:∃r,x.yRV[k]?=some r:=⟨_,zab (by omega)⟩;obtain⟨ms,hms⟩:∃ms,x.yR3[k]?=some ms:=⟨_,zab (by omega)⟩;have gw:=(zaa.1 hw).2;have gr:=(zaa.1 hr).2;have gms:=(zaa.1 hms).2;have klw:k<x.ySl.length:=by omega
  have klr:k<x.yRV.length:=by omega
  have hro:yUx (ySW x k).1 x.yR3.length=yTW (ySW x k).1 [] x.yR3.length:=yXS (by rw[T.len];exact klt);have hsm:∀m∈ms,m.small:=(hs.2.2.2.1.2 ms (zac hms)).2;have h24:=F.few k ms hms;have hA0:(yS4 x k w r (ySW x k).2 []).2.2=x.yR9++A:=hA;refine yaff hms gms klt (fC klt) hro ?_;intro hlen4;refine qA (ι:=Nat×List yRT) (λp=>p.1<=ms.length/\(yS4 x k w r (ySW x k).2 (ms.take p.1)).2.2=x.yR9++p.2) (λp=>xC [(1,.box 1 0),(2,.box 2 0),(3,.box 3 0),(4,.c (.i ((x.yRV.length:Int)-1))),(34,.c (.sl 1 (x.yR3.map nD))),(35,.c (.i x.yR3.length)),(36,.c (.i k)),(5,.c (.i k)),(41,.c (.sl 3 (ms.map yR6.enc))),(42,.c (.i ms.length)),(43,.c (.i p.1))] [(1,.box (x.enc.map .c)),(2,zW),(3,.box (yTR x (yUP x.yR9 p.2))),(18,.tr 22 0 (wkR (yS4 x k w r (ySW x k).2 (ms.take p.1)).2.1)),(23,.tr 1 0 (yTW (ySW x k).1 (yS4 x k w r (ySW x k).2 (ms.take p.1)).1 x.yR3.length)),(102,yUQ x.yR9 p.2)]) (λp=>ms.length-p.1) (0,A) (by simpa using hA0) (by rcases A with _|⟨t0,A⟩<;>apply aB<;>simp[Obj.leO,yS4,yUP,yUQ,yTR]) ?_
  rintro⟨i,A2⟩ ⟨hi,hA2⟩
  simp only at hi hA2;obtain⟨LS,LL⟩:=yU8 (w:=w) (r:=r) hs T (ms:=ms.take i) (λm h=>hsm m (zav h));obtain⟨q,hq⟩:∃q,yS4 x k w r (ySW x k).2 (ms.take i)=q:=⟨_,rfl⟩;rw[hq]at LS LL hA2;have hrl:=yXs (D:=(ySW x k).1) (L:=q.1) (n:=x.yR3.length) (by rw[T.len];exact klt);have hge:=yXb (L:=q.1) (n:=x.yR3.length) T.len;have gge:=(zaa.1 hge).2;rcases yX1 i ms with⟨ilt,m,hm⟩|ige
  .have gm:=(zaa.1 hm).2;have hsuc:=yUW (x:=x) (k:=k) (w:=w) (r:=r) (s:=(ySW x k).2) hm;have hcall:=yXR m w r (hsm m (zac hm));have hsm':(yS7 m w r).small:=yT8 (hsm m (zac hm));obtain⟨m',hm'⟩:∃m',yS7 m w r=m':=⟨_,rfl⟩;rw[hm']at hsuc hcall hsm';rw[hq]at hsuc;have hat:=yXh m' w hsm';have hput:=yXq (L:=q.1) (n:=x.yR3.length) (m:=m') T.len;simp only[yR6.enc]at hput;have htk:List.take (q.1.length+1) (q.1.map yR6.enc++[[.b m'.yRT.Up,.sl 1 (m'.yRT.Rows.map jE),.i m'.Place]])=q.1.map yR6.enc++[[.b m'.yRT.Up,.sl 1 (m'.yRT.Rows.map jE),.i m'.Place]]:=List.take_of_length_le (by simp)
   have hal:q.2.2.length<=2000:=by
    have e1:=LS.arr.1;have e2:(ms.take i).length<=24:=by simp;omega
    omega
   rw[hA2]at hal;simp only[zak]at hal;have hl1:q.1.length<=24:=zaX LS.rest.1 (by simp;omega);rcases A2 with _|⟨t0,A2⟩
   all_goals
    try simp only[zaJ]at hal
    simp -dsimp -implicitDefEqProofs [hm,gm,ilt,fC ilt,hw,gw,hr,gr,klt,klw,klr,hq,yTR,yUP,yUQ];refine yYo hcall (yaeT hw gw klw ?_);refine yYs hat ?_;cases hae:AtEnd m' w with
    |false=>
     have hs1:yS3 x k w q m'=(q.1++[m'],q.2):=by simp[yS3,hae]
     rw[hs1]at hsuc;simp -dsimp -implicitDefEqProofs [hge,gge,hrl,klt,em,hput,hq,yTR,yUP,yUQ];refine⟨by omega,by simp[setAt,hrl,klt],gB ilt hlen4,i+1,_,⟨ilt,by rw[hsuc];exact hA2⟩,by omega,?_⟩;apply aB<;>simp[Obj.leO,hsuc,htk,hput,hq,hrl]
    | true=>
     cases hu:m'.yRT.Up with
     | true=>
      by_cases k0:k=0
      .have hs1:yS3 x k w q m'=(q.1,q.2.1,q.2.2++[m'.yRT]):=by simp[yS3,hae,yTh,hu,k0]
       have z1:((k:Int)=0)=True:=by simp[k0]
       have z2:(k=0)=True:=by simp[k0]
       rw[hs1]at hsuc;simp -dsimp -implicitDefEqProofs [hu,z1,z2,hq,yTR,yUP,yUQ]
       first
        |(have hA3:q.2.2=x.yR9++[]:=hA2;refine⟨by omega,gB ilt hlen4,i+1,[m'.yRT],⟨ilt,by rw[hsuc];simp[hA3]⟩,by omega,?_⟩)
        |(have hA3:q.2.2=x.yR9++t0::A2:=hA2;refine⟨by omega,gB ilt hlen4,i+1,t0::(A2++[m'.yRT]),⟨ilt,by rw[hsuc];simp[hA3]⟩,by omega,?_⟩)
       apply aB<;>simp[Obj.leO,hsuc,hq,hrl,hu,zdE]
      .obtain⟨j,hj⟩:∃j,j=k-1:=⟨_,rfl⟩;have z1:((k:Int)=0)=False:=by simp;omega
       have z2:(k=0)=False:=by simp[k0]
       have ej:((k:Int)-1)=(j:Int):=by omega
       have hlj:yT7 k m'.yRT=j:=by simp[yT7,hu,hj]
       have hle:yTh x k m'.yRT=false:=by simp[yTh,hu,k0]
       obtain⟨wj,hwj⟩:∃wj,q.2.1[j]?=some wj:=⟨_,zab (by omega)⟩;have aw:=yXc hwj;simp only[yR8.enc]at aw;have gaw:=(zaa.1 aw).2;have jlt:j<x.yRX.length:=by omega
       have hcs:=(LS.works.2 wj (zac hwj)).2.2.1;have hgs:=@yVA q.2.1 j wj ⟨m'.yRT,x.Time,-1⟩ hwj;simp only[yR4.enc,hu]at hgs;have htk2:List.take (wj.Calls.length+1) (wj.Calls.map yR4.enc++[[.b true,.sl 1 (m'.yRT.Rows.map jE),.i x.Time,.i (-1)]])=wj.Calls.map yR4.enc++[[.b true,.sl 1 (m'.yRT.Rows.map jE),.i x.Time,.i (-1)]]:=List.take_of_length_le (by simp);have hput2:=hput;have htk3:=htk;simp only[hu]at hput2 htk3
       by_cases hroom:24<=wj.Calls.length
       .have z3:((24:Int)<=(wj.Calls.length:Int))=True:=by simp;omega
        have hs1:yS3 x k w q m'=(q.1++[m'],q.2):=by simp[yS3,hae,hle,hlj,noRoom,hwj,hroom]
        rw[hs1]at hsuc;simp -dsimp -implicitDefEqProofs [hu,z1,z2,z3,hq,yTR,yUP,yUQ,ej,aw,gaw,yUo,LL,jlt,hge,gge,hrl,klt,em];refine⟨by unfold inI;omega,λhlc=>⟨by omega,by simp[setAt,hrl,klt],gB ilt hlen4,i+1,_,⟨ilt,by rw[hsuc];exact hA2⟩,by omega,?_⟩⟩;apply aB<;>simp[Obj.leO,hsuc,htk3,hput2,hq,hrl]
       .have z3:((24:Int)<=(wj.Calls.length:Int))=False:=by simp;omega
        have hs1:yS3 x k w q m'=(q.1,yTE q.2.1 j ⟨m'.yRT,x.Time,-1⟩,q.2.2):=by simp[yS3,hae,hle,hlj,noRoom,hwj,hroom]
        rw[hs1]at hsuc;simp -dsimp -implicitDefEqProofs [hu,z1,z2,z3,hq,yTR,yUP,yUQ,ej,aw,gaw,yUo,LL,jlt];refine⟨by unfold inI;omega,λhlc=>?_⟩;refine yYo (yWR wj.Calls) ?_;simp -dsimp -implicitDefEqProofs [hq,aw,gaw,yUo,LL,jlt,ej];refine⟨by omega,gB ilt hlen4,i+1,_,⟨ilt,by rw[hsuc];exact hA2⟩,by omega,?_⟩;refine yVb 18 (k:=22) (v:=1) (by simp[htk2]) hgs ?_;apply aB<;>simp[Obj.leO,hsuc,hq,hrl,yTR,yUP,yUQ]
     | false=>
      by_cases k0:k+1=x.yRV.length
      .have hs1:yS3 x k w q m'=(q.1,q.2.1,q.2.2++[m'.yRT]):=by simp[yS3,hae,yTh,hu,k0]
       have z1:((k:Int)=(x.yRV.length:Int)-1)=True:=by simp;omega
       have z2:(k+1=x.yRV.length)=True:=by simp[k0]
       rw[hs1]at hsuc;simp -dsimp -implicitDefEqProofs [hu,z1,z2,hq,yTR,yUP,yUQ]
       first
        |(have hA3:q.2.2=x.yR9++[]:=hA2;refine⟨by omega,gB ilt hlen4,i+1,[m'.yRT],⟨ilt,by rw[hsuc];simp[hA3]⟩,by omega,?_⟩)
        |(have hA3:q.2.2=x.yR9++t0::A2:=hA2;refine⟨by omega,gB ilt hlen4,i+1,t0::(A2++[m'.yRT]),⟨ilt,by rw[hsuc];simp[hA3]⟩,by omega,?_⟩)
       apply aB<;>simp[Obj.leO,hsuc,hq,hrl,hu,zdE]
      .have z1:((k:Int)=(x.yRV.length:Int)-1)=False:=by simp;omega
       have z2:(k+1=x.yRV.length)=False:=by simp[k0]
       have hlj:yT7 k m'.yRT=k:=by simp[yT7,hu]
       have hle:yTh x k m'.yRT=false:=by simp[yTh,hu,k0]
       obtain⟨wj,hwj⟩:∃wj,q.2.1[k]?=some wj:=⟨_,zab (by omega)⟩;have aw:=yXc hwj;simp only[yR8.enc]at aw;have gaw:=(zaa.1 aw).2;have jlt:k<x.yRX.length:=by omega
       have hcs:=(LS.works.2 wj (zac hwj)).2.2.1;have hgs:=@yVA q.2.1 k wj ⟨m'.yRT,x.Time,-1⟩ hwj;simp only[yR4.enc,hu]at hgs;have htk2:List.take (wj.Calls.length+1) (wj.Calls.map yR4.enc++[[.b false,.sl 1 (m'.yRT.Rows.map jE),.i x.Time,.i (-1)]])=wj.Calls.map yR4.enc++[[.b false,.sl 1 (m'.yRT.Rows.map jE),.i x.Time,.i (-1)]]:=List.take_of_length_le (by simp);have hput2:=hput;have htk3:=htk;simp only[hu]at hput2 htk3
       by_cases hroom:24<=wj.Calls.length
       .have z3:((24:Int)<=(wj.Calls.length:Int))=True:=by simp;omega
        have hs1:yS3 x k w q m'=(q.1++[m'],q.2):=by simp[yS3,hae,hle,hlj,noRoom,hwj,hroom]
        rw[hs1]at hsuc;simp -dsimp -implicitDefEqProofs [hu,z1,z2,z3,hq,yTR,yUP,yUQ,aw,gaw,yUo,LL,jlt,hge,gge,hrl,klt,em]
        refineλhlc=>⟨by omega,by simp[setAt,hrl,klt],gB ilt hlen4,i+1,_,⟨ilt,by rw[hsuc];exact hA2⟩,by omega,?_⟩
        apply aB<;>simp[Obj.leO,hsuc,htk3,hput2,hq,hrl]
       .have z3:((24:Int)<=(wj.Calls.length:Int))=False:=by simp;omega
        have hs1:yS3 x k w q m'=(q.1,yTE q.2.1 k ⟨m'.yRT,x.Time,-1⟩,q.2.2):=by simp[yS3,hae,hle,hlj,noRoom,hwj,hroom]
        rw[hs1]at hsuc;simp -dsimp -implicitDefEqProofs [hu,z1,z2,z3,hq,yTR,yUP,yUQ,aw,gaw,yUo,LL,jlt];intro hlc;refine yYo (yWR wj.Calls) ?_;simp -dsimp -implicitDefEqProofs [hq,aw,gaw,yUo,LL,jlt];refine⟨by omega,gB ilt hlen4,i+1,_,⟨ilt,by rw[hsuc];exact hA2⟩,by omega,?_⟩;refine yVb 18 (k:=22) (v:=1) (by simp[htk2]) hgs ?_;apply aB<;>simp[Obj.leO,hsuc,hq,hrl,yTR,yUP,yUQ]
  .have hts:=yUD hw hr hms;rw[List.take_of_length_le ige]at hq;rw[hq]at hts;refine yaeT (aG ige) hq (List.take_of_length_le ige) ?_;refine⟨gB klt hlen3,k+1,A2,⟨klt,by rw[hts];exact hA2⟩,by omega,?_⟩;rcases A2 with _|⟨t0,A2⟩<;>apply aB<;>simp[Obj.leO,hts,yXN,hq,List.take_of_length_le ige,yTR,yUP,yUQ]
 .obtain rfl:k=x.yR3.length:=by omega
  have hes:=yUr F hs;have hV:=yis (yTL x) hes;rw[yVX,hA]at hV;have htw:List.take x.yRX.length (wkR (ySW x x.yR3.length).2.1)=wkR (ySW x x.yR3.length).2.1:=List.take_of_length_le (by rw[yUo,T.yXM];omega);have hsw:=yWy (ySW x x.yR3.length).2.1;have hsr:=yXr (ySW x x.yR3.length).1;rw[T.len]at hsr;have htr:List.take x.yR3.length (yUx (ySW x x.yR3.length).1 x.yR3.length)=yUx (ySW x x.yR3.length).1 x.yR3.length:=List.take_of_length_le (by simp[yUx];have:=T.len;omega);have hwk:(ySW x x.yR3.length).2.1.map yR8.enc=wkR (ySW x x.yR3.length).2.1:=rfl;rw[hwk]at hV;rcases A with _|⟨t0,A⟩
  all_goals
   simp -dsimp -implicitDefEqProofs [aG kge,yTR,yUP,yUQ];refine mD (hV) (by simp -dsimp -implicitDefEqProofs [jA,htw,hsw,hsr,htr,yXo]) rfl ?_;cases hv:rC (yTL x)with
   |false=>
    have e:res=x:=by rw[<-hres];simp[yTd,hv]
    rw[e];exact goE_
   |true=>
    have e:res=yTL x:=by rw[<-hres];simp[yTd,hok,hv]
    rw[e];simp -dsimp -implicitDefEqProofs [yTL,hA,hwk,htw,hsw,hsr,htr,yXo,jA]
def yTH(x:yRW)(W mr:List (List C))(A:List yRT):List C:=[.i x.Time,.ow 3 (x.yRV.map Reach.enc),.ow 2 (x.ySl.map Way.enc),.ot 22 W,.ot 1 mr,.ow 2 (A.map yRT.enc),.ow 1 (x.ySd.map qC),.i x.yRZ.Base,.i x.yRZ.ySe,.ow 1 (x.yRZ.yR5.map qC),.ow 1 (x.yRZ.yR7.map qC),.ow 5 (x.Book.map ySb.enc),.ow 4 (x.yR1.map yR2.enc),.i x.Start,.i x.In,.i x.Out]
def wkE(W:List yR8):List (List C):=W.map wE
def yTi{W:List yR8}:(wkE W).length=W.length:=by simp[wkE]
def yXd{W:List yR8}{k:Nat}{w:yR8}(h:W[k]?=some w):(wkE W)[k]?=some (wE w):=by unfold wkE;rw[zaw,h];rfl
def yXL(W:List yR8):yaq (wkE W)=some (W.map yR8.enc):=eF yK7 W
def yXm{W:List yR8}{j:Nat}{w:yR8}{c:yR4}(h:W[j]?=some w):setAt (setAt (wkE W) j 21 C.jk) j 21 (.ow 4 (w.Calls.map yR4.enc++[c.enc]))=wkE (yTE W j c):=by
 have hk:=yXd h;have kl:=(zaa.1 hk).1;have gl:=(zaa.1 hk).2
 have e:setAt (setAt (wkE W) j 21 C.jk) j 21 (.ow 4 (w.Calls.map yR4.enc++[c.enc]))=(wkE W).set j (wE ({w with Calls:=w.Calls++[c]}:yR8)):=by
  simp[setAt,gl,kl,wE,hk]
 rw[e];unfold yTE wkE;rw[h];simp only[zaR]
def yUu(x:yRW)(k:Nat)(t:yRT)(W:List yR8):List yR8:=if yTh x k t then W else if noRoom W (yT7 k t)then W else yTE W (yT7 k t) ⟨t,x.Time,-1⟩
def yU0(x:yRW)(k:Nat)(t:yRT)(A:List yRT):List yRT:=if yTh x k t then A++[t]else A
def yU3(x:yRW)(k:Nat)(t:yRT)(W:List yR8):Bool:=yTh x k t|| !noRoom W (yT7 k t)
def yTy(x:yRW)(w m a:Nat):List AV:=[.c (.i x.Time),.own 20000 3 x.yRV.length,.own 30000 2 x.ySl.length,.own 40000 22 w,.own 50000 1 m,.own 60000 2 a,.own 70000 1 x.ySd.length,.c (.i x.yRZ.Base),.c (.i x.yRZ.ySe),.own 100000 1 x.yRZ.yR5.length,.own 110000 1 x.yRZ.yR7.length,.own 120000 5 x.Book.length,.own 130000 4 x.yR1.length,.c (.i x.Start),.c (.i x.In),.c (.i x.Out)]
set_option maxRecDepth 20000 in
def yXt(x:yRW)(hF:ySM x)(k:Nat)(t:yRT)(W:List yR8)(mr:List (List C))(A:List yRT)(hk:k<x.yRV.length)(hWl:W.length=x.yRX.length)(hW:ycw W)(hA:A.length<=1000000):
 InF prg 191 (.c (.bx (yTH x (wkE W) mr A))) (.c (.bx (yTH x (wkE (yUu x k t W)) mr (yU0 x k t A)))) [.c (.i k),.agg (t.enc.map .c)] (.c (.b (yU3 x k t W))):=by
 have htw:List.take W.length (wkE W)=wkE W:=List.take_of_length_le (by rw[yTi];omega);have hta:List.take A.length (A.map yRT.enc)=A.map yRT.enc:=List.take_of_length_le (by simp);have f1:=hF.two;have f2:=hF.six;have f3:=hF.wks;refine ycN yV4 (by simp) (by simp[yTH]) rfl λhwf=>?_;cases hu:t.Up with
 | true=>
  by_cases k0:k=0
  .have z1:((k:Int)=0)=True:=by simp[k0]
   have z2:(k=0)=True:=by simp[k0]
   have hle:yTh x k t=true:=by simp[yTh,hu,k0]
   simp only[yUu,yU0,yU3,hle,if_true,Bool.true_or];simp -dsimp -implicitDefEqProofs [yTj,yTH,hu,z1,z2];refine⟨by omega,by simp -dsimp -implicitDefEqProofs,⟨yTy x (wkE W).length mr.length (A.length+1),[20000,30000,40000,50000,60000,70000,100000,110000,120000,130000],by simp -dsimp -implicitDefEqProofs [yTy],?_,by decide⟩,by simp -dsimp -implicitDefEqProofs⟩;simp -dsimp -implicitDefEqProofs [yTy,jA];exact List.take_of_length_le (by simp)
  .have z1:((k:Int)=0)=False:=by simp;omega
   have z2:(k=0)=False:=by simp[k0]
   have hle:yTh x k t=false:=by simp[yTh,hu,k0]
   obtain⟨j,hj⟩:∃j,j=k-1:=⟨_,rfl⟩;have ej:((k:Int)-1)=(j:Int):=by omega
   have hlj:yT7 k t=j:=by simp[yT7,hu,hj]
   obtain⟨wj,hwj⟩:∃wj,W[j]?=some wj:=⟨_,zab (by omega)⟩;have aw:=yXd hwj;simp only[wE]at aw;have gaw:=(zaa.1 aw).2;have jlt:j<x.yRX.length:=by omega
   have hcs:=(hW.2 wj (zac hwj)).2.2.1
   by_cases hroom:24<=wj.Calls.length
   .have z3:((24:Int)<=(wj.Calls.length:Int))=True:=by simp;omega
    have hnr:noRoom W j=true:=by simp[noRoom,hwj,hroom]
    simp only[yUu,yU0,yU3,hle,hlj,hnr,if_true,zbi,if_false,zdm,zcT];simp -dsimp -implicitDefEqProofs [yTj,yTH,hu,z1,z2,z3,aw,gaw,yTi,hWl,jlt,ej];refine⟨by unfold inI;omega,λ_=>⟨by simp -dsimp -implicitDefEqProofs,⟨yTy x W.length mr.length A.length,[20000,30000,40000,50000,60000,70000,100000,110000,120000,130000],by simp -dsimp -implicitDefEqProofs [yTy,hWl,yTi],?_,by decide⟩,by simp -dsimp -implicitDefEqProofs⟩⟩;simp -dsimp -implicitDefEqProofs [yTy,jA,htw,hta]
   .have z3:((24:Int)<=(wj.Calls.length:Int))=False:=by simp;omega
    have hnr:noRoom W j=false:=by simp[noRoom,hwj,hroom]
    have htk:List.take (wj.Calls.length+1) (wj.Calls.map yR4.enc++[[.b true,.sl 1 (t.Rows.map jE),.i x.Time,.i (-1)]])=wj.Calls.map yR4.enc++[[.b true,.sl 1 (t.Rows.map jE),.i x.Time,.i (-1)]]:=List.take_of_length_le (by simp);simp only[yUu,yU0,yU3,hle,hlj,hnr,zbi,if_false,zdf,Bool.or_true];simp -dsimp -implicitDefEqProofs [yTj,yTH,hu,z1,z2,z3,aw,gaw,yTi,hWl,jlt,ej];have hput:=@yXm W j wj ⟨t,x.Time,-1⟩ hwj;simp only[yR4.enc,hu]at hput;refine⟨by unfold inI;omega,λ_=>⟨by omega,by simp[setAt,yTi,hWl,jlt],by simp -dsimp -implicitDefEqProofs,⟨yTy x W.length mr.length A.length,[20000,30000,40000,50000,60000,70000,100000,110000,120000,130000],by simp -dsimp -implicitDefEqProofs [yTy,hWl,yTi],?_,by decide⟩,by simp -dsimp -implicitDefEqProofs⟩⟩;simp -dsimp -implicitDefEqProofs [yTy,jA,htk,hput,hta];exact List.take_of_length_le (by rw[yTi,yTN];omega)
 | false=>
  by_cases k0:k+1=x.yRV.length
  .have z1:((k:Int)=(x.yRV.length:Int)-1)=True:=by simp;omega
   have z2:(k+1=x.yRV.length)=True:=by simp[k0]
   have hle:yTh x k t=true:=by simp[yTh,hu,k0]
   simp only[yUu,yU0,yU3,hle,if_true,Bool.true_or];simp -dsimp -implicitDefEqProofs [yTj,yTH,hu,z1,z2]
   refineλ_=>⟨by unfold inI;omega,by omega,by simp -dsimp -implicitDefEqProofs,⟨yTy x (wkE W).length mr.length (A.length+1),[20000,30000,40000,50000,60000,70000,100000,110000,120000,130000],by simp -dsimp -implicitDefEqProofs [yTy],?_,by decide⟩,by simp -dsimp -implicitDefEqProofs⟩
   simp -dsimp -implicitDefEqProofs [yTy,jA];exact List.take_of_length_le (by simp)
  .have z1:((k:Int)=(x.yRV.length:Int)-1)=False:=by simp;omega
   have z2:(k+1=x.yRV.length)=False:=by simp[k0]
   have hle:yTh x k t=false:=by simp[yTh,hu,k0]
   have hlj:yT7 k t=k:=by simp[yT7,hu]
   obtain⟨wj,hwj⟩:∃wj,W[k]?=some wj:=⟨_,zab (by omega)⟩;have aw:=yXd hwj;simp only[wE]at aw;have gaw:=(zaa.1 aw).2;have jlt:k<x.yRX.length:=by omega
   have hcs:=(hW.2 wj (zac hwj)).2.2.1
   by_cases hroom:24<=wj.Calls.length
   .have z3:((24:Int)<=(wj.Calls.length:Int))=True:=by simp;omega
    have hnr:noRoom W k=true:=by simp[noRoom,hwj,hroom]
    simp only[yUu,yU0,yU3,hle,hlj,hnr,if_true,zbi,if_false,zdm,zcT];simp -dsimp -implicitDefEqProofs [yTj,yTH,hu,z1,z2,z3,aw,gaw,yTi,hWl,jlt]
    refineλ_=>⟨by unfold inI;omega,λ_=>⟨by simp -dsimp -implicitDefEqProofs,⟨yTy x W.length mr.length A.length,[20000,30000,40000,50000,60000,70000,100000,110000,120000,130000],by simp -dsimp -implicitDefEqProofs [yTy,hWl,yTi],?_,by decide⟩,by simp -dsimp -implicitDefEqProofs⟩⟩
    simp -dsimp -implicitDefEqProofs [yTy,jA,htw,hta]
   .have z3:((24:Int)<=(wj.Calls.length:Int))=False:=by simp;omega
    have hnr:noRoom W k=false:=by simp[noRoom,hwj,hroom]
    have htk:List.take (wj.Calls.length+1) (wj.Calls.map yR4.enc++[[.b false,.sl 1 (t.Rows.map jE),.i x.Time,.i (-1)]])=wj.Calls.map yR4.enc++[[.b false,.sl 1 (t.Rows.map jE),.i x.Time,.i (-1)]]:=List.take_of_length_le (by simp);simp only[yUu,yU0,yU3,hle,hlj,hnr,zbi,if_false,zdf,Bool.or_true];simp -dsimp -implicitDefEqProofs [yTj,yTH,hu,z1,z2,z3,aw,gaw,yTi,hWl,jlt];have hput:=@yXm W k wj ⟨t,x.Time,-1⟩ hwj;simp only[yR4.enc,hu]at hput
    refineλ_=>⟨by unfold inI;omega,λ_=>⟨by omega,by simp[setAt,yTi,hWl,jlt],by simp -dsimp -implicitDefEqProofs,⟨yTy x W.length mr.length A.length,[20000,30000,40000,50000,60000,70000,100000,110000,120000,130000],by simp -dsimp -implicitDefEqProofs [yTy,hWl,yTi],?_,by decide⟩,by simp -dsimp -implicitDefEqProofs⟩⟩
    simp -dsimp -implicitDefEqProofs [yTy,jA,htk,hput,hta];exact List.take_of_length_le (by rw[yTi,yTN];omega)
def yWE(m:yR6)(w:Way)(r:Reach)(hm:m.small):qB prg 189 [.agg (m.enc.map .c),.agg (w.enc.map .c),.agg (r.enc.map .c)] (.agg ((yS7 m w r).enc.map .c)):=by
 refine dB yV8 (eP ?_);refine dD (yFb m hm) (eP ?_);refine aA (yof m w hm) ?_;cases h1:xN m w with
 |false=>simp -dsimp -implicitDefEqProofs;simp[yS7,h1]
 | true=>
  refine eP ?_;refine aA (qN r) ?_;cases h2:xE r with
  |false=>simp -dsimp -implicitDefEqProofs;simp[yS7,h2]
  | true=>
   refine eP ?_;refine lC (yWC w r) (eP ?_);refine lC (yWW m.yRT (yTp w r) hm) ?_;have hp:=yV0 m.yRT (yTp w r);have hf:=yVE h1;cases hu:m.yRT.Up with
   |true=>
    refine eU hu ?_;refine⟨by unfold inI;omega,?_⟩;simp[yS7,h1,h2,yUF,hu]
   |false=>
    refine eU hu ?_;refine⟨by unfold inI;omega,?_⟩;simp[yS7,h1,h2,yUF,hu]
def yTB(D M:List (List yR6)):List (List C):=(D++M).map nD
def yWQ{D M:List (List yR6)}{k:Nat}{l:List yR6}(hd:D.length=k)(h:M[0]?=some l):(yTB D M)[k]?=some [.sl 3 (l.map yR6.enc)]:=by
 subst hd;unfold yTB;rw[zaw,zau (Nat.le_refl _),zbw,h];rfl
def yWu(D M:List (List yR6)):yaq (yTB D M)=some (yTB D M):=ysh (D++M)
def yXu{D M:List (List yR6)}{k:Nat}{l L:List yR6}(hd:D.length=k)(h:M[0]?=some l):yaq (setAt (yTB D M) k 0 (.ow 3 (L.map yR6.enc)))=some (yTB (D++[L]) (M.drop 1)):=by
 have hk:=yWQ hd h;have kl:=(zaa.1 hk).1;have gl:=(zaa.1 hk).2;have e:setAt (yTB D M) k 0 (.ow 3 (L.map yR6.enc))=(yTB D M).set k [.ow 3 (L.map yR6.enc)]:=by simp[setAt,gl,kl,hk]
 rw[e,yBn (yWu D M) (s:=nD L) rfl k];subst hd;cases M with
 |nil=>cases h
 |cons a M=>
  unfold yTB;simp[zaB,zbr]
def yWF{x:yRW}{k:Nat}{w:Way}{q:yVr}{m:yR6}(h:AtEnd m w=true):yS3 x k w q m=(if yU3 x k m.yRT q.2.1 then q.1 else q.1++[m],yUu x k m.yRT q.2.1,yU0 x k m.yRT q.2.2):=by
 unfold yS3 yU3 yUu yU0;rw[if_pos h];cases yTh x k m.yRT with
 |true=>simp
 |false=>
  cases noRoom q.2.1 (yT7 k m.yRT)with
  |true=>simp
  |false=>simp
def xsS(x:yRW)(a:Nat):List AV:=[.c (.i x.Time),.own 20009 3 x.yRV.length,.own 30009 2 x.ySl.length,.own 40009 22 x.yRX.length,.own 50009 1 x.yR3.length,.own 60009 2 a,.own 70009 1 x.ySd.length,.c (.i x.yRZ.Base),.c (.i x.yRZ.ySe),.own 100009 1 x.yRZ.yR5.length,.own 110009 1 x.yRZ.yR7.length,.own 120009 5 x.Book.length,.own 130009 4 x.yR1.length,.c (.i x.Start),.c (.i x.In),.c (.i x.Out)]
set_option maxRecDepth 40000 in
def yWM(x:yRW)(hs:x.small):qB prg 76 [.agg (x.enc.map .c)] (.agg ((yTd x).enc.map .c)):=by
 have hco:=yEs x hs;simp only[yRW.yIh]at hco;have hW:=yc1 x hs;refine dB yVS (eP ?_);refine qU hco (by simp) rfl (by simp[fD,em]) (goT_ ?_);refine yYq hW ?_;cases hok:rC x with
 |false=>
  have e:yTd x=x:=by simp[yTd,hok]
  rw[e];simp -dsimp -implicitDefEqProofs [jA,eF yHe,eF yK7]
 |true=>
 have F:=yCK hok;have f1:=F.two;have f2:=F.six;have f3:=F.ways;have f4:=F.mvs;have f5:=F.wks;obtain⟨res,hres⟩:∃r,yTd x=r:=⟨_,rfl⟩;rw[hres];refine eP ?_;have hro0:yTB [] x.yR3=x.yR3.map nD:=by simp[yTB]
 refine qA (ι:=Nat) (λk=>k<=x.yR3.length) (λk=>xC [(1,.box 1 0),(2,.box 2 0),(3,.box 3 0),(4,.c (.i k))] [(1,.box (x.enc.map .c)),(2,zW),(3,.box (xsS x ((ySW x k).2.2).length)),(20009,.row 3 (x.yRV.map Reach.enc)),(30009,.row 2 (x.ySl.map Way.enc)),(40009,.tr 22 0 (wkE (ySW x k).2.1)),(50009,.tr 1 0 (yTB (ySW x k).1 (x.yR3.drop k))),(60009,.row 2 (((ySW x k).2.2).map yRT.enc)),(70009,.row 1 (x.ySd.map qC)),(100009,.row 1 (x.yRZ.yR5.map qC)),(110009,.row 1 (x.yRZ.yR7.map qC)),(120009,.row 5 (x.Book.map ySb.enc)),(130009,.row 4 (x.yR1.map yR2.enc))]) (λk=>x.yR3.length-k) 0 (by simp) (by refine yVb 50009 (k:=1) (v:=0) (rows:=x.yR3.map em) (by simp) (eF yHe x.yR3) ?_;apply aB<;>simp[Obj.leO,ySW,wkE,hro0,xsS]) ?_
 rintro k hk
 have T:=yTU F hs k hk;have hls:(yTB (ySW x k).1 (x.yR3.drop k)).length=x.yR3.length:=by simp[yTB,T.len];omega
 rcases zan k x.yR3.length with klt|kge
 .obtain⟨w,hw⟩:∃w,x.ySl[k]?=some w:=⟨_,zab (by omega)⟩;obtain⟨r,hr⟩:∃r,x.yRV[k]?=some r:=⟨_,zab (by omega)⟩;obtain⟨ms,hms⟩:∃ms,x.yR3[k]?=some ms:=⟨_,zab (by omega)⟩;have gw:=(zaa.1 hw).2;have gr:=(zaa.1 hr).2;have klw:k<x.ySl.length:=by omega
  have klr:k<x.yRV.length:=by omega
  have hm0:(x.yR3.drop k)[0]?=some ms:=by rw[zbg];simpa using hms
  have hmr:=yWQ T.len hm0;have gmr:=(zaa.1 hmr).2;have hsm:∀m∈ms,m.small:=(hs.2.2.2.1.2 ms (zac hms)).2;have h24:=F.few k ms hms;have hll:ms.length<=maxLen:=by unfold maxLen;omega
  simp -dsimp -implicitDefEqProofs [fC klt,xsS];intro hlen;refine yX2 (λi=>i<=ms.length) (λi=>xC [(1,.box 1 0),(2,.box 2 0),(3,.box 3 0),(4,.c (.i k)),(5,.own 21 3 (yS4 x k w r (ySW x k).2 (ms.take i)).1.length),(6,.c (.i i))] [(1,.box (x.enc.map .c)),(2,zW),(3,.box (xsS x ((yS4 x k w r (ySW x k).2 (ms.take i)).2.2).length)),(20009,.row 3 (x.yRV.map Reach.enc)),(30009,.row 2 (x.ySl.map Way.enc)),(40009,.tr 22 0 (wkE (yS4 x k w r (ySW x k).2 (ms.take i)).2.1)),(50009,.tr 1 0 (yTB (ySW x k).1 (x.yR3.drop k))),(60009,.row 2 (((yS4 x k w r (ySW x k).2 (ms.take i)).2.2).map yRT.enc)),(70009,.row 1 (x.ySd.map qC)),(100009,.row 1 (x.yRZ.yR5.map qC)),(110009,.row 1 (x.yRZ.yR7.map qC)),(120009,.row 5 (x.Book.map ySb.enc)),(130009,.row 4 (x.yR1.map yR2.enc)),(21,.row 3 ((yS4 x k w r (ySW x k).2 (ms.take i)).1.map yR6.enc))]) (λi=>ms.length-i) (by apply aB<;>simp[Obj.leO,yS4,xsS]) ?_
  rintro i hi
  obtain⟨LS,LL⟩:=yU8 (w:=w) (r:=r) hs T (ms:=ms.take i) (λm h=>hsm m (zav h));obtain⟨q,hq⟩:∃q,yS4 x k w r (ySW x k).2 (ms.take i)=q:=⟨_,rfl⟩;rw[hq]at LS LL
  have hal:q.2.2.length<=2000:=by
   have e1:=LS.arr.1;have e2:(ms.take i).length<=24:=by simp;omega
   omega
  have hl1:q.1.length<=24:=zaX LS.rest.1 (by simp;omega);rcases yX1 i ms with⟨ilt,m,hm⟩|ige
  .have gm:=(zaa.1 hm).2;have hsuc:=yUW (x:=x) (k:=k) (w:=w) (r:=r) (s:=(ySW x k).2) hm;have hcall:=yWE m w r (hsm m (zac hm));have hsm':(yS7 m w r).small:=yT8 (hsm m (zac hm));obtain⟨m',hm'⟩:∃m',yS7 m w r=m':=⟨_,rfl⟩;rw[hm']at hsuc hcall hsm';rw[hq]at hsuc;have hat:=yXf m' w hsm';have htw2:List.take x.yRX.length (wkE q.2.1)=wkE q.2.1:=List.take_of_length_le (by rw[yTi];omega);have htm:List.take x.yR3.length (yTB (ySW x k).1 (x.yR3.drop k))=yTB (ySW x k).1 (x.yR3.drop k):=List.take_of_length_le (by rw[hls];exact Nat.le_refl _);simp -dsimp -implicitDefEqProofs [hq,hmr,gmr,hls,klt,fC ilt,hm,gm,ilt,hw,gw,hr,gr,klw,klr,xsS];intro hlen2;refine yYo hcall ?_;simp -dsimp -implicitDefEqProofs [hw,gw,klw,hls,klt,xsS,hq];refine yYr hat ?_;cases hae:AtEnd m' w with
   |false=>
    have hs1:yS3 x k w q m'=(q.1++[m'],q.2):=by simp[yS3,hae]
    rw[hs1]at hsuc;refine eP ?_;refine yha (by simp -dsimp -implicitDefEqProofs) ?_;simp -dsimp -implicitDefEqProofs [xsS,hq];refine⟨by omega,gB ilt hlen2,i+1,ilt,by omega,?_⟩;apply aB<;>simp[Obj.leO,hsuc,hq,xsS]
   | true=>
    have hs1:=yWF (x:=x) (k:=k) (q:=q) hae;rw[hs1]at hsuc;refine eP ?_;refine ynX (by simp -dsimp -implicitDefEqProofs) (λK2 hK2=>yfT 9 (xs:=xsS x q.2.2.length) (ids:=[20009,30009,40009,50009,60009,70009,100009,110009,120009,130009]) (yXt x F k m'.yRT q.2.1 (yTB (ySW x k).1 (x.yR3.drop k)) q.2.2 klr LL LS.works (by omega)) (by simp -dsimp -implicitDefEqProofs [xsS,hq]) (by simp -dsimp -implicitDefEqProofs [xsS,hq,yTH,jA,htw2,htm]) (by decide) (by simp -dsimp -implicitDefEqProofs) rfl rfl (by simp[fD,yTH]) hK2) ?_;have hlw:(yUu x k m'.yRT q.2.1).length=x.yRX.length:=by unfold yUu;split;exact LL;split;exact LL;rw[yTN];exact LL
    generalize yUu x k m'.yRT q.2.1=W' at *;generalize yU0 x k m'.yRT q.2.2=A' at *;generalize yU3 x k m'.yRT q.2.1=B' at *;cases B' with
    |true=>
     simp only[if_true]at hsuc;simp -dsimp -implicitDefEqProofs [yTH,xsS,hq,yTi,hlw,hls];refine⟨gB ilt hlen2,i+1,ilt,by omega,?_⟩;apply aB<;>simp[Obj.leO,hsuc,hq,xsS,yTH,yTi,hlw,hls]
    |false=>
     simp only[zbi,if_false]at hsuc;simp -dsimp -implicitDefEqProofs [yTH,xsS,hq,yTi,hlw,hls];refine⟨by omega,gB ilt hlen2,i+1,ilt,by omega,?_⟩;apply aB<;>simp[Obj.leO,hsuc,hq,xsS,yTH,yTi,hlw,hls]
  .have hts:=yUD hw hr hms;rw[List.take_of_length_le ige]at hq;rw[hq]at hts;have hpt:=yXu (L:=q.1) T.len hm0;have htq:List.take q.1.length (q.1.map yR6.enc)=q.1.map yR6.enc:=List.take_of_length_le (by simp);simp -dsimp -implicitDefEqProofs [hq,hmr,gmr,hls,klt,aG ige,List.take_of_length_le ige,xsS]
   refineλ_=>⟨gB klt hlen,k+1,klt,by omega,?_⟩
   refine yVb 50009 (k:=1) (v:=1) (by simp[htq]) hpt ?_;apply aB<;>simp[Obj.leO,hts,hq,xsS,List.take_of_length_le ige,zcs]
 .obtain rfl:k=x.yR3.length:=by omega
  have hes:=yUr F hs;have hV:=yc1 (yTL x) hes;rw[yVX]at hV;have hdr:x.yR3.drop x.yR3.length=[]:=zbF (Nat.le_refl _);have htw:List.take x.yRX.length (wkE (ySW x x.yR3.length).2.1)=wkE (ySW x x.yR3.length).2.1:=List.take_of_length_le (by rw[yTi,T.yXM];omega);have hsw:=yXL (ySW x x.yR3.length).2.1;rw[hdr]at hls;have hsr:=yWu (ySW x x.yR3.length).1 [];have htr:List.take x.yR3.length (yTB (ySW x x.yR3.length).1 [])=yTB (ySW x x.yR3.length).1 []:=List.take_of_length_le (by rw[hls];exact Nat.le_refl _);have hrm:yTB (ySW x x.yR3.length).1 []=(ySW x x.yR3.length).1.map nD:=by simp[yTB]
  simp -dsimp -implicitDefEqProofs [aG kge,xsS,hdr];intro _;rw[<-hrm]at hV;refine mD (hV) (by simp -dsimp -implicitDefEqProofs [jA,htw,hsw,hsr,htr]) rfl ?_;cases hv:rC (yTL x)with
  |false=>
   have e:res=x:=by rw[<-hres];simp[yTd,hv]
   rw[e];refine eP ?_;refine qU hco (by simp) rfl (by simp[fD,em]) ?_;simp -dsimp -implicitDefEqProofs [jA,eF yHe,eF yK7]
  |true=>
   have e:res=yTL x:=by rw[<-hres];simp[yTd,hok,hv]
   rw[e];simp -dsimp -implicitDefEqProofs [yTL,<-hrm,htw,hsw,hsr,htr,jA]
def yWk{x:yRW}(hs:x.small):(yTd x).small:=by
 unfold yTd;split
 .rename_i h;simp only[zad]at h;exact yUr (yCK h.1) hs
 .exact hs
def yVG(x:yRW)(q:Int)(hl:x.small):qB prg 77 [.agg (x.enc.map .c),.c (.i q)] (.agg ((yS2 x q).enc.map .c)):=by
 have hl0:=hl;obtain⟨s1,s2,s3,s4,s5,s6,s7,s8,s9⟩:=hl;have s11:=s1.1;have s31:=s3.1;refine dB yVh (eP ?_);have hco:=yWv x hl0;simp only[yRW.yXO]at hco;refine qU hco (by simp) rfl (by simp[fD,em]) (goT_ ?_);refine yYq (yc1 x hl0) ?_;cases h:rC x with
 |false=>simp -dsimp -implicitDefEqProofs [jA,eF yHe];simp[yU9,yTn,h]
 |true=>
 refine eP ?_;refine yYq (bC q 0 1000000000) ?_;cases hq:inRange q 0 1000000000 with
 |false=>simp -dsimp -implicitDefEqProofs [jA,eF yHe];simp[yU9,yTn,hq]
 |true=>
 have hc:yTn x q=true:=by simp[yTn,h,hq]
 have hw:=yCL h;have pl:=yjV h;have p1:=pl.two;have p2:=pl.ways;have p3:=pl.wks;have e:yS2 x q=⟨x.Time,(stR x q).set (x.yRV.length-1) (yWH (stR x q) (stW x q) x.ySl (x.yRV.length-1)).1,x.ySl,stW x q,x.yR3,x.yR9,x.ySd,x.yRZ,x.Book,x.yR1,x.Start,x.In,x.Out+(yWH (stR x q) (stW x q) x.ySl (x.yRV.length-1)).2⟩:=by simp[yS2,hc]
 rw[e];refine eP ?_;refine yX2 (λk=>k<=x.yRX.length) (λk=>xC [(1,.c (.i q)),(2,.box 2 0),(4,.box 4 0),(5,.box 5 0),(6,.c (.i k))] [(2,.box (x.enc.map .c)),(4,zW),(5,.box [.c (.i x.Time),.own 20016 3 x.yRV.length,.own 30016 2 x.ySl.length,.own 40016 22 x.yRX.length,.own 50016 1 x.yR3.length,.own 60016 2 x.yR9.length,.own 70016 1 x.ySd.length,.c (.i x.yRZ.Base),.c (.i x.yRZ.ySe),.own 100016 1 x.yRZ.yR5.length,.own 110016 1 x.yRZ.yR7.length,.own 120016 5 x.Book.length,.own 130016 4 x.yR1.length,.c (.i x.Start),.c (.i x.In),.c (.i x.Out)]),(20016,.row 3 (yTw (ySX q x.yRV x.yRX k).1)),(40016,.row 22 (bM (ySX q x.yRV x.yRX k).2)),(30016,.row 2 (x.ySl.map Way.enc)),(50016,.tr 1 0 (x.yR3.map em)),(60016,.row 2 (x.yR9.map yRT.enc)),(70016,.row 1 (x.ySd.map qC)),(100016,.row 1 (x.yRZ.yR5.map qC)),(110016,.row 1 (x.yRZ.yR7.map qC)),(120016,.row 5 (x.Book.map ySb.enc)),(130016,.row 4 (x.yR1.map yR2.enc))]) (λk=>x.yRX.length-k) (by apply aB<;>simp[Obj.leO,ySX,yTw,bM,jA]) ?_
 rintro k hk
 obtain⟨l1,l2⟩:=yTG (q:=q) (rs:=x.yRV) (ws:=x.yRX) k;obtain⟨a1,a2,_,_⟩:=yUk (q:=q) s1 s3 (by omega) k hk;have hst1:(ySX q x.yRV x.yRX (k+1)).1=((ySX q x.yRV x.yRX k).1.set k (through q (ySX q x.yRV x.yRX k).1 (ySX q x.yRV x.yRX k).2 k).1).set (k+1) (through q (ySX q x.yRV x.yRX k).1 (ySX q x.yRV x.yRX k).2 k).2.1:=rfl;have hst2:(ySX q x.yRV x.yRX (k+1)).2=(ySX q x.yRV x.yRX k).2.set k (yUp (dW (ySX q x.yRV x.yRX k).2 k) (yTz q (ySX q x.yRV x.yRX k).1 (ySX q x.yRV x.yRX k).2 k)):=rfl;rcases zan k x.yRX.length with klt|kge
 .obtain⟨rs2,hrs2⟩:∃r,(ySX q x.yRV x.yRX (k+1)).1=r:=⟨_,rfl⟩;obtain⟨ws2,hws2⟩:∃r,(ySX q x.yRV x.yRX (k+1)).2=r:=⟨_,rfl⟩;rw[hrs2]at hst1;rw[hws2]at hst2;generalize(ySX q x.yRV x.yRX k).1=rs at *;generalize(ySX q x.yRV x.yRX k).2=ws at *;have r1:=ye8 (rs:=rs) (k:=k) (by omega);have r2:=ye8 (rs:=rs) (k:=k+1) (by omega);have w1:=yi4 (ws:=ws) (k:=k) (by omega);have sr1:=a1.2 _ (zac r1);have sr2:=a1.2 _ (zac r2);have sw1:=a2.2 _ (zac w1);have hnw:yTz q rs ws k=yS9 (dW ws k).ySp (dW ws k).Rule (kD (dR rs k)) (kD (dR rs (k+1))) q:=rfl;have hth:through q rs ws k=ySZ (dR rs k) (dR rs (k+1)) (yTz q rs ws k):=rfl;rw[hth]at hst1;have hLT:=yVN (dR rs k) (dR rs (k+1)) (yTz q rs ws k) sr1 sr2;generalize yTz q rs ws k=nw at *;have ar1:=yUi r1;have ar2:=yUi r2;have aw1:=yt5 w1;generalize dR rs k=ra at *;generalize dR rs (k+1)=rb at *;generalize dW ws k=wk at *;generalize ySZ ra rb nw=LT at *;obtain⟨k',hk'⟩:∃k',k'=k+1:=⟨_,rfl⟩;have ek:((k:Int)+1)=(k':Int):=by omega
  rw[<-hk']at ar2 hst1;have sR:∀(rs:List Reach) (j:Nat) (r:Reach),(yTw rs).set j [.sl 2 (r.ySg.map ySc.enc),.i r.ySh,.sl 1 (r.ySk.map qC)]=yTw (rs.set j r):=λ_ _ _=>yUN;have sW:=yk6 (ws:=ws) (k:=k) (w:=yUp wk nw);rw[<-hst2]at sW;simp only[Reach.enc]at ar1 ar2;simp only[yR8.enc,yUp]at aw1 sW;have gr1:=(zaa.1 ar1).2;have gr2:=(zaa.1 ar2).2;have gw1:=(zaa.1 aw1).2;have n1:k<x.yRV.length:=by omega
  have n2:k'<x.yRV.length:=by omega
  simp -dsimp -implicitDefEqProofs [yTc,ygI,l1,l2,ar1,gr1,ar2,gr2,aw1,gw1,klt,fC klt,n1,n2,ek];intro hlen;refine nC (dN ra) (by simp -dsimp -implicitDefEqProofs [ar1,gr1,n1,yTc,l1]) (.inr rfl) ?_;simp -dsimp -implicitDefEqProofs [yTc,ygI,l1,l2,ar1,gr1,ar2,gr2,aw1,gw1,klt,n1,n2,ek];refine⟨by unfold inI;omega,?_⟩;refine nC (dN rb) (by simp -dsimp -implicitDefEqProofs [ar2,gr2,n2]) (.inr rfl) (yaeT aw1 gw1 klt ?_);have hSW:=yV6 wk.ySp wk.Rule (kD ra) (kD rb) q;rw[<-hnw]at hSW;refine nC (hSW) (by simp -dsimp -implicitDefEqProofs [aw1,gw1,klt]) (.inr rfl) ?_;have sW2:∀h,((bM ws).set k [.i wk.yR0.Length,.i wk.yR0.Width,.i wk.yR0.ySi,.i wk.yR0.ySj,.i wk.yR0.Base,.i wk.yR0.Area,.i wk.yR0.ySs,.i wk.yR0.ySn,.i wk.yR0.Gate,.sl 2 (wk.yR0.yRY.map yRT.enc),.i nw.ySu,.i nw.Open,.i nw.Step,.i nw.ySy,.i nw.Width,.i wk.Rule.Low,.i wk.Rule.High,.i wk.Rule.ySx,.sl 2 (wk.Pauses.map ySf.enc),.b wk.Turn.Up,.i wk.Turn.Count,.sl 4 (wk.Calls.map yR4.enc)])[k]'h=[.i wk.yR0.Length,.i wk.yR0.Width,.i wk.yR0.ySi,.i wk.yR0.ySj,.i wk.yR0.Base,.i wk.yR0.Area,.i wk.yR0.ySs,.i wk.yR0.ySn,.i wk.yR0.Gate,.sl 2 (wk.yR0.yRY.map yRT.enc),.i nw.ySu,.i nw.Open,.i nw.Step,.i nw.ySy,.i nw.Width,.i wk.Rule.Low,.i wk.Rule.High,.i wk.Rule.ySx,.sl 2 (wk.Pauses.map ySf.enc),.b wk.Turn.Up,.i wk.Turn.Count,.sl 4 (wk.Calls.map yR4.enc)]:=λh=>by rw[List.getElem_set_self]
  simp -dsimp -implicitDefEqProofs [yTc,ygI,l1,l2,ar1,gr1,ar2,gr2,aw1,gw1,klt,n1,n2,ek];refine⟨by unfold inI;omega,?_⟩;refine nC (hLT) (by simp -dsimp -implicitDefEqProofs [ar1,gr1,ar2,gr2,n1,n2,sW2,klt]) (.inl rfl) ?_;have hset:((yTw rs).set k [.sl 2 (LT.1.ySg.map ySc.enc),.i LT.1.ySh,.sl 1 (LT.1.ySk.map qC)]).set k' [.sl 2 (LT.2.1.ySg.map ySc.enc),.i LT.2.1.ySh,.sl 1 (LT.2.1.ySk.map qC)]=yTw rs2:=by rw[sR,sR,hst1]
  have hgs:∀(X:List C) (h),((yTw rs).set k X)[k']'h=[.sl 2 (rb.ySg.map ySc.enc),.i rb.ySh,.sl 1 (rb.ySk.map qC)]:=λX h=>by rw[zbG (by omega)];exact gr2
  simp -dsimp -implicitDefEqProofs [yTc,ygI,l1,l2,ar1,gr1,ar2,gr2,aw1,gw1,klt,n1,n2,ek,hset,sW,hgs];refine⟨by unfold inI;omega,k+1,klt,by omega,?_⟩;apply aB<;>simp[Obj.leO,hset,sW,hrs2,hws2,ek,hgs]
 .have hkn:k=x.yRX.length:=by omega
  subst hkn;have hR:(ySX q x.yRV x.yRX x.yRX.length).1=stR x q:=rfl;have hW:(ySX q x.yRV x.yRX x.yRX.length).2=stW x q:=rfl;rw[hR]at l1 a1;rw[hW]at l2 a2;rw[hR,hW];generalize stR x q=rs at *;generalize stW x q=ws at *;obtain⟨n,hn⟩:∃n,n=x.yRV.length-1:=⟨_,rfl⟩;have en:((x.yRV.length:Int)-1)=(n:Int):=by omega
  obtain⟨m,hm⟩:∃m,m=n-1:=⟨_,rfl⟩;have em:((n:Int)-1)=(m:Int):=by omega
  rw[<-hn];have r1:=ye8 (rs:=rs) (k:=n) (by omega);have w1:=yi4 (ws:=ws) (k:=m) (by omega);have hy:x.ySl[n]?=some (x.ySl.getD n default):=by rw[zah,zab (by omega)];rfl
  have sr1:=a1.2 _ (zac r1);have hT:yWH rs ws x.ySl n=rG (dR rs n) (yS1 (dW ws m).ySp (kD (dR rs n)) 0) (fH (dR rs n).ySg (x.ySl.getD n default).Bed):=by rw[hm];rfl
  rw[hT];have ar1:=yUi r1;have aw1:=yt5 w1;generalize dR rs n=ra at *;generalize dW ws m=wk at *;generalize x.ySl.getD n default=wy at *;have gy:=(zaa.1 hy).2;have sR:∀(rs:List Reach) (j:Nat) (r:Reach),(yTw rs).set j [.sl 2 (r.ySg.map ySc.enc),.i r.ySh,.sl 1 (r.ySk.map qC)]=yTw (rs.set j r):=λ_ _ _=>yUN;simp only[Reach.enc]at ar1;simp only[yR8.enc]at aw1;have gr1:=(zaa.1 ar1).2;have gw1:=(zaa.1 aw1).2;have n1:n<x.yRV.length:=by omega
  have n2:m<x.yRX.length:=by omega
  have n3:n<x.ySl.length:=by omega
  simp -dsimp -implicitDefEqProofs [yTc,ygI,l1,l2,ar1,gr1,aw1,gw1,n1,n2,n3,hy,gy,en,em];intro hlen2 hlen3;refine⟨by unfold inI;omega,by unfold inI;omega,?_⟩;refine yYr (dN ra) (eP ?_);refine nC (yUe wk.ySp (kD ra) 0) (by simp -dsimp -implicitDefEqProofs [aw1,gw1,gr1,n2]) (.inr rfl) (yaeV n3 hy gy en ?_);refine yYr (yxU ra.ySg wy.Bed) (eP ?_);have hP:=yyN ra (yS1 wk.ySp (kD ra) 0) (fH ra.ySg wy.Bed) sr1;have hto:=ysn ra (yS1 wk.ySp (kD ra) 0) (fH ra.ySg wy.Bed);refine yYo hP ?_;generalize rG ra (yS1 wk.ySp (kD ra) 0) (fH ra.ySg wy.Bed)=z at *;have w5:=hw.out;simp -dsimp -implicitDefEqProofs [yTc,l1,n1,gr1,ar1,sR,en,jA,eF yHe];refine⟨by unfold inI;omega,?_,(List.take_of_length_le (by show(bM ws).length<=_;rw[ygI];omega)).symm⟩;rw[List.take_of_length_le (by rw[yTc,zbA];omega)];exact sR rs n z.1
def yXI(r:Reach):ydF (yS8 r)=ydF r:=by
 have:(yS8 r).ySg.length=r.ySg.length/\(yS8 r).ySk.length=r.ySk.length:=by
  unfold yS8;split
  .rename_i h;simp only[zad,decide_eq_true_eq]at h;refine⟨rfl,?_⟩;simp;omega
  .exact⟨rfl,rfl⟩
 unfold ydF ymT ya2;omega
def yXw(x:yRW)(q:Int):ydQ ((yTo x q).map yS8)=ydQ x.yRV:=by
 have h1:∀l:List Reach,ydQ (l.map yS8)=ydQ l:=by
  intro l;have:(ydF∘yS8)=ydF:=funext yXI;simp[ydQ,yap,this]
 rw[h1];unfold yTo;split
 .cases x.yRV with
  |nil=>rfl
  |cons r l=>simp[sent,ydQ,yap,yW4]
 .rfl
def yXF{x:yRW}{q:Int}:kV (yS0 x q)=kV x:=by
 unfold yS0;split
 .unfold kV;rw[yXw]
 .rfl
def yWd(x:yRW)(q:Int)(hl:x.small):qB prg 78 [.agg (x.enc.map .c),.c (.i q)] (.agg ((yS0 x q).enc.map .c)):=by
 have hl0:=hl;obtain⟨s1,s2,s3,s4,s5,s6,s7,s8,s9⟩:=hl;have s11:=s1.1;refine dB yVy (eP ?_);have hco:=yWv x hl0;simp only[yRW.yXO]at hco;refine qU hco (by simp) rfl (by simp[fD,em]) (goT_ ?_);refine aA (yc1 x hl0) ?_;cases h:rC x with
 |false=>simp -dsimp -implicitDefEqProofs [jA,eF yHe];simp[yUO,yTF,h]
 |true=>
 have ht:=yXn h;have hw:=yCL h;obtain⟨r0,rl,hrl⟩:=yWX h;simp -dsimp -implicitDefEqProofs [jA,eF yHe];refine⟨λht2=>?_,λht2=>?_⟩
 rotate_left
 .rw[yUO (by simp[yTF,ht2])];simp
 refine⟨λhq=>?_,λhq=>?_⟩
 .have:¬0<=q:=by omega
  rw[yUO (by simp[yTF,this])];simp
 have hc:yTF x q=true:=by simp[yTF,h,ht2,hq]
 have w1:=hw.start;have w2:=hw.inn;refine⟨by unfold inI;omega,by unfold inI;omega,by unfold inI;omega,λhp=>?_,λhp=>?_⟩
 .have hpi:yUd x q=true:=by simp[yUd];omega
  have hrs:yTo x q=dU r0 q::rl:=by simp[yTo,hpi,hrl,sent]
  have e:yS0 x q=⟨x.Time+1,(yTo x q).map yS8,x.ySl,x.yRX,x.yR3,x.yR9,x.ySd,x.yRZ,x.Book,x.yR1,x.Start,x.In+q,x.Out⟩:=by simp[yS0,hc,hpi]
  rw[e];have h00:x.yRV[0]?=some r0:=by rw[hrl];rfl
  have hg0:0<x.yRV.length:=by rw[hrl];simp
  have hset0:(x.yRV.map Reach.enc).set 0 (dU r0 q).enc=(yTo x q).map Reach.enc:=by rw[hrs,hrl];rfl
  have hr0:r0.small:=s1.2 r0 (by rw[hrl];simp);simp only[Reach.enc]at hset0;have g00:=(zaa.1 h00).2;refine yaeT h00 g00 hg0 ?_;refine bI (yAK r0 q hr0) (yaeV h00 g00 hg0 hset0 ?_);refine⟨by unfold inI;omega,?_⟩;refine yX2 (λk=>k<=x.yRV.length) (λk=>xC [(2,.box 2 0),(4,.box 4 0),(5,.box 5 0),(6,.c (.i k))] [(2,.box [.c (.i x.Time),.c (.sl 3 (x.yRV.map Reach.enc)),.c (.sl 2 (x.ySl.map Way.enc)),.c (.sl 22 (x.yRX.map yR8.enc)),.c (.sl 1 (x.yR3.map nD)),.c (.sl 2 (x.yR9.map yRT.enc)),.c (.sl 1 (x.ySd.map qC)),.c (.i x.yRZ.Base),.c (.i x.yRZ.ySe),.c (.sl 1 (x.yRZ.yR5.map qC)),.c (.sl 1 (x.yRZ.yR7.map qC)),.c (.sl 5 (x.Book.map ySb.enc)),.c (.sl 4 (x.yR1.map yR2.enc)),.c (.i x.Start),.c (.i x.In),.c (.i x.Out)]),(4,zW),(5,.box [.c (.i (x.Time+1)),.own 20008 3 x.yRV.length,.own 30008 2 x.ySl.length,.own 40008 22 x.yRX.length,.own 50008 1 x.yR3.length,.own 60008 2 x.yR9.length,.own 70008 1 x.ySd.length,.c (.i x.yRZ.Base),.c (.i x.yRZ.ySe),.own 100008 1 x.yRZ.yR5.length,.own 110008 1 x.yRZ.yR7.length,.own 120008 5 x.Book.length,.own 130008 4 x.yR1.length,.c (.i x.Start),.c (.i (x.In+q)),.c (.i x.Out)]),(20008,.row 3 (rsC (yTo x q) k)),(30008,.row 2 (x.ySl.map Way.enc)),(40008,.row 22 (x.yRX.map yR8.enc)),(50008,.tr 1 0 (x.yR3.map em)),(60008,.row 2 (x.yR9.map yRT.enc)),(70008,.row 1 (x.ySd.map qC)),(100008,.row 1 (x.yRZ.yR5.map qC)),(110008,.row 1 (x.yRZ.yR7.map qC)),(120008,.row 5 (x.Book.map ySb.enc)),(130008,.row 4 (x.yR1.map yR2.enc))]) (λk=>x.yRV.length-k) (by apply aB<;>simp[Obj.leO,yVf]) ?_
  rintro k hk
  have hrl2:(rsC (yTo x q) k).length=x.yRV.length:=by rw[yVP,yTx]
  rcases zan k x.yRV.length with klt|kge
  .obtain⟨r,hr⟩:∃r,(yTo x q)[k]?=some r:=⟨_,zab (by rw[yTx];exact klt)⟩;have hrs2:=(yUz (q:=q) s1).2 r (zac hr);have hat:=yWL hr;have hset:=yVQ hr;simp only[Reach.enc]at hat hset;have hat2:=(zaa.1 hat).2;refine yaff hrl2 hat hat2 klt (fC klt) ?_;intro hlen;refine bI (yVB r hrs2) (yafq hrl2 hat hat2 klt (fC klt) hset ?_);refine⟨gB klt hlen,k+1,klt,by omega,?_⟩;apply aB<;>simp[Obj.leO,hset]
  .have hall:=yVR (rs:=(yTo x q)) (k:=k) (by rw[yTx];exact kge);simp -dsimp -implicitDefEqProofs [aG kge,hall,jA,eF yHe];intro _;exact(List.take_of_length_le (by simp[yTx])).symm
 .have hpi:yUd x q=false:=by simp[yUd];omega
  have hrs:yTo x q=x.yRV:=by simp[yTo,hpi]
  have e:yS0 x q=⟨x.Time+1,(yTo x q).map yS8,x.ySl,x.yRX,x.yR3,x.yR9,x.ySd,x.yRZ,x.Book,x.yR1,x.Start,x.In,x.Out⟩:=by simp[yS0,hc,hpi]
  rw[e,hrs];refine yX2 (λk=>k<=x.yRV.length) (λk=>xC [(2,.box 2 0),(4,.box 4 0),(5,.box 5 0),(6,.c (.i k))] [(2,.box [.c (.i x.Time),.c (.sl 3 (x.yRV.map Reach.enc)),.c (.sl 2 (x.ySl.map Way.enc)),.c (.sl 22 (x.yRX.map yR8.enc)),.c (.sl 1 (x.yR3.map nD)),.c (.sl 2 (x.yR9.map yRT.enc)),.c (.sl 1 (x.ySd.map qC)),.c (.i x.yRZ.Base),.c (.i x.yRZ.ySe),.c (.sl 1 (x.yRZ.yR5.map qC)),.c (.sl 1 (x.yRZ.yR7.map qC)),.c (.sl 5 (x.Book.map ySb.enc)),.c (.sl 4 (x.yR1.map yR2.enc)),.c (.i x.Start),.c (.i x.In),.c (.i x.Out)]),(4,zW),(5,.box [.c (.i (x.Time+1)),.own 20008 3 x.yRV.length,.own 30008 2 x.ySl.length,.own 40008 22 x.yRX.length,.own 50008 1 x.yR3.length,.own 60008 2 x.yR9.length,.own 70008 1 x.ySd.length,.c (.i x.yRZ.Base),.c (.i x.yRZ.ySe),.own 100008 1 x.yRZ.yR5.length,.own 110008 1 x.yRZ.yR7.length,.own 120008 5 x.Book.length,.own 130008 4 x.yR1.length,.c (.i x.Start),.c (.i x.In),.c (.i x.Out)]),(20008,.row 3 (rsC x.yRV k)),(30008,.row 2 (x.ySl.map Way.enc)),(40008,.row 22 (x.yRX.map yR8.enc)),(50008,.tr 1 0 (x.yR3.map em)),(60008,.row 2 (x.yR9.map yRT.enc)),(70008,.row 1 (x.ySd.map qC)),(100008,.row 1 (x.yRZ.yR5.map qC)),(110008,.row 1 (x.yRZ.yR7.map qC)),(120008,.row 5 (x.Book.map ySb.enc)),(130008,.row 4 (x.yR1.map yR2.enc))]) (λk=>x.yRV.length-k) (by apply aB<;>simp[Obj.leO,yVf]) ?_
  rintro k hk
  have hrl2:(rsC x.yRV k).length=x.yRV.length:=yVP;rcases yX1 k x.yRV with⟨klt,r,hr⟩|kge
  .have hrs2:=s1.2 r (zac hr);have hat:=yWL hr;have hset:=yVQ hr;simp only[Reach.enc]at hat hset;have hat2:=(zaa.1 hat).2;refine yaff hrl2 hat hat2 klt (fC klt) ?_;intro hlen;refine bI (yVB r hrs2) (yafq hrl2 hat hat2 klt (fC klt) hset ?_);refine⟨gB klt hlen,k+1,klt,by omega,?_⟩;apply aB<;>simp[Obj.leO,hset]
  .have hall:=yVR (rs:=x.yRV) (k:=k) (by exact kge);simp -dsimp -implicitDefEqProofs [aG kge,hall,jA,eF yHe]
def yTS(x:yRW)(q:Int):Bool:=rC x&& !decide (x.Time=1000000)&&inRange q 0 1000000000
def yTl(x:yRW):Nat->yRW
 |0=>x
 |k+1=>fQ (yTl x k) k
def yTY(x:yRW)(q:Int):yRW:=yTd (yS2 (yS0 x q) q)
def ySY(x:yRW)(q:Int):yRW:=if yTS x q then yTl (yTY x q) x.yRX.length else x
def yTK{x:yRW}(h:x.small):∀k,(yTl x k).small
 |0=>h
 |k+1=>ykL (yTK h k)
def yTJ{x:yRW}{q:Int}(h:x.small):(yTY x q).small:=yWk (yUC (yTM h))
def yXi{x:yRW}{q:Int}(h:x.small):(ySY x q).small:=by
 unfold ySY;split
 .exact yTK (yTJ h) _
 .exact h
def yXj{x:yRW}{k:Int}:(fQ x k).yRX.length=x.yRX.length:=by
 unfold fQ;split
 .unfold yeU;split
  .unfold qM yls;split
   .rfl
   .split<;>simp[rD,qJ]
  .split
   .unfold iK;split<;>simp[rD,oG]
   .split
    .unfold bH;split<;>simp[rD]
    .unfold xY;split<;>simp[rD]
 .rfl
def yWr{x:yRW}:∀k,(yTl x k).yRX.length=x.yRX.length
 |0=>rfl
 |k+1=>yXj.trans (yWr k)
def yXa{x:yRW}{q:Int}:(yTY x q).yRX.length=x.yRX.length:=by
 have h1:(yS0 x q).yRX=x.yRX:=by unfold yS0;split<;>rfl
 have h2:∀y:yRW,(yS2 y q).yRX.length=y.yRX.length:=λy=>by
  unfold yS2;split
  .exact(yTG (q:=q) (rs:=y.yRV) (ws:=y.yRX) y.yRX.length).2
  .rfl
 have h3:∀y:yRW,(yTd y).yRX.length=y.yRX.length:=λy=>by
  unfold yTd;split
  .rename_i hc;simp only[zad]at hc;have a:=(yjV hc.1).wks;have b:(yTL y).yRX.length+1=y.yRV.length:=(yjV hc.2).wks;omega
  .rfl
 unfold yTY;rw[h3,h2,h1]
def yXT(x:yRW)(q:Int)(hs:x.small):qB prg 61 [.agg (x.enc.map .c),.c (.i q)] (.agg ((ySY x q).enc.map .c)):=by
 have hp:=yXU x q hs;have hst:=yXQ (yS0 x q) q (yTM hs);have hsl:=yXp (yS2 (yS0 x q) q) (yUC (yTM hs));have hs4:=yTJ (q:=q) hs;have e1:yTd (yS2 (yS0 x q) q)=yTY x q:=rfl;rw[e1]at hsl;refine dB yWP (eP ?_);refine yYq (yis x hs) ?_;cases h:rC x with
 |false=>simp -dsimp -implicitDefEqProofs;simp[ySY,yTS,h]
 |true=>
 refine eP ?_;refine⟨λht=>?_,λht=>?_⟩
 rotate_left
 .simp[ySY,yTS,ht]
 refine yYq (iC q 0 1000000000) ?_;cases hq:inRange q 0 1000000000 with
 |false=>simp -dsimp -implicitDefEqProofs;simp[ySY,yTS,hq]
 |true=>
 have e:ySY x q=yTl (yTY x q) x.yRX.length:=by simp[ySY,yTS,h,ht,hq]
 rw[e];generalize yS0 x q=u at *;generalize yS2 u q=v at *;generalize yTY x q=z at *;refine eP ?_;refine yYp hp (eP ?_);refine yYp hst (eP ?_);refine yYp hsl (eP ?_);intro hlen;refine yX2 (λk=>k<=x.yRX.length) (λk=>xC [(4,.box 4 0),(5,.box 5 0),(29,.c (.i x.yRX.length)),(30,.c (.i k))] [(4,zW),(5,.box ((yTl z k).enc.map .c))]) (λk=>x.yRX.length-k) (by apply aB<;>simp[yTl]) ?_
 rintro k hk
 rcases zan k x.yRX.length with klt|kge
 .have hc:=act_c (yTl z k) k (yTK hs4 k);have e2:yTl z (k+1)=fQ (yTl z k) k:=rfl;rw[<-e2]at hc;generalize yTl z (k+1)=z1 at *;refine eU (fC klt) ?_;refine yYp hc (eP ?_);refine⟨gB klt hlen,k+1,klt,by omega,?_⟩;have e3:yTl z (k+1)=z1:=e2.symm▸rfl;apply aB<;>simp[e3]
 .obtain rfl:k=x.yRX.length:=by omega
  exact yafA (aG kge)
def yYn(x:yRW)(q:Int)(hl:x.small):nI prg 19 [.agg (x.enc.map .c),.c (.i q)] (.agg ((ySY x q).iD.map .c)):=by
 have hp:=yXi (q:=q) hl;have hpc:=yXT x q hl;refine fF yYl (eP ?_);refine dD hpc ?_;generalize ySY x q=r at *;refine eP ?_;refine yX3 (yuq r hp) (dP (yRW.aF r)) ?_;exact goU_
def yVe(x:yRW)(q:Int)(hs:x.small):qB prg 31 [.agg (x.enc.map .c),.c (.i q)] (.agg ((ySY x q).enc.map .c)):=by
 have hco:qB prg 50 [.agg (x.enc.map .c)] (.agg (x.enc.map .c)):=(yDS x hs).pure (by simp[AV.shr,AV.yoE,dO,C.shr,eF yHe,show yaq (x.yRX.map yR8.enc)=some (x.yRX.map yR8.enc)from ycb x.yRX,yRW.qX]);have hp:=yWd x q hs;have hst:=yVG (yS0 x q) q (yTM hs);have hsl:=yWM (yS2 (yS0 x q) q) (yUC (yTM hs));have hs4:=yTJ (q:=q) hs;have hwm:=yXa (x:=x) (q:=q);have e1:yTd (yS2 (yS0 x q) q)=yTY x q:=rfl;rw[e1]at hsl;refine dB yUR (eP ?_);refine yYq (yc1 x hs) ?_;cases h:rC x with
 |false=>
  have e:ySY x q=x:=by simp[ySY,yTS,h]
  rw[e];refine eP ?_;refine yYp hco ?_;exact goE_
 |true=>
 refine eP ?_;refine⟨λht=>?_,λht=>?_⟩
 rotate_left
 .have e:ySY x q=x:=by simp[ySY,yTS,ht]
  rw[e];refine yYp hco ?_;exact goE_
 refine yYq (bC q 0 1000000000) ?_;cases hq:inRange q 0 1000000000 with
 |false=>
  have e:ySY x q=x:=by simp[ySY,yTS,hq]
  rw[e];refine eP ?_;refine yYp hco ?_;exact goE_
 |true=>
 have e:ySY x q=yTl (yTY x q) x.yRX.length:=by simp[ySY,yTS,h,ht,hq]
 rw[e];generalize yS0 x q=u at *;generalize yS2 u q=v at *;generalize yTY x q=z at *;refine eP ?_;refine yYp hp (eP ?_);refine yYp hst (eP ?_);refine yYp hsl (eP ?_);rw[<-hwm];refine yX2 (λk=>k<=z.yRX.length) (λk=>xC [(1,.c (.i q)),(2,.box 2 0),(4,.box 4 0),(5,.box 5 0),(6,.c (.i k))] [(2,.box (x.enc.map .c)),(4,zW),(5,.box ((yTl z k).enc.map .c))]) (λk=>z.yRX.length-k) (by apply aB<;>simp[yTl]) ?_
 rintro k hk
 have hwk:=yWr (x:=z) k;rcases zan k z.yRX.length with klt|kge
 .have hc:=yvT (yTl z k) k (yTK hs4 k);have e2:yTl z (k+1)=fQ (yTl z k) k:=rfl;rw[<-e2]at hc;generalize yTl z (k+1)=z1 at *;refine yaed hwk (fC klt) ?_;intro hlen;refine yYp hc (eP ?_);refine⟨gB klt hlen,k+1,klt,by omega,?_⟩;have e3:yTl z (k+1)=z1:=e2.symm▸rfl;apply aB<;>simp[e3]
 .obtain rfl:k=z.yRX.length:=by omega
  exact yafJ hwk (aG kge)
def yVV{x:yRW}(hs:x.small)(h:kV x<=9007199254740992):∀k,kV (yTl x k)<=9007199254740992
 |0=>h
 | k+1=>by
  have ih:=yVV hs h k;have hs2:=ykL (k:=(k:Int)) (yTK hs k)
  show kV (fQ (yTl x k) k)<=_
  unfold fQ at hs2|-;split
  .rename_i hc;rw[if_pos hc]at hs2;simp only[zad]at hc;exact yEH hc.2 hs2
  .exact ih
def yVw{x:yRW}{q:Int}(hs:x.small)(h:kV x<=9007199254740992):kV (ySY x q)<=9007199254740992:=by
 unfold ySY;split
 .refine yVV (yTJ hs) ?_ _;have h3:=yTJ (q:=q) hs;unfold yTY yTd at h3|-;split
  .rename_i hc;rw[if_pos hc]at h3;simp only[zad]at hc;exact yEH hc.2 h3
  .rw[yXv (yTM hs),yXF];exact h
 .exact h
def yYm(x:yRW)(q:Int)(hs:x.small)(h:kV x<=1048576):wm9 (ySY x q) 1<=4000000000000000000:=by
 have h2:=yVw (q:=q) hs (by omega);have:=yGL (ySY x q) 1;omega
def yYk(x0:yRW)(x1:Int):qB prg 7 [.agg (x0.enc.map .c),.c (.i x1)] (.c (.b true)):=by
 refine dB yYd (eP ?_);refine aA (ywn x0 1048576 (by omega) (by omega)) (eP ?_);intro hsz0;have hl0:=yGx ysM (by omega) (by omega) hsz0;have ht:=yrn x0 1048576 (by omega) (by omega) hsz0;have hwm:=yGL x0 1;have hO:=yYn x0 x1 hl0;have hS:=yVe x0 x1 hl0;have hM:=yYm x0 x1 (by omega);refine dD (yhw x0 hl0) (eP ?_);refine dD hS ?_;generalize ySY x0 x1=r at *;refine eP ?_;refine yX3 (yzm x0 hl0) (dP (yRW.aF x0)) (eP ?_);have hP:qB prg 19 [.agg (x0.enc.map .c),.c (.i x1)] (.agg (r.enc.map .c)):=hO.pure (by simp[AV.shr,AV.yoE,dO,C.shr,eF Reach.bF,eF yR8.bF,eF oV,eF yRT.bF,eF yR2.bF]);refine sD hO (by simp -dsimp -implicitDefEqProofs [jA,eF Reach.bF,eF yR8.bF,eF oV,eF yRT.bF,eF yR2.bF,eF yR4.bF]) (dP (yRW.aF r)) (by simp[fD]) (eP ?_);refine mD (yds r r) (by simp -dsimp -implicitDefEqProofs [jA,eF Reach.bF,eF yR8.bF,eF oV,eF yRT.bF,eF yR2.bF,eF yR4.bF]) rfl (eP ?_);refine gX (yhw x0 hl0) (eP ?_);refine⟨_,_,yds x0 x0,by simp -dsimp -implicitDefEqProofs [jA,eF Reach.bF,eF yR8.bF,eF oV,eF yRT.bF,eF yR2.bF,eF yR4.bF],.inr rfl,eP ?_⟩
 refine yfZ (ups:=[none,some (20023,.tr 3 1 (dH rY aH 1 x0.yRV)),some (30023,.row 2 (marked yaj 2 [] (wm1 x0 1) x0.ySl.length)),some (40023,.tr 22 1 (dH yax iI (wm2 x0 1) x0.yRX)),some (50023,.tr 1 1 (dH xU kG (wm3 x0 1) x0.yR3)),some (60023,.tr 2 1 (dH pR jC (wm4 x0 1) x0.yR9)),some (70023,.row 1 (marked qC 1 [] (wm5 x0 1) x0.ySd.length)),none,none,some (100023,.row 1 (marked qC 1 [] (wm6 x0 1) x0.yRZ.yR5.length)),some (110023,.row 1 (marked qC 1 [] (wm6 x0 1+x0.yRZ.yR5.length) x0.yRZ.yR7.length)),some (120023,.row 5 (marked ylw 5 [] (wm7 x0 1) x0.Book.length)),some (130023,.tr 4 1 (dH iR sF (wm8 x0 1) x0.yR1)),none,none,none]) (ykI x0 1 (by omega) (by omega)) (by simp -dsimp -implicitDefEqProofs) rfl rfl
  ⟨sS rfl,yd8 (rows:=x0.yRV.map Reach.iD) (by simp -dsimp -implicitDefEqProofs) rfl rfl rfl (by simp) (by simp[jD]) rfl rfl,qH (rows:=x0.ySl.map Way.enc) (by simp -dsimp -implicitDefEqProofs) rfl rfl (by simp) (by simp[kE]) rfl rfl,yd8 (rows:=x0.yRX.map yR8.iD) (by simp -dsimp -implicitDefEqProofs) rfl rfl rfl (by simp) (by simp[jD]) rfl rfl,yd8 (rows:=x0.yR3.map xG) (by simp -dsimp -implicitDefEqProofs) rfl rfl rfl (by simp) (by simp[jD]) rfl rfl,yd8 (rows:=x0.yR9.map yRT.iD) (by simp -dsimp -implicitDefEqProofs) rfl rfl rfl (by simp) (by simp[jD]) rfl rfl,qH (rows:=x0.ySd.map qC) (by simp -dsimp -implicitDefEqProofs) rfl rfl (by simp) (by simp[kE]) rfl rfl,sS rfl,sS rfl,qH (rows:=x0.yRZ.yR5.map qC) (by simp -dsimp -implicitDefEqProofs) rfl rfl (by simp) (by simp[kE]) rfl rfl,qH (rows:=x0.yRZ.yR7.map qC) (by simp -dsimp -implicitDefEqProofs) rfl rfl (by simp) (by simp[kE]) rfl rfl,qH (rows:=x0.Book.map ySb.enc) (by simp -dsimp -implicitDefEqProofs) rfl rfl (by simp) (by simp[kE]) rfl rfl,yd8 (rows:=x0.yR1.map yR2.iD) (by simp -dsimp -implicitDefEqProofs) rfl rfl rfl (by simp) (by simp[jD]) rfl rfl,sS rfl,sS rfl,sS rfl,trivial⟩ (by simp[kQ]) ?_
 have w9:0<=wm9 x0 1:=by have:=wkB x0 (k:=1) (by omega);obtain⟨b0,b1,b2,b3,b4,b5,b6,b7,b8,b9⟩:=this;omega
 have n1:(wm9 x0 1<0)=False:=by simp;omega
 refine eU n1 ?_;refine mD (yds r r) (by simp -dsimp -implicitDefEqProofs [jA,eF Reach.bF,eF yR8.bF,eF oV,eF yRT.bF,eF yR2.bF,eF yR4.bF]) rfl (eP ?_)
 refine yfZ (ups:=[none,some (20026,.tr 3 1 (dH rY aH 1 r.yRV)),some (30026,.row 2 (marked yaj 2 [] (wm1 r 1) r.ySl.length)),some (40026,.tr 22 1 (dH yax iI (wm2 r 1) r.yRX)),some (50026,.tr 1 1 (dH xU kG (wm3 r 1) r.yR3)),some (60026,.tr 2 1 (dH pR jC (wm4 r 1) r.yR9)),some (70026,.row 1 (marked qC 1 [] (wm5 r 1) r.ySd.length)),none,none,some (100026,.row 1 (marked qC 1 [] (wm6 r 1) r.yRZ.yR5.length)),some (110026,.row 1 (marked qC 1 [] (wm6 r 1+r.yRZ.yR5.length) r.yRZ.yR7.length)),some (120026,.row 5 (marked ylw 5 [] (wm7 r 1) r.Book.length)),some (130026,.tr 4 1 (dH iR sF (wm8 r 1) r.yR1)),none,none,none]) (ykI r 1 (by omega) (by omega)) (by simp -dsimp -implicitDefEqProofs) rfl rfl
  ⟨sS rfl,yd8 (rows:=r.yRV.map Reach.iD) (by simp -dsimp -implicitDefEqProofs) rfl rfl rfl (by simp) (by simp[jD]) rfl rfl,qH (rows:=r.ySl.map Way.enc) (by simp -dsimp -implicitDefEqProofs) rfl rfl (by simp) (by simp[kE]) rfl rfl,yd8 (rows:=r.yRX.map yR8.iD) (by simp -dsimp -implicitDefEqProofs) rfl rfl rfl (by simp) (by simp[jD]) rfl rfl,yd8 (rows:=r.yR3.map xG) (by simp -dsimp -implicitDefEqProofs) rfl rfl rfl (by simp) (by simp[jD]) rfl rfl,yd8 (rows:=r.yR9.map yRT.iD) (by simp -dsimp -implicitDefEqProofs) rfl rfl rfl (by simp) (by simp[jD]) rfl rfl,qH (rows:=r.ySd.map qC) (by simp -dsimp -implicitDefEqProofs) rfl rfl (by simp) (by simp[kE]) rfl rfl,sS rfl,sS rfl,qH (rows:=r.yRZ.yR5.map qC) (by simp -dsimp -implicitDefEqProofs) rfl rfl (by simp) (by simp[kE]) rfl rfl,qH (rows:=r.yRZ.yR7.map qC) (by simp -dsimp -implicitDefEqProofs) rfl rfl (by simp) (by simp[kE]) rfl rfl,qH (rows:=r.Book.map ySb.enc) (by simp -dsimp -implicitDefEqProofs) rfl rfl (by simp) (by simp[kE]) rfl rfl,yd8 (rows:=r.yR1.map yR2.iD) (by simp -dsimp -implicitDefEqProofs) rfl rfl rfl (by simp) (by simp[jD]) rfl rfl,sS rfl,sS rfl,sS rfl,trivial⟩ (by simp[kQ]) ?_
 have v9:0<=wm9 r 1:=by have:=wkB r (k:=1) (by omega);obtain⟨b0,b1,b2,b3,b4,b5,b6,b7,b8,b9⟩:=this;omega
 have n2:(wm9 r 1<0)=False:=by simp;omega
 refine eP ?_;have hH:=ytf r 1 (by omega) (by omega);unfold yFH at hH;refine mD (hH) (by simp -dsimp -implicitDefEqProofs [yaQ,yxi,lM ynZ,lM yqD,lM yl8,lM yhP,lM yjF,lM yjl]) rfl (eU n2 ?_);refine dD (yhw x0 hl0) (eP ?_);refine dD hP (eP ?_);refine mD (yds r r) (by simp -dsimp -implicitDefEqProofs [jA,eF Reach.bF,eF yR8.bF,eF oV,eF yRT.bF,eF yR2.bF,eF yR4.bF]) rfl (eP ?_);refine mD (hH) (by simp -dsimp -implicitDefEqProofs [yaQ,yxi,lM ynZ,lM yqD,lM yl8,lM yhP,lM yjF,lM yjl]) rfl ?_;exact yafA n2
def yUn(x:yRW)(q:Int):Nat->yRW
 |0=>x
 |k+1=>ySY (yUn x q k) q
def yS6(x:yRW)(q n:Int):yRW:=if inRange n 0 2000 then yUn x q n.toNat else x
def yUq{x:yRW}{q:Int}(h:x.small):∀k:Nat,(yUn x q k).small
 |0=>h
 |k+1=>yXi (yUq h k)
def yVv(x:yRW)(q n:Int)(hs:x.small):nI prg 15 [.agg (x.enc.map .c),.c (.i q),.c (.i n)] (.agg ((yS6 x q n).iD.map .c)):=by
 refine fF yU5 (eP ?_);refine yYq (iC n 0 2000) ?_;cases hin:inRange n 0 2000 with
 |false=>
  have e:yS6 x q n=x:=by simp[yS6,hin]
  rw[e];refine eP ?_;refine yX3 (yuq x hs) (dP (yRW.aF _)) ?_;exact goU_
 |true=>
 have hr:=aC.1 hin;obtain⟨m,rfl⟩:=zbE hr.1;have e:yS6 x q m=yUn x q m:=by simp[yS6,hin]
 rw[e];refine eP ?_;refine yX2 (λk=>k<=m) (λk=>xC [(1,.c (.i q)),(3,.box 3 0),(6,.box 6 0),(9,.c (.i m)),(10,.c (.i k))] [(3,.box ((yUn x q k).enc.map .c)),(6,zW)]) (λk=>m-k) (by apply aB<;>simp[yUn]) ?_
 rintro k hk
 have sk:=yUq (q:=q) hs k;rcases zan k m with klt|kge
 .have hc:=yXT (yUn x q k) q sk;have e:yUn x q (k+1)=ySY (yUn x q k) q:=rfl;rw[<-e]at hc;generalize yUn x q (k+1)=v at *;refine eU (fC klt) ?_;refine yYp hc (eP ?_);refine⟨by unfold inI;omega,k+1,klt,by omega,?_⟩;have e2:yUn x q (k+1)=v:=e.symm▸rfl;apply aB<;>simp[e2]
 .obtain rfl:k=m:=by omega
  refine eU (aG kge) ?_;refine yX3 (yuq _ sk) (dP (yRW.aF _)) ?_;exact goU_
def yVu(x:yRW)(q n:Int)(hs:x.small):qB prg 42 [.agg (x.enc.map .c),.c (.i q),.c (.i n)] (.agg ((yS6 x q n).enc.map .c)):=by
 have hco:qB prg 50 [.agg (x.enc.map .c)] (.agg (x.enc.map .c)):=(yDS x hs).pure (by simp[AV.shr,AV.yoE,dO,C.shr,eF yHe,show yaq (x.yRX.map yR8.enc)=some (x.yRX.map yR8.enc)from ycb x.yRX,yRW.qX]);refine dB yU6 (eP ?_);refine yYp hco (eP ?_);refine yYq (bC n 0 2000) ?_;cases hin:inRange n 0 2000 with
 |false=>
  have e:yS6 x q n=x:=by simp[yS6,hin]
  rw[e];exact goE_
 |true=>
 have hr:=aC.1 hin;obtain⟨m,rfl⟩:=zbE hr.1;have e:yS6 x q m=yUn x q m:=by simp[yS6,hin]
 rw[e];refine eP ?_;refine yX2 (λk=>k<=m) (λk=>xC [(1,.c (.i q)),(2,.c (.i m)),(3,.box 3 0),(6,.box 6 0),(7,.box 7 0),(8,.c (.i k))] [(3,.box (x.enc.map .c)),(6,zW),(7,.box ((yUn x q k).enc.map .c))]) (λk=>m-k) (by apply aB<;>simp[yUn]) ?_
 rintro k hk
 have sk:=yUq (q:=q) hs k;rcases zan k m with klt|kge
 .have hc:=yVe (yUn x q k) q sk;have e:yUn x q (k+1)=ySY (yUn x q k) q:=rfl;rw[<-e]at hc;generalize yUn x q (k+1)=v at *;refine eU (fC klt) ?_;refine yYp hc (eP ?_);refine⟨by unfold inI;omega,k+1,klt,by omega,?_⟩;have e2:yUn x q (k+1)=v:=e.symm▸rfl;apply aB<;>simp[e2]
 .obtain rfl:k=m:=by omega
  exact yafA (aG kge)
def yWV{x:yRW}{q:Int}(hs:x.small)(h:kV x<=9007199254740992):∀k,kV (yUn x q k)<=9007199254740992
 |0=>h
 |k+1=>yVw (yUq hs k) (yWV hs h k)
def yVp(x:yRW)(q n:Int)(hs:x.small)(h:kV x<=1048576):wm9 (yS6 x q n) 1<=4000000000000000000:=by
 have h2:kV (yS6 x q n)<=9007199254740992:=by
  unfold yS6;split
  .exact yWV hs (by omega) _
  .omega
 have:=yGL (yS6 x q n) 1;omega
def yUE(x0:yRW)(x1:Int)(x2:Int):qB prg 8 [.agg (x0.enc.map .c),.c (.i x1),.c (.i x2)] (.c (.b true)):=by
 refine dB yT0 (eP ?_);refine aA (ywn x0 1048576 (by omega) (by omega)) (eP ?_);intro hsz0;have hl0:=yGx ysM (by omega) (by omega) hsz0;have ht:=yrn x0 1048576 (by omega) (by omega) hsz0;have hwm:=yGL x0 1;have hO:=yVv x0 x1 x2 hl0;have hS:=yVu x0 x1 x2 hl0;have hM:=yVp x0 x1 x2 (by omega);refine dD (yhw x0 hl0) (eP ?_);refine dD hS ?_;generalize yS6 x0 x1 x2=r at *;refine eP ?_;refine yX3 (yzm x0 hl0) (dP (yRW.aF x0)) (eP ?_);have hP:qB prg 15 [.agg (x0.enc.map .c),.c (.i x1),.c (.i x2)] (.agg (r.enc.map .c)):=hO.pure (by simp[AV.shr,AV.yoE,dO,C.shr,eF Reach.bF,eF yR8.bF,eF oV,eF yRT.bF,eF yR2.bF]);refine sD hO (by simp -dsimp -implicitDefEqProofs [jA,eF Reach.bF,eF yR8.bF,eF oV,eF yRT.bF,eF yR2.bF,eF yR4.bF]) (dP (yRW.aF r)) (by simp[fD]) (eP ?_);refine mD (yds r r) (by simp -dsimp -implicitDefEqProofs [jA,eF Reach.bF,eF yR8.bF,eF oV,eF yRT.bF,eF yR2.bF,eF yR4.bF]) rfl (eP ?_);refine gX (yhw x0 hl0) (eP ?_);refine⟨_,_,yds x0 x0,by simp -dsimp -implicitDefEqProofs [jA,eF Reach.bF,eF yR8.bF,eF oV,eF yRT.bF,eF yR2.bF,eF yR4.bF],.inr rfl,eP ?_⟩
 refine yfZ (ups:=[none,some (20026,.tr 3 1 (dH rY aH 1 x0.yRV)),some (30026,.row 2 (marked yaj 2 [] (wm1 x0 1) x0.ySl.length)),some (40026,.tr 22 1 (dH yax iI (wm2 x0 1) x0.yRX)),some (50026,.tr 1 1 (dH xU kG (wm3 x0 1) x0.yR3)),some (60026,.tr 2 1 (dH pR jC (wm4 x0 1) x0.yR9)),some (70026,.row 1 (marked qC 1 [] (wm5 x0 1) x0.ySd.length)),none,none,some (100026,.row 1 (marked qC 1 [] (wm6 x0 1) x0.yRZ.yR5.length)),some (110026,.row 1 (marked qC 1 [] (wm6 x0 1+x0.yRZ.yR5.length) x0.yRZ.yR7.length)),some (120026,.row 5 (marked ylw 5 [] (wm7 x0 1) x0.Book.length)),some (130026,.tr 4 1 (dH iR sF (wm8 x0 1) x0.yR1)),none,none,none]) (ykI x0 1 (by omega) (by omega)) (by simp -dsimp -implicitDefEqProofs) rfl rfl
  ⟨sS rfl,yd8 (rows:=x0.yRV.map Reach.iD) (by simp -dsimp -implicitDefEqProofs) rfl rfl rfl (by simp) (by simp[jD]) rfl rfl,qH (rows:=x0.ySl.map Way.enc) (by simp -dsimp -implicitDefEqProofs) rfl rfl (by simp) (by simp[kE]) rfl rfl,yd8 (rows:=x0.yRX.map yR8.iD) (by simp -dsimp -implicitDefEqProofs) rfl rfl rfl (by simp) (by simp[jD]) rfl rfl,yd8 (rows:=x0.yR3.map xG) (by simp -dsimp -implicitDefEqProofs) rfl rfl rfl (by simp) (by simp[jD]) rfl rfl,yd8 (rows:=x0.yR9.map yRT.iD) (by simp -dsimp -implicitDefEqProofs) rfl rfl rfl (by simp) (by simp[jD]) rfl rfl,qH (rows:=x0.ySd.map qC) (by simp -dsimp -implicitDefEqProofs) rfl rfl (by simp) (by simp[kE]) rfl rfl,sS rfl,sS rfl,qH (rows:=x0.yRZ.yR5.map qC) (by simp -dsimp -implicitDefEqProofs) rfl rfl (by simp) (by simp[kE]) rfl rfl,qH (rows:=x0.yRZ.yR7.map qC) (by simp -dsimp -implicitDefEqProofs) rfl rfl (by simp) (by simp[kE]) rfl rfl,qH (rows:=x0.Book.map ySb.enc) (by simp -dsimp -implicitDefEqProofs) rfl rfl (by simp) (by simp[kE]) rfl rfl,yd8 (rows:=x0.yR1.map yR2.iD) (by simp -dsimp -implicitDefEqProofs) rfl rfl rfl (by simp) (by simp[jD]) rfl rfl,sS rfl,sS rfl,sS rfl,trivial⟩ (by simp[kQ]) ?_
 have w9:0<=wm9 x0 1:=by have:=wkB x0 (k:=1) (by omega);obtain⟨b0,b1,b2,b3,b4,b5,b6,b7,b8,b9⟩:=this;omega
 have n1:(wm9 x0 1<0)=False:=by simp;omega
 refine eU n1 ?_;refine mD (yds r r) (by simp -dsimp -implicitDefEqProofs [jA,eF Reach.bF,eF yR8.bF,eF oV,eF yRT.bF,eF yR2.bF,eF yR4.bF]) rfl (eP ?_)
 refine yfZ (ups:=[none,some (20030,.tr 3 1 (dH rY aH 1 r.yRV)),some (30030,.row 2 (marked yaj 2 [] (wm1 r 1) r.ySl.length)),some (40030,.tr 22 1 (dH yax iI (wm2 r 1) r.yRX)),some (50030,.tr 1 1 (dH xU kG (wm3 r 1) r.yR3)),some (60030,.tr 2 1 (dH pR jC (wm4 r 1) r.yR9)),some (70030,.row 1 (marked qC 1 [] (wm5 r 1) r.ySd.length)),none,none,some (100030,.row 1 (marked qC 1 [] (wm6 r 1) r.yRZ.yR5.length)),some (110030,.row 1 (marked qC 1 [] (wm6 r 1+r.yRZ.yR5.length) r.yRZ.yR7.length)),some (120030,.row 5 (marked ylw 5 [] (wm7 r 1) r.Book.length)),some (130030,.tr 4 1 (dH iR sF (wm8 r 1) r.yR1)),none,none,none]) (ykI r 1 (by omega) (by omega)) (by simp -dsimp -implicitDefEqProofs) rfl rfl
  ⟨sS rfl,yd8 (rows:=r.yRV.map Reach.iD) (by simp -dsimp -implicitDefEqProofs) rfl rfl rfl (by simp) (by simp[jD]) rfl rfl,qH (rows:=r.ySl.map Way.enc) (by simp -dsimp -implicitDefEqProofs) rfl rfl (by simp) (by simp[kE]) rfl rfl,yd8 (rows:=r.yRX.map yR8.iD) (by simp -dsimp -implicitDefEqProofs) rfl rfl rfl (by simp) (by simp[jD]) rfl rfl,yd8 (rows:=r.yR3.map xG) (by simp -dsimp -implicitDefEqProofs) rfl rfl rfl (by simp) (by simp[jD]) rfl rfl,yd8 (rows:=r.yR9.map yRT.iD) (by simp -dsimp -implicitDefEqProofs) rfl rfl rfl (by simp) (by simp[jD]) rfl rfl,qH (rows:=r.ySd.map qC) (by simp -dsimp -implicitDefEqProofs) rfl rfl (by simp) (by simp[kE]) rfl rfl,sS rfl,sS rfl,qH (rows:=r.yRZ.yR5.map qC) (by simp -dsimp -implicitDefEqProofs) rfl rfl (by simp) (by simp[kE]) rfl rfl,qH (rows:=r.yRZ.yR7.map qC) (by simp -dsimp -implicitDefEqProofs) rfl rfl (by simp) (by simp[kE]) rfl rfl,qH (rows:=r.Book.map ySb.enc) (by simp -dsimp -implicitDefEqProofs) rfl rfl (by simp) (by simp[kE]) rfl rfl,yd8 (rows:=r.yR1.map yR2.iD) (by simp -dsimp -implicitDefEqProofs) rfl rfl rfl (by simp) (by simp[jD]) rfl rfl,sS rfl,sS rfl,sS rfl,trivial⟩ (by simp[kQ]) ?_
 have v9:0<=wm9 r 1:=by have:=wkB r (k:=1) (by omega);obtain⟨b0,b1,b2,b3,b4,b5,b6,b7,b8,b9⟩:=this;omega
 have n2:(wm9 r 1<0)=False:=by simp;omega
 refine eP ?_;have hH:=ytf r 1 (by omega) (by omega);unfold yFH at hH;refine mD (hH) (by simp -dsimp -implicitDefEqProofs [yaQ,yxi,lM ynZ,lM yqD,lM yl8,lM yhP,lM yjF,lM yjl]) rfl (eU n2 ?_);refine dD (yhw x0 hl0) (eP ?_);refine dD hP (eP ?_);refine mD (yds r r) (by simp -dsimp -implicitDefEqProofs [jA,eF Reach.bF,eF yR8.bF,eF oV,eF yRT.bF,eF yR2.bF,eF yR4.bF]) rfl (eP ?_);refine mD (hH) (by simp -dsimp -implicitDefEqProofs [yaQ,yxi,lM ynZ,lM yqD,lM yl8,lM yhP,lM yjF,lM yjl]) rfl ?_;exact yafA n2
def yEd{xs:List C}(h:Fits [.i,.i,.i,.i,.i] xs):∃e:ySb,xs=e.enc:=by
 obtain⟨c0,ys,rfl,h0,h⟩:=h.cons_inv;obtain⟨c1,ys,rfl,h1,h⟩:=h.cons_inv;obtain⟨c2,ys,rfl,h2,h⟩:=h.cons_inv;obtain⟨c3,ys,rfl,h3,h⟩:=h.cons_inv;obtain⟨c4,ys,rfl,h4,h⟩:=h.cons_inv;obtain rfl:=h.gW;obtain⟨n0,rfl⟩:=h0.nJ;obtain⟨n1,rfl⟩:=h1.nJ;obtain⟨n2,rfl⟩:=h2.nJ;obtain⟨n3,rfl⟩:=h3.nJ;obtain⟨n4,rfl⟩:=h4.nJ;exact⟨⟨n0,n1,n2,n3,n4⟩,rfl⟩
def yn2{xs:List C}(h:Fits [.i] xs):∃n:Int,xs=qC n:=by
 obtain⟨c0,ys,rfl,h0,h⟩:=h.cons_inv;obtain rfl:=h.gW;obtain⟨n0,rfl⟩:=h0.nJ;exact⟨n0,rfl⟩
def yIP{xs:List C}(h:Fits [.i,.i] xs):∃e:Way,xs=e.enc:=by
 obtain⟨c0,ys,rfl,h0,h⟩:=h.cons_inv;obtain⟨c1,ys,rfl,h1,h⟩:=h.cons_inv;obtain rfl:=h.gW;obtain⟨n0,rfl⟩:=h0.nJ;obtain⟨n1,rfl⟩:=h1.nJ;exact⟨⟨n0,n1⟩,rfl⟩
def yGh{xs:List C}(h:Fits [.i,.i,.i,.i,.i,.i] xs):∃e:ySa,xs=e.enc:=by
 obtain⟨c0,ys,rfl,h0,h⟩:=h.cons_inv;obtain⟨c1,ys,rfl,h1,h⟩:=h.cons_inv;obtain⟨c2,ys,rfl,h2,h⟩:=h.cons_inv;obtain⟨c3,ys,rfl,h3,h⟩:=h.cons_inv;obtain⟨c4,ys,rfl,h4,h⟩:=h.cons_inv;obtain⟨c5,ys,rfl,h5,h⟩:=h.cons_inv;obtain rfl:=h.gW;obtain⟨n0,rfl⟩:=h0.nJ;obtain⟨n1,rfl⟩:=h1.nJ;obtain⟨n2,rfl⟩:=h2.nJ;obtain⟨n3,rfl⟩:=h3.nJ;obtain⟨n4,rfl⟩:=h4.nJ;obtain⟨n5,rfl⟩:=h5.nJ;exact⟨⟨n0,n1,n2,n3,n4,n5⟩,rfl⟩
def yll{xs:List C}(h:Fits [.sl [.i,.i,.i,.i,.i,.i]] xs):∃e:List ySa,xs=jE e:=by
 obtain⟨c0,ys,rfl,h0,h⟩:=h.cons_inv;obtain rfl:=h.gW;obtain⟨n0,rfl⟩:=h0.tV ySa.enc λ_ h=>yGh h;exact⟨n0,rfl⟩
end
end Go.Proofs.YtdadkiofenhnbaaGreat
