/- What the law FnExactWorkLock stands on: contracts of functions, what each answers as plain Lean, in short form (names, layout). -/
import Derived.Test.YtekgilpcgbbfcaaGreatSExactWorkLock12
set_option linter.all false
set_option maxRecDepth 100000
set_option maxHeartbeats 4000000
namespace Go.Proofs.YtekgilpcgbbfcaaGreat
open Go.RowKit
open Go.ChangeShapes Go.WideShapes
noncomputable section
def yD5(x:yRW)(k:Nat)(hs:x.small)(F:ySq x k)(hok:rC x=true)(mr:List (List C))(hms:yaq mr=some (x.yR3.map nD)):
 InF prg 61 (.c (.bx (x.qX (bM x.yRX) mr))) (.c (.bx ((qM x k).qX (bM (qM x k).yRX) mr))) [.c (.i k)] (.tup []):=by
 have kw:=F.kw;have kr:=F.kr;have sw:=F.sw;have rl:=F.rl;have hmr:mr.length=x.yR3.length:=by have:=(yoU hms).1;simpa using this.symm
 have htm:List.take x.yR3.length mr=mr:=zad (by omega);have hw:=yi4 F.kw;have ha:=ye8 (rs:=x.yRV) (k:=k) (by omega);have hb:=ye8 kr;have hA:=yiz x k hs;rw[ytL hok ⟨hw,ha,hb,F.wok,by have:=(yjV hok).wks;have:=(yjV hok).two;omega⟩]at hA;have hsm:=yhK (a:=dR x.yRV k) (b:=dR x.yRV (k+1)) sw;have hN:=ymP (able (dR x.yRV k) (dR x.yRV (k+1)) (dW x.yRX k)) (dW x.yRX k).Turn x.Time hsm;have hN2:ybZ x k=mW (able (dR x.yRV k) (dR x.yRV (k+1)) (dW x.yRX k)) (dW x.yRX k).Turn x.Time:=rfl;rw[<-hN2]at hN;generalize able (dR x.yRV k) (dR x.yRV (k+1)) (dW x.yRX k)=A at *;clear hN2;obtain⟨Y,hY⟩:∃Y,qM x k=Y:=⟨_,rfl⟩;rw[hY];unfold qM at hY;generalize ybZ x k=N at *;obtain⟨g,hg⟩:∃g,yan (dW x.yRX k) N=g:=⟨_,rfl⟩;rw[hg]at hY;have hg12:g=1\/g=2:=by rw[<-hg];unfold yan;split<;>omega
 have hsl:lI k g<x.yRV.length:=by unfold lI;split<;>omega
 have hr:=ye8 hsl;have hsr:=hs.1.2 _ (zac hr);have hO:=yvJ (dW x.yRX k).yR0 (dR x.yRV k) (dR x.yRV (k+1)) g sw.1;have hCh:=iQ (dW x.yRX k).yR0 sw.1;have hLv:=dN (dR x.yRV (lI k g));have hFi:=ywg (dW x.yRX k).yR0 (dR x.yRV (lI k g)) sw.1 hsr;have hDr:=yvo (dW x.yRX k).yR0 (dR x.yRV (lI k g)) sw.1 hsr;have hWT:yls x k g=if(opening x k g).2 then rD x k (rH (dW x.yRX k) (opening x k g).1)else qJ (rD x k (rH (dW x.yRX k) (jT (dW x.yRX k).yR0 (dR x.yRV (lI k g))).1)) (lI k g) (jT (dW x.yRX k).yR0 (dR x.yRV (lI k g))).2:=rfl
 have hO2:tK (dW x.yRX k).yR0 (dR x.yRV k) (dR x.yRV (k+1)) g=opening x k g:=rfl;have hLe:jT (dW x.yRX k).yR0 (dR x.yRV (lI k g))=if bG (dW x.yRX k).yR0<kD (dR x.yRV (lI k g))then mM (dW x.yRX k).yR0 (dR x.yRV (lI k g))else rJ (dW x.yRX k).yR0 (dR x.yRV (lI k g)):=rfl
 rw[hO2]at hO;rw[hWT]at hY;clear hWT hO2;generalize opening x k g=O at *;generalize jT (dW x.yRX k).yR0 (dR x.yRV (lI k g))=L at *;generalize mM (dW x.yRX k).yR0 (dR x.yRV (lI k g))=Fi at *;generalize rJ (dW x.yRX k).yR0 (dR x.yRV (lI k g))=Dr at *;have hsd:lI k g=if g=1 then k else k+1:=rfl
 generalize lI k g=sd at *;generalize bG (dW x.yRX k).yR0=cl at *;generalize kD (dR x.yRV sd)=lv at *;generalize dR x.yRV sd=rs at *;generalize dR x.yRV k=ra at *;generalize dR x.yRV (k+1)=rb at *;generalize dW x.yRX k=w at *;have hsw:=λl=>@yk6 x.yRX k (rH w l);simp only[yR8.enc,rH]at hsw;have aw:=yt5 hw;simp only[yR8.enc]at aw;have gaw:=(zab.1 aw).2;have ga:=(zab.1 ha).2;have gb:=(zab.1 hb).2;have gr:=(zab.1 hr).2;have ka:k<x.yRV.length:=by omega
 have hwl:=ygI (ws:=x.yRX);have kwl:k<(bM x.yRX).length:=by rw[hwl];exact kw
 have htw:∀ws:List yR8,ws.length=x.yRX.length->List.take x.yRX.length (bM ws)=bM ws:=λws h=>zad (by rw[ygI];omega);have htw0:=htw x.yRX rfl;have htw1:=λv=>htw (x.yRX.set k v) (by simp);have hts:∀(i:Nat) (X:List C),List.take x.yRV.length ((x.yRV.map Reach.enc).set i X)=(x.yRV.map Reach.enc).set i X:=λi X=>zad (by simp);have hrs:=ycb x.yRX;rw[yo2]at hrs;have hre:=yo2 x.yRX;obtain⟨n1,n2⟩:=N;refine ycN yvg (by simp) (by simp[yRW.qX]) rfl λhwf=>?_;simp -dsimp -implicitDefEqProofs [ykd,yRW.qX,aw,gaw,hwl,kw,fC kw];refine pJ hA (by simp -dsimp -implicitDefEqProofs [jA,hms,htm,hrs,hre]) (iJ yR4.aF _ _) (by simp[fD]) ?_;simp -dsimp -implicitDefEqProofs [aw,gaw,hwl,kw];refine nC (hN) (by simp -dsimp -implicitDefEqProofs [eF yR4.bF,jA]) (.inr rfl) ?_;simp -dsimp -implicitDefEqProofs
 have hcase:(w.yR0.yRY=[]/\n2=false)\/(∃u,(w.yR0.yRY=[]/\n2=true/\n1= !u)/\g=if u then 1 else 2)\/(∃u t,(w.yR0.yRY[0]?=some t/\t.Up=u)/\g=if u then 1 else 2):=by
  by_cases hI:w.yR0.yRY=[]
  .cases h2:n2 with
   |false=>exact .inl ⟨hI,rfl⟩
   |true=>exact .inr (.inl ⟨!n1,⟨hI,rfl,by simp⟩,by rw[<-hg];simp[yan,yoI,hI]⟩)
  .obtain⟨t,ht⟩:∃t,w.yR0.yRY[0]?=some t:=⟨_,zaa (zbv.2 hI)⟩;exact .inr (.inr ⟨t.Up,t,⟨ht,rfl⟩,by rw[<-hg];simp[yan,yoI,hI,zak,ht]⟩)
 rcases hcase with⟨hI,h2⟩|⟨u,⟨hI,h2,h1⟩,hgu⟩|⟨u,t,⟨ht,hu⟩,hgu⟩
 .have hre:rests w (n1,n2)=true:=by simp[rests,hI,h2]
  rw[if_pos hre]at hY;subst hY h2;simp -dsimp -implicitDefEqProofs [hI,aw,gaw,hwl,kw,kwl];refine⟨by simp -dsimp -implicitDefEqProofs,⟨bD x x.Book x.yR1.length,[20000,40000,50000,130000],by simp -dsimp -implicitDefEqProofs [bD,hwl,hmr],?_,by decide⟩,⟨[],rfl,trivial⟩⟩;simp -dsimp -implicitDefEqProofs [bD,jA,htm,htw0]
 .have hre:rests w (!u,true)=false:=by simp[rests,hI]
  have i1:(0<w.yR0.yRY.length)=False:=eq_false (by rw[hI];simp);have i2:(w.yR0.yRY=[])=True:=eq_true hI;subst h2 h1;rw[if_neg (show¬rests w (!u,true)=true fromλh=>by rw[hre]at h;cases h)]at hY;cases u with
  | true=>
   simp only[if_true]at hgu;subst hgu;rw[if_pos rfl]at hsd;rw[hsd]at hr hsl hY;have hrr:rs=ra:=by rw[ha]at hr;exact(Option.some.inj hr).symm
   subst hrr;simp -dsimp -implicitDefEqProofs [i1,i2,ha,ga,ka,hb,gb,kr,aw,gaw,hwl,kw,kwl]
   refineλ_=>⟨by unfold inI;omega,by omega,by omega,?_⟩
   refine nC (hO) (by simp -dsimp -implicitDefEqProofs) (.inl rfl) ?_;simp -dsimp -implicitDefEqProofs [ha,ga,ka,hb,gb,kr,aw,gaw,hwl,kw,kwl,hsw];refine⟨λhO2=>?_,λhO2=>?_⟩
   .rw[hO2,if_pos rfl]at hY;refine⟨by simp -dsimp -implicitDefEqProofs,⟨bD x x.Book x.yR1.length,[20000,40000,50000,130000],by simp -dsimp -implicitDefEqProofs [bD,hwl,hmr],?_,by decide⟩,⟨[],rfl,trivial⟩⟩;simp -dsimp -implicitDefEqProofs [<-hY,bD,jA,htm,htw0,rD,qJ,hwl,hsw,htw1,hts]
   .rw[hO2,if_neg zaO]at hY;refine nC (hCh) (by simp -dsimp -implicitDefEqProofs) (.inr rfl) ?_;simp -dsimp -implicitDefEqProofs [ha,ga,ka,hb,gb,kr,aw,gaw,hwl,kw,kwl];refine nC (hLv) (by simp -dsimp -implicitDefEqProofs) (.inr rfl) ?_;simp -dsimp -implicitDefEqProofs [ha,ga,ka,hb,gb,kr,aw,gaw,hwl,kw,kwl];refine⟨λhlt=>?_,λhlt=>?_⟩
    .rw[if_pos hlt]at hLe;rw[hLe]at hY;refine nC (hFi) (by simp -dsimp -implicitDefEqProofs) (.inl rfl) ?_;simp -dsimp -implicitDefEqProofs [ha,ga,ka,hb,gb,kr,aw,gaw,hwl,kw,kwl,hsw];refine⟨by simp -dsimp -implicitDefEqProofs,⟨bD x x.Book x.yR1.length,[20000,40000,50000,130000],by simp -dsimp -implicitDefEqProofs [bD,hwl,hmr],?_,by decide⟩,⟨[],rfl,trivial⟩⟩;simp -dsimp -implicitDefEqProofs [<-hY,bD,jA,htm,htw0,rD,qJ,hwl,hsw,htw1,hts]
    .rw[if_neg (show¬cl<lv by omega)]at hLe;rw[hLe]at hY;refine nC (hDr) (by simp -dsimp -implicitDefEqProofs) (.inl rfl) ?_;simp -dsimp -implicitDefEqProofs [ha,ga,ka,hb,gb,kr,aw,gaw,hwl,kw,kwl,hsw];refine⟨by simp -dsimp -implicitDefEqProofs,⟨bD x x.Book x.yR1.length,[20000,40000,50000,130000],by simp -dsimp -implicitDefEqProofs [bD,hwl,hmr],?_,by decide⟩,⟨[],rfl,trivial⟩⟩;simp -dsimp -implicitDefEqProofs [<-hY,bD,jA,htm,htw0,rD,qJ,hwl,hsw,htw1,hts]
  | false=>
   simp only[zbz,if_false]at hgu;subst hgu;rw[if_neg (show¬(2:Int)=1 from by decide)]at hsd;rw[hsd]at hr hsl hY;have hrr:rs=rb:=by rw[hb]at hr;exact(Option.some.inj hr).symm
   subst hrr;simp -dsimp -implicitDefEqProofs [i1,i2,ha,ga,ka,hb,gb,kr,aw,gaw,hwl,kw,kwl]
   refineλ_=>⟨by unfold inI;omega,by omega,by omega,?_⟩
   refine nC (hO) (by simp -dsimp -implicitDefEqProofs) (.inl rfl) ?_;simp -dsimp -implicitDefEqProofs [ha,ga,ka,hb,gb,kr,aw,gaw,hwl,kw,kwl,hsw];refine⟨λhO2=>?_,λhO2=>?_⟩
   .rw[hO2,if_pos rfl]at hY;refine⟨by simp -dsimp -implicitDefEqProofs,⟨bD x x.Book x.yR1.length,[20000,40000,50000,130000],by simp -dsimp -implicitDefEqProofs [bD,hwl,hmr],?_,by decide⟩,⟨[],rfl,trivial⟩⟩;simp -dsimp -implicitDefEqProofs [<-hY,bD,jA,htm,htw0,rD,qJ,hwl,hsw,htw1,hts]
   .rw[hO2,if_neg zaO]at hY;refine nC (hCh) (by simp -dsimp -implicitDefEqProofs) (.inr rfl) ?_;simp -dsimp -implicitDefEqProofs [ha,ga,ka,hb,gb,kr,aw,gaw,hwl,kw,kwl];refine⟨by omega,by omega,?_⟩;refine nC (hLv) (by simp -dsimp -implicitDefEqProofs) (.inr rfl) ?_;simp -dsimp -implicitDefEqProofs [ha,ga,ka,hb,gb,kr,aw,gaw,hwl,kw,kwl];refine⟨λhlt=>?_,λhlt=>?_⟩
    .rw[if_pos hlt]at hLe;rw[hLe]at hY;refine⟨by omega,by omega,?_⟩;refine nC (hFi) (by simp -dsimp -implicitDefEqProofs) (.inl rfl) ?_;simp -dsimp -implicitDefEqProofs [ha,ga,ka,hb,gb,kr,aw,gaw,hwl,kw,kwl,hsw];refine⟨by omega,by omega,?_⟩;refine⟨by simp -dsimp -implicitDefEqProofs,⟨bD x x.Book x.yR1.length,[20000,40000,50000,130000],by simp -dsimp -implicitDefEqProofs [bD,hwl,hmr],?_,by decide⟩,⟨[],rfl,trivial⟩⟩;simp -dsimp -implicitDefEqProofs [<-hY,bD,jA,htm,htw0,rD,qJ,hwl,hsw,htw1,hts]
    .rw[if_neg (show¬cl<lv by omega)]at hLe;rw[hLe]at hY;refine⟨by omega,by omega,?_⟩;refine nC (hDr) (by simp -dsimp -implicitDefEqProofs) (.inl rfl) ?_;simp -dsimp -implicitDefEqProofs [ha,ga,ka,hb,gb,kr,aw,gaw,hwl,kw,kwl,hsw];refine⟨by omega,by omega,?_⟩;refine⟨by simp -dsimp -implicitDefEqProofs,⟨bD x x.Book x.yR1.length,[20000,40000,50000,130000],by simp -dsimp -implicitDefEqProofs [bD,hwl,hmr],?_,by decide⟩,⟨[],rfl,trivial⟩⟩;simp -dsimp -implicitDefEqProofs [<-hY,bD,jA,htm,htw0,rD,qJ,hwl,hsw,htw1,hts]
 .have hre:rests w (n1,n2)=false:=by
   have:w.yR0.yRY≠[]:=λh=>by rw[h]at ht;cases ht
   simp[rests,this]
  have gt:=(zab.1 ht).2;have i1:(0<w.yR0.yRY.length)=True:=eq_true (zab.1 ht).1;have i2:(w.yR0.yRY=[])=False:=eq_false λh=>by rw[h]at ht;cases ht
  rw[if_neg (show¬rests w (n1,n2)=true fromλh=>by rw[hre]at h;cases h)]at hY;cases u with
  | true=>
   simp only[if_true]at hgu;subst hgu;rw[if_pos rfl]at hsd;rw[hsd]at hr hsl hY;have hrr:rs=ra:=by rw[ha]at hr;exact(Option.some.inj hr).symm
   subst hrr;simp -dsimp -implicitDefEqProofs [i1,i2,ht,gt,hu,ha,ga,ka,hb,gb,kr,aw,gaw,hwl,kw,kwl];refine⟨λ_=>?_,λ_=>?_⟩
   all_goals
    refineλ_=>⟨by unfold inI;omega,by omega,by omega,?_⟩
    refine nC (hO) (by simp -dsimp -implicitDefEqProofs) (.inl rfl) ?_;simp -dsimp -implicitDefEqProofs [ha,ga,ka,hb,gb,kr,aw,gaw,hwl,kw,kwl,hsw];refine⟨λhO2=>?_,λhO2=>?_⟩
    .rw[hO2,if_pos rfl]at hY;refine⟨by simp -dsimp -implicitDefEqProofs,⟨bD x x.Book x.yR1.length,[20000,40000,50000,130000],by simp -dsimp -implicitDefEqProofs [bD,hwl,hmr],?_,by decide⟩,⟨[],rfl,trivial⟩⟩;simp -dsimp -implicitDefEqProofs [<-hY,bD,jA,htm,htw0,rD,qJ,hwl,hsw,htw1,hts]
    .rw[hO2,if_neg zaO]at hY;refine nC (hCh) (by simp -dsimp -implicitDefEqProofs) (.inr rfl) ?_;simp -dsimp -implicitDefEqProofs [ha,ga,ka,hb,gb,kr,aw,gaw,hwl,kw,kwl];refine nC (hLv) (by simp -dsimp -implicitDefEqProofs) (.inr rfl) ?_;simp -dsimp -implicitDefEqProofs [ha,ga,ka,hb,gb,kr,aw,gaw,hwl,kw,kwl];refine⟨λhlt=>?_,λhlt=>?_⟩
     .rw[if_pos hlt]at hLe;rw[hLe]at hY;refine nC (hFi) (by simp -dsimp -implicitDefEqProofs) (.inl rfl) ?_;simp -dsimp -implicitDefEqProofs [ha,ga,ka,hb,gb,kr,aw,gaw,hwl,kw,kwl,hsw];refine⟨by simp -dsimp -implicitDefEqProofs,⟨bD x x.Book x.yR1.length,[20000,40000,50000,130000],by simp -dsimp -implicitDefEqProofs [bD,hwl,hmr],?_,by decide⟩,⟨[],rfl,trivial⟩⟩;simp -dsimp -implicitDefEqProofs [<-hY,bD,jA,htm,htw0,rD,qJ,hwl,hsw,htw1,hts]
     .rw[if_neg (show¬cl<lv by omega)]at hLe;rw[hLe]at hY;refine nC (hDr) (by simp -dsimp -implicitDefEqProofs) (.inl rfl) ?_;simp -dsimp -implicitDefEqProofs [ha,ga,ka,hb,gb,kr,aw,gaw,hwl,kw,kwl,hsw];refine⟨by simp -dsimp -implicitDefEqProofs,⟨bD x x.Book x.yR1.length,[20000,40000,50000,130000],by simp -dsimp -implicitDefEqProofs [bD,hwl,hmr],?_,by decide⟩,⟨[],rfl,trivial⟩⟩;simp -dsimp -implicitDefEqProofs [<-hY,bD,jA,htm,htw0,rD,qJ,hwl,hsw,htw1,hts]
  | false=>
   simp only[zbz,if_false]at hgu;subst hgu;rw[if_neg (show¬(2:Int)=1 from by decide)]at hsd;rw[hsd]at hr hsl hY;have hrr:rs=rb:=by rw[hb]at hr;exact(Option.some.inj hr).symm
   subst hrr;simp -dsimp -implicitDefEqProofs [i1,i2,ht,gt,hu,ha,ga,ka,hb,gb,kr,aw,gaw,hwl,kw,kwl];refine⟨λ_=>?_,λ_=>?_⟩
   all_goals
    refineλ_=>⟨by unfold inI;omega,by omega,by omega,?_⟩
    refine nC (hO) (by simp -dsimp -implicitDefEqProofs) (.inl rfl) ?_;simp -dsimp -implicitDefEqProofs [ha,ga,ka,hb,gb,kr,aw,gaw,hwl,kw,kwl,hsw];refine⟨λhO2=>?_,λhO2=>?_⟩
    .rw[hO2,if_pos rfl]at hY;refine⟨by simp -dsimp -implicitDefEqProofs,⟨bD x x.Book x.yR1.length,[20000,40000,50000,130000],by simp -dsimp -implicitDefEqProofs [bD,hwl,hmr],?_,by decide⟩,⟨[],rfl,trivial⟩⟩;simp -dsimp -implicitDefEqProofs [<-hY,bD,jA,htm,htw0,rD,qJ,hwl,hsw,htw1,hts]
    .rw[hO2,if_neg zaO]at hY;refine nC (hCh) (by simp -dsimp -implicitDefEqProofs) (.inr rfl) ?_;simp -dsimp -implicitDefEqProofs [ha,ga,ka,hb,gb,kr,aw,gaw,hwl,kw,kwl];refine⟨by omega,by omega,?_⟩;refine nC (hLv) (by simp -dsimp -implicitDefEqProofs) (.inr rfl) ?_;simp -dsimp -implicitDefEqProofs [ha,ga,ka,hb,gb,kr,aw,gaw,hwl,kw,kwl];refine⟨λhlt=>?_,λhlt=>?_⟩
     .rw[if_pos hlt]at hLe;rw[hLe]at hY;refine⟨by omega,by omega,?_⟩;refine nC (hFi) (by simp -dsimp -implicitDefEqProofs) (.inl rfl) ?_;simp -dsimp -implicitDefEqProofs [ha,ga,ka,hb,gb,kr,aw,gaw,hwl,kw,kwl,hsw];refine⟨by omega,by omega,?_⟩;refine⟨by simp -dsimp -implicitDefEqProofs,⟨bD x x.Book x.yR1.length,[20000,40000,50000,130000],by simp -dsimp -implicitDefEqProofs [bD,hwl,hmr],?_,by decide⟩,⟨[],rfl,trivial⟩⟩;simp -dsimp -implicitDefEqProofs [<-hY,bD,jA,htm,htw0,rD,qJ,hwl,hsw,htw1,hts]
     .rw[if_neg (show¬cl<lv by omega)]at hLe;rw[hLe]at hY;refine⟨by omega,by omega,?_⟩;refine nC (hDr) (by simp -dsimp -implicitDefEqProofs) (.inl rfl) ?_;simp -dsimp -implicitDefEqProofs [ha,ga,ka,hb,gb,kr,aw,gaw,hwl,kw,kwl,hsw];refine⟨by omega,by omega,?_⟩;refine⟨by simp -dsimp -implicitDefEqProofs,⟨bD x x.Book x.yR1.length,[20000,40000,50000,130000],by simp -dsimp -implicitDefEqProofs [bD,hwl,hmr],?_,by decide⟩,⟨[],rfl,trivial⟩⟩;simp -dsimp -implicitDefEqProofs [<-hY,bD,jA,htm,htw0,rD,qJ,hwl,hsw,htw1,hts]
def ybD(l:List (List yR6)):List (List C):=l.map em
def ywU{l:List (List yR6)}:(ybD l).length=l.length:=by simp[ybD]
def yAV{l:List (List yR6)}{k:Nat}{ms:List yR6}(h:l[k]?=some ms):(ybD l)[k]?=some [.ow 3 (ms.map yR6.enc)]:=by unfold ybD;rw[zaA,h];rfl
def yw2(l:List (List yR6)):yaq (ybD l)=some (l.map nD):=eF yHe l
def yEL{l:List (List yR6)}{k:Nat}{ms:List yR6}{m:yR6}(h:l[k]?=some ms):setAt (setAt (ybD l) k 0 C.jk) k 0 (.ow 3 (ms.map yR6.enc++[m.enc]))=ybD (l.set k (ms++[m])):=by
 have hk:=yAV h;have kl:=(zab.1 hk).1;have gl:=(zab.1 hk).2;have e:setAt (setAt (ybD l) k 0 C.jk) k 0 (.ow 3 (ms.map yR6.enc++[m.enc]))=(ybD l).set k (em (ms++[m])):=by simp[setAt,gl,kl,em,hk]
 rw[e];unfold ybD;rw[zbk]
def yew(x:yRW)(k:Nat):yRW:=if(iK x k).2 then(iK x k).1 else if(bH x k).2 then(bH x k).1 else xY x k
def yo5(x:yRW)(k:Nat):List (List C):=if(iK x k).2 then bM (iK x k).1.yRX else if(bH x k).2 then(bM x.yRX).set k (wC (yj x k))else bM (xY x k).yRX
set_option maxHeartbeats 8000000 in
set_option maxRecDepth 40000 in
def yD1(x:yRW)(k:Nat)(hs:x.small)(F:ySq x k)(hok:rC x=true)(hg0:yag x k≠0):
 InF prg 62 (.c (.bx (x.qX (bM x.yRX) (ybD x.yR3)))) (.c (.bx ((yew x k).qX (yo5 x k) (ybD (yew x k).yR3)))) [.c (.i k)] (.tup []):=by
 have kw:=F.kw;have kr:=F.kr;have sw:=F.sw;have rl:=F.rl;have lok:=F.lok;have wyl:=F.ways;have mvl:=F.mvs;have hms:=yw2 x.yR3;have hmr:=ywU (l:=x.yR3);have htm:∀l:List (List yR6),l.length=x.yR3.length->List.take x.yR3.length (ybD l)=ybD l:=λl h=>zad (by rw[ywU];omega);have htm0:=htm x.yR3 rfl;have htm1:=λs (v:List yR6)=>htm (x.yR3.set s v) (by simp);have hw:=yi4 F.kw;have hsl:jM x k<x.yRV.length:=by unfold jM lI;split<;>omega
 have hr:=ye8 hsl;have hA:=yiz x k hs;have ha:=ye8 (rs:=x.yRV) (k:=k) (by omega);have hb:=ye8 kr;rw[ytL hok ⟨hw,ha,hb,F.wok,by have:=(yjV hok).wks;have:=(yjV hok).two;omega⟩]at hA;have hsm:=yhK (a:=dR x.yRV k) (b:=dR x.yRV (k+1)) sw;have hN:=ymP (able (dR x.yRV k) (dR x.yRV (k+1)) (dW x.yRX k)) (dW x.yRX k).Turn x.Time hsm;have hN2:ybZ x k=mW (able (dR x.yRV k) (dR x.yRV (k+1)) (dW x.yRX k)) (dW x.yRX k).Turn x.Time:=rfl;rw[<-hN2]at hN;generalize able (dR x.yRV k) (dR x.yRV (k+1)) (dW x.yRX k)=A at *;clear hN2 ha hb;have hLv:lW x k=sK (dW x.yRX k).yR0 (dR x.yRV (jM x k)):=rfl;have hLL:=yu6 (dW x.yRX k).yR0 (dR x.yRV (jM x k)) sw.1;rw[<-hLv]at hLL;have hSG:=ymz (dW x.yRX k).yR0 sw.1;rw[if_pos lok]at hSG;obtain⟨ms,hmm⟩:∃ms,x.yR3[jM x k]?=some ms:=⟨_,zaa (by omega)⟩;have h24:=F.few ms (zac hmm);obtain⟨wy,hwy⟩:∃wy,x.ySl[jM x k]?=some wy:=⟨_,zaa (by omega)⟩;have hIO:=yAu (dW x.yRX k).Pauses x.Time
 have yL:(lW x k).2.2=true->yew x k=oG (rD x k (rH (dW x.yRX k) (lW x k).1)) (jM x k) ⟨(lW x k).2.1,yfJ x k⟩/\yo5 x k=bM (x.yRX.set k (rH (dW x.yRX k) (lW x k).1)):=by
  intro h;have e:iK x k=(oG (rD x k (rH (dW x.yRX k) (lW x k).1)) (jM x k) ⟨(lW x k).2.1,yfJ x k⟩,true):=by unfold iK;rw[if_pos h]
  exact⟨by unfold yew;rw[e];rfl,by unfold yo5;rw[e];rfl⟩
 have yN:(lW x k).2.2=false->yew x k=(if(bH x k).2 then(bH x k).1 else xY x k)/\yo5 x k=(if(bH x k).2 then(bM x.yRX).set k (wC (yj x k))else bM (xY x k).yRX):=by
  intro h;have e:iK x k=(x,false):=by unfold iK;rw[if_neg (by rw[h];exact zaO)]
  exact⟨by unfold yew;rw[e];rfl,by unfold yo5;rw[e];rfl⟩
 have yE:yeC x k=true->(bH x k).2=true/\(bH x k).1=rD (ytx x k (yiZ x k)) k (yj x k):=by
  intro h;unfold bH;rw[if_pos h];exact⟨rfl,rfl⟩
 have yS:yeC x k=false->(bH x k).2=false:=by
  intro h;unfold bH;rw[if_neg (by rw[h];exact zaO)]
 have hS:xY x k=rD x k (if mG (dW x.yRX k) (ybZ x k)then ya7 (dW x.yRX k) 0 else dW x.yRX k):=rfl;have hMG:yeC x k=(decide ((dW x.yRX k).yR0.yRY=[])&&bW (dW x.yRX k).Pauses x.Time&& !decide (chosen x k=[])):=rfl;have hTg:=yBV x k hs F (ybD x.yR3) hmr;have hTn:=yBY x k hs F
 have hP:yfJ x k=if(dW x.yRX k).yR0.Gate=1 then wy.Long else 0:=by
  unfold yfJ yag;rw[zak,hwy];rfl
 have hgt:(dW x.yRX k).yR0.Gate=1\/(dW x.yRX k).yR0.Gate=2:=by
  have:=(qW lok).gate;have h:(dW x.yRX k).yR0.Gate≠0:=hg0;omega
 have hsd:jM x k=if(dW x.yRX k).yR0.Gate=1 then k else k+1:=rfl
 obtain⟨Y,hY⟩:∃Y,yew x k=Y:=⟨_,rfl⟩;obtain⟨W,hW⟩:∃W,yo5 x k=W:=⟨_,rfl⟩;rw[hY,hW];rw[hY,hW]at yL yN;generalize lW x k=T at *;generalize jM x k=sd at *;generalize dR x.yRV sd=r at *;generalize hTX:ytx x k (yiZ x k)=TX at *;generalize hLK:yj x k=LK at *;generalize bH x k=E at *;generalize xY x k=S at *;generalize yeC x k=mg at *;generalize chosen x k=ch at *;generalize ybZ x k=N at *;generalize yfJ x k=lp at *;generalize dW x.yRX k=w at *;have hsw:=λl=>@yk6 x.yRX k (rH w l);simp only[yR8.enc,rH]at hsw;have aw:=yt5 hw;simp only[yR8.enc]at aw;have gaw:=(zab.1 aw).2;have ka:k<x.yRV.length:=by omega
 have hwl:=ygI (ws:=x.yRX);have kwl:k<(bM x.yRX).length:=by rw[hwl];exact kw
 have htw:∀ws:List yR8,ws.length=x.yRX.length->List.take x.yRX.length (bM ws)=bM ws:=λws h=>zad (by rw[ygI];omega);have htw0:=htw x.yRX rfl;have htws:∀X,List.take x.yRX.length ((bM x.yRX).set k X)=(bM x.yRX).set k X:=λX=>zad (by rw[zbD,hwl];exact Nat.le_refl _);have htw1:=λv=>htw (x.yRX.set k v) (by simp);have hsg:=@yk6 x.yRX k (ya7 w 0);simp only[yR8.enc,ya7,yR0.yra]at hsg;have hse:x.yRX.set k w=x.yRX:=by rw[<-(zab.1 hw).2,zdx]
 have hrs:=ycb x.yRX;rw[yo2]at hrs;have hre:=yo2 x.yRX;have am:=yAV hmm;have hput:=λm=>@yEL x.yR3 sd ms m hmm;simp only[yR6.enc]at hput;have ksm:sd<x.yR3.length:=by omega
 have ksl:sd<(ybD x.yR3).length:=by rw[hmr];exact ksm
 rcases hgt with hg|hg
 focus
  rw[hg,if_pos rfl]at hsd hP;rw[hsd]at hr hsl hmm hwy am hput ksm ksl yL;have ek:(0:Int)=0:=rfl;have hk1:(0=1)=False:=by simp
 rotate_left
 focus
  rw[hg,if_neg (show¬(2:Int)=1 from by decide)]at hsd hP;have ek:(k:Int)+1=(sd:Int):=by omega
  have hk1:((sd:Int)=(k:Int))=False:=eq_false (by omega)
 all_goals
  have gr:=(zab.1 hr).2;have gam:=(zab.1 am).2;have gwy:=(zab.1 hwy).2;have lwy:=(zab.1 hwy).1;obtain⟨tl,tt,tb⟩:=T;simp only at hLL;rcases zcF tb with hT|hT<;>subst hT
  .obtain⟨y1,y2⟩:=yL rfl;refine ycN jL (by simp) (by simp[yRW.qX]) rfl λhwf=>?_;simp -dsimp -implicitDefEqProofs [bK,yRW.qX,fC kw,hg,ek,hr,gr,hsl,aw,gaw,hwl,kw,kwl]
   first|refine⟨by unfold inI;omega,?_⟩|skip
   refine nC (hLL) (by simp -dsimp -implicitDefEqProofs [hg]) (.inl rfl) ?_;simp -dsimp -implicitDefEqProofs [hg,ek,hr,gr,hsl,aw,gaw,hwl,kw,kwl,am,gam,hmr,ksm,ksl,hwy,gwy,lwy,hsw,hk1];have htk:∀(p:Int),List.take (ms.length+1) (ms.map yR6.enc++[[C.b tt.Up,C.sl 1 (tt.Rows.map jE),C.i p]])=ms.map yR6.enc++[[C.b tt.Up,C.sl 1 (tt.Rows.map jE),C.i p]]:=λp=>zad (by simp);have hpt:=hput ⟨tt,lp⟩;rw[hP]at hpt y1;refine⟨by omega,by simp[setAt,hmr,ksm],?_⟩;rw[htk,hpt];refine⟨by simp -dsimp -implicitDefEqProofs,⟨bD x x.Book x.yR1.length,[20000,40000,50000,130000],by simp -dsimp -implicitDefEqProofs [bD,hwl,hmr],?_,by decide⟩,⟨[],rfl,trivial⟩⟩;simp -dsimp -implicitDefEqProofs [bD,jA,htm0,htm1,htw0,htw1,rD,oG,hwl,hmr,hsw,y1,y2,hmm]
  obtain⟨y1,y2⟩:=yN rfl
  by_cases hm:mg=true
  .obtain⟨e1,e2⟩:=yE hm;rw[e1,if_pos rfl]at y1 y2;rw[e2]at y1;rw[hMG]at hm;simp only[zaf,decide_eq_true_eq,zbh,decide_eq_false_iff_not]at hm;obtain⟨⟨hI,hop⟩,hch⟩:=hm;have i2:(w.yR0.yRY=[])=True:=eq_true hI;have hTM:TX.yR3=x.yR3:=by rw[<-hTX];rfl
   refine ycN jL (by simp) (by simp[yRW.qX]) rfl λhwf=>?_;simp -dsimp -implicitDefEqProofs [bK,yRW.qX,fC kw,hg,ek,hr,gr,hsl,aw,gaw,hwl,kw,kwl]
   first|refine⟨by unfold inI;omega,?_⟩|skip
   refine nC (hLL) (by simp -dsimp -implicitDefEqProofs [hg]) (.inl rfl) ?_;simp -dsimp -implicitDefEqProofs [i2,hg,ek,hr,gr,hsl,aw,gaw,hwl,kw,kwl]
   refineλ_=>?_
   refine⟨_,_,hIO,by simp -dsimp -implicitDefEqProofs,.inr rfl,?_⟩;simp -dsimp -implicitDefEqProofs [hop,i2,hg,ek,hr,gr,hsl,aw,gaw,hwl,kw,kwl];have hTq:=hTg hI hch;simp only[yRW.qX,wC]at hTq;refine ynX (by simp -dsimp -implicitDefEqProofs [hop]) (λK2 hK2=>yfT 101 (xs:=bD x x.Book x.yR1.length) (ids:=[20000,40000,50000,130000]) hTq (by simp -dsimp -implicitDefEqProofs [bD,hwl,hmr]) (by simp -dsimp -implicitDefEqProofs [bD,jA,htm0,htw0]) (by decide) (by simp -dsimp -implicitDefEqProofs) rfl rfl (by simp[fD]) hK2) ?_;simp -dsimp -implicitDefEqProofs [hop];refine⟨by simp -dsimp -implicitDefEqProofs,⟨[.c (.i TX.Time),.own 20101 3 TX.yRV.length,.c (.sl 2 (TX.ySl.map Way.enc)),.own 40101 22 x.yRX.length,.own 50101 1 x.yR3.length,.c (.sl 2 (TX.yR9.map yRT.enc)),.c (.sl 1 (TX.ySd.map qC)),.c (.i TX.yRZ.Base),.c (.i TX.yRZ.ySe),.c (.sl 1 (TX.yRZ.yR5.map qC)),.c (.sl 1 (TX.yRZ.yR7.map qC)),.c (.sl 5 (TX.Book.map ySb.enc)),.own 130101 4 TX.yR1.length,.c (.i TX.Start),.c (.i TX.In),.c (.i TX.Out)],[20101,40101,50101,130101],by simp -dsimp -implicitDefEqProofs [hwl,hmr],?_,by decide⟩,⟨[],rfl,trivial⟩⟩;simp -dsimp -implicitDefEqProofs [y1,y2,rD,wC,hTM,jA,htm0,htws,hwl,hmr]
  have hm:mg=false:=by simpa using hm
  rw[yS hm,if_neg zaO]at y1 y2;rw[hS]at y1 y2;rw[hMG]at hm
  by_cases hI:w.yR0.yRY=[]
  rotate_left
  .have i1:(0<w.yR0.yRY.length)=True:=eq_true (zbv.2 hI);have i2:(w.yR0.yRY=[])=False:=eq_false hI;rw[show mG w N=true by simp[mG,hI],if_pos rfl]at y1 y2;refine ycN jL (by simp) (by simp[yRW.qX]) rfl λhwf=>?_;simp -dsimp -implicitDefEqProofs [bK,yRW.qX,fC kw,hg,ek,hr,gr,hsl,aw,gaw,hwl,kw,kwl]
   first|refine⟨by unfold inI;omega,?_⟩|skip
   refine nC (hLL) (by simp -dsimp -implicitDefEqProofs [hg]) (.inl rfl) ?_;simp -dsimp -implicitDefEqProofs [i1,i2,hg,ek,hr,gr,hsl,aw,gaw,hwl,kw,kwl]
   refineλ_=>yha (by simp -dsimp -implicitDefEqProofs) ?_
   simp -dsimp -implicitDefEqProofs;refine pJ hA (by simp -dsimp -implicitDefEqProofs [jA,hms,htm0,hrs,hre]) (iJ yR4.aF _ _) (by simp[fD]) ?_;simp -dsimp -implicitDefEqProofs [hg,ek,hr,gr,hsl,aw,gaw,hwl,kw,kwl];refine nC (hN) (by simp -dsimp -implicitDefEqProofs [eF yR4.bF,jA]) (.inr rfl) ?_;simp -dsimp -implicitDefEqProofs [i1,i2,hg,ek,hr,gr,hsl,aw,gaw,hwl,kw,kwl]
   refineλ_=>?_
   refine iF (hSG) (by simp -dsimp -implicitDefEqProofs [hg]) rfl ?_;simp -dsimp -implicitDefEqProofs [hsg,hg,ek,hr,gr,hsl,aw,gaw,hwl,kw,kwl];refine⟨by simp -dsimp -implicitDefEqProofs,⟨bD x x.Book x.yR1.length,[20000,40000,50000,130000],by simp -dsimp -implicitDefEqProofs [bD,hwl,hmr],?_,by decide⟩,⟨[],rfl,trivial⟩⟩;simp -dsimp -implicitDefEqProofs [bD,jA,htm0,htm1,htw0,htw1,rD,oG,hwl,hmr,hsw,y1,y2,hsg,hg,ya7]
  have i1:(0<w.yR0.yRY.length)=False:=eq_false (by rw[hI];simp);have i2:(w.yR0.yRY=[])=True:=eq_true hI
  have hoc:bW w.Pauses x.Time=false\/(bW w.Pauses x.Time=true/\ch=[]):=by
   cases h:bW w.Pauses x.Time with
   |false=>exact .inl rfl
   |true=>exact .inr ⟨rfl,by simpa[hI,h]using hm⟩
  clear hm;rcases hoc with hop|⟨hop,hch⟩
  all_goals
   refine ycN jL (by simp) (by simp[yRW.qX]) rfl λhwf=>?_;simp -dsimp -implicitDefEqProofs [bK,yRW.qX,fC kw,hg,ek,hr,gr,hsl,aw,gaw,hwl,kw,kwl]
   first|refine⟨by unfold inI;omega,?_⟩|skip
   refine nC (hLL) (by simp -dsimp -implicitDefEqProofs [hg]) (.inl rfl) ?_;simp -dsimp -implicitDefEqProofs [i1,i2,hg,ek,hr,gr,hsl,aw,gaw,hwl,kw,kwl]
   refineλ_=>?_
   refine⟨_,_,hIO,by simp -dsimp -implicitDefEqProofs,.inr rfl,?_⟩;simp -dsimp -implicitDefEqProofs [hop,i1,i2,hg,ek,hr,gr,hsl,aw,gaw,hwl,kw,kwl]
  rotate_left
  focus
   refine ynX (by simp -dsimp -implicitDefEqProofs [hop]) (λK2 hK2=>mD (hTn hch) (by simp -dsimp -implicitDefEqProofs [jA,hms,htm0,hrs,hre]) rfl hK2) ?_
  rotate_left
  focus
   refine yha (by simp -dsimp -implicitDefEqProofs [hop]) ?_
  all_goals
   simp -dsimp -implicitDefEqProofs [hop];refine pJ hA (by simp -dsimp -implicitDefEqProofs [jA,hms,htm0,hrs,hre]) (iJ yR4.aF _ _) (by simp[fD]) ?_;simp -dsimp -implicitDefEqProofs [hg,ek,hr,gr,hsl,aw,gaw,hwl,kw,kwl];refine nC (hN) (by simp -dsimp -implicitDefEqProofs [eF yR4.bF,jA]) (.inr rfl) ?_;simp -dsimp -implicitDefEqProofs [i1,i2,hg,ek,hr,gr,hsl,aw,gaw,hwl,kw,kwl]
   refineλ_=>⟨λh2=>⟨λh1=>?_,λh1=>?_⟩,λh2=>?_⟩
   .rw[show mG w N=true by simp[mG,hI,hg,h1,h2],if_pos rfl]at y1 y2;refine iF (hSG) (by simp -dsimp -implicitDefEqProofs [hg]) rfl ?_;simp -dsimp -implicitDefEqProofs [hsg,hg,ek,hr,gr,hsl,aw,gaw,hwl,kw,kwl];refine⟨by simp -dsimp -implicitDefEqProofs,⟨bD x x.Book x.yR1.length,[20000,40000,50000,130000],by simp -dsimp -implicitDefEqProofs [bD,hwl,hmr],?_,by decide⟩,⟨[],rfl,trivial⟩⟩;simp -dsimp -implicitDefEqProofs [bD,jA,htm0,htm1,htw0,htw1,rD,oG,hwl,hmr,hsw,y1,y2,hsg,hg,ya7]
   .rw[show mG w N=false by simp[mG,hI,hg,h1,h2],if_neg zaO]at y1 y2;refine⟨by simp -dsimp -implicitDefEqProofs,⟨bD x x.Book x.yR1.length,[20000,40000,50000,130000],by simp -dsimp -implicitDefEqProofs [bD,hwl,hmr],?_,by decide⟩,⟨[],rfl,trivial⟩⟩;simp -dsimp -implicitDefEqProofs [bD,jA,htm0,htm1,htw0,htw1,rD,oG,hwl,hmr,hsw,y1,y2,hse]
   .rw[show mG w N=false by simp[mG,hI,hg,h2],if_neg zaO]at y1 y2;refine⟨by simp -dsimp -implicitDefEqProofs,⟨bD x x.Book x.yR1.length,[20000,40000,50000,130000],by simp -dsimp -implicitDefEqProofs [bD,hwl,hmr],?_,by decide⟩,⟨[],rfl,trivial⟩⟩;simp -dsimp -implicitDefEqProofs [bD,jA,htm0,htm1,htw0,htw1,rD,oG,hwl,hmr,hsw,y1,y2,hse]
def yiY(d:Nat)(x:yRW)(w m:Nat):List AV:=[.c (.i x.Time),.own (20000+d) 3 x.yRV.length,.c (.sl 2 (x.ySl.map Way.enc)),.own (40000+d) 22 w,.own (50000+d) 1 m,.c (.sl 2 (x.yR9.map yRT.enc)),.c (.sl 1 (x.ySd.map qC)),.c (.i x.yRZ.Base),.c (.i x.yRZ.ySe),.c (.sl 1 (x.yRZ.yR5.map qC)),.c (.sl 1 (x.yRZ.yR7.map qC)),.c (.sl 5 (x.Book.map ySb.enc)),.own (130000+d) 4 x.yR1.length,.c (.i x.Start),.c (.i x.In),.c (.i x.Out)]
set_option maxHeartbeats 8000000 in
set_option maxRecDepth 40000 in
def yvT(x:yRW)(k:Int)(hs:x.small):qB prg 23 [.agg (x.enc.map .c),.c (.i k)] (.agg ((fQ x k).enc.map .c)):=by
 have hco:=yDS x hs;simp only[yRW.qX]at hco;have hme:=eF yHe x.yR3;have hwe:yaq (x.yRX.map yR8.enc)=some (x.yRX.map yR8.enc):=ycb x.yRX;refine dB yrM ?_;simp -dsimp -implicitDefEqProofs [yh4];refine qU hco (by simp) rfl (by simp[fD,em]) ?_;simp -dsimp -implicitDefEqProofs [jA];refine mD (yc1 x hs) (by simp -dsimp -implicitDefEqProofs) rfl ?_;cases h:rC x with
 |false=>
  rw[yuv (by simp[yd9,h])];simp -dsimp -implicitDefEqProofs [jA,hme,hwe]
 |true=>
 have hwl:=hs.2.2.1.1;simp -dsimp -implicitDefEqProofs
 refineλhlen=>⟨by unfold inI;omega,?_⟩
 refine mD (bC k 0 (x.yRX.length-1)) (by simp -dsimp -implicitDefEqProofs) rfl ?_;cases hin:inRange k 0 (x.yRX.length-1)with
 |false=>
  have hno:¬(0<=k/\k<=x.yRX.length-1):=λh=>by rw[aC.2 h]at hin;cases hin
  rw[yuv (by simp[yd9,h];omega)];simp -dsimp -implicitDefEqProofs [jA,hme,hwe]
 |true=>
 have hr:=aC.1 hin;obtain⟨n,rfl⟩:=zcn hr.1;have F:=ym8 h hs (k:=n) (by omega);have kw:=F.kw;have hw:=yi4 F.kw;have gw:=(zab.1 hw).2;have hgt:yag x n=(dW x.yRX n).yR0.Gate:=rfl;have hSh:=yD5 x n hs F h (x.yR3.map em) hme;have hOp:=yD1 x n hs F h;have hys:(yeU x n).small:=yjy hs F;have hV:=yc1 (yeU x n) hys;have e:fQ x (n:Int)=if rC (yeU x n)then yeU x n else x:=by simp[fQ,yd9,h,kw]
 have yS:yag x n=0->yeU x n=qM x n:=λh=>by unfold yeU;rw[if_pos h]
 have yO:yag x n≠0->yeU x n=yew x n:=λh=>by unfold yeU yew;rw[if_neg h]
 have hWS:yaq (bM (qM x n).yRX)=some ((qM x n).yRX.map yR8.enc):=ycb _
 have hMS:(qM x n).yR3=x.yR3:=by
  unfold qM yls;split
  .rfl
  .split<;>rfl
 have hWO:yag x n≠0->yaq (yo5 x n)=some ((yew x n).yRX.map yR8.enc):=by
  intro _;unfold yo5 yew;split
  .exact ycb _
  .split
   .rename_i h1 h2
    have hm:yeC x n=true:=by
     unfold bH at h2;split at h2
     .rename_i h3;exact h3
     .cases h2
    have e3:(bH x n).1.yRX=x.yRX.set n (yj x n):=by unfold bH;rw[if_pos hm];rfl
    rw[e3,zbk];exact yBn (ycb x.yRX) (yLy (yj x n)) n
   .exact ycb _
 have hRW:bM x.yRX=x.yRX.map yR8.enc:=rfl;have hRM:ybD x.yR3=x.yR3.map em:=rfl;rw[hRW]at hSh hOp;rw[hRM]at hOp;rw[e]
 by_cases hg:yag x n=0
 .rw[yS hg]at hV|-;have hms:yaq (x.yR3.map em)=some ((qM x n).yR3.map nD):=by rw[hMS];exact hme
  have hws:=hWS;rw[hgt]at hg;clear hWO hOp yS yO hMS hWS e hys;generalize qM x n=y at *;generalize bM y.yRX=W at *;simp only[yRW.qX]at hSh;generalize dW x.yRX n=w at *;obtain⟨res,hres⟩:∃r,(if rC y then y else x)=r:=⟨_,rfl⟩;rw[hres];rcases zcF (rC y)with hv|hv
  .rw[hv,if_pos rfl]at hres;rw[hv]at hV;subst hres;simp -dsimp -implicitDefEqProofs [hw,gw,kw,fC kw,hg];refine yfT 30 (xs:=yiY 7 x x.yRX.length x.yR3.length) (ids:=[20007,40007,50007,130007]) hSh (by simp -dsimp -implicitDefEqProofs [yiY]) (by simp -dsimp -implicitDefEqProofs [yiY,jA]) (by decide) (by simp -dsimp -implicitDefEqProofs) rfl rfl (by simp[fD]) ?_;simp -dsimp -implicitDefEqProofs;refine mD (hV) (by simp -dsimp -implicitDefEqProofs [jA,hws,hms,List.take_length]) rfl ?_;simp -dsimp -implicitDefEqProofs [jA,hws,hms,List.take_length]
  .rw[hv,if_neg zaO]at hres;rw[hv]at hV;subst hres;simp -dsimp -implicitDefEqProofs [hw,gw,kw,fC kw,hg];refine yfT 30 (xs:=yiY 7 x x.yRX.length x.yR3.length) (ids:=[20007,40007,50007,130007]) hSh (by simp -dsimp -implicitDefEqProofs [yiY]) (by simp -dsimp -implicitDefEqProofs [yiY,jA]) (by decide) (by simp -dsimp -implicitDefEqProofs) rfl rfl (by simp[fD]) ?_;simp -dsimp -implicitDefEqProofs;refine mD (hV) (by simp -dsimp -implicitDefEqProofs [jA,hws,hms,List.take_length]) rfl ?_;simp -dsimp -implicitDefEqProofs;refine qU hco (by simp) rfl (by simp[fD,em]) ?_;simp -dsimp -implicitDefEqProofs [jA,hme,hwe]
 .have hOp:=hOp hg;rw[yO hg]at hV|-;have hms:yaq (ybD (yew x n).yR3)=some ((yew x n).yR3.map nD):=yw2 _;have hws:=hWO hg;rw[hgt]at hg;clear hWO hSh yS yO hMS hWS e hys;generalize yew x n=y at *;generalize yo5 x n=W at *;generalize ybD y.yR3=M at *;simp only[yRW.qX]at hOp;generalize dW x.yRX n=w at *;obtain⟨res,hres⟩:∃r,(if rC y then y else x)=r:=⟨_,rfl⟩;rw[hres];rcases zcF (rC y)with hv|hv
  .rw[hv,if_pos rfl]at hres;rw[hv]at hV;subst hres;simp -dsimp -implicitDefEqProofs [hw,gw,kw,fC kw,hg];refine yfT 32 (xs:=yiY 7 x x.yRX.length x.yR3.length) (ids:=[20007,40007,50007,130007]) hOp (by simp -dsimp -implicitDefEqProofs [yiY]) (by simp -dsimp -implicitDefEqProofs [yiY,jA]) (by decide) (by simp -dsimp -implicitDefEqProofs) rfl rfl (by simp[fD]) ?_;simp -dsimp -implicitDefEqProofs;refine mD (hV) (by simp -dsimp -implicitDefEqProofs [jA,hws,hms,List.take_length]) rfl ?_;simp -dsimp -implicitDefEqProofs [jA,hws,hms,List.take_length]
  .rw[hv,if_neg zaO]at hres;rw[hv]at hV;subst hres;simp -dsimp -implicitDefEqProofs [hw,gw,kw,fC kw,hg];refine yfT 32 (xs:=yiY 7 x x.yRX.length x.yR3.length) (ids:=[20007,40007,50007,130007]) hOp (by simp -dsimp -implicitDefEqProofs [yiY]) (by simp -dsimp -implicitDefEqProofs [yiY,jA]) (by decide) (by simp -dsimp -implicitDefEqProofs) rfl rfl (by simp[fD]) ?_;simp -dsimp -implicitDefEqProofs;refine mD (hV) (by simp -dsimp -implicitDefEqProofs [jA,hws,hms,List.take_length]) rfl ?_;simp -dsimp -implicitDefEqProofs;refine qU hco (by simp) rfl (by simp[fD,em]) ?_;simp -dsimp -implicitDefEqProofs [jA,hme,hwe]
structure ySM(x:yRW):Prop where
 two:2<=x.yRV.length
 six:x.yRV.length<=6
 ways:x.ySl.length=x.yRV.length
 mvs:x.yR3.length=x.yRV.length
 wks:x.yRX.length+1=x.yRV.length
 few:∀(k:Nat) (l:List yR6),x.yR3[k]?=some l->l.length<=24
 arr:x.yR9.length<=500
def yCK{x:yRW}(h:rC x=true):ySM x:=by
 simp only[rC,zaf]at h;obtain⟨⟨⟨⟨⟨⟨⟨h1,h2⟩,h3⟩,h4⟩,h5⟩,h6⟩,h7⟩,h8⟩:=h;simp only[sJ,zaf,decide_eq_true_eq]at h2;obtain⟨⟨⟨⟨⟨⟨p1,p2⟩,p3⟩,p4⟩,p5⟩,p6⟩,p7⟩:=h2;have rf:=(ynr p1).len;refine⟨p2,rf.2,p3,p4,p5,λk l hk=>?_,?_⟩
 .have kl:=(zab.1 hk).1;have gl:=(zab.1 hk).2;have:=zah.1 p6 (x.ySl[k]'(by omega),l) (zcy.2 ⟨k,by simp;omega,by simp[gl]⟩);simp only[jS,zaf,decide_eq_true_eq]at this;exact this.1.2
 .simp only[pO,zaf,decide_eq_true_eq]at h3;omega
def yvO(x:yRW)(k:Int)(hl:x.small):nI prg 15 [.agg (x.enc.map .c),.c (.i k)] (.agg ((fQ x k).iD.map .c)):=by
 have hp:=ykL (k:=k) hl;have hpc:=act_c x k hl;refine fF yrg ?_;simp -dsimp -implicitDefEqProofs [yiQ];refine dD hpc ?_;generalize fQ x k=r at *;simp -dsimp -implicitDefEqProofs;refine sD (yuq r hp) (by simp) (dP (yRW.aF r)) (by simp[fD]) ?_;simp -dsimp -implicitDefEqProofs [jA]
def ya6{α:Type}{f:α->Nat}{B n:Nat}{l:List α}(hl:l.length<=n)(h:∀a∈l,f a<=B):yap f l<=n*(1+B):=by
 have key:∀l:List α,(∀a∈l,f a<=B)->yap f l<=l.length*(1+B):=by
  intro l
  induction l with
  |nil=>intro _;simp[yap]
  |cons a l ih=>
   intro h;have h1:=h a (by simp);have h2:=ih λb hb=>h b (by simp[hb]);unfold yap at h2|-;rw[zaW,zci,zaK,zaQ];omega
 exact zbl (key l h) (zal _ hl)
def ybA{t:yRT}(h:t.small):iT t<=1099512676352:=
 ya6 (B:=1048576) (n:=1048576) h.1 λr hr=>(h.2 r hr).1
def yEH{y:yRW}(h:rC y=true)(hs:y.small):kV y<=9007199254740992:=by
 have F:=yCK h;have f1:=F.six;have f2:=F.ways;have f3:=F.mvs;have f4:=F.wks;have f5:=F.arr;obtain⟨s1,s2,s3,s4,s5,s6,s7,s8,s9⟩:=hs
 have hw:∀w∈y.yRX,fJ w=true:=by
  have hh:=h;simp only[rC,sJ,zaf,zah]at hh;exact hh.1.1.1.1.1.1.2.2
 have f6:y.yR1.length<=500:=by
  have hh:=h;simp only[rC,pO,zaf,decide_eq_true_eq]at hh;exact hh.1.1.1.1.1.2.1.1.1.2
 have a1:ydQ y.yRV<=6*(1+2097152):=ya6 f1 λr hr=>by
  have h1:=(s1.2 r hr).1.1;have h2:=(s1.2 r hr).2.1
  show r.ySg.length+r.ySk.length<=_
  omega
 have a2:yf3 y.yRX<=6*(1+(8*(1+1099512676352)+1048576+24*(1+1099512676352))):=ya6 (by omega) λw hm=>by
  have sw:=s3.2 w hm;have ok:=hw w hm;simp only[fJ,lF,Distinct,zaf,decide_eq_true_eq]at ok;have b1:gY w.yR0.yRY<=8*(1+1099512676352):=ya6 ok.1.1.1.1.1.1.2.1.1 λt ht=>ybA (sw.1.2 t ht);have b2:ygU w.Calls<=24*(1+1099512676352):=ya6 ok.1.2 λc hc=>ybA (sw.2.2.2 c hc);have b3:w.Pauses.length<=1048576:=sw.2.1.1
  show gY w.yR0.yRY+w.Pauses.length+ygU w.Calls<=_
  omega
 have a3:ycz y.yR3<=6*(1+24*(1+1099512676352)):=ya6 (by omega) λl hl=>by
  obtain⟨k,hk⟩:=zbK.1 hl;exact ya6 (F.few k l hk) λm hm=>ybA ((s4.2 l hl).2 m hm)
 have a4:gY y.yR9<=500*(1+1099512676352):=ya6 f5 λt ht=>ybA (s5.2 t ht);have a5:ybt y.yR1<=500*(1+1099512676352):=ya6 f6 λp hp=>ybA (s9.2 p hp);have b1:=s2.1;have b2:=s6.1;have b3:=s7.1;have b4:=s7.2;have b5:=s8.1;have e:kV y=ydQ y.yRV+y.ySl.length+yf3 y.yRX+ycz y.yR3+gY y.yR9+y.ySd.length+(y.yRZ.yR5.length+y.yRZ.yR7.length)+y.Book.length+ybt y.yR1:=rfl;omega
def yt0(x:yRW)(k:Int)(hs:x.small)(h:kV x<=1048576):wm9 (fQ x k) 1<=4000000000000000000:=by
 have h2:kV (fQ x k)<=9007199254740992:=by
  have hs2:=ykL (k:=k) hs;unfold fQ at hs2|-;split
  .rename_i hc;rw[if_pos hc]at hs2;simp only[zaf]at hc;exact yEH hc.2 hs2
  .omega
 have:=yGL (fQ x k) 1;omega
set_option maxRecDepth 40000 in
def ynF(x0:yRW)(x1:Int):qB prg 4 [.agg (x0.enc.map .c),.c (.i x1)] (.c (.b true)):=by
 refine dB yhI ?_;simp -dsimp -implicitDefEqProofs [ybl];refine aA (ywn x0 1048576 (by omega) (by omega)) ?_;simp -dsimp -implicitDefEqProofs;intro hsz0;have hl0:=yGx ysM (by omega) (by omega) hsz0;have ht:=yrn x0 1048576 (by omega) (by omega) hsz0;have hwm:=yGL x0 1;have hO:=yvO x0 x1 hl0;have hS:=yvT x0 x1 hl0;have hM:=yt0 x0 x1 hl0 (by omega);refine dD (yhw x0 hl0) ?_;simp -dsimp -implicitDefEqProofs;refine dD hS ?_;generalize fQ x0 x1=r at *;simp -dsimp -implicitDefEqProofs;refine sD (yzm x0 hl0) (by simp) (dP (yRW.aF x0)) (by simp[fD]) ?_;simp -dsimp -implicitDefEqProofs;have hP:qB prg 15 [.agg (x0.enc.map .c),.c (.i x1)] (.agg (r.enc.map .c)):=hO.pure (by simp[AV.shr,AV.yoE,dO,C.shr,eF Reach.bF,eF yR8.bF,eF oV,eF yRT.bF,eF yR2.bF]);refine sD hO (by simp -dsimp -implicitDefEqProofs [jA,eF Reach.bF,eF yR8.bF,eF oV,eF yRT.bF,eF yR2.bF,eF yR4.bF]) (dP (yRW.aF r)) (by simp[fD]) ?_;simp -dsimp -implicitDefEqProofs;refine mD (yds r r) (by simp -dsimp -implicitDefEqProofs [jA,eF Reach.bF,eF yR8.bF,eF oV,eF yRT.bF,eF yR2.bF,eF yR4.bF]) rfl ?_;simp -dsimp -implicitDefEqProofs;refine gX (yhw x0 hl0) ?_;simp -dsimp -implicitDefEqProofs;refine⟨_,_,yds x0 x0,by simp -dsimp -implicitDefEqProofs [jA,eF Reach.bF,eF yR8.bF,eF oV,eF yRT.bF,eF yR2.bF,eF yR4.bF],.inr rfl,?_⟩;simp -dsimp -implicitDefEqProofs
 refine yfZ (ups:=[none,some (20023,.tr 3 1 (dH rY aH 1 x0.yRV)),some (30023,.row 2 (marked yaj 2 [] (wm1 x0 1) x0.ySl.length)),some (40023,.tr 22 1 (dH yax iI (wm2 x0 1) x0.yRX)),some (50023,.tr 1 1 (dH xU kG (wm3 x0 1) x0.yR3)),some (60023,.tr 2 1 (dH pR jC (wm4 x0 1) x0.yR9)),some (70023,.row 1 (marked qC 1 [] (wm5 x0 1) x0.ySd.length)),none,none,some (100023,.row 1 (marked qC 1 [] (wm6 x0 1) x0.yRZ.yR5.length)),some (110023,.row 1 (marked qC 1 [] (wm6 x0 1+x0.yRZ.yR5.length) x0.yRZ.yR7.length)),some (120023,.row 5 (marked ylw 5 [] (wm7 x0 1) x0.Book.length)),some (130023,.tr 4 1 (dH iR sF (wm8 x0 1) x0.yR1)),none,none,none]) (ykI x0 1 (by omega) (by omega)) (by simp -dsimp -implicitDefEqProofs) rfl rfl
  ⟨sS rfl,yd8 (rows:=x0.yRV.map Reach.iD) (by simp -dsimp -implicitDefEqProofs) rfl rfl rfl (by simp) (by simp[jD]) rfl rfl,qH (rows:=x0.ySl.map Way.enc) (by simp -dsimp -implicitDefEqProofs) rfl rfl (by simp) (by simp[kE]) rfl rfl,yd8 (rows:=x0.yRX.map yR8.iD) (by simp -dsimp -implicitDefEqProofs) rfl rfl rfl (by simp) (by simp[jD]) rfl rfl,yd8 (rows:=x0.yR3.map xG) (by simp -dsimp -implicitDefEqProofs) rfl rfl rfl (by simp) (by simp[jD]) rfl rfl,yd8 (rows:=x0.yR9.map yRT.iD) (by simp -dsimp -implicitDefEqProofs) rfl rfl rfl (by simp) (by simp[jD]) rfl rfl,qH (rows:=x0.ySd.map qC) (by simp -dsimp -implicitDefEqProofs) rfl rfl (by simp) (by simp[kE]) rfl rfl,sS rfl,sS rfl,qH (rows:=x0.yRZ.yR5.map qC) (by simp -dsimp -implicitDefEqProofs) rfl rfl (by simp) (by simp[kE]) rfl rfl,qH (rows:=x0.yRZ.yR7.map qC) (by simp -dsimp -implicitDefEqProofs) rfl rfl (by simp) (by simp[kE]) rfl rfl,qH (rows:=x0.Book.map ySb.enc) (by simp -dsimp -implicitDefEqProofs) rfl rfl (by simp) (by simp[kE]) rfl rfl,yd8 (rows:=x0.yR1.map yR2.iD) (by simp -dsimp -implicitDefEqProofs) rfl rfl rfl (by simp) (by simp[jD]) rfl rfl,sS rfl,sS rfl,sS rfl,trivial⟩ (by simp[kQ]) ?_
 have w9:0<=wm9 x0 1:=by have:=wkB x0 (k:=1) (by omega);obtain⟨b0,b1,b2,b3,b4,b5,b6,b7,b8,b9⟩:=this;omega
 have n1:(wm9 x0 1<0)=False:=by simp;omega
 simp -dsimp -implicitDefEqProofs [n1];refine mD (yds r r) (by simp -dsimp -implicitDefEqProofs [jA,eF Reach.bF,eF yR8.bF,eF oV,eF yRT.bF,eF yR2.bF,eF yR4.bF]) rfl ?_;simp -dsimp -implicitDefEqProofs
 refine yfZ (ups:=[none,some (20026,.tr 3 1 (dH rY aH 1 r.yRV)),some (30026,.row 2 (marked yaj 2 [] (wm1 r 1) r.ySl.length)),some (40026,.tr 22 1 (dH yax iI (wm2 r 1) r.yRX)),some (50026,.tr 1 1 (dH xU kG (wm3 r 1) r.yR3)),some (60026,.tr 2 1 (dH pR jC (wm4 r 1) r.yR9)),some (70026,.row 1 (marked qC 1 [] (wm5 r 1) r.ySd.length)),none,none,some (100026,.row 1 (marked qC 1 [] (wm6 r 1) r.yRZ.yR5.length)),some (110026,.row 1 (marked qC 1 [] (wm6 r 1+r.yRZ.yR5.length) r.yRZ.yR7.length)),some (120026,.row 5 (marked ylw 5 [] (wm7 r 1) r.Book.length)),some (130026,.tr 4 1 (dH iR sF (wm8 r 1) r.yR1)),none,none,none]) (ykI r 1 (by omega) (by omega)) (by simp -dsimp -implicitDefEqProofs) rfl rfl
  ⟨sS rfl,yd8 (rows:=r.yRV.map Reach.iD) (by simp -dsimp -implicitDefEqProofs) rfl rfl rfl (by simp) (by simp[jD]) rfl rfl,qH (rows:=r.ySl.map Way.enc) (by simp -dsimp -implicitDefEqProofs) rfl rfl (by simp) (by simp[kE]) rfl rfl,yd8 (rows:=r.yRX.map yR8.iD) (by simp -dsimp -implicitDefEqProofs) rfl rfl rfl (by simp) (by simp[jD]) rfl rfl,yd8 (rows:=r.yR3.map xG) (by simp -dsimp -implicitDefEqProofs) rfl rfl rfl (by simp) (by simp[jD]) rfl rfl,yd8 (rows:=r.yR9.map yRT.iD) (by simp -dsimp -implicitDefEqProofs) rfl rfl rfl (by simp) (by simp[jD]) rfl rfl,qH (rows:=r.ySd.map qC) (by simp -dsimp -implicitDefEqProofs) rfl rfl (by simp) (by simp[kE]) rfl rfl,sS rfl,sS rfl,qH (rows:=r.yRZ.yR5.map qC) (by simp -dsimp -implicitDefEqProofs) rfl rfl (by simp) (by simp[kE]) rfl rfl,qH (rows:=r.yRZ.yR7.map qC) (by simp -dsimp -implicitDefEqProofs) rfl rfl (by simp) (by simp[kE]) rfl rfl,qH (rows:=r.Book.map ySb.enc) (by simp -dsimp -implicitDefEqProofs) rfl rfl (by simp) (by simp[kE]) rfl rfl,yd8 (rows:=r.yR1.map yR2.iD) (by simp -dsimp -implicitDefEqProofs) rfl rfl rfl (by simp) (by simp[jD]) rfl rfl,sS rfl,sS rfl,sS rfl,trivial⟩ (by simp[kQ]) ?_
 have v9:0<=wm9 r 1:=by have:=wkB r (k:=1) (by omega);obtain⟨b0,b1,b2,b3,b4,b5,b6,b7,b8,b9⟩:=this;omega
 have n2:(wm9 r 1<0)=False:=by simp;omega
 simp -dsimp -implicitDefEqProofs;have hH:=ytf r 1 (by omega) (by omega);unfold yFH at hH;refine mD (hH) (by simp -dsimp -implicitDefEqProofs [yaQ,yxi,lM ynZ,lM yqD,lM yl8,lM yhP,lM yjF,lM yjl]) rfl ?_;simp -dsimp -implicitDefEqProofs [n2];refine dD (yhw x0 hl0) ?_;simp -dsimp -implicitDefEqProofs;refine dD hP ?_;simp -dsimp -implicitDefEqProofs;refine mD (yds r r) (by simp -dsimp -implicitDefEqProofs [jA,eF Reach.bF,eF yR8.bF,eF oV,eF yRT.bF,eF yR2.bF,eF yR4.bF]) rfl ?_;simp -dsimp -implicitDefEqProofs;refine mD (hH) (by simp -dsimp -implicitDefEqProofs [yaQ,yxi,lM ynZ,lM yqD,lM yl8,lM yhP,lM yjF,lM yjl]) rfl ?_;simp -dsimp -implicitDefEqProofs [n2]
def yEd{xs:List C}(h:Fits [.i,.i,.i,.i,.i] xs):∃e:ySb,xs=e.enc:=by
 obtain⟨c0,ys,rfl,h0,h⟩:=h.cons_inv;obtain⟨c1,ys,rfl,h1,h⟩:=h.cons_inv;obtain⟨c2,ys,rfl,h2,h⟩:=h.cons_inv;obtain⟨c3,ys,rfl,h3,h⟩:=h.cons_inv;obtain⟨c4,ys,rfl,h4,h⟩:=h.cons_inv;obtain rfl:=h.gW;obtain⟨n0,rfl⟩:=h0.nJ;obtain⟨n1,rfl⟩:=h1.nJ;obtain⟨n2,rfl⟩:=h2.nJ;obtain⟨n3,rfl⟩:=h3.nJ;obtain⟨n4,rfl⟩:=h4.nJ;exact⟨⟨n0,n1,n2,n3,n4⟩,rfl⟩
def yn2{xs:List C}(h:Fits [.i] xs):∃n:Int,xs=qC n:=by
 obtain⟨c0,ys,rfl,h0,h⟩:=h.cons_inv;obtain rfl:=h.gW;obtain⟨n0,rfl⟩:=h0.nJ;exact⟨n0,rfl⟩
def yIP{xs:List C}(h:Fits [.i,.i] xs):∃e:Way,xs=e.enc:=by
 obtain⟨c0,ys,rfl,h0,h⟩:=h.cons_inv;obtain⟨c1,ys,rfl,h1,h⟩:=h.cons_inv;obtain rfl:=h.gW;obtain⟨n0,rfl⟩:=h0.nJ;obtain⟨n1,rfl⟩:=h1.nJ;exact⟨⟨n0,n1⟩,rfl⟩
def yGh{xs:List C}(h:Fits [.i,.i,.i,.i,.i,.i] xs):∃e:ySa,xs=e.enc:=by
 obtain⟨c0,ys,rfl,h0,h⟩:=h.cons_inv;obtain⟨c1,ys,rfl,h1,h⟩:=h.cons_inv;obtain⟨c2,ys,rfl,h2,h⟩:=h.cons_inv;obtain⟨c3,ys,rfl,h3,h⟩:=h.cons_inv;obtain⟨c4,ys,rfl,h4,h⟩:=h.cons_inv;obtain⟨c5,ys,rfl,h5,h⟩:=h.cons_inv;obtain rfl:=h.gW;obtain⟨n0,rfl⟩:=h0.nJ;obtain⟨n1,rfl⟩:=h1.nJ;obtain⟨n2,rfl⟩:=h2.nJ;obtain⟨n3,rfl⟩:=h3.nJ;obtain⟨n4,rfl⟩:=h4.nJ;obtain⟨n5,rfl⟩:=h5.nJ;exact⟨⟨n0,n1,n2,n3,n4,n5⟩,rfl⟩
def yll{xs:List C}(h:Fits [.sl [.i,.i,.i,.i,.i,.i]] xs):∃e:List ySa,xs=jE e:=by
 obtain⟨c0,ys,rfl,h0,h⟩:=h.cons_inv;obtain rfl:=h.gW;obtain⟨n0,rfl⟩:=h0.tV ySa.enc λ_ h=>yGh h;exact⟨n0,rfl⟩
def yxE{xs:List C}(h:Fits [.b,.sl [.sl [.i,.i,.i,.i,.i,.i]]] xs):∃e:yRT,xs=e.enc:=by
 obtain⟨c0,ys,rfl,h0,h⟩:=h.cons_inv;obtain⟨c1,ys,rfl,h1,h⟩:=h.cons_inv;obtain rfl:=h.gW;obtain⟨n0,rfl⟩:=h0.yz4;obtain⟨n1,rfl⟩:=h1.tV jE λ_ h=>yll h;exact⟨⟨n0,n1⟩,rfl⟩
def yDJ{xs:List C}(h:Fits [.b,.sl [.sl [.i,.i,.i,.i,.i,.i]],.i] xs):∃e:yR6,xs=e.enc:=by
 obtain⟨c0,ys,rfl,h0,h⟩:=h.cons_inv;obtain⟨c1,ys,rfl,h1,h⟩:=h.cons_inv;obtain⟨c2,ys,rfl,h2,h⟩:=h.cons_inv;obtain rfl:=h.gW;obtain⟨n0,rfl⟩:=h0.yz4;obtain⟨n1,rfl⟩:=h1.tV jE λ_ h=>yll h;obtain⟨n2,rfl⟩:=h2.nJ;exact⟨⟨⟨n0,n1⟩,n2⟩,rfl⟩
def yE6{xs:List C}(h:Fits [.i,.i] xs):∃e:ySc,xs=e.enc:=by
 obtain⟨c0,ys,rfl,h0,h⟩:=h.cons_inv;obtain⟨c1,ys,rfl,h1,h⟩:=h.cons_inv;obtain rfl:=h.gW;obtain⟨n0,rfl⟩:=h0.nJ;obtain⟨n1,rfl⟩:=h1.nJ;exact⟨⟨n0,n1⟩,rfl⟩
def yFi{xs:List C}(h:Fits [.sl [.i,.i],.i,.sl [.i]] xs):∃e:Reach,xs=e.enc:=by
 obtain⟨c0,ys,rfl,h0,h⟩:=h.cons_inv;obtain⟨c1,ys,rfl,h1,h⟩:=h.cons_inv;obtain⟨c2,ys,rfl,h2,h⟩:=h.cons_inv;obtain rfl:=h.gW;obtain⟨n0,rfl⟩:=h0.tV ySc.enc λ_ h=>yE6 h;obtain⟨n1,rfl⟩:=h1.nJ;obtain⟨n2,rfl⟩:=h2.tV qC λ_ h=>yn2 h;exact⟨⟨n0,n1,n2⟩,rfl⟩
def yEI{xs:List C}(h:Fits [.i,.i] xs):∃e:ySf,xs=e.enc:=by
 obtain⟨c0,ys,rfl,h0,h⟩:=h.cons_inv;obtain⟨c1,ys,rfl,h1,h⟩:=h.cons_inv;obtain rfl:=h.gW;obtain⟨n0,rfl⟩:=h0.nJ;obtain⟨n1,rfl⟩:=h1.nJ;exact⟨⟨n0,n1⟩,rfl⟩
def yFl{xs:List C}(h:Fits [.b,.sl [.sl [.i,.i,.i,.i,.i,.i]],.i,.i] xs):∃e:yR4,xs=e.enc:=by
 obtain⟨c0,ys,rfl,h0,h⟩:=h.cons_inv;obtain⟨c1,ys,rfl,h1,h⟩:=h.cons_inv;obtain⟨c2,ys,rfl,h2,h⟩:=h.cons_inv;obtain⟨c3,ys,rfl,h3,h⟩:=h.cons_inv;obtain rfl:=h.gW;obtain⟨n0,rfl⟩:=h0.yz4;obtain⟨n1,rfl⟩:=h1.tV jE λ_ h=>yll h;obtain⟨n2,rfl⟩:=h2.nJ;obtain⟨n3,rfl⟩:=h3.nJ;exact⟨⟨⟨n0,n1⟩,n2,n3⟩,rfl⟩
def yFr{xs:List C}(h:Fits [.i,.i,.i,.i,.i,.i,.i,.i,.i,.sl [.b,.sl [.sl [.i,.i,.i,.i,.i,.i]]],.i,.i,.i,.i,.i,.i,.i,.i,.sl [.i,.i],.b,.i,.sl [.b,.sl [.sl [.i,.i,.i,.i,.i,.i]],.i,.i]] xs):∃e:yR8,xs=e.enc:=by
 obtain⟨c0,ys,rfl,h0,h⟩:=h.cons_inv;obtain⟨c1,ys,rfl,h1,h⟩:=h.cons_inv;obtain⟨c2,ys,rfl,h2,h⟩:=h.cons_inv;obtain⟨c3,ys,rfl,h3,h⟩:=h.cons_inv;obtain⟨c4,ys,rfl,h4,h⟩:=h.cons_inv;obtain⟨c5,ys,rfl,h5,h⟩:=h.cons_inv;obtain⟨c6,ys,rfl,h6,h⟩:=h.cons_inv;obtain⟨c7,ys,rfl,h7,h⟩:=h.cons_inv;obtain⟨c8,ys,rfl,h8,h⟩:=h.cons_inv;obtain⟨c9,ys,rfl,h9,h⟩:=h.cons_inv;obtain⟨c10,ys,rfl,h10,h⟩:=h.cons_inv;obtain⟨c11,ys,rfl,h11,h⟩:=h.cons_inv;obtain⟨c12,ys,rfl,h12,h⟩:=h.cons_inv;obtain⟨c13,ys,rfl,h13,h⟩:=h.cons_inv;obtain⟨c14,ys,rfl,h14,h⟩:=h.cons_inv;obtain⟨c15,ys,rfl,h15,h⟩:=h.cons_inv;obtain⟨c16,ys,rfl,h16,h⟩:=h.cons_inv;obtain⟨c17,ys,rfl,h17,h⟩:=h.cons_inv;obtain⟨c18,ys,rfl,h18,h⟩:=h.cons_inv;obtain⟨c19,ys,rfl,h19,h⟩:=h.cons_inv;obtain⟨c20,ys,rfl,h20,h⟩:=h.cons_inv;obtain⟨c21,ys,rfl,h21,h⟩:=h.cons_inv;obtain rfl:=h.gW;obtain⟨n0,rfl⟩:=h0.nJ;obtain⟨n1,rfl⟩:=h1.nJ;obtain⟨n2,rfl⟩:=h2.nJ;obtain⟨n3,rfl⟩:=h3.nJ;obtain⟨n4,rfl⟩:=h4.nJ;obtain⟨n5,rfl⟩:=h5.nJ;obtain⟨n6,rfl⟩:=h6.nJ;obtain⟨n7,rfl⟩:=h7.nJ;obtain⟨n8,rfl⟩:=h8.nJ;obtain⟨n9,rfl⟩:=h9.tV yRT.enc λ_ h=>yxE h;obtain⟨n10,rfl⟩:=h10.nJ;obtain⟨n11,rfl⟩:=h11.nJ;obtain⟨n12,rfl⟩:=h12.nJ;obtain⟨n13,rfl⟩:=h13.nJ;obtain⟨n14,rfl⟩:=h14.nJ;obtain⟨n15,rfl⟩:=h15.nJ;obtain⟨n16,rfl⟩:=h16.nJ;obtain⟨n17,rfl⟩:=h17.nJ;obtain⟨n18,rfl⟩:=h18.tV ySf.enc λ_ h=>yEI h;obtain⟨n19,rfl⟩:=h19.yz4;obtain⟨n20,rfl⟩:=h20.nJ;obtain⟨n21,rfl⟩:=h21.tV yR4.enc λ_ h=>yFl h;exact⟨⟨⟨n0,n1,n2,n3,n4,n5,n6,n7,n8,n9⟩,⟨n10,n11,n12,n13,n14⟩,⟨n15,n16,n17⟩,n18,⟨n19,n20⟩,n21⟩,rfl⟩
def yB4{xs:List C}(h:Fits [.sl [.b,.sl [.sl [.i,.i,.i,.i,.i,.i]],.i]] xs):∃e:List yR6,xs=nD e:=by
 obtain⟨c0,ys,rfl,h0,h⟩:=h.cons_inv;obtain rfl:=h.gW;obtain⟨n0,rfl⟩:=h0.tV yR6.enc λ_ h=>yDJ h;exact⟨n0,rfl⟩
def yzs{xs:List C}(h:Fits [.i,.i,.b,.sl [.sl [.i,.i,.i,.i,.i,.i]]] xs):∃e:yR2,xs=e.enc:=by
 obtain⟨c0,ys,rfl,h0,h⟩:=h.cons_inv;obtain⟨c1,ys,rfl,h1,h⟩:=h.cons_inv;obtain⟨c2,ys,rfl,h2,h⟩:=h.cons_inv;obtain⟨c3,ys,rfl,h3,h⟩:=h.cons_inv;obtain rfl:=h.gW;obtain⟨n0,rfl⟩:=h0.nJ;obtain⟨n1,rfl⟩:=h1.nJ;obtain⟨n2,rfl⟩:=h2.yz4;obtain⟨n3,rfl⟩:=h3.tV jE λ_ h=>yll h;exact⟨⟨n0,n1,⟨n2,n3⟩⟩,rfl⟩
def yy3{xs:List C}(h:Fits [.i,.sl [.sl [.i,.i],.i,.sl [.i]],.sl [.i,.i],.sl [.i,.i,.i,.i,.i,.i,.i,.i,.i,.sl [.b,.sl [.sl [.i,.i,.i,.i,.i,.i]]],.i,.i,.i,.i,.i,.i,.i,.i,.sl [.i,.i],.b,.i,.sl [.b,.sl [.sl [.i,.i,.i,.i,.i,.i]],.i,.i]],.sl [.sl [.b,.sl [.sl [.i,.i,.i,.i,.i,.i]],.i]],.sl [.b,.sl [.sl [.i,.i,.i,.i,.i,.i]]],.sl [.i],.i,.i,.sl [.i],.sl [.i],.sl [.i,.i,.i,.i,.i],.sl [.i,.i,.b,.sl [.sl [.i,.i,.i,.i,.i,.i]]],.i,.i,.i] xs):∃e:yRW,xs=e.enc:=by
 obtain⟨c0,ys,rfl,h0,h⟩:=h.cons_inv;obtain⟨c1,ys,rfl,h1,h⟩:=h.cons_inv;obtain⟨c2,ys,rfl,h2,h⟩:=h.cons_inv;obtain⟨c3,ys,rfl,h3,h⟩:=h.cons_inv;obtain⟨c4,ys,rfl,h4,h⟩:=h.cons_inv;obtain⟨c5,ys,rfl,h5,h⟩:=h.cons_inv;obtain⟨c6,ys,rfl,h6,h⟩:=h.cons_inv;obtain⟨c7,ys,rfl,h7,h⟩:=h.cons_inv;obtain⟨c8,ys,rfl,h8,h⟩:=h.cons_inv;obtain⟨c9,ys,rfl,h9,h⟩:=h.cons_inv;obtain⟨c10,ys,rfl,h10,h⟩:=h.cons_inv;obtain⟨c11,ys,rfl,h11,h⟩:=h.cons_inv;obtain⟨c12,ys,rfl,h12,h⟩:=h.cons_inv;obtain⟨c13,ys,rfl,h13,h⟩:=h.cons_inv;obtain⟨c14,ys,rfl,h14,h⟩:=h.cons_inv;obtain⟨c15,ys,rfl,h15,h⟩:=h.cons_inv;obtain rfl:=h.gW;obtain⟨n0,rfl⟩:=h0.nJ;obtain⟨n1,rfl⟩:=h1.tV Reach.enc λ_ h=>yFi h;obtain⟨n2,rfl⟩:=h2.tV Way.enc λ_ h=>yIP h;obtain⟨n3,rfl⟩:=h3.tV yR8.enc λ_ h=>yFr h;obtain⟨n4,rfl⟩:=h4.tV nD λ_ h=>yB4 h;obtain⟨n5,rfl⟩:=h5.tV yRT.enc λ_ h=>yxE h;obtain⟨n6,rfl⟩:=h6.tV qC λ_ h=>yn2 h;obtain⟨n7,rfl⟩:=h7.nJ;obtain⟨n8,rfl⟩:=h8.nJ;obtain⟨n9,rfl⟩:=h9.tV qC λ_ h=>yn2 h;obtain⟨n10,rfl⟩:=h10.tV qC λ_ h=>yn2 h;obtain⟨n11,rfl⟩:=h11.tV ySb.enc λ_ h=>yEd h;obtain⟨n12,rfl⟩:=h12.tV yR2.enc λ_ h=>yzs h;obtain⟨n13,rfl⟩:=h13.nJ;obtain⟨n14,rfl⟩:=h14.nJ;obtain⟨n15,rfl⟩:=h15.nJ;exact⟨⟨n0,n1,n2,n3,n4,n5,n6,⟨n7,n8,n9,n10⟩,n11,n12,n13,n14,n15⟩,rfl⟩
def yi3:ySS Rows.fnExactWorkLockSpec Tryz.f4.params.size:=by
 refine⟨rfl,λH ds h=>?_⟩
 match ds,h with
 |[d0,d1],_=>rfl
def yfC:ySD prg Tryz.f4 (Tryz.f4.resultTypes.getD 0 0) [(true,[.i,.sl [.sl [.i,.i],.i,.sl [.i]],.sl [.i,.i],.sl [.i,.i,.i,.i,.i,.i,.i,.i,.i,.sl [.b,.sl [.sl [.i,.i,.i,.i,.i,.i]]],.i,.i,.i,.i,.i,.i,.i,.i,.sl [.i,.i],.b,.i,.sl [.b,.sl [.sl [.i,.i,.i,.i,.i,.i]],.i,.i]],.sl [.sl [.b,.sl [.sl [.i,.i,.i,.i,.i,.i]],.i]],.sl [.b,.sl [.sl [.i,.i,.i,.i,.i,.i]]],.sl [.i],.i,.i,.sl [.i],.sl [.i],.sl [.i,.i,.i,.i,.i],.sl [.i,.i,.b,.sl [.sl [.i,.i,.i,.i,.i,.i]]],.i,.i,.i]),(false,[.i])]:=
 ⟨yxg,by kernel_rfl,by kernel_rfl,by kernel_rfl,by kernel_rfl⟩
set_option maxRecDepth 100000 in
def yhe(os:Os)(started:os.Started)(H:Type)(enc:TypeId×Value->H):
 ReturnsInHanded {} Tryz.checked os 4 .any (Rows.fnExactWorkLockSpec.pre6 enc prg Tryz.f4 Rows.fnExactWorkLockRow.domain false) (Rows.fnExactWorkLockSpec.post enc prg Tryz.f4 false true false false):=by
 refine law_lifted (C:=Tryz.checked) yBc started (by kernel_rfl) Tryz.func4
  (ChangeSpec.witness6 (enc:=enc) (C:=Tryz.checked) false ⟨#[],#[.agg #[.int .i64 0,.slice none 0 0,.slice none 0 0,.slice none 0 0,.slice none 0 0,.slice none 0 0,.slice none 0 0,.int .i64 0,.int .i64 0,.slice none 0 0,.slice none 0 0,.slice none 0 0,.slice none 0 0,.int .i64 0,.int .i64 0,.int .i64 0],.int .i64 0],[]⟩ 8 (by kernel_rfl) (by kernel_rfl) (by kernel_rfl) (by kernel_rfl)) yi3 yfC ?_
 rintro avs ⟨a,avs0,rfl,ha,b,avs1,rfl,hb,rfl⟩
 cases ha with
 | st h0=>
  cases hb with
  |one h1=>
   obtain⟨x0,rfl⟩:=yy3 h0;obtain⟨x1,rfl⟩:=h1.nJ;exact ynF x0 x1
def yi0:yvb prg 4 Tryz.f4 Rows.fnExactWorkLockSpec Rows.fnExactWorkLockRow=true:=by kernel_rfl
def yi2:Tryz.pinned.checked.prog.funcNamed Rows.fnExactWorkLockRow.func=some 4:=by kernel_rfl
def yjW:Tryz.f4.isInstance Tryz.pinned.checked.prog Rows.fnExactWorkLockRow.origin Rows.fnExactWorkLockRow.targs:=(of_decide_eq_true (by kernel_rfl))
def ykf:Tryz.f4.isWrapper Tryz.pinned.checked.prog Rows.fnExactWorkLockRow.wrapper Rows.fnExactWorkLockRow.mainSum:=by
 unfold Func.isWrapper;first|(rw[if_pos (by decide+kernel)];kernel_rfl)|(rw[if_neg (by decide+kernel)];exact⟨rfl,rfl⟩)
theorem FnExactWorkLock_holds:Rows.FnExactWorkLockSaid:=
 OpenClaim.holds_of_wide (p:=Tryz.pinned) (s:=Rows.fnExactWorkLockSpec) (c:=Rows.fnExactWorkLockRow) 4 Tryz.f4 rfl rfl rfl rfl rfl rfl rfl ⟨rfl,rfl,rfl,rfl,rfl⟩ rfl rfl rfl rfl rfl yi2 Tryz.func4
  (yDX yDP yi0 ⟨rfl,rfl,rfl,rfl,rfl,rfl,rfl,rfl⟩) yjW ykf (λos started H enc _=>yhe os started H enc)
end
end Go.Proofs.YtekgilpcgbbfcaaGreat
