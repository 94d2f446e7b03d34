/- What functions answer, in plain Lean. -/
import Derived.Test.YtdadkiofenhnbaaGreatR9
set_option linter.all false
set_option maxRecDepth 100000
set_option maxHeartbeats 4000000
namespace Go.Proofs.YtdadkiofenhnbaaGreat
open Go.RowKit
noncomputable section
def yyO(xs:List Reach)(k:Int)(h0:0<=k)(h1:k+cnt aH xs<=8000000000000000000):
 InF prg 109 (.c (ct 3 (xs.map Reach.iD))) (.c (ct 3 (dH rY aH k xs))) [.c (.i k)] (.c (.i (k+cnt aH xs))):=by
 rcases zao xs.length with hx|hx
 .have:xs=[]:=zae.1 hx;subst this;refine aK yeI (by simp) (by simp) rfl λhwf=>?_;simp -dsimp[ya5,dH,cnt];refine qA (ι:=Unit) (λ_=>True) (λ_=>xC [(0,.c (.sl 3 [])),(1,.c (.i k)),(5,.c (.i 0)),(1000000,.c (.sl 3 []))] []) (λ_=>0) () trivial (by apply aB<;>simp) ?_
  rintro _ _
  exact goE_
 .rw[iY (by simpa using hx),iY (by rw[jD];exact hx)];refine aK yeI (by simp) (by simp) rfl λhwf=>?_;simp -dsimp[ya5];refine yX2 (λi=>i<=xs.length) (λi=>xC [(0,.own 0 3 xs.length),(1,.c (.i (k+pI aH xs i))),(5,.c (.i i)),(1000000,.own 0 3 xs.length)] [(0,.tr 3 0 (dX rY Reach.iD aH k xs i))]) (λi=>xs.length-i) (by apply aB<;>simp[yD,jK,Obj.leO]) ?_
  rintro i hi
  rcases yX1 i xs with⟨hlt,e,he⟩|hge
  .have hg:=yaO (f:=rY) (g:=Reach.iD) (n:=aH) (k:=k) he;have hl:=yaK (f:=rY) (g:=Reach.iD) (n:=aH) (k:=k) (xs:=xs) (i:=i);have hs:=yaL (f:=rY) (g:=Reach.iD) (n:=aH) (k:=k) he;have hc:=kK (n:=aH) he;have hle:=kR (n:=aH) (xs:=xs) (i:=i+1);have hn:aH e=2*e.ySg.length+1+e.ySk.length:=rfl;generalize hM:dX rY Reach.iD aH k xs i=M at *;generalize hK:(k+(pI aH xs i:Int))=K at *;have hlt2:i<M.length:=by omega
   have g1:M[i]=Reach.iD e:=(zaa.1 hg).2;have hself:∀a,(M.set i a)[i]?=some a:=λa=>zaQ hlt2;have hgetD:∀a,(M.set i a)[i]?.getD []=a:=λa=>by rw[hself];rfl
   simp only[Reach.iD]at hg g1;have hk:0<=K:=by omega
   simp -dsimp[fC hlt,hg,hl,hlt2,g1,hself,setAt];intro hlen
   repeat(refine⟨by first|exact hlt|(unfold inI;omega)|exact dQ (by omega),?_⟩)
   refine fU (k0:=3) (j:=0) (i:=(i:Int)) (r:=[.ow 2 (e.ySg.map ySc.enc),.i e.ySh,.ow 1 (e.ySk.map qC)]) (c:=.ow 2 (e.ySg.map ySc.enc)) (c':=.ow 2 (marked ylF 2 [] K e.ySg.length)) (yy5 e.ySg (K) (by omega) (by omega)) (by simp) rfl rfl rfl (by first|exact hself _|simpa using hg) rfl ⟨_,by rw[kE];simp,rfl,rfl,rfl⟩ (by simp[C.sz]) ?_;simp -dsimp[setAt,hself,hlt2,hl]
   repeat(refine⟨by first|exact hlt|(unfold inI;omega)|exact dQ (by omega),?_⟩)
   refine fU (k0:=3) (j:=2) (i:=(i:Int)) (r:=[.ow 2 (marked ylF 2 [] K e.ySg.length),.i (K+2*(e.ySg.length:Int)),.ow 1 (e.ySk.map qC)]) (c:=.ow 1 (e.ySk.map qC)) (c':=.ow 1 (marked qC 1 [] (K+2*(e.ySg.length:Int)+1) e.ySk.length)) (mV e.ySk (K+2*(e.ySg.length:Int)+1) (by omega) (by omega)) (by simp) rfl rfl rfl (by first|exact hself _|simpa using hg) rfl ⟨_,by rw[kE];simp,rfl,rfl,rfl⟩ (by simp[C.sz]) ?_;simp -dsimp[setAt,hself,hlt2,hl]
   repeat(refine⟨by first|exact hlt|(unfold inI;omega)|exact dQ (by omega)|exact gB hlt hlen,?_⟩)
   refine⟨i+1,hlt,by omega,?_⟩;simp only[rY]at hs;apply aB<;>simp[Obj.leO,hs,hself]<;>omega
  .have:i=xs.length:=by omega
   subst this;refine eP ?_;intro _;rw[yaX (Nat.le_refl _),cO (Nat.le_refl _),List.take_of_length_le (by rw[jD];exact Nat.le_refl _)];exact⟨rfl,rfl⟩
def yyz(xs:List Reach)(k:Int)(h0:0<=k)(h1:k+cnt aH xs<=8000000000000000000):qB prg 118 [.c (.sl 3 (dH yea aH k xs)),.c (.i k)] (.c (.i (k+cnt aH xs))):=by
 refine dB yoh (eP ?_);refine yX2 (λi=>i<=xs.length) (λi=>xC [(0,.c (.sl 3 (dH yea aH k xs))),(1,.c (.i (k+pI aH xs i))),(5,.c (.i i))] []) (λi=>xs.length-i) (by apply aB<;>simp[jK]) ?_
 rintro i hi
 rcases yX1 i xs with⟨hlt,e,he⟩|hge
 .have hg:=ydA (f:=yea) (n:=aH) (k:=k) he;have hc:=kK (n:=aH) he;have hle:=kR (n:=aH) (xs:=xs) (i:=i+1);have hn:aH e=2*e.ySg.length+1+e.ySk.length:=rfl;simp only[yea]at hg;generalize hK:(k+(pI aH xs i:Int))=K at *;have hk:0<=K:=by omega
  simp -dsimp -implicitDefEqProofs [jD,fC hlt,hg];intro hlen
  repeat(refine⟨by first|exact hlt|(unfold inI;omega)|exact dQ (by omega),?_⟩)
  refine aA (yyx e.ySg.length (K) (by omega) (by omega)) ?_;have n0:(K+2*(e.ySg.length:Int)<0)=False:=by simp;omega
  simp -dsimp -implicitDefEqProofs [n0,jD,fC hlt,hg]
  repeat(refine⟨by first|exact hlt|(unfold inI;omega)|exact dQ (by omega),?_⟩)
  refine aA (yhl e.ySk.length (K+2*(e.ySg.length:Int)+1) (by omega) (by omega)) ?_;have n2:(K+2*(e.ySg.length:Int)+1+(e.ySk.length:Int)<0)=False:=by simp;omega
  simp -dsimp -implicitDefEqProofs [n2,jD,fC hlt,hg]
  repeat(refine⟨by first|exact hlt|(unfold inI;omega)|exact dQ (by omega)|exact gB hlt hlen,?_⟩)
  refine⟨i+1,hlt,by omega,?_⟩;apply aB<;>simp<;>omega
 .have:i=xs.length:=by omega
  subst this;simp -dsimp -implicitDefEqProofs [jD];rw[cO (Nat.le_refl _)];intro _;rfl
def yHL:=yYw yl3 (sm:=λ_=>True) λe _=>yDF e
def yaj(k:Int):List C:=[.i k,.i (k+1)]
def yB9(xs:List Way)(k:Int)(h0:0<=k)(h1:k+2*xs.length<=8000000000000000000):
 InF prg 110 (.c (cw 2 (xs.map Way.enc))) (.c (cw 2 (marked yaj 2 [] k xs.length))) [.c (.i k)] (.c (.i (k+2*xs.length))):=by
 rcases zao xs.length with hx|hx
 .have:xs=[]:=zae.1 hx;subst this;refine aK yij (by simp) (by simp) rfl λhwf=>?_;simp -dsimp[yc3,marked];refine qA (ι:=Unit) (λ_=>True) (λ_=>xC [(0,.c (.sl 2 [])),(1,.c (.i k)),(5,.c (.i 0)),(1000000,.c (.sl 2 []))] []) (λ_=>0) () trivial (by apply aB<;>simp) ?_
  rintro _ _
  exact goE_
 .rw[kH (by simpa using hx),kH (by rw[kE];exact hx)];refine aK yij (by simp) (by simp) rfl λhwf=>?_;simp -dsimp[yc3];refine yX2 (λi=>i<=xs.length) (λi=>xC [(0,.own 0 2 xs.length),(1,.c (.i (k+2*i))),(5,.c (.i i)),(1000000,.own 0 2 xs.length)] [(0,.row 2 (marked yaj 2 (xs.map Way.enc) k i))]) (λi=>xs.length-i) (by apply aB<;>simp[yaS]) ?_
  rintro i hi
  rcases yX1 i xs with⟨hlt,e,he⟩|hge
  .have hg:=yb2 (mk:=yaj) (c:=2) (k:=k) (rows:=xs.map Way.enc) (i:=i) (r:=e.enc) (by simp[he]);have hl:=ybS (mk:=yaj) (c:=2) (k:=k) (rows:=xs.map Way.enc) (i:=i) (by simpa using hi);have hs:=ybU (mk:=yaj) (c:=2) (k:=k) (rows:=xs.map Way.enc) (i:=i) (by simpa using hlt);rw[zai]at hl;generalize marked yaj 2 (xs.map Way.enc) k i=M at *;have hlt2:i<M.length:=by omega
   have hself:∀a,(M.set i a)[i]?=some a:=λa=>zaQ hlt2;simp only[yaj]at hs;simp only[Way.enc]at hg;refine yaff (fC hlt) hg hl hlt2 hself ?_;intro hlen
   repeat(refine⟨by first|exact hlt|(unfold inI;omega)|(have:=zcZ 3 (show 0<=k+2*(i:Int) by omega);have:=zcE (k+2*(i:Int)) (b:=3) (by omega);unfold inI;omega),?_⟩)
   refine⟨i+1,hlt,by omega,?_⟩;apply aB<;>simp[hs,hself]<;>omega
  .have:i=xs.length:=by omega
   subst this;refine eP ?_;intro _;have e:=ybJ (mk:=yaj) (c:=2) (rows:=xs.map Way.enc) (k:=k) (i:=xs.length) (by simp);rw[e,zai,List.take_of_length_le (by rw[kE];exact Nat.le_refl _)]
def yB1(n:Nat)(k:Int)(h0:0<=k)(h1:k+2*n<=8000000000000000000):qB prg 119 [.c (.sl 2 (marked yaj 2 [] k n)),.c (.i k)] (.c (.i (k+2*n))):=by
 refine dB yrw (eP ?_);refine yX4 (λi=>i<=n) (λi=>xC [(0,.c (.sl 2 (marked yaj 2 [] k n))),(1,.c (.i (k+2*i))),(5,.c (.i i))] []) (λi=>n-i) ?_
 rintro i hi
 rcases zan i n with hlt|hge
 .have hg:=ydI (mk:=yaj) (c:=2) (k:=k) hlt;simp only[yaj]at hg;simp -dsimp[kE,fC hlt,hg];intro hlen
  repeat(refine⟨by first|exact hlt|(unfold inI;omega)|exact dQ (by omega),?_⟩)
  refine⟨i+1,hlt,by omega,?_⟩;apply aB<;>simp<;>omega
 .have:i=n:=by omega
  subst this;simp -dsimp[kE]
def yB5:=yYw yif (sm:=λ_=>True) λe _=>yxh e
def qR(k:Int):List C:=[.i k,.i (k+1)]
def yx2(xs:List ySf)(k:Int)(h0:0<=k)(h1:k+2*xs.length<=8000000000000000000):
 InF prg 231 (.c (cw 2 (xs.map ySf.enc))) (.c (cw 2 (marked qR 2 [] k xs.length))) [.c (.i k)] (.c (.i (k+2*xs.length))):=by
 rcases zao xs.length with hx|hx
 .have:xs=[]:=zae.1 hx;subst this;refine aK yez (by simp) (by simp) rfl λhwf=>?_;simp -dsimp[ybd,marked];refine qA (ι:=Unit) (λ_=>True) (λ_=>xC [(0,.c (.sl 2 [])),(1,.c (.i k)),(5,.c (.i 0)),(1000000,.c (.sl 2 []))] []) (λ_=>0) () trivial (by apply aB<;>simp) ?_
  rintro _ _
  exact goE_
 .rw[kH (by simpa using hx),kH (by rw[kE];exact hx)];refine aK yez (by simp) (by simp) rfl λhwf=>?_;simp -dsimp[ybd];refine yX2 (λi=>i<=xs.length) (λi=>xC [(0,.own 0 2 xs.length),(1,.c (.i (k+2*i))),(5,.c (.i i)),(1000000,.own 0 2 xs.length)] [(0,.row 2 (marked qR 2 (xs.map ySf.enc) k i))]) (λi=>xs.length-i) (by apply aB<;>simp[yaS]) ?_
  rintro i hi
  rcases yX1 i xs with⟨hlt,e,he⟩|hge
  .have hg:=yb2 (mk:=qR) (c:=2) (k:=k) (rows:=xs.map ySf.enc) (i:=i) (r:=e.enc) (by simp[he]);have hl:=ybS (mk:=qR) (c:=2) (k:=k) (rows:=xs.map ySf.enc) (i:=i) (by simpa using hi);have hs:=ybU (mk:=qR) (c:=2) (k:=k) (rows:=xs.map ySf.enc) (i:=i) (by simpa using hlt);rw[zai]at hl;generalize marked qR 2 (xs.map ySf.enc) k i=M at *;have hlt2:i<M.length:=by omega
   have hself:∀a,(M.set i a)[i]?=some a:=λa=>zaQ hlt2;simp only[qR]at hs;simp only[ySf.enc]at hg;refine yaff (fC hlt) hg hl hlt2 hself ?_;intro hlen
   repeat(refine⟨by first|exact hlt|(unfold inI;omega)|(have:=zcZ 3 (show 0<=k+2*(i:Int) by omega);have:=zcE (k+2*(i:Int)) (b:=3) (by omega);unfold inI;omega),?_⟩)
   refine⟨i+1,hlt,by omega,?_⟩;apply aB<;>simp[hs,hself]<;>omega
  .have:i=xs.length:=by omega
   subst this;refine eP ?_;intro _;have e:=ybJ (mk:=qR) (c:=2) (rows:=xs.map ySf.enc) (k:=k) (i:=xs.length) (by simp);rw[e,zai,List.take_of_length_le (by rw[kE];exact Nat.le_refl _)]
def yys(n:Nat)(k:Int)(h0:0<=k)(h1:k+2*n<=8000000000000000000):qB prg 236 [.c (.sl 2 (marked qR 2 [] k n)),.c (.i k)] (.c (.i (k+2*n))):=by
 refine dB yoB (eP ?_);refine yX4 (λi=>i<=n) (λi=>xC [(0,.c (.sl 2 (marked qR 2 [] k n))),(1,.c (.i (k+2*i))),(5,.c (.i i))] []) (λi=>n-i) ?_
 rintro i hi
 rcases zan i n with hlt|hge
 .have hg:=ydI (mk:=qR) (c:=2) (k:=k) hlt;simp only[qR]at hg;simp -dsimp[kE,fC hlt,hg];intro hlen
  repeat(refine⟨by first|exact hlt|(unfold inI;omega)|exact dQ (by omega),?_⟩)
  refine⟨i+1,hlt,by omega,?_⟩;apply aB<;>simp<;>omega
 .have:i=n:=by omega
  subst this;simp -dsimp[kE]
def ysi(xs:List yRT)(hl:aJ xs):nI prg 95 [.c (.sl 2 (xs.map yRT.enc))] (.c (.ot 2 (xs.map yRT.iD))):=by
 refine fF yiq (eP ?_);intro hlen;have hl1:=hl.1;refine⟨by omega,?_⟩;refine yX2 (λk=>k<=xs.length) (λk=>xC [(0,.c (.sl 2 (xs.map yRT.enc))),(3,.own 7 2 xs.length),(4,.c (.i k))] [(7,.tr 2 0 (partly yRT.iD [.b false,.sl 1 []] xs k))]) (λk=>xs.length-k) (by apply aB<;>simp[mF,Obj.leO]) ?_
 rintro k hk
 rcases yX1 k xs with⟨hlt,e,he⟩|hge
 .have hs:=fG (f:=yRT.iD) (z:=[.b false,.sl 1 []]) he;have hd:=qG (f:=yRT.iD) (z:=[.b false,.sl 1 []]) (n:=2) rfl hlt;simp only[yRT.iD]at hs;refine yaed he (fC hlt) ?_;intro _;refine yX3 (ylg e (hl.2 e (zac he))) (dP (yRT.aF _)) ?_;simp -dsimp[fC hlt,dG hk,jA,hd,hs];exact⟨hlt,gB hlt hlen,k+1,hlt,by omega,by apply aB<;>simp[Obj.leO]⟩
 .refine eU (aG hge) ?_;intro _;rw[eG hge,jA]
def jC(e:yRT):Nat:=1+cnt nB e.Rows
def pR(k:Int)(e:yRT):List C:=[.b (decide (k.tmod 3=0)),.ot 1 (dH fB nB (k+1) e.Rows)]
def ycI(k:Int)(e:yRT):List C:=[.b (decide (k.tmod 3=0)),.sl 1 (dH fBs nB (k+1) e.Rows)]
def yhP(k:Int)(e:yRT):dO (pR k e)=some (ycI k e):=by simp[pR,ycI,dO,C.shr,lM yy7]
def ynJ(xs:List yRT)(k:Int)(h0:0<=k)(h1:k+cnt jC xs<=8000000000000000000):
 InF prg 113 (.c (ct 2 (xs.map yRT.iD))) (.c (ct 2 (dH pR jC k xs))) [.c (.i k)] (.c (.i (k+cnt jC xs))):=by
 rcases zao xs.length with hx|hx
 .have:xs=[]:=zae.1 hx;subst this;refine aK ye2 (by simp) (by simp) rfl λhwf=>?_;simp -dsimp[ybr,dH,cnt];refine qA (ι:=Unit) (λ_=>True) (λ_=>xC [(0,.c (.sl 2 [])),(1,.c (.i k)),(5,.c (.i 0)),(1000000,.c (.sl 2 []))] []) (λ_=>0) () trivial (by apply aB<;>simp) ?_
  rintro _ _
  exact goE_
 .rw[iY (by simpa using hx),iY (by rw[jD];exact hx)];refine aK ye2 (by simp) (by simp) rfl λhwf=>?_;simp -dsimp[ybr];refine yX2 (λi=>i<=xs.length) (λi=>xC [(0,.own 0 2 xs.length),(1,.c (.i (k+pI jC xs i))),(5,.c (.i i)),(1000000,.own 0 2 xs.length)] [(0,.tr 2 0 (dX pR yRT.iD jC k xs i))]) (λi=>xs.length-i) (by apply aB<;>simp[yD,jK,Obj.leO]) ?_
  rintro i hi
  rcases yX1 i xs with⟨hlt,e,he⟩|hge
  .have hg:=yaO (f:=pR) (g:=yRT.iD) (n:=jC) (k:=k) he;have hl:=yaK (f:=pR) (g:=yRT.iD) (n:=jC) (k:=k) (xs:=xs) (i:=i);have hs:=yaL (f:=pR) (g:=yRT.iD) (n:=jC) (k:=k) he;have hc:=kK (n:=jC) he;have hle:=kR (n:=jC) (xs:=xs) (i:=i+1);have hn:jC e=1+cnt nB e.Rows:=rfl;generalize hM:dX pR yRT.iD jC k xs i=M at *;generalize hK:(k+(pI jC xs i:Int))=K at *;have hlt2:i<M.length:=by omega
   have g1:M[i]=yRT.iD e:=(zaa.1 hg).2;have hself:∀a,(M.set i a)[i]?=some a:=λa=>zaQ hlt2;have hgetD:∀a,(M.set i a)[i]?.getD []=a:=λa=>by rw[hself];rfl
   simp only[yRT.iD]at hg g1;have hk:0<=K:=by omega
   simp -dsimp[fC hlt,hg,hl,hlt2,g1,hself,setAt];intro hlen
   repeat(refine⟨by first|exact hlt|(unfold inI;omega)|exact dQ (by omega),?_⟩)
   refine fU (k0:=2) (j:=1) (i:=(i:Int)) (r:=[.b (decide (K.tmod 3=0)),.ot 1 (e.Rows.map jF)]) (c:=.ot 1 (e.Rows.map jF)) (c':=.ot 1 (dH fB nB (K+1) e.Rows)) (ydw e.Rows (K+1) (by omega) (by omega)) (by simp) rfl rfl rfl (by first|exact hself _|simpa using hg) rfl ⟨_,by rw[jD];simp,rfl,rfl,rfl⟩ (by simp[C.sz]) ?_;simp -dsimp[setAt,hself,hlt2,hl]
   repeat(refine⟨by first|exact hlt|(unfold inI;omega)|exact dQ (by omega)|exact gB hlt hlen,?_⟩)
   refine⟨i+1,hlt,by omega,?_⟩;simp only[pR]at hs;apply aB<;>simp[Obj.leO,hs,hself]<;>omega
  .have:i=xs.length:=by omega
   subst this;refine eP ?_;intro _;rw[yaX (Nat.le_refl _),cO (Nat.le_refl _),List.take_of_length_le (by rw[jD];exact Nat.le_refl _)];exact⟨rfl,rfl⟩
def yos(xs:List yRT)(k:Int)(h0:0<=k)(h1:k+cnt jC xs<=8000000000000000000):qB prg 122 [.c (.sl 2 (dH ycI jC k xs)),.c (.i k)] (.c (.i (k+cnt jC xs))):=by
 refine dB ynM (eP ?_);refine yX2 (λi=>i<=xs.length) (λi=>xC [(0,.c (.sl 2 (dH ycI jC k xs))),(1,.c (.i (k+pI jC xs i))),(5,.c (.i i))] []) (λi=>xs.length-i) (by apply aB<;>simp[jK]) ?_
 rintro i hi
 rcases yX1 i xs with⟨hlt,e,he⟩|hge
 .have hg:=ydA (f:=ycI) (n:=jC) (k:=k) he;have hc:=kK (n:=jC) he;have hle:=kR (n:=jC) (xs:=xs) (i:=i+1);have hn:jC e=1+cnt nB e.Rows:=rfl;simp only[ycI]at hg;generalize hK:(k+(pI jC xs i:Int))=K at *;have hk:0<=K:=by omega
  simp -dsimp -implicitDefEqProofs [jD,fC hlt,hg];intro hlen
  repeat(refine⟨by first|exact hlt|(unfold inI;omega)|exact dQ (by omega),?_⟩)
  refine aA (ydB e.Rows (K+1) (by omega) (by omega)) ?_;have n1:(K+1+(cnt nB e.Rows:Int)<0)=False:=by simp;omega
  simp -dsimp -implicitDefEqProofs [n1,jD,fC hlt,hg]
  repeat(refine⟨by first|exact hlt|(unfold inI;omega)|exact dQ (by omega)|exact gB hlt hlen,?_⟩)
  refine⟨i+1,hlt,by omega,?_⟩;apply aB<;>simp<;>omega
 .have:i=xs.length:=by omega
  subst this;simp -dsimp -implicitDefEqProofs [jD];rw[cO (Nat.le_refl _)];intro _;rfl
@[simp] def yR4.iD(e:yR4):List C:=[.b e.yRT.Up,.ot 1 (e.yRT.Rows.map jF),.i e.Since,.i e.Booked]
def yR4.bF(e:yR4):dO e.iD=some e.enc:=by simp[yR4.iD,dO,yY yI]
def yR4.aF(e:yR4):∀c∈e.iD,c.closed:=by
 simp only[yR4.iD,zaC,zaP,or_false,forall_eq_or_imp,forall_eq];exact⟨by simp[C.closed],iJ yeK _ _,by simp[C.closed],by simp[C.closed]⟩
def yG0(e:yR4)(hl:yR4.small e):nI prg 370 [.agg (e.enc.map .c)] (.agg (e.iD.map .c)):=by
 refine fF yl2 (eP ?_);refine yX3 (ylg e.yRT hl) (dP (yRT.aF _)) ?_;exact goU_
def yEK(xs:List yR4)(hl:oM xs):nI prg 328 [.c (.sl 4 (xs.map yR4.enc))] (.c (.ot 4 (xs.map yR4.iD))):=by
 refine fF yjS (eP ?_);intro hlen;have hl1:=hl.1;refine⟨by omega,?_⟩;refine yX2 (λk=>k<=xs.length) (λk=>xC [(0,.c (.sl 4 (xs.map yR4.enc))),(3,.own 7 4 xs.length),(4,.c (.i k))] [(7,.tr 4 0 (partly yR4.iD [.b false,.sl 1 [],.i 0,.i 0] xs k))]) (λk=>xs.length-k) (by apply aB<;>simp[mF,Obj.leO]) ?_
 rintro k hk
 rcases yX1 k xs with⟨hlt,e,he⟩|hge
 .have hs:=fG (f:=yR4.iD) (z:=[.b false,.sl 1 [],.i 0,.i 0]) he;have hd:=qG (f:=yR4.iD) (z:=[.b false,.sl 1 [],.i 0,.i 0]) (n:=4) rfl hlt;simp only[yR4.iD]at hs;refine yaed he (fC hlt) ?_;intro _;refine yX3 (yG0 e (hl.2 e (zac he))) (dP (yR4.aF _)) ?_;simp -dsimp[fC hlt,dG hk,jA,hd,hs];exact⟨hlt,gB hlt hlen,k+1,hlt,by omega,by apply aB<;>simp[Obj.leO]⟩
 .refine eU (aG hge) ?_;intro _;rw[eG hge,jA]
def gI(e:yR4):Nat:=1+cnt nB e.yRT.Rows+1+1
def ybu(k:Int)(e:yR4):List C:=[.b (decide (k.tmod 3=0)),.ot 1 (dH fB nB (k+1) e.yRT.Rows),.i (k+1+(cnt nB e.yRT.Rows:Int)),.i (k+1+(cnt nB e.yRT.Rows:Int)+1)]
def yhs(k:Int)(e:yR4):List C:=[.b (decide (k.tmod 3=0)),.sl 1 (dH fBs nB (k+1) e.yRT.Rows),.i (k+1+(cnt nB e.yRT.Rows:Int)),.i (k+1+(cnt nB e.yRT.Rows:Int)+1)]
def yjl(k:Int)(e:yR4):dO (ybu k e)=some (yhs k e):=by simp[ybu,yhs,dO,C.shr,lM yy7]
def yAn(xs:List yR4)(k:Int)(h0:0<=k)(h1:k+cnt gI xs<=8000000000000000000):
 InF prg 232 (.c (ct 4 (xs.map yR4.iD))) (.c (ct 4 (dH ybu gI k xs))) [.c (.i k)] (.c (.i (k+cnt gI xs))):=by
 rcases zao xs.length with hx|hx
 .have:xs=[]:=zae.1 hx;subst this;refine aK yf1 (by simp) (by simp) rfl λhwf=>?_;simp -dsimp[yb8,dH,cnt];refine qA (ι:=Unit) (λ_=>True) (λ_=>xC [(0,.c (.sl 4 [])),(1,.c (.i k)),(5,.c (.i 0)),(1000000,.c (.sl 4 []))] []) (λ_=>0) () trivial (by apply aB<;>simp) ?_
  rintro _ _
  exact goE_
 .rw[iY (by simpa using hx),iY (by rw[jD];exact hx)];refine aK yf1 (by simp) (by simp) rfl λhwf=>?_;simp -dsimp[yb8];refine yX2 (λi=>i<=xs.length) (λi=>xC [(0,.own 0 4 xs.length),(1,.c (.i (k+pI gI xs i))),(5,.c (.i i)),(1000000,.own 0 4 xs.length)] [(0,.tr 4 0 (dX ybu yR4.iD gI k xs i))]) (λi=>xs.length-i) (by apply aB<;>simp[yD,jK,Obj.leO]) ?_
  rintro i hi
  rcases yX1 i xs with⟨hlt,e,he⟩|hge
  .have hg:=yaO (f:=ybu) (g:=yR4.iD) (n:=gI) (k:=k) he;have hl:=yaK (f:=ybu) (g:=yR4.iD) (n:=gI) (k:=k) (xs:=xs) (i:=i);have hs:=yaL (f:=ybu) (g:=yR4.iD) (n:=gI) (k:=k) he;have hc:=kK (n:=gI) he;have hle:=kR (n:=gI) (xs:=xs) (i:=i+1);have hn:gI e=1+cnt nB e.yRT.Rows+1+1:=rfl;generalize hM:dX ybu yR4.iD gI k xs i=M at *;generalize hK:(k+(pI gI xs i:Int))=K at *;have hlt2:i<M.length:=by omega
   have g1:M[i]=yR4.iD e:=(zaa.1 hg).2;have hself:∀a,(M.set i a)[i]?=some a:=λa=>zaQ hlt2;have hgetD:∀a,(M.set i a)[i]?.getD []=a:=λa=>by rw[hself];rfl
   simp only[yR4.iD]at hg g1;have hk:0<=K:=by omega
   simp -dsimp[fC hlt,hg,hl,hlt2,g1,hself,setAt];intro hlen
   repeat(refine⟨by first|exact hlt|(unfold inI;omega)|exact dQ (by omega),?_⟩)
   refine fU (k0:=4) (j:=1) (i:=(i:Int)) (r:=[.b (decide (K.tmod 3=0)),.ot 1 (e.yRT.Rows.map jF),.i e.Since,.i e.Booked]) (c:=.ot 1 (e.yRT.Rows.map jF)) (c':=.ot 1 (dH fB nB (K+1) e.yRT.Rows)) (ydw e.yRT.Rows (K+1) (by omega) (by omega)) (by simp) rfl rfl rfl (by first|exact hself _|simpa using hg) rfl ⟨_,by rw[jD];simp,rfl,rfl,rfl⟩ (by simp[C.sz]) ?_;simp -dsimp[setAt,hself,hlt2,hl]
   repeat(refine⟨by first|exact hlt|(unfold inI;omega)|exact dQ (by omega)|exact gB hlt hlen,?_⟩)
   refine⟨i+1,hlt,by omega,?_⟩;simp only[ybu]at hs;apply aB<;>simp[Obj.leO,hs,hself]<;>omega
  .have:i=xs.length:=by omega
   subst this;refine eP ?_;intro _;rw[yaX (Nat.le_refl _),cO (Nat.le_refl _),List.take_of_length_le (by rw[jD];exact Nat.le_refl _)];exact⟨rfl,rfl⟩
def yzQ(xs:List yR4)(k:Int)(h0:0<=k)(h1:k+cnt gI xs<=8000000000000000000):qB prg 237 [.c (.sl 4 (dH yhs gI k xs)),.c (.i k)] (.c (.i (k+cnt gI xs))):=by
 refine dB ypy (eP ?_);refine yX2 (λi=>i<=xs.length) (λi=>xC [(0,.c (.sl 4 (dH yhs gI k xs))),(1,.c (.i (k+pI gI xs i))),(5,.c (.i i))] []) (λi=>xs.length-i) (by apply aB<;>simp[jK]) ?_
 rintro i hi
 rcases yX1 i xs with⟨hlt,e,he⟩|hge
 .have hg:=ydA (f:=yhs) (n:=gI) (k:=k) he;have hc:=kK (n:=gI) he;have hle:=kR (n:=gI) (xs:=xs) (i:=i+1);have hn:gI e=1+cnt nB e.yRT.Rows+1+1:=rfl;simp only[yhs]at hg;generalize hK:(k+(pI gI xs i:Int))=K at *;have hk:0<=K:=by omega
  simp -dsimp -implicitDefEqProofs [jD,fC hlt,hg];intro hlen
  repeat(refine⟨by first|exact hlt|(unfold inI;omega)|exact dQ (by omega),?_⟩)
  refine aA (ydB e.yRT.Rows (K+1) (by omega) (by omega)) ?_;have n1:(K+1+(cnt nB e.yRT.Rows:Int)<0)=False:=by simp;omega
  simp -dsimp -implicitDefEqProofs [n1,jD,fC hlt,hg]
  repeat(refine⟨by first|exact hlt|(unfold inI;omega)|exact dQ (by omega)|exact gB hlt hlen,?_⟩)
  refine⟨i+1,hlt,by omega,?_⟩;apply aB<;>simp<;>omega
 .have:i=xs.length:=by omega
  subst this;simp -dsimp -implicitDefEqProofs [jD];rw[cO (Nat.le_refl _)];intro _;rfl
@[simp] def yR0.iD(e:yR0):List C:=[.i e.Length,.i e.Width,.i e.ySi,.i e.ySj,.i e.Base,.i e.Area,.i e.ySs,.i e.ySn,.i e.Gate,.ot 2 (e.yRY.map yRT.iD)]
def yR0.aF(e:yR0):∀c∈e.iD,c.closed:=by
 simp only[yR0.iD,zaC,zaP,or_false,forall_eq_or_imp,forall_eq];exact⟨by simp[C.closed],by simp[C.closed],by simp[C.closed],by simp[C.closed],by simp[C.closed],by simp[C.closed],by simp[C.closed],by simp[C.closed],by simp[C.closed],iJ yRT.aF _ _⟩
def yGD(e:yR0)(hl:yR0.small e):nI prg 323 [.agg (e.enc.map .c)] (.agg (e.iD.map .c)):=by
 refine fF ymh (eP ?_);refine yX3 (ysi e.yRY hl) (iJ yRT.aF _ _) ?_;exact goU_
@[simp] def yR8.iD(e:yR8):List C:=[.i e.yR0.Length,.i e.yR0.Width,.i e.yR0.ySi,.i e.yR0.ySj,.i e.yR0.Base,.i e.yR0.Area,.i e.yR0.ySs,.i e.yR0.ySn,.i e.yR0.Gate,.ot 2 (e.yR0.yRY.map yRT.iD),.i e.ySp.ySu,.i e.ySp.Open,.i e.ySp.Step,.i e.ySp.ySy,.i e.ySp.Width,.i e.Rule.Low,.i e.Rule.High,.i e.Rule.ySx,.ow 2 (e.Pauses.map ySf.enc),.b e.Turn.Up,.i e.Turn.Count,.ot 4 (e.Calls.map yR4.iD)]
def yR8.bF(e:yR8):dO e.iD=some e.enc:=by simp[yR8.iD,dO,yY yRT.bF,yY yR4.bF]
def yR8.aF(e:yR8):∀c∈e.iD,c.closed:=by
 simp only[yR8.iD,zaC,zaP,or_false,forall_eq_or_imp,forall_eq];exact⟨by simp[C.closed],by simp[C.closed],by simp[C.closed],by simp[C.closed],by simp[C.closed],by simp[C.closed],by simp[C.closed],by simp[C.closed],by simp[C.closed],iJ yRT.aF _ _,by simp[C.closed],by simp[C.closed],by simp[C.closed],by simp[C.closed],by simp[C.closed],by simp[C.closed],by simp[C.closed],by simp[C.closed],by simp[C.closed],by simp[C.closed],by simp[C.closed],iJ yR4.aF _ _⟩
def yF7(e:yR8)(hl:yR8.small e):nI prg 218 [.agg (e.enc.map .c)] (.agg (e.iD.map .c)):=by
 refine fF ymt (eP ?_);refine yX3 (yGD e.yR0 hl.1) (dP (yR0.aF _)) (goT_ ?_);refine aA (yAO e.ySp) (eP ?_);refine aA (yzY e.Rule) (eP ?_);refine yX6 (yB5 e.Pauses hl.2.1) (goT_ ?_);refine aA (yAs e.Turn) (eP ?_);refine yX3 (yEK e.Calls hl.2.2) (iJ yR4.aF _ _) ?_;exact goU_
def yEb(xs:List yR8)(hl:ycw xs):nI prg 93 [.c (.sl 22 (xs.map yR8.enc))] (.c (.ot 22 (xs.map yR8.iD))):=by
 refine fF ykA (eP ?_);intro hlen;have hl1:=hl.1;refine⟨by omega,?_⟩;refine yX2 (λk=>k<=xs.length) (λk=>xC [(0,.c (.sl 22 (xs.map yR8.enc))),(3,.own 7 22 xs.length),(4,.c (.i k))] [(7,.tr 22 0 (partly yR8.iD [.i 0,.i 0,.i 0,.i 0,.i 0,.i 0,.i 0,.i 0,.i 0,.sl 2 [],.i 0,.i 0,.i 0,.i 0,.i 0,.i 0,.i 0,.i 0,.sl 2 [],.b false,.i 0,.sl 4 []] xs k))]) (λk=>xs.length-k) (by apply aB<;>simp[mF,Obj.leO]) ?_
 rintro k hk
 rcases yX1 k xs with⟨hlt,e,he⟩|hge
 .have hs:=fG (f:=yR8.iD) (z:=[.i 0,.i 0,.i 0,.i 0,.i 0,.i 0,.i 0,.i 0,.i 0,.sl 2 [],.i 0,.i 0,.i 0,.i 0,.i 0,.i 0,.i 0,.i 0,.sl 2 [],.b false,.i 0,.sl 4 []]) he;have hd:=qG (f:=yR8.iD) (z:=[.i 0,.i 0,.i 0,.i 0,.i 0,.i 0,.i 0,.i 0,.i 0,.sl 2 [],.i 0,.i 0,.i 0,.i 0,.i 0,.i 0,.i 0,.i 0,.sl 2 [],.b false,.i 0,.sl 4 []]) (n:=22) rfl hlt;simp only[yR8.iD]at hs;refine yaed he (fC hlt) ?_;intro _;refine yX3 (yF7 e (hl.2 e (zac he))) (dP (yR8.aF _)) ?_;simp -dsimp[fC hlt,dG hk,jA,hd,hs];exact⟨hlt,gB hlt hlen,k+1,hlt,by omega,by apply aB<;>simp[Obj.leO]⟩
 .refine eU (aG hge) ?_;intro _;rw[eG hge,jA]
def iI(e:yR8):Nat:=1+1+1+1+1+1+1+1+1+cnt jC e.yR0.yRY+1+1+1+1+1+1+1+1+2*e.Pauses.length+1+1+cnt gI e.Calls
def yax(k:Int)(e:yR8):List C:=[.i k,.i (k+1),.i (k+1+1),.i (k+1+1+1),.i (k+1+1+1+1),.i (k+1+1+1+1+1),.i (k+1+1+1+1+1+1),.i (k+1+1+1+1+1+1+1),.i (k+1+1+1+1+1+1+1+1),.ot 2 (dH pR jC (k+1+1+1+1+1+1+1+1+1) e.yR0.yRY),.i (k+1+1+1+1+1+1+1+1+1+(cnt jC e.yR0.yRY:Int)),.i (k+1+1+1+1+1+1+1+1+1+(cnt jC e.yR0.yRY:Int)+1),.i (k+1+1+1+1+1+1+1+1+1+(cnt jC e.yR0.yRY:Int)+1+1),.i (k+1+1+1+1+1+1+1+1+1+(cnt jC e.yR0.yRY:Int)+1+1+1),.i (k+1+1+1+1+1+1+1+1+1+(cnt jC e.yR0.yRY:Int)+1+1+1+1),.i (k+1+1+1+1+1+1+1+1+1+(cnt jC e.yR0.yRY:Int)+1+1+1+1+1),.i (k+1+1+1+1+1+1+1+1+1+(cnt jC e.yR0.yRY:Int)+1+1+1+1+1+1),.i (k+1+1+1+1+1+1+1+1+1+(cnt jC e.yR0.yRY:Int)+1+1+1+1+1+1+1),.ow 2 (marked qR 2 [] (k+1+1+1+1+1+1+1+1+1+(cnt jC e.yR0.yRY:Int)+1+1+1+1+1+1+1+1) e.Pauses.length),.b (decide ((k+1+1+1+1+1+1+1+1+1+(cnt jC e.yR0.yRY:Int)+1+1+1+1+1+1+1+1+2*(e.Pauses.length:Int)).tmod 3=0)),.i (k+1+1+1+1+1+1+1+1+1+(cnt jC e.yR0.yRY:Int)+1+1+1+1+1+1+1+1+2*(e.Pauses.length:Int)+1),.ot 4 (dH ybu gI (k+1+1+1+1+1+1+1+1+1+(cnt jC e.yR0.yRY:Int)+1+1+1+1+1+1+1+1+2*(e.Pauses.length:Int)+1+1) e.Calls)]
def yhA(k:Int)(e:yR8):List C:=[.i k,.i (k+1),.i (k+1+1),.i (k+1+1+1),.i (k+1+1+1+1),.i (k+1+1+1+1+1),.i (k+1+1+1+1+1+1),.i (k+1+1+1+1+1+1+1),.i (k+1+1+1+1+1+1+1+1),.sl 2 (dH ycI jC (k+1+1+1+1+1+1+1+1+1) e.yR0.yRY),.i (k+1+1+1+1+1+1+1+1+1+(cnt jC e.yR0.yRY:Int)),.i (k+1+1+1+1+1+1+1+1+1+(cnt jC e.yR0.yRY:Int)+1),.i (k+1+1+1+1+1+1+1+1+1+(cnt jC e.yR0.yRY:Int)+1+1),.i (k+1+1+1+1+1+1+1+1+1+(cnt jC e.yR0.yRY:Int)+1+1+1),.i (k+1+1+1+1+1+1+1+1+1+(cnt jC e.yR0.yRY:Int)+1+1+1+1),.i (k+1+1+1+1+1+1+1+1+1+(cnt jC e.yR0.yRY:Int)+1+1+1+1+1),.i (k+1+1+1+1+1+1+1+1+1+(cnt jC e.yR0.yRY:Int)+1+1+1+1+1+1),.i (k+1+1+1+1+1+1+1+1+1+(cnt jC e.yR0.yRY:Int)+1+1+1+1+1+1+1),.sl 2 (marked qR 2 [] (k+1+1+1+1+1+1+1+1+1+(cnt jC e.yR0.yRY:Int)+1+1+1+1+1+1+1+1) e.Pauses.length),.b (decide ((k+1+1+1+1+1+1+1+1+1+(cnt jC e.yR0.yRY:Int)+1+1+1+1+1+1+1+1+2*(e.Pauses.length:Int)).tmod 3=0)),.i (k+1+1+1+1+1+1+1+1+1+(cnt jC e.yR0.yRY:Int)+1+1+1+1+1+1+1+1+2*(e.Pauses.length:Int)+1),.sl 4 (dH yhs gI (k+1+1+1+1+1+1+1+1+1+(cnt jC e.yR0.yRY:Int)+1+1+1+1+1+1+1+1+2*(e.Pauses.length:Int)+1+1) e.Calls)]
def yqD(k:Int)(e:yR8):dO (yax k e)=some (yhA k e):=by simp[yax,yhA,dO,C.shr,lM yjl,lM yhP]
def yAp(xs:List yR8)(k:Int)(h0:0<=k)(h1:k+cnt iI xs<=8000000000000000000):
 InF prg 111 (.c (ct 22 (xs.map yR8.iD))) (.c (ct 22 (dH yax iI k xs))) [.c (.i k)] (.c (.i (k+cnt iI xs))):=by
 rcases zao xs.length with hx|hx
 .have:xs=[]:=zae.1 hx;subst this;refine aK ygm (by simp) (by simp) rfl λhwf=>?_;simp -dsimp -implicitDefEqProofs [ybK,dH,cnt];refine qA (ι:=Unit) (λ_=>True) (λ_=>xC [(0,.c (.sl 22 [])),(1,.c (.i k)),(5,.c (.i 0)),(1000000,.c (.sl 22 []))] []) (λ_=>0) () trivial (by apply aB<;>simp) ?_
  rintro _ _
  exact goE_
 .rw[iY (by simpa using hx),iY (by rw[jD];exact hx)];refine aK ygm (by simp) (by simp) rfl λhwf=>?_;simp -dsimp -implicitDefEqProofs [ybK];refine yX2 (λi=>i<=xs.length) (λi=>xC [(0,.own 0 22 xs.length),(1,.c (.i (k+pI iI xs i))),(5,.c (.i i)),(1000000,.own 0 22 xs.length)] [(0,.tr 22 0 (dX yax yR8.iD iI k xs i))]) (λi=>xs.length-i) (by apply aB<;>simp[yD,jK,Obj.leO]) ?_
  rintro i hi
  rcases yX1 i xs with⟨hlt,e,he⟩|hge
  .have hg:=yaO (f:=yax) (g:=yR8.iD) (n:=iI) (k:=k) he;have hl:=yaK (f:=yax) (g:=yR8.iD) (n:=iI) (k:=k) (xs:=xs) (i:=i);have hs:=yaL (f:=yax) (g:=yR8.iD) (n:=iI) (k:=k) he;have hc:=kK (n:=iI) he;have hle:=kR (n:=iI) (xs:=xs) (i:=i+1);have hn:iI e=1+1+1+1+1+1+1+1+1+cnt jC e.yR0.yRY+1+1+1+1+1+1+1+1+2*e.Pauses.length+1+1+cnt gI e.Calls:=rfl;generalize hM:dX yax yR8.iD iI k xs i=M at *;generalize hK:(k+(pI iI xs i:Int))=K at *;have hlt2:i<M.length:=by omega
   have g1:M[i]=yR8.iD e:=(zaa.1 hg).2;have hself:∀a,(M.set i a)[i]?=some a:=λa=>zaQ hlt2;have hgetD:∀a,(M.set i a)[i]?.getD []=a:=λa=>by rw[hself];rfl
   simp only[yR8.iD]at hg g1;have hk:0<=K:=by omega
   simp -dsimp -implicitDefEqProofs [fC hlt,hg,hl,hlt2,g1,hself,setAt];intro hlen
   repeat(refine⟨by first|exact hlt|(unfold inI;omega)|exact dQ (by omega),?_⟩)
   refine fU (k0:=22) (j:=9) (i:=(i:Int)) (r:=[.i K,.i (K+1),.i (K+1+1),.i (K+1+1+1),.i (K+1+1+1+1),.i (K+1+1+1+1+1),.i (K+1+1+1+1+1+1),.i (K+1+1+1+1+1+1+1),.i (K+1+1+1+1+1+1+1+1),.ot 2 (e.yR0.yRY.map yRT.iD),.i e.ySp.ySu,.i e.ySp.Open,.i e.ySp.Step,.i e.ySp.ySy,.i e.ySp.Width,.i e.Rule.Low,.i e.Rule.High,.i e.Rule.ySx,.ow 2 (e.Pauses.map ySf.enc),.b e.Turn.Up,.i e.Turn.Count,.ot 4 (e.Calls.map yR4.iD)]) (c:=.ot 2 (e.yR0.yRY.map yRT.iD)) (c':=.ot 2 (dH pR jC (K+1+1+1+1+1+1+1+1+1) e.yR0.yRY)) (ynJ e.yR0.yRY (K+1+1+1+1+1+1+1+1+1) (by omega) (by omega)) (by simp) rfl rfl rfl (by first|exact hself _|simpa using hg) rfl ⟨_,by rw[jD];simp,rfl,rfl,rfl⟩ (by simp[C.sz]) ?_;simp -dsimp -implicitDefEqProofs [setAt,hself,hlt2,hl]
   repeat(refine⟨by first|exact hlt|(unfold inI;omega)|exact dQ (by omega),?_⟩)
   refine fU (k0:=22) (j:=18) (i:=(i:Int)) (r:=[.i K,.i (K+1),.i (K+1+1),.i (K+1+1+1),.i (K+1+1+1+1),.i (K+1+1+1+1+1),.i (K+1+1+1+1+1+1),.i (K+1+1+1+1+1+1+1),.i (K+1+1+1+1+1+1+1+1),.ot 2 (dH pR jC (K+1+1+1+1+1+1+1+1+1) e.yR0.yRY),.i (K+1+1+1+1+1+1+1+1+1+(cnt jC e.yR0.yRY:Int)),.i (K+1+1+1+1+1+1+1+1+1+(cnt jC e.yR0.yRY:Int)+1),.i (K+1+1+1+1+1+1+1+1+1+(cnt jC e.yR0.yRY:Int)+1+1),.i (K+1+1+1+1+1+1+1+1+1+(cnt jC e.yR0.yRY:Int)+1+1+1),.i (K+1+1+1+1+1+1+1+1+1+(cnt jC e.yR0.yRY:Int)+1+1+1+1),.i (K+1+1+1+1+1+1+1+1+1+(cnt jC e.yR0.yRY:Int)+1+1+1+1+1),.i (K+1+1+1+1+1+1+1+1+1+(cnt jC e.yR0.yRY:Int)+1+1+1+1+1+1),.i (K+1+1+1+1+1+1+1+1+1+(cnt jC e.yR0.yRY:Int)+1+1+1+1+1+1+1),.ow 2 (e.Pauses.map ySf.enc),.b e.Turn.Up,.i e.Turn.Count,.ot 4 (e.Calls.map yR4.iD)]) (c:=.ow 2 (e.Pauses.map ySf.enc)) (c':=.ow 2 (marked qR 2 [] (K+1+1+1+1+1+1+1+1+1+(cnt jC e.yR0.yRY:Int)+1+1+1+1+1+1+1+1) e.Pauses.length)) (yx2 e.Pauses (K+1+1+1+1+1+1+1+1+1+(cnt jC e.yR0.yRY:Int)+1+1+1+1+1+1+1+1) (by omega) (by omega)) (by simp) rfl rfl rfl (by first|exact hself _|simpa using hg) rfl ⟨_,by rw[kE];simp,rfl,rfl,rfl⟩ (by simp[C.sz]) ?_;simp -dsimp -implicitDefEqProofs [setAt,hself,hlt2,hl]
   repeat(refine⟨by first|exact hlt|(unfold inI;omega)|exact dQ (by omega),?_⟩)
   refine fU (k0:=22) (j:=21) (i:=(i:Int)) (r:=[.i K,.i (K+1),.i (K+1+1),.i (K+1+1+1),.i (K+1+1+1+1),.i (K+1+1+1+1+1),.i (K+1+1+1+1+1+1),.i (K+1+1+1+1+1+1+1),.i (K+1+1+1+1+1+1+1+1),.ot 2 (dH pR jC (K+1+1+1+1+1+1+1+1+1) e.yR0.yRY),.i (K+1+1+1+1+1+1+1+1+1+(cnt jC e.yR0.yRY:Int)),.i (K+1+1+1+1+1+1+1+1+1+(cnt jC e.yR0.yRY:Int)+1),.i (K+1+1+1+1+1+1+1+1+1+(cnt jC e.yR0.yRY:Int)+1+1),.i (K+1+1+1+1+1+1+1+1+1+(cnt jC e.yR0.yRY:Int)+1+1+1),.i (K+1+1+1+1+1+1+1+1+1+(cnt jC e.yR0.yRY:Int)+1+1+1+1),.i (K+1+1+1+1+1+1+1+1+1+(cnt jC e.yR0.yRY:Int)+1+1+1+1+1),.i (K+1+1+1+1+1+1+1+1+1+(cnt jC e.yR0.yRY:Int)+1+1+1+1+1+1),.i (K+1+1+1+1+1+1+1+1+1+(cnt jC e.yR0.yRY:Int)+1+1+1+1+1+1+1),.ow 2 (marked qR 2 [] (K+1+1+1+1+1+1+1+1+1+(cnt jC e.yR0.yRY:Int)+1+1+1+1+1+1+1+1) e.Pauses.length),.b (decide ((K+1+1+1+1+1+1+1+1+1+(cnt jC e.yR0.yRY:Int)+1+1+1+1+1+1+1+1+2*(e.Pauses.length:Int)).tmod 3=0)),.i (K+1+1+1+1+1+1+1+1+1+(cnt jC e.yR0.yRY:Int)+1+1+1+1+1+1+1+1+2*(e.Pauses.length:Int)+1),.ot 4 (e.Calls.map yR4.iD)]) (c:=.ot 4 (e.Calls.map yR4.iD)) (c':=.ot 4 (dH ybu gI (K+1+1+1+1+1+1+1+1+1+(cnt jC e.yR0.yRY:Int)+1+1+1+1+1+1+1+1+2*(e.Pauses.length:Int)+1+1) e.Calls)) (yAn e.Calls (K+1+1+1+1+1+1+1+1+1+(cnt jC e.yR0.yRY:Int)+1+1+1+1+1+1+1+1+2*(e.Pauses.length:Int)+1+1) (by omega) (by omega)) (by simp) rfl rfl rfl (by first|exact hself _|simpa using hg) rfl ⟨_,by rw[jD];simp,rfl,rfl,rfl⟩ (by simp[C.sz]) ?_;simp -dsimp -implicitDefEqProofs [setAt,hself,hlt2,hl]
   repeat(refine⟨by first|exact hlt|(unfold inI;omega)|exact dQ (by omega)|exact gB hlt hlen,?_⟩)
   refine⟨i+1,hlt,by omega,?_⟩;simp only[yax]at hs;apply aB<;>simp[Obj.leO,hs,hself]<;>omega
  .have:i=xs.length:=by omega
   subst this;refine eP ?_;intro _;rw[yaX (Nat.le_refl _),cO (Nat.le_refl _),List.take_of_length_le (by rw[jD];exact Nat.le_refl _)];exact⟨rfl,rfl⟩
def yAm(xs:List yR8)(k:Int)(h0:0<=k)(h1:k+cnt iI xs<=8000000000000000000):qB prg 120 [.c (.sl 22 (dH yhA iI k xs)),.c (.i k)] (.c (.i (k+cnt iI xs))):=by
 refine dB yqi (eP ?_);refine yX2 (λi=>i<=xs.length) (λi=>xC [(0,.c (.sl 22 (dH yhA iI k xs))),(1,.c (.i (k+pI iI xs i))),(5,.c (.i i))] []) (λi=>xs.length-i) (by apply aB<;>simp[jK]) ?_
 rintro i hi
 rcases yX1 i xs with⟨hlt,e,he⟩|hge
 .have hg:=ydA (f:=yhA) (n:=iI) (k:=k) he;have hc:=kK (n:=iI) he;have hle:=kR (n:=iI) (xs:=xs) (i:=i+1);have hn:iI e=1+1+1+1+1+1+1+1+1+cnt jC e.yR0.yRY+1+1+1+1+1+1+1+1+2*e.Pauses.length+1+1+cnt gI e.Calls:=rfl;simp only[yhA]at hg;generalize hK:(k+(pI iI xs i:Int))=K at *;have hk:0<=K:=by omega
  simp -dsimp -implicitDefEqProofs [jD,fC hlt,hg];intro hlen
  repeat(refine⟨by first|exact hlt|(unfold inI;omega)|exact dQ (by omega),?_⟩)
  refine aA (yos e.yR0.yRY (K+1+1+1+1+1+1+1+1+1) (by omega) (by omega)) ?_;have n9:(K+1+1+1+1+1+1+1+1+1+(cnt jC e.yR0.yRY:Int)<0)=False:=by simp;omega
  simp -dsimp -implicitDefEqProofs [n9,jD,fC hlt,hg]
  repeat(refine⟨by first|exact hlt|(unfold inI;omega)|exact dQ (by omega),?_⟩)
  refine aA (yys e.Pauses.length (K+1+1+1+1+1+1+1+1+1+(cnt jC e.yR0.yRY:Int)+1+1+1+1+1+1+1+1) (by omega) (by omega)) ?_;have n18:(K+1+1+1+1+1+1+1+1+1+(cnt jC e.yR0.yRY:Int)+1+1+1+1+1+1+1+1+2*(e.Pauses.length:Int)<0)=False:=by simp;omega
  simp -dsimp -implicitDefEqProofs [n18,jD,fC hlt,hg]
  repeat(refine⟨by first|exact hlt|(unfold inI;omega)|exact dQ (by omega),?_⟩)
  refine aA (yzQ e.Calls (K+1+1+1+1+1+1+1+1+1+(cnt jC e.yR0.yRY:Int)+1+1+1+1+1+1+1+1+2*(e.Pauses.length:Int)+1+1) (by omega) (by omega)) ?_;have n21:(K+1+1+1+1+1+1+1+1+1+(cnt jC e.yR0.yRY:Int)+1+1+1+1+1+1+1+1+2*(e.Pauses.length:Int)+1+1+(cnt gI e.Calls:Int)<0)=False:=by simp;omega
  simp -dsimp -implicitDefEqProofs [n21,jD,fC hlt,hg]
  repeat(refine⟨by first|exact hlt|(unfold inI;omega)|exact dQ (by omega)|exact gB hlt hlen,?_⟩)
  refine⟨i+1,hlt,by omega,?_⟩;apply aB<;>simp<;>omega
 .have:i=xs.length:=by omega
  subst this;simp -dsimp -implicitDefEqProofs [jD];rw[cO (Nat.le_refl _)];intro _;rfl
def xG(xs:List yR6):List C:=[.ot 3 (xs.map yR6.iD)]
def oV(xs:List yR6):dO (xG xs)=some (nD xs):=by simp[xG,dO,yY yR6.bF]
def yoj(xs:List yR6):∀c∈xG xs,c.closed:=by
 intro c hc;simp only[xG,zas]at hc;subst hc;exact iJ yR6.aF _ _
def fMs(k:Int)(e:yR6):List C:=[.b (decide (k.tmod 3=0)),.sl 1 (dH fBs nB (k+1) e.yRT.Rows),.i (k+1+(cnt nB e.yRT.Rows:Int))]
def yLz(k:Int)(e:yR6):dO (fM k e)=some (fMs k e):=by simp[fM,fMs,dO,C.shr,lM yy7]
def yyK(xs:List yR6)(k:Int)(h0:0<=k)(h1:k+cnt nM xs<=8000000000000000000):qB prg 238 [.c (.sl 3 (dH fMs nM k xs)),.c (.i k)] (.c (.i (k+cnt nM xs))):=by
 refine dB yn4 (eP ?_);refine yX2 (λi=>i<=xs.length) (λi=>xC [(0,.c (.sl 3 (dH fMs nM k xs))),(1,.c (.i (k+pI nM xs i))),(5,.c (.i i))] []) (λi=>xs.length-i) (by apply aB<;>simp[jK]) ?_
 rintro i hi
 rcases yX1 i xs with⟨hlt,e,he⟩|hge
 .have hg:=ydA (f:=fMs) (n:=nM) (k:=k) he;have hc:=kK (n:=nM) he;have hle:=kR (n:=nM) (xs:=xs) (i:=i+1);have hn:nM e=1+cnt nB e.yRT.Rows+1:=rfl;simp only[fMs]at hg;generalize hK:(k+(pI nM xs i:Int))=K at *;have hk:0<=K:=by omega
  simp -dsimp -implicitDefEqProofs [jD,fC hlt,hg];intro hlen
  repeat(refine⟨by first|exact hlt|(unfold inI;omega)|exact dQ (by omega),?_⟩)
  refine aA (ydB e.yRT.Rows (K+1) (by omega) (by omega)) ?_;have n1:(K+1+(cnt nB e.yRT.Rows:Int)<0)=False:=by simp;omega
  simp -dsimp -implicitDefEqProofs [n1,jD,fC hlt,hg]
  repeat(refine⟨by first|exact hlt|(unfold inI;omega)|exact dQ (by omega)|exact gB hlt hlen,?_⟩)
  refine⟨i+1,hlt,by omega,?_⟩;apply aB<;>simp<;>omega
 .have:i=xs.length:=by omega
  subst this;simp -dsimp -implicitDefEqProofs [jD];rw[cO (Nat.le_refl _)];intro _;rfl
def yBm(xs:List (List yR6))(hl:yck xs):nI prg 94 [.c (.sl 1 (xs.map nD))] (.c (.ot 1 (xs.map xG))):=by
 refine fF ygo (eP ?_);intro hlen;have hl1:=hl.1;refine⟨by omega,yoL ?_⟩;refine eP ?_;refine yX2 (λk=>k<=xs.length) (λk=>xC [(0,.c (.sl 1 (xs.map nD))),(3,.own 7 1 xs.length),(4,.c (.i k))] [(7,.tr 1 0 (partly xG [.sl 3 []] xs k))]) (λk=>xs.length-k) (by apply aB<;>simp[mF,Obj.leO]) ?_
 rintro k hk
 rcases yX1 k xs with⟨hlt,e,he⟩|hge
 .have hs:=fG (f:=xG) (z:=[.sl 3 []]) he
  have hd:((partly xG [.sl 3 []] xs k)[k]?.getD []).set 0 (.ot 3 (e.map yR6.iD))=xG e:=by
   have:=tX (f:=xG) (z:=[.sl 3 []]) (n:=1) rfl (λ_=>rfl) hlt;obtain⟨x,hx⟩:=zaS.1 this;rw[hx];rfl
  refine yaed he (fC hlt) ?_;intro _;refine yX3 (yB7 e (hl.2 e (zac he))) (iJ yR6.aF _ _) ?_;simp -dsimp[fC hlt,dG hk,jA,setAt,hd,hs];exact⟨hlt,gB hlt hlen,k+1,hlt,by omega,by apply aB<;>simp[Obj.leO]⟩
 .refine eU (aG hge) ?_;intro _;rw[eG hge,jA]
def kG(r:List yR6):Nat:=cnt nM r
def xU(k:Int)(r:List yR6):List C:=[.ot 3 (dH fM nM k r)]
def yb6(k:Int)(r:List yR6):List C:=[.sl 3 (dH fMs nM k r)]
def yl8(k:Int)(e:List yR6):dO (xU k e)=some (yb6 k e):=by simp[xU,yb6,dO,C.shr,lM yLz]
def ywc(xs:List (List yR6))(k:Int)(h0:0<=k)(h1:k+cnt kG xs<=8000000000000000000):
 InF prg 112 (.c (ct 1 (xs.map xG))) (.c (ct 1 (dH xU kG k xs))) [.c (.i k)] (.c (.i (k+cnt kG xs))):=by
 rcases zao xs.length with hx|hx
 .have:xs=[]:=zae.1 hx;subst this;refine aK yeh (by simp) (by simp) rfl λhwf=>?_;simp -dsimp[yaC,dH,cnt];refine qA (ι:=Unit) (λ_=>True) (λ_=>xC [(0,.c (.sl 1 [])),(1,.c (.i k)),(5,.c (.i 0)),(1000000,.c (.sl 1 []))] []) (λ_=>0) () trivial (by apply aB<;>simp) ?_
  rintro _ _
  exact goE_
 .rw[iY (by simpa using hx),iY (by rw[jD];exact hx)];refine aK yeh (by simp) (by simp) rfl λhwf=>?_;simp -dsimp[yaC];refine yX2 (λi=>i<=xs.length) (λi=>xC [(0,.own 0 1 xs.length),(1,.c (.i (k+pI kG xs i))),(5,.c (.i i)),(1000000,.own 0 1 xs.length)] [(0,.tr 1 0 (dX xU xG kG k xs i))]) (λi=>xs.length-i) (by apply aB<;>simp[yD,jK,Obj.leO]) ?_
  rintro i hi
  rcases yX1 i xs with⟨hlt,e,he⟩|hge
  .have hg:=yaO (f:=xU) (g:=xG) (n:=kG) (k:=k) he;have hl:=yaK (f:=xU) (g:=xG) (n:=kG) (k:=k) (xs:=xs) (i:=i);have hs:=yaL (f:=xU) (g:=xG) (n:=kG) (k:=k) he;have hc:=kK (n:=kG) he;have hle:=kR (n:=kG) (xs:=xs) (i:=i+1);have hn:kG e=cnt nM e:=rfl;generalize hM:dX xU xG kG k xs i=M at *;generalize hK:(k+(pI kG xs i:Int))=K at *;have hlt2:i<M.length:=by omega
   have g1:M[i]=xG e:=(zaa.1 hg).2;have hself:∀a,(M.set i a)[i]?=some a:=λa=>zaQ hlt2;have hgetD:∀a,(M.set i a)[i]?.getD []=a:=λa=>by rw[hself];rfl
   simp only[xG]at hg g1;have hk:0<=K:=by omega
   simp -dsimp[fC hlt,hg,hl,hlt2,g1,hself,setAt];intro hlen
   repeat(refine⟨by first|exact hlt|(unfold inI;omega)|exact dQ (by omega),?_⟩)
   refine fU (k0:=1) (j:=0) (i:=(i:Int)) (r:=[.ot 3 (e.map yR6.iD)]) (c:=.ot 3 (e.map yR6.iD)) (c':=.ot 3 (dH fM nM K e)) (yyR e (K) (by omega) (by omega)) (by simp) rfl rfl rfl (by first|exact hself _|simpa using hg) rfl ⟨_,by rw[jD];simp,rfl,rfl,rfl⟩ (by simp[C.sz]) ?_;simp -dsimp[setAt,hself,hlt2,hl]
   repeat(refine⟨by first|exact hlt|(unfold inI;omega)|exact dQ (by omega)|exact gB hlt hlen,?_⟩)
   refine⟨i+1,hlt,by omega,?_⟩;simp only[xU]at hs;apply aB<;>simp[Obj.leO,hs,hself]<;>omega
  .have:i=xs.length:=by omega
   subst this;refine eP ?_;intro _;rw[yaX (Nat.le_refl _),cO (Nat.le_refl _),List.take_of_length_le (by rw[jD];exact Nat.le_refl _)];exact⟨rfl,rfl⟩
def ywA(xs:List (List yR6))(k:Int)(h0:0<=k)(h1:k+cnt kG xs<=8000000000000000000):qB prg 121 [.c (.sl 1 (dH yb6 kG k xs)),.c (.i k)] (.c (.i (k+cnt kG xs))):=by
 refine dB ym0 (eP ?_);refine yX2 (λi=>i<=xs.length) (λi=>xC [(0,.c (.sl 1 (dH yb6 kG k xs))),(1,.c (.i (k+pI kG xs i))),(5,.c (.i i))] []) (λi=>xs.length-i) (by apply aB<;>simp[jK]) ?_
 rintro i hi
 rcases yX1 i xs with⟨hlt,e,he⟩|hge
 .have hg:=ydA (f:=yb6) (n:=kG) (k:=k) he;have hc:=kK (n:=kG) he;have hle:=kR (n:=kG) (xs:=xs) (i:=i+1);have hn:kG e=cnt nM e:=rfl;simp only[yb6]at hg;generalize hK:(k+(pI kG xs i:Int))=K at *;have hk:0<=K:=by omega
  simp -dsimp[jD,fC hlt,hg];intro hlen
  repeat(refine⟨by first|exact hlt|(unfold inI;omega)|exact dQ (by omega),?_⟩)
  refine aA (yyK e (K) (by omega) (by omega)) ?_;have n0:(K+(cnt nM e:Int)<0)=False:=by simp;omega
  simp -dsimp[n0,jD,fC hlt,hg]
  repeat(refine⟨by first|exact hlt|(unfold inI;omega)|exact dQ (by omega)|exact gB hlt hlen,?_⟩)
  refine⟨i+1,hlt,by omega,?_⟩;apply aB<;>simp<;>omega
 .have:i=xs.length:=by omega
  subst this;simp -dsimp[jD];rw[cO (Nat.le_refl _)];intro _;rfl
@[simp] def yR2.iD(e:yR2):List C:=[.i e.Time,.i e.yR8,.b e.yRT.Up,.ot 1 (e.yRT.Rows.map jF)]
def yR2.bF(e:yR2):dO e.iD=some e.enc:=by simp[yR2.iD,dO,yY yI]
def yR2.aF(e:yR2):∀c∈e.iD,c.closed:=by
 simp only[yR2.iD,zaC,zaP,or_false,forall_eq_or_imp,forall_eq];exact⟨by simp[C.closed],by simp[C.closed],by simp[C.closed],iJ yeK _ _⟩
def yz7(e:yR2)(hl:yR2.small e):nI prg 222 [.agg (e.enc.map .c)] (.agg (e.iD.map .c)):=by
 refine fF yf4 (eP ?_);refine yX3 (ylg e.yRT hl) (dP (yRT.aF _)) ?_;exact goU_
def yyD(xs:List yR2)(hl:ybz xs):nI prg 99 [.c (.sl 4 (xs.map yR2.enc))] (.c (.ot 4 (xs.map yR2.iD))):=by
 refine fF yeX (eP ?_);intro hlen;have hl1:=hl.1;refine⟨by omega,?_⟩;refine yX2 (λk=>k<=xs.length) (λk=>xC [(0,.c (.sl 4 (xs.map yR2.enc))),(3,.own 7 4 xs.length),(4,.c (.i k))] [(7,.tr 4 0 (partly yR2.iD [.i 0,.i 0,.b false,.sl 1 []] xs k))]) (λk=>xs.length-k) (by apply aB<;>simp[mF,Obj.leO]) ?_
 rintro k hk
 rcases yX1 k xs with⟨hlt,e,he⟩|hge
 .have hs:=fG (f:=yR2.iD) (z:=[.i 0,.i 0,.b false,.sl 1 []]) he;have hd:=qG (f:=yR2.iD) (z:=[.i 0,.i 0,.b false,.sl 1 []]) (n:=4) rfl hlt;simp only[yR2.iD]at hs;refine yaed he (fC hlt) ?_;intro _;refine yX3 (yz7 e (hl.2 e (zac he))) (dP (yR2.aF _)) ?_;simp -dsimp[fC hlt,dG hk,jA,hd,hs];exact⟨hlt,gB hlt hlen,k+1,hlt,by omega,by apply aB<;>simp[Obj.leO]⟩
 .refine eU (aG hge) ?_;intro _;rw[eG hge,jA]
def sF(e:yR2):Nat:=1+1+1+cnt nB e.yRT.Rows
def iR(k:Int)(e:yR2):List C:=[.i k,.i (k+1),.b (decide ((k+1+1).tmod 3=0)),.ot 1 (dH fB nB (k+1+1+1) e.yRT.Rows)]
def yaA(k:Int)(e:yR2):List C:=[.i k,.i (k+1),.b (decide ((k+1+1).tmod 3=0)),.sl 1 (dH fBs nB (k+1+1+1) e.yRT.Rows)]
def yjF(k:Int)(e:yR2):dO (iR k e)=some (yaA k e):=by simp[iR,yaA,dO,C.shr,lM yy7]
def yuo(xs:List yR2)(k:Int)(h0:0<=k)(h1:k+cnt sF xs<=8000000000000000000):
 InF prg 117 (.c (ct 4 (xs.map yR2.iD))) (.c (ct 4 (dH iR sF k xs))) [.c (.i k)] (.c (.i (k+cnt sF xs))):=by
 rcases zao xs.length with hx|hx
 .have:xs=[]:=zae.1 hx;subst this;refine aK ydn (by simp) (by simp) rfl λhwf=>?_;simp -dsimp[yah,dH,cnt];refine qA (ι:=Unit) (λ_=>True) (λ_=>xC [(0,.c (.sl 4 [])),(1,.c (.i k)),(5,.c (.i 0)),(1000000,.c (.sl 4 []))] []) (λ_=>0) () trivial (by apply aB<;>simp) ?_
  rintro _ _
  exact goE_
 .rw[iY (by simpa using hx),iY (by rw[jD];exact hx)];refine aK ydn (by simp) (by simp) rfl λhwf=>?_;simp -dsimp[yah];refine yX2 (λi=>i<=xs.length) (λi=>xC [(0,.own 0 4 xs.length),(1,.c (.i (k+pI sF xs i))),(5,.c (.i i)),(1000000,.own 0 4 xs.length)] [(0,.tr 4 0 (dX iR yR2.iD sF k xs i))]) (λi=>xs.length-i) (by apply aB<;>simp[yD,jK,Obj.leO]) ?_
  rintro i hi
  rcases yX1 i xs with⟨hlt,e,he⟩|hge
  .have hg:=yaO (f:=iR) (g:=yR2.iD) (n:=sF) (k:=k) he;have hl:=yaK (f:=iR) (g:=yR2.iD) (n:=sF) (k:=k) (xs:=xs) (i:=i);have hs:=yaL (f:=iR) (g:=yR2.iD) (n:=sF) (k:=k) he;have hc:=kK (n:=sF) he;have hle:=kR (n:=sF) (xs:=xs) (i:=i+1);have hn:sF e=1+1+1+cnt nB e.yRT.Rows:=rfl;generalize hM:dX iR yR2.iD sF k xs i=M at *;generalize hK:(k+(pI sF xs i:Int))=K at *;have hlt2:i<M.length:=by omega
   have g1:M[i]=yR2.iD e:=(zaa.1 hg).2;have hself:∀a,(M.set i a)[i]?=some a:=λa=>zaQ hlt2;have hgetD:∀a,(M.set i a)[i]?.getD []=a:=λa=>by rw[hself];rfl
   simp only[yR2.iD]at hg g1;have hk:0<=K:=by omega
   simp -dsimp[fC hlt,hg,hl,hlt2,g1,hself,setAt];intro hlen
   repeat(refine⟨by first|exact hlt|(unfold inI;omega)|exact dQ (by omega),?_⟩)
   refine fU (k0:=4) (j:=3) (i:=(i:Int)) (r:=[.i K,.i (K+1),.b (decide ((K+1+1).tmod 3=0)),.ot 1 (e.yRT.Rows.map jF)]) (c:=.ot 1 (e.yRT.Rows.map jF)) (c':=.ot 1 (dH fB nB (K+1+1+1) e.yRT.Rows)) (ydw e.yRT.Rows (K+1+1+1) (by omega) (by omega)) (by simp) rfl rfl rfl (by first|exact hself _|simpa using hg) rfl ⟨_,by rw[jD];simp,rfl,rfl,rfl⟩ (by simp[C.sz]) ?_;simp -dsimp[setAt,hself,hlt2,hl]
   repeat(refine⟨by first|exact hlt|(unfold inI;omega)|exact dQ (by omega)|exact gB hlt hlen,?_⟩)
   refine⟨i+1,hlt,by omega,?_⟩;simp only[iR]at hs;apply aB<;>simp[Obj.leO,hs,hself]<;>omega
  .have:i=xs.length:=by omega
   subst this;refine eP ?_;intro _;rw[yaX (Nat.le_refl _),cO (Nat.le_refl _),List.take_of_length_le (by rw[jD];exact Nat.le_refl _)];exact⟨rfl,rfl⟩
def ysz(xs:List yR2)(k:Int)(h0:0<=k)(h1:k+cnt sF xs<=8000000000000000000):qB prg 126 [.c (.sl 4 (dH yaA sF k xs)),.c (.i k)] (.c (.i (k+cnt sF xs))):=by
 refine dB ylC (eP ?_);refine yX2 (λi=>i<=xs.length) (λi=>xC [(0,.c (.sl 4 (dH yaA sF k xs))),(1,.c (.i (k+pI sF xs i))),(5,.c (.i i))] []) (λi=>xs.length-i) (by apply aB<;>simp[jK]) ?_
 rintro i hi
 rcases yX1 i xs with⟨hlt,e,he⟩|hge
 .have hg:=ydA (f:=yaA) (n:=sF) (k:=k) he;have hc:=kK (n:=sF) he;have hle:=kR (n:=sF) (xs:=xs) (i:=i+1);have hn:sF e=1+1+1+cnt nB e.yRT.Rows:=rfl;simp only[yaA]at hg;generalize hK:(k+(pI sF xs i:Int))=K at *;have hk:0<=K:=by omega
  simp -dsimp -implicitDefEqProofs [jD,fC hlt,hg];intro hlen
  repeat(refine⟨by first|exact hlt|(unfold inI;omega)|exact dQ (by omega),?_⟩)
  refine aA (ydB e.yRT.Rows (K+1+1+1) (by omega) (by omega)) ?_;have n3:(K+1+1+1+(cnt nB e.yRT.Rows:Int)<0)=False:=by simp;omega
  simp -dsimp -implicitDefEqProofs [n3,jD,fC hlt,hg]
  repeat(refine⟨by first|exact hlt|(unfold inI;omega)|exact dQ (by omega)|exact gB hlt hlen,?_⟩)
  refine⟨i+1,hlt,by omega,?_⟩;apply aB<;>simp<;>omega
 .have:i=xs.length:=by omega
  subst this;simp -dsimp -implicitDefEqProofs [jD];rw[cO (Nat.le_refl _)];intro _;rfl
@[simp] def yRW.iD(e:yRW):List C:=[.i e.Time,.ot 3 (e.yRV.map Reach.iD),.ow 2 (e.ySl.map Way.enc),.ot 22 (e.yRX.map yR8.iD),.ot 1 (e.yR3.map xG),.ot 2 (e.yR9.map yRT.iD),.ow 1 (e.ySd.map qC),.i e.yRZ.Base,.i e.yRZ.ySe,.ow 1 (e.yRZ.yR5.map qC),.ow 1 (e.yRZ.yR7.map qC),.ow 5 (e.Book.map ySb.enc),.ot 4 (e.yR1.map yR2.iD),.i e.Start,.i e.In,.i e.Out]
def yRW.aF(e:yRW):∀c∈e.iD,c.closed:=by
 simp only[yRW.iD,zaC,zaP,or_false,forall_eq_or_imp,forall_eq];exact⟨by simp[C.closed],iJ Reach.aF _ _,by simp[C.closed],iJ yR8.aF _ _,iJ yoj _ _,iJ yRT.aF _ _,by simp[C.closed],by simp[C.closed],by simp[C.closed],by simp[C.closed],by simp[C.closed],by simp[C.closed],iJ yR2.aF _ _,by simp[C.closed],by simp[C.closed],by simp[C.closed]⟩
def yzm(e:yRW)(hl:yRW.small e):nI prg 38 [.agg (e.enc.map .c)] (.agg (e.iD.map .c)):=by
 refine fF yeD (eP ?_);refine yX3 (yCC e.yRV hl.1) (iJ Reach.aF _ _) (goT_ ?_);refine yX6 (yHL e.ySl hl.2.1) (goT_ ?_);refine yX3 (yEb e.yRX hl.2.2.1) (iJ yR8.aF _ _) (goT_ ?_);refine yX3 (yBm e.yR3 hl.2.2.2.1) (iJ yoj _ _) (goT_ ?_);refine yX3 (ysi e.yR9 hl.2.2.2.2.1) (iJ yRT.aF _ _) (goT_ ?_);refine yX6 (ynU e.ySd hl.2.2.2.2.2.1.1) (goT_ ?_);refine yX3 (yCp e.yRZ hl.2.2.2.2.2.2.1) (dP (yRZ.aF _)) (goT_ ?_);refine yX6 (yBz e.Book hl.2.2.2.2.2.2.2.1.1) (goT_ ?_);refine yX3 (yyD e.yR1 hl.2.2.2.2.2.2.2.2) (iJ yR2.aF _ _) ?_;exact goU_
def yHb(es:List ySc)(hl:es.length<=1048576):nI prg 347 [.c (.sl 2 (es.map ySc.enc))] (.c (.ow 2 (es.map ySc.enc))):=by
 refine fF mZ ?_;simp[iP,jA];omega
def ynW(es:List Int)(hl:es.length<=1048576):nI prg 152 [.c (.sl 1 (es.map qC))] (.c (.ow 1 (es.map qC))):=by
 refine fF yev ?_;simp[yad,jA];omega
def yFa(es:List ySf)(hl:es.length<=1048576):nI prg 251 [.c (.sl 2 (es.map ySf.enc))] (.c (.ow 2 (es.map ySf.enc))):=by
 refine fF oZ ?_;simp[yYQ,jA];omega
def yFI(es:List Way)(hl:es.length<=1048576):nI prg 148 [.c (.sl 2 (es.map Way.enc))] (.c (.ow 2 (es.map Way.enc))):=by
 refine fF yal ?_;simp[aT,jA];omega
def yFy(es:List ySb)(hl:es.length<=1048576):nI prg 154 [.c (.sl 5 (es.map ySb.enc))] (.c (.ow 5 (es.map ySb.enc))):=by
 refine fF fP ?_;simp[oJ,jA];omega
def ye5(e:Reach)(hl:Reach.small e):nI prg 249 [.agg (e.enc.map .c)] (.agg (e.iD.map .c)):=by
 refine fF yqn (eP ?_);refine pJ (yHb e.ySg hl.1.1) (by simp) (by simp[AV.closed,AV.jI,C.closed]) (by simp[fD]) (goT_ ?_);refine pJ (ynW e.ySk hl.2.1) (by simp) (by simp[AV.closed,AV.jI,C.closed]) (by simp[fD]) ?_;exact goU_
def yvL(xs:List Reach)(hl:ybv xs):nI prg 147 [.c (.sl 3 (xs.map Reach.enc))] (.c (.ot 3 (xs.map Reach.iD))):=by
 refine fF ym4 ?_;simp;intro hlen;have hl1:=hl.1;refine⟨by omega,?_⟩;intro _;refine yX2 (λk=>k<=xs.length) (λk=>xC [(3,.own 8 3 k),(9,.c (.sl 3 (xs.map Reach.enc))),(10,.c (.i xs.length)),(11,.c (.i k))] [(8,.tr 3 0 ((xs.take k).map Reach.iD))]) (λk=>xs.length-k) (by apply aB<;>simp[Obj.leO]) ?_
 rintro k hk
 rcases yX1 k xs with⟨hlt,e,he⟩|hge
 .have hs:xs.take (k+1)=xs.take k++[e]:=by rw[zar,he];rfl
  have he2:=hl.2 e (zac he);have g1:=(zaa.1 he).2;simp[he,g1,hlt,fC hlt];refine yX3 (ye5 e he2) (dP (Reach.aF e)) ?_;simp[jA,Nat.min_eq_left hk,iW];refine⟨by omega,gB hlt hlen,k+1,hlt,by omega,?_⟩;have hs2:(xs.map Reach.iD).take (k+1)=(xs.map Reach.iD).take k++[Reach.iD e]:=by rw[<-zaV,<-zaV,hs,zaB];rfl
  apply aB<;>simp[Obj.leO,hs2]
 .have:k=xs.length:=by omega
  subst this;simp[jA]
  try simp
def ybj(xs:List yRT)(hl:aJ xs):nI prg 151 [.c (.sl 2 (xs.map yRT.enc))] (.c (.ot 2 (xs.map yRT.iD))):=by
 refine fF ynC ?_;simp;intro hlen;have hl1:=hl.1;refine ydE (k0:=2) 3 2 (by simp) (by simp) (by decide) ?_;refine yX2 (λk=>k<=xs.length) (λk=>xC [(3,.own 3 2 k),(6,.c (.sl 2 (xs.map yRT.enc))),(7,.c (.i xs.length)),(8,.c (.i k))] [(3,.tr 2 0 ((xs.take k).map yRT.iD))]) (λk=>xs.length-k) (by apply aB<;>simp[Obj.leO]) ?_
 rintro k hk
 rcases yX1 k xs with⟨hlt,e,he⟩|hge
 .have hs:xs.take (k+1)=xs.take k++[e]:=by rw[zar,he];rfl
  have he2:=hl.2 e (zac he);have g1:=(zaa.1 he).2;simp[he,g1,hlt,fC hlt];refine yX3 (yaU e he2) (dP (yRT.aF e)) ?_;simp[jA,Nat.min_eq_left hk,iW];refine⟨by omega,gB hlt hlen,k+1,hlt,by omega,?_⟩;have hs2:(xs.map yRT.iD).take (k+1)=(xs.map yRT.iD).take k++[yRT.iD e]:=by rw[<-zaV,<-zaV,hs,zaB];rfl
  apply aB<;>simp[Obj.leO,hs2]
 .have:k=xs.length:=by omega
  subst this;simp[jA]
  try simp
def yzp(xs:List yR4)(hl:oM xs):nI prg 252 [.c (.sl 4 (xs.map yR4.enc))] (.c (.ot 4 (xs.map yR4.iD))):=by
 refine fF ype ?_;simp -dsimp -implicitDefEqProofs;intro hlen;have hl1:=hl.1;refine ydE (k0:=4) 3 4 (by simp) (by simp) (by decide) ?_;refine yX2 (λk=>k<=xs.length) (λk=>xC [(3,.own 3 4 k),(6,.c (.sl 4 (xs.map yR4.enc))),(7,.c (.i xs.length)),(8,.c (.i k))] [(3,.tr 4 0 ((xs.take k).map yR4.iD))]) (λk=>xs.length-k) (by apply aB<;>simp[Obj.leO]) ?_
 rintro k hk
 rcases yX1 k xs with⟨hlt,e,he⟩|hge
 .have hs:xs.take (k+1)=xs.take k++[e]:=by rw[zar,he];rfl
  have he2:=hl.2 e (zac he);have g1:=(zaa.1 he).2;simp -dsimp -implicitDefEqProofs [he,g1,hlt,fC hlt];refine pJ (yaU e.yRT he2) (by simp) (dP (yRT.aF e.yRT)) (by simp[fD]) ?_;simp -dsimp -implicitDefEqProofs [jA,Nat.min_eq_left hk,iW];refine⟨by omega,gB hlt hlen,k+1,hlt,by omega,?_⟩;have hs2:(xs.map yR4.iD).take (k+1)=(xs.map yR4.iD).take k++[yR4.iD e]:=by rw[<-zaV,<-zaV,hs,zaB];rfl
  apply aB<;>simp[Obj.leO,hs2]
 .have:k=xs.length:=by omega
  subst this;simp -dsimp -implicitDefEqProofs [jA]
  try simp
def yyd(xs:List yR6)(hl:ydp xs):nI prg 150 [.c (.sl 3 (xs.map yR6.enc))] (.c (.ot 3 (xs.map yR6.iD))):=by
 refine fF yoA ?_;simp -dsimp -implicitDefEqProofs;intro hlen;have hl1:=hl.1;refine ydE (k0:=3) 3 3 (by simp) (by simp) (by decide) ?_;refine yX2 (λk=>k<=xs.length) (λk=>xC [(3,.own 3 3 k),(6,.c (.sl 3 (xs.map yR6.enc))),(7,.c (.i xs.length)),(8,.c (.i k))] [(3,.tr 3 0 ((xs.take k).map yR6.iD))]) (λk=>xs.length-k) (by apply aB<;>simp[Obj.leO]) ?_
 rintro k hk
 rcases yX1 k xs with⟨hlt,e,he⟩|hge
 .have hs:xs.take (k+1)=xs.take k++[e]:=by rw[zar,he];rfl
  have he2:=hl.2 e (zac he);have g1:=(zaa.1 he).2;simp -dsimp -implicitDefEqProofs [he,g1,hlt,fC hlt];refine pJ (yaU e.yRT he2) (by simp) (dP (yRT.aF e.yRT)) (by simp[fD]) ?_;simp -dsimp -implicitDefEqProofs [jA,Nat.min_eq_left hk,iW];refine⟨by omega,gB hlt hlen,k+1,hlt,by omega,?_⟩;have hs2:(xs.map yR6.iD).take (k+1)=(xs.map yR6.iD).take k++[yR6.iD e]:=by rw[<-zaV,<-zaV,hs,zaB];rfl
  apply aB<;>simp[Obj.leO,hs2]
 .have:k=xs.length:=by omega
  subst this;simp -dsimp -implicitDefEqProofs [jA]
  try simp
def ysC(e:yR0)(hl:yR0.small e):nI prg 250 [.agg (e.enc.map .c)] (.agg (e.iD.map .c)):=by
 refine fF yrk ?_;simp;refine yX3 (ybj e.yRY hl) (iJ yRT.aF _ _) ?_;simp[jA]
def yy2(e:yRZ)(hl:yRZ.small e):nI prg 153 [.agg (e.enc.map .c)] (.agg (e.iD.map .c)):=by
 refine fF yn6 ?_;simp;refine sD (ynW e.yR5 hl.1) (by simp) (by simp[AV.closed,AV.jI,C.closed]) (by simp[fD]) ?_;simp[jA];refine sD (ynW e.yR7 hl.2) (by simp) (by simp[AV.closed,AV.jI,C.closed]) (by simp[fD]) ?_;simp[jA]
def yAG(xs:List yR8)(hl:ycw xs):nI prg 149 [.c (.sl 22 (xs.map yR8.enc))] (.c (.ot 22 (xs.map yR8.iD))):=by
 refine fF yp9 ?_;simp;intro hlen;have hl1:=hl.1;refine ydE (k0:=22) 3 22 (by simp) (by simp) (by decide) ?_;refine yX2 (λk=>k<=xs.length) (λk=>xC [(3,.own 3 22 k),(6,.c (.sl 22 (xs.map yR8.enc))),(7,.c (.i xs.length)),(8,.c (.i k))] [(3,.tr 22 0 ((xs.take k).map yR8.iD))]) (λk=>xs.length-k) (by apply aB<;>simp[Obj.leO]) ?_
 rintro k hk
 rcases yX1 k xs with⟨hlt,e,he⟩|hge
 .have hs:xs.take (k+1)=xs.take k++[e]:=by rw[zar,he];rfl
  have he2:=hl.2 e (zac he);have g1:=(zaa.1 he).2;simp[he,g1,hlt,fC hlt];refine yX3 (ysC e.yR0 he2.1) (dP (yR0.aF _)) ?_;simp[jA];refine sD (yFa e.Pauses he2.2.1.1) (by simp) (by simp[AV.closed,AV.jI,C.closed]) (by simp[fD]) ?_;simp[jA];refine yX3 (yzp e.Calls he2.2.2) (iJ yR4.aF _ _) ?_;simp[jA,Nat.min_eq_left hk];refine⟨by omega,gB hlt hlen,k+1,hlt,by omega,?_⟩;have hs2:(xs.map yR8.iD).take (k+1)=(xs.map yR8.iD).take k++[yR8.iD e]:=by rw[<-zaV,<-zaV,hs,zaB];rfl
  apply aB<;>simp[Obj.leO,hs2]
 .have:k=xs.length:=by omega
  subst this;simp[jA]
  try simp
def yuq(x:yRW)(hl:x.small):nI prg 55 [.agg (x.enc.map .c)] (.agg (x.iD.map .c)):=by
 obtain⟨s1,s2,s3,s4,s5,s6,s7,s8,s9⟩:=hl;have s41:=s4.1;have s91:=s9.1;refine fF ylx ?_;simp -dsimp -implicitDefEqProofs;refine yX3 (yvL x.yRV s1) (iJ Reach.aF _ _) ?_;simp -dsimp -implicitDefEqProofs [jA];refine sD (yFI x.ySl s2.1) (by simp) (by simp[AV.closed,AV.jI,C.closed]) (by simp[fD]) ?_;simp -dsimp -implicitDefEqProofs [jA];refine yX3 (yAG x.yRX s3) (iJ yR8.aF _ _) ?_;simp -dsimp -implicitDefEqProofs [jA];intro hlen;refine⟨by omega,yoL ?_⟩;simp -dsimp -implicitDefEqProofs;intro _;refine yX2 (λk=>k<=x.yR3.length) (λk=>xC [(1,.box 1 0),(2,.box 2 0),(3,.own 24 1 x.yR3.length),(26,.c (.sl 1 (x.yR3.map nD))),(27,.c (.i x.yR3.length)),(28,.c (.i k))] [(1,.box [.c (.i x.Time),.own 11 3 x.yRV.length,.own 15 2 x.ySl.length,.own 19 22 x.yRX.length,.c (.sl 1 (x.yR3.map nD)),.c (.sl 2 (x.yR9.map yRT.enc)),.c (.sl 1 (x.ySd.map qC)),.c (.i x.yRZ.Base),.c (.i x.yRZ.ySe),.c (.sl 1 (x.yRZ.yR5.map qC)),.c (.sl 1 (x.yRZ.yR7.map qC)),.c (.sl 5 (x.Book.map ySb.enc)),.c (.sl 4 (x.yR1.map yR2.enc)),.c (.i x.Start),.c (.i x.In),.c (.i x.Out)]),(2,zW),(11,.tr 3 0 (x.yRV.map Reach.iD)),(15,.row 2 (x.ySl.map Way.enc)),(19,.tr 22 0 (x.yRX.map yR8.iD)),(24,.tr 1 0 (partly xG [.sl 3 []] x.yR3 k))]) (λk=>x.yR3.length-k) (by apply aB<;>simp[mF,Obj.leO]) ?_
 rintro k hk
 rcases yX1 k x.yR3 with⟨hlt,e,he⟩|hge
 .have hs:=fG (f:=xG) (z:=[.sl 3 []]) he
  have hd:((partly xG [.sl 3 []] x.yR3 k)[k]?.getD []).set 0 (.ot 3 (e.map yR6.iD))=xG e:=by
   have:=tX (f:=xG) (z:=[.sl 3 []]) (n:=1) rfl (λ_=>rfl) hlt;obtain⟨y,hy⟩:=zaS.1 this;rw[hy];rfl
  simp -dsimp -implicitDefEqProofs [he,fC hlt];refine yX3 (yyd e (s4.2 e (zac he))) (iJ yR6.aF _ _) ?_;simp -dsimp -implicitDefEqProofs [fC hlt,dG hk,jA,setAt,hd,hs];exact⟨hlt,gB hlt hlen,k+1,hlt,by omega,by apply aB<;>simp[Obj.leO]⟩
 have hke:k=x.yR3.length:=by omega
 subst hke;simp -dsimp -implicitDefEqProofs [eG (Nat.le_refl _),jA];refine yX3 (ybj x.yR9 s5) (iJ yRT.aF _ _) ?_;simp -dsimp -implicitDefEqProofs [jA];refine sD (ynW x.ySd s6.1) (by simp) (by simp[AV.closed,AV.jI,C.closed]) (by simp[fD]) ?_;simp -dsimp -implicitDefEqProofs [jA];refine yX3 (yy2 x.yRZ s7) (dP (yRZ.aF _)) ?_;simp -dsimp -implicitDefEqProofs [jA];refine sD (yFy x.Book s8.1) (by simp) (by simp[AV.closed,AV.jI,C.closed]) (by simp[fD]) ?_;simp -dsimp -implicitDefEqProofs [jA];intro hlen2;refine ydE (k0:=4) 6 4 (by simp) (by simp) (by decide) ?_;refine yX2 (λk=>k<=x.yR1.length) (λk=>xC [(1,.box 1 0),(2,.box 2 0),(6,.own 6 4 k),(58,.c (.sl 4 (x.yR1.map yR2.enc))),(59,.c (.i x.yR1.length)),(60,.c (.i k))] [(1,.box [.c (.i x.Time),.own 11 3 x.yRV.length,.own 15 2 x.ySl.length,.own 19 22 x.yRX.length,.own 24 1 x.yR3.length,.own 43 2 x.yR9.length,.own 47 1 x.ySd.length,.c (.i x.yRZ.Base),.c (.i x.yRZ.ySe),.own 30051 1 x.yRZ.yR5.length,.own 40051 1 x.yRZ.yR7.length,.own 55 5 x.Book.length,.c (.sl 4 (x.yR1.map yR2.enc)),.c (.i x.Start),.c (.i x.In),.c (.i x.Out)]),(2,zW),(11,.tr 3 0 (x.yRV.map Reach.iD)),(15,.row 2 (x.ySl.map Way.enc)),(19,.tr 22 0 (x.yRX.map yR8.iD)),(24,.tr 1 0 (x.yR3.map xG)),(43,.tr 2 0 (x.yR9.map yRT.iD)),(47,.row 1 (x.ySd.map qC)),(30051,.row 1 (x.yRZ.yR5.map qC)),(40051,.row 1 (x.yRZ.yR7.map qC)),(55,.row 5 (x.Book.map ySb.enc)),(6,.tr 4 0 ((x.yR1.take k).map yR2.iD))]) (λk=>x.yR1.length-k) (by apply aB<;>simp[Obj.leO]) ?_
 rintro k hk2
 rcases yX1 k x.yR1 with⟨hlt,e,he⟩|hge2
 .have hs:x.yR1.take (k+1)=x.yR1.take k++[e]:=by rw[zar,he];rfl
  have he2:=s9.2 e (zac he);have g1:=(zaa.1 he).2;simp -dsimp -implicitDefEqProofs [he,g1,hlt,fC hlt];refine pJ (yaU e.yRT he2) (by simp) (dP (yRT.aF e.yRT)) (by simp[fD]) ?_;simp -dsimp -implicitDefEqProofs [jA,Nat.min_eq_left hk2,iW];refine⟨by omega,gB hlt hlen2,k+1,hlt,by omega,?_⟩;have hs2:(x.yR1.map yR2.iD).take (k+1)=(x.yR1.map yR2.iD).take k++[yR2.iD e]:=by rw[<-zaV,<-zaV,hs,zaB];rfl
  apply aB<;>simp[Obj.leO,hs2]
 have hke2:k=x.yR1.length:=by omega
 subst hke2;simp -dsimp -implicitDefEqProofs [jA]
def ypa(e:Reach)(hl:Reach.small e):nI prg 136 [.agg (e.enc.map .c)] (.agg (e.iD.map .c)):=by
 have h1:=hl.1.1;have h2:=hl.2.1;refine fF ysq ?_;simp -dsimp -implicitDefEqProofs [yjr,jA];exact⟨by omega,by omega⟩
def ypc(e:Reach)(hl:Reach.small e):qB prg 136 [.agg (e.enc.map .c)] (.agg (e.enc.map .c)):=(ypa e hl).pure (by simp[AV.shr,AV.yoE,dO,C.shr])
def yFb(e:yR6)(hl:yR6.small e):qB prg 138 [.agg (e.enc.map .c)] (.agg (e.enc.map .c)):=by
 refine dB yub (eP ?_);refine bI (ybP e.yRT hl) ?_;exact goE_
@[simp] def lkI(e:yR0):List C:=[.i e.Length,.i e.Width,.i e.ySi,.i e.ySj,.i e.Base,.i e.Area,.i e.ySs,.i e.ySn,.i e.Gate,.ow 2 (e.yRY.map yRT.enc)]
def yxj(e:yR0)(hl:yR0.small e):nI prg 240 [.agg (e.enc.map .c)] (.agg ((lkI e).map .c)):=by
 have hl1:=hl.1;have hsm:=hl.2;refine fF ysx (eP ?_);refine yX2 (λk=>k<=e.yRY.length) (λk=>xC [(1,.box 1 0),(2,.box 2 0),(3,.own 5 2 k),(4,.c (.i k))] [(1,.box [.c (.i e.Length),.c (.i e.Width),.c (.i e.ySi),.c (.i e.ySj),.c (.i e.Base),.c (.i e.Area),.c (.i e.ySs),.c (.i e.ySn),.c (.i e.Gate),.c (.sl 2 (e.yRY.map yRT.enc))]),(2,.box [.c (.i 0),.c (.i 0),.c (.i 0),.c (.i 0),.c (.i 0),.c (.i 0),.c (.i 0),.c (.i 0),.c (.i 0),.nil 2]),(5,.row 2 ((e.yRY.take k).map yRT.enc))]) (λk=>e.yRY.length-k) (by apply aB<;>simp[Obj.leO]) ?_
 rintro k hk
 rcases yX1 k e.yRY with⟨klt,e1,he⟩|kge
 .have he2:=hsm e1 (zac he);have g1:=(zaa.1 he).2;have hs2:(e.yRY.map yRT.enc).take (k+1)=(e.yRY.map yRT.enc).take k++[yRT.enc e1]:=by rw[zar,zaw,he];rfl
  refine yaeV he g1 klt (fC klt) ?_;intro hlen;refine dD (ybP e1 he2) ?_;simp -dsimp -implicitDefEqProofs [he,g1,klt,fC klt,jA,Nat.min_eq_left hk];refine⟨by omega,gB klt hlen,k+1,klt,by omega,?_⟩;apply aB<;>simp[Obj.leO,hs2]
 have ek:k=e.yRY.length:=by omega
 subst ek;exact goU_
def yb7(e:yR0)(hl:yR0.small e):qB prg 240 [.agg (e.enc.map .c)] (.agg (e.enc.map .c)):=(yxj e hl).pure (by simp[AV.shr,AV.yoE,dO,C.shr])
def rO(r:Reach):Int:=if xE r then 1000000000-sZ r else 0
def ybC(r:Reach)(a:Int):Bool:=xE r&&decide (0<=a)&&decide (a<=rO r)
def dU(r:Reach)(a:Int):Reach:=
 if ybC r a then(if r.ySk.length=0 then⟨r.ySg,r.ySh+a,r.ySk⟩else⟨r.ySg,r.ySh,r.ySk.set (r.ySk.length-1) (r.ySk.getD (r.ySk.length-1) 0+a)⟩)else r
def yS8(r:Reach):Reach:=
 if xE r&&decide (0<r.ySk.length)then⟨r.ySg,r.ySh+r.ySk.getD 0 0,r.ySk.tail++[0]⟩else r
def ys2(r:Reach):0<=rO r/\rO r<=1000000000:=by
 unfold rO;split
 .rename_i h;have:=(yF h).rng;omega
 .omega
def yo3(r:Reach):qB prg 275 [.agg (r.enc.map .c)] (.c (.i (rO r))):=by
 refine dB ytk (eP ?_);refine aA (oL r) ?_;cases h:xE r with
 |false=>simp -dsimp -implicitDefEqProofs;simp[rO,h]
 |true=>
 have f:=(yF h).rng;have ht:ye4 r=sZ r:=by simp[ye4,h]
 refine eP ?_;refine aA (yn0 r) (eU ht ?_);refine⟨by unfold inI;omega,?_⟩;simp[rO,h]
def ynR(r:Reach):qB prg 304 [.agg (r.enc.map .c)] (.c (.i (rO r))):=by
 refine dB yte (eP ?_);refine aA (qN r) ?_;cases h:xE r with
 |false=>simp -dsimp -implicitDefEqProofs;simp[rO,h]
 |true=>
 have f:=yF h;refine eP ?_;refine aA (yuT r f.vol f.len f.amt) (eP ?_);have f1:=f.rng;refine⟨by unfold inI;omega,?_⟩;simp[rO,h]
def yAl(r:Reach)(a:Int)(hl:r.small):nI prg 183 [.agg (r.enc.map .c),.c (.i a)] (.agg ((dU r a).iD.map .c)):=by
 refine fF yvx (eP ?_);refine yX3 (ye5 r hl) (dP (Reach.aF r)) (goT_ ?_);refine aA (oL r) ?_;cases h:xE r with
 |false=>simp -dsimp -implicitDefEqProofs [jA];simp[dU,ybC,h]
 |true=>
 have f:=yF h;have f1:=f.rng;have hv:=aC.1 (show inRange r.ySh 0 1000000000=true from f.vol);have hsp:=ys2 r;have hlen12:=f.len
 have hno:¬(0<=a/\a<=rO r)->dU r a=r:=λhn=>by
  have:ybC r a=false:=by
   simp only[ybC,h,zco,zbU,decide_eq_false_iff_not];omega
  simp[dU,this]
 have hyes:0<=a->a<=rO r->ybC r a=true:=λh1 h2=>by simp[ybC,h,h1,h2]
 refine eP ?_;refine⟨λh0=>?_,λh0=>?_⟩
 rotate_left
 .rw[hno (by omega)];simp[jA]
 refine aA (yo3 r) (eP ?_);refine⟨λh1=>?_,λh1=>?_⟩
 .rw[hno (by omega)];simp[jA]
 have hc:=hyes h0 (by omega);intro _;refine⟨λhp=>?_,λhp=>?_⟩
 .have e:dU r a=⟨r.ySg,r.ySh+a,r.ySk⟩:=by simp[dU,hc,hp]
  rw[e];refine⟨by unfold inI;omega,?_⟩;simp[jA]
 .have hpl:0<r.ySk.length:=zbc.2 hp;obtain⟨v,hv2⟩:∃v,r.ySk[r.ySk.length-1]?=some v:=⟨_,zab (by omega)⟩;have hva:=aC.1 (show inRange v 0 1000000000=true from f.amt v (zac hv2));have hg:r.ySk.getD (r.ySk.length-1) 0=v:=by rw[zah,hv2];rfl
  have e:dU r a=⟨r.ySg,r.ySh,r.ySk.set (r.ySk.length-1) (v+a)⟩:=by
   have:¬r.ySk.length=0:=by omega
   simp only[dU,hc,if_true,if_neg this,hg]
  rw[e];intro _;refine⟨by unfold inI;omega,by omega,by omega,by omega,eU hv2 ?_⟩;refine⟨by unfold inI;omega,by omega,by omega,by omega,jA.symm,?_⟩;exact(List.take_of_length_le (by simp)).symm
def Reach.yoT(r:Reach):(AV.agg (r.iD.map .c)).shr (.agg (r.enc.map .c)):=by simp[AV.shr,AV.yoE,dO,C.shr]
def yyV(r:Reach)(a:Int)(hl:r.small):qB prg 183 [.agg (r.enc.map .c),.c (.i a)] (.agg ((dU r a).enc.map .c)):=(yAl r a hl).pure (Reach.yoT _)
def yAK(r:Reach)(a:Int)(hl:r.small):qB prg 197 [.agg (r.enc.map .c),.c (.i a)] (.agg ((dU r a).enc.map .c)):=by
 refine nI.pure (res:=.agg ((dU r a).iD.map .c)) ?_ (Reach.yoT _);refine fF ywR (eP ?_);refine yX3 (ypa r hl) (dP (Reach.aF r)) (goT_ ?_);refine aA (qN r) ?_;cases h:xE r with
 |false=>simp -dsimp -implicitDefEqProofs [jA];simp[dU,ybC,h]
 |true=>
 have f:=yF h;have f1:=f.rng;have hv:=aC.1 (show inRange r.ySh 0 1000000000=true from f.vol);have hsp:=ys2 r;have hlen12:=f.len
 have hno:¬(0<=a/\a<=rO r)->dU r a=r:=λhn=>by
  have:ybC r a=false:=by
   simp only[ybC,h,zco,zbU,decide_eq_false_iff_not];omega
  simp[dU,this]
 have hyes:0<=a->a<=rO r->ybC r a=true:=λh1 h2=>by simp[ybC,h,h1,h2]
 refine eP ?_;refine aA (ynR r) (eP ?_);refine aA (bC a 0 (rO r)) ?_;cases hin:inRange a 0 (rO r)with
 |false=>
  have:¬(0<=a/\a<=rO r):=λh=>by rw[aC.2 h]at hin;cases hin
  rw[hno this];simp -dsimp -implicitDefEqProofs [jA]
 |true=>
 have hr:=aC.1 hin;have hc:=hyes hr.1 hr.2;refine eP ?_;intro _;refine⟨λhp=>?_,λhp=>?_⟩
 .have e:dU r a=⟨r.ySg,r.ySh+a,r.ySk⟩:=by simp[dU,hc,hp]
  rw[e];refine⟨by unfold inI;omega,?_⟩;simp[jA]
 .have hpl:0<r.ySk.length:=zbc.2 hp;obtain⟨v,hv2⟩:∃v,r.ySk[r.ySk.length-1]?=some v:=⟨_,zab (by omega)⟩;have hva:=aC.1 (show inRange v 0 1000000000=true from f.amt v (zac hv2));have hg:r.ySk.getD (r.ySk.length-1) 0=v:=by rw[zah,hv2];rfl
  have e:dU r a=⟨r.ySg,r.ySh,r.ySk.set (r.ySk.length-1) (v+a)⟩:=by
   have:¬r.ySk.length=0:=by omega
   simp only[dU,hc,if_true,if_neg this,hg]
  rw[e];intro _;refine⟨by unfold inI;omega,λ_=>⟨by unfold inI;omega,by omega,by omega,by omega,?_⟩⟩;refine eU hv2 ?_;refine⟨by unfold inI;omega,by omega,by omega,by omega,jA.symm,?_⟩;exact(List.take_of_length_le (by simp)).symm
def yXE(xs:List Int)(h:0<xs.length):List.take xs.length (List.take xs.length (List.take (xs.length-1) (xs.map qC).tail)++((xs.map qC).drop (xs.length-1)).set 0 (((List.take xs.length (List.take (xs.length-1) (xs.map qC).tail)++(xs.map qC).drop (xs.length-1))[xs.length-1]?.getD []).set 0 (.i 0)))=(xs.map qC).tail++[qC 0]:=by
 have hl:((xs.map qC).tail).length=xs.length-1:=by simp
 have hT:List.take xs.length (List.take (xs.length-1) (xs.map qC).tail)=(xs.map qC).tail:=by
  rw[List.take_of_length_le (l:=(xs.map qC).tail) (by omega),List.take_of_length_le (by omega)]
 obtain⟨z,hz⟩:∃z,xs.drop (xs.length-1)=[z]:=zaS.1 (by simp;omega);have hd:(xs.map qC).drop (xs.length-1)=[qC z]:=by rw[<-zcB,hz];rfl
 rw[hT,hd,zau (by omega),hl];simp only[zbw,zbN,zbe,zbu];exact List.take_of_length_le (by rw[zak,hl];simp;omega)
def yW0(r:Reach)(hl:r.small):nI prg 184 [.agg (r.enc.map .c)] (.agg ((yS8 r).iD.map .c)):=by
 refine fF yWj (eP ?_);refine yX3 (ye5 r hl) (dP (Reach.aF r)) (goT_ ?_);intro hlen;refine⟨λhp=>?_,λhp=>?_⟩
 rotate_left
 .simp[yS8,hp,jA]
 refine aA (oL r) ?_;cases h:xE r with
 |false=>simp -dsimp -implicitDefEqProofs [jA];simp[yS8,h]
 |true=>
 have f:=yF h;have hv:=aC.1 (show inRange r.ySh 0 1000000000=true from f.vol);have hpl:0<r.ySk.length:=zbc.2 hp;obtain⟨v,hv2⟩:∃v,r.ySk[0]?=some v:=⟨_,zab hpl⟩;have hva:=aC.1 (show inRange v 0 1000000000=true from f.amt v (zac hv2))
 have hfl:yS8 r=⟨r.ySg,r.ySh+v,r.ySk.tail++[0]⟩:=by
  have hg:r.ySk.getD 0 0=v:=by rw[zah,hv2];rfl
  simp only[yS8,h,decide_eq_true hpl,Bool.and_self,if_true,hg]
 have h12:=f.len;rw[hfl];refine eU hv2 ?_;exact⟨hpl,by unfold inI;omega,by omega,λ_=>⟨by unfold inI;omega,by omega,by omega,by omega,jA.symm,(yXE r.ySk hpl).symm⟩⟩
def yVB(r:Reach)(hl:r.small):qB prg 198 [.agg (r.enc.map .c)] (.agg ((yS8 r).enc.map .c)):=by
 refine nI.pure (res:=.agg ((yS8 r).iD.map .c)) ?_ (Reach.yoT _);refine fF yWi (eP ?_);refine yX3 (ypa r hl) (dP (Reach.aF r)) (goT_ ?_);refine aA (qN r) ?_;cases h:xE r with
 |false=>simp -dsimp -implicitDefEqProofs [jA];simp[yS8,h]
 |true=>
 have f:=yF h;have hv:=aC.1 (show inRange r.ySh 0 1000000000=true from f.vol);refine eP ?_;intro hlen;refine⟨λhp=>?_,λhp=>?_⟩
 .simp[yS8,hp,jA]
 have hpl:0<r.ySk.length:=zbc.2 hp;obtain⟨v,hv2⟩:∃v,r.ySk[0]?=some v:=⟨_,zab hpl⟩;have hva:=aC.1 (show inRange v 0 1000000000=true from f.amt v (zac hv2))
 have hfl:yS8 r=⟨r.ySg,r.ySh+v,r.ySk.tail++[0]⟩:=by
  have hg:r.ySk.getD 0 0=v:=by rw[zah,hv2];rfl
  simp only[yS8,h,decide_eq_true hpl,Bool.and_self,if_true,hg]
 have h12:=f.len;rw[hfl];refine eU hv2 ?_;refine⟨hpl,by unfold inI;omega,by omega,by omega,by omega,jA.symm,?_⟩;rw[List.take_of_length_le (by simp)]
def takeN(r:Reach)(a k:Int):Int:=
 let z:=if r.ySh-k<a then r.ySh-k else a
 if 0<z then z else 0
def ycj(r:Reach)(a k:Int):Bool:=xE r&&decide (0<=a)&&decide (0<=k)
def rG(r:Reach)(a k:Int):Reach×Int:=if ycj r a k then(⟨r.ySg,r.ySh-takeN r a k,r.ySk⟩,takeN r a k)else(r,0)
def yyl(r:Reach)(a k:Int)(hl:r.small):nI prg 181 [.agg (r.enc.map .c),.c (.i a),.c (.i k)] (.tup [.agg ((rG r a k).1.iD.map .c),.c (.i (rG r a k).2)]):=by
 refine yBL ytZ (by simp) λhwf=>?_;refine eP ?_;refine yX3 (ye5 r hl) (dP (Reach.aF r)) (goT_ ?_);refine aA (oL r) ?_;cases h:xE r with
 |false=>
  refine goT_ ?_;have e:rG r a k=(r,0):=by simp[rG,ycj,h]
  rw[e];refine ycx ?_;simp[jA]
 |true=>
 have f:=yF h;have hv:=aC.1 (show inRange r.ySh 0 1000000000=true from f.vol);refine eP ?_;refine⟨λha=>⟨λhk=>?_,λhk=>?_⟩,λha=>?_⟩
 .have e:rG r a k=(r,0):=by
   have:¬0<=k:=by omega
   simp[rG,ycj,this]
  rw[e];refine ycx ?_;simp[jA]
 .have e:rG r a k=(⟨r.ySg,r.ySh-takeN r a k,r.ySk⟩,takeN r a k):=by simp[rG,ycj,h,ha,hk]
  rw[e]
  have hk2:inI k:=by
   have:=hwf.2.2.1;simpa[AV.wf,AV.wf1,C.WF]using this
  unfold inI at hk2;have ht:takeN r a k=(if 0<(if r.ySh-k<a then r.ySh-k else a)then(if r.ySh-k<a then r.ySh-k else a)else 0):=rfl
  have htr:0<=takeN r a k/\takeN r a k<=1000000000:=by
   rw[ht];repeat' split
   all_goals omega
  rw[<-ht];refine⟨by unfold inI;omega,by unfold inI;omega,?_⟩;refine ycx ?_;simp[jA]
 .have e:rG r a k=(r,0):=by
   have:¬0<=a:=by omega
   simp[rG,ycj,this]
  rw[e];refine ycx ?_;simp[jA]
def yvU(r:Reach)(a k:Int)(hl:r.small):qB prg 181 [.agg (r.enc.map .c),.c (.i a),.c (.i k)] (.tup [.agg ((rG r a k).1.enc.map .c),.c (.i (rG r a k).2)]):=(yyl r a k hl).pure (by simp[AV.shr,AV.yEj,AV.yoE,dO,C.shr])
def ywp(r:Reach)(a k:Int)(hl:r.small):nI prg 195 [.agg (r.enc.map .c),.c (.i a),.c (.i k)] (.tup [.agg ((rG r a k).1.iD.map .c),.c (.i (rG r a k).2)]):=by
 refine yBL ytj (by simp) λhwf=>?_;refine eP ?_;refine yX3 (ypa r hl) (dP (Reach.aF r)) (goT_ ?_);refine aA (qN r) ?_;cases h:xE r with
 |false=>
  refine goT_ ?_;have e:rG r a k=(r,0):=by simp[rG,ycj,h]
  rw[e];refine ycx ?_;simp[jA]
 |true=>
 have f:=yF h;have hv:=aC.1 (show inRange r.ySh 0 1000000000=true from f.vol);refine eP ?_;refine⟨λha=>⟨λhk=>?_,λhk=>?_⟩,λha=>?_⟩
 .have e:rG r a k=(r,0):=by
   have:¬0<=k:=by omega
   simp[rG,ycj,this]
  rw[e];refine ycx ?_;simp[jA]
 .have e:rG r a k=(⟨r.ySg,r.ySh-takeN r a k,r.ySk⟩,takeN r a k):=by simp[rG,ycj,h,ha,hk]
  rw[e]
  have hk2:inI k:=by
   have:=hwf.2.2.1;simpa[AV.wf,AV.wf1,C.WF]using this
  unfold inI at hk2;have ht:takeN r a k=(if 0<(if r.ySh-k<a then r.ySh-k else a)then(if r.ySh-k<a then r.ySh-k else a)else 0):=rfl
  have htr:0<=takeN r a k/\takeN r a k<=1000000000:=by
   rw[ht];repeat' split
   all_goals omega
  rw[<-ht];refine⟨by unfold inI;omega,by unfold inI;omega,?_⟩;refine ycx ?_;simp[jA]
 .have e:rG r a k=(r,0):=by
   have:¬0<=a:=by omega
   simp[rG,ycj,this]
  rw[e];refine ycx ?_;simp[jA]
def yyN(r:Reach)(a k:Int)(hl:r.small):qB prg 195 [.agg (r.enc.map .c),.c (.i a),.c (.i k)] (.tup [.agg ((rG r a k).1.enc.map .c),.c (.i (rG r a k).2)]):=(ywp r a k hl).pure (by simp[AV.shr,AV.yEj,AV.yoE,dO,C.shr])
def yTr(a b:Reach)(q k:Int):Bool:=xE a&&xE b&&decide (0<=q)&&decide (0<=k)
def yUl(b:Reach)(q:Int):Int:=if rO b<q then rO b else q
def yTe(a b:Reach)(q k:Int):Reach×Reach×Int:=
 if yTr a b q k then((rG a (yUl b q) k).1,dU b (rG a (yUl b q) k).2,(rG a (yUl b q) k).2)else(a,b,0)
def yqt(e:Reach)(hl:Reach.small e):qB prg 249 [.agg (e.enc.map .c)] (.agg (e.enc.map .c)):=(ye5 e hl).pure (Reach.yoT _)
def yWT(a b:Reach)(q k:Int)(ha:a.small)(hb:b.small):qB prg 272 [.agg (a.enc.map .c),.agg (b.enc.map .c),.c (.i q),.c (.i k)] (.tup [.agg ((yTe a b q k).1.enc.map .c),.agg ((yTe a b q k).2.1.enc.map .c),.c (.i (yTe a b q k).2.2)]):=by
 refine dB yWm ?_;have no:yTr a b q k=false->yTe a b q k=(a,b,0):=λh=>by simp[yTe,h]
 refine eP ?_;refine aA (oL a) ?_;cases h1:xE a with
 |false=>
  rw[no (by simp[yTr,h1])];refine eP ?_;refine bI (yqt a ha) (eP ?_);refine bI (yqt b hb) ?_;exact goE_
 |true=>
 refine eP ?_;refine aA (oL b) ?_;cases h2:xE b with
 |false=>
  rw[no (by simp[yTr,h2])];refine eP ?_;refine bI (yqt a ha) (eP ?_);refine bI (yqt b hb) ?_;exact goE_
 |true=>
 refine eP ?_;refine⟨λhq=>⟨λhk=>?_,λhk=>?_⟩,λhq=>?_⟩
 .have hk':¬0<=k:=by omega
  rw[no (by simp[yTr,hk'])];refine bI (yqt a ha) (eP ?_);refine bI (yqt b hb) ?_;exact goE_
 .have hc:yTr a b q k=true:=by simp[yTr,h1,h2,hq,hk]
  have e:yTe a b q k=((rG a (yUl b q) k).1,dU b (rG a (yUl b q) k).2,(rG a (yUl b q) k).2):=by simp[yTe,hc]
  rw[e];refine ypC (yo3 b) (eP ?_);have hT:=yvU a (yUl b q) k ha;unfold yUl at hT|-;refine bI hT ?_;generalize rG a (if rO b<q then rO b else q) k=r at *;refine eP ?_;refine bI (yyV b r.2 hb) ?_;exact goE_
 .have hq':¬0<=q:=by omega
  rw[no (by simp[yTr,hq'])];refine bI (yqt a ha) (eP ?_);refine bI (yqt b hb) ?_;exact goE_
def yWY(a b:Reach)(q k:Int)(ha:a.small)(hb:b.small):qB prg 302 [.agg (a.enc.map .c),.agg (b.enc.map .c),.c (.i q),.c (.i k)] (.tup [.agg ((yTe a b q k).1.enc.map .c),.agg ((yTe a b q k).2.1.enc.map .c),.c (.i (yTe a b q k).2.2)]):=by
 refine dB yWp ?_;have no:yTr a b q k=false->yTe a b q k=(a,b,0):=λh=>by simp[yTe,h]
 refine eP ?_;refine aA (qN a) ?_;cases h1:xE a with
 |false=>
  rw[no (by simp[yTr,h1])];refine eP ?_;refine bI (ypc a ha) (eP ?_);refine bI (ypc b hb) ?_;exact goE_
 |true=>
 refine eP ?_;refine aA (qN b) ?_;cases h2:xE b with
 |false=>
  rw[no (by simp[yTr,h2])];refine eP ?_;refine bI (ypc a ha) (eP ?_);refine bI (ypc b hb) ?_;exact goE_
 |true=>
 refine eP ?_;refine⟨λhq=>⟨λhk=>?_,λhk=>?_⟩,λhq=>?_⟩
 .have hk':¬0<=k:=by omega
  rw[no (by simp[yTr,hk'])];refine bI (ypc a ha) (eP ?_);refine bI (ypc b hb) ?_;exact goE_
 .have hc:yTr a b q k=true:=by simp[yTr,h1,h2,hq,hk]
  have e:yTe a b q k=((rG a (yUl b q) k).1,dU b (rG a (yUl b q) k).2,(rG a (yUl b q) k).2):=by simp[yTe,hc]
  rw[e];refine ypC (ynR b) (eP ?_);have hT:=yyN a (yUl b q) k ha;unfold yUl at hT|-;refine bI hT ?_;generalize rG a (if rO b<q then rO b else q) k=r at *;refine eP ?_;refine bI (yAK b r.2 hb) ?_;exact goE_
 .have hq':¬0<=q:=by omega
  rw[no (by simp[yTr,hq'])];refine bI (ypc a ha) (eP ?_);refine bI (ypc b hb) ?_;exact goE_
def yTv:Nat->Nat
 |0=>0
 |m+1=>if(yTv m+1)*(yTv m+1)<=m+1 then yTv m+1 else yTv m
def yV1:∀m:Nat,yTv m*yTv m<=m/\m<(yTv m+1)*(yTv m+1)
 |0=>by simp[yTv]
 | m+1=>by
  have ih:=yV1 m;unfold yTv;split
  .rename_i h;refine⟨h,?_⟩
   have:(yTv m+1+1)*(yTv m+1+1)=(yTv m+1)*(yTv m+1)+2*(yTv m+1)+1:=by
    rw[zbq,Nat.mul_add];omega
   omega
  .omega
def yW6{m r:Nat}(h1:r*r<=m)(h2:m<(r+1)*(r+1)):yTv m=r:=by
 obtain⟨a,b⟩:=yV1 m;rcases zcl (yTv m) r with h|h|h
 .have:(yTv m+1)*(yTv m+1)<=r*r:=zcM h h;omega
 .exact h
 .have:(r+1)*(r+1)<=yTv m*yTv m:=zcM h h;omega
def yTm(n:Int):Int:=if 0<=n/\n<=1000000000000000000 then yTv n.toNat else -1
def yW7(n:Int):qB prg 303 [.c (.i n)] (.c (.i (yTm n))):=by
 refine dB yWf (eP ?_);refine aA (bC n 0 1000000000000000000) ?_;cases hin:inRange n 0 1000000000000000000 with
 |false=>
  refine eP ?_;have:¬(0<=n/\n<=1000000000000000000):=λh=>by rw[aC.2 h]at hin;cases hin
  simp only[yTm,if_neg this]
 |true=>
 have hr:=aC.1 hin;refine eP ?_;refine qA (ι:=Nat×Nat) (λp=>p.1<p.2/\p.2<=1000000001/\p.1*p.1<=n.toNat/\n.toNat<p.2*p.2) (λp=>xC [(0,.c (.i n)),(3,.c (.i p.1)),(4,.c (.i p.2))] []) (λp=>p.2-p.1) (0,1000000001) (by simp;omega) (by apply aB<;>simp) ?_
 rintro⟨lo,hi⟩ ⟨h1,h2,h3,h4⟩
 simp only at h1 h2 h3 h4;refine eP ?_;refine⟨by unfold inI;omega,λhg=>?_,λhg=>?_⟩
 .obtain⟨m,hm⟩:∃m,m=(lo+hi)/2:=⟨_,rfl⟩;have em:((lo:Int)+hi).tdiv 2=(m:Int):=by rw[zaA (by omega)];omega
  have hmm:(m:Int)*m=((m*m:Nat):Int):=(Int.natCast_mul m m).symm;have hb:m*m<=1000000000*1000000000:=zcM (by omega) (by omega);rw[em,hmm];refine⟨by unfold inI;omega,by unfold inI;omega,by unfold inI;omega,λhc=>?_,λhc=>?_⟩
  .refine⟨m,hi,⟨by omega,h2,by omega,h4⟩,by omega,?_⟩;apply aB<;>simp
  .refine⟨lo,m,⟨by omega,by omega,h3,by omega⟩,by omega,?_⟩;apply aB<;>simp
 .have:hi=lo+1:=by omega
  subst this;simp only[yTm,if_pos hr];rw[yW6 h3 h4]
def yW3(n:Int):qB prg 273 [.c (.i n)] (.c (.i (yTm n))):=by
 refine dB yWq (eP ?_);refine⟨λh0=>⟨λh1=>?_,λh1=>?_⟩,λh0=>?_⟩
 .have:¬(0<=n/\n<=1000000000000000000):=by omega
  simp only[yTm,if_neg this]
 rotate_left
 .have:¬(0<=n/\n<=1000000000000000000):=by omega
  simp only[yTm,if_neg this]
 have hr:0<=n/\n<=1000000000000000000:=by omega
 refine qA (ι:=Nat×Nat) (λp=>p.1<=p.2/\p.2<=1000000000/\p.1*p.1<=n.toNat/\n.toNat<(p.2+1)*(p.2+1)) (λp=>xC [(0,.c (.i n)),(3,.c (.i p.1)),(4,.c (.i p.2))] []) (λp=>p.2-p.1) (0,1000000000) (by simp;omega) (by apply aB<;>simp) ?_
 rintro⟨lo,hi⟩ ⟨h1,h2,h3,h4⟩
 simp only at h1 h2 h3 h4;refine eP ?_;refine⟨λhg=>?_,λhg=>?_⟩
 .obtain⟨m,hm⟩:∃m,m=(lo+hi+1)/2:=⟨_,rfl⟩;have em:((lo:Int)+hi+1).tdiv 2=(m:Int):=by rw[zaA (by omega)];omega
  have hmm:(m:Int)*m=((m*m:Nat):Int):=(Int.natCast_mul m m).symm;have hb:m*m<=1000000000*1000000000:=zcM (by omega) (by omega);rw[em,hmm];refine⟨by unfold inI;omega,by unfold inI;omega,by unfold inI;omega,by unfold inI;omega,λhc=>?_,λhc=>?_⟩
  .have h4i:n<((hi:Int)+1)*(hi+1):=by
    have:((hi:Int)+1)*(hi+1)=(((hi+1)*(hi+1):Nat):Int):=by simp
    omega
   refine⟨m,hi,⟨by omega,h2,by omega,h4i⟩,by omega,?_⟩;apply aB<;>simp
  .refine⟨by unfold inI;omega,lo,m-1,⟨by omega,by omega,by omega,by rw[show((m-1:Nat):Int)+1=m by omega,hmm];omega⟩,by omega,?_⟩;apply aB<;>simp<;>omega
 .have:hi=lo:=by omega
  subst this;simp only[yTm,if_pos hr];rw[yW6 h3 h4]
def yyJ{a b A B:Int}(ha:0<=a/\a<=A)(hb:0<=b/\b<=B):0<=a*b/\a*b<=A*B:=
 ⟨zct ha.1 hb.1,zcu ha.2 hb.2 hb.1 (by omega)⟩
def lev(x:Int):Bool:=inRange x 0 100000
structure yXD(w:ySp):Prop where
 gts:1<=w.ySu/\w.ySu<=8
 opn:0<=w.Open/\w.Open<=10*w.ySu
 stp:1<=w.Step/\w.Step<=80
 crs:0<=w.ySy/\w.ySy<=100000
 wid:1<=w.Width/\w.Width<=1000
def yTI{w:ySp}(h:iZ w=true):yXD w:=by
 simp only[iZ,zad]at h;obtain⟨⟨⟨⟨h1,h2⟩,h3⟩,h4⟩,h5⟩:=h;exact⟨aC.1 h1,aC.1 h2,aC.1 h3,aC.1 h4,aC.1 h5⟩
structure yXA(r:Rule):Prop where
 low:0<=r.Low/\r.Low<=100000
 hig:0<=r.High/\r.High<=100000
 fld:0<=r.ySx/\r.ySx<=100000
 lh:r.Low<r.High
 hf:r.High<=r.ySx
def yWt{r:Rule}(h:ya3 r=true):yXA r:=by
 simp only[ya3,zad,decide_eq_true_eq]at h;obtain⟨⟨⟨⟨h1,h2⟩,h3⟩,h4⟩,h5⟩:=h;exact⟨aC.1 h1,aC.1 h2,aC.1 h3,h4,h5⟩
def yXx{n:Int}(h:n<=1000000): -1<=yTm n/\yTm n<=1000:=by
 unfold yTm;split
 .rename_i h2;obtain⟨a,b⟩:=yV1 n.toNat;refine⟨by omega,?_⟩;rcases zan 1000 (yTv n.toNat)with e|e
  .have:1001*1001<=yTv n.toNat*yTv n.toNat:=zcM e e;omega
  .omega
 .omega
def yWb{n:Int}(h0:0<=n)(h:n<=1000000):0<=yTm n/\yTm n<=1000:=by
 refine⟨?_,(yXx h).2⟩;unfold yTm;rw[if_pos ⟨h0,by omega⟩];omega
def yTk(w:ySp)(up down:Int):Int:=up-(if w.ySy<down then down else w.ySy)
def yTV(w:ySp)(up down:Int):Bool:=iZ w&&lev up&&lev down&&decide (0<yTk w up down)
def yS1(w:ySp)(up down:Int):Int:=if yTV w up down then(w.Open*w.Width*yTm (yTk w up down)).tdiv 10 else 0
def yWe(w:ySp)(o:Int):Int:=
 let z:=if w.Open+w.Step<o then w.Open+w.Step else o
 if z<w.Open-w.Step then w.Open-w.Step else z
@[simp] def ySp.opened(w:ySp)(o:Int):ySp:=⟨w.ySu,o,w.Step,w.ySy,w.Width⟩
def yTf(w:ySp)(o:Int):ySp:=if iZ w&&inRange o 0 (10*w.ySu)then w.opened (yWe w o)else w
def yTQ(w:ySp)(up down q:Int):Nat->Int->Int
 |0,o=>o
 |m+1,o=>if q<=yS1 (w.opened o) up down then o else yTQ w up down q m (o+1)
def yTu(w:ySp)(up down q:Int):Int:=if iZ w&&lev up&&lev down then yTQ w up down q (10*w.ySu).toNat 0 else 0
def yWs{w:ySp}{up down q:Int}{k n:Nat}(h:k<=n)(hg:q<=yS1 (w.opened k) up down):yTQ w up down q (n-k) k=k:=by
 cases hm:n-k with
 |zero=>rfl
 |succ m=>rw[yTQ,if_pos hg]
def yW2{w:ySp}{up down q:Int}{k n:Nat}(h:k<n)(hg:yS1 (w.opened k) up down<q):yTQ w up down q (n-(k+1)) ((k+1:Nat):Int)=yTQ w up down q (n-k) k:=by
 rw[show n-k=(n-(k+1))+1 by omega,yTQ,if_neg (by omega)];rfl
def wants(r:Rule)(l q:Int):Bool:=ya3 r&&inRange q 0 1000000000&&lev l&&decide (r.Low<l)
def yS5(r:Rule)(l q:Int):Int:=
 if wants r l q then(if 2*q<(q*(l-r.Low)).tdiv (r.High-r.Low)then 2*q else(q*(l-r.Low)).tdiv (r.High-r.Low))else 0
def yTa(w:ySp)(r:Rule)(up down q:Int):Bool:=iZ w&&ya3 r&&inRange q 0 1000000000&&lev up&&lev down
def yS9(w:ySp)(r:Rule)(up down q:Int):ySp:=
 if yTa w r up down q then(if r.ySx<=up then yTf w (10*w.ySu)else yTf w (yTu w up down (yS5 r up q)))else w
def ySZ(a b:Reach)(w:ySp):Reach×Reach×Int:=
 if xE a&&xE b&&iZ w then yTe a b (yS1 w (kD a) (kD b)) (fH a.ySg w.ySy)else(a,b,0)
def yUb(w:ySp)(up down:Int):qB prg 180 [.agg (w.enc.map .c),.c (.i up),.c (.i down)] (.c (.i (yS1 w up down))):=by
 refine dB yVL ?_;have no:yTV w up down=false->yS1 w up down=0:=λh=>by simp[yS1,h]
 refine eP ?_;refine aA (yBa w) ?_;cases h1:iZ w with
 |false=>refine eP ?_;exact no (by simp[yTV,h1])
 |true=>
 refine eP ?_;refine aA (iC up 0 100000) ?_;cases h2:inRange up 0 100000 with
 |false=>refine eP ?_;exact no (by simp[yTV,lev,h2])
 |true=>
 refine eP ?_;refine aA (iC down 0 100000) ?_;cases h3:inRange down 0 100000 with
 |false=>refine eP ?_;exact no (by simp[yTV,lev,h3])
 |true=>
 have f:=yTI h1;have f1:=f.gts;have f2:=f.opn;have f3:=f.wid;have f4:=f.crs;have u:=aC.1 h2;have d:=aC.1 h3;refine eP ?_;have hh:yTk w up down=up-(if w.ySy<down then down else w.ySy):=rfl;have hd: -100000<=yTk w up down/\yTk w up down<=100000:=by rw[hh];split<;>omega
 rw[<-hh];generalize(if w.ySy<down then down else w.ySy)=c at *;refine⟨by unfold inI;omega,?_⟩
 by_cases h4:yTk w up down<=0
 .have no2:=no (by simp[yTV];omega);refine⟨λh5=>?_,λh5=>?_⟩<;>first|exact no2|omega
 .have m1:=yyJ (a:=w.Open) (b:=w.Width) (A:=80) (B:=1000) (by omega) (by omega);have r1:=yWb (n:=yTk w up down) (by omega) (by omega);have m2:=yyJ (a:=w.Open*w.Width) (b:=yTm (yTk w up down)) (A:=80000) (B:=1000) (by omega) r1
  have m3:0<=(w.Open*w.Width*yTm (yTk w up down)).tdiv 10/\(w.Open*w.Width*yTm (yTk w up down)).tdiv 10<=8000000:=by
   rw[zaA m2.1];omega
  have yes:yS1 w up down=(w.Open*w.Width*yTm (yTk w up down)).tdiv 10:=by
   have:yTV w up down=true:=by simp[yTV,lev,h1,h2,h3];omega
   simp[yS1,this]
  refine⟨λh5=>(by omega),λh5=>?_⟩;refine⟨by unfold inI;omega,?_⟩;refine lC (yW3 (yTk w up down)) (eP ?_);exact⟨by unfold inI;omega,by unfold inI;omega,yes⟩
def yUe(w:ySp)(up down:Int):qB prg 196 [.agg (w.enc.map .c),.c (.i up),.c (.i down)] (.c (.i (yS1 w up down))):=by
 refine dB yVJ ?_;have no:yTV w up down=false->yS1 w up down=0:=λh=>by simp[yS1,h]
 refine eP ?_;refine aA (yAj w) ?_;cases h1:iZ w with
 |false=>refine eP ?_;exact no (by simp[yTV,h1])
 |true=>
 refine eP ?_;refine aA (yaJ up) ?_;cases h2:inRange up 0 100000 with
 |false=>refine eP ?_;exact no (by simp[yTV,lev,h2])
 |true=>
 refine eP ?_;refine aA (yaJ down) ?_;cases h3:inRange down 0 100000 with
 |false=>refine eP ?_;exact no (by simp[yTV,lev,h3])
 |true=>
 have f:=yTI h1;have f1:=f.gts;have f2:=f.opn;have f3:=f.wid;have f4:=f.crs;have u:=aC.1 h2;have d:=aC.1 h3;refine eP ?_;have hh:yTk w up down=up-(if w.ySy<down then down else w.ySy):=rfl;have hd: -100000<=yTk w up down/\yTk w up down<=100000:=by rw[hh];split<;>omega
 rw[<-hh];generalize(if w.ySy<down then down else w.ySy)=c at *;refine⟨by unfold inI;omega,?_⟩
 by_cases h4:yTk w up down<=0
 .have no2:=no (by simp[yTV];omega);refine⟨λh5=>?_,λh5=>?_⟩<;>first|exact no2|omega
 .have m1:=yyJ (a:=w.Open) (b:=w.Width) (A:=80) (B:=1000) (by omega) (by omega);have r1:=yWb (n:=yTk w up down) (by omega) (by omega);have m2:=yyJ (a:=w.Open*w.Width) (b:=yTm (yTk w up down)) (A:=80000) (B:=1000) (by omega) r1
  have m3:0<=(w.Open*w.Width*yTm (yTk w up down)).tdiv 10/\(w.Open*w.Width*yTm (yTk w up down)).tdiv 10<=8000000:=by
   rw[zaA m2.1];omega
  have yes:yS1 w up down=(w.Open*w.Width*yTm (yTk w up down)).tdiv 10:=by
   have:yTV w up down=true:=by simp[yTV,lev,h1,h2,h3];omega
   simp[yS1,this]
  refine⟨λh5=>(by omega),λh5=>?_⟩;refine⟨by unfold inI;omega,?_⟩;refine lC (yW7 (yTk w up down)) (eP ?_);exact⟨by unfold inI;omega,by unfold inI;omega,yes⟩
def yXl(n a b:Int):qB prg 353 [.c (.i n),.c (.i a),.c (.i b)] (.c (.i (if b<a\/n<a then a else if b<n then b else n))):=by
 refine dB yWG (eP ?_);refine⟨λh1=>⟨λh2 h3 h4=>by omega,λh2=>⟨λh3=>?_,λh3=>?_⟩⟩,λh1 h2 h3=>by omega⟩
 .rw[if_neg (by omega),if_pos h3]
 .rw[if_neg (by omega),if_neg (by omega)]
def yUY(w:ySp)(o:Int):qB prg 268 [.agg (w.enc.map .c),.c (.i o)] (.agg ((yTf w o).enc.map .c)):=by
 refine dB yVK ?_;have no:(iZ w&&inRange o 0 (10*w.ySu))=false->yTf w o=w:=λh=>by simp[yTf,h]
 refine eP ?_;refine aA (yBa w) ?_;cases h1:iZ w with
 |false=>simp -dsimp -implicitDefEqProofs;simp[no (by simp[h1])]
 |true=>
 have f:=yTI h1;have f1:=f.gts;have f2:=f.opn;have f3:=f.stp;refine eP ?_;refine⟨by unfold inI;omega,?_⟩;refine aA (iC o 0 (10*w.ySu)) ?_;cases h2:inRange o 0 (10*w.ySu)with
 |false=>simp -dsimp -implicitDefEqProofs;simp[no (by simp[h2])]
 |true=>
 have u:=aC.1 h2;have yes:yTf w o=w.opened (yWe w o):=by simp[yTf,h1,h2]
 rw[yes];refine eP ?_;refine⟨by unfold inI;omega,by unfold inI;omega,?_⟩;refine aA (yXl o (w.Open-w.Step) (w.Open+w.Step)) (eP ?_);unfold yWe;simp only
 repeat' split
 all_goals omega
def yU1(w:ySp)(o:Int):qB prg 298 [.agg (w.enc.map .c),.c (.i o)] (.agg ((yTf w o).enc.map .c)):=by
 refine dB yVO ?_;have no:(iZ w&&inRange o 0 (10*w.ySu))=false->yTf w o=w:=λh=>by simp[yTf,h]
 refine eP ?_;refine aA (yAj w) ?_;cases h1:iZ w with
 |false=>simp -dsimp -implicitDefEqProofs;simp[no (by simp[h1])]
 |true=>
 have f:=yTI h1;have f1:=f.gts;have f2:=f.opn;have f3:=f.stp;refine eP ?_;refine⟨by unfold inI;omega,?_⟩;refine aA (bC o 0 (10*w.ySu)) ?_;cases h2:inRange o 0 (10*w.ySu)with
 |false=>simp -dsimp -implicitDefEqProofs;simp[no (by simp[h2])]
 |true=>
 have u:=aC.1 h2;have yes:yTf w o=w.opened (yWe w o):=by simp[yTf,h1,h2]
 rw[yes];refine eP ?_;refine⟨by unfold inI;omega,by unfold inI;omega,?_⟩;unfold yWe;simp only
 repeat' split
 all_goals omega
def yWJ(w:ySp)(up down q:Int):qB prg 269 [.agg (w.enc.map .c),.c (.i up),.c (.i down),.c (.i q)] (.c (.i (yTu w up down q))):=by
 refine dB yVZ ?_;have no:(iZ w&&lev up&&lev down)=false->yTu w up down q=0:=λh=>by simp[yTu,h]
 refine eP ?_;refine aA (yBa w) ?_;cases h1:iZ w with
 |false=>refine eP ?_;exact no (by simp[h1])
 |true=>
 refine eP ?_;refine aA (iC up 0 100000) ?_;cases h2:inRange up 0 100000 with
 |false=>refine eP ?_;exact no (by simp[lev,h2])
 |true=>
 refine eP ?_;refine aA (iC down 0 100000) ?_;cases h3:inRange down 0 100000 with
 |false=>refine eP ?_;exact no (by simp[lev,h3])
 |true=>
 have f:=yTI h1;have f1:=f.gts;have f2:=f.opn;have f3:=f.stp;obtain⟨n,hn⟩:∃n:Nat,n=(10*w.ySu).toNat:=⟨_,rfl⟩;have hn2:10*w.ySu=(n:Int):=by omega
 have yes:yTu w up down q=yTQ w up down q n 0:=by rw[hn];simp[yTu,h1,h2,h3,lev]
 rw[yes];refine eP ?_;rw[hn2];refine⟨by unfold inI;omega,?_⟩;refine qA (ι:=Nat×Int) (λz=>z.1<=n+1/\(z.1<=n->yTQ w up down q (n-z.1) z.1=yTQ w up down q n 0)/\(n<z.1->yTQ w up down q n 0=n)) (λz=>xC [(1,.c (.i up)),(2,.c (.i down)),(3,.c (.i q)),(4,.box 4 0),(8,.c (.i 0)),(9,.c (.i n)),(10,.c (.i z.1))] [(4,.box [.c (.i w.ySu),.c (.i z.2),.c (.i w.Step),.c (.i w.ySy),.c (.i w.Width)])]) (λz=>n+1-z.1) (0,w.Open) ⟨by simp,by simp,by simp⟩ (by apply aB<;>simp[Obj.leO]) ?_
 rintro⟨k,o⟩ ⟨h0,hk,he⟩
 simp only at h0 hk he;rcases zan n k with hlt|hge
 .have q1:((k:Int)<=(n:Int))=False:=by simp;omega
  have q2:(k<=n)=False:=by simp;omega
  refine yaed q1 q2 ?_;exact(he hlt)
 .have q1:((k:Int)<=(n:Int))=True:=by simp;omega
  have q2:(k<=n)=True:=by simp;omega
  refine yaed q1 q2 ?_;refine aA (yUb (w.opened k) up down) (eP ?_);have hok:=hk hge;refine⟨λhg=>?_,λhg=>?_⟩
  .rw[<-hok,yWs hge hg]
  .refine⟨by unfold inI;omega,k+1,⟨by omega,λh=>by rw[yW2 (by omega) hg,hok],λh=>?_⟩,by omega,k,?_⟩
   .rw[<-hok,show k=n by omega];simp[yTQ]
   .apply aB<;>simp[Obj.leO]
def yWx(w:ySp)(up down q:Int):qB prg 299 [.agg (w.enc.map .c),.c (.i up),.c (.i down),.c (.i q)] (.c (.i (yTu w up down q))):=by
 refine dB yWa ?_;have no:(iZ w&&lev up&&lev down)=false->yTu w up down q=0:=λh=>by simp[yTu,h]
 refine eP ?_;refine aA (yAj w) ?_;cases h1:iZ w with
 |false=>refine eP ?_;exact no (by simp[h1])
 |true=>
 refine eP ?_;refine aA (yaJ up) ?_;cases h2:inRange up 0 100000 with
 |false=>refine eP ?_;exact no (by simp[lev,h2])
 |true=>
 refine eP ?_;refine aA (yaJ down) ?_;cases h3:inRange down 0 100000 with
 |false=>refine eP ?_;exact no (by simp[lev,h3])
 |true=>
 have f:=yTI h1;have f1:=f.gts;have f2:=f.opn;have f3:=f.stp;obtain⟨n,hn⟩:∃n:Nat,n=(10*w.ySu).toNat:=⟨_,rfl⟩;have hn2:10*w.ySu=(n:Int):=by omega
 have yes:yTu w up down q=yTQ w up down q n 0:=by rw[hn];simp[yTu,h1,h2,h3,lev]
 rw[yes];refine eP ?_;refine qA (ι:=Nat×Int) (λz=>z.1<=n/\yTQ w up down q (n-z.1) z.1=yTQ w up down q n 0) (λz=>xC [(1,.c (.i up)),(2,.c (.i down)),(3,.c (.i q)),(4,.box 4 0),(8,.c (.i 0)),(9,.c (.i z.1))] [(4,.box [.c (.i w.ySu),.c (.i z.2),.c (.i w.Step),.c (.i w.ySy),.c (.i w.Width)])]) (λz=>n-z.1) (0,w.Open) ⟨by simp,by simp⟩ (by apply aB<;>simp[Obj.leO]) ?_
 rintro⟨k,o⟩ ⟨h0,hk⟩
 simp only at h0 hk;rcases zan k n with hlt|hge
 .have q1:((k:Int)<(n:Int))=True:=by simp;omega
  refine yaeT hn2 q1 hlt ?_;refine⟨by unfold inI;omega,?_⟩;refine aA (yUe (w.opened k) up down) (eP ?_);refine⟨λhg=>?_,λhg=>?_⟩
  .rw[<-hk,yWs h0 hg]
  .refine⟨by unfold inI;omega,k+1,⟨by omega,by rw[yW2 hlt hg,hk]⟩,by omega,k,?_⟩;apply aB<;>simp[Obj.leO]
 .have q1:((k:Int)<(n:Int))=False:=by simp;omega
  have q2:(k<n)=False:=by simp;omega
  refine yaeT hn2 q1 q2 ?_;refine⟨by unfold inI;omega,?_⟩;rw[<-hk,show k=n by omega];simp[yTQ]
def yVH(r:Rule)(l q:Int):qB prg 270 [.agg (r.enc.map .c),.c (.i l),.c (.i q)] (.c (.i (yS5 r l q))):=by
 refine dB yVg ?_;have no:wants r l q=false->yS5 r l q=0:=λh=>by simp[yS5,h]
 refine eP ?_;refine aA (yAx r) ?_;cases h1:ya3 r with
 |false=>refine eP ?_;exact no (by simp[wants,h1])
 |true=>
 refine eP ?_;refine aA (iC q 0 1000000000) ?_;cases h2:inRange q 0 1000000000 with
 |false=>refine eP ?_;exact no (by simp[wants,h2])
 |true=>
 refine eP ?_;refine aA (iC l 0 100000) ?_;cases h3:inRange l 0 100000 with
 |false=>refine eP ?_;exact no (by simp[wants,lev,h3])
 |true=>
 have f:=yWt h1;have f1:=f.low;have f2:=f.hig;have f3:=f.lh;have u:=aC.1 h2;have d:=aC.1 h3
 by_cases h4:l<=r.Low
 .refine eU h4 ?_;exact no (by simp[wants];omega)
 have h4':=zdK.1 h4
 have yes:yS5 r l q=if 2*q<(q*(l-r.Low)).tdiv (r.High-r.Low)then 2*q else(q*(l-r.Low)).tdiv (r.High-r.Low):=by
  have:wants r l q=true:=by simp[wants,lev,h1,h2,h3,h4']
  simp[yS5,this]
 have m1:=yyJ (a:=q) (b:=l-r.Low) (A:=1000000000) (B:=100000) (by omega) (by omega)
 have m2:0<=(q*(l-r.Low)).tdiv (r.High-r.Low)/\(q*(l-r.Low)).tdiv (r.High-r.Low)<=100000000000000:=by
  rw[zaA m1.1];refine⟨zck m1.1 (by omega),zdO (zch _ m1.1) (by omega)⟩
 rw[yes];refine yaed h4 h4' ?_;exact⟨by unfold inI;omega,by unfold inI;omega,by unfold inI;omega,by omega,by unfold inI;omega,by unfold inI;omega⟩
def yVI(r:Rule)(l q:Int):qB prg 300 [.agg (r.enc.map .c),.c (.i l),.c (.i q)] (.c (.i (yS5 r l q))):=by
 refine dB yVm ?_;have no:wants r l q=false->yS5 r l q=0:=λh=>by simp[yS5,h]
 refine eP ?_;refine aA (yzE r) ?_;cases h1:ya3 r with
 |false=>refine eP ?_;exact no (by simp[wants,h1])
 |true=>
 refine eP ?_;refine aA (bC q 0 1000000000) ?_;cases h2:inRange q 0 1000000000 with
 |false=>refine eP ?_;exact no (by simp[wants,h2])
 |true=>
 refine eP ?_;refine aA (yaJ l) ?_;cases h3:inRange l 0 100000 with
 |false=>refine eP ?_;exact no (by simp[wants,lev,h3])
 |true=>
 have f:=yWt h1;have f1:=f.low;have f2:=f.hig;have f3:=f.lh;have u:=aC.1 h2;have d:=aC.1 h3
 by_cases h4:l<=r.Low
 .refine eU h4 ?_;exact no (by simp[wants];omega)
 have h4':=zdK.1 h4
 have yes:yS5 r l q=if 2*q<(q*(l-r.Low)).tdiv (r.High-r.Low)then 2*q else(q*(l-r.Low)).tdiv (r.High-r.Low):=by
  have:wants r l q=true:=by simp[wants,lev,h1,h2,h3,h4']
  simp[yS5,this]
 have m1:=yyJ (a:=q) (b:=l-r.Low) (A:=1000000000) (B:=100000) (by omega) (by omega)
 have m2:0<=(q*(l-r.Low)).tdiv (r.High-r.Low)/\(q*(l-r.Low)).tdiv (r.High-r.Low)<=100000000000000:=by
  rw[zaA m1.1];refine⟨zck m1.1 (by omega),zdO (zch _ m1.1) (by omega)⟩
 rw[yes];refine yaed h4 h4' ?_;refine⟨by unfold inI;omega,by unfold inI;omega,by unfold inI;omega,by unfold inI;omega,by omega,by unfold inI;omega,?_⟩
 repeat' split
 all_goals omega
def yVT(w:ySp)(r:Rule)(up down q:Int):qB prg 177 [.agg (w.enc.map .c),.agg (r.enc.map .c),.c (.i up),.c (.i down),.c (.i q)] (.agg ((yS9 w r up down q).enc.map .c)):=by
 refine dB yVx ?_;have no:yTa w r up down q=false->yS9 w r up down q=w:=λh=>by simp[yS9,h]
 refine eP ?_;refine aA (yBa w) ?_;cases h1:iZ w with
 |false=>simp -dsimp -implicitDefEqProofs;simp[no (by simp[yTa,h1])]
 |true=>
 refine eP ?_;refine aA (yAx r) ?_;cases h2:ya3 r with
 |false=>simp -dsimp -implicitDefEqProofs;simp[no (by simp[yTa,h2])]
 |true=>
 refine eP ?_;refine aA (iC q 0 1000000000) ?_;cases h3:inRange q 0 1000000000 with
 |false=>simp -dsimp -implicitDefEqProofs;simp[no (by simp[yTa,h3])]
 |true=>
 refine eP ?_;refine aA (iC up 0 100000) ?_;cases h4:inRange up 0 100000 with
 |false=>simp -dsimp -implicitDefEqProofs;simp[no (by simp[yTa,lev,h4])]
 |true=>
 refine eP ?_;refine aA (iC down 0 100000) ?_;cases h5:inRange down 0 100000 with
 |false=>simp -dsimp -implicitDefEqProofs;simp[no (by simp[yTa,lev,h5])]
 |true=>
 have f:=yTI h1;have f1:=f.gts;have hc:yTa w r up down q=true:=by simp[yTa,lev,h1,h2,h3,h4,h5]
 by_cases h6:r.ySx<=up
 .have yes:yS9 w r up down q=yTf w (10*w.ySu):=by simp[yS9,hc,h6]
  rw[yes];refine eU h6 ?_;refine⟨by unfold inI;omega,?_⟩;refine aA (yUY w (10*w.ySu)) ?_;exact goE_
 .have yes:yS9 w r up down q=yTf w (yTu w up down (yS5 r up q)):=by simp[yS9,hc,h6]
  rw[yes];refine eU h6 ?_;refine ypC (yVH r up q) (eP ?_);refine ypC (yWJ w up down (yS5 r up q)) (eP ?_);refine ypC (yUY w (yTu w up down (yS5 r up q))) ?_;exact goE_
def yV6(w:ySp)(r:Rule)(up down q:Int):qB prg 192 [.agg (w.enc.map .c),.agg (r.enc.map .c),.c (.i up),.c (.i down),.c (.i q)] (.agg ((yS9 w r up down q).enc.map .c)):=by
 refine dB yVt ?_;have no:yTa w r up down q=false->yS9 w r up down q=w:=λh=>by simp[yS9,h]
 refine eP ?_;refine aA (yAj w) ?_;cases h1:iZ w with
 |false=>simp -dsimp -implicitDefEqProofs;simp[no (by simp[yTa,h1])]
 |true=>
 refine eP ?_;refine aA (yzE r) ?_;cases h2:ya3 r with
 |false=>simp -dsimp -implicitDefEqProofs;simp[no (by simp[yTa,h2])]
 |true=>
 refine eP ?_;refine aA (bC q 0 1000000000) ?_;cases h3:inRange q 0 1000000000 with
 |false=>simp -dsimp -implicitDefEqProofs;simp[no (by simp[yTa,h3])]
 |true=>
 refine eP ?_;refine aA (yaJ up) ?_;cases h4:inRange up 0 100000 with
 |false=>simp -dsimp -implicitDefEqProofs;simp[no (by simp[yTa,lev,h4])]
 |true=>
 refine eP ?_;refine aA (yaJ down) ?_;cases h5:inRange down 0 100000 with
 |false=>simp -dsimp -implicitDefEqProofs;simp[no (by simp[yTa,lev,h5])]
 |true=>
 have f:=yTI h1;have f1:=f.gts;have hc:yTa w r up down q=true:=by simp[yTa,lev,h1,h2,h3,h4,h5]
 by_cases h6:r.ySx<=up
 .have yes:yS9 w r up down q=yTf w (10*w.ySu):=by simp[yS9,hc,h6]
  rw[yes];refine eU h6 ?_;refine⟨by unfold inI;omega,?_⟩;refine aA (yU1 w (10*w.ySu)) ?_;exact goE_
 .have yes:yS9 w r up down q=yTf w (yTu w up down (yS5 r up q)):=by simp[yS9,hc,h6]
  rw[yes];refine eU h6 ?_;refine ypC (yVI r up q) (eP ?_);refine ypC (yWx w up down (yS5 r up q)) (eP ?_);refine ypC (yU1 w (yTu w up down (yS5 r up q))) ?_;exact goE_
def yVM(a b:Reach)(w:ySp)(ha:a.small)(hb:b.small):qB prg 179 [.agg (a.enc.map .c),.agg (b.enc.map .c),.agg (w.enc.map .c)] (.tup [.agg ((ySZ a b w).1.enc.map .c),.agg ((ySZ a b w).2.1.enc.map .c),.c (.i (ySZ a b w).2.2)]):=by
 refine dB yVl ?_;have no:(xE a&&xE b&&iZ w)=false->ySZ a b w=(a,b,0):=λh=>by simp[ySZ,h]
 refine eP ?_;refine aA (oL a) ?_;cases h1:xE a with
 |false=>
  rw[no (by simp[h1])];refine eP ?_;refine bI (yqt a ha) (eP ?_);refine bI (yqt b hb) ?_;exact goE_
 |true=>
 refine eP ?_;refine aA (oL b) ?_;cases h2:xE b with
 |false=>
  rw[no (by simp[h2])];refine eP ?_;refine bI (yqt a ha) (eP ?_);refine bI (yqt b hb) ?_;exact goE_
 |true=>
 refine eP ?_;refine aA (yBa w) ?_;cases h3:iZ w with
 |false=>
  rw[no (by simp[h3])];refine eP ?_;refine bI (yqt a ha) (eP ?_);refine bI (yqt b hb) ?_;exact goE_
 |true=>
 have yes:ySZ a b w=yTe a b (yS1 w (kD a) (kD b)) (fH a.ySg w.ySy):=by simp[ySZ,h1,h2,h3]
 rw[yes];refine eP ?_;refine lC (qL a) (eP ?_);refine lC (qL b) (eP ?_);refine lC (yUb w (kD a) (kD b)) (eP ?_);refine ypC (yxT a.ySg w.ySy) (eP ?_);have hP:=yWT a b (yS1 w (kD a) (kD b)) (fH a.ySg w.ySy) ha hb;refine bI hP ?_;generalize yTe a b (yS1 w (kD a) (kD b)) (fH a.ySg w.ySy)=z at *;exact goE_
def yVN(a b:Reach)(w:ySp)(ha:a.small)(hb:b.small):qB prg 194 [.agg (a.enc.map .c),.agg (b.enc.map .c),.agg (w.enc.map .c)] (.tup [.agg ((ySZ a b w).1.enc.map .c),.agg ((ySZ a b w).2.1.enc.map .c),.c (.i (ySZ a b w).2.2)]):=by
 refine dB yVj ?_;have no:(xE a&&xE b&&iZ w)=false->ySZ a b w=(a,b,0):=λh=>by simp[ySZ,h]
 refine eP ?_;refine aA (qN a) ?_;cases h1:xE a with
 |false=>
  rw[no (by simp[h1])];refine eP ?_;refine bI (ypc a ha) (eP ?_);refine bI (ypc b hb) ?_;exact goE_
 |true=>
 refine eP ?_;refine aA (qN b) ?_;cases h2:xE b with
 |false=>
  rw[no (by simp[h2])];refine eP ?_;refine bI (ypc a ha) (eP ?_);refine bI (ypc b hb) ?_;exact goE_
 |true=>
 refine eP ?_;refine aA (yAj w) ?_;cases h3:iZ w with
 |false=>
  rw[no (by simp[h3])];refine eP ?_;refine bI (ypc a ha) (eP ?_);refine bI (ypc b hb) ?_;exact goE_
 |true=>
 have yes:ySZ a b w=yTe a b (yS1 w (kD a) (kD b)) (fH a.ySg w.ySy):=by simp[ySZ,h1,h2,h3]
 rw[yes];refine eP ?_;refine ypC (dN a) (eP ?_);refine ypC (dN b) (eP ?_);refine ypC (yUe w (kD a) (kD b)) (eP ?_);refine ypC (yxU a.ySg w.ySy) (eP ?_);have hP:=yWY a b (yS1 w (kD a) (kD b)) (fH a.ySg w.ySy) ha hb;refine bI hP ?_;generalize yTe a b (yS1 w (kD a) (kD b)) (fH a.ySg w.ySy)=z at *;exact goE_
def yap{α:Type}(t:α->Nat)(xs:List α):Nat:=xs.length+(xs.map t).sum
def aX{α:Type}(f:α->Int->Int)(t:α->Nat):Prop:=∀x l,0<=l->l<=1048576->0<=f x l->f x l+t x<=l
def xJ{a:Int}{f:Int->Int}(h:0<=sO a f):0<=a/\sO a f=f a:=by
 rcases zcc a 0 with e|e
 .rw[oD e]at h;omega
 .exact⟨e,xB e⟩
def yhc{α:Type}:aX (λ(xs:List α) l=>szS xs.length l) (λxs=>xs.length):=by
 intro xs l h0 h1 h;simp only[szS]at h|-;split at h
 .omega
 .rename_i h2;rw[if_neg h2];omega
def yuf{α:Type}{f:α->Int->Int}{t:α->Nat}(hf:aX f t):∀(xs:List α) (l:Int),0<=l->l<=1048576->0<=sG f xs l->sG f xs l+((xs.map t).sum:Nat)<=l
 |[],l,_,_,_=>by simp[sG]
 |x::xs,l,h0,h1,h=>by
  simp only[sG]at h|-;obtain⟨p,e⟩:=xJ h;rw[e]at h|-;have h2:=hf x l h0 h1 p;have h3:=yuf hf xs (f x l) p (by omega) h;simp only[zbd,zcf,zcF];omega
def ycD{α:Type}{f:α->Int->Int}{t:α->Nat}(hf:aX f t):aX (ybF f) (yap t):=by
 intro xs l h0 h1 h;unfold ybF at h|-;obtain⟨p,e⟩:=xJ h;rw[e]at h|-;have h2:=yhc xs l h0 h1 p;have h3:=yuf hf xs _ p (by simp only at h2|-;omega) h;unfold yap;simp only at h2;omega
def yJ{α:Type}{n t:α->Nat}(h:∀x,n x<=27*(1+t x)):∀xs:List α,cnt n xs<=27*yap t xs
 |[]=>by simp[cnt]
 |x::xs=>by
  have h1:=yJ h xs;have h2:=h x;simp only[cnt,yap,zbd,zcf,zaJ]at h1|-;omega
def ya2(xs:List Int):Nat:=xs.length
def yeZ:aX yhM ya2:=yhc
def ynt(xs:List ySb):Nat:=xs.length
def yv2:aX ygS ynt:=yhc
def ylb(xs:List ySa):Nat:=xs.length
def yx1:aX yby ylb:=yhc
def yb0:List (List ySa)->Nat:=yap ylb
def ywz:aX yaP yb0:=ycD yx1
def yDz(r:List ySa):nB r<=27*(1+ylb r):=by unfold nB ylb;omega
def iT(e:yRT):Nat:=yb0 e.Rows
def ydy:aX kT iT:=by
 intro e l h0 h1 h;unfold kT at h|-;obtain⟨p0,e0⟩:=xJ h;rw[e0]at h|-;have t0:=ywz e.Rows _ h0 h1 p0;unfold iT;omega
def ymT(xs:List ySc):Nat:=xs.length
def ywb:aX ygc ymT:=yhc
def ydF(e:Reach):Nat:=ymT e.ySg+ya2 e.ySk
def yya:aX rW ydF:=by
 intro e l h0 h1 h;unfold rW at h|-;obtain⟨p0,e0⟩:=xJ h;rw[e0]at h|-;have t0:=ywb e.ySg _ h0 h1 p0;obtain⟨p1,e1⟩:=xJ h;rw[e1]at h|-;have t1:=yeZ e.ySk _ p0 (by omega) p1;unfold ydF;omega
def ydQ:List Reach->Nat:=yap ydF
def yvv:aX yaY ydQ:=ycD yya
def yzI(e:Reach):aH e<=27*(1+ydF e):=by
 have:ymT e.ySg=e.ySg.length:=rfl;have:ya2 e.ySk=e.ySk.length:=rfl;simp only[aH,ydF];omega
def yto(xs:List Way):Nat:=xs.length
def yzC:aX yov yto:=yhc
def ynl(xs:List ySf):Nat:=xs.length
def yv3:aX yfW ynl:=yhc
def gY:List yRT->Nat:=yap iT
def ymj:aX yT gY:=ycD ydy
def yqH(e:yRT):jC e<=27*(1+iT e):=by
 have:=yJ yDz e.Rows;simp only[jC,iT,yb0];omega
def yoM(e:yR0):Nat:=gY e.yRY
def yAF:aX yfn yoM:=by
 intro e l h0 h1 h;unfold yfn at h|-;obtain⟨p0,e0⟩:=xJ h;rw[e0]at h|-;have t0:=ymj e.yRY _ h0 h1 p0;unfold yoM;omega
def ykp(e:yR4):Nat:=iT e.yRT
def yzv:aX yaw ykp:=by
 intro e l h0 h1 h;unfold yaw at h|-;obtain⟨p0,e0⟩:=xJ h;rw[e0]at h|-;have t0:=ydy e.yRT _ h0 h1 p0;unfold ykp;omega
def ygU:List yR4->Nat:=yap ykp
def yzc:aX ycC ygU:=ycD yzv
def yBH(e:yR4):gI e<=27*(1+ykp e):=by
 have:=yJ yDz e.yRT.Rows;simp only[gI,ykp,iT,yb0];omega
def ygK(e:yR8):Nat:=yoM e.yR0+ynl e.Pauses+ygU e.Calls
def yAy:aX lZ ygK:=by
 intro e l h0 h1 h;unfold lZ at h|-;obtain⟨p0,e0⟩:=xJ h;rw[e0]at h|-;have t0:=yAF e.yR0 _ h0 h1 p0;obtain⟨p1,e1⟩:=xJ h;rw[e1]at h|-;have t1:=yv3 e.Pauses _ p0 (by omega) p1;obtain⟨p2,e2⟩:=xJ h;rw[e2]at h|-;have t2:=yzc e.Calls _ p1 (by omega) p2;unfold ygK;omega
def yf3:List yR8->Nat:=yap ygK
def yyT:aX ycs yf3:=ycD yAy
def yB8(e:yR8):iI e<=27*(1+ygK e):=by
 have:=yJ yqH e.yR0.yRY;have:ynl e.Pauses=e.Pauses.length:=rfl;have:=yJ yBH e.Calls;simp only[iI,ygK,yoM,gY,ygU];omega
def ygw(e:yR6):Nat:=iT e.yRT
def yxZ:aX qY ygw:=by
 intro e l h0 h1 h;unfold qY at h|-;obtain⟨p0,e0⟩:=xJ h;rw[e0]at h|-;have t0:=ydy e.yRT _ h0 h1 p0;unfold ygw;omega
def ydX:List yR6->Nat:=yap ygw
def ywy:aX sU ydX:=ycD yxZ
def nM_le(e:yR6):nM e<=27*(1+ygw e):=by
 have:=yJ yDz e.yRT.Rows;simp only[nM,ygw,iT,yb0];omega
def ycz:List (List yR6)->Nat:=yap ydX
def ytl:aX yB ycz:=ycD ywy
def yx8(r:List yR6):kG r<=27*(1+ydX r):=by have:=yJ nM_le r;unfold kG ydX;omega
def yhf(e:yRZ):Nat:=ya2 e.yR5+ya2 e.yR7
def yww:aX yH yhf:=by
 intro e l h0 h1 h;unfold yH at h|-;obtain⟨p0,e0⟩:=xJ h;rw[e0]at h|-;have t0:=yeZ e.yR5 _ h0 h1 p0;obtain⟨p1,e1⟩:=xJ h;rw[e1]at h|-;have t1:=yeZ e.yR7 _ p0 (by omega) p1;unfold yhf;omega
def yaW(e:yR2):Nat:=iT e.yRT
def yt2:aX xQ yaW:=by
 intro e l h0 h1 h;unfold xQ at h|-;obtain⟨p0,e0⟩:=xJ h;rw[e0]at h|-;have t0:=ydy e.yRT _ h0 h1 p0;unfold yaW;omega
def ybt:List yR2->Nat:=yap yaW
def yrl:aX nX ybt:=ycD yt2
def yvR(e:yR2):sF e<=27*(1+yaW e):=by
 have:=yJ yDz e.yRT.Rows;simp only[sF,yaW,iT,yb0];omega
def kV(e:yRW):Nat:=ydQ e.yRV+yto e.ySl+yf3 e.yRX+ycz e.yR3+gY e.yR9+ya2 e.ySd+yhf e.yRZ+ynt e.Book+ybt e.yR1
def yrn:aX dK kV:=by
 intro e l h0 h1 h;unfold dK at h|-;obtain⟨p0,e0⟩:=xJ h;rw[e0]at h|-;have t0:=yvv e.yRV _ h0 h1 p0;obtain⟨p1,e1⟩:=xJ h;rw[e1]at h|-;have t1:=yzC e.ySl _ p0 (by omega) p1;obtain⟨p2,e2⟩:=xJ h;rw[e2]at h|-;have t2:=yyT e.yRX _ p1 (by omega) p2;obtain⟨p3,e3⟩:=xJ h;rw[e3]at h|-;have t3:=ytl e.yR3 _ p2 (by omega) p3;obtain⟨p4,e4⟩:=xJ h;rw[e4]at h|-;have t4:=ymj e.yR9 _ p3 (by omega) p4;obtain⟨p5,e5⟩:=xJ h;rw[e5]at h|-;have t5:=yeZ e.ySd _ p4 (by omega) p5;obtain⟨p6,e6⟩:=xJ h;rw[e6]at h|-;have t6:=yww e.yRZ _ p5 (by omega) p6;obtain⟨p7,e7⟩:=xJ h;rw[e7]at h|-;have t7:=yv2 e.Book _ p6 (by omega) p7;obtain⟨p8,e8⟩:=xJ h;rw[e8]at h|-;have t8:=yrl e.yR1 _ p7 (by omega) p8;unfold kV;omega
def hsW(x:yRW):List H:=[.p (.i x.Time),.t 3 (x.yRV.map Reach.iD),.w 2 (x.ySl.map Way.enc),.t 22 (x.yRX.map yR8.iD),.t 1 (x.yR3.map xG),.t 2 (x.yR9.map yRT.iD),.w 1 (x.ySd.map qC),
 .p (.i x.yRZ.Base),.p (.i x.yRZ.ySe),.w 1 (x.yRZ.yR5.map qC),.w 1 (x.yRZ.yR7.map qC),.w 5 (x.Book.map ySb.enc),.t 4 (x.yR1.map yR2.iD),.p (.i x.Start),.p (.i x.In),.p (.i x.Out)]
def wm1(x:yRW)(k:Int):Int:=k+cnt aH x.yRV
def wm2(x:yRW)(k:Int):Int:=wm1 x k+2*x.ySl.length
def wm3(x:yRW)(k:Int):Int:=wm2 x k+cnt iI x.yRX
def wm4(x:yRW)(k:Int):Int:=wm3 x k+cnt kG x.yR3
def wm5(x:yRW)(k:Int):Int:=wm4 x k+cnt jC x.yR9
def wm6(x:yRW)(k:Int):Int:=wm5 x k+x.ySd.length
def wm7(x:yRW)(k:Int):Int:=wm6 x k+nT x.yRZ
def wm8(x:yRW)(k:Int):Int:=wm7 x k+5*x.Book.length
def wm9(x:yRW)(k:Int):Int:=wm8 x k+cnt sF x.yR1
def hsM(x:yRW)(k:Int):List H:=[.p (.i x.Time),.t 3 (dH rY aH k x.yRV),.w 2 (marked yaj 2 [] (wm1 x k) x.ySl.length),.t 22 (dH yax iI (wm2 x k) x.yRX),.t 1 (dH xU kG (wm3 x k) x.yR3),.t 2 (dH pR jC (wm4 x k) x.yR9),.w 1 (marked qC 1 [] (wm5 x k) x.ySd.length),
 .p (.i x.yRZ.Base),.p (.i x.yRZ.ySe),.w 1 (marked qC 1 [] (wm6 x k) x.yRZ.yR5.length),.w 1 (marked qC 1 [] (wm6 x k+x.yRZ.yR5.length) x.yRZ.yR7.length),.w 5 (marked ylw 5 [] (wm7 x k) x.Book.length),.t 4 (dH iR sF (wm8 x k) x.yR1),.p (.i x.Start),.p (.i x.In),.p (.i x.Out)]
def ygu{id k n:Nat}{mk:Int->List C}{c j:Int}{rows:List (List C)}(h:n=rows.length):hv id k (marked mk c [] j n)=hv id k rows:=yHl (by rw[kE,h])
def yoO{α:Type}{id k:Nat}{f:Int->α->List C}{n:α->Nat}{j:Int}{g:α->List C}{xs:List α}:hv id k (dH f n j xs)=hv id k (xs.map g):=yHl (by rw[jD,zai])
structure WkB(x:yRW)(k:Int):Prop where
 b0:0<=k
 b1:k<=wm1 x k
 b2:wm1 x k<=wm2 x k
 b3:wm2 x k<=wm3 x k
 b4:wm3 x k<=wm4 x k
 b5:wm4 x k<=wm5 x k
 b6:wm5 x k<=wm6 x k
 b7:wm6 x k<=wm7 x k
 b8:wm7 x k<=wm8 x k
 b9:wm8 x k<=wm9 x k
def wkB(x:yRW){k:Int}(h:0<=k):WkB x k:=by
 refine⟨h,?_,?_,?_,?_,?_,?_,?_,?_,?_⟩<;>simp only[wm1,wm2,wm3,wm4,wm5,wm6,wm7,wm8,wm9,nT]<;>omega
end
end Go.Proofs.YtdadkiofenhnbaaGreat
