/- What functions answer, in plain Lean. -/
import Derived.Test.YtdadkiofenhnbaaGreatR8
set_option linter.all false
set_option maxRecDepth 100000
set_option maxHeartbeats 4000000
namespace Go.Proofs.YtdadkiofenhnbaaGreat
open Go.RowKit
noncomputable section
def yy5(xs:List ySc)(k:Int)(h0:0<=k)(h1:k+2*xs.length<=8000000000000000000):
 InF prg 230 (.c (cw 2 (xs.map ySc.enc))) (.c (cw 2 (marked ylF 2 [] k xs.length))) [.c (.i k)] (.c (.i (k+2*xs.length))):=by
 rcases zao xs.length with hx|hx
 .have:xs=[]:=zae.1 hx;subst this;refine aK ye6 (by simp) (by simp) rfl λhwf=>?_;simp -dsimp -implicitDefEqProofs [ybm,marked];refine qA (ι:=Unit) (λ_=>True) (λ_=>xC [(0,.c (.sl 2 [])),(1,.c (.i k)),(5,.c (.i 0)),(1000000,.c (.sl 2 []))] []) (λ_=>0) () trivial (by apply aB<;>simp) ?_
  rintro _ _
  exact goE_
 .rw[kH (by simpa using hx),kH (by rw[kE];exact hx)];refine aK ye6 (by simp) (by simp) rfl λhwf=>?_;simp -dsimp -implicitDefEqProofs [ybm];refine yX2 (λi=>i<=xs.length) (λi=>xC [(0,.own 0 2 xs.length),(1,.c (.i (k+2*i))),(5,.c (.i i)),(1000000,.own 0 2 xs.length)] [(0,.row 2 (marked ylF 2 (xs.map ySc.enc) k i))]) (λi=>xs.length-i) (by apply aB<;>simp[yaS]) ?_
  rintro i hi
  rcases yX1 i xs with⟨hlt,e,he⟩|hge
  .have hg:=yb2 (mk:=ylF) (c:=2) (k:=k) (rows:=xs.map ySc.enc) (i:=i) (r:=e.enc) (by simp[he]);have hl:=ybS (mk:=ylF) (c:=2) (k:=k) (rows:=xs.map ySc.enc) (i:=i) (by simpa using hi);have hs:=ybU (mk:=ylF) (c:=2) (k:=k) (rows:=xs.map ySc.enc) (i:=i) (by simpa using hlt);rw[zai]at hl;generalize marked ylF 2 (xs.map ySc.enc) k i=M at *;have hlt2:i<M.length:=by omega
   have hself:∀a,(M.set i a)[i]?=some a:=λa=>zaQ hlt2;simp only[ylF]at hs;simp only[ySc.enc]at hg;refine yaff (fC hlt) hg hl hlt2 hself ?_;intro hlen;refine⟨hlt,by unfold inI;omega,hlt,by unfold inI;omega,by unfold inI;omega,i+1,hlt,by omega,?_⟩;apply aB<;>simp[hs,hself]<;>omega
  .have:i=xs.length:=by omega
   subst this;refine eP ?_;intro _;have e:=ybJ (mk:=ylF) (c:=2) (rows:=xs.map ySc.enc) (k:=k) (i:=xs.length) (by simp);rw[e,zai,List.take_of_length_le (by rw[kE];exact Nat.le_refl _)]
@[simp] def Reach.iD(e:Reach):List C:=[.ow 2 (e.ySg.map ySc.enc),.i e.ySh,.ow 1 (e.ySk.map qC)]
def Reach.bF(e:Reach):dO e.iD=some e.enc:=by simp[Reach.iD,dO,C.shr]
def yFd(e:Reach)(hl:Reach.small e):nI prg 216 [.agg (e.enc.map .c)] (.agg (e.iD.map .c)):=by
 refine fF yjc (eP ?_);refine sD (yBG e.ySg hl.1) (by simp) (by simp[AV.closed,AV.jI,C.closed]) (by simp[fD]) (goT_ ?_);refine sD (ynU e.ySk hl.2.1) (by simp) (by simp[AV.closed,AV.jI,C.closed]) (by simp[fD]) ?_;exact goU_
def Reach.yv7(e:Reach):List C:=[cw 2 (e.ySg.map ySc.enc),.i e.ySh,cw 1 (e.ySk.map qC)]
def fM(k:Int)(e:yR6):List C:=[.b (decide (k.tmod 3=0)),.ot 1 (dH fB nB (k+1) e.yRT.Rows),.i (k+1+cnt nB e.yRT.Rows)]
def nM(e:yR6):Nat:=1+cnt nB e.yRT.Rows+1
def yyR(xs:List yR6)(k:Int)(h0:0<=k)(h1:k+cnt nM xs<=8000000000000000000):
 InF prg 233 (.c (ct 3 (xs.map yR6.iD))) (.c (ct 3 (dH fM nM k xs))) [.c (.i k)] (.c (.i (k+cnt nM xs))):=by
 rcases zao xs.length with hx|hx
 .have:xs=[]:=zae.1 hx;subst this;refine aK yeS (by simp) (by simp) rfl λhwf=>?_;simp -dsimp -implicitDefEqProofs [ybn,dH,cnt];refine qA (ι:=Unit) (λ_=>True) (λ_=>xC [(0,.c (.sl 3 [])),(1,.c (.i k)),(5,.c (.i 0)),(1000000,.c (.sl 3 []))] []) (λ_=>0) () trivial (by apply aB<;>simp) ?_
  rintro _ _
  exact goE_
 .rw[iY (by simpa using hx),iY (by rw[jD];exact hx)];refine aK yeS (by simp) (by simp) rfl λhwf=>?_;simp -dsimp -implicitDefEqProofs [ybn];refine yX2 (λi=>i<=xs.length) (λi=>xC [(0,.own 0 3 xs.length),(1,.c (.i (k+pI nM xs i))),(5,.c (.i i)),(1000000,.own 0 3 xs.length)] [(0,.tr 3 0 (dX fM yR6.iD nM k xs i))]) (λi=>xs.length-i) (by apply aB<;>simp[yD,jK,Obj.leO]) ?_
  rintro i hi
  rcases yX1 i xs with⟨hlt,e,he⟩|hge
  .have hg:=yaO (f:=fM) (g:=yR6.iD) (n:=nM) (k:=k) he;have hl:=yaK (f:=fM) (g:=yR6.iD) (n:=nM) (k:=k) (xs:=xs) (i:=i);have hs:=yaL (f:=fM) (g:=yR6.iD) (n:=nM) (k:=k) he;have hc:=kK (n:=nM) he;have hle:=kR (n:=nM) (xs:=xs) (i:=i+1);have hn:nM e=1+cnt nB e.yRT.Rows+1:=rfl;generalize hM:dX fM yR6.iD nM k xs i=M at *;have hlt2:i<M.length:=by omega
   have g1:M[i]=e.iD:=(zaa.1 hg).2;have hself:∀a,(M.set i a)[i]?=some a:=λa=>zaQ hlt2;simp only[yR6.iD]at hg g1;simp -dsimp -implicitDefEqProofs [fC hlt,hg,hl,hlt2,g1,hself,setAt];intro hlen;have hk:0<=k+pI nM xs i:=by omega
   have c1:C.ot 1 (e.yRT.Rows.map jF)=C.ot 1 (e.yRT.Rows.map jF):=rfl;refine⟨by have:=zcZ 3 hk;have:=zcE (k+pI nM xs i) (b:=3) (by omega);unfold inI;omega,hlt,by unfold inI;omega,hlt,?_⟩;refine fU (k0:=3) (ver:=1) (j:=1) (i:=(i:Int)) (r:=[.b (decide ((k+pI nM xs i).tmod 3=0)),.ot 1 (e.yRT.Rows.map jF),.i e.Place]) (c:=.ot 1 (e.yRT.Rows.map jF)) (c':=.ot 1 (dH fB nB (k+pI nM xs i+1) e.yRT.Rows)) (ydw e.yRT.Rows (k+pI nM xs i+1) (by omega) (by omega)) (by simp) rfl rfl rfl (by simpa using hself _) rfl ⟨_,by rw[jD];simp,rfl,rfl,rfl⟩ (by simp[C.sz]) ?_;simp -dsimp -implicitDefEqProofs [setAt,hself,hlt2,hl];refine⟨hlt,by unfold inI;omega,gB hlt hlen,i+1,hlt,by omega,?_⟩;simp only[fM]at hs;apply aB<;>simp[Obj.leO,hs]<;>omega
  .have:i=xs.length:=by omega
   subst this;refine eP ?_;intro _;rw[yaX (Nat.le_refl _),cO (Nat.le_refl _),List.take_of_length_le (by rw[jD];exact Nat.le_refl _)];exact⟨rfl,rfl⟩
def yHX{t:yRT}(h:ySw t):t.Rows.length<=6:=by
 have:∀l:List (List ySa),(∀r∈l,full r=true)->l.length<=l.flatten.length:=by
  intro l
  induction l with
  |nil=>simp
  |cons r l ih=>
   intro hl;have e1:=ih λx hx=>hl x (by simp[hx]);have e2:=yky.1 (hl r (by simp));simp only[zaJ,zcI,zak];omega
 have h1:=this t.Rows h.rows;have h2:=h.len;unfold yRT.qE at h2;omega
def ylj{t:yRT}(h:ySw t){k:Nat}{r:List ySa}(hr:t.Rows[k]?=some r):1<=r.length/\r.length<=6/\∀b∈r,iL b=true:=by
 have h1:=yky.1 (h.rows r (zac hr));obtain⟨m,e⟩:=yqU hr;have h2:=h.len;rw[e]at h2;simp only[zak]at h2;exact⟨by omega,by omega,λb hb=>h.ok b (by rw[e];simp[hb])⟩
def sumF{α:Type}(f:α->Int)(l:List α)(k:Nat):Int:=((l.take k).map f).sum
def yca{α:Type}{f:α->Int}{l:List α}:sumF f l 0=0:=rfl
def yfQ{α:Type}{f:α->Int}{l:List α}{k:Nat}{x:α}(h:l[k]?=some x):sumF f l (k+1)=sumF f l k+f x:=by
 unfold sumF;rw[zar,h,zaB,zcV];simp
def ygX{α:Type}{f:α->Int}{l:List α}{k:Nat}(h:l.length<=k):sumF f l k=(l.map f).sum:=by
 unfold sumF;rw[List.take_of_length_le h]
def yx7{α:Type}{f:α->Int}{l:List α}{c:Int}(hc:0<=c)(h:∀x∈l,0<=f x/\f x<=c):∀k:Nat,0<=sumF f l k/\sumF f l k<=c*k
 |0=>by simp[yca]
 | k+1=>by
  have ih:=yx7 hc h k;have e:c*((k+1:Nat):Int)=c*k+c:=by rw[zcF,zdB];simp
  cases hk:l[k]? with
  |none=>
   have:l.length<=k:=by simpa using hk
   have e2:sumF f l (k+1)=sumF f l k:=by unfold sumF;rw[List.take_of_length_le (by omega),List.take_of_length_le this]
   rw[e2,e];omega
  |some x=>
   have:=h x (zac hk);rw[yfQ hk,e];omega
def rowLen(r:List ySa):Int:=maxOf ySa.Length r 0
def aI(t:yRT):Int:=if oC t then(t.Rows.map rowLen).sum else 0
def yEg{r:List ySa}(h:∀b∈r,iL b=true):0<=rowLen r/\rowLen r<=200:=
 yuz (λx hx=>by have:=ygR (h x hx);omega) (by omega) (by omega)
def yke{t:yRT}(h:ySw t){k:Nat}(hk:k<=t.Rows.length):0<=sumF rowLen t.Rows k/\sumF rowLen t.Rows k<=1200:=by
 have h1:=yx7 (f:=rowLen) (l:=t.Rows) (c:=200) (by omega) (λr hr=>by
  obtain⟨i,hi⟩:=zat hr;exact yEg (ylj h hi).2.2) k
 have:=yHX h;omega
def yfk(t:yRT):0<=aI t/\aI t<=1200:=by
 unfold aI;split
 .rename_i h;have:=yke (lK h) (Nat.le_refl _);rw[ygX (Nat.le_refl _)]at this;exact this
 .omega
def ymp(t:yRT)(h:t.small):qB prg 259 [.agg (t.enc.map .c)] (.c (.i (aI t))):=by
 refine dB yrW (eP ?_);refine aA (gK t h) (eP ?_);refine⟨λh1=>by simp[aI,h1],λh1 hlen=>?_⟩;have tf:=lK h1;refine yX2 (λk=>k<=t.Rows.length) (λk=>xC [(3,.c (.i (sumF rowLen t.Rows k))),(13,.c (.sl 1 (t.Rows.map jE))),(14,.c (.i t.Rows.length)),(15,.c (.i k))] []) (λk=>t.Rows.length-k) (by apply aB<;>simp[yca]) ?_
 rintro k hk
 rcases yX1 k t.Rows with⟨hlt,r,hr⟩|hge
 .refine yaed hr (fC hlt) ?_;intro hrl;refine yX2 (λj=>j<=r.length) (λj=>xC [(3,.c (.i (sumF rowLen t.Rows k))),(13,.c (.sl 1 (t.Rows.map jE))),(14,.c (.i t.Rows.length)),(15,.c (.i k)),(6,.c (.i (yjY ySa.Length r 0 j))),(19,.c (.sl 6 (r.map ySa.enc))),(20,.c (.i r.length)),(21,.c (.i j))] []) (λj=>r.length-j) (by apply aB<;>simp[yb3]) ?_
  rintro j hj
  rcases yX1 j r with⟨hlt2,b,hb⟩|hge2
  .refine yaed hb (fC hlt2) ?_;refine⟨gB hlt2 hrl,j+1,hlt2,by omega,?_⟩;apply aB<;>simp[yhH hb]
  .refine eU (aG hge2) ?_;have b1:=yke tf hk;have b2:=yke tf (show k+1<=t.Rows.length from hlt);have e:=yfQ (f:=rowLen) hr;rw[yk9 hge2];have e':sumF rowLen t.Rows (k+1)=sumF rowLen t.Rows k+maxOf ySa.Length r 0:=e;refine⟨by unfold inI;omega,gB hlt hlen,k+1,hlt,by omega,?_⟩;apply aB<;>simp[e']
 .refine eU (aG hge) ?_;simp[aI,h1,ygX hge]
def ycg(t:yRT)(h:t.small):qB prg 22 [.agg (t.enc.map .c)] (.c (.i (aI t))):=by
 refine dB yrH (eP ?_);refine yX2 (λk=>k<=t.Rows.length/\(k≠0->oC t=true)) (λk=>xC [(1,.box 1 0),(3,.c (.i (sumF rowLen t.Rows k))),(4,.c (.i k))] [(1,.box (t.enc.map .c))]) (λk=>t.Rows.length-k) (by apply aB<;>simp[yca]) ?_
 rintro k ⟨hk,hok⟩
 have fin:oC t=false->k=0:=λh1=>by
  rcases zao k with e|e
  .exact e
  .rw[hok (by omega)]at h1;cases h1
 rcases yX1 k t.Rows with⟨hlt,r,hr⟩|hge
 .refine yaed hr (fC hlt) ?_;intro hlen;refine aA (jJ t h) (yaed hr (fC hlt) ?_);refine⟨λh1=>?_,λh1=>?_⟩
  .have tf:=lK h1;refine yX2 (λj=>j<=r.length) (λj=>xC [(1,.box 1 0),(3,.c (.i (sumF rowLen t.Rows k))),(4,.c (.i k)),(5,.c (.i (yjY ySa.Length r 0 j))),(6,.c (.i j))] [(1,.box (t.enc.map .c))]) (λj=>r.length-j) (by apply aB<;>simp[yb3]) ?_
   rintro j hj
   rcases yX1 j r with⟨hlt2,b,hb⟩|hge2
   .refine yaeV hr (fC hlt) hb (fC hlt2) ?_;intro hrl;refine⟨gB hlt2 hrl,j+1,hlt2,by omega,?_⟩;apply aB<;>simp[yhH hb]
   .refine yaeT hr (fC hlt) (aG hge2) ?_;have b1:=yke tf hk;have b2:=yke tf (show k+1<=t.Rows.length from hlt);have e':sumF rowLen t.Rows (k+1)=sumF rowLen t.Rows k+maxOf ySa.Length r 0:=yfQ (f:=rowLen) hr;rw[yk9 hge2]
    refineλ_=>⟨by unfold inI;omega,gB hlt hlen,k+1,⟨hlt,λ_=>h1⟩,by omega,?_⟩
    apply aB<;>simp[e']
  .have:=fin h1;subst this;simp[aI,h1,yca]
 .refine eU (aG hge) ?_;intro _
  by_cases h1:oC t=true
  .simp[aI,h1,ygX hge]
  .have:=fin (by simpa using h1);subst this;simp[aI,h1,yca]
def ycV(r:List ySa):Int:=(r.map ySa.Width).sum
def yBX(l:List (List ySa)):Int:=l.foldl (λm r=>if m<ycV r then ycV r else m) 0
def xZ(l:List (List ySa))(k:Nat):Int:=yBX (l.take k)
def yfl{l:List (List ySa)}:xZ l 0=0:=rfl
def yqX{l:List (List ySa)}{k:Nat}{r:List ySa}(h:l[k]?=some r):xZ l (k+1)=if xZ l k<ycV r then ycV r else xZ l k:=by
 unfold xZ yBX;rw[zar,h,zcm];rfl
def ytc{l:List (List ySa)}{k:Nat}(h:l.length<=k):xZ l k=yBX l:=by
 unfold xZ;rw[List.take_of_length_le h]
def iH(t:yRT):Int:=if oC t then yBX t.Rows else 0
def yuB{r:List ySa}(h:∀b∈r,iL b=true)(h6:r.length<=6){k:Nat}(hk:k<=r.length):0<=sumF ySa.Width r k/\sumF ySa.Width r k<=180:=by
 have:=yx7 (f:=ySa.Width) (l:=r) (c:=30) (by omega) (λb hb=>by have:=ygR (h b hb);omega) k;omega
def yIu{l:List (List ySa)}(h:∀r∈l,0<=ycV r/\ycV r<=180):0<=yBX l/\yBX l<=180:=by
 unfold yBX
 have:∀(l:List (List ySa)) (z:Int),(∀r∈l,0<=ycV r/\ycV r<=180)->0<=z->z<=180->0<=l.foldl (λm r=>if m<ycV r then ycV r else m) z/\l.foldl (λm r=>if m<ycV r then ycV r else m) z<=180:=by
  intro l
  induction l with
  |nil=>intro z _ h1 h2;exact⟨h1,h2⟩
  |cons r l ih=>
   intro z h h1 h2;have:=h r (by simp);rw[zca];refine ih _ (λy hy=>h y (by simp[hy])) ?_ ?_<;>split<;>omega
 exact this l 0 h (by omega) (by omega)
def yhm(t:yRT):0<=iH t/\iH t<=180:=by
 unfold iH;split
 .rename_i h;refine yIu λr hr=>?_;obtain⟨i,hi⟩:=zat hr;obtain⟨a1,a2,a3⟩:=ylj (lK h) hi;have:=yuB a3 a2 (Nat.le_refl _);rw[ygX (Nat.le_refl _)]at this;exact this
 .omega
def ynE(t:yRT)(h:t.small):qB prg 260 [.agg (t.enc.map .c)] (.c (.i (iH t))):=by
 refine dB yuc (eP ?_);refine aA (gK t h) (eP ?_);refine⟨λh1=>by simp[iH,h1],λh1 hlen=>?_⟩;have tf:=lK h1;refine yX2 (λk=>k<=t.Rows.length) (λk=>xC [(3,.c (.i (xZ t.Rows k))),(13,.c (.sl 1 (t.Rows.map jE))),(14,.c (.i t.Rows.length)),(15,.c (.i k))] []) (λk=>t.Rows.length-k) (by apply aB<;>simp[yfl]) ?_
 rintro k hk
 rcases yX1 k t.Rows with⟨hlt,r,hr⟩|hge
 .obtain⟨a1,a2,a3⟩:=ylj tf hr;refine yaed hr (fC hlt) ?_;intro hrl;refine yX2 (λj=>j<=r.length) (λj=>xC [(3,.c (.i (xZ t.Rows k))),(13,.c (.sl 1 (t.Rows.map jE))),(14,.c (.i t.Rows.length)),(15,.c (.i k)),(6,.c (.i (sumF ySa.Width r j))),(19,.c (.sl 6 (r.map ySa.enc))),(20,.c (.i r.length)),(21,.c (.i j))] []) (λj=>r.length-j) (by apply aB<;>simp[yca]) ?_
  rintro j hj
  rcases yX1 j r with⟨hlt2,b,hb⟩|hge2
  .have b1:=yuB a3 a2 (show j+1<=r.length from hlt2);have e:=yfQ (f:=ySa.Width) hb;refine yaed hb (fC hlt2) ?_;refine⟨by unfold inI;omega,gB hlt2 hrl,j+1,hlt2,by omega,?_⟩;apply aB<;>simp[e]
  .refine eU (aG hge2) ?_;rw[ygX hge2];have e:xZ t.Rows (k+1)=if xZ t.Rows k<(r.map ySa.Width).sum then(r.map ySa.Width).sum else xZ t.Rows k:=yqX hr
   refine⟨gB hlt hlen,k+1,hlt,by omega,?_⟩;apply aB<;>simp[e]
 .refine eU (aG hge) ?_;simp[iH,h1,ytc hge]
def ynV(t:yRT)(h:t.small):qB prg 21 [.agg (t.enc.map .c)] (.c (.i (iH t))):=by
 refine dB yss (eP ?_);refine yX2 (λk=>k<=t.Rows.length/\(k≠0->oC t=true)) (λk=>xC [(1,.box 1 0),(3,.c (.i (xZ t.Rows k))),(4,.c (.i k))] [(1,.box (t.enc.map .c))]) (λk=>t.Rows.length-k) (by apply aB<;>simp[yfl]) ?_
 rintro k ⟨hk,hok⟩
 have fin:oC t=false->k=0:=λh1=>by
  rcases zao k with e|e
  .exact e
  .rw[hok (by omega)]at h1;cases h1
 rcases yX1 k t.Rows with⟨hlt,r,hr⟩|hge
 .refine yaed hr (fC hlt) ?_;intro hlen;refine aA (jJ t h) (yaed hr (fC hlt) ?_);refine⟨λh1=>?_,λh1=>?_⟩
  .have tf:=lK h1;obtain⟨a1,a2,a3⟩:=ylj tf hr;refine yX2 (λj=>j<=r.length) (λj=>xC [(1,.box 1 0),(3,.c (.i (xZ t.Rows k))),(4,.c (.i k)),(5,.c (.i (sumF ySa.Width r j))),(6,.c (.i j))] [(1,.box (t.enc.map .c))]) (λj=>r.length-j) (by apply aB<;>simp[yca]) ?_
   rintro j hj
   rcases yX1 j r with⟨hlt2,b,hb⟩|hge2
   .have b1:=yuB a3 a2 (show j+1<=r.length from hlt2);have e:=yfQ (f:=ySa.Width) hb;refine yaeV hr (fC hlt) hb (fC hlt2) ?_;intro hrl;refine⟨by unfold inI;omega,gB hlt2 hrl,j+1,hlt2,by omega,?_⟩;apply aB<;>simp[e]
   .refine yaeT hr (fC hlt) (aG hge2) ?_;have e:xZ t.Rows (k+1)=if xZ t.Rows k<(r.map ySa.Width).sum then(r.map ySa.Width).sum else xZ t.Rows k:=yqX hr
    rw[ygX hge2]
    refineλ_=>⟨gB hlt hlen,k+1,⟨hlt,λ_=>h1⟩,by omega,?_⟩
    apply aB<;>simp[e]
  .have:=fin h1;subst this;simp[iH,h1,yfl]
 .refine eU (aG hge) ?_;intro _
  by_cases h1:oC t=true
  .simp[iH,h1,ytc hge]
  .have:=fin (by simpa using h1);subst this;simp[iH,h1,yfl]
def qO(t:yRT):Int:=if oC t then minOf ySa.Class t.qE (yDC ySa.Class t.qE)else -1
def yvn{t:yRT}(h:oC t=true):0<=qO t/\qO t<=2:=by
 unfold qO;rw[if_pos h];have hf:=lK h;obtain⟨r,b0,e1,e2,e3⟩:=yph hf;have:=ygR (hf.ok b0 (zac e3));exact yBi (λx hx=>by have:=ygR (hf.ok x hx);omega) (by rw[yHV e3];omega) (by rw[yHV e3];omega)
def yhh(t:yRT)(h:t.small):qB prg 261 [.agg (t.enc.map .c)] (.c (.i (qO t))):=by
 refine dB yta (eP ?_);refine aA (gK t h) (eP ?_);refine⟨λh1=>by simp[qO,h1],λh1=>?_⟩;obtain⟨r,b0,e1,e2,e3⟩:=yph (lK h1);have l1:0<t.Rows.length:=(zaa.1 e1).1;have l2:0<r.length:=(zaa.1 e2).1;have f1:=(zaa.1 e1).2;have f2:=(zaa.1 e2).2;refine yafq e1 e2 l1 l2 f1 f2 ?_;refine dD (yqd t h) (eP ?_);intro hlen;refine yX2 (λk=>k<=t.qE.length) (λk=>xC [(3,.c (.i (yoz ySa.Class t.qE b0.Class k))),(17,.c (.sl 6 (t.qE.map ySa.enc))),(18,.c (.i t.qE.length)),(19,.c (.i k))] []) (λk=>t.qE.length-k) (by apply aB<;>simp[ysJ]) ?_
 rintro k hk
 rcases yX1 k t.qE with⟨hlt,b,hb⟩|hge
 .refine yaed hb (fC hlt) ?_;refine⟨gB hlt hlen,k+1,hlt,by omega,?_⟩;apply aB<;>simp[yuw hb]
 .refine eU (aG hge) ?_;simp[qO,h1,yxb hge,yHV e3]
def yoZ(t:yRT)(h:t.small):qB prg 349 [.agg (t.enc.map .c)] (.c (.i (qO t))):=by
 refine dB ytX (eP ?_);refine dD (yhF t h) (eP ?_);refine aA (jJ t h) (eP ?_);refine⟨λh1=>by simp[qO,h1],λh1=>?_⟩;obtain⟨r,b0,e1,e2,e3⟩:=yph (lK h1);have l1:0<t.qE.length:=(zaa.1 e3).1;have f3:=(zaa.1 e3).2;refine yaeT e3 l1 f3 ?_;refine yX2 (λk=>k<=t.qE.length) (λk=>xC [(3,.c (.sl 6 (t.qE.map ySa.enc))),(4,.c (.i (yoz ySa.Class t.qE b0.Class k))),(5,.c (.i k))] []) (λk=>t.qE.length-k) (by apply aB<;>simp[ysJ]) ?_
 rintro k hk
 rcases yX1 k t.qE with⟨hlt,b,hb⟩|hge
 .refine yaed hb (fC hlt) ?_;intro hlen;refine⟨gB hlt hlen,k+1,hlt,by omega,?_⟩;apply aB<;>simp[yuw hb]
 .refine eU (aG hge) ?_;intro _;simp[qO,h1,yxb hge,yHV e3]
def yH(e:yRZ)(l:Int):Int:=sO (yhM e.yR5 l) λl=>sO (yhM e.yR7 l) λl=>l
def ynx:ya8 yH yRZ.small:=by
 intro e l h0 h1;unfold yH;rcases ybM e.yR5 _ h0 h1 with e0|⟨a0,b0,s0⟩
 .exact .inl (oD (by omega))
 rw[xB a0];rcases ybM e.yR7 _ a0 (by omega)with e1|⟨a1,b1,s1⟩
 .exact .inl (oD (by omega))
 rw[xB a1];exact .inr ⟨a1,by omega,s0.1,s1.1⟩
def yAc(e:yRZ)(l:Int)(h0:0<=l)(h1:l<=1048576):qB prg 86 [.agg (e.enc.map .c),.c (.i l)] (.c (.i (yH e l))):=by
 refine dB yrv (eP ?_);refine aA (yk2 e.yR5 _ h0 h1) (eP ?_);refine⟨λh=>by simp[yH,oD h],λp0=>?_⟩;have q0:=yiI ybM e.yR5 h0 h1 p0;refine aA (yk2 e.yR7 _ p0 q0) (eP ?_);refine⟨λh=>by simp[yH,xB p0,oD h],λp1=>?_⟩;simp[yH,xB p0,xB p1]
structure ySH(t:yRZ):Prop where
 base:0<=t.Base/\t.Base<=10000
 area:0<=t.ySe/\t.ySe<=100
 three:t.yR5.length=3
 cls:∀x∈t.yR5,0<=x/\x<=10000
 yXM:1<=t.yR7.length/\t.yR7.length<=11
 wts:∀x∈t.yR7,0<=x/\x<=1000
 sum:0<t.yR7.sum
def yzq{t:yRZ}(h:nH t=true):ySH t:=by
 simp only[nH,zad,zaf,decide_eq_true_eq]at h;obtain⟨⟨⟨⟨⟨⟨h1,h2⟩,h3⟩,h4⟩,h5⟩,h6⟩,h7⟩:=h;have h4:=aC.1 h4;exact⟨aC.1 h1,aC.1 h2,h3,λx hx=>aC.1 (h5 x hx),by omega,λx hx=>aC.1 (h6 x hx),h7⟩
def lT(t:yRZ)(x:yRT):Int:=if nH t&&oC x then t.Base+(t.ySe*aI x*iH x).tdiv 100+t.yR5[(qO x).toNat]?.getD 0 else 0
def yqx{t:yRZ}{x:yRT}(h1:nH t=true)(h2:oC x=true):
 ∃c,t.yR5[(qO x).toNat]?=some c/\0<=qO x/\qO x<t.yR5.length/\inI (t.ySe*aI x)/\inI (t.ySe*aI x*iH x)/\inI ((t.ySe*aI x*iH x).tdiv 100)/\
  inI (t.Base+(t.ySe*aI x*iH x).tdiv 100)/\inI (t.Base+(t.ySe*aI x*iH x).tdiv 100+c)/\0<=t.Base+(t.ySe*aI x*iH x).tdiv 100+c/\t.Base+(t.ySe*aI x*iH x).tdiv 100+c<=1000000:=by
 have tf:=yzq h1;have a1:=yfk x;have a2:=yhm x;have a3:=yvn h2;have b1:=tf.base;have b2:=tf.area;have b3:=tf.three;obtain⟨c,hc⟩:∃c,t.yR5[(qO x).toNat]?=some c:=⟨_,zab (by omega)⟩;have b4:=tf.cls c (zac hc);have e1:0<=t.ySe*aI x:=zct b2.1 a1.1;have e2:t.ySe*aI x<=100*1200:=zcu b2.2 a1.2 a1.1 (by omega);have e3:0<=t.ySe*aI x*iH x:=zct e1 a2.1;have e4:t.ySe*aI x*iH x<=120000*180:=zcu (by omega) a2.2 a2.1 (by omega);have e5:(t.ySe*aI x*iH x).tdiv 100=(t.ySe*aI x*iH x)/100:=zaA e3;rw[e5];refine⟨c,hc,a3.1,by omega,?_,?_,?_,?_,?_,by omega,by omega⟩<;>unfold inI<;>omega
def yAg(t:yRZ)(x:yRT)(h:x.small):qB prg 170 [.agg (t.enc.map .c),.agg (x.enc.map .c)] (.c (.i (lT t x))):=by
 refine dB ywt (eP ?_);refine aA (yfw t) ?_;cases h1:nH t with
 |false=>simp -dsimp -implicitDefEqProofs;simp[lT,h1]
 | true=>
  refine eP ?_;refine aA (gK x h) ?_;cases h2:oC x with
  |false=>simp -dsimp -implicitDefEqProofs;simp[lT,h2]
  |true=>
   obtain⟨c,hc,c1,c2,c3,c4,c5,c6,c7,_,_⟩:=yqx h1 h2;refine eP ?_;refine lC (ymp x h) (eP ?_);refine⟨c3,?_⟩;refine lC (ynE x h) (eP ?_);refine⟨c4,c5,c6,?_⟩;refine lC (yhh x h) ?_;have hg:=(zaa.1 hc).2;refine yaeV hc c1 c2 hg ?_;exact⟨c7,by simp[lT,h1,h2,hc]⟩
def yBg(t:yRZ)(x:yRT)(h:x.small):qB prg 255 [.agg (t.enc.map .c),.agg (x.enc.map .c)] (.c (.i (lT t x))):=by
 refine dB ywq (eP ?_);refine aA (yfH t) ?_;cases h1:nH t with
 |false=>simp -dsimp -implicitDefEqProofs;simp[lT,h1]
 | true=>
  refine eP ?_;refine aA (jJ x h) ?_;cases h2:oC x with
  |false=>simp -dsimp -implicitDefEqProofs;simp[lT,h2]
  |true=>
   obtain⟨c,hc,c1,c2,c3,c4,c5,c6,c7,_,_⟩:=yqx h1 h2;refine eP ?_;refine lC (ycg x h) (eP ?_);refine⟨c3,?_⟩;refine lC (ynV x h) (eP ?_);refine⟨c4,c5,c6,?_⟩;refine lC (yoZ x h) ?_;have hg:=(zaa.1 hc).2;refine yaeV hc c1 c2 hg ?_;exact⟨c7,by simp[lT,h1,h2,hc]⟩
def yqo{α β:Type}{f:α->β}{l:List α}:(l.map f).take l.length=l.map f:=List.take_of_length_le (by simp)
def lG(t:yRT):List Int:=if oC t then t.qE.map yc0 else[]
def ydb(t:yRT)(k:Nat):List Int:=(t.qE.take k).map yc0
def yfb{t:yRT}:ydb t 0=[]:=rfl
def yqG{t:yRT}{k:Nat}{b:ySa}(h:t.qE[k]?=some b):ydb t (k+1)=ydb t k++[b.Id]:=by
 unfold ydb;rw[zar,h,zaB];rfl
def yuu{t:yRT}{k:Nat}(h:t.qE.length<=k):ydb t k=t.qE.map yc0:=by
 unfold ydb;rw[List.take_of_length_le h]
def yso{t:yRT}{k:Nat}(h:k<=t.qE.length):(ydb t k).length=k:=by
 unfold ydb;simp;omega
def ya0(t:yRT)(h:t.small):qB prg 56 [.agg (t.enc.map .c)] (.c (.sl 1 ((lG t).map qC))):=by
 refine dB yyu (eP ?_);refine aA (gK t h) ?_;cases h1:oC t with
 |false=>simp -dsimp -implicitDefEqProofs;simp[lG,h1]
 | true=>
  have tf:=lK h1;have h6:=tf.len;refine eP ?_;refine dD (yqd t h) (eP ?_);intro hlen;refine jX (k0:=1) 3 1 (by simp) (by simp) (by decide) ?_;refine yX2 (λk=>k<=t.qE.length) (λk=>xC [(3,.own 3 1 (ydb t k).length),(10,.c (.sl 6 (t.qE.map ySa.enc))),(11,.c (.i t.qE.length)),(12,.c (.i k))] [(3,.row 1 ((ydb t k).map qC))]) (λk=>t.qE.length-k) (by apply aB<;>simp[yfb]) ?_
  rintro k hk
  have hkl:=yso hk;rcases yX1 k t.qE with⟨hlt,b,hb⟩|hge
  .refine yaed hb (fC hlt) ?_;refine⟨by omega,gB hlt hlen,k+1,hlt,by omega,?_⟩;apply aB<;>simp[yqG hb]
  .refine eU (aG hge) ?_;rw[yqo,yuu hge];simp[lG,h1]
def yaG(t:yRT)(h:t.small):qB prg 70 [.agg (t.enc.map .c)] (.c (.sl 1 ((lG t).map qC))):=by
 refine dB yzb (eP ?_);refine dD (yhF t h) (eP ?_);refine yX2 (λk=>k<=t.qE.length/\(k≠0->oC t=true)) (λk=>xC [(1,.box 1 0),(3,.own 6 1 (ydb t k).length),(4,.c (.sl 6 (t.qE.map ySa.enc))),(5,.c (.i k))] [(1,.box (t.enc.map .c)),(6,.row 1 ((ydb t k).map qC))]) (λk=>t.qE.length-k) (by apply aB<;>simp[yfb]) ?_
 rintro k ⟨hk,hok⟩
 have hkl:=yso hk
 have fin:oC t=false->k=0:=λh1=>by
  rcases zao k with e|e
  .exact e
  .rw[hok (by omega)]at h1;cases h1
 rcases yX1 k t.qE with⟨hlt,b,hb⟩|hge
 .refine yaed hb (fC hlt) ?_;intro hlen;refine aA (jJ t h) ?_;cases h1:oC t with
  |false=>
   have:=fin h1;subst this;refine eP ?_;simp[lG,h1,yfb]
  |true=>
   have h6:=(lK h1).len;refine yaed hb (fC hlt) ?_;refine⟨by omega,gB hlt hlen,k+1,by first|exact⟨hlt,λ_=>h1⟩|exact hlt,by omega,?_⟩;apply aB<;>simp[yqG hb]
 .refine eU (aG hge) ?_;intro _;rw[yqo]
  by_cases h1:oC t=true
  .rw[yuu hge];simp[lG,h1]
  .have:=fin (by simpa using h1);subst this;simp[lG,h1,yfb]
def yx0{t:yRT}(h:oC t=true):(lG t).length<=6:=by
 have:=(lK h).len;simp[lG,h];omega
def yLG{t:yRT}(h:oC t=true):(lG t).Nodup:=by
 have:=(lK h).nd;simp only[lG,h,if_true];exact this
def yT:List yRT->Int->Int:=ybF kT
def aJ:List yRT->Prop:=aW yRT.small
def ygY:ya8 yT aJ:=yeR ycE
def yqO(xs:List yRT)(l:Int)(h0:0<=l)(h1:l<=1048576):qB prg 84 [.c (.sl 2 (xs.map yRT.enc)),.c (.i l)] (.c (.i (yT xs l))):=yYx yr1 ycE yhq xs l h0 h1
def ysk:=yYu yiq ylp
def yvi:=yYv yq8 ylc
structure yR0 where
 Length:Int
 Width:Int
 ySi:Int
 ySj:Int
 Base:Int
 Area:Int
 ySs:Int
 ySn:Int
 Gate:Int
 yRY:List yRT
 deriving DecidableEq,Inhabited
@[simp] def yR0.enc(e:yR0):List C:=[.i e.Length,.i e.Width,.i e.ySi,.i e.ySj,.i e.Base,.i e.Area,.i e.ySs,.i e.ySn,.i e.Gate,.sl 2 (e.yRY.map yRT.enc)]
-- yR0
def yfn(e:yR0)(l:Int):Int:=sO (yT e.yRY l) λl=>l
def yR0.small(e:yR0):Prop:=aJ e.yRY
def ytF:ya8 yfn yR0.small:=by
 intro e l h0 h1;unfold yfn;rcases ygY e.yRY _ h0 h1 with e0|⟨a0,b0,s0⟩
 .exact .inl (oD (by omega))
 rw[xB a0];exact .inr ⟨a0,by omega,s0⟩
def yDT(e:yR0)(l:Int)(h0:0<=l)(h1:l<=1048576):qB prg 306 [.agg (e.enc.map .c),.c (.i l)] (.c (.i (yfn e l))):=by
 refine dB ywx (eP ?_);refine aA (yqO e.yRY _ h0 h1) (eP ?_);refine⟨λh=>by simp[yfn,oD h],λp0=>?_⟩;simp[yfn,xB p0]
def yFC(e:yR0)(hl:yR0.small e):qB prg 323 [.agg (e.enc.map .c)] (.agg (e.enc.map .c)):=by
 refine dB ymh (eP ?_);refine dD (ysk e.yRY hl) ?_;exact goE_
def yHt(a b:yR0):qB prg 332 [.agg (a.enc.map .c),.agg (b.enc.map .c)] (.c (.b (decide (a=b)))):=by
 refine dB ywD ?_;obtain⟨a0,a1,a2,a3,a4,a5,a6,a7,a8,a9⟩:=a;obtain⟨b0,b1,b2,b3,b4,b5,b6,b7,b8,b9⟩:=b;simp -dsimp -implicitDefEqProofs [ylO,yR0.mk.injEq];refine⟨λh=>by simp_all,λh0=>?_⟩;refine⟨λh=>by simp_all,λh1=>?_⟩;refine⟨λh=>by simp_all,λh2=>?_⟩;refine⟨λh=>by simp_all,λh3=>?_⟩;refine⟨λh=>by simp_all,λh4=>?_⟩;refine⟨λh=>by simp_all,λh5=>?_⟩;refine⟨λh=>by simp_all,λh6=>?_⟩;refine⟨λh=>by simp_all,λh7=>?_⟩;refine⟨λh=>by simp_all,λh8=>?_⟩;refine aA (yvi a9 b9) (eP ?_);refine⟨λh=>by simp_all,λh9=>?_⟩
 simp_all
structure ySp where
 ySu:Int
 Open:Int
 Step:Int
 ySy:Int
 Width:Int
 deriving DecidableEq,Inhabited
@[simp] def ySp.enc(e:ySp):List C:=[.i e.ySu,.i e.Open,.i e.Step,.i e.ySy,.i e.Width]
-- ySp
def yAO(e:ySp):qB prg 324 [.agg (e.enc.map .c)] (.agg (e.enc.map .c)):=by
 refine dB yvQ ?_;exact goE_
def yGP(a b:ySp):qB prg 333 [.agg (a.enc.map .c),.agg (b.enc.map .c)] (.c (.b (decide (a=b)))):=by
 refine dB ywL ?_;obtain⟨a0,a1,a2,a3,a4⟩:=a;obtain⟨b0,b1,b2,b3,b4⟩:=b;simp -dsimp -implicitDefEqProofs [ymE,ySp.mk.injEq];refine⟨λh=>by simp_all,λh0=>?_⟩;refine⟨λh=>by simp_all,λh1=>?_⟩;refine⟨λh=>by simp_all,λh2=>?_⟩;refine⟨λh=>by simp_all,λh3=>?_⟩;refine⟨λh=>by simp_all,λh4=>?_⟩
 simp_all
structure Rule where
 Low:Int
 High:Int
 ySx:Int
 deriving DecidableEq,Inhabited
@[simp] def Rule.enc(e:Rule):List C:=[.i e.Low,.i e.High,.i e.ySx]
-- Rule
def yzY(e:Rule):qB prg 325 [.agg (e.enc.map .c)] (.agg (e.enc.map .c)):=by
 refine dB yv6 ?_;exact goE_
def yFF(a b:Rule):qB prg 334 [.agg (a.enc.map .c),.agg (b.enc.map .c)] (.c (.b (decide (a=b)))):=by
 refine dB ywl ?_;obtain⟨a0,a1,a2⟩:=a;obtain⟨b0,b1,b2⟩:=b;simp -dsimp -implicitDefEqProofs [ymc,Rule.mk.injEq];refine⟨λh=>by simp_all,λh0=>?_⟩;refine⟨λh=>by simp_all,λh1=>?_⟩;refine⟨λh=>by simp_all,λh2=>?_⟩
 simp_all
structure ySf where
 From:Int
 Until:Int
 deriving DecidableEq,Inhabited
@[simp] def ySf.enc(e:ySf):List C:=[.i e.From,.i e.Until]
-- ySf
def yxh(e:ySf):qB prg 369 [.agg (e.enc.map .c)] (.agg (e.enc.map .c)):=by
 refine dB yuD ?_;exact goE_
def yD2(a b:ySf):qB prg 373 [.agg (a.enc.map .c),.agg (b.enc.map .c)] (.c (.b (decide (a=b)))):=by
 refine dB ytv ?_;obtain⟨a0,a1⟩:=a;obtain⟨b0,b1⟩:=b;simp -dsimp -implicitDefEqProofs [ykq,ySf.mk.injEq];refine⟨λh=>by simp_all,λh0=>?_⟩;refine⟨λh=>by simp_all,λh1=>?_⟩
 simp_all
-- []ySf
def yfW(xs:List ySf)(l:Int):Int:=szS xs.length l
def ydx:List ySf->Prop:=aW λ_=>True
def ynD:ya8 yfW ydx:=yhd
def yzA(xs:List ySf)(l:Int)(h0:0<=l)(h1:l<=1048576):qB prg 307 [.c (.sl 2 (xs.map ySf.enc)),.c (.i l)] (.c (.i (yfW xs l))):=by
 refine dB yr0 ?_;simp -dsimp[yii,yfW,szS];intro hl;unfold maxLen at hl;refine⟨by unfold inI;omega,λh=>?_,λh=>?_⟩<;>intros<;>omega
def yCh:=yYu yif (sm:=λ_=>True) λe _=>yxh e
def yCI:=yYv yrB yD2
structure Turn where
 Up:Bool
 Count:Int
 deriving DecidableEq,Inhabited
@[simp] def Turn.enc(e:Turn):List C:=[.b e.Up,.i e.Count]
-- Turn
def yAs(e:Turn):qB prg 327 [.agg (e.enc.map .c)] (.agg (e.enc.map .c)):=by
 refine dB yvF ?_;exact goE_
def yGn(a b:Turn):qB prg 336 [.agg (a.enc.map .c),.agg (b.enc.map .c)] (.c (.b (decide (a=b)))):=by
 refine dB ywE ?_;obtain⟨a0,a1⟩:=a;obtain⟨b0,b1⟩:=b;simp -dsimp -implicitDefEqProofs [ymQ,Turn.mk.injEq];refine⟨λh=>by simp_all,λh0=>?_⟩;refine⟨λh=>by simp_all,λh1=>?_⟩
 simp_all
structure yR4 where
 yRT:yRT
 Since:Int
 Booked:Int
 deriving DecidableEq,Inhabited
@[simp] def yR4.enc(e:yR4):List C:=[.b e.yRT.Up,.sl 1 (e.yRT.Rows.map jE),.i e.Since,.i e.Booked]
-- Call
def yaw(e:yR4)(l:Int):Int:=sO (kT e.yRT l) λl=>l
def yR4.small(e:yR4):Prop:=e.yRT.small
def ysp:ya8 yaw yR4.small:=by
 intro e l h0 h1;unfold yaw;rcases ycE e.yRT _ h0 h1 with e0|⟨a0,b0,s0⟩
 .exact .inl (oD (by omega))
 rw[xB a0];exact .inr ⟨a0,by omega,s0⟩
def yEG(e:yR4)(l:Int)(h0:0<=l)(h1:l<=1048576):qB prg 362 [.agg (e.enc.map .c),.c (.i l)] (.c (.i (yaw e l))):=by
 refine dB yvM (eP ?_);refine aA (yhq e.yRT _ h0 h1) (eP ?_);refine⟨λh=>by simp[yaw,oD h],λp0=>?_⟩;simp[yaw,xB p0]
def yHh(e:yR4)(hl:yR4.small e):qB prg 370 [.agg (e.enc.map .c)] (.agg (e.enc.map .c)):=by
 refine dB yl2 (eP ?_);refine dD (ylp e.yRT hl) ?_;exact goE_
def yFO(a b:yR4):qB prg 374 [.agg (a.enc.map .c),.agg (b.enc.map .c)] (.c (.b (decide (a=b)))):=by
 refine dB yvE ?_;obtain⟨a0,a1,a2⟩:=a;obtain⟨b0,b1,b2⟩:=b;simp -dsimp[ymJ,yR4.mk.injEq];refine aA (ylc a0 b0) (eP ?_);refine⟨λh=>by simp_all,λh0=>?_⟩;refine⟨λh=>by simp_all,λh1=>?_⟩;refine⟨λh=>by simp_all,λh2=>?_⟩
 simp_all
-- []Call
def ycC:List yR4->Int->Int:=ybF yaw
def oM:List yR4->Prop:=aW yR4.small
def yAS:ya8 ycC oM:=yeR ysp
def yCR(xs:List yR4)(l:Int)(h0:0<=l)(h1:l<=1048576):qB prg 308 [.c (.sl 4 (xs.map yR4.enc)),.c (.i l)] (.c (.i (ycC xs l))):=yYx ytK ysp yEG xs l h0 h1
def yE9:=yYu yjS yHh
def yEl:=yYv yti yFO
structure yR8 where
 yR0:yR0
 ySp:ySp
 Rule:Rule
 Pauses:List ySf
 Turn:Turn
 Calls:List yR4
 deriving DecidableEq,Inhabited
@[simp] def yR8.enc(e:yR8):List C:=[.i e.yR0.Length,.i e.yR0.Width,.i e.yR0.ySi,.i e.yR0.ySj,.i e.yR0.Base,.i e.yR0.Area,.i e.yR0.ySs,.i e.yR0.ySn,.i e.yR0.Gate,.sl 2 (e.yR0.yRY.map yRT.enc),.i e.ySp.ySu,.i e.ySp.Open,.i e.ySp.Step,.i e.ySp.ySy,.i e.ySp.Width,.i e.Rule.Low,.i e.Rule.High,.i e.Rule.ySx,.sl 2 (e.Pauses.map ySf.enc),.b e.Turn.Up,.i e.Turn.Count,.sl 4 (e.Calls.map yR4.enc)]
-- yR8
def lZ(e:yR8)(l:Int):Int:=sO (yfn e.yR0 l) λl=>sO (yfW e.Pauses l) λl=>sO (ycC e.Calls l) λl=>l
def yR8.small(e:yR8):Prop:=e.yR0.small/\ydx e.Pauses/\oM e.Calls
def ysI:ya8 lZ yR8.small:=by
 intro e l h0 h1;unfold lZ;rcases ytF e.yR0 _ h0 h1 with e0|⟨a0,b0,s0⟩
 .exact .inl (oD (by omega))
 rw[xB a0];rcases ynD e.Pauses _ a0 (by omega)with e1|⟨a1,b1,s1⟩
 .exact .inl (oD (by omega))
 rw[xB a1];rcases yAS e.Calls _ a1 (by omega)with e2|⟨a2,b2,s2⟩
 .exact .inl (oD (by omega))
 rw[xB a2];exact .inr ⟨a2,by omega,s0,s1,s2⟩
def yDW(e:yR8)(l:Int)(h0:0<=l)(h1:l<=1048576):qB prg 202 [.agg (e.enc.map .c),.c (.i l)] (.c (.i (lZ e l))):=by
 refine dB ywm (eP ?_);refine aA (yDT e.yR0 _ h0 h1) (eP ?_);refine⟨λh=>by simp[lZ,oD h],λp0=>?_⟩;have q0:=yiI ytF e.yR0 h0 h1 p0;refine aA (yzA e.Pauses _ p0 q0) (eP ?_);refine⟨λh=>by simp[lZ,xB p0,oD h],λp1=>?_⟩;have q1:=yiI ynD e.Pauses p0 q0 p1;refine aA (yCR e.Calls _ p1 q1) (eP ?_);refine⟨λh=>by simp[lZ,xB p0,xB p1,oD h],λp2=>?_⟩;simp[lZ,xB p0,xB p1,xB p2]
def yGG(e:yR8)(hl:yR8.small e):qB prg 218 [.agg (e.enc.map .c)] (.agg (e.enc.map .c)):=by
 refine dB ymt (eP ?_);refine dD (yFC e.yR0 (hl.1)) (eP ?_);refine dD (yAO e.ySp) (eP ?_);refine dD (yzY e.Rule) (eP ?_);refine dD (yCh e.Pauses (hl.2.1)) (eP ?_);refine dD (yAs e.Turn) (eP ?_);refine dD (yE9 e.Calls (hl.2.2)) ?_;exact goE_
def yGJ(a b:yR8):qB prg 225 [.agg (a.enc.map .c),.agg (b.enc.map .c)] (.c (.b (decide (a=b)))):=by
 refine dB ywd ?_;obtain⟨a0,a1,a2,a3,a4,a5⟩:=a;obtain⟨b0,b1,b2,b3,b4,b5⟩:=b;simp -dsimp[ymG,yR8.mk.injEq];refine aA (yHt a0 b0) (eP ?_);refine⟨λh=>by simp_all,λh0=>?_⟩;refine aA (yGP a1 b1) (eP ?_);refine⟨λh=>by simp_all,λh1=>?_⟩;refine aA (yFF a2 b2) (eP ?_);refine⟨λh=>by simp_all,λh2=>?_⟩;refine aA (yCI a3 b3) (eP ?_);refine⟨λh=>by simp_all,λh3=>?_⟩;refine aA (yGn a4 b4) (eP ?_);refine⟨λh=>by simp_all,λh4=>?_⟩;refine aA (yEl a5 b5) (eP ?_);refine⟨λh=>by simp_all,λh5=>?_⟩
 simp_all
def iZ(w:ySp):Bool:=inRange w.ySu 1 8&&inRange w.Open 0 (10*w.ySu)&&inRange w.Step 1 80&&inRange w.ySy 0 100000&&inRange w.Width 1 1000
def yBa(w:ySp):qB prg 266 [.agg (w.enc.map .c)] (.c (.b (iZ w))):=by
 refine dB ywQ (eP ?_);refine aA (iC w.ySu 1 8) ?_;cases h0:inRange w.ySu 1 8 with
 |false=>simp -dsimp -implicitDefEqProofs;simp[iZ,h0]
 |true=>
 refine eP ?_;refine⟨by have:=aC.1 h0;unfold inI;omega,?_⟩;refine aA (iC w.Open 0 (10*w.ySu)) ?_;cases h1:inRange w.Open 0 (10*w.ySu)with
 |false=>simp -dsimp -implicitDefEqProofs;simp[iZ,h0,h1]
 |true=>
 refine eP ?_;refine aA (iC w.Step 1 80) ?_;cases h2:inRange w.Step 1 80 with
 |false=>simp -dsimp -implicitDefEqProofs;simp[iZ,h0,h1,h2]
 |true=>
 refine eP ?_;refine aA (iC w.ySy 0 100000) ?_;cases h3:inRange w.ySy 0 100000 with
 |false=>simp -dsimp -implicitDefEqProofs;simp[iZ,h0,h1,h2,h3]
 |true=>
 refine eP ?_;refine aA (iC w.Width 1 1000) ?_;cases h4:inRange w.Width 1 1000 with
 |false=>simp -dsimp -implicitDefEqProofs;simp[iZ,h0,h1,h2,h3,h4]
 |true=>
  simp -dsimp -implicitDefEqProofs;simp[iZ,h0,h1,h2,h3,h4]
def yAj(w:ySp):qB prg 295 [.agg (w.enc.map .c)] (.c (.b (iZ w))):=by
 refine dB ywi (eP ?_);refine aA (bC w.ySu 1 8) ?_;cases h0:inRange w.ySu 1 8 with
 |false=>simp -dsimp -implicitDefEqProofs;simp[iZ,h0]
 |true=>
 refine eP ?_;refine⟨by have:=aC.1 h0;unfold inI;omega,?_⟩;refine aA (bC w.Open 0 (10*w.ySu)) ?_;cases h1:inRange w.Open 0 (10*w.ySu)with
 |false=>simp -dsimp -implicitDefEqProofs;simp[iZ,h0,h1]
 |true=>
 refine eP ?_;refine aA (bC w.Step 1 80) ?_;cases h2:inRange w.Step 1 80 with
 |false=>simp -dsimp -implicitDefEqProofs;simp[iZ,h0,h1,h2]
 |true=>
 refine eP ?_;refine aA (bC w.ySy 0 100000) ?_;cases h3:inRange w.ySy 0 100000 with
 |false=>simp -dsimp -implicitDefEqProofs;simp[iZ,h0,h1,h2,h3]
 |true=>
 refine eP ?_;refine aA (bC w.Width 1 1000) ?_;cases h4:inRange w.Width 1 1000 with
 |false=>simp -dsimp -implicitDefEqProofs;simp[iZ,h0,h1,h2,h3,h4]
 |true=>
  simp -dsimp -implicitDefEqProofs;simp[iZ,h0,h1,h2,h3,h4]
def ya3(r:Rule):Bool:=inRange r.Low 0 100000&&inRange r.High 0 100000&&inRange r.ySx 0 100000&&decide (r.Low<r.High)&&decide (r.High<=r.ySx)
def yAx(r:Rule):qB prg 267 [.agg (r.enc.map .c)] (.c (.b (ya3 r))):=by
 refine dB yvs (eP ?_);refine aA (iC r.Low 0 100000) ?_;cases h0:inRange r.Low 0 100000 with
 |false=>simp -dsimp -implicitDefEqProofs;simp[ya3,h0]
 |true=>
 refine eP ?_;refine aA (iC r.High 0 100000) ?_;cases h1:inRange r.High 0 100000 with
 |false=>simp -dsimp -implicitDefEqProofs;simp[ya3,h0,h1]
 |true=>
 refine eP ?_;refine aA (iC r.ySx 0 100000) ?_;cases h2:inRange r.ySx 0 100000 with
 |false=>simp -dsimp -implicitDefEqProofs;simp[ya3,h0,h1,h2]
 |true=>
 refine eP ?_;simp[ya3,h0,h1,h2];exact⟨λh _=>h,λa b=>by omega⟩
def yzE(r:Rule):qB prg 296 [.agg (r.enc.map .c)] (.c (.b (ya3 r))):=by
 refine dB yvW (eP ?_);refine aA (yaJ r.Low) ?_;cases h0:inRange r.Low 0 100000 with
 |false=>simp -dsimp -implicitDefEqProofs;simp[ya3,h0]
 |true=>
 refine eP ?_;refine aA (yaJ r.High) ?_;cases h1:inRange r.High 0 100000 with
 |false=>simp -dsimp -implicitDefEqProofs;simp[ya3,h0,h1]
 |true=>
 refine eP ?_;refine aA (yaJ r.ySx) ?_;cases h2:inRange r.ySx 0 100000 with
 |false=>simp -dsimp -implicitDefEqProofs;simp[ya3,h0,h1,h2]
 |true=>
 refine eP ?_;simp[ya3,h0,h1,h2];exact⟨λh _=>h,λa b=>by omega⟩
def ybY(t:Turn):Bool:=inRange t.Count 0 1000000
def yjQ(t:Turn):qB prg 345 [.agg (t.enc.map .c)] (.c (.b (ybY t))):=by
 refine dB ywN (eP ?_);refine aA (iC t.Count 0 1000000) (eP ?_)
 try rfl
def yjN(t:Turn):qB prg 312 [.agg (t.enc.map .c)] (.c (.b (ybY t))):=by
 refine dB ywr (eP ?_);refine aA (bC t.Count 0 1000000) (eP ?_)
 try rfl
def jO(c:yR4):Bool:=oC c.yRT&&inRange c.Since 0 1000000&&inRange c.Booked (-1) 1000000
def yqV(c:yR4)(h:c.small):qB prg 346 [.agg (c.enc.map .c)] (.c (.b (jO c))):=by
 refine dB yvI (eP ?_);refine aA (gK c.yRT h) ?_;cases h0:oC c.yRT with
 |false=>simp -dsimp;simp[jO,h0]
 |true=>
 refine eP ?_;refine aA (iC c.Since 0 1000000) ?_;cases h1:inRange c.Since 0 1000000 with
 |false=>simp -dsimp;simp[jO,h0,h1]
 |true=>
 refine eP ?_;refine aA (iC c.Booked (-1) 1000000) ?_;cases h2:inRange c.Booked (-1) 1000000 with
 |false=>simp -dsimp;simp[jO,h0,h1,h2]
 |true=>
  simp -dsimp;simp[jO,h0,h1,h2]
def yqK(c:yR4)(h:c.small):qB prg 342 [.agg (c.enc.map .c)] (.c (.b (jO c))):=by
 refine dB ywC (eP ?_);refine aA (jJ c.yRT h) ?_;cases h0:oC c.yRT with
 |false=>simp -dsimp;simp[jO,h0]
 |true=>
 refine eP ?_;refine aA (bC c.Since 0 1000000) ?_;cases h1:inRange c.Since 0 1000000 with
 |false=>simp -dsimp;simp[jO,h0,h1]
 |true=>
 refine eP ?_;refine aA (bC c.Booked (-1) 1000000) ?_;cases h2:inRange c.Booked (-1) 1000000 with
 |false=>simp -dsimp;simp[jO,h0,h1,h2]
 |true=>
  simp -dsimp;simp[jO,h0,h1,h2]
def eY(b:Int)(p:ySf):Bool:=!decide (p.From<b)&& !decide (p.Until<=p.From)&& !decide (1000000<p.Until)
def jR:Int->List ySf->Bool
 |_,[]=>true
 |b,p::l=>eY b p&&jR p.Until l
def xO(l:List ySf):Bool:=decide (l.length<=8)&&jR 0 l
def yqM{l:List ySf}{k:Nat}{p:ySf}{b:Int}(h:l[k]?=some p):jR b (l.drop k)=(eY b p&&jR p.Until (l.drop (k+1))):=by
 have hlt:=(zaa.1 h).1;rw[zay hlt,(zaa.1 h).2];rfl
def ymM(l:List ySf):qB prg 344 [.c (.sl 2 (l.map ySf.enc))] (.c (.b (xO l))):=by
 refine dB yrY (eP ?_);intro hlen;refine⟨λh8=>(by simp[xO];omega),λh8=>?_⟩
 refineλ_=>qA (ι:=Nat×Int) (λq=>q.1<=l.length/\jR q.2 (l.drop q.1)=jR 0 l) (λq=>xC [(3,.c (.i q.2)),(9,.c (.sl 2 (l.map ySf.enc))),(10,.c (.i l.length)),(11,.c (.i q.1))] []) (λq=>l.length-q.1) (0,0) (by simp) (by apply aB<;>simp) ?_
 rintro⟨k,b⟩ ⟨hk,hf⟩
 simp only at hk hf;rcases yX1 k l with⟨hlt,p,hp⟩|hge
 .rw[yqM hp]at hf;have bad:eY b p=false->xO l=false:=λe=>by rw[e,zbH]at hf;simp[xO,<-hf]
  refine yaed hp (fC hlt) ?_;refine⟨λh1=>?_,λh1=>(bad (by simp[eY];omega))⟩;refine⟨λh2=>?_,λh2=>(bad (by simp[eY];omega))⟩;refine⟨λh3=>(bad (by simp[eY];omega)),λh3=>?_⟩;have hok:eY b p=true:=by simp[eY];omega
  rw[hok,zco]at hf;exact⟨gB hlt hlen,k+1,p.Until,⟨hlt,hf⟩,by omega,by apply aB<;>simp⟩
 .refine eU (aG hge) ?_;rw[zaZ hge]at hf;have h8':l.length<=8:=by omega
  simp[xO,h8',<-hf,jR]
def ylL(l:List ySf):qB prg 129 [.c (.sl 2 (l.map ySf.enc))] (.c (.b (xO l))):=by
 refine dB yr5 (eP ?_);refine qA (ι:=Nat×Int) (λq=>q.1<=l.length/\jR q.2 (l.drop q.1)=jR 0 l) (λq=>xC [(0,.c (.sl 2 (l.map ySf.enc))),(3,.c (.i q.2)),(4,.c (.i q.1))] []) (λq=>l.length-q.1) (0,0) (by simp) (by apply aB<;>simp) ?_
 rintro⟨k,b⟩ ⟨hk,hf⟩
 simp only at hk hf;rcases yX1 k l with⟨hlt,p,hp⟩|hge
 .rw[yqM hp]at hf;have bad:eY b p=false->xO l=false:=λe=>by rw[e,zbH]at hf;simp[xO,<-hf]
  refine yaed hp (fC hlt) ?_;intro hlen;refine⟨λh1=>?_,λh1=>(bad (by simp[eY];omega))⟩;refine⟨λh2=>?_,λh2=>(bad (by simp[eY];omega))⟩;refine⟨λh3=>(bad (by simp[eY];omega)),λh3=>?_⟩;have hok:eY b p=true:=by simp[eY];omega
  rw[hok,zco]at hf;exact⟨gB hlt hlen,k+1,p.Until,⟨hlt,hf⟩,by omega,by apply aB<;>simp⟩
 .refine eU (aG hge) ?_;rw[zaZ hge]at hf;simp[xO,<-hf,jR]
  try omega
def bJ(l:List yRT)(k:Nat):List Int:=(l.take k).flatMap lG
def seenAt(l:List yRT)(k:Nat)(t:yRT)(j:Nat):List Int:=bJ l k++(lG t).take j
def Distinct(l:List yRT):Bool:=decide (l.length<=8)&&l.all oC&&decide ((l.flatMap lG).Nodup)
def ydt{l:List yRT}:bJ l 0=[]:=rfl
def ydz{l:List yRT}{k:Nat}{t:yRT}(h:l[k]?=some t):bJ l (k+1)=bJ l k++lG t:=by
 unfold bJ;rw[zar,h,zdy];simp
def yqq{l:List yRT}{k:Nat}(h:l.length<=k):bJ l k=l.flatMap lG:=by
 unfold bJ;rw[List.take_of_length_le h]
def yvK{l:List yRT}{k:Nat}{t:yRT}(h:l[k]?=some t):∃m,l.flatMap lG=bJ l k++lG t++m:=by
 refine⟨(l.drop (k+1)).flatMap lG,?_⟩;rw[<-ydz h];unfold bJ;rw[<-zdy,zax]
def yqv{l:List yRT}{k:Nat}{t:yRT}:seenAt l k t 0=bJ l k:=by simp[seenAt]
def yqw{l:List yRT}{k j:Nat}{t:yRT}{x:Int}(h:(lG t)[j]?=some x):seenAt l k t (j+1)=seenAt l k t j++[x]:=by
 unfold seenAt;rw[zar,h];simp
def yuJ{l:List yRT}{k j:Nat}{t:yRT}(ht:l[k]?=some t)(h:(lG t).length<=j):seenAt l k t j=bJ l (k+1):=by
 unfold seenAt;rw[List.take_of_length_le h,ydz ht]
def yq4{l:List yRT}(k:Nat)(h:∀t∈l.take k,oC t=true):(bJ l k).length<=6*k:=by
 have key:∀(m:List yRT),(∀t∈m,oC t=true)->(m.flatMap lG).length<=6*m.length:=by
  intro m
  induction m with
  |nil=>simp
  |cons t m ih=>
   intro hm;have h1:=yx0 (hm t (by simp));have h2:=ih λx hx=>hm x (by simp[hx]);simp only[zcn,zak,zaJ];omega
 have:=key (l.take k) h;have h2:(l.take k).length<=k:=by rw[zaz];omega
 unfold bJ;omega
def twice{l:List yRT}{k j:Nat}{t:yRT}{x:Int}(ht:l[k]?=some t)(hx:(lG t)[j]?=some x)(hm:x∈seenAt l k t j):Distinct l=false:=by
 have:¬(l.flatMap lG).Nodup:=by
  intro hn;obtain⟨m,e⟩:=yvK ht;have hlt:=(zaa.1 hx).1
  have e2:lG t=(lG t).take j++x::(lG t).drop (j+1):=by
   conv=>lhs;rw[<-zax j (lG t)]
   rw[zay hlt,(zaa.1 hx).2]
  have e3:l.flatMap lG=seenAt l k t j++x::((lG t).drop (j+1)++m):=by
   rw[e];unfold seenAt;conv=>lhs;rw[e2]
   simp
  rw[e3]at hn;exact(zba.1 hn).2.2 x hm x (by simp) rfl
 simp[Distinct,this]
def yp8{l:List yRT}{k:Nat}{t:yRT}(ht:l[k]?=some t)(h:oC t=false):Distinct l=false:=by
 have:l.all oC=false:=all_false (p:=oC) ht h;simp only[Distinct,this,zbp,zbH]
def yfU(l:List yRT)(hs:aJ l):qB prg 376 [.c (.sl 2 (l.map yRT.enc))] (.c (.b (Distinct l))):=by
 refine dB yi1 (eP ?_);intro hlen;refine⟨λh8=>(by simp[Distinct];omega),λh8=>?_⟩;intro _;refine jX (k0:=1) 3 1 (by simp) (by simp) (by decide) ?_;refine qA (ι:=Nat) (λk=>k<=l.length/\(∀t∈l.take k,oC t=true)/\(bJ l k).Nodup) (λk=>xC [(3,.own 3 1 (bJ l k).length),(11,.c (.sl 2 (l.map yRT.enc))),(12,.c (.i l.length)),(13,.c (.i k))] [(3,.row 1 ((bJ l k).map qC))]) (λk=>l.length-k) 0 (by simp[ydt]) (by apply aB<;>simp[ydt]) ?_
 rintro k ⟨hk,hall,hnd⟩
 rcases yX1 k l with⟨hlt,t,ht⟩|hge
 .have hts:=hs.2 t (zac ht);refine yaed ht (fC hlt) ?_;refine aA (gK t hts) ?_;cases h1:oC t with
  |false=>refine eP ?_;exact yp8 ht h1
  | true=>
   have hall':=lD (p:=oC) ht hall h1;have hil:=yx0 h1;have hul:=yq4 k hall;refine eP ?_;refine dD (ya0 t hts) (eP ?_);intro _;refine qA (ι:=Nat) (λj=>j<=(lG t).length/\(seenAt l k t j).Nodup) (λj=>xC [(3,.own 3 1 (seenAt l k t j).length),(11,.c (.sl 2 (l.map yRT.enc))),(12,.c (.i l.length)),(13,.c (.i k)),(21,.c (.sl 1 ((lG t).map qC))),(22,.c (.i (lG t).length)),(23,.c (.i j))] [(3,.row 1 ((seenAt l k t j).map qC))]) (λj=>(lG t).length-j) 0 ⟨by simp,by rw[yqv];exact hnd⟩ (by apply aB<;>simp[yqv]) ?_
   rintro j ⟨hj,hnj⟩
   have hsl:(seenAt l k t j).length<=60:=by unfold seenAt;rw[zak,zaz];omega
   rcases zan j (lG t).length with hlt2|hge2
   .obtain⟨x,hx⟩:∃x,(lG t)[j]?=some x:=⟨_,zab hlt2⟩;refine yaed hx (fC hlt2) ?_;refine mD (yu4 (seenAt l k t j) x) (by simp[yqo]) rfl (eP ?_);refine⟨λh2=>(twice ht hx h2),λh2=>?_⟩
    have hn2:(seenAt l k t (j+1)).Nodup:=by
     rw[yqw hx];exact zba.2 ⟨hnj,by simp,λa ha b hb e=>by simp at hb;subst hb;subst e;exact h2 ha⟩
    refine⟨by omega,by unfold inI;omega,j+1,⟨hlt2,hn2⟩,by omega,?_⟩;apply aB<;>simp[yqw hx]
   .refine eU (aG hge2) ?_;rw[yuJ ht hge2]at hnj;refine⟨by unfold inI;omega,k+1,⟨hlt,hall',hnj⟩,by omega,?_⟩;apply aB<;>simp[yuJ ht hge2]
 .refine eU (aG hge) ?_;rw[yqq hge]at hnd;have h1:=dF (p:=oC) hge hall;have h8':l.length<=8:=by omega
  simp[Distinct,h1,hnd,h8']
def yju(l:List yRT)(hs:aJ l)(h8:l.length<=8)(hok:∀t∈l,oC t=true):qB prg 366 [.c (.sl 2 (l.map yRT.enc))] (.c (.b (decide ((l.flatMap lG).Nodup)))):=by
 refine dB ylD ?_
 have fin:Distinct l=false->decide ((l.flatMap lG).Nodup)=false:=by
  intro h;have h1:l.all oC=true:=zaf.2 hok;simpa[Distinct,h1,h8]using h
 refine eP ?_;refine qA (ι:=Nat) (λk=>k<=l.length/\(bJ l k).Nodup) (λk=>xC [(0,.c (.sl 2 (l.map yRT.enc))),(3,.own 8 1 (bJ l k).length),(4,.c (.i k))] [(8,.row 1 ((bJ l k).map qC))]) (λk=>l.length-k) 0 (by simp[ydt]) (by apply aB<;>simp[ydt]) ?_
 rintro k ⟨hk,hnd⟩
 rcases yX1 k l with⟨hlt,t,ht⟩|hge
 .have hts:=hs.2 t (zac ht);have h1:=hok t (zac ht);have hil:=yx0 h1;have hul:=yq4 (l:=l) k (λt ht=>hok t (zav ht));refine yaed ht (fC hlt) ?_;intro hlen;refine dD (yaG t hts) (eP ?_);refine yX4 (λi=>i<=(lG t).length/\∀x∈(lG t).take i,x∉bJ l k) (λi=>xC [(0,.c (.sl 2 (l.map yRT.enc))),(3,.own 8 1 (bJ l k).length),(4,.c (.i k)),(5,.c (.sl 1 ((lG t).map qC))),(6,.c (.i i))] [(8,.row 1 ((bJ l k).map qC))]) (λi=>(lG t).length-i) ?_
  rintro i ⟨hi,hni⟩
  rcases zan i (lG t).length with hlt2|hge2
  .obtain⟨x,hx⟩:∃x,(lG t)[i]?=some x:=⟨_,zab hlt2⟩;refine eU (fC hlt2) ?_;intro _;refine yX4 (λj=>j<=(bJ l k).length/\∀y∈(bJ l k).take j,y≠x) (λj=>xC [(0,.c (.sl 2 (l.map yRT.enc))),(3,.own 8 1 (bJ l k).length),(4,.c (.i k)),(5,.c (.sl 1 ((lG t).map qC))),(6,.c (.i i)),(7,.c (.i j))] [(8,.row 1 ((bJ l k).map qC))]) (λj=>(bJ l k).length-j) ?_
   rintro j ⟨hj,hnj⟩
   rcases zan j (bJ l k).length with hlt3|hge3
   .obtain⟨y,hy⟩:∃y,(bJ l k)[j]?=some y:=⟨_,zab hlt3⟩
    have bad:y=x->¬(l.flatMap lG).Nodup:=λe=>by
     have:=fin (twice ht hx (by unfold seenAt;rw[<-e];exact zbs _ (zac hy)));simpa using this
    generalize bJ l k=u at *;have g1:=(zaa.1 hy).2;refine yafq hx (fC hlt2) hy g1 (fC hlt3) hlt3 ?_;intro _;refine⟨λh2=>(bad h2),λh2=>?_⟩;refine⟨by unfold inI;omega,j+1,⟨hlt3,?_⟩,by omega,?_⟩
    .rw[zar,hy];intro z hz;rcases zaq.1 hz with hz|hz
     .exact hnj z hz
     .simp at hz;subst hz;exact h2
    .apply aB<;>simp
   .rw[List.take_of_length_le hge3]at hnj;refine eU (aG hge3) ?_;intro _;refine⟨by unfold inI;omega,i+1,⟨hlt2,?_⟩,by omega,by apply aB<;>simp⟩;rw[zar,hx];intro z hz;rcases zaq.1 hz with hz|hz
    .exact hni z hz
    .simp at hz;subst hz;exactλhm=>hnj _ hm rfl
  .rw[List.take_of_length_le hge2]at hni;refine eU (aG hge2) ?_
   have hnd2:(bJ l (k+1)).Nodup:=by
    rw[ydz ht];exact zba.2 ⟨hnd,yLG h1,λa ha b hb e=>hni b hb (e▸ha)⟩
   refineλ_=>⟨by omega,by unfold inI;omega,k+1,⟨hlt,hnd2⟩,by omega,?_⟩
   apply aB<;>simp[ydz ht]
 .refine eU (aG hge) ?_;rw[yqq hge]at hnd;simp[hnd]
def yzy(l:List yRT)(hs:aJ l):qB prg 367 [.c (.sl 2 (l.map yRT.enc))] (.c (.b (Distinct l))):=by
 refine dB ypB (eP ?_);refine yX4 (λk=>k<=l.length/\(∀t∈l.take k,oC t=true)/\(k≠0->l.length<=8)) (λk=>xC [(0,.c (.sl 2 (l.map yRT.enc))),(3,.c (.i k))] []) (λk=>l.length-k) ?_
 rintro k ⟨hk,hall,h8⟩
 rcases yX1 k l with⟨hlt,t,ht⟩|hge
 .have hts:=hs.2 t (zac ht);refine yaed ht (fC hlt) ?_;intro hlen;refine aA (jJ t hts) ?_;cases h1:oC t with
  |false=>refine eP ?_;exact yp8 ht h1
  |true=>
   have hall':=lD (p:=oC) ht hall h1;refine eP ?_;intro _;refine⟨λh9=>(by simp[Distinct];omega),λh9=>?_⟩;have h9':l.length<=8:=by omega
   exact⟨gB hlt hlen,k+1,⟨hlt,hall',λ_=>h9'⟩,by omega,by apply aB<;>simp⟩
 .have h1:=dF (p:=oC) hge hall
  have h8':l.length<=8:=by
   rcases zao k with e|e
   .omega
   .exact h8 (by omega)
  refine eU (aG hge) ?_;intro _;refine aA (yju l hs h8' (zaf.1 h1)) (eP ?_);simp[Distinct,h1,h8']
def lF(k:yR0):Bool:=inRange k.Length 1 1000&&inRange k.Width 1 100&&inRange k.ySi 0 100000&&inRange k.ySj 0 100000&&inRange k.Base 0 100000&&inRange k.Area 1 10000&&inRange k.ySs 1 100000&&inRange k.ySn 0 1000000000&&inRange k.Gate 0 2&&Distinct k.yRY
def pX(k:yR0)(h:k.small):qB prg 343 [.agg (k.enc.map .c)] (.c (.b (lF k))):=by
 refine dB ywo (eP ?_);refine aA (iC k.Length 1 1000) ?_;cases h0:inRange k.Length 1 1000 with
 |false=>simp -dsimp -implicitDefEqProofs;simp[lF,h0]
 |true=>
 refine eP ?_;refine aA (iC k.Width 1 100) ?_;cases h1:inRange k.Width 1 100 with
 |false=>simp -dsimp -implicitDefEqProofs;simp[lF,h0,h1]
 |true=>
 refine eP ?_;refine aA (iC k.ySi 0 100000) ?_;cases h2:inRange k.ySi 0 100000 with
 |false=>simp -dsimp -implicitDefEqProofs;simp[lF,h0,h1,h2]
 |true=>
 refine eP ?_;refine aA (iC k.ySj 0 100000) ?_;cases h3:inRange k.ySj 0 100000 with
 |false=>simp -dsimp -implicitDefEqProofs;simp[lF,h0,h1,h2,h3]
 |true=>
 refine eP ?_;refine aA (iC k.Base 0 100000) ?_;cases h4:inRange k.Base 0 100000 with
 |false=>simp -dsimp -implicitDefEqProofs;simp[lF,h0,h1,h2,h3,h4]
 |true=>
 refine eP ?_;refine aA (iC k.Area 1 10000) ?_;cases h5:inRange k.Area 1 10000 with
 |false=>simp -dsimp -implicitDefEqProofs;simp[lF,h0,h1,h2,h3,h4,h5]
 |true=>
 refine eP ?_;refine aA (iC k.ySs 1 100000) ?_;cases h6:inRange k.ySs 1 100000 with
 |false=>simp -dsimp -implicitDefEqProofs;simp[lF,h0,h1,h2,h3,h4,h5,h6]
 |true=>
 refine eP ?_;refine aA (iC k.ySn 0 1000000000) ?_;cases h7:inRange k.ySn 0 1000000000 with
 |false=>simp -dsimp -implicitDefEqProofs;simp[lF,h0,h1,h2,h3,h4,h5,h6,h7]
 |true=>
 refine eP ?_;refine aA (iC k.Gate 0 2) ?_;cases h8:inRange k.Gate 0 2 with
 |false=>simp -dsimp -implicitDefEqProofs;simp[lF,h0,h1,h2,h3,h4,h5,h6,h7,h8]
 |true=>
 refine eP ?_;refine aA (yfU k.yRY h) ?_;cases h9:Distinct k.yRY with
 |false=>simp -dsimp -implicitDefEqProofs;simp[lF,h0,h1,h2,h3,h4,h5,h6,h7,h8,h9]
 |true=>
  simp -dsimp -implicitDefEqProofs;simp[lF,h0,h1,h2,h3,h4,h5,h6,h7,h8,h9]
def dV(k:yR0)(h:k.small):qB prg 315 [.agg (k.enc.map .c)] (.c (.b (lF k))):=by
 refine dB ywF (eP ?_);refine aA (bC k.Length 1 1000) ?_;cases h0:inRange k.Length 1 1000 with
 |false=>simp -dsimp -implicitDefEqProofs;simp[lF,h0]
 |true=>
 refine eP ?_;refine aA (bC k.Width 1 100) ?_;cases h1:inRange k.Width 1 100 with
 |false=>simp -dsimp -implicitDefEqProofs;simp[lF,h0,h1]
 |true=>
 refine eP ?_;refine aA (yaJ k.ySi) ?_;cases h2:inRange k.ySi 0 100000 with
 |false=>simp -dsimp -implicitDefEqProofs;simp[lF,h0,h1,h2]
 |true=>
 refine eP ?_;refine aA (yaJ k.ySj) ?_;cases h3:inRange k.ySj 0 100000 with
 |false=>simp -dsimp -implicitDefEqProofs;simp[lF,h0,h1,h2,h3]
 |true=>
 refine eP ?_;refine aA (yaJ k.Base) ?_;cases h4:inRange k.Base 0 100000 with
 |false=>simp -dsimp -implicitDefEqProofs;simp[lF,h0,h1,h2,h3,h4]
 |true=>
 refine eP ?_;refine aA (bC k.Area 1 10000) ?_;cases h5:inRange k.Area 1 10000 with
 |false=>simp -dsimp -implicitDefEqProofs;simp[lF,h0,h1,h2,h3,h4,h5]
 |true=>
 refine eP ?_;refine aA (bC k.ySs 1 100000) ?_;cases h6:inRange k.ySs 1 100000 with
 |false=>simp -dsimp -implicitDefEqProofs;simp[lF,h0,h1,h2,h3,h4,h5,h6]
 |true=>
 refine eP ?_;refine aA (bC k.ySn 0 1000000000) ?_;cases h7:inRange k.ySn 0 1000000000 with
 |false=>simp -dsimp -implicitDefEqProofs;simp[lF,h0,h1,h2,h3,h4,h5,h6,h7]
 |true=>
 refine eP ?_;refine aA (bC k.Gate 0 2) ?_;cases h8:inRange k.Gate 0 2 with
 |false=>simp -dsimp -implicitDefEqProofs;simp[lF,h0,h1,h2,h3,h4,h5,h6,h7,h8]
 |true=>
 refine eP ?_;refine aA (yzy k.yRY h) ?_;cases h9:Distinct k.yRY with
 |false=>simp -dsimp -implicitDefEqProofs;simp[lF,h0,h1,h2,h3,h4,h5,h6,h7,h8,h9]
 |true=>
  simp -dsimp -implicitDefEqProofs;simp[lF,h0,h1,h2,h3,h4,h5,h6,h7,h8,h9]
def fJ(w:yR8):Bool:=lF w.yR0&&iZ w.ySp&&ya3 w.Rule&&xO w.Pauses&&ybY w.Turn&&decide (w.Calls.length<=24)&&w.Calls.all jO
def wk1{w:yR8}(h:lF w.yR0=false):fJ w=false:=by simp[fJ,h]
def wk2{w:yR8}(h:iZ w.ySp=false):fJ w=false:=by simp[fJ,h]
def wk3{w:yR8}(h:ya3 w.Rule=false):fJ w=false:=by simp[fJ,h]
def wk4{w:yR8}(h:xO w.Pauses=false):fJ w=false:=by simp[fJ,h]
def wk5{w:yR8}(h:ybY w.Turn=false):fJ w=false:=by simp[fJ,h]
def wk6{w:yR8}(h:24<w.Calls.length):fJ w=false:=by
 have:¬w.Calls.length<=24:=by omega
 simp[fJ,this]
def wk7{w:yR8}{k:Nat}{c:yR4}(hc:w.Calls[k]?=some c)(h:jO c=false):fJ w=false:=by
 have:w.Calls.all jO=false:=all_false (p:=jO) hc h;simp only[fJ,this,zbp]
def yAQ(w:yR8)(hs:w.small):qB prg 248 [.agg (w.enc.map .c)] (.c (.b (fJ w))):=by
 refine dB yvC (eP ?_);refine aA (pX w.yR0 hs.1) ?_;cases h1:lF w.yR0 with
 |false=>refine eP ?_;exact wk1 h1
 |true=>
 refine eP ?_;refine aA (yBa w.ySp) ?_;cases h2:iZ w.ySp with
 |false=>refine eP ?_;exact wk2 h2
 |true=>
 refine eP ?_;refine aA (yAx w.Rule) ?_;cases h3:ya3 w.Rule with
 |false=>refine eP ?_;exact wk3 h3
 |true=>
 refine eP ?_;refine aA (ymM w.Pauses) ?_;cases h4:xO w.Pauses with
 |false=>refine eP ?_;exact wk4 h4
 |true=>
 refine eP ?_;refine aA (yjQ w.Turn) ?_;cases h5:ybY w.Turn with
 |false=>refine eP ?_;exact wk5 h5
 |true=>
 refine eP ?_;intro hlen;refine⟨λh6=>(wk6 (by omega)),λh6=>?_⟩
 refineλ_=>qA (ι:=Nat) (λk=>k<=w.Calls.length/\∀c∈w.Calls.take k,jO c=true) (λk=>xC [(38,.c (.sl 4 (w.Calls.map yR4.enc))),(39,.c (.i w.Calls.length)),(40,.c (.i k))] []) (λk=>w.Calls.length-k) 0 (by simp) (by apply aB<;>simp) ?_
 rintro k ⟨hk,hall⟩
 rcases yX1 k w.Calls with⟨hlt,c,hc⟩|hge
 .refine yaed hc (fC hlt) ?_;refine aA (yqV c (hs.2.2.2 c (zac hc))) ?_;cases h7:jO c with
  |false=>refine eP ?_;exact wk7 hc h7
  |true=>
   refine eP ?_;exact⟨gB hlt hlen,k+1,⟨hlt,lD (p:=jO) hc hall h7⟩,by omega,by apply aB<;>simp⟩
 .refine eU (aG hge) ?_;have h7:=dF (p:=jO) hge hall;have h6':w.Calls.length<=24:=by omega
  simp[fJ,h1,h2,h3,h4,h5,h6',h7]
def yA1(w:yR8)(hs:w.small):qB prg 243 [.agg (w.enc.map .c)] (.c (.b (fJ w))):=by
 refine dB yvV (eP ?_);refine yX4 (λk=>k<=w.Calls.length/\∀c∈w.Calls.take k,jO c=true) (λk=>xC [(1,.box 1 0),(3,.c (.i k))] [(1,.box (w.enc.map .c))]) (λk=>w.Calls.length-k) ?_
 rintro k ⟨hk,hall⟩
 rcases yX1 k w.Calls with⟨hlt,c,hc⟩|hge
 .refine yaed hc (fC hlt) ?_;intro hlen;refine aA (yqK c (hs.2.2.2 c (zac hc))) ?_;cases h7:jO c with
  |false=>refine eP ?_;exact wk7 hc h7
  |true=>
   refine eP ?_;exact⟨gB hlt hlen,k+1,⟨hlt,lD (p:=jO) hc hall h7⟩,by omega,by apply aB<;>simp⟩
 .refine eU (aG hge) ?_;have h7:=dF (p:=jO) hge hall;intro _;refine⟨λh6=>?_,λh6=>(wk6 (by omega))⟩;have h6':w.Calls.length<=24:=by omega
  refine aA (dV w.yR0 hs.1) ?_;cases h1:lF w.yR0 with
  |false=>refine eP ?_;exact wk1 h1
  |true=>
  refine eP ?_;refine aA (yAj w.ySp) ?_;cases h2:iZ w.ySp with
  |false=>refine eP ?_;exact wk2 h2
  |true=>
  refine eP ?_;refine aA (yzE w.Rule) ?_;cases h3:ya3 w.Rule with
  |false=>refine eP ?_;exact wk3 h3
  |true=>
  refine eP ?_;refine aA (ylL w.Pauses) ?_;cases h4:xO w.Pauses with
  |false=>refine eP ?_;exact wk4 h4
  |true=>
  refine eP ?_;refine aA (yjN w.Turn) (eP ?_);simp[fJ,h1,h2,h3,h4,h6',h7]
def ygS(xs:List ySb)(l:Int):Int:=szS xs.length l
def yot:List ySb->Prop:=aW λ_=>True
def yod:ya8 ygS yot:=yhd
def yz1(xs:List ySb)(l:Int)(h0:0<=l)(h1:l<=1048576):qB prg 87 [.c (.sl 5 (xs.map ySb.enc)),.c (.i l)] (.c (.i (ygS xs l))):=by
 refine dB yrE ?_;simp -dsimp[yiJ,ygS,szS];intro hl;unfold maxLen at hl;refine⟨by unfold inI;omega,λh=>?_,λh=>?_⟩<;>intros<;>omega
def yIc(a b:Way):qB prg 224 [.agg (a.enc.map .c),.agg (b.enc.map .c)] (.c (.b (decide (a=b)))):=by
 refine dB yxG ?_;obtain⟨a0,a1⟩:=a;obtain⟨b0,b1⟩:=b;simp -dsimp -implicitDefEqProofs [ynz,Way.mk.injEq];refine⟨λh=>by simp_all,λh0=>?_⟩;refine⟨λh=>by simp_all,λh1=>?_⟩
 simp_all
-- []Reach
def yaY:List Reach->Int->Int:=ybF rW
def ybv:List Reach->Prop:=aW Reach.small
def ynQ:ya8 yaY ybv:=yeR yq2
def yzW(xs:List Reach)(l:Int)(h0:0<=l)(h1:l<=1048576):qB prg 80 [.c (.sl 3 (xs.map Reach.enc)),.c (.i l)] (.c (.i (yaY xs l))):=yYx yrR yq2 yB2 xs l h0 h1
def yBo:=yYu yit yEX
def yBv:=yYv yrx yEx
-- []Way
def yov(xs:List Way)(l:Int):Int:=szS xs.length l
def yhE:List Way->Prop:=aW λ_=>True
def ysN:ya8 yov yhE:=yhd
def yFf(xs:List Way)(l:Int)(h0:0<=l)(h1:l<=1048576):qB prg 81 [.c (.sl 2 (xs.map Way.enc)),.c (.i l)] (.c (.i (yov xs l))):=by
 refine dB ywu ?_;simp -dsimp[ylK,yov,szS];intro hl;unfold maxLen at hl;refine⟨by unfold inI;omega,λh=>?_,λh=>?_⟩<;>intros<;>omega
def yGr:=yYu yl3 (sm:=λ_=>True) λe _=>yDF e
def yGI:=yYv ywa yIc
-- []yR8
def ycs:List yR8->Int->Int:=ybF lZ
def ycw:List yR8->Prop:=aW yR8.small
def yq5:ya8 ycs ycw:=yeR ysI
def yB0(xs:List yR8)(l:Int)(h0:0<=l)(h1:l<=1048576):qB prg 82 [.c (.sl 22 (xs.map yR8.enc)),.c (.i l)] (.c (.i (ycs xs l))):=yYx yuY ysI yDW xs l h0 h1
def yEa:=yYu ykA yGG
def yEm:=yYv ytR yGJ
-- []yR6
def sU:List yR6->Int->Int:=ybF qY
def ydp:List yR6->Prop:=aW yR6.small
def yor:ya8 sU ydp:=yeR yqP
def yA8(xs:List yR6)(l:Int)(h0:0<=l)(h1:l<=1048576):qB prg 203 [.c (.sl 3 (xs.map yR6.enc)),.c (.i l)] (.c (.i (sU xs l))):=yYx yrb yqP yCD xs l h0 h1
def yCE:=yYu yih yEA
def yCq:=yYv yre yFh
abbrev nD(xs:List yR6):List C:=[.sl 3 (xs.map yR6.enc)]
-- [][]yR6
def yB:List (List yR6)->Int->Int:=ybF sU
def yck:List (List yR6)->Prop:=aW ydp
def ylQ:ya8 yB yck:=yeR yor
def yyh(xs:List (List yR6))(l:Int)(h0:0<=l)(h1:l<=1048576):qB prg 83 [.c (.sl 1 (xs.map nD)),.c (.i l)] (.c (.i (yB xs l))):=by
 refine dB ypE (eP ?_);intro hl;have hs:szS xs.length l=if l-xs.length<0 then -1 else l-xs.length:=rfl
 refine⟨by unfold maxLen at hl;unfold inI;omega,λh=>?_,λh=>?_⟩
 .simp[yB,ybF,sO,hs,h]
 have h':0<=l-xs.length:=by omega
 have e0:yB xs l=sG sU xs (l-xs.length):=by
  have:szS xs.length l=l-xs.length:=by rw[hs,if_neg (by omega)]
  simp only[yB,ybF];rw[this,xB h']
 refine qA (ι:=Nat×Int) (λp=>p.1<=xs.length/\0<=p.2/\p.2<=1048576/\sG sU (xs.drop p.1) p.2=yB xs l) (λp=>xC [(0,.c (.sl 1 (xs.map nD))),(1,.c (.i p.2)),(5,.c (.i p.1))] []) (λp=>xs.length-p.1) (0,l-xs.length) ⟨by simp,h',by simp only;omega,by simp[e0]⟩ (by apply aB<;>simp) ?_
 rintro⟨k,q⟩ ⟨hk,hq0,hq1,hf⟩
 simp only at hk hq0 hq1 hf;rcases yX1 k xs with⟨hlt,e,he⟩|hge
 .have hd:xs.drop k=e::xs.drop (k+1):=by
   rw[zay hlt,(zaa.1 he).2]
  rw[hd,sG]at hf;refine yaed he (fC hlt) ?_
  refineλ_=>mD (yA8 e q hq0 hq1) (by simp) rfl (eP ?_)
  refine⟨λh=>by rw[<-hf,oD h],λh=>⟨gB hlt hl,k+1,⟨sU e q,?_⟩⟩⟩;rw[xB h]at hf
  have hle:sU e q<=1048576:=by
   rcases yor e q hq0 hq1 with e1|e1
   .omega
   .omega
  exact⟨⟨hlt,h,hle,hf⟩,by omega,by apply aB<;>simp⟩
 .refine eU (aG hge) ?_;rw[zaZ hge]at hf;intro _
  first|simpa[sG]using hf|simpa[sG]using hf.symm
def yzG(xs:List (List yR6))(hl:yck xs):qB prg 94 [.c (.sl 1 (xs.map nD))] (.c (.sl 1 (xs.map nD))):=by
 refine dB ygo (eP ?_);intro hlen;have hl1:=hl.1;refine⟨by omega,yoL ?_⟩;refine eP ?_;refine yX2 (λk=>k<=xs.length) (λk=>xC [(0,.c (.sl 1 (xs.map nD))),(3,.own 7 1 xs.length),(4,.c (.i k))] [(7,.row 1 (partly nD [.sl 3 []] xs k))]) (λk=>xs.length-k) (by apply aB<;>simp[mF]) ?_
 rintro k hk
 rcases yX1 k xs with⟨hlt,e,he⟩|hge
 .have hs:=fG (f:=nD) (z:=[.sl 3 []]) he
  have hd:((partly nD [.sl 3 []] xs k)[k]?.getD []).set 0 (.sl 3 (e.map yR6.enc))=[.sl 3 (e.map yR6.enc)]:=by
   have:=tX (f:=nD) (z:=[.sl 3 []]) (n:=1) rfl (λ_=>rfl) hlt;obtain⟨x,hx⟩:=zaS.1 this;rw[hx];rfl
  have hs2:(partly nD [.sl 3 []] xs k).set k [.sl 3 (e.map yR6.enc)]=partly nD [.sl 3 []] xs (k+1):=hs;refine yaed he (fC hlt) ?_
  refineλ_=>iF (yCE e (hl.2 e (zac he))) (by simp) rfl ?_
  simp -dsimp[fC hlt,dG hk,hd,hs2];exact⟨hlt,gB hlt hlen,k+1,hlt,by omega,by apply aB<;>simp⟩
 .refine eU (aG hge) ?_;intro _;rw[eG hge,List.take_of_length_le (by simp)]
def yAe(es fs:List (List yR6)):qB prg 103 [.c (.sl 1 (es.map nD)),.c (.sl 1 (fs.map nD))] (.c (.b (decide (es=fs)))):=by
 refine dB ypr (eP ?_);intro hl1 hl2;refine⟨λh e=>h (by rw[e]),λhlen=>?_⟩;have hlen':es.length=fs.length:=by omega
 refine yX4 (λk=>k<=es.length/\es.take k=fs.take k) (λk=>xC [(0,.c (.sl 1 (es.map nD))),(1,.c (.sl 1 (fs.map nD))),(5,.c (.i k))] []) (λk=>es.length-k) ?_
 rintro k ⟨hk,htk⟩
 rcases yX1 k es with⟨hlt,e,he⟩|hge
 .obtain⟨f,hf⟩:∃f,fs[k]?=some f:=⟨_,zab (by omega)⟩;refine yaeV he hf (fC hlt) (fC (hlen'▸hlt)) ?_;intro _;refine lC (yCq e f) (eP ?_);refine⟨λh=>qQ he hf h,λh=>⟨gB hlt hl1,k+1,⟨hlt,kJ he hf htk h⟩,by omega,by apply aB<;>simp⟩⟩
 .refine eU (aG hge) ?_;intro _;exact lN hge hlen' htk
structure yR2 where
 Time:Int
 yR8:Int
 yRT:yRT
 deriving DecidableEq,Inhabited
@[simp] def yR2.enc(e:yR2):List C:=[.i e.Time,.i e.yR8,.b e.yRT.Up,.sl 1 (e.yRT.Rows.map jE)]
-- yR2
def xQ(e:yR2)(l:Int):Int:=sO (kT e.yRT l) λl=>l
def yR2.small(e:yR2):Prop:=e.yRT.small
def ylY:ya8 xQ yR2.small:=by
 intro e l h0 h1;unfold xQ;rcases ycE e.yRT _ h0 h1 with e0|⟨a0,b0,s0⟩
 .exact .inl (oD (by omega))
 rw[xB a0];exact .inr ⟨a0,by omega,s0⟩
def yzj(e:yR2)(l:Int)(h0:0<=l)(h1:l<=1048576):qB prg 205 [.agg (e.enc.map .c),.c (.i l)] (.c (.i (xQ e l))):=by
 refine dB ypw (eP ?_);refine aA (yhq e.yRT _ h0 h1) (eP ?_);refine⟨λh=>by simp[xQ,oD h],λp0=>?_⟩;simp[xQ,xB p0]
def yzJ(e:yR2)(hl:yR2.small e):qB prg 222 [.agg (e.enc.map .c)] (.agg (e.enc.map .c)):=by
 refine dB yf4 (eP ?_);refine dD (ylp e.yRT hl) ?_;exact goE_
def yA4(a b:yR2):qB prg 229 [.agg (a.enc.map .c),.agg (b.enc.map .c)] (.c (.b (decide (a=b)))):=by
 refine dB yqa ?_;obtain⟨a0,a1,a2⟩:=a;obtain⟨b0,b1,b2⟩:=b;simp -dsimp -implicitDefEqProofs [ygn,yR2.mk.injEq];refine⟨λh=>by simp_all,λh0=>?_⟩;refine⟨λh=>by simp_all,λh1=>?_⟩;refine aA (ylc a2 b2) (eP ?_);refine⟨λh=>by simp_all,λh2=>?_⟩
 simp_all
-- []yR2
def nX:List yR2->Int->Int:=ybF xQ
def ybz:List yR2->Prop:=aW yR2.small
def ytD:ya8 nX ybz:=yeR ylY
def ywI(xs:List yR2)(l:Int)(h0:0<=l)(h1:l<=1048576):qB prg 88 [.c (.sl 4 (xs.map yR2.enc)),.c (.i l)] (.c (.i (nX xs l))):=yYx yoH ylY yzj xs l h0 h1
def yx9:=yYu yeX yzJ
def yyP:=yYv yn3 yA4
structure yRW where
 Time:Int
 yRV:List Reach
 ySl:List Way
 yRX:List yR8
 yR3:List (List yR6)
 yR9:List yRT
 ySd:List Int
 yRZ:yRZ
 Book:List ySb
 yR1:List yR2
 Start:Int
 In:Int
 Out:Int
 deriving DecidableEq
@[simp] def yRW.enc(e:yRW):List C:=[.i e.Time,.sl 3 (e.yRV.map Reach.enc),.sl 2 (e.ySl.map Way.enc),.sl 22 (e.yRX.map yR8.enc),.sl 1 (e.yR3.map nD),.sl 2 (e.yR9.map yRT.enc),.sl 1 (e.ySd.map qC),.i e.yRZ.Base,.i e.yRZ.ySe,.sl 1 (e.yRZ.yR5.map qC),.sl 1 (e.yRZ.yR7.map qC),.sl 5 (e.Book.map ySb.enc),.sl 4 (e.yR1.map yR2.enc),.i e.Start,.i e.In,.i e.Out]
-- yRW
def dK(e:yRW)(l:Int):Int:=sO (yaY e.yRV l) λl=>sO (yov e.ySl l) λl=>sO (ycs e.yRX l) λl=>sO (yB e.yR3 l) λl=>sO (yT e.yR9 l) λl=>sO (yhM e.ySd l) λl=>sO (yH e.yRZ l) λl=>sO (ygS e.Book l) λl=>sO (nX e.yR1 l) λl=>l
def yRW.small(e:yRW):Prop:=ybv e.yRV/\yhE e.ySl/\ycw e.yRX/\yck e.yR3/\aJ e.yR9/\ymY e.ySd/\e.yRZ.small/\yot e.Book/\ybz e.yR1
def ysM:ya8 dK yRW.small:=by
 intro e l h0 h1;unfold dK;rcases ynQ e.yRV _ h0 h1 with e0|⟨a0,b0,s0⟩
 .exact .inl (oD (by omega))
 rw[xB a0];rcases ysN e.ySl _ a0 (by omega)with e1|⟨a1,b1,s1⟩
 .exact .inl (oD (by omega))
 rw[xB a1];rcases yq5 e.yRX _ a1 (by omega)with e2|⟨a2,b2,s2⟩
 .exact .inl (oD (by omega))
 rw[xB a2];rcases ylQ e.yR3 _ a2 (by omega)with e3|⟨a3,b3,s3⟩
 .exact .inl (oD (by omega))
 rw[xB a3];rcases ygY e.yR9 _ a3 (by omega)with e4|⟨a4,b4,s4⟩
 .exact .inl (oD (by omega))
 rw[xB a4];rcases ybM e.ySd _ a4 (by omega)with e5|⟨a5,b5,s5⟩
 .exact .inl (oD (by omega))
 rw[xB a5];rcases ynx e.yRZ _ a5 (by omega)with e6|⟨a6,b6,s6⟩
 .exact .inl (oD (by omega))
 rw[xB a6];rcases yod e.Book _ a6 (by omega)with e7|⟨a7,b7,s7⟩
 .exact .inl (oD (by omega))
 rw[xB a7];rcases ytD e.yR1 _ a7 (by omega)with e8|⟨a8,b8,s8⟩
 .exact .inl (oD (by omega))
 rw[xB a8];exact .inr ⟨a8,by omega,s0,s1,s2,s3,s4,s5,s6,s7,s8⟩
def ywn(e:yRW)(l:Int)(h0:0<=l)(h1:l<=1048576):qB prg 36 [.agg (e.enc.map .c),.c (.i l)] (.c (.i (dK e l))):=by
 refine dB yo4 (eP ?_);refine aA (yzW e.yRV _ h0 h1) (eP ?_);refine⟨λh=>by simp[dK,oD h],λp0=>?_⟩;have q0:=yiI ynQ e.yRV h0 h1 p0;refine aA (yFf e.ySl _ p0 q0) (eP ?_);refine⟨λh=>by simp[dK,xB p0,oD h],λp1=>?_⟩;have q1:=yiI ysN e.ySl p0 q0 p1;refine aA (yB0 e.yRX _ p1 q1) (eP ?_);refine⟨λh=>by simp[dK,xB p0,xB p1,oD h],λp2=>?_⟩;have q2:=yiI yq5 e.yRX p1 q1 p2;refine aA (yyh e.yR3 _ p2 q2) (eP ?_);refine⟨λh=>by simp[dK,xB p0,xB p1,xB p2,oD h],λp3=>?_⟩;have q3:=yiI ylQ e.yR3 p2 q2 p3;refine aA (yqO e.yR9 _ p3 q3) (eP ?_);refine⟨λh=>by simp[dK,xB p0,xB p1,xB p2,xB p3,oD h],λp4=>?_⟩;have q4:=yiI ygY e.yR9 p3 q3 p4;refine aA (yk2 e.ySd _ p4 q4) (eP ?_);refine⟨λh=>by simp[dK,xB p0,xB p1,xB p2,xB p3,xB p4,oD h],λp5=>?_⟩;have q5:=yiI ybM e.ySd p4 q4 p5;refine aA (yAc e.yRZ _ p5 q5) (eP ?_);refine⟨λh=>by simp[dK,xB p0,xB p1,xB p2,xB p3,xB p4,xB p5,oD h],λp6=>?_⟩;have q6:=yiI ynx e.yRZ p5 q5 p6;refine aA (yz1 e.Book _ p6 q6) (eP ?_);refine⟨λh=>by simp[dK,xB p0,xB p1,xB p2,xB p3,xB p4,xB p5,xB p6,oD h],λp7=>?_⟩;have q7:=yiI yod e.Book p6 q6 p7;refine aA (ywI e.yR1 _ p7 q7) (eP ?_);refine⟨λh=>by simp[dK,xB p0,xB p1,xB p2,xB p3,xB p4,xB p5,xB p6,xB p7,oD h],λp8=>?_⟩;simp[dK,xB p0,xB p1,xB p2,xB p3,xB p4,xB p5,xB p6,xB p7,xB p8]
def yhw(e:yRW)(hl:yRW.small e):qB prg 38 [.agg (e.enc.map .c)] (.agg (e.enc.map .c)):=by
 refine dB yeD (eP ?_);refine dD (yBo e.yRV (hl.1)) (eP ?_);refine dD (yGr e.ySl (hl.2.1)) (eP ?_);refine dD (yEa e.yRX (hl.2.2.1)) (eP ?_);refine dD (yzG e.yR3 (hl.2.2.2.1)) (eP ?_);refine dD (ysk e.yR9 (hl.2.2.2.2.1)) (eP ?_);refine dD (yog e.ySd (hl.2.2.2.2.2.1.1)) (eP ?_);refine dD (yCc e.yRZ (hl.2.2.2.2.2.2.1)) (eP ?_);refine dD (yCx e.Book (hl.2.2.2.2.2.2.2.1.1)) (eP ?_);refine dD (yx9 e.yR1 (hl.2.2.2.2.2.2.2.2)) ?_;exact goE_
def yds(a b:yRW):qB prg 39 [.agg (a.enc.map .c),.agg (b.enc.map .c)] (.c (.b (decide (a=b)))):=by
 refine dB yok ?_;obtain⟨a0,a1,a2,a3,a4,a5,a6,a7,a8,a9,a10,a11,a12⟩:=a;obtain⟨b0,b1,b2,b3,b4,b5,b6,b7,b8,b9,b10,b11,b12⟩:=b;simp -dsimp -implicitDefEqProofs [yfs,yRW.mk.injEq];refine⟨λh=>by simp_all,λh0=>?_⟩;refine aA (yBv a1 b1) (eP ?_);refine⟨λh=>by simp_all,λh1=>?_⟩;refine aA (yGI a2 b2) (eP ?_);refine⟨λh=>by simp_all,λh2=>?_⟩;refine aA (yEm a3 b3) (eP ?_);refine⟨λh=>by simp_all,λh3=>?_⟩;refine aA (yAe a4 b4) (eP ?_);refine⟨λh=>by simp_all,λh4=>?_⟩;refine aA (yvi a5 b5) (eP ?_);refine⟨λh=>by simp_all,λh5=>?_⟩;refine aA (yoD a6 b6) (eP ?_);refine⟨λh=>by simp_all,λh6=>?_⟩;refine aA (yBt a7 b7) (eP ?_);refine⟨λh=>by simp_all,λh7=>?_⟩;refine aA (yCk a8 b8) (eP ?_);refine⟨λh=>by simp_all,λh8=>?_⟩;refine aA (yyP a9 b9) (eP ?_);refine⟨λh=>by simp_all,λh9=>?_⟩;refine⟨λh=>by simp_all,λh10=>?_⟩;refine⟨λh=>by simp_all,λh11=>?_⟩;refine⟨λh=>by simp_all,λh12=>?_⟩
 simp_all
def yF2(es:List ySa)(hl:es.length<=1048576):nI prg 348 [.c (.sl 6 (es.map ySa.enc))] (.c (.ow 6 (es.map ySa.enc))):=by
 refine fF yab ?_;simp -dsimp -implicitDefEqProofs [oQ,jA];omega
def yBT(xs:List (List ySa))(hl:ybE xs):nI prg 253 [.c (.sl 1 (xs.map jE))] (.c (.ot 1 (xs.map jF))):=by
 refine fF yr7 (eP ?_);intro hlen;have hl1:=hl.1;refine ydE (k0:=1) 3 1 (by simp) (by simp) (by decide) ?_;refine yX2 (λk=>k<=xs.length) (λk=>xC [(3,.own 3 1 k),(6,.c (.sl 1 (xs.map jE))),(7,.c (.i xs.length)),(8,.c (.i k))] [(3,.tr 1 0 ((xs.take k).map jF))]) (λk=>xs.length-k) (by apply aB<;>simp[Obj.leO]) ?_
 rintro k hk
 rcases yX1 k xs with⟨hlt,e,he⟩|hge
 .have hs:xs.take (k+1)=xs.take k++[e]:=by rw[zar,he];rfl
  refine yaed he (fC hlt) ?_;refine sD (yF2 e (hl.2 e (zac he)).1) (by simp) (by simp[AV.closed,AV.jI,C.closed]) (by simp[fD]) (yafv (Nat.min_eq_left hk) ?_);refine⟨by omega,gB hlt hlen,k+1,hlt,by omega,?_⟩;have hs2:(xs.map jF).take (k+1)=(xs.map jF).take k++[[.ow 6 (e.map ySa.enc)]]:=by rw[<-zaV,<-zaV,hs,zaB];rfl
  apply aB<;>simp[Obj.leO,hs2]
 .have:k=xs.length:=by omega
  subst this;refine goT_ ?_
  try simp
def yaU(e:yRT)(hl:yRT.small e):nI prg 155 [.agg (e.enc.map .c)] (.agg (e.iD.map .c)):=by
 refine fF ypv (eP ?_);refine pJ (yBT e.Rows hl) (by simp) (by simp[AV.closed,AV.jI,C.closed,jF]) (by simp[fD]) ?_;exact goU_
def yV0(t:yRT)(d:Int):0<=yTs t d/\yTs t d<=51:=by
 have:=yU7 t;unfold yTs;split
 .split
  .rw[zaA (by omega)];omega
  .omega
 .omega
def yVE{m:yR6}{w:Way}(h:xN m w=true):(1<=w.Long/\w.Long<=10000)/\(0<=m.Place/\m.Place<=w.Long):=by
 simp only[xN,zad]at h;exact⟨(yVz h.1.1).1,aC.1 h.2⟩
def yUF(m:yR6)(w:Way)(r:Reach):Int:=
 if m.yRT.Up then(if 0<m.Place-yTs m.yRT (yTp w r)then m.Place-yTs m.yRT (yTp w r)else 0)
 else if m.Place+yTs m.yRT (yTp w r)<w.Long then m.Place+yTs m.yRT (yTp w r)else w.Long
def yS7(m:yR6)(w:Way)(r:Reach):yR6:=if xN m w&&xE r then⟨m.yRT,yUF m w r⟩else m
def yXR(m:yR6)(w:Way)(r:Reach)(hm:m.small):qB prg 173 [.agg (m.enc.map .c),.agg (w.enc.map .c),.agg (r.enc.map .c)] (.agg ((yS7 m w r).enc.map .c)):=by
 refine dB yWw (eP ?_);refine aA (yym m w hm) ?_;cases h1:xN m w with
 |false=>simp -dsimp -implicitDefEqProofs;simp[yS7,h1]
 | true=>
  refine eP ?_;refine aA (oL r) ?_;cases h2:xE r with
  |false=>simp -dsimp -implicitDefEqProofs;simp[yS7,h2]
  | true=>
   refine eP ?_;refine lC (yWO w r) (eP ?_);refine lC (yW5 m.yRT (yTp w r) hm) ?_;have hp:=yV0 m.yRT (yTp w r);have hf:=yVE h1;cases hu:m.yRT.Up with
   |true=>
    refine eU hu ?_;refine⟨by unfold inI;omega,?_⟩;simp[yS7,h1,h2,yUF,hu]
   |false=>
    refine eU hu ?_;refine⟨by unfold inI;omega,?_⟩;simp[yS7,h1,h2,yUF,hu]
def yWg{m:yR6}{w:Way}{r:Reach}:(yS7 m w r).yRT=m.yRT:=by unfold yS7;split<;>rfl
def iW{k:Nat}{xs:List X}{s:St}:wOf (.bsl k xs) s=(xs.map s.ev).flatMap AV.ids:=rfl
def ypY(e:yRT)(hl:yRT.small e):nI prg 71 [.agg (e.enc.map .c)] (.agg (e.iD.map .c)):=by
 refine fF ytC (eP ?_);have hl1:=hl.1
 refine qA (ι:=Nat) (λk=>k<=e.Rows.length) (λk=>match k with
  |0=>xC [(1,.box 1 0),(2,.box 2 0),(3,.box 3 0),(4,.c (.i 0))] [(1,.box [.c (.b e.Up),.c (.sl 1 (e.Rows.map jE))]),(2,.box [.c (.b false),.nil 1]),(3,.box [.c (.b e.Up),.nil 1])]
  |k+1=>xC [(1,.box 1 0),(2,.box 2 0),(3,.box 3 0),(4,.c (.i (k+1)))] [(1,.box [.c (.b e.Up),.c (.sl 1 (e.Rows.map jE))]),(2,.box [.c (.b false),.nil 1]),(3,.box [.c (.b e.Up),.own 25 1 (k+1)]),(25,.tr 1 0 ((e.Rows.map jF).take (k+1)))]) (λk=>e.Rows.length-k) 0 (by simp) (by apply aB<;>simp[Obj.leO]) ?_
 rintro k hk
 rcases k with _|k
 .rcases zan 0 e.Rows.length with hlt|hge
  .obtain⟨r,he⟩:∃r,e.Rows[0]?=some r:=⟨_,zab hlt⟩;have h0:(0<e.Rows.length)=True:=by simpa using hlt
   have hgr:e.Rows[0]=r:=(zaa.1 he).2;have hrl:=(hl.2 r (zac he)).1;simp -dsimp -implicitDefEqProofs [he,h0,hgr,jA,iW];intro hlen;refine⟨by omega,by unfold inI;omega,1,hlt,by omega,?_⟩
   have hs2:(e.Rows.map jF).take 1=[[.ow 6 (r.map ySa.enc)]]:=by
    obtain⟨y,l,hy⟩:∃y l,e.Rows=y::l:=by cases hr:e.Rows with|nil=>rw[hr]at hlt;simp at hlt|cons y l=>exact⟨y,l,rfl⟩
    rw[hy]at he|-;simp at he;subst he;rfl
   apply aB<;>simp[Obj.leO,hs2]
  .have hx:e.Rows=[]:=zae.1 (by omega);have h0:(0<e.Rows.length)=False:=by simp[hx]
   refine eU h0 ?_;simp[hx]
 .rcases zan (k+1) e.Rows.length with hlt|hge
  .obtain⟨r,he⟩:∃r,e.Rows[k+1]?=some r:=⟨_,zab hlt⟩;have h0:((k:Int)+1<e.Rows.length)=True:=by simp;omega
   have h1:(0<=(k:Int)+1)=True:=by simp;omega
   have h2:((k:Int)+1).toNat=k+1:=by omega
   have hrl:=(hl.2 r (zac he)).1;simp -dsimp -implicitDefEqProofs [he,h0,h1,h2,jA,iW];intro hlen;refine⟨by omega,by omega,by omega,by unfold inI;omega,k+2,hlt,by omega,?_⟩
   have hs2:(e.Rows.map jF).take (k+2)=(e.Rows.map jF).take (k+1)++[[.ow 6 (r.map ySa.enc)]]:=by
    rw[zar,zaw,he];rfl
   apply aB<;>simp[Obj.leO,hs2]<;>omega
  .have h0:((k:Int)+1<e.Rows.length)=False:=by simp;omega
   have hx:e.Rows.length=k+1:=by omega
   refine eU h0 ?_;intro _;have e1:(e.Rows.map jF).take (k+1)=e.Rows.map jF:=List.take_of_length_le (by simp;omega);simp[e1]
def ybP(e:yRT)(hl:yRT.small e):qB prg 71 [.agg (e.enc.map .c)] (.agg (e.enc.map .c)):=(ypY e hl).pure (by simp[AV.shr,AV.yoE,dO,C.shr,eF yI])
def yAv(n:Nat)(k:Int)(h0:0<=k)(h1:k+6*n<=8000000000000000000):qB prg 341 [.c (.sl 6 (marked mkB 6 [] k n)),.c (.i k)] (.c (.i (k+6*n))):=by
 refine dB yp4 (eP ?_);refine yX4 (λi=>i<=n) (λi=>xC [(0,.c (.sl 6 (marked mkB 6 [] k n))),(1,.c (.i (k+6*i))),(5,.c (.i i))] []) (λi=>n-i) ?_
 rintro i hi
 rcases zan i n with hlt|hge
 .have hg:=ydI (mk:=mkB) (c:=6) (k:=k) hlt;simp only[mkB]at hg;simp -dsimp -implicitDefEqProofs [kE,fC hlt,hg];intro hlen;refine⟨by unfold inI;omega,by unfold inI;omega,by unfold inI;omega,by unfold inI;omega,by unfold inI;omega,by unfold inI;omega,by unfold inI;omega,i+1,hlt,by omega,?_⟩;apply aB<;>simp<;>omega
 .have:i=n:=by omega
  subst this;simp -dsimp -implicitDefEqProofs [kE]
def fBs(k:Int)(r:List ySa):List C:=[.sl 6 (marked mkB 6 [] k r.length)]
def lM{α:Type}{f g:Int->α->List C}{n:α->Nat}(h:∀k x,dO (f k x)=some (g k x)):∀(l:List α) (k:Int),yaq (dH f n k l)=some (dH g n k l)
 |[],_=>rfl
 |x::l,k=>by simp[dH,yaq,h k x,lM h l]
def yy7(k:Int)(r:List ySa):dO (fB k r)=some (fBs k r):=rfl
def ydB(xs:List (List ySa))(k:Int)(h0:0<=k)(h1:k+cnt nB xs<=8000000000000000000):qB prg 239 [.c (.sl 1 (dH fBs nB k xs)),.c (.i k)] (.c (.i (k+cnt nB xs))):=by
 refine dB yoS (eP ?_);refine yX2 (λi=>i<=xs.length) (λi=>xC [(0,.c (.sl 1 (dH fBs nB k xs))),(1,.c (.i (k+pI nB xs i))),(5,.c (.i i))] []) (λi=>xs.length-i) (by apply aB<;>simp[jK]) ?_
 rintro i hi
 rcases yX1 i xs with⟨hlt,e,he⟩|hge
 .have hg:=ydA (f:=fBs) (n:=nB) (k:=k) he;have hc:=kK (n:=nB) he;have hle:=kR (n:=nB) (xs:=xs) (i:=i+1);have hn:nB e=6*e.length:=rfl;simp only[fBs]at hg;simp -dsimp -implicitDefEqProofs [jD,fC hlt,hg];intro hlen;refine aA (yAv e.length (k+pI nB xs i) (by omega) (by omega)) ?_;have n1:(k+(pI nB xs i:Int)+6*(e.length:Int)<0)=False:=by simp;omega
  refine eU n1 ?_;refine⟨gB hlt hlen,i+1,hlt,by omega,?_⟩;apply aB<;>simp<;>omega
 .have:i=xs.length:=by omega
  subst this;simp -dsimp -implicitDefEqProofs [jD];rw[cO (Nat.le_refl _)];intro _;rfl
def yBz(es:List ySb)(hl:es.length<=1048576):nI prg 98 [.c (.sl 5 (es.map ySb.enc))] (.c (.ow 5 (es.map ySb.enc))):=yYw yh1 (sm:=λ_=>True) (λe _=>yxD e) (xs:=es) (hl:=⟨hl,λ_ _=>trivial⟩)
def ylw(k:Int):List C:=[.i k,.i (k+1),.i (k+1+1),.i (k+1+1+1),.i (k+1+1+1+1)]
def yxL(xs:List ySb)(k:Int)(h0:0<=k)(h1:k+5*xs.length<=4611686018427387904):
 InF prg 116 (.c (cw 5 (xs.map ySb.enc))) (.c (cw 5 (marked ylw 5 [] k xs.length))) [.c (.i k)] (.c (.i (k+5*xs.length))):=by
 rcases zao xs.length with hx|hx
 .have:xs=[]:=zae.1 hx;subst this;refine aK ye7 (by simp) (by simp) rfl λhwf=>?_;simp -dsimp -implicitDefEqProofs [yba,marked];refine qA (ι:=Unit) (λ_=>True) (λ_=>xC [(0,.c (.sl 5 [])),(1,.c (.i k)),(5,.c (.i 0)),(1000000,.c (.sl 5 []))] []) (λ_=>0) () trivial (by apply aB<;>simp) ?_
  rintro _ _
  exact goE_
 .rw[kH (by simpa using hx),kH (by rw[kE];exact hx)];refine aK ye7 (by simp) (by simp) rfl λhwf=>?_;simp -dsimp -implicitDefEqProofs [yba];refine yX2 (λi=>i<=xs.length) (λi=>xC [(0,.own 0 5 xs.length),(1,.c (.i (k+5*i))),(5,.c (.i i)),(1000000,.own 0 5 xs.length)] [(0,.row 5 (marked ylw 5 (xs.map ySb.enc) k i))]) (λi=>xs.length-i) (by apply aB<;>simp[yaS]) ?_
  rintro i hi
  rcases yX1 i xs with⟨hlt,e,he⟩|hge
  .have hg:=yb2 (mk:=ylw) (c:=5) (k:=k) (rows:=xs.map ySb.enc) (i:=i) (r:=e.enc) (by simp[he]);have hl:=ybS (mk:=ylw) (c:=5) (k:=k) (rows:=xs.map ySb.enc) (i:=i) (by simpa using hi);have hs:=ybU (mk:=ylw) (c:=5) (k:=k) (rows:=xs.map ySb.enc) (i:=i) (by simpa using hlt);rw[zai]at hl;generalize marked ylw 5 (xs.map ySb.enc) k i=M at *;have hlt2:i<M.length:=by omega
   have hself:∀a,(M.set i a)[i]?=some a:=λa=>zaQ hlt2;simp only[ylw]at hs;simp only[ySb.enc]at hg;refine yaff (fC hlt) hg hl hlt2 hself ?_;intro hlen;refine⟨hlt,by unfold inI;omega,hlt,by unfold inI;omega,hlt,by unfold inI;omega,hlt,by unfold inI;omega,hlt,by unfold inI;omega,by unfold inI;omega,i+1,hlt,by omega,?_⟩;apply aB<;>simp[hs,hself]<;>omega
  .have:i=xs.length:=by omega
   subst this;refine eP ?_;intro _;have e:=ybJ (mk:=ylw) (c:=5) (rows:=xs.map ySb.enc) (k:=k) (i:=xs.length) (by simp);rw[e,zai,List.take_of_length_le (by rw[kE];exact Nat.le_refl _)]
def yxV(n:Nat)(k:Int)(h0:0<=k)(h1:k+5*n<=4611686018427387904):qB prg 125 [.c (.sl 5 (marked ylw 5 [] k n)),.c (.i k)] (.c (.i (k+5*n))):=by
 refine dB yoJ (eP ?_);refine yX4 (λi=>i<=n) (λi=>xC [(0,.c (.sl 5 (marked ylw 5 [] k n))),(1,.c (.i (k+5*i))),(5,.c (.i i))] []) (λi=>n-i) ?_
 rintro i hi
 rcases zan i n with hlt|hge
 .have hg:=ydI (mk:=ylw) (c:=5) (k:=k) hlt;simp only[ylw]at hg;simp -dsimp -implicitDefEqProofs [kE,fC hlt,hg];intro hlen;refine⟨by unfold inI;omega,by unfold inI;omega,by unfold inI;omega,by unfold inI;omega,by unfold inI;omega,by unfold inI;omega,i+1,hlt,by omega,?_⟩;apply aB<;>simp<;>omega
 .have:i=n:=by omega
  subst this;simp -dsimp -implicitDefEqProofs [kE]
@[simp] def yRZ.iD(e:yRZ):List C:=[.i e.Base,.i e.ySe,.ow 1 (e.yR5.map qC),.ow 1 (e.yR7.map qC)]
def yCp(e:yRZ)(hl:e.small):nI prg 97 [.agg (e.enc.map .c)] (.agg (e.iD.map .c)):=by
 refine fF yig (eP ?_);refine sD (ynU e.yR5 hl.1) (by simp) (by simp[AV.closed,AV.jI,C.closed]) (by simp[fD]) (goT_ ?_);refine sD (ynU e.yR7 hl.2) (by simp) (by simp[AV.closed,AV.jI,C.closed]) (by simp[fD]) ?_;exact goU_
def nT(e:yRZ):Int:=e.yR5.length+e.yR7.length
def ybq(e:yRZ)(k:Int):List C:=[.i e.Base,.i e.ySe,cw 1 (marked qC 1 [] k e.yR5.length),cw 1 (marked qC 1 [] (k+e.yR5.length) e.yR7.length)]
def yRZ.yv7(e:yRZ):List C:=[.i e.Base,.i e.ySe,cw 1 (e.yR5.map qC),cw 1 (e.yR7.map qC)]
def yxY(e:yRZ)(k:Int)(h0:0<=k)(h1:k+nT e<=8000000000000000000):
 InF prg 115 (.agg (e.yv7.map .c)) (.agg ((ybq e k).map .c)) [.c (.i k)] (.c (.i (k+nT e))):=by
 obtain⟨ba,pa,p,q⟩:=e;simp only[nT]at h1;have hp:p.length=0\/0<p.length:=by omega
 have hq:q.length=0\/0<q.length:=by omega
 rcases hp with hp|hp<;>rcases hq with hq|hq
 .skip
  have:p=[]:=zae.1 hp;subst this;have:q=[]:=zae.1 hq;subst this;have m1:=mV [] k h0 (by first|omega |(simp at h1;omega)|(simp at h1|-;omega));have m2:=mV [] k (by omega) (by first|omega |(simp at h1;omega)|(simp at h1|-;omega));refine aK jZ (by simp) (by simp[yRZ.yv7,marked]) rfl λhwf=>?_;simp -dsimp -implicitDefEqProofs [iV,yRZ.yv7];refine tH (up:=none) m1 (by simp) rfl rfl (sS rfl) (eP ?_);refine tH (up:=none) m2 (by simp) rfl rfl (sS rfl) ?_;simp -dsimp -implicitDefEqProofs [ybq,nT,kE,yaQ]
  first|rfl|omega
 .skip
  have:p=[]:=zae.1 hp;subst this;have m1:=mV [] k h0 (by first|omega |(simp at h1;omega)|(simp at h1|-;omega));have m2:=mV q k (by omega) (by first|omega |(simp at h1;omega)|(simp at h1|-;omega));have d0:=kH (k:=1) (rows:=q.map qC) (by simpa using hq);have d1:=kH (k:=1) (rows:=marked qC 1 [] k q.length) (by rw[kE];exact hq);refine aK jZ (by simp) (by simp[yRZ.yv7,marked,d0,d1]) rfl λhwf=>?_;simp -dsimp -implicitDefEqProofs [iV,yRZ.yv7,d0,d1];refine tH (up:=none) m1 (by simp) rfl rfl (sS rfl) (eP ?_);refine tH (up:=some (40000,.row 1 (marked qC 1 [] k q.length))) m2 (by simp) rfl rfl (qH (rows:=q.map qC) (by simp) rfl rfl (by simp) (by simp[kE]) rfl rfl) ?_;simp -dsimp -implicitDefEqProofs [ybq,nT,kE,yaQ,d0,d1]
  first|rfl|omega
 .skip
  have:q=[]:=zae.1 hq;subst this;have m1:=mV p k h0 (by first|omega |(simp at h1;omega)|(simp at h1|-;omega));have m2:=mV [] (k+p.length) (by omega) (by first|omega |(simp at h1;omega)|(simp at h1|-;omega));have c0:=kH (k:=1) (rows:=p.map qC) (by simpa using hp);have c1:=kH (k:=1) (rows:=marked qC 1 [] k p.length) (by rw[kE];exact hp);refine aK jZ (by simp) (by simp[yRZ.yv7,marked,c0,c1]) rfl λhwf=>?_;simp -dsimp -implicitDefEqProofs [iV,yRZ.yv7,c0,c1];refine tH (up:=some (30000,.row 1 (marked qC 1 [] k p.length))) m1 (by simp) rfl rfl (qH (rows:=p.map qC) (by simp) rfl rfl (by simp) (by simp[kE]) rfl rfl) (eP ?_);refine tH (up:=none) m2 (by simp) rfl rfl (sS rfl) ?_;simp -dsimp -implicitDefEqProofs [ybq,nT,kE,yaQ,c0,c1]
  first|rfl|omega
 .skip
  have m1:=mV p k h0 (by first|omega |(simp at h1;omega)|(simp at h1|-;omega));have m2:=mV q (k+p.length) (by omega) (by first|omega |(simp at h1;omega)|(simp at h1|-;omega));have c0:=kH (k:=1) (rows:=p.map qC) (by simpa using hp);have c1:=kH (k:=1) (rows:=marked qC 1 [] k p.length) (by rw[kE];exact hp);have d0:=kH (k:=1) (rows:=q.map qC) (by simpa using hq);have d1:=kH (k:=1) (rows:=marked qC 1 [] (k+p.length) q.length) (by rw[kE];exact hq);refine aK jZ (by simp) (by simp[yRZ.yv7,marked,c0,c1,d0,d1]) rfl λhwf=>?_;simp -dsimp -implicitDefEqProofs [iV,yRZ.yv7,c0,c1,d0,d1];refine tH (up:=some (30000,.row 1 (marked qC 1 [] k p.length))) m1 (by simp) rfl rfl (qH (rows:=p.map qC) (by simp) rfl rfl (by simp) (by simp[kE]) rfl rfl) (eP ?_);refine tH (up:=some (40000,.row 1 (marked qC 1 [] (k+p.length) q.length))) m2 (by simp) rfl rfl (qH (rows:=q.map qC) (by simp) rfl rfl (by simp) (by simp[kE]) rfl rfl) ?_;simp -dsimp -implicitDefEqProofs [ybq,nT,kE,yaQ,c0,c1,d0,d1]
  first|rfl|omega
def ye4(r:Reach):Int:=if xE r then sZ r else 0
def ySA(l:List Reach):Int:=(l.map sZ).sum
def jY(l:List Reach):Bool:=decide (1<=l.length)&&decide (l.length<=6)&&l.all xE&&decide (ySA l<=1000000000)
def yav(l:List Reach)(k:Nat):Int:=ySA (l.take k)
def yg2{l:List Reach}:yav l 0=0:=rfl
def yg7{l:List Reach}{k:Nat}{r:Reach}(h:l[k]?=some r):yav l (k+1)=yav l k+sZ r:=by
 unfold yav ySA;rw[zar,h];simp
def ycL{l:List Reach}{k:Nat}(h:l.length<=k):yav l k=ySA l:=by unfold yav;rw[List.take_of_length_le h]
structure yST(r:Reach):Prop where
 vol:amount r.ySh=true
 len:r.ySk.length<=12
 amt:∀n∈r.ySk,amount n=true
 rng:0<=sZ r/\sZ r<=1000000000
def yF{r:Reach}(h:xE r=true):yST r:=by
 simp only[xE,zad,decide_eq_true_eq,zaf]at h;obtain⟨⟨⟨⟨h1,h2⟩,h3⟩,h4⟩,h5⟩:=h;refine⟨h2,h3,h4,?_,h5⟩;have a1:=aC.1 (show inRange r.ySh 0 1000000000=true from h2);have a2:=ymV (l:=r.ySk) h4;unfold sZ;omega
def yfj{l:List Reach}:∀{k:Nat},(∀r∈l.take k,xE r=true)->0<=yav l k/\yav l k<=1000000000*k
 |0,_=>by rw[yg2];omega
 | k+1,h=>by
  have ih:=yfj (k:=k) λr hr=>h r (by rw[zar];exact zbs _ hr);have e2:((k+1:Nat):Int)=k+1:=by simp
  cases hk:l[k]? with
  |none=>
   have hl:l.length<=k:=by simpa using hk
   rw[ycL (by omega),<-ycL hl];omega
  |some r=>
   have:=(yF (h r (by rw[zar,hk];exact zaN _ (by simp)))).rng;rw[yg7 hk];omega
def yuO{l:List Reach}{k:Nat}{r:Reach}(h:l[k]?=some r)(hr:xE r=false):jY l=false:=by
 have:=all_false (p:=xE) h hr;simp[jY,this]
def yn0(r:Reach):qB prg 200 [.agg (r.enc.map .c)] (.c (.i (ye4 r))):=by
 refine dB ysw ?_;simp;refine aA (oL r) ?_;cases h:xE r with
 |false=>simp;simp[ye4,h]
 |true=>
 have f:=yF h;have hl:=f.len;have hv:=aC.1 (show inRange r.ySh 0 1000000000=true from f.vol);have ht:ye4 r=sZ r:=by simp[ye4,h]
 simp[ht];intro hlen;refine yX2 (λk=>k<=r.ySk.length) (λk=>xC [(3,.c (.i (r.ySh+sumTo r.ySk k))),(12,.c (.sl 1 (r.ySk.map qC))),(13,.c (.i r.ySk.length)),(14,.c (.i k))] []) (λk=>r.ySk.length-k) (by apply aB<;>simp[aY]) ?_
 rintro k hk
 rcases yX1 k r.ySk with⟨hlt,x,hx⟩|hge
 .have e1:=nV hx;have b1:=yqW f.amt hl (k+1);rw[e1]at b1;simp[hx,fC hlt];refine⟨by unfold inI;omega,gB hlt hlen,k+1,hlt,by omega,?_⟩;apply aB<;>simp[e1];omega
 .simp[aG hge];rw[yb4 hge,ht];rfl
def yyA(l:List Reach):qB prg 199 [.c (.sl 3 (l.map Reach.enc))] (.c (.b (jY l))):=by
 refine dB ysA ?_;simp
 refineλhlen=>⟨λh1=>?_,λh1=>?_⟩
 rotate_left
 .simp[jY];omega
 refineλ_=>⟨λh6=>by simp[jY];omega,λh6=>?_⟩
 refineλ_=>qA (ι:=Nat) (λk=>k<=l.length/\∀r∈l.take k,xE r=true) (λk=>xC [(3,.c (.i (yav l k))),(14,.c (.sl 3 (l.map Reach.enc))),(15,.c (.i l.length)),(16,.c (.i k))] []) (λk=>l.length-k) 0 (by simp) (by apply aB<;>simp[yg2]) ?_
 rintro k ⟨hk,hall⟩
 rcases yX1 k l with⟨hlt,r,hr⟩|hge
 .simp[hr,fC hlt];refine aA (oL r) ?_;cases h:xE r with
  |false=>simp;exact yuO hr h
  |true=>
   have ht:ye4 r=sZ r:=by simp[ye4,h]
   have hall':=lD (p:=xE) hr hall h;have hb:=yfj hall';have e1:=yg7 hr;simp;refine aA (yn0 r) ?_;simp[ht];refine⟨by rw[e1]at hb;unfold inI;omega,gB hlt hlen,k+1,⟨hlt,hall'⟩,by omega,?_⟩;apply aB<;>simp[e1]
 .have hall2:=dF (p:=xE) hge hall;simp[aG hge];rw[ycL hge];have a1:1<=l.length:=by omega
  have a2:l.length<=6:=by omega
  simp[jY,a1,a2,hall2]
structure ySL(l:List Reach):Prop where
 len:1<=l.length/\l.length<=6
 ok:∀r∈l,xE r=true
 rng:0<=ySA l/\ySA l<=1000000000
def ynr{l:List Reach}(h:jY l=true):ySL l:=by
 simp only[jY,zad,decide_eq_true_eq,zaf]at h;obtain⟨⟨⟨h1,h2⟩,h3⟩,h4⟩:=h;have:=yfj (l:=l) (k:=l.length) (by rw[List.take_length];exact h3);rw[ycL (Nat.le_refl _)]at this;exact⟨⟨h1,h2⟩,h3,this.1,h4⟩
def yiK(l:List Reach)(k:Nat):Int:=if 1000000001<yav l k then 1000000001 else yav l k
def yCF{l:List Reach}:yiK l 0=0:=by simp[yiK,yg2]
def yBZ{l:List Reach}{k:Nat}{r:Reach}(h:l[k]?=some r)(hr:0<=sZ r):(if 1000000001<yiK l k+sZ r then 1000000001 else yiK l k+sZ r)=yiK l (k+1):=by
 unfold yiK;rw[yg7 h]
 (repeat' split)<;>omega
def yED{l:List Reach}{k:Nat}(h:∀r∈l.take k,xE r=true):0<=yiK l k/\yiK l k<=1000000001:=by
 have:=yfj h;unfold yiK;split<;>omega
def yyq(l:List Reach):qB prg 241 [.c (.sl 3 (l.map Reach.enc))] (.c (.b (jY l))):=by
 refine dB yvl ?_;simp;refine yX2 (λk=>k<=l.length/\∀r∈l.take k,xE r=true) (λk=>xC [(0,.c (.sl 3 (l.map Reach.enc))),(3,.c (.i (yiK l k))),(4,.c (.i k))] []) (λk=>l.length-k) (by apply aB<;>simp[yCF]) ?_
 rintro k ⟨hk,hall⟩
 rcases yX1 k l with⟨hlt,r,hr⟩|hge
 .simp[hr,fC hlt];intro hlen;refine aA (qN r) ?_;cases h:xE r with
  |false=>simp;exact yuO hr h
  |true=>
   have f:=yF h;have hall':=lD (p:=xE) hr hall h;have hb:=yED hall;have hs:=f.rng;have e1:=yBZ hr hs.1;simp[hr,fC hlt];refine aA (yuT r f.vol f.len f.amt) ?_;simp[e1];refine⟨by unfold inI;omega,gB hlt hlen,k+1,⟨hlt,hall'⟩,by omega,?_⟩;apply aB<;>simp[e1]
 .have hall2:=dF (p:=xE) hge hall;simp[aG hge];intro hlen;refine aA (bC l.length 1 6) ?_;have hr:yav l k=ySA l:=ycL hge
  have hc:(yiK l k<=1000000000)=(ySA l<=1000000000):=by
   unfold yiK;rw[hr];apply propext;split<;>omega
  have hrng:inRange (l.length:Int) 1 6=(decide (1<=l.length)&&decide (l.length<=6)):=by
   rw[zda,aC];simp only[zad,decide_eq_true_eq];omega
  cases h1:inRange (l.length:Int) 1 6 with
  |false=>simp;rw[jY,<-hrng,h1];simp
  |true=>
   simp;rw[jY,<-hrng,h1];simp[hall2,hc]
def jS(p:Way×List yR6):Bool:=ykM p.1&&decide (p.2.length<=24)&&p.2.all λm=>xN m p.1
def sJ(x:yRW):Bool:=jY x.yRV&&decide (2<=x.yRV.length)&&decide (x.ySl.length=x.yRV.length)&&decide (x.yR3.length=x.yRV.length)&&decide (x.yRX.length+1=x.yRV.length)&&
 (x.ySl.zip x.yR3).all jS&&x.yRX.all fJ
def yJC{w:Way}{ms:List yR6}(h:ykM w=false):jS (w,ms)=false:=by simp[jS,h]
def yJj{w:Way}{ms:List yR6}(h:24<ms.length):jS (w,ms)=false:=by simp[jS];omega
def yHJ{w:Way}{ms:List yR6}{k:Nat}{m:yR6}(h:ms[k]?=some m)(hm:xN m w=false):jS (w,ms)=false:=by
 have:=all_false (p:=λm=>xN m w) h hm;simp[jS,this]
def yay{x:yRW}{k:Nat}{w:Way}{ms:List yR6}(h1:x.ySl[k]?=some w)(h2:x.yR3[k]?=some ms)(h:jS (w,ms)=false):sJ x=false:=by
 have:=all_false (p:=jS) (l:=x.ySl.zip x.yR3) (k:=k) (zbW.2 ⟨h1,h2⟩) h;simp[sJ,this]
def ytm{x:yRW}{k:Nat}{w:yR8}(h1:x.yRX[k]?=some w)(h:fJ w=false):sJ x=false:=by
 have:=all_false (p:=fJ) h1 h;simp[sJ,this]
def pno2{x:yRW}(h:¬2<=x.yRV.length):sJ x=false:=by simp[sJ,h]
def pno3{x:yRW}(h:¬x.ySl.length=x.yRV.length):sJ x=false:=by simp[sJ,h]
def pno4{x:yRW}(h:¬x.yR3.length=x.yRV.length):sJ x=false:=by simp[sJ,h]
def pno5{x:yRW}(h:¬x.yRX.length+1=x.yRV.length):sJ x=false:=by simp[sJ,h]
def yyU(x:yRW)(hs:x.small):qB prg 144 [.agg (x.enc.map .c)] (.c (.b (sJ x))):=by
 have hsM:=hs.2.2.2.1;have hsW:=hs.2.2.1;refine dB yuL ?_;simp;intro hlen;refine aA (yyA x.yRV) ?_;cases h1:jY x.yRV with
 |false=>simp;simp[sJ,h1]
 |true=>
 simp;refine⟨λh2=>?_,λh2=>(pno2 (by omega))⟩;intro _;refine⟨λh3=>?_,λh3=>(pno3 (by omega))⟩;intro _;refine⟨λh4=>?_,λh4=>(pno4 (by omega))⟩
 refineλ_=>⟨by unfold maxLen at hlen;unfold inI;omega,?_⟩
 refine⟨λh5=>(pno5 (by omega)),λh5=>?_⟩;have h3':x.ySl.length=x.yRV.length:=by omega
 have h4':x.yR3.length=x.yRV.length:=by omega
 have hz:(x.ySl.zip x.yR3).length=x.ySl.length:=by rw[List.length_zip];omega
 refineλhlw=>qA (ι:=Nat) (λk=>k<=x.ySl.length/\∀p∈(x.ySl.zip x.yR3).take k,jS p=true) (λk=>xC [(1,.box 1 0),(44,.c (.sl 2 (x.ySl.map Way.enc))),(45,.c (.i x.ySl.length)),(46,.c (.i k))] [(1,.box (x.enc.map .c))]) (λk=>x.ySl.length-k) 0 (by simp) (by apply aB<;>simp) ?_
 rintro k ⟨hk,hall⟩
 rcases yX1 k x.ySl with⟨hlt,w,hw⟩|hge
 .obtain⟨ms,hm⟩:∃w,x.yR3[k]?=some w:=⟨_,zab (by omega)⟩;have hkm:k<x.yR3.length:=by omega
  have gm:=(zaa.1 hm).2;have gw:=(zaa.1 hw).2;have hp:(x.ySl.zip x.yR3)[k]?=some (w,ms):=zbW.2 ⟨hw,hm⟩;have hsm:=hsM.2 ms (zac hm);simp[hw,gw,fC hlt,hlt];refine aA (ysY w) ?_;cases h6:ykM w with
  |false=>simp;exact yay hw hm (yJC h6)
  |true=>
  simp[hm,gm,hkm,fC hkm];intro hlm;refine⟨λh7=>(yay hw hm (yJj (by omega))),λh7=>?_⟩
  refineλ_=>qA (ι:=Nat) (λi=>i<=ms.length/\∀m∈ms.take i,xN m w=true) (λi=>xC [(1,.box 1 0),(5,.box 5 0),(44,.c (.sl 2 (x.ySl.map Way.enc))),(45,.c (.i x.ySl.length)),(46,.c (.i k)),(67,.c (.sl 3 (ms.map yR6.enc))),(68,.c (.i ms.length)),(69,.c (.i i))] [(1,.box (x.enc.map .c)),(5,.box (w.enc.map .c))]) (λi=>ms.length-i) 0 (by simp) (by apply aB<;>simp) ?_
  rintro i ⟨hi,hall2⟩
  rcases yX1 i ms with⟨hlt2,m,hmm⟩|hge2
  .have g2:=(zaa.1 hmm).2;simp[hmm,g2,fC hlt2,hlt2];refine aA (yym m w (hsm.2 m (zac hmm))) ?_;cases h8:xN m w with
   |false=>simp;exact yay hw hm (yHJ hmm h8)
   |true=>
    simp;refine⟨gB hlt2 hlm,i+1,⟨hlt2,lD (p:=λm=>xN m w) hmm hall2 h8⟩,by omega,?_⟩;apply aB<;>simp
  .have h9:=dF (p:=λm=>xN m w) hge2 hall2
   have hlane:jS (w,ms)=true:=by
    have:ms.length<=24:=by omega
    simp[jS,h6,this,h9]
   simp[aG hge2];refine⟨gB hlt hlw,k+1,⟨hlt,λa b hab=>lD (p:=jS) hp hall hlane (a,b) hab⟩,by omega,?_⟩;apply aB<;>simp
 .have hl:=dF (p:=jS) (by rw[hz];exact hge) hall;simp[aG hge]
  refineλhlk=>qA (ι:=Nat) (λi=>i<=x.yRX.length/\∀w∈x.yRX.take i,fJ w=true) (λi=>xC [(1,.box 1 0),(80,.c (.sl 22 (x.yRX.map yR8.enc))),(81,.c (.i x.yRX.length)),(82,.c (.i i))] [(1,.box (x.enc.map .c))]) (λi=>x.yRX.length-i) 0 (by simp) (by apply aB<;>simp) ?_
  rintro i ⟨hi,hall2⟩
  rcases yX1 i x.yRX with⟨hlt2,w,hw⟩|hge2
  .have g2:=(zaa.1 hw).2;simp[hw,g2,fC hlt2,hlt2];refine aA (yAQ w (hsW.2 w (zac hw))) ?_;cases h8:fJ w with
   |false=>simp;exact ytm hw h8
   |true=>
    simp;refine⟨gB hlt2 hlk,i+1,⟨hlt2,lD (p:=fJ) hw hall2 h8⟩,by omega,?_⟩;apply aB<;>simp
  .have h9:=dF (p:=fJ) hge2 hall2;simp[aG hge2];have h2':2<=x.yRV.length:=by omega
   have h5':x.yRX.length+1=x.yRV.length:=by omega
   simp[sJ,h1,h2',h3',h4',h5',hl,h9]
def yt(n:Nat)(p:yR2):Bool:=inRange p.Time 0 1000000&&inRange p.yR8 0 (n-1)&&oC p.yRT
def pO(x:yRW):Bool:=decide (x.yR9.length<=500)&&decide (x.ySd.length<=2000)&&decide (x.yR1.length<=500)&&x.yR9.all oC&&x.ySd.all (λn=>inRange n 1 9999)&&x.yR1.all (yt x.yRX.length)
def rC(x:yRW):Bool:=inRange x.Time 0 1000000&&sJ x&&pO x&&nH x.yRZ&&kU x.Book&&inRange x.Start 0 1000000000&&inRange x.In 0 1000000000&&inRange x.Out 0 1000000000
def lno1{x:yRW}(h:¬x.yR9.length<=500):pO x=false:=by simp[pO,h]
def lno2{x:yRW}(h:¬x.ySd.length<=2000):pO x=false:=by simp[pO,h]
def lno3{x:yRW}(h:¬x.yR1.length<=500):pO x=false:=by simp[pO,h]
def lno4{x:yRW}{k:Nat}{t:yRT}(h1:x.yR9[k]?=some t)(h:oC t=false):pO x=false:=by
 have:=all_false (p:=oC) h1 h;simp[pO,this]
def lno5{x:yRW}{k:Nat}{t:Int}(h1:x.ySd[k]?=some t)(h:inRange t 1 9999=false):pO x=false:=by
 have:=all_false (p:=λn=>inRange n 1 9999) h1 h;simp[pO,this]
def yEq{x:yRW}{k:Nat}{t:yR2}(h1:x.yR1[k]?=some t)(h:yt x.yRX.length t=false):pO x=false:=by
 have:=all_false (p:=yt x.yRX.length) h1 h;simp[pO,this]
def wno{x:yRW}(h:pO x=false):rC x=false:=by simp[rC,h]
def yis(x:yRW)(hs:x.small):qB prg 53 [.agg (x.enc.map .c)] (.c (.b (rC x))):=by
 have hsA:=hs.2.2.2.2.1;have hsP:=hs.2.2.2.2.2.2.2.2;refine dB ynT ?_;simp;refine aA (iC x.Time 0 1000000) ?_;cases h1:inRange x.Time 0 1000000 with
 |false=>simp;simp[rC,h1]
 |true=>
 simp;refine aA (yyU x hs) ?_;cases h2:sJ x with
 |false=>simp;simp[rC,h2]
 |true=>
 simp;intro hlA;refine⟨λh3=>?_,λh3=>(wno (lno1 (by omega)))⟩;intro hlE;refine⟨λh4=>?_,λh4=>(wno (lno2 (by omega)))⟩;intro hlP;refine⟨λh5=>(wno (lno3 (by omega))),λh5=>?_⟩
 refineλ_=>qA (ι:=Nat) (λk=>k<=x.yR9.length/\∀t∈x.yR9.take k,oC t=true) (λk=>xC [(1,.box 1 0),(37,.c (.sl 2 (x.yR9.map yRT.enc))),(38,.c (.i x.yR9.length)),(39,.c (.i k))] [(1,.box (x.enc.map .c))]) (λk=>x.yR9.length-k) 0 (by simp) (by apply aB<;>simp) ?_
 rintro k ⟨hk,hall⟩
 rcases yX1 k x.yR9 with⟨hlt,t,ht⟩|hge
 .simp[ht,fC hlt];refine aA (gK t (hsA.2 t (zac ht))) ?_;cases h6:oC t with
  |false=>simp;exact wno (lno4 ht h6)
  |true=>
   simp;refine⟨gB hlt hlA,k+1,⟨hlt,lD (p:=oC) ht hall h6⟩,by omega,?_⟩;apply aB<;>simp
 have hA:=dF (p:=oC) hge hall;simp[aG hge]
 refineλ_=>qA (ι:=Nat) (λk=>k<=x.ySd.length/\∀t∈x.ySd.take k,inRange t 1 9999=true) (λk=>xC [(1,.box 1 0),(48,.c (.sl 1 (x.ySd.map qC))),(49,.c (.i x.ySd.length)),(50,.c (.i k))] [(1,.box (x.enc.map .c))]) (λk=>x.ySd.length-k) 0 (by simp) (by apply aB<;>simp) ?_
 clear hall hk hge k
 rintro k ⟨hk,hall⟩
 rcases yX1 k x.ySd with⟨hlt,t,ht⟩|hge
 .simp[ht,fC hlt];refine aA (iC t 1 9999) ?_;cases h6:inRange t 1 9999 with
  |false=>simp;exact wno (lno5 ht h6)
  |true=>
   simp;refine⟨gB hlt hlE,k+1,⟨hlt,lD (p:=λn=>inRange n 1 9999) ht hall h6⟩,by omega,?_⟩;apply aB<;>simp
 have hE:=dF (p:=λn=>inRange n 1 9999) hge hall;simp[aG hge]
 refineλ_=>qA (ι:=Nat) (λk=>k<=x.yR1.length/\∀t∈x.yR1.take k,yt x.yRX.length t=true) (λk=>xC [(1,.box 1 0),(59,.c (.sl 4 (x.yR1.map yR2.enc))),(60,.c (.i x.yR1.length)),(61,.c (.i k))] [(1,.box (x.enc.map .c))]) (λk=>x.yR1.length-k) 0 (by simp) (by apply aB<;>simp) ?_
 clear hall hk hge k
 rintro k ⟨hk,hall⟩
 rcases yX1 k x.yR1 with⟨hlt,t,ht⟩|hge
 .simp[ht,fC hlt];refine aA (iC t.Time 0 1000000) ?_;cases h6:inRange t.Time 0 1000000 with
  |false=>simp;exact wno (yEq ht (by simp[yt,h6]))
  |true=>
  simp
  refineλhlW=>⟨by unfold maxLen at hlW;unfold inI;omega,?_⟩
  refine aA (iC t.yR8 0 (x.yRX.length-1)) ?_;cases h7:inRange t.yR8 0 (x.yRX.length-1)with
  |false=>simp;exact wno (yEq ht (by simp[yt,h7]))
  |true=>
  simp;refine aA (gK t.yRT (hsP.2 t (zac ht))) ?_;cases h8:oC t.yRT with
  |false=>simp;exact wno (yEq ht (by simp[yt,h8]))
  |true=>
  simp;refine⟨gB hlt hlP,k+1,⟨hlt,lD (p:=yt x.yRX.length) ht hall (by simp[yt,h6,h7,h8])⟩,by omega,?_⟩;apply aB<;>simp
 have hP:=dF (p:=yt x.yRX.length) hge hall;simp[aG hge];refine aA (yfw x.yRZ) ?_;cases h7:nH x.yRZ with
 |false=>simp;simp[rC,h7]
 |true=>
 simp;refine aA (ykw x.Book) ?_;cases h8:kU x.Book with
 |false=>simp;simp[rC,h8]
 |true=>
 simp;refine aA (iC x.Start 0 1000000000) ?_;cases h9:inRange x.Start 0 1000000000 with
 |false=>simp;simp[rC,h9]
 |true=>
 simp;refine aA (iC x.In 0 1000000000) ?_;cases h10:inRange x.In 0 1000000000 with
 |false=>simp;simp[rC,h10]
 |true=>
 simp;refine aA (iC x.Out 0 1000000000) ?_;simp;have a3:x.yR9.length<=500:=by omega
 have a4:x.ySd.length<=2000:=by omega
 have a5:x.yR1.length<=500:=by omega
 have hl:pO x=true:=by simp only[pO,a3,a4,a5,hA,hE,hP];simp
 simp[rC,h1,h2,h7,h8,h9,h10,hl]
def yBx(x:yRW)(hs:x.small):qB prg 140 [.agg (x.enc.map .c)] (.c (.b (sJ x))):=by
 have hsM:=hs.2.2.2.1;have hsW:=hs.2.2.1;refine dB yry ?_;simp;intro hlen;refine aA (yyq x.yRV) ?_;cases h1:jY x.yRV with
 |false=>simp;simp[sJ,h1]
 |true=>
 simp;refine⟨λh2=>?_,λh2=>(pno2 (by omega))⟩;intro _;refine⟨λh3=>?_,λh3=>(pno3 (by omega))⟩;intro _;refine⟨λh4=>?_,λh4=>(pno4 (by omega))⟩
 refineλ_=>⟨by unfold maxLen at hlen;unfold inI;omega,?_⟩
 refine⟨λh5=>(pno5 (by omega)),λh5=>?_⟩;have h3':x.ySl.length=x.yRV.length:=by omega
 have h4':x.yR3.length=x.yRV.length:=by omega
 have h5':x.yRX.length+1=x.yRV.length:=by omega
 have hz:(x.ySl.zip x.yR3).length=x.ySl.length:=by rw[List.length_zip];omega
 refine yX4 (λk=>k<=x.ySl.length/\(∀p∈(x.ySl.zip x.yR3).take k,jS p=true)/\∀w∈x.yRX.take k,fJ w=true) (λk=>xC [(1,.box 1 0),(3,.c (.i x.yRV.length)),(4,.c (.i k))] [(1,.box (x.enc.map .c))]) (λk=>x.ySl.length-k) ?_
 rintro k ⟨hk,hall,hallw⟩
 rcases yX1 k x.ySl with⟨hlt,w,hw⟩|hge
 .obtain⟨ms,hm⟩:∃w,x.yR3[k]?=some w:=⟨_,zab (by omega)⟩;have hkm:k<x.yR3.length:=by omega
  have hkr:k<x.yRV.length:=by omega
  have gm:=(zaa.1 hm).2;have gw:=(zaa.1 hw).2;have hp:(x.ySl.zip x.yR3)[k]?=some (w,ms):=zbW.2 ⟨hw,hm⟩;have hsm:=hsM.2 ms (zac hm);simp[hw,gw,fC hlt,hlt,hkr,fC hkr];refine aA (ysH w) ?_;cases h6:ykM w with
  |false=>simp;exact yay hw hm (yJC h6)
  |true=>
  simp[hm,gm,hkm,fC hkm];intro hlm;refine⟨λh7=>?_,λh7=>(yay hw hm (yJj (by omega)))⟩;refine⟨by unfold maxLen at hlen;unfold inI;omega,λhc=>?_,λhc=>?_⟩
  .obtain⟨wk,hwk⟩:∃w,x.yRX[k]?=some w:=⟨_,zab (by omega)⟩;have gk:=(zaa.1 hwk).2;have hkw:k<x.yRX.length:=by omega
   refine⟨hkw,?_⟩;simp[hwk];refine aA (yA1 wk (hsW.2 wk (zac hwk))) ?_;cases h10:fJ wk with
   |false=>simp;exact ytm hwk h10
   |true=>
   simp;refine yX4 (λi=>i<=ms.length/\∀m∈ms.take i,xN m w=true) (λi=>xC [(1,.box 1 0),(3,.c (.i x.yRV.length)),(4,.c (.i k)),(5,.c (.i i))] [(1,.box (x.enc.map .c))]) (λi=>ms.length-i) ?_
   rintro i ⟨hi,hall2⟩
   rcases yX1 i ms with⟨hlt2,m,hmm⟩|hge2
   .have g2:=(zaa.1 hmm).2;simp[hw,gw,hlt,fC hlt,hm,gm,hkm,fC hkm,hmm,g2,fC hlt2,hlt2];intro _;refine lC (yof m w (hsm.2 m (zac hmm))) ?_;cases h8:xN m w with
    |false=>simp;exact yay hw hm (yHJ hmm h8)
    |true=>
     simp;refine⟨gB hlt2 hlm,i+1,⟨hlt2,lD (p:=λm=>xN m w) hmm hall2 h8⟩,by omega,?_⟩;apply aB<;>simp
   .have h9:=dF (p:=λm=>xN m w) hge2 hall2
    have hlane:jS (w,ms)=true:=by
     have:ms.length<=24:=by omega
     simp[jS,h6,this,h9]
    simp[hm,gm,hkm,fC hkm,aG hge2]
    refineλ_=>⟨by unfold maxLen at hlen;unfold inI;omega,k+1,⟨hlt,λa b hab=>lD (p:=jS) hp hall hlane (a,b) hab,lD (p:=fJ) hwk hallw h10⟩,by omega,?_⟩
    apply aB<;>simp
  .have hwa:x.yRX.take (k+1)=x.yRX.take k:=by rw[List.take_of_length_le (by omega),List.take_of_length_le (by omega)]
   refine yX4 (λi=>i<=ms.length/\∀m∈ms.take i,xN m w=true) (λi=>xC [(1,.box 1 0),(3,.c (.i x.yRV.length)),(4,.c (.i k)),(5,.c (.i i))] [(1,.box (x.enc.map .c))]) (λi=>ms.length-i) ?_
   rintro i ⟨hi,hall2⟩
   rcases yX1 i ms with⟨hlt2,m,hmm⟩|hge2
   .have g2:=(zaa.1 hmm).2;simp[hw,gw,hlt,fC hlt,hm,gm,hkm,fC hkm,hmm,g2,fC hlt2,hlt2];intro _;refine lC (yof m w (hsm.2 m (zac hmm))) ?_;cases h8:xN m w with
    |false=>simp;exact yay hw hm (yHJ hmm h8)
    |true=>
     simp;refine⟨gB hlt2 hlm,i+1,⟨hlt2,lD (p:=λm=>xN m w) hmm hall2 h8⟩,by omega,?_⟩;apply aB<;>simp
   .have h9:=dF (p:=λm=>xN m w) hge2 hall2
    have hlane:jS (w,ms)=true:=by
     have:ms.length<=24:=by omega
     simp[jS,h6,this,h9]
    simp[hm,gm,hkm,fC hkm,aG hge2]
    refineλ_=>⟨by unfold maxLen at hlen;unfold inI;omega,k+1,⟨hlt,λa b hab=>lD (p:=jS) hp hall hlane (a,b) hab,by rw[hwa];exact hallw⟩,by omega,?_⟩
    apply aB<;>simp
 .simp[aG hge];refine⟨by omega,λ_=>?_⟩;have hl:=dF (p:=jS) (by rw[hz];exact hge) hall;have h9:=dF (p:=fJ) (l:=x.yRX) (k:=k) (by omega) hallw;have h2':2<=x.yRV.length:=by omega
  simp[sJ,h1,h2',h3',h4',h5',hl,h9]
def yCm(x:yRW)(hs:x.small):qB prg 141 [.agg (x.enc.map .c)] (.c (.b (pO x))):=by
 have hsA:=hs.2.2.2.2.1;have hsP:=hs.2.2.2.2.2.2.2.2;refine dB yrm ?_;simp;intro hlA;refine⟨λh3=>?_,λh3=>(lno1 (by omega))⟩;intro hlE;refine⟨λh4=>?_,λh4=>(lno2 (by omega))⟩;intro hlP;refine⟨λh5=>(lno3 (by omega)),λh5=>?_⟩;refine yX4 (λk=>k<=x.yR9.length/\∀t∈x.yR9.take k,oC t=true) (λk=>xC [(1,.box 1 0),(3,.c (.i k))] [(1,.box (x.enc.map .c))]) (λk=>x.yR9.length-k) ?_
 rintro k ⟨hk,hall⟩
 rcases yX1 k x.yR9 with⟨hlt,t,ht⟩|hge
 .have g1:=(zaa.1 ht).2;simp[ht,g1,hlt,fC hlt];intro _;refine aA (jJ t (hsA.2 t (zac ht))) ?_;cases h6:oC t with
  |false=>simp;exact lno4 ht h6
  |true=>
   simp;refine⟨gB hlt hlA,k+1,⟨hlt,lD (p:=oC) ht hall h6⟩,by omega,?_⟩;apply aB<;>simp
 have hA:=dF (p:=oC) hge hall;simp[aG hge]
 refineλ_=>qA (ι:=Nat) (λk=>k<=x.ySd.length/\∀t∈x.ySd.take k,inRange t 1 9999=true) (λk=>xC [(1,.box 1 0),(4,.c (.i k))] [(1,.box (x.enc.map .c))]) (λk=>x.ySd.length-k) 0 (by simp) (by apply aB<;>simp) ?_
 clear hall hk hge k
 rintro k ⟨hk,hall⟩
 rcases yX1 k x.ySd with⟨hlt,t,ht⟩|hge
 .have g1:=(zaa.1 ht).2;simp[ht,g1,hlt,fC hlt];intro _;refine aA (bC t 1 9999) ?_;cases h6:inRange t 1 9999 with
  |false=>simp;exact lno5 ht h6
  |true=>
   simp;refine⟨gB hlt hlE,k+1,⟨hlt,lD (p:=λn=>inRange n 1 9999) ht hall h6⟩,by omega,?_⟩;apply aB<;>simp
 have hE:=dF (p:=λn=>inRange n 1 9999) hge hall;simp[aG hge]
 refineλ_=>qA (ι:=Nat) (λk=>k<=x.yR1.length/\∀t∈x.yR1.take k,yt x.yRX.length t=true) (λk=>xC [(1,.box 1 0),(5,.c (.i k))] [(1,.box (x.enc.map .c))]) (λk=>x.yR1.length-k) 0 (by simp) (by apply aB<;>simp) ?_
 clear hall hk hge k
 rintro k ⟨hk,hall⟩
 rcases yX1 k x.yR1 with⟨hlt,t,ht⟩|hge
 .have g1:=(zaa.1 ht).2;simp[ht,g1,hlt,fC hlt];intro _;refine aA (bC t.Time 0 1000000) ?_;cases h6:inRange t.Time 0 1000000 with
  |false=>simp;exact yEq ht (by simp[yt,h6])
  |true=>
  simp
  refineλhlW=>⟨by unfold maxLen at hlW;unfold inI;omega,?_⟩
  refine aA (bC t.yR8 0 (x.yRX.length-1)) ?_;cases h7:inRange t.yR8 0 (x.yRX.length-1)with
  |false=>simp;exact yEq ht (by simp[yt,h7])
  |true=>
  simp;refine aA (jJ t.yRT (hsP.2 t (zac ht))) ?_;cases h8:oC t.yRT with
  |false=>simp;exact yEq ht (by simp[yt,h8])
  |true=>
  simp;refine⟨gB hlt hlP,k+1,⟨hlt,lD (p:=yt x.yRX.length) ht hall (by simp[yt,h6,h7,h8])⟩,by omega,?_⟩;apply aB<;>simp
 have hP:=dF (p:=yt x.yRX.length) hge hall;simp[aG hge];intro _;have a3:x.yR9.length<=500:=by omega
 have a4:x.ySd.length<=2000:=by omega
 have a5:x.yR1.length<=500:=by omega
 simp only[pO,a3,a4,a5,hA,hE,hP];simp
def yc1(x:yRW)(hs:x.small):qB prg 52 [.agg (x.enc.map .c)] (.c (.b (rC x))):=by
 refine dB ynS ?_;simp;refine aA (bC x.Time 0 1000000) ?_;cases h1:inRange x.Time 0 1000000 with
 |false=>simp;simp[rC,h1]
 |true=>
 simp;refine aA (bC x.Start 0 1000000000) ?_;cases h2:inRange x.Start 0 1000000000 with
 |false=>simp;simp[rC,h2]
 |true=>
 simp;refine aA (bC x.In 0 1000000000) ?_;cases h3:inRange x.In 0 1000000000 with
 |false=>simp;simp[rC,h3]
 |true=>
 simp;refine aA (bC x.Out 0 1000000000) ?_;cases h4:inRange x.Out 0 1000000000 with
 |false=>simp;simp[rC,h4]
 |true=>
 simp;refine aA (yBx x hs) ?_;cases h5:sJ x with
 |false=>simp;simp[rC,h5]
 |true=>
 simp;refine aA (yCm x hs) ?_;cases h6:pO x with
 |false=>simp;simp[rC,h6]
 |true=>
 simp;refine aA (yfH x.yRZ) ?_;cases h7:nH x.yRZ with
 |false=>simp;simp[rC,h7]
 |true=>
 simp;refine aA (yjB x.Book) ?_;simp;simp[rC,h1,h2,h3,h4,h5,h6,h7]
structure ySK(x:yRW):Prop where
 ySA:jY x.yRV=true
 few:x.yRX.length<=5
 rng:∀w∈x.yRX,0<=w.yR0.ySn/\w.yR0.ySn<=1000000000
 start:0<=x.Start/\x.Start<=1000000000
 inn:0<=x.In/\x.In<=1000000000
 out:0<=x.Out/\x.Out<=1000000000
def yCL{x:yRW}(h:rC x=true):ySK x:=by
 simp only[rC,zad]at h;obtain⟨⟨⟨⟨⟨⟨⟨h1,h2⟩,h3⟩,h4⟩,h5⟩,h6⟩,h7⟩,h8⟩:=h;simp only[sJ,zad,decide_eq_true_eq,zaf]at h2;obtain⟨⟨⟨⟨⟨⟨p1,p2⟩,p3⟩,p4⟩,p5⟩,p6⟩,p7⟩:=h2;have rf:=(ynr p1).len;refine⟨p1,by omega,λw hw=>?_,aC.1 h6,aC.1 h7,aC.1 h8⟩;have:=p7 w hw;simp only[fJ,lF,zad]at this;exact aC.1 this.1.1.1.1.1.1.1.1.2
def iJ{α:Type}{f:α->List C}(h:∀x,∀c∈f x,c.closed)(k:Nat)(l:List α):(C.ot k (l.map f)).closed:=by
 simp only[C.closed,zaO]
 rintro r ⟨x,_,rfl⟩ c hc
 exact h x c hc
def dP{l:List C}(h:∀c∈l,c.closed):(AV.agg (l.map .c)).closed:=by
 show∀c,c∈AV.cs (l.map AV.c)->c.closed
 rw[ypQ];exact h
def dQ{k:Int}(h:0<=k):inI (k.tmod 3):=by
 have:=zcZ 3 h;have:=zcE k (b:=3) (by omega);unfold inI;omega
def yeK(xs:List ySa):∀c∈jF xs,c.closed:=by simp[jF,C.closed]
def yRT.aF(e:yRT):∀c∈e.iD,c.closed:=by
 simp only[yRT.iD,zaC,zaP,or_false,forall_eq_or_imp,forall_eq];exact⟨by simp[C.closed],iJ yeK _ _⟩
def yR6.aF(e:yR6):∀c∈e.iD,c.closed:=by
 simp only[yR6.iD,zaC,zaP,or_false,forall_eq_or_imp,forall_eq];exact⟨by simp[C.closed],iJ yeK _ _,by simp[C.closed]⟩
def Reach.aF(e:Reach):∀c∈e.iD,c.closed:=by
 simp only[Reach.iD,zaC,zaP,or_false,forall_eq_or_imp,forall_eq];exact⟨by simp[C.closed],by simp[C.closed],by simp[C.closed]⟩
def yRZ.aF(e:yRZ):∀c∈e.iD,c.closed:=by
 simp only[yRZ.iD,zaC,zaP,or_false,forall_eq_or_imp,forall_eq];exact⟨by simp[C.closed],by simp[C.closed],by simp[C.closed],by simp[C.closed]⟩
def yyx(n:Nat)(k:Int)(h0:0<=k)(h1:k+2*n<=8000000000000000000):qB prg 235 [.c (.sl 2 (marked ylF 2 [] k n)),.c (.i k)] (.c (.i (k+2*n))):=by
 refine dB yoF (eP ?_);refine yX4 (λi=>i<=n) (λi=>xC [(0,.c (.sl 2 (marked ylF 2 [] k n))),(1,.c (.i (k+2*i))),(5,.c (.i i))] []) (λi=>n-i) ?_
 rintro i hi
 rcases zan i n with hlt|hge
 .have hg:=ydI (mk:=ylF) (c:=2) (k:=k) hlt;simp only[ylF]at hg;simp -dsimp[kE,fC hlt,hg];intro hlen
  repeat(refine⟨by first|exact hlt|(unfold inI;omega)|exact dQ (by omega),?_⟩)
  refine⟨i+1,hlt,by omega,?_⟩;apply aB<;>simp<;>omega
 .have:i=n:=by omega
  subst this;simp -dsimp[kE]
def yCC(xs:List Reach)(hl:ybv xs):nI prg 91 [.c (.sl 3 (xs.map Reach.enc))] (.c (.ot 3 (xs.map Reach.iD))):=by
 refine fF yit (eP ?_);intro hlen;have hl1:=hl.1;refine⟨by omega,?_⟩;refine yX2 (λk=>k<=xs.length) (λk=>xC [(0,.c (.sl 3 (xs.map Reach.enc))),(3,.own 7 3 xs.length),(4,.c (.i k))] [(7,.tr 3 0 (partly Reach.iD [.sl 2 [],.i 0,.sl 1 []] xs k))]) (λk=>xs.length-k) (by apply aB<;>simp[mF,Obj.leO]) ?_
 rintro k hk
 rcases yX1 k xs with⟨hlt,e,he⟩|hge
 .have hs:=fG (f:=Reach.iD) (z:=[.sl 2 [],.i 0,.sl 1 []]) he;have hd:=qG (f:=Reach.iD) (z:=[.sl 2 [],.i 0,.sl 1 []]) (n:=3) rfl hlt;simp only[Reach.iD]at hs;refine yaed he (fC hlt) ?_;intro _;refine yX3 (yFd e (hl.2 e (zac he))) (dP (Reach.aF _)) ?_;simp -dsimp[fC hlt,dG hk,jA,hd,hs];exact⟨hlt,gB hlt hlen,k+1,hlt,by omega,by apply aB<;>simp[Obj.leO]⟩
 .refine eU (aG hge) ?_;intro _;rw[eG hge,jA]
def aH(e:Reach):Nat:=2*e.ySg.length+1+e.ySk.length
def rY(k:Int)(e:Reach):List C:=[.ow 2 (marked ylF 2 [] k e.ySg.length),.i (k+2*(e.ySg.length:Int)),.ow 1 (marked qC 1 [] (k+2*(e.ySg.length:Int)+1) e.ySk.length)]
def yea(k:Int)(e:Reach):List C:=[.sl 2 (marked ylF 2 [] k e.ySg.length),.i (k+2*(e.ySg.length:Int)),.sl 1 (marked qC 1 [] (k+2*(e.ySg.length:Int)+1) e.ySk.length)]
def ynZ(k:Int)(e:Reach):dO (rY k e)=some (yea k e):=by simp[rY,yea,dO,C.shr]
end
end Go.Proofs.YtdadkiofenhnbaaGreat
