/- What the law FnExactWorkLock stands on: contracts of functions, what each answers as plain Lean, in short form (names, layout). -/
import Derived.Test.YtekgilpcgbbfcaaGreatSExactWorkLock7
set_option linter.all false
set_option maxRecDepth 100000
set_option maxHeartbeats 4000000
namespace Go.Proofs.YtekgilpcgbbfcaaGreat
open Go.RowKit
noncomputable section
def yBG(xs:List ySc)(hl:ydu xs):nI prg 286 [.c (.sl 2 (xs.map ySc.enc))] (.c (.ow 2 (xs.map ySc.enc))):=by
 refine fF yic ?_;simp -dsimp -implicitDefEqProofs [ycU];intro hlen;have hl1:=hl.1;refine⟨by omega,?_⟩;refine qA (ι:=Nat) (λk=>k<=xs.length) (λk=>xC [(0,.c (.sl 2 (xs.map ySc.enc))),(3,.own 7 2 xs.length),(4,.c (.i k))] [(7,.row 2 (partly ySc.enc [.i 0,.i 0] xs k))]) (λk=>xs.length-k) 0 (by simp) (by apply aB<;>simp[mF]) ?_
 rintro k hk
 rcases zae k xs.length with hlt|hge
 .obtain⟨e,he⟩:∃e,xs[k]?=some e:=⟨_,zaa hlt⟩;have hs:=fG (f:=ySc.enc) (z:=[.i 0,.i 0]) he;have hd:=qG (f:=ySc.enc) (z:=[.i 0,.i 0]) (n:=2) rfl hlt;simp only[ySc.enc]at hs;simp -dsimp -implicitDefEqProofs [he,fC hlt]
  refineλ_=>iF (yxe e) (by simp) rfl ?_
  simp -dsimp -implicitDefEqProofs [fC hlt,dG hk,hd,hs];exact⟨hlt,gB hlt hlen,k+1,hlt,by omega,by apply aB<;>simp⟩
 .simp -dsimp -implicitDefEqProofs [aG hge];intro _;rw[eG hge,zad (by simp)]
@[simp] def yR6.iD(e:yR6):List C:=[.b e.yRT.Up,.ot 1 (e.yRT.Rows.map jF),.i e.Place]
def yR6.bF(e:yR6):dO e.iD=some e.enc:=by simp[yR6.iD,dO,yY yI]
def yE7(e:yR6)(hl:yR6.small e):nI prg 293 [.agg (e.enc.map .c)] (.agg (e.iD.map .c)):=by
 refine fF yj2 ?_;simp -dsimp -implicitDefEqProofs [ydS];refine sD (ylg e.yRT hl) (by simp) (by simp[AV.closed,AV.jI,C.closed,jF]) (by simp[fD]) ?_;simp -dsimp -implicitDefEqProofs [jA]
def yB7(xs:List yR6)(hl:xs.length<=1048576/\∀x∈xs,x.small):nI prg 180 [.c (.sl 3 (xs.map yR6.enc))] (.c (.ot 3 (xs.map yR6.iD))):=by
 refine fF yih ?_;simp -dsimp -implicitDefEqProofs [yc9];intro hlen;have hl1:=hl.1;refine⟨by omega,?_⟩;refine qA (ι:=Nat) (λk=>k<=xs.length) (λk=>xC [(0,.c (.sl 3 (xs.map yR6.enc))),(3,.own 7 3 xs.length),(4,.c (.i k))] [(7,.tr 3 0 (partly yR6.iD [.b false,.sl 1 [],.i 0] xs k))]) (λk=>xs.length-k) 0 (by simp) (by apply aB<;>simp[mF,Obj.leO]) ?_
 rintro k hk
 rcases zae k xs.length with hlt|hge
 .obtain⟨e,he⟩:∃e,xs[k]?=some e:=⟨_,zaa hlt⟩;have hs:=fG (f:=yR6.iD) (z:=[.b false,.sl 1 [],.i 0]) he;have hd:=qG (f:=yR6.iD) (z:=[.b false,.sl 1 [],.i 0]) (n:=3) rfl hlt;simp only[yR6.iD]at hs;simp -dsimp -implicitDefEqProofs [he,fC hlt];intro _;refine sD (yE7 e (hl.2 e (zac he))) (by simp) (by simp[AV.closed,AV.jI,C.closed,jF]) (by simp[fD]) ?_;simp -dsimp -implicitDefEqProofs [fC hlt,dG hk,jA,hd,hs];exact⟨hlt,gB hlt hlen,k+1,hlt,by omega,by apply aB<;>simp[Obj.leO]⟩
 .simp -dsimp -implicitDefEqProofs [aG hge];intro _;rw[eG hge,jA]
def ylF(k:Int):List C:=[.i k,.i (k+1)]
def yy5(xs:List ySc)(k:Int)(h0:0<=k)(h1:k+2*xs.length<=8000000000000000000):
 InF prg 191 (.c (cw 2 (xs.map ySc.enc))) (.c (cw 2 (marked ylF 2 [] k xs.length))) [.c (.i k)] (.c (.i (k+2*xs.length))):=by
 rcases zas xs.length with hx|hx
 .have:xs=[]:=zai.1 hx;subst this;refine aK ye6 (by simp) (by simp) rfl λhwf=>?_;simp -dsimp -implicitDefEqProofs [ybm,marked];refine qA (ι:=Unit) (λ_=>True) (λ_=>xC [(0,.c (.sl 2 [])),(1,.c (.i k)),(5,.c (.i 0)),(1000000,.c (.sl 2 []))] []) (λ_=>0) () trivial (by apply aB<;>simp) ?_
  rintro _ _
  simp -dsimp -implicitDefEqProofs
 .rw[kH (by simpa using hx),kH (by rw[kE];exact hx)];refine aK ye6 (by simp) (by simp) rfl λhwf=>?_;simp -dsimp -implicitDefEqProofs [ybm];refine qA (ι:=Nat) (λi=>i<=xs.length) (λi=>xC [(0,.own 0 2 xs.length),(1,.c (.i (k+2*i))),(5,.c (.i i)),(1000000,.own 0 2 xs.length)] [(0,.row 2 (marked ylF 2 (xs.map ySc.enc) k i))]) (λi=>xs.length-i) 0 (by simp) (by apply aB<;>simp[yaS]) ?_
  rintro i hi
  rcases zae i xs.length with hlt|hge
  .obtain⟨e,he⟩:∃e,xs[i]?=some e:=⟨_,zaa hlt⟩;have hg:=yb2 (mk:=ylF) (c:=2) (k:=k) (rows:=xs.map ySc.enc) (i:=i) (r:=e.enc) (by simp[he]);have hl:=ybS (mk:=ylF) (c:=2) (k:=k) (rows:=xs.map ySc.enc) (i:=i) (by simpa using hi);have hs:=ybU (mk:=ylF) (c:=2) (k:=k) (rows:=xs.map ySc.enc) (i:=i) (by simpa using hlt);rw[zaj]at hl;generalize marked ylF 2 (xs.map ySc.enc) k i=M at *;have hlt2:i<M.length:=by omega
   have hself:∀a,(M.set i a)[i]?=some a:=λa=>zaX hlt2;simp only[ylF]at hs;simp only[ySc.enc]at hg;simp -dsimp -implicitDefEqProofs [fC hlt,hg,hl,hlt2,hself];intro hlen;refine⟨hlt,by unfold inI;omega,hlt,by unfold inI;omega,by unfold inI;omega,i+1,hlt,by omega,?_⟩;apply aB<;>simp[hs,hself]<;>omega
  .have:i=xs.length:=by omega
   subst this;simp -dsimp -implicitDefEqProofs;intro _;have e:=ybJ (mk:=ylF) (c:=2) (rows:=xs.map ySc.enc) (k:=k) (i:=xs.length) (by simp);rw[e,zaj,zad (by rw[kE];exact Nat.le_refl _)]
@[simp] def Reach.iD(e:Reach):List C:=[.ow 2 (e.ySg.map ySc.enc),.i e.ySh,.ow 1 (e.ySk.map qC)]
def Reach.bF(e:Reach):dO e.iD=some e.enc:=by simp[Reach.iD,dO,C.shr]
def yFd(e:Reach)(hl:Reach.small e):nI prg 177 [.agg (e.enc.map .c)] (.agg (e.iD.map .c)):=by
 refine fF yjc ?_;simp -dsimp -implicitDefEqProofs [ydM];refine sD (yBG e.ySg hl.1) (by simp) (by simp[AV.closed,AV.jI,C.closed]) (by simp[fD]) ?_;simp -dsimp -implicitDefEqProofs [jA];refine sD (ynU e.ySk hl.2.1) (by simp) (by simp[AV.closed,AV.jI,C.closed]) (by simp[fD]) ?_;simp -dsimp -implicitDefEqProofs [jA]
def Reach.yv7(e:Reach):List C:=[cw 2 (e.ySg.map ySc.enc),.i e.ySh,cw 1 (e.ySk.map qC)]
def fM(k:Int)(e:yR6):List C:=[.b (decide (k.tmod 3=0)),.ot 1 (dH fB nB (k+1) e.yRT.Rows),.i (k+1+cnt nB e.yRT.Rows)]
def nM(e:yR6):Nat:=1+cnt nB e.yRT.Rows+1
def yyR(xs:List yR6)(k:Int)(h0:0<=k)(h1:k+cnt nM xs<=8000000000000000000):
 InF prg 194 (.c (ct 3 (xs.map yR6.iD))) (.c (ct 3 (dH fM nM k xs))) [.c (.i k)] (.c (.i (k+cnt nM xs))):=by
 rcases zas xs.length with hx|hx
 .have:xs=[]:=zai.1 hx;subst this;refine aK yeS (by simp) (by simp) rfl λhwf=>?_;simp -dsimp -implicitDefEqProofs [ybn,dH,cnt];refine qA (ι:=Unit) (λ_=>True) (λ_=>xC [(0,.c (.sl 3 [])),(1,.c (.i k)),(5,.c (.i 0)),(1000000,.c (.sl 3 []))] []) (λ_=>0) () trivial (by apply aB<;>simp) ?_
  rintro _ _
  simp -dsimp -implicitDefEqProofs
 .rw[iY (by simpa using hx),iY (by rw[jD];exact hx)];refine aK yeS (by simp) (by simp) rfl λhwf=>?_;simp -dsimp -implicitDefEqProofs [ybn];refine qA (ι:=Nat) (λi=>i<=xs.length) (λi=>xC [(0,.own 0 3 xs.length),(1,.c (.i (k+pI nM xs i))),(5,.c (.i i)),(1000000,.own 0 3 xs.length)] [(0,.tr 3 0 (dX fM yR6.iD nM k xs i))]) (λi=>xs.length-i) 0 (by simp) (by apply aB<;>simp[yD,jK,Obj.leO]) ?_
  rintro i hi
  rcases zae i xs.length with hlt|hge
  .obtain⟨e,he⟩:∃e,xs[i]?=some e:=⟨_,zaa hlt⟩;have hg:=yaO (f:=fM) (g:=yR6.iD) (n:=nM) (k:=k) he;have hl:=yaK (f:=fM) (g:=yR6.iD) (n:=nM) (k:=k) (xs:=xs) (i:=i);have hs:=yaL (f:=fM) (g:=yR6.iD) (n:=nM) (k:=k) he;have hc:=kK (n:=nM) he;have hle:=kR (n:=nM) (xs:=xs) (i:=i+1);have hn:nM e=1+cnt nB e.yRT.Rows+1:=rfl;generalize hM:dX fM yR6.iD nM k xs i=M at *;have hlt2:i<M.length:=by omega
   have g1:M[i]=e.iD:=(zab.1 hg).2;have hself:∀a,(M.set i a)[i]?=some a:=λa=>zaX hlt2;simp only[yR6.iD]at hg g1;simp -dsimp -implicitDefEqProofs [fC hlt,hg,hl,hlt2,g1,hself,setAt];intro hlen;have hk:0<=k+pI nM xs i:=by omega
   have c1:C.ot 1 (e.yRT.Rows.map jF)=C.ot 1 (e.yRT.Rows.map jF):=rfl;refine⟨by have:=zdf 3 hk;have:=zcJ (k+pI nM xs i) (b:=3) (by omega);unfold inI;omega,hlt,by unfold inI;omega,hlt,?_⟩;refine fU (k0:=3) (ver:=1) (j:=1) (i:=(i:Int)) (r:=[.b (decide ((k+pI nM xs i).tmod 3=0)),.ot 1 (e.yRT.Rows.map jF),.i e.Place]) (c:=.ot 1 (e.yRT.Rows.map jF)) (c':=.ot 1 (dH fB nB (k+pI nM xs i+1) e.yRT.Rows)) (ydw e.yRT.Rows (k+pI nM xs i+1) (by omega) (by omega)) (by simp) rfl rfl rfl (by simpa using hself _) rfl ⟨_,by rw[jD];simp,rfl,rfl,rfl⟩ (by simp[C.sz]) ?_;simp -dsimp -implicitDefEqProofs [setAt,hself,hlt2,hl];refine⟨hlt,by unfold inI;omega,gB hlt hlen,i+1,hlt,by omega,?_⟩;simp only[fM]at hs;apply aB<;>simp[Obj.leO,hs]<;>omega
  .have:i=xs.length:=by omega
   subst this;simp -dsimp -implicitDefEqProofs;intro _;rw[yaX (Nat.le_refl _),cO (Nat.le_refl _),zad (by rw[jD];exact Nat.le_refl _)];exact⟨rfl,rfl⟩
def yHX{t:yRT}(h:ySw t):t.Rows.length<=6:=by
 have:∀l:List (List ySa),(∀r∈l,full r=true)->l.length<=l.flatten.length:=by
  intro l
  induction l with
  |nil=>simp
  |cons r l ih=>
   intro hl;have e1:=ih λx hx=>hl x (by simp[hx]);have e2:=yky.1 (hl r (by simp));simp only[zaK,zcu,zar];omega
 have h1:=this t.Rows h.rows;have h2:=h.len;unfold yRT.qE at h2;omega
def ylj{t:yRT}(h:ySw t){k:Nat}{r:List ySa}(hr:t.Rows[k]?=some r):1<=r.length/\r.length<=6/\∀b∈r,iL b=true:=by
 have h1:=yky.1 (h.rows r (zac hr));obtain⟨m,e⟩:=yqU hr;have h2:=h.len;rw[e]at h2;simp only[zar]at h2;exact⟨by omega,by omega,λb hb=>h.ok b (by rw[e];simp[hb])⟩
def sumF{α:Type}(f:α->Int)(l:List α)(k:Nat):Int:=((l.take k).map f).sum
def yca{α:Type}{f:α->Int}{l:List α}:sumF f l 0=0:=rfl
def yfQ{α:Type}{f:α->Int}{l:List α}{k:Nat}{x:α}(h:l[k]?=some x):sumF f l (k+1)=sumF f l k+f x:=by
 unfold sumF;rw[zat,h,zaE,zda];simp
def ygX{α:Type}{f:α->Int}{l:List α}{k:Nat}(h:l.length<=k):sumF f l k=(l.map f).sum:=by
 unfold sumF;rw[zad h]
def yx7{α:Type}{f:α->Int}{l:List α}{c:Int}(hc:0<=c)(h:∀x∈l,0<=f x/\f x<=c):∀k:Nat,0<=sumF f l k/\sumF f l k<=c*k
 |0=>by simp[yca]
 | k+1=>by
  have ih:=yx7 hc h k;have e:c*((k+1:Nat):Int)=c*k+c:=by rw[zcK,zdJ];simp
  cases hk:l[k]? with
  |none=>
   have:l.length<=k:=by simpa using hk
   have e2:sumF f l (k+1)=sumF f l k:=by unfold sumF;rw[zad (by omega),zad this]
   rw[e2,e];omega
  |some x=>
   have:=h x (zac hk);rw[yfQ hk,e];omega
def rowLen(r:List ySa):Int:=maxOf ySa.Length r 0
def aI(t:yRT):Int:=if oC t then(t.Rows.map rowLen).sum else 0
def yEg{r:List ySa}(h:∀b∈r,iL b=true):0<=rowLen r/\rowLen r<=200:=
 yuz (λx hx=>by have:=ygR (h x hx);omega) (by omega) (by omega)
def yke{t:yRT}(h:ySw t){k:Nat}(hk:k<=t.Rows.length):0<=sumF rowLen t.Rows k/\sumF rowLen t.Rows k<=1200:=by
 have h1:=yx7 (f:=rowLen) (l:=t.Rows) (c:=200) (by omega) (λr hr=>by
  obtain⟨i,hi⟩:=zau hr;exact yEg (ylj h hi).2.2) k
 have:=yHX h;omega
def yfk(t:yRT):0<=aI t/\aI t<=1200:=by
 unfold aI;split
 .rename_i h;have:=yke (lK h) (Nat.le_refl _);rw[ygX (Nat.le_refl _)]at this;exact this
 .omega
def ymp(t:yRT)(h:t.small):qB prg 353 [.agg (t.enc.map .c)] (.c (.i (aI t))):=by
 refine dB yrW ?_;simp -dsimp -implicitDefEqProofs [yhT];refine aA (gK t h) ?_;simp -dsimp -implicitDefEqProofs;refine⟨λh1=>by simp[aI,h1],λh1 hlen=>?_⟩;have tf:=lK h1;refine qA (ι:=Nat) (λk=>k<=t.Rows.length) (λk=>xC [(3,.c (.i (sumF rowLen t.Rows k))),(13,.c (.sl 1 (t.Rows.map jE))),(14,.c (.i t.Rows.length)),(15,.c (.i k))] []) (λk=>t.Rows.length-k) 0 (by simp) (by apply aB<;>simp[yca]) ?_
 rintro k hk
 rcases zae k t.Rows.length with hlt|hge
 .obtain⟨r,hr⟩:∃r,t.Rows[k]?=some r:=⟨_,zaa hlt⟩;simp -dsimp -implicitDefEqProofs [hr,fC hlt];intro hrl;refine qA (ι:=Nat) (λj=>j<=r.length) (λj=>xC [(3,.c (.i (sumF rowLen t.Rows k))),(13,.c (.sl 1 (t.Rows.map jE))),(14,.c (.i t.Rows.length)),(15,.c (.i k)),(6,.c (.i (yjY ySa.Length r 0 j))),(19,.c (.sl 6 (r.map ySa.enc))),(20,.c (.i r.length)),(21,.c (.i j))] []) (λj=>r.length-j) 0 (by simp) (by apply aB<;>simp[yb3]) ?_
  rintro j hj
  rcases zae j r.length with hlt2|hge2
  .obtain⟨b,hb⟩:∃b,r[j]?=some b:=⟨_,zaa hlt2⟩;simp -dsimp -implicitDefEqProofs [hb,fC hlt2];refine⟨gB hlt2 hrl,j+1,hlt2,by omega,?_⟩;apply aB<;>simp[yhH hb]
  .simp -dsimp -implicitDefEqProofs [aG hge2];have b1:=yke tf hk;have b2:=yke tf (show k+1<=t.Rows.length from hlt);have e:=yfQ (f:=rowLen) hr;rw[yk9 hge2];have e':sumF rowLen t.Rows (k+1)=sumF rowLen t.Rows k+maxOf ySa.Length r 0:=e;refine⟨by unfold inI;omega,gB hlt hlen,k+1,hlt,by omega,?_⟩;apply aB<;>simp[e']
 .simp -dsimp -implicitDefEqProofs [aG hge];simp[aI,h1,ygX hge]
def ycg(t:yRT)(h:t.small):qB prg 338 [.agg (t.enc.map .c)] (.c (.i (aI t))):=by
 refine dB yrH ?_;simp -dsimp -implicitDefEqProofs [yiG];refine qA (ι:=Nat) (λk=>k<=t.Rows.length/\(k≠0->oC t=true)) (λk=>xC [(1,.box 1 0),(3,.c (.i (sumF rowLen t.Rows k))),(4,.c (.i k))] [(1,.box (t.enc.map .c))]) (λk=>t.Rows.length-k) 0 (by simp) (by apply aB<;>simp[yca]) ?_
 rintro k ⟨hk,hok⟩
 have fin:oC t=false->k=0:=λh1=>by
  rcases zas k with e|e
  .exact e
  .rw[hok (by omega)]at h1;cases h1
 rcases zae k t.Rows.length with hlt|hge
 .obtain⟨r,hr⟩:∃r,t.Rows[k]?=some r:=⟨_,zaa hlt⟩;simp -dsimp -implicitDefEqProofs [hr,fC hlt];intro hlen;refine aA (jJ t h) ?_;simp -dsimp -implicitDefEqProofs [hr,fC hlt];refine⟨λh1=>?_,λh1=>?_⟩
  .have tf:=lK h1;refine qA (ι:=Nat) (λj=>j<=r.length) (λj=>xC [(1,.box 1 0),(3,.c (.i (sumF rowLen t.Rows k))),(4,.c (.i k)),(5,.c (.i (yjY ySa.Length r 0 j))),(6,.c (.i j))] [(1,.box (t.enc.map .c))]) (λj=>r.length-j) 0 (by simp) (by apply aB<;>simp[yb3]) ?_
   rintro j hj
   rcases zae j r.length with hlt2|hge2
   .obtain⟨b,hb⟩:∃b,r[j]?=some b:=⟨_,zaa hlt2⟩;simp -dsimp -implicitDefEqProofs [hr,fC hlt,hb,fC hlt2];intro hrl;refine⟨gB hlt2 hrl,j+1,hlt2,by omega,?_⟩;apply aB<;>simp[yhH hb]
   .simp -dsimp -implicitDefEqProofs [hr,fC hlt,aG hge2];have b1:=yke tf hk;have b2:=yke tf (show k+1<=t.Rows.length from hlt);have e':sumF rowLen t.Rows (k+1)=sumF rowLen t.Rows k+maxOf ySa.Length r 0:=yfQ (f:=rowLen) hr;rw[yk9 hge2]
    refineλ_=>⟨by unfold inI;omega,gB hlt hlen,k+1,⟨hlt,λ_=>h1⟩,by omega,?_⟩
    apply aB<;>simp[e']
  .have:=fin h1;subst this;simp[aI,h1,yca]
 .simp -dsimp -implicitDefEqProofs [aG hge];intro _
  by_cases h1:oC t=true
  .simp[aI,h1,ygX hge]
  .have:=fin (by simpa using h1);subst this;simp[aI,h1,yca]
def ycV(r:List ySa):Int:=(r.map ySa.Width).sum
def yBX(l:List (List ySa)):Int:=l.foldl (λm r=>if m<ycV r then ycV r else m) 0
def xZ(l:List (List ySa))(k:Nat):Int:=yBX (l.take k)
def yfl{l:List (List ySa)}:xZ l 0=0:=rfl
def yqX{l:List (List ySa)}{k:Nat}{r:List ySa}(h:l[k]?=some r):xZ l (k+1)=if xZ l k<ycV r then ycV r else xZ l k:=by
 unfold xZ yBX;rw[zat,h,zct];rfl
def ytc{l:List (List ySa)}{k:Nat}(h:l.length<=k):xZ l k=yBX l:=by
 unfold xZ;rw[zad h]
def iH(t:yRT):Int:=if oC t then yBX t.Rows else 0
def yuB{r:List ySa}(h:∀b∈r,iL b=true)(h6:r.length<=6){k:Nat}(hk:k<=r.length):0<=sumF ySa.Width r k/\sumF ySa.Width r k<=180:=by
 have:=yx7 (f:=ySa.Width) (l:=r) (c:=30) (by omega) (λb hb=>by have:=ygR (h b hb);omega) k;omega
def yIu{l:List (List ySa)}(h:∀r∈l,0<=ycV r/\ycV r<=180):0<=yBX l/\yBX l<=180:=by
 unfold yBX
 have:∀(l:List (List ySa)) (z:Int),(∀r∈l,0<=ycV r/\ycV r<=180)->0<=z->z<=180->0<=l.foldl (λm r=>if m<ycV r then ycV r else m) z/\l.foldl (λm r=>if m<ycV r then ycV r else m) z<=180:=by
  intro l
  induction l with
  |nil=>intro z _ h1 h2;exact⟨h1,h2⟩
  |cons r l ih=>
   intro z h h1 h2;have:=h r (by simp);rw[zbQ];refine ih _ (λy hy=>h y (by simp[hy])) ?_ ?_<;>split<;>omega
 exact this l 0 h (by omega) (by omega)
def yhm(t:yRT):0<=iH t/\iH t<=180:=by
 unfold iH;split
 .rename_i h;refine yIu λr hr=>?_;obtain⟨i,hi⟩:=zau hr;obtain⟨a1,a2,a3⟩:=ylj (lK h) hi;have:=yuB a3 a2 (Nat.le_refl _);rw[ygX (Nat.le_refl _)]at this;exact this
 .omega
def ynE(t:yRT)(h:t.small):qB prg 352 [.agg (t.enc.map .c)] (.c (.i (iH t))):=by
 refine dB yuc ?_;simp -dsimp -implicitDefEqProofs [yki];refine aA (gK t h) ?_;simp -dsimp -implicitDefEqProofs;refine⟨λh1=>by simp[iH,h1],λh1 hlen=>?_⟩;have tf:=lK h1;refine qA (ι:=Nat) (λk=>k<=t.Rows.length) (λk=>xC [(3,.c (.i (xZ t.Rows k))),(13,.c (.sl 1 (t.Rows.map jE))),(14,.c (.i t.Rows.length)),(15,.c (.i k))] []) (λk=>t.Rows.length-k) 0 (by simp) (by apply aB<;>simp[yfl]) ?_
 rintro k hk
 rcases zae k t.Rows.length with hlt|hge
 .obtain⟨r,hr⟩:∃r,t.Rows[k]?=some r:=⟨_,zaa hlt⟩;obtain⟨a1,a2,a3⟩:=ylj tf hr;simp -dsimp -implicitDefEqProofs [hr,fC hlt];intro hrl;refine qA (ι:=Nat) (λj=>j<=r.length) (λj=>xC [(3,.c (.i (xZ t.Rows k))),(13,.c (.sl 1 (t.Rows.map jE))),(14,.c (.i t.Rows.length)),(15,.c (.i k)),(6,.c (.i (sumF ySa.Width r j))),(19,.c (.sl 6 (r.map ySa.enc))),(20,.c (.i r.length)),(21,.c (.i j))] []) (λj=>r.length-j) 0 (by simp) (by apply aB<;>simp[yca]) ?_
  rintro j hj
  rcases zae j r.length with hlt2|hge2
  .obtain⟨b,hb⟩:∃b,r[j]?=some b:=⟨_,zaa hlt2⟩;have b1:=yuB a3 a2 (show j+1<=r.length from hlt2);have e:=yfQ (f:=ySa.Width) hb;simp -dsimp -implicitDefEqProofs [hb,fC hlt2];refine⟨by unfold inI;omega,gB hlt2 hrl,j+1,hlt2,by omega,?_⟩;apply aB<;>simp[e]
  .simp -dsimp -implicitDefEqProofs [aG hge2];rw[ygX hge2];have e:xZ t.Rows (k+1)=if xZ t.Rows k<(r.map ySa.Width).sum then(r.map ySa.Width).sum else xZ t.Rows k:=yqX hr
   refine⟨gB hlt hlen,k+1,hlt,by omega,?_⟩;apply aB<;>simp[e]
 .simp -dsimp -implicitDefEqProofs [aG hge];simp[iH,h1,ytc hge]
def ynV(t:yRT)(h:t.small):qB prg 337 [.agg (t.enc.map .c)] (.c (.i (iH t))):=by
 refine dB yss ?_;simp -dsimp -implicitDefEqProofs [ykn];refine qA (ι:=Nat) (λk=>k<=t.Rows.length/\(k≠0->oC t=true)) (λk=>xC [(1,.box 1 0),(3,.c (.i (xZ t.Rows k))),(4,.c (.i k))] [(1,.box (t.enc.map .c))]) (λk=>t.Rows.length-k) 0 (by simp) (by apply aB<;>simp[yfl]) ?_
 rintro k ⟨hk,hok⟩
 have fin:oC t=false->k=0:=λh1=>by
  rcases zas k with e|e
  .exact e
  .rw[hok (by omega)]at h1;cases h1
 rcases zae k t.Rows.length with hlt|hge
 .obtain⟨r,hr⟩:∃r,t.Rows[k]?=some r:=⟨_,zaa hlt⟩;simp -dsimp -implicitDefEqProofs [hr,fC hlt];intro hlen;refine aA (jJ t h) ?_;simp -dsimp -implicitDefEqProofs [hr,fC hlt];refine⟨λh1=>?_,λh1=>?_⟩
  .have tf:=lK h1;obtain⟨a1,a2,a3⟩:=ylj tf hr;refine qA (ι:=Nat) (λj=>j<=r.length) (λj=>xC [(1,.box 1 0),(3,.c (.i (xZ t.Rows k))),(4,.c (.i k)),(5,.c (.i (sumF ySa.Width r j))),(6,.c (.i j))] [(1,.box (t.enc.map .c))]) (λj=>r.length-j) 0 (by simp) (by apply aB<;>simp[yca]) ?_
   rintro j hj
   rcases zae j r.length with hlt2|hge2
   .obtain⟨b,hb⟩:∃b,r[j]?=some b:=⟨_,zaa hlt2⟩;have b1:=yuB a3 a2 (show j+1<=r.length from hlt2);have e:=yfQ (f:=ySa.Width) hb;simp -dsimp -implicitDefEqProofs [hr,fC hlt,hb,fC hlt2];intro hrl;refine⟨by unfold inI;omega,gB hlt2 hrl,j+1,hlt2,by omega,?_⟩;apply aB<;>simp[e]
   .simp -dsimp -implicitDefEqProofs [hr,fC hlt,aG hge2];have e:xZ t.Rows (k+1)=if xZ t.Rows k<(r.map ySa.Width).sum then(r.map ySa.Width).sum else xZ t.Rows k:=yqX hr
    rw[ygX hge2]
    refineλ_=>⟨gB hlt hlen,k+1,⟨hlt,λ_=>h1⟩,by omega,?_⟩
    apply aB<;>simp[e]
  .have:=fin h1;subst this;simp[iH,h1,yfl]
 .simp -dsimp -implicitDefEqProofs [aG hge];intro _
  by_cases h1:oC t=true
  .simp[iH,h1,ytc hge]
  .have:=fin (by simpa using h1);subst this;simp[iH,h1,yfl]
def qO(t:yRT):Int:=if oC t then minOf ySa.Class t.qE (yDC ySa.Class t.qE)else -1
def yvn{t:yRT}(h:oC t=true):0<=qO t/\qO t<=2:=by
 unfold qO;rw[if_pos h];have hf:=lK h;obtain⟨r,b0,e1,e2,e3⟩:=yph hf;have:=ygR (hf.ok b0 (zac e3));exact yBi (λx hx=>by have:=ygR (hf.ok x hx);omega) (by rw[yHV e3];omega) (by rw[yHV e3];omega)
def yhh(t:yRT)(h:t.small):qB prg 354 [.agg (t.enc.map .c)] (.c (.i (qO t))):=by
 refine dB yta ?_;simp -dsimp -implicitDefEqProofs [ykE];refine aA (gK t h) ?_;simp -dsimp -implicitDefEqProofs;refine⟨λh1=>by simp[qO,h1],λh1=>?_⟩;obtain⟨r,b0,e1,e2,e3⟩:=yph (lK h1);have l1:0<t.Rows.length:=(zab.1 e1).1;have l2:0<r.length:=(zab.1 e2).1;have f1:=(zab.1 e1).2;have f2:=(zab.1 e2).2;simp -dsimp -implicitDefEqProofs [e1,e2,l1,l2,f1,f2];refine dD (yqd t h) ?_;simp -dsimp -implicitDefEqProofs;intro hlen;refine qA (ι:=Nat) (λk=>k<=t.qE.length) (λk=>xC [(3,.c (.i (yoz ySa.Class t.qE b0.Class k))),(17,.c (.sl 6 (t.qE.map ySa.enc))),(18,.c (.i t.qE.length)),(19,.c (.i k))] []) (λk=>t.qE.length-k) 0 (by simp) (by apply aB<;>simp[ysJ]) ?_
 rintro k hk
 rcases zae k t.qE.length with hlt|hge
 .obtain⟨b,hb⟩:∃b,t.qE[k]?=some b:=⟨_,zaa hlt⟩;simp -dsimp -implicitDefEqProofs [hb,fC hlt];refine⟨gB hlt hlen,k+1,hlt,by omega,?_⟩;apply aB<;>simp[yuw hb]
 .simp -dsimp -implicitDefEqProofs [aG hge];simp[qO,h1,yxb hge,yHV e3]
def yoZ(t:yRT)(h:t.small):qB prg 358 [.agg (t.enc.map .c)] (.c (.i (qO t))):=by
 refine dB ytX ?_;simp -dsimp -implicitDefEqProofs [yjH];refine dD (yhF t h) ?_;simp -dsimp -implicitDefEqProofs;refine aA (jJ t h) ?_;simp -dsimp -implicitDefEqProofs;refine⟨λh1=>by simp[qO,h1],λh1=>?_⟩;obtain⟨r,b0,e1,e2,e3⟩:=yph (lK h1);have l1:0<t.qE.length:=(zab.1 e3).1;have f3:=(zab.1 e3).2;simp -dsimp -implicitDefEqProofs [e3,l1,f3];refine qA (ι:=Nat) (λk=>k<=t.qE.length) (λk=>xC [(3,.c (.sl 6 (t.qE.map ySa.enc))),(4,.c (.i (yoz ySa.Class t.qE b0.Class k))),(5,.c (.i k))] []) (λk=>t.qE.length-k) 0 (by simp) (by apply aB<;>simp[ysJ]) ?_
 rintro k hk
 rcases zae k t.qE.length with hlt|hge
 .obtain⟨b,hb⟩:∃b,t.qE[k]?=some b:=⟨_,zaa hlt⟩;simp -dsimp -implicitDefEqProofs [hb,fC hlt];intro hlen;refine⟨gB hlt hlen,k+1,hlt,by omega,?_⟩;apply aB<;>simp[yuw hb]
 .simp -dsimp -implicitDefEqProofs [aG hge];intro _;simp[qO,h1,yxb hge,yHV e3]
def yH(e:yRZ)(l:Int):Int:=sO (yhM e.yR5 l) λl=>sO (yhM e.yR7 l) λl=>l
def ynx:ya8 yH yRZ.small:=by
 intro e l h0 h1;unfold yH;rcases ybM e.yR5 _ h0 h1 with e0|⟨a0,b0,s0⟩
 .exact .inl (oD (by omega))
 rw[xB a0];rcases ybM e.yR7 _ a0 (by omega)with e1|⟨a1,b1,s1⟩
 .exact .inl (oD (by omega))
 rw[xB a1];exact .inr ⟨a1,by omega,s0.1,s1.1⟩
def yAc(e:yRZ)(l:Int)(h0:0<=l)(h1:l<=1048576):qB prg 58 [.agg (e.enc.map .c),.c (.i l)] (.c (.i (yH e l))):=by
 refine dB yrv ?_;simp -dsimp -implicitDefEqProofs [yiO];refine aA (yk2 e.yR5 _ h0 h1) ?_;simp -dsimp -implicitDefEqProofs;refine⟨λh=>by simp[yH,oD h],λp0=>?_⟩;have q0:=yiI ybM e.yR5 h0 h1 p0;refine aA (yk2 e.yR7 _ p0 q0) ?_;simp -dsimp -implicitDefEqProofs;refine⟨λh=>by simp[yH,xB p0,oD h],λp1=>?_⟩;simp[yH,xB p0,xB p1]
structure ySH(t:yRZ):Prop where
 base:0<=t.Base/\t.Base<=10000
 area:0<=t.ySe/\t.ySe<=100
 three:t.yR5.length=3
 cls:∀x∈t.yR5,0<=x/\x<=10000
 wlen:1<=t.yR7.length/\t.yR7.length<=11
 wts:∀x∈t.yR7,0<=x/\x<=1000
 sum:0<t.yR7.sum
def yzq{t:yRZ}(h:nH t=true):ySH t:=by
 simp only[nH,zaf,zah,decide_eq_true_eq]at h;obtain⟨⟨⟨⟨⟨⟨h1,h2⟩,h3⟩,h4⟩,h5⟩,h6⟩,h7⟩:=h;have h4:=aC.1 h4;exact⟨aC.1 h1,aC.1 h2,h3,λx hx=>aC.1 (h5 x hx),by omega,λx hx=>aC.1 (h6 x hx),h7⟩
def lT(t:yRZ)(x:yRT):Int:=if nH t&&oC x then t.Base+(t.ySe*aI x*iH x).tdiv 100+t.yR5[(qO x).toNat]?.getD 0 else 0
def yqx{t:yRZ}{x:yRT}(h1:nH t=true)(h2:oC x=true):
 ∃c,t.yR5[(qO x).toNat]?=some c/\0<=qO x/\qO x<t.yR5.length/\inI (t.ySe*aI x)/\inI (t.ySe*aI x*iH x)/\inI ((t.ySe*aI x*iH x).tdiv 100)/\
  inI (t.Base+(t.ySe*aI x*iH x).tdiv 100)/\inI (t.Base+(t.ySe*aI x*iH x).tdiv 100+c)/\0<=t.Base+(t.ySe*aI x*iH x).tdiv 100+c/\t.Base+(t.ySe*aI x*iH x).tdiv 100+c<=1000000:=by
 have tf:=yzq h1;have a1:=yfk x;have a2:=yhm x;have a3:=yvn h2;have b1:=tf.base;have b2:=tf.area;have b3:=tf.three;obtain⟨c,hc⟩:∃c,t.yR5[(qO x).toNat]?=some c:=⟨_,zaa (by omega)⟩;have b4:=tf.cls c (zac hc);have e1:0<=t.ySe*aI x:=zcA b2.1 a1.1;have e2:t.ySe*aI x<=100*1200:=zcQ b2.2 a1.2 a1.1 (by omega);have e3:0<=t.ySe*aI x*iH x:=zcA e1 a2.1;have e4:t.ySe*aI x*iH x<=120000*180:=zcQ (by omega) a2.2 a2.1 (by omega);have e5:(t.ySe*aI x*iH x).tdiv 100=(t.ySe*aI x*iH x)/100:=zbf e3;rw[e5];refine⟨c,hc,a3.1,by omega,?_,?_,?_,?_,?_,by omega,by omega⟩<;>unfold inI<;>omega
def yAg(t:yRZ)(x:yRT)(h:x.small):qB prg 329 [.agg (t.enc.map .c),.agg (x.enc.map .c)] (.c (.i (lT t x))):=by
 refine dB ywt ?_;simp -dsimp -implicitDefEqProofs [yl9];refine aA (yfw t) ?_;cases h1:nH t with
 |false=>simp -dsimp -implicitDefEqProofs;simp[lT,h1]
 | true=>
  simp -dsimp -implicitDefEqProofs;refine aA (gK x h) ?_;cases h2:oC x with
  |false=>simp -dsimp -implicitDefEqProofs;simp[lT,h2]
  |true=>
   obtain⟨c,hc,c1,c2,c3,c4,c5,c6,c7,_,_⟩:=yqx h1 h2;simp -dsimp -implicitDefEqProofs;refine lC (ymp x h) ?_;simp -dsimp -implicitDefEqProofs;refine⟨c3,?_⟩;refine lC (ynE x h) ?_;simp -dsimp -implicitDefEqProofs;refine⟨c4,c5,c6,?_⟩;refine lC (yhh x h) ?_;have hg:=(zab.1 hc).2;simp -dsimp -implicitDefEqProofs [hc,c1,c2,hg];exact⟨c7,by simp[lT,h1,h2,hc]⟩
def yBg(t:yRZ)(x:yRT)(h:x.small):qB prg 342 [.agg (t.enc.map .c),.agg (x.enc.map .c)] (.c (.i (lT t x))):=by
 refine dB ywq ?_;simp -dsimp -implicitDefEqProofs [ylP];refine aA (yfH t) ?_;cases h1:nH t with
 |false=>simp -dsimp -implicitDefEqProofs;simp[lT,h1]
 | true=>
  simp -dsimp -implicitDefEqProofs;refine aA (jJ x h) ?_;cases h2:oC x with
  |false=>simp -dsimp -implicitDefEqProofs;simp[lT,h2]
  |true=>
   obtain⟨c,hc,c1,c2,c3,c4,c5,c6,c7,_,_⟩:=yqx h1 h2;simp -dsimp -implicitDefEqProofs;refine lC (ycg x h) ?_;simp -dsimp -implicitDefEqProofs;refine⟨c3,?_⟩;refine lC (ynV x h) ?_;simp -dsimp -implicitDefEqProofs;refine⟨c4,c5,c6,?_⟩;refine lC (yoZ x h) ?_;have hg:=(zab.1 hc).2;simp -dsimp -implicitDefEqProofs [hc,c1,c2,hg];exact⟨c7,by simp[lT,h1,h2,hc]⟩
def yqo{α β:Type}{f:α->β}{l:List α}:(l.map f).take l.length=l.map f:=zad (by simp)
def lG(t:yRT):List Int:=if oC t then t.qE.map yc0 else[]
def ydb(t:yRT)(k:Nat):List Int:=(t.qE.take k).map yc0
def yfb{t:yRT}:ydb t 0=[]:=rfl
def yqG{t:yRT}{k:Nat}{b:ySa}(h:t.qE[k]?=some b):ydb t (k+1)=ydb t k++[b.Id]:=by
 unfold ydb;rw[zat,h,zaE];rfl
def yuu{t:yRT}{k:Nat}(h:t.qE.length<=k):ydb t k=t.qE.map yc0:=by
 unfold ydb;rw[zad h]
def yso{t:yRT}{k:Nat}(h:k<=t.qE.length):(ydb t k).length=k:=by
 unfold ydb;simp;omega
def ya0(t:yRT)(h:t.small):qB prg 49 [.agg (t.enc.map .c)] (.c (.sl 1 ((lG t).map qC))):=by
 refine dB yyu ?_;simp -dsimp -implicitDefEqProofs [yop];refine aA (gK t h) ?_;cases h1:oC t with
 |false=>simp -dsimp -implicitDefEqProofs;simp[lG,h1]
 | true=>
  have tf:=lK h1;have h6:=tf.len;simp -dsimp -implicitDefEqProofs;refine dD (yqd t h) ?_;simp -dsimp -implicitDefEqProofs;intro hlen;refine jX (k0:=1) 3 1 (by simp) (by simp) (by decide) ?_;refine qA (ι:=Nat) (λk=>k<=t.qE.length) (λk=>xC [(3,.own 3 1 (ydb t k).length),(10,.c (.sl 6 (t.qE.map ySa.enc))),(11,.c (.i t.qE.length)),(12,.c (.i k))] [(3,.row 1 ((ydb t k).map qC))]) (λk=>t.qE.length-k) 0 (by simp) (by apply aB<;>simp[yfb]) ?_
  rintro k hk
  have hkl:=yso hk;rcases zae k t.qE.length with hlt|hge
  .obtain⟨b,hb⟩:∃b,t.qE[k]?=some b:=⟨_,zaa hlt⟩;simp -dsimp -implicitDefEqProofs [hb,fC hlt];refine⟨by omega,gB hlt hlen,k+1,hlt,by omega,?_⟩;apply aB<;>simp[yqG hb]
  .simp -dsimp -implicitDefEqProofs [aG hge];rw[yqo,yuu hge];simp[lG,h1]
def yaG(t:yRT)(h:t.small):qB prg 36 [.agg (t.enc.map .c)] (.c (.sl 1 ((lG t).map qC))):=by
 refine dB yzb ?_;simp -dsimp -implicitDefEqProofs [yoP];refine dD (yhF t h) ?_;simp -dsimp -implicitDefEqProofs;refine qA (ι:=Nat) (λk=>k<=t.qE.length/\(k≠0->oC t=true)) (λk=>xC [(1,.box 1 0),(3,.own 6 1 (ydb t k).length),(4,.c (.sl 6 (t.qE.map ySa.enc))),(5,.c (.i k))] [(1,.box (t.enc.map .c)),(6,.row 1 ((ydb t k).map qC))]) (λk=>t.qE.length-k) 0 (by simp) (by apply aB<;>simp[yfb]) ?_
 rintro k ⟨hk,hok⟩
 have hkl:=yso hk
 have fin:oC t=false->k=0:=λh1=>by
  rcases zas k with e|e
  .exact e
  .rw[hok (by omega)]at h1;cases h1
 rcases zae k t.qE.length with hlt|hge
 .obtain⟨b,hb⟩:∃b,t.qE[k]?=some b:=⟨_,zaa hlt⟩;simp -dsimp -implicitDefEqProofs [hb,fC hlt];intro hlen;refine aA (jJ t h) ?_;cases h1:oC t with
  |false=>
   have:=fin h1;subst this;simp -dsimp -implicitDefEqProofs;simp[lG,h1,yfb]
  |true=>
   have h6:=(lK h1).len;simp -dsimp -implicitDefEqProofs [hb,fC hlt];refine⟨by omega,gB hlt hlen,k+1,by first|exact⟨hlt,λ_=>h1⟩|exact hlt,by omega,?_⟩;apply aB<;>simp[yqG hb]
 .simp -dsimp -implicitDefEqProofs [aG hge];intro _;rw[yqo]
  by_cases h1:oC t=true
  .rw[yuu hge];simp[lG,h1]
  .have:=fin (by simpa using h1);subst this;simp[lG,h1,yfb]
def yx0{t:yRT}(h:oC t=true):(lG t).length<=6:=by
 have:=(lK h).len;simp[lG,h];omega
def yLG{t:yRT}(h:oC t=true):(lG t).Nodup:=by
 have:=(lK h).nd;simp only[lG,h,if_true];exact this
def yT:List yRT->Int->Int:=ybF kT
def aJ:List yRT->Prop:=aW yRT.small
def ygY:ya8 yT aJ:=yeR ycE
def yqO(xs:List yRT)(l:Int)(h0:0<=l)(h1:l<=1048576):qB prg 56 [.c (.sl 2 (xs.map yRT.enc)),.c (.i l)] (.c (.i (yT xs l))):=by
 refine dB yr1 ?_;simp -dsimp -implicitDefEqProofs [yh9];intro hl;have hs:szS xs.length l=if l-xs.length<0 then -1 else l-xs.length:=rfl
 refine⟨by unfold maxLen at hl;unfold inI;omega,λh=>?_,λh=>?_⟩
 .simp[yT,ybF,sO,hs,h]
 have h':0<=l-xs.length:=by omega
 have e0:yT xs l=sG kT xs (l-xs.length):=by
  have:szS xs.length l=l-xs.length:=by rw[hs,if_neg (by omega)]
  simp only[yT,ybF];rw[this,xB h']
 refine qA (ι:=Nat×Int) (λp=>p.1<=xs.length/\0<=p.2/\p.2<=1048576/\sG kT (xs.drop p.1) p.2=yT xs l) (λp=>xC [(0,.c (.sl 2 (xs.map yRT.enc))),(1,.c (.i p.2)),(5,.c (.i p.1))] []) (λp=>xs.length-p.1) (0,l-xs.length) ⟨by simp,h',by simp only;omega,by simp[e0]⟩ (by apply aB<;>simp) ?_
 rintro⟨k,q⟩ ⟨hk,hq0,hq1,hf⟩
 simp only at hk hq0 hq1 hf;rcases zae k xs.length with hlt|hge
 .obtain⟨e,he⟩:∃e,xs[k]?=some e:=⟨_,zaa hlt⟩
  have hd:xs.drop k=e::xs.drop (k+1):=by
   rw[zaw hlt,(zab.1 he).2]
  rw[hd,sG]at hf;simp -dsimp -implicitDefEqProofs [he,fC hlt]
  refineλ_=>mD (yhq e q hq0 hq1) (by simp) rfl ?_
  simp -dsimp -implicitDefEqProofs;refine⟨λh=>by rw[<-hf,oD h],λh=>⟨gB hlt hl,k+1,⟨kT e q,?_⟩⟩⟩;rw[xB h]at hf
  have hle:kT e q<=1048576:=by
   rcases ycE e q hq0 hq1 with e1|e1
   .omega
   .omega
  exact⟨⟨hlt,h,hle,hf⟩,by omega,by apply aB<;>simp⟩
 .simp -dsimp -implicitDefEqProofs [aG hge];rw[zaS hge]at hf;intro _
  first|simpa[sG]using hf|simpa[sG]using hf.symm
def ysk(xs:List yRT)(hl:aJ xs):qB prg 67 [.c (.sl 2 (xs.map yRT.enc))] (.c (.sl 2 (xs.map yRT.enc))):=by
 refine dB yiq ?_;simp -dsimp -implicitDefEqProofs [ycX];intro hlen;have hl1:=hl.1;refine⟨by omega,?_⟩;refine qA (ι:=Nat) (λk=>k<=xs.length) (λk=>xC [(0,.c (.sl 2 (xs.map yRT.enc))),(3,.own 7 2 xs.length),(4,.c (.i k))] [(7,.row 2 (partly yRT.enc [.b false,.sl 1 []] xs k))]) (λk=>xs.length-k) 0 (by simp) (by apply aB<;>simp[mF]) ?_
 rintro k hk
 rcases zae k xs.length with hlt|hge
 .obtain⟨e,he⟩:∃e,xs[k]?=some e:=⟨_,zaa hlt⟩;have hs:=fG (f:=yRT.enc) (z:=[.b false,.sl 1 []]) he;have hd:=qG (f:=yRT.enc) (z:=[.b false,.sl 1 []]) (n:=2) rfl hlt;simp only[yRT.enc]at hs;simp -dsimp -implicitDefEqProofs [he,fC hlt]
  refineλ_=>iF (ylp e (hl.2 e (zac he))) (by simp) rfl ?_
  simp -dsimp -implicitDefEqProofs [fC hlt,dG hk,hd,hs];exact⟨hlt,gB hlt hlen,k+1,hlt,by omega,by apply aB<;>simp⟩
 .simp -dsimp -implicitDefEqProofs [aG hge];intro _;rw[eG hge,zad (by simp)]
def yvi(es fs:List yRT):qB prg 76 [.c (.sl 2 (es.map yRT.enc)),.c (.sl 2 (fs.map yRT.enc))] (.c (.b (decide (es=fs)))):=by
 refine dB yq8 ?_;simp -dsimp -implicitDefEqProofs [yh2];intro hl1 hl2;refine⟨λh e=>h (by rw[e]),λhlen=>?_⟩;have hlen':es.length=fs.length:=by omega
 refine qA (ι:=Nat) (λk=>k<=es.length/\es.take k=fs.take k) (λk=>xC [(0,.c (.sl 2 (es.map yRT.enc))),(1,.c (.sl 2 (fs.map yRT.enc))),(5,.c (.i k))] []) (λk=>es.length-k) 0 (by simp) (by apply aB<;>simp) ?_
 rintro k ⟨hk,htk⟩
 rcases zae k es.length with hlt|hge
 .obtain⟨e,he⟩:∃e,es[k]?=some e:=⟨_,zaa hlt⟩;obtain⟨f,hf⟩:∃f,fs[k]?=some f:=⟨_,zaa (by omega)⟩;simp -dsimp -implicitDefEqProofs [he,hf,fC hlt,fC (hlen'▸hlt)];intro _;refine lC (ylc e f) ?_;simp -dsimp -implicitDefEqProofs;refine⟨λh=>qQ he hf h,λh=>⟨gB hlt hl1,k+1,⟨hlt,kJ he hf htk h⟩,by omega,by apply aB<;>simp⟩⟩
 .simp -dsimp -implicitDefEqProofs [aG hge];intro _;exact lN hge hlen' htk
structure yR0 where
 Length:Int
 Width:Int
 ySi:Int
 ySj:Int
 Base:Int
 Area:Int
 ySs:Int
 ySn:Int
 Gate:Int
 yRY:List yRT
 deriving DecidableEq,Inhabited
@[simp] def yR0.enc(e:yR0):List C:=[.i e.Length,.i e.Width,.i e.ySi,.i e.ySj,.i e.Base,.i e.Area,.i e.ySs,.i e.ySn,.i e.Gate,.sl 2 (e.yRY.map yRT.enc)]
-- yR0
def yfn(e:yR0)(l:Int):Int:=sO (yT e.yRY l) λl=>l
def yR0.small(e:yR0):Prop:=aJ e.yRY
def ytF:ya8 yfn yR0.small:=by
 intro e l h0 h1;unfold yfn;rcases ygY e.yRY _ h0 h1 with e0|⟨a0,b0,s0⟩
 .exact .inl (oD (by omega))
 rw[xB a0];exact .inr ⟨a0,by omega,s0⟩
def yDT(e:yR0)(l:Int)(h0:0<=l)(h1:l<=1048576):qB prg 268 [.agg (e.enc.map .c),.c (.i l)] (.c (.i (yfn e l))):=by
 refine dB ywx ?_;simp -dsimp -implicitDefEqProofs [ylW];refine aA (yqO e.yRY _ h0 h1) ?_;simp -dsimp -implicitDefEqProofs;refine⟨λh=>by simp[yfn,oD h],λp0=>?_⟩;simp[yfn,xB p0]
def yFC(e:yR0)(hl:yR0.small e):qB prg 287 [.agg (e.enc.map .c)] (.agg (e.enc.map .c)):=by
 refine dB ymh ?_;simp -dsimp -implicitDefEqProofs [yfD];refine dD (ysk e.yRY hl) ?_;simp -dsimp -implicitDefEqProofs
def yHt(a b:yR0):qB prg 296 [.agg (a.enc.map .c),.agg (b.enc.map .c)] (.c (.b (decide (a=b)))):=by
 refine dB ywD ?_;obtain⟨a0,a1,a2,a3,a4,a5,a6,a7,a8,a9⟩:=a;obtain⟨b0,b1,b2,b3,b4,b5,b6,b7,b8,b9⟩:=b;simp -dsimp -implicitDefEqProofs [ylO,yR0.mk.injEq];refine⟨λh=>by simp_all,λh0=>?_⟩;refine⟨λh=>by simp_all,λh1=>?_⟩;refine⟨λh=>by simp_all,λh2=>?_⟩;refine⟨λh=>by simp_all,λh3=>?_⟩;refine⟨λh=>by simp_all,λh4=>?_⟩;refine⟨λh=>by simp_all,λh5=>?_⟩;refine⟨λh=>by simp_all,λh6=>?_⟩;refine⟨λh=>by simp_all,λh7=>?_⟩;refine⟨λh=>by simp_all,λh8=>?_⟩;refine aA (yvi a9 b9) ?_;simp -dsimp -implicitDefEqProofs;refine⟨λh=>by simp_all,λh9=>?_⟩
 simp_all
structure ySp where
 ySu:Int
 Open:Int
 Step:Int
 ySy:Int
 Width:Int
 deriving DecidableEq,Inhabited
@[simp] def ySp.enc(e:ySp):List C:=[.i e.ySu,.i e.Open,.i e.Step,.i e.ySy,.i e.Width]
-- ySp
def yAO(e:ySp):qB prg 288 [.agg (e.enc.map .c)] (.agg (e.enc.map .c)):=by
 refine dB yvQ ?_;simp -dsimp -implicitDefEqProofs [ymq]
def yGP(a b:ySp):qB prg 297 [.agg (a.enc.map .c),.agg (b.enc.map .c)] (.c (.b (decide (a=b)))):=by
 refine dB ywL ?_;obtain⟨a0,a1,a2,a3,a4⟩:=a;obtain⟨b0,b1,b2,b3,b4⟩:=b;simp -dsimp -implicitDefEqProofs [ymE,ySp.mk.injEq];refine⟨λh=>by simp_all,λh0=>?_⟩;refine⟨λh=>by simp_all,λh1=>?_⟩;refine⟨λh=>by simp_all,λh2=>?_⟩;refine⟨λh=>by simp_all,λh3=>?_⟩;refine⟨λh=>by simp_all,λh4=>?_⟩
 simp_all
structure Rule where
 Low:Int
 High:Int
 ySx:Int
 deriving DecidableEq,Inhabited
@[simp] def Rule.enc(e:Rule):List C:=[.i e.Low,.i e.High,.i e.ySx]
-- Rule
def yzY(e:Rule):qB prg 289 [.agg (e.enc.map .c)] (.agg (e.enc.map .c)):=by
 refine dB yv6 ?_;simp -dsimp -implicitDefEqProofs [ymK]
def yFF(a b:Rule):qB prg 298 [.agg (a.enc.map .c),.agg (b.enc.map .c)] (.c (.b (decide (a=b)))):=by
 refine dB ywl ?_;obtain⟨a0,a1,a2⟩:=a;obtain⟨b0,b1,b2⟩:=b;simp -dsimp -implicitDefEqProofs [ymc,Rule.mk.injEq];refine⟨λh=>by simp_all,λh0=>?_⟩;refine⟨λh=>by simp_all,λh1=>?_⟩;refine⟨λh=>by simp_all,λh2=>?_⟩
 simp_all
structure ySf where
 From:Int
 Until:Int
 deriving DecidableEq,Inhabited
@[simp] def ySf.enc(e:ySf):List C:=[.i e.From,.i e.Until]
-- ySf
def yxh(e:ySf):qB prg 344 [.agg (e.enc.map .c)] (.agg (e.enc.map .c)):=by
 refine dB yuD ?_;simp -dsimp -implicitDefEqProofs [yjo]
def yD2(a b:ySf):qB prg 348 [.agg (a.enc.map .c),.agg (b.enc.map .c)] (.c (.b (decide (a=b)))):=by
 refine dB ytv ?_;obtain⟨a0,a1⟩:=a;obtain⟨b0,b1⟩:=b;simp -dsimp -implicitDefEqProofs [ykq,ySf.mk.injEq];refine⟨λh=>by simp_all,λh0=>?_⟩;refine⟨λh=>by simp_all,λh1=>?_⟩
 simp_all
-- []ySf
def yfW(xs:List ySf)(l:Int):Int:=szS xs.length l
def ydx:List ySf->Prop:=aW λ_=>True
def ynD:ya8 yfW ydx:=yhd
def yzA(xs:List ySf)(l:Int)(h0:0<=l)(h1:l<=1048576):qB prg 269 [.c (.sl 2 (xs.map ySf.enc)),.c (.i l)] (.c (.i (yfW xs l))):=by
 refine dB yr0 ?_;simp -dsimp -implicitDefEqProofs [yii,yfW,szS];intro hl;unfold maxLen at hl;refine⟨by unfold inI;omega,λh=>?_,λh=>?_⟩<;>intros<;>omega
def yCh(xs:List ySf)(hl:ydx xs):qB prg 290 [.c (.sl 2 (xs.map ySf.enc))] (.c (.sl 2 (xs.map ySf.enc))):=by
 refine dB yif ?_;simp -dsimp -implicitDefEqProofs [yc7];intro hlen;have hl1:=hl.1;refine⟨by omega,?_⟩;refine qA (ι:=Nat) (λk=>k<=xs.length) (λk=>xC [(0,.c (.sl 2 (xs.map ySf.enc))),(3,.own 7 2 xs.length),(4,.c (.i k))] [(7,.row 2 (partly ySf.enc [.i 0,.i 0] xs k))]) (λk=>xs.length-k) 0 (by simp) (by apply aB<;>simp[mF]) ?_
 rintro k hk
 rcases zae k xs.length with hlt|hge
 .obtain⟨e,he⟩:∃e,xs[k]?=some e:=⟨_,zaa hlt⟩;have hs:=fG (f:=ySf.enc) (z:=[.i 0,.i 0]) he;have hd:=qG (f:=ySf.enc) (z:=[.i 0,.i 0]) (n:=2) rfl hlt;simp only[ySf.enc]at hs;simp -dsimp -implicitDefEqProofs [he,fC hlt]
  refineλ_=>iF (yxh e) (by simp) rfl ?_
  simp -dsimp -implicitDefEqProofs [fC hlt,dG hk,hd,hs];exact⟨hlt,gB hlt hlen,k+1,hlt,by omega,by apply aB<;>simp⟩
 .simp -dsimp -implicitDefEqProofs [aG hge];intro _;rw[eG hge,zad (by simp)]
def yCI(es fs:List ySf):qB prg 299 [.c (.sl 2 (es.map ySf.enc)),.c (.sl 2 (fs.map ySf.enc))] (.c (.b (decide (es=fs)))):=by
 refine dB yrB ?_;simp -dsimp -implicitDefEqProofs [yhW];intro hl1 hl2;refine⟨λh e=>h (by rw[e]),λhlen=>?_⟩;have hlen':es.length=fs.length:=by omega
 refine qA (ι:=Nat) (λk=>k<=es.length/\es.take k=fs.take k) (λk=>xC [(0,.c (.sl 2 (es.map ySf.enc))),(1,.c (.sl 2 (fs.map ySf.enc))),(5,.c (.i k))] []) (λk=>es.length-k) 0 (by simp) (by apply aB<;>simp) ?_
 rintro k ⟨hk,htk⟩
 rcases zae k es.length with hlt|hge
 .obtain⟨e,he⟩:∃e,es[k]?=some e:=⟨_,zaa hlt⟩;obtain⟨f,hf⟩:∃f,fs[k]?=some f:=⟨_,zaa (by omega)⟩;simp -dsimp -implicitDefEqProofs [he,hf,fC hlt,fC (hlen'▸hlt)];intro _;refine lC (yD2 e f) ?_;simp -dsimp -implicitDefEqProofs;refine⟨λh=>qQ he hf h,λh=>⟨gB hlt hl1,k+1,⟨hlt,kJ he hf htk h⟩,by omega,by apply aB<;>simp⟩⟩
 .simp -dsimp -implicitDefEqProofs [aG hge];intro _;exact lN hge hlen' htk
structure Turn where
 Up:Bool
 Count:Int
 deriving DecidableEq,Inhabited
@[simp] def Turn.enc(e:Turn):List C:=[.b e.Up,.i e.Count]
-- Turn
def yAs(e:Turn):qB prg 291 [.agg (e.enc.map .c)] (.agg (e.enc.map .c)):=by
 refine dB yvF ?_;simp -dsimp -implicitDefEqProofs [ymA]
def yGn(a b:Turn):qB prg 300 [.agg (a.enc.map .c),.agg (b.enc.map .c)] (.c (.b (decide (a=b)))):=by
 refine dB ywE ?_;obtain⟨a0,a1⟩:=a;obtain⟨b0,b1⟩:=b;simp -dsimp -implicitDefEqProofs [ymQ,Turn.mk.injEq];refine⟨λh=>by simp_all,λh0=>?_⟩;refine⟨λh=>by simp_all,λh1=>?_⟩
 simp_all
structure yR4 where
 yRT:yRT
 Since:Int
 Booked:Int
 deriving DecidableEq,Inhabited
@[simp] def yR4.enc(e:yR4):List C:=[.b e.yRT.Up,.sl 1 (e.yRT.Rows.map jE),.i e.Since,.i e.Booked]
-- Call
def yaw(e:yR4)(l:Int):Int:=sO (kT e.yRT l) λl=>l
def yR4.small(e:yR4):Prop:=e.yRT.small
def ysp:ya8 yaw yR4.small:=by
 intro e l h0 h1;unfold yaw;rcases ycE e.yRT _ h0 h1 with e0|⟨a0,b0,s0⟩
 .exact .inl (oD (by omega))
 rw[xB a0];exact .inr ⟨a0,by omega,s0⟩
def yEG(e:yR4)(l:Int)(h0:0<=l)(h1:l<=1048576):qB prg 333 [.agg (e.enc.map .c),.c (.i l)] (.c (.i (yaw e l))):=by
 refine dB yvM ?_;simp -dsimp -implicitDefEqProofs [ylJ];refine aA (yhq e.yRT _ h0 h1) ?_;simp -dsimp -implicitDefEqProofs;refine⟨λh=>by simp[yaw,oD h],λp0=>?_⟩;simp[yaw,xB p0]
def yHh(e:yR4)(hl:yR4.small e):qB prg 345 [.agg (e.enc.map .c)] (.agg (e.enc.map .c)):=by
 refine dB yl2 ?_;simp -dsimp -implicitDefEqProofs [yfA];refine dD (ylp e.yRT hl) ?_;simp -dsimp -implicitDefEqProofs
def yFO(a b:yR4):qB prg 349 [.agg (a.enc.map .c),.agg (b.enc.map .c)] (.c (.b (decide (a=b)))):=by
 refine dB yvE ?_;obtain⟨a0,a1,a2⟩:=a;obtain⟨b0,b1,b2⟩:=b;simp -dsimp -implicitDefEqProofs [ymJ,yR4.mk.injEq];refine aA (ylc a0 b0) ?_;simp -dsimp -implicitDefEqProofs;refine⟨λh=>by simp_all,λh0=>?_⟩;refine⟨λh=>by simp_all,λh1=>?_⟩;refine⟨λh=>by simp_all,λh2=>?_⟩
 simp_all
-- []Call
def ycC:List yR4->Int->Int:=ybF yaw
def oM:List yR4->Prop:=aW yR4.small
def yAS:ya8 ycC oM:=yeR ysp
def yCR(xs:List yR4)(l:Int)(h0:0<=l)(h1:l<=1048576):qB prg 270 [.c (.sl 4 (xs.map yR4.enc)),.c (.i l)] (.c (.i (ycC xs l))):=by
 refine dB ytK ?_;simp -dsimp -implicitDefEqProofs [yks];intro hl;have hs:szS xs.length l=if l-xs.length<0 then -1 else l-xs.length:=rfl
 refine⟨by unfold maxLen at hl;unfold inI;omega,λh=>?_,λh=>?_⟩
 .simp[ycC,ybF,sO,hs,h]
 have h':0<=l-xs.length:=by omega
 have e0:ycC xs l=sG yaw xs (l-xs.length):=by
  have:szS xs.length l=l-xs.length:=by rw[hs,if_neg (by omega)]
  simp only[ycC,ybF];rw[this,xB h']
 refine qA (ι:=Nat×Int) (λp=>p.1<=xs.length/\0<=p.2/\p.2<=1048576/\sG yaw (xs.drop p.1) p.2=ycC xs l) (λp=>xC [(0,.c (.sl 4 (xs.map yR4.enc))),(1,.c (.i p.2)),(5,.c (.i p.1))] []) (λp=>xs.length-p.1) (0,l-xs.length) ⟨by simp,h',by simp only;omega,by simp[e0]⟩ (by apply aB<;>simp) ?_
 rintro⟨k,q⟩ ⟨hk,hq0,hq1,hf⟩
 simp only at hk hq0 hq1 hf;rcases zae k xs.length with hlt|hge
 .obtain⟨e,he⟩:∃e,xs[k]?=some e:=⟨_,zaa hlt⟩
  have hd:xs.drop k=e::xs.drop (k+1):=by
   rw[zaw hlt,(zab.1 he).2]
  rw[hd,sG]at hf;simp -dsimp -implicitDefEqProofs [he,fC hlt]
  refineλ_=>mD (yEG e q hq0 hq1) (by simp) rfl ?_
  simp -dsimp -implicitDefEqProofs;refine⟨λh=>by rw[<-hf,oD h],λh=>⟨gB hlt hl,k+1,⟨yaw e q,?_⟩⟩⟩;rw[xB h]at hf
  have hle:yaw e q<=1048576:=by
   rcases ysp e q hq0 hq1 with e1|e1
   .omega
   .omega
  exact⟨⟨hlt,h,hle,hf⟩,by omega,by apply aB<;>simp⟩
 .simp -dsimp -implicitDefEqProofs [aG hge];rw[zaS hge]at hf;intro _
  first|simpa[sG]using hf|simpa[sG]using hf.symm
def yE9(xs:List yR4)(hl:oM xs):qB prg 292 [.c (.sl 4 (xs.map yR4.enc))] (.c (.sl 4 (xs.map yR4.enc))):=by
 refine dB yjS ?_;simp -dsimp -implicitDefEqProofs [yed];intro hlen;have hl1:=hl.1;refine⟨by omega,?_⟩;refine qA (ι:=Nat) (λk=>k<=xs.length) (λk=>xC [(0,.c (.sl 4 (xs.map yR4.enc))),(3,.own 7 4 xs.length),(4,.c (.i k))] [(7,.row 4 (partly yR4.enc [.b false,.sl 1 [],.i 0,.i 0] xs k))]) (λk=>xs.length-k) 0 (by simp) (by apply aB<;>simp[mF]) ?_
 rintro k hk
 rcases zae k xs.length with hlt|hge
 .obtain⟨e,he⟩:∃e,xs[k]?=some e:=⟨_,zaa hlt⟩;have hs:=fG (f:=yR4.enc) (z:=[.b false,.sl 1 [],.i 0,.i 0]) he;have hd:=qG (f:=yR4.enc) (z:=[.b false,.sl 1 [],.i 0,.i 0]) (n:=4) rfl hlt;simp only[yR4.enc,yRT.enc]at hs;simp -dsimp -implicitDefEqProofs [he,fC hlt]
  refineλ_=>iF (yHh e (hl.2 e (zac he))) (by simp) rfl ?_
  simp -dsimp -implicitDefEqProofs [fC hlt,dG hk,hd,hs];exact⟨hlt,gB hlt hlen,k+1,hlt,by omega,by apply aB<;>simp⟩
 .simp -dsimp -implicitDefEqProofs [aG hge];intro _;rw[eG hge,zad (by simp)]
def yEl(es fs:List yR4):qB prg 301 [.c (.sl 4 (es.map yR4.enc)),.c (.sl 4 (fs.map yR4.enc))] (.c (.b (decide (es=fs)))):=by
 refine dB yti ?_;simp -dsimp -implicitDefEqProofs [ykv];intro hl1 hl2;refine⟨λh e=>h (by rw[e]),λhlen=>?_⟩;have hlen':es.length=fs.length:=by omega
 refine qA (ι:=Nat) (λk=>k<=es.length/\es.take k=fs.take k) (λk=>xC [(0,.c (.sl 4 (es.map yR4.enc))),(1,.c (.sl 4 (fs.map yR4.enc))),(5,.c (.i k))] []) (λk=>es.length-k) 0 (by simp) (by apply aB<;>simp) ?_
 rintro k ⟨hk,htk⟩
 rcases zae k es.length with hlt|hge
 .obtain⟨e,he⟩:∃e,es[k]?=some e:=⟨_,zaa hlt⟩;obtain⟨f,hf⟩:∃f,fs[k]?=some f:=⟨_,zaa (by omega)⟩;simp -dsimp -implicitDefEqProofs [he,hf,fC hlt,fC (hlen'▸hlt)];intro _;refine lC (yFO e f) ?_;simp -dsimp -implicitDefEqProofs;refine⟨λh=>qQ he hf h,λh=>⟨gB hlt hl1,k+1,⟨hlt,kJ he hf htk h⟩,by omega,by apply aB<;>simp⟩⟩
 .simp -dsimp -implicitDefEqProofs [aG hge];intro _;exact lN hge hlen' htk
structure yR8 where
 yR0:yR0
 ySp:ySp
 Rule:Rule
 Pauses:List ySf
 Turn:Turn
 Calls:List yR4
 deriving DecidableEq,Inhabited
@[simp] def yR8.enc(e:yR8):List C:=[.i e.yR0.Length,.i e.yR0.Width,.i e.yR0.ySi,.i e.yR0.ySj,.i e.yR0.Base,.i e.yR0.Area,.i e.yR0.ySs,.i e.yR0.ySn,.i e.yR0.Gate,.sl 2 (e.yR0.yRY.map yRT.enc),.i e.ySp.ySu,.i e.ySp.Open,.i e.ySp.Step,.i e.ySp.ySy,.i e.ySp.Width,.i e.Rule.Low,.i e.Rule.High,.i e.Rule.ySx,.sl 2 (e.Pauses.map ySf.enc),.b e.Turn.Up,.i e.Turn.Count,.sl 4 (e.Calls.map yR4.enc)]
-- yR8
def lZ(e:yR8)(l:Int):Int:=sO (yfn e.yR0 l) λl=>sO (yfW e.Pauses l) λl=>sO (ycC e.Calls l) λl=>l
def yR8.small(e:yR8):Prop:=e.yR0.small/\ydx e.Pauses/\oM e.Calls
def ysI:ya8 lZ yR8.small:=by
 intro e l h0 h1;unfold lZ;rcases ytF e.yR0 _ h0 h1 with e0|⟨a0,b0,s0⟩
 .exact .inl (oD (by omega))
 rw[xB a0];rcases ynD e.Pauses _ a0 (by omega)with e1|⟨a1,b1,s1⟩
 .exact .inl (oD (by omega))
 rw[xB a1];rcases yAS e.Calls _ a1 (by omega)with e2|⟨a2,b2,s2⟩
 .exact .inl (oD (by omega))
 rw[xB a2];exact .inr ⟨a2,by omega,s0,s1,s2⟩
def yDW(e:yR8)(l:Int)(h0:0<=l)(h1:l<=1048576):qB prg 163 [.agg (e.enc.map .c),.c (.i l)] (.c (.i (lZ e l))):=by
 refine dB ywm ?_;simp -dsimp -implicitDefEqProofs [yl5];refine aA (yDT e.yR0 _ h0 h1) ?_;simp -dsimp -implicitDefEqProofs;refine⟨λh=>by simp[lZ,oD h],λp0=>?_⟩;have q0:=yiI ytF e.yR0 h0 h1 p0;refine aA (yzA e.Pauses _ p0 q0) ?_;simp -dsimp -implicitDefEqProofs;refine⟨λh=>by simp[lZ,xB p0,oD h],λp1=>?_⟩;have q1:=yiI ynD e.Pauses p0 q0 p1;refine aA (yCR e.Calls _ p1 q1) ?_;simp -dsimp -implicitDefEqProofs;refine⟨λh=>by simp[lZ,xB p0,xB p1,oD h],λp2=>?_⟩;simp[lZ,xB p0,xB p1,xB p2]
def yGG(e:yR8)(hl:yR8.small e):qB prg 179 [.agg (e.enc.map .c)] (.agg (e.enc.map .c)):=by
 refine dB ymt ?_;simp -dsimp -implicitDefEqProofs [yfy];refine dD (yFC e.yR0 (hl.1)) ?_;simp -dsimp -implicitDefEqProofs;refine dD (yAO e.ySp) ?_;simp -dsimp -implicitDefEqProofs;refine dD (yzY e.Rule) ?_;simp -dsimp -implicitDefEqProofs;refine dD (yCh e.Pauses (hl.2.1)) ?_;simp -dsimp -implicitDefEqProofs;refine dD (yAs e.Turn) ?_;simp -dsimp -implicitDefEqProofs;refine dD (yE9 e.Calls (hl.2.2)) ?_;simp -dsimp -implicitDefEqProofs
def yGJ(a b:yR8):qB prg 186 [.agg (a.enc.map .c),.agg (b.enc.map .c)] (.c (.b (decide (a=b)))):=by
 refine dB ywd ?_;obtain⟨a0,a1,a2,a3,a4,a5⟩:=a;obtain⟨b0,b1,b2,b3,b4,b5⟩:=b;simp -dsimp -implicitDefEqProofs [ymG,yR8.mk.injEq];refine aA (yHt a0 b0) ?_;simp -dsimp -implicitDefEqProofs;refine⟨λh=>by simp_all,λh0=>?_⟩;refine aA (yGP a1 b1) ?_;simp -dsimp -implicitDefEqProofs;refine⟨λh=>by simp_all,λh1=>?_⟩;refine aA (yFF a2 b2) ?_;simp -dsimp -implicitDefEqProofs;refine⟨λh=>by simp_all,λh2=>?_⟩;refine aA (yCI a3 b3) ?_;simp -dsimp -implicitDefEqProofs;refine⟨λh=>by simp_all,λh3=>?_⟩;refine aA (yGn a4 b4) ?_;simp -dsimp -implicitDefEqProofs;refine⟨λh=>by simp_all,λh4=>?_⟩;refine aA (yEl a5 b5) ?_;simp -dsimp -implicitDefEqProofs;refine⟨λh=>by simp_all,λh5=>?_⟩
 simp_all
def iZ(w:ySp):Bool:=inRange w.ySu 1 8&&inRange w.Open 0 (10*w.ySu)&&inRange w.Step 1 80&&inRange w.ySy 0 100000&&inRange w.Width 1 1000
def yBa(w:ySp):qB prg 219 [.agg (w.enc.map .c)] (.c (.b (iZ w))):=by
 refine dB ywQ ?_;simp -dsimp -implicitDefEqProofs [yml];refine aA (iC w.ySu 1 8) ?_;cases h0:inRange w.ySu 1 8 with
 |false=>simp -dsimp -implicitDefEqProofs;simp[iZ,h0]
 |true=>
 simp -dsimp -implicitDefEqProofs;refine⟨by have:=aC.1 h0;unfold inI;omega,?_⟩;refine aA (iC w.Open 0 (10*w.ySu)) ?_;cases h1:inRange w.Open 0 (10*w.ySu)with
 |false=>simp -dsimp -implicitDefEqProofs;simp[iZ,h0,h1]
 |true=>
 simp -dsimp -implicitDefEqProofs;refine aA (iC w.Step 1 80) ?_;cases h2:inRange w.Step 1 80 with
 |false=>simp -dsimp -implicitDefEqProofs;simp[iZ,h0,h1,h2]
 |true=>
 simp -dsimp -implicitDefEqProofs;refine aA (iC w.ySy 0 100000) ?_;cases h3:inRange w.ySy 0 100000 with
 |false=>simp -dsimp -implicitDefEqProofs;simp[iZ,h0,h1,h2,h3]
 |true=>
 simp -dsimp -implicitDefEqProofs;refine aA (iC w.Width 1 1000) ?_;cases h4:inRange w.Width 1 1000 with
 |false=>simp -dsimp -implicitDefEqProofs;simp[iZ,h0,h1,h2,h3,h4]
 |true=>
  simp -dsimp -implicitDefEqProofs;simp[iZ,h0,h1,h2,h3,h4]
def yAj(w:ySp):qB prg 251 [.agg (w.enc.map .c)] (.c (.b (iZ w))):=by
 refine dB ywi ?_;simp -dsimp -implicitDefEqProofs [ylN];refine aA (bC w.ySu 1 8) ?_;cases h0:inRange w.ySu 1 8 with
 |false=>simp -dsimp -implicitDefEqProofs;simp[iZ,h0]
 |true=>
 simp -dsimp -implicitDefEqProofs;refine⟨by have:=aC.1 h0;unfold inI;omega,?_⟩;refine aA (bC w.Open 0 (10*w.ySu)) ?_;cases h1:inRange w.Open 0 (10*w.ySu)with
 |false=>simp -dsimp -implicitDefEqProofs;simp[iZ,h0,h1]
 |true=>
 simp -dsimp -implicitDefEqProofs;refine aA (bC w.Step 1 80) ?_;cases h2:inRange w.Step 1 80 with
 |false=>simp -dsimp -implicitDefEqProofs;simp[iZ,h0,h1,h2]
 |true=>
 simp -dsimp -implicitDefEqProofs;refine aA (bC w.ySy 0 100000) ?_;cases h3:inRange w.ySy 0 100000 with
 |false=>simp -dsimp -implicitDefEqProofs;simp[iZ,h0,h1,h2,h3]
 |true=>
 simp -dsimp -implicitDefEqProofs;refine aA (bC w.Width 1 1000) ?_;cases h4:inRange w.Width 1 1000 with
 |false=>simp -dsimp -implicitDefEqProofs;simp[iZ,h0,h1,h2,h3,h4]
 |true=>
  simp -dsimp -implicitDefEqProofs;simp[iZ,h0,h1,h2,h3,h4]
def ya3(r:Rule):Bool:=inRange r.Low 0 100000&&inRange r.High 0 100000&&inRange r.ySx 0 100000&&decide (r.Low<r.High)&&decide (r.High<=r.ySx)
def yAx(r:Rule):qB prg 220 [.agg (r.enc.map .c)] (.c (.b (ya3 r))):=by
 refine dB yvs ?_;simp -dsimp -implicitDefEqProofs [ymr];refine aA (iC r.Low 0 100000) ?_;cases h0:inRange r.Low 0 100000 with
 |false=>simp -dsimp -implicitDefEqProofs;simp[ya3,h0]
 |true=>
 simp -dsimp -implicitDefEqProofs;refine aA (iC r.High 0 100000) ?_;cases h1:inRange r.High 0 100000 with
 |false=>simp -dsimp -implicitDefEqProofs;simp[ya3,h0,h1]
 |true=>
 simp -dsimp -implicitDefEqProofs;refine aA (iC r.ySx 0 100000) ?_;cases h2:inRange r.ySx 0 100000 with
 |false=>simp -dsimp -implicitDefEqProofs;simp[ya3,h0,h1,h2]
 |true=>
 simp -dsimp -implicitDefEqProofs;simp[ya3,h0,h1,h2];exact⟨λh _=>h,λa b=>by omega⟩
def yzE(r:Rule):qB prg 252 [.agg (r.enc.map .c)] (.c (.b (ya3 r))):=by
 refine dB yvW ?_;simp -dsimp -implicitDefEqProofs [ymy];refine aA (yaJ r.Low) ?_;cases h0:inRange r.Low 0 100000 with
 |false=>simp -dsimp -implicitDefEqProofs;simp[ya3,h0]
 |true=>
 simp -dsimp -implicitDefEqProofs;refine aA (yaJ r.High) ?_;cases h1:inRange r.High 0 100000 with
 |false=>simp -dsimp -implicitDefEqProofs;simp[ya3,h0,h1]
 |true=>
 simp -dsimp -implicitDefEqProofs;refine aA (yaJ r.ySx) ?_;cases h2:inRange r.ySx 0 100000 with
 |false=>simp -dsimp -implicitDefEqProofs;simp[ya3,h0,h1,h2]
 |true=>
 simp -dsimp -implicitDefEqProofs;simp[ya3,h0,h1,h2];exact⟨λh _=>h,λa b=>by omega⟩
def ybY(t:Turn):Bool:=inRange t.Count 0 1000000
def yjQ(t:Turn):qB prg 314 [.agg (t.enc.map .c)] (.c (.b (ybY t))):=by
 refine dB ywN ?_;simp -dsimp -implicitDefEqProofs [ymH];refine aA (iC t.Count 0 1000000) ?_;simp -dsimp -implicitDefEqProofs
 try rfl
def yjN(t:Turn):qB prg 274 [.agg (t.enc.map .c)] (.c (.b (ybY t))):=by
 refine dB ywr ?_;simp -dsimp -implicitDefEqProofs [ymd];refine aA (bC t.Count 0 1000000) ?_;simp -dsimp -implicitDefEqProofs
 try rfl
def jO(c:yR4):Bool:=oC c.yRT&&inRange c.Since 0 1000000&&inRange c.Booked (-1) 1000000
def yqV(c:yR4)(h:c.small):qB prg 332 [.agg (c.enc.map .c)] (.c (.b (jO c))):=by
 refine dB yvI ?_;simp -dsimp -implicitDefEqProofs [ymS];refine aA (gK c.yRT h) ?_;cases h0:oC c.yRT with
 |false=>simp -dsimp -implicitDefEqProofs;simp[jO,h0]
 |true=>
 simp -dsimp -implicitDefEqProofs;refine aA (iC c.Since 0 1000000) ?_;cases h1:inRange c.Since 0 1000000 with
 |false=>simp -dsimp -implicitDefEqProofs;simp[jO,h0,h1]
 |true=>
 simp -dsimp -implicitDefEqProofs;refine aA (iC c.Booked (-1) 1000000) ?_;cases h2:inRange c.Booked (-1) 1000000 with
 |false=>simp -dsimp -implicitDefEqProofs;simp[jO,h0,h1,h2]
 |true=>
  simp -dsimp -implicitDefEqProofs;simp[jO,h0,h1,h2]
def yqK(c:yR4)(h:c.small):qB prg 308 [.agg (c.enc.map .c)] (.c (.b (jO c))):=by
 refine dB ywC ?_;simp -dsimp -implicitDefEqProofs [ymI];refine aA (jJ c.yRT h) ?_;cases h0:oC c.yRT with
 |false=>simp -dsimp -implicitDefEqProofs;simp[jO,h0]
 |true=>
 simp -dsimp -implicitDefEqProofs;refine aA (bC c.Since 0 1000000) ?_;cases h1:inRange c.Since 0 1000000 with
 |false=>simp -dsimp -implicitDefEqProofs;simp[jO,h0,h1]
 |true=>
 simp -dsimp -implicitDefEqProofs;refine aA (bC c.Booked (-1) 1000000) ?_;cases h2:inRange c.Booked (-1) 1000000 with
 |false=>simp -dsimp -implicitDefEqProofs;simp[jO,h0,h1,h2]
 |true=>
  simp -dsimp -implicitDefEqProofs;simp[jO,h0,h1,h2]
def eY(b:Int)(p:ySf):Bool:=!decide (p.From<b)&& !decide (p.Until<=p.From)&& !decide (1000000<p.Until)
def jR:Int->List ySf->Bool
 |_,[]=>true
 |b,p::l=>eY b p&&jR p.Until l
def xO(l:List ySf):Bool:=decide (l.length<=8)&&jR 0 l
def yqM{l:List ySf}{k:Nat}{p:ySf}{b:Int}(h:l[k]?=some p):jR b (l.drop k)=(eY b p&&jR p.Until (l.drop (k+1))):=by
 have hlt:=(zab.1 h).1;rw[zaw hlt,(zab.1 h).2];rfl
def ymM(l:List ySf):qB prg 320 [.c (.sl 2 (l.map ySf.enc))] (.c (.b (xO l))):=by
 refine dB yrY ?_;simp -dsimp -implicitDefEqProofs [yid];intro hlen;refine⟨λh8=>(by simp[xO];omega),λh8=>?_⟩
 refineλ_=>qA (ι:=Nat×Int) (λq=>q.1<=l.length/\jR q.2 (l.drop q.1)=jR 0 l) (λq=>xC [(3,.c (.i q.2)),(9,.c (.sl 2 (l.map ySf.enc))),(10,.c (.i l.length)),(11,.c (.i q.1))] []) (λq=>l.length-q.1) (0,0) (by simp) (by apply aB<;>simp) ?_
 rintro⟨k,b⟩ ⟨hk,hf⟩
 simp only at hk hf;rcases zae k l.length with hlt|hge
 .obtain⟨p,hp⟩:∃p,l[k]?=some p:=⟨_,zaa hlt⟩;rw[yqM hp]at hf;have bad:eY b p=false->xO l=false:=λe=>by rw[e,zbH]at hf;simp[xO,<-hf]
  simp -dsimp -implicitDefEqProofs [hp,fC hlt];refine⟨λh1=>?_,λh1=>(bad (by simp[eY];omega))⟩;refine⟨λh2=>?_,λh2=>(bad (by simp[eY];omega))⟩;refine⟨λh3=>(bad (by simp[eY];omega)),λh3=>?_⟩;have hok:eY b p=true:=by simp[eY];omega
  rw[hok,zcv]at hf;exact⟨gB hlt hlen,k+1,p.Until,⟨hlt,hf⟩,by omega,by apply aB<;>simp⟩
 .simp -dsimp -implicitDefEqProofs [aG hge];rw[zaS hge]at hf;have h8':l.length<=8:=by omega
  simp[xO,h8',<-hf,jR]
def ylL(l:List ySf):qB prg 102 [.c (.sl 2 (l.map ySf.enc))] (.c (.b (xO l))):=by
 refine dB yr5 ?_;simp -dsimp -implicitDefEqProofs [yiu];refine qA (ι:=Nat×Int) (λq=>q.1<=l.length/\jR q.2 (l.drop q.1)=jR 0 l) (λq=>xC [(0,.c (.sl 2 (l.map ySf.enc))),(3,.c (.i q.2)),(4,.c (.i q.1))] []) (λq=>l.length-q.1) (0,0) (by simp) (by apply aB<;>simp) ?_
 rintro⟨k,b⟩ ⟨hk,hf⟩
 simp only at hk hf;rcases zae k l.length with hlt|hge
 .obtain⟨p,hp⟩:∃p,l[k]?=some p:=⟨_,zaa hlt⟩;rw[yqM hp]at hf;have bad:eY b p=false->xO l=false:=λe=>by rw[e,zbH]at hf;simp[xO,<-hf]
  simp -dsimp -implicitDefEqProofs [hp,fC hlt];intro hlen;refine⟨λh1=>?_,λh1=>(bad (by simp[eY];omega))⟩;refine⟨λh2=>?_,λh2=>(bad (by simp[eY];omega))⟩;refine⟨λh3=>(bad (by simp[eY];omega)),λh3=>?_⟩;have hok:eY b p=true:=by simp[eY];omega
  rw[hok,zcv]at hf;exact⟨gB hlt hlen,k+1,p.Until,⟨hlt,hf⟩,by omega,by apply aB<;>simp⟩
 .simp -dsimp -implicitDefEqProofs [aG hge];rw[zaS hge]at hf;simp[xO,<-hf,jR]
  try omega
def bJ(l:List yRT)(k:Nat):List Int:=(l.take k).flatMap lG
def seenAt(l:List yRT)(k:Nat)(t:yRT)(j:Nat):List Int:=bJ l k++(lG t).take j
def Distinct(l:List yRT):Bool:=decide (l.length<=8)&&l.all oC&&decide ((l.flatMap lG).Nodup)
def ydt{l:List yRT}:bJ l 0=[]:=rfl
def ydz{l:List yRT}{k:Nat}{t:yRT}(h:l[k]?=some t):bJ l (k+1)=bJ l k++lG t:=by
 unfold bJ;rw[zat,h,zdF];simp
def yqq{l:List yRT}{k:Nat}(h:l.length<=k):bJ l k=l.flatMap lG:=by
 unfold bJ;rw[zad h]
def yvK{l:List yRT}{k:Nat}{t:yRT}(h:l[k]?=some t):∃m,l.flatMap lG=bJ l k++lG t++m:=by
 refine⟨(l.drop (k+1)).flatMap lG,?_⟩;rw[<-ydz h];unfold bJ;rw[<-zdF,zaz]
def yqv{l:List yRT}{k:Nat}{t:yRT}:seenAt l k t 0=bJ l k:=by simp[seenAt]
def yqw{l:List yRT}{k j:Nat}{t:yRT}{x:Int}(h:(lG t)[j]?=some x):seenAt l k t (j+1)=seenAt l k t j++[x]:=by
 unfold seenAt;rw[zat,h];simp
def yuJ{l:List yRT}{k j:Nat}{t:yRT}(ht:l[k]?=some t)(h:(lG t).length<=j):seenAt l k t j=bJ l (k+1):=by
 unfold seenAt;rw[zad h,ydz ht]
def yq4{l:List yRT}(k:Nat)(h:∀t∈l.take k,oC t=true):(bJ l k).length<=6*k:=by
 have key:∀(m:List yRT),(∀t∈m,oC t=true)->(m.flatMap lG).length<=6*m.length:=by
  intro m
  induction m with
  |nil=>simp
  |cons t m ih=>
   intro hm;have h1:=yx0 (hm t (by simp));have h2:=ih λx hx=>hm x (by simp[hx]);simp only[zce,zar,zaK];omega
 have:=key (l.take k) h;have h2:(l.take k).length<=k:=by rw[zax];omega
 unfold bJ;omega
def twice{l:List yRT}{k j:Nat}{t:yRT}{x:Int}(ht:l[k]?=some t)(hx:(lG t)[j]?=some x)(hm:x∈seenAt l k t j):Distinct l=false:=by
 have:¬(l.flatMap lG).Nodup:=by
  intro hn;obtain⟨m,e⟩:=yvK ht;have hlt:=(zab.1 hx).1
  have e2:lG t=(lG t).take j++x::(lG t).drop (j+1):=by
   conv=>lhs;rw[<-zaz j (lG t)]
   rw[zaw hlt,(zab.1 hx).2]
  have e3:l.flatMap lG=seenAt l k t j++x::((lG t).drop (j+1)++m):=by
   rw[e];unfold seenAt;conv=>lhs;rw[e2]
   simp
  rw[e3]at hn;exact(zbc.1 hn).2.2 x hm x (by simp) rfl
 simp[Distinct,this]
def yp8{l:List yRT}{k:Nat}{t:yRT}(ht:l[k]?=some t)(h:oC t=false):Distinct l=false:=by
 have:l.all oC=false:=all_false (p:=oC) ht h;simp only[Distinct,this,zby,zbH]
def yfU(l:List yRT)(hs:aJ l):qB prg 351 [.c (.sl 2 (l.map yRT.enc))] (.c (.b (Distinct l))):=by
 refine dB yi1 ?_;simp -dsimp -implicitDefEqProofs [ybI];intro hlen;refine⟨λh8=>(by simp[Distinct];omega),λh8=>?_⟩;intro _;refine jX (k0:=1) 3 1 (by simp) (by simp) (by decide) ?_;refine qA (ι:=Nat) (λk=>k<=l.length/\(∀t∈l.take k,oC t=true)/\(bJ l k).Nodup) (λk=>xC [(3,.own 3 1 (bJ l k).length),(11,.c (.sl 2 (l.map yRT.enc))),(12,.c (.i l.length)),(13,.c (.i k))] [(3,.row 1 ((bJ l k).map qC))]) (λk=>l.length-k) 0 (by simp[ydt]) (by apply aB<;>simp[ydt]) ?_
 rintro k ⟨hk,hall,hnd⟩
 rcases zae k l.length with hlt|hge
 .obtain⟨t,ht⟩:∃t,l[k]?=some t:=⟨_,zaa hlt⟩;have hts:=hs.2 t (zac ht);simp -dsimp -implicitDefEqProofs [ht,fC hlt];refine aA (gK t hts) ?_;cases h1:oC t with
  |false=>simp -dsimp -implicitDefEqProofs;exact yp8 ht h1
  | true=>
   have hall':=lD (p:=oC) ht hall h1;have hil:=yx0 h1;have hul:=yq4 k hall;simp -dsimp -implicitDefEqProofs;refine dD (ya0 t hts) ?_;simp -dsimp -implicitDefEqProofs;intro _;refine qA (ι:=Nat) (λj=>j<=(lG t).length/\(seenAt l k t j).Nodup) (λj=>xC [(3,.own 3 1 (seenAt l k t j).length),(11,.c (.sl 2 (l.map yRT.enc))),(12,.c (.i l.length)),(13,.c (.i k)),(21,.c (.sl 1 ((lG t).map qC))),(22,.c (.i (lG t).length)),(23,.c (.i j))] [(3,.row 1 ((seenAt l k t j).map qC))]) (λj=>(lG t).length-j) 0 ⟨by simp,by rw[yqv];exact hnd⟩ (by apply aB<;>simp[yqv]) ?_
   rintro j ⟨hj,hnj⟩
   have hsl:(seenAt l k t j).length<=60:=by unfold seenAt;rw[zar,zax];omega
   rcases zae j (lG t).length with hlt2|hge2
   .obtain⟨x,hx⟩:∃x,(lG t)[j]?=some x:=⟨_,zaa hlt2⟩;simp -dsimp -implicitDefEqProofs [hx,fC hlt2];refine mD (yu4 (seenAt l k t j) x) (by simp[yqo]) rfl ?_;simp -dsimp -implicitDefEqProofs;refine⟨λh2=>(twice ht hx h2),λh2=>?_⟩
    have hn2:(seenAt l k t (j+1)).Nodup:=by
     rw[yqw hx];exact zbc.2 ⟨hnj,by simp,λa ha b hb e=>by simp at hb;subst hb;subst e;exact h2 ha⟩
    refine⟨by omega,by unfold inI;omega,j+1,⟨hlt2,hn2⟩,by omega,?_⟩;apply aB<;>simp[yqw hx]
   .simp -dsimp -implicitDefEqProofs [aG hge2];rw[yuJ ht hge2]at hnj;refine⟨by unfold inI;omega,k+1,⟨hlt,hall',hnj⟩,by omega,?_⟩;apply aB<;>simp[yuJ ht hge2]
 .simp -dsimp -implicitDefEqProofs [aG hge];rw[yqq hge]at hnd;have h1:=dF (p:=oC) hge hall;have h8':l.length<=8:=by omega
  simp[Distinct,h1,hnd,h8']
def yju(l:List yRT)(hs:aJ l)(h8:l.length<=8)(hok:∀t∈l,oC t=true):qB prg 339 [.c (.sl 2 (l.map yRT.enc))] (.c (.b (decide ((l.flatMap lG).Nodup)))):=by
 refine dB ylD ?_
 have fin:Distinct l=false->decide ((l.flatMap lG).Nodup)=false:=by
  intro h;have h1:l.all oC=true:=zah.2 hok;simpa[Distinct,h1,h8]using h
 simp -dsimp -implicitDefEqProofs [ydh];refine qA (ι:=Nat) (λk=>k<=l.length/\(bJ l k).Nodup) (λk=>xC [(0,.c (.sl 2 (l.map yRT.enc))),(3,.own 8 1 (bJ l k).length),(4,.c (.i k))] [(8,.row 1 ((bJ l k).map qC))]) (λk=>l.length-k) 0 (by simp[ydt]) (by apply aB<;>simp[ydt]) ?_
 rintro k ⟨hk,hnd⟩
 rcases zae k l.length with hlt|hge
 .obtain⟨t,ht⟩:∃t,l[k]?=some t:=⟨_,zaa hlt⟩;have hts:=hs.2 t (zac ht);have h1:=hok t (zac ht);have hil:=yx0 h1;have hul:=yq4 (l:=l) k (λt ht=>hok t (zay ht));simp -dsimp -implicitDefEqProofs [ht,fC hlt];intro hlen;refine dD (yaG t hts) ?_;simp -dsimp -implicitDefEqProofs;refine qA (ι:=Nat) (λi=>i<=(lG t).length/\∀x∈(lG t).take i,x∉bJ l k) (λi=>xC [(0,.c (.sl 2 (l.map yRT.enc))),(3,.own 8 1 (bJ l k).length),(4,.c (.i k)),(5,.c (.sl 1 ((lG t).map qC))),(6,.c (.i i))] [(8,.row 1 ((bJ l k).map qC))]) (λi=>(lG t).length-i) 0 (by simp) (by apply aB<;>simp) ?_
  rintro i ⟨hi,hni⟩
  rcases zae i (lG t).length with hlt2|hge2
  .obtain⟨x,hx⟩:∃x,(lG t)[i]?=some x:=⟨_,zaa hlt2⟩;simp -dsimp -implicitDefEqProofs [fC hlt2];intro _;refine qA (ι:=Nat) (λj=>j<=(bJ l k).length/\∀y∈(bJ l k).take j,y≠x) (λj=>xC [(0,.c (.sl 2 (l.map yRT.enc))),(3,.own 8 1 (bJ l k).length),(4,.c (.i k)),(5,.c (.sl 1 ((lG t).map qC))),(6,.c (.i i)),(7,.c (.i j))] [(8,.row 1 ((bJ l k).map qC))]) (λj=>(bJ l k).length-j) 0 (by simp) (by apply aB<;>simp) ?_
   rintro j ⟨hj,hnj⟩
   rcases zae j (bJ l k).length with hlt3|hge3
   .obtain⟨y,hy⟩:∃y,(bJ l k)[j]?=some y:=⟨_,zaa hlt3⟩
    have bad:y=x->¬(l.flatMap lG).Nodup:=λe=>by
     have:=fin (twice ht hx (by unfold seenAt;rw[<-e];exact zbi _ (zac hy)));simpa using this
    generalize bJ l k=u at *;have g1:=(zab.1 hy).2;simp -dsimp -implicitDefEqProofs [hx,fC hlt2,hy,g1,fC hlt3,hlt3];intro _;refine⟨λh2=>(bad h2),λh2=>?_⟩;refine⟨by unfold inI;omega,j+1,⟨hlt3,?_⟩,by omega,?_⟩
    .rw[zat,hy];intro z hz;rcases zao.1 hz with hz|hz
     .exact hnj z hz
     .simp at hz;subst hz;exact h2
    .apply aB<;>simp
   .rw[zad hge3]at hnj;simp -dsimp -implicitDefEqProofs [aG hge3];intro _;refine⟨by unfold inI;omega,i+1,⟨hlt2,?_⟩,by omega,by apply aB<;>simp⟩;rw[zat,hx];intro z hz;rcases zao.1 hz with hz|hz
    .exact hni z hz
    .simp at hz;subst hz;exactλhm=>hnj _ hm rfl
  .rw[zad hge2]at hni;simp -dsimp -implicitDefEqProofs [aG hge2]
   have hnd2:(bJ l (k+1)).Nodup:=by
    rw[ydz ht];exact zbc.2 ⟨hnd,yLG h1,λa ha b hb e=>hni b hb (e▸ha)⟩
   refineλ_=>⟨by omega,by unfold inI;omega,k+1,⟨hlt,hnd2⟩,by omega,?_⟩
   apply aB<;>simp[ydz ht]
 .simp -dsimp -implicitDefEqProofs [aG hge];rw[yqq hge]at hnd;simp[hnd]
def yzy(l:List yRT)(hs:aJ l):qB prg 340 [.c (.sl 2 (l.map yRT.enc))] (.c (.b (Distinct l))):=by
 refine dB ypB ?_;simp -dsimp -implicitDefEqProofs [ygl];refine qA (ι:=Nat) (λk=>k<=l.length/\(∀t∈l.take k,oC t=true)/\(k≠0->l.length<=8)) (λk=>xC [(0,.c (.sl 2 (l.map yRT.enc))),(3,.c (.i k))] []) (λk=>l.length-k) 0 (by simp) (by apply aB<;>simp) ?_
 rintro k ⟨hk,hall,h8⟩
 rcases zae k l.length with hlt|hge
 .obtain⟨t,ht⟩:∃t,l[k]?=some t:=⟨_,zaa hlt⟩;have hts:=hs.2 t (zac ht);simp -dsimp -implicitDefEqProofs [ht,fC hlt];intro hlen;refine aA (jJ t hts) ?_;cases h1:oC t with
  |false=>simp -dsimp -implicitDefEqProofs;exact yp8 ht h1
  |true=>
   have hall':=lD (p:=oC) ht hall h1;simp -dsimp -implicitDefEqProofs;intro _;refine⟨λh9=>(by simp[Distinct];omega),λh9=>?_⟩;have h9':l.length<=8:=by omega
   exact⟨gB hlt hlen,k+1,⟨hlt,hall',λ_=>h9'⟩,by omega,by apply aB<;>simp⟩
 .have h1:=dF (p:=oC) hge hall
  have h8':l.length<=8:=by
   rcases zas k with e|e
   .omega
   .exact h8 (by omega)
  simp -dsimp -implicitDefEqProofs [aG hge];intro _;refine aA (yju l hs h8' (zah.1 h1)) ?_;simp -dsimp -implicitDefEqProofs;simp[Distinct,h1,h8']
def lF(k:yR0):Bool:=inRange k.Length 1 1000&&inRange k.Width 1 100&&inRange k.ySi 0 100000&&inRange k.ySj 0 100000&&inRange k.Base 0 100000&&inRange k.Area 1 10000&&inRange k.ySs 1 100000&&inRange k.ySn 0 1000000000&&inRange k.Gate 0 2&&Distinct k.yRY
def pX(k:yR0)(h:k.small):qB prg 316 [.agg (k.enc.map .c)] (.c (.b (lF k))):=by
 refine dB ywo ?_;simp -dsimp -implicitDefEqProofs [yms];refine aA (iC k.Length 1 1000) ?_;cases h0:inRange k.Length 1 1000 with
 |false=>simp -dsimp -implicitDefEqProofs;simp[lF,h0]
 |true=>
 simp -dsimp -implicitDefEqProofs;refine aA (iC k.Width 1 100) ?_;cases h1:inRange k.Width 1 100 with
 |false=>simp -dsimp -implicitDefEqProofs;simp[lF,h0,h1]
 |true=>
 simp -dsimp -implicitDefEqProofs;refine aA (iC k.ySi 0 100000) ?_;cases h2:inRange k.ySi 0 100000 with
 |false=>simp -dsimp -implicitDefEqProofs;simp[lF,h0,h1,h2]
 |true=>
 simp -dsimp -implicitDefEqProofs;refine aA (iC k.ySj 0 100000) ?_;cases h3:inRange k.ySj 0 100000 with
 |false=>simp -dsimp -implicitDefEqProofs;simp[lF,h0,h1,h2,h3]
 |true=>
 simp -dsimp -implicitDefEqProofs;refine aA (iC k.Base 0 100000) ?_;cases h4:inRange k.Base 0 100000 with
 |false=>simp -dsimp -implicitDefEqProofs;simp[lF,h0,h1,h2,h3,h4]
 |true=>
 simp -dsimp -implicitDefEqProofs;refine aA (iC k.Area 1 10000) ?_;cases h5:inRange k.Area 1 10000 with
 |false=>simp -dsimp -implicitDefEqProofs;simp[lF,h0,h1,h2,h3,h4,h5]
 |true=>
 simp -dsimp -implicitDefEqProofs;refine aA (iC k.ySs 1 100000) ?_;cases h6:inRange k.ySs 1 100000 with
 |false=>simp -dsimp -implicitDefEqProofs;simp[lF,h0,h1,h2,h3,h4,h5,h6]
 |true=>
 simp -dsimp -implicitDefEqProofs;refine aA (iC k.ySn 0 1000000000) ?_;cases h7:inRange k.ySn 0 1000000000 with
 |false=>simp -dsimp -implicitDefEqProofs;simp[lF,h0,h1,h2,h3,h4,h5,h6,h7]
 |true=>
 simp -dsimp -implicitDefEqProofs;refine aA (iC k.Gate 0 2) ?_;cases h8:inRange k.Gate 0 2 with
 |false=>simp -dsimp -implicitDefEqProofs;simp[lF,h0,h1,h2,h3,h4,h5,h6,h7,h8]
 |true=>
 simp -dsimp -implicitDefEqProofs;refine aA (yfU k.yRY h) ?_;cases h9:Distinct k.yRY with
 |false=>simp -dsimp -implicitDefEqProofs;simp[lF,h0,h1,h2,h3,h4,h5,h6,h7,h8,h9]
 |true=>
  simp -dsimp -implicitDefEqProofs;simp[lF,h0,h1,h2,h3,h4,h5,h6,h7,h8,h9]
def dV(k:yR0)(h:k.small):qB prg 277 [.agg (k.enc.map .c)] (.c (.b (lF k))):=by
 refine dB ywF ?_;simp -dsimp -implicitDefEqProofs [ylS];refine aA (bC k.Length 1 1000) ?_;cases h0:inRange k.Length 1 1000 with
 |false=>simp -dsimp -implicitDefEqProofs;simp[lF,h0]
 |true=>
 simp -dsimp -implicitDefEqProofs;refine aA (bC k.Width 1 100) ?_;cases h1:inRange k.Width 1 100 with
 |false=>simp -dsimp -implicitDefEqProofs;simp[lF,h0,h1]
 |true=>
 simp -dsimp -implicitDefEqProofs;refine aA (yaJ k.ySi) ?_;cases h2:inRange k.ySi 0 100000 with
 |false=>simp -dsimp -implicitDefEqProofs;simp[lF,h0,h1,h2]
 |true=>
 simp -dsimp -implicitDefEqProofs;refine aA (yaJ k.ySj) ?_;cases h3:inRange k.ySj 0 100000 with
 |false=>simp -dsimp -implicitDefEqProofs;simp[lF,h0,h1,h2,h3]
 |true=>
 simp -dsimp -implicitDefEqProofs;refine aA (yaJ k.Base) ?_;cases h4:inRange k.Base 0 100000 with
 |false=>simp -dsimp -implicitDefEqProofs;simp[lF,h0,h1,h2,h3,h4]
 |true=>
 simp -dsimp -implicitDefEqProofs;refine aA (bC k.Area 1 10000) ?_;cases h5:inRange k.Area 1 10000 with
 |false=>simp -dsimp -implicitDefEqProofs;simp[lF,h0,h1,h2,h3,h4,h5]
 |true=>
 simp -dsimp -implicitDefEqProofs;refine aA (bC k.ySs 1 100000) ?_;cases h6:inRange k.ySs 1 100000 with
 |false=>simp -dsimp -implicitDefEqProofs;simp[lF,h0,h1,h2,h3,h4,h5,h6]
 |true=>
 simp -dsimp -implicitDefEqProofs;refine aA (bC k.ySn 0 1000000000) ?_;cases h7:inRange k.ySn 0 1000000000 with
 |false=>simp -dsimp -implicitDefEqProofs;simp[lF,h0,h1,h2,h3,h4,h5,h6,h7]
 |true=>
 simp -dsimp -implicitDefEqProofs;refine aA (bC k.Gate 0 2) ?_;cases h8:inRange k.Gate 0 2 with
 |false=>simp -dsimp -implicitDefEqProofs;simp[lF,h0,h1,h2,h3,h4,h5,h6,h7,h8]
 |true=>
 simp -dsimp -implicitDefEqProofs;refine aA (yzy k.yRY h) ?_;cases h9:Distinct k.yRY with
 |false=>simp -dsimp -implicitDefEqProofs;simp[lF,h0,h1,h2,h3,h4,h5,h6,h7,h8,h9]
 |true=>
  simp -dsimp -implicitDefEqProofs;simp[lF,h0,h1,h2,h3,h4,h5,h6,h7,h8,h9]
def fJ(w:yR8):Bool:=lF w.yR0&&iZ w.ySp&&ya3 w.Rule&&xO w.Pauses&&ybY w.Turn&&decide (w.Calls.length<=24)&&w.Calls.all jO
def wk1{w:yR8}(h:lF w.yR0=false):fJ w=false:=by simp[fJ,h]
def wk2{w:yR8}(h:iZ w.ySp=false):fJ w=false:=by simp[fJ,h]
def wk3{w:yR8}(h:ya3 w.Rule=false):fJ w=false:=by simp[fJ,h]
def wk4{w:yR8}(h:xO w.Pauses=false):fJ w=false:=by simp[fJ,h]
def wk5{w:yR8}(h:ybY w.Turn=false):fJ w=false:=by simp[fJ,h]
def wk6{w:yR8}(h:24<w.Calls.length):fJ w=false:=by
 have:¬w.Calls.length<=24:=by omega
 simp[fJ,this]
def wk7{w:yR8}{k:Nat}{c:yR4}(hc:w.Calls[k]?=some c)(h:jO c=false):fJ w=false:=by
 have:w.Calls.all jO=false:=all_false (p:=jO) hc h;simp only[fJ,this,zby]
def yAQ(w:yR8)(hs:w.small):qB prg 265 [.agg (w.enc.map .c)] (.c (.b (fJ w))):=by
 refine dB yvC ?_;simp -dsimp -implicitDefEqProofs [ymk];refine aA (pX w.yR0 hs.1) ?_;cases h1:lF w.yR0 with
 |false=>simp -dsimp -implicitDefEqProofs;exact wk1 h1
 |true=>
 simp -dsimp -implicitDefEqProofs;refine aA (yBa w.ySp) ?_;cases h2:iZ w.ySp with
 |false=>simp -dsimp -implicitDefEqProofs;exact wk2 h2
 |true=>
 simp -dsimp -implicitDefEqProofs;refine aA (yAx w.Rule) ?_;cases h3:ya3 w.Rule with
 |false=>simp -dsimp -implicitDefEqProofs;exact wk3 h3
 |true=>
 simp -dsimp -implicitDefEqProofs;refine aA (ymM w.Pauses) ?_;cases h4:xO w.Pauses with
 |false=>simp -dsimp -implicitDefEqProofs;exact wk4 h4
 |true=>
 simp -dsimp -implicitDefEqProofs;refine aA (yjQ w.Turn) ?_;cases h5:ybY w.Turn with
 |false=>simp -dsimp -implicitDefEqProofs;exact wk5 h5
 |true=>
 simp -dsimp -implicitDefEqProofs;intro hlen;refine⟨λh6=>(wk6 (by omega)),λh6=>?_⟩
 refineλ_=>qA (ι:=Nat) (λk=>k<=w.Calls.length/\∀c∈w.Calls.take k,jO c=true) (λk=>xC [(38,.c (.sl 4 (w.Calls.map yR4.enc))),(39,.c (.i w.Calls.length)),(40,.c (.i k))] []) (λk=>w.Calls.length-k) 0 (by simp) (by apply aB<;>simp) ?_
 rintro k ⟨hk,hall⟩
 rcases zae k w.Calls.length with hlt|hge
 .obtain⟨c,hc⟩:∃c,w.Calls[k]?=some c:=⟨_,zaa hlt⟩;simp -dsimp -implicitDefEqProofs [hc,fC hlt];refine aA (yqV c (hs.2.2.2 c (zac hc))) ?_;cases h7:jO c with
  |false=>simp -dsimp -implicitDefEqProofs;exact wk7 hc h7
  |true=>
   simp -dsimp -implicitDefEqProofs;exact⟨gB hlt hlen,k+1,⟨hlt,lD (p:=jO) hc hall h7⟩,by omega,by apply aB<;>simp⟩
 .simp -dsimp -implicitDefEqProofs [aG hge];have h7:=dF (p:=jO) hge hall;have h6':w.Calls.length<=24:=by omega
  simp[fJ,h1,h2,h3,h4,h5,h6',h7]
def yA1(w:yR8)(hs:w.small):qB prg 206 [.agg (w.enc.map .c)] (.c (.b (fJ w))):=by
 refine dB yvV ?_;simp -dsimp -implicitDefEqProofs [ymw];refine qA (ι:=Nat) (λk=>k<=w.Calls.length/\∀c∈w.Calls.take k,jO c=true) (λk=>xC [(1,.box 1 0),(3,.c (.i k))] [(1,.box (w.enc.map .c))]) (λk=>w.Calls.length-k) 0 (by simp) (by apply aB<;>simp) ?_
 rintro k ⟨hk,hall⟩
 rcases zae k w.Calls.length with hlt|hge
 .obtain⟨c,hc⟩:∃c,w.Calls[k]?=some c:=⟨_,zaa hlt⟩;simp -dsimp -implicitDefEqProofs [hc,fC hlt];intro hlen;refine aA (yqK c (hs.2.2.2 c (zac hc))) ?_;cases h7:jO c with
  |false=>simp -dsimp -implicitDefEqProofs;exact wk7 hc h7
  |true=>
   simp -dsimp -implicitDefEqProofs;exact⟨gB hlt hlen,k+1,⟨hlt,lD (p:=jO) hc hall h7⟩,by omega,by apply aB<;>simp⟩
 .simp -dsimp -implicitDefEqProofs [aG hge];have h7:=dF (p:=jO) hge hall;intro _;refine⟨λh6=>?_,λh6=>(wk6 (by omega))⟩;have h6':w.Calls.length<=24:=by omega
  refine aA (dV w.yR0 hs.1) ?_;cases h1:lF w.yR0 with
  |false=>simp -dsimp -implicitDefEqProofs;exact wk1 h1
  |true=>
  simp -dsimp -implicitDefEqProofs;refine aA (yAj w.ySp) ?_;cases h2:iZ w.ySp with
  |false=>simp -dsimp -implicitDefEqProofs;exact wk2 h2
  |true=>
  simp -dsimp -implicitDefEqProofs;refine aA (yzE w.Rule) ?_;cases h3:ya3 w.Rule with
  |false=>simp -dsimp -implicitDefEqProofs;exact wk3 h3
  |true=>
  simp -dsimp -implicitDefEqProofs;refine aA (ylL w.Pauses) ?_;cases h4:xO w.Pauses with
  |false=>simp -dsimp -implicitDefEqProofs;exact wk4 h4
  |true=>
  simp -dsimp -implicitDefEqProofs;refine aA (yjN w.Turn) ?_;simp -dsimp -implicitDefEqProofs;simp[fJ,h1,h2,h3,h4,h6',h7]
def ygS(xs:List ySb)(l:Int):Int:=szS xs.length l
def yot:List ySb->Prop:=aW λ_=>True
def yod:ya8 ygS yot:=yhd
def yz1(xs:List ySb)(l:Int)(h0:0<=l)(h1:l<=1048576):qB prg 59 [.c (.sl 5 (xs.map ySb.enc)),.c (.i l)] (.c (.i (ygS xs l))):=by
 refine dB yrE ?_;simp -dsimp -implicitDefEqProofs [yiJ,ygS,szS];intro hl;unfold maxLen at hl;refine⟨by unfold inI;omega,λh=>?_,λh=>?_⟩<;>intros<;>omega
def yIc(a b:Way):qB prg 185 [.agg (a.enc.map .c),.agg (b.enc.map .c)] (.c (.b (decide (a=b)))):=by
 refine dB yxG ?_;obtain⟨a0,a1⟩:=a;obtain⟨b0,b1⟩:=b;simp -dsimp -implicitDefEqProofs [ynz,Way.mk.injEq];refine⟨λh=>by simp_all,λh0=>?_⟩;refine⟨λh=>by simp_all,λh1=>?_⟩
 simp_all
-- []Reach
def yaY:List Reach->Int->Int:=ybF rW
def ybv:List Reach->Prop:=aW Reach.small
def ynQ:ya8 yaY ybv:=yeR yq2
def yzW(xs:List Reach)(l:Int)(h0:0<=l)(h1:l<=1048576):qB prg 52 [.c (.sl 3 (xs.map Reach.enc)),.c (.i l)] (.c (.i (yaY xs l))):=by
 refine dB yrR ?_;simp -dsimp -implicitDefEqProofs [yiP];intro hl;have hs:szS xs.length l=if l-xs.length<0 then -1 else l-xs.length:=rfl
 refine⟨by unfold maxLen at hl;unfold inI;omega,λh=>?_,λh=>?_⟩
 .simp[yaY,ybF,sO,hs,h]
 have h':0<=l-xs.length:=by omega
 have e0:yaY xs l=sG rW xs (l-xs.length):=by
  have:szS xs.length l=l-xs.length:=by rw[hs,if_neg (by omega)]
  simp only[yaY,ybF];rw[this,xB h']
 refine qA (ι:=Nat×Int) (λp=>p.1<=xs.length/\0<=p.2/\p.2<=1048576/\sG rW (xs.drop p.1) p.2=yaY xs l) (λp=>xC [(0,.c (.sl 3 (xs.map Reach.enc))),(1,.c (.i p.2)),(5,.c (.i p.1))] []) (λp=>xs.length-p.1) (0,l-xs.length) ⟨by simp,h',by simp only;omega,by simp[e0]⟩ (by apply aB<;>simp) ?_
 rintro⟨k,q⟩ ⟨hk,hq0,hq1,hf⟩
 simp only at hk hq0 hq1 hf;rcases zae k xs.length with hlt|hge
 .obtain⟨e,he⟩:∃e,xs[k]?=some e:=⟨_,zaa hlt⟩
  have hd:xs.drop k=e::xs.drop (k+1):=by
   rw[zaw hlt,(zab.1 he).2]
  rw[hd,sG]at hf;simp -dsimp -implicitDefEqProofs [he,fC hlt]
  refineλ_=>mD (yB2 e q hq0 hq1) (by simp) rfl ?_
  simp -dsimp -implicitDefEqProofs;refine⟨λh=>by rw[<-hf,oD h],λh=>⟨gB hlt hl,k+1,⟨rW e q,?_⟩⟩⟩;rw[xB h]at hf
  have hle:rW e q<=1048576:=by
   rcases yq2 e q hq0 hq1 with e1|e1
   .omega
   .omega
  exact⟨⟨hlt,h,hle,hf⟩,by omega,by apply aB<;>simp⟩
 .simp -dsimp -implicitDefEqProofs [aG hge];rw[zaS hge]at hf;intro _
  first|simpa[sG]using hf|simpa[sG]using hf.symm
def yBo(xs:List Reach)(hl:ybv xs):qB prg 63 [.c (.sl 3 (xs.map Reach.enc))] (.c (.sl 3 (xs.map Reach.enc))):=by
 refine dB yit ?_;simp -dsimp -implicitDefEqProofs [ycY];intro hlen;have hl1:=hl.1;refine⟨by omega,?_⟩;refine qA (ι:=Nat) (λk=>k<=xs.length) (λk=>xC [(0,.c (.sl 3 (xs.map Reach.enc))),(3,.own 7 3 xs.length),(4,.c (.i k))] [(7,.row 3 (partly Reach.enc [.sl 2 [],.i 0,.sl 1 []] xs k))]) (λk=>xs.length-k) 0 (by simp) (by apply aB<;>simp[mF]) ?_
 rintro k hk
 rcases zae k xs.length with hlt|hge
 .obtain⟨e,he⟩:∃e,xs[k]?=some e:=⟨_,zaa hlt⟩;have hs:=fG (f:=Reach.enc) (z:=[.sl 2 [],.i 0,.sl 1 []]) he;have hd:=qG (f:=Reach.enc) (z:=[.sl 2 [],.i 0,.sl 1 []]) (n:=3) rfl hlt;simp only[Reach.enc]at hs;simp -dsimp -implicitDefEqProofs [he,fC hlt]
  refineλ_=>iF (yEX e (hl.2 e (zac he))) (by simp) rfl ?_
  simp -dsimp -implicitDefEqProofs [fC hlt,dG hk,hd,hs];exact⟨hlt,gB hlt hlen,k+1,hlt,by omega,by apply aB<;>simp⟩
 .simp -dsimp -implicitDefEqProofs [aG hge];intro _;rw[eG hge,zad (by simp)]
def yBv(es fs:List Reach):qB prg 72 [.c (.sl 3 (es.map Reach.enc)),.c (.sl 3 (fs.map Reach.enc))] (.c (.b (decide (es=fs)))):=by
 refine dB yrx ?_;simp -dsimp -implicitDefEqProofs [yiH];intro hl1 hl2;refine⟨λh e=>h (by rw[e]),λhlen=>?_⟩;have hlen':es.length=fs.length:=by omega
 refine qA (ι:=Nat) (λk=>k<=es.length/\es.take k=fs.take k) (λk=>xC [(0,.c (.sl 3 (es.map Reach.enc))),(1,.c (.sl 3 (fs.map Reach.enc))),(5,.c (.i k))] []) (λk=>es.length-k) 0 (by simp) (by apply aB<;>simp) ?_
 rintro k ⟨hk,htk⟩
 rcases zae k es.length with hlt|hge
 .obtain⟨e,he⟩:∃e,es[k]?=some e:=⟨_,zaa hlt⟩;obtain⟨f,hf⟩:∃f,fs[k]?=some f:=⟨_,zaa (by omega)⟩;simp -dsimp -implicitDefEqProofs [he,hf,fC hlt,fC (hlen'▸hlt)];intro _;refine lC (yEx e f) ?_;simp -dsimp -implicitDefEqProofs;refine⟨λh=>qQ he hf h,λh=>⟨gB hlt hl1,k+1,⟨hlt,kJ he hf htk h⟩,by omega,by apply aB<;>simp⟩⟩
 .simp -dsimp -implicitDefEqProofs [aG hge];intro _;exact lN hge hlen' htk
-- []Way
def yov(xs:List Way)(l:Int):Int:=szS xs.length l
def yhE:List Way->Prop:=aW λ_=>True
def ysN:ya8 yov yhE:=yhd
def yFf(xs:List Way)(l:Int)(h0:0<=l)(h1:l<=1048576):qB prg 53 [.c (.sl 2 (xs.map Way.enc)),.c (.i l)] (.c (.i (yov xs l))):=by
 refine dB ywu ?_;simp -dsimp -implicitDefEqProofs [ylK,yov,szS];intro hl;unfold maxLen at hl;refine⟨by unfold inI;omega,λh=>?_,λh=>?_⟩<;>intros<;>omega
def yGr(xs:List Way)(hl:yhE xs):qB prg 64 [.c (.sl 2 (xs.map Way.enc))] (.c (.sl 2 (xs.map Way.enc))):=by
 refine dB yl3 ?_;simp -dsimp -implicitDefEqProofs [yfz];intro hlen;have hl1:=hl.1;refine⟨by omega,?_⟩;refine qA (ι:=Nat) (λk=>k<=xs.length) (λk=>xC [(0,.c (.sl 2 (xs.map Way.enc))),(3,.own 7 2 xs.length),(4,.c (.i k))] [(7,.row 2 (partly Way.enc [.i 0,.i 0] xs k))]) (λk=>xs.length-k) 0 (by simp) (by apply aB<;>simp[mF]) ?_
 rintro k hk
 rcases zae k xs.length with hlt|hge
 .obtain⟨e,he⟩:∃e,xs[k]?=some e:=⟨_,zaa hlt⟩;have hs:=fG (f:=Way.enc) (z:=[.i 0,.i 0]) he;have hd:=qG (f:=Way.enc) (z:=[.i 0,.i 0]) (n:=2) rfl hlt;simp only[Way.enc]at hs;simp -dsimp -implicitDefEqProofs [he,fC hlt]
  refineλ_=>iF (yDF e) (by simp) rfl ?_
  simp -dsimp -implicitDefEqProofs [fC hlt,dG hk,hd,hs];exact⟨hlt,gB hlt hlen,k+1,hlt,by omega,by apply aB<;>simp⟩
 .simp -dsimp -implicitDefEqProofs [aG hge];intro _;rw[eG hge,zad (by simp)]
def yGI(es fs:List Way):qB prg 73 [.c (.sl 2 (es.map Way.enc)),.c (.sl 2 (fs.map Way.enc))] (.c (.b (decide (es=fs)))):=by
 refine dB ywa ?_;simp -dsimp -implicitDefEqProofs [ymv];intro hl1 hl2;refine⟨λh e=>h (by rw[e]),λhlen=>?_⟩;have hlen':es.length=fs.length:=by omega
 refine qA (ι:=Nat) (λk=>k<=es.length/\es.take k=fs.take k) (λk=>xC [(0,.c (.sl 2 (es.map Way.enc))),(1,.c (.sl 2 (fs.map Way.enc))),(5,.c (.i k))] []) (λk=>es.length-k) 0 (by simp) (by apply aB<;>simp) ?_
 rintro k ⟨hk,htk⟩
 rcases zae k es.length with hlt|hge
 .obtain⟨e,he⟩:∃e,es[k]?=some e:=⟨_,zaa hlt⟩;obtain⟨f,hf⟩:∃f,fs[k]?=some f:=⟨_,zaa (by omega)⟩;simp -dsimp -implicitDefEqProofs [he,hf,fC hlt,fC (hlen'▸hlt)];intro _;refine lC (yIc e f) ?_;simp -dsimp -implicitDefEqProofs;refine⟨λh=>qQ he hf h,λh=>⟨gB hlt hl1,k+1,⟨hlt,kJ he hf htk h⟩,by omega,by apply aB<;>simp⟩⟩
 .simp -dsimp -implicitDefEqProofs [aG hge];intro _;exact lN hge hlen' htk
-- []yR8
def ycs:List yR8->Int->Int:=ybF lZ
def ycw:List yR8->Prop:=aW yR8.small
def yq5:ya8 ycs ycw:=yeR ysI
def yB0(xs:List yR8)(l:Int)(h0:0<=l)(h1:l<=1048576):qB prg 54 [.c (.sl 22 (xs.map yR8.enc)),.c (.i l)] (.c (.i (ycs xs l))):=by
 refine dB yuY ?_;simp -dsimp -implicitDefEqProofs [yjh];intro hl;have hs:szS xs.length l=if l-xs.length<0 then -1 else l-xs.length:=rfl
 refine⟨by unfold maxLen at hl;unfold inI;omega,λh=>?_,λh=>?_⟩
 .simp[ycs,ybF,sO,hs,h]
 have h':0<=l-xs.length:=by omega
 have e0:ycs xs l=sG lZ xs (l-xs.length):=by
  have:szS xs.length l=l-xs.length:=by rw[hs,if_neg (by omega)]
  simp only[ycs,ybF];rw[this,xB h']
 refine qA (ι:=Nat×Int) (λp=>p.1<=xs.length/\0<=p.2/\p.2<=1048576/\sG lZ (xs.drop p.1) p.2=ycs xs l) (λp=>xC [(0,.c (.sl 22 (xs.map yR8.enc))),(1,.c (.i p.2)),(5,.c (.i p.1))] []) (λp=>xs.length-p.1) (0,l-xs.length) ⟨by simp,h',by simp only;omega,by simp[e0]⟩ (by apply aB<;>simp) ?_
 rintro⟨k,q⟩ ⟨hk,hq0,hq1,hf⟩
 simp only at hk hq0 hq1 hf;rcases zae k xs.length with hlt|hge
 .obtain⟨e,he⟩:∃e,xs[k]?=some e:=⟨_,zaa hlt⟩
  have hd:xs.drop k=e::xs.drop (k+1):=by
   rw[zaw hlt,(zab.1 he).2]
  rw[hd,sG]at hf;simp -dsimp -implicitDefEqProofs [he,fC hlt]
  refineλ_=>mD (yDW e q hq0 hq1) (by simp) rfl ?_
  simp -dsimp -implicitDefEqProofs;refine⟨λh=>by rw[<-hf,oD h],λh=>⟨gB hlt hl,k+1,⟨lZ e q,?_⟩⟩⟩;rw[xB h]at hf
  have hle:lZ e q<=1048576:=by
   rcases ysI e q hq0 hq1 with e1|e1
   .omega
   .omega
  exact⟨⟨hlt,h,hle,hf⟩,by omega,by apply aB<;>simp⟩
 .simp -dsimp -implicitDefEqProofs [aG hge];rw[zaS hge]at hf;intro _
  first|simpa[sG]using hf|simpa[sG]using hf.symm
def yEa(xs:List yR8)(hl:ycw xs):qB prg 65 [.c (.sl 22 (xs.map yR8.enc))] (.c (.sl 22 (xs.map yR8.enc))):=by
 refine dB ykA ?_;simp -dsimp -implicitDefEqProofs [yee];intro hlen;have hl1:=hl.1;refine⟨by omega,?_⟩;refine qA (ι:=Nat) (λk=>k<=xs.length) (λk=>xC [(0,.c (.sl 22 (xs.map yR8.enc))),(3,.own 7 22 xs.length),(4,.c (.i k))] [(7,.row 22 (partly yR8.enc [.i 0,.i 0,.i 0,.i 0,.i 0,.i 0,.i 0,.i 0,.i 0,.sl 2 [],.i 0,.i 0,.i 0,.i 0,.i 0,.i 0,.i 0,.i 0,.sl 2 [],.b false,.i 0,.sl 4 []] xs k))]) (λk=>xs.length-k) 0 (by simp) (by apply aB<;>simp[mF]) ?_
 rintro k hk
 rcases zae k xs.length with hlt|hge
 .obtain⟨e,he⟩:∃e,xs[k]?=some e:=⟨_,zaa hlt⟩;have hs:=fG (f:=yR8.enc) (z:=[.i 0,.i 0,.i 0,.i 0,.i 0,.i 0,.i 0,.i 0,.i 0,.sl 2 [],.i 0,.i 0,.i 0,.i 0,.i 0,.i 0,.i 0,.i 0,.sl 2 [],.b false,.i 0,.sl 4 []]) he;have hd:=qG (f:=yR8.enc) (z:=[.i 0,.i 0,.i 0,.i 0,.i 0,.i 0,.i 0,.i 0,.i 0,.sl 2 [],.i 0,.i 0,.i 0,.i 0,.i 0,.i 0,.i 0,.i 0,.sl 2 [],.b false,.i 0,.sl 4 []]) (n:=22) rfl hlt;simp only[yR8.enc,yR0.enc,ySp.enc,Rule.enc,Turn.enc]at hs;simp -dsimp -implicitDefEqProofs [he,fC hlt]
  refineλ_=>iF (yGG e (hl.2 e (zac he))) (by simp) rfl ?_
  simp -dsimp -implicitDefEqProofs [fC hlt,dG hk,hd,hs];exact⟨hlt,gB hlt hlen,k+1,hlt,by omega,by apply aB<;>simp⟩
 .simp -dsimp -implicitDefEqProofs [aG hge];intro _;rw[eG hge,zad (by simp)]
def yEm(es fs:List yR8):qB prg 74 [.c (.sl 22 (es.map yR8.enc)),.c (.sl 22 (fs.map yR8.enc))] (.c (.b (decide (es=fs)))):=by
 refine dB ytR ?_;simp -dsimp -implicitDefEqProofs [yjE];intro hl1 hl2;refine⟨λh e=>h (by rw[e]),λhlen=>?_⟩;have hlen':es.length=fs.length:=by omega
 refine qA (ι:=Nat) (λk=>k<=es.length/\es.take k=fs.take k) (λk=>xC [(0,.c (.sl 22 (es.map yR8.enc))),(1,.c (.sl 22 (fs.map yR8.enc))),(5,.c (.i k))] []) (λk=>es.length-k) 0 (by simp) (by apply aB<;>simp) ?_
 rintro k ⟨hk,htk⟩
 rcases zae k es.length with hlt|hge
 .obtain⟨e,he⟩:∃e,es[k]?=some e:=⟨_,zaa hlt⟩;obtain⟨f,hf⟩:∃f,fs[k]?=some f:=⟨_,zaa (by omega)⟩;simp -dsimp -implicitDefEqProofs [he,hf,fC hlt,fC (hlen'▸hlt)];intro _;refine lC (yGJ e f) ?_;simp -dsimp -implicitDefEqProofs;refine⟨λh=>qQ he hf h,λh=>⟨gB hlt hl1,k+1,⟨hlt,kJ he hf htk h⟩,by omega,by apply aB<;>simp⟩⟩
 .simp -dsimp -implicitDefEqProofs [aG hge];intro _;exact lN hge hlen' htk
-- []yR6
def sU:List yR6->Int->Int:=ybF qY
def ydp:List yR6->Prop:=aW yR6.small
def yor:ya8 sU ydp:=yeR yqP
def yA8(xs:List yR6)(l:Int)(h0:0<=l)(h1:l<=1048576):qB prg 164 [.c (.sl 3 (xs.map yR6.enc)),.c (.i l)] (.c (.i (sU xs l))):=by
 refine dB yrb ?_;simp -dsimp -implicitDefEqProofs [yh7];intro hl;have hs:szS xs.length l=if l-xs.length<0 then -1 else l-xs.length:=rfl
 refine⟨by unfold maxLen at hl;unfold inI;omega,λh=>?_,λh=>?_⟩
 .simp[sU,ybF,sO,hs,h]
 have h':0<=l-xs.length:=by omega
 have e0:sU xs l=sG qY xs (l-xs.length):=by
  have:szS xs.length l=l-xs.length:=by rw[hs,if_neg (by omega)]
  simp only[sU,ybF];rw[this,xB h']
 refine qA (ι:=Nat×Int) (λp=>p.1<=xs.length/\0<=p.2/\p.2<=1048576/\sG qY (xs.drop p.1) p.2=sU xs l) (λp=>xC [(0,.c (.sl 3 (xs.map yR6.enc))),(1,.c (.i p.2)),(5,.c (.i p.1))] []) (λp=>xs.length-p.1) (0,l-xs.length) ⟨by simp,h',by simp only;omega,by simp[e0]⟩ (by apply aB<;>simp) ?_
 rintro⟨k,q⟩ ⟨hk,hq0,hq1,hf⟩
 simp only at hk hq0 hq1 hf;rcases zae k xs.length with hlt|hge
 .obtain⟨e,he⟩:∃e,xs[k]?=some e:=⟨_,zaa hlt⟩
  have hd:xs.drop k=e::xs.drop (k+1):=by
   rw[zaw hlt,(zab.1 he).2]
  rw[hd,sG]at hf;simp -dsimp -implicitDefEqProofs [he,fC hlt]
  refineλ_=>mD (yCD e q hq0 hq1) (by simp) rfl ?_
  simp -dsimp -implicitDefEqProofs;refine⟨λh=>by rw[<-hf,oD h],λh=>⟨gB hlt hl,k+1,⟨qY e q,?_⟩⟩⟩;rw[xB h]at hf
  have hle:qY e q<=1048576:=by
   rcases yqP e q hq0 hq1 with e1|e1
   .omega
   .omega
  exact⟨⟨hlt,h,hle,hf⟩,by omega,by apply aB<;>simp⟩
 .simp -dsimp -implicitDefEqProofs [aG hge];rw[zaS hge]at hf;intro _
  first|simpa[sG]using hf|simpa[sG]using hf.symm
def yCE(xs:List yR6)(hl:ydp xs):qB prg 180 [.c (.sl 3 (xs.map yR6.enc))] (.c (.sl 3 (xs.map yR6.enc))):=by
 refine dB yih ?_;simp -dsimp -implicitDefEqProofs [yc9];intro hlen;have hl1:=hl.1;refine⟨by omega,?_⟩;refine qA (ι:=Nat) (λk=>k<=xs.length) (λk=>xC [(0,.c (.sl 3 (xs.map yR6.enc))),(3,.own 7 3 xs.length),(4,.c (.i k))] [(7,.row 3 (partly yR6.enc [.b false,.sl 1 [],.i 0] xs k))]) (λk=>xs.length-k) 0 (by simp) (by apply aB<;>simp[mF]) ?_
 rintro k hk
 rcases zae k xs.length with hlt|hge
 .obtain⟨e,he⟩:∃e,xs[k]?=some e:=⟨_,zaa hlt⟩;have hs:=fG (f:=yR6.enc) (z:=[.b false,.sl 1 [],.i 0]) he;have hd:=qG (f:=yR6.enc) (z:=[.b false,.sl 1 [],.i 0]) (n:=3) rfl hlt;simp only[yR6.enc,yRT.enc]at hs;simp -dsimp -implicitDefEqProofs [he,fC hlt]
  refineλ_=>iF (yEA e (hl.2 e (zac he))) (by simp) rfl ?_
  simp -dsimp -implicitDefEqProofs [fC hlt,dG hk,hd,hs];exact⟨hlt,gB hlt hlen,k+1,hlt,by omega,by apply aB<;>simp⟩
 .simp -dsimp -implicitDefEqProofs [aG hge];intro _;rw[eG hge,zad (by simp)]
def yCq(es fs:List yR6):qB prg 187 [.c (.sl 3 (es.map yR6.enc)),.c (.sl 3 (fs.map yR6.enc))] (.c (.b (decide (es=fs)))):=by
 refine dB yre ?_;simp -dsimp -implicitDefEqProofs [yiD];intro hl1 hl2;refine⟨λh e=>h (by rw[e]),λhlen=>?_⟩;have hlen':es.length=fs.length:=by omega
 refine qA (ι:=Nat) (λk=>k<=es.length/\es.take k=fs.take k) (λk=>xC [(0,.c (.sl 3 (es.map yR6.enc))),(1,.c (.sl 3 (fs.map yR6.enc))),(5,.c (.i k))] []) (λk=>es.length-k) 0 (by simp) (by apply aB<;>simp) ?_
 rintro k ⟨hk,htk⟩
 rcases zae k es.length with hlt|hge
 .obtain⟨e,he⟩:∃e,es[k]?=some e:=⟨_,zaa hlt⟩;obtain⟨f,hf⟩:∃f,fs[k]?=some f:=⟨_,zaa (by omega)⟩;simp -dsimp -implicitDefEqProofs [he,hf,fC hlt,fC (hlen'▸hlt)];intro _;refine lC (yFh e f) ?_;simp -dsimp -implicitDefEqProofs;refine⟨λh=>qQ he hf h,λh=>⟨gB hlt hl1,k+1,⟨hlt,kJ he hf htk h⟩,by omega,by apply aB<;>simp⟩⟩
 .simp -dsimp -implicitDefEqProofs [aG hge];intro _;exact lN hge hlen' htk
abbrev nD(xs:List yR6):List C:=[.sl 3 (xs.map yR6.enc)]
-- [][]yR6
def yB:List (List yR6)->Int->Int:=ybF sU
def yck:List (List yR6)->Prop:=aW ydp
def ylQ:ya8 yB yck:=yeR yor
def yyh(xs:List (List yR6))(l:Int)(h0:0<=l)(h1:l<=1048576):qB prg 55 [.c (.sl 1 (xs.map nD)),.c (.i l)] (.c (.i (yB xs l))):=by
 refine dB ypE ?_;simp -dsimp -implicitDefEqProofs [ygO];intro hl;have hs:szS xs.length l=if l-xs.length<0 then -1 else l-xs.length:=rfl
 refine⟨by unfold maxLen at hl;unfold inI;omega,λh=>?_,λh=>?_⟩
 .simp[yB,ybF,sO,hs,h]
 have h':0<=l-xs.length:=by omega
 have e0:yB xs l=sG sU xs (l-xs.length):=by
  have:szS xs.length l=l-xs.length:=by rw[hs,if_neg (by omega)]
  simp only[yB,ybF];rw[this,xB h']
 refine qA (ι:=Nat×Int) (λp=>p.1<=xs.length/\0<=p.2/\p.2<=1048576/\sG sU (xs.drop p.1) p.2=yB xs l) (λp=>xC [(0,.c (.sl 1 (xs.map nD))),(1,.c (.i p.2)),(5,.c (.i p.1))] []) (λp=>xs.length-p.1) (0,l-xs.length) ⟨by simp,h',by simp only;omega,by simp[e0]⟩ (by apply aB<;>simp) ?_
 rintro⟨k,q⟩ ⟨hk,hq0,hq1,hf⟩
 simp only at hk hq0 hq1 hf;rcases zae k xs.length with hlt|hge
 .obtain⟨e,he⟩:∃e,xs[k]?=some e:=⟨_,zaa hlt⟩
  have hd:xs.drop k=e::xs.drop (k+1):=by
   rw[zaw hlt,(zab.1 he).2]
  rw[hd,sG]at hf;simp -dsimp -implicitDefEqProofs [he,fC hlt]
  refineλ_=>mD (yA8 e q hq0 hq1) (by simp) rfl ?_
  simp -dsimp -implicitDefEqProofs;refine⟨λh=>by rw[<-hf,oD h],λh=>⟨gB hlt hl,k+1,⟨sU e q,?_⟩⟩⟩;rw[xB h]at hf
  have hle:sU e q<=1048576:=by
   rcases yor e q hq0 hq1 with e1|e1
   .omega
   .omega
  exact⟨⟨hlt,h,hle,hf⟩,by omega,by apply aB<;>simp⟩
 .simp -dsimp -implicitDefEqProofs [aG hge];rw[zaS hge]at hf;intro _
  first|simpa[sG]using hf|simpa[sG]using hf.symm
def yzG(xs:List (List yR6))(hl:yck xs):qB prg 66 [.c (.sl 1 (xs.map nD))] (.c (.sl 1 (xs.map nD))):=by
 refine dB ygo ?_;simp -dsimp -implicitDefEqProofs [yb1];intro hlen;have hl1:=hl.1;refine⟨by omega,yoL ?_⟩;simp -dsimp -implicitDefEqProofs;refine qA (ι:=Nat) (λk=>k<=xs.length) (λk=>xC [(0,.c (.sl 1 (xs.map nD))),(3,.own 7 1 xs.length),(4,.c (.i k))] [(7,.row 1 (partly nD [.sl 3 []] xs k))]) (λk=>xs.length-k) 0 (by simp) (by apply aB<;>simp[mF]) ?_
 rintro k hk
 rcases zae k xs.length with hlt|hge
 .obtain⟨e,he⟩:∃e,xs[k]?=some e:=⟨_,zaa hlt⟩;have hs:=fG (f:=nD) (z:=[.sl 3 []]) he
  have hd:((partly nD [.sl 3 []] xs k)[k]?.getD []).set 0 (.sl 3 (e.map yR6.enc))=[.sl 3 (e.map yR6.enc)]:=by
   have:=tX (f:=nD) (z:=[.sl 3 []]) (n:=1) rfl (λ_=>rfl) hlt;obtain⟨x,hx⟩:=zbg.1 this;rw[hx];rfl
  have hs2:(partly nD [.sl 3 []] xs k).set k [.sl 3 (e.map yR6.enc)]=partly nD [.sl 3 []] xs (k+1):=hs;simp -dsimp -implicitDefEqProofs [he,fC hlt]
  refineλ_=>iF (yCE e (hl.2 e (zac he))) (by simp) rfl ?_
  simp -dsimp -implicitDefEqProofs [fC hlt,dG hk,hd,hs2];exact⟨hlt,gB hlt hlen,k+1,hlt,by omega,by apply aB<;>simp⟩
 .simp -dsimp -implicitDefEqProofs [aG hge];intro _;rw[eG hge,zad (by simp)]
def yAe(es fs:List (List yR6)):qB prg 75 [.c (.sl 1 (es.map nD)),.c (.sl 1 (fs.map nD))] (.c (.b (decide (es=fs)))):=by
 refine dB ypr ?_;simp -dsimp -implicitDefEqProofs [ygH];intro hl1 hl2;refine⟨λh e=>h (by rw[e]),λhlen=>?_⟩;have hlen':es.length=fs.length:=by omega
 refine qA (ι:=Nat) (λk=>k<=es.length/\es.take k=fs.take k) (λk=>xC [(0,.c (.sl 1 (es.map nD))),(1,.c (.sl 1 (fs.map nD))),(5,.c (.i k))] []) (λk=>es.length-k) 0 (by simp) (by apply aB<;>simp) ?_
 rintro k ⟨hk,htk⟩
 rcases zae k es.length with hlt|hge
 .obtain⟨e,he⟩:∃e,es[k]?=some e:=⟨_,zaa hlt⟩;obtain⟨f,hf⟩:∃f,fs[k]?=some f:=⟨_,zaa (by omega)⟩;simp -dsimp -implicitDefEqProofs [he,hf,fC hlt,fC (hlen'▸hlt)];intro _;refine lC (yCq e f) ?_;simp -dsimp -implicitDefEqProofs;refine⟨λh=>qQ he hf h,λh=>⟨gB hlt hl1,k+1,⟨hlt,kJ he hf htk h⟩,by omega,by apply aB<;>simp⟩⟩
 .simp -dsimp -implicitDefEqProofs [aG hge];intro _;exact lN hge hlen' htk
structure yR2 where
 Time:Int
 yR8:Int
 yRT:yRT
 deriving DecidableEq,Inhabited
@[simp] def yR2.enc(e:yR2):List C:=[.i e.Time,.i e.yR8,.b e.yRT.Up,.sl 1 (e.yRT.Rows.map jE)]
-- yR2
def xQ(e:yR2)(l:Int):Int:=sO (kT e.yRT l) λl=>l
def yR2.small(e:yR2):Prop:=e.yRT.small
def ylY:ya8 xQ yR2.small:=by
 intro e l h0 h1;unfold xQ;rcases ycE e.yRT _ h0 h1 with e0|⟨a0,b0,s0⟩
 .exact .inl (oD (by omega))
 rw[xB a0];exact .inr ⟨a0,by omega,s0⟩
def yzj(e:yR2)(l:Int)(h0:0<=l)(h1:l<=1048576):qB prg 166 [.agg (e.enc.map .c),.c (.i l)] (.c (.i (xQ e l))):=by
 refine dB ypw ?_;simp -dsimp -implicitDefEqProofs [yfO];refine aA (yhq e.yRT _ h0 h1) ?_;simp -dsimp -implicitDefEqProofs;refine⟨λh=>by simp[xQ,oD h],λp0=>?_⟩;simp[xQ,xB p0]
def yzJ(e:yR2)(hl:yR2.small e):qB prg 183 [.agg (e.enc.map .c)] (.agg (e.enc.map .c)):=by
 refine dB yf4 ?_;simp -dsimp -implicitDefEqProofs [ybQ];refine dD (ylp e.yRT hl) ?_;simp -dsimp -implicitDefEqProofs
def yA4(a b:yR2):qB prg 190 [.agg (a.enc.map .c),.agg (b.enc.map .c)] (.c (.b (decide (a=b)))):=by
 refine dB yqa ?_;obtain⟨a0,a1,a2⟩:=a;obtain⟨b0,b1,b2⟩:=b;simp -dsimp -implicitDefEqProofs [ygn,yR2.mk.injEq];refine⟨λh=>by simp_all,λh0=>?_⟩;refine⟨λh=>by simp_all,λh1=>?_⟩;refine aA (ylc a2 b2) ?_;simp -dsimp -implicitDefEqProofs;refine⟨λh=>by simp_all,λh2=>?_⟩
 simp_all
-- []yR2
def nX:List yR2->Int->Int:=ybF xQ
def ybz:List yR2->Prop:=aW yR2.small
def ytD:ya8 nX ybz:=yeR ylY
def ywI(xs:List yR2)(l:Int)(h0:0<=l)(h1:l<=1048576):qB prg 60 [.c (.sl 4 (xs.map yR2.enc)),.c (.i l)] (.c (.i (nX xs l))):=by
 refine dB yoH ?_;simp -dsimp -implicitDefEqProofs [yfa];intro hl;have hs:szS xs.length l=if l-xs.length<0 then -1 else l-xs.length:=rfl
 refine⟨by unfold maxLen at hl;unfold inI;omega,λh=>?_,λh=>?_⟩
 .simp[nX,ybF,sO,hs,h]
 have h':0<=l-xs.length:=by omega
 have e0:nX xs l=sG xQ xs (l-xs.length):=by
  have:szS xs.length l=l-xs.length:=by rw[hs,if_neg (by omega)]
  simp only[nX,ybF];rw[this,xB h']
 refine qA (ι:=Nat×Int) (λp=>p.1<=xs.length/\0<=p.2/\p.2<=1048576/\sG xQ (xs.drop p.1) p.2=nX xs l) (λp=>xC [(0,.c (.sl 4 (xs.map yR2.enc))),(1,.c (.i p.2)),(5,.c (.i p.1))] []) (λp=>xs.length-p.1) (0,l-xs.length) ⟨by simp,h',by simp only;omega,by simp[e0]⟩ (by apply aB<;>simp) ?_
 rintro⟨k,q⟩ ⟨hk,hq0,hq1,hf⟩
 simp only at hk hq0 hq1 hf;rcases zae k xs.length with hlt|hge
 .obtain⟨e,he⟩:∃e,xs[k]?=some e:=⟨_,zaa hlt⟩
  have hd:xs.drop k=e::xs.drop (k+1):=by
   rw[zaw hlt,(zab.1 he).2]
  rw[hd,sG]at hf;simp -dsimp -implicitDefEqProofs [he,fC hlt]
  refineλ_=>mD (yzj e q hq0 hq1) (by simp) rfl ?_
  simp -dsimp -implicitDefEqProofs;refine⟨λh=>by rw[<-hf,oD h],λh=>⟨gB hlt hl,k+1,⟨xQ e q,?_⟩⟩⟩;rw[xB h]at hf
  have hle:xQ e q<=1048576:=by
   rcases ylY e q hq0 hq1 with e1|e1
   .omega
   .omega
  exact⟨⟨hlt,h,hle,hf⟩,by omega,by apply aB<;>simp⟩
 .simp -dsimp -implicitDefEqProofs [aG hge];rw[zaS hge]at hf;intro _
  first|simpa[sG]using hf|simpa[sG]using hf.symm
def yx9(xs:List yR2)(hl:ybz xs):qB prg 71 [.c (.sl 4 (xs.map yR2.enc))] (.c (.sl 4 (xs.map yR2.enc))):=by
 refine dB yeX ?_;simp -dsimp -implicitDefEqProofs [ya4];intro hlen;have hl1:=hl.1;refine⟨by omega,?_⟩;refine qA (ι:=Nat) (λk=>k<=xs.length) (λk=>xC [(0,.c (.sl 4 (xs.map yR2.enc))),(3,.own 7 4 xs.length),(4,.c (.i k))] [(7,.row 4 (partly yR2.enc [.i 0,.i 0,.b false,.sl 1 []] xs k))]) (λk=>xs.length-k) 0 (by simp) (by apply aB<;>simp[mF]) ?_
 rintro k hk
 rcases zae k xs.length with hlt|hge
 .obtain⟨e,he⟩:∃e,xs[k]?=some e:=⟨_,zaa hlt⟩;have hs:=fG (f:=yR2.enc) (z:=[.i 0,.i 0,.b false,.sl 1 []]) he;have hd:=qG (f:=yR2.enc) (z:=[.i 0,.i 0,.b false,.sl 1 []]) (n:=4) rfl hlt;simp only[yR2.enc,yRT.enc]at hs;simp -dsimp -implicitDefEqProofs [he,fC hlt]
  refineλ_=>iF (yzJ e (hl.2 e (zac he))) (by simp) rfl ?_
  simp -dsimp -implicitDefEqProofs [fC hlt,dG hk,hd,hs];exact⟨hlt,gB hlt hlen,k+1,hlt,by omega,by apply aB<;>simp⟩
 .simp -dsimp -implicitDefEqProofs [aG hge];intro _;rw[eG hge,zad (by simp)]
def yyP(es fs:List yR2):qB prg 80 [.c (.sl 4 (es.map yR2.enc)),.c (.sl 4 (fs.map yR2.enc))] (.c (.b (decide (es=fs)))):=by
 refine dB yn3 ?_;simp -dsimp -implicitDefEqProofs [yeP];intro hl1 hl2;refine⟨λh e=>h (by rw[e]),λhlen=>?_⟩;have hlen':es.length=fs.length:=by omega
 refine qA (ι:=Nat) (λk=>k<=es.length/\es.take k=fs.take k) (λk=>xC [(0,.c (.sl 4 (es.map yR2.enc))),(1,.c (.sl 4 (fs.map yR2.enc))),(5,.c (.i k))] []) (λk=>es.length-k) 0 (by simp) (by apply aB<;>simp) ?_
 rintro k ⟨hk,htk⟩
 rcases zae k es.length with hlt|hge
 .obtain⟨e,he⟩:∃e,es[k]?=some e:=⟨_,zaa hlt⟩;obtain⟨f,hf⟩:∃f,fs[k]?=some f:=⟨_,zaa (by omega)⟩;simp -dsimp -implicitDefEqProofs [he,hf,fC hlt,fC (hlen'▸hlt)];intro _;refine lC (yA4 e f) ?_;simp -dsimp -implicitDefEqProofs;refine⟨λh=>qQ he hf h,λh=>⟨gB hlt hl1,k+1,⟨hlt,kJ he hf htk h⟩,by omega,by apply aB<;>simp⟩⟩
 .simp -dsimp -implicitDefEqProofs [aG hge];intro _;exact lN hge hlen' htk
structure yRW where
 Time:Int
 yRV:List Reach
 ySl:List Way
 yRX:List yR8
 yR3:List (List yR6)
 yR9:List yRT
 ySd:List Int
 yRZ:yRZ
 Book:List ySb
 yR1:List yR2
 Start:Int
 In:Int
 Out:Int
 deriving DecidableEq
@[simp] def yRW.enc(e:yRW):List C:=[.i e.Time,.sl 3 (e.yRV.map Reach.enc),.sl 2 (e.ySl.map Way.enc),.sl 22 (e.yRX.map yR8.enc),.sl 1 (e.yR3.map nD),.sl 2 (e.yR9.map yRT.enc),.sl 1 (e.ySd.map qC),.i e.yRZ.Base,.i e.yRZ.ySe,.sl 1 (e.yRZ.yR5.map qC),.sl 1 (e.yRZ.yR7.map qC),.sl 5 (e.Book.map ySb.enc),.sl 4 (e.yR1.map yR2.enc),.i e.Start,.i e.In,.i e.Out]
-- yRW
def dK(e:yRW)(l:Int):Int:=sO (yaY e.yRV l) λl=>sO (yov e.ySl l) λl=>sO (ycs e.yRX l) λl=>sO (yB e.yR3 l) λl=>sO (yT e.yR9 l) λl=>sO (yhM e.ySd l) λl=>sO (yH e.yRZ l) λl=>sO (ygS e.Book l) λl=>sO (nX e.yR1 l) λl=>l
def yRW.small(e:yRW):Prop:=ybv e.yRV/\yhE e.ySl/\ycw e.yRX/\yck e.yR3/\aJ e.yR9/\ymY e.ySd/\e.yRZ.small/\yot e.Book/\ybz e.yR1
def ysM:ya8 dK yRW.small:=by
 intro e l h0 h1;unfold dK;rcases ynQ e.yRV _ h0 h1 with e0|⟨a0,b0,s0⟩
 .exact .inl (oD (by omega))
 rw[xB a0];rcases ysN e.ySl _ a0 (by omega)with e1|⟨a1,b1,s1⟩
 .exact .inl (oD (by omega))
 rw[xB a1];rcases yq5 e.yRX _ a1 (by omega)with e2|⟨a2,b2,s2⟩
 .exact .inl (oD (by omega))
 rw[xB a2];rcases ylQ e.yR3 _ a2 (by omega)with e3|⟨a3,b3,s3⟩
 .exact .inl (oD (by omega))
 rw[xB a3];rcases ygY e.yR9 _ a3 (by omega)with e4|⟨a4,b4,s4⟩
 .exact .inl (oD (by omega))
 rw[xB a4];rcases ybM e.ySd _ a4 (by omega)with e5|⟨a5,b5,s5⟩
 .exact .inl (oD (by omega))
 rw[xB a5];rcases ynx e.yRZ _ a5 (by omega)with e6|⟨a6,b6,s6⟩
 .exact .inl (oD (by omega))
 rw[xB a6];rcases yod e.Book _ a6 (by omega)with e7|⟨a7,b7,s7⟩
 .exact .inl (oD (by omega))
 rw[xB a7];rcases ytD e.yR1 _ a7 (by omega)with e8|⟨a8,b8,s8⟩
 .exact .inl (oD (by omega))
 rw[xB a8];exact .inr ⟨a8,by omega,s0,s1,s2,s3,s4,s5,s6,s7,s8⟩
def ywn(e:yRW)(l:Int)(h0:0<=l)(h1:l<=1048576):qB prg 22 [.agg (e.enc.map .c),.c (.i l)] (.c (.i (dK e l))):=by
 refine dB yo4 ?_;simp -dsimp -implicitDefEqProofs [yfp];refine aA (yzW e.yRV _ h0 h1) ?_;simp -dsimp -implicitDefEqProofs;refine⟨λh=>by simp[dK,oD h],λp0=>?_⟩;have q0:=yiI ynQ e.yRV h0 h1 p0;refine aA (yFf e.ySl _ p0 q0) ?_;simp -dsimp -implicitDefEqProofs;refine⟨λh=>by simp[dK,xB p0,oD h],λp1=>?_⟩;have q1:=yiI ysN e.ySl p0 q0 p1;refine aA (yB0 e.yRX _ p1 q1) ?_;simp -dsimp -implicitDefEqProofs;refine⟨λh=>by simp[dK,xB p0,xB p1,oD h],λp2=>?_⟩;have q2:=yiI yq5 e.yRX p1 q1 p2;refine aA (yyh e.yR3 _ p2 q2) ?_;simp -dsimp -implicitDefEqProofs;refine⟨λh=>by simp[dK,xB p0,xB p1,xB p2,oD h],λp3=>?_⟩;have q3:=yiI ylQ e.yR3 p2 q2 p3;refine aA (yqO e.yR9 _ p3 q3) ?_;simp -dsimp -implicitDefEqProofs;refine⟨λh=>by simp[dK,xB p0,xB p1,xB p2,xB p3,oD h],λp4=>?_⟩;have q4:=yiI ygY e.yR9 p3 q3 p4;refine aA (yk2 e.ySd _ p4 q4) ?_;simp -dsimp -implicitDefEqProofs;refine⟨λh=>by simp[dK,xB p0,xB p1,xB p2,xB p3,xB p4,oD h],λp5=>?_⟩;have q5:=yiI ybM e.ySd p4 q4 p5;refine aA (yAc e.yRZ _ p5 q5) ?_;simp -dsimp -implicitDefEqProofs;refine⟨λh=>by simp[dK,xB p0,xB p1,xB p2,xB p3,xB p4,xB p5,oD h],λp6=>?_⟩;have q6:=yiI ynx e.yRZ p5 q5 p6;refine aA (yz1 e.Book _ p6 q6) ?_;simp -dsimp -implicitDefEqProofs;refine⟨λh=>by simp[dK,xB p0,xB p1,xB p2,xB p3,xB p4,xB p5,xB p6,oD h],λp7=>?_⟩;have q7:=yiI yod e.Book p6 q6 p7;refine aA (ywI e.yR1 _ p7 q7) ?_;simp -dsimp -implicitDefEqProofs;refine⟨λh=>by simp[dK,xB p0,xB p1,xB p2,xB p3,xB p4,xB p5,xB p6,xB p7,oD h],λp8=>?_⟩;simp[dK,xB p0,xB p1,xB p2,xB p3,xB p4,xB p5,xB p6,xB p7,xB p8]
def yhw(e:yRW)(hl:yRW.small e):qB prg 24 [.agg (e.enc.map .c)] (.agg (e.enc.map .c)):=by
 refine dB yeD ?_;simp -dsimp -implicitDefEqProofs [ybb];refine dD (yBo e.yRV (hl.1)) ?_;simp -dsimp -implicitDefEqProofs;refine dD (yGr e.ySl (hl.2.1)) ?_;simp -dsimp -implicitDefEqProofs;refine dD (yEa e.yRX (hl.2.2.1)) ?_;simp -dsimp -implicitDefEqProofs;refine dD (yzG e.yR3 (hl.2.2.2.1)) ?_;simp -dsimp -implicitDefEqProofs;refine dD (ysk e.yR9 (hl.2.2.2.2.1)) ?_;simp -dsimp -implicitDefEqProofs;refine dD (yog e.ySd (hl.2.2.2.2.2.1.1)) ?_;simp -dsimp -implicitDefEqProofs;refine dD (yCc e.yRZ (hl.2.2.2.2.2.2.1)) ?_;simp -dsimp -implicitDefEqProofs;refine dD (yCx e.Book (hl.2.2.2.2.2.2.2.1.1)) ?_;simp -dsimp -implicitDefEqProofs;refine dD (yx9 e.yR1 (hl.2.2.2.2.2.2.2.2)) ?_;simp -dsimp -implicitDefEqProofs
def yds(a b:yRW):qB prg 25 [.agg (a.enc.map .c),.agg (b.enc.map .c)] (.c (.b (decide (a=b)))):=by
 refine dB yok ?_;obtain⟨a0,a1,a2,a3,a4,a5,a6,a7,a8,a9,a10,a11,a12⟩:=a;obtain⟨b0,b1,b2,b3,b4,b5,b6,b7,b8,b9,b10,b11,b12⟩:=b;simp -dsimp -implicitDefEqProofs [yfs,yRW.mk.injEq];refine⟨λh=>by simp_all,λh0=>?_⟩;refine aA (yBv a1 b1) ?_;simp -dsimp -implicitDefEqProofs;refine⟨λh=>by simp_all,λh1=>?_⟩;refine aA (yGI a2 b2) ?_;simp -dsimp -implicitDefEqProofs;refine⟨λh=>by simp_all,λh2=>?_⟩;refine aA (yEm a3 b3) ?_;simp -dsimp -implicitDefEqProofs;refine⟨λh=>by simp_all,λh3=>?_⟩;refine aA (yAe a4 b4) ?_;simp -dsimp -implicitDefEqProofs;refine⟨λh=>by simp_all,λh4=>?_⟩;refine aA (yvi a5 b5) ?_;simp -dsimp -implicitDefEqProofs;refine⟨λh=>by simp_all,λh5=>?_⟩;refine aA (yoD a6 b6) ?_;simp -dsimp -implicitDefEqProofs;refine⟨λh=>by simp_all,λh6=>?_⟩;refine aA (yBt a7 b7) ?_;simp -dsimp -implicitDefEqProofs;refine⟨λh=>by simp_all,λh7=>?_⟩;refine aA (yCk a8 b8) ?_;simp -dsimp -implicitDefEqProofs;refine⟨λh=>by simp_all,λh8=>?_⟩;refine aA (yyP a9 b9) ?_;simp -dsimp -implicitDefEqProofs;refine⟨λh=>by simp_all,λh9=>?_⟩;refine⟨λh=>by simp_all,λh10=>?_⟩;refine⟨λh=>by simp_all,λh11=>?_⟩;refine⟨λh=>by simp_all,λh12=>?_⟩
 simp_all
def yF2(es:List ySa)(hl:es.length<=1048576):nI prg 310 [.c (.sl 6 (es.map ySa.enc))] (.c (.ow 6 (es.map ySa.enc))):=by
 refine fF yab ?_;simp -dsimp -implicitDefEqProofs [oQ,jA];omega
def yBT(xs:List (List ySa))(hl:ybE xs):nI prg 213 [.c (.sl 1 (xs.map jE))] (.c (.ot 1 (xs.map jF))):=by
 refine fF yr7 ?_;simp -dsimp -implicitDefEqProofs [yiL];intro hlen;have hl1:=hl.1;refine ydE (k0:=1) 3 1 (by simp) (by simp) (by decide) ?_;refine qA (ι:=Nat) (λk=>k<=xs.length) (λk=>xC [(3,.own 3 1 k),(6,.c (.sl 1 (xs.map jE))),(7,.c (.i xs.length)),(8,.c (.i k))] [(3,.tr 1 0 ((xs.take k).map jF))]) (λk=>xs.length-k) 0 (by simp) (by apply aB<;>simp[Obj.leO]) ?_
 rintro k hk
 rcases zae k xs.length with hlt|hge
 .obtain⟨e,he⟩:∃e,xs[k]?=some e:=⟨_,zaa hlt⟩;have hs:xs.take (k+1)=xs.take k++[e]:=by rw[zat,he];rfl
  simp -dsimp -implicitDefEqProofs [he,fC hlt];refine sD (yF2 e (hl.2 e (zac he)).1) (by simp) (by simp[AV.closed,AV.jI,C.closed]) (by simp[fD]) ?_;simp -dsimp -implicitDefEqProofs [jA,Nat.min_eq_left hk];refine⟨by omega,gB hlt hlen,k+1,hlt,by omega,?_⟩;have hs2:(xs.map jF).take (k+1)=(xs.map jF).take k++[[.ow 6 (e.map ySa.enc)]]:=by rw[<-zbe,<-zbe,hs,zaE];rfl
  apply aB<;>simp[Obj.leO,hs2]
 .have:k=xs.length:=by omega
  subst this;simp -dsimp -implicitDefEqProofs [jA]
  try simp
def yaU(e:yRT)(hl:yRT.small e):nI prg 125 [.agg (e.enc.map .c)] (.agg (e.iD.map .c)):=by
 refine fF ypv ?_;simp -dsimp -implicitDefEqProofs [ygg];refine pJ (yBT e.Rows hl) (by simp) (by simp[AV.closed,AV.jI,C.closed,jF]) (by simp[fD]) ?_;simp -dsimp -implicitDefEqProofs [jA]
def iW{k:Nat}{xs:List X}{s:St}:wOf (.bsl k xs) s=(xs.map s.ev).flatMap AV.ids:=rfl
def ypY(e:yRT)(hl:yRT.small e):nI prg 37 [.agg (e.enc.map .c)] (.agg (e.iD.map .c)):=by
 refine fF ytC ?_;simp -dsimp -implicitDefEqProofs [yj1];have hl1:=hl.1
 refine qA (ι:=Nat) (λk=>k<=e.Rows.length) (λk=>match k with
  |0=>xC [(1,.box 1 0),(2,.box 2 0),(3,.box 3 0),(4,.c (.i 0))] [(1,.box [.c (.b e.Up),.c (.sl 1 (e.Rows.map jE))]),(2,.box [.c (.b false),.nil 1]),(3,.box [.c (.b e.Up),.nil 1])]
  |k+1=>xC [(1,.box 1 0),(2,.box 2 0),(3,.box 3 0),(4,.c (.i (k+1)))] [(1,.box [.c (.b e.Up),.c (.sl 1 (e.Rows.map jE))]),(2,.box [.c (.b false),.nil 1]),(3,.box [.c (.b e.Up),.own 25 1 (k+1)]),(25,.tr 1 0 ((e.Rows.map jF).take (k+1)))]) (λk=>e.Rows.length-k) 0 (by simp) (by apply aB<;>simp[Obj.leO]) ?_
 rintro k hk
 rcases k with _|k
 .rcases zae 0 e.Rows.length with hlt|hge
  .obtain⟨r,he⟩:∃r,e.Rows[0]?=some r:=⟨_,zaa hlt⟩;have h0:(0<e.Rows.length)=True:=by simpa using hlt
   have hgr:e.Rows[0]=r:=(zab.1 he).2;have hrl:=(hl.2 r (zac he)).1;simp -dsimp -implicitDefEqProofs [he,h0,hgr,jA,iW];intro hlen;refine⟨by omega,by unfold inI;omega,1,hlt,by omega,?_⟩
   have hs2:(e.Rows.map jF).take 1=[[.ow 6 (r.map ySa.enc)]]:=by
    obtain⟨y,l,hy⟩:∃y l,e.Rows=y::l:=by cases hr:e.Rows with|nil=>rw[hr]at hlt;simp at hlt|cons y l=>exact⟨y,l,rfl⟩
    rw[hy]at he|-;simp at he;subst he;rfl
   apply aB<;>simp[Obj.leO,hs2]
  .have hx:e.Rows=[]:=zai.1 (by omega);have h0:(0<e.Rows.length)=False:=by simp[hx]
   simp -dsimp -implicitDefEqProofs [h0];simp[hx]
 .rcases zae (k+1) e.Rows.length with hlt|hge
  .obtain⟨r,he⟩:∃r,e.Rows[k+1]?=some r:=⟨_,zaa hlt⟩;have h0:((k:Int)+1<e.Rows.length)=True:=by simp;omega
   have h1:(0<=(k:Int)+1)=True:=by simp;omega
   have h2:((k:Int)+1).toNat=k+1:=by omega
   have hrl:=(hl.2 r (zac he)).1;simp -dsimp -implicitDefEqProofs [he,h0,h1,h2,jA,iW];intro hlen;refine⟨by omega,by omega,by omega,by unfold inI;omega,k+2,hlt,by omega,?_⟩
   have hs2:(e.Rows.map jF).take (k+2)=(e.Rows.map jF).take (k+1)++[[.ow 6 (r.map ySa.enc)]]:=by
    rw[zat,zaA,he];rfl
   apply aB<;>simp[Obj.leO,hs2]<;>omega
  .have h0:((k:Int)+1<e.Rows.length)=False:=by simp;omega
   have hx:e.Rows.length=k+1:=by omega
   simp -dsimp -implicitDefEqProofs [h0];intro _;have e1:(e.Rows.map jF).take (k+1)=e.Rows.map jF:=zad (by simp;omega);simp[e1]
def ybP(e:yRT)(hl:yRT.small e):qB prg 37 [.agg (e.enc.map .c)] (.agg (e.enc.map .c)):=(ypY e hl).pure (by simp[AV.shr,AV.yoE,dO,C.shr,eF yI])
def yAv(n:Nat)(k:Int)(h0:0<=k)(h1:k+6*n<=8000000000000000000):qB prg 305 [.c (.sl 6 (marked mkB 6 [] k n)),.c (.i k)] (.c (.i (k+6*n))):=by
 refine dB yp4 ?_;simp -dsimp -implicitDefEqProofs [ygr];refine qA (ι:=Nat) (λi=>i<=n) (λi=>xC [(0,.c (.sl 6 (marked mkB 6 [] k n))),(1,.c (.i (k+6*i))),(5,.c (.i i))] []) (λi=>n-i) 0 (by simp) (by apply aB<;>simp) ?_
 rintro i hi
 rcases zae i n with hlt|hge
 .have hg:=ydI (mk:=mkB) (c:=6) (k:=k) hlt;simp only[mkB]at hg;simp -dsimp -implicitDefEqProofs [kE,fC hlt,hg];intro hlen;refine⟨by unfold inI;omega,by unfold inI;omega,by unfold inI;omega,by unfold inI;omega,by unfold inI;omega,by unfold inI;omega,by unfold inI;omega,i+1,hlt,by omega,?_⟩;apply aB<;>simp<;>omega
 .have:i=n:=by omega
  subst this;simp -dsimp -implicitDefEqProofs [kE]
def fBs(k:Int)(r:List ySa):List C:=[.sl 6 (marked mkB 6 [] k r.length)]
def lM{α:Type}{f g:Int->α->List C}{n:α->Nat}(h:∀k x,dO (f k x)=some (g k x)):∀(l:List α) (k:Int),yaq (dH f n k l)=some (dH g n k l)
 |[],_=>rfl
 |x::l,k=>by simp[dH,yaq,h k x,lM h l]
def yy7(k:Int)(r:List ySa):dO (fB k r)=some (fBs k r):=rfl
def ydB(xs:List (List ySa))(k:Int)(h0:0<=k)(h1:k+cnt nB xs<=8000000000000000000):qB prg 200 [.c (.sl 1 (dH fBs nB k xs)),.c (.i k)] (.c (.i (k+cnt nB xs))):=by
 refine dB yoS ?_;simp -dsimp -implicitDefEqProofs [yfe];refine qA (ι:=Nat) (λi=>i<=xs.length) (λi=>xC [(0,.c (.sl 1 (dH fBs nB k xs))),(1,.c (.i (k+pI nB xs i))),(5,.c (.i i))] []) (λi=>xs.length-i) 0 (by simp) (by apply aB<;>simp[jK]) ?_
 rintro i hi
 rcases zae i xs.length with hlt|hge
 .obtain⟨e,he⟩:∃e,xs[i]?=some e:=⟨_,zaa hlt⟩;have hg:=ydA (f:=fBs) (n:=nB) (k:=k) he;have hc:=kK (n:=nB) he;have hle:=kR (n:=nB) (xs:=xs) (i:=i+1);have hn:nB e=6*e.length:=rfl;simp only[fBs]at hg;simp -dsimp -implicitDefEqProofs [jD,fC hlt,hg];intro hlen;refine aA (yAv e.length (k+pI nB xs i) (by omega) (by omega)) ?_;have n1:(k+(pI nB xs i:Int)+6*(e.length:Int)<0)=False:=by simp;omega
  simp -dsimp -implicitDefEqProofs [n1];refine⟨gB hlt hlen,i+1,hlt,by omega,?_⟩;apply aB<;>simp<;>omega
 .have:i=xs.length:=by omega
  subst this;simp -dsimp -implicitDefEqProofs [jD];rw[cO (Nat.le_refl _)];intro _;rfl
def yBz(es:List ySb)(hl:es.length<=1048576):nI prg 70 [.c (.sl 5 (es.map ySb.enc))] (.c (.ow 5 (es.map ySb.enc))):=by
 refine fF yh1 ?_;simp -dsimp -implicitDefEqProofs [ycO];intro hlen;refine⟨by omega,?_⟩;refine qA (ι:=Nat) (λk=>k<=es.length) (λk=>xC [(0,.c (.sl 5 (es.map ySb.enc))),(3,.own 7 5 es.length),(4,.c (.i k))] [(7,.row 5 (partly ySb.enc [.i 0,.i 0,.i 0,.i 0,.i 0] es k))]) (λk=>es.length-k) 0 (by simp) (by apply aB<;>simp[mF]) ?_
 rintro k hk
 rcases zae k es.length with hlt|hge
 .obtain⟨e,he⟩:∃e,es[k]?=some e:=⟨_,zaa hlt⟩;have hs:=fG (f:=ySb.enc) (z:=[.i 0,.i 0,.i 0,.i 0,.i 0]) he;have hd:=qG (f:=ySb.enc) (z:=[.i 0,.i 0,.i 0,.i 0,.i 0]) (n:=5) rfl hlt;simp only[ySb.enc]at hs;simp -dsimp -implicitDefEqProofs [he,fC hlt]
  refineλ_=>iF (yxD e) (by simp) rfl ?_
  simp -dsimp -implicitDefEqProofs [fC hlt,dG hk,hd,hs];exact⟨hlt,gB hlt hlen,k+1,hlt,by omega,by apply aB<;>simp⟩
 .simp -dsimp -implicitDefEqProofs [aG hge];intro _;rw[eG hge,zad (by simp)]
def ylw(k:Int):List C:=[.i k,.i (k+1),.i (k+1+1),.i (k+1+1+1),.i (k+1+1+1+1)]
end
end Go.Proofs.YtekgilpcgbbfcaaGreat
