/- What functions answer, in plain Lean. -/
import Derived.Test.YtdadkiofenhnbaaGreatR11
set_option linter.all false
set_option maxRecDepth 100000
set_option maxHeartbeats 4000000
namespace Go.Proofs.YtdadkiofenhnbaaGreat
open Go.RowKit
noncomputable section
def yvh(cmp:Nat→Nat→Int)(A xs B M0 M1:List Nat)(hM0:M0=pM A xs B)(hM1:M1=pM A (sorted (fE cmp) xs) B)(q e N:Nat)(hq:q=A.length)(he:e=q+xs.length)(hN:N=M0.length)(hn:1≤N)(hn2:N≤1048576)(f:Nat)(a b:List C)(hf:∃fn,Tryz.prog.funcs[f]?=some fn∧fn.body.isSome=true∧(fn.name != "runtime.NumGoroutine")=true)
 (hc:∀x y:Nat,x∈xs->y∈xs->qB prg f [.c (.i x),.c (.i y),.elt a,.elt b] (.c (.i (cmp x y)))):
 InF prg 377 (.c (cw 1 (M0.map kC))) (.c (cw 1 (M1.map kC))) [.c (.i q),.c (.i e),.fn f [.elt a,.elt b]] (.tup []):=by
 have hpl:(sorted (fE cmp) xs).length=xs.length:=sorted_perm.length_eq;have hL:M1.length=N:=by rw[hN,hM0,hM1,yc,yc,hpl]
 have hN2:q+xs.length+B.length=N:=by rw[hN,hM0,yc];omega
 rw[kH (by rw[zai];omega),kH (by rw[zai,hL];omega)];refine aK dM (by simp) (by simp) rfl λhwf=>?_
 have hg1:gO (fE cmp) xs 1=xs\/xs.length=0:=by
  rcases zao xs.length with h|h
  .exact .inr h
  .exact .inl (yJ4 h)
 have hg2:gO (fE cmp) xs 1=xs:=by
  rcases hg1 with h|h
  .exact h
  .rw[zae]at h;subst h;rfl
 have hg3:xs.length=0->sorted (fE cmp) xs=xs:=λh=>by rw[zae]at h;subst h;rfl
 refine eP ?_;refine⟨by unfold inI;omega,?_⟩;refine qA (ι:=Nat) (λi=>q+1<=i/\(i<=e\/i=q+1)) (λi=>xC [(0,.own 0 1 N),(1,.c (.i q)),(2,.c (.i e)),(3,.fn f [.elt a,.elt b]),(8,.c (.i i)),(1000000,.own 0 1 N)] [(0,.row 1 ((pM A (gO (fE cmp) xs (i-q)) B).map kC))]) (λi=>e-i) (q+1) ⟨Nat.le_refl _,.inr rfl⟩ (by apply aB<;>simp[hg2,hN,hM0]) ?_
 rintro i ⟨hi1,hi⟩
 rcases zan i e with hlt|hge
 .obtain⟨t,ht⟩:∃t,t=i-q:=⟨_,rfl⟩;rw[<-ht];have hop:=ylr (lt:=fE cmp) (xs:=xs) t (by omega);have hol:(yeu (fE cmp) xs t).length=t:=by rw[hop.length_eq,zaz];omega
  have hom:∀y∈yeu (fE cmp) xs t,y∈xs:=λy hy=>zav (hop.mem_iff.1 hy);obtain⟨x,hx⟩:∃x,xs[t]?=some x:=⟨_,zab (by omega)⟩;have hxm:=zac hx;have ht1:i+1-q=t+1:=by omega
  refine eU (fC hlt) ?_;rw[gO_go hx];generalize hP:yeu (fE cmp) xs t=P at *;refine qA (ι:=Nat×List Nat×List Nat) (λp=>p.1=q+p.2.1.length/\p.2.1++p.2.2=P/\∀y∈p.2.2,fE cmp x y=true) (λp=>xC [(0,.own 0 1 N),(1,.c (.i q)),(2,.c (.i e)),(3,.fn f [.elt a,.elt b]),(8,.c (.i i)),(9,.c (.i p.1)),(1000000,.own 0 1 N)] [(0,.row 1 ((pM A (gM xs p.2.1 p.2.2 x t) B).map kC))]) (λp=>p.1) (i,P,[]) ⟨by simp only;omega,by simp,by simp⟩ (by apply aB<;>simp) ?_
  rintro⟨j,l1,l2⟩ ⟨hj,he2,h2⟩
  simp only at hj he2 h2;rcases zbS l1 with e0|⟨l,y,e0⟩
  .subst e0;have hins:=yyn (lt:=fE cmp) (x:=x) he2 h2 (λl y h=>by simp at h);have hend:=yGs (lt:=fE cmp) hx (by rw[hP];exact hins);have hjq:j=q:=by simpa using hj
   subst hjq;refine eP ?_;refine⟨by unfold inI;omega,i+1,⟨by omega,by omega⟩,by omega,?_⟩;apply aB<;>simp[hend,ht1]
  .rw[zbT]at e0;subst e0;have hyP:y∈xs:=hom y (by rw[<-he2];simp);have hj2:j=q+l.length+1:=by rw[hj];simp;omega
   obtain⟨m,hm⟩:∃m,m=q+l.length:=⟨_,rfl⟩;obtain⟨w1,w2,w3⟩:=yJ3 (A:=A) (B:=B) (xs:=xs) (t:=t) (x:=x) (y:=y) (l:=l) (l2:=l2) hq hj2 hm;have hend:=λh=>yGs (lt:=fE cmp) (l1:=l++[y]) (l2:=l2) hx (by rw[hP];exact yyn (lt:=fE cmp) (x:=x) he2 h2 h)
   have hlen:(pM A (gM xs (l++[y]) l2 x t) B).length=N:=by
    have:=yMp (x:=x) (xs:=xs) (l1:=l++[y]) (l2:=l2) (i:=t) (by rw[<-zak,he2,hol]) (by omega);rw[yc,this];omega
   have hll:j<N:=by rw[<-hlen];exact(zaa.1 w1).1
   have hMe:(∀l' y',l++[y]=l'++[y']->fE cmp x y'=false)->pM A (gM xs (l++[y]) l2 x t) B=pM A (gO (fE cmp) xs (t+1)) B:=λh=>by rw[hend h]
   clear hend;generalize pM A (gM xs (l++[y]) l2 x t) B=M at *;have v1:=(zaa.1 w1).2;have v2:=(zaa.1 w2).2;have k1:j<M.length:=(zaa.1 w1).1;have k2:m<M.length:=(zaa.1 w2).1;have ej:((j:Int)-1)=(m:Int):=by omega
   have j0:((q:Int)<(j:Int))=True:=by simp;omega
   have j0':(q<j)=True:=by simp;omega
   have mn:m<N:=by omega
   have hf':∃fn,Tryz.prog.funcs[f]?=some fn∧fn.body.isSome=true∧¬fn.name= "runtime.NumGoroutine":=by simpa using hf
   simp -dsimp -implicitDefEqProofs [j0,j0',ej,w1,w2,v1,v2,k1,k2,kC,hll,mn];refine⟨by unfold inI;omega,hf',?_⟩;refine lC (hc x y hxm hyP) ?_;have hr2:∀h,((M.map kC).set j [C.i y])[m]'h=[C.i y]:=by intro h;rw[zbG (by omega)];simp[v2,kC]
   have hs3:((M.map kC).set j [C.i y]).set m [C.i x]=(pM A (gM xs l (y::l2) x t) B).map kC:=by rw[<-w3,zaR,zaR];rfl
   simp -dsimp -implicitDefEqProofs [ej,w1,w2,v1,v2,k1,k2,hll,mn,hr2,hs3];refine⟨λhcm=>?_,λhcm=>?_⟩
   .refine⟨by unfold inI;omega,m,l,y::l2,⟨hm,by rw[<-he2];simp,λz hz=>?_⟩,by omega,?_⟩
    .rcases zaC.1 hz with hz|hz
     .subst hz;simp[fE];omega
     .exact h2 z hz
    .apply aB<;>simp[kC,w1,w2,v1,v2,hr2,hs3]
   .have hM:=hMe λl' y' h=>by
     have:=(zdp h rfl).2;simp at this;subst this;simp[fE];omega
    refine⟨by unfold inI;omega,i+1,⟨by omega,by omega⟩,by omega,?_⟩;apply aB<;>simp[hM,ht1]
 .have hfin:gO (fE cmp) xs (i-q)=sorted (fE cmp) xs:=by
   rcases zao xs.length with h|h
   .rw[hg3 h];rw[show i-q=1 by omega,hg2]
   .rw[show i-q=xs.length by omega,yLn]
  refine eU (aG hge) ?_;rw[hfin,<-hM1];refine⟨by rw[List.take_of_length_le (by rw[zai,hL];exact Nat.le_refl _)],?_⟩;simp[ybG]
def yhS(P X R Y Q:List Nat)(i:Nat):List Nat:=P++((Y.take i++X.drop i)++(R++((X.take i++Y.drop i)++Q)))
def ysV{P X R Y Q:List Nat}{i n:Nat}(hX:X.length=n)(hY:Y.length=n)(hi:i<=n):(yhS P X R Y Q i).length=P.length+n+R.length+n+Q.length:=by
 simp[yhS];omega
def yEe{P X R Y Q:List Nat}{i n x y p q:Nat}(hX:X.length=n)(hY:Y.length=n)(hx:X[i]?=some x)(hy:Y[i]?=some y)(hp:p=P.length+i)(hq:q=P.length+n+R.length+i):
 (yhS P X R Y Q i)[p]?=some x/\(yhS P X R Y Q i)[q]?=some y/\((yhS P X R Y Q i).set p y).set q x=yhS P X R Y Q (i+1):=by
 have i1:=(zaa.1 hx).1;have i2:=(zaa.1 hy).1;have d1:X.drop i=x::X.drop (i+1):=by rw[zay i1,(zaa.1 hx).2]
 have d2:Y.drop i=y::Y.drop (i+1):=by rw[zay i2,(zaa.1 hy).2]
 have t1:X.take (i+1)=X.take i++[x]:=by rw[zar,hx];rfl
 have t2:Y.take (i+1)=Y.take i++[y]:=by rw[zar,hy];rfl
 have e1:yhS P X R Y Q i=(P++Y.take i)++x::((X.drop (i+1)++(R++X.take i))++y::(Y.drop (i+1)++Q)):=by
  unfold yhS;rw[d1,d2];simp
 have e2:yhS P X R Y Q (i+1)=(P++Y.take i)++y::((X.drop (i+1)++(R++X.take i))++x::(Y.drop (i+1)++Q)):=by
  unfold yhS;rw[t1,t2];simp
 rw[e1,e2];exact yx4 (by simp;omega) (by simp;omega)
def yCA{P X R Y Q:List Nat}:yhS P X R Y Q 0=P++(X++(R++(Y++Q))):=by simp[yhS]
def yBK{P X R Y Q:List Nat}{n:Nat}(hX:X.length=n)(hY:Y.length=n):yhS P X R Y Q n=P++(Y++(R++(X++Q))):=by
 unfold yhS;rw[show X.drop n=[]from zaZ (by omega),show X.take n=X from List.take_of_length_le (by omega),show Y.drop n=[]from zaZ (by omega),show Y.take n=Y from List.take_of_length_le (by omega)];simp
def yy9(P X R Y Q M0 M1:List Nat)(p q n N:Nat)(hM0:M0=yhS P X R Y Q 0)(hM1:M1=yhS P X R Y Q n)(hX:X.length=n)(hY:Y.length=n)(hp:p=P.length)(hq:q=P.length+n+R.length)(hN:N=M0.length)(hn:1<=N)(hn2:N<=1048576)(f:Nat)(a b:List C):
 InF prg 382 (.c (cw 1 (M0.map kC))) (.c (cw 1 (M1.map kC))) [.c (.i p),.c (.i q),.c (.i n),.fn f [.elt a,.elt b]] (.tup []):=by
 have hN2:P.length+n+R.length+n+Q.length=N:=by rw[hN,hM0,ysV hX hY (zby _)]
 have hL:M1.length=N:=by rw[hM1,ysV hX hY (Nat.le_refl _)];omega
 rw[kH (by rw[zai];omega),kH (by rw[zai,hL];omega)];refine aK ybL (by simp) (by simp) rfl λhwf=>?_;refine eP ?_;refine qA (ι:=Nat) (λi=>i<=n) (λi=>xC [(0,.own 0 1 N),(1,.c (.i p)),(2,.c (.i q)),(3,.c (.i n)),(10,.c (.i i)),(1000000,.own 0 1 N)] [(0,.row 1 ((yhS P X R Y Q i).map kC))]) (λi=>n-i) 0 (zby _) (by apply aB<;>simp[hN,hM0]) ?_
 rintro i hi
 rcases zan i n with hlt|hge
 .obtain⟨x,hx⟩:∃x,X[i]?=some x:=⟨_,zab (by omega)⟩;obtain⟨y,hy⟩:∃y,Y[i]?=some y:=⟨_,zab (by omega)⟩;obtain⟨m,hm⟩:∃m,m=P.length+i:=⟨_,rfl⟩;obtain⟨j,hj⟩:∃j,j=P.length+n+R.length+i:=⟨_,rfl⟩;obtain⟨w1,w2,w3⟩:=yEe (P:=P) (R:=R) (Q:=Q) hX hY hx hy hm hj;have hlen:=ysV (P:=P) (R:=R) (Q:=Q) hX hY hi;generalize yhS P X R Y Q i=M at *;have v1:=(zaa.1 w1).2;have v2:=(zaa.1 w2).2;have k1:m<M.length:=(zaa.1 w1).1;have k2:j<M.length:=(zaa.1 w2).1;have em:((p:Int)+i)=(m:Int):=by omega
  have ej:((q:Int)+i)=(j:Int):=by omega
  have n1:m<N:=by omega
  have n2:j<N:=by omega
  have hr2:∀h,((M.map kC).set m [C.i y])[j]'h=[C.i y]:=by intro h;rw[zbG (by omega)];simp[v2,kC]
  have hs3:((M.map kC).set m [C.i y]).set j [C.i x]=(yhS P X R Y Q (i+1)).map kC:=by rw[<-w3,zaR,zaR];rfl
  simp -dsimp -implicitDefEqProofs [em,ej,fC hlt,w1,w2,v1,v2,k1,k2,kC,n1,n2,hr2,hs3];refine⟨by unfold inI;omega,by unfold inI;omega,by unfold inI;omega,by unfold inI;omega,i+1,hlt,by omega,?_⟩;apply aB<;>simp[hs3]
 .have:i=n:=by omega
  subst this;refine eP ?_;rw[<-hM1];refine⟨by rw[List.take_of_length_le (by rw[zai,hL];exact Nat.le_refl _)],?_⟩;simp[ybG]
def gQ(P U V Q:List Nat):List Nat:=P++(U++(V++Q))
def bU{P U V Q:List Nat}:(gQ P U V Q).length=P.length+U.length+V.length+Q.length:=by simp[gQ];omega
def yLS(P0 U0 V0 Q0 M0 M1:List Nat)(hM0:M0=gQ P0 U0 V0 Q0)(hM1:M1=gQ P0 V0 U0 Q0)(p m b N:Nat)(hU0:1<=U0.length)(hV0:1<=V0.length)(hp:p=P0.length)(hm:m=p+U0.length)(hb:b=m+V0.length)(hN:N=M0.length)(hn2:N<=1048576)(f:Nat)(ca cb:List C):
 InF prg 381 (.c (cw 1 (M0.map kC))) (.c (cw 1 (M1.map kC))) [.c (.i p),.c (.i m),.c (.i b),.fn f [.elt ca,.elt cb]] (.tup []):=by
 have hN2:P0.length+U0.length+V0.length+Q0.length=N:=by rw[hN,hM0,bU]
 have hL:M1.length=N:=by rw[hM1,bU];omega
 rw[kH (by rw[zai];omega),kH (by rw[zai,hL];omega)];refine aK ydC (by simp) (by simp) rfl λhwf=>?_;refine eP ?_;have e1:((m:Int)-p)=((U0.length:Nat):Int):=by omega
 have e2:((b:Int)-m)=((V0.length:Nat):Int):=by omega
 rw[e1,e2];refine⟨by unfold inI;omega,by unfold inI;omega,?_⟩
 refine qA (ι:=(Nat×Nat)×(List Nat×List Nat×List Nat×List Nat)) (λz=>z.1.1=z.2.2.1.length/\z.1.2=z.2.2.2.1.length/\1<=z.1.1/\1<=z.1.2/\m=z.2.1.length+z.1.1/\gQ z.2.1 z.2.2.2.1 z.2.2.1 z.2.2.2.2=M1)
  (λz=>xC [(0,.own 0 1 N),(2,.c (.i m)),(4,.fn f [.elt ca,.elt cb]),(10,.c (.i z.1.1)),(11,.c (.i z.1.2)),(1000000,.own 0 1 N)] [(0,.row 1 ((gQ z.2.1 z.2.2.1 z.2.2.2.1 z.2.2.2.2).map kC))]) (λz=>z.1.1+z.1.2) ((U0.length,V0.length),(P0,U0,V0,Q0)) ⟨rfl,rfl,hU0,hV0,by simp only;omega,hM1.symm⟩ (by apply aB<;>simp[hM0,bU,hN2]) ?_
 rintro⟨⟨i,j⟩,P,U,V,Q⟩ ⟨hU,hV,hi,hj,hmm,hT⟩
 simp only at hU hV hi hj hmm hT
 have hTl:P.length+U.length+V.length+Q.length=N:=by
  have:=congrArg List.length hT;rw[hL,bU]at this;omega
 have em:((m:Int)-i)=((P.length:Nat):Int):=by omega
 rcases zcl i j with h|h|h
 ·-- the left part is the shorter one
  obtain⟨Va,Vb,hVe,hVb⟩:∃Va Vb,V=Va++Vb/\Vb.length=i:=⟨V.take (j-i),V.drop (j-i),(zax _ _).symm,by simp;omega⟩;subst hVe;have hVa:Va.length=j-i:=by simp at hV;omega
  have g1:(gQ P U (Va++Vb) Q).length=N:=by rw[bU];omega
  have g2:(gQ P Vb Va (U++Q)).length=N:=by rw[bU];simp;simp at hTl;omega
  have hs:=yy9 P U Va Vb Q (gQ P U (Va++Vb) Q) (gQ P Vb Va (U++Q)) P.length (m+j-i) i N (by rw[yCA];simp[gQ]) (by rw[yBK hU.symm hVb];simp[gQ]) hU.symm hVb rfl (by omega) g1.symm (by omega) hn2 f ca cb;have q1:((i:Int)=(j:Int))=False:=by simp;omega
  have q1':(i=j)=False:=by simp;omega
  have q2:((j:Int)<(i:Int))=False:=by simp;omega
  have q2':(j<i)=False:=by simp;omega
  have q3:((m:Int)+j-i)=((m+j-i:Nat):Int):=by omega
  have q4:((j:Int)-i)=((j-i:Nat):Int):=by omega
  refine yafq q1 q1' q2 q2' em q3 ?_;refine⟨by unfold inI;omega,by unfold inI;omega,by unfold inI;omega,?_⟩;refine tH (up:=some (0,.row 1 ((gQ P Vb Va (U++Q)).map kC))) hs (by simp) rfl rfl (qH (rows:=(gQ P U (Va++Vb) Q).map kC) (by simp) rfl rfl (by simp[g1]) (by simp[g1,g2]) rfl rfl) (eU q4 ?_);refine⟨by unfold inI;omega,i,j-i,P,Vb,Va,U++Q,⟨hVb.symm,hVa.symm,hi,by omega,hmm,by rw[<-hT];simp[gQ]⟩,by omega,?_⟩;apply aB<;>simp
 .have g1:(gQ P U V Q).length=N:=by rw[bU];omega
  have g2:(gQ P V U Q).length=N:=by rw[bU];omega
  have hs:=yy9 P U [] V Q (gQ P U V Q) (gQ P V U Q) P.length m i N (by rw[yCA];simp[gQ]) (by rw[yBK hU.symm (by omega)];simp[gQ]) hU.symm (by omega) rfl (by simp;omega) g1.symm (by omega) hn2 f ca cb;subst h;refine eU em ?_;refine⟨by unfold inI;omega,?_⟩;refine tH (up:=some (0,.row 1 ((gQ P V U Q).map kC))) hs (by simp) rfl rfl (qH (rows:=(gQ P U V Q).map kC) (by simp) rfl rfl (by simp[g1]) (by simp[g1,g2]) rfl rfl) (eP ?_);rw[hT];refine⟨by rw[List.take_of_length_le (by rw[zai,hL];exact Nat.le_refl _)],?_⟩;simp[ybG]
 .obtain⟨Ua,Ub,hUe,hUa⟩:∃Ua Ub,U=Ua++Ub/\Ua.length=j:=⟨U.take j,U.drop j,(zax _ _).symm,by simp;omega⟩;subst hUe;have hUb:Ub.length=i-j:=by simp at hU;omega
  have g1:(gQ P (Ua++Ub) V Q).length=N:=by rw[bU];omega
  have g2:(gQ (P++V) Ub Ua Q).length=N:=by rw[bU];simp;simp at hTl;omega
  have hs:=yy9 P Ua Ub V Q (gQ P (Ua++Ub) V Q) (gQ (P++V) Ub Ua Q) P.length m j N (by rw[yCA];simp[gQ]) (by rw[yBK hUa hV.symm];simp[gQ]) hUa hV.symm rfl (by omega) g1.symm (by omega) hn2 f ca cb;have q1:((i:Int)=(j:Int))=False:=by simp;omega
  have q1':(i=j)=False:=by simp;omega
  have q2:((j:Int)<(i:Int))=True:=by simp;omega
  have q2':(j<i)=True:=by simp;omega
  have q4:((i:Int)-j)=((i-j:Nat):Int):=by omega
  refine yaff q1 q1' q2 q2' em ?_;refine⟨by unfold inI;omega,?_⟩;refine tH (up:=some (0,.row 1 ((gQ (P++V) Ub Ua Q).map kC))) hs (by simp) rfl rfl (qH (rows:=(gQ P (Ua++Ub) V Q).map kC) (by simp) rfl rfl (by simp[g1]) (by simp[g1,g2]) rfl rfl) (eU q4 ?_);refine⟨by unfold inI;omega,i-j,j,P++V,Ub,Ua,Q,⟨hUb.symm,hUa.symm,by omega,hj,by simp;omega,by rw[<-hT];simp[gQ]⟩,by omega,?_⟩;apply aB<;>simp
structure MG(lt:Nat->Nat->Bool)(S:Nat->Prop)(A l r B o M0 M1:List Nat)(a m b N:Nat):Prop where
 pl:1<=l.length
 pr:1<=r.length
 sl:∀x∈l,S x
 sr:∀x∈r,S x
 ol:l.Pairwise (tot lt)
 or:r.Pairwise (tot lt)
 cr:∀x∈l,∀y∈r,x<y
 po:o.Perm (l++r)
 oo:o.Pairwise (tot lt)
 ha:a=A.length
 hm:m=a+l.length
 hb:b=m+r.length
 h0:M0=gQ A l r B
 h1:M1=pM A o B
 hN:N=M0.length
 hn:N<=1048576
def MG.len1{lt:Nat->Nat->Bool}{S:Nat->Prop}{A l r B o M0 M1:List Nat}{a m b N:Nat}(g:MG lt S A l r B o M0 M1 a m b N):M1.length=N/\1<=N/\b<=N:=by
 have h1:=g.po.length_eq;have h2:=g.hN;have h3:=g.pl;have h4:=g.hb;have h5:=g.hm;have h6:=g.ha;rw[g.h0,bU]at h2;rw[g.h1,yc,h1,zak];omega
def ysg{i j:Nat}:((i:Int)+j).toNat/2=(i+j)/2:=by congr 1
def yui{A l r B:List Nat}{k t:Nat}(hk:k=A.length+t)(h:t<l.length):(gQ A l r B)[k]?=l[t]?:=by
 unfold gQ;exact yr9 hk h
def yt7{A l r B:List Nat}{k t:Nat}(hk:k=A.length+l.length+t)(h:t<r.length):(gQ A l r B)[k]?=r[t]?:=by
 unfold gQ;rw[<-zbb];exact yr9 (by rw[zak];exact hk) h
def swp_right{A r B:List Nat}{x y k t:Nat}(hy:r[t]?=some y)(hk:k=A.length+t):
 (pM A (r.take t++x::r.drop t) B)[k]?=some x/\(pM A (r.take t++x::r.drop t) B)[k+1]?=some y/\
 ((pM A (r.take t++x::r.drop t) B).set k y).set (k+1) x=pM A (r.take (t+1)++x::r.drop (t+1)) B:=by
 have i1:=(zaa.1 hy).1;have d1:r.drop t=y::r.drop (t+1):=by rw[zay i1,(zaa.1 hy).2]
 have t1:r.take (t+1)=r.take t++[y]:=by rw[zar,hy];rfl
 have e1:pM A (r.take t++x::r.drop t) B=(A++r.take t)++x::([]++y::(r.drop (t+1)++B)):=by unfold pM;rw[d1];simp
 have e2:pM A (r.take (t+1)++x::r.drop (t+1)) B=(A++r.take t)++y::([]++x::(r.drop (t+1)++B)):=by unfold pM;rw[t1];simp
 rw[e1,e2];exact yx4 (by simp;omega) (by simp;omega)
def swp_left{A l B:List Nat}{y u k t:Nat}(hu:l[t]?=some u)(hk:k=A.length+t):
 (pM A (l.take (t+1)++y::l.drop (t+1)) B)[k+1]?=some y/\(pM A (l.take (t+1)++y::l.drop (t+1)) B)[k]?=some u/\
 ((pM A (l.take (t+1)++y::l.drop (t+1)) B).set (k+1) u).set k y=pM A (l.take t++y::l.drop t) B:=by
 have i1:=(zaa.1 hu).1;have d1:l.drop t=u::l.drop (t+1):=by rw[zay i1,(zaa.1 hu).2]
 have t1:l.take (t+1)=l.take t++[u]:=by rw[zar,hu];rfl
 have e1:pM A (l.take (t+1)++y::l.drop (t+1)) B=(A++l.take t)++u::([]++y::(l.drop (t+1)++B)):=by unfold pM;rw[t1];simp
 have e2:pM A (l.take t++y::l.drop t) B=(A++l.take t)++y::([]++u::(l.drop (t+1)++B)):=by unfold pM;rw[d1];simp
 rw[e1,e2];obtain⟨a1,a2,a3⟩:=yx4 (P:=A++l.take t) (R:=[]) (Q:=l.drop (t+1)++B) (x:=u) (y:=y) (i:=k) (j:=k+1) (by simp;omega) (by simp;omega);exact⟨a2,a1,by rw[List.set_comm _ _ (by omega)];exact a3⟩
section
variable {cmp:Nat->Nat->Int} {S:Nat->Prop} {f:Nat} {ca cb:List C}
def yFc(h:SWO (fE cmp) S)(hf:∃fn,Tryz.prog.funcs[f]?=some fn∧fn.body.isSome=true∧(fn.name != "runtime.NumGoroutine")=true)
 (hc:∀x y:Nat,S x->S y->qB prg f [.c (.i x),.c (.i y),.elt ca,.elt cb] (.c (.i (cmp x y)))) {A r B o M0 M1:List Nat} {a m b N x:Nat} (g:MG (fE cmp) S A [x] r B o M0 M1 a m b N):
 InF prg 378 (.c (cw 1 (M0.map kC))) (.c (cw 1 (M1.map kC))) [.c (.i a),.c (.i m),.c (.i b),.fn f [.elt ca,.elt cb]] (.tup []):=by
 obtain⟨hL,hN1,hbN⟩:=g.len1;have hN:=g.hN;have hn:=g.hn;have ha:=g.ha;have hm:=g.hm;have hb:=g.hb;have h0:=g.h0;have h1:=g.h1;simp only[zaY]at hm;have hx:S x:=g.sl x (by simp);rw[kH (by rw[zai];omega),kH (by rw[zai,hL];omega)];refine aK aQ (by simp) (by simp) rfl λhwf=>?_;have e1:((m:Int)-a)=1:=by omega
 simp -dsimp -implicitDefEqProofs [qK,e1];refine⟨by unfold inI;omega,?_⟩
 refine qA (ι:=Nat×Nat) (λz=>m<=z.1/\z.1<=z.2/\z.2<=b/\(∀u∈r.take (z.1-m),fE cmp u x=true)/\(∀u∈r.drop (z.2-m),fE cmp u x=false))
  (λz=>xC [(0,.own 0 1 N),(1,.c (.i a)),(4,.fn f [.elt ca,.elt cb]),(10,.c (.i z.1)),(11,.c (.i z.2)),(1000000,.own 0 1 N)] [(0,.row 1 (M0.map kC))]) (λz=>z.2-z.1) (m,b) ⟨by simp,by simp only;omega,by simp,by simp,by simp[hb]⟩ (by apply aB<;>simp[hN]) ?_
 rintro⟨i,j⟩ ⟨b1,b2,b3,b4,b5⟩
 simp only at b1 b2 b3 b4 b5;have hf':∃fn,Tryz.prog.funcs[f]?=some fn∧fn.body.isSome=true∧¬fn.name= "runtime.NumGoroutine":=by simpa using hf
 have wx:M0[a]?=some x:=by rw[h0,yui (t:=0) (by omega) (by simp)];rfl
 have vx:=(zaa.1 wx).2;have kx:a<N:=by rw[hN];exact(zaa.1 wx).1
 rcases zan i j with hlt|hge
 .obtain⟨k,hk⟩:∃k,k=(i+j)/2:=⟨_,rfl⟩;obtain⟨y,hy⟩:∃y,r[k-m]?=some y:=⟨_,zab (by omega)⟩;have wy:M0[k]?=some y:=by rw[h0,yt7 (t:=k-m) (by simp;omega) (by omega)];exact hy
  have vy:=(zaa.1 wy).2;have ky:k<N:=by rw[hN];exact(zaa.1 wy).1
  have hyS:=g.sr y (zac hy);simp -dsimp -implicitDefEqProofs [fC hlt,ysg,<-hk,wx,vx,kx,wy,vy,ky,kC];refine⟨by unfold inI;omega,by omega,by omega,by omega,by omega,hf',?_⟩;refine lC (hc y x hyS hx) (eP ?_);refine⟨λhcm=>?_,λhcm=>?_⟩
  .refine⟨by unfold inI;omega,k+1,j,⟨by omega,by omega,b3,?_,b5⟩,by omega,?_⟩
   .rw[show k+1-m=(k-m)+1 by omega];exact yLa h g.sr hx g.or hy (by simpa[fE]using hcm)
   .apply aB<;>simp
  .refine⟨i,k,⟨b1,by omega,by omega,b4,yIv h g.sr hx g.or hy (by simpa[fE]using hcm)⟩,by omega,?_⟩;apply aB<;>simp
 .have hij:i=j:=by omega
  subst hij;have ho:=yHr h g.sr hx g.or (λu hu=>g.cr x (by simp) u hu) b4 b5 g.po g.oo;obtain⟨t,ht⟩:∃t,t=i-m:=⟨_,rfl⟩;rw[<-ht]at ho;have hM0:M0=pM A (r.take 0++x::r.drop 0) B:=by rw[h0];simp[gQ,pM]
  refine eP ?_;refine qA (ι:=Nat) (λk=>a<=k/\k<=a+t) (λk=>xC [(0,.own 0 1 N),(10,.c (.i i)),(13,.c (.i k)),(1000000,.own 0 1 N)] [(0,.row 1 ((pM A (r.take (k-a)++x::r.drop (k-a)) B).map kC))]) (λk=>a+t-k) a ⟨Nat.le_refl _,by omega⟩ (by apply aB<;>simp[hM0]) ?_
  rintro k ⟨k1,k2⟩
  rcases zan k (a+t)with klt|kge
  .obtain⟨y,hy⟩:∃y,r[k-a]?=some y:=⟨_,zab (by omega)⟩;obtain⟨w1,w2,w3⟩:=swp_right (A:=A) (B:=B) (x:=x) hy (k:=k) (by omega);have hml:(pM A (r.take (k-a)++x::r.drop (k-a)) B).length=N:=by rw[hN,hM0,yc,yc];simp;omega
   rw[show k-a+1=k+1-a by omega]at w3;generalize pM A (r.take (k-a)++x::r.drop (k-a)) B=M at *;obtain⟨j,hj⟩:∃j,j=k+1:=⟨_,rfl⟩;rw[<-hj]at w2 w3;have v1:=(zaa.1 w1).2;have v2:=(zaa.1 w2).2;have q1:k<M.length:=(zaa.1 w1).1;have q2:j<M.length:=(zaa.1 w2).1;have n1:k<N:=by omega
   have n2:j<N:=by omega
   have ej:((k:Int)+1)=(j:Int):=by omega
   have c1:((k:Int)<(i:Int)-1)=True:=by simp;omega
   have hr2:∀h,((M.map kC).set k [C.i y])[j]'h=[C.i y]:=by intro h;rw[zbG (by omega)];simp[v2,kC]
   have hs3:((M.map kC).set k [C.i y]).set j [C.i x]=(pM A (r.take (j-a)++x::r.drop (j-a)) B).map kC:=by rw[<-w3,zaR,zaR];rfl
   simp -dsimp -implicitDefEqProofs [c1,ej,w1,w2,v1,v2,q1,q2,kC,n1,n2,hr2,hs3];refine⟨by unfold inI;omega,by unfold inI;omega,j,⟨by omega,by omega⟩,by omega,?_⟩;apply aB<;>simp[hs3]
  .have c1:((k:Int)<(i:Int)-1)=False:=by simp;omega
   refine eU c1 ?_;refine⟨by unfold inI;omega,?_⟩;rw[show k-a=t by omega,<-ho,<-h1];refine⟨by rw[List.take_of_length_le (by rw[zai,hL];exact Nat.le_refl _)],?_⟩;simp[ybG]
def yBr(h:SWO (fE cmp) S)(hf:∃fn,Tryz.prog.funcs[f]?=some fn∧fn.body.isSome=true∧(fn.name != "runtime.NumGoroutine")=true)
 (hc:∀x y:Nat,S x->S y->qB prg f [.c (.i x),.c (.i y),.elt ca,.elt cb] (.c (.i (cmp x y)))) {A l B o M0 M1:List Nat} {a m b N y:Nat} (hl2:2<=l.length) (g:MG (fE cmp) S A l [y] B o M0 M1 a m b N):
 InF prg 378 (.c (cw 1 (M0.map kC))) (.c (cw 1 (M1.map kC))) [.c (.i a),.c (.i m),.c (.i b),.fn f [.elt ca,.elt cb]] (.tup []):=by
 obtain⟨hL,hN1,hbN⟩:=g.len1;have hN:=g.hN;have hn:=g.hn;have ha:=g.ha;have hm:=g.hm;have hb:=g.hb;have h0:=g.h0;have h1:=g.h1;simp only[zaY]at hb;have hx:S y:=g.sr y (by simp);rw[kH (by rw[zai];omega),kH (by rw[zai,hL];omega)];refine aK aQ (by simp) (by simp) rfl λhwf=>?_;have e1:((m:Int)-a=1)=False:=by simp;omega
 have e2:((b:Int)-m)=1:=by omega
 simp -dsimp -implicitDefEqProofs [qK,e1,e2];refine⟨by unfold inI;omega,by unfold inI;omega,?_⟩
 refine qA (ι:=Nat×Nat) (λz=>a<=z.1/\z.1<=z.2/\z.2<=m/\(∀u∈l.take (z.1-a),fE cmp y u=false)/\(∀u∈l.drop (z.2-a),fE cmp y u=true))
  (λz=>xC [(0,.own 0 1 N),(2,.c (.i m)),(4,.fn f [.elt ca,.elt cb]),(14,.c (.i z.1)),(15,.c (.i z.2)),(1000000,.own 0 1 N)] [(0,.row 1 (M0.map kC))]) (λz=>z.2-z.1) (a,m) ⟨by simp,by simp only;omega,by simp,by simp,by simp[hm]⟩ (by apply aB<;>simp[hN]) ?_
 rintro⟨i,j⟩ ⟨b1,b2,b3,b4,b5⟩
 simp only at b1 b2 b3 b4 b5;have hf':∃fn,Tryz.prog.funcs[f]?=some fn∧fn.body.isSome=true∧¬fn.name= "runtime.NumGoroutine":=by simpa using hf
 have wx:M0[m]?=some y:=by rw[h0,yt7 (t:=0) (by omega) (by simp)];rfl
 have vx:=(zaa.1 wx).2;have kx:m<N:=by rw[hN];exact(zaa.1 wx).1
 rcases zan i j with hlt|hge
 .obtain⟨k,hk⟩:∃k,k=(i+j)/2:=⟨_,rfl⟩;obtain⟨u,hu⟩:∃u,l[k-a]?=some u:=⟨_,zab (by omega)⟩;have wy:M0[k]?=some u:=by rw[h0,yui (t:=k-a) (by omega) (by omega)];exact hu
  have vy:=(zaa.1 wy).2;have ky:k<N:=by rw[hN];exact(zaa.1 wy).1
  have huS:=g.sl u (zac hu);simp -dsimp -implicitDefEqProofs [fC hlt,ysg,<-hk,wx,vx,kx,wy,vy,ky,kC];refine⟨by unfold inI;omega,by omega,by omega,by omega,by omega,hf',?_⟩;refine lC (hc y u hx huS) (eP ?_);refine⟨λhcm=>?_,λhcm=>?_⟩
  .refine⟨by unfold inI;omega,k+1,j,⟨by omega,by omega,b3,?_,b5⟩,by omega,?_⟩
   .rw[show k+1-a=(k-a)+1 by omega];exact yH4 h g.sl hx g.ol hu (by simpa[fE]using hcm)
   .apply aB<;>simp
  .refine⟨i,k,⟨b1,by omega,by omega,b4,yFw h g.sl hx g.ol hu (by simpa[fE]using hcm)⟩,by omega,?_⟩;apply aB<;>simp
 .have hij:i=j:=by omega
  subst hij;have ho:=yD0 h g.sl hx g.ol (λu hu=>g.cr u hu y (by simp)) b4 b5 g.po g.oo;have hM0:M0=pM A (l.take (m-a)++y::l.drop (m-a)) B:=by rw[h0,show m-a=l.length by omega];simp[gQ,pM]
  refine eP ?_;refine qA (ι:=Nat) (λk=>i<=k/\k<=m) (λk=>xC [(0,.own 0 1 N),(14,.c (.i i)),(17,.c (.i k)),(1000000,.own 0 1 N)] [(0,.row 1 ((pM A (l.take (k-a)++y::l.drop (k-a)) B).map kC))]) (λk=>k-i) m ⟨by omega,Nat.le_refl _⟩ (by apply aB<;>simp[<-hM0]) ?_
  rintro k ⟨k1,k2⟩
  rcases zan i k with klt|kge
  .obtain⟨j,hj⟩:∃j,j=k-1:=⟨_,rfl⟩;obtain⟨u,hu⟩:∃u,l[j-a]?=some u:=⟨_,zab (by omega)⟩;obtain⟨w1,w2,w3⟩:=swp_left (A:=A) (B:=B) (y:=y) hu (k:=j) (by omega);have ejk:j+1=k:=by omega
   rw[show j-a+1=k-a by omega]at w1 w2 w3;rw[ejk]at w1 w3;have hml:(pM A (l.take (k-a)++y::l.drop (k-a)) B).length=N:=by rw[hN,hM0,yc,yc];simp;omega
   generalize pM A (l.take (k-a)++y::l.drop (k-a)) B=M at *;have v1:=(zaa.1 w1).2;have v2:=(zaa.1 w2).2;have q1:k<M.length:=(zaa.1 w1).1;have q2:j<M.length:=(zaa.1 w2).1;have n1:k<N:=by omega
   have n2:j<N:=by omega
   have ej:((k:Int)-1)=(j:Int):=by omega
   have hr2:∀h,((M.map kC).set k [C.i u])[j]'h=[C.i u]:=by intro h;rw[zbG (by omega)];simp[v2,kC]
   have hs3:((M.map kC).set k [C.i u]).set j [C.i y]=(pM A (l.take (j-a)++y::l.drop (j-a)) B).map kC:=by rw[<-w3,zaR,zaR];rfl
   simp -dsimp -implicitDefEqProofs [fC klt,klt,ej,w1,w2,v1,v2,q1,q2,kC,n1,n2,hr2,hs3];refine⟨by unfold inI;omega,j,⟨by omega,by omega⟩,by omega,?_⟩;apply aB<;>simp[hs3]
  .have hki:k=i:=by omega
   subst hki;refine eP ?_;rw[<-ho,<-h1];refine⟨by rw[List.take_of_length_le (by rw[zai,hL];exact Nat.le_refl _)],?_⟩;simp[ybG]
end
section
variable {cmp:Nat->Nat->Int} {S:Nat->Prop} {f:Nat} {ca cb:List C}
def ytV(h:SWO (fE cmp) S){l r:List Nat}(hl:∀x∈l,S x)(hr:∀x∈r,S x)(sl:l.Pairwise (tot (fE cmp)))(sr:r.Pairwise (tot (fE cmp)))(hc:∀x∈l,∀y∈r,x<y):
 ∃o:List Nat,o.Perm (l++r)/\o.Pairwise (tot (fE cmp)):=yma h (λy hy=>by rcases zaq.1 hy with hy|hy;exact hl y hy;exact hr y hy) (yAY h hl hr sl sr hc)
def yDA(cmp:Nat->Nat->Int)(M0:List Nat)(n s0 s:Nat):Prop:=s=s0\/∃u v,M0[s-1]?=some u/\M0[n-s]?=some v/\fE cmp v u=false
def yDd(cmp:Nat->Nat->Int)(M0:List Nat)(p r0 s:Nat):Prop:=s=r0\/∃u v,M0[s]?=some u/\M0[p-s]?=some v/\fE cmp v u=true
def yEM(h:SWO (fE cmp) S){A l r B o M0 M1:List Nat}{a m b N d n p s0 r0 s z:Nat}(g:MG (fE cmp) S A l r B o M0 M1 a m b N)(hd:d=(a+b)/2)(hn':n=d+m)(hp:p=n-1)
 (F1:s0<=r0) (F2:a<=s0) (F3:r0<=m) (F4:r0<=d) (F5:n<=b+s0) (F6:s0=a\/n-s0=b) (F7:r0=m\/r0=d) (b1:s0<=s) (b3:s<=r0)
 (b4:yDA cmp M0 n s0 s) (b5:yDd cmp M0 p r0 s) (hz:z=n-s) (hl2:2<=l.length) (hr2:2<=r.length):∀x∈l.take (s-a)++r.take (z-m),∀y∈l.drop (s-a)++r.drop (z-m),tot (fE cmp) x y:=by
 have ha:=g.ha;have hm:=g.hm;have hb:=g.hb;have h0:=g.h0
 have hA:s-a=0\/r.length<=z-m\/∃u v,l[s-a-1]?=some u/\r[z-m]?=some v/\tot (fE cmp) u v:=by
  rcases b4 with e|⟨u,v,hu,hv,hlt⟩
  .rcases F6 with e2|e2
   .left;omega
   .right;left;omega
  .rcases zao (s-a)with e|e
   .exact .inl e
   rcases zan (z-m) r.length with e2|e2
   .right;right
    have hu':l[s-a-1]?=some u:=by rw[h0,yui (t:=s-a-1) (by omega) (by omega)]at hu;exact hu
    have hv':r[z-m]?=some v:=by rw[h0,yt7 (t:=z-m) (by omega) (by omega)]at hv;exact hv
    exact⟨u,v,hu',hv',yCn (g.cr u (zac hu') v (zac hv')) hlt⟩
   .exact .inr (.inl e2)
 have hB:z-m=0\/l.length<=s-a\/∃u v,r[z-m-1]?=some u/\l[s-a]?=some v/\tot (fE cmp) u v:=by
  rcases b5 with e|⟨u,v,hu,hv,hlt⟩
  .rcases F7 with e2|e2
   .right;left;omega
   .left;omega
  .rcases zao (z-m)with e|e
   .exact .inl e
   rcases zan (s-a) l.length with e2|e2
   .right;right
    have hu':l[s-a]?=some u:=by rw[h0,yui (t:=s-a) (by omega) (by omega)]at hu;exact hu
    have hv':r[z-m-1]?=some v:=by rw[h0,yt7 (t:=z-m-1) (by omega) (by omega)]at hv;exact hv
    exact⟨v,u,hv',hu',.inl hlt⟩
   .exact .inr (.inl e2)
 exact yGQ h g.sl g.sr g.ol g.or hA hB
def yEn(h:SWO (fE cmp) S){A l r B o M0 M1:List Nat}{a m b N d n p s0 r0 s z:Nat}(g:MG (fE cmp) S A l r B o M0 M1 a m b N)(hd:d=(a+b)/2)(hn':n=d+m)(hp:p=n-1)
 (F1:s0<=r0) (F2:a<=s0) (F3:r0<=m) (F4:r0<=d) (F5:n<=b+s0) (F6:s0=a\/n-s0=b) (F7:r0=m\/r0=d) (b1:s0<=s) (b3:s<=r0)
 (b4:yDA cmp M0 n s0 s) (b5:yDd cmp M0 p r0 s) (hz:z=n-s) (hl2:2<=l.length) (hr2:2<=r.length):
 ∃l1 l2 r1 r2 o1 o2 Mr M2:List Nat,Mr.length=N/\M2.length=N/\l1.length=s-a/\l2.length=m-s/\r1.length=z-m/\r2.length=b-z/\
  (M0=gQ (A++l1) l2 r1 (r2++B)/\Mr=gQ (A++l1) r1 l2 (r2++B))/\
  (a<s->m<z->MG (fE cmp) S A l1 r1 (l2++(r2++B)) o1 Mr M2 a s d N)/\(s<m->z<b->MG (fE cmp) S (A++o1) l2 r2 B o2 M2 M1 d z b N)/\
  (m<=s\/z<=m->M0=Mr)/\(s<=a\/z<=m->Mr=M2)/\(m<=s\/b<=z->M2=M1):=by
 have hN:=g.hN;have ha:=g.ha;have hm:=g.hm;have hb:=g.hb;have h0:=g.h0;have h1:=g.h1;have hNl:A.length+l.length+r.length+B.length=N:=by rw[hN,h0,bU]
 have el:l.take (s-a)++l.drop (s-a)=l:=zax _ _;have er:r.take (z-m)++r.drop (z-m)=r:=zax _ _;have sl1:∀x∈l.take (s-a),S x:=λx hx=>g.sl x (zav hx);have sl2:∀x∈l.drop (s-a),S x:=λx hx=>g.sl x (zaH hx);have sr1:∀x∈r.take (z-m),S x:=λx hx=>g.sr x (zav hx);have sr2:∀x∈r.drop (z-m),S x:=λx hx=>g.sr x (zaH hx);have ol:=g.ol;have or:=g.or;rw[<-el,zaL]at ol;rw[<-er,zaL]at or;have cross:=yEM h g hd hn' hp F1 F2 F3 F4 F5 F6 F7 b1 b3 b4 b5 hz hl2 hr2;have zb:m<=z/\z<=b/\s<=m/\a<=s/\s+z=d+m:=by omega
 obtain⟨zb1,zb2,zb3,zb4,zb5⟩:=zb;clear b4 b5 F1 F2 F3 F4 F5 F6 F7 b1 b3 hz hp hn' hd;obtain⟨o1,po1,so1⟩:=ytV h sl1 sr1 ol.1 or.1 (λx hx y hy=>g.cr x (zav hx) y (zav hy));obtain⟨o2,po2,so2⟩:=ytV h sl2 sr2 ol.2.1 or.2.1 (λx hx y hy=>g.cr x (zaH hx) y (zaH hy));have ho:=halves h g.sl g.sr g.po g.oo po1 so1 po2 so2 cross;have lo1:=po1.length_eq;have lo2:=po2.length_eq;have q1:(l.take (s-a)).length=s-a:=by rw[zaz];omega
 have q2:(l.drop (s-a)).length=m-s:=by rw[zaI];omega
 have q3:(r.take (z-m)).length=z-m:=by rw[zaz];omega
 have q4:(r.drop (z-m)).length=b-z:=by rw[zaI];omega
 rw[zak]at lo1 lo2
 have hM0:M0=gQ (A++l.take (s-a)) (l.drop (s-a)) (r.take (z-m)) (r.drop (z-m)++B):=by
  rw[h0];conv=>lhs;rw[<-el,<-er]
  simp only[gQ,zbb]
 have one1:l.take (s-a)=[]\/r.take (z-m)=[]->o1=l.take (s-a)++r.take (z-m):=λe=>by
  refine cZ h (S:=S) (λx hx=>?_) po1 so1 ?_
  .rcases zaq.1 (po1.mem_iff.1 hx)with hx|hx
   .exact sl1 x hx
   .exact sr1 x hx
  .rcases e with e|e<;>rw[e]
   .simpa using or.1
   .simpa using ol.1
 have one2:l.drop (s-a)=[]\/r.drop (z-m)=[]->o2=l.drop (s-a)++r.drop (z-m):=λe=>by
  refine cZ h (S:=S) (λx hx=>?_) po2 so2 ?_
  .rcases zaq.1 (po2.mem_iff.1 hx)with hx|hx
   .exact sl2 x hx
   .exact sr2 x hx
  .rcases e with e|e<;>rw[e]
   .simpa using or.2.1
   .simpa using ol.2.1
 generalize l.take (s-a)=l1 at *;generalize l.drop (s-a)=l2 at *;generalize r.take (z-m)=r1 at *;generalize r.drop (z-m)=r2 at *;have nil:∀{x:List Nat} {k:Nat},x.length=k->k=0->x=[]:=λh1 h2=>zae.1 (h1.trans h2);refine⟨l1,l2,r1,r2,o1,o2,gQ (A++l1) r1 l2 (r2++B),pM A o1 (l2++(r2++B)),?_,?_,q1,q2,q3,q4,⟨hM0,rfl⟩,λe1 e2=>?_,λe1 e2=>?_,λe=>?_,λe=>?_,λe=>?_⟩
 .rw[bU];simp only[zak];omega
 .rw[yc];simp only[zak];omega
 .exact⟨by omega,by omega,sl1,sr1,ol.1,or.1,λx hx y hy=>g.cr x (by rw[<-el];simp[hx]) y (by rw[<-er];simp[hy]),po1,so1,ha,by omega,by omega,by simp[gQ],rfl,by rw[bU];simp only[zak];omega,g.hn⟩
 .exact⟨by omega,by omega,sl2,sr2,ol.2.1,or.2.1,λx hx y hy=>g.cr x (by rw[<-el];simp[hx]) y (by rw[<-er];simp[hy]),po2,so2,by simp only[zak];omega,by omega,by omega,by simp[gQ,pM],by rw[h1,ho];simp[pM],by rw[yc];simp only[zak];omega,g.hn⟩
 .rw[hM0];rcases e with e|e
  .rw[nil q2 (by omega)];simp[gQ]
  .rw[nil q3 (by omega)];simp[gQ]
 .rcases e with e|e
  .rw[one1 (.inl (nil q1 (by omega)))];simp[gQ,pM]
  .rw[one1 (.inr (nil q3 (by omega)))];simp[gQ,pM]
 .rw[h1,ho];rcases e with e|e
  .rw[one2 (.inl (nil q2 (by omega)))];simp[pM]
  .rw[one2 (.inr (nil q4 (by omega)))];simp[pM]
def yFT(h:SWO (fE cmp) S)(hf:∃fn,Tryz.prog.funcs[f]?=some fn∧fn.body.isSome=true∧(fn.name != "runtime.NumGoroutine")=true)
 (hc:∀x y:Nat,S x->S y->qB prg f [.c (.i x),.c (.i y),.elt ca,.elt cb] (.c (.i (cmp x y)))) {A l r B o M0 M1:List Nat} {a m b N:Nat} (hl2:2<=l.length) (hr2:2<=r.length) (g:MG (fE cmp) S A l r B o M0 M1 a m b N)
 (ih:∀(A' l' r' B' o' M0' M1':List Nat) (a' m' b':Nat),l'.length+r'.length<l.length+r.length->MG (fE cmp) S A' l' r' B' o' M0' M1' a' m' b' N->
  InF prg 378 (.c (cw 1 (M0'.map kC))) (.c (cw 1 (M1'.map kC))) [.c (.i a'),.c (.i m'),.c (.i b'),.fn f [.elt ca,.elt cb]] (.tup [])):
 InF prg 378 (.c (cw 1 (M0.map kC))) (.c (cw 1 (M1.map kC))) [.c (.i a),.c (.i m),.c (.i b),.fn f [.elt ca,.elt cb]] (.tup []):=by
 obtain⟨hL,hN1,hbN⟩:=g.len1;have hN:=g.hN;have hn:=g.hn;have ha:=g.ha;have hm:=g.hm;have hb:=g.hb;have h0:=g.h0;have h1:=g.h1;have hNl:A.length+l.length+r.length+B.length=N:=by rw[hN,h0,bU]
 rw[kH (by rw[zai];omega),kH (by rw[zai,hL];omega)];refine aK aQ (by simp) (by simp) rfl λhwf=>?_;have e1:((m:Int)-a=1)=False:=by simp;omega
 have e2:((b:Int)-m=1)=False:=by simp;omega
 obtain⟨d,hd⟩:∃d,d=(a+b)/2:=⟨_,rfl⟩;obtain⟨n,hn'⟩:∃n,n=d+m:=⟨_,rfl⟩;obtain⟨p,hp⟩:∃p,p=n-1:=⟨_,rfl⟩;have en:((d:Int)+m)=(n:Int):=by omega
 have ep:((n:Int)-1)=(p:Int):=by omega
 have hf':∃fn,Tryz.prog.funcs[f]?=some fn∧fn.body.isSome=true∧¬fn.name= "runtime.NumGoroutine":=by simpa using hf
 obtain⟨s0,r0,hs1,hs2⟩:∃s0 r0:Nat,(d<m->s0=n-b/\r0=d)/\(m<=d->s0=a/\r0=m):=by
  rcases zan d m with q|q
  .exact⟨n-b,d,λ_=>⟨rfl,rfl⟩,λq2=>by omega⟩
  .exact⟨a,m,λq2=>by omega,λ_=>⟨rfl,rfl⟩⟩
 have F:s0<=r0/\a<=s0/\r0<=m/\r0<=d/\n<=b+s0/\(s0=a\/n-s0=b)/\(r0=m\/r0=d):=by
  rcases zan d m with q|q
  .obtain⟨z1,z2⟩:=hs1 q;omega
  .obtain⟨z1,z2⟩:=hs2 q;omega
 obtain⟨F1,F2,F3,F4,F5,F6,F7⟩:=F;simp -dsimp -implicitDefEqProofs [qK,e1,e2,ysg,<-hd,en,ep];refine⟨by unfold inI;omega,by unfold inI;omega,by unfold inI;omega,by omega,by omega,by unfold inI;omega,λhdm=>?_,λhdm=>?_⟩
 case' refine_1=>
  obtain⟨z1,er⟩:=hs1 hdm;have es:((n:Int)-b)=(s0:Int):=by omega
  refine⟨by unfold inI;omega,by unfold inI;omega,?_⟩;refine qA (ι:=Nat×Nat) (λz=>s0<=z.1/\z.1<=z.2/\z.2<=r0/\yDA cmp M0 n s0 z.1/\yDd cmp M0 p r0 z.2) (λz=>xC [(0,.own 0 1 N),(1,.c (.i a)),(2,.c (.i m)),(3,.c (.i b)),(4,.fn f [.elt ca,.elt cb]),(18,.c (.i d)),(19,.c (.i n)),(20,.c (.i z.1)),(21,.c (.i z.2)),(22,.c (.i p)),(1000000,.own 0 1 N)] [(0,.row 1 (M0.map kC))]) (λz=>z.2-z.1) (s0,r0) ⟨Nat.le_refl _,F1,Nat.le_refl _,.inl rfl,.inl rfl⟩ (by apply aB<;>simp[hN,es,er]) ?_
 case' refine_2=>
  obtain⟨es,er⟩:=hs2 hdm;refine⟨by unfold inI;omega,?_⟩;refine qA (ι:=Nat×Nat) (λz=>s0<=z.1/\z.1<=z.2/\z.2<=r0/\yDA cmp M0 n s0 z.1/\yDd cmp M0 p r0 z.2) (λz=>xC [(0,.own 0 1 N),(1,.c (.i a)),(2,.c (.i m)),(3,.c (.i b)),(4,.fn f [.elt ca,.elt cb]),(18,.c (.i d)),(19,.c (.i n)),(20,.c (.i z.1)),(21,.c (.i z.2)),(22,.c (.i p)),(1000000,.own 0 1 N)] [(0,.row 1 (M0.map kC))]) (λz=>z.2-z.1) (s0,r0) ⟨Nat.le_refl _,F1,Nat.le_refl _,.inl rfl,.inl rfl⟩ (by apply aB<;>simp[hN,es,er]) ?_
 all_goals
  rintro⟨s,e⟩ ⟨b1,b2,b3,b4,b5⟩
  simp only at b1 b2 b3 b4 b5;rcases zan s e with hlt|hge
  .obtain⟨k,hk⟩:∃k,k=(s+e)/2:=⟨_,rfl⟩;obtain⟨q,hq⟩:∃q,q=p-k:=⟨_,rfl⟩;have eq:((p:Int)-k)=(q:Int):=by omega
   obtain⟨u,hu⟩:∃u,l[k-a]?=some u:=⟨_,zab (by omega)⟩;obtain⟨v,hv⟩:∃v,r[q-m]?=some v:=⟨_,zab (by omega)⟩;have wu:M0[k]?=some u:=by rw[h0,yui (t:=k-a) (by omega) (by omega)];exact hu
   have wv:M0[q]?=some v:=by rw[h0,yt7 (t:=q-m) (by omega) (by omega)];exact hv
   have vu:=(zaa.1 wu).2;have vv:=(zaa.1 wv).2;have ku:k<N:=by rw[hN];exact(zaa.1 wu).1
   have kv:q<N:=by rw[hN];exact(zaa.1 wv).1
   have uS:=g.sl u (zac hu);have vS:=g.sr v (zac hv);simp -dsimp -implicitDefEqProofs [fC hlt,ysg,<-hk,eq,wu,vu,ku,wv,vv,kv,kC];refine⟨by unfold inI;omega,by omega,by omega,by unfold inI;omega,by omega,by omega,hf',?_⟩;refine lC (hc v u vS uS) (eP ?_);refine⟨λhcm=>?_,λhcm=>?_⟩
   .have hcf:fE cmp v u=false:=by simpa[fE]using hcm
    refine⟨by unfold inI;omega,k+1,e,⟨by omega,by omega,b3,.inr ⟨u,v,wu,by rw[show n-(k+1)=q by omega];exact wv,hcf⟩,b5⟩,by omega,?_⟩;apply aB<;>simp
   .have hcf:fE cmp v u=true:=by simpa[fE]using hcm
    refine⟨s,k,⟨b1,by omega,by omega,b4,.inr ⟨u,v,wu,by rw[<-hq];exact wv,hcf⟩⟩,by omega,?_⟩;apply aB<;>simp
  .have hse:s=e:=by omega
   subst hse;obtain⟨z,hz⟩:∃z,z=n-s:=⟨_,rfl⟩;have ez:((n:Int)-s)=(z:Int):=by omega
   obtain⟨l1,l2,r1,r2,o1,o2,Mr,M2,p1⟩:=yEn h g hd hn' hp F1 F2 F3 F4 F5 F6 F7 b1 b3 b4 b5 hz hl2 hr2;obtain⟨hmr,hm2,hL1,hL2,hR1,hR2,hmr1,hmg1,hmg2,n1,n2,n3⟩:=p1;have hrot:=λ(c1:s<m) (c2:m<z)=>yLS (A++l1) l2 r1 (r2++B) M0 Mr hmr1.1 hmr1.2 s m z N (by omega) (by omega) (by simp;omega) (by omega) (by omega) hN hn f ca cb;have hm1:=λc1 c2=>ih _ _ _ _ _ _ _ _ _ _ (by omega) (hmg1 c1 c2);have hm2':=λc1 c2=>ih _ _ _ _ _ _ _ _ _ _ (by omega) (hmg2 c1 c2);clear hmg1 hmg2 ih;have lr:(Mr.map kC).length=N:=by rw[zai,hmr]
   have l0:(M0.map kC).length=N:=by rw[zai,hN]
   have lm2:(M2.map kC).length=N:=by rw[zai,hm2]
   have lm1:(M1.map kC).length=N:=by rw[zai,hL]
   cases hb1:decide (s<m)<;>cases hb2:decide (m<z)<;>cases hb5:decide (a<s)<;>cases hb6:decide (z<b)
   all_goals
    have hb3:decide (s<d)=decide (m<z):=decide_eq_decide.2 (by omega);have hb4:decide (d<z)=decide (s<m):=decide_eq_decide.2 (by omega);rw[hb2]at hb3;rw[hb1]at hb4;have c1:=hb1;have c2:=hb2;have c5:=hb5;have c6:=hb6;simp only[decide_eq_true_eq,decide_eq_false_iff_not,Nat.not_lt]at c1 c2 c5 c6
    first
     |(exfalso;omega)
     |skip
   all_goals
    try rw[n1 (by omega)]
    refine yafn ez hb1 hb2 hb3 hb4 hb5 hb6 ?_;refine⟨by unfold inI;omega,?_⟩
    try
     refine tH (up:=some (0,.row 1 (Mr.map kC))) (hrot c1 c2) (by simp) rfl rfl (qH (rows:=M0.map kC) (by simp) rfl rfl (by simp[l0]) (by simp[l0,lr]) rfl rfl) ?_;simp -dsimp -implicitDefEqProofs [hb1,hb2,hb3,hb4,hb5,hb6]
    try rw[n2 (by omega)]
    try
     refine tH (up:=some (0,.row 1 (M2.map kC))) (hm1 c5 c2) (by simp) rfl rfl (qH (rows:=Mr.map kC) (by simp) rfl rfl (by simp[lr]) (by simp[lm2,lr]) rfl rfl) ?_;simp -dsimp -implicitDefEqProofs [hb1,hb2,hb3,hb4,hb5,hb6]
    try rw[n3 (by omega)]
    try
     refine tH (up:=some (0,.row 1 (M1.map kC))) (hm2' c1 c6) (by simp) rfl rfl (qH (rows:=M2.map kC) (by simp) rfl rfl (by simp[lm2]) (by simp[lm2,lm1]) rfl rfl) ?_;simp -dsimp -implicitDefEqProofs [hb1,hb2,hb3,hb4,hb5,hb6]
    exact⟨by rw[List.take_of_length_le (by rw[lm1];exact Nat.le_refl _)],by simp[ybG]⟩
def yCQ(h:SWO (fE cmp) S)(hf:∃fn,Tryz.prog.funcs[f]?=some fn∧fn.body.isSome=true∧(fn.name != "runtime.NumGoroutine")=true)
 (hc:∀x y:Nat,S x->S y->qB prg f [.c (.i x),.c (.i y),.elt ca,.elt cb] (.c (.i (cmp x y)))) {N:Nat}:∀(k:Nat) (A l r B o M0 M1:List Nat) (a m b:Nat),l.length+r.length<=k->MG (fE cmp) S A l r B o M0 M1 a m b N->
 InF prg 378 (.c (cw 1 (M0.map kC))) (.c (cw 1 (M1.map kC))) [.c (.i a),.c (.i m),.c (.i b),.fn f [.elt ca,.elt cb]] (.tup [])
 |0,A,l,r,B,o,M0,M1,a,m,b,hk,g=>by have:=g.pl;omega
 | k+1,A,l,r,B,o,M0,M1,a,m,b,hk,g=>by
  have pl:=g.pl;have pr:=g.pr;rcases zan l.length 2 with e|e
  .obtain⟨x,rfl⟩:=zaS.1 (show l.length=1 by omega);exact yFc h hf hc g
  rcases zan r.length 2 with e2|e2
  .obtain⟨y,rfl⟩:=zaS.1 (show r.length=1 by omega);exact yBr h hf hc e g
  exact yFT h hf hc e e2 g λA' l' r' B' o' M0' M1' a' m' b' hk' g'=>yCQ h hf hc k A' l' r' B' o' M0' M1' a' m' b' (by omega) g'
end
def bl(lt:Nat->Nat->Bool)(s:Nat):Nat->List Nat->List Nat
 |0,_=>[]
 |k+1,l=>sorted lt (l.take s)++bl lt s k (l.drop s)
def blk(lt:Nat->Nat->Bool)(s:Nat)(l:List Nat):List Nat:=bl lt s l.length l
section
variable {lt:Nat->Nat->Bool} {s:Nat}
def ym3:∀k:Nat,bl lt s k []=[]
 |0=>rfl
 |k+1=>by simp[bl,ym3 k,sorted,yeu]
def yyk(hs:1<=s):∀(k k':Nat) (l:List Nat),l.length<=k->l.length<=k'->bl lt s k l=bl lt s k' l
 |0,k',l,h,_=>by
  rw[zae.1 (show l.length=0 by omega),ym3,ym3]
 |k+1,0,l,_,h=>by rw[zae.1 (show l.length=0 by omega),ym3,ym3]
 | k+1,k'+1,l,h,h'=>by
  rcases zao l.length with e|e
  .rw[zae.1 e,ym3,ym3]
  .unfold bl;rw[yyk hs k k' (l.drop s) (by rw[zaI];omega) (by rw[zaI];omega)]
def yf6(hs:1<=s)(l:List Nat):blk lt s l=sorted lt (l.take s)++blk lt s (l.drop s):=by
 rcases zao l.length with e|e
 .rw[zae.1 e];simp[blk,bl,sorted,yeu]
 .unfold blk;rw[yyk hs l.length ((l.length-1)+1) l (by omega) (by omega)]
  show sorted lt (l.take s)++bl lt s (l.length-1) (l.drop s)=_
  rw[yyk hs (l.length-1) (l.drop s).length (l.drop s) (by rw[zaI];omega) (Nat.le_refl _)]
def ypX(hs:1<=s){l:List Nat}(h:l.length<=s):blk lt s l=sorted lt l:=by
 rw[yf6 hs,List.take_of_length_le h,zaZ h];simp[blk,bl]
def ygv(hs:1<=s):∀(q:Nat) (u v:List Nat),u.length=q*s->v.length<=s->blk lt s (u++v)=blk lt s u++sorted lt v
 |0,u,v,h,hv=>by
  rw[zae.1 (show u.length=0 by omega),zcj,ypX hs hv];rfl
 |q+1,u,v,h,hv=>by
  rw[zdM]at h;rw[yf6 hs (u++v),yf6 hs u,zcO (by omega),List.drop_append_of_le_length (by omega),ygv hs q (u.drop s) v (by rw[zaI];omega) hv,zbb]
def yfg(hs:1<=s):∀(k:Nat) (l:List Nat),l.length<=k->(blk lt s l).length=l.length
 |0,l,h=>by rw[zae.1 (show l.length=0 by omega)];rfl
 |k+1,l,h=>by
  rcases zao l.length with e|e
  .rw[zae.1 e];rfl
  .rw[yf6 hs,zak,sorted_perm.length_eq,yfg hs k (l.drop s) (by rw[zaI];omega),zaz,zaI];omega
end
section
variable {cmp:Nat->Nat->Int} {S:Nat->Prop} {f:Nat} {ca cb:List C}
def ykQ(lt:Nat->Nat->Bool)(xs:List Nat)(a:Nat):List Nat:=blk lt 20 (xs.take a)++xs.drop a
def ykS(lt:Nat->Nat->Bool)(s:Nat)(xs:List Nat)(a:Nat):List Nat:=blk lt (2*s) (xs.take a)++blk lt s (xs.drop a)
def yj4{lt:Nat->Nat->Bool}{xs:List Nat}{a:Nat}:(ykQ lt xs a).length=xs.length:=by
 unfold ykQ;rw[zak,yfg (by omega) _ _ (Nat.le_refl _),zaz,zaI];omega
def ysK{lt:Nat->Nat->Bool}{s:Nat}{xs:List Nat}{a:Nat}(hs:1<=s):(ykS lt s xs a).length=xs.length:=by
 unfold ykS;rw[zak,yfg (by omega) _ _ (Nat.le_refl _),yfg hs _ _ (Nat.le_refl _),zaz,zaI];omega
def yEY{lt:Nat->Nat->Bool}{xs:List Nat}{a q:Nat}(ha:a=q*20)(h:a+20<=xs.length):
 ykQ lt xs a=pM (blk lt 20 (xs.take a)) ((xs.drop a).take 20) (xs.drop (a+20))/\ykQ lt xs (a+20)=pM (blk lt 20 (xs.take a)) (sorted lt ((xs.drop a).take 20)) (xs.drop (a+20)):=by
 have e:xs.take (a+20)=xs.take a++(xs.drop a).take 20:=zdl;refine⟨?_,?_⟩
 .unfold ykQ pM
  congr 1
  rw[<-zcs,zax]
 .unfold ykQ pM;rw[e,ygv (by omega) q _ _ (by rw[zaz];omega) (by rw[zaz];omega),zbb]
def yHd{lt:Nat->Nat->Bool}{xs:List Nat}{a q:Nat}(ha:a=q*20)(h:a<=xs.length)(h2:xs.length<a+20):
 ykQ lt xs a=pM (blk lt 20 (xs.take a)) (xs.drop a) []/\blk lt 20 xs=pM (blk lt 20 (xs.take a)) (sorted lt (xs.drop a)) []:=by
 refine⟨by simp[ykQ,pM],?_⟩
 conv=>lhs;rw[<-zax a xs]
 rw[ygv (by omega) q _ _ (by rw[zaz];omega) (by rw[zaI];omega)];simp[pM]
def yxC(h:SWO (fE cmp) S){xs:List Nat}(hS:∀x∈xs,S x)(hup:xs.Pairwise (·<·)){a q s N:Nat}(hs:1<=s)(ha:a=q*(2*s)){b:Nat}(hb:b=if a+2*s<=xs.length then a+2*s else xs.length)(h2:a+s<xs.length)(hN:N=xs.length)(hn:N<=1048576):
 MG (fE cmp) S (blk (fE cmp) (2*s) (xs.take a)) (sorted (fE cmp) ((xs.drop a).take s)) (sorted (fE cmp) ((xs.drop (a+s)).take s)) (blk (fE cmp) s (xs.drop (a+2*s))) (sorted (fE cmp) ((xs.drop a).take (2*s)))
  (ykS (fE cmp) s xs a) (if a+2*s<=xs.length then ykS (fE cmp) s xs (a+2*s)else blk (fE cmp) (2*s) xs) a (a+s) b N:=by
 have lA:(blk (fE cmp) (2*s) (xs.take a)).length=a:=by rw[yfg (by omega) _ _ (Nat.le_refl _),zaz];omega
 have l1:((xs.drop a).take s).length=s:=by rw[zaz,zaI];omega
 have l2:((xs.drop (a+s)).take s).length=b-(a+s):=by rw[zaz,zaI,hb];split<;>omega
 have hb2:a+s<b:=by rw[hb];split<;>omega
 have e2:(xs.drop a).take (2*s)=(xs.drop a).take s++(xs.drop (a+s)).take s:=by
  rw[show 2*s=s+s by omega,zdl,zcs]
 have sub:∀{l:List Nat},l.Sublist xs->(∀x∈l,S x)/\l.Pairwise (·<·):=λhl=>⟨λx hx=>hS x (hl.subset hx),hup.sublist hl⟩;have c1:=sub ((zdg s (xs.drop a)).trans (zdi a xs));have c2:=sub ((zdg s (xs.drop (a+s))).trans (zdi (a+s) xs));have c3:=sub ((zdg (2*s) (xs.drop a)).trans (zdi a xs));have p1:=sorted_perm (lt:=fE cmp) (xs:=(xs.drop a).take s);have p2:=sorted_perm (lt:=fE cmp) (xs:=(xs.drop (a+s)).take s);have p3:=sorted_perm (lt:=fE cmp) (xs:=(xs.drop a).take (2*s))
 have hM0:ykS (fE cmp) s xs a=gQ (blk (fE cmp) (2*s) (xs.take a)) (sorted (fE cmp) ((xs.drop a).take s)) (sorted (fE cmp) ((xs.drop (a+s)).take s)) (blk (fE cmp) s (xs.drop (a+2*s))):=by
  unfold ykS gQ;rw[yf6 hs (xs.drop a),zcs,yf6 hs (xs.drop (a+s)),zcs,show a+s+s=a+2*s by omega]
 have c3u:=c3.2;rw[e2,zaL]at c3u;refine⟨by rw[p1.length_eq];omega,by rw[p2.length_eq];omega,λx hx=>c1.1 x (p1.mem_iff.1 hx),λx hx=>c2.1 x (p2.mem_iff.1 hx),yna h c1.1 c1.2,yna h c2.1 c2.2,λx hx y hy=>c3u.2.2 x (p1.mem_iff.1 hx) y (p2.mem_iff.1 hy),?_,yna h c3.1 c3.2,lA.symm,by rw[p1.length_eq,l1],by rw[p2.length_eq,l2];omega,hM0,?_,by rw[ysK hs];exact hN,hn⟩
 .refine p3.trans ?_;rw[e2];exact(p1.append p2).symm
 .split
  .rename_i hle;unfold ykS pM;rw[show xs.take (a+2*s)=xs.take a++(xs.drop a).take (2*s)from zdl,ygv (by omega) q _ _ (by rw[zaz];omega) (by rw[zaz];omega),zbb]
  .rename_i hle;have e3:(xs.drop a).take (2*s)=xs.drop a:=List.take_of_length_le (by rw[zaI];omega);rw[e3,show xs.drop (a+2*s)=[]from zaZ (by omega)]
   conv=>lhs;rw[<-zax a xs]
   rw[ygv (by omega) q _ _ (by rw[zaz];omega) (by rw[zaI];omega)];simp[pM,blk,bl]
def yF0{lt:Nat->Nat->Bool}{xs:List Nat}{a q s:Nat}(hs:1<=s)(ha:a=q*(2*s))(h1:a<=xs.length)(h2:xs.length<=a+s):ykS lt s xs a=blk lt (2*s) xs:=by
 unfold ykS
 conv=>rhs;rw[<-zax a xs]
 rw[ygv (by omega) q _ _ (by rw[zaz];omega) (by rw[zaI];omega),ypX hs (by rw[zaI];omega)]
def yER(h:SWO (fE cmp) S)(hf:∃fn,Tryz.prog.funcs[f]?=some fn∧fn.body.isSome=true∧(fn.name != "runtime.NumGoroutine")=true)
 (hc:∀x y:Nat,S x->S y->qB prg f [.c (.i x),.c (.i y),.elt ca,.elt cb] (.c (.i (cmp x y)))) (xs:List Nat) (hS:∀x∈xs,S x) (hup:xs.Pairwise (·<·)) (N:Nat) (hN:N=xs.length) (hn1:1<=N) (hn2:N<=1048576):
 InF prg 350 (.c (cw 1 (xs.map kC))) (.c (cw 1 ((sorted (fE cmp) xs).map kC))) [.c (.i N),.fn f [.elt ca,.elt cb]] (.tup []):=by
 have hpl:(sorted (fE cmp) xs).length=xs.length:=sorted_perm.length_eq;rw[kH (by simp;omega),kH (by rw[zai,hpl];omega)];refine aK nS (by simp) (by simp) rfl λhwf=>?_;have i0:ykQ (fE cmp) xs 0=xs:=by simp[ykQ,blk,bl]
 refine eP ?_;refine qA (ι:=Nat×Nat×Nat) (λz=>z.1=z.2.2*20/\z.2.1=z.1+20/\z.1<=N) (λz=>xC [(0,.own 0 1 N),(1,.c (.i N)),(2,.fn f [.elt ca,.elt cb]),(6,.c (.i 20)),(7,.c (.i z.1)),(8,.c (.i z.2.1)),(1000000,.own 0 1 N)] [(0,.row 1 ((ykQ (fE cmp) xs z.1).map kC))]) (λz=>N-z.1) (0,20,0) ⟨rfl,rfl,zby _⟩ (by apply aB<;>simp[hN,i0]) ?_
 rintro⟨a,b,q⟩ ⟨h1,h2,h3⟩
 simp only at h1 h2 h3;have lA:(blk (fE cmp) 20 (xs.take a)).length=a:=by rw[yfg (by omega) _ _ (Nat.le_refl _),zaz];omega
 rcases zan N b with hlt|hge
 .have q1:((b:Int)<=(N:Int))=False:=by simp;omega
  have q1':(b<=N)=False:=by simp;omega
  obtain⟨e1,e2⟩:=yHd (lt:=fE cmp) (xs:=xs) h1 (by omega) (by omega);have hi:=yvh cmp _ _ _ _ _ e1 e2 a N N lA.symm (by rw[zaI];omega) (by rw[yj4];exact hN) hn1 hn2 f ca cb hf (λx y hx hy=>hc x y (hS x (zaH hx)) (hS y (zaH hy)));have lb:(blk (fE cmp) 20 xs).length=N:=by rw[yfg (by omega) _ _ (Nat.le_refl _)];exact hN.symm
  have ls:(ykQ (fE cmp) xs a).length=N:=by rw[yj4];exact hN.symm
  refine yaed q1 q1' ?_;refine tH (up:=some (0,.row 1 ((blk (fE cmp) 20 xs).map kC))) hi (by simp) rfl rfl (qH (rows:=(ykQ (fE cmp) xs a).map kC) (by simp) rfl rfl (by simp[ls]) (by simp[ls,lb]) rfl rfl) (eP ?_);refine qA (ι:=Nat) (λs=>20<=s/\s<=2*N+20) (λs=>xC [(0,.own 0 1 N),(1,.c (.i N)),(2,.fn f [.elt ca,.elt cb]),(6,.c (.i s)),(1000000,.own 0 1 N)] [(0,.row 1 ((blk (fE cmp) s xs).map kC))]) (λs=>N-s) 20 ⟨Nat.le_refl _,by omega⟩ (by apply aB<;>simp) ?_
  rintro s ⟨s1,s2⟩
  rcases zan s N with slt|sge
  .obtain⟨t,ht⟩:∃t,t=2*s:=⟨_,rfl⟩;have et:2*(s:Int)=(t:Int):=by omega
   have et2:(s:Int)*2=(t:Int):=by omega
   have i2:ykS (fE cmp) s xs 0=blk (fE cmp) s xs:=by simp[ykS,blk,bl]
   refine yaed (fC slt) et ?_;refine⟨by unfold inI;omega,?_⟩;refine qA (ι:=Nat×Nat×Nat) (λz=>z.1=z.2.2*(2*s)/\z.2.1=z.1+2*s/\z.1<=N) (λz=>xC [(0,.own 0 1 N),(1,.c (.i N)),(2,.fn f [.elt ca,.elt cb]),(6,.c (.i s)),(7,.c (.i z.1)),(8,.c (.i z.2.1)),(1000000,.own 0 1 N)] [(0,.row 1 ((ykS (fE cmp) s xs z.1).map kC))]) (λz=>N-z.1) (0,t,0) ⟨by simp,by simp only;omega,zby _⟩ (by apply aB<;>simp[i2]) ?_
   rintro⟨a,b,q⟩ ⟨h1,h2,h3⟩
   simp only at h1 h2 h3;obtain⟨m,hm⟩:∃m,m=a+s:=⟨_,rfl⟩;have em:((a:Int)+s)=(m:Int):=by omega
   have ls:(ykS (fE cmp) s xs a).length=N:=by rw[ysK (by omega)];exact hN.symm
   have lb:(blk (fE cmp) t xs).length=N:=by rw[yfg (by omega) _ _ (Nat.le_refl _)];exact hN.symm
   rcases zan N b with blt|bge
   .have q2:((b:Int)<=(N:Int))=False:=by simp;omega
    have q2':(b<=N)=False:=by simp;omega
    rcases zan m N with mlt|mge
    .have g:=yxC h hS hup (by omega) h1 (b:=N) (N:=N) (by rw[if_neg (by omega)];exact hN) (by omega) hN hn2;rw[if_neg (by omega),<-hm,<-ht]at g;have hms:=yCQ h hf hc _ _ _ _ _ _ _ _ _ _ _ (Nat.le_refl _) g;refine yaeV q2 q2' em (fC mlt) ?_;refine⟨by unfold inI;omega,?_⟩;refine tH (up:=some (0,.row 1 ((blk (fE cmp) t xs).map kC))) hms (by simp) rfl rfl (qH (rows:=(ykS (fE cmp) s xs a).map kC) (by simp) rfl rfl (by simp[ls]) (by simp[ls,lb]) rfl rfl) (eU et2 ?_);refine⟨by unfold inI;omega,t,⟨by omega,by omega⟩,by omega,?_⟩;apply aB<;>simp
    .have e:=yF0 (lt:=fE cmp) (xs:=xs) (s:=s) (by omega) h1 (by omega) (by omega);rw[<-ht]at e;rw[e];refine yaff q2 q2' em (aG mge) et2 ?_;refine⟨by unfold inI;omega,by unfold inI;omega,t,⟨by omega,by omega⟩,by omega,?_⟩;apply aB<;>simp
   .have q2:((b:Int)<=(N:Int))=True:=by simp;omega
    have q2':(b<=N)=True:=by simp;omega
    have g:=yxC h hS hup (by omega) h1 (b:=b) (N:=N) (by rw[if_pos (by omega)];exact h2) (by omega) hN hn2;rw[if_pos (by omega),<-hm,<-h2]at g;have hms:=yCQ h hf hc _ _ _ _ _ _ _ _ _ _ _ (Nat.le_refl _) g;have ls2:(ykS (fE cmp) s xs b).length=N:=by rw[ysK (by omega)];exact hN.symm
    obtain⟨b2,hb2⟩:∃b2,b2=b+t:=⟨_,rfl⟩;have eb2:((b:Int)+t)=(b2:Int):=by omega
    refine yaeT q2 q2' em ?_;refine⟨by unfold inI;omega,?_⟩;refine tH (up:=some (0,.row 1 ((ykS (fE cmp) s xs b).map kC))) hms (by simp) rfl rfl (qH (rows:=(ykS (fE cmp) s xs a).map kC) (by simp) rfl rfl (by simp[ls]) (by simp[ls,ls2]) rfl rfl) (yaed et eb2 ?_);refine⟨by unfold inI;omega,by unfold inI;omega,b,b2,⟨⟨q+1,by rw[zdM];omega⟩,by omega,bge⟩,by omega,?_⟩;apply aB<;>simp
  .have e:blk (fE cmp) s xs=sorted (fE cmp) xs:=ypX (by omega) (by omega);rw[e];refine eU (aG sge) ?_;exact⟨by rw[List.take_of_length_le (by rw[zai,hpl];omega)],by simp[ybG]⟩
 .have q1:((b:Int)<=(N:Int))=True:=by simp;omega
  have q1':(b<=N)=True:=by simp;omega
  obtain⟨e1,e2⟩:=yEY (lt:=fE cmp) (xs:=xs) h1 (by omega);rw[<-h2]at e1 e2;have hi:=yvh cmp _ _ _ _ _ e1 e2 a b N lA.symm (by rw[zaz,zaI];omega) (by rw[yj4];exact hN) hn1 hn2 f ca cb hf (λx y hx hy=>hc x y (hS x (zaH (zav hx))) (hS y (zaH (zav hy))));have ls:(ykQ (fE cmp) xs a).length=N:=by rw[yj4];exact hN.symm
  have lb:(ykQ (fE cmp) xs b).length=N:=by rw[yj4];exact hN.symm
  obtain⟨b2,hb2⟩:∃b2,b2=b+20:=⟨_,rfl⟩;have eb2:((b:Int)+20)=(b2:Int):=by omega
  refine yaed q1 q1' ?_;refine tH (up:=some (0,.row 1 ((ykQ (fE cmp) xs b).map kC))) hi (by simp) rfl rfl (qH (rows:=(ykQ (fE cmp) xs a).map kC) (by simp) rfl rfl (by simp[ls]) (by simp[ls,lb]) rfl rfl) (eU eb2 ?_);refine⟨by unfold inI;omega,b,b2,⟨⟨q+1,by rw[zdM];omega⟩,by omega,hge⟩,by omega,?_⟩;apply aB<;>simp
def yHM(h:SWO (fE cmp) S)(hf:∃fn,Tryz.prog.funcs[f]?=some fn∧fn.body.isSome=true∧(fn.name != "runtime.NumGoroutine")=true)
 (hc:∀x y:Nat,S x->S y->qB prg f [.c (.i x),.c (.i y),.elt ca,.elt cb] (.c (.i (cmp x y)))) (xs:List Nat) (hS:∀x∈xs,S x) (hup:xs.Pairwise (·<·)) (hn1:1<=xs.length) (hn2:xs.length<=1048576):
 InF prg 257 (.c (cw 1 (xs.map kC))) (.c (cw 1 ((sorted (fE cmp) xs).map kC))) [.fn f [.elt ca,.elt cb]] (.tup []):=by
 have hpl:(sorted (fE cmp) xs).length=xs.length:=sorted_perm.length_eq;have hi:=yER h hf hc xs hS hup xs.length rfl hn1 hn2;have hcw:cw 1 ((sorted (fE cmp) xs).map kC)=.ow 1 ((sorted (fE cmp) xs).map kC):=kH (by rw[zai,hpl];omega);have hcw0:cw 1 (xs.map kC)=.ow 1 (xs.map kC):=kH (by simp;omega);rw[hcw,hcw0];refine aK iM (by simp) (by simp) rfl λhwf=>?_;refine eP ?_;intro _;refine tH (up:=some (0,.row 1 ((sorted (fE cmp) xs).map kC))) hi (by simp) rfl rfl (qH (rows:=xs.map kC) (by simp) rfl rfl (by simp) (by simp[hpl]) rfl rfl) (eP ?_);exact⟨by rw[List.take_of_length_le (by rw[zai,hpl];exact Nat.le_refl _)],by simp[ybG]⟩
end
def yrc(list:List yR4)(i:Nat):Bool:=(list[i]?.map λc=>c.yRT.Up).getD false
def yoY{list:List yR4}{i:Nat}{c:yR4}(h:list[i]?=some c):yrc list i=c.yRT.Up:=by simp[yrc,h]
def yhi(list:List yR4)(o:List Nat)(t:Turn):Bool:=
 if yrc list (o[0]?.getD 0)≠t.Up\/t.Count<3 then yrc list (o[0]?.getD 0)
 else if o.all λi=>yrc list i==yrc list (o[0]?.getD 0)then yrc list (o[0]?.getD 0)else !(yrc list (o[0]?.getD 0))
def mW(list:List yR4)(t:Turn)(now:Int):Bool×Bool:=
 if(kS list now).length=0\/ybY t=false then(false,false)else(yhi list (kS list now) t,true)
def yjA{list:List yR4}{now:Int}:∀x∈kS list now,x<list.length:=λx hx=>yxB (sorted_perm.mem_iff.1 hx)
def ygT{list:List yR4}{now:Int}:(kS list now).length<=list.length:=by
 unfold kS;rw[sorted_perm.length_eq];exact ync
def nY(t:Turn)(up:Bool):Turn:=
 if ybY t=true then if t.Up=up then⟨up,if 1000000<t.Count+1 then 1000000 else t.Count+1⟩else⟨up,1⟩else t
def ywG(t:Turn)(up:Bool):qB prg 292 [.agg (t.enc.map .c),.c (.b up)] (.agg ((nY t up).enc.map .c)):=by
 refine dB yrG (eP ?_);refine aA (yjQ t) ?_;cases h1:ybY t with
 |false=>simp -dsimp -implicitDefEqProofs;simp[nY,h1]
 |true=>
 have hc1:=aC.1 h1
 by_cases hu:t.Up=up
 .refine eU hu ?_;refine⟨by unfold inI;omega,?_⟩;simp[nY,h1,hu]
 .refine eU hu ?_;simp[nY,h1,hu]
def yBj(a1 a2 a3 a4 b1 b2 b3 b4:Int):Prop:=a1<b1\/(a1=b1/\(a2<b2\/(a2=b2/\(a3<b3\/(a3=b3/\a4<b4)))))
def bkey(a:yR4)(now:Int):Int:=if rF a now= -1 then a.Booked else 0
def yG{a b:yR4}{now:Int}(ha:rF a now≠3)(hb:rF b now≠3):
 before a b now=true↔yBj (rF a now) (bkey a now) a.Since ((lG a.yRT)[0]?.getD 0) (rF b now) (bkey b now) b.Since ((lG b.yRT)[0]?.getD 0):=by
 unfold before yBj bkey;rw[if_neg (by simp[ha,hb])];generalize rF a now=r at *;generalize rF b now=r' at *;generalize(lG a.yRT)[0]?.getD 0=i;generalize(lG b.yRT)[0]?.getD 0=i'
 by_cases h1:r=r'
 .subst h1;rw[if_neg (by simp)]
  by_cases h2:r= -1
  .rw[if_pos h2,if_pos h2]
   by_cases h3:a.Booked=b.Booked
   .rw[if_neg (by simp[h3])];split<;>simp only[decide_eq_true_eq,true_and]<;>constructor<;>intro h<;>(refine Classical.byContradiction λhn=>?_)<;>omega
   .rw[if_pos ⟨h2,h3⟩];simp only[decide_eq_true_eq,true_and];constructor<;>intro h<;>(refine Classical.byContradiction λhn=>?_)<;>omega
  .rw[if_neg h2,if_neg h2,if_neg (by simp[h2])];split<;>simp only[decide_eq_true_eq,true_and]<;>constructor<;>intro h<;>(refine Classical.byContradiction λhn=>?_)<;>omega
 .rw[if_pos h1];simp only[decide_eq_true_eq,true_and];constructor<;>intro h<;>(refine Classical.byContradiction λhn=>?_)<;>omega
def yJS(list:List yR4)(now:Int)(x:Nat):Prop:=∃c,list[x]?=some c/\rF c now≠3
def dS{list:List yR4}{now:Int}{x y:Nat}{a b:yR4}(ha:list[x]?=some a)(hb:list[y]?=some b):fE (yrt list now) x y=before a b now:=by
 unfold fE yrt;rw[ha,hb];simp only
 by_cases h1:before a b now=true
 .simp[h1]
 .by_cases h2:before b a now=true<;>simp[h1,h2]
def yCB(list:List yR4)(now:Int):SWO (fE (yrt list now)) (yJS list now):=by
 refine⟨?_,?_,?_⟩
 .rintro x y ⟨a,ha,ra⟩ ⟨b,hb,rb⟩ h
  rw[dS ha hb,yG ra rb]at h;rw[dS hb ha,<-zcR,yG rb ra];unfold yBj at *;omega
 .rintro x y z ⟨a,ha,ra⟩ ⟨b,hb,rb⟩ ⟨c,hc,rc⟩ h h'
  rw[dS ha hb,yG ra rb]at h;rw[dS hb hc,yG rb rc]at h';rw[dS ha hc,yG ra rc];unfold yBj at *;omega
 .rintro x y z ⟨a,ha,ra⟩ ⟨b,hb,rb⟩ ⟨c,hc,rc⟩ h h'
  rw[dS ha hb,<-zcR,yG ra rb]at h;rw[dS hb hc,<-zcR,yG rb rc]at h';rw[dS ha hc,<-zcR,yG ra rc];unfold yBj at *;omega
def yHD{list:List yR4}{now:Int}{k x:Nat}(hk:k<=list.length)(h:x∈oU list now k):yJS list now x:=by
 unfold oU at h;obtain⟨h1,h2⟩:=zbz.1 h;rw[zaT]at h1;have h3:list[x]?=some (list[x]'(by omega)):=zab (by omega);rw[h3]at h2;exact⟨_,h3,by simpa using h2⟩
def yEz{list:List yR4}{now:Int}{k:Nat}:(oU list now k).Pairwise (·<·):=List.Pairwise.filter _ List.pairwise_lt_range
def yf8(list:List yR4)(now:Int)(hs:oM list):
 nI prg 287 [.c (.sl 4 (list.map yR4.enc)),.c (.i now)] (.c (.ow 1 ((kS list now).map kC))):=by
 have hl:=hs.1;refine fF yn1 (eP ?_);intro hlen;refine jX (k0:=1) 5 1 (by simp) (by simp) (by decide) ?_;refine yX2 (λk=>k<=list.length) (λk=>xC [(2,.box 2 0),(3,.box 3 0),(5,.own 5 1 (oU list now k).length),(8,.c (.sl 4 (list.map yR4.enc))),(9,.c (.i list.length)),(10,.c (.i k))] [(2,.box [.c (.sl 4 (list.map yR4.enc))]),(3,.box [.c (.i now)]),(5,.row 1 ((oU list now k).map kC))]) (λk=>list.length-k) (by apply aB<;>simp[oU]) ?_
 rintro k hk
 have hrl:=ync (list:=list) (now:=now) (k:=k);rcases yX1 k list with⟨hlt,c,hc⟩|hge
 .have g1:=(zaa.1 hc).2;have sc:=hs.2 c (zac hc);have hrs:=yqT (now:=now) hc;refine yaeV hc g1 (fC hlt) hlt ?_;refine aA (ykx c now sc) ?_
  by_cases h3:rF c now=3
  .rw[if_pos h3]at hrs;refine eU h3 ?_;refine⟨gB hlt hlen,k+1,hlt,by omega,?_⟩;apply aB<;>simp[hrs]
  .rw[if_neg h3]at hrs;refine eU h3 ?_;refine⟨by omega,gB hlt hlen,k+1,hlt,by omega,?_⟩;apply aB<;>simp[hrs,kC]
 .have hkn:k=list.length:=by omega
  subst hkn;refine eP ?_;have ho:kS list now=sorted (fE (yrt list now)) (oU list now list.length):=rfl
  have hsort:InF prg 257 (.c (cw 1 ((oU list now list.length).map kC))) (.c (cw 1 ((kS list now).map kC))) [.fn 357 [.elt [.sl 4 (list.map yR4.enc)],.elt [.i now]]] (.tup []):=by
   rcases zao (oU list now list.length).length with e|e
   .have e2:=zae.1 e;rw[ho,e2];exact yv1 _ _ _
   .refine yHM (yCB list now) ⟨Tryz.f357,Tryz.func357,rfl,by decide⟩ (λx y hx hy=>?_) _ (λx hx=>yHD (Nat.le_refl _) hx) yEz e (by omega);obtain⟨a,ha,_⟩:=hx;obtain⟨b,hb,_⟩:=hy;exact yBw list now hs x y (zaa.1 ha).1 (zaa.1 hb).1
  have hol:(kS list now).length=(oU list now list.length).length:=by rw[ho];exact sorted_perm.length_eq
  generalize kS list now=o at *;generalize oU list now list.length=r at *;refine yw0 (up:=some (5,.row 1 (o.map kC))) hsort ⟨yHw ⟨yjt (by simp) (by simp[kQ]),yjt (by simp) (by simp[kQ]),trivial⟩,trivial⟩ (yDZ o) rfl (qH (rows:=r.map kC) (by simp) rfl rfl (by simp) (by simp[hol]) rfl rfl) (eP ?_);rw[<-hol,jA]
def yko(c:yR4)(now:Int)(h:c.small):qB prg 364 [.agg (c.enc.map .c),.c (.i now)] (.c (.i (rF c now))):=by
 refine dB yvy (eP ?_);refine aA (yqK c h) ?_;cases h1:jO c with
 |false=>simp -dsimp -implicitDefEqProofs;simp[rF,h1]
 |true=>
 have cf:=yqg h1;have f1:=cf.cls;have f2:=cf.snc;have f3:=cf.bkd;refine eP ?_;refine aA (bC now c.Since 1000000) ?_;cases h2:inRange now c.Since 1000000 with
 |false=>simp -dsimp -implicitDefEqProofs;simp[rF,h1,h2]
 |true=>
 have r2:=aC.1 h2
 have hq:0<=(now-c.Since).tdiv 20/\(now-c.Since).tdiv 20<=50000:=by
  rw[zaA (by omega)];omega
 have fin:¬(c.Booked≠ -1/\c.Booked<=now)->rF c now=if(now-c.Since).tdiv 20<qO c.yRT then qO c.yRT-(now-c.Since).tdiv 20 else 0:=λhn=>by
  unfold rF;rw[if_pos ⟨h1,h2⟩,if_neg hn]
 have fyes:(c.Booked≠ -1/\c.Booked<=now)->rF c now= -1:=λhn=>by
  unfold rF;rw[if_pos ⟨h1,h2⟩,if_pos hn]
 refine eP ?_;refine aA (bC c.Booked 0 now) ?_;cases h3:inRange c.Booked 0 now with
 |true=>
  have r3:=aC.1 h3;refine eP ?_;exact fyes ⟨by omega,by omega⟩
 |false=>
  have r3:=gV.1 h3;rw[fin (by omega)];refine eP ?_;refine lC (yoZ c.yRT h) (eP ?_);exact⟨by unfold inI;omega,by unfold inI;omega,by unfold inI;omega⟩
def ypO(a b:yR4)(now:Int)(ha:a.small)(hb:b.small):qB prg 365 [.agg (a.enc.map .c),.agg (b.enc.map .c),.c (.i now)] (.c (.b (before a b now))):=by
 refine dB ynp (eP ?_);refine aA (yko a now ha) (eP ?_);refine aA (yko b now hb) ?_
 by_cases h1:rF a now=3
 .refine eU h1 ?_;simp[before,h1]
 by_cases h2:rF b now=3
 .refine yaed h1 h2 ?_;simp[before,h2]
 by_cases h3:rF a now=rF b now
 rotate_left
 .refine yaeT h1 h2 h3 ?_;simp[before,h1,h2,h3]
 have last:a.Since=b.Since->¬(rF a now= -1/\a.Booked≠b.Booked)->before a b now=decide ((lG a.yRT)[0]?.getD 0<(lG b.yRT)[0]?.getD 0):=λh5 h6=>by
  unfold before;rw[if_neg (by simp[h1,h2]),if_neg (by simp[h3]),if_neg h6,if_neg (by simp[h5])]
 have snc:a.Since≠b.Since->¬(rF a now= -1/\a.Booked≠b.Booked)->before a b now=decide (a.Since<b.Since):=λh5 h6=>by
  unfold before;rw[if_neg (by simp[h1,h2]),if_neg (by simp[h3]),if_neg h6,if_pos h5]
 have bkd:(rF a now= -1/\a.Booked≠b.Booked)->before a b now=decide (a.Booked<b.Booked):=λh6=>by
  unfold before;rw[if_neg (by simp[h1,h2]),if_neg (by simp[h3]),if_pos h6]
 obtain⟨_,pa⟩:=yli h1;obtain⟨_,pb⟩:=yli h2;obtain⟨x,hx⟩:∃x,(lG a.yRT)[0]?=some x:=⟨_,zab pa⟩;obtain⟨y,hy⟩:∃x,(lG b.yRT)[0]?=some x:=⟨_,zab pb⟩;have gx:=(zaa.1 hx).2;have gy:=(zaa.1 hy).2
 by_cases h6:rF a now= -1/\a.Booked≠b.Booked
 .have h3':rF b now= -1:=by rw[<-h3];exact h6.1
  simp -dsimp -implicitDefEqProofs [h1,h2,h3,h6.1,h6.2,h3'];rw[bkd h6]
 by_cases h5:a.Since=b.Since
 rotate_left
 .by_cases h7:rF a now= -1
  .have h8:a.Booked=b.Booked:=by
    by_cases h:a.Booked=b.Booked
    .exact h
    .exact absurd ⟨h7,h⟩ h6
   have h3':rF b now= -1:=by rw[<-h3];exact h7
   refine yaeV h7 h8 h5 h3' ?_;rw[snc h5 h6]
  .have h3':¬rF b now= -1:=by rw[<-h3];exact h7
   refine yaff h1 h2 h3 h5 h3' ?_;rw[snc h5 h6]
 .have hl:=last h5 h6;rw[hx,hy]at hl;simp only[zbe]at hl
  by_cases h7:rF a now= -1
  .have h8:a.Booked=b.Booked:=by
    by_cases h:a.Booked=b.Booked
    .exact h
    .exact absurd ⟨h7,h⟩ h6
   have h3':rF b now= -1:=by rw[<-h3];exact h7
   refine yaeV h7 h8 h5 h3' ?_;refine gX (yaG a.yRT ha) (yaeT pa hx gx ?_);refine gX (yaG b.yRT hb) (yaeT pb hy gy ?_);rw[hl]
  .have h3':¬rF b now= -1:=by rw[<-h3];exact h7
   refine yaff h1 h2 h3 h5 h3' ?_;refine gX (yaG a.yRT ha) (yaeT pa hx gx ?_);refine gX (yaG b.yRT hb) (yaeT pb hy gy ?_);rw[hl]
def yAd{lt:Nat->Nat->Bool}{xs:List Nat}{x:Nat}:∀i:Nat,i<=xs.length->yeu lt (xs++[x]) i=yeu lt xs i
 |0,_=>rfl
 |i+1,h=>by
  have h1:(xs++[x])[i]?=xs[i]?:=zaU (by omega);have h2:xs[i]?=some (xs[i]'(by omega)):=zab (by omega);rw[ydH (h1.trans h2),ydH h2,yAd i (by omega)]
def yzw{lt:Nat->Nat->Bool}{xs:List Nat}{x:Nat}:sorted lt (xs++[x])=yri lt x (sorted lt xs):=by
 unfold sorted;rw[zak,zaY,ydH (x:=x) (by simp),yAd _ (Nat.le_refl _)]
def ybw(list:List yR4)(now:Int)(k:Nat):List Nat:=sorted (fE (yrt list now)) (oU list now k)
def yHI{list:List yR4}{now:Int}{k x:Nat}(h:x∈ybw list now k):x<k:=yxB (sorted_perm.mem_iff.1 h)
def yD7{list:List yR4}{now:Int}{k:Nat}:(ybw list now k).length<=k:=by unfold ybw;rw[sorted_perm.length_eq];exact ync
def ygN(list:List yR4)(now:Int)(hs:oM list):
 nI prg 311 [.c (.sl 4 (list.map yR4.enc)),.c (.i now)] (.c (.ow 1 ((kS list now).map kC))):=by
 have hl:=hs.1;refine fF yoX (eP ?_);refine yX2 (λk=>k<=list.length) (λk=>xC [(0,.c (.sl 4 (list.map yR4.enc))),(1,.c (.i now)),(5,.own 8 1 (ybw list now k).length),(6,.c (.i k))] [(8,.row 1 ((ybw list now k).map kC))]) (λk=>list.length-k) (by apply aB<;>simp[ybw,oU,sorted,yeu]) ?_
 rintro k hk
 have hsl:=yD7 (list:=list) (now:=now) (k:=k);rcases yX1 k list with⟨hlt,c,hc⟩|hge
 .have g1:=(zaa.1 hc).2;have sc:=hs.2 c (zac hc);have hrs:=yqT (now:=now) hc;refine yaeV hc g1 (fC hlt) hlt ?_;intro hlen;refine aA (yko c now sc) ?_
  by_cases h3:rF c now=3
  .rw[if_pos h3]at hrs;have hs2:ybw list now (k+1)=ybw list now k:=by unfold ybw;rw[hrs]
   refine eU h3 ?_;refine⟨gB hlt hlen,k+1,hlt,by omega,?_⟩;apply aB<;>simp[hs2]
  .rw [if_neg h3]at hrs;have hs2:ybw list now (k+1)=yri (fE (yrt list now)) k (ybw list now k):=by unfold ybw;rw[hrs,yzw]
   have hPlt:∀y∈ybw list now k,y<list.length:=λy hy=>Nat.lt_trans (yHI hy) hlt;refine eU h3 ?_;intro hlen2;generalize ybw list now k=P at *;refine qA (ι:=Nat×List Nat×List Nat) (λp=>p.1=p.2.1.length/\p.2.1++p.2.2=P/\∀y∈p.2.2,fE (yrt list now) k y=true) (λp=>xC [(0,.c (.sl 4 (list.map yR4.enc))),(1,.c (.i now)),(5,.own 8 1 P.length),(6,.c (.i k)),(7,.c (.i p.1))] [(8,.row 1 (P.map kC))]) (λp=>p.1) (P.length,P,[]) ⟨rfl,by simp,by simp⟩ (by apply aB<;>simp) ?_
   rintro⟨j,l1,l2⟩ ⟨hj,he2,h2⟩
   simp only at hj he2 h2;have fin:(∀l y,l1=l++[y]->fE (yrt list now) k y=false)->ybw list now (k+1)=l1++k::l2:=λh1=>by rw[hs2];exact yyn he2 h2 h1
   rcases zbS l1 with e0|⟨l,y,e0⟩
   .have hfin:=fin (λl y h=>by rw[e0]at h;simp at h);have hj0:j=0:=by rw[hj,e0];rfl
    subst hj0;have hP0:l2=P:=by rw[<-he2,e0];rfl
    have hrow:(kC k::P.map kC)=(ybw list now (k+1)).map kC:=by rw[hfin,e0,hP0];rfl
    have hlen3:1+P.length=(ybw list now (k+1)).length:=by rw[hfin,e0,hP0];simp;omega
    refine eP ?_;refine⟨by omega,gB hlt hlen,k+1,hlt,by omega,?_⟩;refine yyv 44 8 ?_;apply aB<;>simp[AV.ren,AV.yzO,AV.ytG,Obj.ren,yas,hrow,hlen3];rw[List.take_of_length_le (by simp)];exact hrow
   .rw[zbT]at e0;subst e0;obtain⟨m,hm⟩:∃m,m=l.length:=⟨_,rfl⟩;have hj2:j=m+1:=by rw[hj,hm];simp
    have ej:((j:Int)-1)=(m:Int):=by omega
    have j0:0<j:=by omega
    have hyP:y∈P:=by rw[<-he2];simp
    have hy:P[m]?=some y:=by rw[<-he2,hm];simp
    have gy:=(zaa.1 hy).2;have my:=(zaa.1 hy).1;have hyl:=hPlt y hyP;obtain⟨d,hd⟩:∃x,list[y]?=some x:=⟨_,zab hyl⟩;have gd:=(zaa.1 hd).2;have sd:=hs.2 d (zac hd);have hlb:=dS (now:=now) hc hd;simp -dsimp -implicitDefEqProofs [j0,ej,hc,g1,hlt,hy,gy,my,hyl,hd,gd,kC];refine⟨by unfold inI;omega,?_⟩;refine lC (ypO c d now sc sd) ?_;cases hb:before c d now with
    | true=>
     refine eU ej ?_;refine⟨by unfold inI;omega,m,⟨l,hm,y::l2,by rw[<-he2];simp,λz hz=>?_⟩,by omega,?_⟩
     .rcases zaC.1 hz with hz|hz
      .subst hz;rw[hlb,hb]
      .exact h2 z hz
     .apply aB<;>simp[kC]
    | false=>
     have hfin:=fin λl' y' h=>by
      have:=(zdp h rfl).2;simp at this;subst this;rw[hlb,hb]
     have hjl:j<=P.length:=by omega
     have htk:List.take j (List.map kC P)=(l++[y]).map kC:=by rw[<-zaV,<-he2,hj,List.take_left' rfl]
     have hdr:List.drop j (List.map kC P)=l2.map kC:=by rw[<-zcB,<-he2,hj,List.drop_left' rfl]
     have hl2:P.length=j+l2.length:=by rw[<-he2,hj];simp;omega
     have hlen3:(ybw list now (k+1)).length=min j P.length+1+(P.length-j):=by rw[hfin];simp at hj|-;omega
     refine eP ?_;refine⟨hjl,by omega,by omega,hjl,by omega,gB hlt hlen,k+1,hlt,by omega,?_⟩;refine yyv 44 8 ?_;apply aB<;>simp[AV.ren,AV.yzO,AV.ytG,Obj.ren,yas,hlen3];rw[htk,hdr,hfin,List.take_of_length_le (by rw[zai];omega)];simp[kC]
 .have hkn:k=list.length:=by omega
  subst hkn;refine eU (aG hge) ?_;intro _;exact(List.take_of_length_le (by simp[ybw,kS])).symm
def yiB(list:List yR4)(now:Int)(hs:oM list):qB prg 311 [.c (.sl 4 (list.map yR4.enc)),.c (.i now)] (.c (.sl 1 ((kS list now).map kC))):=(ygN list now hs).pure rfl
def yjM(list:List yR4)(t:Turn)(now:Int)(hs:oM list):
 qB prg 276 [.c (.sl 4 (list.map yR4.enc)),.agg (t.enc.map .c),.c (.i now)] (.tup [.c (.b (mW list t now).1),.c (.b (mW list t now).2)]):=by
 refine dB yrp (eP ?_);refine yX5 (yf8 list now hs) ?_;have hol:=ygT (list:=list) (now:=now);have hlt:=yjA (list:=list) (now:=now);have hns:mW list t now=if(kS list now).length=0\/ybY t=false then(false,false)else(yhi list (kS list now) t,true):=rfl
 generalize mW list t now=R at *;generalize kS list now=o at *;rcases zao o.length with e|e
 .have e2:=zae.1 e;subst e2;refine eP ?_;simp[hns]
 .obtain⟨x,hx⟩:∃x,o[0]?=some x:=⟨_,zab e⟩;have gx:=(zaa.1 hx).2;have e0:(o=[])=False:=by simp only[eq_iff_iff,iff_false];intro h;rw[h]at e;simp at e
  refine eU e0 ?_;intro hlen;refine aA (yjQ t) ?_;cases h1:ybY t with
  |false=>simp -dsimp -implicitDefEqProofs;simp[hns,h1]
  |true=>
  have hc1:=aC.1 h1;have hxl:=hlt x (zac hx);obtain⟨c,hc⟩:∃e,list[x]?=some e:=⟨_,zab hxl⟩;have gc:=(zaa.1 hc).2;have hup:=yoY hc;have hns2:R=(yhi list o t,true):=by rw[hns,if_neg];simp[h1];exact of_eq_false e0
  have hsd:yhi list o t=if c.yRT.Up≠t.Up\/t.Count<3 then c.yRT.Up else if o.all λi=>yrc list i==c.yRT.Up then c.yRT.Up else !c.yRT.Up:=by
   unfold yhi;rw[hx,zbe,hup]
  rw[hsd]at hns2
  by_cases hu:c.yRT.Up=t.Up
  rotate_left
  .rw[if_pos (.inl hu)]at hns2;simp -dsimp -implicitDefEqProofs [e,hx,gx,kC,hxl,hc,gc,hu];simp[hns2]
  by_cases h3:t.Count<3
  .rw[if_pos (.inr h3)]at hns2;simp -dsimp -implicitDefEqProofs [e,hx,gx,kC,hxl,hc,gc,hu,h3];simp[hns2,hu]
  rw[if_neg (by simp[hu];omega)]at hns2;simp -dsimp -implicitDefEqProofs [e,hx,gx,kC,hxl,hc,gc,hu,h3];rw[hu]at hns2;generalize t.Up=up at *
  refineλ_=>qA (ι:=Nat) (λk=>k<=o.length/\∀y∈o.take k,yrc list y=up) (λk=>xC [(0,.c (.sl 4 (list.map yR4.enc))),(9,.c (.b up)),(41,.own 14 1 o.length),(42,.c (.i o.length)),(43,.c (.i k))] [(14,.row 1 (o.map kC))]) (λk=>o.length-k) 0 (by simp) (by apply aB<;>simp[kC]) ?_
  rintro k ⟨hk,hall⟩
  rcases yX1 k o with⟨hlt2,y,hy⟩|hge
  .have gy:=(zaa.1 hy).2;have hyl:=hlt y (zac hy);obtain⟨d,hd⟩:∃e,list[y]?=some e:=⟨_,zab hyl⟩;have gd:=(zaa.1 hd).2;have hupd:=yoY hd
   by_cases hdu:d.yRT.Up=up
   .simp -dsimp -implicitDefEqProofs [hy,gy,fC hlt2,hlt2,kC,hyl,hd,gd,hdu];refine⟨gB hlt2 hlen,k+1,⟨hlt2,λz hz=>?_⟩,by omega,?_⟩
    .rw[zar,hy]at hz;rcases zaq.1 hz with hz|hz
     .exact hall z hz
     .simp at hz;subst hz;rw[hupd,hdu]
    .apply aB<;>simp[kC]
   .simp -dsimp -implicitDefEqProofs [hy,gy,fC hlt2,hlt2,kC,hyl,hd,gd,hdu];rw[if_neg (by simp;exact⟨y,zac hy,by rw[hupd];exact hdu⟩)]at hns2;simp[hns2]
  .refine eU (aG hge) ?_;rw[List.take_of_length_le hge]at hall;rw[if_pos (by simpa using hall)]at hns2;simp[hns2]
def ymP(list:List yR4)(t:Turn)(now:Int)(hs:oM list):
 qB prg 206 [.c (.sl 4 (list.map yR4.enc)),.agg (t.enc.map .c),.c (.i now)] (.tup [.c (.b (mW list t now).1),.c (.b (mW list t now).2)]):=by
 refine dB yrd (eP ?_);refine yX5 (ygN list now hs) ?_;have hol:=ygT (list:=list) (now:=now);have hlt:=yjA (list:=list) (now:=now);have hns:mW list t now=if(kS list now).length=0\/ybY t=false then(false,false)else(yhi list (kS list now) t,true):=rfl
 generalize mW list t now=R at *;generalize kS list now=o at *;rcases zao o.length with e|e
 .have e2:=zae.1 e;subst e2;refine eP ?_;simp[hns]
 .obtain⟨x,hx⟩:∃x,o[0]?=some x:=⟨_,zab e⟩;have gx:=(zaa.1 hx).2;have e0:(o=[])=False:=by simp only[eq_iff_iff,iff_false];intro h;rw[h]at e;simp at e
  refine eU e0 ?_;intro hlen;refine aA (yjN t) ?_;cases h1:ybY t with
  |false=>simp -dsimp -implicitDefEqProofs;simp[hns,h1]
  |true=>
  have hc1:=aC.1 h1;have hxl:=hlt x (zac hx);obtain⟨c,hc⟩:∃e,list[x]?=some e:=⟨_,zab hxl⟩;have gc:=(zaa.1 hc).2;have hup:=yoY hc;have hns2:R=(yhi list o t,true):=by rw[hns,if_neg];simp[h1];exact of_eq_false e0
  have hsd:yhi list o t=if c.yRT.Up≠t.Up\/t.Count<3 then c.yRT.Up else if o.all λi=>yrc list i==c.yRT.Up then c.yRT.Up else !c.yRT.Up:=by
   unfold yhi;rw[hx,zbe,hup]
  rw[hsd]at hns2
  by_cases hu:c.yRT.Up=t.Up
  rotate_left
  .rw[if_pos (.inl hu)]at hns2;simp -dsimp -implicitDefEqProofs [e,hx,gx,kC,hxl,hc,gc,hu];simp[hns2]
  by_cases h3:t.Count<3
  .rw[if_pos (.inr h3)]at hns2;simp -dsimp -implicitDefEqProofs [e,hx,gx,kC,hxl,hc,gc,hu,h3];simp[hns2,hu]
  rw[if_neg (by simp[hu];omega)]at hns2;simp -dsimp -implicitDefEqProofs [e,hx,gx,kC,hxl,hc,gc,hu,h3];rw[hu]at hns2;generalize t.Up=up at *;refine yX2 (λk=>k<=o.length/\∀y∈o.take k,yrc list y=up) (λk=>xC [(0,.c (.sl 4 (list.map yR4.enc))),(8,.own 13 1 o.length),(9,.c (.b up)),(10,.c (.i k))] [(13,.row 1 (o.map kC))]) (λk=>o.length-k) (by apply aB<;>simp[kC]) ?_
  rintro k ⟨hk,hall⟩
  rcases yX1 k o with⟨hlt2,y,hy⟩|hge
  .have gy:=(zaa.1 hy).2;have hyl:=hlt y (zac hy);obtain⟨d,hd⟩:∃e,list[y]?=some e:=⟨_,zab hyl⟩;have gd:=(zaa.1 hd).2;have hupd:=yoY hd
   by_cases hdu:d.yRT.Up=up
   .simp -dsimp -implicitDefEqProofs [hy,gy,fC hlt2,hlt2,kC,hyl,hd,gd,hdu];intro _;refine⟨gB hlt2 hlen,k+1,⟨hlt2,λz hz=>?_⟩,by omega,?_⟩
    .rw[zar,hy]at hz;rcases zaq.1 hz with hz|hz
     .exact hall z hz
     .simp at hz;subst hz;rw[hupd,hdu]
    .apply aB<;>simp[kC]
   .simp -dsimp -implicitDefEqProofs [hy,gy,fC hlt2,hlt2,kC,hyl,hd,gd,hdu];intro _;rw[if_neg (by simp;exact⟨y,zac hy,by rw[hupd];exact hdu⟩)]at hns2;simp[hns2]
  .refine eU (aG hge) ?_;intro _;rw[List.take_of_length_le hge]at hall;rw[if_pos (by simpa using hall)]at hns2;simp[hns2]
def yc8(now:Int)(p:ySf):Bool:=decide (p.From<=now)&&decide (now<p.Until)
def bW(l:List ySf)(now:Int):Bool:=xO l&&inRange now 0 1000000&&l.all λp=>!yc8 now p
def yAC(l:List ySf)(now:Int):qB prg 286 [.c (.sl 2 (l.map ySf.enc)),.c (.i now)] (.c (.b (bW l now))):=by
 refine dB yvX (eP ?_);refine aA (ymM l) ?_;cases h1:xO l with
 |false=>simp -dsimp -implicitDefEqProofs;simp[bW,h1]
 |true=>
 refine eP ?_;refine aA (iC now 0 1000000) ?_;cases h2:inRange now 0 1000000 with
 |false=>simp -dsimp -implicitDefEqProofs;simp[bW,h2]
 |true=>
 refine eP ?_;intro hlen;refine yX4 (λk=>k<=l.length/\∀p∈l.take k,yc8 now p=false) (λk=>xC [(1,.c (.i now)),(15,.c (.sl 2 (l.map ySf.enc))),(16,.c (.i l.length)),(17,.c (.i k))] []) (λk=>l.length-k) ?_
 rintro k ⟨hk,hno⟩
 rcases yX1 k l with⟨klt,p,hp⟩|kge
 .have gp:=(zaa.1 hp).2;have hmem:=zac hp
  have next:yc8 now p=false->∀p∈l.take (k+1),yc8 now p=false:=by
   intro h0 y hy;rw[zar,hp]at hy;rcases zaq.1 hy with e|e
   .exact hno y e
   .simp at e;rw[e];exact h0
  cases hs:yc8 now p with
  | true=>
   have e:bW l now=false:=by
    have:(l.all λp=>!yc8 now p)=false:=zdj.2 ⟨p,hmem,by simp[hs]⟩;simp[bW,this]
   rw[e];simp only[yc8,zad,decide_eq_true_eq]at hs;simp -dsimp -implicitDefEqProofs [hp,gp,klt,fC klt,hs.1,hs.2]
  |false=>
   have hn:=next hs
   simp only[yc8,zbU,decide_eq_false_iff_not]at hs;refine yaeV hp gp klt (fC klt) ?_;refine⟨λa1=>⟨λa2=>by omega,λa2=>⟨gB klt hlen,k+1,⟨klt,hn⟩,by omega,?_⟩⟩,λa1=>⟨gB klt hlen,k+1,⟨klt,hn⟩,by omega,?_⟩⟩<;>apply aB<;>simp
 .have e:bW l now=true:=by
   have:(l.all λp=>!yc8 now p)=true:=zaf.2 λp hp=>by rw[hno p (by rw[List.take_of_length_le kge];exact hp)];rfl
   simp[bW,h1,h2,this]
  exact yafJ (aG kge) e
def rD(x:yRW)(k:Nat)(w:yR8):yRW:={x with yRX:=x.yRX.set k w}
def qJ(x:yRW)(k:Nat)(r:Reach):yRW:={x with yRV:=x.yRV.set k r}
def ycd(x:yRW)(k:Nat)(w:yR8)(hl:x.yRX.length<=1048576)(hk:k<x.yRX.length):qB prg 279 [.agg (x.enc.map .c),.c (.i k),.agg (w.enc.map .c)] (.agg ((rD x k w).enc.map .c)):=by
 refine dB yrs (eP ?_);refine yX5 (yEV x.yRX hl) (yafv hk ?_)
 have e:List.take x.yRX.length ((x.yRX.map yR8.enc).set k w.enc)=(x.yRX.set k w).map yR8.enc:=by
  rw[List.take_of_length_le (by simp),zaR]
 simp only[yR8.enc]at e;simp[rD,e]
def yuW(x:yRW)(k:Nat)(r:Reach)(hl:x.yRV.length<=1048576)(hk:k<x.yRV.length):qB prg 284 [.agg (x.enc.map .c),.c (.i k),.agg (r.enc.map .c)] (.agg ((qJ x k r).enc.map .c)):=by
 refine dB ypn (eP ?_);refine yX5 (yFx x.yRV hl) (yafv hk ?_)
 have e:List.take x.yRV.length ((x.yRV.map Reach.enc).set k r.enc)=(x.yRV.set k r).map Reach.enc:=by
  rw[List.take_of_length_le (by simp),zaR]
 simp only[Reach.enc]at e;simp[qJ,e]
def ys8(x:yRW)(k:Nat)(l:List yR6)(m:yR6)(hs:x.yR3.length<=1048576)(hk:x.yR3[k]?=some l)(hll:l.length<=1048576):
 qB prg 58 [.agg (x.enc.map .c),.c (.i k),.agg (m.enc.map .c)] (.agg ((oG x k m).enc.map .c)):=
 (yAh x k l m hs hk hll).pure (by
  have h:=yv5 x k m;simp[oG,zaR]at h;simp[AV.shr,AV.yoE,dO,C.shr,ykB,oG,zaR,h])
def lI(k:Nat)(g:Int):Nat:=if g=1 then k else k+1
def yd4(k:Nat)(g:Int)(hk:k<=1000):qB prg 280 [.c (.i k),.c (.i g)] (.c (.i (lI k g))):=by
 refine dB ypf (eP ?_)
 by_cases h:g=1
 .simp -dsimp -implicitDefEqProofs [h];simp[lI]
 .refine eU h ?_;refine⟨by unfold inI;omega,?_⟩;simp[lI,h]
@[simp] def rH(w:yR8)(l:yR0):yR8:=⟨l,w.ySp,w.Rule,w.Pauses,w.Turn,w.Calls⟩
def yag(x:yRW)(k:Nat):Int:=(dW x.yRX k).yR0.Gate
def jM(x:yRW)(k:Nat):Nat:=lI k (yag x k)
def lW(x:yRW)(k:Nat):yR0×yRT×Bool:=sK (dW x.yRX k).yR0 (dR x.yRV (jM x k))
def yfJ(x:yRW)(k:Nat):Int:=if yag x k=1 then(x.ySl.getD (jM x k) default).Long else 0
def iK(x:yRW)(k:Nat):yRW×Bool:=
 if(lW x k).2.2 then(oG (rD x k (rH (dW x.yRX k) (lW x k).1)) (jM x k) ⟨(lW x k).2.1,yfJ x k⟩,true)else(x,false)
structure ySq(x:yRW)(k:Nat):Prop where
 kw:k<x.yRX.length
 kr:k+1<x.yRV.length
 rl:x.yRV.length<=6
 ways:x.ySl.length=x.yRV.length
 mvs:x.yR3.length=x.yRV.length
 few:∀l∈x.yR3,l.length<=24
 lok:lF (dW x.yRX k).yR0=true
 wok:fJ (dW x.yRX k)=true
 sw:yR8.small (dW x.yRX k)
 calls:(dW x.yRX k).Calls.length<=24
 book:x.Book.length<=2000
 pass:x.yR1.length<=500
def ym8{x:yRW}{k:Nat}(h:rC x=true)(hs:x.small)(hk:k<x.yRX.length):ySq x k:=by
 have pl:=yjV h;have p1:=pl.two;have p2:=pl.ways;have p3:=pl.mvs;have p4:=pl.wks;have rf:=(ynr (yCL h).ySA).len;have hw:=yi4 hk
 have hok:fJ (dW x.yRX k)=true:=by
  have hh:=h;simp only[rC,sJ,zad,zaf]at hh;exact hh.1.1.1.1.1.1.2.2 _ (zac hw)
 have hok2:=hok;simp only[fJ,zad,decide_eq_true_eq]at hok2
 refine⟨hk,by omega,by omega,p2,p3,λl hl=>?_,hok2.1.1.1.1.1.1,hok,hs.2.2.1.2 _ (zac hw),hok2.1.2,by
  have hh:=h;simp only[rC,kU,zad,decide_eq_true_eq]at hh;exact hh.1.1.1.2.1,by
  have hh:=h;simp only[rC,pO,zad,decide_eq_true_eq]at hh;omega⟩
 obtain⟨j,hj⟩:=zbx.1 hl;have jl:=(zaa.1 hj).1;have hh:=h;simp only[rC,sJ,zad,zaf]at hh;have:=hh.1.1.1.1.1.1.2.1.2 (x.ySl[j]'(by omega),l) (zbx.2 ⟨j,by rw[zbW];exact⟨zab _,hj⟩⟩);simp only[jS,zad,decide_eq_true_eq]at this;exact this.1.2
def ysR(x:yRW)(k:Nat)(hs:x.small)(F:ySq x k):qB prg 186 [.agg (x.enc.map .c),.c (.i k)] (.tup [.agg ((iK x k).1.enc.map .c),.c (.b (iK x k).2)]):=by
 have kw:=F.kw;have kr:=F.kr;have rl:=F.rl;have wy:=F.ways;have mv:=F.mvs;have hw:=yi4 F.kw;obtain⟨w,hwe⟩:∃w,dW x.yRX k=w:=⟨_,rfl⟩;rw[hwe]at hw;have gw:=(zaa.1 hw).2;have hsd:jM x k=lI k w.yR0.Gate:=by unfold jM yag;rw[hwe]
 have hsl:lI k w.yR0.Gate<x.yRV.length:=by unfold lI;split<;>omega
 have hT:lW x k=sK w.yR0 (dR x.yRV (lI k w.yR0.Gate)):=by unfold lW;rw[hsd,hwe]
 have hr:=ye8 hsl;have hLL:=ysW w.yR0 (dR x.yRV (lI k w.yR0.Gate)) (by have:=F.sw;rw[hwe]at this;exact this.1);rw[<-hT]at hLL;unfold iK;rw[hsd,hwe];generalize lW x k=T at *;obtain⟨side,hside⟩:∃s,lI k w.yR0.Gate=s:=⟨_,rfl⟩;rw[hside]at hsl hr hLL|-;have hSR:=yd4 k w.yR0.Gate (by omega);rw[hside]at hSR;obtain⟨r,hre⟩:∃r,dR x.yRV side=r:=⟨_,rfl⟩;rw[hre]at hr hLL;have gr:=(zaa.1 hr).2;obtain⟨R,hR⟩:∃R,(if T.2.2 then(oG (rD x k (rH w T.1)) side ⟨T.2.1,yfJ x k⟩,true)else(x,false))=R:=⟨_,rfl⟩;rw[hR];obtain⟨wy,hwy⟩:∃wy,x.ySl[side]?=some wy:=⟨_,zab (by omega)⟩;have gwy:=(zaa.1 hwy).2;have lwy:=(zaa.1 hwy).1;obtain⟨ms,hms⟩:∃ms,x.yR3[side]?=some ms:=⟨_,zab (by omega)⟩;have h24:=F.few ms (zac hms)
 have hP:yfJ x k=if w.yR0.Gate=1 then wy.Long else 0:=by
  unfold yfJ yag;rw[hwe,hsd,hside,zah,hwy];rfl
 refine dB yqh ?_;simp -dsimp -implicitDefEqProofs [ygD,hw,gw,kw,fC kw];refine yYq hSR (yaeT hr gr hsl ?_);refine yYo hLL ?_;cases hb:T.2.2 with
 |false=>
  rw[hb]at hR;obtain rfl:(x,false)=R:=hR;exact goE_
 | true=>
  rw[hb]at hR;have hR:(oG (rD x k (rH w T.1)) side ⟨T.2.1,yfJ x k⟩,true)=R:=hR;have hWW:=ycd x k (rH w T.1) hs.2.2.1.1 kw;have hWM:=λp=>ys8 (rD x k (rH w T.1)) side ms ⟨T.2.1,p⟩ hs.2.2.2.1.1 hms (by omega);rw[hP]at hR;generalize rD x k (rH w T.1)=x1 at *
  by_cases hg:w.yR0.Gate=1
  .rw[if_pos hg]at hR;have hWM:=hWM wy.Long;rw[<-hR];generalize oG x1 side ⟨T.2.1,wy.Long⟩=x2 at *;refine yaeV hg hwy gwy lwy ?_;refine yYo hWW (eP ?_);refine yYo hWM ?_;exact goE_
  .rw[if_neg hg]at hR;have hWM:=hWM 0;rw[<-hR];generalize oG x1 side ⟨T.2.1,0⟩=x2 at *;refine eU hg ?_;refine yYo hWW (eP ?_);refine yYo hWM ?_;exact goE_
def ybZ(x:yRW)(k:Nat):Bool×Bool:=mW (able (dR x.yRV k) (dR x.yRV (k+1)) (dW x.yRX k)) (dW x.yRX k).Turn x.Time
@[simp] def ya7(w:yR8)(g:Int):yR8:=⟨w.yR0.yra g,w.ySp,w.Rule,w.Pauses,w.Turn,w.Calls⟩
def mG(w:yR8)(N:Bool×Bool):Bool:=!decide (w.yR0.yRY=[])||(N.2&&(N.1 != decide (w.yR0.Gate=2)))
def xY(x:yRW)(k:Nat):yRW:=rD x k (if mG (dW x.yRX k) (ybZ x k)then ya7 (dW x.yRX k) 0 else dW x.yRX k)
def yhK{a b:Reach}{w:yR8}(h:yR8.small w):oM (able a b w):=⟨zaX (zbJ _ _) h.2.2.1,λc hc=>h.2.2.2 c (zbz.1 hc).1⟩
def ywM(x:yRW)(k:Nat)(hs:x.small)(F:ySq x k):qB prg 188 [.agg (x.enc.map .c),.c (.i k)] (.agg ((xY x k).enc.map .c)):=by
 have kw:=F.kw;have kr:=F.kr;have sw:=F.sw;have hw:=yi4 F.kw;have ha:=ye8 (rs:=x.yRV) (k:=k) (by omega);have hb:=ye8 kr;have hA:=yGg x k _ _ _ sw hw ha hb (yBO F.wok) hs.1.1;have hN:=yjM (able (dR x.yRV k) (dR x.yRV (k+1)) (dW x.yRX k)) (dW x.yRX k).Turn x.Time (yhK sw);have hN2:ybZ x k=mW (able (dR x.yRV k) (dR x.yRV (k+1)) (dW x.yRX k)) (dW x.yRX k).Turn x.Time:=rfl;rw[<-hN2]at hN;generalize able (dR x.yRV k) (dR x.yRV (k+1)) (dW x.yRX k)=A at *;unfold xY;generalize ybZ x k=N at *;generalize dW x.yRX k=w at *;have gw:=(zaa.1 hw).2;obtain⟨v,hv⟩:∃v,(if mG w N then ya7 w 0 else w)=v:=⟨_,rfl⟩;rw[hv];have hW2:=ycd x k v hs.2.2.1.1 kw;generalize rD x k v=R at *;refine dB yr2 ?_;simp -dsimp -implicitDefEqProofs [yiM,hw,gw,kw,fC kw];refine yYt hA (eP ?_);refine yYs hN ?_;cases hm:mG w N with
 | true=>
  rw[hm,if_pos rfl]at hv;subst hv
  by_cases hI:w.yR0.yRY=[]
  .simp only[mG,hI,decide_true,zdm,Bool.false_or,zad,bne_iff_ne]at hm;simp -dsimp -implicitDefEqProofs [hI,hm.1,hm.2];refine iF (hW2) (by simp -dsimp -implicitDefEqProofs [hI]) rfl ?_;exact goE_
  .refine eU hI ?_;intro _ _;refine yYp hW2 ?_;exact goE_
 | false=>
  rw[hm,if_neg zaG]at hv;subst hv
  have hI:w.yR0.yRY=[]:=by
   by_cases hI:w.yR0.yRY=[]
   .exact hI
   .simp[mG,hI]at hm
  simp only[mG,hI,decide_true,zdm,Bool.false_or,zbU,bne_eq_false_iff_eq]at hm;cases h2:N.2 with
  |false=>
   refine yaed hI h2 ?_;refine iF (hW2) (by simp -dsimp -implicitDefEqProofs [hI]) rfl ?_;exact goE_
  | true=>
   rw[h2]at hm
   have hm:N.1=decide (w.yR0.Gate=2):=by
    rcases hm with e|e
    .cases e
    .exact e
   refine yaeT hI h2 hm ?_;refine iF (hW2) (by simp -dsimp -implicitDefEqProofs [hI]) rfl ?_;exact goE_
def yoI(w:yR8)(N:Bool×Bool):Bool:=if w.yR0.yRY=[]then !N.1 else(w.yR0.yRY.getD 0 ⟨false,[]⟩).Up
def rests(w:yR8)(N:Bool×Bool):Bool:=decide (w.yR0.yRY=[])&& !N.2
def yan(w:yR8)(N:Bool×Bool):Int:=if yoI w N then 1 else 2
def opening(x:yRW)(k:Nat)(g:Int):yR0×Bool:=tK (dW x.yRX k).yR0 (dR x.yRV k) (dR x.yRV (k+1)) g
def jT(l:yR0)(r:Reach):yR0×Reach:=if bG l<kD r then mM l r else rJ l r
def yls(x:yRW)(k:Nat)(g:Int):yRW:=
 if(opening x k g).2 then rD x k (rH (dW x.yRX k) (opening x k g).1)else qJ (rD x k (rH (dW x.yRX k) (jT (dW x.yRX k).yR0 (dR x.yRV (lI k g))).1)) (lI k g) (jT (dW x.yRX k).yR0 (dR x.yRV (lI k g))).2
def qM(x:yRW)(k:Nat):yRW:=if rests (dW x.yRX k) (ybZ x k)then x else yls x k (yan (dW x.yRX k) (ybZ x k))
set_option maxRecDepth 20000 in
def ys1(x:yRW)(k:Nat)(hs:x.small)(F:ySq x k):qB prg 185 [.agg (x.enc.map .c),.c (.i k)] (.agg ((qM x k).enc.map .c)):=by
 have kw:=F.kw;have kr:=F.kr;have sw:=F.sw;have rl:=F.rl;have hw:=yi4 F.kw;have ha:=ye8 (rs:=x.yRV) (k:=k) (by omega);have hb:=ye8 kr;have hA:=yGg x k _ _ _ sw hw ha hb (yBO F.wok) hs.1.1;have hN:=yjM (able (dR x.yRV k) (dR x.yRV (k+1)) (dW x.yRX k)) (dW x.yRX k).Turn x.Time (yhK sw);have hN2:ybZ x k=mW (able (dR x.yRV k) (dR x.yRV (k+1)) (dW x.yRX k)) (dW x.yRX k).Turn x.Time:=rfl;rw[<-hN2]at hN;generalize able (dR x.yRV k) (dR x.yRV (k+1)) (dW x.yRX k)=A at *;unfold qM;clear hN2;generalize ybZ x k=N at *;obtain⟨g,hg⟩:∃g,yan (dW x.yRX k) N=g:=⟨_,rfl⟩;rw[hg];have hg12:g=1\/g=2:=by rw[<-hg];unfold yan;split<;>omega
 have hsl:lI k g<x.yRV.length:=by unfold lI;split<;>omega
 have hSR:=yd4 k g (by omega);have hr:=ye8 hsl;have hsr:=hs.1.2 _ (zac hr);have hO:=yvt (dW x.yRX k).yR0 (dR x.yRV k) (dR x.yRV (k+1)) g sw.1;have hCh:=jQ (dW x.yRX k).yR0 sw.1;have hLv:=qL (dR x.yRV (lI k g));have hFi:=yvH (dW x.yRX k).yR0 (dR x.yRV (lI k g)) sw.1 hsr;have hDr:=yty (dW x.yRX k).yR0 (dR x.yRV (lI k g)) sw.1 hsr;have hWT:yls x k g=if(opening x k g).2 then rD x k (rH (dW x.yRX k) (opening x k g).1)else qJ (rD x k (rH (dW x.yRX k) (jT (dW x.yRX k).yR0 (dR x.yRV (lI k g))).1)) (lI k g) (jT (dW x.yRX k).yR0 (dR x.yRV (lI k g))).2:=rfl
 have hO2:tK (dW x.yRX k).yR0 (dR x.yRV k) (dR x.yRV (k+1)) g=opening x k g:=rfl;have hLe:jT (dW x.yRX k).yR0 (dR x.yRV (lI k g))=if bG (dW x.yRX k).yR0<kD (dR x.yRV (lI k g))then mM (dW x.yRX k).yR0 (dR x.yRV (lI k g))else rJ (dW x.yRX k).yR0 (dR x.yRV (lI k g)):=rfl
 rw[hO2]at hO;have hWW:=λl=>ycd x k (rH (dW x.yRX k) l) hs.2.2.1.1 kw;have hWR:=λl r=>yuW (rD x k (rH (dW x.yRX k) l)) (lI k g) r hs.1.1 hsl;generalize yls x k g=Z at *;generalize opening x k g=O at *;generalize jT (dW x.yRX k).yR0 (dR x.yRV (lI k g))=L at *;generalize mM (dW x.yRX k).yR0 (dR x.yRV (lI k g))=Fi at *;generalize rJ (dW x.yRX k).yR0 (dR x.yRV (lI k g))=Dr at *;generalize lI k g=sd at *;generalize bG (dW x.yRX k).yR0=cl at *;generalize kD (dR x.yRV sd)=lv at *;generalize dR x.yRV sd=rs at *;generalize dR x.yRV k=ra at *;generalize dR x.yRV (k+1)=rb at *;generalize dW x.yRX k=w at *;have gw:=(zaa.1 hw).2;have ga:=(zaa.1 ha).2;have gb:=(zaa.1 hb).2;have gr:=(zaa.1 hr).2;have ka:k<x.yRV.length:=by omega
 refine dB ypJ ?_;simp -dsimp -implicitDefEqProofs [ygM,hw,gw,kw,fC kw];refine yYt hA (eP ?_);refine yYs hN ?_;obtain⟨n1,n2⟩:=N
 have hcase:(w.yR0.yRY=[]/\n2=false)\/(∃u,(w.yR0.yRY=[]/\n2=true/\n1= !u)/\g=if u then 1 else 2)\/(∃u t,(w.yR0.yRY[0]?=some t/\t.Up=u)/\g=if u then 1 else 2):=by
  by_cases hI:w.yR0.yRY=[]
  .cases h2:n2 with
   |false=>exact .inl ⟨hI,rfl⟩
   |true=>exact .inr (.inl ⟨!n1,⟨hI,rfl,by simp⟩,by rw[<-hg];simp[yan,yoI,hI]⟩)
  .obtain⟨t,ht⟩:∃t,w.yR0.yRY[0]?=some t:=⟨_,zab (zbc.2 hI)⟩;exact .inr (.inr ⟨t.Up,t,⟨ht,rfl⟩,by rw[<-hg];simp[yan,yoI,hI,zah,ht]⟩)
 rcases hcase with⟨hI,h2⟩|⟨u,⟨hI,h2,h1⟩,hgu⟩|⟨u,t,⟨ht,hu⟩,hgu⟩
 .have hre:rests w (n1,n2)=true:=by simp[rests,hI,h2]
  subst h2;exact yafJ hI hre
 .have hre:∀b,rests w (b,true)=false:=λb=>by simp[rests,hI]
  have i1:(0<w.yR0.yRY.length)=False:=eq_false (by rw[hI];simp);have i2:(w.yR0.yRY=[])=True:=eq_true hI;subst h2 h1;cases u
  all_goals
   simp only[if_true,zbi,if_false]at hgu;subst hgu;simp -dsimp -implicitDefEqProofs [i1,i2,hre,ha,ga,ka,hb,gb,kr]
   refineλ_=>⟨by unfold inI;omega,by omega,by omega,?_⟩
   refine yYo hO ?_;cases hO2:O.2 with
   |true=>
    rw[hO2,if_pos rfl]at hWT;subst hWT;have hW1:=hWW O.1;generalize rD x k (rH w O.1)=R at *;refine eP ?_;refine yYp hW1 ?_;exact yafA hre
   | false=>
    rw[hO2,if_neg zaG]at hWT;subst hWT;have hW1:=hWW L.1;have hW2:=hWR L.1 L.2;generalize qJ (rD x k (rH w L.1)) sd L.2=R2 at *;generalize rD x k (rH w L.1)=R at *;refine eP ?_;refine yYq hSR (yaeT hr gr hsl ?_);refine yYs hCh (eP ?_);refine yYs hLv ?_
    by_cases hlt:cl<lv
    .rw[if_pos hlt]at hLe;subst hLe;refine eU hlt ?_;refine yYp hFi (eP ?_);refine yYo hW1 (eP ?_);refine yYo hW2 ?_;exact yafA hre
    .rw[if_neg hlt]at hLe;subst hLe;refine eU hlt ?_;refine yYp hDr (eP ?_);refine yYo hW1 (eP ?_);refine yYo hW2 ?_;exact yafA hre
 .have hre:rests w (n1,n2)=false:=by
   have:w.yR0.yRY≠[]:=λh=>by rw[h]at ht;cases ht
   simp[rests,this]
  have gt:=(zaa.1 ht).2;have i1:(0<w.yR0.yRY.length)=True:=eq_true (zaa.1 ht).1;have i2:(w.yR0.yRY=[])=False:=eq_false λh=>by rw[h]at ht;cases ht
  cases u
  all_goals
   simp only[if_true,zbi,if_false]at hgu;subst hgu;simp -dsimp -implicitDefEqProofs [i1,i2,ht,gt,hu,hre,ha,ga,ka,hb,gb,kr]
   refineλ_=>⟨by unfold inI;omega,by omega,by omega,?_⟩
   refine yYo hO ?_;cases hO2:O.2 with
   |true=>
    rw[hO2,if_pos rfl]at hWT;subst hWT;have hW1:=hWW O.1;generalize rD x k (rH w O.1)=R at *;refine eP ?_;refine yYp hW1 ?_;exact yafA hre
   | false=>
    rw[hO2,if_neg zaG]at hWT;subst hWT;have hW1:=hWW L.1;have hW2:=hWR L.1 L.2;generalize qJ (rD x k (rH w L.1)) sd L.2=R2 at *;generalize rD x k (rH w L.1)=R at *;refine eP ?_;refine yYq hSR (yaeT hr gr hsl ?_);refine yYs hCh (eP ?_);refine yYs hLv ?_
    by_cases hlt:cl<lv
    .rw[if_pos hlt]at hLe;subst hLe;refine eU hlt ?_;refine yYp hFi (eP ?_);refine yYo hW1 (eP ?_);refine yYo hW2 ?_;exact yafA hre
    .rw[if_neg hlt]at hLe;subst hLe;refine eU hlt ?_;refine yYp hDr (eP ?_);refine yYo hW1 (eP ?_);refine yYo hW2 ?_;exact yafA hre
def yKj(m:Int)(h0:0<=m)(h1:m<=2097152):nI prg 256 [.nil 5,.c (.i m)] (.c (.ow 5 [])):=by
 refine fF tZ (eP ?_);exact⟨h0,λ_=>⟨by unfold inI;omega,by unfold inI;omega,λh=>⟨h0,by omega,by omega⟩⟩⟩
def ypG(es:List ySb)(hl:es.length<=2097152):nI prg 154 [.c (.sl 5 (es.map ySb.enc))] (.c (.ow 5 (es.map ySb.enc))):=by
 refine fF fP ?_;simp -dsimp -implicitDefEqProofs [oJ,jA];omega
def lens(a b:Nat)(k:Nat):Int:=if k=0 then 0 else if k=1 then a else a+b
def yxk(a b:List ySb)(k:Nat):List ySb:=if k=0 then[]else if k=1 then a else a++b
def yBP(a b:List ySb)(ha:a.length<=1048576)(hb:b.length<=1048576):
 nI prg 168 [.c (.sl 1 [[.sl 5 (a.map ySb.enc)],[.sl 5 (b.map ySb.enc)]])] (.c (.ow 5 ((a++b).map ySb.enc))):=by
 refine fF dZ (eP ?_)
 refineλ_=>qA (ι:=Nat) (λk=>k<=2) (λk=>xC [(0,.c (.sl 1 [[.sl 5 (a.map ySb.enc)],[.sl 5 (b.map ySb.enc)]])),(3,.c (.i (lens a.length b.length k))),(9,.c (.sl 1 [[.sl 5 (a.map ySb.enc)],[.sl 5 (b.map ySb.enc)]])),(10,.c (.i 2)),(11,.c (.i k))] []) (λk=>2-k) 0 (by simp) (by apply aB<;>simp[lens]) ?_
 intro k hk;obtain rfl|rfl|rfl:k=0\/k=1\/k=2:=by omega
 .simp -dsimp -implicitDefEqProofs [lens]
  refineλ_=>⟨by unfold inI;omega,by unfold inI;omega,1,by omega,by omega,?_⟩
  apply aB<;>simp
 .simp -dsimp -implicitDefEqProofs [lens]
  refineλ_=>⟨by unfold inI;omega,by omega,λ_=>⟨by unfold inI;omega,2,by omega,by omega,?_⟩⟩
  apply aB<;>simp
 .simp -dsimp -implicitDefEqProofs [lens];refine sD (yKj (a.length+b.length) (by omega) (by omega)) (by simp) (by simp[AV.closed,AV.jI,C.closed]) (by simp[fD]) (eP ?_)
  refineλ_=>qA (ι:=Nat) (λk=>k<=2) (λk=>xC [(6,.own 24 5 (yxk a b k).length),(25,.c (.sl 1 [[.sl 5 (a.map ySb.enc)],[.sl 5 (b.map ySb.enc)]])),(26,.c (.i 2)),(27,.c (.i k))] [(24,.row 5 ((yxk a b k).map ySb.enc))]) (λk=>2-k) 0 (by simp) (by apply aB<;>simp[yxk]) ?_
  intro k hk;obtain rfl|rfl|rfl:k=0\/k=1\/k=2:=by omega
  .simp -dsimp -implicitDefEqProofs [yxk];refine⟨by omega,by unfold inI;omega,1,by omega,by omega,?_⟩;apply aB<;>simp
  .simp -dsimp -implicitDefEqProofs [yxk];refine⟨by omega,by unfold inI;omega,2,by omega,by omega,?_⟩;apply aB<;>simp
  .simp -dsimp -implicitDefEqProofs [yxk];rw[List.take_of_length_le (by simp)]
def gJ(book more:List ySb):List ySb×Bool:=if kU book&&kU (book++more)then(book++more,true)else(book,false)
def yo9(a b:List ySb)(ha:a.length<=1048576)(hb:b.length<=1048576):
 nI prg 67 [.c (.sl 5 (a.map ySb.enc)),.c (.sl 5 (b.map ySb.enc))] (.tup [.c (.ow 5 ((gJ a b).1.map ySb.enc)),.c (.b (gJ a b).2)]):=by
 have hcat:=yBP a b ha hb;have hp:gJ a b=if kU a&&kU (a++b)then(a++b,true)else(a,false):=rfl
 have hn:2000<b.length->kU (a++b)=false:=λh=>by simp[kU];omega
 generalize a++b=c at hcat hp hn;refine fF ynj (eP ?_);refine aA (ykw a) ?_;cases h:kU a with
 |false=>
  refine eP ?_;refine sD (ypG a (by omega)) (by simp) (by simp[AV.closed,AV.jI,C.closed]) (by simp[fD]) (eP ?_);simp[hp,h,jA]
 | true=>
  refine eP ?_
  refineλ_=>⟨λh2=>?_,λh2=>?_⟩
  .skip
   refine sD (hcat) (by simp) (by simp[AV.closed,AV.jI,C.closed]) (by simp[fD]) (eP ?_);refine mD (ykw c) (by simp[jA]) rfl ?_;cases h3:kU c with
   |false=>
    refine eP ?_;refine sD (ypG a (by omega)) (by simp) (by simp[AV.closed,AV.jI,C.closed]) (by simp[fD]) (eP ?_);simp[hp,h,h3,jA]
   |true=>
    refine eP ?_;refine sD (hcat) (by simp) (by simp[AV.closed,AV.jI,C.closed]) (by simp[fD]) (eP ?_);simp[hp,h,h3,jA]
  .skip
   have h3:=hn (by omega);refine sD (ypG a (by omega)) (by simp) (by simp[AV.closed,AV.jI,C.closed]) (by simp[fD]) (eP ?_);simp[hp,h,h3,jA]
def yp5(a b:List ySb)(ha:a.length<=1048576)(hb:b.length<=1048576):
 qB prg 164 [.c (.sl 5 (a.map ySb.enc)),.c (.sl 5 (b.map ySb.enc))] (.tup [.c (.sl 5 ((gJ a b).1.map ySb.enc)),.c (.b (gJ a b).2)]):=by
 have hp:gJ a b=if kU a&&kU (a++b)then(a++b,true)else(a,false):=rfl
 have e1:a.map ySb.enc++b.map ySb.enc=(a++b).map ySb.enc:=List.map_append.symm;have e2:a.length+b.length=(a++b).length:=List.length_append.symm;generalize a++b=c at hp e1 e2;refine dB ynd (eP ?_);refine⟨by omega,by omega,?_⟩;rw[e1,e2];refine aA (yjB a) ?_;cases h:kU a with
 |false=>
  refine eP ?_;simp[hp,h,jA];omega
 | true=>
  refine eP ?_;refine mD (yjB c) (by simp[jA]) rfl ?_;cases h3:kU c with
  |false=>
   refine eP ?_;simp[hp,h,h3,jA];omega
  |true=>
   refine eP ?_;simp[hp,h,h3,jA]
def yol(a b:List ySb)(ha:a.length<=1048576)(hb:b.length<=1048576):
 qB prg 67 [.c (.sl 5 (a.map ySb.enc)),.c (.sl 5 (b.map ySb.enc))] (.tup [.c (.sl 5 ((gJ a b).1.map ySb.enc)),.c (.b (gJ a b).2)]):=(yo9 a b ha hb).pure (by simp[AV.shr,AV.yEj,AV.yoE,C.shr])
def yrC(a b:List ySb):(gJ a b).1.length<=a.length+b.length:=by
 unfold gJ;split<;>simp
def vAt(l:List Int)(k:Nat):Int:=l[k]?.getD 0
def yfM{l:List Int}{k:Nat}{x:Int}(h:l[k]?=some x):vAt l k=x:=by simp[vAt,h]
def kL(l:List Int):Nat->Nat
 |0=>0
 |k+1=>if vAt l (kL l k)<vAt l k then k else kL l k
def yAD{l:List Int}:kL l 0=0:=rfl
def yaV{l:List Int}{k:Nat}:kL l (k+1)=if vAt l (kL l k)<vAt l k then k else kL l k:=rfl
def ygL{l:List Int}(h:0<l.length):∀{k:Nat},k<=l.length->kL l k<l.length
 |0,_=>h
 |k+1,hk=>by
  rw[yaV];split
  .omega
  .exact ygL h (by omega)
def ypA{l:List Int}:∀{k j:Nat},j<k->vAt l j<=vAt l (kL l k)
 | k+1,j,hj=>by
  rw[yaV];rcases zan j k with h|h
  .have:=ypA (l:=l) h;split<;>omega
  .have:j=k:=by omega
   subst this;split<;>omega
def yo6{l:List Int}:∀{k j:Nat},j<kL l k->vAt l j<vAt l (kL l k)
 |0,j,h=>by simp[kL]at h
 | k+1,j,h=>by
  rw[yaV]at h|-;split at h
  .rename_i h2;rw[if_pos h2];have:=ypA (l:=l) (show j<k from h);omega
  .rename_i h2;rw[if_neg h2];exact yo6 h
def yEh{l:List Int}{n a:Nat}(h:a<n)(h1:∀x,x<n->vAt l x<=vAt l a)(h2:∀x,x<a->vAt l x<vAt l a)(hn:n<=l.length):kL l n=a:=by
 have g1:=ypA (l:=l) h;have g2:kL l n<l.length:=ygL (by omega) hn
 have g3:kL l n<n:=by
  have:∀k:Nat,0<k->kL l k<k:=by
   intro k
   induction k with
   |zero=>intro h;omega
   | succ k ih=>
    intro _;rw[yaV];split
    .omega
    .rcases zao k with e|e
     .subst e;simp[kL]
     .have:=ih e;omega
  exact this n (by omega)
 have g4:=h1 _ g3;rcases zcl a (kL l n)with e|e|e
 .have:=yo6 e;omega
 .exact e.symm
 .have:=h2 _ e;omega
def better(R:List Int)(x y:Nat):Prop:=vAt R y<vAt R x\/(vAt R x=vAt R y/\x<y)
def yfN(R:List Int)(i:Nat)(x:Nat):Bool:=decide (vAt R i<=vAt R x)
def yEp(R:List Int)(i:Nat)(P:List Nat):List Nat:=P.takeWhile (yfN R i)++i::P.dropWhile (yfN R i)
def yA(R:List Int):Nat->List Nat
 |0=>[]
 |i+1=>yEp R i (yA R i)
def yzu{p:Nat->Bool}:∀{l1 l2:List Nat},(∀x∈l1,p x=true)->(∀x∈l2,p x=false)->(l1++l2).takeWhile p=l1/\(l1++l2).dropWhile p=l2
 |[],[],_,_=>⟨rfl,rfl⟩
 |[],x::l,_,h=>by
  have:=h x (by simp);simp[zbm,zcg,this]
 |x::l,l2,h1,h2=>by
  have hx:=h1 x (by simp);obtain⟨e1,e2⟩:=yzu (p:=p) (l1:=l) (l2:=l2) (λy hy=>h1 y (by simp[hy])) h2;simp[zbm,zcg,hx,e1,e2]
def yjw{p:Nat->Bool}:∀{l r:List Nat} {y:Nat},l.dropWhile p=y::r->p y=false
 |[],r,y,h=>by simp at h
 | x::l,r,y,h=>by
  rw[zcg]at h;split at h
  .exact yjw h
  .rename_i hx;cases h;simpa using hx
def yDw{R:List Int}{i:Nat}{P l1 l2:List Nat}(hP:P.Pairwise (better R))(e:l1++l2=P)(h2:∀x∈l2,vAt R x<vAt R i)(h1:∀l y,l1=l++[y]->vAt R i<=vAt R y):yEp R i P=l1++i::l2:=by
 subst e
 have hall:∀x∈l1,yfN R i x=true:=by
  rcases zbS l1 with e|⟨l,y,e⟩
  .subst e;simp
  .have hy:=h1 l y (by simpa using e);subst e;intro x hx;simp only[yfN,decide_eq_true_eq];rw[zbT]at hx hP;rcases zaq.1 hx with hx|hx
   .have:=(zaL.1 (zaL.1 hP).1).2.2 x hx y (by simp);unfold better at this;omega
   .rw[zas]at hx;subst hx;exact hy
 obtain⟨e1,e2⟩:=yzu (p:=yfN R i) hall (λx hx=>by have:=h2 x hx;simp only[yfN,decide_eq_false_iff_not];omega);unfold yEp;rw[e1,e2]
structure ySI(R:List Int)(i:Nat)(o:List Nat):Prop where
 len:o.length=i
 lt:∀x∈o,x<i
 pw:o.Pairwise (better R)
 all:∀x,x<i->x∈o
def ycJ(R:List Int):∀i:Nat,ySI R i (yA R i)
 |0=>⟨rfl,by simp[yA],by simp[yA],λx h=>by omega⟩
 | i +1=>by
  have f:=ycJ R i
  show ySI R (i+1) (yEp R i (yA R i))
  generalize yA R i=P at f;have e:=zbZ (p:=yfN R i) (l:=P)
  have h1:∀x∈P.takeWhile (yfN R i),vAt R i<=vAt R x:=λx hx=>by
   have:yfN R i x=true:=by
    have:=zdG (p:=yfN R i) (l:=P);exact zaf.1 this x hx
   simpa[yfN]using this
  have h2:∀x∈P.dropWhile (yfN R i),vAt R x<vAt R i:=by
   intro x hx;have hpw:(P.dropWhile (yfN R i)).Pairwise (better R):=by have:=f.pw;rw[<-e]at this;exact(zaL.1 this).2.1
   have hh:∀y l,P.dropWhile (yfN R i)=y::l->vAt R y<vAt R i:=by
    intro y l hy;have:=yjw hy;simpa[yfN]using this
   cases hd:P.dropWhile (yfN R i)with
   |nil=>rw[hd]at hx;cases hx
   | cons y l=>
    have hy:=hh y l hd;rw[hd]at hx hpw;rcases zaC.1 hx with e|e
    .subst e;exact hy
    .have:=(zbf.1 hpw).1 x e;unfold better at this;omega
  have hlen:(P.takeWhile (yfN R i)).length+(P.dropWhile (yfN R i)).length=i:=by rw[<-zak,e,f.len]
  have hmem:∀x,x∈P↔x∈P.takeWhile (yfN R i)\/x∈P.dropWhile (yfN R i):=λx=>by rw[<-zaq,e]
  refine⟨by simp only[yEp,zak,zaJ];omega,λx hx=>?_,?_,λx hx=>?_⟩
  .rcases zaq.1 hx with hx|hx
   .have:=f.lt x ((hmem x).2 (.inl hx));omega
   .rcases zaC.1 hx with hx|hx
    .omega
    .have:=f.lt x ((hmem x).2 (.inr hx));omega
  .have hpw:=f.pw;rw[<-e]at hpw;obtain⟨p1,p2,p3⟩:=zaL.1 hpw;refine zaL.2 ⟨p1,zbf.2 ⟨λy hy=>.inl (h2 y hy),p2⟩,λx hx y hy=>?_⟩;rcases zaC.1 hy with hy|hy
   .subst hy;have a1:=h1 x hx;have a2:=f.lt x ((hmem x).2 (.inl hx));unfold better;omega
   .exact p3 x hx y hy
  .rcases zan x i with h|h
   .rcases(hmem x).1 (f.all x h)with h|h
    .exact zbs _ h
    .exact zaN _ (zdw _ h)
   .have:x=i:=by omega
    subst this;exact zaN _ (zdd ..)
def yek(out:List Int)(o:List Nat)(j:Nat):List Int:=(o.take j).foldl (λs x=>s.set x (vAt s x+1)) out
def yaf(R:List Int)(o:List Nat)(j:Nat):List Int:=(o.take j).foldl (λs x=>s.set x (-1)) R
def ywY{out:List Int}{o:List Nat}:yek out o 0=out:=rfl
def yqB{out:List Int}{o:List Nat}:yaf out o 0=out:=rfl
def yk3{out:List Int}{o:List Nat}{j x:Nat}(h:o[j]?=some x):yek out o (j+1)=(yek out o j).set x (vAt (yek out o j) x+1):=by
 unfold yek;rw[zar,h,zcm];rfl
def ykG{out:List Int}{o:List Nat}{j x:Nat}(h:o[j]?=some x):yaf out o (j+1)=(yaf out o j).set x (-1):=by
 unfold yaf;rw[zar,h,zcm];rfl
def yoC{out:List Int}{o:List Nat}:∀j:Nat,(yek out o j).length=out.length
 |0=>rfl
 | j+1=>by
  cases h:o[j]? with
  |none=>
   have hl:o.length<=j:=by simpa using h
   have e:yek out o (j+1)=yek out o j:=by unfold yek;rw[List.take_of_length_le (by omega),List.take_of_length_le hl]
   rw[e,yoC j]
  |some x=>rw[yk3 h,zbA,yoC j]
def yd0{out:List Int}{o:List Nat}:∀j:Nat,(yaf out o j).length=out.length
 |0=>rfl
 | j+1=>by
  cases h:o[j]? with
  |none=>
   have hl:o.length<=j:=by simpa using h
   have e:yaf out o (j+1)=yaf out o j:=by unfold yaf;rw[List.take_of_length_le (by omega),List.take_of_length_le hl]
   rw[e,yd0 j]
  |some x=>rw[ykG h,zbA,yd0 j]
def yH0{l:List Int}{i j:Nat}{v:Int}(h:i<l.length):vAt (l.set i v) j=if i=j then v else vAt l j:=by
 unfold vAt;rw[zaK]
 by_cases e:i=j
 .simp[e,e▸h]
 .simp[e]
def yp3{R:List Int}{o:List Nat}(ho:∀x∈o,x<R.length):∀(j y:Nat),vAt (yaf R o j) y=if y∈o.take j then -1 else vAt R y
 |0,y=>by simp[yqB]
 | j+1,y=>by
  cases h:o[j]? with
  |none=>
   have hl:o.length<=j:=by simpa using h
   have e:yaf R o (j+1)=yaf R o j:=by unfold yaf;rw[List.take_of_length_le (by omega),List.take_of_length_le hl]
   rw[e,yp3 ho j y,List.take_of_length_le hl,List.take_of_length_le (by omega)]
  | some x=>
   rw[ykG h,yH0 (by rw[yd0];exact ho x (zac h)),yp3 ho j y,zar,h]
   by_cases e:x=y
   .simp[e]
   .have:y≠x:=λh=>e h.symm;simp[e,this]
def yH9{R:List Int}(hR:∀x,0<=vAt R x){j a:Nat}(h:(yA R R.length)[j]?=some a):kL (yaf R (yA R R.length) j) (yaf R (yA R R.length) j).length=a:=by
 have f:=ycJ R R.length;generalize yA R R.length=o at *;have hj:=(zaa.1 h).1;have ha:=f.lt a (zac h);have irr:∀x,¬better R x x:=λx h=>by unfold better at h;omega
 have hsplit:o=o.take j++a::o.drop (j+1):=by
  rw[<-(zaa.1 h).2,List.getElem_cons_drop,zax]
 have hpw:=f.pw;rw[hsplit]at hpw;obtain⟨p1,p2,p3⟩:=zaL.1 hpw;have hnot:a∉o.take j:=λhm=>irr a (p3 a hm a (by simp));have hat:=yp3 (R:=R) f.lt j;have hva:vAt (yaf R o j) a=vAt R a:=by rw[hat,if_neg hnot]
 have key:∀x,x<R.length->x∉o.take j->x=a\/better R a x:=by
  intro x hx hn;have:=f.all x hx;rw[hsplit]at this;rcases zaq.1 this with h1|h1
  .exact absurd h1 hn
  .rcases zaC.1 h1 with h1|h1
   .exact .inl h1
   .exact .inr ((zbf.1 p2).1 x h1)
 rw[yd0];refine yEh ha (λx hx=>?_) (λx hx=>?_) (by rw[yd0];exact Nat.le_refl _)
 .rw[hva,hat];split
  .have:=hR a;omega
  .rename_i hn;rcases key x hx hn with e|e
   .subst e;exact zbD _
   .unfold better at e;omega
 .rw[hva,hat];split
  .have:=hR a;omega
  .rename_i hn;rcases key x (by omega) hn with e|e
   .omega
   .unfold better at e;omega
def yku:Nat->List Int->List Int->List Int
 |0,out,_=>out
 |n+1,out,rest=>yku n (out.set (kL rest rest.length) (vAt out (kL rest rest.length)+1)) (rest.set (kL rest rest.length) (-1))
def yxA{R Q:List Int}(hR:∀x,0<=vAt R x):∀(m j:Nat),j+m<=R.length->yku m (yek Q (yA R R.length) j) (yaf R (yA R R.length) j)=yek Q (yA R R.length) (j+m)
 |0,j,_=>rfl
 |m+1,j,h=>by
  have hj:j<(yA R R.length).length:=by rw[(ycJ R R.length).len];omega
  obtain⟨a,ha⟩:∃a,(yA R R.length)[j]?=some a:=⟨_,zab hj⟩;have hp:=yH9 hR ha;unfold yku;rw[hp,<-yk3 ha,<-ykG ha,yxA hR m (j+1) (by omega)]
  congr 1;omega
def quota(t s w:Int):Int:=(t*w).tdiv s
def yct(t s w:Int):Int:=(t*w).tmod s
def lS(t:Int)(ws:List Int):Bool:=inRange t 0 1000000000&&decide (1<=ws.length)&&decide (ws.length<=12)&&ws.all (λw=>inRange w 0 1000000)&&decide (ws.sum≠0)
def lV(t:Int)(ws:List Int):Int:=t-(ws.map (quota t ws.sum)).sum
def xK(t:Int)(ws:List Int):List Int:=if lS t ws then yku (lV t ws).toNat (ws.map (quota t ws.sum)) (ws.map (yct t ws.sum))else[]
structure ySE(t:Int)(ws:List Int):Prop where
 tot:0<=t/\t<=1000000000
 len:1<=ws.length/\ws.length<=12
 rng:∀w∈ws,0<=w/\w<=1000000
 sum:1<=ws.sum/\ws.sum<=12000000
def sum_bnd{l:List Int}{m:Int}(h:∀x∈l,0<=x/\x<=m):0<=l.sum/\l.sum<=m*l.length:=by
 induction l with
 |nil=>simp
 |cons a l ih=>
  have h1:=ih λx hx=>h x (by simp[hx]);have h2:=h a (by simp);simp only[zcf,zaJ,zcF,Int.natCast_one,zdB,Int.mul_one];omega
def yhO{t:Int}{ws:List Int}(h:lS t ws=true):ySE t ws:=by
 simp only[lS,zad,decide_eq_true_eq,zaf]at h;obtain⟨⟨⟨⟨h1,h2⟩,h3⟩,h4⟩,h5⟩:=h;have hr:∀w∈ws,0<=w/\w<=1000000:=λw hw=>aC.1 (h4 w hw);have hs:=sum_bnd hr;exact⟨aC.1 h1,⟨h2,h3⟩,hr,by omega⟩
def yR{t s w:Int}(ht:0<=t/\t<=1000000000)(hs:1<=s)(hw:0<=w/\w<=1000000):0<=quota t s w/\quota t s w<=1000000000000000/\0<=yct t s w/\yct t s w<s/\s*quota t s w+yct t s w=t*w/\0<=t*w/\t*w<=1000000000000000:=by
 have h0:0<=t*w:=zct ht.1 hw.1;have h1:t*w<=1000000000*1000000:=zcu ht.2 hw.2 hw.1 (by omega);unfold quota yct;rw[zaA h0,Int.tmod_eq_emod_of_nonneg h0];have a1:=Int.emod_nonneg (t*w) (show s≠0 by omega);have a2:=Int.emod_lt_of_pos (t*w) (show 0<s by omega);have a3:=Int.mul_ediv_add_emod (t*w) s;have a4:0<=t*w/s:=zck h0 (by omega);have a5:t*w/s<=t*w:=zch _ h0;exact⟨a4,by omega,a1,a2,a3,h0,by omega⟩
def ytz{t s:Int}(ht:0<=t/\t<=1000000000)(hs:1<=s):∀{ws:List Int},(∀w∈ws,0<=w/\w<=1000000)->s*(ws.map (quota t s)).sum+(ws.map (yct t s)).sum=t*ws.sum
 |[],_=>by simp
 |w::ws,h=>by
  have ih:=ytz ht hs (ws:=ws) λx hx=>h x (by simp[hx]);have q:=(yR (t:=t) (s:=s) ht hs (h w (by simp))).2.2.2.2.1;simp only[zbd,zcf,zdB];omega
def ysB{t:Int}{ws:List Int}(h:ySE t ws):0<=lV t ws/\lV t ws<ws.length:=by
 have hs:=ytz h.tot h.sum.1 h.rng
 have hr:=sum_bnd (l:=ws.map (yct t ws.sum)) (m:=ws.sum-1) (λx hx=>by
  obtain⟨w,hw,rfl⟩:=zaO.1 hx;have:=yR h.tot h.sum.1 (h.rng w hw);omega)
 rw[zai]at hr
 have e:ws.sum*lV t ws=(ws.map (yct t ws.sum)).sum:=by
  unfold lV;rw[Int.mul_sub,Int.mul_comm ws.sum t];omega
 have hp:=h.sum.1;have hl:=h.len.1;constructor
 .rcases zcc (lV t ws) 0 with h1|h1
  .have:=Int.mul_neg_of_pos_of_neg (show 0<ws.sum by omega) h1;omega
  .exact h1
 .rcases zcc (lV t ws) ws.length with h1|h1
  .exact h1
  .have h2:=Int.mul_le_mul_of_nonneg_left h1 (show 0<=ws.sum by omega);have h3:(ws.sum-1)*(ws.length:Int)<ws.sum*(ws.length:Int):=Int.mul_lt_mul_of_pos_right (by omega) (by omega);omega
def yqN{t:Int}{ws:List Int}(h:lS t ws=true):xK t ws=yek (ws.map (quota t ws.sum)) (yA (ws.map (yct t ws.sum)) ws.length) (lV t ws).toNat:=by
 have f:=yhO h;have hl:=ysB f
 have hR:∀x,0<=vAt (ws.map (yct t ws.sum)) x:=by
  intro x;unfold vAt;cases hx:(ws.map (yct t ws.sum))[x]? with
  |none=>simp
  |some r=>
   rw[zaw,zaj]at hx;obtain⟨w,hw,rfl⟩:=hx;exact(yR f.tot f.sum.1 (f.rng w (zac hw))).2.2.1
 have key:=yxA (Q:=ws.map (quota t ws.sum)) hR (lV t ws).toNat 0 (by rw[zai];omega);rw[ywY,yqB,zai,zbt]at key;rw[xK,if_pos h,key]
def dL(x:Nat):List C:=[.i x]
def yCM(t s:Int)(ws:List Int)(ht:0<=t/\t<=1000000000)(hs:1<=s)(hs2:s<=12000000)(hw:∀w∈ws,0<=w/\w<=1000000)(x y:Nat)(hx:x<ws.length)(hy:y<ws.length):
 qB prg 258 [.c (.i x),.c (.i y),.elt [.i t],.elt [.sl 1 (ws.map qC)],.elt [.i s]] (.c (.i (vAt (ws.map (yct t s)) y-vAt (ws.map (yct t s)) x))):=by
 obtain⟨wx,hwx⟩:∃e,ws[x]?=some e:=⟨_,zab hx⟩;obtain⟨wy,hwy⟩:∃e,ws[y]?=some e:=⟨_,zab hy⟩;have g1:=(zaa.1 hwx).2;have g2:=(zaa.1 hwy).2;have q1:=yR ht hs (hw wx (zac hwx));have q2:=yR ht hs (hw wy (zac hwy));have e1:vAt (ws.map (yct t s)) x=yct t s wx:=yfM (by simp[hwx]);have e2:vAt (ws.map (yct t s)) y=yct t s wy:=yfM (by simp[hwy]);rw[e1,e2];unfold yct at *;refine dB yoc ?_;simp -dsimp -implicitDefEqProofs [yeH,hwx,hwy,g1,g2,hx,hy];refine⟨by unfold inI;omega,by omega,by unfold inI;omega,by unfold inI;omega,by omega,by unfold inI;omega,by unfold inI;omega⟩
def ynI(R:List Int)(i n:Nat):List Nat:=yA R i++List.range' i (n-i)
def ye3(l1 l2:List Nat)(i n:Nat):List Nat:=(l1++i::l2)++List.range' (i+1) (n-(i+1))
def yEo{R:List Int}{n:Nat}(h:1<=n):ynI R 1 n=List.range n:=by
 have:yA R 1=[0]:=rfl;unfold ynI;rw[this,zdv,show n=(n-1)+1 by omega,zdo];simp
def yEP{R:List Int}{n:Nat}:ynI R n n=yA R n:=by simp[ynI]
def yGu{R:List Int}{i n:Nat}(h:i<n):ynI R i n=ye3 (yA R i) [] i n:=by
 unfold ynI ye3;rw[show n-i=(n-(i+1))+1 by omega,zdo];simp
def yxl{R:List Int}{i n:Nat}{l1 l2:List Nat}(h:yA R (i+1)=l1++i::l2):ye3 l1 l2 i n=ynI R (i+1) n:=by unfold ynI ye3;rw[h]
def yD3{i n:Nat}{l1 l2:List Nat}(h:l1.length+l2.length=i)(h2:i<n):(ye3 l1 l2 i n).length=n:=by simp[ye3];omega
def yD9{i n y:Nat}{l l2:List Nat}:(ye3 (l++[y]) l2 i n)[l.length+1]?=some i/\(ye3 (l++[y]) l2 i n)[l.length]?=some y/\
 ((ye3 (l++[y]) l2 i n).set (l.length+1) y).set l.length i=ye3 l (y::l2) i n:=by
 unfold ye3;simp only[zbb,zcQ,zcj];refine⟨by simp[zbY],by simp[zbY],?_⟩;simp[zcz]
end
end Go.Proofs.YtdadkiofenhnbaaGreat
