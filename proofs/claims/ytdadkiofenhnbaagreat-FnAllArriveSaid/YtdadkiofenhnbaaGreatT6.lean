/- What functions answer, in plain Lean. -/
import Derived.Test.YtdadkiofenhnbaaGreatT2
import Derived.Test.YtdadkiofenhnbaaGreatT3
import Derived.Test.YtdadkiofenhnbaaGreatT4
import Derived.Test.YtdadkiofenhnbaaGreatT5
set_option linter.all false
set_option maxRecDepth 100000
set_option maxHeartbeats 4000000
namespace Go.Proofs.YtdadkiofenhnbaaGreat
open Go.RowKit
noncomputable section
def inRange(n a b:Int):Bool:=decide (a<=n)&&decide (n<=b)
def iC(n a b:Int):qB prg 60 [.c (.i n),.c (.i a),.c (.i b)] (.c (.b (inRange n a b))):=by
 refine dB yul ?_;simp -dsimp[ykl,inRange];exact⟨λh=>by simp[h],λh=>by simp[zet.2 h]⟩
def bC(n a b:Int):qB prg 47 [.c (.i n),.c (.i a),.c (.i b)] (.c (.b (inRange n a b))):=by
 refine dB yze ?_;simp -dsimp[yoy,inRange];exact⟨λh=>by simp[h],λh=>by simp[zet.2 h]⟩
structure ySb where
 From:Int
 To:Int
 Amount:Int
 Time:Int
 Why:Int
 deriving Inhabited,DecidableEq
@[simp] def ySb.enc(e:ySb):List C:=[.i e.From,.i e.To,.i e.Amount,.i e.Time,.i e.Why]
def aV(e:ySb):Bool:=decide (e.From≠e.To)&&inRange e.From 0 11&&inRange e.To 0 11&&inRange e.Amount 1 1000000000&&inRange e.Time 0 1000000&&inRange e.Why 0 9999
def yxK(e:ySb):qB prg 161 [.agg (e.enc.map .c)] (.c (.b (aV e))):=by
 refine dB yua (goQ_ ?_);refine⟨λh=>?_,λh=>by simp[aV,h]⟩;refine aA (iC e.From 0 11) (goQ_ ?_);refine⟨λh1=>?_,λh1=>by simp[aV,h1]⟩;refine aA (iC e.To 0 11) (goQ_ ?_);refine⟨λh2=>?_,λh1=>by simp[aV,h1]⟩;refine aA (iC e.Amount 1 1000000000) (goQ_ ?_);refine⟨λh3=>?_,λh1=>by simp[aV,h1]⟩;refine aA (iC e.Time 0 1000000) (goQ_ ?_);refine⟨λh4=>?_,λh1=>by simp[aV,h1]⟩;refine aA (iC e.Why 0 9999) (goQ_ ?_);simp[aV,h,h1,h2,h3,h4]
def kU(es:List ySb):Bool:=decide (es.length<=2000)&&es.all aV
def lD{α:Type}{p:α->Bool}{l:List α}{k:Nat}{e:α}(he:l[k]?=some e)(h:∀x∈l.take k,p x=true)(hp:p e=true):∀x∈l.take (k+1),p x=true:=by
 intro x hx;rw[zcW (zaa.1 he).1]at hx;rcases zaj.1 hx with h1|h1
 .exact h x h1
 .rw[zak]at h1;have:=(zaa.1 he).2;rw[h1,this];exact hp
def dF{α:Type}{p:α->Bool}{l:List α}{k:Nat}(hk:l.length<=k)(h:∀x∈l.take k,p x=true):l.all p=true:=by
 rw[zae hk]at h;exact zaf.2 h
def all_false{α:Type}{p:α->Bool}{l:List α}{k:Nat}{e:α}(he:l[k]?=some e)(hp:p e=false):l.all p=false:=by
 rw[zdC];exact⟨e,zac he,by simp[hp]⟩
def fC{k n:Nat}(h:k<n):((k:Int)<(n:Int))=True:=by simp[h]
def aG{k n:Nat}(h:n<=k):((k:Int)<(n:Int))=False:=by simp[h]
def ykw(es:List ySb):qB prg 62 [.c (.sl 5 (es.map ySb.enc))] (.c (.b (kU es))):=by
 refine dB ywJ (goQ_ ?_);intro hlen;refine⟨λh=>by simp[kU];omega,λh _=>?_⟩;refine yX2 (λk=>k<=es.length/\∀e∈es.take k,aV e=true) (λk=>xC [(8,.c (.sl 5 (es.map ySb.enc))),(9,.c (.i es.length)),(10,.c (.i k))] []) (λk=>es.length-k) (by apply aB<;>simp[AV.ye9,AV.yox]) ?_
 rintro k ⟨hk,hall⟩
 rcases yX1 k es with⟨hlt,e,he⟩|hge
 .refine yaed he (fC hlt) ?_;refine aA (yxK e) (goQ_ ?_);refine⟨λh1=>by simp[kU,all_false he h1],λh1=>?_⟩;refine⟨by unfold maxLen at hlen;constructor<;>omega,k+1,⟨by omega,lD he hall h1⟩,by omega,?_⟩;apply aB<;>simp[AV.ye9,AV.yox]
 .refine yafw (aG hge) ?_;have:=dF hge hall;simp[kU,this];omega
structure Way where
 Long:Int
 Bed:Int
 deriving DecidableEq,Inhabited
@[simp] def Way.enc(e:Way):List C:=[.i e.Long,.i e.Bed]
def ykM(e:Way):Bool:=inRange e.Long 1 10000&&inRange e.Bed 0 100000
def yaJ(n:Int):qB prg 297 [.c (.i n)] (.c (.b (inRange n 0 100000))):=by
 refine dB yr6 (goQ_ ?_);refine aA (bC n 0 100000) ?_;exact goE_
def ysY(e:Way):qB prg 246 [.agg (e.enc.map .c)] (.c (.b (ykM e))):=by
 refine dB yyM (goQ_ ?_);refine aA (iC e.Long 1 10000) (goQ_ ?_);refine⟨λh=>?_,λh=>by simp[ykM,h]⟩;refine aA (iC e.Bed 0 100000) (goQ_ ?_);simp[ykM,h]
def ysH(e:Way):qB prg 242 [.agg (e.enc.map .c)] (.c (.b (ykM e))):=by
 refine dB yyp (goQ_ ?_);refine aA (bC e.Long 1 10000) (goQ_ ?_);refine⟨λh=>?_,λh=>by simp[ykM,h]⟩;refine aA (yaJ e.Bed) (goQ_ ?_);simp[ykM,h]
def yxQ(e:ySb):qB prg 245 [.agg (e.enc.map .c)] (.c (.b (aV e))):=by
 refine dB ysv (goQ_ ?_);refine⟨λh=>?_,λh=>by simp[aV,h]⟩;refine aA (bC e.From 0 11) (goQ_ ?_);refine⟨λh1=>?_,λh1=>by simp[aV,h1]⟩;refine aA (bC e.To 0 11) (goQ_ ?_);refine⟨λh2=>?_,λh1=>by simp[aV,h1]⟩;refine aA (bC e.Amount 1 1000000000) (goQ_ ?_);refine⟨λh3=>?_,λh1=>by simp[aV,h1]⟩;refine aA (bC e.Time 0 1000000) (goQ_ ?_);refine⟨λh4=>?_,λh1=>by simp[aV,h1]⟩;refine aA (bC e.Why 0 9999) (goQ_ ?_);simp[aV,h,h1,h2,h3,h4]
def partly{α:Type}(f:α->List C)(z:List C)(es:List α)(k:Nat):List (List C):=(es.take k).map f++List.replicate (es.length-k) z
def dG{α:Type}{f:α->List C}{z:List C}{es:List α}{k:Nat}(h:k<=es.length):(partly f z es k).length=es.length:=by
 simp[partly];omega
def mF{α:Type}{f:α->List C}{z:List C}{es:List α}:partly f z es 0=List.replicate es.length z:=by simp[partly]
def eG{α:Type}{f:α->List C}{z:List C}{es:List α}{k:Nat}(h:es.length<=k):partly f z es k=es.map f:=by
 simp[partly,zae h,Nat.sub_eq_zero_of_le h]
def fG{α:Type}{f:α->List C}{z:List C}{es:List α}{k:Nat}{e:α}(h:es[k]?=some e):(partly f z es k).set k (f e)=partly f z es (k+1):=by
 have hk:=(zaa.1 h).1;have he:=(zaa.1 h).2;unfold partly;rw[zci _ _ (by simp;omega)];have h1:((es.take k).map f).length=k:=by simp;omega
 rw[h1,zcc,show es.length-k=(es.length-(k+1))+1 by omega,zbT,zbC,zcW hk,he];simp
def tX{α:Type}{f:α->List C}{z:List C}{es:List α}{k n:Nat}(hz:z.length=n)(hf:∀e,(f e).length=n)(h:k<es.length):((partly f z es k)[k]?.getD []).length=n:=by
 unfold partly;rw[zaz (by simp;omega)];have h1:((es.take k).map f).length=k:=by simp;omega
 rw[h1,zcc,zbO,if_pos (by omega)];exact hz
def gB{k n:Nat}(hk:k<n)(h:n<=maxLen):inI ((k:Int)+1):=by unfold maxLen at h;unfold inI;omega
def yjB(es:List ySb):qB prg 143 [.c (.sl 5 (es.map ySb.enc))] (.c (.b (kU es))):=by
 refine dB yvP (goQ_ ?_);refine yX4 (λk=>k<=es.length/\∀e∈es.take k,aV e=true) (λk=>xC [(0,.c (.sl 5 (es.map ySb.enc))),(3,.c (.i k))] []) (λk=>es.length-k) ?_
 rintro k ⟨hk,hall⟩
 rcases yX1 k es with⟨hlt,e,he⟩|hge
 .refine yaed he (fC hlt) ?_;intro hlen;refine aA (yxQ e) (goQ_ ?_);refine⟨λh1=>by simp[kU,all_false he h1],λh1=>?_⟩;exact⟨gB hlt hlen,k+1,⟨by omega,lD he hall h1⟩,by omega,by apply aB<;>simp⟩
 .refine yafw (aG hge) ?_;have:=dF hge hall;simp only[kU,this,zcv];intro _;exact decide_eq_decide.2 (by omega)
abbrev qC(n:Int):List C:=[.i n]
structure yRZ where
 Base:Int
 ySe:Int
 yR5:List Int
 yR7:List Int
 deriving DecidableEq
@[simp] def yRZ.enc(t:yRZ):List C:=[.i t.Base,.i t.ySe,.sl 1 (t.yR5.map qC),.sl 1 (t.yR7.map qC)]
def yRZ.small(t:yRZ):Prop:=t.yR5.length<=1048576/\t.yR7.length<=1048576
def ytW{l:List Int}{k:Nat}{x:Int}(h:l[k]?=some x):(l.take (k+1)).sum=(l.take k).sum+x:=by
 rw[zao,h];simp
def sumTo(l:List Int)(k:Nat):Int:=(l.take k).sum
def aY{l:List Int}:sumTo l 0=0:=rfl
def nV{l:List Int}{k:Nat}{x:Int}(h:l[k]?=some x):sumTo l (k+1)=sumTo l k+x:=ytW h
def yb4{l:List Int}{k:Nat}(h:l.length<=k):sumTo l k=l.sum:=by unfold sumTo;rw[zae h]
def nH(t:yRZ):Bool:=inRange t.Base 0 10000&&inRange t.ySe 0 100&&decide (t.yR5.length=3)&&inRange t.yR7.length 1 11&&
 t.yR5.all (λn=>inRange n 0 10000)&&t.yR7.all (λn=>inRange n 0 1000)&&decide (0<t.yR7.sum)
def aC{n a b:Int}:inRange n a b=true↔a<=n/\n<=b:=by simp[inRange]
def gV{n a b:Int}:inRange n a b=false↔n<a\/b<n:=by
 simp only[inRange,zcG,decide_eq_false_iff_not];omega
def yk4:∀{l:List Int} {b:Int},(∀x∈l,inRange x 0 b=true)->0<=l.sum/\l.sum<=b*l.length
 |[],b,_=>by simp
 |x::l,b,h=>by
  have h1:=yk4 (l:=l) (b:=b) λy hy=>h y (by simp[hy]);have h2:=aC.1 (h x (by simp));simp only[zaM,zar,zdQ,Int.natCast_one,zcE,zer];omega
def yfw(t:yRZ):qB prg 145 [.agg (t.enc.map .c)] (.c (.b (nH t))):=by
 refine dB yrL (goQ_ ?_);refine aA (iC t.Base 0 10000) (goQ_ ?_);refine⟨λh1=>?_,λh1=>by simp[nH,h1]⟩;refine aA (iC t.ySe 0 100) (goQ_ ?_);refine⟨λh2=>?_,λh2=>by simp[nH,h2]⟩;intro hc;refine⟨λh3 hw=>⟨λh4 _=>⟨λh5=>?_,λh5 _=>?_⟩,λh4=>?_⟩,λh3=>?_⟩
 .have:inRange t.yR7.length 1 11=false:=gV.2 (by omega);simp[nH,this]
 .have h3':t.yR5.length=3:=by omega
  have h6:inRange t.yR7.length 1 11=true:=aC.2 (by omega);refine yX4 (λk=>k<=t.yR5.length/\∀n∈t.yR5.take k,inRange n 0 10000=true) (λk=>xC [(1,.box 1 0),(37,.c (.sl 1 (t.yR5.map qC))),(38,.c (.i t.yR5.length)),(39,.c (.i k))] [(1,.box (t.enc.map .c))]) (λk=>t.yR5.length-k) ?_
  rintro k ⟨hk,hall⟩
  rcases yX1 k t.yR5 with⟨hlt,e,he⟩|hge
  .refine yaed he (fC hlt) ?_;refine aA (iC e 0 10000) (goQ_ ?_);refine⟨λh1=>by simp[nH,all_false (p:=λn=>inRange n 0 10000) he h1],λh1=>?_⟩;exact⟨gB hlt hc,k+1,⟨by omega,lD (p:=λn=>inRange n 0 10000) he hall h1⟩,by omega,by apply aB<;>simp⟩
  .have h7:=dF (p:=λn=>inRange n 0 10000) hge hall;refine yafw (aG hge) ?_;intro _;refine yX4 (λk=>k<=t.yR7.length/\∀n∈t.yR7.take k,inRange n 0 1000=true) (λk=>xC [(5,.c (.i (t.yR7.take k).sum)),(48,.c (.sl 1 (t.yR7.map qC))),(49,.c (.i t.yR7.length)),(50,.c (.i k))] []) (λk=>t.yR7.length-k) ?_
   rintro k ⟨hk,hall⟩
   rcases yX1 k t.yR7 with⟨hlt,e,he⟩|hge
   .refine yaed he (fC hlt) ?_;refine aA (iC e 0 1000) (yaed he (fC hlt) ?_);refine⟨λh1=>by simp[nH,all_false (p:=λn=>inRange n 0 1000) he h1],λh1=>?_⟩;have hs:=yk4 hall;have hx:=aC.1 h1;have hl:(t.yR7.take k).length<=11:=by simp;omega
    exact⟨by unfold inI;omega,gB hlt hw,k+1,⟨by omega,lD (p:=λn=>inRange n 0 1000) he hall h1⟩,by omega,by apply aB<;>simp[ytW he]⟩
   .have h8:=dF (p:=λn=>inRange n 0 1000) hge hall;refine yafw (aG hge) ?_;rw[zae hge];simp[nH,h1,h2,h3',h6,h7,h8]
 .have:inRange t.yR7.length 1 11=false:=gV.2 (by omega);simp[nH,this]
 .have:¬t.yR5.length=3:=by omega
  simp[nH,this]
def yfH(t:yRZ):qB prg 142 [.agg (t.enc.map .c)] (.c (.b (nH t))):=by
 refine dB yrQ (goQ_ ?_);refine aA (bC t.Base 0 10000) (goQ_ ?_);refine⟨λh1=>?_,λh1=>by simp[nH,h1]⟩;refine aA (bC t.ySe 0 100) (goQ_ ?_);refine⟨λh2=>?_,λh2=>by simp[nH,h2]⟩;intro hc;refine⟨λh3 hw=>?_,λh3=>?_⟩
 .have h3':t.yR5.length=3:=by omega
  refine aA (bC t.yR7.length 1 11) (goQ_ ?_);refine⟨λh6=>?_,λh6=>?_⟩
  .simp[nH,h6]
  have h6':=aC.1 h6;refine yX4 (λk=>k<=t.yR5.length/\∀n∈t.yR5.take k,inRange n 0 10000=true) (λk=>xC [(1,.box 1 0),(3,.c (.i k))] [(1,.box (t.enc.map .c))]) (λk=>t.yR5.length-k) ?_
  rintro k ⟨hk,hall⟩
  rcases yX1 k t.yR5 with⟨hlt,e,he⟩|hge
  .have hlt3:((k:Int)<3)=True:=by simp;omega
   refine yaeT he hlt3 (fC hlt) ?_;refine aA (bC e 0 10000) (goQ_ ?_);refine⟨λh1=>by simp[nH,all_false (p:=λn=>inRange n 0 10000) he h1],λh1=>?_⟩;exact⟨gB hlt hc,k+1,⟨by omega,lD (p:=λn=>inRange n 0 10000) he hall h1⟩,by omega,by apply aB<;>simp⟩
  .have h7:=dF (p:=λn=>inRange n 0 10000) hge hall;have hge3:((k:Int)<3)=False:=by simp;omega
   refine yafw hge3 ?_;refine yX4 (λk=>k<=t.yR7.length/\∀n∈t.yR7.take k,inRange n 0 1000=true) (λk=>xC [(1,.box 1 0),(4,.c (.i (t.yR7.take k).sum)),(5,.c (.i k))] [(1,.box (t.enc.map .c))]) (λk=>t.yR7.length-k) ?_
   rintro k ⟨hk,hall⟩
   rcases yX1 k t.yR7 with⟨hlt,e,he⟩|hge
   .refine yaed he (fC hlt) ?_;intro _;refine aA (bC e 0 1000) (yaed he (fC hlt) ?_);refine⟨λh1=>by simp[nH,all_false (p:=λn=>inRange n 0 1000) he h1],λh1=>?_⟩;have hs:=yk4 hall;have hx:=aC.1 h1;have hl:(t.yR7.take k).length<=11:=by simp;omega
    exact⟨by unfold inI;omega,gB hlt hw,k+1,⟨by omega,lD (p:=λn=>inRange n 0 1000) he hall h1⟩,by omega,by apply aB<;>simp[ytW he]⟩
   .have h8:=dF (p:=λn=>inRange n 0 1000) hge hall;refine yafw (aG hge) ?_;rw[zae hge];simp[nH,h1,h2,h3',h6,h7,h8]
 .have:¬t.yR5.length=3:=by omega
  simp[nH,this]
def marked(mk:Int->List C)(c:Int)(rows:List (List C))(k:Int)(i:Nat):List (List C):=(List.range i).map (λ(j:Nat)=>mk (k+c*j))++rows.drop i
def aW{α:Type}(sm:α->Prop)(xs:List α):Prop:=xs.length<=1048576/\∀x∈xs,sm x
structure ySa where
 Id:Int
 Length:Int
 Width:Int
 ySv:Int
 ySG:Int
 Class:Int
 deriving DecidableEq,Inhabited
@[simp] def ySa.enc(e:ySa):List C:=[.i e.Id,.i e.Length,.i e.Width,.i e.ySv,.i e.ySG,.i e.Class]
-- ySa
def yeM:List ySa->Prop:=aW λ_=>True
abbrev jE(xs:List ySa):List C:=[.sl 6 (xs.map ySa.enc)]
-- [][]ySa
def ybE:List (List ySa)->Prop:=aW yeM
structure yRT where
 Up:Bool
 Rows:List (List ySa)
 deriving DecidableEq,Inhabited
@[simp] def yRT.enc(e:yRT):List C:=[.b e.Up,.sl 1 (e.Rows.map jE)]
-- yRT
def yRT.small(e:yRT):Prop:=ybE e.Rows
structure yR6 where
 yRT:yRT
 Place:Int
 deriving DecidableEq,Inhabited
@[simp] def yR6.enc(e:yR6):List C:=[.b e.yRT.Up,.sl 1 (e.yRT.Rows.map jE),.i e.Place]
-- yR6
def yR6.small(e:yR6):Prop:=e.yRT.small
def eF{α:Type}{f g:α->List C}(h:∀x,dO (f x)=some (g x)):∀(l:List α),yaq (l.map f)=some (l.map g)
 |[]=>rfl
 |x::l=>by simp[yaq,h x,eF h l]
def yY{α:Type}{f g:α->List C}{k:Nat}(h:∀x,dO (f x)=some (g x))(l:List α):(C.ot k (l.map f)).shr=some (.sl k (l.map g)):=by simp[C.shr,eF h l]
def jF(xs:List ySa):List C:=[.ow 6 (xs.map ySa.enc)]
def yI(xs:List ySa):dO (jF xs)=some (jE xs):=rfl
@[simp] def yRT.iD(e:yRT):List C:=[.b e.Up,.ot 1 (e.Rows.map jF)]
def yRT.bF(e:yRT):dO e.iD=some e.enc:=by simp[yRT.iD,dO,yY yI]
def dH{α:Type}(f:Int->α->List C)(n:α->Nat):Int->List α->List (List C)
 |_,[]=>[]
 |k,x::l=>f k x::dH f n (k+n x) l
def cnt{α:Type}(n:α->Nat)(l:List α):Nat:=(l.map n).sum
section
variable {α:Type} {f:Int->α->List C} {g:α->List C} {n:α->Nat} {k:Int} {xs:List α} {i:Nat} {x:α}
end
def mkB(k:Int):List C:=[.i k,.i (k+1),.i (k+1+1),.i (k+1+1+1),.i (k+1+1+1+1),.i (k+1+1+1+1+1)]
def nB(r:List ySa):Nat:=6*r.length
def fB(k:Int)(r:List ySa):List C:=[.ow 6 (marked mkB 6 [] k r.length)]
def yzN{α:Type}{B:Nat}:∀{l:List (List α)},(∀r∈l,r.length<=B)->l.flatten.length<=l.length*B
 |[],_=>by simp
 |r::l,h=>by
  have h1:=yzN (l:=l) λx hx=>h x (by simp[hx]);have h2:=h r (by simp);simp only[zcZ,zah,zar,zbB,zco];omega
def heads{α:Type}(l:List (List α))(k:Nat):List α:=(l.take k).flatten
def yaE{α:Type}{l:List (List α)}:heads l 0=[]:=rfl
def ydL{α:Type}{l:List (List α)}{k:Nat}{r:List α}(h:l[k]?=some r):heads l (k+1)=heads l k++r:=by
 unfold heads;rw[zao,h];simp
def ydD{α:Type}{l:List (List α)}{k:Nat}(h:l.length<=k):heads l k=l.flatten:=by
 unfold heads;rw[zae h]
def ycH{α:Type}{l:List (List α)}(h:aW (aW λ_:α=>True) l)(k:Nat):(heads l k).length<=1099511627776:=by
 have h1:=yzN (l:=l.take k) (B:=1048576) λr hr=>(h.2 r (zaw hr)).1;have h2:=h.1;have h3:(l.take k).length<=1048576:=by simp;omega
 have h4:=zaq 1048576 h3;unfold heads;omega
def yRT.qE(t:yRT):List ySa:=t.Rows.flatten
def yHE{t:yRT}(h:t.small):t.qE.length<=1099511627776:=by
 have:=ycH h t.Rows.length
 rwa [ydD (Nat.le_refl _)]at this
def yhF(t:yRT)(h:t.small):qB prg 166 [.agg (t.enc.map .c)] (.c (.sl 6 (t.qE.map ySa.enc))):=by
 refine dB yrf (goQ_ ?_);refine yX2 (λk=>k<=t.Rows.length) (λk=>xC [(1,.box 1 0),(3,.own 5 6 (heads t.Rows k).length),(4,.c (.i k))] [(1,.box (t.enc.map .c)),(5,.row 6 ((heads t.Rows k).map ySa.enc))]) (λk=>t.Rows.length-k) (by apply aB<;>simp[yaE]) ?_
 rintro k hk
 rcases yX1 k t.Rows with⟨hlt,r,hr⟩|hge
 .have hb:=ycH h (k+1);have hf:=ydL hr;rw[hf,zah]at hb;have hm:=h.1;refine yaed hr (fC hlt) ?_;intro hlen;refine⟨by omega,gB hlt hlen,k+1,hlt,by omega,?_⟩;apply aB<;>simp[hf]
 .refine yafw (aG hge) ?_;rw[ydD hge];intro _;rw[zae (by rw[zal];exact Nat.le_refl _)];rfl
def iL(b:ySa):Bool:=inRange b.Id 1 9999&&inRange b.Length 1 200&&inRange b.Width 1 30&&inRange b.ySv 1 100&&inRange b.ySG 1 50&&inRange b.Class 0 2
def yAW(b:ySa):qB prg 167 [.agg (b.enc.map .c)] (.c (.b (iL b))):=by
 refine dB ywK (goQ_ ?_);refine aA (bC b.Id 1 9999) (goQ_ ?_);refine⟨λh=>?_,λh=>by simp[iL,h]⟩;refine aA (bC b.Length 1 200) (goQ_ ?_);refine⟨λh1=>?_,λh1=>by simp[iL,h1]⟩;refine aA (bC b.Width 1 30) (goQ_ ?_);refine⟨λh2=>?_,λh1=>by simp[iL,h1]⟩;refine aA (bC b.ySv 1 100) (goQ_ ?_);refine⟨λh3=>?_,λh1=>by simp[iL,h1]⟩;refine aA (bC b.ySG 1 50) (goQ_ ?_);refine⟨λh4=>?_,λh1=>by simp[iL,h1]⟩;refine aA (bC b.Class 0 2) (goQ_ ?_);simp[iL,h,h1,h2,h3,h4]
def yBf(b:ySa):qB prg 146 [.agg (b.enc.map .c)] (.c (.b (iL b))):=by
 refine dB yvr (goQ_ ?_);refine aA (iC b.Id 1 9999) (goQ_ ?_);refine⟨λh=>?_,λh=>by simp[iL,h]⟩;refine aA (iC b.Length 1 200) (goQ_ ?_);refine⟨λh1=>?_,λh1=>by simp[iL,h1]⟩;refine aA (iC b.Width 1 30) (goQ_ ?_);refine⟨λh2=>?_,λh1=>by simp[iL,h1]⟩;refine aA (iC b.ySv 1 100) (goQ_ ?_);refine⟨λh3=>?_,λh1=>by simp[iL,h1]⟩;refine aA (iC b.ySG 1 50) (goQ_ ?_);refine⟨λh4=>?_,λh1=>by simp[iL,h1]⟩;refine aA (iC b.Class 0 2) (goQ_ ?_);simp[iL,h,h1,h2,h3,h4]
def indexOf(l:List Int)(n:Int):Int:=match l.findIdx? (λx=>n==x)with|some i=>i|none=>-1
def yvj{l:List Int}{n:Int}:(0<=indexOf l n)=(n∈l):=by
 unfold indexOf;cases h:l.findIdx? (λx=>n==x)with
 |none=>
  rw[zcK]at h
  show(0<=(-1:Int))=_
  simp only[eq_iff_iff];refine⟨λh1=>by omega,λhm=>?_⟩;have:=h n hm;simp at this
 |some i=>
  rw[zck]at h;obtain⟨hi,h1,_⟩:=h;simp only[eq_iff_iff];refine⟨λ_=>?_,λ_=>by omega⟩;have:n=l[i]:=by simpa using h1
  rw[this];exact zbo _
def yCj{l:List Int}{n:Int}{k:Nat}(h:l[k]?=some n)(hn:∀x∈l.take k,n≠x):indexOf l n=k:=by
 unfold indexOf
 have:l.findIdx? (λx=>n==x)=some k:=by
  rw[zck];obtain⟨hk1,hk2⟩:=zaa.1 h;refine⟨hk1,by simp[hk2],λj hj=>?_⟩;have:=hn (l[j]'(by omega)) (List.mem_take_iff_getElem.2 ⟨j,by omega,rfl⟩);simpa using this
 rw[this]
def yCi{l:List Int}{n:Int}{k:Nat}(hk:l.length<=k)(hn:∀x∈l.take k,n≠x):indexOf l n= -1:=by
 rw[zae hk]at hn;unfold indexOf
 have:l.findIdx? (λx=>n==x)=none:=by
  rw[zcK];intro x hx;simpa using hn x hx
 rw[this]
def yHx{l:List Int}{n x:Int}{k:Nat}(h:l[k]?=some x)(hx:n≠x)(hn:∀x∈l.take k,n≠x):∀x∈l.take (k+1),n≠x:=by
 intro y hy;rw[zao,h]at hy;rcases zaj.1 hy with h1|h1
 .exact hn y h1
 .simp at h1;rw[h1];exact hx
def yHU(l:List Int)(n:Int):qB prg 157 [.c (.sl 1 (l.map qC)),.c (.i n)] (.c (.i (indexOf l n))):=by
 refine dB yer (goQ_ ?_);intro hlen;refine yX4 (λk=>k<=l.length/\∀x∈l.take k,n≠x) (λk=>xC [(0,.c (.sl 1 (l.map qC))),(1,.c (.i n)),(7,.c (.i l.length)),(8,.c (.i k))] []) (λk=>l.length-k) ?_
 rintro k ⟨hk,hn⟩
 rcases yX1 k l with⟨hlt,x,hx⟩|hge
 .refine yaed hx (fC hlt) ?_;refine⟨λh=>?_,λh=>⟨gB hlt hlen,k+1,⟨hlt,yHx hx h hn⟩,by omega,by apply aB<;>simp⟩⟩;exact yCj (h▸hx) hn
 .refine yafw (aG hge) ?_;exact yCi hge hn
def yu4(l:List Int)(n:Int):qB prg 57 [.c (.sl 1 (l.map qC)),.c (.i n)] (.c (.b (decide (n∈l)))):=by
 refine dB ycP (goQ_ ?_);refine aA (yHU l n) ?_;simp -dsimp[yvj]
def yc0(b:ySa):Int:=b.Id
def full(r:List ySa):Bool:=decide (r.length≠0)
def yky{r:List ySa}:full r=true↔r.length≠0:=by simp[full]
def oC(t:yRT):Bool:=t.Rows.all full&&t.qE.all iL&&decide ((t.qE.map yc0).Nodup)&&inRange t.qE.length 1 6
def yng{l:List ySa}{k:Nat}{b:ySa}(h:l[k]?=some b):(((l.take (k+1)).map yc0).Nodup↔((l.take k).map yc0).Nodup/\b.Id∉(l.take k).map yc0):=by
 rw[zao,h,zaD];simp only[zdr,zaC,zcj,zaY,zcC,zaH,not_false_eq_true,List.nodup_nil,and_self,true_and,zak,forall_eq,yc0];constructor
 .rintro⟨h1,h2⟩;exact⟨h1,λhm=>h2 _ hm rfl⟩
 .rintro⟨h1,h2⟩;exact⟨h1,λx hx e=>h2 (e▸hx)⟩
def yE2{l:List ySa}{k:Nat}(h:¬((l.take k).map yc0).Nodup):¬(l.map yc0).Nodup:=by
 intro hn;refine h ?_;rw[<-zav k l,zaD]at hn;exact(zaY.1 hn).1
def yxp(l:List ySa)(k:Nat):List Int:=(l.take k).map yc0
def jJ(t:yRT)(h:t.small):qB prg 66 [.agg (t.enc.map .c)] (.c (.b (oC t))):=by
 refine dB yts (goQ_ ?_);refine dD (yhF t h) (goQ_ ?_);refine yX4 (λk=>k<=t.Rows.length/\∀r∈t.Rows.take k,full r=true) (λk=>xC [(1,.box 1 0),(3,.c (.sl 6 (t.qE.map ySa.enc))),(4,.c (.i k))] [(1,.box (t.enc.map .c))]) (λk=>t.Rows.length-k) ?_
 rintro k ⟨hk,hall⟩
 rcases yX1 k t.Rows with⟨hlt,r,hr⟩|hge
 .refine yaed hr (fC hlt) ?_;intro hlen _;refine⟨λh0=>?_,λh0=>?_⟩
  .have:t.Rows.all full=false:=all_false (p:=full) hr (by simp[full,h0]);simp only[oC,this,zbG]
  .exact⟨gB hlt hlen,k+1,⟨by omega,lD (p:=full) hr hall (by simp[full,h0])⟩,by omega,by apply aB<;>simp⟩
 .have hrows:=dF (p:=full) hge hall;refine yafw (aG hge) ?_;intro _;have hbl:=yHE h;refine qA (ι:=Nat) (λk=>k<=t.qE.length/\(∀b∈t.qE.take k,iL b=true)/\(yxp t.qE k).Nodup) (λk=>xC [(3,.c (.sl 6 (t.qE.map ySa.enc))),(5,.c (.i k))] []) (λk=>t.qE.length-k) 0 (by simp[yxp]) (by apply aB<;>simp) ?_
  rintro k ⟨hk,hok,hnd⟩
  have fin:t.qE.length<=6->k=t.qE.length->oC t=inRange t.qE.length 1 6:=by
   intro h6 e;have h1:=dF (p:=iL) (by omega) hok;rw[e,yxp,zby]at hnd;simp[oC,hrows,h1,hnd]
  rcases yX1 k t.qE with⟨hlt,b,hb⟩|hge
  .by_cases h6:t.qE.length<=6
   .have h6':((t.qE.length:Int)<=6)=True:=by simp;omega
    refine yaeT hb (fC hlt) h6' ?_;intro hlen;refine aA (yAW b) (goQ_ ?_);refine⟨λh1=>?_,λh1=>?_⟩
    .have:t.qE.all iL=false:=all_false (p:=iL) hb h1;simp only[oC,this,zbG,zbk]
    have hok':=lD (p:=iL) hb hok h1;refine qA (ι:=Nat) (λi=>i<=k/\b.Id∉yxp t.qE i) (λi=>xC [(3,.c (.sl 6 (t.qE.map ySa.enc))),(5,.c (.i k)),(6,.c (.i i))] []) (λi=>k-i) 0 (by simp[yxp]) (by apply aB<;>simp) ?_
    rintro i ⟨hi,hni⟩
    rcases zas i k with hlt2|hge2
    .obtain⟨c,hc⟩:∃c,t.qE[i]?=some c:=⟨_,zab (by omega)⟩;have hi3:(i:Int)<t.qE.length:=by omega
     refine yaff hb hc (fC hlt) (fC hlt2) hi3 ?_;refine⟨λh2=>?_,λh2=>?_⟩
     .have:¬(t.qE.map yc0).Nodup:=by
       refine yE2 (k:=k+1) λhn=>?_;refine((yng hb).1 hn).2 ?_;rw[<-h2];exact zaP.2 ⟨c,zbd.2 ⟨i,by rw[zbv,if_pos hlt2];exact hc⟩,rfl⟩
      simp[oC,this]
     .refine⟨by unfold inI;omega,i+1,⟨hlt2,?_⟩,by omega,by apply aB<;>simp⟩;rw[yxp,zao,hc,zaD];simp only[zaj,zdr,zaC,zcj,zak,yc0]
      rintro(h3|h3)
      .exact hni h3
      .exact h2 h3.symm
    .refine yafw (aG hge2) ?_;have e:i=k:=by omega
     rw[e]at hni;exact⟨by unfold inI;omega,k+1,⟨hlt,hok',(yng hb).2 ⟨hnd,hni⟩⟩,by omega,by apply aB<;>simp⟩
   .have h6':((t.qE.length:Int)<=6)=False:=by simp;omega
    refine yaeT hb (fC hlt) h6' ?_;intro hlen;refine aA (bC t.qE.length 1 6) (goQ_ ?_);have h7:inRange t.qE.length 1 6=false:=gV.2 (by omega);simp only[oC,h7,zbk]
  .refine yafw (aG hge) ?_;intro hlen;refine aA (bC t.qE.length 1 6) (goQ_ ?_)
   by_cases h6:t.qE.length<=6
   .rw[fin h6 (by omega)]
   .have h7:inRange t.qE.length 1 6=false:=gV.2 (by omega);simp only[oC,h7,zbk]
def yqU{t:yRT}{k:Nat}{r:List ySa}(h:t.Rows[k]?=some r):∃m,t.qE=heads t.Rows k++r++m:=by
 refine⟨(t.Rows.drop (k+1)).flatten,?_⟩;unfold yRT.qE
 conv=>lhs;rw[<-zav (k+1) t.Rows]
 rw[List.flatten_append,<-ydL h];rfl
def yIE{t:yRT}{k:Nat}{r:List ySa}(h:t.Rows[k]?=some r)(h0:r.length=0):oC t=false:=by
 have:t.Rows.all full=false:=all_false (p:=full) h (by simp[full,h0]);simp only[oC,this,zbG]
def yKW{t:yRT}(h:6<t.qE.length):oC t=false:=by
 have h7:inRange t.qE.length 1 6=false:=gV.2 (by omega);simp only[oC,h7,zbk]
def yIr{t:yRT}{b:ySa}(hb:b∈t.qE)(h:iL b=false):oC t=false:=by
 obtain⟨i,hi⟩:=zat hb;have:t.qE.all iL=false:=all_false (p:=iL) hi h;simp only[oC,this,zbG,zbk]
def yKU{t:yRT}(h:¬(t.qE.map yc0).Nodup):oC t=false:=by simp[oC,h]
def ycQ(l:List ySa):List (List C):=(l.map yc0).map qC++List.replicate (6-l.length) [.i 0]
def yG3{l:List ySa}(h:l.length<=6):(ycQ l).length=6:=by simp[ycQ];omega
def yEt{l:List ySa}{n:Nat}(h:n=l.length):(ycQ l).take n=(l.map yc0).map qC:=by
 subst h;unfold ycQ;rw[zdh (by simp),zae (by simp)]
def yHF{l:List ySa}{b:ySa}(h:l.length<6):(ycQ l).set l.length [.i b.Id]=ycQ (l++[b]):=by
 unfold ycQ;rw[zci _ _ (by simp)];have h1:((l.map yc0).map qC).length=l.length:=by simp
 rw[h1,zcc,show 6-l.length=(6-(l.length+1))+1 by omega,zbT,zbC];simp[yc0]
def yGA{l:List ySa}(h:l.length<6):(ycQ l)[l.length]?.getD []=[.i 0]:=by
 unfold ycQ;rw[zaz (by simp)];have h1:((l.map yc0).map qC).length=l.length:=by simp
 rw[h1,zcc,zbO,if_pos (by omega)];rfl
def yFU:ycQ []=List.replicate 6 [.i 0]:=rfl
structure Met(l:List ySa):Prop where
 ok:∀b∈l,iL b=true
 nd:(l.map yc0).Nodup
 len:l.length<=6
def Met.snoc{l:List ySa}{b:ySa}(h:Met l)(h1:iL b=true)(h2:b.Id∉l.map yc0)(h3:l.length<6):Met (l++[b]):=by
 refine⟨?_,?_,by simp;omega⟩
 .intro x hx;rcases zaj.1 hx with hx|hx
  .exact h.ok x hx
  .rw[zak.1 hx];exact h1
 .have:=@yng (l++[b]) l.length b (by simp);rw[show l.length+1=(l++[b]).length by simp,zby]at this;rw[this,List.take_left']
  .exact⟨h.nd,h2⟩
  .rfl
def ycK(t:yRT)(k:Nat)(r:List ySa)(j:Nat):List ySa:=heads t.Rows k++r.take j
def ytn{t:yRT}{k:Nat}{r:List ySa}:ycK t k r 0=heads t.Rows k:=by simp[ycK]
def yCd{t:yRT}{k:Nat}{r:List ySa}{j:Nat}{b:ySa}(h:r[j]?=some b):ycK t k r (j+1)=ycK t k r j++[b]:=by
 unfold ycK;rw[zao,h];simp
def ywT{t:yRT}{k:Nat}{r:List ySa}{j:Nat}(hr:t.Rows[k]?=some r)(h:r.length<=j):ycK t k r j=heads t.Rows (k+1):=by
 unfold ycK;rw[zae h,ydL hr]
def yE8{t:yRT}{k:Nat}{r:List ySa}{j:Nat}(h:j<=r.length):(ycK t k r j).length=(heads t.Rows k).length+j:=by
 unfold ycK;simp;omega
def gK (t:yRT) (h:t.small):qB prg 54 [.agg (t.enc.map .c)] (.c (.b (oC t))):=by
 refine dB yu2 (goQ_ ?_);intro hlen;refine⟨λh0 _=>⟨λh1=>?_,λh1 _=>?_⟩,λh0=>?_⟩
 .by_cases h2:oC t=false
  .exact h2
  .exfalso;have h3:oC t=true:=by simpa using h2
   simp only[oC,zad,zaf]at h3;obtain⟨⟨⟨h4,_⟩,_⟩,h5⟩:=h3;have h6:=aC.1 h5
   have:∀l:List (List ySa),(∀r∈l,full r=true)->l.length<=l.flatten.length:=by
    intro l
    induction l with
    |nil=>simp
    |cons r l ih=>
     intro hl;have e1:=ih λx hx=>hl x (by simp[hx]);have e2:=yky.1 (hl r (by simp));simp only[zar,zcZ,zah];omega
   have:=this t.Rows h4;unfold yRT.qE at h6;omega
 .refine qA (ι:=Nat) (λk=>k<=t.Rows.length/\(∀r∈t.Rows.take k,full r=true)/\Met (heads t.Rows k)) (λk=>xC [(3,.row 3 1 0 0),(4,.c (.i (heads t.Rows k).length)),(20,.c (.sl 1 (t.Rows.map jE))),(21,.c (.i t.Rows.length)),(22,.c (.i k))] [(3,.row 1 (ycQ (heads t.Rows k)))]) (λk=>t.Rows.length-k) 0 ⟨by simp,by simp,by simp[yaE],by simp[yaE],by simp[yaE]⟩ (by apply aB<;>simp[yaE,yFU]) ?_
  rintro k ⟨hk,hall,hm⟩
  rcases yX1 k t.Rows with⟨hlt,r,hr⟩|hge
  .have hml:=hm.len;have hrs:=(h.2 r (zac hr)).1;obtain⟨rest,hsp⟩:=yqU hr;refine yaed hr (fC hlt) ?_;intro hrl;refine⟨λhr0 _=>⟨by unfold inI;omega,λh6=>?_,λh6 _=>?_⟩,λhr0=>?_⟩
   .refine yKW ?_;rw[hsp];simp only[zah];omega
   .refine qA (ι:=Nat) (λj=>j<=r.length/\Met (ycK t k r j)) (λj=>xC [(3,.row 3 1 0 0),(4,.c (.i (ycK t k r j).length)),(20,.c (.sl 1 (t.Rows.map jE))),(21,.c (.i t.Rows.length)),(22,.c (.i k)),(36,.c (.sl 6 (r.map ySa.enc))),(37,.c (.i r.length)),(38,.c (.i j))] [(3,.row 1 (ycQ (ycK t k r j)))]) (λj=>r.length-j) 0 ⟨by simp,by rw[ytn];exact hm⟩ (by apply aB<;>simp[ytn]) ?_
    rintro j ⟨hj,hmj⟩
    rcases yX1 j r with⟨hlt2,b,hb⟩|hge2
    .have hsl:=yE8 (t:=t) (k:=k) hj;have hlt6:(ycK t k r j).length<6:=by omega
     have hmem:b∈t.qE:=by
      rw[hsp];simp only[zaj];exact .inl (.inr (zac hb))
     refine yaed hb (fC hlt2) ?_;refine lC (yBf b) (goQ_ ?_);refine⟨λh2=>?_,λh2=>yIr hmem h2⟩;have hsn:=yG3 hmj.len;refine⟨by omega,hsn,?_⟩;refine⟨_,_,yu4 ((ycK t k r j).map yc0) b.Id,by simp[yEt],.inr rfl,?_⟩;simp -dsimp[fC hlt2,yGA hlt6,yHF hlt6];refine⟨λx hx he=>yKU λhn=>?_,λh3=>?_⟩
     .have hsp2:t.qE=ycK t k r j++(b::(r.drop (j+1)++rest)):=by
       rw[hsp];unfold ycK
       have:r=r.take j++b::r.drop (j+1):=by
        conv=>lhs;rw[<-zav j r]
        rw[zaF hlt2,(zaa.1 hb).2]
       conv=>lhs;rw[this]
       simp
      rw[hsp2,zaD,zaC]at hn;exact(zaY.1 hn).2.2 _ (zbx hx) _ (zdu) he
     .have hni:b.Id∉(ycK t k r j).map yc0:=by
       intro hm';obtain⟨x,hx,he⟩:=zaP.1 hm';exact h3 x hx he
      have hs1:=yCd (t:=t) (k:=k) hb;refine⟨by omega,by omega,by unfold inI;omega,by unfold inI;omega,j+1,⟨hlt2,by rw[hs1];exact hmj.snoc h2 hni hlt6⟩,by omega,?_⟩;apply aB<;>simp[hs1]
    .refine yafw (aG hge2) ?_;rw[ywT hr hge2]at hmj;refine⟨by unfold inI;omega,k+1,⟨hlt,lD (p:=full) hr hall (by simp[full,hr0]),hmj⟩,by omega,?_⟩;apply aB<;>simp[ywT hr hge2]
   .exact yIE hr (by simp[hr0])
  .refine yafw (aG hge) ?_;rw[ydD hge]at hm;have hr1:=dF (p:=full) hge hall;have hb1:t.qE.all iL=true:=zaf.2 hm.ok
   have hl1:0<t.qE.length:=by
    obtain⟨r,l,e⟩:=zcf h0;have:=yky.1 (zaf.1 hr1 r (by rw[e];simp));unfold yRT.qE;rw[e];simp only[zcZ,zah];omega
   have hl2:t.qE.length<=6:=hm.len;have h7:inRange t.qE.length 1 6=true:=aC.2 (by omega);have hn1:(t.qE.map yc0).Nodup:=hm.nd;simp[oC,hr1,hb1,hn1,h7]
 .have:t.qE=[]:=by simp[yRT.qE,h0]
  have h7:inRange t.qE.length 1 6=false:=by rw[this];rfl
  simp only[oC,h7,zbk]
def xN(m:yR6)(w:Way):Bool:=ykM w&&oC m.yRT&&inRange m.Place 0 w.Long
def yym(m:yR6)(w:Way)(h:m.small):qB prg 247 [.agg (m.enc.map .c),.agg (w.enc.map .c)] (.c (.b (xN m w))):=by
 refine dB yur (goQ_ ?_);refine aA (ysY w) (goQ_ ?_);refine⟨λh1=>?_,λh1=>by simp[xN,h1]⟩;refine aA (gK m.yRT h) (goQ_ ?_);refine⟨λh2=>?_,λh2=>by simp[xN,h2]⟩;refine aA (iC m.Place 0 w.Long) (goQ_ ?_);simp[xN,h1,h2]
def yof(m:yR6)(w:Way)(h:m.small):qB prg 244 [.agg (m.enc.map .c),.agg (w.enc.map .c)] (.c (.b (xN m w))):=by
 refine dB yud (goQ_ ?_);refine aA (ysH w) (goQ_ ?_);refine⟨λh1=>?_,λh1=>by simp[xN,h1]⟩;refine aA (jJ m.yRT h) (goQ_ ?_);refine⟨λh2=>?_,λh2=>by simp[xN,h2]⟩;refine aA (bC m.Place 0 w.Long) (goQ_ ?_);simp[xN,h1,h2]
def endOf(t:yRT)(w:Way):Int:=if t.Up then 0 else w.Long
def yXP(t:yRT)(w:Way):qB prg 265 [.agg (t.enc.map .c),.agg (w.enc.map .c)] (.c (.i (endOf t w))):=by
 refine dB yWK (goQ_ ?_);exact⟨λh=>by simp[endOf,h],λh=>by simp[endOf,h]⟩
def AtEnd(m:yR6)(w:Way):Bool:=xN m w&&decide (m.Place=endOf m.yRT w)
def yXh(m:yR6)(w:Way)(h:m.small):qB prg 174 [.agg (m.enc.map .c),.agg (w.enc.map .c)] (.c (.b (AtEnd m w))):=by
 refine dB yWN (goQ_ ?_);refine gX (yym m w h) (goQ_ ?_);refine⟨λh1=>?_,λh1=>by simp[AtEnd,h1]⟩;refine gX (yXP m.yRT w) (goQ_ ?_);simp[AtEnd,h1]
def maxOf(f:ySa->Int)(l:List ySa)(z:Int):Int:=l.foldl (λm b=>if m<f b then f b else m) z
def minOf(f:ySa->Int)(l:List ySa)(z:Int):Int:=l.foldl (λm b=>if f b<m then f b else m) z
def yjY(f:ySa->Int)(l:List ySa)(z:Int)(k:Nat):Int:=maxOf f (l.take k) z
def yoz(f:ySa->Int)(l:List ySa)(z:Int)(k:Nat):Int:=minOf f (l.take k) z
def yb3{f:ySa->Int}{l:List ySa}{z:Int}:yjY f l z 0=z:=rfl
def ysJ{f:ySa->Int}{l:List ySa}{z:Int}:yoz f l z 0=z:=rfl
def yhH{f:ySa->Int}{l:List ySa}{z:Int}{k:Nat}{b:ySa}(h:l[k]?=some b):yjY f l z (k+1)=if yjY f l z k<f b then f b else yjY f l z k:=by
 unfold yjY maxOf;rw[zao,h,zbH];rfl
def yuw{f:ySa->Int}{l:List ySa}{z:Int}{k:Nat}{b:ySa}(h:l[k]?=some b):yoz f l z (k+1)=if f b<yoz f l z k then f b else yoz f l z k:=by
 unfold yoz minOf;rw[zao,h,zbH];rfl
def yk9{f:ySa->Int}{l:List ySa}{z:Int}{k:Nat}(h:l.length<=k):yjY f l z k=maxOf f l z:=by
 unfold yjY;rw[zae h]
def yxb{f:ySa->Int}{l:List ySa}{z:Int}{k:Nat}(h:l.length<=k):yoz f l z k=minOf f l z:=by
 unfold yoz;rw[zae h]
def yuz{f:ySa->Int}{a b:Int}:∀{l:List ySa} {z:Int},(∀x∈l,a<=f x/\f x<=b)->a<=z->z<=b->a<=maxOf f l z/\maxOf f l z<=b
 |[],z,_,h1,h2=>⟨h1,h2⟩
 |x::l,z,h,h1,h2=>by
  have:=h x (by simp);unfold maxOf;rw[zbz];refine yuz (l:=l) (λy hy=>h y (by simp[hy])) ?_ ?_<;>split<;>omega
def yBi{f:ySa->Int}{a b:Int}:∀{l:List ySa} {z:Int},(∀x∈l,a<=f x/\f x<=b)->a<=z->z<=b->a<=minOf f l z/\minOf f l z<=b
 |[],z,_,h1,h2=>⟨h1,h2⟩
 |x::l,z,h,h1,h2=>by
  have:=h x (by simp);unfold minOf;rw[zbz];refine yBi (l:=l) (λy hy=>h y (by simp[hy])) ?_ ?_<;>split<;>omega
structure ySw(t:yRT):Prop where
 rows:∀r∈t.Rows,full r=true
 ok:∀b∈t.qE,iL b=true
 nd:(t.qE.map yc0).Nodup
 pos:1<=t.qE.length
 len:t.qE.length<=6
def lK{t:yRT}(h:oC t=true):ySw t:=by
 simp only[oC,zad,zaf,decide_eq_true_eq]at h;obtain⟨⟨⟨h1,h2⟩,h3⟩,h4⟩:=h;have h5:=aC.1 h4;exact⟨h1,h2,h3,by omega,by omega⟩
def ygR{b:ySa}(h:iL b=true):(1<=b.Id/\b.Id<=9999)/\(1<=b.Length/\b.Length<=200)/\(1<=b.Width/\b.Width<=30)/\(1<=b.ySv/\b.ySv<=100)/\(1<=b.ySG/\b.ySG<=50)/\(0<=b.Class/\b.Class<=2):=by
 simp only[iL,zad]at h;obtain⟨⟨⟨⟨⟨h1,h2⟩,h3⟩,h4⟩,h5⟩,h6⟩:=h;exact⟨aC.1 h1,aC.1 h2,aC.1 h3,aC.1 h4,aC.1 h5,aC.1 h6⟩
def yqd(t:yRT)(h:t.small):qB prg 156 [.agg (t.enc.map .c)] (.c (.sl 6 (t.qE.map ySa.enc))):=by
 refine dB ysF (goQ_ ?_);intro hlen;refine jX (k0:=6) 3 6 (by simp) (by simp) (by decide) ?_;refine yX2 (λk=>k<=t.Rows.length) (λk=>xC [(3,.own 3 6 (heads t.Rows k).length),(7,.c (.sl 1 (t.Rows.map jE))),(8,.c (.i t.Rows.length)),(9,.c (.i k))] [(3,.row 6 ((heads t.Rows k).map ySa.enc))]) (λk=>t.Rows.length-k) (by apply aB<;>simp[yaE]) ?_
 rintro k hk
 rcases yX1 k t.Rows with⟨hlt,r,hr⟩|hge
 .have hb:=ycH h (k+1);have hf:=ydL hr;rw[hf,zah]at hb;refine yaed hr (fC hlt) ?_;refine⟨by omega,gB hlt hlen,k+1,hlt,by omega,?_⟩;apply aB<;>simp[hf]
 .refine yafw (aG hge) ?_;rw[ydD hge];rw[zae (by rw[zal];exact Nat.le_refl _)];rfl
def oH(t:yRT):Int:=if oC t then maxOf ySa.ySv t.qE 0 else 0
def yw(t:yRT)(h:t.small):qB prg 351 [.agg (t.enc.map .c)] (.c (.i (oH t))):=by
 refine dB ypT (goQ_ ?_);refine aA (gK t h) (goQ_ ?_);refine⟨λh1=>by simp[oH,h1],λh1=>?_⟩;refine dD (yqd t h) (goQ_ ?_);intro hlen;refine yX2 (λk=>k<=t.qE.length) (λk=>xC [(3,.c (.i (yjY ySa.ySv t.qE 0 k))),(10,.c (.sl 6 (t.qE.map ySa.enc))),(11,.c (.i t.qE.length)),(12,.c (.i k))] []) (λk=>t.qE.length-k) (by apply aB<;>simp[yb3]) ?_
 rintro k hk
 rcases yX1 k t.qE with⟨hlt,b,hb⟩|hge
 .refine yaed hb (fC hlt) ?_;refine⟨gB hlt hlen,k+1,hlt,by omega,?_⟩;apply aB<;>simp[yhH hb]
 .refine yafw (aG hge) ?_;simp[oH,h1,yk9 hge]
def yDC(f:ySa->Int)(l:List ySa):Int:=match l with|b::_=>f b|[]=>0
def yTt(t:yRT):Int:=if oC t then minOf ySa.ySG t.qE (yDC ySa.ySG t.qE)else 0
def yHV{l:List ySa}{b:ySa}(h:l[0]?=some b)(f:ySa->Int):yDC f l=f b:=by
 cases l with
 |nil=>simp at h
 |cons x l=>simp at h;rw[h];rfl
def yph{t:yRT}(h:ySw t):∃r b,t.Rows[0]?=some r/\r[0]?=some b/\t.qE[0]?=some b:=by
 have h1:=h.pos;cases hr:t.Rows with
 |nil=>unfold yRT.qE at h1;rw[hr]at h1;simp at h1
 |cons r l=>
  have h2:=yky.1 (h.rows r (by rw[hr];simp));cases r with
  |nil=>simp at h2
  |cons b r=>exact⟨b::r,b,rfl,rfl,by unfold yRT.qE;rw[hr];rfl⟩
def yVs(t:yRT)(h:t.small):qB prg 352 [.agg (t.enc.map .c)] (.c (.i (yTt t))):=by
 refine dB yV2 (goQ_ ?_);refine aA (gK t h) (goQ_ ?_);refine⟨λh1=>by simp[yTt,h1],λh1=>?_⟩;obtain⟨r,b0,e1,e2,e3⟩:=yph (lK h1);have l1:0<t.Rows.length:=(zaa.1 e1).1;have l2:0<r.length:=(zaa.1 e2).1;have f1:=(zaa.1 e1).2;have f2:=(zaa.1 e2).2;refine yafq e1 e2 l1 l2 f1 f2 ?_;refine dD (yqd t h) (goQ_ ?_);intro hlen;refine yX2 (λk=>k<=t.qE.length) (λk=>xC [(3,.c (.i (yoz ySa.ySG t.qE b0.ySG k))),(17,.c (.sl 6 (t.qE.map ySa.enc))),(18,.c (.i t.qE.length)),(19,.c (.i k))] []) (λk=>t.qE.length-k) (by apply aB<;>simp[ysJ]) ?_
 rintro k hk
 rcases yX1 k t.qE with⟨hlt,b,hb⟩|hge
 .refine yaed hb (fC hlt) ?_;refine⟨gB hlt hlen,k+1,hlt,by omega,?_⟩;apply aB<;>simp[yuw hb]
 .refine yafw (aG hge) ?_;simp[yTt,h1,yxb hge,yHV e3]
def ydq(t:yRT):0<=oH t/\oH t<=100:=by
 unfold oH;split
 .rename_i h;have hf:=lK h;exact yuz (λx hx=>by have:=ygR (hf.ok x hx);omega) (by omega) (by omega)
 .omega
def yU7(t:yRT):0<=yTt t/\yTt t<=50:=by
 unfold yTt;split
 .rename_i h;have hf:=lK h;obtain⟨r,b0,e1,e2,e3⟩:=yph hf;have:=ygR (hf.ok b0 (zac e3));exact yBi (λx hx=>by have:=ygR (hf.ok x hx);omega) (by rw[yHV e3];omega) (by rw[yHV e3];omega)
 .omega
def yTs(t:yRT)(depth:Int):Int:=if oC t&&inRange depth 0 1000000000&&decide (oH t<=depth)then if 2*depth<3*oH t then(yTt t+1).tdiv 2 else yTt t else 0
def yV9{t:yRT}{d:Int}(h:oC t=false):yTs t d=0:=by simp[yTs,h]
def yVY{t:yRT}{d:Int}(h:inRange d 0 1000000000=false):yTs t d=0:=by simp[yTs,h]
def yVU{t:yRT}{d:Int}(h:d<oH t):yTs t d=0:=by
 have:¬oH t<=d:=by omega
 simp[yTs,this]
def yW5(t:yRT)(d:Int)(h:t.small):qB prg 263 [.agg (t.enc.map .c),.c (.i d)] (.c (.i (yTs t d))):=by
 refine dB yWh ?_;have hd:=ydq t;have hs:=yU7 t;refine goQ_ ?_;refine aA (gK t h) (goQ_ ?_);refine⟨λh1=>?_,λh1=>yV9 h1⟩;refine aA (iC d 0 1000000000) (goQ_ ?_);refine⟨λh2=>?_,λh2=>yVY h2⟩;have h2':=aC.1 h2;refine aA (yw t h) (goQ_ ?_);refine⟨λh3=>yVU h3,λh3=>?_⟩;refine⟨by unfold inI;omega,?_⟩;refine aA (yw t h) (goQ_ ?_);refine⟨by unfold inI;omega,λh4=>?_,λh4=>?_⟩
 .refine mD (yVs t h) (by simp) rfl (goQ_ ?_);have ht:(yTt t+1).tdiv 2=(yTt t+1)/2:=zaG (by omega);exact⟨by unfold inI;omega,by rw[ht];unfold inI;omega,by simp[yTs,h1,h2,h3,h4]⟩
 .refine mD (yVs t h) (by simp) rfl (goQ_ ?_);have h4':¬2*d<3*oH t:=by omega
  simp[yTs,h1,h2,h3,h4']
def ymY:List Int->Prop:=aW λ_=>True
structure ySc where
 X:Int
 Y:Int
 deriving DecidableEq,Inhabited
@[simp] def ySc.enc(e:ySc):List C:=[.i e.X,.i e.Y]
-- ySc
def ydu:List ySc->Prop:=aW λ_=>True
structure Reach where
 ySg:List ySc
 ySh:Int
 ySk:List Int
 deriving DecidableEq,Inhabited
@[simp] def Reach.enc(e:Reach):List C:=[.sl 2 (e.ySg.map ySc.enc),.i e.ySh,.sl 1 (e.ySk.map qC)]
-- Reach
def Reach.small(e:Reach):Prop:=ydu e.ySg/\ymY e.ySk
def yd3(p:ySc):Bool:=inRange p.X 0 1000000000&&inRange p.Y 0 1000000000
def follows(a b:ySc):Bool:=decide (a.X<b.X)&&decide (a.Y<=b.Y)
def yhG(l:List ySc)(k:Nat):Bool:=
 match l[k]? with
 | some p=>yd3 p&&(match k with
  |0=>true
  |j+1=>match l[j]? with
   |some q=>follows q p
   |none=>false)
 |none=>true
def upTo(l:List ySc):Nat->Bool
 |0=>true
 |k+1=>upTo l k&&yhG l k
def sH(l:List ySc):Bool:=upTo l l.length&&inRange l.length 2 20
def ygB{l:List ySc}{p:ySc}(h:l[0]?=some p):yhG l 0=yd3 p:=by simp[yhG,h]
def yaN{l:List ySc}{k:Nat}{p q:ySc}(h:l[k+1]?=some p)(hq:l[k]?=some q):yhG l (k+1)=(yd3 p&&follows q p):=by simp[yhG,h,hq]
def ytw{l:List ySc}:∀{k n:Nat},k<n->yhG l k=false->upTo l n=false
 |k,0,h,_=>by omega
 | k,n+1,h,hs=>by
  simp only[upTo];rcases zas k n with h1|h1
  .rw[ytw h1 hs];rfl
  .have:k=n:=by omega
   subst this;rw[hs,zbk]
def ylh{l:List ySc}{k:Nat}(h:upTo l k=true)(hs:yhG l k=true):upTo l (k+1)=true:=by simp[upTo,h,hs]
def ysb{l:List ySc}{k:Nat}(h:k<l.length)(hs:yhG l k=false):sH l=false:=by simp[sH,ytw h hs]
def yF8{l:List ySc}(h:inRange l.length 2 20=false):sH l=false:=by simp[sH,h]
def yg1(l:List ySc):qB prg 274 [.c (.sl 2 (l.map ySc.enc))] (.c (.b (sH l))):=by
 refine dB ysQ (goQ_ ?_);intro hlen;refine⟨λh0 _=>⟨λh1=>?_,λh1 _=>?_⟩,λh0=>?_⟩
 .exact yF8 (gV.2 (by omega))
 .refine qA (ι:=Nat) (λk=>k<=l.length/\upTo l k=true) (λk=>xC [(0,.c (.sl 2 (l.map ySc.enc))),(13,.c (.sl 2 (l.map ySc.enc))),(14,.c (.i l.length)),(15,.c (.i k))] []) (λk=>l.length-k) 0 ⟨by simp,rfl⟩ (by apply aB<;>simp) ?_
  rintro k ⟨hk,hup⟩
  rcases yX1 k l with⟨hlt,p,hp⟩|hge
  .have hbad:yd3 p=false->sH l=false:=λe=>ysb hlt (by
    cases k with
    |zero=>rw[ygB hp,e]
    |succ j=>rw[yaN hp (zab (by omega)),e,zbG])
   cases k with
   |zero=>
    have f1:=(zaa.1 hp).2;refine yaeT hp hlt f1 ?_;refine aA (iC p.X 0 1000000000) (goQ_ ?_);refine⟨λh2=>?_,λh2=>hbad (by simp[yd3,h2])⟩;refine aA (iC p.Y 0 1000000000) (goQ_ ?_);refine⟨λh3=>hbad (by simp[yd3,h3]),λh3=>?_⟩;have hpt:yd3 p=true:=by simp[yd3,h2,h3]
    exact⟨by unfold inI;omega,1,⟨hlt,ylh hup (by rw[ygB hp,hpt])⟩,by omega,by apply aB<;>simp⟩
   | succ j=>
    obtain⟨q,hq⟩:∃q,l[j]?=some q:=⟨_,zab (by omega)⟩;have hj:(j:Int)+1<l.length:=by omega
    have hj2:(j:Int)<l.length:=by omega
    have hj3:(0:Int)<j+1:=by omega
    have hj4:(0:Int)<=j+1:=by omega
    have hj5:((j:Int)+1).toNat=j+1:=by omega
    refine yafn hp hq hj hj2 hj3 hj4 hj5 ?_;refine aA (iC p.X 0 1000000000) (goQ_ ?_);refine⟨λh2=>?_,λh2=>hbad (by simp[yd3,h2])⟩;refine aA (iC p.Y 0 1000000000) (yafn hp hq hj hj2 hj3 hj4 hj5 ?_);refine⟨λh3=>hbad (by simp[yd3,h3]),λh3=>?_⟩;have hpt:yd3 p=true:=by simp[yd3,h2,h3]
    have hbad2:follows q p=false->sH l=false:=λe=>ysb hlt (by rw[yaN hp hq,e,zbk]);refine⟨by unfold inI;omega,λh4=>⟨by unfold inI;omega,λh5=>?_,λh5=>?_⟩,λh4=>?_⟩
    .exact hbad2 (by simp[follows];omega)
    .have hf:follows q p=true:=by simp[follows,h4,h5]
     exact⟨by unfold inI;omega,j+2,⟨hlt,ylh hup (by rw[yaN hp hq,hpt,hf];rfl)⟩,by omega,by apply aB<;>simp;omega⟩
    .exact hbad2 (by simp[follows];omega)
  .refine yafw (aG hge) ?_;have e:k=l.length:=by omega
   subst e;have h7:inRange l.length 2 20=true:=aC.2 (by omega);simp[sH,hup,h7]
 .exact yF8 (gV.2 (by omega))
def yhk(l:List ySc):qB prg 134 [.c (.sl 2 (l.map ySc.enc))] (.c (.b (sH l))):=by
 refine dB yut (goQ_ ?_);refine qA (ι:=Nat) (λk=>k<=l.length/\upTo l k=true) (λk=>xC [(0,.c (.sl 2 (l.map ySc.enc))),(3,.c (.i k))] []) (λk=>l.length-k) 0 ⟨by simp,rfl⟩ (by apply aB<;>simp) ?_
 rintro k ⟨hk,hup⟩
 rcases yX1 k l with⟨hlt,p,hp⟩|hge
 .have hbad:yd3 p=false->sH l=false:=λe=>ysb hlt (by
   cases k with
   |zero=>rw[ygB hp,e]
   |succ j=>rw[yaN hp (zab (by omega)),e,zbG])
  cases k with
  |zero=>
   have f1:=(zaa.1 hp).2;refine yaeT hp hlt f1 ?_;intro hlen;refine lC (bC p.X 0 1000000000) (yaeT hp hlt f1 ?_);refine⟨λh2=>?_,λh2=>hbad (by simp[yd3,h2])⟩;refine lC (bC p.Y 0 1000000000) (yaeT hp hlt f1 ?_);refine⟨λh3=>?_,λh3=>hbad (by simp[yd3,h3])⟩;have hpt:yd3 p=true:=by simp[yd3,h2,h3]
   exact⟨by unfold inI;omega,1,⟨hlt,ylh hup (by rw[ygB hp,hpt])⟩,by omega,by apply aB<;>simp⟩
  | succ j=>
   obtain⟨q,hq⟩:∃q,l[j]?=some q:=⟨_,zab (by omega)⟩;have hj:(j:Int)+1<l.length:=by omega
   have hj2:(j:Int)<l.length:=by omega
   have hj3:(0:Int)<j+1:=by omega
   have hj4:(0:Int)<=j+1:=by omega
   have hj5:((j:Int)+1).toNat=j+1:=by omega
   refine yafn hp hq hj hj2 hj3 hj4 hj5 ?_;intro hlen;refine lC (bC p.X 0 1000000000) (yafn hp hq hj hj2 hj3 hj4 hj5 ?_);refine⟨λh2=>?_,λh2=>hbad (by simp[yd3,h2])⟩;refine lC (bC p.Y 0 1000000000) (yafn hp hq hj hj2 hj3 hj4 hj5 ?_);refine⟨λh3=>?_,λh3=>hbad (by simp[yd3,h3])⟩;have hpt:yd3 p=true:=by simp[yd3,h2,h3]
   unfold maxLen at hlen;have hbad2:follows q p=false->sH l=false:=λe=>ysb hlt (by rw[yaN hp hq,e,zbk]);refine⟨by unfold inI;omega,λh4=>⟨by unfold inI;omega,λh5=>?_,λh5=>?_⟩,λh4=>?_⟩
   .exact hbad2 (by simp[follows];omega)
   .have hf:follows q p=true:=by simp[follows,h4,h5]
    exact⟨by unfold inI;omega,j+2,⟨hlt,ylh hup (by rw[yaN hp hq,hpt,hf];rfl)⟩,by omega,by apply aB<;>simp;omega⟩
   .exact hbad2 (by simp[follows];omega)
 .refine yafw (aG hge) ?_;intro hlen;refine aA (bC l.length 2 20) (goQ_ ?_);have e:k=l.length:=by omega
  subst e;simp[sH,hup]
def amount(n:Int):Bool:=inRange n 0 1000000000
def sZ(r:Reach):Int:=r.ySh+r.ySk.sum
def xE(r:Reach):Bool:=sH r.ySg&&amount r.ySh&&decide (r.ySk.length<=12)&&r.ySk.all amount&&decide (sZ r<=1000000000)
def ymV:∀{l:List Int},(∀x∈l,amount x=true)->0<=l.sum
 |[],_=>by simp
 |x::l,h=>by
  have h1:=ymV (l:=l) λy hy=>h y (by simp[hy]);have h2:=aC.1 (show inRange x 0 1000000000=true from h x (by simp));simp only[zaM];omega
def yEJ{l:List Int}(k:Nat):l.sum=sumTo l k+(l.drop k).sum:=by
 unfold sumTo
 conv=>lhs;rw[<-zav k l]
 rw[zcB]
def yLb{r:Reach}{k:Nat}{x:Int}(hx:r.ySk[k]?=some x)(h:1000000000<r.ySh+sumTo r.ySk k+x):xE r=false:=by
 cases hr:xE r with
 |false=>rfl
 |true=>
  exfalso;simp only[xE,zad,zaf,decide_eq_true_eq]at hr;obtain⟨⟨_,h1⟩,h2⟩:=hr;have h3:=ymV (l:=r.ySk.drop (k+1)) λy hy=>h1 y (zaO hy);have h4:=yEJ (l:=r.ySk) (k+1);rw[nV hx]at h4;unfold sZ at h2;omega
def yxv{r:Reach}{k:Nat}{x:Int}(hx:r.ySk[k]?=some x)(h:amount x=false):xE r=false:=by
 have:r.ySk.all amount=false:=all_false (p:=amount) hx h;simp[xE,this]
def oL(r:Reach):qB prg 262 [.agg (r.enc.map .c)] (.c (.b (xE r))):=by
 refine dB ytQ (goQ_ ?_);refine aA (yg1 r.ySg) (goQ_ ?_);refine⟨λh1=>?_,λh1=>by simp[xE,h1]⟩;refine aA (iC r.ySh 0 1000000000) (goQ_ ?_);refine⟨λh2 hlen=>⟨λh3=>?_,λh3=>⟨?_,λ_=>?_⟩⟩,λh2=>by simp[xE,amount,h2]⟩
 .have:¬r.ySk.length<=12:=by omega
  simp[xE,this]
 .have:=aC.1 h2;unfold inI;omega
 have h2':=aC.1 h2;refine qA (ι:=Nat) (λk=>k<=r.ySk.length/\(∀n∈r.ySk.take k,amount n=true)/\0<=sumTo r.ySk k/\r.ySh+sumTo r.ySk k<=1000000000) (λk=>xC [(3,.c (.i (1000000000-r.ySh-sumTo r.ySk k))),(26,.c (.sl 1 (r.ySk.map qC))),(27,.c (.i r.ySk.length)),(28,.c (.i k))] []) (λk=>r.ySk.length-k) 0 ⟨by simp,by simp,by simp[aY],by simp only[aY];omega⟩ (by apply aB<;>simp[aY]) ?_
 rintro k ⟨hk,hall,hs0,hs⟩
 rcases yX1 k r.ySk with⟨hlt,x,hx⟩|hge
 .refine yaed hx (fC hlt) ?_;refine⟨λh4=>⟨λh5=>?_,λh5=>?_⟩,λh4=>?_⟩
  .exact yLb hx (by omega)
  .have ha:amount x=true:=aC.2 (by omega);have e1:=nV hx;refine⟨by unfold inI;omega,gB hlt hlen,k+1,⟨hlt,lD (p:=amount) hx hall ha,by rw[e1];omega,by rw[e1];omega⟩,by omega,?_⟩;apply aB<;>simp[e1];omega
  .exact yxv hx (gV.2 (by omega))
 .refine yafw (aG hge) ?_;have h6:=dF (p:=amount) hge hall;rw[yb4 hge]at hs;simp[xE,h1,show amount r.ySh=true from h2,h6,sZ,hs];omega
def yqW{l:List Int}(h:∀n∈l,amount n=true)(hl:l.length<=12)(k:Nat):0<=sumTo l k/\sumTo l k<=12000000000:=by
 have h1:=yk4 (l:=l.take k) (b:=1000000000) λx hx=>h x (zaw hx);have h2:(l.take k).length<=12:=by simp;omega
 unfold sumTo;omega
def yuT(r:Reach)(hv:amount r.ySh=true)(hl:r.ySk.length<=12)(hp:∀n∈r.ySk,amount n=true):qB prg 135 [.agg (r.enc.map .c)] (.c (.i (sZ r))):=by
 refine dB yvz ?_;have hv':=aC.1 (show inRange r.ySh 0 1000000000=true from hv);refine goQ_ ?_;refine yX2 (λk=>k<=r.ySk.length) (λk=>xC [(1,.box 1 0),(3,.c (.i (r.ySh+sumTo r.ySk k))),(4,.c (.i k))] [(1,.box (r.enc.map .c))]) (λk=>r.ySk.length-k) (by apply aB<;>simp[aY]) ?_
 rintro k hk
 rcases yX1 k r.ySk with⟨hlt,x,hx⟩|hge
 .have e1:=nV hx;have b1:=yqW hp hl (k+1);rw[e1]at b1;refine yaed hx (fC hlt) ?_;intro hlen;refine⟨by unfold inI;omega,gB hlt hlen,k+1,hlt,by omega,?_⟩;apply aB<;>simp[e1];omega
 .refine yafw (aG hge) ?_;intro _;rw[yb4 hge];rfl
def qN(r:Reach):qB prg 49 [.agg (r.enc.map .c)] (.c (.b (xE r))):=by
 refine dB yvf (goQ_ ?_);refine aA (yhk r.ySg) (goQ_ ?_);refine⟨λh1=>?_,λh1=>by simp[xE,h1]⟩;refine aA (bC r.ySh 0 1000000000) (goQ_ ?_);refine⟨λh2 hlen=>⟨λh3=>?_,λh3=>?_⟩,λh2=>by simp[xE,amount,h2]⟩
 .have:¬r.ySk.length<=12:=by omega
  simp[xE,this]
 refine qA (ι:=Nat) (λk=>k<=r.ySk.length/\(∀n∈r.ySk.take k,amount n=true)) (λk=>xC [(1,.box 1 0),(3,.c (.i k))] [(1,.box (r.enc.map .c))]) (λk=>r.ySk.length-k) 0 ⟨by simp,by simp⟩ (by apply aB<;>simp) ?_
 rintro k ⟨hk,hall⟩
 rcases yX1 k r.ySk with⟨hlt,x,hx⟩|hge
 .refine yaed hx (fC hlt) ?_;intro _;refine aA (bC x 0 1000000000) (goQ_ ?_);refine⟨λh4=>yxv hx h4,λh4=>?_⟩;exact⟨gB hlt hlen,k+1,⟨hlt,lD (p:=amount) hx hall h4⟩,by omega,by apply aB<;>simp⟩
 .refine yafw (aG hge) ?_;intro _;have h6:=dF (p:=amount) hge hall;refine aA (yuT r h2 (by omega) (zaf.1 h6)) (goQ_ ?_);have h3':r.ySk.length<=12:=by omega
  simp[xE,h1,show amount r.ySh=true from h2,h6,h3']
def yDt{α:Type}{p:α->Bool}:∀{l:List α} {k:Nat} {q:α},k<=(l.takeWhile p).length->l[k]?=some q->p q=true->k+1<=(l.takeWhile p).length
 |[],k,q,_,h,_=>by simp at h
 |x::l,0,q,_,h,hq=>by
  simp at h;subst h;simp[zbw,hq]
 | x::l,k+1,q,hk,h,hq=>by
  rw[zbw]at hk|-;split at hk
  .rename_i hx;rw[if_pos hx];have:=yDt (l:=l) (k:=k) (by simpa using hk) (by simpa using h) hq;simp only[zar];omega
  .simp at hk
def yDB{α:Type}{p:α->Bool}:∀{l:List α} {k:Nat} {q:α},k<=(l.takeWhile p).length->l[k]?=some q->p q=false->(l.takeWhile p).length=k
 |[],k,q,_,h,_=>by simp at h
 |x::l,0,q,_,h,hq=>by
  simp at h;subst h;simp[zbw,hq]
 | x::l,k+1,q,hk,h,hq=>by
  rw[zbw]at hk|-;split at hk
  .rename_i hx;rw[if_pos hx];have:=yDB (l:=l) (k:=k) (by simpa using hk) (by simpa using h) hq;simp only[zar];omega
  .simp at hk
def seg(l:List ySc)(x:Int):Nat:=(l.tail.takeWhile λq=>decide (q.X<=x)).length
def seg_next{l:List ySc}{x:Int}{k:Nat}{q:ySc}(hk:k<=seg l x)(hq:l[k+1]?=some q)(h:q.X<=x):k+1<=seg l x:=
 yDt hk (by rw[zcT];exact hq) (by simp[h])
def yz3{l:List ySc}{x:Int}{k:Nat}{q:ySc}(hk:k<=seg l x)(hq:l[k+1]?=some q)(h:x<q.X):seg l x=k:=
 yDB hk (by rw[zcT];exact hq) (by simp;omega)
def yuC{l:List ySc}:∀{n k:Nat},upTo l n=true->k<n->yhG l k=true
 |0,k,_,h=>by omega
 | n+1,k,h,hk=>by
  simp only[upTo,zad]at h;rcases zas k n with h1|h1
  .exact yuC h.1 h1
  .have:k=n:=by omega
   subst this;exact h.2
structure ySr(l:List ySc):Prop where
 len:2<=l.length/\l.length<=20
 pt:∀(k:Nat) (p:ySc),l[k]?=some p->(0<=p.X/\p.X<=1000000000)/\(0<=p.Y/\p.Y<=1000000000)
 up:∀(k:Nat) (p q:ySc),l[k]?=some p->l[k+1]?=some q->p.X<q.X/\p.Y<=q.Y
def ycc{l:List ySc}(h:sH l=true):ySr l:=by
 simp only[sH,zad]at h;obtain⟨h1,h2⟩:=h;have h3:=aC.1 h2;refine⟨by omega,λk p hp=>?_,λk p q hp hq=>?_⟩
 .have hk:=(zaa.1 hp).1;have hs:=yuC h1 hk
  have:yd3 p=true:=by
   cases k with
   |zero=>rw[ygB hp]at hs;exact hs
   |succ j=>
    rw[yaN hp (zab (by omega)),zad]at hs;exact hs.1
  simp only[yd3,zad]at this;exact⟨aC.1 this.1,aC.1 this.2⟩
 .have hk:=(zaa.1 hq).1;have hs:=yuC h1 hk;rw[yaN hq hp,zad]at hs;have:=hs.2;simpa[follows]using this
def yi8(p q:ySc)(x:Int):Int:=p.Y+((x-p.X)*(q.Y-p.Y)).tdiv (q.X-p.X)
def fO(l:List ySc)(k:Nat):ySc:=l[k]?.getD default
def xM{l:List ySc}{k:Nat}{p:ySc}(h:l[k]?=some p):fO l k=p:=by simp[fO,h]
def fH(l:List ySc)(x:Int):Int:=
 if sH l then if x<=(fO l 0).X then(fO l 0).Y else if(fO l (l.length-1)).X<=x then(fO l (l.length-1)).Y else yi8 (fO l (seg l x)) (fO l (seg l x+1)) x
 else 0
def yA5{l:List ySc}(tf:ySr l){k:Nat}{p q:ySc}(hp:l[k]?=some p)(hq:l[k+1]?=some q){x v:Int}(hx:p.X<=x)(h4:x<q.X)(hv:v=p.Y+((x-p.X)*(q.Y-p.Y)).tdiv (q.X-p.X)):
 inI (x-p.X)/\inI (q.Y-p.Y)/\inI ((x-p.X)*(q.Y-p.Y))/\inI (q.X-p.X)/\¬q.X-p.X=0/\inI (((x-p.X)*(q.Y-p.Y)).tdiv (q.X-p.X))/\inI (p.Y+((x-p.X)*(q.Y-p.Y)).tdiv (q.X-p.X))/\v=p.Y+((x-p.X)*(q.Y-p.Y)).tdiv (q.X-p.X):=by
 have b1:=tf.pt k p hp;have b2:=tf.pt (k+1) q hq;have b3:=tf.up k p q hp hq;have c1:0<=(x-p.X)*(q.Y-p.Y):=zcx (by omega) (by omega);have c2:(x-p.X)*(q.Y-p.Y)<=1000000000*1000000000:=zde (by omega) (by omega) (by omega) (by omega);have c3:((x-p.X)*(q.Y-p.Y)).tdiv (q.X-p.X)=((x-p.X)*(q.Y-p.Y))/(q.X-p.X):=zaG c1;have c4:0<=((x-p.X)*(q.Y-p.Y))/(q.X-p.X):=zcV c1 (by omega);have c5:((x-p.X)*(q.Y-p.Y))/(q.X-p.X)<=(x-p.X)*(q.Y-p.Y):=zcM _ c1;refine⟨by unfold inI;omega,by unfold inI;omega,by unfold inI;omega,by unfold inI;omega,by omega,?_,?_,hv⟩
 .rw[c3];unfold inI;omega
 .rw[c3];unfold inI;omega
def yxT(l:List ySc)(x:Int):qB prg 182 [.c (.sl 2 (l.map ySc.enc)),.c (.i x)] (.c (.i (fH l x))):=by
 refine dB yt8 (goQ_ ?_);refine aA (yg1 l) ?_;cases h1:sH l with
 |false=>
  refine goQ_ ?_;simp[fH,h1]
 | true=>
  have tf:=ycc h1;obtain⟨hl1,hl2⟩:=tf.len;obtain⟨p0,e0⟩:∃p,l[0]?=some p:=⟨_,zab (by omega)⟩;obtain⟨pe,ee⟩:∃p,l[l.length-1]?=some p:=⟨_,zab (by omega)⟩;have f0:=(zaa.1 e0).2;have l0:0<l.length:=by omega
  have l1:(1:Int)<=l.length:=by omega
  have l2:(l.length:Int)-1<l.length:=by omega
  have l3:inI ((l.length:Int)-1):=by unfold inI;omega
  refine yafn e0 ee f0 l0 l1 l2 l3 ?_;have a0:fO l 0=p0:=xM e0;have ae:fO l (l.length-1)=pe:=xM ee
  refineλ_=>⟨λh2=>by simp[fH,h1,a0,h2],λh2=>⟨λh3=>?_,λh3=>?_⟩⟩
  .have:¬x<=p0.X:=by omega
   simp[fH,h1,a0,ae,this,h3]
  have hv:fH l x=yi8 (fO l (seg l x)) (fO l (seg l x+1)) x:=by
   have g1:¬x<=p0.X:=by omega
   have g2:¬pe.X<=x:=by omega
   simp[fH,h1,a0,ae,g1,g2]
  refine qA (ι:=Nat) (λk=>k+2<=l.length/\k<=seg l x/\(fO l k).X<=x) (λk=>xC [(0,.c (.sl 2 (l.map ySc.enc))),(1,.c (.i x)),(6,.c (.i k))] []) (λk=>l.length-k) 0 ⟨hl1,zbu _,by rw[a0];omega⟩ (by apply aB<;>simp) ?_
  rintro k ⟨hk,hs,hx⟩
  obtain⟨p,hp⟩:∃p,l[k]?=some p:=⟨_,zab (by omega)⟩;obtain⟨q,hq⟩:∃p,l[k+1]?=some p:=⟨_,zab (by omega)⟩;rw[xM hp]at hx;have i1:(k:Int)+1<l.length:=by omega
  have i2:(k:Int)<l.length:=by omega
  have i3:(0:Int)<=k+1:=by omega
  have i4:((k:Int)+1).toNat=k+1:=by omega
  have i5:inI ((k:Int)+1):=by unfold inI;omega
  refine yafn hp hq i1 i2 i3 i4 i5 ?_;refine⟨λh4=>⟨k+1,⟨?_,seg_next hs hq h4,by rw[xM hq];exact h4⟩,by omega,by apply aB<;>simp⟩,λh4=>?_⟩
  .rcases zas (k+2) l.length with g|g
   .omega
   .have e:l.length-1=k+1:=by omega
    rw[e,hq]at ee;cases ee;omega
  .exact yA5 tf hp hq hx h4 (by rw[hv,yz3 hs hq h4,xM hp,xM hq];rfl)
def yxU(l:List ySc)(x:Int):qB prg 48 [.c (.sl 2 (l.map ySc.enc)),.c (.i x)] (.c (.i (fH l x))):=by
 refine dB yuG (goQ_ ?_);refine aA (yhk l) ?_;cases h1:sH l with
 |false=>
  refine goQ_ ?_;simp[fH,h1]
 | true=>
  have tf:=ycc h1;obtain⟨hl1,hl2⟩:=tf.len;obtain⟨p0,e0⟩:∃p,l[0]?=some p:=⟨_,zab (by omega)⟩;obtain⟨pe,ee⟩:∃p,l[l.length-1]?=some p:=⟨_,zab (by omega)⟩;have f0:=(zaa.1 e0).2;have l0:0<l.length:=by omega
  have l1:(1:Int)<=l.length:=by omega
  have l2:(l.length:Int)-1<l.length:=by omega
  have l3:inI ((l.length:Int)-1):=by unfold inI;omega
  refine yafn e0 ee f0 l0 l1 l2 l3 ?_;have a0:fO l 0=p0:=xM e0;have ae:fO l (l.length-1)=pe:=xM ee
  refineλ_=>⟨λh2=>by simp[fH,h1,a0,h2],λh2=>⟨λh3=>?_,λh3=>?_⟩⟩
  .have:¬x<=p0.X:=by omega
   simp[fH,h1,a0,ae,this,h3]
  have hv:fH l x=yi8 (fO l (seg l x)) (fO l (seg l x+1)) x:=by
   have g1:¬x<=p0.X:=by omega
   have g2:¬pe.X<=x:=by omega
   simp[fH,h1,a0,ae,g1,g2]
  refine qA (ι:=Nat) (λk=>k+2<=l.length/\k<=seg l x/\(fO l k).X<=x) (λk=>xC [(0,.c (.sl 2 (l.map ySc.enc))),(1,.c (.i x)),(6,.c (.i k))] []) (λk=>l.length-k) 0 ⟨hl1,zbu _,by rw[a0];omega⟩ (by apply aB<;>simp) ?_
  rintro k ⟨hk,hs,hx⟩
  obtain⟨p,hp⟩:∃p,l[k]?=some p:=⟨_,zab (by omega)⟩;obtain⟨q,hq⟩:∃p,l[k+1]?=some p:=⟨_,zab (by omega)⟩;rw[xM hp]at hx;have i1:(k:Int)+1<l.length:=by omega
  have i2:(k:Int)<l.length:=by omega
  have i3:(0:Int)<=k+1:=by omega
  have i4:((k:Int)+1).toNat=k+1:=by omega
  have i5:inI ((k:Int)+1):=by unfold inI;omega
  refine yafn hp hq i1 i2 i3 i4 i5 ?_;refine⟨λh4=>⟨k+1,⟨?_,seg_next hs hq h4,by rw[xM hq];exact h4⟩,by omega,by apply aB<;>simp⟩,λh4=>?_⟩
  .rcases zas (k+2) l.length with g|g
   .omega
   .have e:l.length-1=k+1:=by omega
    rw[e,hq]at ee;cases ee;omega
  .exact yA5 tf hp hq hx h4 (by rw[hv,yz3 hs hq h4,xM hp,xM hq];rfl)
def least(f:Int->Bool)(lo:Int):Nat->Int
 |0=>lo
 |n+1=>if f lo then lo else least f (lo+1) n
def yAN{f:Int->Bool}:∀{n:Nat} {lo p:Int},lo<=p->p<=lo+n->f p=true->(∀z,lo<=z->z<p->f z=false)->least f lo n=p
 |0,lo,p,h1,h2,h3,h4=>by simp only[least];omega
 | n+1,lo,p,h1,h2,h3,h4=>by
  simp only[least]
  by_cases e:lo=p
  .subst e;rw[if_pos h3]
  .rw[if_neg (by rw[h4 lo (zbj _) (by omega)];simp)];exact yAN (by omega) (by omega) h3 λz hz1 hz2=>h4 z (by omega) hz2
def yEE{a b d:Int}(ha:0<=a)(hab:a<=b)(hd:0<d):a.tdiv d<=b.tdiv d:=by
 rw[zaG ha,zaG (by omega)];exact Int.ediv_le_ediv hd hab
def ym6{l:List ySc}(tf:ySr l){k:Nat}{p q:ySc}(hp:l[k]?=some p)(hq:l[k+1]?=some q){x y:Int}(hx:p.X<=x)(hxy:x<=y):yi8 p q x<=yi8 p q y:=by
 have b3:=tf.up k p q hp hq;unfold yi8;have c1:0<=(x-p.X)*(q.Y-p.Y):=zcx (by omega) (by omega);have c2:(x-p.X)*(q.Y-p.Y)<=(y-p.X)*(q.Y-p.Y):=Int.mul_le_mul_of_nonneg_right (by omega) (by omega);have:=yEE c1 c2 (show 0<q.X-p.X by omega);omega
def yBJ{l:List ySc}(tf:ySr l){k:Nat}{p q:ySc}(hp:l[k]?=some p)(hq:l[k+1]?=some q):yi8 p q p.X=p.Y/\yi8 p q q.X=q.Y:=by
 have b3:=tf.up k p q hp hq;unfold yi8;refine⟨by simp,?_⟩;rw[Int.mul_tdiv_cancel_left _ (by omega)];omega
def yGq{α:Type}{p:α->Bool}:∀{l:List α} {i:Nat} {q:α},i<(l.takeWhile p).length->l[i]?=some q->p q=true
 |[],i,q,h,_=>by simp at h
 | x::l,i,q,h,hq=>by
  rw[zbw]at h;split at h
  .rename_i hx;cases i with
   |zero=>simp at hq;subst hq;exact hx
   |succ i=>exact yGq (l:=l) (i:=i) (by simpa using h) (by simpa using hq)
  .simp at h
def yF9{α:Type}{p:α->Bool}:∀{l:List α} {q:α},l[(l.takeWhile p).length]?=some q->p q=false
 |[],q,h=>by simp at h
 | x::l,q,h=>by
  rw[zbw]at h;split at h
  .exact yF9 (l:=l) (by simpa using h)
  .rename_i hx;simp at h;subst h;simpa using hx
def ycy{l:List ySc}(tf:ySr l):∀{j i:Nat} {p q:ySc},i<=j->l[i]?=some p->l[j]?=some q->p.X<=q.X/\p.Y<=q.Y
 |0,i,p,q,h,hp,hq=>by
  have:i=0:=by omega
  subst this;rw[hp]at hq;cases hq;omega
 | j+1,i,p,q,h,hp,hq=>by
  rcases zas j i with h1|h1
  .have:i=j+1:=by omega
   subst this;rw[hp]at hq;cases hq;omega
  .have hj:=(zaa.1 hq).1;obtain⟨r,hr⟩:∃r,l[j]?=some r:=⟨_,zab (by omega)⟩;have e1:=ycy tf h1 hp hr;have e2:=tf.up j r q hr hq;omega
def yLY{l:List ySc}(tf:ySr l){x:Int}(h0:(fO l 0).X<=x)(h1:x<(fO l (l.length-1)).X):∃p q,l[seg l x]?=some p/\l[seg l x+1]?=some q/\p.X<=x/\x<q.X:=by
 obtain⟨hl1,hl2⟩:=tf.len
 have hlen:seg l x<=l.length-1:=by
  unfold seg;have:=(List.takeWhile_sublist (λq:ySc=>decide (q.X<=x)) (l:=l.tail)).length_le;simpa using this
 obtain⟨e,he⟩:∃e,l[l.length-1]?=some e:=⟨_,zab (by omega)⟩;rw[xM he]at h1
 have hp:∀p,l[seg l x]?=some p->p.X<=x:=by
  intro p hp;cases hs:seg l x with
  |zero=>rw[hs]at hp;rw[xM hp]at h0;exact h0
  |succ j=>
   rw[hs]at hp;have:=yGq (p:=λq:ySc=>decide (q.X<=x)) (l:=l.tail) (i:=j) (q:=p) (by show j<seg l x;omega) (by rw[zcT];exact hp);simpa using this
 have hlt:seg l x<l.length-1:=by
  rcases zas (seg l x) (l.length-1)with h|h
  .exact h
  .have e1:seg l x=l.length-1:=by omega
   have:=hp e (by rw[e1];exact he);omega
 obtain⟨p,hp'⟩:∃p,l[seg l x]?=some p:=⟨_,zab (by omega)⟩;obtain⟨q,hq'⟩:∃p,l[seg l x+1]?=some p:=⟨_,zab (by omega)⟩;refine⟨p,q,hp',hq',hp p hp',?_⟩;have:=yF9 (p:=λq:ySc=>decide (q.X<=x)) (l:=l.tail) (q:=q) (by rw[zcT];exact hq');simp at this;omega
def yAT{l:List ySc}(h:sH l=true){x:Int}(h0:(fO l 0).X<x)(h1:x<(fO l (l.length-1)).X):fH l x=yi8 (fO l (seg l x)) (fO l (seg l x+1)) x:=by
 have g1:¬x<=(fO l 0).X:=by omega
 have g2:¬(fO l (l.length-1)).X<=x:=by omega
 simp[fH,h,g1,g2]
def yho{l:List ySc}(h:sH l=true){x:Int}(h0:x<=(fO l 0).X):fH l x=(fO l 0).Y:=by simp[fH,h,h0]
def yg4{l:List ySc}(h:sH l=true){x:Int}(h1:(fO l (l.length-1)).X<=x):fH l x=(fO l (l.length-1)).Y:=by
 have tf:=ycc h;obtain⟨hl1,hl2⟩:=tf.len;obtain⟨e,he⟩:∃e,l[l.length-1]?=some e:=⟨_,zab (by omega)⟩;obtain⟨p,hp⟩:∃e,l[0]?=some e:=⟨_,zab (by omega)⟩;obtain⟨q,hq⟩:∃e,l[1]?=some e:=⟨_,zab (by omega)⟩;have e1:=tf.up 0 p q hp hq;have e2:=ycy tf (show 1<=l.length-1 by omega) hq he;have g1:¬x<=(fO l 0).X:=by rw[xM hp];rw[xM he]at h1;omega
 simp[fH,h,g1,h1]
def yjZ{l:List ySc}(h:sH l=true){x:Int}(h0:(fO l 0).X<x)(h1:x<(fO l (l.length-1)).X):
 ∃p q,l[seg l x]?=some p/\l[seg l x+1]?=some q/\p.X<=x/\x<q.X/\fH l x=yi8 p q x/\p.Y<=fH l x/\fH l x<=q.Y:=by
 have tf:=ycc h;obtain⟨p,q,e1,e2,e3,e4⟩:=yLY tf (zem h0) h1;have hv:=yAT h h0 h1;rw[xM e1,xM e2]at hv;have hen:=yBJ tf e1 e2;have m1:=ym6 tf e1 e2 (zbj _) e3;have m2:=ym6 tf e1 e2 e3 (zem e4);exact⟨p,q,e1,e2,e3,e4,hv,by rw[hv];omega,by rw[hv];omega⟩
def yGW{l:List ySc}(tf:ySr l){x y:Int}(hxy:x<=y){p q:ySc}(hp:l[seg l x]?=some p)(hx:p.X<=x)(hq:l[seg l y+1]?=some q)(hy:y<q.X):seg l x<=seg l y:=by
 rcases zas (seg l y) (seg l x)with h|h
 .have:=ycy tf (show seg l y+1<=seg l x by omega) hq hp;omega
 .exact h
def yo0{l:List ySc}(h:sH l=true){x y:Int}(hxy:x<=y):fH l x<=fH l y:=by
 have tf:=ycc h;obtain⟨hl1,hl2⟩:=tf.len;obtain⟨e,he⟩:∃e,l[l.length-1]?=some e:=⟨_,zab (by omega)⟩;obtain⟨f,hf⟩:∃e,l[0]?=some e:=⟨_,zab (by omega)⟩;have hfe:=ycy tf (zbu _) hf he;rcases zcF (fO l 0).X y with hy|hy
 .rcases zcF y (fO l (l.length-1)).X with hy2|hy2
  .obtain⟨p',q',a1,a2,a3,a4,a5,a6,a7⟩:=yjZ h hy hy2;rcases zcF (fO l 0).X x with hx|hx
   .obtain⟨p,q,b1,b2,b3,b4,b5,b6,b7⟩:=yjZ h hx (by omega);have hs:=yGW tf hxy b1 b3 a2 a4;rcases zas (seg l x) (seg l y)with hlt|hge
    .have:=ycy tf (show seg l x+1<=seg l y by omega) b2 a1;omega
    .have e1:seg l x=seg l y:=by omega
     rw[e1]at b1 b2;rw[b1]at a1;cases a1;rw[b2]at a2;cases a2;rw[a5,b5];exact ym6 tf b1 b2 b3 hxy
   .rw[yho h hx,xM hf];have:=ycy tf (zbu _) hf a1;omega
  .rw[yg4 h hy2,xM he];rcases zcF (fO l 0).X x with hx|hx
   .rcases zcF x (fO l (l.length-1)).X with hx2|hx2
    .obtain⟨p,q,b1,b2,b3,b4,b5,b6,b7⟩:=yjZ h hx hx2;have hk:=(zaa.1 b2).1;have:=ycy tf (show seg l x+1<=l.length-1 by omega) b2 he;omega
    .rw[yg4 h hx2,xM he];omega
   .rw[yho h hx,xM hf];omega
 .rw[yho h hy,yho h (by omega)];omega
def gU(l:List ySc)(y:Int):Int×Bool:=
 if sH l=true/\y<=(fO l (l.length-1)).Y then(least (λz=>decide (y<=fH l z)) (fO l 0).X ((fO l (l.length-1)).X-(fO l 0).X).toNat,true)else(0,false)
def yun{l:List ySc}{y:Int}(h:sH l=false):gU l y=(0,false):=by simp[gU,h]
def yq1{l:List ySc}{y:Int}(h:(fO l (l.length-1)).Y<y):gU l y=(0,false):=by
 have:¬y<=(fO l (l.length-1)).Y:=by omega
 simp[gU,this]
def yu1{l:List ySc}{y p:Int}(h:sH l=true)(hy:y<=(fO l (l.length-1)).Y)(h0:(fO l 0).X<=p)(h1:p<=(fO l (l.length-1)).X)(hp:y<=fH l p)(hz:∀z,(fO l 0).X<=z->z<p->fH l z<y):gU l y=(p,true):=by
 simp only[gU,h,hy,and_self,if_true];rw[yAN (p:=p) h0 (by omega) (by simp[hp]) λz z1 z2=>by have:=hz z z1 z2;simp;omega]
def ybO{l:List ySc}(h1:sH l=true):∃p0 pe,l[0]?=some p0/\l[l.length-1]?=some pe/\fO l 0=p0/\fO l (l.length-1)=pe/\0<=p0.X/\p0.X<=pe.X/\pe.X<=1000000000/\2<=l.length/\l.length<=20/\0<=pe.Y/\pe.Y<=1000000000:=by
 have tf:=ycc h1;obtain⟨hl1,hl2⟩:=tf.len;obtain⟨p0,e0⟩:∃p,l[0]?=some p:=⟨_,zab (by omega)⟩;obtain⟨pe,ee⟩:∃p,l[l.length-1]?=some p:=⟨_,zab (by omega)⟩;have b1:=tf.pt _ _ e0;have b2:=tf.pt _ _ ee;have b3:=ycy tf (zbu _) e0 ee;exact⟨p0,pe,e0,ee,xM e0,xM ee,b1.1.1,b3.1,b2.1.2,hl1,hl2,b2.2.1,b2.2.2⟩
def yy0(l:List ySc)(y:Int):qB prg 271 [.c (.sl 2 (l.map ySc.enc)),.c (.i y)] (.tup [.c (.i (gU l y).1),.c (.b (gU l y).2)]):=by
 refine dB ysS (goQ_ ?_);refine aA (yg1 l) ?_;cases h1:sH l with
 |false=>
  refine goQ_ ?_;simp[yun h1]
 | true=>
  obtain⟨p0,pe,e0,ee,a0,ae,b1,b2,b3,hl1,hl2,b4,b5⟩:=ybO h1;have f0:=(zaa.1 e0).2;have l0:0<l.length:=by omega
  have l1:(1:Int)<=l.length:=by omega
  have l2:(l.length:Int)-1<l.length:=by omega
  have l3:inI ((l.length:Int)-1):=by unfold inI;omega
  refine yafn e0 ee f0 l0 l1 l2 l3 ?_
  refineλ_=>⟨λh2=>?_,λh2 _=>?_⟩
  .simp[yq1 (show(fO l (l.length-1)).Y<y by rw[ae];exact h2)]
  have hy:y<=(fO l (l.length-1)).Y:=by rw[ae];omega
  have he:y<=fH l pe.X:=by rw[yg4 h1 (by rw[ae];exact zbj _),ae];rw[ae]at hy;exact hy
  have hz:∀z,p0.X<=z->z<p0.X->fH l z<y:=λz z1 z2=>absurd z2 (by omega);have hz':∀z,p0.X<=z->z<=p0.X-1->fH l z<y:=λz z1 z2=>absurd z2 (by omega);refine qA (ι:=Int×Int) (λp=>p0.X<=p.1/\p.1<=p.2/\p.2<=pe.X/\y<=fH l p.2/\∀z,p0.X<=z->z<p.1->fH l z<y) (λp=>xC [(0,.c (.sl 2 (l.map ySc.enc))),(1,.c (.i y)),(6,.c (.i p.1)),(7,.c (.i p.2))] []) (λp=>(p.2-p.1).toNat) (p0.X,pe.X) ⟨zbj _,b2,zbj _,he,hz⟩ (by apply aB<;>simp) ?_
  rintro⟨lo,hi⟩ ⟨c1,c2,c3,c4,c5⟩
  simp only at c1 c2 c3 c4 c5;have hq:(lo+hi).tdiv 2=(lo+hi)/2:=zaG (by omega);refine goQ_ ?_;refine⟨λh4=>⟨by unfold inI;omega,by rw[hq];unfold inI;omega,?_⟩,λh4=>?_⟩
  .refine mD (yxT l ((lo+hi).tdiv 2)) (by simp) rfl (goQ_ ?_);rw[hq];refine⟨λh5=>?_,λh5=>?_⟩
   .exact⟨lo,(lo+hi)/2,⟨c1,by omega,by omega,h5,c5⟩,by omega,by apply aB<;>simp⟩
   .refine⟨by unfold inI;omega,(lo+hi)/2+1,hi,⟨by omega,by omega,c3,c4,λz z1 z2=>?_⟩,by omega,by apply aB<;>simp⟩;have:=yo0 h1 (show z<=(lo+hi)/2 by omega);omega
  .have e:hi=lo:=by omega
   subst e;rw[yu1 h1 hy (by rw[a0];exact c1) (by rw[ae];exact c3) c4 (by rw[a0];exact c5)];simp
def yzL{l:List ySc}{y:Int}(h:(gU l y).2=true):sH l=true/\0<=(gU l y).1/\(gU l y).1<=1000000000:=by
 unfold gU at h|-;split at h
 .rename_i hh;obtain⟨p0,pe,e0,ee,a0,ae,b1,b2,b3,hl1,hl2,b4,b5⟩:=ybO hh.1;rw[if_pos hh]
  have:∀(f:Int->Bool) (n:Nat) (lo:Int),lo<=least f lo n/\least f lo n<=lo+n:=by
   intro f n
   induction n with
   |zero=>intro lo;simp[least]
   |succ n ih=>
    intro lo;simp only[least];have:=ih (lo+1);split<;>omega
  have:=this (λz=>decide (y<=fH l z)) ((fO l (l.length-1)).X-(fO l 0).X).toNat (fO l 0).X;rw[a0,ae]at this;simp only[a0,ae];exact⟨hh.1,by omega,by omega⟩
 .simp at h
def kD(r:Reach):Int:=if xE r then(if(gU r.ySg r.ySh).2 then(gU r.ySg r.ySh).1 else(fO r.ySg (r.ySg.length-1)).X)else 0
def kM(r:Reach):0<=kD r/\kD r<=1000000000:=by
 unfold kD;split
 .rename_i h;have ht:sH r.ySg=true:=by simp[xE]at h;exact h.1.1.1.1
  obtain⟨p0,pe,e0,ee,a0,ae,b1,b2,b3,hl1,hl2,b4,b5⟩:=ybO ht;split
  .rename_i hp;have:=yzL hp;omega
  .rw[ae];omega
 .omega
def qL(r:Reach):qB prg 178 [.agg (r.enc.map .c)] (.c (.i (kD r))):=by
 refine dB ysy (goQ_ ?_);refine aA (oL r) ?_;cases h:xE r with
 |false=>simp -dsimp -implicitDefEqProofs;simp[kD,h]
 | true=>
  have ht:sH r.ySg=true:=by simp[xE]at h;exact h.1.1.1.1
  obtain⟨p0,pe,e0,ee,a0,ae,b1,b2,b3,hl1,hl2,b4,b5⟩:=ybO ht;refine goQ_ ?_;refine aA (yy0 r.ySg r.ySh) ?_;cases hp:(gU r.ySg r.ySh).2 with
  |false=>
   have l2:(r.ySg.length:Int)-1<r.ySg.length:=by omega
   have l3:inI ((r.ySg.length:Int)-1):=by unfold inI;omega
   have l1:(1:Int)<=r.ySg.length:=by omega
   refine yaff hp ee l1 l2 l3 ?_;intro _;simp[kD,h,hp,ae]
  |true=>simp -dsimp -implicitDefEqProofs [hp];simp[kD,h,hp]
def yTp(w:Way)(r:Reach):Int:=if ykM w=true/\xE r=true then(if 0<kD r-w.Bed then kD r-w.Bed else 0)else 0
def yVz{w:Way}(h:ykM w=true):(1<=w.Long/\w.Long<=10000)/\0<=w.Bed/\w.Bed<=100000:=by
 simp only[ykM,zad]at h;exact⟨aC.1 h.1,aC.1 h.2⟩
def yWO(w:Way)(r:Reach):qB prg 264 [.agg (w.enc.map .c),.agg (r.enc.map .c)] (.c (.i (yTp w r))):=by
 refine dB yV7 (goQ_ ?_);refine aA (ysY w) (goQ_ ?_);refine⟨λh1=>?_,λh1=>by simp[yTp,h1]⟩;refine aA (oL r) (goQ_ ?_);refine⟨λh2=>by simp[yTp,h2],λh2=>?_⟩;refine lC (qL r) (goQ_ ?_);have hl:=kM r;have hb:=yVz h1;exact⟨by unfold inI;omega,by simp[yTp,h1,h2]⟩
@[simp] def yR6.iD(e:yR6):List C:=[.b e.yRT.Up,.ot 1 (e.yRT.Rows.map jF),.i e.Place]
def yR6.bF(e:yR6):dO e.iD=some e.enc:=by simp[yR6.iD,dO,yY yI]
def mkPt(k:Int):List C:=[.i k,.i (k+1)]
@[simp] def Reach.iD(e:Reach):List C:=[.ow 2 (e.ySg.map ySc.enc),.i e.ySh,.ow 1 (e.ySk.map qC)]
def Reach.bF(e:Reach):dO e.iD=some e.enc:=by simp[Reach.iD,dO,C.shr]
def fM(k:Int)(e:yR6):List C:=[.b (decide (k.tmod 3=0)),.ot 1 (dH fB nB (k+1) e.yRT.Rows),.i (k+1+cnt nB e.yRT.Rows)]
def nM(e:yR6):Nat:=1+cnt nB e.yRT.Rows+1
def yHX{t:yRT}(h:ySw t):t.Rows.length<=6:=by
 have:∀l:List (List ySa),(∀r∈l,full r=true)->l.length<=l.flatten.length:=by
  intro l
  induction l with
  |nil=>simp
  |cons r l ih=>
   intro hl;have e1:=ih λx hx=>hl x (by simp[hx]);have e2:=yky.1 (hl r (by simp));simp only[zar,zcZ,zah];omega
 have h1:=this t.Rows h.rows;have h2:=h.len;unfold yRT.qE at h2;omega
def ylj{t:yRT}(h:ySw t){k:Nat}{r:List ySa}(hr:t.Rows[k]?=some r):1<=r.length/\r.length<=6/\∀b∈r,iL b=true:=by
 have h1:=yky.1 (h.rows r (zac hr));obtain⟨m,e⟩:=yqU hr;have h2:=h.len;rw[e]at h2;simp only[zah]at h2;exact⟨by omega,by omega,λb hb=>h.ok b (by rw[e];simp[hb])⟩
def sumF{α:Type}(f:α->Int)(l:List α)(k:Nat):Int:=((l.take k).map f).sum
def yca{α:Type}{f:α->Int}{l:List α}:sumF f l 0=0:=rfl
def yfQ{α:Type}{f:α->Int}{l:List α}{k:Nat}{x:α}(h:l[k]?=some x):sumF f l (k+1)=sumF f l k+f x:=by
 unfold sumF;rw[zao,h,zaD,zcB];simp
def ygX{α:Type}{f:α->Int}{l:List α}{k:Nat}(h:l.length<=k):sumF f l k=(l.map f).sum:=by
 unfold sumF;rw[zae h]
def yx7{α:Type}{f:α->Int}{l:List α}{c:Int}(hc:0<=c)(h:∀x∈l,0<=f x/\f x<=c):∀k:Nat,0<=sumF f l k/\sumF f l k<=c*k
 |0=>by simp[yca]
 | k+1=>by
  have ih:=yx7 hc h k;have e:c*((k+1:Nat):Int)=c*k+c:=by rw[zdQ,zcE];simp
  cases hk:l[k]? with
  |none=>
   have:l.length<=k:=by simpa using hk
   have e2:sumF f l (k+1)=sumF f l k:=by unfold sumF;rw[zae (by omega),zae this]
   rw[e2,e];omega
  |some x=>
   have:=h x (zac hk);rw[yfQ hk,e];omega
def rowLen(r:List ySa):Int:=maxOf ySa.Length r 0
def aI(t:yRT):Int:=if oC t then(t.Rows.map rowLen).sum else 0
def yEg{r:List ySa}(h:∀b∈r,iL b=true):0<=rowLen r/\rowLen r<=200:=
 yuz (λx hx=>by have:=ygR (h x hx);omega) (by omega) (by omega)
def yke{t:yRT}(h:ySw t){k:Nat}(hk:k<=t.Rows.length):0<=sumF rowLen t.Rows k/\sumF rowLen t.Rows k<=1200:=by
 have h1:=yx7 (f:=rowLen) (l:=t.Rows) (c:=200) (by omega) (λr hr=>by
  obtain⟨i,hi⟩:=zat hr;exact yEg (ylj h hi).2.2) k
 have:=yHX h;omega
def yfk(t:yRT):0<=aI t/\aI t<=1200:=by
 unfold aI;split
 .rename_i h;have:=yke (lK h) (Nat.le_refl _);rw[ygX (Nat.le_refl _)]at this;exact this
 .omega
def ymp(t:yRT)(h:t.small):qB prg 259 [.agg (t.enc.map .c)] (.c (.i (aI t))):=by
 refine dB yrW (goQ_ ?_);refine aA (gK t h) (goQ_ ?_);refine⟨λh1=>by simp[aI,h1],λh1 hlen=>?_⟩;have tf:=lK h1;refine yX2 (λk=>k<=t.Rows.length) (λk=>xC [(3,.c (.i (sumF rowLen t.Rows k))),(13,.c (.sl 1 (t.Rows.map jE))),(14,.c (.i t.Rows.length)),(15,.c (.i k))] []) (λk=>t.Rows.length-k) (by apply aB<;>simp[yca]) ?_
 rintro k hk
 rcases yX1 k t.Rows with⟨hlt,r,hr⟩|hge
 .refine yaed hr (fC hlt) ?_;intro hrl;refine yX2 (λj=>j<=r.length) (λj=>xC [(3,.c (.i (sumF rowLen t.Rows k))),(13,.c (.sl 1 (t.Rows.map jE))),(14,.c (.i t.Rows.length)),(15,.c (.i k)),(6,.c (.i (yjY ySa.Length r 0 j))),(19,.c (.sl 6 (r.map ySa.enc))),(20,.c (.i r.length)),(21,.c (.i j))] []) (λj=>r.length-j) (by apply aB<;>simp[yb3]) ?_
  rintro j hj
  rcases yX1 j r with⟨hlt2,b,hb⟩|hge2
  .refine yaed hb (fC hlt2) ?_;refine⟨gB hlt2 hrl,j+1,hlt2,by omega,?_⟩;apply aB<;>simp[yhH hb]
  .refine yafw (aG hge2) ?_;have b1:=yke tf hk;have b2:=yke tf (show k+1<=t.Rows.length from hlt);have e:=yfQ (f:=rowLen) hr;rw[yk9 hge2];have e':sumF rowLen t.Rows (k+1)=sumF rowLen t.Rows k+maxOf ySa.Length r 0:=e;refine⟨by unfold inI;omega,gB hlt hlen,k+1,hlt,by omega,?_⟩;apply aB<;>simp[e']
 .refine yafw (aG hge) ?_;simp[aI,h1,ygX hge]
def ycg(t:yRT)(h:t.small):qB prg 22 [.agg (t.enc.map .c)] (.c (.i (aI t))):=by
 refine dB yrH (goQ_ ?_);refine yX2 (λk=>k<=t.Rows.length/\(k≠0->oC t=true)) (λk=>xC [(1,.box 1 0),(3,.c (.i (sumF rowLen t.Rows k))),(4,.c (.i k))] [(1,.box (t.enc.map .c))]) (λk=>t.Rows.length-k) (by apply aB<;>simp[yca]) ?_
 rintro k ⟨hk,hok⟩
 have fin:oC t=false->k=0:=λh1=>by
  rcases zaB k with e|e
  .exact e
  .rw[hok (by omega)]at h1;cases h1
 rcases yX1 k t.Rows with⟨hlt,r,hr⟩|hge
 .refine yaed hr (fC hlt) ?_;intro hlen;refine aA (jJ t h) (yaed hr (fC hlt) ?_);refine⟨λh1=>?_,λh1=>?_⟩
  .have tf:=lK h1;refine yX2 (λj=>j<=r.length) (λj=>xC [(1,.box 1 0),(3,.c (.i (sumF rowLen t.Rows k))),(4,.c (.i k)),(5,.c (.i (yjY ySa.Length r 0 j))),(6,.c (.i j))] [(1,.box (t.enc.map .c))]) (λj=>r.length-j) (by apply aB<;>simp[yb3]) ?_
   rintro j hj
   rcases yX1 j r with⟨hlt2,b,hb⟩|hge2
   .refine yaeV hr (fC hlt) hb (fC hlt2) ?_;intro hrl;refine⟨gB hlt2 hrl,j+1,hlt2,by omega,?_⟩;apply aB<;>simp[yhH hb]
   .refine yaeT hr (fC hlt) (aG hge2) ?_;have b1:=yke tf hk;have b2:=yke tf (show k+1<=t.Rows.length from hlt);have e':sumF rowLen t.Rows (k+1)=sumF rowLen t.Rows k+maxOf ySa.Length r 0:=yfQ (f:=rowLen) hr;rw[yk9 hge2]
    refineλ_=>⟨by unfold inI;omega,gB hlt hlen,k+1,⟨hlt,λ_=>h1⟩,by omega,?_⟩
    apply aB<;>simp[e']
  .have:=fin h1;subst this;simp[aI,h1,yca]
 .refine yafw (aG hge) ?_;intro _
  by_cases h1:oC t=true
  .simp[aI,h1,ygX hge]
  .have:=fin (by simpa using h1);subst this;simp[aI,h1,yca]
def ycV(r:List ySa):Int:=(r.map ySa.Width).sum
def yBX(l:List (List ySa)):Int:=l.foldl (λm r=>if m<ycV r then ycV r else m) 0
def xZ(l:List (List ySa))(k:Nat):Int:=yBX (l.take k)
def yfl{l:List (List ySa)}:xZ l 0=0:=rfl
def yqX{l:List (List ySa)}{k:Nat}{r:List ySa}(h:l[k]?=some r):xZ l (k+1)=if xZ l k<ycV r then ycV r else xZ l k:=by
 unfold xZ yBX;rw[zao,h,zbH];rfl
def ytc{l:List (List ySa)}{k:Nat}(h:l.length<=k):xZ l k=yBX l:=by
 unfold xZ;rw[zae h]
def iH(t:yRT):Int:=if oC t then yBX t.Rows else 0
def yuB{r:List ySa}(h:∀b∈r,iL b=true)(h6:r.length<=6){k:Nat}(hk:k<=r.length):0<=sumF ySa.Width r k/\sumF ySa.Width r k<=180:=by
 have:=yx7 (f:=ySa.Width) (l:=r) (c:=30) (by omega) (λb hb=>by have:=ygR (h b hb);omega) k;omega
def yIu{l:List (List ySa)}(h:∀r∈l,0<=ycV r/\ycV r<=180):0<=yBX l/\yBX l<=180:=by
 unfold yBX
 have:∀(l:List (List ySa)) (z:Int),(∀r∈l,0<=ycV r/\ycV r<=180)->0<=z->z<=180->0<=l.foldl (λm r=>if m<ycV r then ycV r else m) z/\l.foldl (λm r=>if m<ycV r then ycV r else m) z<=180:=by
  intro l
  induction l with
  |nil=>intro z _ h1 h2;exact⟨h1,h2⟩
  |cons r l ih=>
   intro z h h1 h2;have:=h r (by simp);rw[zbz];refine ih _ (λy hy=>h y (by simp[hy])) ?_ ?_<;>split<;>omega
 exact this l 0 h (by omega) (by omega)
def yhm(t:yRT):0<=iH t/\iH t<=180:=by
 unfold iH;split
 .rename_i h;refine yIu λr hr=>?_;obtain⟨i,hi⟩:=zat hr;obtain⟨a1,a2,a3⟩:=ylj (lK h) hi;have:=yuB a3 a2 (Nat.le_refl _);rw[ygX (Nat.le_refl _)]at this;exact this
 .omega
def ynE(t:yRT)(h:t.small):qB prg 260 [.agg (t.enc.map .c)] (.c (.i (iH t))):=by
 refine dB yuc (goQ_ ?_);refine aA (gK t h) (goQ_ ?_);refine⟨λh1=>by simp[iH,h1],λh1 hlen=>?_⟩;have tf:=lK h1;refine yX2 (λk=>k<=t.Rows.length) (λk=>xC [(3,.c (.i (xZ t.Rows k))),(13,.c (.sl 1 (t.Rows.map jE))),(14,.c (.i t.Rows.length)),(15,.c (.i k))] []) (λk=>t.Rows.length-k) (by apply aB<;>simp[yfl]) ?_
 rintro k hk
 rcases yX1 k t.Rows with⟨hlt,r,hr⟩|hge
 .obtain⟨a1,a2,a3⟩:=ylj tf hr;refine yaed hr (fC hlt) ?_;intro hrl;refine yX2 (λj=>j<=r.length) (λj=>xC [(3,.c (.i (xZ t.Rows k))),(13,.c (.sl 1 (t.Rows.map jE))),(14,.c (.i t.Rows.length)),(15,.c (.i k)),(6,.c (.i (sumF ySa.Width r j))),(19,.c (.sl 6 (r.map ySa.enc))),(20,.c (.i r.length)),(21,.c (.i j))] []) (λj=>r.length-j) (by apply aB<;>simp[yca]) ?_
  rintro j hj
  rcases yX1 j r with⟨hlt2,b,hb⟩|hge2
  .have b1:=yuB a3 a2 (show j+1<=r.length from hlt2);have e:=yfQ (f:=ySa.Width) hb;refine yaed hb (fC hlt2) ?_;refine⟨by unfold inI;omega,gB hlt2 hrl,j+1,hlt2,by omega,?_⟩;apply aB<;>simp[e]
  .refine yafw (aG hge2) ?_;rw[ygX hge2];have e:xZ t.Rows (k+1)=if xZ t.Rows k<(r.map ySa.Width).sum then(r.map ySa.Width).sum else xZ t.Rows k:=yqX hr
   refine⟨gB hlt hlen,k+1,hlt,by omega,?_⟩;apply aB<;>simp[e]
 .refine yafw (aG hge) ?_;simp[iH,h1,ytc hge]
def ynV(t:yRT)(h:t.small):qB prg 21 [.agg (t.enc.map .c)] (.c (.i (iH t))):=by
 refine dB yss (goQ_ ?_);refine yX2 (λk=>k<=t.Rows.length/\(k≠0->oC t=true)) (λk=>xC [(1,.box 1 0),(3,.c (.i (xZ t.Rows k))),(4,.c (.i k))] [(1,.box (t.enc.map .c))]) (λk=>t.Rows.length-k) (by apply aB<;>simp[yfl]) ?_
 rintro k ⟨hk,hok⟩
 have fin:oC t=false->k=0:=λh1=>by
  rcases zaB k with e|e
  .exact e
  .rw[hok (by omega)]at h1;cases h1
 rcases yX1 k t.Rows with⟨hlt,r,hr⟩|hge
 .refine yaed hr (fC hlt) ?_;intro hlen;refine aA (jJ t h) (yaed hr (fC hlt) ?_);refine⟨λh1=>?_,λh1=>?_⟩
  .have tf:=lK h1;obtain⟨a1,a2,a3⟩:=ylj tf hr;refine yX2 (λj=>j<=r.length) (λj=>xC [(1,.box 1 0),(3,.c (.i (xZ t.Rows k))),(4,.c (.i k)),(5,.c (.i (sumF ySa.Width r j))),(6,.c (.i j))] [(1,.box (t.enc.map .c))]) (λj=>r.length-j) (by apply aB<;>simp[yca]) ?_
   rintro j hj
   rcases yX1 j r with⟨hlt2,b,hb⟩|hge2
   .have b1:=yuB a3 a2 (show j+1<=r.length from hlt2);have e:=yfQ (f:=ySa.Width) hb;refine yaeV hr (fC hlt) hb (fC hlt2) ?_;intro hrl;refine⟨by unfold inI;omega,gB hlt2 hrl,j+1,hlt2,by omega,?_⟩;apply aB<;>simp[e]
   .refine yaeT hr (fC hlt) (aG hge2) ?_;have e:xZ t.Rows (k+1)=if xZ t.Rows k<(r.map ySa.Width).sum then(r.map ySa.Width).sum else xZ t.Rows k:=yqX hr
    rw[ygX hge2]
    refineλ_=>⟨gB hlt hlen,k+1,⟨hlt,λ_=>h1⟩,by omega,?_⟩
    apply aB<;>simp[e]
  .have:=fin h1;subst this;simp[iH,h1,yfl]
 .refine yafw (aG hge) ?_;intro _
  by_cases h1:oC t=true
  .simp[iH,h1,ytc hge]
  .have:=fin (by simpa using h1);subst this;simp[iH,h1,yfl]
def qO(t:yRT):Int:=if oC t then minOf ySa.Class t.qE (yDC ySa.Class t.qE)else -1
def yvn{t:yRT}(h:oC t=true):0<=qO t/\qO t<=2:=by
 unfold qO;rw[if_pos h];have hf:=lK h;obtain⟨r,b0,e1,e2,e3⟩:=yph hf;have:=ygR (hf.ok b0 (zac e3));exact yBi (λx hx=>by have:=ygR (hf.ok x hx);omega) (by rw[yHV e3];omega) (by rw[yHV e3];omega)
def yhh(t:yRT)(h:t.small):qB prg 261 [.agg (t.enc.map .c)] (.c (.i (qO t))):=by
 refine dB yta (goQ_ ?_);refine aA (gK t h) (goQ_ ?_);refine⟨λh1=>by simp[qO,h1],λh1=>?_⟩;obtain⟨r,b0,e1,e2,e3⟩:=yph (lK h1);have l1:0<t.Rows.length:=(zaa.1 e1).1;have l2:0<r.length:=(zaa.1 e2).1;have f1:=(zaa.1 e1).2;have f2:=(zaa.1 e2).2;refine yafq e1 e2 l1 l2 f1 f2 ?_;refine dD (yqd t h) (goQ_ ?_);intro hlen;refine yX2 (λk=>k<=t.qE.length) (λk=>xC [(3,.c (.i (yoz ySa.Class t.qE b0.Class k))),(17,.c (.sl 6 (t.qE.map ySa.enc))),(18,.c (.i t.qE.length)),(19,.c (.i k))] []) (λk=>t.qE.length-k) (by apply aB<;>simp[ysJ]) ?_
 rintro k hk
 rcases yX1 k t.qE with⟨hlt,b,hb⟩|hge
 .refine yaed hb (fC hlt) ?_;refine⟨gB hlt hlen,k+1,hlt,by omega,?_⟩;apply aB<;>simp[yuw hb]
 .refine yafw (aG hge) ?_;simp[qO,h1,yxb hge,yHV e3]
def yoZ(t:yRT)(h:t.small):qB prg 349 [.agg (t.enc.map .c)] (.c (.i (qO t))):=by
 refine dB ytX (goQ_ ?_);refine dD (yhF t h) (goQ_ ?_);refine aA (jJ t h) (goQ_ ?_);refine⟨λh1=>by simp[qO,h1],λh1=>?_⟩;obtain⟨r,b0,e1,e2,e3⟩:=yph (lK h1);have l1:0<t.qE.length:=(zaa.1 e3).1;have f3:=(zaa.1 e3).2;refine yaeT e3 l1 f3 ?_;refine yX2 (λk=>k<=t.qE.length) (λk=>xC [(3,.c (.sl 6 (t.qE.map ySa.enc))),(4,.c (.i (yoz ySa.Class t.qE b0.Class k))),(5,.c (.i k))] []) (λk=>t.qE.length-k) (by apply aB<;>simp[ysJ]) ?_
 rintro k hk
 rcases yX1 k t.qE with⟨hlt,b,hb⟩|hge
 .refine yaed hb (fC hlt) ?_;intro hlen;refine⟨gB hlt hlen,k+1,hlt,by omega,?_⟩;apply aB<;>simp[yuw hb]
 .refine yafw (aG hge) ?_;intro _;simp[qO,h1,yxb hge,yHV e3]
structure ySH(t:yRZ):Prop where
 base:0<=t.Base/\t.Base<=10000
 area:0<=t.ySe/\t.ySe<=100
 three:t.yR5.length=3
 cls:∀x∈t.yR5,0<=x/\x<=10000
 wlen:1<=t.yR7.length/\t.yR7.length<=11
 wts:∀x∈t.yR7,0<=x/\x<=1000
 sum:0<t.yR7.sum
def yzq{t:yRZ}(h:nH t=true):ySH t:=by
 simp only[nH,zad,zaf,decide_eq_true_eq]at h;obtain⟨⟨⟨⟨⟨⟨h1,h2⟩,h3⟩,h4⟩,h5⟩,h6⟩,h7⟩:=h;have h4:=aC.1 h4;exact⟨aC.1 h1,aC.1 h2,h3,λx hx=>aC.1 (h5 x hx),by omega,λx hx=>aC.1 (h6 x hx),h7⟩
def lT(t:yRZ)(x:yRT):Int:=if nH t&&oC x then t.Base+(t.ySe*aI x*iH x).tdiv 100+t.yR5[(qO x).toNat]?.getD 0 else 0
def yqx{t:yRZ}{x:yRT}(h1:nH t=true)(h2:oC x=true):
 ∃c,t.yR5[(qO x).toNat]?=some c/\0<=qO x/\qO x<t.yR5.length/\inI (t.ySe*aI x)/\inI (t.ySe*aI x*iH x)/\inI ((t.ySe*aI x*iH x).tdiv 100)/\
  inI (t.Base+(t.ySe*aI x*iH x).tdiv 100)/\inI (t.Base+(t.ySe*aI x*iH x).tdiv 100+c)/\0<=t.Base+(t.ySe*aI x*iH x).tdiv 100+c/\t.Base+(t.ySe*aI x*iH x).tdiv 100+c<=1000000:=by
 have tf:=yzq h1;have a1:=yfk x;have a2:=yhm x;have a3:=yvn h2;have b1:=tf.base;have b2:=tf.area;have b3:=tf.three;obtain⟨c,hc⟩:∃c,t.yR5[(qO x).toNat]?=some c:=⟨_,zab (by omega)⟩;have b4:=tf.cls c (zac hc);have e1:0<=t.ySe*aI x:=zcx b2.1 a1.1;have e2:t.ySe*aI x<=100*1200:=zde b2.2 a1.2 a1.1 (by omega);have e3:0<=t.ySe*aI x*iH x:=zcx e1 a2.1;have e4:t.ySe*aI x*iH x<=120000*180:=zde (by omega) a2.2 a2.1 (by omega);have e5:(t.ySe*aI x*iH x).tdiv 100=(t.ySe*aI x*iH x)/100:=zaG e3;rw[e5];refine⟨c,hc,a3.1,by omega,?_,?_,?_,?_,?_,by omega,by omega⟩<;>unfold inI<;>omega
def yAg(t:yRZ)(x:yRT)(h:x.small):qB prg 170 [.agg (t.enc.map .c),.agg (x.enc.map .c)] (.c (.i (lT t x))):=by
 refine dB ywt (goQ_ ?_);refine aA (yfw t) ?_;cases h1:nH t with
 |false=>simp -dsimp -implicitDefEqProofs;simp[lT,h1]
 | true=>
  refine goQ_ ?_;refine aA (gK x h) ?_;cases h2:oC x with
  |false=>simp -dsimp -implicitDefEqProofs;simp[lT,h2]
  |true=>
   obtain⟨c,hc,c1,c2,c3,c4,c5,c6,c7,_,_⟩:=yqx h1 h2;refine goQ_ ?_;refine lC (ymp x h) (goQ_ ?_);refine⟨c3,?_⟩;refine lC (ynE x h) (goQ_ ?_);refine⟨c4,c5,c6,?_⟩;refine lC (yhh x h) ?_;have hg:=(zaa.1 hc).2;refine yaeV hc c1 c2 hg ?_;exact⟨c7,by simp[lT,h1,h2,hc]⟩
def yBg(t:yRZ)(x:yRT)(h:x.small):qB prg 255 [.agg (t.enc.map .c),.agg (x.enc.map .c)] (.c (.i (lT t x))):=by
 refine dB ywq (goQ_ ?_);refine aA (yfH t) ?_;cases h1:nH t with
 |false=>simp -dsimp -implicitDefEqProofs;simp[lT,h1]
 | true=>
  refine goQ_ ?_;refine aA (jJ x h) ?_;cases h2:oC x with
  |false=>simp -dsimp -implicitDefEqProofs;simp[lT,h2]
  |true=>
   obtain⟨c,hc,c1,c2,c3,c4,c5,c6,c7,_,_⟩:=yqx h1 h2;refine goQ_ ?_;refine lC (ycg x h) (goQ_ ?_);refine⟨c3,?_⟩;refine lC (ynV x h) (goQ_ ?_);refine⟨c4,c5,c6,?_⟩;refine lC (yoZ x h) ?_;have hg:=(zaa.1 hc).2;refine yaeV hc c1 c2 hg ?_;exact⟨c7,by simp[lT,h1,h2,hc]⟩
def yqo{α β:Type}{f:α->β}{l:List α}:(l.map f).take l.length=l.map f:=zae (by simp)
def lG(t:yRT):List Int:=if oC t then t.qE.map yc0 else[]
def ydb(t:yRT)(k:Nat):List Int:=(t.qE.take k).map yc0
def yfb{t:yRT}:ydb t 0=[]:=rfl
def yqG{t:yRT}{k:Nat}{b:ySa}(h:t.qE[k]?=some b):ydb t (k+1)=ydb t k++[b.Id]:=by
 unfold ydb;rw[zao,h,zaD];rfl
def yuu{t:yRT}{k:Nat}(h:t.qE.length<=k):ydb t k=t.qE.map yc0:=by
 unfold ydb;rw[zae h]
def yso{t:yRT}{k:Nat}(h:k<=t.qE.length):(ydb t k).length=k:=by
 unfold ydb;simp;omega
def ya0(t:yRT)(h:t.small):qB prg 56 [.agg (t.enc.map .c)] (.c (.sl 1 ((lG t).map qC))):=by
 refine dB yyu (goQ_ ?_);refine aA (gK t h) ?_;cases h1:oC t with
 |false=>simp -dsimp -implicitDefEqProofs;simp[lG,h1]
 | true=>
  have tf:=lK h1;have h6:=tf.len;refine goQ_ ?_;refine dD (yqd t h) (goQ_ ?_);intro hlen;refine jX (k0:=1) 3 1 (by simp) (by simp) (by decide) ?_;refine yX2 (λk=>k<=t.qE.length) (λk=>xC [(3,.own 3 1 (ydb t k).length),(10,.c (.sl 6 (t.qE.map ySa.enc))),(11,.c (.i t.qE.length)),(12,.c (.i k))] [(3,.row 1 ((ydb t k).map qC))]) (λk=>t.qE.length-k) (by apply aB<;>simp[yfb]) ?_
  rintro k hk
  have hkl:=yso hk;rcases yX1 k t.qE with⟨hlt,b,hb⟩|hge
  .refine yaed hb (fC hlt) ?_;refine⟨by omega,gB hlt hlen,k+1,hlt,by omega,?_⟩;apply aB<;>simp[yqG hb]
  .refine yafw (aG hge) ?_;rw[yqo,yuu hge];simp[lG,h1]
def yaG(t:yRT)(h:t.small):qB prg 70 [.agg (t.enc.map .c)] (.c (.sl 1 ((lG t).map qC))):=by
 refine dB yzb (goQ_ ?_);refine dD (yhF t h) (goQ_ ?_);refine yX2 (λk=>k<=t.qE.length/\(k≠0->oC t=true)) (λk=>xC [(1,.box 1 0),(3,.own 6 1 (ydb t k).length),(4,.c (.sl 6 (t.qE.map ySa.enc))),(5,.c (.i k))] [(1,.box (t.enc.map .c)),(6,.row 1 ((ydb t k).map qC))]) (λk=>t.qE.length-k) (by apply aB<;>simp[yfb]) ?_
 rintro k ⟨hk,hok⟩
 have hkl:=yso hk
 have fin:oC t=false->k=0:=λh1=>by
  rcases zaB k with e|e
  .exact e
  .rw[hok (by omega)]at h1;cases h1
 rcases yX1 k t.qE with⟨hlt,b,hb⟩|hge
 .refine yaed hb (fC hlt) ?_;intro hlen;refine aA (jJ t h) ?_;cases h1:oC t with
  |false=>
   have:=fin h1;subst this;refine goQ_ ?_;simp[lG,h1,yfb]
  |true=>
   have h6:=(lK h1).len;refine yaed hb (fC hlt) ?_;refine⟨by omega,gB hlt hlen,k+1,by first|exact⟨hlt,λ_=>h1⟩|exact hlt,by omega,?_⟩;apply aB<;>simp[yqG hb]
 .refine yafw (aG hge) ?_;intro _;rw[yqo]
  by_cases h1:oC t=true
  .rw[yuu hge];simp[lG,h1]
  .have:=fin (by simpa using h1);subst this;simp[lG,h1,yfb]
def yx0{t:yRT}(h:oC t=true):(lG t).length<=6:=by
 have:=(lK h).len;simp[lG,h];omega
def yLG{t:yRT}(h:oC t=true):(lG t).Nodup:=by
 have:=(lK h).nd;simp only[lG,h,if_true];exact this
def aJ:List yRT->Prop:=aW yRT.small
structure yR0 where
 Length:Int
 Width:Int
 ySi:Int
 ySj:Int
 Base:Int
 Area:Int
 ySs:Int
 ySn:Int
 Gate:Int
 yRY:List yRT
 deriving DecidableEq,Inhabited
@[simp] def yR0.enc(e:yR0):List C:=[.i e.Length,.i e.Width,.i e.ySi,.i e.ySj,.i e.Base,.i e.Area,.i e.ySs,.i e.ySn,.i e.Gate,.sl 2 (e.yRY.map yRT.enc)]
-- yR0
def yR0.small(e:yR0):Prop:=aJ e.yRY
structure ySp where
 ySu:Int
 Open:Int
 Step:Int
 ySy:Int
 Width:Int
 deriving DecidableEq,Inhabited
@[simp] def ySp.enc(e:ySp):List C:=[.i e.ySu,.i e.Open,.i e.Step,.i e.ySy,.i e.Width]
-- ySp
structure Rule where
 Low:Int
 High:Int
 ySx:Int
 deriving DecidableEq,Inhabited
@[simp] def Rule.enc(e:Rule):List C:=[.i e.Low,.i e.High,.i e.ySx]
-- Rule
structure ySf where
 From:Int
 Until:Int
 deriving DecidableEq,Inhabited
@[simp] def ySf.enc(e:ySf):List C:=[.i e.From,.i e.Until]
-- ySf
def ydx:List ySf->Prop:=aW λ_=>True
structure Turn where
 Up:Bool
 Count:Int
 deriving DecidableEq,Inhabited
@[simp] def Turn.enc(e:Turn):List C:=[.b e.Up,.i e.Count]
-- Turn
structure yR4 where
 yRT:yRT
 Since:Int
 Booked:Int
 deriving DecidableEq,Inhabited
@[simp] def yR4.enc(e:yR4):List C:=[.b e.yRT.Up,.sl 1 (e.yRT.Rows.map jE),.i e.Since,.i e.Booked]
-- Call
def yR4.small(e:yR4):Prop:=e.yRT.small
def oM:List yR4->Prop:=aW yR4.small
structure yR8 where
 yR0:yR0
 ySp:ySp
 Rule:Rule
 Pauses:List ySf
 Turn:Turn
 Calls:List yR4
 deriving DecidableEq,Inhabited
@[simp] def yR8.enc(e:yR8):List C:=[.i e.yR0.Length,.i e.yR0.Width,.i e.yR0.ySi,.i e.yR0.ySj,.i e.yR0.Base,.i e.yR0.Area,.i e.yR0.ySs,.i e.yR0.ySn,.i e.yR0.Gate,.sl 2 (e.yR0.yRY.map yRT.enc),.i e.ySp.ySu,.i e.ySp.Open,.i e.ySp.Step,.i e.ySp.ySy,.i e.ySp.Width,.i e.Rule.Low,.i e.Rule.High,.i e.Rule.ySx,.sl 2 (e.Pauses.map ySf.enc),.b e.Turn.Up,.i e.Turn.Count,.sl 4 (e.Calls.map yR4.enc)]
-- yR8
def yR8.small(e:yR8):Prop:=e.yR0.small/\ydx e.Pauses/\oM e.Calls
def iZ(w:ySp):Bool:=inRange w.ySu 1 8&&inRange w.Open 0 (10*w.ySu)&&inRange w.Step 1 80&&inRange w.ySy 0 100000&&inRange w.Width 1 1000
def yBa(w:ySp):qB prg 266 [.agg (w.enc.map .c)] (.c (.b (iZ w))):=by
 refine dB ywQ (goQ_ ?_);refine aA (iC w.ySu 1 8) ?_;cases h0:inRange w.ySu 1 8 with
 |false=>simp -dsimp -implicitDefEqProofs;simp[iZ,h0]
 |true=>
 refine goQ_ ?_;refine⟨by have:=aC.1 h0;unfold inI;omega,?_⟩;refine aA (iC w.Open 0 (10*w.ySu)) ?_;cases h1:inRange w.Open 0 (10*w.ySu)with
 |false=>simp -dsimp -implicitDefEqProofs;simp[iZ,h0,h1]
 |true=>
 refine goQ_ ?_;refine aA (iC w.Step 1 80) ?_;cases h2:inRange w.Step 1 80 with
 |false=>simp -dsimp -implicitDefEqProofs;simp[iZ,h0,h1,h2]
 |true=>
 refine goQ_ ?_;refine aA (iC w.ySy 0 100000) ?_;cases h3:inRange w.ySy 0 100000 with
 |false=>simp -dsimp -implicitDefEqProofs;simp[iZ,h0,h1,h2,h3]
 |true=>
 refine goQ_ ?_;refine aA (iC w.Width 1 1000) ?_;cases h4:inRange w.Width 1 1000 with
 |false=>simp -dsimp -implicitDefEqProofs;simp[iZ,h0,h1,h2,h3,h4]
 |true=>
  simp -dsimp -implicitDefEqProofs;simp[iZ,h0,h1,h2,h3,h4]
def yAj(w:ySp):qB prg 295 [.agg (w.enc.map .c)] (.c (.b (iZ w))):=by
 refine dB ywi (goQ_ ?_);refine aA (bC w.ySu 1 8) ?_;cases h0:inRange w.ySu 1 8 with
 |false=>simp -dsimp -implicitDefEqProofs;simp[iZ,h0]
 |true=>
 refine goQ_ ?_;refine⟨by have:=aC.1 h0;unfold inI;omega,?_⟩;refine aA (bC w.Open 0 (10*w.ySu)) ?_;cases h1:inRange w.Open 0 (10*w.ySu)with
 |false=>simp -dsimp -implicitDefEqProofs;simp[iZ,h0,h1]
 |true=>
 refine goQ_ ?_;refine aA (bC w.Step 1 80) ?_;cases h2:inRange w.Step 1 80 with
 |false=>simp -dsimp -implicitDefEqProofs;simp[iZ,h0,h1,h2]
 |true=>
 refine goQ_ ?_;refine aA (bC w.ySy 0 100000) ?_;cases h3:inRange w.ySy 0 100000 with
 |false=>simp -dsimp -implicitDefEqProofs;simp[iZ,h0,h1,h2,h3]
 |true=>
 refine goQ_ ?_;refine aA (bC w.Width 1 1000) ?_;cases h4:inRange w.Width 1 1000 with
 |false=>simp -dsimp -implicitDefEqProofs;simp[iZ,h0,h1,h2,h3,h4]
 |true=>
  simp -dsimp -implicitDefEqProofs;simp[iZ,h0,h1,h2,h3,h4]
def ya3(r:Rule):Bool:=inRange r.Low 0 100000&&inRange r.High 0 100000&&inRange r.ySx 0 100000&&decide (r.Low<r.High)&&decide (r.High<=r.ySx)
def yAx(r:Rule):qB prg 267 [.agg (r.enc.map .c)] (.c (.b (ya3 r))):=by
 refine dB yvs (goQ_ ?_);refine aA (iC r.Low 0 100000) ?_;cases h0:inRange r.Low 0 100000 with
 |false=>simp -dsimp -implicitDefEqProofs;simp[ya3,h0]
 |true=>
 refine goQ_ ?_;refine aA (iC r.High 0 100000) ?_;cases h1:inRange r.High 0 100000 with
 |false=>simp -dsimp -implicitDefEqProofs;simp[ya3,h0,h1]
 |true=>
 refine goQ_ ?_;refine aA (iC r.ySx 0 100000) ?_;cases h2:inRange r.ySx 0 100000 with
 |false=>simp -dsimp -implicitDefEqProofs;simp[ya3,h0,h1,h2]
 |true=>
 refine goQ_ ?_;simp[ya3,h0,h1,h2];exact⟨λh _=>h,λa b=>by omega⟩
def yzE(r:Rule):qB prg 296 [.agg (r.enc.map .c)] (.c (.b (ya3 r))):=by
 refine dB yvW (goQ_ ?_);refine aA (yaJ r.Low) ?_;cases h0:inRange r.Low 0 100000 with
 |false=>simp -dsimp -implicitDefEqProofs;simp[ya3,h0]
 |true=>
 refine goQ_ ?_;refine aA (yaJ r.High) ?_;cases h1:inRange r.High 0 100000 with
 |false=>simp -dsimp -implicitDefEqProofs;simp[ya3,h0,h1]
 |true=>
 refine goQ_ ?_;refine aA (yaJ r.ySx) ?_;cases h2:inRange r.ySx 0 100000 with
 |false=>simp -dsimp -implicitDefEqProofs;simp[ya3,h0,h1,h2]
 |true=>
 refine goQ_ ?_;simp[ya3,h0,h1,h2];exact⟨λh _=>h,λa b=>by omega⟩
def ybY(t:Turn):Bool:=inRange t.Count 0 1000000
def yjQ(t:Turn):qB prg 345 [.agg (t.enc.map .c)] (.c (.b (ybY t))):=by
 refine dB ywN (goQ_ ?_);refine aA (iC t.Count 0 1000000) (goQ_ ?_)
 try rfl
def yjN(t:Turn):qB prg 312 [.agg (t.enc.map .c)] (.c (.b (ybY t))):=by
 refine dB ywr (goQ_ ?_);refine aA (bC t.Count 0 1000000) (goQ_ ?_)
 try rfl
def jO(c:yR4):Bool:=oC c.yRT&&inRange c.Since 0 1000000&&inRange c.Booked (-1) 1000000
def yqV(c:yR4)(h:c.small):qB prg 346 [.agg (c.enc.map .c)] (.c (.b (jO c))):=by
 refine dB yvI (goQ_ ?_);refine aA (gK c.yRT h) ?_;cases h0:oC c.yRT with
 |false=>simp -dsimp;simp[jO,h0]
 |true=>
 refine goQ_ ?_;refine aA (iC c.Since 0 1000000) ?_;cases h1:inRange c.Since 0 1000000 with
 |false=>simp -dsimp;simp[jO,h0,h1]
 |true=>
 refine goQ_ ?_;refine aA (iC c.Booked (-1) 1000000) ?_;cases h2:inRange c.Booked (-1) 1000000 with
 |false=>simp -dsimp;simp[jO,h0,h1,h2]
 |true=>
  simp -dsimp;simp[jO,h0,h1,h2]
def yqK(c:yR4)(h:c.small):qB prg 342 [.agg (c.enc.map .c)] (.c (.b (jO c))):=by
 refine dB ywC (goQ_ ?_);refine aA (jJ c.yRT h) ?_;cases h0:oC c.yRT with
 |false=>simp -dsimp;simp[jO,h0]
 |true=>
 refine goQ_ ?_;refine aA (bC c.Since 0 1000000) ?_;cases h1:inRange c.Since 0 1000000 with
 |false=>simp -dsimp;simp[jO,h0,h1]
 |true=>
 refine goQ_ ?_;refine aA (bC c.Booked (-1) 1000000) ?_;cases h2:inRange c.Booked (-1) 1000000 with
 |false=>simp -dsimp;simp[jO,h0,h1,h2]
 |true=>
  simp -dsimp;simp[jO,h0,h1,h2]
def eY(b:Int)(p:ySf):Bool:=!decide (p.From<b)&& !decide (p.Until<=p.From)&& !decide (1000000<p.Until)
def jR:Int->List ySf->Bool
 |_,[]=>true
 |b,p::l=>eY b p&&jR p.Until l
def xO(l:List ySf):Bool:=decide (l.length<=8)&&jR 0 l
def yqM{l:List ySf}{k:Nat}{p:ySf}{b:Int}(h:l[k]?=some p):jR b (l.drop k)=(eY b p&&jR p.Until (l.drop (k+1))):=by
 have hlt:=(zaa.1 h).1;rw[zaF hlt,(zaa.1 h).2];rfl
def ymM(l:List ySf):qB prg 344 [.c (.sl 2 (l.map ySf.enc))] (.c (.b (xO l))):=by
 refine dB yrY (goQ_ ?_);intro hlen;refine⟨λh8=>(by simp[xO];omega),λh8=>?_⟩
 refineλ_=>qA (ι:=Nat×Int) (λq=>q.1<=l.length/\jR q.2 (l.drop q.1)=jR 0 l) (λq=>xC [(3,.c (.i q.2)),(9,.c (.sl 2 (l.map ySf.enc))),(10,.c (.i l.length)),(11,.c (.i q.1))] []) (λq=>l.length-q.1) (0,0) (by simp) (by apply aB<;>simp) ?_
 rintro⟨k,b⟩ ⟨hk,hf⟩
 simp only at hk hf;rcases yX1 k l with⟨hlt,p,hp⟩|hge
 .rw[yqM hp]at hf;have bad:eY b p=false->xO l=false:=λe=>by rw[e,zbG]at hf;simp[xO,<-hf]
  refine yaed hp (fC hlt) ?_;refine⟨λh1=>?_,λh1=>(bad (by simp[eY];omega))⟩;refine⟨λh2=>?_,λh2=>(bad (by simp[eY];omega))⟩;refine⟨λh3=>(bad (by simp[eY];omega)),λh3=>?_⟩;have hok:eY b p=true:=by simp[eY];omega
  rw[hok,zaW]at hf;exact⟨gB hlt hlen,k+1,p.Until,⟨hlt,hf⟩,by omega,by apply aB<;>simp⟩
 .refine yafw (aG hge) ?_;rw[zbJ hge]at hf;have h8':l.length<=8:=by omega
  simp[xO,h8',<-hf,jR]
def ylL(l:List ySf):qB prg 129 [.c (.sl 2 (l.map ySf.enc))] (.c (.b (xO l))):=by
 refine dB yr5 (goQ_ ?_);refine qA (ι:=Nat×Int) (λq=>q.1<=l.length/\jR q.2 (l.drop q.1)=jR 0 l) (λq=>xC [(0,.c (.sl 2 (l.map ySf.enc))),(3,.c (.i q.2)),(4,.c (.i q.1))] []) (λq=>l.length-q.1) (0,0) (by simp) (by apply aB<;>simp) ?_
 rintro⟨k,b⟩ ⟨hk,hf⟩
 simp only at hk hf;rcases yX1 k l with⟨hlt,p,hp⟩|hge
 .rw[yqM hp]at hf;have bad:eY b p=false->xO l=false:=λe=>by rw[e,zbG]at hf;simp[xO,<-hf]
  refine yaed hp (fC hlt) ?_;intro hlen;refine⟨λh1=>?_,λh1=>(bad (by simp[eY];omega))⟩;refine⟨λh2=>?_,λh2=>(bad (by simp[eY];omega))⟩;refine⟨λh3=>(bad (by simp[eY];omega)),λh3=>?_⟩;have hok:eY b p=true:=by simp[eY];omega
  rw[hok,zaW]at hf;exact⟨gB hlt hlen,k+1,p.Until,⟨hlt,hf⟩,by omega,by apply aB<;>simp⟩
 .refine yafw (aG hge) ?_;rw[zbJ hge]at hf;simp[xO,<-hf,jR]
  try omega
def bJ(l:List yRT)(k:Nat):List Int:=(l.take k).flatMap lG
def seenAt(l:List yRT)(k:Nat)(t:yRT)(j:Nat):List Int:=bJ l k++(lG t).take j
def Distinct(l:List yRT):Bool:=decide (l.length<=8)&&l.all oC&&decide ((l.flatMap lG).Nodup)
def ydt{l:List yRT}:bJ l 0=[]:=rfl
def ydz{l:List yRT}{k:Nat}{t:yRT}(h:l[k]?=some t):bJ l (k+1)=bJ l k++lG t:=by
 unfold bJ;rw[zao,h,zaV];simp
def yqq{l:List yRT}{k:Nat}(h:l.length<=k):bJ l k=l.flatMap lG:=by
 unfold bJ;rw[zae h]
def yvK{l:List yRT}{k:Nat}{t:yRT}(h:l[k]?=some t):∃m,l.flatMap lG=bJ l k++lG t++m:=by
 refine⟨(l.drop (k+1)).flatMap lG,?_⟩;rw[<-ydz h];unfold bJ;rw[<-zaV,zav]
def yqv{l:List yRT}{k:Nat}{t:yRT}:seenAt l k t 0=bJ l k:=by simp[seenAt]
def yqw{l:List yRT}{k j:Nat}{t:yRT}{x:Int}(h:(lG t)[j]?=some x):seenAt l k t (j+1)=seenAt l k t j++[x]:=by
 unfold seenAt;rw[zao,h];simp
def yuJ{l:List yRT}{k j:Nat}{t:yRT}(ht:l[k]?=some t)(h:(lG t).length<=j):seenAt l k t j=bJ l (k+1):=by
 unfold seenAt;rw[zae h,ydz ht]
def yq4{l:List yRT}(k:Nat)(h:∀t∈l.take k,oC t=true):(bJ l k).length<=6*k:=by
 have key:∀(m:List yRT),(∀t∈m,oC t=true)->(m.flatMap lG).length<=6*m.length:=by
  intro m
  induction m with
  |nil=>simp
  |cons t m ih=>
   intro hm;have h1:=yx0 (hm t (by simp));have h2:=ih λx hx=>hm x (by simp[hx]);simp only[zaU,zah,zar];omega
 have:=key (l.take k) h;have h2:(l.take k).length<=k:=by rw[zaA];omega
 unfold bJ;omega
def twice{l:List yRT}{k j:Nat}{t:yRT}{x:Int}(ht:l[k]?=some t)(hx:(lG t)[j]?=some x)(hm:x∈seenAt l k t j):Distinct l=false:=by
 have:¬(l.flatMap lG).Nodup:=by
  intro hn;obtain⟨m,e⟩:=yvK ht;have hlt:=(zaa.1 hx).1
  have e2:lG t=(lG t).take j++x::(lG t).drop (j+1):=by
   conv=>lhs;rw[<-zav j (lG t)]
   rw[zaF hlt,(zaa.1 hx).2]
  have e3:l.flatMap lG=seenAt l k t j++x::((lG t).drop (j+1)++m):=by
   rw[e];unfold seenAt;conv=>lhs;rw[e2]
   simp
  rw[e3]at hn;exact(zaY.1 hn).2.2 x hm x (by simp) rfl
 simp[Distinct,this]
def yp8{l:List yRT}{k:Nat}{t:yRT}(ht:l[k]?=some t)(h:oC t=false):Distinct l=false:=by
 have:l.all oC=false:=all_false (p:=oC) ht h;simp only[Distinct,this,zbk,zbG]
def yfU(l:List yRT)(hs:aJ l):qB prg 376 [.c (.sl 2 (l.map yRT.enc))] (.c (.b (Distinct l))):=by
 refine dB yi1 (goQ_ ?_);intro hlen;refine⟨λh8=>(by simp[Distinct];omega),λh8=>?_⟩;intro _;refine jX (k0:=1) 3 1 (by simp) (by simp) (by decide) ?_;refine qA (ι:=Nat) (λk=>k<=l.length/\(∀t∈l.take k,oC t=true)/\(bJ l k).Nodup) (λk=>xC [(3,.own 3 1 (bJ l k).length),(11,.c (.sl 2 (l.map yRT.enc))),(12,.c (.i l.length)),(13,.c (.i k))] [(3,.row 1 ((bJ l k).map qC))]) (λk=>l.length-k) 0 (by simp[ydt]) (by apply aB<;>simp[ydt]) ?_
 rintro k ⟨hk,hall,hnd⟩
 rcases yX1 k l with⟨hlt,t,ht⟩|hge
 .have hts:=hs.2 t (zac ht);refine yaed ht (fC hlt) ?_;refine aA (gK t hts) ?_;cases h1:oC t with
  |false=>refine goQ_ ?_;exact yp8 ht h1
  | true=>
   have hall':=lD (p:=oC) ht hall h1;have hil:=yx0 h1;have hul:=yq4 k hall;refine goQ_ ?_;refine dD (ya0 t hts) (goQ_ ?_);intro _;refine qA (ι:=Nat) (λj=>j<=(lG t).length/\(seenAt l k t j).Nodup) (λj=>xC [(3,.own 3 1 (seenAt l k t j).length),(11,.c (.sl 2 (l.map yRT.enc))),(12,.c (.i l.length)),(13,.c (.i k)),(21,.c (.sl 1 ((lG t).map qC))),(22,.c (.i (lG t).length)),(23,.c (.i j))] [(3,.row 1 ((seenAt l k t j).map qC))]) (λj=>(lG t).length-j) 0 ⟨by simp,by rw[yqv];exact hnd⟩ (by apply aB<;>simp[yqv]) ?_
   rintro j ⟨hj,hnj⟩
   have hsl:(seenAt l k t j).length<=60:=by unfold seenAt;rw[zah,zaA];omega
   rcases zas j (lG t).length with hlt2|hge2
   .obtain⟨x,hx⟩:∃x,(lG t)[j]?=some x:=⟨_,zab hlt2⟩;refine yaed hx (fC hlt2) ?_;refine mD (yu4 (seenAt l k t j) x) (by simp[yqo]) rfl (goQ_ ?_);refine⟨λh2=>(twice ht hx h2),λh2=>?_⟩
    have hn2:(seenAt l k t (j+1)).Nodup:=by
     rw[yqw hx];exact zaY.2 ⟨hnj,by simp,λa ha b hb e=>by simp at hb;subst hb;subst e;exact h2 ha⟩
    refine⟨by omega,by unfold inI;omega,j+1,⟨hlt2,hn2⟩,by omega,?_⟩;apply aB<;>simp[yqw hx]
   .refine yafw (aG hge2) ?_;rw[yuJ ht hge2]at hnj;refine⟨by unfold inI;omega,k+1,⟨hlt,hall',hnj⟩,by omega,?_⟩;apply aB<;>simp[yuJ ht hge2]
 .refine yafw (aG hge) ?_;rw[yqq hge]at hnd;have h1:=dF (p:=oC) hge hall;have h8':l.length<=8:=by omega
  simp[Distinct,h1,hnd,h8']
def yju(l:List yRT)(hs:aJ l)(h8:l.length<=8)(hok:∀t∈l,oC t=true):qB prg 366 [.c (.sl 2 (l.map yRT.enc))] (.c (.b (decide ((l.flatMap lG).Nodup)))):=by
 refine dB ylD ?_
 have fin:Distinct l=false->decide ((l.flatMap lG).Nodup)=false:=by
  intro h;have h1:l.all oC=true:=zaf.2 hok;simpa[Distinct,h1,h8]using h
 refine goQ_ ?_;refine qA (ι:=Nat) (λk=>k<=l.length/\(bJ l k).Nodup) (λk=>xC [(0,.c (.sl 2 (l.map yRT.enc))),(3,.own 8 1 (bJ l k).length),(4,.c (.i k))] [(8,.row 1 ((bJ l k).map qC))]) (λk=>l.length-k) 0 (by simp[ydt]) (by apply aB<;>simp[ydt]) ?_
 rintro k ⟨hk,hnd⟩
 rcases yX1 k l with⟨hlt,t,ht⟩|hge
 .have hts:=hs.2 t (zac ht);have h1:=hok t (zac ht);have hil:=yx0 h1;have hul:=yq4 (l:=l) k (λt ht=>hok t (zaw ht));refine yaed ht (fC hlt) ?_;intro hlen;refine dD (yaG t hts) (goQ_ ?_);refine yX4 (λi=>i<=(lG t).length/\∀x∈(lG t).take i,x∉bJ l k) (λi=>xC [(0,.c (.sl 2 (l.map yRT.enc))),(3,.own 8 1 (bJ l k).length),(4,.c (.i k)),(5,.c (.sl 1 ((lG t).map qC))),(6,.c (.i i))] [(8,.row 1 ((bJ l k).map qC))]) (λi=>(lG t).length-i) ?_
  rintro i ⟨hi,hni⟩
  rcases zas i (lG t).length with hlt2|hge2
  .obtain⟨x,hx⟩:∃x,(lG t)[i]?=some x:=⟨_,zab hlt2⟩;refine yafw (fC hlt2) ?_;intro _;refine yX4 (λj=>j<=(bJ l k).length/\∀y∈(bJ l k).take j,y≠x) (λj=>xC [(0,.c (.sl 2 (l.map yRT.enc))),(3,.own 8 1 (bJ l k).length),(4,.c (.i k)),(5,.c (.sl 1 ((lG t).map qC))),(6,.c (.i i)),(7,.c (.i j))] [(8,.row 1 ((bJ l k).map qC))]) (λj=>(bJ l k).length-j) ?_
   rintro j ⟨hj,hnj⟩
   rcases zas j (bJ l k).length with hlt3|hge3
   .obtain⟨y,hy⟩:∃y,(bJ l k)[j]?=some y:=⟨_,zab hlt3⟩
    have bad:y=x->¬(l.flatMap lG).Nodup:=λe=>by
     have:=fin (twice ht hx (by unfold seenAt;rw[<-e];exact zbi _ (zac hy)));simpa using this
    generalize bJ l k=u at *;have g1:=(zaa.1 hy).2;refine yafq hx (fC hlt2) hy g1 (fC hlt3) hlt3 ?_;intro _;refine⟨λh2=>(bad h2),λh2=>?_⟩;refine⟨by unfold inI;omega,j+1,⟨hlt3,?_⟩,by omega,?_⟩
    .rw[zao,hy];intro z hz;rcases zaj.1 hz with hz|hz
     .exact hnj z hz
     .simp at hz;subst hz;exact h2
    .apply aB<;>simp
   .rw[zae hge3]at hnj;refine yafw (aG hge3) ?_;intro _;refine⟨by unfold inI;omega,i+1,⟨hlt2,?_⟩,by omega,by apply aB<;>simp⟩;rw[zao,hx];intro z hz;rcases zaj.1 hz with hz|hz
    .exact hni z hz
    .simp at hz;subst hz;exactλhm=>hnj _ hm rfl
  .rw[zae hge2]at hni;refine yafw (aG hge2) ?_
   have hnd2:(bJ l (k+1)).Nodup:=by
    rw[ydz ht];exact zaY.2 ⟨hnd,yLG h1,λa ha b hb e=>hni b hb (e▸ha)⟩
   refineλ_=>⟨by omega,by unfold inI;omega,k+1,⟨hlt,hnd2⟩,by omega,?_⟩
   apply aB<;>simp[ydz ht]
 .refine yafw (aG hge) ?_;rw[yqq hge]at hnd;simp[hnd]
def yzy(l:List yRT)(hs:aJ l):qB prg 367 [.c (.sl 2 (l.map yRT.enc))] (.c (.b (Distinct l))):=by
 refine dB ypB (goQ_ ?_);refine yX4 (λk=>k<=l.length/\(∀t∈l.take k,oC t=true)/\(k≠0->l.length<=8)) (λk=>xC [(0,.c (.sl 2 (l.map yRT.enc))),(3,.c (.i k))] []) (λk=>l.length-k) ?_
 rintro k ⟨hk,hall,h8⟩
 rcases yX1 k l with⟨hlt,t,ht⟩|hge
 .have hts:=hs.2 t (zac ht);refine yaed ht (fC hlt) ?_;intro hlen;refine aA (jJ t hts) ?_;cases h1:oC t with
  |false=>refine goQ_ ?_;exact yp8 ht h1
  |true=>
   have hall':=lD (p:=oC) ht hall h1;refine goQ_ ?_;intro _;refine⟨λh9=>(by simp[Distinct];omega),λh9=>?_⟩;have h9':l.length<=8:=by omega
   exact⟨gB hlt hlen,k+1,⟨hlt,hall',λ_=>h9'⟩,by omega,by apply aB<;>simp⟩
 .have h1:=dF (p:=oC) hge hall
  have h8':l.length<=8:=by
   rcases zaB k with e|e
   .omega
   .exact h8 (by omega)
  refine yafw (aG hge) ?_;intro _;refine aA (yju l hs h8' (zaf.1 h1)) (goQ_ ?_);simp[Distinct,h1,h8']
def lF(k:yR0):Bool:=inRange k.Length 1 1000&&inRange k.Width 1 100&&inRange k.ySi 0 100000&&inRange k.ySj 0 100000&&inRange k.Base 0 100000&&inRange k.Area 1 10000&&inRange k.ySs 1 100000&&inRange k.ySn 0 1000000000&&inRange k.Gate 0 2&&Distinct k.yRY
def pX(k:yR0)(h:k.small):qB prg 343 [.agg (k.enc.map .c)] (.c (.b (lF k))):=by
 refine dB ywo (goQ_ ?_);refine aA (iC k.Length 1 1000) ?_;cases h0:inRange k.Length 1 1000 with
 |false=>simp -dsimp -implicitDefEqProofs;simp[lF,h0]
 |true=>
 refine goQ_ ?_;refine aA (iC k.Width 1 100) ?_;cases h1:inRange k.Width 1 100 with
 |false=>simp -dsimp -implicitDefEqProofs;simp[lF,h0,h1]
 |true=>
 refine goQ_ ?_;refine aA (iC k.ySi 0 100000) ?_;cases h2:inRange k.ySi 0 100000 with
 |false=>simp -dsimp -implicitDefEqProofs;simp[lF,h0,h1,h2]
 |true=>
 refine goQ_ ?_;refine aA (iC k.ySj 0 100000) ?_;cases h3:inRange k.ySj 0 100000 with
 |false=>simp -dsimp -implicitDefEqProofs;simp[lF,h0,h1,h2,h3]
 |true=>
 refine goQ_ ?_;refine aA (iC k.Base 0 100000) ?_;cases h4:inRange k.Base 0 100000 with
 |false=>simp -dsimp -implicitDefEqProofs;simp[lF,h0,h1,h2,h3,h4]
 |true=>
 refine goQ_ ?_;refine aA (iC k.Area 1 10000) ?_;cases h5:inRange k.Area 1 10000 with
 |false=>simp -dsimp -implicitDefEqProofs;simp[lF,h0,h1,h2,h3,h4,h5]
 |true=>
 refine goQ_ ?_;refine aA (iC k.ySs 1 100000) ?_;cases h6:inRange k.ySs 1 100000 with
 |false=>simp -dsimp -implicitDefEqProofs;simp[lF,h0,h1,h2,h3,h4,h5,h6]
 |true=>
 refine goQ_ ?_;refine aA (iC k.ySn 0 1000000000) ?_;cases h7:inRange k.ySn 0 1000000000 with
 |false=>simp -dsimp -implicitDefEqProofs;simp[lF,h0,h1,h2,h3,h4,h5,h6,h7]
 |true=>
 refine goQ_ ?_;refine aA (iC k.Gate 0 2) ?_;cases h8:inRange k.Gate 0 2 with
 |false=>simp -dsimp -implicitDefEqProofs;simp[lF,h0,h1,h2,h3,h4,h5,h6,h7,h8]
 |true=>
 refine goQ_ ?_;refine aA (yfU k.yRY h) ?_;cases h9:Distinct k.yRY with
 |false=>simp -dsimp -implicitDefEqProofs;simp[lF,h0,h1,h2,h3,h4,h5,h6,h7,h8,h9]
 |true=>
  simp -dsimp -implicitDefEqProofs;simp[lF,h0,h1,h2,h3,h4,h5,h6,h7,h8,h9]
def dV(k:yR0)(h:k.small):qB prg 315 [.agg (k.enc.map .c)] (.c (.b (lF k))):=by
 refine dB ywF (goQ_ ?_);refine aA (bC k.Length 1 1000) ?_;cases h0:inRange k.Length 1 1000 with
 |false=>simp -dsimp -implicitDefEqProofs;simp[lF,h0]
 |true=>
 refine goQ_ ?_;refine aA (bC k.Width 1 100) ?_;cases h1:inRange k.Width 1 100 with
 |false=>simp -dsimp -implicitDefEqProofs;simp[lF,h0,h1]
 |true=>
 refine goQ_ ?_;refine aA (yaJ k.ySi) ?_;cases h2:inRange k.ySi 0 100000 with
 |false=>simp -dsimp -implicitDefEqProofs;simp[lF,h0,h1,h2]
 |true=>
 refine goQ_ ?_;refine aA (yaJ k.ySj) ?_;cases h3:inRange k.ySj 0 100000 with
 |false=>simp -dsimp -implicitDefEqProofs;simp[lF,h0,h1,h2,h3]
 |true=>
 refine goQ_ ?_;refine aA (yaJ k.Base) ?_;cases h4:inRange k.Base 0 100000 with
 |false=>simp -dsimp -implicitDefEqProofs;simp[lF,h0,h1,h2,h3,h4]
 |true=>
 refine goQ_ ?_;refine aA (bC k.Area 1 10000) ?_;cases h5:inRange k.Area 1 10000 with
 |false=>simp -dsimp -implicitDefEqProofs;simp[lF,h0,h1,h2,h3,h4,h5]
 |true=>
 refine goQ_ ?_;refine aA (bC k.ySs 1 100000) ?_;cases h6:inRange k.ySs 1 100000 with
 |false=>simp -dsimp -implicitDefEqProofs;simp[lF,h0,h1,h2,h3,h4,h5,h6]
 |true=>
 refine goQ_ ?_;refine aA (bC k.ySn 0 1000000000) ?_;cases h7:inRange k.ySn 0 1000000000 with
 |false=>simp -dsimp -implicitDefEqProofs;simp[lF,h0,h1,h2,h3,h4,h5,h6,h7]
 |true=>
 refine goQ_ ?_;refine aA (bC k.Gate 0 2) ?_;cases h8:inRange k.Gate 0 2 with
 |false=>simp -dsimp -implicitDefEqProofs;simp[lF,h0,h1,h2,h3,h4,h5,h6,h7,h8]
 |true=>
 refine goQ_ ?_;refine aA (yzy k.yRY h) ?_;cases h9:Distinct k.yRY with
 |false=>simp -dsimp -implicitDefEqProofs;simp[lF,h0,h1,h2,h3,h4,h5,h6,h7,h8,h9]
 |true=>
  simp -dsimp -implicitDefEqProofs;simp[lF,h0,h1,h2,h3,h4,h5,h6,h7,h8,h9]
def fJ(w:yR8):Bool:=lF w.yR0&&iZ w.ySp&&ya3 w.Rule&&xO w.Pauses&&ybY w.Turn&&decide (w.Calls.length<=24)&&w.Calls.all jO
def wk1{w:yR8}(h:lF w.yR0=false):fJ w=false:=by simp[fJ,h]
def wk2{w:yR8}(h:iZ w.ySp=false):fJ w=false:=by simp[fJ,h]
def wk3{w:yR8}(h:ya3 w.Rule=false):fJ w=false:=by simp[fJ,h]
def wk4{w:yR8}(h:xO w.Pauses=false):fJ w=false:=by simp[fJ,h]
def wk5{w:yR8}(h:ybY w.Turn=false):fJ w=false:=by simp[fJ,h]
def wk6{w:yR8}(h:24<w.Calls.length):fJ w=false:=by
 have:¬w.Calls.length<=24:=by omega
 simp[fJ,this]
def wk7{w:yR8}{k:Nat}{c:yR4}(hc:w.Calls[k]?=some c)(h:jO c=false):fJ w=false:=by
 have:w.Calls.all jO=false:=all_false (p:=jO) hc h;simp only[fJ,this,zbk]
def yAQ(w:yR8)(hs:w.small):qB prg 248 [.agg (w.enc.map .c)] (.c (.b (fJ w))):=by
 refine dB yvC (goQ_ ?_);refine aA (pX w.yR0 hs.1) ?_;cases h1:lF w.yR0 with
 |false=>refine goQ_ ?_;exact wk1 h1
 |true=>
 refine goQ_ ?_;refine aA (yBa w.ySp) ?_;cases h2:iZ w.ySp with
 |false=>refine goQ_ ?_;exact wk2 h2
 |true=>
 refine goQ_ ?_;refine aA (yAx w.Rule) ?_;cases h3:ya3 w.Rule with
 |false=>refine goQ_ ?_;exact wk3 h3
 |true=>
 refine goQ_ ?_;refine aA (ymM w.Pauses) ?_;cases h4:xO w.Pauses with
 |false=>refine goQ_ ?_;exact wk4 h4
 |true=>
 refine goQ_ ?_;refine aA (yjQ w.Turn) ?_;cases h5:ybY w.Turn with
 |false=>refine goQ_ ?_;exact wk5 h5
 |true=>
 refine goQ_ ?_;intro hlen;refine⟨λh6=>(wk6 (by omega)),λh6=>?_⟩
 refineλ_=>qA (ι:=Nat) (λk=>k<=w.Calls.length/\∀c∈w.Calls.take k,jO c=true) (λk=>xC [(38,.c (.sl 4 (w.Calls.map yR4.enc))),(39,.c (.i w.Calls.length)),(40,.c (.i k))] []) (λk=>w.Calls.length-k) 0 (by simp) (by apply aB<;>simp) ?_
 rintro k ⟨hk,hall⟩
 rcases yX1 k w.Calls with⟨hlt,c,hc⟩|hge
 .refine yaed hc (fC hlt) ?_;refine aA (yqV c (hs.2.2.2 c (zac hc))) ?_;cases h7:jO c with
  |false=>refine goQ_ ?_;exact wk7 hc h7
  |true=>
   refine goQ_ ?_;exact⟨gB hlt hlen,k+1,⟨hlt,lD (p:=jO) hc hall h7⟩,by omega,by apply aB<;>simp⟩
 .refine yafw (aG hge) ?_;have h7:=dF (p:=jO) hge hall;have h6':w.Calls.length<=24:=by omega
  simp[fJ,h1,h2,h3,h4,h5,h6',h7]
end
end Go.Proofs.YtdadkiofenhnbaaGreat
