/- What functions answer, in plain Lean. -/
import Derived.Test.YtdadkiofenhnbaaGreatR2
import Derived.Test.YtdadkiofenhnbaaGreatR3
import Derived.Test.YtdadkiofenhnbaaGreatR4
import Derived.Test.YtdadkiofenhnbaaGreatR5
import Derived.Test.YtdadkiofenhnbaaGreatR6
import Derived.Test.YtdadkiofenhnbaaGreatR7
set_option linter.all false
set_option maxRecDepth 100000
set_option maxHeartbeats 4000000
namespace Go.Proofs.YtdadkiofenhnbaaGreat
open Go.RowKit
noncomputable section
def inRange(n a b:Int):Bool:=decide (a<=n)&&decide (n<=b)
def iC(n a b:Int):qB prg 60 [.c (.i n),.c (.i a),.c (.i b)] (.c (.b (inRange n a b))):=by
 refine dB yul ?_;simp -dsimp[ykl,inRange];exact⟨λh=>by simp[h],λh=>by simp[zdK.2 h]⟩
def bC(n a b:Int):qB prg 47 [.c (.i n),.c (.i a),.c (.i b)] (.c (.b (inRange n a b))):=by
 refine dB yze ?_;simp -dsimp[yoy,inRange];exact⟨λh=>by simp[h],λh=>by simp[zdK.2 h]⟩
structure ySb where
 From:Int
 To:Int
 Amount:Int
 Time:Int
 Why:Int
 deriving Inhabited,DecidableEq
@[simp] def ySb.enc(e:ySb):List C:=[.i e.From,.i e.To,.i e.Amount,.i e.Time,.i e.Why]
def aV(e:ySb):Bool:=decide (e.From≠e.To)&&inRange e.From 0 11&&inRange e.To 0 11&&inRange e.Amount 1 1000000000&&inRange e.Time 0 1000000&&inRange e.Why 0 9999
def yxK(e:ySb):qB prg 161 [.agg (e.enc.map .c)] (.c (.b (aV e))):=by
 refine dB yua (eP ?_);refine⟨λh=>?_,λh=>by simp[aV,h]⟩;refine aA (iC e.From 0 11) (eP ?_);refine⟨λh1=>?_,λh1=>by simp[aV,h1]⟩;refine aA (iC e.To 0 11) (eP ?_);refine⟨λh2=>?_,λh1=>by simp[aV,h1]⟩;refine aA (iC e.Amount 1 1000000000) (eP ?_);refine⟨λh3=>?_,λh1=>by simp[aV,h1]⟩;refine aA (iC e.Time 0 1000000) (eP ?_);refine⟨λh4=>?_,λh1=>by simp[aV,h1]⟩;refine aA (iC e.Why 0 9999) (eP ?_);simp[aV,h,h1,h2,h3,h4]
def kU(es:List ySb):Bool:=decide (es.length<=2000)&&es.all aV
def lD{α:Type}{p:α->Bool}{l:List α}{k:Nat}{e:α}(he:l[k]?=some e)(h:∀x∈l.take k,p x=true)(hp:p e=true):∀x∈l.take (k+1),p x=true:=by
 intro x hx;rw[zcG (zaa.1 he).1]at hx;rcases zaq.1 hx with h1|h1
 .exact h x h1
 .rw[zas]at h1;have:=(zaa.1 he).2;rw[h1,this];exact hp
def dF{α:Type}{p:α->Bool}{l:List α}{k:Nat}(hk:l.length<=k)(h:∀x∈l.take k,p x=true):l.all p=true:=by
 rw[List.take_of_length_le hk]at h;exact zaf.2 h
def all_false{α:Type}{p:α->Bool}{l:List α}{k:Nat}{e:α}(he:l[k]?=some e)(hp:p e=false):l.all p=false:=by
 rw[zdj];exact⟨e,zac he,by simp[hp]⟩
def fC{k n:Nat}(h:k<n):((k:Int)<(n:Int))=True:=by simp[h]
def aG{k n:Nat}(h:n<=k):((k:Int)<(n:Int))=False:=by simp[h]
def ykw(es:List ySb):qB prg 62 [.c (.sl 5 (es.map ySb.enc))] (.c (.b (kU es))):=by
 refine dB ywJ (eP ?_);intro hlen;refine⟨λh=>by simp[kU];omega,λh _=>?_⟩;refine yX2 (λk=>k<=es.length/\∀e∈es.take k,aV e=true) (λk=>xC [(8,.c (.sl 5 (es.map ySb.enc))),(9,.c (.i es.length)),(10,.c (.i k))] []) (λk=>es.length-k) (by apply aB<;>simp[AV.ye9,AV.yox]) ?_
 rintro k ⟨hk,hall⟩
 rcases yX1 k es with⟨hlt,e,he⟩|hge
 .refine yaed he (fC hlt) ?_;refine aA (yxK e) (eP ?_);refine⟨λh1=>by simp[kU,all_false he h1],λh1=>?_⟩;refine⟨by unfold maxLen at hlen;constructor<;>omega,k+1,⟨by omega,lD he hall h1⟩,by omega,?_⟩;apply aB<;>simp[AV.ye9,AV.yox]
 .refine eU (aG hge) ?_;have:=dF hge hall;simp[kU,this];omega
structure Way where
 Long:Int
 Bed:Int
 deriving DecidableEq,Inhabited
@[simp] def Way.enc(e:Way):List C:=[.i e.Long,.i e.Bed]
def ykM(e:Way):Bool:=inRange e.Long 1 10000&&inRange e.Bed 0 100000
def yaJ(n:Int):qB prg 297 [.c (.i n)] (.c (.b (inRange n 0 100000))):=by
 refine dB yr6 (eP ?_);refine aA (bC n 0 100000) ?_;exact goE_
def ysY(e:Way):qB prg 246 [.agg (e.enc.map .c)] (.c (.b (ykM e))):=by
 refine dB yyM (eP ?_);refine aA (iC e.Long 1 10000) (eP ?_);refine⟨λh=>?_,λh=>by simp[ykM,h]⟩;refine aA (iC e.Bed 0 100000) (eP ?_);simp[ykM,h]
def ysH(e:Way):qB prg 242 [.agg (e.enc.map .c)] (.c (.b (ykM e))):=by
 refine dB yyp (eP ?_);refine aA (bC e.Long 1 10000) (eP ?_);refine⟨λh=>?_,λh=>by simp[ykM,h]⟩;refine aA (yaJ e.Bed) (eP ?_);simp[ykM,h]
def yDF(e:Way):qB prg 217 [.agg (e.enc.map .c)] (.agg (e.enc.map .c)):=by
 refine dB yy8 ?_;exact goE_
def yxQ(e:ySb):qB prg 245 [.agg (e.enc.map .c)] (.c (.b (aV e))):=by
 refine dB ysv (eP ?_);refine⟨λh=>?_,λh=>by simp[aV,h]⟩;refine aA (bC e.From 0 11) (eP ?_);refine⟨λh1=>?_,λh1=>by simp[aV,h1]⟩;refine aA (bC e.To 0 11) (eP ?_);refine⟨λh2=>?_,λh1=>by simp[aV,h1]⟩;refine aA (bC e.Amount 1 1000000000) (eP ?_);refine⟨λh3=>?_,λh1=>by simp[aV,h1]⟩;refine aA (bC e.Time 0 1000000) (eP ?_);refine⟨λh4=>?_,λh1=>by simp[aV,h1]⟩;refine aA (bC e.Why 0 9999) (eP ?_);simp[aV,h,h1,h2,h3,h4]
def yxD(e:ySb):qB prg 221 [.agg (e.enc.map .c)] (.agg (e.enc.map .c)):=by
 refine dB ysL ?_;exact goE_
def yES(e f:ySb):qB prg 228 [.agg (e.enc.map .c),.agg (f.enc.map .c)] (.c (.b (decide (e=f)))):=by
 refine dB yu7 ?_;obtain⟨a1,a2,a3,a4,a5⟩:=e;obtain⟨b1,b2,b3,b4,b5⟩:=f;simp -dsimp -implicitDefEqProofs [yi5,ySb.mk.injEq];refine⟨λh=>by simp[h],λh=>⟨λh1=>by simp[h1],λh1=>⟨λh2=>by simp[h2],λh2=>⟨λh3=>by simp[h3],λh3=>⟨λh4=>by simp[h4],λh4=>by simp[h,h1,h2,h3,h4]⟩⟩⟩⟩⟩
def partly{α:Type}(f:α->List C)(z:List C)(es:List α)(k:Nat):List (List C):=(es.take k).map f++List.replicate (es.length-k) z
def dG{α:Type}{f:α->List C}{z:List C}{es:List α}{k:Nat}(h:k<=es.length):(partly f z es k).length=es.length:=by
 simp[partly];omega
def mF{α:Type}{f:α->List C}{z:List C}{es:List α}:partly f z es 0=List.replicate es.length z:=by simp[partly]
def eG{α:Type}{f:α->List C}{z:List C}{es:List α}{k:Nat}(h:es.length<=k):partly f z es k=es.map f:=by
 simp[partly,List.take_of_length_le h,Nat.sub_eq_zero_of_le h]
def fG{α:Type}{f:α->List C}{z:List C}{es:List α}{k:Nat}{e:α}(h:es[k]?=some e):(partly f z es k).set k (f e)=partly f z es (k+1):=by
 have hk:=(zaa.1 h).1;have he:=(zaa.1 h).2;unfold partly;rw[zbr _ _ (by simp;omega)];have h1:((es.take k).map f).length=k:=by simp;omega
 rw[h1,zbw,show es.length-k=(es.length-(k+1))+1 by omega,zcX,zbu,zcG hk,he];simp
def tX{α:Type}{f:α->List C}{z:List C}{es:List α}{k n:Nat}(hz:z.length=n)(hf:∀e,(f e).length=n)(h:k<es.length):((partly f z es k)[k]?.getD []).length=n:=by
 unfold partly;rw[zau (by simp;omega)];have h1:((es.take k).map f).length=k:=by simp;omega
 rw[h1,zbw,zbB,if_pos (by omega)];exact hz
def qG{α:Type}{f:α->List C}{z:List C}{es:List α}{k n:Nat}(hz:z.length=n)(h:k<es.length):((partly f z es k)[k]?.getD []).drop n=[]:=by
 apply zbF;unfold partly;rw[zau (by simp;omega)];have h1:((es.take k).map f).length=k:=by simp;omega
 rw[h1,zbw,zbB,if_pos (by omega)];simp[hz]
def gB{k n:Nat}(hk:k<n)(h:n<=maxLen):inI ((k:Int)+1):=by unfold maxLen at h;unfold inI;omega
def szS(n:Nat)(left:Int):Int:=if left-n<0 then -1 else left-n
def kJ{α:Type}{l m:List α}{k:Nat}{e f:α}(he:l[k]?=some e)(hf:m[k]?=some f)(h:l.take k=m.take k)(hef:e=f):l.take (k+1)=m.take (k+1):=by
 rw[zar,zar,he,hf,h,hef]
def qQ{α:Type}{l m:List α}{k:Nat}{e f:α}(he:l[k]?=some e)(hf:m[k]?=some f)(hef:e≠f):l≠m:=by
 rintro rfl
 rw[he]at hf;exact hef (Option.some.inj hf)
def lN{α:Type}{l m:List α}{k:Nat}(hl:l.length<=k)(hm:l.length=m.length)(h:l.take k=m.take k):l=m:=by
 rwa [List.take_of_length_le hl,List.take_of_length_le (by omega)]at h
def eqL(k f:Nat):SC:=.seq (.reg [ia 4 (.mv (kB false))]) (.seq (.seq (.reg [iv 6 0,ia 7 (.len (.t 6)),iv 8 1,ia 9 (.len (.t 8)),ia 10 (.bin .neq (.t 7) (.t 9))]) (.cond (.t 10) (.seq (.reg [ia 4 (.mv (kB false))]) (.ret)) (.skip))) (.seq (.seq (.reg [ia 5 (.mv (kI 0))]) (.block 0 (.loop (.seq (.seq (.reg [iv 11 5,iv 12 0,ia 13 (.len (.t 12)),ia 14 (.bin .lss (.t 11) (.t 13))]) (.cond (.t 14) (.skip) (.exit 0))) (.seq (.block 1 (.seq (.regq [iv 17 0,iv 18 5,ia 19 (.idx k (.t 17) (.t 18)),ia 20 (.ldn k (.t 19)),iv 21 1,iv 22 5,ia 23 (.idx k (.t 21) (.t 22)),ia 24 (.ldn k (.t 23)),ia 25 (.call f [.t 20,.t 24]),ia 26 (.not (.t 25))]) (.cond (.t 26) (.seq (.reg [ia 4 (.mv (kB false))]) (.ret)) (.skip)))) (.reg [iv 15 5,ia 16 (.bin .add (.t 15) (kI 1)),iv 5 16])))))) (.seq (.reg [ia 4 (.mv (kB true))]) (.ret))))
def yYv{α:Type}[DecidableEq α]{k f g:Nat}{enc:α->List C}(hh:Has prg g 27 (eqL k f) [.t 4])(hc:∀a b:α,qB prg f [.agg ((enc a).map .c),.agg ((enc b).map .c)] (.c (.b (decide (a=b)))))(hn:∀a,(enc a).length=k:=by intro _;rfl)(es fs:List α):qB prg g [.c (.sl k (es.map enc)),.c (.sl k (fs.map enc))] (.c (.b (decide (es=fs)))):=by
 refine dB hh ?_;simp -dsimp -implicitDefEqProofs [eqL];intro hl1 hl2;refine⟨λh e=>h (by rw[e]),λhlen=>?_⟩;have hlen':es.length=fs.length:=by omega
 refine yX4 (λk=>k<=es.length/\es.take k=fs.take k) (λi=>xC [(0,.c (.sl k (es.map enc))),(1,.c (.sl k (fs.map enc))),(5,.c (.i i))] []) (λk=>es.length-k) ?_
 rintro i ⟨hk,htk⟩
 rcases yX1 i es with⟨hlt,e,he⟩|hge
 .obtain⟨d,hf⟩:∃d,fs[i]?=some d:=⟨_,zab (by omega)⟩;have t1:(enc e).take k=enc e:=List.take_of_length_le (by rw[hn];omega);have t2:(enc d).take k=enc d:=List.take_of_length_le (by rw[hn];omega);refine yafn he hf (fC hlt) (fC (hlen'▸hlt)) hn t1 t2 ?_;intro _;refine lC (hc e d) (eP ?_);refine⟨λh=>qQ he hf h,λh=>⟨gB hlt hl1,i+1,⟨hlt,kJ he hf htk h⟩,by omega,by apply aB<;>simp⟩⟩
 .refine eU (aG hge) ?_;intro _;exact lN hge hlen' htk
def toL(k b f:Nat)(z:List C):SC:=.seq (.reg [ia 2 (.mv (.k (.nil k)))]) (.seq (.reg [iv 5 0,ia 6 (.len (.t 5)),ia 7 (.mks k b z (.t 6) (.t 6)),iv 3 7]) (.seq (.seq (.reg [ia 4 (.mv (kI 0))]) (.block 0 (.loop (.seq (.seq (.reg [iv 8 4,iv 9 0,ia 10 (.len (.t 9)),ia 11 (.bin .lss (.t 8) (.t 10))]) (.cond (.t 11) (.skip) (.exit 0))) (.seq (.block 1 (.reg [iv 14 3,iv 15 4,iv 16 0,iv 17 4,ia 18 (.idx k (.t 16) (.t 17)),ia 19 (.ldn k (.t 18)),ia 20 (.call f [.t 19]),ia 21 (.idx k (.t 14) (.t 15)),ie (.stn k (.t 21) (.t 20))])) (.reg [iv 12 4,ia 13 (.bin .add (.t 12) (kI 1)),iv 4 13])))))) (.seq (.reg [iv 22 3,iv 2 22]) (.ret))))
def yYw{α:Type}{k b f g:Nat}{z:List C}{enc:α->List C}(hh:Has prg g 23 (toL k b f z) [.t 2]){sm:α->Prop}(hc:∀a:α,sm a->qB prg f [.agg ((enc a).map .c)] (.agg ((enc a).map .c)))(hb:b<=1000:=by decide)(hn:∀a,(enc a).length=k:=by intro _;rfl)(hz:z.length=k:=by rfl)(hx:mkX z:=by simp)(xs:List α)(hl:xs.length<=1048576/\∀x∈xs,sm x):nI prg g [.c (.sl k (xs.map enc))] (.c (.ow k (xs.map enc))):=by
 refine fF hh ?_;simp -dsimp -implicitDefEqProofs [toL,hx];intro hlen;have hl1:=hl.1;have hb2:(b:Int)*xs.length<=1000*1048576:=zcu (by omega) (by omega) (by omega) (by omega);refine⟨by omega,?_⟩;refine yX2 (λk=>k<=xs.length) (λi=>xC [(0,.c (.sl k (xs.map enc))),(3,.own 7 k xs.length),(4,.c (.i i))] [(7,.row k (partly enc z xs i))]) (λk=>xs.length-k) (by apply aB<;>simp[mF]) ?_
 rintro i hk
 rcases yX1 i xs with⟨hlt,e,he⟩|hge
 .have hs:=fG (f:=enc) (z:=z) he;have hd:=qG (f:=enc) (z:=z) (n:=k) hz hlt;have t1:(enc e).take k=enc e:=List.take_of_length_le (by rw[hn];omega);simp -dsimp -implicitDefEqProofs [he,fC hlt,hn,t1]
  refineλ_=>iF (hc e (hl.2 e (zac he))) (by simp) (by simp[AV.nU,AV.yoa,Function.comp_def]) ?_
  simp -dsimp -implicitDefEqProofs [fC hlt,dG hk,hd,hs,hn,t1];exact⟨hlt,gB hlt hlen,i+1,hlt,by omega,by apply aB<;>simp⟩
 .refine eU (aG hge) ?_;intro _;rw[eG hge,jA]
def yYu{α:Type}{k b f g:Nat}{z:List C}{enc:α->List C}(hh:Has prg g 23 (toL k b f z) [.t 2]){sm:α->Prop}(hc:∀a:α,sm a->qB prg f [.agg ((enc a).map .c)] (.agg ((enc a).map .c)))(hb:b<=1000:=by decide)(hn:∀a,(enc a).length=k:=by intro _;rfl)(hz:z.length=k:=by rfl)(hx:mkX z:=by simp)(xs:List α)(hl:xs.length<=1048576/\∀x∈xs,sm x):qB prg g [.c (.sl k (xs.map enc))] (.c (.sl k (xs.map enc))):=(yYw hh hc hb hn hz hx xs hl).pure rfl
def yCx(es:List ySb)(hl:es.length<=1048576):qB prg 98 [.c (.sl 5 (es.map ySb.enc))] (.c (.sl 5 (es.map ySb.enc))):=yYu yh1 (sm:=λ_=>True) (λe _=>yxD e) (xs:=es) (hl:=⟨hl,λ_ _=>trivial⟩)
def yCk:=yYv yrI yES
def yjB(es:List ySb):qB prg 143 [.c (.sl 5 (es.map ySb.enc))] (.c (.b (kU es))):=by
 refine dB yvP (eP ?_);refine yX4 (λk=>k<=es.length/\∀e∈es.take k,aV e=true) (λk=>xC [(0,.c (.sl 5 (es.map ySb.enc))),(3,.c (.i k))] []) (λk=>es.length-k) ?_
 rintro k ⟨hk,hall⟩
 rcases yX1 k es with⟨hlt,e,he⟩|hge
 .refine yaed he (fC hlt) ?_;intro hlen;refine aA (yxQ e) (eP ?_);refine⟨λh1=>by simp[kU,all_false he h1],λh1=>?_⟩;exact⟨gB hlt hlen,k+1,⟨by omega,lD he hall h1⟩,by omega,by apply aB<;>simp⟩
 .refine eU (aG hge) ?_;have:=dF hge hall;simp only[kU,this,Bool.and_true];intro _;exact decide_eq_decide.2 (by omega)
abbrev qC(n:Int):List C:=[.i n]
def yGy(es:List Int)(left:Int)(h0:0<=left)(h1:left<=1048576):qB prg 85 [.c (.sl 1 (es.map qC)),.c (.i left)] (.c (.i (szS es.length left))):=by
 refine dB yws ?_;simp -dsimp[ymD,szS];intro hl;unfold maxLen at hl;refine⟨by unfold inI;omega,λh=>?_,λh=>?_⟩<;>intros<;>omega
def yog(es:List Int)(hl:es.length<=1048576):qB prg 96 [.c (.sl 1 (es.map qC))] (.c (.sl 1 (es.map qC))):=by
 refine dB ymg (eP ?_);intro hlen;refine⟨by omega,?_⟩;refine yX2 (λk=>k<=es.length) (λk=>xC [(0,.c (.sl 1 (es.map qC))),(3,.own 7 1 es.length),(4,.c (.i k))] [(7,.row 1 (partly qC [.i 0] es k))]) (λk=>es.length-k) (by apply aB<;>simp[mF]) ?_
 rintro k hk
 rcases yX1 k es with⟨hlt,e,he⟩|hge
 .have hs:=fG (f:=qC) (z:=[.i 0]) he
  have hd:((partly qC [.i 0] es k)[k]?.getD []).set 0 (.i e)=[.i e]:=by
   have:=tX (f:=qC) (z:=[.i 0]) (n:=1) rfl (λ_=>rfl) hlt;obtain⟨x,hx⟩:=zaS.1 this;rw[hx];rfl
  refine yaed he (fC hlt) ?_;intro _;rw[hd,show(partly qC [.i 0] es k).set k [.i e]=partly qC [.i 0] es (k+1)from hs];exact⟨by rw[dG hk];exact hlt,gB hlt hlen,k+1,hlt,by omega,by apply aB<;>simp⟩
 .refine eU (aG hge) ?_;intro _;rw[eG hge,List.take_of_length_le (by simp)]
def yoD(es fs:List Int):qB prg 105 [.c (.sl 1 (es.map qC)),.c (.sl 1 (fs.map qC))] (.c (.b (decide (es=fs)))):=by
 refine dB yvu (eP ?_);intro hl1 hl2;refine⟨λh e=>h (by rw[e]),λhlen=>?_⟩;have hlen':es.length=fs.length:=by omega
 refine yX4 (λk=>k<=es.length/\es.take k=fs.take k) (λk=>xC [(0,.c (.sl 1 (es.map qC))),(1,.c (.sl 1 (fs.map qC))),(5,.c (.i k))] []) (λk=>es.length-k) ?_
 rintro k ⟨hk,htk⟩
 rcases yX1 k es with⟨hlt,e,he⟩|hge
 .obtain⟨f,hf⟩:∃f,fs[k]?=some f:=⟨_,zab (by omega)⟩;refine yaeV he hf (fC hlt) (fC (hlen'▸hlt)) ?_;intro _;refine⟨λh=>qQ he hf h,λh=>⟨gB hlt hl1,k+1,⟨hlt,kJ he hf htk h⟩,by omega,by apply aB<;>simp⟩⟩
 .refine eU (aG hge) ?_;intro _;exact lN hge hlen' htk
structure yRZ where
 Base:Int
 ySe:Int
 yR5:List Int
 yR7:List Int
 deriving DecidableEq
@[simp] def yRZ.enc(t:yRZ):List C:=[.i t.Base,.i t.ySe,.sl 1 (t.yR5.map qC),.sl 1 (t.yR7.map qC)]
def yRZ.small(t:yRZ):Prop:=t.yR5.length<=1048576/\t.yR7.length<=1048576
def yCc(t:yRZ)(h:t.small):qB prg 97 [.agg (t.enc.map .c)] (.agg (t.enc.map .c)):=by
 refine dB yig (eP ?_);refine dD (yog t.yR5 h.1) (eP ?_);refine dD (yog t.yR7 h.2) ?_;exact goE_
def yBt(t u:yRZ):qB prg 106 [.agg (t.enc.map .c),.agg (u.enc.map .c)] (.c (.b (decide (t=u)))):=by
 refine dB yr4 ?_;obtain⟨t1,t2,t3,t4⟩:=t;obtain⟨u1,u2,u3,u4⟩:=u;simp -dsimp -implicitDefEqProofs [yin,yRZ.mk.injEq];refine⟨λh=>by simp[h],λh=>⟨λh1=>by simp[h1],λh1=>?_⟩⟩;refine aA (yoD t3 u3) (eP ?_);refine⟨λh2 _ _ h3=>absurd h3 h2,λh2=>?_⟩;refine aA (yoD t4 u4) (eP ?_);simp[h,h1,h2]
def ytW{l:List Int}{k:Nat}{x:Int}(h:l[k]?=some x):(l.take (k+1)).sum=(l.take k).sum+x:=by
 rw[zar,h];simp
def sumTo(l:List Int)(k:Nat):Int:=(l.take k).sum
def aY{l:List Int}:sumTo l 0=0:=rfl
def nV{l:List Int}{k:Nat}{x:Int}(h:l[k]?=some x):sumTo l (k+1)=sumTo l k+x:=ytW h
def yb4{l:List Int}{k:Nat}(h:l.length<=k):sumTo l k=l.sum:=by unfold sumTo;rw[List.take_of_length_le h]
def nH(t:yRZ):Bool:=inRange t.Base 0 10000&&inRange t.ySe 0 100&&decide (t.yR5.length=3)&&inRange t.yR7.length 1 11&&
 t.yR5.all (λn=>inRange n 0 10000)&&t.yR7.all (λn=>inRange n 0 1000)&&decide (0<t.yR7.sum)
def aC{n a b:Int}:inRange n a b=true↔a<=n/\n<=b:=by simp[inRange]
def gV{n a b:Int}:inRange n a b=false↔n<a\/b<n:=by
 simp only[inRange,zbU,decide_eq_false_iff_not];omega
def yk4:∀{l:List Int} {b:Int},(∀x∈l,inRange x 0 b=true)->0<=l.sum/\l.sum<=b*l.length
 |[],b,_=>by simp
 |x::l,b,h=>by
  have h1:=yk4 (l:=l) (b:=b) λy hy=>h y (by simp[hy]);have h2:=aC.1 (h x (by simp));simp only[zcf,zaJ,zcF,Int.natCast_one,zdB,Int.mul_one];omega
def yfw(t:yRZ):qB prg 145 [.agg (t.enc.map .c)] (.c (.b (nH t))):=by
 refine dB yrL (eP ?_);refine aA (iC t.Base 0 10000) (eP ?_);refine⟨λh1=>?_,λh1=>by simp[nH,h1]⟩;refine aA (iC t.ySe 0 100) (eP ?_);refine⟨λh2=>?_,λh2=>by simp[nH,h2]⟩;intro hc;refine⟨λh3 hw=>⟨λh4 _=>⟨λh5=>?_,λh5 _=>?_⟩,λh4=>?_⟩,λh3=>?_⟩
 .have:inRange t.yR7.length 1 11=false:=gV.2 (by omega);simp[nH,this]
 .have h3':t.yR5.length=3:=by omega
  have h6:inRange t.yR7.length 1 11=true:=aC.2 (by omega);refine yX4 (λk=>k<=t.yR5.length/\∀n∈t.yR5.take k,inRange n 0 10000=true) (λk=>xC [(1,.box 1 0),(37,.c (.sl 1 (t.yR5.map qC))),(38,.c (.i t.yR5.length)),(39,.c (.i k))] [(1,.box (t.enc.map .c))]) (λk=>t.yR5.length-k) ?_
  rintro k ⟨hk,hall⟩
  rcases yX1 k t.yR5 with⟨hlt,e,he⟩|hge
  .refine yaed he (fC hlt) ?_;refine aA (iC e 0 10000) (eP ?_);refine⟨λh1=>by simp[nH,all_false (p:=λn=>inRange n 0 10000) he h1],λh1=>?_⟩;exact⟨gB hlt hc,k+1,⟨by omega,lD (p:=λn=>inRange n 0 10000) he hall h1⟩,by omega,by apply aB<;>simp⟩
  .have h7:=dF (p:=λn=>inRange n 0 10000) hge hall;refine eU (aG hge) ?_;intro _;refine yX4 (λk=>k<=t.yR7.length/\∀n∈t.yR7.take k,inRange n 0 1000=true) (λk=>xC [(5,.c (.i (t.yR7.take k).sum)),(48,.c (.sl 1 (t.yR7.map qC))),(49,.c (.i t.yR7.length)),(50,.c (.i k))] []) (λk=>t.yR7.length-k) ?_
   rintro k ⟨hk,hall⟩
   rcases yX1 k t.yR7 with⟨hlt,e,he⟩|hge
   .refine yaed he (fC hlt) ?_;refine aA (iC e 0 1000) (yaed he (fC hlt) ?_);refine⟨λh1=>by simp[nH,all_false (p:=λn=>inRange n 0 1000) he h1],λh1=>?_⟩;have hs:=yk4 hall;have hx:=aC.1 h1;have hl:(t.yR7.take k).length<=11:=by simp;omega
    exact⟨by unfold inI;omega,gB hlt hw,k+1,⟨by omega,lD (p:=λn=>inRange n 0 1000) he hall h1⟩,by omega,by apply aB<;>simp[ytW he]⟩
   .have h8:=dF (p:=λn=>inRange n 0 1000) hge hall;refine eU (aG hge) ?_;rw[List.take_of_length_le hge];simp[nH,h1,h2,h3',h6,h7,h8]
 .have:inRange t.yR7.length 1 11=false:=gV.2 (by omega);simp[nH,this]
 .have:¬t.yR5.length=3:=by omega
  simp[nH,this]
def yfH(t:yRZ):qB prg 142 [.agg (t.enc.map .c)] (.c (.b (nH t))):=by
 refine dB yrQ (eP ?_);refine aA (bC t.Base 0 10000) (eP ?_);refine⟨λh1=>?_,λh1=>by simp[nH,h1]⟩;refine aA (bC t.ySe 0 100) (eP ?_);refine⟨λh2=>?_,λh2=>by simp[nH,h2]⟩;intro hc;refine⟨λh3 hw=>?_,λh3=>?_⟩
 .have h3':t.yR5.length=3:=by omega
  refine aA (bC t.yR7.length 1 11) (eP ?_);refine⟨λh6=>?_,λh6=>?_⟩
  .simp[nH,h6]
  have h6':=aC.1 h6;refine yX4 (λk=>k<=t.yR5.length/\∀n∈t.yR5.take k,inRange n 0 10000=true) (λk=>xC [(1,.box 1 0),(3,.c (.i k))] [(1,.box (t.enc.map .c))]) (λk=>t.yR5.length-k) ?_
  rintro k ⟨hk,hall⟩
  rcases yX1 k t.yR5 with⟨hlt,e,he⟩|hge
  .have hlt3:((k:Int)<3)=True:=by simp;omega
   refine yaeT he hlt3 (fC hlt) ?_;refine aA (bC e 0 10000) (eP ?_);refine⟨λh1=>by simp[nH,all_false (p:=λn=>inRange n 0 10000) he h1],λh1=>?_⟩;exact⟨gB hlt hc,k+1,⟨by omega,lD (p:=λn=>inRange n 0 10000) he hall h1⟩,by omega,by apply aB<;>simp⟩
  .have h7:=dF (p:=λn=>inRange n 0 10000) hge hall;have hge3:((k:Int)<3)=False:=by simp;omega
   refine eU hge3 ?_;refine yX4 (λk=>k<=t.yR7.length/\∀n∈t.yR7.take k,inRange n 0 1000=true) (λk=>xC [(1,.box 1 0),(4,.c (.i (t.yR7.take k).sum)),(5,.c (.i k))] [(1,.box (t.enc.map .c))]) (λk=>t.yR7.length-k) ?_
   rintro k ⟨hk,hall⟩
   rcases yX1 k t.yR7 with⟨hlt,e,he⟩|hge
   .refine yaed he (fC hlt) ?_;intro _;refine aA (bC e 0 1000) (yaed he (fC hlt) ?_);refine⟨λh1=>by simp[nH,all_false (p:=λn=>inRange n 0 1000) he h1],λh1=>?_⟩;have hs:=yk4 hall;have hx:=aC.1 h1;have hl:(t.yR7.take k).length<=11:=by simp;omega
    exact⟨by unfold inI;omega,gB hlt hw,k+1,⟨by omega,lD (p:=λn=>inRange n 0 1000) he hall h1⟩,by omega,by apply aB<;>simp[ytW he]⟩
   .have h8:=dF (p:=λn=>inRange n 0 1000) hge hall;refine eU (aG hge) ?_;rw[List.take_of_length_le hge];simp[nH,h1,h2,h3',h6,h7,h8]
 .have:¬t.yR5.length=3:=by omega
  simp[nH,this]
def marked(mk:Int->List C)(c:Int)(rows:List (List C))(k:Int)(i:Nat):List (List C):=(List.range i).map (λ(j:Nat)=>mk (k+c*j))++rows.drop i
def yaS{mk:Int->List C}{c:Int}{rows:List (List C)}{k:Int}:marked mk c rows k 0=rows:=by simp[marked]
def ybS{mk:Int->List C}{c:Int}{rows:List (List C)}{k:Int}{i:Nat}(h:i<=rows.length):(marked mk c rows k i).length=rows.length:=by simp[marked];omega
def ybJ{mk:Int->List C}{c:Int}{rows:List (List C)}{k:Int}{i:Nat}(h:i=rows.length):marked mk c rows k i=marked mk c [] k rows.length:=by subst h;simp[marked]
def yb2{mk:Int->List C}{c:Int}{rows:List (List C)}{k:Int}{i:Nat}{r:List C}(h:rows[i]?=some r):(marked mk c rows k i)[i]?=some r:=by
 unfold marked;rw[zau (by simp)];simpa using h
def ybU{mk:Int->List C}{c:Int}{rows:List (List C)}{k:Int}{i:Nat}(h:i<rows.length):(marked mk c rows k i).set i (mk (k+c*i))=marked mk c rows k (i+1):=by
 unfold marked;rw[zbr _ _ (by simp),zai,zcH,zbw,zay h,zbu,zcY,zaB,zbb];rfl
def ydI{mk:Int->List C}{c:Int}{k:Int}{n i:Nat}(h:i<n):(marked mk c [] k n)[i]?=some (mk (k+c*i)):=by
 unfold marked;simp[h]
def kE{mk:Int->List C}{c:Int}{k:Int}{n:Nat}:(marked mk c [] k n).length=n:=by simp[marked]
def yaQ{mk:Int->List C}{c:Int}{k:Int}{n:Nat}:(marked mk c [] k n).take n=marked mk c [] k n:=List.take_of_length_le (by rw[kE];exact Nat.le_refl _)
def ynU(es:List Int)(hl:es.length<=1048576):nI prg 96 [.c (.sl 1 (es.map qC))] (.c (.ow 1 (es.map qC))):=by
 refine fF ymg (eP ?_);intro hlen;refine⟨by omega,?_⟩;refine yX2 (λk=>k<=es.length) (λk=>xC [(0,.c (.sl 1 (es.map qC))),(3,.own 7 1 es.length),(4,.c (.i k))] [(7,.row 1 (partly qC [.i 0] es k))]) (λk=>es.length-k) (by apply aB<;>simp[mF]) ?_
 rintro k hk
 rcases yX1 k es with⟨hlt,e,he⟩|hge
 .have hs:=fG (f:=qC) (z:=[.i 0]) he
  have hd:((partly qC [.i 0] es k)[k]?.getD []).set 0 (.i e)=[.i e]:=by
   have:=tX (f:=qC) (z:=[.i 0]) (n:=1) rfl (λ_=>rfl) hlt;obtain⟨x,hx⟩:=zaS.1 this;rw[hx];rfl
  refine yaed he (fC hlt) ?_;intro _;rw[hd,show(partly qC [.i 0] es k).set k [.i e]=partly qC [.i 0] es (k+1)from hs];exact⟨by rw[dG hk];exact hlt,gB hlt hlen,k+1,hlt,by omega,by apply aB<;>simp⟩
 .refine eU (aG hge) ?_;intro _;rw[eG hge,List.take_of_length_le (by simp)]
def mV(xs:List Int)(k:Int)(h0:0<=k)(h1:k+xs.length<=8000000000000000000):
 InF prg 114 (.c (cw 1 (xs.map qC))) (.c (cw 1 (marked qC 1 [] k xs.length))) [.c (.i k)] (.c (.i (k+xs.length))):=by
 rcases zao xs.length with hx|hx
 .have:xs=[]:=zae.1 hx;subst this;refine aK yiU (by simp) (by simp) rfl λhwf=>?_;simp -dsimp -implicitDefEqProofs [yc5,marked];refine qA (ι:=Unit) (λ_=>True) (λ_=>xC [(0,.c (.sl 1 [])),(1,.c (.i k)),(5,.c (.i 0)),(1000000,.c (.sl 1 []))] []) (λ_=>0) () trivial (by apply aB<;>simp) ?_
  rintro _ _
  exact goE_
 .rw[kH (by simpa using hx),kH (by rw[kE];exact hx)];refine aK yiU (by simp) (by simp) rfl λhwf=>?_;simp -dsimp -implicitDefEqProofs [yc5];refine yX2 (λi=>i<=xs.length) (λi=>xC [(0,.own 0 1 xs.length),(1,.c (.i (k+i))),(5,.c (.i i)),(1000000,.own 0 1 xs.length)] [(0,.row 1 (marked qC 1 (xs.map qC) k i))]) (λi=>xs.length-i) (by apply aB<;>simp[yaS]) ?_
  rintro i hi
  rcases yX1 i xs with⟨hlt,e,he⟩|hge
  .have hg:=yb2 (mk:=qC) (c:=1) (k:=k) (rows:=xs.map qC) (i:=i) (r:=[.i e]) (by simp[he]);have hl:=ybS (mk:=qC) (c:=1) (k:=k) (rows:=xs.map qC) (i:=i) (by simpa using hi);have hs:=ybU (mk:=qC) (c:=1) (k:=k) (rows:=xs.map qC) (i:=i) (by simpa using hlt);rw[zai]at hl;simp only[Int.one_mul,qC]at hs;refine yaeT (fC hlt) hg hl ?_;intro hlen;refine⟨hlt,by unfold inI;omega,by unfold inI;omega,i+1,hlt,by omega,?_⟩;apply aB<;>simp[hs]<;>omega
  .have:i=xs.length:=by omega
   subst this;refine eP ?_;intro _;have e:=ybJ (mk:=qC) (c:=1) (rows:=xs.map qC) (k:=k) (i:=xs.length) (by simp);rw[e,zai,List.take_of_length_le (by rw[kE];exact Nat.le_refl _)]
def yhl(n:Nat)(k:Int)(h0:0<=k)(h1:k+n<=8000000000000000000):qB prg 123 [.c (.sl 1 (marked qC 1 [] k n)),.c (.i k)] (.c (.i (k+n))):=by
 refine dB yrF (eP ?_);refine yX4 (λi=>i<=n) (λi=>xC [(0,.c (.sl 1 (marked qC 1 [] k n))),(1,.c (.i (k+i))),(5,.c (.i i))] []) (λi=>n-i) ?_
 rintro i hi
 rcases zan i n with hlt|hge
 .have hg:=ydI (mk:=qC) (c:=1) (k:=k) hlt;simp only[Int.one_mul]at hg;simp -dsimp -implicitDefEqProofs [kE,fC hlt,hg];intro hlen;refine⟨by unfold inI;omega,by unfold inI;omega,i+1,hlt,by omega,?_⟩;apply aB<;>simp<;>omega
 .have:i=n:=by omega
  subst this;simp -dsimp -implicitDefEqProofs [kE]
def sO(a:Int)(f:Int->Int):Int:=if a<0 then -1 else f a
def sG{α:Type}(f:α->Int->Int):List α->Int->Int
 |[],l=>l
 |x::xs,l=>sO (f x l) (sG f xs)
def ybF{α:Type}(f:α->Int->Int)(xs:List α)(l:Int):Int:=sO (szS xs.length l) (sG f xs)
def ya8{α:Type}(f:α->Int->Int)(sm:α->Prop):Prop:=∀x l,0<=l->l<=1048576->f x l= -1\/(0<=f x l/\f x l<=l/\sm x)
def aW{α:Type}(sm:α->Prop)(xs:List α):Prop:=xs.length<=1048576/\∀x∈xs,sm x
def oD{a:Int}{f:Int->Int}(h:a<0):sO a f= -1:=by simp[sO,h]
def xB{a:Int}{f:Int->Int}(h:0<=a):sO a f=f a:=by simp[sO,zcU.2 h]
def yhd{α:Type}:ya8 (λ(xs:List α) l=>szS xs.length l) (aW λ_:α=>True):=by
 intro xs l h0 h1;simp only[szS];unfold aW;split
 .exact .inl rfl
 .exact .inr ⟨by omega,by omega,by omega,λ_ _=>trivial⟩
def yGx{α:Type}{f:α->Int->Int}{sm:α->Prop}(h:ya8 f sm){x:α}{l:Int}(h0:0<=l)(h1:l<=1048576)(hp:0<=f x l):sm x:=by
 rcases h x l h0 h1 with e|⟨_,_,e⟩
 .omega
 .exact e
def yiI{α:Type}{f:α->Int->Int}{sm:α->Prop}(h:ya8 f sm)(x:α){l:Int}(h0:0<=l)(h1:l<=1048576)(hp:0<=f x l):f x l<=1048576:=by
 rcases h x l h0 h1 with e|⟨_,e,_⟩
 .omega
 .omega
def yxa{α:Type}{f:α->Int->Int}{sm:α->Prop}(h:ya8 f sm):∀(xs:List α) (l:Int),0<=l->l<=1048576->sG f xs l= -1\/(0<=sG f xs l/\sG f xs l<=l/\∀x∈xs,sm x)
 |[],l,h0,h1=>.inr ⟨h0,zbD _,by simp⟩
 | x::xs,l,h0,h1=>by
  simp only[sG];rcases h x l h0 h1 with e|⟨e1,e2,e3⟩
  .exact .inl (oD (by omega))
  .rw[xB e1];rcases yxa h xs (f x l) e1 (by omega)with e|⟨e4,e5,e6⟩
   .exact .inl e
   .exact .inr ⟨e4,by omega,by simp;exact⟨e3,e6⟩⟩
def yeR{α:Type}{f:α->Int->Int}{sm:α->Prop}(h:ya8 f sm):ya8 (ybF f) (aW sm):=by
 intro xs l h0 h1;unfold ybF;rcases yhd xs l h0 h1 with e|⟨e1,e2,e3⟩
 .exact .inl (oD (by simp only at e;omega))
 .simp only at e1 e2;rw[xB e1];rcases yxa h xs _ e1 (by omega)with e|⟨e4,e5,e6⟩
  .exact .inl e
  .exact .inr ⟨e4,by omega,e3.1,e6⟩
def szL(k f:Nat):SC:=.seq (.reg [ia 4 (.mv (kI 0))]) (.seq (.reg [iv 6 1,iv 7 0,ia 8 (.len (.t 7)),ia 9 (.bin .sub (.t 6) (.t 8)),iv 1 9]) (.seq (.seq (.reg [iv 10 1,ia 11 (.bin .lss (.t 10) (kI 0))]) (.cond (.t 11) (.seq (.reg [ia 4 (.mv (kI (-1)))]) (.ret)) (.skip))) (.seq (.seq (.reg [ia 5 (.mv (kI 0))]) (.block 0 (.loop (.seq (.seq (.reg [iv 12 5,iv 13 0,ia 14 (.len (.t 13)),ia 15 (.bin .lss (.t 12) (.t 14))]) (.cond (.t 15) (.skip) (.exit 0))) (.seq (.block 1 (.seq (.reg [iv 18 0,iv 19 5,ia 20 (.idx k (.t 18) (.t 19)),ia 21 (.ldn k (.t 20)),iv 22 1,ia 23 (.call f [.t 21,.t 22]),iv 1 23]) (.seq (.reg [iv 24 1,ia 25 (.bin .lss (.t 24) (kI 0))]) (.cond (.t 25) (.seq (.reg [ia 4 (.mv (kI (-1)))]) (.ret)) (.skip))))) (.reg [iv 16 5,ia 17 (.bin .add (.t 16) (kI 1)),iv 5 17])))))) (.seq (.reg [iv 26 1,iv 4 26]) (.ret)))))
def yYx{α:Type}{k f g:Nat}{enc:α->List C}{sz:α->Int->Int}{sm:α->Prop}(hh:Has prg g 27 (szL k f) [.t 4])(hok:ya8 sz sm)(hc:∀(e:α) (l:Int),0<=l->l<=1048576->qB prg f [.agg ((enc e).map .c),.c (.i l)] (.c (.i (sz e l))))(xs:List α)(l:Int)(h0:0<=l)(h1:l<=1048576)(hn:∀a,(enc a).length=k:=by intro _;rfl):qB prg g [.c (.sl k (xs.map enc)),.c (.i l)] (.c (.i (ybF sz xs l))):=by
 refine dB hh ?_;simp -dsimp -implicitDefEqProofs [szL];intro hl;have hs:szS xs.length l=if l-xs.length<0 then -1 else l-xs.length:=rfl
 refine⟨by unfold maxLen at hl;unfold inI;omega,λh=>?_,λh=>?_⟩
 .simp[ybF,sO,hs,h]
 have h':0<=l-xs.length:=by omega
 have e0:ybF sz xs l=sG sz xs (l-xs.length):=by
  have:szS xs.length l=l-xs.length:=by rw[hs,if_neg (by omega)]
  simp only[ybF];rw[this,xB h']
 refine qA (ι:=Nat×Int) (λp=>p.1<=xs.length/\0<=p.2/\p.2<=1048576/\sG sz (xs.drop p.1) p.2=ybF sz xs l) (λp=>xC [(0,.c (.sl k (xs.map enc))),(1,.c (.i p.2)),(5,.c (.i p.1))] []) (λp=>xs.length-p.1) (0,l-xs.length) ⟨by simp,h',by simp only;omega,by simp[e0]⟩ (by apply aB<;>simp) ?_
 rintro⟨i,q⟩ ⟨hk,hq0,hq1,hf⟩
 simp only at hk hq0 hq1 hf;rcases yX1 i xs with⟨hlt,e,he⟩|hge
 .have hd:xs.drop i=e::xs.drop (i+1):=by
   rw[zay hlt,(zaa.1 he).2]
  have t1:(enc e).take k=enc e:=List.take_of_length_le (by rw[hn];omega);rw[hd,sG]at hf;refine yaeV he (fC hlt) hn t1 ?_
  refineλ_=>mD (hc e q hq0 hq1) (by simp) rfl (eP ?_)
  refine⟨λh=>by rw[<-hf,oD h],λh=>⟨gB hlt hl,i+1,⟨sz e q,?_⟩⟩⟩;rw[xB h]at hf
  have hle:sz e q<=1048576:=by
   rcases hok e q hq0 hq1 with e1|e1
   .omega
   .omega
  exact⟨⟨hlt,h,hle,hf⟩,by omega,by apply aB<;>simp⟩
 .refine eU (aG hge) ?_;rw[zaZ hge]at hf;intro _
  first|simpa[sG]using hf|simpa[sG]using hf.symm
structure ySa where
 Id:Int
 Length:Int
 Width:Int
 ySv:Int
 ySG:Int
 Class:Int
 deriving DecidableEq,Inhabited
@[simp] def ySa.enc(e:ySa):List C:=[.i e.Id,.i e.Length,.i e.Width,.i e.ySv,.i e.ySG,.i e.Class]
-- ySa
def yzT(e:ySa):qB prg 379 [.agg (e.enc.map .c)] (.agg (e.enc.map .c)):=by
 refine dB yv9 ?_;exact goE_
def yHc(a b:ySa):qB prg 380 [.agg (a.enc.map .c),.agg (b.enc.map .c)] (.c (.b (decide (a=b)))):=by
 refine dB yv0 ?_;obtain⟨a0,a1,a2,a3,a4,a5⟩:=a;obtain⟨b0,b1,b2,b3,b4,b5⟩:=b;simp -dsimp -implicitDefEqProofs [ymo,ySa.mk.injEq];refine⟨λh=>by simp_all,λh0=>?_⟩;refine⟨λh=>by simp_all,λh1=>?_⟩;refine⟨λh=>by simp_all,λh2=>?_⟩;refine⟨λh=>by simp_all,λh3=>?_⟩;refine⟨λh=>by simp_all,λh4=>?_⟩;refine⟨λh=>by simp_all,λh5=>?_⟩
 simp_all
-- []ySa
def yby(xs:List ySa)(l:Int):Int:=szS xs.length l
def yeM:List ySa->Prop:=aW λ_=>True
def yqE:ya8 yby yeM:=yhd
def yBB(xs:List ySa)(l:Int)(h0:0<=l)(h1:l<=1048576):qB prg 363 [.c (.sl 6 (xs.map ySa.enc)),.c (.i l)] (.c (.i (yby xs l))):=by
 refine dB yu3 ?_;simp -dsimp -implicitDefEqProofs [ykD,yby,szS];intro hl;unfold maxLen at hl;refine⟨by unfold inI;omega,λh=>?_,λh=>?_⟩<;>intros<;>omega
def yEU:=yYu ykO (sm:=λ_=>True) λe _=>yzT e
def yDO:=yYv yuF yHc
abbrev jE(xs:List ySa):List C:=[.sl 6 (xs.map ySa.enc)]
-- [][]ySa
def yaP:List (List ySa)->Int->Int:=ybF yby
def ybE:List (List ySa)->Prop:=aW yeM
def yy6:ya8 yaP ybE:=yeR yqE
def yzr(xs:List (List ySa))(l:Int)(h0:0<=l)(h1:l<=1048576):qB prg 310 [.c (.sl 1 (xs.map jE)),.c (.i l)] (.c (.i (yaP xs l))):=by
 refine dB yrq (eP ?_);intro hl;have hs:szS xs.length l=if l-xs.length<0 then -1 else l-xs.length:=rfl
 refine⟨by unfold maxLen at hl;unfold inI;omega,λh=>?_,λh=>?_⟩
 .simp[yaP,ybF,sO,hs,h]
 have h':0<=l-xs.length:=by omega
 have e0:yaP xs l=sG yby xs (l-xs.length):=by
  have:szS xs.length l=l-xs.length:=by rw[hs,if_neg (by omega)]
  simp only[yaP,ybF];rw[this,xB h']
 refine qA (ι:=Nat×Int) (λp=>p.1<=xs.length/\0<=p.2/\p.2<=1048576/\sG yby (xs.drop p.1) p.2=yaP xs l) (λp=>xC [(0,.c (.sl 1 (xs.map jE))),(1,.c (.i p.2)),(5,.c (.i p.1))] []) (λp=>xs.length-p.1) (0,l-xs.length) ⟨by simp,h',by simp only;omega,by simp[e0]⟩ (by apply aB<;>simp) ?_
 rintro⟨k,q⟩ ⟨hk,hq0,hq1,hf⟩
 simp only at hk hq0 hq1 hf;rcases yX1 k xs with⟨hlt,e,he⟩|hge
 .have hd:xs.drop k=e::xs.drop (k+1):=by
   rw[zay hlt,(zaa.1 he).2]
  rw[hd,sG]at hf;refine yaed he (fC hlt) ?_
  refineλ_=>mD (yBB e q hq0 hq1) (by simp) rfl (eP ?_)
  refine⟨λh=>by rw[<-hf,oD h],λh=>⟨gB hlt hl,k+1,⟨yby e q,?_⟩⟩⟩;rw[xB h]at hf
  have hle:yby e q<=1048576:=by
   rcases yqE e q hq0 hq1 with e1|e1
   .omega
   .omega
  exact⟨⟨hlt,h,hle,hf⟩,by omega,by apply aB<;>simp⟩
 .refine eU (aG hge) ?_;rw[zaZ hge]at hf;intro _
  first|simpa[sG]using hf|simpa[sG]using hf.symm
def yCl(xs:List (List ySa))(hl:ybE xs):qB prg 330 [.c (.sl 1 (xs.map jE))] (.c (.sl 1 (xs.map jE))):=by
 refine dB yiN (eP ?_);intro hlen;have hl1:=hl.1;refine⟨by omega,yoL ?_⟩;refine eP ?_;refine yX2 (λk=>k<=xs.length) (λk=>xC [(0,.c (.sl 1 (xs.map jE))),(3,.own 7 1 xs.length),(4,.c (.i k))] [(7,.row 1 (partly jE [.sl 6 []] xs k))]) (λk=>xs.length-k) (by apply aB<;>simp[mF]) ?_
 rintro k hk
 rcases yX1 k xs with⟨hlt,e,he⟩|hge
 .have hs:=fG (f:=jE) (z:=[.sl 6 []]) he
  have hd:((partly jE [.sl 6 []] xs k)[k]?.getD []).set 0 (.sl 6 (e.map ySa.enc))=[.sl 6 (e.map ySa.enc)]:=by
   have:=tX (f:=jE) (z:=[.sl 6 []]) (n:=1) rfl (λ_=>rfl) hlt;obtain⟨x,hx⟩:=zaS.1 this;rw[hx];rfl
  have hs2:(partly jE [.sl 6 []] xs k).set k [.sl 6 (e.map ySa.enc)]=partly jE [.sl 6 []] xs (k+1):=hs;refine yaed he (fC hlt) ?_
  refineλ_=>iF (yEU e (hl.2 e (zac he))) (by simp) rfl ?_
  simp -dsimp -implicitDefEqProofs [fC hlt,dG hk,hd,hs2];exact⟨hlt,gB hlt hlen,k+1,hlt,by omega,by apply aB<;>simp⟩
 .refine eU (aG hge) ?_;intro _;rw[eG hge,List.take_of_length_le (by simp)]
def yBq(es fs:List (List ySa)):qB prg 339 [.c (.sl 1 (es.map jE)),.c (.sl 1 (fs.map jE))] (.c (.b (decide (es=fs)))):=by
 refine dB yr3 (eP ?_);intro hl1 hl2;refine⟨λh e=>h (by rw[e]),λhlen=>?_⟩;have hlen':es.length=fs.length:=by omega
 refine yX4 (λk=>k<=es.length/\es.take k=fs.take k) (λk=>xC [(0,.c (.sl 1 (es.map jE))),(1,.c (.sl 1 (fs.map jE))),(5,.c (.i k))] []) (λk=>es.length-k) ?_
 rintro k ⟨hk,htk⟩
 rcases yX1 k es with⟨hlt,e,he⟩|hge
 .obtain⟨f,hf⟩:∃f,fs[k]?=some f:=⟨_,zab (by omega)⟩;refine yaeV he hf (fC hlt) (fC (hlen'▸hlt)) ?_;intro _;refine lC (yDO e f) (eP ?_);refine⟨λh=>qQ he hf h,λh=>⟨gB hlt hl1,k+1,⟨hlt,kJ he hf htk h⟩,by omega,by apply aB<;>simp⟩⟩
 .refine eU (aG hge) ?_;intro _;exact lN hge hlen' htk
structure yRT where
 Up:Bool
 Rows:List (List ySa)
 deriving DecidableEq,Inhabited
@[simp] def yRT.enc(e:yRT):List C:=[.b e.Up,.sl 1 (e.Rows.map jE)]
-- yRT
def kT(e:yRT)(l:Int):Int:=sO (yaP e.Rows l) λl=>l
def yRT.small(e:yRT):Prop:=ybE e.Rows
def ycE:ya8 kT yRT.small:=by
 intro e l h0 h1;unfold kT;rcases yy6 e.Rows _ h0 h1 with e0|⟨a0,b0,s0⟩
 .exact .inl (oD (by omega))
 rw[xB a0];exact .inr ⟨a0,by omega,s0⟩
def yhq(e:yRT)(l:Int)(h0:0<=l)(h1:l<=1048576):qB prg 204 [.agg (e.enc.map .c),.c (.i l)] (.c (.i (kT e l))):=by
 refine dB yuI (eP ?_);refine aA (yzr e.Rows _ h0 h1) (eP ?_);refine⟨λh=>by simp[kT,oD h],λp0=>?_⟩;simp[kT,xB p0]
def ylp(e:yRT)(hl:yRT.small e):qB prg 220 [.agg (e.enc.map .c)] (.agg (e.enc.map .c)):=by
 refine dB yjg (eP ?_);refine dD (yCl e.Rows hl) ?_;exact goE_
def ylc(a b:yRT):qB prg 227 [.agg (a.enc.map .c),.agg (b.enc.map .c)] (.c (.b (decide (a=b)))):=by
 refine dB yuE ?_;obtain⟨a0,a1⟩:=a;obtain⟨b0,b1⟩:=b;simp -dsimp -implicitDefEqProofs [ykt,yRT.mk.injEq];refine⟨λh=>by simp_all,λh0=>?_⟩;refine aA (yBq a1 b1) (eP ?_);refine⟨λh=>by simp_all,λh1=>?_⟩
 simp_all
structure yR6 where
 yRT:yRT
 Place:Int
 deriving DecidableEq,Inhabited
@[simp] def yR6.enc(e:yR6):List C:=[.b e.yRT.Up,.sl 1 (e.yRT.Rows.map jE),.i e.Place]
-- yR6
def qY(e:yR6)(l:Int):Int:=sO (kT e.yRT l) λl=>l
def yR6.small(e:yR6):Prop:=e.yRT.small
def yqP:ya8 qY yR6.small:=by
 intro e l h0 h1;unfold qY;rcases ycE e.yRT _ h0 h1 with e0|⟨a0,b0,s0⟩
 .exact .inl (oD (by omega))
 rw[xB a0];exact .inr ⟨a0,by omega,s0⟩
def yCD(e:yR6)(l:Int)(h0:0<=l)(h1:l<=1048576):qB prg 309 [.agg (e.enc.map .c),.c (.i l)] (.c (.i (qY e l))):=by
 refine dB yvm (eP ?_);refine aA (yhq e.yRT _ h0 h1) (eP ?_);refine⟨λh=>by simp[qY,oD h],λp0=>?_⟩;simp[qY,xB p0]
def yEA(e:yR6)(hl:yR6.small e):qB prg 329 [.agg (e.enc.map .c)] (.agg (e.enc.map .c)):=by
 refine dB yj2 (eP ?_);refine dD (ylp e.yRT hl) ?_;exact goE_
def yFh(a b:yR6):qB prg 338 [.agg (a.enc.map .c),.agg (b.enc.map .c)] (.c (.b (decide (a=b)))):=by
 refine dB yuP ?_;obtain⟨a0,a1⟩:=a;obtain⟨b0,b1⟩:=b;simp -dsimp -implicitDefEqProofs [yj7,yR6.mk.injEq];refine aA (ylc a0 b0) (eP ?_);refine⟨λh=>by simp_all,λh0=>?_⟩;refine⟨λh=>by simp_all,λh1=>?_⟩
 simp_all
def yEB:=yYw ykO (sm:=λ_=>True) λe _=>yzT e
def eF{α:Type}{f g:α->List C}(h:∀x,dO (f x)=some (g x)):∀(l:List α),yaq (l.map f)=some (l.map g)
 |[]=>rfl
 |x::l=>by simp[yaq,h x,eF h l]
def yY{α:Type}{f g:α->List C}{k:Nat}(h:∀x,dO (f x)=some (g x))(l:List α):(C.ot k (l.map f)).shr=some (.sl k (l.map g)):=by simp[C.shr,eF h l]
def jF(xs:List ySa):List C:=[.ow 6 (xs.map ySa.enc)]
def yI(xs:List ySa):dO (jF xs)=some (jE xs):=rfl
def yCu(xs:List (List ySa))(hl:ybE xs):nI prg 330 [.c (.sl 1 (xs.map jE))] (.c (.ot 1 (xs.map jF))):=by
 refine fF yiN (eP ?_);intro hlen;have hl1:=hl.1;refine⟨by omega,yoL ?_⟩;refine eP ?_;refine yX2 (λk=>k<=xs.length) (λk=>xC [(0,.c (.sl 1 (xs.map jE))),(3,.own 7 1 xs.length),(4,.c (.i k))] [(7,.tr 1 0 (partly jF [.sl 6 []] xs k))]) (λk=>xs.length-k) (by apply aB<;>simp[mF,Obj.leO]) ?_
 rintro k hk
 rcases yX1 k xs with⟨hlt,e,he⟩|hge
 .have hs:=fG (f:=jF) (z:=[.sl 6 []]) he
  have hd:((partly jF [.sl 6 []] xs k)[k]?.getD []).set 0 (.ow 6 (e.map ySa.enc))=jF e:=by
   have:=tX (f:=jF) (z:=[.sl 6 []]) (n:=1) rfl (λ_=>rfl) hlt;obtain⟨x,hx⟩:=zaS.1 this;rw[hx];rfl
  refine yaed he (fC hlt) ?_;intro _;refine sD (yEB e (hl.2 e (zac he))) (by simp) (by simp[AV.closed,AV.jI,C.closed]) (by simp[fD]) ?_;simp -dsimp -implicitDefEqProofs [fC hlt,dG hk,jA,setAt,hd,hs];exact⟨hlt,gB hlt hlen,k+1,hlt,by omega,by apply aB<;>simp[Obj.leO]⟩
 .refine eU (aG hge) ?_;intro _;rw[eG hge,jA]
@[simp] def yRT.iD(e:yRT):List C:=[.b e.Up,.ot 1 (e.Rows.map jF)]
def yRT.bF(e:yRT):dO e.iD=some e.enc:=by simp[yRT.iD,dO,yY yI]
def ylg(e:yRT)(hl:yRT.small e):nI prg 220 [.agg (e.enc.map .c)] (.agg (e.iD.map .c)):=by
 refine fF yjg (eP ?_);refine sD (yCu e.Rows hl) (by simp) (by simp[AV.closed,AV.jI,C.closed,jF]) (by simp[fD]) ?_;exact goU_
def dH{α:Type}(f:Int->α->List C)(n:α->Nat):Int->List α->List (List C)
 |_,[]=>[]
 |k,x::l=>f k x::dH f n (k+n x) l
def cnt{α:Type}(n:α->Nat)(l:List α):Nat:=(l.map n).sum
def jD{α:Type}{f:Int->α->List C}{n:α->Nat}:∀{l:List α} {k:Int},(dH f n k l).length=l.length
 |[],_=>rfl
 |x::l,k=>by simp[dH,jD (l:=l)]
def yxf{α:Type}{f:Int->α->List C}{n:α->Nat}{x:α}:∀{l:List α} {k:Int},dH f n k (l++[x])=dH f n k l++[f (k+cnt n l) x]
 |[],k=>by simp[dH,cnt]
 |y::l,k=>by
  simp only[zcQ,dH,yxf (l:=l)];simp[cnt,Int.add_assoc]
def dX{α:Type}(f:Int->α->List C)(g:α->List C)(n:α->Nat)(k:Int)(xs:List α)(i:Nat):List (List C):=dH f n k (xs.take i)++(xs.drop i).map g
def pI{α:Type}(n:α->Nat)(xs:List α)(i:Nat):Nat:=cnt n (xs.take i)
section
variable {α:Type} {f:Int->α->List C} {g:α->List C} {n:α->Nat} {k:Int} {xs:List α} {i:Nat} {x:α}
def jK:pI n xs 0=0:=rfl
def kK(h:xs[i]?=some x):pI n xs (i+1)=pI n xs i+n x:=by
 unfold pI cnt;rw[zar,h,zaB,zcV];simp
def cO(h:xs.length<=i):pI n xs i=cnt n xs:=by unfold pI;rw[List.take_of_length_le h]
def kR:pI n xs i<=cnt n xs:=by
 unfold pI cnt
 conv=>rhs;rw[<-zax i xs]
 rw[zaB,zcV];omega
def yD:dX f g n k xs 0=xs.map g:=by simp[dX,dH]
def yaK:(dX f g n k xs i).length=xs.length:=by
 unfold dX;rw[zak,jD,zai,<-zak,zax]
def yaX(h:xs.length<=i):dX f g n k xs i=dH f n k xs:=by
 unfold dX;rw[List.take_of_length_le h,zaZ h];simp
def yaO(h:xs[i]?=some x):(dX f g n k xs i)[i]?=some (g x):=by
 have hlt:=(zaa.1 h).1;have e:(dH f n k (xs.take i)).length=i:=by rw[jD,zaz];omega
 unfold dX;rw[zau (by omega),e,zbw,zaw,zbg,zcw,h];rfl
def yaL(h:xs[i]?=some x):(dX f g n k xs i).set i (f (k+pI n xs i) x)=dX f g n k xs (i+1):=by
 have hlt:=(zaa.1 h).1;have e:(dH f n k (xs.take i)).length=i:=by rw[jD,zaz];omega
 unfold dX pI;rw[zbr _ _ (by omega),e,zbw,zay hlt,(zaa.1 h).2,zbd,zbu,zar,h];simp only[zdb];rw[yxf,zbb];rfl
end
def ydA{α:Type}{f:Int->α->List C}{n:α->Nat}:∀{xs:List α} {k:Int} {i:Nat} {x:α},xs[i]?=some x->(dH f n k xs)[i]?=some (f (k+pI n xs i) x)
 |y::l,k,0,x,h=>by simp at h;subst h;simp[dH,pI,cnt]
 |y::l,k,i+1,x,h=>by
  simp only[dH,zcD];rw[ydA (xs:=l) (k:=k+n y) (i:=i) (x:=x) (by simpa using h)]
  congr 2
  unfold pI cnt;simp only[List.take_succ_cons,zbd,zcf,zcF];omega
def mkB(k:Int):List C:=[.i k,.i (k+1),.i (k+1+1),.i (k+1+1+1),.i (k+1+1+1+1),.i (k+1+1+1+1+1)]
def yAi(xs:List ySa)(k:Int)(h0:0<=k)(h1:k+6*xs.length<=8000000000000000000):
 InF prg 340 (.c (cw 6 (xs.map ySa.enc))) (.c (cw 6 (marked mkB 6 [] k xs.length))) [.c (.i k)] (.c (.i (k+6*xs.length))):=by
 rcases zao xs.length with hx|hx
 .have:xs=[]:=zae.1 hx;subst this;refine aK yfV (by simp) (by simp) rfl λhwf=>?_;simp -dsimp -implicitDefEqProofs [ybV,marked];refine qA (ι:=Unit) (λ_=>True) (λ_=>xC [(0,.c (.sl 6 [])),(1,.c (.i k)),(5,.c (.i 0)),(1000000,.c (.sl 6 []))] []) (λ_=>0) () trivial (by apply aB<;>simp) ?_
  rintro _ _
  exact goE_
 .rw[kH (by simpa using hx),kH (by rw[kE];exact hx)];refine aK yfV (by simp) (by simp) rfl λhwf=>?_;simp -dsimp -implicitDefEqProofs [ybV];refine yX2 (λi=>i<=xs.length) (λi=>xC [(0,.own 0 6 xs.length),(1,.c (.i (k+6*i))),(5,.c (.i i)),(1000000,.own 0 6 xs.length)] [(0,.row 6 (marked mkB 6 (xs.map ySa.enc) k i))]) (λi=>xs.length-i) (by apply aB<;>simp[yaS]) ?_
  rintro i hi
  rcases yX1 i xs with⟨hlt,e,he⟩|hge
  .have hg:=yb2 (mk:=mkB) (c:=6) (k:=k) (rows:=xs.map ySa.enc) (i:=i) (r:=e.enc) (by simp[he]);have hl:=ybS (mk:=mkB) (c:=6) (k:=k) (rows:=xs.map ySa.enc) (i:=i) (by simpa using hi);have hs:=ybU (mk:=mkB) (c:=6) (k:=k) (rows:=xs.map ySa.enc) (i:=i) (by simpa using hlt);rw[zai]at hl;generalize marked mkB 6 (xs.map ySa.enc) k i=M at *;have hlt2:i<M.length:=by omega
   have hself:∀a,(M.set i a)[i]?=some a:=λa=>zaQ hlt2;simp only[mkB]at hs;simp only[ySa.enc]at hg;refine yaff (fC hlt) hg hl hlt2 hself ?_;intro hlen;refine⟨hlt,by unfold inI;omega,hlt,by unfold inI;omega,hlt,by unfold inI;omega,hlt,by unfold inI;omega,hlt,by unfold inI;omega,hlt,by unfold inI;omega,by unfold inI;omega,i+1,hlt,by omega,?_⟩;apply aB<;>simp[hs,hself]<;>omega
  .have:i=xs.length:=by omega
   subst this;refine eP ?_;intro _;have e:=ybJ (mk:=mkB) (c:=6) (rows:=xs.map ySa.enc) (k:=k) (i:=xs.length) (by simp);rw[e,zai,List.take_of_length_le (by rw[kE];exact Nat.le_refl _)]
def nB(r:List ySa):Nat:=6*r.length
def fB(k:Int)(r:List ySa):List C:=[.ow 6 (marked mkB 6 [] k r.length)]
def ydw(xs:List (List ySa))(k:Int)(h0:0<=k)(h1:k+cnt nB xs<=8000000000000000000):
 InF prg 234 (.c (ct 1 (xs.map jF))) (.c (ct 1 (dH fB nB k xs))) [.c (.i k)] (.c (.i (k+cnt nB xs))):=by
 rcases zao xs.length with hx|hx
 .have:xs=[]:=zae.1 hx;subst this;refine aK yeQ (by simp) (by simp) rfl λhwf=>?_;simp -dsimp -implicitDefEqProofs [ybh,dH,cnt];refine qA (ι:=Unit) (λ_=>True) (λ_=>xC [(0,.c (.sl 1 [])),(1,.c (.i k)),(5,.c (.i 0)),(1000000,.c (.sl 1 []))] []) (λ_=>0) () trivial (by apply aB<;>simp) ?_
  rintro _ _
  exact goE_
 .rw[iY (by simpa using hx),iY (by rw[jD];exact hx)];refine aK yeQ (by simp) (by simp) rfl λhwf=>?_;simp -dsimp -implicitDefEqProofs [ybh];refine yX2 (λi=>i<=xs.length) (λi=>xC [(0,.own 0 1 xs.length),(1,.c (.i (k+pI nB xs i))),(5,.c (.i i)),(1000000,.own 0 1 xs.length)] [(0,.tr 1 0 (dX fB jF nB k xs i))]) (λi=>xs.length-i) (by apply aB<;>simp[yD,jK,Obj.leO]) ?_
  rintro i hi
  rcases yX1 i xs with⟨hlt,e,he⟩|hge
  .have hg:=yaO (f:=fB) (g:=jF) (n:=nB) (k:=k) he;have hl:=yaK (f:=fB) (g:=jF) (n:=nB) (k:=k) (xs:=xs) (i:=i);have hs:=yaL (f:=fB) (g:=jF) (n:=nB) (k:=k) he;have hc:=kK (n:=nB) he;have hle:=kR (n:=nB) (xs:=xs) (i:=i+1);have hn:nB e=6*e.length:=rfl;generalize hM:dX fB jF nB k xs i=M at *;have hlt2:i<M.length:=by omega
   have g1:M[i]=jF e:=(zaa.1 hg).2;have hself:∀a,(M.set i a)[i]?=some a:=λa=>zaQ hlt2;simp -dsimp -implicitDefEqProofs [fC hlt,hg,hl,hlt2,g1,jF];intro hlen;refine⟨hlt,fU (k0:=1) (ver:=0) (j:=0) (i:=(i:Int)) (rows:=M) (r:=jF e) (c:=.ow 6 (e.map ySa.enc)) (c':=.ow 6 (marked mkB 6 [] (k+pI nB xs i) e.length)) (yAi e (k+pI nB xs i) (by omega) (by omega)) (by simp) rfl rfl rfl (by simpa using hg) rfl ⟨_,by rw[kE];simp,rfl,rfl,rfl⟩ (by simp[C.sz]) ?_⟩;have e0:(jF e).set 0 (.ow 6 (marked mkB 6 [] (k+pI nB xs i) e.length))=fB (k+pI nB xs i) e:=rfl;rw[e0];refine eP ?_;refine⟨gB hlt hlen,i+1,hlt,by omega,?_⟩;apply aB<;>simp[Obj.leO,hs]<;>omega
  .have:i=xs.length:=by omega
   subst this;refine eP ?_;intro _;rw[yaX (Nat.le_refl _),cO (Nat.le_refl _),List.take_of_length_le (by rw[jD];exact Nat.le_refl _)];exact⟨rfl,rfl⟩
def yzN{α:Type}{B:Nat}:∀{l:List (List α)},(∀r∈l,r.length<=B)->l.flatten.length<=l.length*B
 |[],_=>by simp
 |r::l,h=>by
  have h1:=yzN (l:=l) λx hx=>h x (by simp[hx]);have h2:=h r (by simp);simp only[zcI,zak,zaJ,zbq,zcd];omega
def heads{α:Type}(l:List (List α))(k:Nat):List α:=(l.take k).flatten
def yaE{α:Type}{l:List (List α)}:heads l 0=[]:=rfl
def ydL{α:Type}{l:List (List α)}{k:Nat}{r:List α}(h:l[k]?=some r):heads l (k+1)=heads l k++r:=by
 unfold heads;rw[zar,h];simp
def ydD{α:Type}{l:List (List α)}{k:Nat}(h:l.length<=k):heads l k=l.flatten:=by
 unfold heads;rw[List.take_of_length_le h]
def ycH{α:Type}{l:List (List α)}(h:aW (aW λ_:α=>True) l)(k:Nat):(heads l k).length<=1099511627776:=by
 have h1:=yzN (l:=l.take k) (B:=1048576) λr hr=>(h.2 r (zav hr)).1;have h2:=h.1;have h3:(l.take k).length<=1048576:=by simp;omega
 have h4:=zam 1048576 h3;unfold heads;omega
def yRT.qE(t:yRT):List ySa:=t.Rows.flatten
def yHE{t:yRT}(h:t.small):t.qE.length<=1099511627776:=by
 have:=ycH h t.Rows.length
 rwa [ydD (Nat.le_refl _)]at this
def yhF(t:yRT)(h:t.small):qB prg 166 [.agg (t.enc.map .c)] (.c (.sl 6 (t.qE.map ySa.enc))):=by
 refine dB yrf (eP ?_);refine yX2 (λk=>k<=t.Rows.length) (λk=>xC [(1,.box 1 0),(3,.own 5 6 (heads t.Rows k).length),(4,.c (.i k))] [(1,.box (t.enc.map .c)),(5,.row 6 ((heads t.Rows k).map ySa.enc))]) (λk=>t.Rows.length-k) (by apply aB<;>simp[yaE]) ?_
 rintro k hk
 rcases yX1 k t.Rows with⟨hlt,r,hr⟩|hge
 .have hb:=ycH h (k+1);have hf:=ydL hr;rw[hf,zak]at hb;have hm:=h.1;refine yaed hr (fC hlt) ?_;intro hlen;refine⟨by omega,gB hlt hlen,k+1,hlt,by omega,?_⟩;apply aB<;>simp[hf]
 .refine eU (aG hge) ?_;rw[ydD hge];intro _;rw[List.take_of_length_le (by rw[zai];exact Nat.le_refl _)];rfl
def iL(b:ySa):Bool:=inRange b.Id 1 9999&&inRange b.Length 1 200&&inRange b.Width 1 30&&inRange b.ySv 1 100&&inRange b.ySG 1 50&&inRange b.Class 0 2
def yAW(b:ySa):qB prg 167 [.agg (b.enc.map .c)] (.c (.b (iL b))):=by
 refine dB ywK (eP ?_);refine aA (bC b.Id 1 9999) (eP ?_);refine⟨λh=>?_,λh=>by simp[iL,h]⟩;refine aA (bC b.Length 1 200) (eP ?_);refine⟨λh1=>?_,λh1=>by simp[iL,h1]⟩;refine aA (bC b.Width 1 30) (eP ?_);refine⟨λh2=>?_,λh1=>by simp[iL,h1]⟩;refine aA (bC b.ySv 1 100) (eP ?_);refine⟨λh3=>?_,λh1=>by simp[iL,h1]⟩;refine aA (bC b.ySG 1 50) (eP ?_);refine⟨λh4=>?_,λh1=>by simp[iL,h1]⟩;refine aA (bC b.Class 0 2) (eP ?_);simp[iL,h,h1,h2,h3,h4]
def yBf(b:ySa):qB prg 146 [.agg (b.enc.map .c)] (.c (.b (iL b))):=by
 refine dB yvr (eP ?_);refine aA (iC b.Id 1 9999) (eP ?_);refine⟨λh=>?_,λh=>by simp[iL,h]⟩;refine aA (iC b.Length 1 200) (eP ?_);refine⟨λh1=>?_,λh1=>by simp[iL,h1]⟩;refine aA (iC b.Width 1 30) (eP ?_);refine⟨λh2=>?_,λh1=>by simp[iL,h1]⟩;refine aA (iC b.ySv 1 100) (eP ?_);refine⟨λh3=>?_,λh1=>by simp[iL,h1]⟩;refine aA (iC b.ySG 1 50) (eP ?_);refine⟨λh4=>?_,λh1=>by simp[iL,h1]⟩;refine aA (iC b.Class 0 2) (eP ?_);simp[iL,h,h1,h2,h3,h4]
def indexOf(l:List Int)(n:Int):Int:=match l.findIdx? (λx=>n==x)with|some i=>i|none=>-1
def yvj{l:List Int}{n:Int}:(0<=indexOf l n)=(n∈l):=by
 unfold indexOf;cases h:l.findIdx? (λx=>n==x)with
 |none=>
  rw[zbX]at h
  show(0<=(-1:Int))=_
  simp only[eq_iff_iff];refine⟨λh1=>by omega,λhm=>?_⟩;have:=h n hm;simp at this
 |some i=>
  rw[zbC]at h;obtain⟨hi,h1,_⟩:=h;simp only[eq_iff_iff];refine⟨λ_=>?_,λ_=>by omega⟩;have:n=l[i]:=by simpa using h1
  rw[this];exact zbM _
def yCj{l:List Int}{n:Int}{k:Nat}(h:l[k]?=some n)(hn:∀x∈l.take k,n≠x):indexOf l n=k:=by
 unfold indexOf
 have:l.findIdx? (λx=>n==x)=some k:=by
  rw[zbC];obtain⟨hk1,hk2⟩:=zaa.1 h;refine⟨hk1,by simp[hk2],λj hj=>?_⟩;have:=hn (l[j]'(by omega)) (List.mem_take_iff_getElem.2 ⟨j,by omega,rfl⟩);simpa using this
 rw[this]
def yCi{l:List Int}{n:Int}{k:Nat}(hk:l.length<=k)(hn:∀x∈l.take k,n≠x):indexOf l n= -1:=by
 rw[List.take_of_length_le hk]at hn;unfold indexOf
 have:l.findIdx? (λx=>n==x)=none:=by
  rw[zbX];intro x hx;simpa using hn x hx
 rw[this]
def yHx{l:List Int}{n x:Int}{k:Nat}(h:l[k]?=some x)(hx:n≠x)(hn:∀x∈l.take k,n≠x):∀x∈l.take (k+1),n≠x:=by
 intro y hy;rw[zar,h]at hy;rcases zaq.1 hy with h1|h1
 .exact hn y h1
 .simp at h1;rw[h1];exact hx
def yHU(l:List Int)(n:Int):qB prg 157 [.c (.sl 1 (l.map qC)),.c (.i n)] (.c (.i (indexOf l n))):=by
 refine dB yer (eP ?_);intro hlen;refine yX4 (λk=>k<=l.length/\∀x∈l.take k,n≠x) (λk=>xC [(0,.c (.sl 1 (l.map qC))),(1,.c (.i n)),(7,.c (.i l.length)),(8,.c (.i k))] []) (λk=>l.length-k) ?_
 rintro k ⟨hk,hn⟩
 rcases yX1 k l with⟨hlt,x,hx⟩|hge
 .refine yaed hx (fC hlt) ?_;refine⟨λh=>?_,λh=>⟨gB hlt hlen,k+1,⟨hlt,yHx hx h hn⟩,by omega,by apply aB<;>simp⟩⟩;exact yCj (h▸hx) hn
 .refine eU (aG hge) ?_;exact yCi hge hn
def yu4(l:List Int)(n:Int):qB prg 57 [.c (.sl 1 (l.map qC)),.c (.i n)] (.c (.b (decide (n∈l)))):=by
 refine dB ycP (eP ?_);refine aA (yHU l n) ?_;simp -dsimp[yvj]
def yc0(b:ySa):Int:=b.Id
def full(r:List ySa):Bool:=decide (r.length≠0)
def yky{r:List ySa}:full r=true↔r.length≠0:=by simp[full]
def oC(t:yRT):Bool:=t.Rows.all full&&t.qE.all iL&&decide ((t.qE.map yc0).Nodup)&&inRange t.qE.length 1 6
def yng{l:List ySa}{k:Nat}{b:ySa}(h:l[k]?=some b):(((l.take (k+1)).map yc0).Nodup↔((l.take k).map yc0).Nodup/\b.Id∉(l.take k).map yc0):=by
 rw[zar,h,zaB];simp only[zdb,zbd,zcN,zba,zcA,zaP,not_false_eq_true,List.nodup_nil,and_self,true_and,zas,forall_eq,yc0];constructor
 .rintro⟨h1,h2⟩;exact⟨h1,λhm=>h2 _ hm rfl⟩
 .rintro⟨h1,h2⟩;exact⟨h1,λx hx e=>h2 (e▸hx)⟩
def yE2{l:List ySa}{k:Nat}(h:¬((l.take k).map yc0).Nodup):¬(l.map yc0).Nodup:=by
 intro hn;refine h ?_;rw[<-zax k l,zaB]at hn;exact(zba.1 hn).1
def yxp(l:List ySa)(k:Nat):List Int:=(l.take k).map yc0
def jJ(t:yRT)(h:t.small):qB prg 66 [.agg (t.enc.map .c)] (.c (.b (oC t))):=by
 refine dB yts (eP ?_);refine dD (yhF t h) (eP ?_);refine yX4 (λk=>k<=t.Rows.length/\∀r∈t.Rows.take k,full r=true) (λk=>xC [(1,.box 1 0),(3,.c (.sl 6 (t.qE.map ySa.enc))),(4,.c (.i k))] [(1,.box (t.enc.map .c))]) (λk=>t.Rows.length-k) ?_
 rintro k ⟨hk,hall⟩
 rcases yX1 k t.Rows with⟨hlt,r,hr⟩|hge
 .refine yaed hr (fC hlt) ?_;intro hlen _;refine⟨λh0=>?_,λh0=>?_⟩
  .have:t.Rows.all full=false:=all_false (p:=full) hr (by simp[full,h0]);simp only[oC,this,zbH]
  .exact⟨gB hlt hlen,k+1,⟨by omega,lD (p:=full) hr hall (by simp[full,h0])⟩,by omega,by apply aB<;>simp⟩
 .have hrows:=dF (p:=full) hge hall;refine eU (aG hge) ?_;intro _;have hbl:=yHE h;refine qA (ι:=Nat) (λk=>k<=t.qE.length/\(∀b∈t.qE.take k,iL b=true)/\(yxp t.qE k).Nodup) (λk=>xC [(3,.c (.sl 6 (t.qE.map ySa.enc))),(5,.c (.i k))] []) (λk=>t.qE.length-k) 0 (by simp[yxp]) (by apply aB<;>simp) ?_
  rintro k ⟨hk,hok,hnd⟩
  have fin:t.qE.length<=6->k=t.qE.length->oC t=inRange t.qE.length 1 6:=by
   intro h6 e;have h1:=dF (p:=iL) (by omega) hok;rw[e,yxp,List.take_length]at hnd;simp[oC,hrows,h1,hnd]
  rcases yX1 k t.qE with⟨hlt,b,hb⟩|hge
  .by_cases h6:t.qE.length<=6
   .have h6':((t.qE.length:Int)<=6)=True:=by simp;omega
    refine yaeT hb (fC hlt) h6' ?_;intro hlen;refine aA (yAW b) (eP ?_);refine⟨λh1=>?_,λh1=>?_⟩
    .have:t.qE.all iL=false:=all_false (p:=iL) hb h1;simp only[oC,this,zbH,zbp]
    have hok':=lD (p:=iL) hb hok h1;refine qA (ι:=Nat) (λi=>i<=k/\b.Id∉yxp t.qE i) (λi=>xC [(3,.c (.sl 6 (t.qE.map ySa.enc))),(5,.c (.i k)),(6,.c (.i i))] []) (λi=>k-i) 0 (by simp[yxp]) (by apply aB<;>simp) ?_
    rintro i ⟨hi,hni⟩
    rcases zan i k with hlt2|hge2
    .obtain⟨c,hc⟩:∃c,t.qE[i]?=some c:=⟨_,zab (by omega)⟩;have hi3:(i:Int)<t.qE.length:=by omega
     refine yaff hb hc (fC hlt) (fC hlt2) hi3 ?_;refine⟨λh2=>?_,λh2=>?_⟩
     .have:¬(t.qE.map yc0).Nodup:=by
       refine yE2 (k:=k+1) λhn=>?_;refine((yng hb).1 hn).2 ?_;rw[<-h2];exact zaO.2 ⟨c,zbx.2 ⟨i,by rw[zbl,if_pos hlt2];exact hc⟩,rfl⟩
      simp[oC,this]
     .refine⟨by unfold inI;omega,i+1,⟨hlt2,?_⟩,by omega,by apply aB<;>simp⟩;rw[yxp,zar,hc,zaB];simp only[zaq,zdb,zbd,zcN,zas,yc0]
      rintro(h3|h3)
      .exact hni h3
      .exact h2 h3.symm
    .refine eU (aG hge2) ?_;have e:i=k:=by omega
     rw[e]at hni;exact⟨by unfold inI;omega,k+1,⟨hlt,hok',(yng hb).2 ⟨hnd,hni⟩⟩,by omega,by apply aB<;>simp⟩
   .have h6':((t.qE.length:Int)<=6)=False:=by simp;omega
    refine yaeT hb (fC hlt) h6' ?_;intro hlen;refine aA (bC t.qE.length 1 6) (eP ?_);have h7:inRange t.qE.length 1 6=false:=gV.2 (by omega);simp only[oC,h7,zbp]
  .refine eU (aG hge) ?_;intro hlen;refine aA (bC t.qE.length 1 6) (eP ?_)
   by_cases h6:t.qE.length<=6
   .rw[fin h6 (by omega)]
   .have h7:inRange t.qE.length 1 6=false:=gV.2 (by omega);simp only[oC,h7,zbp]
def yqU{t:yRT}{k:Nat}{r:List ySa}(h:t.Rows[k]?=some r):∃m,t.qE=heads t.Rows k++r++m:=by
 refine⟨(t.Rows.drop (k+1)).flatten,?_⟩;unfold yRT.qE
 conv=>lhs;rw[<-zax (k+1) t.Rows]
 rw[List.flatten_append,<-ydL h];rfl
def yIE{t:yRT}{k:Nat}{r:List ySa}(h:t.Rows[k]?=some r)(h0:r.length=0):oC t=false:=by
 have:t.Rows.all full=false:=all_false (p:=full) h (by simp[full,h0]);simp only[oC,this,zbH]
def yKW{t:yRT}(h:6<t.qE.length):oC t=false:=by
 have h7:inRange t.qE.length 1 6=false:=gV.2 (by omega);simp only[oC,h7,zbp]
def yIr{t:yRT}{b:ySa}(hb:b∈t.qE)(h:iL b=false):oC t=false:=by
 obtain⟨i,hi⟩:=zat hb;have:t.qE.all iL=false:=all_false (p:=iL) hi h;simp only[oC,this,zbH,zbp]
def yKU{t:yRT}(h:¬(t.qE.map yc0).Nodup):oC t=false:=by simp[oC,h]
def ycQ(l:List ySa):List (List C):=(l.map yc0).map qC++List.replicate (6-l.length) [.i 0]
def yG3{l:List ySa}(h:l.length<=6):(ycQ l).length=6:=by simp[ycQ];omega
def yEt{l:List ySa}{n:Nat}(h:n=l.length):(ycQ l).take n=(l.map yc0).map qC:=by
 subst h;unfold ycQ;rw[zcO (by simp),List.take_of_length_le (by simp)]
def yHF{l:List ySa}{b:ySa}(h:l.length<6):(ycQ l).set l.length [.i b.Id]=ycQ (l++[b]):=by
 unfold ycQ;rw[zbr _ _ (by simp)];have h1:((l.map yc0).map qC).length=l.length:=by simp
 rw[h1,zbw,show 6-l.length=(6-(l.length+1))+1 by omega,zcX,zbu];simp[yc0]
def yGA{l:List ySa}(h:l.length<6):(ycQ l)[l.length]?.getD []=[.i 0]:=by
 unfold ycQ;rw[zau (by simp)];have h1:((l.map yc0).map qC).length=l.length:=by simp
 rw[h1,zbw,zbB,if_pos (by omega)];rfl
def yFU:ycQ []=List.replicate 6 [.i 0]:=rfl
structure Met(l:List ySa):Prop where
 ok:∀b∈l,iL b=true
 nd:(l.map yc0).Nodup
 len:l.length<=6
def Met.snoc{l:List ySa}{b:ySa}(h:Met l)(h1:iL b=true)(h2:b.Id∉l.map yc0)(h3:l.length<6):Met (l++[b]):=by
 refine⟨?_,?_,by simp;omega⟩
 .intro x hx;rcases zaq.1 hx with hx|hx
  .exact h.ok x hx
  .rw[zas.1 hx];exact h1
 .have:=@yng (l++[b]) l.length b (by simp);rw[show l.length+1=(l++[b]).length by simp,List.take_length]at this;rw[this,List.take_left']
  .exact⟨h.nd,h2⟩
  .rfl
def ycK(t:yRT)(k:Nat)(r:List ySa)(j:Nat):List ySa:=heads t.Rows k++r.take j
def ytn{t:yRT}{k:Nat}{r:List ySa}:ycK t k r 0=heads t.Rows k:=by simp[ycK]
def yCd{t:yRT}{k:Nat}{r:List ySa}{j:Nat}{b:ySa}(h:r[j]?=some b):ycK t k r (j+1)=ycK t k r j++[b]:=by
 unfold ycK;rw[zar,h];simp
def ywT{t:yRT}{k:Nat}{r:List ySa}{j:Nat}(hr:t.Rows[k]?=some r)(h:r.length<=j):ycK t k r j=heads t.Rows (k+1):=by
 unfold ycK;rw[List.take_of_length_le h,ydL hr]
def yE8{t:yRT}{k:Nat}{r:List ySa}{j:Nat}(h:j<=r.length):(ycK t k r j).length=(heads t.Rows k).length+j:=by
 unfold ycK;simp;omega
def gK (t:yRT) (h:t.small):qB prg 54 [.agg (t.enc.map .c)] (.c (.b (oC t))):=by
 refine dB yu2 (eP ?_);intro hlen;refine⟨λh0 _=>⟨λh1=>?_,λh1 _=>?_⟩,λh0=>?_⟩
 .by_cases h2:oC t=false
  .exact h2
  .exfalso;have h3:oC t=true:=by simpa using h2
   simp only[oC,zad,zaf]at h3;obtain⟨⟨⟨h4,_⟩,_⟩,h5⟩:=h3;have h6:=aC.1 h5
   have:∀l:List (List ySa),(∀r∈l,full r=true)->l.length<=l.flatten.length:=by
    intro l
    induction l with
    |nil=>simp
    |cons r l ih=>
     intro hl;have e1:=ih λx hx=>hl x (by simp[hx]);have e2:=yky.1 (hl r (by simp));simp only[zaJ,zcI,zak];omega
   have:=this t.Rows h4;unfold yRT.qE at h6;omega
 .refine qA (ι:=Nat) (λk=>k<=t.Rows.length/\(∀r∈t.Rows.take k,full r=true)/\Met (heads t.Rows k)) (λk=>xC [(3,.row 3 1 0 0),(4,.c (.i (heads t.Rows k).length)),(20,.c (.sl 1 (t.Rows.map jE))),(21,.c (.i t.Rows.length)),(22,.c (.i k))] [(3,.row 1 (ycQ (heads t.Rows k)))]) (λk=>t.Rows.length-k) 0 ⟨by simp,by simp,by simp[yaE],by simp[yaE],by simp[yaE]⟩ (by apply aB<;>simp[yaE,yFU]) ?_
  rintro k ⟨hk,hall,hm⟩
  rcases yX1 k t.Rows with⟨hlt,r,hr⟩|hge
  .have hml:=hm.len;have hrs:=(h.2 r (zac hr)).1;obtain⟨rest,hsp⟩:=yqU hr;refine yaed hr (fC hlt) ?_;intro hrl;refine⟨λhr0 _=>⟨by unfold inI;omega,λh6=>?_,λh6 _=>?_⟩,λhr0=>?_⟩
   .refine yKW ?_;rw[hsp];simp only[zak];omega
   .refine qA (ι:=Nat) (λj=>j<=r.length/\Met (ycK t k r j)) (λj=>xC [(3,.row 3 1 0 0),(4,.c (.i (ycK t k r j).length)),(20,.c (.sl 1 (t.Rows.map jE))),(21,.c (.i t.Rows.length)),(22,.c (.i k)),(36,.c (.sl 6 (r.map ySa.enc))),(37,.c (.i r.length)),(38,.c (.i j))] [(3,.row 1 (ycQ (ycK t k r j)))]) (λj=>r.length-j) 0 ⟨by simp,by rw[ytn];exact hm⟩ (by apply aB<;>simp[ytn]) ?_
    rintro j ⟨hj,hmj⟩
    rcases yX1 j r with⟨hlt2,b,hb⟩|hge2
    .have hsl:=yE8 (t:=t) (k:=k) hj;have hlt6:(ycK t k r j).length<6:=by omega
     have hmem:b∈t.qE:=by
      rw[hsp];simp only[zaq];exact .inl (.inr (zac hb))
     refine yaed hb (fC hlt2) ?_;refine lC (yBf b) (eP ?_);refine⟨λh2=>?_,λh2=>yIr hmem h2⟩;have hsn:=yG3 hmj.len;refine⟨by omega,hsn,?_⟩;refine⟨_,_,yu4 ((ycK t k r j).map yc0) b.Id,by simp[yEt],.inr rfl,?_⟩;simp -dsimp[fC hlt2,yGA hlt6,yHF hlt6];refine⟨λx hx he=>yKU λhn=>?_,λh3=>?_⟩
     .have hsp2:t.qE=ycK t k r j++(b::(r.drop (j+1)++rest)):=by
       rw[hsp];unfold ycK
       have:r=r.take j++b::r.drop (j+1):=by
        conv=>lhs;rw[<-zax j r]
        rw[zay hlt2,(zaa.1 hb).2]
       conv=>lhs;rw[this]
       simp
      rw[hsp2,zaB,zbd]at hn;exact(zba.1 hn).2.2 _ (zbn hx) _ (zdd) he
     .have hni:b.Id∉(ycK t k r j).map yc0:=by
       intro hm';obtain⟨x,hx,he⟩:=zaO.1 hm';exact h3 x hx he
      have hs1:=yCd (t:=t) (k:=k) hb;refine⟨by omega,by omega,by unfold inI;omega,by unfold inI;omega,j+1,⟨hlt2,by rw[hs1];exact hmj.snoc h2 hni hlt6⟩,by omega,?_⟩;apply aB<;>simp[hs1]
    .refine eU (aG hge2) ?_;rw[ywT hr hge2]at hmj;refine⟨by unfold inI;omega,k+1,⟨hlt,lD (p:=full) hr hall (by simp[full,hr0]),hmj⟩,by omega,?_⟩;apply aB<;>simp[ywT hr hge2]
   .exact yIE hr (by simp[hr0])
  .refine eU (aG hge) ?_;rw[ydD hge]at hm;have hr1:=dF (p:=full) hge hall;have hb1:t.qE.all iL=true:=zaf.2 hm.ok
   have hl1:0<t.qE.length:=by
    obtain⟨r,l,e⟩:=List.exists_cons_of_ne_nil h0;have:=yky.1 (zaf.1 hr1 r (by rw[e];simp));unfold yRT.qE;rw[e];simp only[zcI,zak];omega
   have hl2:t.qE.length<=6:=hm.len;have h7:inRange t.qE.length 1 6=true:=aC.2 (by omega);have hn1:(t.qE.map yc0).Nodup:=hm.nd;simp[oC,hr1,hb1,hn1,h7]
 .have:t.qE=[]:=by simp[yRT.qE,h0]
  have h7:inRange t.qE.length 1 6=false:=by rw[this];rfl
  simp only[oC,h7,zbp]
def xN(m:yR6)(w:Way):Bool:=ykM w&&oC m.yRT&&inRange m.Place 0 w.Long
def yym(m:yR6)(w:Way)(h:m.small):qB prg 247 [.agg (m.enc.map .c),.agg (w.enc.map .c)] (.c (.b (xN m w))):=by
 refine dB yur (eP ?_);refine aA (ysY w) (eP ?_);refine⟨λh1=>?_,λh1=>by simp[xN,h1]⟩;refine aA (gK m.yRT h) (eP ?_);refine⟨λh2=>?_,λh2=>by simp[xN,h2]⟩;refine aA (iC m.Place 0 w.Long) (eP ?_);simp[xN,h1,h2]
def yof(m:yR6)(w:Way)(h:m.small):qB prg 244 [.agg (m.enc.map .c),.agg (w.enc.map .c)] (.c (.b (xN m w))):=by
 refine dB yud (eP ?_);refine aA (ysH w) (eP ?_);refine⟨λh1=>?_,λh1=>by simp[xN,h1]⟩;refine aA (jJ m.yRT h) (eP ?_);refine⟨λh2=>?_,λh2=>by simp[xN,h2]⟩;refine aA (bC m.Place 0 w.Long) (eP ?_);simp[xN,h1,h2]
def endOf(t:yRT)(w:Way):Int:=if t.Up then 0 else w.Long
def yXP(t:yRT)(w:Way):qB prg 265 [.agg (t.enc.map .c),.agg (w.enc.map .c)] (.c (.i (endOf t w))):=by
 refine dB yWK (eP ?_);exact⟨λh=>by simp[endOf,h],λh=>by simp[endOf,h]⟩
def AtEnd(m:yR6)(w:Way):Bool:=xN m w&&decide (m.Place=endOf m.yRT w)
def yXh(m:yR6)(w:Way)(h:m.small):qB prg 174 [.agg (m.enc.map .c),.agg (w.enc.map .c)] (.c (.b (AtEnd m w))):=by
 refine dB yWN (eP ?_);refine gX (yym m w h) (eP ?_);refine⟨λh1=>?_,λh1=>by simp[AtEnd,h1]⟩;refine gX (yXP m.yRT w) (eP ?_);simp[AtEnd,h1]
def yXf(m:yR6)(w:Way)(h:m.small):qB prg 190 [.agg (m.enc.map .c),.agg (w.enc.map .c)] (.c (.b (AtEnd m w))):=by
 refine dB yWB (eP ?_);refine aA (yof m w h) (eP ?_);refine⟨λh1=>by simp[AtEnd,h1],λh1=>?_⟩;exact⟨λh2=>by simp[AtEnd,endOf,h1,h2],λh2=>by simp[AtEnd,endOf,h1,h2]⟩
def maxOf(f:ySa->Int)(l:List ySa)(z:Int):Int:=l.foldl (λm b=>if m<f b then f b else m) z
def minOf(f:ySa->Int)(l:List ySa)(z:Int):Int:=l.foldl (λm b=>if f b<m then f b else m) z
def yjY(f:ySa->Int)(l:List ySa)(z:Int)(k:Nat):Int:=maxOf f (l.take k) z
def yoz(f:ySa->Int)(l:List ySa)(z:Int)(k:Nat):Int:=minOf f (l.take k) z
def yb3{f:ySa->Int}{l:List ySa}{z:Int}:yjY f l z 0=z:=rfl
def ysJ{f:ySa->Int}{l:List ySa}{z:Int}:yoz f l z 0=z:=rfl
def yhH{f:ySa->Int}{l:List ySa}{z:Int}{k:Nat}{b:ySa}(h:l[k]?=some b):yjY f l z (k+1)=if yjY f l z k<f b then f b else yjY f l z k:=by
 unfold yjY maxOf;rw[zar,h,zcm];rfl
def yuw{f:ySa->Int}{l:List ySa}{z:Int}{k:Nat}{b:ySa}(h:l[k]?=some b):yoz f l z (k+1)=if f b<yoz f l z k then f b else yoz f l z k:=by
 unfold yoz minOf;rw[zar,h,zcm];rfl
def yk9{f:ySa->Int}{l:List ySa}{z:Int}{k:Nat}(h:l.length<=k):yjY f l z k=maxOf f l z:=by
 unfold yjY;rw[List.take_of_length_le h]
def yxb{f:ySa->Int}{l:List ySa}{z:Int}{k:Nat}(h:l.length<=k):yoz f l z k=minOf f l z:=by
 unfold yoz;rw[List.take_of_length_le h]
def yuz{f:ySa->Int}{a b:Int}:∀{l:List ySa} {z:Int},(∀x∈l,a<=f x/\f x<=b)->a<=z->z<=b->a<=maxOf f l z/\maxOf f l z<=b
 |[],z,_,h1,h2=>⟨h1,h2⟩
 |x::l,z,h,h1,h2=>by
  have:=h x (by simp);unfold maxOf;rw[zca];refine yuz (l:=l) (λy hy=>h y (by simp[hy])) ?_ ?_<;>split<;>omega
def yBi{f:ySa->Int}{a b:Int}:∀{l:List ySa} {z:Int},(∀x∈l,a<=f x/\f x<=b)->a<=z->z<=b->a<=minOf f l z/\minOf f l z<=b
 |[],z,_,h1,h2=>⟨h1,h2⟩
 |x::l,z,h,h1,h2=>by
  have:=h x (by simp);unfold minOf;rw[zca];refine yBi (l:=l) (λy hy=>h y (by simp[hy])) ?_ ?_<;>split<;>omega
structure ySw(t:yRT):Prop where
 rows:∀r∈t.Rows,full r=true
 ok:∀b∈t.qE,iL b=true
 nd:(t.qE.map yc0).Nodup
 pos:1<=t.qE.length
 len:t.qE.length<=6
def lK{t:yRT}(h:oC t=true):ySw t:=by
 simp only[oC,zad,zaf,decide_eq_true_eq]at h;obtain⟨⟨⟨h1,h2⟩,h3⟩,h4⟩:=h;have h5:=aC.1 h4;exact⟨h1,h2,h3,by omega,by omega⟩
def ygR{b:ySa}(h:iL b=true):(1<=b.Id/\b.Id<=9999)/\(1<=b.Length/\b.Length<=200)/\(1<=b.Width/\b.Width<=30)/\(1<=b.ySv/\b.ySv<=100)/\(1<=b.ySG/\b.ySG<=50)/\(0<=b.Class/\b.Class<=2):=by
 simp only[iL,zad]at h;obtain⟨⟨⟨⟨⟨h1,h2⟩,h3⟩,h4⟩,h5⟩,h6⟩:=h;exact⟨aC.1 h1,aC.1 h2,aC.1 h3,aC.1 h4,aC.1 h5,aC.1 h6⟩
def yqd(t:yRT)(h:t.small):qB prg 156 [.agg (t.enc.map .c)] (.c (.sl 6 (t.qE.map ySa.enc))):=by
 refine dB ysF (eP ?_);intro hlen;refine jX (k0:=6) 3 6 (by simp) (by simp) (by decide) ?_;refine yX2 (λk=>k<=t.Rows.length) (λk=>xC [(3,.own 3 6 (heads t.Rows k).length),(7,.c (.sl 1 (t.Rows.map jE))),(8,.c (.i t.Rows.length)),(9,.c (.i k))] [(3,.row 6 ((heads t.Rows k).map ySa.enc))]) (λk=>t.Rows.length-k) (by apply aB<;>simp[yaE]) ?_
 rintro k hk
 rcases yX1 k t.Rows with⟨hlt,r,hr⟩|hge
 .have hb:=ycH h (k+1);have hf:=ydL hr;rw[hf,zak]at hb;refine yaed hr (fC hlt) ?_;refine⟨by omega,gB hlt hlen,k+1,hlt,by omega,?_⟩;apply aB<;>simp[hf]
 .refine eU (aG hge) ?_;rw[ydD hge];rw[List.take_of_length_le (by rw[zai];exact Nat.le_refl _)];rfl
def oH(t:yRT):Int:=if oC t then maxOf ySa.ySv t.qE 0 else 0
def yw(t:yRT)(h:t.small):qB prg 351 [.agg (t.enc.map .c)] (.c (.i (oH t))):=by
 refine dB ypT (eP ?_);refine aA (gK t h) (eP ?_);refine⟨λh1=>by simp[oH,h1],λh1=>?_⟩;refine dD (yqd t h) (eP ?_);intro hlen;refine yX2 (λk=>k<=t.qE.length) (λk=>xC [(3,.c (.i (yjY ySa.ySv t.qE 0 k))),(10,.c (.sl 6 (t.qE.map ySa.enc))),(11,.c (.i t.qE.length)),(12,.c (.i k))] []) (λk=>t.qE.length-k) (by apply aB<;>simp[yb3]) ?_
 rintro k hk
 rcases yX1 k t.qE with⟨hlt,b,hb⟩|hge
 .refine yaed hb (fC hlt) ?_;refine⟨gB hlt hlen,k+1,hlt,by omega,?_⟩;apply aB<;>simp[yhH hb]
 .refine eU (aG hge) ?_;simp[oH,h1,yk9 hge]
def ybk(t:yRT)(h:t.small):qB prg 313 [.agg (t.enc.map .c)] (.c (.i (oH t))):=by
 refine dB ypj (eP ?_);refine dD (yhF t h) (eP ?_);refine yX2 (λk=>k<=t.qE.length/\(k≠0->oC t=true)) (λk=>xC [(1,.box 1 0),(3,.c (.i (yjY ySa.ySv t.qE 0 k))),(4,.c (.sl 6 (t.qE.map ySa.enc))),(5,.c (.i k))] [(1,.box (t.enc.map .c))]) (λk=>t.qE.length-k) (by apply aB<;>simp[yb3]) ?_
 rintro k ⟨hk,hok⟩
 rcases yX1 k t.qE with⟨hlt,b,hb⟩|hge
 .refine yaed hb (fC hlt) ?_;intro hlen;refine aA (jJ t h) (yaed hb (fC hlt) ?_);refine⟨λh1=>?_,λh1=>?_⟩
  .refine⟨gB hlt hlen,k+1,⟨hlt,λ_=>h1⟩,by omega,?_⟩;apply aB<;>simp[yhH hb]
  .have:k=0:=by
    rcases zao k with e|e
    .exact e
    .rw[hok (by omega)]at h1;cases h1
   subst this;simp[oH,h1,yb3]
 .refine eU (aG hge) ?_;intro _
  by_cases h1:oC t=true
  .simp[oH,h1,yk9 hge]
  .have h2:k=0:=by
    rcases zao k with e|e
    .exact e
    .exact absurd (hok (by omega)) h1
   subst h2;simp[oH,h1,yb3]
def yDC(f:ySa->Int)(l:List ySa):Int:=match l with|b::_=>f b|[]=>0
def yTt(t:yRT):Int:=if oC t then minOf ySa.ySG t.qE (yDC ySa.ySG t.qE)else 0
def yHV{l:List ySa}{b:ySa}(h:l[0]?=some b)(f:ySa->Int):yDC f l=f b:=by
 cases l with
 |nil=>simp at h
 |cons x l=>simp at h;rw[h];rfl
def yph{t:yRT}(h:ySw t):∃r b,t.Rows[0]?=some r/\r[0]?=some b/\t.qE[0]?=some b:=by
 have h1:=h.pos;cases hr:t.Rows with
 |nil=>unfold yRT.qE at h1;rw[hr]at h1;simp at h1
 |cons r l=>
  have h2:=yky.1 (h.rows r (by rw[hr];simp));cases r with
  |nil=>simp at h2
  |cons b r=>exact⟨b::r,b,rfl,rfl,by unfold yRT.qE;rw[hr];rfl⟩
def yVs(t:yRT)(h:t.small):qB prg 352 [.agg (t.enc.map .c)] (.c (.i (yTt t))):=by
 refine dB yV2 (eP ?_);refine aA (gK t h) (eP ?_);refine⟨λh1=>by simp[yTt,h1],λh1=>?_⟩;obtain⟨r,b0,e1,e2,e3⟩:=yph (lK h1);have l1:0<t.Rows.length:=(zaa.1 e1).1;have l2:0<r.length:=(zaa.1 e2).1;have f1:=(zaa.1 e1).2;have f2:=(zaa.1 e2).2;refine yafq e1 e2 l1 l2 f1 f2 ?_;refine dD (yqd t h) (eP ?_);intro hlen;refine yX2 (λk=>k<=t.qE.length) (λk=>xC [(3,.c (.i (yoz ySa.ySG t.qE b0.ySG k))),(17,.c (.sl 6 (t.qE.map ySa.enc))),(18,.c (.i t.qE.length)),(19,.c (.i k))] []) (λk=>t.qE.length-k) (by apply aB<;>simp[ysJ]) ?_
 rintro k hk
 rcases yX1 k t.qE with⟨hlt,b,hb⟩|hge
 .refine yaed hb (fC hlt) ?_;refine⟨gB hlt hlen,k+1,hlt,by omega,?_⟩;apply aB<;>simp[yuw hb]
 .refine eU (aG hge) ?_;simp[yTt,h1,yxb hge,yHV e3]
def yVd(t:yRT)(h:t.small):qB prg 361 [.agg (t.enc.map .c)] (.c (.i (yTt t))):=by
 refine dB yVW (eP ?_);refine dD (yhF t h) (eP ?_);refine aA (jJ t h) (eP ?_);refine⟨λh1=>by simp[yTt,h1],λh1=>?_⟩;obtain⟨r,b0,e1,e2,e3⟩:=yph (lK h1);have l1:0<t.qE.length:=(zaa.1 e3).1;have f3:=(zaa.1 e3).2;refine yaeT e3 l1 f3 ?_;refine yX2 (λk=>k<=t.qE.length) (λk=>xC [(3,.c (.sl 6 (t.qE.map ySa.enc))),(4,.c (.i (yoz ySa.ySG t.qE b0.ySG k))),(5,.c (.i k))] []) (λk=>t.qE.length-k) (by apply aB<;>simp[ysJ]) ?_
 rintro k hk
 rcases yX1 k t.qE with⟨hlt,b,hb⟩|hge
 .refine yaed hb (fC hlt) ?_;intro hlen;refine⟨gB hlt hlen,k+1,hlt,by omega,?_⟩;apply aB<;>simp[yuw hb]
 .refine eU (aG hge) ?_;intro _;simp[yTt,h1,yxb hge,yHV e3]
def ydq(t:yRT):0<=oH t/\oH t<=100:=by
 unfold oH;split
 .rename_i h;have hf:=lK h;exact yuz (λx hx=>by have:=ygR (hf.ok x hx);omega) (by omega) (by omega)
 .omega
def yU7(t:yRT):0<=yTt t/\yTt t<=50:=by
 unfold yTt;split
 .rename_i h;have hf:=lK h;obtain⟨r,b0,e1,e2,e3⟩:=yph hf;have:=ygR (hf.ok b0 (zac e3));exact yBi (λx hx=>by have:=ygR (hf.ok x hx);omega) (by rw[yHV e3];omega) (by rw[yHV e3];omega)
 .omega
def yTs(t:yRT)(depth:Int):Int:=if oC t&&inRange depth 0 1000000000&&decide (oH t<=depth)then if 2*depth<3*oH t then(yTt t+1).tdiv 2 else yTt t else 0
def yV9{t:yRT}{d:Int}(h:oC t=false):yTs t d=0:=by simp[yTs,h]
def yVY{t:yRT}{d:Int}(h:inRange d 0 1000000000=false):yTs t d=0:=by simp[yTs,h]
def yVU{t:yRT}{d:Int}(h:d<oH t):yTs t d=0:=by
 have:¬oH t<=d:=by omega
 simp[yTs,this]
def yW5(t:yRT)(d:Int)(h:t.small):qB prg 263 [.agg (t.enc.map .c),.c (.i d)] (.c (.i (yTs t d))):=by
 refine dB yWh ?_;have hd:=ydq t;have hs:=yU7 t;refine eP ?_;refine aA (gK t h) (eP ?_);refine⟨λh1=>?_,λh1=>yV9 h1⟩;refine aA (iC d 0 1000000000) (eP ?_);refine⟨λh2=>?_,λh2=>yVY h2⟩;have h2':=aC.1 h2;refine aA (yw t h) (eP ?_);refine⟨λh3=>yVU h3,λh3=>?_⟩;refine⟨by unfold inI;omega,?_⟩;refine aA (yw t h) (eP ?_);refine⟨by unfold inI;omega,λh4=>?_,λh4=>?_⟩
 .refine mD (yVs t h) (by simp) rfl (eP ?_);have ht:(yTt t+1).tdiv 2=(yTt t+1)/2:=zaA (by omega);exact⟨by unfold inI;omega,by rw[ht];unfold inI;omega,by simp[yTs,h1,h2,h3,h4]⟩
 .refine mD (yVs t h) (by simp) rfl (eP ?_);have h4':¬2*d<3*oH t:=by omega
  simp[yTs,h1,h2,h3,h4']
def yWW(t:yRT)(d:Int)(h:t.small):qB prg 293 [.agg (t.enc.map .c),.c (.i d)] (.c (.i (yTs t d))):=by
 refine dB yWo ?_;have hd:=ydq t;have hs:=yU7 t;refine eP ?_;refine aA (jJ t h) (eP ?_);refine⟨λh1=>?_,λh1=>yV9 h1⟩;refine aA (bC d 0 1000000000) (eP ?_);refine⟨λh2=>?_,λh2=>yVY h2⟩;have h2':=aC.1 h2;refine aA (ybk t h) (eP ?_);refine⟨λh3=>yVU h3,λh3=>?_⟩;refine⟨by unfold inI;omega,?_⟩;refine aA (ybk t h) (eP ?_);refine⟨by unfold inI;omega,λh4=>?_,λh4=>?_⟩
 .refine mD (yVd t h) (by simp) rfl (eP ?_);have ht:(yTt t+1).tdiv 2=(yTt t+1)/2:=zaA (by omega);exact⟨by unfold inI;omega,by rw[ht];unfold inI;omega,by simp[yTs,h1,h2,h3,h4]⟩
 .refine mD (yVd t h) (by simp) rfl (eP ?_);have h4':¬2*d<3*oH t:=by omega
  simp[yTs,h1,h2,h3,h4']
def yhM(xs:List Int)(l:Int):Int:=szS xs.length l
def ymY:List Int->Prop:=aW λ_=>True
def ybM:ya8 yhM ymY:=yhd
def yk2(xs:List Int)(l:Int)(h0:0<=l)(h1:l<=1048576):qB prg 85 [.c (.sl 1 (xs.map qC)),.c (.i l)] (.c (.i (yhM xs l))):=yGy xs l h0 h1
structure ySc where
 X:Int
 Y:Int
 deriving DecidableEq,Inhabited
@[simp] def ySc.enc(e:ySc):List C:=[.i e.X,.i e.Y]
-- ySc
def yxe(e:ySc):qB prg 368 [.agg (e.enc.map .c)] (.agg (e.enc.map .c)):=by
 refine dB ytY ?_;exact goE_
def yDU(a b:ySc):qB prg 372 [.agg (a.enc.map .c),.agg (b.enc.map .c)] (.c (.b (decide (a=b)))):=by
 refine dB ys6 ?_;obtain⟨a0,a1⟩:=a;obtain⟨b0,b1⟩:=b;simp -dsimp -implicitDefEqProofs [ykH,ySc.mk.injEq];refine⟨λh=>by simp_all,λh0=>?_⟩;refine⟨λh=>by simp_all,λh1=>?_⟩
 simp_all
-- []ySc
def ygc(xs:List ySc)(l:Int):Int:=szS xs.length l
def ydu:List ySc->Prop:=aW λ_=>True
def yn8:ya8 ygc ydu:=yhd
def yAE(xs:List ySc)(l:Int)(h0:0<=l)(h1:l<=1048576):qB prg 305 [.c (.sl 2 (xs.map ySc.enc)),.c (.i l)] (.c (.i (ygc xs l))):=by
 refine dB yrX ?_;simp -dsimp -implicitDefEqProofs [yiS,ygc,szS];intro hl;unfold maxLen at hl;refine⟨by unfold inI;omega,λh=>?_,λh=>?_⟩<;>intros<;>omega
def yBQ:=yYu yic (sm:=λ_=>True) λe _=>yxe e
def yCe:=yYv yrK yDU
structure Reach where
 ySg:List ySc
 ySh:Int
 ySk:List Int
 deriving DecidableEq,Inhabited
@[simp] def Reach.enc(e:Reach):List C:=[.sl 2 (e.ySg.map ySc.enc),.i e.ySh,.sl 1 (e.ySk.map qC)]
-- Reach
def rW(e:Reach)(l:Int):Int:=sO (ygc e.ySg l) λl=>sO (yhM e.ySk l) λl=>l
def Reach.small(e:Reach):Prop:=ydu e.ySg/\ymY e.ySk
def yq2:ya8 rW Reach.small:=by
 intro e l h0 h1;unfold rW;rcases yn8 e.ySg _ h0 h1 with e0|⟨a0,b0,s0⟩
 .exact .inl (oD (by omega))
 rw[xB a0];rcases ybM e.ySk _ a0 (by omega)with e1|⟨a1,b1,s1⟩
 .exact .inl (oD (by omega))
 rw[xB a1];exact .inr ⟨a1,by omega,s0,s1⟩
def yB2(e:Reach)(l:Int)(h0:0<=l)(h1:l<=1048576):qB prg 201 [.agg (e.enc.map .c),.c (.i l)] (.c (.i (rW e l))):=by
 refine dB ytE (eP ?_);refine aA (yAE e.ySg _ h0 h1) (eP ?_);refine⟨λh=>by simp[rW,oD h],λp0=>?_⟩;have q0:=yiI yn8 e.ySg h0 h1 p0;refine aA (yk2 e.ySk _ p0 q0) (eP ?_);refine⟨λh=>by simp[rW,xB p0,oD h],λp1=>?_⟩;simp[rW,xB p0,xB p1]
def yEX(e:Reach)(hl:Reach.small e):qB prg 216 [.agg (e.enc.map .c)] (.agg (e.enc.map .c)):=by
 refine dB yjc (eP ?_);refine dD (yBQ e.ySg (hl.1)) (eP ?_);refine dD (yog e.ySk (hl.2.1)) ?_;exact goE_
def yEx(a b:Reach):qB prg 223 [.agg (a.enc.map .c),.agg (b.enc.map .c)] (.c (.b (decide (a=b)))):=by
 refine dB yuQ ?_;obtain⟨a0,a1,a2⟩:=a;obtain⟨b0,b1,b2⟩:=b;simp -dsimp -implicitDefEqProofs [yjT,Reach.mk.injEq];refine aA (yCe a0 b0) (eP ?_);refine⟨λh=>by simp_all,λh0=>?_⟩;refine⟨λh=>by simp_all,λh1=>?_⟩;refine aA (yoD a2 b2) (eP ?_);refine⟨λh=>by simp_all,λh2=>?_⟩
 simp_all
def yd3(p:ySc):Bool:=inRange p.X 0 1000000000&&inRange p.Y 0 1000000000
def follows(a b:ySc):Bool:=decide (a.X<b.X)&&decide (a.Y<=b.Y)
def yhG(l:List ySc)(k:Nat):Bool:=
 match l[k]? with
 | some p=>yd3 p&&(match k with
  |0=>true
  |j+1=>match l[j]? with
   |some q=>follows q p
   |none=>false)
 |none=>true
def upTo(l:List ySc):Nat->Bool
 |0=>true
 |k+1=>upTo l k&&yhG l k
def sH(l:List ySc):Bool:=upTo l l.length&&inRange l.length 2 20
def ygB{l:List ySc}{p:ySc}(h:l[0]?=some p):yhG l 0=yd3 p:=by simp[yhG,h]
def yaN{l:List ySc}{k:Nat}{p q:ySc}(h:l[k+1]?=some p)(hq:l[k]?=some q):yhG l (k+1)=(yd3 p&&follows q p):=by simp[yhG,h,hq]
def ytw{l:List ySc}:∀{k n:Nat},k<n->yhG l k=false->upTo l n=false
 |k,0,h,_=>by omega
 | k,n+1,h,hs=>by
  simp only[upTo];rcases zan k n with h1|h1
  .rw[ytw h1 hs];rfl
  .have:k=n:=by omega
   subst this;rw[hs,zbp]
def ylh{l:List ySc}{k:Nat}(h:upTo l k=true)(hs:yhG l k=true):upTo l (k+1)=true:=by simp[upTo,h,hs]
def ysb{l:List ySc}{k:Nat}(h:k<l.length)(hs:yhG l k=false):sH l=false:=by simp[sH,ytw h hs]
def yF8{l:List ySc}(h:inRange l.length 2 20=false):sH l=false:=by simp[sH,h]
def yg1(l:List ySc):qB prg 274 [.c (.sl 2 (l.map ySc.enc))] (.c (.b (sH l))):=by
 refine dB ysQ (eP ?_);intro hlen;refine⟨λh0 _=>⟨λh1=>?_,λh1 _=>?_⟩,λh0=>?_⟩
 .exact yF8 (gV.2 (by omega))
 .refine qA (ι:=Nat) (λk=>k<=l.length/\upTo l k=true) (λk=>xC [(0,.c (.sl 2 (l.map ySc.enc))),(13,.c (.sl 2 (l.map ySc.enc))),(14,.c (.i l.length)),(15,.c (.i k))] []) (λk=>l.length-k) 0 ⟨by simp,rfl⟩ (by apply aB<;>simp) ?_
  rintro k ⟨hk,hup⟩
  rcases yX1 k l with⟨hlt,p,hp⟩|hge
  .have hbad:yd3 p=false->sH l=false:=λe=>ysb hlt (by
    cases k with
    |zero=>rw[ygB hp,e]
    |succ j=>rw[yaN hp (zab (by omega)),e,zbH])
   cases k with
   |zero=>
    have f1:=(zaa.1 hp).2;refine yaeT hp hlt f1 ?_;refine aA (iC p.X 0 1000000000) (eP ?_);refine⟨λh2=>?_,λh2=>hbad (by simp[yd3,h2])⟩;refine aA (iC p.Y 0 1000000000) (eP ?_);refine⟨λh3=>hbad (by simp[yd3,h3]),λh3=>?_⟩;have hpt:yd3 p=true:=by simp[yd3,h2,h3]
    exact⟨by unfold inI;omega,1,⟨hlt,ylh hup (by rw[ygB hp,hpt])⟩,by omega,by apply aB<;>simp⟩
   | succ j=>
    obtain⟨q,hq⟩:∃q,l[j]?=some q:=⟨_,zab (by omega)⟩;have hj:(j:Int)+1<l.length:=by omega
    have hj2:(j:Int)<l.length:=by omega
    have hj3:(0:Int)<j+1:=by omega
    have hj4:(0:Int)<=j+1:=by omega
    have hj5:((j:Int)+1).toNat=j+1:=by omega
    refine yafn hp hq hj hj2 hj3 hj4 hj5 ?_;refine aA (iC p.X 0 1000000000) (eP ?_);refine⟨λh2=>?_,λh2=>hbad (by simp[yd3,h2])⟩;refine aA (iC p.Y 0 1000000000) (yafn hp hq hj hj2 hj3 hj4 hj5 ?_);refine⟨λh3=>hbad (by simp[yd3,h3]),λh3=>?_⟩;have hpt:yd3 p=true:=by simp[yd3,h2,h3]
    have hbad2:follows q p=false->sH l=false:=λe=>ysb hlt (by rw[yaN hp hq,e,zbp]);refine⟨by unfold inI;omega,λh4=>⟨by unfold inI;omega,λh5=>?_,λh5=>?_⟩,λh4=>?_⟩
    .exact hbad2 (by simp[follows];omega)
    .have hf:follows q p=true:=by simp[follows,h4,h5]
     exact⟨by unfold inI;omega,j+2,⟨hlt,ylh hup (by rw[yaN hp hq,hpt,hf];rfl)⟩,by omega,by apply aB<;>simp;omega⟩
    .exact hbad2 (by simp[follows];omega)
  .refine eU (aG hge) ?_;have e:k=l.length:=by omega
   subst e;have h7:inRange l.length 2 20=true:=aC.2 (by omega);simp[sH,hup,h7]
 .exact yF8 (gV.2 (by omega))
def yhk(l:List ySc):qB prg 134 [.c (.sl 2 (l.map ySc.enc))] (.c (.b (sH l))):=by
 refine dB yut (eP ?_);refine qA (ι:=Nat) (λk=>k<=l.length/\upTo l k=true) (λk=>xC [(0,.c (.sl 2 (l.map ySc.enc))),(3,.c (.i k))] []) (λk=>l.length-k) 0 ⟨by simp,rfl⟩ (by apply aB<;>simp) ?_
 rintro k ⟨hk,hup⟩
 rcases yX1 k l with⟨hlt,p,hp⟩|hge
 .have hbad:yd3 p=false->sH l=false:=λe=>ysb hlt (by
   cases k with
   |zero=>rw[ygB hp,e]
   |succ j=>rw[yaN hp (zab (by omega)),e,zbH])
  cases k with
  |zero=>
   have f1:=(zaa.1 hp).2;refine yaeT hp hlt f1 ?_;intro hlen;refine lC (bC p.X 0 1000000000) (yaeT hp hlt f1 ?_);refine⟨λh2=>?_,λh2=>hbad (by simp[yd3,h2])⟩;refine lC (bC p.Y 0 1000000000) (yaeT hp hlt f1 ?_);refine⟨λh3=>?_,λh3=>hbad (by simp[yd3,h3])⟩;have hpt:yd3 p=true:=by simp[yd3,h2,h3]
   exact⟨by unfold inI;omega,1,⟨hlt,ylh hup (by rw[ygB hp,hpt])⟩,by omega,by apply aB<;>simp⟩
  | succ j=>
   obtain⟨q,hq⟩:∃q,l[j]?=some q:=⟨_,zab (by omega)⟩;have hj:(j:Int)+1<l.length:=by omega
   have hj2:(j:Int)<l.length:=by omega
   have hj3:(0:Int)<j+1:=by omega
   have hj4:(0:Int)<=j+1:=by omega
   have hj5:((j:Int)+1).toNat=j+1:=by omega
   refine yafn hp hq hj hj2 hj3 hj4 hj5 ?_;intro hlen;refine lC (bC p.X 0 1000000000) (yafn hp hq hj hj2 hj3 hj4 hj5 ?_);refine⟨λh2=>?_,λh2=>hbad (by simp[yd3,h2])⟩;refine lC (bC p.Y 0 1000000000) (yafn hp hq hj hj2 hj3 hj4 hj5 ?_);refine⟨λh3=>?_,λh3=>hbad (by simp[yd3,h3])⟩;have hpt:yd3 p=true:=by simp[yd3,h2,h3]
   unfold maxLen at hlen;have hbad2:follows q p=false->sH l=false:=λe=>ysb hlt (by rw[yaN hp hq,e,zbp]);refine⟨by unfold inI;omega,λh4=>⟨by unfold inI;omega,λh5=>?_,λh5=>?_⟩,λh4=>?_⟩
   .exact hbad2 (by simp[follows];omega)
   .have hf:follows q p=true:=by simp[follows,h4,h5]
    exact⟨by unfold inI;omega,j+2,⟨hlt,ylh hup (by rw[yaN hp hq,hpt,hf];rfl)⟩,by omega,by apply aB<;>simp;omega⟩
   .exact hbad2 (by simp[follows];omega)
 .refine eU (aG hge) ?_;intro hlen;refine aA (bC l.length 2 20) (eP ?_);have e:k=l.length:=by omega
  subst e;simp[sH,hup]
def amount(n:Int):Bool:=inRange n 0 1000000000
def sZ(r:Reach):Int:=r.ySh+r.ySk.sum
def xE(r:Reach):Bool:=sH r.ySg&&amount r.ySh&&decide (r.ySk.length<=12)&&r.ySk.all amount&&decide (sZ r<=1000000000)
def ymV:∀{l:List Int},(∀x∈l,amount x=true)->0<=l.sum
 |[],_=>by simp
 |x::l,h=>by
  have h1:=ymV (l:=l) λy hy=>h y (by simp[hy]);have h2:=aC.1 (show inRange x 0 1000000000=true from h x (by simp));simp only[zcf];omega
def yEJ{l:List Int}(k:Nat):l.sum=sumTo l k+(l.drop k).sum:=by
 unfold sumTo
 conv=>lhs;rw[<-zax k l]
 rw[zcV]
def yLb{r:Reach}{k:Nat}{x:Int}(hx:r.ySk[k]?=some x)(h:1000000000<r.ySh+sumTo r.ySk k+x):xE r=false:=by
 cases hr:xE r with
 |false=>rfl
 |true=>
  exfalso;simp only[xE,zad,zaf,decide_eq_true_eq]at hr;obtain⟨⟨_,h1⟩,h2⟩:=hr;have h3:=ymV (l:=r.ySk.drop (k+1)) λy hy=>h1 y (zaH hy);have h4:=yEJ (l:=r.ySk) (k+1);rw[nV hx]at h4;unfold sZ at h2;omega
def yxv{r:Reach}{k:Nat}{x:Int}(hx:r.ySk[k]?=some x)(h:amount x=false):xE r=false:=by
 have:r.ySk.all amount=false:=all_false (p:=amount) hx h;simp[xE,this]
def oL(r:Reach):qB prg 262 [.agg (r.enc.map .c)] (.c (.b (xE r))):=by
 refine dB ytQ (eP ?_);refine aA (yg1 r.ySg) (eP ?_);refine⟨λh1=>?_,λh1=>by simp[xE,h1]⟩;refine aA (iC r.ySh 0 1000000000) (eP ?_);refine⟨λh2 hlen=>⟨λh3=>?_,λh3=>⟨?_,λ_=>?_⟩⟩,λh2=>by simp[xE,amount,h2]⟩
 .have:¬r.ySk.length<=12:=by omega
  simp[xE,this]
 .have:=aC.1 h2;unfold inI;omega
 have h2':=aC.1 h2;refine qA (ι:=Nat) (λk=>k<=r.ySk.length/\(∀n∈r.ySk.take k,amount n=true)/\0<=sumTo r.ySk k/\r.ySh+sumTo r.ySk k<=1000000000) (λk=>xC [(3,.c (.i (1000000000-r.ySh-sumTo r.ySk k))),(26,.c (.sl 1 (r.ySk.map qC))),(27,.c (.i r.ySk.length)),(28,.c (.i k))] []) (λk=>r.ySk.length-k) 0 ⟨by simp,by simp,by simp[aY],by simp only[aY];omega⟩ (by apply aB<;>simp[aY]) ?_
 rintro k ⟨hk,hall,hs0,hs⟩
 rcases yX1 k r.ySk with⟨hlt,x,hx⟩|hge
 .refine yaed hx (fC hlt) ?_;refine⟨λh4=>⟨λh5=>?_,λh5=>?_⟩,λh4=>?_⟩
  .exact yLb hx (by omega)
  .have ha:amount x=true:=aC.2 (by omega);have e1:=nV hx;refine⟨by unfold inI;omega,gB hlt hlen,k+1,⟨hlt,lD (p:=amount) hx hall ha,by rw[e1];omega,by rw[e1];omega⟩,by omega,?_⟩;apply aB<;>simp[e1];omega
  .exact yxv hx (gV.2 (by omega))
 .refine eU (aG hge) ?_;have h6:=dF (p:=amount) hge hall;rw[yb4 hge]at hs;simp[xE,h1,show amount r.ySh=true from h2,h6,sZ,hs];omega
def yqW{l:List Int}(h:∀n∈l,amount n=true)(hl:l.length<=12)(k:Nat):0<=sumTo l k/\sumTo l k<=12000000000:=by
 have h1:=yk4 (l:=l.take k) (b:=1000000000) λx hx=>h x (zav hx);have h2:(l.take k).length<=12:=by simp;omega
 unfold sumTo;omega
def yuT(r:Reach)(hv:amount r.ySh=true)(hl:r.ySk.length<=12)(hp:∀n∈r.ySk,amount n=true):qB prg 135 [.agg (r.enc.map .c)] (.c (.i (sZ r))):=by
 refine dB yvz ?_;have hv':=aC.1 (show inRange r.ySh 0 1000000000=true from hv);refine eP ?_;refine yX2 (λk=>k<=r.ySk.length) (λk=>xC [(1,.box 1 0),(3,.c (.i (r.ySh+sumTo r.ySk k))),(4,.c (.i k))] [(1,.box (r.enc.map .c))]) (λk=>r.ySk.length-k) (by apply aB<;>simp[aY]) ?_
 rintro k hk
 rcases yX1 k r.ySk with⟨hlt,x,hx⟩|hge
 .have e1:=nV hx;have b1:=yqW hp hl (k+1);rw[e1]at b1;refine yaed hx (fC hlt) ?_;intro hlen;refine⟨by unfold inI;omega,gB hlt hlen,k+1,hlt,by omega,?_⟩;apply aB<;>simp[e1];omega
 .refine eU (aG hge) ?_;intro _;rw[yb4 hge];rfl
def qN(r:Reach):qB prg 49 [.agg (r.enc.map .c)] (.c (.b (xE r))):=by
 refine dB yvf (eP ?_);refine aA (yhk r.ySg) (eP ?_);refine⟨λh1=>?_,λh1=>by simp[xE,h1]⟩;refine aA (bC r.ySh 0 1000000000) (eP ?_);refine⟨λh2 hlen=>⟨λh3=>?_,λh3=>?_⟩,λh2=>by simp[xE,amount,h2]⟩
 .have:¬r.ySk.length<=12:=by omega
  simp[xE,this]
 refine qA (ι:=Nat) (λk=>k<=r.ySk.length/\(∀n∈r.ySk.take k,amount n=true)) (λk=>xC [(1,.box 1 0),(3,.c (.i k))] [(1,.box (r.enc.map .c))]) (λk=>r.ySk.length-k) 0 ⟨by simp,by simp⟩ (by apply aB<;>simp) ?_
 rintro k ⟨hk,hall⟩
 rcases yX1 k r.ySk with⟨hlt,x,hx⟩|hge
 .refine yaed hx (fC hlt) ?_;intro _;refine aA (bC x 0 1000000000) (eP ?_);refine⟨λh4=>yxv hx h4,λh4=>?_⟩;exact⟨gB hlt hlen,k+1,⟨hlt,lD (p:=amount) hx hall h4⟩,by omega,by apply aB<;>simp⟩
 .refine eU (aG hge) ?_;intro _;have h6:=dF (p:=amount) hge hall;refine aA (yuT r h2 (by omega) (zaf.1 h6)) (eP ?_);have h3':r.ySk.length<=12:=by omega
  simp[xE,h1,show amount r.ySh=true from h2,h6,h3']
def yDt{α:Type}{p:α->Bool}:∀{l:List α} {k:Nat} {q:α},k<=(l.takeWhile p).length->l[k]?=some q->p q=true->k+1<=(l.takeWhile p).length
 |[],k,q,_,h,_=>by simp at h
 |x::l,0,q,_,h,hq=>by
  simp at h;subst h;simp[zbm,hq]
 | x::l,k+1,q,hk,h,hq=>by
  rw[zbm]at hk|-;split at hk
  .rename_i hx;rw[if_pos hx];have:=yDt (l:=l) (k:=k) (by simpa using hk) (by simpa using h) hq;simp only[zaJ];omega
  .simp at hk
def yDB{α:Type}{p:α->Bool}:∀{l:List α} {k:Nat} {q:α},k<=(l.takeWhile p).length->l[k]?=some q->p q=false->(l.takeWhile p).length=k
 |[],k,q,_,h,_=>by simp at h
 |x::l,0,q,_,h,hq=>by
  simp at h;subst h;simp[zbm,hq]
 | x::l,k+1,q,hk,h,hq=>by
  rw[zbm]at hk|-;split at hk
  .rename_i hx;rw[if_pos hx];have:=yDB (l:=l) (k:=k) (by simpa using hk) (by simpa using h) hq;simp only[zaJ];omega
  .simp at hk
def seg(l:List ySc)(x:Int):Nat:=(l.tail.takeWhile λq=>decide (q.X<=x)).length
def seg_next{l:List ySc}{x:Int}{k:Nat}{q:ySc}(hk:k<=seg l x)(hq:l[k+1]?=some q)(h:q.X<=x):k+1<=seg l x:=
 yDt hk (by rw[zcC];exact hq) (by simp[h])
def yz3{l:List ySc}{x:Int}{k:Nat}{q:ySc}(hk:k<=seg l x)(hq:l[k+1]?=some q)(h:x<q.X):seg l x=k:=
 yDB hk (by rw[zcC];exact hq) (by simp;omega)
def yuC{l:List ySc}:∀{n k:Nat},upTo l n=true->k<n->yhG l k=true
 |0,k,_,h=>by omega
 | n+1,k,h,hk=>by
  simp only[upTo,zad]at h;rcases zan k n with h1|h1
  .exact yuC h.1 h1
  .have:k=n:=by omega
   subst this;exact h.2
structure ySr(l:List ySc):Prop where
 len:2<=l.length/\l.length<=20
 pt:∀(k:Nat) (p:ySc),l[k]?=some p->(0<=p.X/\p.X<=1000000000)/\(0<=p.Y/\p.Y<=1000000000)
 up:∀(k:Nat) (p q:ySc),l[k]?=some p->l[k+1]?=some q->p.X<q.X/\p.Y<=q.Y
def ycc{l:List ySc}(h:sH l=true):ySr l:=by
 simp only[sH,zad]at h;obtain⟨h1,h2⟩:=h;have h3:=aC.1 h2;refine⟨by omega,λk p hp=>?_,λk p q hp hq=>?_⟩
 .have hk:=(zaa.1 hp).1;have hs:=yuC h1 hk
  have:yd3 p=true:=by
   cases k with
   |zero=>rw[ygB hp]at hs;exact hs
   |succ j=>
    rw[yaN hp (zab (by omega)),zad]at hs;exact hs.1
  simp only[yd3,zad]at this;exact⟨aC.1 this.1,aC.1 this.2⟩
 .have hk:=(zaa.1 hq).1;have hs:=yuC h1 hk;rw[yaN hq hp,zad]at hs;have:=hs.2;simpa[follows]using this
def yi8(p q:ySc)(x:Int):Int:=p.Y+((x-p.X)*(q.Y-p.Y)).tdiv (q.X-p.X)
def fO(l:List ySc)(k:Nat):ySc:=l[k]?.getD default
def xM{l:List ySc}{k:Nat}{p:ySc}(h:l[k]?=some p):fO l k=p:=by simp[fO,h]
def fH(l:List ySc)(x:Int):Int:=
 if sH l then if x<=(fO l 0).X then(fO l 0).Y else if(fO l (l.length-1)).X<=x then(fO l (l.length-1)).Y else yi8 (fO l (seg l x)) (fO l (seg l x+1)) x
 else 0
def yA5{l:List ySc}(tf:ySr l){k:Nat}{p q:ySc}(hp:l[k]?=some p)(hq:l[k+1]?=some q){x v:Int}(hx:p.X<=x)(h4:x<q.X)(hv:v=p.Y+((x-p.X)*(q.Y-p.Y)).tdiv (q.X-p.X)):
 inI (x-p.X)/\inI (q.Y-p.Y)/\inI ((x-p.X)*(q.Y-p.Y))/\inI (q.X-p.X)/\¬q.X-p.X=0/\inI (((x-p.X)*(q.Y-p.Y)).tdiv (q.X-p.X))/\inI (p.Y+((x-p.X)*(q.Y-p.Y)).tdiv (q.X-p.X))/\v=p.Y+((x-p.X)*(q.Y-p.Y)).tdiv (q.X-p.X):=by
 have b1:=tf.pt k p hp;have b2:=tf.pt (k+1) q hq;have b3:=tf.up k p q hp hq;have c1:0<=(x-p.X)*(q.Y-p.Y):=zct (by omega) (by omega);have c2:(x-p.X)*(q.Y-p.Y)<=1000000000*1000000000:=zcu (by omega) (by omega) (by omega) (by omega);have c3:((x-p.X)*(q.Y-p.Y)).tdiv (q.X-p.X)=((x-p.X)*(q.Y-p.Y))/(q.X-p.X):=zaA c1;have c4:0<=((x-p.X)*(q.Y-p.Y))/(q.X-p.X):=zck c1 (by omega);have c5:((x-p.X)*(q.Y-p.Y))/(q.X-p.X)<=(x-p.X)*(q.Y-p.Y):=zch _ c1;refine⟨by unfold inI;omega,by unfold inI;omega,by unfold inI;omega,by unfold inI;omega,by omega,?_,?_,hv⟩
 .rw[c3];unfold inI;omega
 .rw[c3];unfold inI;omega
def yxT(l:List ySc)(x:Int):qB prg 182 [.c (.sl 2 (l.map ySc.enc)),.c (.i x)] (.c (.i (fH l x))):=by
 refine dB yt8 (eP ?_);refine aA (yg1 l) ?_;cases h1:sH l with
 |false=>
  refine eP ?_;simp[fH,h1]
 | true=>
  have tf:=ycc h1;obtain⟨hl1,hl2⟩:=tf.len;obtain⟨p0,e0⟩:∃p,l[0]?=some p:=⟨_,zab (by omega)⟩;obtain⟨pe,ee⟩:∃p,l[l.length-1]?=some p:=⟨_,zab (by omega)⟩;have f0:=(zaa.1 e0).2;have l0:0<l.length:=by omega
  have l1:(1:Int)<=l.length:=by omega
  have l2:(l.length:Int)-1<l.length:=by omega
  have l3:inI ((l.length:Int)-1):=by unfold inI;omega
  refine yafn e0 ee f0 l0 l1 l2 l3 ?_;have a0:fO l 0=p0:=xM e0;have ae:fO l (l.length-1)=pe:=xM ee
  refineλ_=>⟨λh2=>by simp[fH,h1,a0,h2],λh2=>⟨λh3=>?_,λh3=>?_⟩⟩
  .have:¬x<=p0.X:=by omega
   simp[fH,h1,a0,ae,this,h3]
  have hv:fH l x=yi8 (fO l (seg l x)) (fO l (seg l x+1)) x:=by
   have g1:¬x<=p0.X:=by omega
   have g2:¬pe.X<=x:=by omega
   simp[fH,h1,a0,ae,g1,g2]
  refine qA (ι:=Nat) (λk=>k+2<=l.length/\k<=seg l x/\(fO l k).X<=x) (λk=>xC [(0,.c (.sl 2 (l.map ySc.enc))),(1,.c (.i x)),(6,.c (.i k))] []) (λk=>l.length-k) 0 ⟨hl1,zby _,by rw[a0];omega⟩ (by apply aB<;>simp) ?_
  rintro k ⟨hk,hs,hx⟩
  obtain⟨p,hp⟩:∃p,l[k]?=some p:=⟨_,zab (by omega)⟩;obtain⟨q,hq⟩:∃p,l[k+1]?=some p:=⟨_,zab (by omega)⟩;rw[xM hp]at hx;have i1:(k:Int)+1<l.length:=by omega
  have i2:(k:Int)<l.length:=by omega
  have i3:(0:Int)<=k+1:=by omega
  have i4:((k:Int)+1).toNat=k+1:=by omega
  have i5:inI ((k:Int)+1):=by unfold inI;omega
  refine yafn hp hq i1 i2 i3 i4 i5 ?_;refine⟨λh4=>⟨k+1,⟨?_,seg_next hs hq h4,by rw[xM hq];exact h4⟩,by omega,by apply aB<;>simp⟩,λh4=>?_⟩
  .rcases zan (k+2) l.length with g|g
   .omega
   .have e:l.length-1=k+1:=by omega
    rw[e,hq]at ee;cases ee;omega
  .exact yA5 tf hp hq hx h4 (by rw[hv,yz3 hs hq h4,xM hp,xM hq];rfl)
def yxU(l:List ySc)(x:Int):qB prg 48 [.c (.sl 2 (l.map ySc.enc)),.c (.i x)] (.c (.i (fH l x))):=by
 refine dB yuG (eP ?_);refine aA (yhk l) ?_;cases h1:sH l with
 |false=>
  refine eP ?_;simp[fH,h1]
 | true=>
  have tf:=ycc h1;obtain⟨hl1,hl2⟩:=tf.len;obtain⟨p0,e0⟩:∃p,l[0]?=some p:=⟨_,zab (by omega)⟩;obtain⟨pe,ee⟩:∃p,l[l.length-1]?=some p:=⟨_,zab (by omega)⟩;have f0:=(zaa.1 e0).2;have l0:0<l.length:=by omega
  have l1:(1:Int)<=l.length:=by omega
  have l2:(l.length:Int)-1<l.length:=by omega
  have l3:inI ((l.length:Int)-1):=by unfold inI;omega
  refine yafn e0 ee f0 l0 l1 l2 l3 ?_;have a0:fO l 0=p0:=xM e0;have ae:fO l (l.length-1)=pe:=xM ee
  refineλ_=>⟨λh2=>by simp[fH,h1,a0,h2],λh2=>⟨λh3=>?_,λh3=>?_⟩⟩
  .have:¬x<=p0.X:=by omega
   simp[fH,h1,a0,ae,this,h3]
  have hv:fH l x=yi8 (fO l (seg l x)) (fO l (seg l x+1)) x:=by
   have g1:¬x<=p0.X:=by omega
   have g2:¬pe.X<=x:=by omega
   simp[fH,h1,a0,ae,g1,g2]
  refine qA (ι:=Nat) (λk=>k+2<=l.length/\k<=seg l x/\(fO l k).X<=x) (λk=>xC [(0,.c (.sl 2 (l.map ySc.enc))),(1,.c (.i x)),(6,.c (.i k))] []) (λk=>l.length-k) 0 ⟨hl1,zby _,by rw[a0];omega⟩ (by apply aB<;>simp) ?_
  rintro k ⟨hk,hs,hx⟩
  obtain⟨p,hp⟩:∃p,l[k]?=some p:=⟨_,zab (by omega)⟩;obtain⟨q,hq⟩:∃p,l[k+1]?=some p:=⟨_,zab (by omega)⟩;rw[xM hp]at hx;have i1:(k:Int)+1<l.length:=by omega
  have i2:(k:Int)<l.length:=by omega
  have i3:(0:Int)<=k+1:=by omega
  have i4:((k:Int)+1).toNat=k+1:=by omega
  have i5:inI ((k:Int)+1):=by unfold inI;omega
  refine yafn hp hq i1 i2 i3 i4 i5 ?_;refine⟨λh4=>⟨k+1,⟨?_,seg_next hs hq h4,by rw[xM hq];exact h4⟩,by omega,by apply aB<;>simp⟩,λh4=>?_⟩
  .rcases zan (k+2) l.length with g|g
   .omega
   .have e:l.length-1=k+1:=by omega
    rw[e,hq]at ee;cases ee;omega
  .exact yA5 tf hp hq hx h4 (by rw[hv,yz3 hs hq h4,xM hp,xM hq];rfl)
def least(f:Int->Bool)(lo:Int):Nat->Int
 |0=>lo
 |n+1=>if f lo then lo else least f (lo+1) n
def yAN{f:Int->Bool}:∀{n:Nat} {lo p:Int},lo<=p->p<=lo+n->f p=true->(∀z,lo<=z->z<p->f z=false)->least f lo n=p
 |0,lo,p,h1,h2,h3,h4=>by simp only[least];omega
 | n+1,lo,p,h1,h2,h3,h4=>by
  simp only[least]
  by_cases e:lo=p
  .subst e;rw[if_pos h3]
  .rw[if_neg (by rw[h4 lo (zbD _) (by omega)];simp)];exact yAN (by omega) (by omega) h3 λz hz1 hz2=>h4 z (by omega) hz2
def yEE{a b d:Int}(ha:0<=a)(hab:a<=b)(hd:0<d):a.tdiv d<=b.tdiv d:=by
 rw[zaA ha,zaA (by omega)];exact Int.ediv_le_ediv hd hab
def ym6{l:List ySc}(tf:ySr l){k:Nat}{p q:ySc}(hp:l[k]?=some p)(hq:l[k+1]?=some q){x y:Int}(hx:p.X<=x)(hxy:x<=y):yi8 p q x<=yi8 p q y:=by
 have b3:=tf.up k p q hp hq;unfold yi8;have c1:0<=(x-p.X)*(q.Y-p.Y):=zct (by omega) (by omega);have c2:(x-p.X)*(q.Y-p.Y)<=(y-p.X)*(q.Y-p.Y):=Int.mul_le_mul_of_nonneg_right (by omega) (by omega);have:=yEE c1 c2 (show 0<q.X-p.X by omega);omega
def yBJ{l:List ySc}(tf:ySr l){k:Nat}{p q:ySc}(hp:l[k]?=some p)(hq:l[k+1]?=some q):yi8 p q p.X=p.Y/\yi8 p q q.X=q.Y:=by
 have b3:=tf.up k p q hp hq;unfold yi8;refine⟨by simp,?_⟩;rw[Int.mul_tdiv_cancel_left _ (by omega)];omega
def yGq{α:Type}{p:α->Bool}:∀{l:List α} {i:Nat} {q:α},i<(l.takeWhile p).length->l[i]?=some q->p q=true
 |[],i,q,h,_=>by simp at h
 | x::l,i,q,h,hq=>by
  rw[zbm]at h;split at h
  .rename_i hx;cases i with
   |zero=>simp at hq;subst hq;exact hx
   |succ i=>exact yGq (l:=l) (i:=i) (by simpa using h) (by simpa using hq)
  .simp at h
def yF9{α:Type}{p:α->Bool}:∀{l:List α} {q:α},l[(l.takeWhile p).length]?=some q->p q=false
 |[],q,h=>by simp at h
 | x::l,q,h=>by
  rw[zbm]at h;split at h
  .exact yF9 (l:=l) (by simpa using h)
  .rename_i hx;simp at h;subst h;simpa using hx
def ycy{l:List ySc}(tf:ySr l):∀{j i:Nat} {p q:ySc},i<=j->l[i]?=some p->l[j]?=some q->p.X<=q.X/\p.Y<=q.Y
 |0,i,p,q,h,hp,hq=>by
  have:i=0:=by omega
  subst this;rw[hp]at hq;cases hq;omega
 | j+1,i,p,q,h,hp,hq=>by
  rcases zan j i with h1|h1
  .have:i=j+1:=by omega
   subst this;rw[hp]at hq;cases hq;omega
  .have hj:=(zaa.1 hq).1;obtain⟨r,hr⟩:∃r,l[j]?=some r:=⟨_,zab (by omega)⟩;have e1:=ycy tf h1 hp hr;have e2:=tf.up j r q hr hq;omega
def yLY{l:List ySc}(tf:ySr l){x:Int}(h0:(fO l 0).X<=x)(h1:x<(fO l (l.length-1)).X):∃p q,l[seg l x]?=some p/\l[seg l x+1]?=some q/\p.X<=x/\x<q.X:=by
 obtain⟨hl1,hl2⟩:=tf.len
 have hlen:seg l x<=l.length-1:=by
  unfold seg;have:=(List.takeWhile_sublist (λq:ySc=>decide (q.X<=x)) (l:=l.tail)).length_le;simpa using this
 obtain⟨e,he⟩:∃e,l[l.length-1]?=some e:=⟨_,zab (by omega)⟩;rw[xM he]at h1
 have hp:∀p,l[seg l x]?=some p->p.X<=x:=by
  intro p hp;cases hs:seg l x with
  |zero=>rw[hs]at hp;rw[xM hp]at h0;exact h0
  |succ j=>
   rw[hs]at hp;have:=yGq (p:=λq:ySc=>decide (q.X<=x)) (l:=l.tail) (i:=j) (q:=p) (by show j<seg l x;omega) (by rw[zcC];exact hp);simpa using this
 have hlt:seg l x<l.length-1:=by
  rcases zan (seg l x) (l.length-1)with h|h
  .exact h
  .have e1:seg l x=l.length-1:=by omega
   have:=hp e (by rw[e1];exact he);omega
 obtain⟨p,hp'⟩:∃p,l[seg l x]?=some p:=⟨_,zab (by omega)⟩;obtain⟨q,hq'⟩:∃p,l[seg l x+1]?=some p:=⟨_,zab (by omega)⟩;refine⟨p,q,hp',hq',hp p hp',?_⟩;have:=yF9 (p:=λq:ySc=>decide (q.X<=x)) (l:=l.tail) (q:=q) (by rw[zcC];exact hq');simp at this;omega
def yAT{l:List ySc}(h:sH l=true){x:Int}(h0:(fO l 0).X<x)(h1:x<(fO l (l.length-1)).X):fH l x=yi8 (fO l (seg l x)) (fO l (seg l x+1)) x:=by
 have g1:¬x<=(fO l 0).X:=by omega
 have g2:¬(fO l (l.length-1)).X<=x:=by omega
 simp[fH,h,g1,g2]
def yho{l:List ySc}(h:sH l=true){x:Int}(h0:x<=(fO l 0).X):fH l x=(fO l 0).Y:=by simp[fH,h,h0]
def yg4{l:List ySc}(h:sH l=true){x:Int}(h1:(fO l (l.length-1)).X<=x):fH l x=(fO l (l.length-1)).Y:=by
 have tf:=ycc h;obtain⟨hl1,hl2⟩:=tf.len;obtain⟨e,he⟩:∃e,l[l.length-1]?=some e:=⟨_,zab (by omega)⟩;obtain⟨p,hp⟩:∃e,l[0]?=some e:=⟨_,zab (by omega)⟩;obtain⟨q,hq⟩:∃e,l[1]?=some e:=⟨_,zab (by omega)⟩;have e1:=tf.up 0 p q hp hq;have e2:=ycy tf (show 1<=l.length-1 by omega) hq he;have g1:¬x<=(fO l 0).X:=by rw[xM hp];rw[xM he]at h1;omega
 simp[fH,h,g1,h1]
def yjZ{l:List ySc}(h:sH l=true){x:Int}(h0:(fO l 0).X<x)(h1:x<(fO l (l.length-1)).X):
 ∃p q,l[seg l x]?=some p/\l[seg l x+1]?=some q/\p.X<=x/\x<q.X/\fH l x=yi8 p q x/\p.Y<=fH l x/\fH l x<=q.Y:=by
 have tf:=ycc h;obtain⟨p,q,e1,e2,e3,e4⟩:=yLY tf (zdP h0) h1;have hv:=yAT h h0 h1;rw[xM e1,xM e2]at hv;have hen:=yBJ tf e1 e2;have m1:=ym6 tf e1 e2 (zbD _) e3;have m2:=ym6 tf e1 e2 e3 (zdP e4);exact⟨p,q,e1,e2,e3,e4,hv,by rw[hv];omega,by rw[hv];omega⟩
def yGW{l:List ySc}(tf:ySr l){x y:Int}(hxy:x<=y){p q:ySc}(hp:l[seg l x]?=some p)(hx:p.X<=x)(hq:l[seg l y+1]?=some q)(hy:y<q.X):seg l x<=seg l y:=by
 rcases zan (seg l y) (seg l x)with h|h
 .have:=ycy tf (show seg l y+1<=seg l x by omega) hq hp;omega
 .exact h
def yo0{l:List ySc}(h:sH l=true){x y:Int}(hxy:x<=y):fH l x<=fH l y:=by
 have tf:=ycc h;obtain⟨hl1,hl2⟩:=tf.len;obtain⟨e,he⟩:∃e,l[l.length-1]?=some e:=⟨_,zab (by omega)⟩;obtain⟨f,hf⟩:∃e,l[0]?=some e:=⟨_,zab (by omega)⟩;have hfe:=ycy tf (zby _) hf he;rcases zcc (fO l 0).X y with hy|hy
 .rcases zcc y (fO l (l.length-1)).X with hy2|hy2
  .obtain⟨p',q',a1,a2,a3,a4,a5,a6,a7⟩:=yjZ h hy hy2;rcases zcc (fO l 0).X x with hx|hx
   .obtain⟨p,q,b1,b2,b3,b4,b5,b6,b7⟩:=yjZ h hx (by omega);have hs:=yGW tf hxy b1 b3 a2 a4;rcases zan (seg l x) (seg l y)with hlt|hge
    .have:=ycy tf (show seg l x+1<=seg l y by omega) b2 a1;omega
    .have e1:seg l x=seg l y:=by omega
     rw[e1]at b1 b2;rw[b1]at a1;cases a1;rw[b2]at a2;cases a2;rw[a5,b5];exact ym6 tf b1 b2 b3 hxy
   .rw[yho h hx,xM hf];have:=ycy tf (zby _) hf a1;omega
  .rw[yg4 h hy2,xM he];rcases zcc (fO l 0).X x with hx|hx
   .rcases zcc x (fO l (l.length-1)).X with hx2|hx2
    .obtain⟨p,q,b1,b2,b3,b4,b5,b6,b7⟩:=yjZ h hx hx2;have hk:=(zaa.1 b2).1;have:=ycy tf (show seg l x+1<=l.length-1 by omega) b2 he;omega
    .rw[yg4 h hx2,xM he];omega
   .rw[yho h hx,xM hf];omega
 .rw[yho h hy,yho h (by omega)];omega
def gU(l:List ySc)(y:Int):Int×Bool:=
 if sH l=true/\y<=(fO l (l.length-1)).Y then(least (λz=>decide (y<=fH l z)) (fO l 0).X ((fO l (l.length-1)).X-(fO l 0).X).toNat,true)else(0,false)
def yun{l:List ySc}{y:Int}(h:sH l=false):gU l y=(0,false):=by simp[gU,h]
def yq1{l:List ySc}{y:Int}(h:(fO l (l.length-1)).Y<y):gU l y=(0,false):=by
 have:¬y<=(fO l (l.length-1)).Y:=by omega
 simp[gU,this]
def yu1{l:List ySc}{y p:Int}(h:sH l=true)(hy:y<=(fO l (l.length-1)).Y)(h0:(fO l 0).X<=p)(h1:p<=(fO l (l.length-1)).X)(hp:y<=fH l p)(hz:∀z,(fO l 0).X<=z->z<p->fH l z<y):gU l y=(p,true):=by
 simp only[gU,h,hy,and_self,if_true];rw[yAN (p:=p) h0 (by omega) (by simp[hp]) λz z1 z2=>by have:=hz z z1 z2;simp;omega]
def ybO{l:List ySc}(h1:sH l=true):∃p0 pe,l[0]?=some p0/\l[l.length-1]?=some pe/\fO l 0=p0/\fO l (l.length-1)=pe/\0<=p0.X/\p0.X<=pe.X/\pe.X<=1000000000/\2<=l.length/\l.length<=20/\0<=pe.Y/\pe.Y<=1000000000:=by
 have tf:=ycc h1;obtain⟨hl1,hl2⟩:=tf.len;obtain⟨p0,e0⟩:∃p,l[0]?=some p:=⟨_,zab (by omega)⟩;obtain⟨pe,ee⟩:∃p,l[l.length-1]?=some p:=⟨_,zab (by omega)⟩;have b1:=tf.pt _ _ e0;have b2:=tf.pt _ _ ee;have b3:=ycy tf (zby _) e0 ee;exact⟨p0,pe,e0,ee,xM e0,xM ee,b1.1.1,b3.1,b2.1.2,hl1,hl2,b2.2.1,b2.2.2⟩
def yy0(l:List ySc)(y:Int):qB prg 271 [.c (.sl 2 (l.map ySc.enc)),.c (.i y)] (.tup [.c (.i (gU l y).1),.c (.b (gU l y).2)]):=by
 refine dB ysS (eP ?_);refine aA (yg1 l) ?_;cases h1:sH l with
 |false=>
  refine eP ?_;simp[yun h1]
 | true=>
  obtain⟨p0,pe,e0,ee,a0,ae,b1,b2,b3,hl1,hl2,b4,b5⟩:=ybO h1;have f0:=(zaa.1 e0).2;have l0:0<l.length:=by omega
  have l1:(1:Int)<=l.length:=by omega
  have l2:(l.length:Int)-1<l.length:=by omega
  have l3:inI ((l.length:Int)-1):=by unfold inI;omega
  refine yafn e0 ee f0 l0 l1 l2 l3 ?_
  refineλ_=>⟨λh2=>?_,λh2 _=>?_⟩
  .simp[yq1 (show(fO l (l.length-1)).Y<y by rw[ae];exact h2)]
  have hy:y<=(fO l (l.length-1)).Y:=by rw[ae];omega
  have he:y<=fH l pe.X:=by rw[yg4 h1 (by rw[ae];exact zbD _),ae];rw[ae]at hy;exact hy
  have hz:∀z,p0.X<=z->z<p0.X->fH l z<y:=λz z1 z2=>absurd z2 (by omega);have hz':∀z,p0.X<=z->z<=p0.X-1->fH l z<y:=λz z1 z2=>absurd z2 (by omega);refine qA (ι:=Int×Int) (λp=>p0.X<=p.1/\p.1<=p.2/\p.2<=pe.X/\y<=fH l p.2/\∀z,p0.X<=z->z<p.1->fH l z<y) (λp=>xC [(0,.c (.sl 2 (l.map ySc.enc))),(1,.c (.i y)),(6,.c (.i p.1)),(7,.c (.i p.2))] []) (λp=>(p.2-p.1).toNat) (p0.X,pe.X) ⟨zbD _,b2,zbD _,he,hz⟩ (by apply aB<;>simp) ?_
  rintro⟨lo,hi⟩ ⟨c1,c2,c3,c4,c5⟩
  simp only at c1 c2 c3 c4 c5;have hq:(lo+hi).tdiv 2=(lo+hi)/2:=zaA (by omega);refine eP ?_;refine⟨λh4=>⟨by unfold inI;omega,by rw[hq];unfold inI;omega,?_⟩,λh4=>?_⟩
  .refine mD (yxT l ((lo+hi).tdiv 2)) (by simp) rfl (eP ?_);rw[hq];refine⟨λh5=>?_,λh5=>?_⟩
   .exact⟨lo,(lo+hi)/2,⟨c1,by omega,by omega,h5,c5⟩,by omega,by apply aB<;>simp⟩
   .refine⟨by unfold inI;omega,(lo+hi)/2+1,hi,⟨by omega,by omega,c3,c4,λz z1 z2=>?_⟩,by omega,by apply aB<;>simp⟩;have:=yo0 h1 (show z<=(lo+hi)/2 by omega);omega
  .have e:hi=lo:=by omega
   subst e;rw[yu1 h1 hy (by rw[a0];exact c1) (by rw[ae];exact c3) c4 (by rw[a0];exact c5)];simp
def yyr(l:List ySc)(y:Int):qB prg 301 [.c (.sl 2 (l.map ySc.enc)),.c (.i y)] (.tup [.c (.i (gU l y).1),.c (.b (gU l y).2)]):=by
 refine dB ysP (eP ?_);refine aA (yhk l) ?_;cases h1:sH l with
 |false=>
  refine eP ?_;simp[yun h1]
 | true=>
  obtain⟨p0,pe,e0,ee,a0,ae,b1,b2,b3,hl1,hl2,b4,b5⟩:=ybO h1;have f0:=(zaa.1 e0).2;have l0:0<l.length:=by omega
  have l1:(1:Int)<=l.length:=by omega
  have l2:(l.length:Int)-1<l.length:=by omega
  have l3:inI ((l.length:Int)-1):=by unfold inI;omega
  refine yafn e0 ee f0 l0 l1 l2 l3 ?_
  refineλ_=>⟨λh2=>?_,λh2=>?_⟩
  .simp[yq1 (show(fO l (l.length-1)).Y<y by rw[ae];exact h2)]
  have hy:y<=(fO l (l.length-1)).Y:=by rw[ae];omega
  have he:y<=fH l pe.X:=by rw[yg4 h1 (by rw[ae];exact zbD _),ae];rw[ae]at hy;exact hy
  have hz:∀z,p0.X<=z->z<p0.X->fH l z<y:=λz z1 z2=>absurd z2 (by omega);have hz':∀z,p0.X<=z->z<=p0.X-1->fH l z<y:=λz z1 z2=>absurd z2 (by omega);refine⟨by unfold inI;omega,λ_=>?_⟩;refine qA (ι:=Int×Int) (λp=>p0.X-1<=p.1/\p.1<p.2/\p.2<=pe.X/\y<=fH l p.2/\∀z,p0.X<=z->z<=p.1->fH l z<y) (λp=>xC [(0,.c (.sl 2 (l.map ySc.enc))),(1,.c (.i y)),(6,.c (.i p.1)),(7,.c (.i p.2))] []) (λp=>(p.2-p.1).toNat) (p0.X-1,pe.X) ⟨zbD _,by simp only;omega,zbD _,he,hz'⟩ (by apply aB<;>simp) ?_
  rintro⟨lo,hi⟩ ⟨c1,c2,c3,c4,c5⟩
  simp only at c1 c2 c3 c4 c5;have hq:(hi-lo).tdiv 2=(hi-lo)/2:=zaA (by omega);refine eP ?_;refine⟨by unfold inI;omega,λh4=>⟨by unfold inI;omega,by rw[hq];unfold inI;omega,by rw[hq];unfold inI;omega,?_⟩,λh4=>?_⟩
  .refine mD (yxU l (lo+(hi-lo).tdiv 2)) (by simp) rfl (eP ?_);rw[hq];refine⟨λh5=>?_,λh5=>?_⟩
   .exact⟨lo,lo+(hi-lo)/2,⟨c1,by omega,by omega,h5,c5⟩,by omega,by apply aB<;>simp⟩
   .refine⟨lo+(hi-lo)/2,hi,⟨by omega,by omega,c3,c4,λz z1 z2=>?_⟩,by omega,by apply aB<;>simp⟩;have:=yo0 h1 (show z<=lo+(hi-lo)/2 by omega);omega
  .have e:hi=lo+1:=by omega
   subst e;rw[yu1 h1 hy (by rw[a0];omega) (by rw[ae];exact c3) c4 (by rw[a0];exactλz z1 z2=>c5 z z1 (by omega))];simp
def yzL{l:List ySc}{y:Int}(h:(gU l y).2=true):sH l=true/\0<=(gU l y).1/\(gU l y).1<=1000000000:=by
 unfold gU at h|-;split at h
 .rename_i hh;obtain⟨p0,pe,e0,ee,a0,ae,b1,b2,b3,hl1,hl2,b4,b5⟩:=ybO hh.1;rw[if_pos hh]
  have:∀(f:Int->Bool) (n:Nat) (lo:Int),lo<=least f lo n/\least f lo n<=lo+n:=by
   intro f n
   induction n with
   |zero=>intro lo;simp[least]
   |succ n ih=>
    intro lo;simp only[least];have:=ih (lo+1);split<;>omega
  have:=this (λz=>decide (y<=fH l z)) ((fO l (l.length-1)).X-(fO l 0).X).toNat (fO l 0).X;rw[a0,ae]at this;simp only[a0,ae];exact⟨hh.1,by omega,by omega⟩
 .simp at h
def kD(r:Reach):Int:=if xE r then(if(gU r.ySg r.ySh).2 then(gU r.ySg r.ySh).1 else(fO r.ySg (r.ySg.length-1)).X)else 0
def kM(r:Reach):0<=kD r/\kD r<=1000000000:=by
 unfold kD;split
 .rename_i h;have ht:sH r.ySg=true:=by simp[xE]at h;exact h.1.1.1.1
  obtain⟨p0,pe,e0,ee,a0,ae,b1,b2,b3,hl1,hl2,b4,b5⟩:=ybO ht;split
  .rename_i hp;have:=yzL hp;omega
  .rw[ae];omega
 .omega
def qL(r:Reach):qB prg 178 [.agg (r.enc.map .c)] (.c (.i (kD r))):=by
 refine dB ysy (eP ?_);refine aA (oL r) ?_;cases h:xE r with
 |false=>simp -dsimp -implicitDefEqProofs;simp[kD,h]
 | true=>
  have ht:sH r.ySg=true:=by simp[xE]at h;exact h.1.1.1.1
  obtain⟨p0,pe,e0,ee,a0,ae,b1,b2,b3,hl1,hl2,b4,b5⟩:=ybO ht;refine eP ?_;refine aA (yy0 r.ySg r.ySh) ?_;cases hp:(gU r.ySg r.ySh).2 with
  |false=>
   have l2:(r.ySg.length:Int)-1<r.ySg.length:=by omega
   have l3:inI ((r.ySg.length:Int)-1):=by unfold inI;omega
   have l1:(1:Int)<=r.ySg.length:=by omega
   refine yaff hp ee l1 l2 l3 ?_;intro _;simp[kD,h,hp,ae]
  |true=>simp -dsimp -implicitDefEqProofs [hp];simp[kD,h,hp]
def dN(r:Reach):qB prg 193 [.agg (r.enc.map .c)] (.c (.i (kD r))):=by
 refine dB ysT (eP ?_);refine aA (qN r) ?_;cases h:xE r with
 |false=>simp -dsimp -implicitDefEqProofs;simp[kD,h]
 | true=>
  have ht:sH r.ySg=true:=by simp[xE]at h;exact h.1.1.1.1
  obtain⟨p0,pe,e0,ee,a0,ae,b1,b2,b3,hl1,hl2,b4,b5⟩:=ybO ht;refine eP ?_;refine aA (yyr r.ySg r.ySh) ?_;cases hp:(gU r.ySg r.ySh).2 with
  |false=>
   have l2:(r.ySg.length:Int)-1<r.ySg.length:=by omega
   have l3:inI ((r.ySg.length:Int)-1):=by unfold inI;omega
   have l1:(1:Int)<=r.ySg.length:=by omega
   refine yaff hp ee l1 l2 l3 ?_;intro _;simp[kD,h,hp,ae]
  |true=>simp -dsimp -implicitDefEqProofs [hp];simp[kD,h,hp]
def yTp(w:Way)(r:Reach):Int:=if ykM w=true/\xE r=true then(if 0<kD r-w.Bed then kD r-w.Bed else 0)else 0
def yVz{w:Way}(h:ykM w=true):(1<=w.Long/\w.Long<=10000)/\0<=w.Bed/\w.Bed<=100000:=by
 simp only[ykM,zad]at h;exact⟨aC.1 h.1,aC.1 h.2⟩
def yWO(w:Way)(r:Reach):qB prg 264 [.agg (w.enc.map .c),.agg (r.enc.map .c)] (.c (.i (yTp w r))):=by
 refine dB yV7 (eP ?_);refine aA (ysY w) (eP ?_);refine⟨λh1=>?_,λh1=>by simp[yTp,h1]⟩;refine aA (oL r) (eP ?_);refine⟨λh2=>by simp[yTp,h2],λh2=>?_⟩;refine lC (qL r) (eP ?_);have hl:=kM r;have hb:=yVz h1;exact⟨by unfold inI;omega,by simp[yTp,h1,h2]⟩
def yWC(w:Way)(r:Reach):qB prg 294 [.agg (w.enc.map .c),.agg (r.enc.map .c)] (.c (.i (yTp w r))):=by
 refine dB yV3 (eP ?_);refine aA (ysH w) (eP ?_);refine⟨λh1=>?_,λh1=>by simp[yTp,h1]⟩;refine aA (qN r) (eP ?_);refine⟨λh2=>by simp[yTp,h2],λh2=>?_⟩;refine lC (dN r) (eP ?_);have hl:=kM r;have hb:=yVz h1;exact⟨by unfold inI;omega,by simp[yTp,h1,h2]⟩
def yBG:=yYw yic (sm:=λ_=>True) λe _=>yxe e
@[simp] def yR6.iD(e:yR6):List C:=[.b e.yRT.Up,.ot 1 (e.yRT.Rows.map jF),.i e.Place]
def yR6.bF(e:yR6):dO e.iD=some e.enc:=by simp[yR6.iD,dO,yY yI]
def yE7(e:yR6)(hl:yR6.small e):nI prg 329 [.agg (e.enc.map .c)] (.agg (e.iD.map .c)):=by
 refine fF yj2 (eP ?_);refine sD (ylg e.yRT hl) (by simp) (by simp[AV.closed,AV.jI,C.closed,jF]) (by simp[fD]) ?_;exact goU_
def yB7(xs:List yR6)(hl:xs.length<=1048576/\∀x∈xs,x.small):nI prg 219 [.c (.sl 3 (xs.map yR6.enc))] (.c (.ot 3 (xs.map yR6.iD))):=by
 refine fF yih (eP ?_);intro hlen;have hl1:=hl.1;refine⟨by omega,?_⟩;refine yX2 (λk=>k<=xs.length) (λk=>xC [(0,.c (.sl 3 (xs.map yR6.enc))),(3,.own 7 3 xs.length),(4,.c (.i k))] [(7,.tr 3 0 (partly yR6.iD [.b false,.sl 1 [],.i 0] xs k))]) (λk=>xs.length-k) (by apply aB<;>simp[mF,Obj.leO]) ?_
 rintro k hk
 rcases yX1 k xs with⟨hlt,e,he⟩|hge
 .have hs:=fG (f:=yR6.iD) (z:=[.b false,.sl 1 [],.i 0]) he;have hd:=qG (f:=yR6.iD) (z:=[.b false,.sl 1 [],.i 0]) (n:=3) rfl hlt;simp only[yR6.iD]at hs;refine yaed he (fC hlt) ?_;intro _;refine sD (yE7 e (hl.2 e (zac he))) (by simp) (by simp[AV.closed,AV.jI,C.closed,jF]) (by simp[fD]) ?_;simp -dsimp -implicitDefEqProofs [fC hlt,dG hk,jA,hd,hs];exact⟨hlt,gB hlt hlen,k+1,hlt,by omega,by apply aB<;>simp[Obj.leO]⟩
 .refine eU (aG hge) ?_;intro _;rw[eG hge,jA]
def ylF(k:Int):List C:=[.i k,.i (k+1)]
end
end Go.Proofs.YtdadkiofenhnbaaGreat
