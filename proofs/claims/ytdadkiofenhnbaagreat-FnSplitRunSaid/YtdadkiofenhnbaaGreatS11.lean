/- What functions answer, in plain Lean. -/
import Derived.Test.YtdadkiofenhnbaaGreatS10
set_option linter.all false
set_option maxRecDepth 100000
set_option maxHeartbeats 4000000
namespace Go.Proofs.YtdadkiofenhnbaaGreat
open Go.RowKit
noncomputable section
def yrA(t:yRT)(hs:t.small):qB prg 360 [.agg (t.enc.map .c)] (.c (.i (yfv t))):=by
 refine dB ynO ?_;have hR:t.Rows.flatten=t.qE:=rfl;refine goQ_ ?_;intro hlen;refine yX2 (λk=>k<=t.Rows.length) (λk=>xC [(1,.box 1 0),(3,.c (.i (heads t.Rows k).length)),(7,.c (.sl 1 (t.Rows.map jE))),(8,.c (.i t.Rows.length)),(9,.c (.i k))] [(1,.box (t.enc.map .c))]) (λk=>t.Rows.length-k) (by apply aB<;>simp[yaE]) ?_
 rintro k hk
 rcases yX1 k t.Rows with⟨hlt,r,hr⟩|hge
 .have g1:=(zaa.1 hr).2;have hsu:=ydL hr;have hb:=ycH hs (k+1);have hl2:(heads t.Rows (k+1)).length=(heads t.Rows k).length+r.length:=by rw[hsu,zah]
  refine yaeV hr g1 hlt (fC hlt) ?_;intro hm;refine⟨by unfold inI;omega,gB hlt hlen,k+1,hlt,by omega,?_⟩;apply aB<;>simp[hl2]
 .have:=ydD hge;simp -dsimp -implicitDefEqProofs [aG hge,this];simp[yfv,yRT.qE,List.length_flatten]
def ytJ(c:Int)(n i:Nat):Bool:=decide (yG1 (yzh c ((n:Int)-1-i)) 1=1)
def xF(c:Int)(n k:Nat):List Nat:=(List.range k).filter λi=>ytJ c n i
def yq3{c:Int}{n k:Nat}:xF c n (k+1)=if ytJ c n k then xF c n k++[k]else xF c n k:=by
 unfold xF;rw[zdc,zcp];cases h:ytJ c n k<;>simp[h]
def yb5{c:Int}{n k x:Nat}(h:x∈xF c n k):x<k:=zaQ.1 (zbE.1 h).1
def ym9{c:Int}{n k:Nat}:(xF c n k).length<=k:=zaX (zbQ _ _) (by simp)
def qAt(q:List yRT)(l:List Nat):List yRT:=l.map λi=>q.getD i ⟨false,[]⟩
def yai(q:List yRT)(l:List Nat):Int:=((qAt q l).map yfv).sum
def ygs{q:List yRT}{l:List Nat}{k:Nat}{t:yRT}(h:q[k]?=some t):qAt q (l++[k])=qAt q l++[t]:=by
 simp[qAt,zaf,h]
def yzt{q:List yRT}{l:List Nat}{k:Nat}{t:yRT}(h:q[k]?=some t):yai q (l++[k])=yai q l+yfv t:=by
 unfold yai;rw[ygs h];simp
def yg0{q:List yRT}{p:yRT->Prop}{l:List Nat}(hq:∀t∈q,p t)(hl:∀x∈l,x<q.length):∀t∈qAt q l,p t:=by
 intro t ht;obtain⟨x,hx,rfl⟩:=zaM.1 ht;have:=hl x hx;rw[zaf,zab this];exact hq _ (zbJ _)
def yFD(es:List yRT)(hl:es.length<=1048576):nI prg 359 [.c (.sl 2 (es.map yRT.enc))] (.c (.ow 2 (es.map yRT.enc))):=by
 refine fF rZ ?_;simp -dsimp -implicitDefEqProofs [kP,jA];omega
def ypM{t:yRT}(hs:t.small):0<=yfv t/\yfv t<=1099511627776:=by
 have:=ycH hs t.Rows.length;rw[ydD (Nat.le_refl _)]at this;have e:(t.qE.length)=(t.Rows.flatten).length:=rfl;unfold yfv;omega
def ylm{q:List yRT}(hq:∀t∈q,t.small):∀l:List Nat,(∀x∈l,x<q.length)->0<=yai q l/\yai q l<=1099511627776*l.length
 |[],_=>by simp[yai,qAt]
 | a::l,h=>by
  have ih:=ylm hq l λx hx=>h x (by simp[hx]);have h1:=h a (by simp);have h2:=ypM (hq _ (zbJ h1))
  have e:yai q (a::l)=yfv q[a]+yai q l:=by
   simp[yai,qAt,zaf,zab h1]
  rw[e,zaA]
  push_cast
  omega
def ygf(l:yR0)(q:List yRT)(n:Nat)(s:Int×List Nat)(c:Int):Int×List Nat:=
 if s.1<yai q (xF c n n)/\oO l.Length l.Width (l.yRY++qAt q (xF c n n))=true then(yai q (xF c n n),xF c n n)else s
def aS(l:yR0)(q:List yRT)(n:Nat)(top:Nat):Nat->Int×List Nat
 |0=>(0,[])
 |k+1=>ygf l q n (aS l q n top k) ((top-k:Nat):Int)
def yau(q:List yRT):Nat:=min q.length 8
def yrO(n:Nat):Nat:=2^n-1
def yC9{n:Nat}(h:n<=8):yy4 1 (n:Int)=((yrO n:Nat):Int)+1/\yrO n<=255:=by
 have:n=0\/n=1\/n=2\/n=3\/n=4\/n=5\/n=6\/n=7\/n=8:=by omega
 rcases this with rfl|rfl|rfl|rfl|rfl|rfl|rfl|rfl|rfl<;>decide
def sQ(l:yR0)(q:List yRT):List Nat:=if lF l then(aS l q (yau q) (yrO (yau q)) (yrO (yau q))).2 else[]
def ykZ{l:yR0}{q:List yRT}{n top:Nat}(hq:∀t∈q,t.small)(hn:n<=q.length)(hn8:n<=8):∀k:Nat,(0<=(aS l q n top k).1/\(aS l q n top k).1<=10000000000000)/\(∀x∈(aS l q n top k).2,x<n)/\(aS l q n top k).2.length<=8
 |0=>by simp[aS]
 | k+1=>by
  have ih:=ykZ (l:=l) (top:=top) hq hn hn8 k;unfold aS ygf;split
  .have h1:∀x∈xF ((top-k:Nat):Int) n n,x<n:=λx hx=>yb5 hx;have h2:=ylm hq _ λx hx=>zdL (h1 x hx) hn;have h3:(xF ((top-k:Nat):Int) n n).length<=n:=ym9;exact⟨⟨by simp only;omega,by simp only;omega⟩,h1,by simp only;omega⟩
  .exact ih
set_option maxRecDepth 20000 in
def ysZ(l:yR0)(q:List yRT)(hl:l.small)(hq:∀t∈q,t.small)(hql:q.length<=1000):nI prg 289 [.agg (l.enc.map .c),.c (.sl 2 (q.map yRT.enc))] (.c (.ow 1 ((sQ l q).map kC))):=by
 refine fF ypd (goQ_ ?_);refine aA (pX l hl) ?_;cases h1:lF l with
 |false=>simp -dsimp -implicitDefEqProofs;simp[sQ,h1]
 |true=>
 have h8:l.yRY.length<=8:=by
  have h1':=h1;simp only[lF,zad]at h1';rcases zaq 8 l.yRY.length with e|e
  .have:=yg8 e;rw[this]at h1';simp at h1'
  .exact e
 have hb:sQ l q=(aS l q (yau q) (yrO (yau q)) (yrO (yau q))).2:=by simp only[sQ,h1,if_true]
 rw[hb];obtain⟨n,hn⟩:∃n,yau q=n:=⟨_,rfl⟩;have hnl:n<=q.length/\n<=8:=by rw[<-hn];unfold yau;omega
 obtain⟨ht,ht2⟩:=yC9 hnl.2;rw[hn];have hmn:(if(8:Int)<(q.length:Int)then(8:Int)else(q.length:Int))=(n:Int):=by rw[<-hn];unfold yau;split<;>omega
 obtain⟨top,htop⟩:∃top,yrO n=top:=⟨_,rfl⟩;rw[htop]at ht ht2;rw[htop];have hi0:yy4 1 (n:Int)-1=((top:Nat):Int):=by omega
 refine yaed hmn hi0 ?_
 refineλhlen=>⟨by unfold inI;omega,?_⟩
 refine jX (k0:=1) 6 1 (by simp) (by simp) (by decide) ?_;refine yX2 (λk=>k<=top) (λk=>xC [(1,.c (.sl 2 (q.map yRT.enc))),(2,.box 2 0),(5,.c (.i n)),(6,.own 6 1 (aS l q n top k).2.length),(7,.c (.i (aS l q n top k).1)),(8,.c (.i ((top-k:Nat):Int)))] [(2,.box (l.enc.map .c)),(6,.row 1 ((aS l q n top k).2.map kC))]) (λk=>top-k) (by apply aB<;>simp[aS]) ?_
 rintro k hk
 obtain⟨hB1,hB2,hB3⟩:=ykZ (l:=l) (top:=top) hq hnl.1 hnl.2 k;have hsuc:aS l q n top (k+1)=ygf l q n (aS l q n top k) ((top-k:Nat):Int):=rfl;obtain⟨B,hBe⟩:∃B,aS l q n top k=B:=⟨_,rfl⟩;rw[hBe]at hB1 hB2 hB3 hsuc|-;obtain⟨c,hc⟩:∃c,top-k=c:=⟨_,rfl⟩;rw[hc]at hsuc|-;rcases zaq k top with klt|kge
 .have c0:((0:Int)<(c:Int))=True:=eq_true (by omega);have c0':(0<c)=True:=eq_true (by omega);refine yaed c0 c0' ?_;refine yX5 (yFD l.yRY hl.1) (goT_ ?_);refine jX (k0:=1) 10 1 (by simp) (by simp) (by decide) ?_;refine yX2 (λi=>i<=n) (λi=>xC [(1,.c (.sl 2 (q.map yRT.enc))),(2,.box 2 0),(5,.c (.i n)),(6,.own 6 1 B.2.length),(7,.c (.i B.1)),(8,.c (.i c)),(9,.own 28 2 (l.yRY.length+(xF c n i).length)),(10,.own 10 1 (xF c n i).length),(11,.c (.i (yai q (xF c n i)))),(12,.c (.i i))] [(2,.box (l.enc.map .c)),(6,.row 1 (B.2.map kC)),(28,.row 2 ((l.yRY++qAt q (xF c n i)).map yRT.enc)),(10,.row 1 ((xF c n i).map kC))]) (λi=>n-i) (by apply aB<;>simp[xF,qAt,yai]) ?_
  rintro i hi
  have hpl:(xF c n i).length<=i:=ym9;have hps:=yq3 (c:=c) (n:=n) (k:=i);have hql2:(qAt q (xF c n i)).length=(xF c n i).length:=by simp[qAt]
  rcases zaq i n with ilt|ige
  .obtain⟨t,htq⟩:∃t,q[i]?=some t:=⟨_,zab (by omega)⟩;have gt:=(zaa.1 htq).2;have iq:i<q.length:=by omega
   have sm:=hq t (zac htq);have i0:((i:Int)<(n:Int))=True:=eq_true (by omega);have bt:=ypM sm;have bq:=ylm hq (xF c n i) λx hx=>by have:=yb5 hx;omega
   have nneg:(0:Int)<=(n:Int)-1-i:=by omega
   refine yaff i0 ilt htq gt iq ?_;refine⟨by unfold inI;omega,by unfold inI;omega,by omega,λhbt=>?_,λhbt=>?_⟩
   .rw[if_pos (show ytJ (c:Int) n i=true from decide_eq_true hbt)]at hps;have e1:=yzt (l:=xF c n i) htq;have e2:=ygs (l:=xF c n i) htq;rw[<-hps]at e1 e2;have e3:(xF c n (i+1)).length=(xF c n i).length+1:=by rw[hps,zah,zaY]
    refine⟨by omega,by omega,by omega,?_⟩;refine yYq (yrA t sm) (goQ_ ?_);refine⟨by unfold inI;omega,by unfold inI;omega,i+1,ilt,by omega,?_⟩;have hpm:(xF c n (i+1)).map kC=(xF c n i).map kC++[[C.i i]]:=by rw[hps];simp[kC]
    have hln:l.yRY.length+(qAt q (xF c n i)).length+1=l.yRY.length+((xF c n i).length+1):=by omega
    apply aB<;>simp[e1,e2,e3,hpm,hln]
   .rw[if_neg (show¬ytJ (c:Int) n i=true fromλh=>hbt (of_decide_eq_true h))]at hps;refine⟨by unfold inI;omega,i+1,ilt,by omega,?_⟩;apply aB<;>simp[hps]
  .obtain rfl:i=n:=by omega
   refine goQ_ ?_;have hsmq:=yg0 hq (l:=xF c i i) λx hx=>by have:=yb5 hx;omega
   have hF:=yP (l.yRY++qAt q (xF c i i)) l ⟨by rw[zah];omega,λy hy=>by
    rcases zaj.1 hy with e|e
    .exact hl.2 y e
    .exact hsmq y e⟩
   rw[zaB]at hF;have hpb:=ylm hq (xF c i i) λx hx=>by have:=yb5 hx;omega
   unfold ygf at hsuc;have ek:((top-(k+1):Nat):Int)=(c:Int)-1:=by omega
   have htk:List.take (l.yRY.length+(xF c i i).length) (l.yRY.map yRT.enc++(qAt q (xF c i i)).map yRT.enc)=l.yRY.map yRT.enc++(qAt q (xF c i i)).map yRT.enc:=List.take_of_length_le (by simp[hql2]);refine⟨λhm=>?_,λhm=>?_⟩
   .have hm':=hm;refine mD (hF) (by simp -dsimp -implicitDefEqProofs [jA,htk]) rfl ?_;cases hf:oO l.Length l.Width (l.yRY++qAt q (xF c i i))with
    |true=>
     rw[if_pos ⟨hm,hf⟩]at hsuc;refine goQ_ ?_;refine⟨by unfold inI;omega,k+1,klt,by omega,?_⟩;refine yyv 6 10 ?_;apply aB<;>simp[hsuc,ek,AV.ren,AV.yzO,AV.ytG,Obj.ren,yas]
    |false=>
     rw[if_neg (by rw[hf];simp)]at hsuc;refine goQ_ ?_;refine⟨by unfold inI;omega,k+1,klt,by omega,?_⟩;apply aB<;>simp[hsuc,ek]
   .rw[if_neg (λh=>by omega)]at hsuc;refine⟨by unfold inI;omega,k+1,klt,by omega,?_⟩;apply aB<;>simp[hsuc,ek]
 .obtain rfl:k=top:=by omega
  have c0:c=0:=by omega
  subst c0;refine yafw hBe ?_;exact(List.take_of_length_le (by simp)).symm
structure SWO(lt:Nat->Nat->Bool)(S:Nat->Prop):Prop where
 asym:∀x y,S x->S y->lt x y=true->lt y x=false
 trans:∀x y z,S x->S y->S z->lt x y=true->lt y z=true->lt x z=true
 neg:∀x y z,S x->S y->S z->lt x y=false->lt y z=false->lt x z=false
def tot(lt:Nat->Nat->Bool)(x y:Nat):Prop:=lt x y=true\/(lt y x=false/\x<y)
section
variable {lt:Nat->Nat->Bool} {S:Nat->Prop}
def yk1(h:SWO lt S){x y z:Nat}(hx:S x)(hy:S y)(hz:S z)(h1:tot lt x y)(h2:tot lt y z):tot lt x z:=by
 rcases h1 with h1|⟨h1,h1'⟩<;>rcases h2 with h2|⟨h2,h2'⟩
 .exact .inl (h.trans x y z hx hy hz h1 h2)
 .left
  cases h3:lt x z with
  |true=>rfl
  |false=>rw[h.neg x z y hx hz hy h3 h2]at h1;cases h1
 .left
  cases h3:lt x z with
  |true=>rfl
  |false=>rw[h.neg y x z hy hx hz h1 h3]at h2;cases h2
 .exact .inr ⟨h.neg z y x hz hy hx h2 h1,by omega⟩
def yAa(h:SWO lt S){x y:Nat}(hx:S x)(hy:S y)(h1:tot lt x y)(h2:tot lt y x):False:=by
 rcases h1 with h1|⟨h1,h1'⟩<;>rcases h2 with h2|⟨h2,h2'⟩
 .rw[h.asym x y hx hy h1]at h2;cases h2
 .rw[h1]at h2;cases h2
 .rw[h1]at h2;cases h2
 .omega
def yE1{x y:Nat}(h:x≠y):tot lt x y\/tot lt y x:=by
 cases h1:lt x y with
 |true=>exact .inl (.inl h1)
 | false=>
  cases h2:lt y x with
  |true=>exact .inr (.inl h2)
  |false=>
   rcases zbT h with h|h
   .exact .inl (.inr ⟨h2,h⟩)
   .exact .inr (.inr ⟨h1,h⟩)
def cZ(h:SWO lt S):∀{a b:List Nat},(∀x∈a,S x)->a.Perm b->a.Pairwise (tot lt)->b.Pairwise (tot lt)->a=b
 |[],b,_,hp,_,_=>(List.nil_perm.1 hp).symm
 |x::a,[],_,hp,_,_=>by simp at hp
 | x ::a,y::b,hS,hp,ha,hb=>by
  rw[zbg]at ha hb
  have e:x=y:=by
   rcases Decidable.em (x=y)with e|e
   .exact e
   .have h1:x∈b:=by
     have:x∈y::b:=hp.mem_iff.1 (by simp);rcases zaC.1 this with h1|h1
     .exact absurd h1 e
     .exact h1
    have h2:y∈a:=by
     have:y∈x::a:=hp.mem_iff.2 (by simp);rcases zaC.1 this with h2|h2
     .exact absurd h2.symm e
     .exact h2
    exact(yAa h (hS x (by simp)) (hS y (by simp[h2])) (ha.1 y h2) (hb.1 x h1)).elim
  subst e;rw[cZ h (λz hz=>hS z (by simp[hz])) hp.cons_inv ha.2 hb.2]
def ymx(h:SWO lt S){x:Nat}(hx:S x):∀{a:List Nat},(∀y∈a,S y)->x∉a->a.Pairwise (tot lt)->∃b:List Nat,b.Perm (x::a)/\b.Pairwise (tot lt)
 |[],_,_,_=>⟨[x],.refl _,by simp⟩
 | y::a,hS,hn,ha=>by
  have hxy:x≠y:=λe=>hn (by simp[e]);rw[zbg]at ha;rcases yE1 (lt:=lt) hxy with h1|h1
  .refine⟨x::y::a,.refl _,?_⟩;rw[zbg,zbg];refine⟨λz hz=>?_,ha⟩;rcases zaC.1 hz with rfl|hz
   .exact h1
   .exact yk1 h hx (hS y (by simp)) (hS z (by simp[hz])) h1 (ha.1 z hz)
  .obtain⟨b,hb1,hb2⟩:=ymx h hx (a:=a) (λz hz=>hS z (by simp[hz])) (λe=>hn (by simp[e])) ha.2;refine⟨y::b,(hb1.cons y).trans (.swap _ _ _),?_⟩;rw[zbg];refine⟨λz hz=>?_,hb2⟩;rcases zaC.1 (hb1.mem_iff.1 hz)with rfl|hz
   .exact h1
   .exact ha.1 z hz
def yma(h:SWO lt S):∀{a:List Nat},(∀y∈a,S y)->a.Nodup->∃b:List Nat,b.Perm a/\b.Pairwise (tot lt)
 |[],_,_=>⟨[],.refl _,by simp⟩
 |x::a,hS,hn=>by
  rw[zcC]at hn;obtain⟨b,h1,h2⟩:=yma h (a:=a) (λy hy=>hS y (by simp[hy])) hn.2;obtain⟨c,h3,h4⟩:=ymx h (hS x (by simp)) (a:=b) (λy hy=>hS y (by simp[h1.mem_iff.1 hy])) (λe=>hn.1 (h1.mem_iff.1 e)) h2;exact⟨c,h3.trans (h1.cons x),h4⟩
def ypF(h:SWO lt S):∀{a:List Nat},(∀y∈a,S y)->a.Pairwise (tot lt)->a.Nodup
 |[],_,_=>by simp
 |x::a,hS,ha=>by
  rw[zbg]at ha;rw[zcC];refine⟨λe=>?_,ypF h (λy hy=>hS y (by simp[hy])) ha.2⟩;have:=ha.1 x e;exact yAa h (hS x (by simp)) (hS x (by simp)) this this
def yHo(h:SWO lt S){x:Nat}{P:List Nat}(hx:S x)(hP:∀y∈P,S y)(hlt:∀y∈P,y<x)(hs:P.Pairwise (tot lt)):(yri lt x P).Pairwise (tot lt):=by
 have e:(P.reverse.dropWhile (lt x)).reverse++(P.reverse.takeWhile (lt x)).reverse=P:=by
  rw[<-zdb,zch,zct]
 have h2:∀y∈(P.reverse.takeWhile (lt x)).reverse,lt x y=true:=λy hy=>zae.1 zdP y (zea.1 hy)
 have h1:∀l y,(P.reverse.dropWhile (lt x)).reverse=l++[y]->lt x y=false:=by
  intro l y he
  have he2:P.reverse.dropWhile (lt x)=y::l.reverse:=by
   have:=congrArg List.reverse he;simpa using this
  have:=List.head?_dropWhile_not (lt x) P.reverse;rw[he2]at this;simpa using this
 unfold yri;generalize(P.reverse.dropWhile (lt x)).reverse=l1 at *;generalize(P.reverse.takeWhile (lt x)).reverse=l2 at *;subst e;rw[zaK]at hs|-;obtain⟨s1,s2,s3⟩:=hs;refine⟨s1,?_,λa ha b hb=>?_⟩
 .rw[zbg];exact⟨λy hy=>.inl (h2 y hy),s2⟩
 .rcases zaC.1 hb with rfl|hb
  .rcases zbR l1 with e|⟨l,z,e⟩
   .subst e;cases ha
   .rw[zbS]at e;have hz:=h1 l z e;subst e;have hzx:tot lt z b:=.inr ⟨hz,hlt z (by simp)⟩;rcases zaj.1 ha with ha'|ha'
    .rw[zaK]at s1;exact yk1 h (hP a (by simp[ha'])) (hP z (by simp)) hx (s1.2.2 a ha' z (by simp)) hzx
    .rw[zan]at ha';subst ha';exact hzx
  .exact s3 a ha b hb
def yz8(h:SWO lt S){xs:List Nat}(hS:∀y∈xs,S y)(hup:xs.Pairwise (·<·)):∀i:Nat,i<=xs.length->(yeu lt xs i).Pairwise (tot lt)
 |0,_=>by simp[yeu]
 |i+1,hi=>by
  have hx:xs[i]?=some (xs[i]'(by omega)):=zab (by omega);have hp:=ylr (lt:=lt) (xs:=xs) i (by omega);rw[ydH hx];refine yHo h (hS _ (zbJ _)) (λy hy=>hS y (zas (hp.mem_iff.1 hy))) (λy hy=>?_) (yz8 h hS hup i (by omega));obtain⟨j,hj,rfl⟩:=zcf.1 (hp.mem_iff.1 hy);rw[zay]at hj;rw[zdS];exact zcu.1 hup j i _ _ (by omega)
def yna(h:SWO lt S){xs:List Nat}(hS:∀y∈xs,S y)(hup:xs.Pairwise (·<·)):(sorted lt xs).Pairwise (tot lt):=yz8 h hS hup _ (Nat.le_refl _)
end
section
variable {lt:Nat->Nat->Bool} {S:Nat->Prop} {l r:List Nat}
def ysO(h:SWO lt S){x u:Nat}{i:Nat}(sl:l.Pairwise (tot lt))(hx:x∈l.take i)(hu:l[i-1]?=some u):x=u\/tot lt x u:=by
 obtain⟨k,hk,rfl⟩:=zcf.1 hx;rw[zay]at hk;rw[zdS];obtain⟨hi,rfl⟩:=zaa.1 hu;rcases zaq k (i-1)with h1|h1
 .exact .inr (zcu.1 sl k (i-1) _ _ h1)
 .have:k=i-1:=by omega
  subst this;exact .inl rfl
def yp7(h:SWO lt S){y v:Nat}{j:Nat}(sr:r.Pairwise (tot lt))(hy:y∈r.drop j)(hv:r[j]?=some v):y=v\/tot lt v y:=by
 obtain⟨k,hk,rfl⟩:=zcf.1 hy;rw[zaJ]at hk;rw[List.getElem_drop];obtain⟨hj,rfl⟩:=zaa.1 hv;rcases zau k with h1|h1
 .subst h1;exact .inl rfl
 .exact .inr (zcu.1 sr j (j+k) _ _ (by omega))
def yxs(h:SWO lt S)(hl:∀x∈l,S x)(hr:∀x∈r,S x)(sl:l.Pairwise (tot lt))(sr:r.Pairwise (tot lt)){i j:Nat}
 (hA:i=0\/r.length<=j\/∃u v,l[i-1]?=some u/\r[j]?=some v/\tot lt u v) {x y:Nat} (hx:x∈l.take i) (hy:y∈r.drop j):tot lt x y:=by
 rcases hA with e|e|⟨u,v,hu,hv,huv⟩
 .subst e;simp at hx
 .rw[zbx e]at hy;cases hy
 .have su:=hl u (zac hu);have sv:=hr v (zac hv);have sx:=hl x (zas hx);have sy:=hr y (zaI hy)
  have h1:tot lt x v:=by
   rcases ysO h sl hx hu with e|e
   .rw[e];exact huv
   .exact yk1 h sx su sv e huv
  rcases yp7 h sr hy hv with e|e
  .rw[e];exact h1
  .exact yk1 h sx sv sy h1 e
def yGQ(h:SWO lt S)(hl:∀x∈l,S x)(hr:∀x∈r,S x)(sl:l.Pairwise (tot lt))(sr:r.Pairwise (tot lt)){i j:Nat}
 (hA:i=0\/r.length<=j\/∃u v,l[i-1]?=some u/\r[j]?=some v/\tot lt u v)
 (hB:j=0\/l.length<=i\/∃u v,r[j-1]?=some u/\l[i]?=some v/\tot lt u v):∀x∈l.take i++r.take j,∀y∈l.drop i++r.drop j,tot lt x y:=by
 have pw:∀{a:List Nat} {k:Nat},a.Pairwise (tot lt)->∀x∈a.take k,∀y∈a.drop k,tot lt x y:=by
  intro a k ha x hx y hy;rw[<-zaw k a,zaK]at ha;exact ha.2.2 x hx y hy
 intro x hx y hy;rcases zaj.1 hx with hx|hx<;>rcases zaj.1 hy with hy|hy
 .exact pw sl x hx y hy
 .exact yxs h hl hr sl sr hA hx hy
 .exact yxs h hr hl sr sl hB hx hy
 .exact pw sr x hx y hy
def halves(h:SWO lt S)(hl:∀x∈l,S x)(hr:∀x∈r,S x){i j:Nat}{o o1 o2:List Nat}(ho:o.Perm (l++r))(so:o.Pairwise (tot lt))
 (h1:o1.Perm (l.take i++r.take j)) (s1:o1.Pairwise (tot lt)) (h2:o2.Perm (l.drop i++r.drop j)) (s2:o2.Pairwise (tot lt))
 (hc:∀x∈l.take i++r.take j,∀y∈l.drop i++r.drop j,tot lt x y):o=o1++o2:=by
 have hp:(o1++o2).Perm (l++r):=by
  refine(h1.append h2).trans ?_
  have e:(l.take i++r.take j++(l.drop i++r.drop j)).Perm (l.take i++l.drop i++(r.take j++r.drop j)):=by
   rw[zaW,zaW];refine .append_left _ ?_;rw[<-zaW,<-zaW];exact .append_right _ zcQ
  rw[zaw,zaw]at e;exact e
 refine cZ h (λx hx=>?_) (ho.trans hp.symm) so ?_
 .rcases zaj.1 (ho.mem_iff.1 hx)with hx|hx
  .exact hl x hx
  .exact hr x hx
 .rw[zaK];exact⟨s1,s2,λx hx y hy=>hc x (h1.mem_iff.1 hx) y (h2.mem_iff.1 hy)⟩
def yCn{x y:Nat}(h:x<y)(h1:lt y x=false):tot lt x y:=by
 cases h2:lt x y with
 |true=>exact .inl h2
 |false=>exact .inr ⟨h1,h⟩
def yAY(h:SWO lt S)(hl:∀x∈l,S x)(hr:∀x∈r,S x)(sl:l.Pairwise (tot lt))(sr:r.Pairwise (tot lt))(hc:∀x∈l,∀y∈r,x<y):(l++r).Nodup:=by
 rw[zbb];refine⟨ypF h hl sl,ypF h hr sr,λx hx y hy e=>?_⟩;have:=hc x hx y hy;omega
end
def yx4{P R Q:List Nat}{x y:Nat}{i j:Nat}(hi:i=P.length)(hj:j=P.length+1+R.length):(P++x::(R++y::Q))[i]?=some x/\(P++x::(R++y::Q))[j]?=some y/\
 ((P++x::(R++y::Q)).set i y).set j x=P++y::(R++x::Q):=by
 subst hi hj;refine⟨by simp[zcg],?_,?_⟩
 .rw[zax (by omega),show P.length+1+R.length-P.length=R.length+1 by omega,zdp,zax (by omega)];simp
 .rw[zcB,if_neg (by omega),zca,zbD,zcB,if_neg (by omega),show P.length+1+R.length-P.length=R.length+1 by omega,zcA,zcB,if_neg (by omega),zca,zbD]
def yr9{A l B:List Nat}{t k:Nat}(hk:k=A.length+t)(h:t<l.length):(A++(l++B))[k]?=l[t]?:=by
 subst hk;rw[zax (by omega),zck,zaT h]
def set_mid{A l B:List Nat}{t k v:Nat}(hk:k=A.length+t)(h:t<l.length):(A++(l++B)).set k v=A++(l.set t v++B):=by
 subst hk;rw[zbP _ _ (by omega),zck,List.set_append_left _ _ h]
def pM(A l B:List Nat):List Nat:=A++(l++B)
def yc{A l B:List Nat}:(pM A l B).length=A.length+l.length+B.length:=by simp[pM];omega
def yJ3{A B xs l l2:List Nat}{t x y q j m:Nat}(hq:q=A.length)(hj:j=q+l.length+1)(hm:m=q+l.length):
 (pM A (gM xs (l++[y]) l2 x t) B)[j]?=some x/\(pM A (gM xs (l++[y]) l2 x t) B)[m]?=some y/\
 ((pM A (gM xs (l++[y]) l2 x t) B).set j y).set m x=pM A (gM xs l (y::l2) x t) B:=by
 unfold pM;obtain⟨w1,w2,w3⟩:=yKv (xs:=xs) (i:=t) (x:=x) (y:=y) (l:=l) (l2:=l2);have k1:=(zaa.1 w1).1;have k2:=(zaa.1 w2).1;refine⟨by rw[yr9 (t:=l.length+1) (by omega) k1];exact w1,by rw[yr9 (t:=l.length) (by omega) k2];exact w2,?_⟩;rw[set_mid (t:=l.length+1) (by omega) k1,set_mid (t:=l.length) (by omega) (by simpa using k2),w3]
section
variable {lt:Nat->Nat->Bool} {S:Nat->Prop} {l r:List Nat}
def yLa(h:SWO lt S)(hr:∀x∈r,S x){x y:Nat}{k:Nat}(hx:S x)(sr:r.Pairwise (tot lt))(hy:r[k]?=some y)(hl:lt y x=true):∀u∈r.take (k+1),lt u x=true:=by
 intro u hu;have hy0:=hr y (zac hy);have hu0:=hr u (zas hu);rcases ysO (i:=k+1) h sr hu (by simpa using hy)with e|e
 .rw[e];exact hl
 .cases h1 :lt u x with
  |true=>rfl
  |false=>
   cases h2:lt y u with
   | true=>rcases e with e|e
           .rw[h.asym u y hu0 hy0 e]at h2;cases h2
           .rw[e.1]at h2;cases h2
   |false=>rw[h.neg y u x hy0 hu0 hx h2 h1]at hl;cases hl
def yIv(h:SWO lt S)(hr:∀x∈r,S x){x y:Nat}{k:Nat}(hx:S x)(sr:r.Pairwise (tot lt))(hy:r[k]?=some y)(hl:lt y x=false):∀u∈r.drop k,lt u x=false:=by
 intro u hu;have hy0:=hr y (zac hy);have hu0:=hr u (zaI hu);rcases yp7 h sr hu hy with e|e
 .rw[e];exact hl
 .have h3:lt u y=false:=by
   rcases e with e|e
   .exact h.asym y u hy0 hu0 e
   .exact e.1
  exact h.neg u y x hu0 hy0 hx h3 hl
def yH4(h:SWO lt S)(hr:∀x∈r,S x){x y:Nat}{k:Nat}(hx:S x)(sr:r.Pairwise (tot lt))(hy:r[k]?=some y)(hl:lt x y=false):∀u∈r.take (k+1),lt x u=false:=by
 intro u hu;have hy0:=hr y (zac hy);have hu0:=hr u (zas hu);rcases ysO (i:=k+1) h sr hu (by simpa using hy)with e|e
 .rw[e];exact hl
 .have h3:lt y u=false:=by
   rcases e with e|e
   .exact h.asym u y hu0 hy0 e
   .exact e.1
  exact h.neg x y u hx hy0 hu0 hl h3
def yFw(h:SWO lt S)(hr:∀x∈r,S x){x y:Nat}{k:Nat}(hx:S x)(sr:r.Pairwise (tot lt))(hy:r[k]?=some y)(hl:lt x y=true):∀u∈r.drop k,lt x u=true:=by
 intro u hu;have hy0:=hr y (zac hy);have hu0:=hr u (zaI hu);rcases yp7 h sr hu hy with e|e
 .rw[e];exact hl
 .cases h1:lt x u with
  |true=>rfl
  | false=>
   have h3:lt u y=false:=by
    rcases e with e|e
    .exact h.asym y u hy0 hu0 e
    .exact e.1
   rw[h.neg x u y hx hu0 hy0 h1 h3]at hl;cases hl
def yHr(h:SWO lt S)(hr:∀x∈r,S x){x:Nat}{k:Nat}{o:List Nat}(hx:S x)(sr:r.Pairwise (tot lt))(hlt:∀u∈r,x<u)(h1:∀u∈r.take k,lt u x=true)(h2:∀u∈r.drop k,lt u x=false)
 (po:o.Perm ([x]++r)) (so:o.Pairwise (tot lt)):o=r.take k++x::r.drop k:=by
 have hp:(r.take k++x::r.drop k).Perm ([x]++r):=by
  refine List.perm_middle.trans ?_;rw[zaw];exact .refl _
 refine cZ h (S:=S) (λu hu=>?_) (po.trans hp.symm) so ?_
 .rcases zaj.1 (po.mem_iff.1 hu)with hu|hu
  .simp at hu;subst hu;exact hx
  .exact hr u hu
 .rw[<-zaw k r,zaK]at sr;rw[zaK,zbg];refine⟨sr.1,⟨λu hu=>yCn (hlt u (zaI hu)) (h2 u hu),sr.2.1⟩,λu hu v hv=>?_⟩;rcases zaC.1 hv with rfl|hv
  .exact .inl (h1 u hu)
  .exact sr.2.2 u hu v hv
def yD0(h:SWO lt S)(hl:∀x∈l,S x){y:Nat}{k:Nat}{o:List Nat}(hy:S y)(sl:l.Pairwise (tot lt))(hlt:∀u∈l,u<y)(h1:∀u∈l.take k,lt y u=false)(h2:∀u∈l.drop k,lt y u=true)
 (po:o.Perm (l++[y])) (so:o.Pairwise (tot lt)):o=l.take k++y::l.drop k:=by
 have hp:(l.take k++y::l.drop k).Perm (l++[y]):=by
  refine List.perm_middle.trans ?_;rw[zaw];exact(zcQ (l₁:=[y]) (l₂:=l))
 refine cZ h (S:=S) (λu hu=>?_) (po.trans hp.symm) so ?_
 .rcases zaj.1 (po.mem_iff.1 hu)with hu|hu
  .exact hl u hu
  .simp at hu;subst hu;exact hy
 .rw[<-zaw k l,zaK]at sl;rw[zaK,zbg];refine⟨sl.1,⟨λu hu=>.inl (h2 u hu),sl.2.1⟩,λu hu v hv=>?_⟩;rcases zaC.1 hv with rfl|hv
  .exact yCn (hlt u (zas hu)) (h1 u hu)
  .exact sl.2.2 u hu v hv
end
def yvh(cmp:Nat→Nat→Int)(A xs B M0 M1:List Nat)(hM0:M0=pM A xs B)(hM1:M1=pM A (sorted (fE cmp) xs) B)(q e N:Nat)(hq:q=A.length)(he:e=q+xs.length)(hN:N=M0.length)(hn:1≤N)(hn2:N≤1048576)(f:Nat)(a b:List C)(hf:∃fn,Tryz.prog.funcs[f]?=some fn∧fn.body.isSome=true∧(fn.name != "runtime.NumGoroutine")=true)
 (hc:∀x y:Nat,x∈xs->y∈xs->qB prg f [.c (.i x),.c (.i y),.elt a,.elt b] (.c (.i (cmp x y)))):
 InF prg 377 (.c (cw 1 (M0.map kC))) (.c (cw 1 (M1.map kC))) [.c (.i q),.c (.i e),.fn f [.elt a,.elt b]] (.tup []):=by
 have hpl:(sorted (fE cmp) xs).length=xs.length:=sorted_perm.length_eq;have hL:M1.length=N:=by rw[hN,hM0,hM1,yc,yc,hpl]
 have hN2:q+xs.length+B.length=N:=by rw[hN,hM0,yc];omega
 rw[kH (by rw[zam];omega),kH (by rw[zam,hL];omega)];refine aK dM (by simp) (by simp) rfl λhwf=>?_
 have hg1:gO (fE cmp) xs 1=xs\/xs.length=0:=by
  rcases zau xs.length with h|h
  .exact .inr h
  .exact .inl (yJ4 h)
 have hg2:gO (fE cmp) xs 1=xs:=by
  rcases hg1 with h|h
  .exact h
  .rw[zav]at h;subst h;rfl
 have hg3:xs.length=0->sorted (fE cmp) xs=xs:=λh=>by rw[zav]at h;subst h;rfl
 refine goQ_ ?_;refine⟨by unfold inI;omega,?_⟩;refine qA (ι:=Nat) (λi=>q+1<=i/\(i<=e\/i=q+1)) (λi=>xC [(0,.own 0 1 N),(1,.c (.i q)),(2,.c (.i e)),(3,.fn f [.elt a,.elt b]),(8,.c (.i i)),(1000000,.own 0 1 N)] [(0,.row 1 ((pM A (gO (fE cmp) xs (i-q)) B).map kC))]) (λi=>e-i) (q+1) ⟨Nat.le_refl _,.inr rfl⟩ (by apply aB<;>simp[hg2,hN,hM0]) ?_
 rintro i ⟨hi1,hi⟩
 rcases zaq i e with hlt|hge
 .obtain⟨t,ht⟩:∃t,t=i-q:=⟨_,rfl⟩;rw[<-ht];have hop:=ylr (lt:=fE cmp) (xs:=xs) t (by omega);have hol:(yeu (fE cmp) xs t).length=t:=by rw[hop.length_eq,zay];omega
  have hom:∀y∈yeu (fE cmp) xs t,y∈xs:=λy hy=>zas (hop.mem_iff.1 hy);obtain⟨x,hx⟩:∃x,xs[t]?=some x:=⟨_,zab (by omega)⟩;have hxm:=zac hx;have ht1:i+1-q=t+1:=by omega
  refine yafw (fC hlt) ?_;rw[gO_go hx];generalize hP:yeu (fE cmp) xs t=P at *;refine qA (ι:=Nat×List Nat×List Nat) (λp=>p.1=q+p.2.1.length/\p.2.1++p.2.2=P/\∀y∈p.2.2,fE cmp x y=true) (λp=>xC [(0,.own 0 1 N),(1,.c (.i q)),(2,.c (.i e)),(3,.fn f [.elt a,.elt b]),(8,.c (.i i)),(9,.c (.i p.1)),(1000000,.own 0 1 N)] [(0,.row 1 ((pM A (gM xs p.2.1 p.2.2 x t) B).map kC))]) (λp=>p.1) (i,P,[]) ⟨by simp only;omega,by simp,by simp⟩ (by apply aB<;>simp) ?_
  rintro⟨j,l1,l2⟩ ⟨hj,he2,h2⟩
  simp only at hj he2 h2;rcases zbR l1 with e0|⟨l,y,e0⟩
  .subst e0;have hins:=yyn (lt:=fE cmp) (x:=x) he2 h2 (λl y h=>by simp at h);have hend:=yGs (lt:=fE cmp) hx (by rw[hP];exact hins);have hjq:j=q:=by simpa using hj
   subst hjq;refine goQ_ ?_;refine⟨by unfold inI;omega,i+1,⟨by omega,by omega⟩,by omega,?_⟩;apply aB<;>simp[hend,ht1]
  .rw[zbS]at e0;subst e0;have hyP:y∈xs:=hom y (by rw[<-he2];simp);have hj2:j=q+l.length+1:=by rw[hj];simp;omega
   obtain⟨m,hm⟩:∃m,m=q+l.length:=⟨_,rfl⟩;obtain⟨w1,w2,w3⟩:=yJ3 (A:=A) (B:=B) (xs:=xs) (t:=t) (x:=x) (y:=y) (l:=l) (l2:=l2) hq hj2 hm;have hend:=λh=>yGs (lt:=fE cmp) (l1:=l++[y]) (l2:=l2) hx (by rw[hP];exact yyn (lt:=fE cmp) (x:=x) he2 h2 h)
   have hlen:(pM A (gM xs (l++[y]) l2 x t) B).length=N:=by
    have:=yMp (x:=x) (xs:=xs) (l1:=l++[y]) (l2:=l2) (i:=t) (by rw[<-zah,he2,hol]) (by omega);rw[yc,this];omega
   have hll:j<N:=by rw[<-hlen];exact(zaa.1 w1).1
   have hMe:(∀l' y',l++[y]=l'++[y']->fE cmp x y'=false)->pM A (gM xs (l++[y]) l2 x t) B=pM A (gO (fE cmp) xs (t+1)) B:=λh=>by rw[hend h]
   clear hend;generalize pM A (gM xs (l++[y]) l2 x t) B=M at *;have v1:=(zaa.1 w1).2;have v2:=(zaa.1 w2).2;have k1:j<M.length:=(zaa.1 w1).1;have k2:m<M.length:=(zaa.1 w2).1;have ej:((j:Int)-1)=(m:Int):=by omega
   have j0:((q:Int)<(j:Int))=True:=by simp;omega
   have j0':(q<j)=True:=by simp;omega
   have mn:m<N:=by omega
   have hf':∃fn,Tryz.prog.funcs[f]?=some fn∧fn.body.isSome=true∧¬fn.name= "runtime.NumGoroutine":=by simpa using hf
   simp -dsimp -implicitDefEqProofs [j0,j0',ej,w1,w2,v1,v2,k1,k2,kC,hll,mn];refine⟨by unfold inI;omega,hf',?_⟩;refine lC (hc x y hxm hyP) ?_;have hr2:∀h,((M.map kC).set j [C.i y])[m]'h=[C.i y]:=by intro h;rw[zbM (by omega)];simp[v2,kC]
   have hs3:((M.map kC).set j [C.i y]).set m [C.i x]=(pM A (gM xs l (y::l2) x t) B).map kC:=by rw[<-w3,zaP,zaP];rfl
   simp -dsimp -implicitDefEqProofs [ej,w1,w2,v1,v2,k1,k2,hll,mn,hr2,hs3];refine⟨λhcm=>?_,λhcm=>?_⟩
   .refine⟨by unfold inI;omega,m,l,y::l2,⟨hm,by rw[<-he2];simp,λz hz=>?_⟩,by omega,?_⟩
    .rcases zaC.1 hz with hz|hz
     .subst hz;simp[fE];omega
     .exact h2 z hz
    .apply aB<;>simp[kC,w1,w2,v1,v2,hr2,hs3]
   .have hM:=hMe λl' y' h=>by
     have:=(zdz h rfl).2;simp at this;subst this;simp[fE];omega
    refine⟨by unfold inI;omega,i+1,⟨by omega,by omega⟩,by omega,?_⟩;apply aB<;>simp[hM,ht1]
 .have hfin:gO (fE cmp) xs (i-q)=sorted (fE cmp) xs:=by
   rcases zau xs.length with h|h
   .rw[hg3 h];rw[show i-q=1 by omega,hg2]
   .rw[show i-q=xs.length by omega,yLn]
  refine yafw (aG hge) ?_;rw[hfin,<-hM1];refine⟨by rw[List.take_of_length_le (by rw[zam,hL];exact Nat.le_refl _)],?_⟩;simp[ybG]
def yhS(P X R Y Q:List Nat)(i:Nat):List Nat:=P++((Y.take i++X.drop i)++(R++((X.take i++Y.drop i)++Q)))
def ysV{P X R Y Q:List Nat}{i n:Nat}(hX:X.length=n)(hY:Y.length=n)(hi:i<=n):(yhS P X R Y Q i).length=P.length+n+R.length+n+Q.length:=by
 simp[yhS];omega
def yEe{P X R Y Q:List Nat}{i n x y p q:Nat}(hX:X.length=n)(hY:Y.length=n)(hx:X[i]?=some x)(hy:Y[i]?=some y)(hp:p=P.length+i)(hq:q=P.length+n+R.length+i):
 (yhS P X R Y Q i)[p]?=some x/\(yhS P X R Y Q i)[q]?=some y/\((yhS P X R Y Q i).set p y).set q x=yhS P X R Y Q (i+1):=by
 have i1:=(zaa.1 hx).1;have i2:=(zaa.1 hy).1;have d1:X.drop i=x::X.drop (i+1):=by rw[zaD i1,(zaa.1 hx).2]
 have d2:Y.drop i=y::Y.drop (i+1):=by rw[zaD i2,(zaa.1 hy).2]
 have t1:X.take (i+1)=X.take i++[x]:=by rw[zao,hx];rfl
 have t2:Y.take (i+1)=Y.take i++[y]:=by rw[zao,hy];rfl
 have e1:yhS P X R Y Q i=(P++Y.take i)++x::((X.drop (i+1)++(R++X.take i))++y::(Y.drop (i+1)++Q)):=by
  unfold yhS;rw[d1,d2];simp
 have e2:yhS P X R Y Q (i+1)=(P++Y.take i)++y::((X.drop (i+1)++(R++X.take i))++x::(Y.drop (i+1)++Q)):=by
  unfold yhS;rw[t1,t2];simp
 rw[e1,e2];exact yx4 (by simp;omega) (by simp;omega)
def yCA{P X R Y Q:List Nat}:yhS P X R Y Q 0=P++(X++(R++(Y++Q))):=by simp[yhS]
def yBK{P X R Y Q:List Nat}{n:Nat}(hX:X.length=n)(hY:Y.length=n):yhS P X R Y Q n=P++(Y++(R++(X++Q))):=by
 unfold yhS;rw[show X.drop n=[]from zbx (by omega),show X.take n=X from List.take_of_length_le (by omega),show Y.drop n=[]from zbx (by omega),show Y.take n=Y from List.take_of_length_le (by omega)];simp
def yy9(P X R Y Q M0 M1:List Nat)(p q n N:Nat)(hM0:M0=yhS P X R Y Q 0)(hM1:M1=yhS P X R Y Q n)(hX:X.length=n)(hY:Y.length=n)(hp:p=P.length)(hq:q=P.length+n+R.length)(hN:N=M0.length)(hn:1<=N)(hn2:N<=1048576)(f:Nat)(a b:List C):
 InF prg 382 (.c (cw 1 (M0.map kC))) (.c (cw 1 (M1.map kC))) [.c (.i p),.c (.i q),.c (.i n),.fn f [.elt a,.elt b]] (.tup []):=by
 have hN2:P.length+n+R.length+n+Q.length=N:=by rw[hN,hM0,ysV hX hY (zbA _)]
 have hL:M1.length=N:=by rw[hM1,ysV hX hY (Nat.le_refl _)];omega
 rw[kH (by rw[zam];omega),kH (by rw[zam,hL];omega)];refine aK ybL (by simp) (by simp) rfl λhwf=>?_;refine goQ_ ?_;refine qA (ι:=Nat) (λi=>i<=n) (λi=>xC [(0,.own 0 1 N),(1,.c (.i p)),(2,.c (.i q)),(3,.c (.i n)),(10,.c (.i i)),(1000000,.own 0 1 N)] [(0,.row 1 ((yhS P X R Y Q i).map kC))]) (λi=>n-i) 0 (zbA _) (by apply aB<;>simp[hN,hM0]) ?_
 rintro i hi
 rcases zaq i n with hlt|hge
 .obtain⟨x,hx⟩:∃x,X[i]?=some x:=⟨_,zab (by omega)⟩;obtain⟨y,hy⟩:∃y,Y[i]?=some y:=⟨_,zab (by omega)⟩;obtain⟨m,hm⟩:∃m,m=P.length+i:=⟨_,rfl⟩;obtain⟨j,hj⟩:∃j,j=P.length+n+R.length+i:=⟨_,rfl⟩;obtain⟨w1,w2,w3⟩:=yEe (P:=P) (R:=R) (Q:=Q) hX hY hx hy hm hj;have hlen:=ysV (P:=P) (R:=R) (Q:=Q) hX hY hi;generalize yhS P X R Y Q i=M at *;have v1:=(zaa.1 w1).2;have v2:=(zaa.1 w2).2;have k1:m<M.length:=(zaa.1 w1).1;have k2:j<M.length:=(zaa.1 w2).1;have em:((p:Int)+i)=(m:Int):=by omega
  have ej:((q:Int)+i)=(j:Int):=by omega
  have n1:m<N:=by omega
  have n2:j<N:=by omega
  have hr2:∀h,((M.map kC).set m [C.i y])[j]'h=[C.i y]:=by intro h;rw[zbM (by omega)];simp[v2,kC]
  have hs3:((M.map kC).set m [C.i y]).set j [C.i x]=(yhS P X R Y Q (i+1)).map kC:=by rw[<-w3,zaP,zaP];rfl
  simp -dsimp -implicitDefEqProofs [em,ej,fC hlt,w1,w2,v1,v2,k1,k2,kC,n1,n2,hr2,hs3];refine⟨by unfold inI;omega,by unfold inI;omega,by unfold inI;omega,by unfold inI;omega,i+1,hlt,by omega,?_⟩;apply aB<;>simp[hs3]
 .have:i=n:=by omega
  subst this;refine goQ_ ?_;rw[<-hM1];refine⟨by rw[List.take_of_length_le (by rw[zam,hL];exact Nat.le_refl _)],?_⟩;simp[ybG]
def gQ(P U V Q:List Nat):List Nat:=P++(U++(V++Q))
def bU{P U V Q:List Nat}:(gQ P U V Q).length=P.length+U.length+V.length+Q.length:=by simp[gQ];omega
def yLS(P0 U0 V0 Q0 M0 M1:List Nat)(hM0:M0=gQ P0 U0 V0 Q0)(hM1:M1=gQ P0 V0 U0 Q0)(p m b N:Nat)(hU0:1<=U0.length)(hV0:1<=V0.length)(hp:p=P0.length)(hm:m=p+U0.length)(hb:b=m+V0.length)(hN:N=M0.length)(hn2:N<=1048576)(f:Nat)(ca cb:List C):
 InF prg 381 (.c (cw 1 (M0.map kC))) (.c (cw 1 (M1.map kC))) [.c (.i p),.c (.i m),.c (.i b),.fn f [.elt ca,.elt cb]] (.tup []):=by
 have hN2:P0.length+U0.length+V0.length+Q0.length=N:=by rw[hN,hM0,bU]
 have hL:M1.length=N:=by rw[hM1,bU];omega
 rw[kH (by rw[zam];omega),kH (by rw[zam,hL];omega)];refine aK ydC (by simp) (by simp) rfl λhwf=>?_;refine goQ_ ?_;have e1:((m:Int)-p)=((U0.length:Nat):Int):=by omega
 have e2:((b:Int)-m)=((V0.length:Nat):Int):=by omega
 rw[e1,e2];refine⟨by unfold inI;omega,by unfold inI;omega,?_⟩
 refine qA (ι:=(Nat×Nat)×(List Nat×List Nat×List Nat×List Nat)) (λz=>z.1.1=z.2.2.1.length/\z.1.2=z.2.2.2.1.length/\1<=z.1.1/\1<=z.1.2/\m=z.2.1.length+z.1.1/\gQ z.2.1 z.2.2.2.1 z.2.2.1 z.2.2.2.2=M1)
  (λz=>xC [(0,.own 0 1 N),(2,.c (.i m)),(4,.fn f [.elt ca,.elt cb]),(10,.c (.i z.1.1)),(11,.c (.i z.1.2)),(1000000,.own 0 1 N)] [(0,.row 1 ((gQ z.2.1 z.2.2.1 z.2.2.2.1 z.2.2.2.2).map kC))]) (λz=>z.1.1+z.1.2) ((U0.length,V0.length),(P0,U0,V0,Q0)) ⟨rfl,rfl,hU0,hV0,by simp only;omega,hM1.symm⟩ (by apply aB<;>simp[hM0,bU,hN2]) ?_
 rintro⟨⟨i,j⟩,P,U,V,Q⟩ ⟨hU,hV,hi,hj,hmm,hT⟩
 simp only at hU hV hi hj hmm hT
 have hTl:P.length+U.length+V.length+Q.length=N:=by
  have:=congrArg List.length hT;rw[hL,bU]at this;omega
 have em:((m:Int)-i)=((P.length:Nat):Int):=by omega
 rcases zcs i j with h|h|h
 ·-- the left part is the shorter one
  obtain⟨Va,Vb,hVe,hVb⟩:∃Va Vb,V=Va++Vb/\Vb.length=i:=⟨V.take (j-i),V.drop (j-i),(zaw _ _).symm,by simp;omega⟩;subst hVe;have hVa:Va.length=j-i:=by simp at hV;omega
  have g1:(gQ P U (Va++Vb) Q).length=N:=by rw[bU];omega
  have g2:(gQ P Vb Va (U++Q)).length=N:=by rw[bU];simp;simp at hTl;omega
  have hs:=yy9 P U Va Vb Q (gQ P U (Va++Vb) Q) (gQ P Vb Va (U++Q)) P.length (m+j-i) i N (by rw[yCA];simp[gQ]) (by rw[yBK hU.symm hVb];simp[gQ]) hU.symm hVb rfl (by omega) g1.symm (by omega) hn2 f ca cb;have q1:((i:Int)=(j:Int))=False:=by simp;omega
  have q1':(i=j)=False:=by simp;omega
  have q2:((j:Int)<(i:Int))=False:=by simp;omega
  have q2':(j<i)=False:=by simp;omega
  have q3:((m:Int)+j-i)=((m+j-i:Nat):Int):=by omega
  have q4:((j:Int)-i)=((j-i:Nat):Int):=by omega
  refine yafq q1 q1' q2 q2' em q3 ?_;refine⟨by unfold inI;omega,by unfold inI;omega,by unfold inI;omega,?_⟩;refine tH (up:=some (0,.row 1 ((gQ P Vb Va (U++Q)).map kC))) hs (by simp) rfl rfl (qH (rows:=(gQ P U (Va++Vb) Q).map kC) (by simp) rfl rfl (by simp[g1]) (by simp[g1,g2]) rfl rfl) (yafw q4 ?_);refine⟨by unfold inI;omega,i,j-i,P,Vb,Va,U++Q,⟨hVb.symm,hVa.symm,hi,by omega,hmm,by rw[<-hT];simp[gQ]⟩,by omega,?_⟩;apply aB<;>simp
 .have g1:(gQ P U V Q).length=N:=by rw[bU];omega
  have g2:(gQ P V U Q).length=N:=by rw[bU];omega
  have hs:=yy9 P U [] V Q (gQ P U V Q) (gQ P V U Q) P.length m i N (by rw[yCA];simp[gQ]) (by rw[yBK hU.symm (by omega)];simp[gQ]) hU.symm (by omega) rfl (by simp;omega) g1.symm (by omega) hn2 f ca cb;subst h;refine yafw em ?_;refine⟨by unfold inI;omega,?_⟩;refine tH (up:=some (0,.row 1 ((gQ P V U Q).map kC))) hs (by simp) rfl rfl (qH (rows:=(gQ P U V Q).map kC) (by simp) rfl rfl (by simp[g1]) (by simp[g1,g2]) rfl rfl) (goQ_ ?_);rw[hT];refine⟨by rw[List.take_of_length_le (by rw[zam,hL];exact Nat.le_refl _)],?_⟩;simp[ybG]
 .obtain⟨Ua,Ub,hUe,hUa⟩:∃Ua Ub,U=Ua++Ub/\Ua.length=j:=⟨U.take j,U.drop j,(zaw _ _).symm,by simp;omega⟩;subst hUe;have hUb:Ub.length=i-j:=by simp at hU;omega
  have g1:(gQ P (Ua++Ub) V Q).length=N:=by rw[bU];omega
  have g2:(gQ (P++V) Ub Ua Q).length=N:=by rw[bU];simp;simp at hTl;omega
  have hs:=yy9 P Ua Ub V Q (gQ P (Ua++Ub) V Q) (gQ (P++V) Ub Ua Q) P.length m j N (by rw[yCA];simp[gQ]) (by rw[yBK hUa hV.symm];simp[gQ]) hUa hV.symm rfl (by omega) g1.symm (by omega) hn2 f ca cb;have q1:((i:Int)=(j:Int))=False:=by simp;omega
  have q1':(i=j)=False:=by simp;omega
  have q2:((j:Int)<(i:Int))=True:=by simp;omega
  have q2':(j<i)=True:=by simp;omega
  have q4:((i:Int)-j)=((i-j:Nat):Int):=by omega
  refine yaff q1 q1' q2 q2' em ?_;refine⟨by unfold inI;omega,?_⟩;refine tH (up:=some (0,.row 1 ((gQ (P++V) Ub Ua Q).map kC))) hs (by simp) rfl rfl (qH (rows:=(gQ P (Ua++Ub) V Q).map kC) (by simp) rfl rfl (by simp[g1]) (by simp[g1,g2]) rfl rfl) (yafw q4 ?_);refine⟨by unfold inI;omega,i-j,j,P++V,Ub,Ua,Q,⟨hUb.symm,hUa.symm,by omega,hj,by simp;omega,by rw[<-hT];simp[gQ]⟩,by omega,?_⟩;apply aB<;>simp
structure MG(lt:Nat->Nat->Bool)(S:Nat->Prop)(A l r B o M0 M1:List Nat)(a m b N:Nat):Prop where
 pl:1<=l.length
 pr:1<=r.length
 sl:∀x∈l,S x
 sr:∀x∈r,S x
 ol:l.Pairwise (tot lt)
 or:r.Pairwise (tot lt)
 cr:∀x∈l,∀y∈r,x<y
 po:o.Perm (l++r)
 oo:o.Pairwise (tot lt)
 ha:a=A.length
 hm:m=a+l.length
 hb:b=m+r.length
 h0:M0=gQ A l r B
 h1:M1=pM A o B
 hN:N=M0.length
 hn:N<=1048576
def MG.len1{lt:Nat->Nat->Bool}{S:Nat->Prop}{A l r B o M0 M1:List Nat}{a m b N:Nat}(g:MG lt S A l r B o M0 M1 a m b N):M1.length=N/\1<=N/\b<=N:=by
 have h1:=g.po.length_eq;have h2:=g.hN;have h3:=g.pl;have h4:=g.hb;have h5:=g.hm;have h6:=g.ha;rw[g.h0,bU]at h2;rw[g.h1,yc,h1,zah];omega
def ysg{i j:Nat}:((i:Int)+j).toNat/2=(i+j)/2:=by congr 1
def yui{A l r B:List Nat}{k t:Nat}(hk:k=A.length+t)(h:t<l.length):(gQ A l r B)[k]?=l[t]?:=by
 unfold gQ;exact yr9 hk h
def yt7{A l r B:List Nat}{k t:Nat}(hk:k=A.length+l.length+t)(h:t<r.length):(gQ A l r B)[k]?=r[t]?:=by
 unfold gQ;rw[<-zaW];exact yr9 (by rw[zah];exact hk) h
def swp_right{A r B:List Nat}{x y k t:Nat}(hy:r[t]?=some y)(hk:k=A.length+t):
 (pM A (r.take t++x::r.drop t) B)[k]?=some x/\(pM A (r.take t++x::r.drop t) B)[k+1]?=some y/\
 ((pM A (r.take t++x::r.drop t) B).set k y).set (k+1) x=pM A (r.take (t+1)++x::r.drop (t+1)) B:=by
 have i1:=(zaa.1 hy).1;have d1:r.drop t=y::r.drop (t+1):=by rw[zaD i1,(zaa.1 hy).2]
 have t1:r.take (t+1)=r.take t++[y]:=by rw[zao,hy];rfl
 have e1:pM A (r.take t++x::r.drop t) B=(A++r.take t)++x::([]++y::(r.drop (t+1)++B)):=by unfold pM;rw[d1];simp
 have e2:pM A (r.take (t+1)++x::r.drop (t+1)) B=(A++r.take t)++y::([]++x::(r.drop (t+1)++B)):=by unfold pM;rw[t1];simp
 rw[e1,e2];exact yx4 (by simp;omega) (by simp;omega)
def swp_left{A l B:List Nat}{y u k t:Nat}(hu:l[t]?=some u)(hk:k=A.length+t):
 (pM A (l.take (t+1)++y::l.drop (t+1)) B)[k+1]?=some y/\(pM A (l.take (t+1)++y::l.drop (t+1)) B)[k]?=some u/\
 ((pM A (l.take (t+1)++y::l.drop (t+1)) B).set (k+1) u).set k y=pM A (l.take t++y::l.drop t) B:=by
 have i1:=(zaa.1 hu).1;have d1:l.drop t=u::l.drop (t+1):=by rw[zaD i1,(zaa.1 hu).2]
 have t1:l.take (t+1)=l.take t++[u]:=by rw[zao,hu];rfl
 have e1:pM A (l.take (t+1)++y::l.drop (t+1)) B=(A++l.take t)++u::([]++y::(l.drop (t+1)++B)):=by unfold pM;rw[t1];simp
 have e2:pM A (l.take t++y::l.drop t) B=(A++l.take t)++y::([]++u::(l.drop (t+1)++B)):=by unfold pM;rw[d1];simp
 rw[e1,e2];obtain⟨a1,a2,a3⟩:=yx4 (P:=A++l.take t) (R:=[]) (Q:=l.drop (t+1)++B) (x:=u) (y:=y) (i:=k) (j:=k+1) (by simp;omega) (by simp;omega);exact⟨a2,a1,by rw[List.set_comm _ _ (by omega)];exact a3⟩
section
variable {cmp:Nat->Nat->Int} {S:Nat->Prop} {f:Nat} {ca cb:List C}
def yFc(h:SWO (fE cmp) S)(hf:∃fn,Tryz.prog.funcs[f]?=some fn∧fn.body.isSome=true∧(fn.name != "runtime.NumGoroutine")=true)
 (hc:∀x y:Nat,S x->S y->qB prg f [.c (.i x),.c (.i y),.elt ca,.elt cb] (.c (.i (cmp x y)))) {A r B o M0 M1:List Nat} {a m b N x:Nat} (g:MG (fE cmp) S A [x] r B o M0 M1 a m b N):
 InF prg 378 (.c (cw 1 (M0.map kC))) (.c (cw 1 (M1.map kC))) [.c (.i a),.c (.i m),.c (.i b),.fn f [.elt ca,.elt cb]] (.tup []):=by
 obtain⟨hL,hN1,hbN⟩:=g.len1;have hN:=g.hN;have hn:=g.hn;have ha:=g.ha;have hm:=g.hm;have hb:=g.hb;have h0:=g.h0;have h1:=g.h1;simp only[zaY]at hm;have hx:S x:=g.sl x (by simp);rw[kH (by rw[zam];omega),kH (by rw[zam,hL];omega)];refine aK aQ (by simp) (by simp) rfl λhwf=>?_;have e1:((m:Int)-a)=1:=by omega
 simp -dsimp -implicitDefEqProofs [qK,e1];refine⟨by unfold inI;omega,?_⟩
 refine qA (ι:=Nat×Nat) (λz=>m<=z.1/\z.1<=z.2/\z.2<=b/\(∀u∈r.take (z.1-m),fE cmp u x=true)/\(∀u∈r.drop (z.2-m),fE cmp u x=false))
  (λz=>xC [(0,.own 0 1 N),(1,.c (.i a)),(4,.fn f [.elt ca,.elt cb]),(10,.c (.i z.1)),(11,.c (.i z.2)),(1000000,.own 0 1 N)] [(0,.row 1 (M0.map kC))]) (λz=>z.2-z.1) (m,b) ⟨by simp,by simp only;omega,by simp,by simp,by simp[hb]⟩ (by apply aB<;>simp[hN]) ?_
 rintro⟨i,j⟩ ⟨b1,b2,b3,b4,b5⟩
 simp only at b1 b2 b3 b4 b5;have hf':∃fn,Tryz.prog.funcs[f]?=some fn∧fn.body.isSome=true∧¬fn.name= "runtime.NumGoroutine":=by simpa using hf
 have wx:M0[a]?=some x:=by rw[h0,yui (t:=0) (by omega) (by simp)];rfl
 have vx:=(zaa.1 wx).2;have kx:a<N:=by rw[hN];exact(zaa.1 wx).1
 rcases zaq i j with hlt|hge
 .obtain⟨k,hk⟩:∃k,k=(i+j)/2:=⟨_,rfl⟩;obtain⟨y,hy⟩:∃y,r[k-m]?=some y:=⟨_,zab (by omega)⟩;have wy:M0[k]?=some y:=by rw[h0,yt7 (t:=k-m) (by simp;omega) (by omega)];exact hy
  have vy:=(zaa.1 wy).2;have ky:k<N:=by rw[hN];exact(zaa.1 wy).1
  have hyS:=g.sr y (zac hy);simp -dsimp -implicitDefEqProofs [fC hlt,ysg,<-hk,wx,vx,kx,wy,vy,ky,kC];refine⟨by unfold inI;omega,by omega,by omega,by omega,by omega,hf',?_⟩;refine lC (hc y x hyS hx) (goQ_ ?_);refine⟨λhcm=>?_,λhcm=>?_⟩
  .refine⟨by unfold inI;omega,k+1,j,⟨by omega,by omega,b3,?_,b5⟩,by omega,?_⟩
   .rw[show k+1-m=(k-m)+1 by omega];exact yLa h g.sr hx g.or hy (by simpa[fE]using hcm)
   .apply aB<;>simp
  .refine⟨i,k,⟨b1,by omega,by omega,b4,yIv h g.sr hx g.or hy (by simpa[fE]using hcm)⟩,by omega,?_⟩;apply aB<;>simp
 .have hij:i=j:=by omega
  subst hij;have ho:=yHr h g.sr hx g.or (λu hu=>g.cr x (by simp) u hu) b4 b5 g.po g.oo;obtain⟨t,ht⟩:∃t,t=i-m:=⟨_,rfl⟩;rw[<-ht]at ho;have hM0:M0=pM A (r.take 0++x::r.drop 0) B:=by rw[h0];simp[gQ,pM]
  refine goQ_ ?_;refine qA (ι:=Nat) (λk=>a<=k/\k<=a+t) (λk=>xC [(0,.own 0 1 N),(10,.c (.i i)),(13,.c (.i k)),(1000000,.own 0 1 N)] [(0,.row 1 ((pM A (r.take (k-a)++x::r.drop (k-a)) B).map kC))]) (λk=>a+t-k) a ⟨Nat.le_refl _,by omega⟩ (by apply aB<;>simp[hM0]) ?_
  rintro k ⟨k1,k2⟩
  rcases zaq k (a+t)with klt|kge
  .obtain⟨y,hy⟩:∃y,r[k-a]?=some y:=⟨_,zab (by omega)⟩;obtain⟨w1,w2,w3⟩:=swp_right (A:=A) (B:=B) (x:=x) hy (k:=k) (by omega);have hml:(pM A (r.take (k-a)++x::r.drop (k-a)) B).length=N:=by rw[hN,hM0,yc,yc];simp;omega
   rw[show k-a+1=k+1-a by omega]at w3;generalize pM A (r.take (k-a)++x::r.drop (k-a)) B=M at *;obtain⟨j,hj⟩:∃j,j=k+1:=⟨_,rfl⟩;rw[<-hj]at w2 w3;have v1:=(zaa.1 w1).2;have v2:=(zaa.1 w2).2;have q1:k<M.length:=(zaa.1 w1).1;have q2:j<M.length:=(zaa.1 w2).1;have n1:k<N:=by omega
   have n2:j<N:=by omega
   have ej:((k:Int)+1)=(j:Int):=by omega
   have c1:((k:Int)<(i:Int)-1)=True:=by simp;omega
   have hr2:∀h,((M.map kC).set k [C.i y])[j]'h=[C.i y]:=by intro h;rw[zbM (by omega)];simp[v2,kC]
   have hs3:((M.map kC).set k [C.i y]).set j [C.i x]=(pM A (r.take (j-a)++x::r.drop (j-a)) B).map kC:=by rw[<-w3,zaP,zaP];rfl
   simp -dsimp -implicitDefEqProofs [c1,ej,w1,w2,v1,v2,q1,q2,kC,n1,n2,hr2,hs3];refine⟨by unfold inI;omega,by unfold inI;omega,j,⟨by omega,by omega⟩,by omega,?_⟩;apply aB<;>simp[hs3]
  .have c1:((k:Int)<(i:Int)-1)=False:=by simp;omega
   refine yafw c1 ?_;refine⟨by unfold inI;omega,?_⟩;rw[show k-a=t by omega,<-ho,<-h1];refine⟨by rw[List.take_of_length_le (by rw[zam,hL];exact Nat.le_refl _)],?_⟩;simp[ybG]
def yBr(h:SWO (fE cmp) S)(hf:∃fn,Tryz.prog.funcs[f]?=some fn∧fn.body.isSome=true∧(fn.name != "runtime.NumGoroutine")=true)
 (hc:∀x y:Nat,S x->S y->qB prg f [.c (.i x),.c (.i y),.elt ca,.elt cb] (.c (.i (cmp x y)))) {A l B o M0 M1:List Nat} {a m b N y:Nat} (hl2:2<=l.length) (g:MG (fE cmp) S A l [y] B o M0 M1 a m b N):
 InF prg 378 (.c (cw 1 (M0.map kC))) (.c (cw 1 (M1.map kC))) [.c (.i a),.c (.i m),.c (.i b),.fn f [.elt ca,.elt cb]] (.tup []):=by
 obtain⟨hL,hN1,hbN⟩:=g.len1;have hN:=g.hN;have hn:=g.hn;have ha:=g.ha;have hm:=g.hm;have hb:=g.hb;have h0:=g.h0;have h1:=g.h1;simp only[zaY]at hb;have hx:S y:=g.sr y (by simp);rw[kH (by rw[zam];omega),kH (by rw[zam,hL];omega)];refine aK aQ (by simp) (by simp) rfl λhwf=>?_;have e1:((m:Int)-a=1)=False:=by simp;omega
 have e2:((b:Int)-m)=1:=by omega
 simp -dsimp -implicitDefEqProofs [qK,e1,e2];refine⟨by unfold inI;omega,by unfold inI;omega,?_⟩
 refine qA (ι:=Nat×Nat) (λz=>a<=z.1/\z.1<=z.2/\z.2<=m/\(∀u∈l.take (z.1-a),fE cmp y u=false)/\(∀u∈l.drop (z.2-a),fE cmp y u=true))
  (λz=>xC [(0,.own 0 1 N),(2,.c (.i m)),(4,.fn f [.elt ca,.elt cb]),(14,.c (.i z.1)),(15,.c (.i z.2)),(1000000,.own 0 1 N)] [(0,.row 1 (M0.map kC))]) (λz=>z.2-z.1) (a,m) ⟨by simp,by simp only;omega,by simp,by simp,by simp[hm]⟩ (by apply aB<;>simp[hN]) ?_
 rintro⟨i,j⟩ ⟨b1,b2,b3,b4,b5⟩
 simp only at b1 b2 b3 b4 b5;have hf':∃fn,Tryz.prog.funcs[f]?=some fn∧fn.body.isSome=true∧¬fn.name= "runtime.NumGoroutine":=by simpa using hf
 have wx:M0[m]?=some y:=by rw[h0,yt7 (t:=0) (by omega) (by simp)];rfl
 have vx:=(zaa.1 wx).2;have kx:m<N:=by rw[hN];exact(zaa.1 wx).1
 rcases zaq i j with hlt|hge
 .obtain⟨k,hk⟩:∃k,k=(i+j)/2:=⟨_,rfl⟩;obtain⟨u,hu⟩:∃u,l[k-a]?=some u:=⟨_,zab (by omega)⟩;have wy:M0[k]?=some u:=by rw[h0,yui (t:=k-a) (by omega) (by omega)];exact hu
  have vy:=(zaa.1 wy).2;have ky:k<N:=by rw[hN];exact(zaa.1 wy).1
  have huS:=g.sl u (zac hu);simp -dsimp -implicitDefEqProofs [fC hlt,ysg,<-hk,wx,vx,kx,wy,vy,ky,kC];refine⟨by unfold inI;omega,by omega,by omega,by omega,by omega,hf',?_⟩;refine lC (hc y u hx huS) (goQ_ ?_);refine⟨λhcm=>?_,λhcm=>?_⟩
  .refine⟨by unfold inI;omega,k+1,j,⟨by omega,by omega,b3,?_,b5⟩,by omega,?_⟩
   .rw[show k+1-a=(k-a)+1 by omega];exact yH4 h g.sl hx g.ol hu (by simpa[fE]using hcm)
   .apply aB<;>simp
  .refine⟨i,k,⟨b1,by omega,by omega,b4,yFw h g.sl hx g.ol hu (by simpa[fE]using hcm)⟩,by omega,?_⟩;apply aB<;>simp
 .have hij:i=j:=by omega
  subst hij;have ho:=yD0 h g.sl hx g.ol (λu hu=>g.cr u hu y (by simp)) b4 b5 g.po g.oo;have hM0:M0=pM A (l.take (m-a)++y::l.drop (m-a)) B:=by rw[h0,show m-a=l.length by omega];simp[gQ,pM]
  refine goQ_ ?_;refine qA (ι:=Nat) (λk=>i<=k/\k<=m) (λk=>xC [(0,.own 0 1 N),(14,.c (.i i)),(17,.c (.i k)),(1000000,.own 0 1 N)] [(0,.row 1 ((pM A (l.take (k-a)++y::l.drop (k-a)) B).map kC))]) (λk=>k-i) m ⟨by omega,Nat.le_refl _⟩ (by apply aB<;>simp[<-hM0]) ?_
  rintro k ⟨k1,k2⟩
  rcases zaq i k with klt|kge
  .obtain⟨j,hj⟩:∃j,j=k-1:=⟨_,rfl⟩;obtain⟨u,hu⟩:∃u,l[j-a]?=some u:=⟨_,zab (by omega)⟩;obtain⟨w1,w2,w3⟩:=swp_left (A:=A) (B:=B) (y:=y) hu (k:=j) (by omega);have ejk:j+1=k:=by omega
   rw[show j-a+1=k-a by omega]at w1 w2 w3;rw[ejk]at w1 w3;have hml:(pM A (l.take (k-a)++y::l.drop (k-a)) B).length=N:=by rw[hN,hM0,yc,yc];simp;omega
   generalize pM A (l.take (k-a)++y::l.drop (k-a)) B=M at *;have v1:=(zaa.1 w1).2;have v2:=(zaa.1 w2).2;have q1:k<M.length:=(zaa.1 w1).1;have q2:j<M.length:=(zaa.1 w2).1;have n1:k<N:=by omega
   have n2:j<N:=by omega
   have ej:((k:Int)-1)=(j:Int):=by omega
   have hr2:∀h,((M.map kC).set k [C.i u])[j]'h=[C.i u]:=by intro h;rw[zbM (by omega)];simp[v2,kC]
   have hs3:((M.map kC).set k [C.i u]).set j [C.i y]=(pM A (l.take (j-a)++y::l.drop (j-a)) B).map kC:=by rw[<-w3,zaP,zaP];rfl
   simp -dsimp -implicitDefEqProofs [fC klt,klt,ej,w1,w2,v1,v2,q1,q2,kC,n1,n2,hr2,hs3];refine⟨by unfold inI;omega,j,⟨by omega,by omega⟩,by omega,?_⟩;apply aB<;>simp[hs3]
  .have hki:k=i:=by omega
   subst hki;refine goQ_ ?_;rw[<-ho,<-h1];refine⟨by rw[List.take_of_length_le (by rw[zam,hL];exact Nat.le_refl _)],?_⟩;simp[ybG]
end
section
variable {cmp:Nat->Nat->Int} {S:Nat->Prop} {f:Nat} {ca cb:List C}
def ytV(h:SWO (fE cmp) S){l r:List Nat}(hl:∀x∈l,S x)(hr:∀x∈r,S x)(sl:l.Pairwise (tot (fE cmp)))(sr:r.Pairwise (tot (fE cmp)))(hc:∀x∈l,∀y∈r,x<y):
 ∃o:List Nat,o.Perm (l++r)/\o.Pairwise (tot (fE cmp)):=yma h (λy hy=>by rcases zaj.1 hy with hy|hy;exact hl y hy;exact hr y hy) (yAY h hl hr sl sr hc)
def yDA(cmp:Nat->Nat->Int)(M0:List Nat)(n s0 s:Nat):Prop:=s=s0\/∃u v,M0[s-1]?=some u/\M0[n-s]?=some v/\fE cmp v u=false
def yDd(cmp:Nat->Nat->Int)(M0:List Nat)(p r0 s:Nat):Prop:=s=r0\/∃u v,M0[s]?=some u/\M0[p-s]?=some v/\fE cmp v u=true
def yEM(h:SWO (fE cmp) S){A l r B o M0 M1:List Nat}{a m b N d n p s0 r0 s z:Nat}(g:MG (fE cmp) S A l r B o M0 M1 a m b N)(hd:d=(a+b)/2)(hn':n=d+m)(hp:p=n-1)
 (F1:s0<=r0) (F2:a<=s0) (F3:r0<=m) (F4:r0<=d) (F5:n<=b+s0) (F6:s0=a\/n-s0=b) (F7:r0=m\/r0=d) (b1:s0<=s) (b3:s<=r0)
 (b4:yDA cmp M0 n s0 s) (b5:yDd cmp M0 p r0 s) (hz:z=n-s) (hl2:2<=l.length) (hr2:2<=r.length):∀x∈l.take (s-a)++r.take (z-m),∀y∈l.drop (s-a)++r.drop (z-m),tot (fE cmp) x y:=by
 have ha:=g.ha;have hm:=g.hm;have hb:=g.hb;have h0:=g.h0
 have hA:s-a=0\/r.length<=z-m\/∃u v,l[s-a-1]?=some u/\r[z-m]?=some v/\tot (fE cmp) u v:=by
  rcases b4 with e|⟨u,v,hu,hv,hlt⟩
  .rcases F6 with e2|e2
   .left;omega
   .right;left;omega
  .rcases zau (s-a)with e|e
   .exact .inl e
   rcases zaq (z-m) r.length with e2|e2
   .right;right
    have hu':l[s-a-1]?=some u:=by rw[h0,yui (t:=s-a-1) (by omega) (by omega)]at hu;exact hu
    have hv':r[z-m]?=some v:=by rw[h0,yt7 (t:=z-m) (by omega) (by omega)]at hv;exact hv
    exact⟨u,v,hu',hv',yCn (g.cr u (zac hu') v (zac hv')) hlt⟩
   .exact .inr (.inl e2)
 have hB:z-m=0\/l.length<=s-a\/∃u v,r[z-m-1]?=some u/\l[s-a]?=some v/\tot (fE cmp) u v:=by
  rcases b5 with e|⟨u,v,hu,hv,hlt⟩
  .rcases F7 with e2|e2
   .right;left;omega
   .left;omega
  .rcases zau (z-m)with e|e
   .exact .inl e
   rcases zaq (s-a) l.length with e2|e2
   .right;right
    have hu':l[s-a]?=some u:=by rw[h0,yui (t:=s-a) (by omega) (by omega)]at hu;exact hu
    have hv':r[z-m-1]?=some v:=by rw[h0,yt7 (t:=z-m-1) (by omega) (by omega)]at hv;exact hv
    exact⟨v,u,hv',hu',.inl hlt⟩
   .exact .inr (.inl e2)
 exact yGQ h g.sl g.sr g.ol g.or hA hB
def yEn(h:SWO (fE cmp) S){A l r B o M0 M1:List Nat}{a m b N d n p s0 r0 s z:Nat}(g:MG (fE cmp) S A l r B o M0 M1 a m b N)(hd:d=(a+b)/2)(hn':n=d+m)(hp:p=n-1)
 (F1:s0<=r0) (F2:a<=s0) (F3:r0<=m) (F4:r0<=d) (F5:n<=b+s0) (F6:s0=a\/n-s0=b) (F7:r0=m\/r0=d) (b1:s0<=s) (b3:s<=r0)
 (b4:yDA cmp M0 n s0 s) (b5:yDd cmp M0 p r0 s) (hz:z=n-s) (hl2:2<=l.length) (hr2:2<=r.length):
 ∃l1 l2 r1 r2 o1 o2 Mr M2:List Nat,Mr.length=N/\M2.length=N/\l1.length=s-a/\l2.length=m-s/\r1.length=z-m/\r2.length=b-z/\
  (M0=gQ (A++l1) l2 r1 (r2++B)/\Mr=gQ (A++l1) r1 l2 (r2++B))/\
  (a<s->m<z->MG (fE cmp) S A l1 r1 (l2++(r2++B)) o1 Mr M2 a s d N)/\(s<m->z<b->MG (fE cmp) S (A++o1) l2 r2 B o2 M2 M1 d z b N)/\
  (m<=s\/z<=m->M0=Mr)/\(s<=a\/z<=m->Mr=M2)/\(m<=s\/b<=z->M2=M1):=by
 have hN:=g.hN;have ha:=g.ha;have hm:=g.hm;have hb:=g.hb;have h0:=g.h0;have h1:=g.h1;have hNl:A.length+l.length+r.length+B.length=N:=by rw[hN,h0,bU]
 have el:l.take (s-a)++l.drop (s-a)=l:=zaw _ _;have er:r.take (z-m)++r.drop (z-m)=r:=zaw _ _;have sl1:∀x∈l.take (s-a),S x:=λx hx=>g.sl x (zas hx);have sl2:∀x∈l.drop (s-a),S x:=λx hx=>g.sl x (zaI hx);have sr1:∀x∈r.take (z-m),S x:=λx hx=>g.sr x (zas hx);have sr2:∀x∈r.drop (z-m),S x:=λx hx=>g.sr x (zaI hx);have ol:=g.ol;have or:=g.or;rw[<-el,zaK]at ol;rw[<-er,zaK]at or;have cross:=yEM h g hd hn' hp F1 F2 F3 F4 F5 F6 F7 b1 b3 b4 b5 hz hl2 hr2;have zb:m<=z/\z<=b/\s<=m/\a<=s/\s+z=d+m:=by omega
 obtain⟨zb1,zb2,zb3,zb4,zb5⟩:=zb;clear b4 b5 F1 F2 F3 F4 F5 F6 F7 b1 b3 hz hp hn' hd;obtain⟨o1,po1,so1⟩:=ytV h sl1 sr1 ol.1 or.1 (λx hx y hy=>g.cr x (zas hx) y (zas hy));obtain⟨o2,po2,so2⟩:=ytV h sl2 sr2 ol.2.1 or.2.1 (λx hx y hy=>g.cr x (zaI hx) y (zaI hy));have ho:=halves h g.sl g.sr g.po g.oo po1 so1 po2 so2 cross;have lo1:=po1.length_eq;have lo2:=po2.length_eq;have q1:(l.take (s-a)).length=s-a:=by rw[zay];omega
 have q2:(l.drop (s-a)).length=m-s:=by rw[zaJ];omega
 have q3:(r.take (z-m)).length=z-m:=by rw[zay];omega
 have q4:(r.drop (z-m)).length=b-z:=by rw[zaJ];omega
 rw[zah]at lo1 lo2
 have hM0:M0=gQ (A++l.take (s-a)) (l.drop (s-a)) (r.take (z-m)) (r.drop (z-m)++B):=by
  rw[h0];conv=>lhs;rw[<-el,<-er]
  simp only[gQ,zaW]
 have one1:l.take (s-a)=[]\/r.take (z-m)=[]->o1=l.take (s-a)++r.take (z-m):=λe=>by
  refine cZ h (S:=S) (λx hx=>?_) po1 so1 ?_
  .rcases zaj.1 (po1.mem_iff.1 hx)with hx|hx
   .exact sl1 x hx
   .exact sr1 x hx
  .rcases e with e|e<;>rw[e]
   .simpa using or.1
   .simpa using ol.1
 have one2:l.drop (s-a)=[]\/r.drop (z-m)=[]->o2=l.drop (s-a)++r.drop (z-m):=λe=>by
  refine cZ h (S:=S) (λx hx=>?_) po2 so2 ?_
  .rcases zaj.1 (po2.mem_iff.1 hx)with hx|hx
   .exact sl2 x hx
   .exact sr2 x hx
  .rcases e with e|e<;>rw[e]
   .simpa using or.2.1
   .simpa using ol.2.1
 generalize l.take (s-a)=l1 at *;generalize l.drop (s-a)=l2 at *;generalize r.take (z-m)=r1 at *;generalize r.drop (z-m)=r2 at *;have nil:∀{x:List Nat} {k:Nat},x.length=k->k=0->x=[]:=λh1 h2=>zav.1 (h1.trans h2);refine⟨l1,l2,r1,r2,o1,o2,gQ (A++l1) r1 l2 (r2++B),pM A o1 (l2++(r2++B)),?_,?_,q1,q2,q3,q4,⟨hM0,rfl⟩,λe1 e2=>?_,λe1 e2=>?_,λe=>?_,λe=>?_,λe=>?_⟩
 .rw[bU];simp only[zah];omega
 .rw[yc];simp only[zah];omega
 .exact⟨by omega,by omega,sl1,sr1,ol.1,or.1,λx hx y hy=>g.cr x (by rw[<-el];simp[hx]) y (by rw[<-er];simp[hy]),po1,so1,ha,by omega,by omega,by simp[gQ],rfl,by rw[bU];simp only[zah];omega,g.hn⟩
 .exact⟨by omega,by omega,sl2,sr2,ol.2.1,or.2.1,λx hx y hy=>g.cr x (by rw[<-el];simp[hx]) y (by rw[<-er];simp[hy]),po2,so2,by simp only[zah];omega,by omega,by omega,by simp[gQ,pM],by rw[h1,ho];simp[pM],by rw[yc];simp only[zah];omega,g.hn⟩
 .rw[hM0];rcases e with e|e
  .rw[nil q2 (by omega)];simp[gQ]
  .rw[nil q3 (by omega)];simp[gQ]
 .rcases e with e|e
  .rw[one1 (.inl (nil q1 (by omega)))];simp[gQ,pM]
  .rw[one1 (.inr (nil q3 (by omega)))];simp[gQ,pM]
 .rw[h1,ho];rcases e with e|e
  .rw[one2 (.inl (nil q2 (by omega)))];simp[pM]
  .rw[one2 (.inr (nil q4 (by omega)))];simp[pM]
def yFT(h:SWO (fE cmp) S)(hf:∃fn,Tryz.prog.funcs[f]?=some fn∧fn.body.isSome=true∧(fn.name != "runtime.NumGoroutine")=true)
 (hc:∀x y:Nat,S x->S y->qB prg f [.c (.i x),.c (.i y),.elt ca,.elt cb] (.c (.i (cmp x y)))) {A l r B o M0 M1:List Nat} {a m b N:Nat} (hl2:2<=l.length) (hr2:2<=r.length) (g:MG (fE cmp) S A l r B o M0 M1 a m b N)
 (ih:∀(A' l' r' B' o' M0' M1':List Nat) (a' m' b':Nat),l'.length+r'.length<l.length+r.length->MG (fE cmp) S A' l' r' B' o' M0' M1' a' m' b' N->
  InF prg 378 (.c (cw 1 (M0'.map kC))) (.c (cw 1 (M1'.map kC))) [.c (.i a'),.c (.i m'),.c (.i b'),.fn f [.elt ca,.elt cb]] (.tup [])):
 InF prg 378 (.c (cw 1 (M0.map kC))) (.c (cw 1 (M1.map kC))) [.c (.i a),.c (.i m),.c (.i b),.fn f [.elt ca,.elt cb]] (.tup []):=by
 obtain⟨hL,hN1,hbN⟩:=g.len1;have hN:=g.hN;have hn:=g.hn;have ha:=g.ha;have hm:=g.hm;have hb:=g.hb;have h0:=g.h0;have h1:=g.h1;have hNl:A.length+l.length+r.length+B.length=N:=by rw[hN,h0,bU]
 rw[kH (by rw[zam];omega),kH (by rw[zam,hL];omega)];refine aK aQ (by simp) (by simp) rfl λhwf=>?_;have e1:((m:Int)-a=1)=False:=by simp;omega
 have e2:((b:Int)-m=1)=False:=by simp;omega
 obtain⟨d,hd⟩:∃d,d=(a+b)/2:=⟨_,rfl⟩;obtain⟨n,hn'⟩:∃n,n=d+m:=⟨_,rfl⟩;obtain⟨p,hp⟩:∃p,p=n-1:=⟨_,rfl⟩;have en:((d:Int)+m)=(n:Int):=by omega
 have ep:((n:Int)-1)=(p:Int):=by omega
 have hf':∃fn,Tryz.prog.funcs[f]?=some fn∧fn.body.isSome=true∧¬fn.name= "runtime.NumGoroutine":=by simpa using hf
 obtain⟨s0,r0,hs1,hs2⟩:∃s0 r0:Nat,(d<m->s0=n-b/\r0=d)/\(m<=d->s0=a/\r0=m):=by
  rcases zaq d m with q|q
  .exact⟨n-b,d,λ_=>⟨rfl,rfl⟩,λq2=>by omega⟩
  .exact⟨a,m,λq2=>by omega,λ_=>⟨rfl,rfl⟩⟩
 have F:s0<=r0/\a<=s0/\r0<=m/\r0<=d/\n<=b+s0/\(s0=a\/n-s0=b)/\(r0=m\/r0=d):=by
  rcases zaq d m with q|q
  .obtain⟨z1,z2⟩:=hs1 q;omega
  .obtain⟨z1,z2⟩:=hs2 q;omega
 obtain⟨F1,F2,F3,F4,F5,F6,F7⟩:=F;simp -dsimp -implicitDefEqProofs [qK,e1,e2,ysg,<-hd,en,ep];refine⟨by unfold inI;omega,by unfold inI;omega,by unfold inI;omega,by omega,by omega,by unfold inI;omega,λhdm=>?_,λhdm=>?_⟩
 case' refine_1=>
  obtain⟨z1,er⟩:=hs1 hdm;have es:((n:Int)-b)=(s0:Int):=by omega
  refine⟨by unfold inI;omega,by unfold inI;omega,?_⟩;refine qA (ι:=Nat×Nat) (λz=>s0<=z.1/\z.1<=z.2/\z.2<=r0/\yDA cmp M0 n s0 z.1/\yDd cmp M0 p r0 z.2) (λz=>xC [(0,.own 0 1 N),(1,.c (.i a)),(2,.c (.i m)),(3,.c (.i b)),(4,.fn f [.elt ca,.elt cb]),(18,.c (.i d)),(19,.c (.i n)),(20,.c (.i z.1)),(21,.c (.i z.2)),(22,.c (.i p)),(1000000,.own 0 1 N)] [(0,.row 1 (M0.map kC))]) (λz=>z.2-z.1) (s0,r0) ⟨Nat.le_refl _,F1,Nat.le_refl _,.inl rfl,.inl rfl⟩ (by apply aB<;>simp[hN,es,er]) ?_
 case' refine_2=>
  obtain⟨es,er⟩:=hs2 hdm;refine⟨by unfold inI;omega,?_⟩;refine qA (ι:=Nat×Nat) (λz=>s0<=z.1/\z.1<=z.2/\z.2<=r0/\yDA cmp M0 n s0 z.1/\yDd cmp M0 p r0 z.2) (λz=>xC [(0,.own 0 1 N),(1,.c (.i a)),(2,.c (.i m)),(3,.c (.i b)),(4,.fn f [.elt ca,.elt cb]),(18,.c (.i d)),(19,.c (.i n)),(20,.c (.i z.1)),(21,.c (.i z.2)),(22,.c (.i p)),(1000000,.own 0 1 N)] [(0,.row 1 (M0.map kC))]) (λz=>z.2-z.1) (s0,r0) ⟨Nat.le_refl _,F1,Nat.le_refl _,.inl rfl,.inl rfl⟩ (by apply aB<;>simp[hN,es,er]) ?_
 all_goals
  rintro⟨s,e⟩ ⟨b1,b2,b3,b4,b5⟩
  simp only at b1 b2 b3 b4 b5;rcases zaq s e with hlt|hge
  .obtain⟨k,hk⟩:∃k,k=(s+e)/2:=⟨_,rfl⟩;obtain⟨q,hq⟩:∃q,q=p-k:=⟨_,rfl⟩;have eq:((p:Int)-k)=(q:Int):=by omega
   obtain⟨u,hu⟩:∃u,l[k-a]?=some u:=⟨_,zab (by omega)⟩;obtain⟨v,hv⟩:∃v,r[q-m]?=some v:=⟨_,zab (by omega)⟩;have wu:M0[k]?=some u:=by rw[h0,yui (t:=k-a) (by omega) (by omega)];exact hu
   have wv:M0[q]?=some v:=by rw[h0,yt7 (t:=q-m) (by omega) (by omega)];exact hv
   have vu:=(zaa.1 wu).2;have vv:=(zaa.1 wv).2;have ku:k<N:=by rw[hN];exact(zaa.1 wu).1
   have kv:q<N:=by rw[hN];exact(zaa.1 wv).1
   have uS:=g.sl u (zac hu);have vS:=g.sr v (zac hv);simp -dsimp -implicitDefEqProofs [fC hlt,ysg,<-hk,eq,wu,vu,ku,wv,vv,kv,kC];refine⟨by unfold inI;omega,by omega,by omega,by unfold inI;omega,by omega,by omega,hf',?_⟩;refine lC (hc v u vS uS) (goQ_ ?_);refine⟨λhcm=>?_,λhcm=>?_⟩
   .have hcf:fE cmp v u=false:=by simpa[fE]using hcm
    refine⟨by unfold inI;omega,k+1,e,⟨by omega,by omega,b3,.inr ⟨u,v,wu,by rw[show n-(k+1)=q by omega];exact wv,hcf⟩,b5⟩,by omega,?_⟩;apply aB<;>simp
   .have hcf:fE cmp v u=true:=by simpa[fE]using hcm
    refine⟨s,k,⟨b1,by omega,by omega,b4,.inr ⟨u,v,wu,by rw[<-hq];exact wv,hcf⟩⟩,by omega,?_⟩;apply aB<;>simp
  .have hse:s=e:=by omega
   subst hse;obtain⟨z,hz⟩:∃z,z=n-s:=⟨_,rfl⟩;have ez:((n:Int)-s)=(z:Int):=by omega
   obtain⟨l1,l2,r1,r2,o1,o2,Mr,M2,p1⟩:=yEn h g hd hn' hp F1 F2 F3 F4 F5 F6 F7 b1 b3 b4 b5 hz hl2 hr2;obtain⟨hmr,hm2,hL1,hL2,hR1,hR2,hmr1,hmg1,hmg2,n1,n2,n3⟩:=p1;have hrot:=λ(c1:s<m) (c2:m<z)=>yLS (A++l1) l2 r1 (r2++B) M0 Mr hmr1.1 hmr1.2 s m z N (by omega) (by omega) (by simp;omega) (by omega) (by omega) hN hn f ca cb;have hm1:=λc1 c2=>ih _ _ _ _ _ _ _ _ _ _ (by omega) (hmg1 c1 c2);have hm2':=λc1 c2=>ih _ _ _ _ _ _ _ _ _ _ (by omega) (hmg2 c1 c2);clear hmg1 hmg2 ih;have lr:(Mr.map kC).length=N:=by rw[zam,hmr]
   have l0:(M0.map kC).length=N:=by rw[zam,hN]
   have lm2:(M2.map kC).length=N:=by rw[zam,hm2]
   have lm1:(M1.map kC).length=N:=by rw[zam,hL]
   cases hb1:decide (s<m)<;>cases hb2:decide (m<z)<;>cases hb5:decide (a<s)<;>cases hb6:decide (z<b)
   all_goals
    have hb3:decide (s<d)=decide (m<z):=decide_eq_decide.2 (by omega);have hb4:decide (d<z)=decide (s<m):=decide_eq_decide.2 (by omega);rw[hb2]at hb3;rw[hb1]at hb4;have c1:=hb1;have c2:=hb2;have c5:=hb5;have c6:=hb6;simp only[decide_eq_true_eq,decide_eq_false_iff_not,Nat.not_lt]at c1 c2 c5 c6
    first
     |(exfalso;omega)
     |skip
   all_goals
    try rw[n1 (by omega)]
    refine yafn ez hb1 hb2 hb3 hb4 hb5 hb6 ?_;refine⟨by unfold inI;omega,?_⟩
    try
     refine tH (up:=some (0,.row 1 (Mr.map kC))) (hrot c1 c2) (by simp) rfl rfl (qH (rows:=M0.map kC) (by simp) rfl rfl (by simp[l0]) (by simp[l0,lr]) rfl rfl) ?_;simp -dsimp -implicitDefEqProofs [hb1,hb2,hb3,hb4,hb5,hb6]
    try rw[n2 (by omega)]
    try
     refine tH (up:=some (0,.row 1 (M2.map kC))) (hm1 c5 c2) (by simp) rfl rfl (qH (rows:=Mr.map kC) (by simp) rfl rfl (by simp[lr]) (by simp[lm2,lr]) rfl rfl) ?_;simp -dsimp -implicitDefEqProofs [hb1,hb2,hb3,hb4,hb5,hb6]
    try rw[n3 (by omega)]
    try
     refine tH (up:=some (0,.row 1 (M1.map kC))) (hm2' c1 c6) (by simp) rfl rfl (qH (rows:=M2.map kC) (by simp) rfl rfl (by simp[lm2]) (by simp[lm2,lm1]) rfl rfl) ?_;simp -dsimp -implicitDefEqProofs [hb1,hb2,hb3,hb4,hb5,hb6]
    exact⟨by rw[List.take_of_length_le (by rw[lm1];exact Nat.le_refl _)],by simp[ybG]⟩
def yCQ(h:SWO (fE cmp) S)(hf:∃fn,Tryz.prog.funcs[f]?=some fn∧fn.body.isSome=true∧(fn.name != "runtime.NumGoroutine")=true)
 (hc:∀x y:Nat,S x->S y->qB prg f [.c (.i x),.c (.i y),.elt ca,.elt cb] (.c (.i (cmp x y)))) {N:Nat}:∀(k:Nat) (A l r B o M0 M1:List Nat) (a m b:Nat),l.length+r.length<=k->MG (fE cmp) S A l r B o M0 M1 a m b N->
 InF prg 378 (.c (cw 1 (M0.map kC))) (.c (cw 1 (M1.map kC))) [.c (.i a),.c (.i m),.c (.i b),.fn f [.elt ca,.elt cb]] (.tup [])
 |0,A,l,r,B,o,M0,M1,a,m,b,hk,g=>by have:=g.pl;omega
 | k+1,A,l,r,B,o,M0,M1,a,m,b,hk,g=>by
  have pl:=g.pl;have pr:=g.pr;rcases zaq l.length 2 with e|e
  .obtain⟨x,rfl⟩:=zbw.1 (show l.length=1 by omega);exact yFc h hf hc g
  rcases zaq r.length 2 with e2|e2
  .obtain⟨y,rfl⟩:=zbw.1 (show r.length=1 by omega);exact yBr h hf hc e g
  exact yFT h hf hc e e2 g λA' l' r' B' o' M0' M1' a' m' b' hk' g'=>yCQ h hf hc k A' l' r' B' o' M0' M1' a' m' b' (by omega) g'
end
def bl(lt:Nat->Nat->Bool)(s:Nat):Nat->List Nat->List Nat
 |0,_=>[]
 |k+1,l=>sorted lt (l.take s)++bl lt s k (l.drop s)
def blk(lt:Nat->Nat->Bool)(s:Nat)(l:List Nat):List Nat:=bl lt s l.length l
section
variable {lt:Nat->Nat->Bool} {s:Nat}
def ym3:∀k:Nat,bl lt s k []=[]
 |0=>rfl
 |k+1=>by simp[bl,ym3 k,sorted,yeu]
def yyk(hs:1<=s):∀(k k':Nat) (l:List Nat),l.length<=k->l.length<=k'->bl lt s k l=bl lt s k' l
 |0,k',l,h,_=>by
  rw[zav.1 (show l.length=0 by omega),ym3,ym3]
 |k+1,0,l,_,h=>by rw[zav.1 (show l.length=0 by omega),ym3,ym3]
 | k+1,k'+1,l,h,h'=>by
  rcases zau l.length with e|e
  .rw[zav.1 e,ym3,ym3]
  .unfold bl;rw[yyk hs k k' (l.drop s) (by rw[zaJ];omega) (by rw[zaJ];omega)]
def yf6(hs:1<=s)(l:List Nat):blk lt s l=sorted lt (l.take s)++blk lt s (l.drop s):=by
 rcases zau l.length with e|e
 .rw[zav.1 e];simp[blk,bl,sorted,yeu]
 .unfold blk;rw[yyk hs l.length ((l.length-1)+1) l (by omega) (by omega)]
  show sorted lt (l.take s)++bl lt s (l.length-1) (l.drop s)=_
  rw[yyk hs (l.length-1) (l.drop s).length (l.drop s) (by rw[zaJ];omega) (Nat.le_refl _)]
def ypX(hs:1<=s){l:List Nat}(h:l.length<=s):blk lt s l=sorted lt l:=by
 rw[yf6 hs,List.take_of_length_le h,zbx h];simp[blk,bl]
def ygv(hs:1<=s):∀(q:Nat) (u v:List Nat),u.length=q*s->v.length<=s->blk lt s (u++v)=blk lt s u++sorted lt v
 |0,u,v,h,hv=>by
  rw[zav.1 (show u.length=0 by omega),zcD,ypX hs hv];rfl
 |q+1,u,v,h,hv=>by
  rw[zdW]at h;rw[yf6 hs (u++v),yf6 hs u,zcS (by omega),List.drop_append_of_le_length (by omega),ygv hs q (u.drop s) v (by rw[zaJ];omega) hv,zaW]
def yfg(hs:1<=s):∀(k:Nat) (l:List Nat),l.length<=k->(blk lt s l).length=l.length
 |0,l,h=>by rw[zav.1 (show l.length=0 by omega)];rfl
 |k+1,l,h=>by
  rcases zau l.length with e|e
  .rw[zav.1 e];rfl
  .rw[yf6 hs,zah,sorted_perm.length_eq,yfg hs k (l.drop s) (by rw[zaJ];omega),zay,zaJ];omega
end
section
variable {cmp:Nat->Nat->Int} {S:Nat->Prop} {f:Nat} {ca cb:List C}
def ykQ(lt:Nat->Nat->Bool)(xs:List Nat)(a:Nat):List Nat:=blk lt 20 (xs.take a)++xs.drop a
def ykS(lt:Nat->Nat->Bool)(s:Nat)(xs:List Nat)(a:Nat):List Nat:=blk lt (2*s) (xs.take a)++blk lt s (xs.drop a)
def yj4{lt:Nat->Nat->Bool}{xs:List Nat}{a:Nat}:(ykQ lt xs a).length=xs.length:=by
 unfold ykQ;rw[zah,yfg (by omega) _ _ (Nat.le_refl _),zay,zaJ];omega
def ysK{lt:Nat->Nat->Bool}{s:Nat}{xs:List Nat}{a:Nat}(hs:1<=s):(ykS lt s xs a).length=xs.length:=by
 unfold ykS;rw[zah,yfg (by omega) _ _ (Nat.le_refl _),yfg hs _ _ (Nat.le_refl _),zay,zaJ];omega
def yEY{lt:Nat->Nat->Bool}{xs:List Nat}{a q:Nat}(ha:a=q*20)(h:a+20<=xs.length):
 ykQ lt xs a=pM (blk lt 20 (xs.take a)) ((xs.drop a).take 20) (xs.drop (a+20))/\ykQ lt xs (a+20)=pM (blk lt 20 (xs.take a)) (sorted lt ((xs.drop a).take 20)) (xs.drop (a+20)):=by
 have e:xs.take (a+20)=xs.take a++(xs.drop a).take 20:=zdo;refine⟨?_,?_⟩
 .unfold ykQ pM
  congr 1
  rw[<-zcv,zaw]
 .unfold ykQ pM;rw[e,ygv (by omega) q _ _ (by rw[zay];omega) (by rw[zay];omega),zaW]
def yHd{lt:Nat->Nat->Bool}{xs:List Nat}{a q:Nat}(ha:a=q*20)(h:a<=xs.length)(h2:xs.length<a+20):
 ykQ lt xs a=pM (blk lt 20 (xs.take a)) (xs.drop a) []/\blk lt 20 xs=pM (blk lt 20 (xs.take a)) (sorted lt (xs.drop a)) []:=by
 refine⟨by simp[ykQ,pM],?_⟩
 conv=>lhs;rw[<-zaw a xs]
 rw[ygv (by omega) q _ _ (by rw[zay];omega) (by rw[zaJ];omega)];simp[pM]
def yxC(h:SWO (fE cmp) S){xs:List Nat}(hS:∀x∈xs,S x)(hup:xs.Pairwise (·<·)){a q s N:Nat}(hs:1<=s)(ha:a=q*(2*s)){b:Nat}(hb:b=if a+2*s<=xs.length then a+2*s else xs.length)(h2:a+s<xs.length)(hN:N=xs.length)(hn:N<=1048576):
 MG (fE cmp) S (blk (fE cmp) (2*s) (xs.take a)) (sorted (fE cmp) ((xs.drop a).take s)) (sorted (fE cmp) ((xs.drop (a+s)).take s)) (blk (fE cmp) s (xs.drop (a+2*s))) (sorted (fE cmp) ((xs.drop a).take (2*s)))
  (ykS (fE cmp) s xs a) (if a+2*s<=xs.length then ykS (fE cmp) s xs (a+2*s)else blk (fE cmp) (2*s) xs) a (a+s) b N:=by
 have lA:(blk (fE cmp) (2*s) (xs.take a)).length=a:=by rw[yfg (by omega) _ _ (Nat.le_refl _),zay];omega
 have l1:((xs.drop a).take s).length=s:=by rw[zay,zaJ];omega
 have l2:((xs.drop (a+s)).take s).length=b-(a+s):=by rw[zay,zaJ,hb];split<;>omega
 have hb2:a+s<b:=by rw[hb];split<;>omega
 have e2:(xs.drop a).take (2*s)=(xs.drop a).take s++(xs.drop (a+s)).take s:=by
  rw[show 2*s=s+s by omega,zdo,zcv]
 have sub:∀{l:List Nat},l.Sublist xs->(∀x∈l,S x)/\l.Pairwise (·<·):=λhl=>⟨λx hx=>hS x (hl.subset hx),hup.sublist hl⟩;have c1:=sub ((zdi s (xs.drop a)).trans (zdk a xs));have c2:=sub ((zdi s (xs.drop (a+s))).trans (zdk (a+s) xs));have c3:=sub ((zdi (2*s) (xs.drop a)).trans (zdk a xs));have p1:=sorted_perm (lt:=fE cmp) (xs:=(xs.drop a).take s);have p2:=sorted_perm (lt:=fE cmp) (xs:=(xs.drop (a+s)).take s);have p3:=sorted_perm (lt:=fE cmp) (xs:=(xs.drop a).take (2*s))
 have hM0:ykS (fE cmp) s xs a=gQ (blk (fE cmp) (2*s) (xs.take a)) (sorted (fE cmp) ((xs.drop a).take s)) (sorted (fE cmp) ((xs.drop (a+s)).take s)) (blk (fE cmp) s (xs.drop (a+2*s))):=by
  unfold ykS gQ;rw[yf6 hs (xs.drop a),zcv,yf6 hs (xs.drop (a+s)),zcv,show a+s+s=a+2*s by omega]
 have c3u:=c3.2;rw[e2,zaK]at c3u;refine⟨by rw[p1.length_eq];omega,by rw[p2.length_eq];omega,λx hx=>c1.1 x (p1.mem_iff.1 hx),λx hx=>c2.1 x (p2.mem_iff.1 hx),yna h c1.1 c1.2,yna h c2.1 c2.2,λx hx y hy=>c3u.2.2 x (p1.mem_iff.1 hx) y (p2.mem_iff.1 hy),?_,yna h c3.1 c3.2,lA.symm,by rw[p1.length_eq,l1],by rw[p2.length_eq,l2];omega,hM0,?_,by rw[ysK hs];exact hN,hn⟩
 .refine p3.trans ?_;rw[e2];exact(p1.append p2).symm
 .split
  .rename_i hle;unfold ykS pM;rw[show xs.take (a+2*s)=xs.take a++(xs.drop a).take (2*s)from zdo,ygv (by omega) q _ _ (by rw[zay];omega) (by rw[zay];omega),zaW]
  .rename_i hle;have e3:(xs.drop a).take (2*s)=xs.drop a:=List.take_of_length_le (by rw[zaJ];omega);rw[e3,show xs.drop (a+2*s)=[]from zbx (by omega)]
   conv=>lhs;rw[<-zaw a xs]
   rw[ygv (by omega) q _ _ (by rw[zay];omega) (by rw[zaJ];omega)];simp[pM,blk,bl]
def yF0{lt:Nat->Nat->Bool}{xs:List Nat}{a q s:Nat}(hs:1<=s)(ha:a=q*(2*s))(h1:a<=xs.length)(h2:xs.length<=a+s):ykS lt s xs a=blk lt (2*s) xs:=by
 unfold ykS
 conv=>rhs;rw[<-zaw a xs]
 rw[ygv (by omega) q _ _ (by rw[zay];omega) (by rw[zaJ];omega),ypX hs (by rw[zaJ];omega)]
def yER(h:SWO (fE cmp) S)(hf:∃fn,Tryz.prog.funcs[f]?=some fn∧fn.body.isSome=true∧(fn.name != "runtime.NumGoroutine")=true)
 (hc:∀x y:Nat,S x->S y->qB prg f [.c (.i x),.c (.i y),.elt ca,.elt cb] (.c (.i (cmp x y)))) (xs:List Nat) (hS:∀x∈xs,S x) (hup:xs.Pairwise (·<·)) (N:Nat) (hN:N=xs.length) (hn1:1<=N) (hn2:N<=1048576):
 InF prg 350 (.c (cw 1 (xs.map kC))) (.c (cw 1 ((sorted (fE cmp) xs).map kC))) [.c (.i N),.fn f [.elt ca,.elt cb]] (.tup []):=by
 have hpl:(sorted (fE cmp) xs).length=xs.length:=sorted_perm.length_eq;rw[kH (by simp;omega),kH (by rw[zam,hpl];omega)];refine aK nS (by simp) (by simp) rfl λhwf=>?_;have i0:ykQ (fE cmp) xs 0=xs:=by simp[ykQ,blk,bl]
 refine goQ_ ?_;refine qA (ι:=Nat×Nat×Nat) (λz=>z.1=z.2.2*20/\z.2.1=z.1+20/\z.1<=N) (λz=>xC [(0,.own 0 1 N),(1,.c (.i N)),(2,.fn f [.elt ca,.elt cb]),(6,.c (.i 20)),(7,.c (.i z.1)),(8,.c (.i z.2.1)),(1000000,.own 0 1 N)] [(0,.row 1 ((ykQ (fE cmp) xs z.1).map kC))]) (λz=>N-z.1) (0,20,0) ⟨rfl,rfl,zbA _⟩ (by apply aB<;>simp[hN,i0]) ?_
 rintro⟨a,b,q⟩ ⟨h1,h2,h3⟩
 simp only at h1 h2 h3;have lA:(blk (fE cmp) 20 (xs.take a)).length=a:=by rw[yfg (by omega) _ _ (Nat.le_refl _),zay];omega
 rcases zaq N b with hlt|hge
 .have q1:((b:Int)<=(N:Int))=False:=by simp;omega
  have q1':(b<=N)=False:=by simp;omega
  obtain⟨e1,e2⟩:=yHd (lt:=fE cmp) (xs:=xs) h1 (by omega) (by omega);have hi:=yvh cmp _ _ _ _ _ e1 e2 a N N lA.symm (by rw[zaJ];omega) (by rw[yj4];exact hN) hn1 hn2 f ca cb hf (λx y hx hy=>hc x y (hS x (zaI hx)) (hS y (zaI hy)));have lb:(blk (fE cmp) 20 xs).length=N:=by rw[yfg (by omega) _ _ (Nat.le_refl _)];exact hN.symm
  have ls:(ykQ (fE cmp) xs a).length=N:=by rw[yj4];exact hN.symm
  refine yaed q1 q1' ?_;refine tH (up:=some (0,.row 1 ((blk (fE cmp) 20 xs).map kC))) hi (by simp) rfl rfl (qH (rows:=(ykQ (fE cmp) xs a).map kC) (by simp) rfl rfl (by simp[ls]) (by simp[ls,lb]) rfl rfl) (goQ_ ?_);refine qA (ι:=Nat) (λs=>20<=s/\s<=2*N+20) (λs=>xC [(0,.own 0 1 N),(1,.c (.i N)),(2,.fn f [.elt ca,.elt cb]),(6,.c (.i s)),(1000000,.own 0 1 N)] [(0,.row 1 ((blk (fE cmp) s xs).map kC))]) (λs=>N-s) 20 ⟨Nat.le_refl _,by omega⟩ (by apply aB<;>simp) ?_
  rintro s ⟨s1,s2⟩
  rcases zaq s N with slt|sge
  .obtain⟨t,ht⟩:∃t,t=2*s:=⟨_,rfl⟩;have et:2*(s:Int)=(t:Int):=by omega
   have et2:(s:Int)*2=(t:Int):=by omega
   have i2:ykS (fE cmp) s xs 0=blk (fE cmp) s xs:=by simp[ykS,blk,bl]
   refine yaed (fC slt) et ?_;refine⟨by unfold inI;omega,?_⟩;refine qA (ι:=Nat×Nat×Nat) (λz=>z.1=z.2.2*(2*s)/\z.2.1=z.1+2*s/\z.1<=N) (λz=>xC [(0,.own 0 1 N),(1,.c (.i N)),(2,.fn f [.elt ca,.elt cb]),(6,.c (.i s)),(7,.c (.i z.1)),(8,.c (.i z.2.1)),(1000000,.own 0 1 N)] [(0,.row 1 ((ykS (fE cmp) s xs z.1).map kC))]) (λz=>N-z.1) (0,t,0) ⟨by simp,by simp only;omega,zbA _⟩ (by apply aB<;>simp[i2]) ?_
   rintro⟨a,b,q⟩ ⟨h1,h2,h3⟩
   simp only at h1 h2 h3;obtain⟨m,hm⟩:∃m,m=a+s:=⟨_,rfl⟩;have em:((a:Int)+s)=(m:Int):=by omega
   have ls:(ykS (fE cmp) s xs a).length=N:=by rw[ysK (by omega)];exact hN.symm
   have lb:(blk (fE cmp) t xs).length=N:=by rw[yfg (by omega) _ _ (Nat.le_refl _)];exact hN.symm
   rcases zaq N b with blt|bge
   .have q2:((b:Int)<=(N:Int))=False:=by simp;omega
    have q2':(b<=N)=False:=by simp;omega
    rcases zaq m N with mlt|mge
    .have g:=yxC h hS hup (by omega) h1 (b:=N) (N:=N) (by rw[if_neg (by omega)];exact hN) (by omega) hN hn2;rw[if_neg (by omega),<-hm,<-ht]at g;have hms:=yCQ h hf hc _ _ _ _ _ _ _ _ _ _ _ (Nat.le_refl _) g;refine yaeV q2 q2' em (fC mlt) ?_;refine⟨by unfold inI;omega,?_⟩;refine tH (up:=some (0,.row 1 ((blk (fE cmp) t xs).map kC))) hms (by simp) rfl rfl (qH (rows:=(ykS (fE cmp) s xs a).map kC) (by simp) rfl rfl (by simp[ls]) (by simp[ls,lb]) rfl rfl) (yafw et2 ?_);refine⟨by unfold inI;omega,t,⟨by omega,by omega⟩,by omega,?_⟩;apply aB<;>simp
    .have e:=yF0 (lt:=fE cmp) (xs:=xs) (s:=s) (by omega) h1 (by omega) (by omega);rw[<-ht]at e;rw[e];refine yaff q2 q2' em (aG mge) et2 ?_;refine⟨by unfold inI;omega,by unfold inI;omega,t,⟨by omega,by omega⟩,by omega,?_⟩;apply aB<;>simp
   .have q2:((b:Int)<=(N:Int))=True:=by simp;omega
    have q2':(b<=N)=True:=by simp;omega
    have g:=yxC h hS hup (by omega) h1 (b:=b) (N:=N) (by rw[if_pos (by omega)];exact h2) (by omega) hN hn2;rw[if_pos (by omega),<-hm,<-h2]at g;have hms:=yCQ h hf hc _ _ _ _ _ _ _ _ _ _ _ (Nat.le_refl _) g;have ls2:(ykS (fE cmp) s xs b).length=N:=by rw[ysK (by omega)];exact hN.symm
    obtain⟨b2,hb2⟩:∃b2,b2=b+t:=⟨_,rfl⟩;have eb2:((b:Int)+t)=(b2:Int):=by omega
    refine yaeT q2 q2' em ?_;refine⟨by unfold inI;omega,?_⟩;refine tH (up:=some (0,.row 1 ((ykS (fE cmp) s xs b).map kC))) hms (by simp) rfl rfl (qH (rows:=(ykS (fE cmp) s xs a).map kC) (by simp) rfl rfl (by simp[ls]) (by simp[ls,ls2]) rfl rfl) (yaed et eb2 ?_);refine⟨by unfold inI;omega,by unfold inI;omega,b,b2,⟨⟨q+1,by rw[zdW];omega⟩,by omega,bge⟩,by omega,?_⟩;apply aB<;>simp
  .have e:blk (fE cmp) s xs=sorted (fE cmp) xs:=ypX (by omega) (by omega);rw[e];refine yafw (aG sge) ?_;exact⟨by rw[List.take_of_length_le (by rw[zam,hpl];omega)],by simp[ybG]⟩
 .have q1:((b:Int)<=(N:Int))=True:=by simp;omega
  have q1':(b<=N)=True:=by simp;omega
  obtain⟨e1,e2⟩:=yEY (lt:=fE cmp) (xs:=xs) h1 (by omega);rw[<-h2]at e1 e2;have hi:=yvh cmp _ _ _ _ _ e1 e2 a b N lA.symm (by rw[zay,zaJ];omega) (by rw[yj4];exact hN) hn1 hn2 f ca cb hf (λx y hx hy=>hc x y (hS x (zaI (zas hx))) (hS y (zaI (zas hy))));have ls:(ykQ (fE cmp) xs a).length=N:=by rw[yj4];exact hN.symm
  have lb:(ykQ (fE cmp) xs b).length=N:=by rw[yj4];exact hN.symm
  obtain⟨b2,hb2⟩:∃b2,b2=b+20:=⟨_,rfl⟩;have eb2:((b:Int)+20)=(b2:Int):=by omega
  refine yaed q1 q1' ?_;refine tH (up:=some (0,.row 1 ((ykQ (fE cmp) xs b).map kC))) hi (by simp) rfl rfl (qH (rows:=(ykQ (fE cmp) xs a).map kC) (by simp) rfl rfl (by simp[ls]) (by simp[ls,lb]) rfl rfl) (yafw eb2 ?_);refine⟨by unfold inI;omega,b,b2,⟨⟨q+1,by rw[zdW];omega⟩,by omega,hge⟩,by omega,?_⟩;apply aB<;>simp
def yHM(h:SWO (fE cmp) S)(hf:∃fn,Tryz.prog.funcs[f]?=some fn∧fn.body.isSome=true∧(fn.name != "runtime.NumGoroutine")=true)
 (hc:∀x y:Nat,S x->S y->qB prg f [.c (.i x),.c (.i y),.elt ca,.elt cb] (.c (.i (cmp x y)))) (xs:List Nat) (hS:∀x∈xs,S x) (hup:xs.Pairwise (·<·)) (hn1:1<=xs.length) (hn2:xs.length<=1048576):
 InF prg 257 (.c (cw 1 (xs.map kC))) (.c (cw 1 ((sorted (fE cmp) xs).map kC))) [.fn f [.elt ca,.elt cb]] (.tup []):=by
 have hpl:(sorted (fE cmp) xs).length=xs.length:=sorted_perm.length_eq;have hi:=yER h hf hc xs hS hup xs.length rfl hn1 hn2;have hcw:cw 1 ((sorted (fE cmp) xs).map kC)=.ow 1 ((sorted (fE cmp) xs).map kC):=kH (by rw[zam,hpl];omega);have hcw0:cw 1 (xs.map kC)=.ow 1 (xs.map kC):=kH (by simp;omega);rw[hcw,hcw0];refine aK iM (by simp) (by simp) rfl λhwf=>?_;refine goQ_ ?_;intro _;refine tH (up:=some (0,.row 1 ((sorted (fE cmp) xs).map kC))) hi (by simp) rfl rfl (qH (rows:=xs.map kC) (by simp) rfl rfl (by simp) (by simp[hpl]) rfl rfl) (goQ_ ?_);exact⟨by rw[List.take_of_length_le (by rw[zam,hpl];exact Nat.le_refl _)],by simp[ybG]⟩
end
def yrc(list:List yR4)(i:Nat):Bool:=(list[i]?.map λc=>c.yRT.Up).getD false
def yoY{list:List yR4}{i:Nat}{c:yR4}(h:list[i]?=some c):yrc list i=c.yRT.Up:=by simp[yrc,h]
def yhi(list:List yR4)(o:List Nat)(t:Turn):Bool:=
 if yrc list (o[0]?.getD 0)≠t.Up\/t.Count<3 then yrc list (o[0]?.getD 0)
 else if o.all λi=>yrc list i==yrc list (o[0]?.getD 0)then yrc list (o[0]?.getD 0)else !(yrc list (o[0]?.getD 0))
def mW(list:List yR4)(t:Turn)(now:Int):Bool×Bool:=
 if(kS list now).length=0\/ybY t=false then(false,false)else(yhi list (kS list now) t,true)
def yjA{list:List yR4}{now:Int}:∀x∈kS list now,x<list.length:=λx hx=>yxB (sorted_perm.mem_iff.1 hx)
def ygT{list:List yR4}{now:Int}:(kS list now).length<=list.length:=by
 unfold kS;rw[sorted_perm.length_eq];exact ync
def nY(t:Turn)(up:Bool):Turn:=
 if ybY t=true then if t.Up=up then⟨up,if 1000000<t.Count+1 then 1000000 else t.Count+1⟩else⟨up,1⟩else t
def ywG(t:Turn)(up:Bool):qB prg 292 [.agg (t.enc.map .c),.c (.b up)] (.agg ((nY t up).enc.map .c)):=by
 refine dB yrG (goQ_ ?_);refine aA (yjQ t) ?_;cases h1:ybY t with
 |false=>simp -dsimp -implicitDefEqProofs;simp[nY,h1]
 |true=>
 have hc1:=aC.1 h1
 by_cases hu:t.Up=up
 .refine yafw hu ?_;refine⟨by unfold inI;omega,?_⟩;simp[nY,h1,hu]
 .refine yafw hu ?_;simp[nY,h1,hu]
def yBj(a1 a2 a3 a4 b1 b2 b3 b4:Int):Prop:=a1<b1\/(a1=b1/\(a2<b2\/(a2=b2/\(a3<b3\/(a3=b3/\a4<b4)))))
def bkey(a:yR4)(now:Int):Int:=if rF a now= -1 then a.Booked else 0
def yG{a b:yR4}{now:Int}(ha:rF a now≠3)(hb:rF b now≠3):
 before a b now=true↔yBj (rF a now) (bkey a now) a.Since ((lG a.yRT)[0]?.getD 0) (rF b now) (bkey b now) b.Since ((lG b.yRT)[0]?.getD 0):=by
 unfold before yBj bkey;rw[if_neg (by simp[ha,hb])];generalize rF a now=r at *;generalize rF b now=r' at *;generalize(lG a.yRT)[0]?.getD 0=i;generalize(lG b.yRT)[0]?.getD 0=i'
 by_cases h1:r=r'
 .subst h1;rw[if_neg (by simp)]
  by_cases h2:r= -1
  .rw[if_pos h2,if_pos h2]
   by_cases h3:a.Booked=b.Booked
   .rw[if_neg (by simp[h3])];split<;>simp only[decide_eq_true_eq,true_and]<;>constructor<;>intro h<;>(refine Classical.byContradiction λhn=>?_)<;>omega
   .rw[if_pos ⟨h2,h3⟩];simp only[decide_eq_true_eq,true_and];constructor<;>intro h<;>(refine Classical.byContradiction λhn=>?_)<;>omega
  .rw[if_neg h2,if_neg h2,if_neg (by simp[h2])];split<;>simp only[decide_eq_true_eq,true_and]<;>constructor<;>intro h<;>(refine Classical.byContradiction λhn=>?_)<;>omega
 .rw[if_pos h1];simp only[decide_eq_true_eq,true_and];constructor<;>intro h<;>(refine Classical.byContradiction λhn=>?_)<;>omega
def yJS(list:List yR4)(now:Int)(x:Nat):Prop:=∃c,list[x]?=some c/\rF c now≠3
def dS{list:List yR4}{now:Int}{x y:Nat}{a b:yR4}(ha:list[x]?=some a)(hb:list[y]?=some b):fE (yrt list now) x y=before a b now:=by
 unfold fE yrt;rw[ha,hb];simp only
 by_cases h1:before a b now=true
 .simp[h1]
 .by_cases h2:before b a now=true<;>simp[h1,h2]
def yCB(list:List yR4)(now:Int):SWO (fE (yrt list now)) (yJS list now):=by
 refine⟨?_,?_,?_⟩
 .rintro x y ⟨a,ha,ra⟩ ⟨b,hb,rb⟩ h
  rw[dS ha hb,yG ra rb]at h;rw[dS hb ha,<-zcV,yG rb ra];unfold yBj at *;omega
 .rintro x y z ⟨a,ha,ra⟩ ⟨b,hb,rb⟩ ⟨c,hc,rc⟩ h h'
  rw[dS ha hb,yG ra rb]at h;rw[dS hb hc,yG rb rc]at h';rw[dS ha hc,yG ra rc];unfold yBj at *;omega
 .rintro x y z ⟨a,ha,ra⟩ ⟨b,hb,rb⟩ ⟨c,hc,rc⟩ h h'
  rw[dS ha hb,<-zcV,yG ra rb]at h;rw[dS hb hc,<-zcV,yG rb rc]at h';rw[dS ha hc,<-zcV,yG ra rc];unfold yBj at *;omega
def yHD{list:List yR4}{now:Int}{k x:Nat}(hk:k<=list.length)(h:x∈oU list now k):yJS list now x:=by
 unfold oU at h;obtain⟨h1,h2⟩:=zbE.1 h;rw[zaQ]at h1;have h3:list[x]?=some (list[x]'(by omega)):=zab (by omega);rw[h3]at h2;exact⟨_,h3,by simpa using h2⟩
def yEz{list:List yR4}{now:Int}{k:Nat}:(oU list now k).Pairwise (·<·):=List.Pairwise.filter _ List.pairwise_lt_range
def yf8(list:List yR4)(now:Int)(hs:oM list):
 nI prg 287 [.c (.sl 4 (list.map yR4.enc)),.c (.i now)] (.c (.ow 1 ((kS list now).map kC))):=by
 have hl:=hs.1;refine fF yn1 (goQ_ ?_);intro hlen;refine jX (k0:=1) 5 1 (by simp) (by simp) (by decide) ?_;refine yX2 (λk=>k<=list.length) (λk=>xC [(2,.box 2 0),(3,.box 3 0),(5,.own 5 1 (oU list now k).length),(8,.c (.sl 4 (list.map yR4.enc))),(9,.c (.i list.length)),(10,.c (.i k))] [(2,.box [.c (.sl 4 (list.map yR4.enc))]),(3,.box [.c (.i now)]),(5,.row 1 ((oU list now k).map kC))]) (λk=>list.length-k) (by apply aB<;>simp[oU]) ?_
 rintro k hk
 have hrl:=ync (list:=list) (now:=now) (k:=k);rcases yX1 k list with⟨hlt,c,hc⟩|hge
 .have g1:=(zaa.1 hc).2;have sc:=hs.2 c (zac hc);have hrs:=yqT (now:=now) hc;refine yaeV hc g1 (fC hlt) hlt ?_;refine aA (ykx c now sc) ?_
  by_cases h3:rF c now=3
  .rw[if_pos h3]at hrs;refine yafw h3 ?_;refine⟨gB hlt hlen,k+1,hlt,by omega,?_⟩;apply aB<;>simp[hrs]
  .rw[if_neg h3]at hrs;refine yafw h3 ?_;refine⟨by omega,gB hlt hlen,k+1,hlt,by omega,?_⟩;apply aB<;>simp[hrs,kC]
 .have hkn:k=list.length:=by omega
  subst hkn;refine goQ_ ?_;have ho:kS list now=sorted (fE (yrt list now)) (oU list now list.length):=rfl
  have hsort:InF prg 257 (.c (cw 1 ((oU list now list.length).map kC))) (.c (cw 1 ((kS list now).map kC))) [.fn 357 [.elt [.sl 4 (list.map yR4.enc)],.elt [.i now]]] (.tup []):=by
   rcases zau (oU list now list.length).length with e|e
   .have e2:=zav.1 e;rw[ho,e2];exact yv1 _ _ _
   .refine yHM (yCB list now) ⟨Tryz.f357,Tryz.func357,rfl,by decide⟩ (λx y hx hy=>?_) _ (λx hx=>yHD (Nat.le_refl _) hx) yEz e (by omega);obtain⟨a,ha,_⟩:=hx;obtain⟨b,hb,_⟩:=hy;exact yBw list now hs x y (zaa.1 ha).1 (zaa.1 hb).1
  have hol:(kS list now).length=(oU list now list.length).length:=by rw[ho];exact sorted_perm.length_eq
  generalize kS list now=o at *;generalize oU list now list.length=r at *;refine yw0 (up:=some (5,.row 1 (o.map kC))) hsort ⟨yHw ⟨yjt (by simp) (by simp[kQ]),yjt (by simp) (by simp[kQ]),trivial⟩,trivial⟩ (yDZ o) rfl (qH (rows:=r.map kC) (by simp) rfl rfl (by simp) (by simp[hol]) rfl rfl) (goQ_ ?_);rw[<-hol,jA]
def yko(c:yR4)(now:Int)(h:c.small):qB prg 364 [.agg (c.enc.map .c),.c (.i now)] (.c (.i (rF c now))):=by
 refine dB yvy (goQ_ ?_);refine aA (yqK c h) ?_;cases h1:jO c with
 |false=>simp -dsimp -implicitDefEqProofs;simp[rF,h1]
 |true=>
 have cf:=yqg h1;have f1:=cf.cls;have f2:=cf.snc;have f3:=cf.bkd;refine goQ_ ?_;refine aA (bC now c.Since 1000000) ?_;cases h2:inRange now c.Since 1000000 with
 |false=>simp -dsimp -implicitDefEqProofs;simp[rF,h1,h2]
 |true=>
 have r2:=aC.1 h2
 have hq:0<=(now-c.Since).tdiv 20/\(now-c.Since).tdiv 20<=50000:=by
  rw[zaz (by omega)];omega
 have fin:¬(c.Booked≠ -1/\c.Booked<=now)->rF c now=if(now-c.Since).tdiv 20<qO c.yRT then qO c.yRT-(now-c.Since).tdiv 20 else 0:=λhn=>by
  unfold rF;rw[if_pos ⟨h1,h2⟩,if_neg hn]
 have fyes:(c.Booked≠ -1/\c.Booked<=now)->rF c now= -1:=λhn=>by
  unfold rF;rw[if_pos ⟨h1,h2⟩,if_pos hn]
 refine goQ_ ?_;refine aA (bC c.Booked 0 now) ?_;cases h3:inRange c.Booked 0 now with
 |true=>
  have r3:=aC.1 h3;refine goQ_ ?_;exact fyes ⟨by omega,by omega⟩
 |false=>
  have r3:=gV.1 h3;rw[fin (by omega)];refine goQ_ ?_;refine lC (yoZ c.yRT h) (goQ_ ?_);exact⟨by unfold inI;omega,by unfold inI;omega,by unfold inI;omega⟩
def ypO(a b:yR4)(now:Int)(ha:a.small)(hb:b.small):qB prg 365 [.agg (a.enc.map .c),.agg (b.enc.map .c),.c (.i now)] (.c (.b (before a b now))):=by
 refine dB ynp (goQ_ ?_);refine aA (yko a now ha) (goQ_ ?_);refine aA (yko b now hb) ?_
 by_cases h1:rF a now=3
 .refine yafw h1 ?_;simp[before,h1]
 by_cases h2:rF b now=3
 .refine yaed h1 h2 ?_;simp[before,h2]
 by_cases h3:rF a now=rF b now
 rotate_left
 .refine yaeT h1 h2 h3 ?_;simp[before,h1,h2,h3]
 have last:a.Since=b.Since->¬(rF a now= -1/\a.Booked≠b.Booked)->before a b now=decide ((lG a.yRT)[0]?.getD 0<(lG b.yRT)[0]?.getD 0):=λh5 h6=>by
  unfold before;rw[if_neg (by simp[h1,h2]),if_neg (by simp[h3]),if_neg h6,if_neg (by simp[h5])]
 have snc:a.Since≠b.Since->¬(rF a now= -1/\a.Booked≠b.Booked)->before a b now=decide (a.Since<b.Since):=λh5 h6=>by
  unfold before;rw[if_neg (by simp[h1,h2]),if_neg (by simp[h3]),if_neg h6,if_pos h5]
 have bkd:(rF a now= -1/\a.Booked≠b.Booked)->before a b now=decide (a.Booked<b.Booked):=λh6=>by
  unfold before;rw[if_neg (by simp[h1,h2]),if_neg (by simp[h3]),if_pos h6]
 obtain⟨_,pa⟩:=yli h1;obtain⟨_,pb⟩:=yli h2;obtain⟨x,hx⟩:∃x,(lG a.yRT)[0]?=some x:=⟨_,zab pa⟩;obtain⟨y,hy⟩:∃x,(lG b.yRT)[0]?=some x:=⟨_,zab pb⟩;have gx:=(zaa.1 hx).2;have gy:=(zaa.1 hy).2
 by_cases h6:rF a now= -1/\a.Booked≠b.Booked
 .have h3':rF b now= -1:=by rw[<-h3];exact h6.1
  simp -dsimp -implicitDefEqProofs [h1,h2,h3,h6.1,h6.2,h3'];rw[bkd h6]
 by_cases h5:a.Since=b.Since
 rotate_left
 .by_cases h7:rF a now= -1
  .have h8:a.Booked=b.Booked:=by
    by_cases h:a.Booked=b.Booked
    .exact h
    .exact absurd ⟨h7,h⟩ h6
   have h3':rF b now= -1:=by rw[<-h3];exact h7
   refine yaeV h7 h8 h5 h3' ?_;rw[snc h5 h6]
  .have h3':¬rF b now= -1:=by rw[<-h3];exact h7
   refine yaff h1 h2 h3 h5 h3' ?_;rw[snc h5 h6]
 .have hl:=last h5 h6;rw[hx,hy]at hl;simp only[zbc]at hl
  by_cases h7:rF a now= -1
  .have h8:a.Booked=b.Booked:=by
    by_cases h:a.Booked=b.Booked
    .exact h
    .exact absurd ⟨h7,h⟩ h6
   have h3':rF b now= -1:=by rw[<-h3];exact h7
   refine yaeV h7 h8 h5 h3' ?_;refine gX (yaG a.yRT ha) (yaeT pa hx gx ?_);refine gX (yaG b.yRT hb) (yaeT pb hy gy ?_);rw[hl]
  .have h3':¬rF b now= -1:=by rw[<-h3];exact h7
   refine yaff h1 h2 h3 h5 h3' ?_;refine gX (yaG a.yRT ha) (yaeT pa hx gx ?_);refine gX (yaG b.yRT hb) (yaeT pb hy gy ?_);rw[hl]
def yAd{lt:Nat->Nat->Bool}{xs:List Nat}{x:Nat}:∀i:Nat,i<=xs.length->yeu lt (xs++[x]) i=yeu lt xs i
 |0,_=>rfl
 |i+1,h=>by
  have h1:(xs++[x])[i]?=xs[i]?:=zaT (by omega);have h2:xs[i]?=some (xs[i]'(by omega)):=zab (by omega);rw[ydH (h1.trans h2),ydH h2,yAd i (by omega)]
def yzw{lt:Nat->Nat->Bool}{xs:List Nat}{x:Nat}:sorted lt (xs++[x])=yri lt x (sorted lt xs):=by
 unfold sorted;rw[zah,zaY,ydH (x:=x) (by simp),yAd _ (Nat.le_refl _)]
def ybw(list:List yR4)(now:Int)(k:Nat):List Nat:=sorted (fE (yrt list now)) (oU list now k)
def yHI{list:List yR4}{now:Int}{k x:Nat}(h:x∈ybw list now k):x<k:=yxB (sorted_perm.mem_iff.1 h)
def yD7{list:List yR4}{now:Int}{k:Nat}:(ybw list now k).length<=k:=by unfold ybw;rw[sorted_perm.length_eq];exact ync
def ygN(list:List yR4)(now:Int)(hs:oM list):
 nI prg 311 [.c (.sl 4 (list.map yR4.enc)),.c (.i now)] (.c (.ow 1 ((kS list now).map kC))):=by
 have hl:=hs.1;refine fF yoX (goQ_ ?_);refine yX2 (λk=>k<=list.length) (λk=>xC [(0,.c (.sl 4 (list.map yR4.enc))),(1,.c (.i now)),(5,.own 8 1 (ybw list now k).length),(6,.c (.i k))] [(8,.row 1 ((ybw list now k).map kC))]) (λk=>list.length-k) (by apply aB<;>simp[ybw,oU,sorted,yeu]) ?_
 rintro k hk
 have hsl:=yD7 (list:=list) (now:=now) (k:=k);rcases yX1 k list with⟨hlt,c,hc⟩|hge
 .have g1:=(zaa.1 hc).2;have sc:=hs.2 c (zac hc);have hrs:=yqT (now:=now) hc;refine yaeV hc g1 (fC hlt) hlt ?_;intro hlen;refine aA (yko c now sc) ?_
  by_cases h3:rF c now=3
  .rw[if_pos h3]at hrs;have hs2:ybw list now (k+1)=ybw list now k:=by unfold ybw;rw[hrs]
   refine yafw h3 ?_;refine⟨gB hlt hlen,k+1,hlt,by omega,?_⟩;apply aB<;>simp[hs2]
  .rw [if_neg h3]at hrs;have hs2:ybw list now (k+1)=yri (fE (yrt list now)) k (ybw list now k):=by unfold ybw;rw[hrs,yzw]
   have hPlt:∀y∈ybw list now k,y<list.length:=λy hy=>Nat.lt_trans (yHI hy) hlt;refine yafw h3 ?_;intro hlen2;generalize ybw list now k=P at *;refine qA (ι:=Nat×List Nat×List Nat) (λp=>p.1=p.2.1.length/\p.2.1++p.2.2=P/\∀y∈p.2.2,fE (yrt list now) k y=true) (λp=>xC [(0,.c (.sl 4 (list.map yR4.enc))),(1,.c (.i now)),(5,.own 8 1 P.length),(6,.c (.i k)),(7,.c (.i p.1))] [(8,.row 1 (P.map kC))]) (λp=>p.1) (P.length,P,[]) ⟨rfl,by simp,by simp⟩ (by apply aB<;>simp) ?_
   rintro⟨j,l1,l2⟩ ⟨hj,he2,h2⟩
   simp only at hj he2 h2;have fin:(∀l y,l1=l++[y]->fE (yrt list now) k y=false)->ybw list now (k+1)=l1++k::l2:=λh1=>by rw[hs2];exact yyn he2 h2 h1
   rcases zbR l1 with e0|⟨l,y,e0⟩
   .have hfin:=fin (λl y h=>by rw[e0]at h;simp at h);have hj0:j=0:=by rw[hj,e0];rfl
    subst hj0;have hP0:l2=P:=by rw[<-he2,e0];rfl
    have hrow:(kC k::P.map kC)=(ybw list now (k+1)).map kC:=by rw[hfin,e0,hP0];rfl
    have hlen3:1+P.length=(ybw list now (k+1)).length:=by rw[hfin,e0,hP0];simp;omega
    refine goQ_ ?_;refine⟨by omega,gB hlt hlen,k+1,hlt,by omega,?_⟩;refine yyv 44 8 ?_;apply aB<;>simp[AV.ren,AV.yzO,AV.ytG,Obj.ren,yas,hrow,hlen3];rw[List.take_of_length_le (by simp)];exact hrow
   .rw[zbS]at e0;subst e0;obtain⟨m,hm⟩:∃m,m=l.length:=⟨_,rfl⟩;have hj2:j=m+1:=by rw[hj,hm];simp
    have ej:((j:Int)-1)=(m:Int):=by omega
    have j0:0<j:=by omega
    have hyP:y∈P:=by rw[<-he2];simp
    have hy:P[m]?=some y:=by rw[<-he2,hm];simp
    have gy:=(zaa.1 hy).2;have my:=(zaa.1 hy).1;have hyl:=hPlt y hyP;obtain⟨d,hd⟩:∃x,list[y]?=some x:=⟨_,zab hyl⟩;have gd:=(zaa.1 hd).2;have sd:=hs.2 d (zac hd);have hlb:=dS (now:=now) hc hd;simp -dsimp -implicitDefEqProofs [j0,ej,hc,g1,hlt,hy,gy,my,hyl,hd,gd,kC];refine⟨by unfold inI;omega,?_⟩;refine lC (ypO c d now sc sd) ?_;cases hb:before c d now with
    | true=>
     refine yafw ej ?_;refine⟨by unfold inI;omega,m,⟨l,hm,y::l2,by rw[<-he2];simp,λz hz=>?_⟩,by omega,?_⟩
     .rcases zaC.1 hz with hz|hz
      .subst hz;rw[hlb,hb]
      .exact h2 z hz
     .apply aB<;>simp[kC]
    | false=>
     have hfin:=fin λl' y' h=>by
      have:=(zdz h rfl).2;simp at this;subst this;rw[hlb,hb]
     have hjl:j<=P.length:=by omega
     have htk:List.take j (List.map kC P)=(l++[y]).map kC:=by rw[<-zaV,<-he2,hj,List.take_left' rfl]
     have hdr:List.drop j (List.map kC P)=l2.map kC:=by rw[<-zcF,<-he2,hj,List.drop_left' rfl]
     have hl2:P.length=j+l2.length:=by rw[<-he2,hj];simp;omega
     have hlen3:(ybw list now (k+1)).length=min j P.length+1+(P.length-j):=by rw[hfin];simp at hj|-;omega
     refine goQ_ ?_;refine⟨hjl,by omega,by omega,hjl,by omega,gB hlt hlen,k+1,hlt,by omega,?_⟩;refine yyv 44 8 ?_;apply aB<;>simp[AV.ren,AV.yzO,AV.ytG,Obj.ren,yas,hlen3];rw[htk,hdr,hfin,List.take_of_length_le (by rw[zam];omega)];simp[kC]
 .have hkn:k=list.length:=by omega
  subst hkn;refine yafw (aG hge) ?_;intro _;exact(List.take_of_length_le (by simp[ybw,kS])).symm
def yiB(list:List yR4)(now:Int)(hs:oM list):qB prg 311 [.c (.sl 4 (list.map yR4.enc)),.c (.i now)] (.c (.sl 1 ((kS list now).map kC))):=(ygN list now hs).pure rfl
def yjM(list:List yR4)(t:Turn)(now:Int)(hs:oM list):
 qB prg 276 [.c (.sl 4 (list.map yR4.enc)),.agg (t.enc.map .c),.c (.i now)] (.tup [.c (.b (mW list t now).1),.c (.b (mW list t now).2)]):=by
 refine dB yrp (goQ_ ?_);refine yX5 (yf8 list now hs) ?_;have hol:=ygT (list:=list) (now:=now);have hlt:=yjA (list:=list) (now:=now);have hns:mW list t now=if(kS list now).length=0\/ybY t=false then(false,false)else(yhi list (kS list now) t,true):=rfl
 generalize mW list t now=R at *;generalize kS list now=o at *;rcases zau o.length with e|e
 .have e2:=zav.1 e;subst e2;refine goQ_ ?_;simp[hns]
 .obtain⟨x,hx⟩:∃x,o[0]?=some x:=⟨_,zab e⟩;have gx:=(zaa.1 hx).2;have e0:(o=[])=False:=by simp only[eq_iff_iff,iff_false];intro h;rw[h]at e;simp at e
  refine yafw e0 ?_;intro hlen;refine aA (yjQ t) ?_;cases h1:ybY t with
  |false=>simp -dsimp -implicitDefEqProofs;simp[hns,h1]
  |true=>
  have hc1:=aC.1 h1;have hxl:=hlt x (zac hx);obtain⟨c,hc⟩:∃e,list[x]?=some e:=⟨_,zab hxl⟩;have gc:=(zaa.1 hc).2;have hup:=yoY hc;have hns2:R=(yhi list o t,true):=by rw[hns,if_neg];simp[h1];exact of_eq_false e0
  have hsd:yhi list o t=if c.yRT.Up≠t.Up\/t.Count<3 then c.yRT.Up else if o.all λi=>yrc list i==c.yRT.Up then c.yRT.Up else !c.yRT.Up:=by
   unfold yhi;rw[hx,zbc,hup]
  rw[hsd]at hns2
  by_cases hu:c.yRT.Up=t.Up
  rotate_left
  .rw[if_pos (.inl hu)]at hns2;simp -dsimp -implicitDefEqProofs [e,hx,gx,kC,hxl,hc,gc,hu];simp[hns2]
  by_cases h3:t.Count<3
  .rw[if_pos (.inr h3)]at hns2;simp -dsimp -implicitDefEqProofs [e,hx,gx,kC,hxl,hc,gc,hu,h3];simp[hns2,hu]
  rw[if_neg (by simp[hu];omega)]at hns2;simp -dsimp -implicitDefEqProofs [e,hx,gx,kC,hxl,hc,gc,hu,h3];rw[hu]at hns2;generalize t.Up=up at *
  refineλ_=>qA (ι:=Nat) (λk=>k<=o.length/\∀y∈o.take k,yrc list y=up) (λk=>xC [(0,.c (.sl 4 (list.map yR4.enc))),(9,.c (.b up)),(41,.own 14 1 o.length),(42,.c (.i o.length)),(43,.c (.i k))] [(14,.row 1 (o.map kC))]) (λk=>o.length-k) 0 (by simp) (by apply aB<;>simp[kC]) ?_
  rintro k ⟨hk,hall⟩
  rcases yX1 k o with⟨hlt2,y,hy⟩|hge
  .have gy:=(zaa.1 hy).2;have hyl:=hlt y (zac hy);obtain⟨d,hd⟩:∃e,list[y]?=some e:=⟨_,zab hyl⟩;have gd:=(zaa.1 hd).2;have hupd:=yoY hd
   by_cases hdu:d.yRT.Up=up
   .simp -dsimp -implicitDefEqProofs [hy,gy,fC hlt2,hlt2,kC,hyl,hd,gd,hdu];refine⟨gB hlt2 hlen,k+1,⟨hlt2,λz hz=>?_⟩,by omega,?_⟩
    .rw[zao,hy]at hz;rcases zaj.1 hz with hz|hz
     .exact hall z hz
     .simp at hz;subst hz;rw[hupd,hdu]
    .apply aB<;>simp[kC]
   .simp -dsimp -implicitDefEqProofs [hy,gy,fC hlt2,hlt2,kC,hyl,hd,gd,hdu];rw[if_neg (by simp;exact⟨y,zac hy,by rw[hupd];exact hdu⟩)]at hns2;simp[hns2]
  .refine yafw (aG hge) ?_;rw[List.take_of_length_le hge]at hall;rw[if_pos (by simpa using hall)]at hns2;simp[hns2]
def ymP(list:List yR4)(t:Turn)(now:Int)(hs:oM list):
 qB prg 206 [.c (.sl 4 (list.map yR4.enc)),.agg (t.enc.map .c),.c (.i now)] (.tup [.c (.b (mW list t now).1),.c (.b (mW list t now).2)]):=by
 refine dB yrd (goQ_ ?_);refine yX5 (ygN list now hs) ?_;have hol:=ygT (list:=list) (now:=now);have hlt:=yjA (list:=list) (now:=now);have hns:mW list t now=if(kS list now).length=0\/ybY t=false then(false,false)else(yhi list (kS list now) t,true):=rfl
 generalize mW list t now=R at *;generalize kS list now=o at *;rcases zau o.length with e|e
 .have e2:=zav.1 e;subst e2;refine goQ_ ?_;simp[hns]
 .obtain⟨x,hx⟩:∃x,o[0]?=some x:=⟨_,zab e⟩;have gx:=(zaa.1 hx).2;have e0:(o=[])=False:=by simp only[eq_iff_iff,iff_false];intro h;rw[h]at e;simp at e
  refine yafw e0 ?_;intro hlen;refine aA (yjN t) ?_;cases h1:ybY t with
  |false=>simp -dsimp -implicitDefEqProofs;simp[hns,h1]
  |true=>
  have hc1:=aC.1 h1;have hxl:=hlt x (zac hx);obtain⟨c,hc⟩:∃e,list[x]?=some e:=⟨_,zab hxl⟩;have gc:=(zaa.1 hc).2;have hup:=yoY hc;have hns2:R=(yhi list o t,true):=by rw[hns,if_neg];simp[h1];exact of_eq_false e0
  have hsd:yhi list o t=if c.yRT.Up≠t.Up\/t.Count<3 then c.yRT.Up else if o.all λi=>yrc list i==c.yRT.Up then c.yRT.Up else !c.yRT.Up:=by
   unfold yhi;rw[hx,zbc,hup]
  rw[hsd]at hns2
  by_cases hu:c.yRT.Up=t.Up
  rotate_left
  .rw[if_pos (.inl hu)]at hns2;simp -dsimp -implicitDefEqProofs [e,hx,gx,kC,hxl,hc,gc,hu];simp[hns2]
  by_cases h3:t.Count<3
  .rw[if_pos (.inr h3)]at hns2;simp -dsimp -implicitDefEqProofs [e,hx,gx,kC,hxl,hc,gc,hu,h3];simp[hns2,hu]
  rw[if_neg (by simp[hu];omega)]at hns2;simp -dsimp -implicitDefEqProofs [e,hx,gx,kC,hxl,hc,gc,hu,h3];rw[hu]at hns2;generalize t.Up=up at *;refine yX2 (λk=>k<=o.length/\∀y∈o.take k,yrc list y=up) (λk=>xC [(0,.c (.sl 4 (list.map yR4.enc))),(8,.own 13 1 o.length),(9,.c (.b up)),(10,.c (.i k))] [(13,.row 1 (o.map kC))]) (λk=>o.length-k) (by apply aB<;>simp[kC]) ?_
  rintro k ⟨hk,hall⟩
  rcases yX1 k o with⟨hlt2,y,hy⟩|hge
  .have gy:=(zaa.1 hy).2;have hyl:=hlt y (zac hy);obtain⟨d,hd⟩:∃e,list[y]?=some e:=⟨_,zab hyl⟩;have gd:=(zaa.1 hd).2;have hupd:=yoY hd
   by_cases hdu:d.yRT.Up=up
   .simp -dsimp -implicitDefEqProofs [hy,gy,fC hlt2,hlt2,kC,hyl,hd,gd,hdu];intro _;refine⟨gB hlt2 hlen,k+1,⟨hlt2,λz hz=>?_⟩,by omega,?_⟩
    .rw[zao,hy]at hz;rcases zaj.1 hz with hz|hz
     .exact hall z hz
     .simp at hz;subst hz;rw[hupd,hdu]
    .apply aB<;>simp[kC]
   .simp -dsimp -implicitDefEqProofs [hy,gy,fC hlt2,hlt2,kC,hyl,hd,gd,hdu];intro _;rw[if_neg (by simp;exact⟨y,zac hy,by rw[hupd];exact hdu⟩)]at hns2;simp[hns2]
  .refine yafw (aG hge) ?_;intro _;rw[List.take_of_length_le hge]at hall;rw[if_pos (by simpa using hall)]at hns2;simp[hns2]
def yc8(now:Int)(p:ySf):Bool:=decide (p.From<=now)&&decide (now<p.Until)
def bW(l:List ySf)(now:Int):Bool:=xO l&&inRange now 0 1000000&&l.all λp=>!yc8 now p
def yAC(l:List ySf)(now:Int):qB prg 286 [.c (.sl 2 (l.map ySf.enc)),.c (.i now)] (.c (.b (bW l now))):=by
 refine dB yvX (goQ_ ?_);refine aA (ymM l) ?_;cases h1:xO l with
 |false=>simp -dsimp -implicitDefEqProofs;simp[bW,h1]
 |true=>
 refine goQ_ ?_;refine aA (iC now 0 1000000) ?_;cases h2:inRange now 0 1000000 with
 |false=>simp -dsimp -implicitDefEqProofs;simp[bW,h2]
 |true=>
 refine goQ_ ?_;intro hlen;refine yX4 (λk=>k<=l.length/\∀p∈l.take k,yc8 now p=false) (λk=>xC [(1,.c (.i now)),(15,.c (.sl 2 (l.map ySf.enc))),(16,.c (.i l.length)),(17,.c (.i k))] []) (λk=>l.length-k) ?_
 rintro k ⟨hk,hno⟩
 rcases yX1 k l with⟨klt,p,hp⟩|kge
 .have gp:=(zaa.1 hp).2;have hmem:=zac hp
  have next:yc8 now p=false->∀p∈l.take (k+1),yc8 now p=false:=by
   intro h0 y hy;rw[zao,hp]at hy;rcases zaj.1 hy with e|e
   .exact hno y e
   .simp at e;rw[e];exact h0
  cases hs:yc8 now p with
  | true=>
   have e:bW l now=false:=by
    have:(l.all λp=>!yc8 now p)=false:=zdl.2 ⟨p,hmem,by simp[hs]⟩;simp[bW,this]
   rw[e];simp only[yc8,zad,decide_eq_true_eq]at hs;simp -dsimp -implicitDefEqProofs [hp,gp,klt,fC klt,hs.1,hs.2]
  |false=>
   have hn:=next hs
   simp only[yc8,zcb,decide_eq_false_iff_not]at hs;refine yaeV hp gp klt (fC klt) ?_;refine⟨λa1=>⟨λa2=>by omega,λa2=>⟨gB klt hlen,k+1,⟨klt,hn⟩,by omega,?_⟩⟩,λa1=>⟨gB klt hlen,k+1,⟨klt,hn⟩,by omega,?_⟩⟩<;>apply aB<;>simp
 .have e:bW l now=true:=by
   have:(l.all λp=>!yc8 now p)=true:=zae.2 λp hp=>by rw[hno p (by rw[List.take_of_length_le kge];exact hp)];rfl
   simp[bW,h1,h2,this]
  exact yafJ (aG kge) e
def rD(x:yRW)(k:Nat)(w:yR8):yRW:={x with yRX:=x.yRX.set k w}
def qJ(x:yRW)(k:Nat)(r:Reach):yRW:={x with yRV:=x.yRV.set k r}
def ycd(x:yRW)(k:Nat)(w:yR8)(hl:x.yRX.length<=1048576)(hk:k<x.yRX.length):qB prg 279 [.agg (x.enc.map .c),.c (.i k),.agg (w.enc.map .c)] (.agg ((rD x k w).enc.map .c)):=by
 refine dB yrs (goQ_ ?_);refine yX5 (yEV x.yRX hl) (yafv hk ?_)
 have e:List.take x.yRX.length ((x.yRX.map yR8.enc).set k w.enc)=(x.yRX.set k w).map yR8.enc:=by
  rw[List.take_of_length_le (by simp),zaP]
 simp only[yR8.enc]at e;simp[rD,e]
def yuW(x:yRW)(k:Nat)(r:Reach)(hl:x.yRV.length<=1048576)(hk:k<x.yRV.length):qB prg 284 [.agg (x.enc.map .c),.c (.i k),.agg (r.enc.map .c)] (.agg ((qJ x k r).enc.map .c)):=by
 refine dB ypn (goQ_ ?_);refine yX5 (yFx x.yRV hl) (yafv hk ?_)
 have e:List.take x.yRV.length ((x.yRV.map Reach.enc).set k r.enc)=(x.yRV.set k r).map Reach.enc:=by
  rw[List.take_of_length_le (by simp),zaP]
 simp only[Reach.enc]at e;simp[qJ,e]
def ys8(x:yRW)(k:Nat)(l:List yR6)(m:yR6)(hs:x.yR3.length<=1048576)(hk:x.yR3[k]?=some l)(hll:l.length<=1048576):
 qB prg 58 [.agg (x.enc.map .c),.c (.i k),.agg (m.enc.map .c)] (.agg ((oG x k m).enc.map .c)):=
 (yAh x k l m hs hk hll).pure (by
  have h:=yv5 x k m;simp[oG,zaP]at h;simp[AV.shr,AV.yoE,dO,C.shr,ykB,oG,zaP,h])
def lI(k:Nat)(g:Int):Nat:=if g=1 then k else k+1
def yd4(k:Nat)(g:Int)(hk:k<=1000):qB prg 280 [.c (.i k),.c (.i g)] (.c (.i (lI k g))):=by
 refine dB ypf (goQ_ ?_)
 by_cases h:g=1
 .simp -dsimp -implicitDefEqProofs [h];simp[lI]
 .refine yafw h ?_;refine⟨by unfold inI;omega,?_⟩;simp[lI,h]
@[simp] def rH(w:yR8)(l:yR0):yR8:=⟨l,w.ySp,w.Rule,w.Pauses,w.Turn,w.Calls⟩
def yag(x:yRW)(k:Nat):Int:=(dW x.yRX k).yR0.Gate
def jM(x:yRW)(k:Nat):Nat:=lI k (yag x k)
def lW(x:yRW)(k:Nat):yR0×yRT×Bool:=sK (dW x.yRX k).yR0 (dR x.yRV (jM x k))
def yfJ(x:yRW)(k:Nat):Int:=if yag x k=1 then(x.ySl.getD (jM x k) default).Long else 0
def iK(x:yRW)(k:Nat):yRW×Bool:=
 if(lW x k).2.2 then(oG (rD x k (rH (dW x.yRX k) (lW x k).1)) (jM x k) ⟨(lW x k).2.1,yfJ x k⟩,true)else(x,false)
structure ySq(x:yRW)(k:Nat):Prop where
 kw:k<x.yRX.length
 kr:k+1<x.yRV.length
 rl:x.yRV.length<=6
 ways:x.ySl.length=x.yRV.length
 mvs:x.yR3.length=x.yRV.length
 few:∀l∈x.yR3,l.length<=24
 lok:lF (dW x.yRX k).yR0=true
 wok:fJ (dW x.yRX k)=true
 sw:yR8.small (dW x.yRX k)
 calls:(dW x.yRX k).Calls.length<=24
 book:x.Book.length<=2000
 pass:x.yR1.length<=500
def ym8{x:yRW}{k:Nat}(h:rC x=true)(hs:x.small)(hk:k<x.yRX.length):ySq x k:=by
 have pl:=yjV h;have p1:=pl.two;have p2:=pl.ways;have p3:=pl.mvs;have p4:=pl.wks;have rf:=(ynr (yCL h).ySA).len;have hw:=yi4 hk
 have hok:fJ (dW x.yRX k)=true:=by
  have hh:=h;simp only[rC,sJ,zad,zae]at hh;exact hh.1.1.1.1.1.1.2.2 _ (zac hw)
 have hok2:=hok;simp only[fJ,zad,decide_eq_true_eq]at hok2
 refine⟨hk,by omega,by omega,p2,p3,λl hl=>?_,hok2.1.1.1.1.1.1,hok,hs.2.2.1.2 _ (zac hw),hok2.1.2,by
  have hh:=h;simp only[rC,kU,zad,decide_eq_true_eq]at hh;exact hh.1.1.1.2.1,by
  have hh:=h;simp only[rC,pO,zad,decide_eq_true_eq]at hh;omega⟩
 obtain⟨j,hj⟩:=zbn.1 hl;have jl:=(zaa.1 hj).1;have hh:=h;simp only[rC,sJ,zad,zae]at hh;have:=hh.1.1.1.1.1.1.2.1.2 (x.ySl[j]'(by omega),l) (zbn.2 ⟨j,by rw[zby];exact⟨zab _,hj⟩⟩);simp only[jS,zad,decide_eq_true_eq]at this;exact this.1.2
def ysR(x:yRW)(k:Nat)(hs:x.small)(F:ySq x k):qB prg 186 [.agg (x.enc.map .c),.c (.i k)] (.tup [.agg ((iK x k).1.enc.map .c),.c (.b (iK x k).2)]):=by
 have kw:=F.kw;have kr:=F.kr;have rl:=F.rl;have wy:=F.ways;have mv:=F.mvs;have hw:=yi4 F.kw;obtain⟨w,hwe⟩:∃w,dW x.yRX k=w:=⟨_,rfl⟩;rw[hwe]at hw;have gw:=(zaa.1 hw).2;have hsd:jM x k=lI k w.yR0.Gate:=by unfold jM yag;rw[hwe]
 have hsl:lI k w.yR0.Gate<x.yRV.length:=by unfold lI;split<;>omega
 have hT:lW x k=sK w.yR0 (dR x.yRV (lI k w.yR0.Gate)):=by unfold lW;rw[hsd,hwe]
 have hr:=ye8 hsl;have hLL:=ysW w.yR0 (dR x.yRV (lI k w.yR0.Gate)) (by have:=F.sw;rw[hwe]at this;exact this.1);rw[<-hT]at hLL;unfold iK;rw[hsd,hwe];generalize lW x k=T at *;obtain⟨side,hside⟩:∃s,lI k w.yR0.Gate=s:=⟨_,rfl⟩;rw[hside]at hsl hr hLL|-;have hSR:=yd4 k w.yR0.Gate (by omega);rw[hside]at hSR;obtain⟨r,hre⟩:∃r,dR x.yRV side=r:=⟨_,rfl⟩;rw[hre]at hr hLL;have gr:=(zaa.1 hr).2;obtain⟨R,hR⟩:∃R,(if T.2.2 then(oG (rD x k (rH w T.1)) side ⟨T.2.1,yfJ x k⟩,true)else(x,false))=R:=⟨_,rfl⟩;rw[hR];obtain⟨wy,hwy⟩:∃wy,x.ySl[side]?=some wy:=⟨_,zab (by omega)⟩;have gwy:=(zaa.1 hwy).2;have lwy:=(zaa.1 hwy).1;obtain⟨ms,hms⟩:∃ms,x.yR3[side]?=some ms:=⟨_,zab (by omega)⟩;have h24:=F.few ms (zac hms)
 have hP:yfJ x k=if w.yR0.Gate=1 then wy.Long else 0:=by
  unfold yfJ yag;rw[hwe,hsd,hside,zaf,hwy];rfl
 refine dB yqh ?_;simp -dsimp -implicitDefEqProofs [ygD,hw,gw,kw,fC kw];refine yYq hSR (yaeT hr gr hsl ?_);refine yYo hLL ?_;cases hb:T.2.2 with
 |false=>
  rw[hb]at hR;obtain rfl:(x,false)=R:=hR;exact goE_
 | true=>
  rw[hb]at hR;have hR:(oG (rD x k (rH w T.1)) side ⟨T.2.1,yfJ x k⟩,true)=R:=hR;have hWW:=ycd x k (rH w T.1) hs.2.2.1.1 kw;have hWM:=λp=>ys8 (rD x k (rH w T.1)) side ms ⟨T.2.1,p⟩ hs.2.2.2.1.1 hms (by omega);rw[hP]at hR;generalize rD x k (rH w T.1)=x1 at *
  by_cases hg:w.yR0.Gate=1
  .rw[if_pos hg]at hR;have hWM:=hWM wy.Long;rw[<-hR];generalize oG x1 side ⟨T.2.1,wy.Long⟩=x2 at *;refine yaeV hg hwy gwy lwy ?_;refine yYo hWW (goQ_ ?_);refine yYo hWM ?_;exact goE_
  .rw[if_neg hg]at hR;have hWM:=hWM 0;rw[<-hR];generalize oG x1 side ⟨T.2.1,0⟩=x2 at *;refine yafw hg ?_;refine yYo hWW (goQ_ ?_);refine yYo hWM ?_;exact goE_
def ybZ(x:yRW)(k:Nat):Bool×Bool:=mW (able (dR x.yRV k) (dR x.yRV (k+1)) (dW x.yRX k)) (dW x.yRX k).Turn x.Time
@[simp] def ya7(w:yR8)(g:Int):yR8:=⟨w.yR0.yra g,w.ySp,w.Rule,w.Pauses,w.Turn,w.Calls⟩
def mG(w:yR8)(N:Bool×Bool):Bool:=!decide (w.yR0.yRY=[])||(N.2&&(N.1 != decide (w.yR0.Gate=2)))
def xY(x:yRW)(k:Nat):yRW:=rD x k (if mG (dW x.yRX k) (ybZ x k)then ya7 (dW x.yRX k) 0 else dW x.yRX k)
def yhK{a b:Reach}{w:yR8}(h:yR8.small w):oM (able a b w):=⟨zaX (zbQ _ _) h.2.2.1,λc hc=>h.2.2.2 c (zbE.1 hc).1⟩
def ywM(x:yRW)(k:Nat)(hs:x.small)(F:ySq x k):qB prg 188 [.agg (x.enc.map .c),.c (.i k)] (.agg ((xY x k).enc.map .c)):=by
 have kw:=F.kw;have kr:=F.kr;have sw:=F.sw;have hw:=yi4 F.kw;have ha:=ye8 (rs:=x.yRV) (k:=k) (by omega);have hb:=ye8 kr;have hA:=yGg x k _ _ _ sw hw ha hb (yBO F.wok) hs.1.1;have hN:=yjM (able (dR x.yRV k) (dR x.yRV (k+1)) (dW x.yRX k)) (dW x.yRX k).Turn x.Time (yhK sw);have hN2:ybZ x k=mW (able (dR x.yRV k) (dR x.yRV (k+1)) (dW x.yRX k)) (dW x.yRX k).Turn x.Time:=rfl;rw[<-hN2]at hN;generalize able (dR x.yRV k) (dR x.yRV (k+1)) (dW x.yRX k)=A at *;unfold xY;generalize ybZ x k=N at *;generalize dW x.yRX k=w at *;have gw:=(zaa.1 hw).2;obtain⟨v,hv⟩:∃v,(if mG w N then ya7 w 0 else w)=v:=⟨_,rfl⟩;rw[hv];have hW2:=ycd x k v hs.2.2.1.1 kw;generalize rD x k v=R at *;refine dB yr2 ?_;simp -dsimp -implicitDefEqProofs [yiM,hw,gw,kw,fC kw];refine yYt hA (goQ_ ?_);refine yYs hN ?_;cases hm:mG w N with
 | true=>
  rw[hm,if_pos rfl]at hv;subst hv
  by_cases hI:w.yR0.yRY=[]
  .simp only[mG,hI,decide_true,zcZ,Bool.false_or,zad,bne_iff_ne]at hm;simp -dsimp -implicitDefEqProofs [hI,hm.1,hm.2];refine iF (hW2) (by simp -dsimp -implicitDefEqProofs [hI]) rfl ?_;exact goE_
  .refine yafw hI ?_;intro _ _;refine yYp hW2 ?_;exact goE_
 | false=>
  rw[hm,if_neg zaH]at hv;subst hv
  have hI:w.yR0.yRY=[]:=by
   by_cases hI:w.yR0.yRY=[]
   .exact hI
   .simp[mG,hI]at hm
  simp only[mG,hI,decide_true,zcZ,Bool.false_or,zcb,bne_eq_false_iff_eq]at hm;cases h2:N.2 with
  |false=>
   refine yaed hI h2 ?_;refine iF (hW2) (by simp -dsimp -implicitDefEqProofs [hI]) rfl ?_;exact goE_
  | true=>
   rw[h2]at hm
   have hm:N.1=decide (w.yR0.Gate=2):=by
    rcases hm with e|e
    .cases e
    .exact e
   refine yaeT hI h2 hm ?_;refine iF (hW2) (by simp -dsimp -implicitDefEqProofs [hI]) rfl ?_;exact goE_
def yoI(w:yR8)(N:Bool×Bool):Bool:=if w.yR0.yRY=[]then !N.1 else(w.yR0.yRY.getD 0 ⟨false,[]⟩).Up
def rests(w:yR8)(N:Bool×Bool):Bool:=decide (w.yR0.yRY=[])&& !N.2
def yan(w:yR8)(N:Bool×Bool):Int:=if yoI w N then 1 else 2
def opening(x:yRW)(k:Nat)(g:Int):yR0×Bool:=tK (dW x.yRX k).yR0 (dR x.yRV k) (dR x.yRV (k+1)) g
def jT(l:yR0)(r:Reach):yR0×Reach:=if bG l<kD r then mM l r else rJ l r
def yls(x:yRW)(k:Nat)(g:Int):yRW:=
 if(opening x k g).2 then rD x k (rH (dW x.yRX k) (opening x k g).1)else qJ (rD x k (rH (dW x.yRX k) (jT (dW x.yRX k).yR0 (dR x.yRV (lI k g))).1)) (lI k g) (jT (dW x.yRX k).yR0 (dR x.yRV (lI k g))).2
def qM(x:yRW)(k:Nat):yRW:=if rests (dW x.yRX k) (ybZ x k)then x else yls x k (yan (dW x.yRX k) (ybZ x k))
set_option maxRecDepth 20000 in
end
end Go.Proofs.YtdadkiofenhnbaaGreat
