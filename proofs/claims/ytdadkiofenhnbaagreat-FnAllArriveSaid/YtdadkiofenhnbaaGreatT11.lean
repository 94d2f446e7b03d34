/- What functions answer, in plain Lean. -/
import Derived.Test.YtdadkiofenhnbaaGreatT10
set_option linter.all false
set_option maxRecDepth 100000
set_option maxHeartbeats 4000000
namespace Go.Proofs.YtdadkiofenhnbaaGreat
open Go.RowKit
noncomputable section
def yagv{x:yRW}{q:Int}(hok:rC x=true)(h1:total x+x.Out=x.Start+x.In)(h4:x.Start+x.In<=200000000)(hq:0<=q/\q<=1000000):
 rC (yS2 x q)=true/\total (yS2 x q)+(yS2 x q).Out=(yS2 x q).Start+(yS2 x q).In/\(yS2 x q).In=x.In/\(yS2 x q).Time=x.Time/\Kept x (yS2 x q):=by
 have wf:=yCL hok;have rf:=ynr wf.ySA;have lp:=yafW hok;have pl:=yjV hok;have p1:=pl.two;have p2:=pl.wks;have w1:=wf.out;have w2:=wf.inn;have w3:=wf.start;have w4:=yXn hok;unfold total at h1
 have hc:yTn x q=true:=by
  simp only[yTn,hok,zaW];exact aC.2 (by omega)
 have S:=yagX (q:=q) rf.ok (yagq hok) (by omega) _ (Nat.le_refl _);obtain⟨l1,l2⟩:=yTG (q:=q) (rs:=x.yRV) (ws:=x.yRX) x.yRX.length;have S:yagU x.yRV x.yRX (stR x q,stW x q):=S;have l1:(stR x q).length=x.yRV.length:=l1;have l2:(stW x q).length=x.yRX.length:=l2;have hn:=λp=>yagZ (p:=p) (x:=x) (q:=q)
 have hdm:(stW x q).map (λw=>(w.yR0.Length,w.yR0.Width))=nO x:=by
  have h:∀k:Nat,k<=x.yRX.length->(ySX q x.yRV x.yRX k).2.map (λw=>(w.yR0.Length,w.yR0.Width))=nO x:=by
   intro k
   induction k with
   |zero=>intro _;rfl
   |succ k ih=>
    intro hk;have l2:=(yTG (q:=q) (rs:=x.yRV) (ws:=x.yRX) k).2;rw[<-ih (by omega)];exact yafc (yi4 (by omega)) rfl
  exact h _ (Nat.le_refl _)
 have e:yS2 x q=⟨x.Time,(stR x q).set (x.yRV.length-1) (yWH (stR x q) (stW x q) x.ySl (x.yRV.length-1)).1,x.ySl,stW x q,x.yR3,x.yR9,x.ySd,x.yRZ,x.Book,x.yR1,x.Start,x.In,x.Out+(yWH (stR x q) (stW x q) x.ySl (x.yRV.length-1)).2⟩:=by
  unfold yS2;rw[if_pos hc]
 rw[e]at hn|-;generalize stR x q=rs at *;generalize stW x q=ws at *;have d1:=ye8 (rs:=rs) (k:=x.yRV.length-1) (by omega);have hto:(yWH rs ws x.ySl (x.yRV.length-1)).1.has (sZ (dR rs (x.yRV.length-1))-(yWH rs ws x.ySl (x.yRV.length-1)).2)/\0<=(yWH rs ws x.ySl (x.yRV.length-1)).2:=yafZ (S.r _ (zac d1));have hsum:=yabn (f:=sZ) (b:=(yWH rs ws x.ySl (x.yRV.length-1)).1) d1;generalize yWH rs ws x.ySl (x.yRV.length-1)=z at *;obtain⟨⟨z1,z2⟩,z3⟩:=hto;have S3:=S.rs;have S4:=S.ws;have ha:=yaft (k:=x.yRV.length-1) S.r z1;have hp:=yafT ha
 have hriv:ySA (rs.set (x.yRV.length-1) z.1)=ySA x.yRV-z.2:=by
  simp only at S3;unfold ySA at S3|-;omega
 simp only at S4 hp;have hnew:=yagY (t:=x.Time) (i:=x.In) (o:=x.Out+z.2) hok (rs:=rs.set (x.yRV.length-1) z.1) (ws:=ws) (by simpa using l1) l2 ha (by omega) S.w (by omega) w2 (by omega);refine⟨hnew,?_,rfl,rfl,hn,rfl,rfl,rfl,hdm,rfl,rfl⟩;unfold total;simp only;omega
def yahL{x:yRW}(h:rC x=true):rC (yTd x)=true:=by
 unfold yTd;split
 .rename_i hc;simp only[zad]at hc;exact hc.2
 .exact h
def yahy{x:yRW}(h:rC x=true):∀k,rC (yTl x k)=true
 |0=>h
 | k+1=>by
  have ih:=yahy h k
  show rC (fQ (yTl x k) k)=true
  unfold fQ;split
  .rename_i hc;simp only[zad]at hc;exact hc.2
  .exact ih
structure Grown(ts:List yRT)(x:yRW):Prop where
 ok:rC x=true
 small:x.small
 kept:total x+x.Out=x.Start+x.In
 same:∀p:yRT->Bool,num p x=ts.countP p
 ent:x.ySd=ts.flatMap lG
 toll:x.yR1.foldl (yaaA x) []=x.Book
 pas:∀p∈x.yR1,p.yRT∈ts
def yahr{ts:List yRT}{x:yRW}(h:∀p:yRT->Bool,num p x=ts.countP p){t:yRT}(ht:t∈yaba x):t∈ts:=by
 classical
 have h1:0<num (λa=>decide (a=t)) x:=zcO.2 ⟨t,ht,by simp⟩;rw[h]at h1;obtain⟨a,ha,e⟩:=zcO.1 h1;have:a=t:=by simpa using e
 rwa [this]at ha
def yagM{ts:List yRT}{x:yRW}{q:Int}(S:Grown ts x)(hq:0<=q/\q<=1000000)(ht:x.Time<1000000)(hw:x.Start+x.In<=100000000):
 Grown ts (ySY x q)/\(ySY x q).Time=x.Time+1/\(ySY x q).Start=x.Start/\(ySY x q).In=x.In+q/\
 ∃new,(ySY x q).yR1=x.yR1++new/\∀p∈new,yagO (ySY x q) p:=by
 have w4:=yXn S.ok;have hr:inRange q 0 1000000000=true:=aC.2 (by omega);have hc:yTS x q=true:=by simp[yTS,S.ok,hr];omega
 have e:ySY x q=yTl (yTY x q) x.yRX.length:=by unfold ySY;rw[if_pos hc]
 have hsm:=yXi (q:=q) S.small;obtain⟨p1,p2,p3,p4,K1⟩:=yagK S.ok S.kept hw hq ht;have k4:=K1.start;obtain⟨s1,s2,s3,s4,K2⟩:=yagv (q:=q) p1 p2 (by omega) hq;have D1:=yahu (x:=yS2 (yS0 x q) q);have hm:(yTY x q)=yTd (yS2 (yS0 x q) q):=rfl;have hms:=yTJ (q:=q) S.small;have D:=D1.trans (yagQ (x:=yTd (yS2 (yS0 x q) q)) (by rw[<-hm];exact hms) x.yRX.length);have hok:=yahy (yahL s1) x.yRX.length;rw[e,hm]at hsm|-;generalize yTl (yTd (yS2 (yS0 x q) q)) x.yRX.length=z at *;generalize yS2 (yS0 x q) q=v at *;generalize yS0 x q=u at *;have hnum:∀p,num p z=ts.countP p:=λp=>by rw[D.num,K2.num,K1.num];exact S.same p
 obtain⟨new,n1,n2,n3⟩:=D.pas;have htar:z.yRZ=x.yRZ:=D.tar.trans (K2.tar.trans K1.tar);have ea:∀y:yRW,y.yRZ=x.yRZ->yaaA y=yaaA x:=λy hy=>by funext b p;unfold yaaA;rw[hy]
 have hps:z.yR1=x.yR1++new:=by rw[n1,K2.pas,K1.pas]
 have d1:=D.total;have d2:=D.out;have d3:=D.start;have d4:=D.inn;have d5:=D.time;refine⟨⟨hok,hsm,by omega,hnum,by rw[D.ent,K2.ent,K1.ent];exact S.ent,?_,?_⟩,by omega,by rw[d3,K2.start,k4],by omega,new,hps,?_⟩
 .rw[hps,ea z htar,zbH,S.toll,n2,ea v (K2.tar.trans K1.tar),K2.book,K1.book]
 .intro p hp;rw[hps]at hp;rcases zaj.1 hp with hp|hp
  .exact S.pas p hp
  .refine yahr (x:=v) (λp=>?_) (n3 p hp).who;rw[K2.num,K1.num];exact S.same p
 .intro p hp;have o:=n3 p hp;refine⟨o.time.trans d5.symm,?_,by have:=o.fits;rwa [D.nO]⟩;have:=o.who;exact yagV (λp=>(D.num p).symm) this
def yafM(x:yRW):yYP x=(yaba x).flatMap lG:=by
 unfold yYP yaba;rw[zaV,zaV,zea,zea]
 have e1:(λl=>(yaaN l).flatMap lG)=yYR:=by
  funext l
  unfold yaaN yYR;rw[zeo];rfl
 have e2:(λw=>(yL w).flatMap lG)=yZy:=by
  funext w
  unfold yL yZy;rw[zaV,zeo];rfl
 rw[e1,e2]
def yafi{ts:List yRT}{x:yRW}(h:∀p:yRT->Bool,num p x=ts.countP p):(yaba x).Perm ts:=by
 classical
 refine List.perm_iff_count.2 λa=>?_;have:=h (λb=>b==a);exact this
def yagj{ts:List yRT}{x:yRW}(G:Grown ts x):(yYP x).Perm (ts.flatMap lG):=by
 rw[yafM];exact(yafi G.same).flatMap_right _
def yagi{ts:List yRT}{x:yRW}(G:Grown ts x)(hn:(ts.flatMap lG).Nodup):yS x=true:=by
 have hp:=yagj G;have hE:=G.ent
 have hK:yN x=true:=by
  have:=yagw G.ok;have hk:=G.kept;unfold total at hk;unfold yN;rw[G.ok,zaW];exact decide_eq_true (by omega)
 have hB:yO x=true:=by
  unfold yO;rw[zad];refine⟨decide_eq_true (by rw[hE,hp.length_eq]),zaf.2 λi hi=>?_⟩;rw[hE]at hi;exact decide_eq_true (by rw[hp.count_eq];exact yahz hn hi)
 have hT:yaam x=true:=by
  unfold yaam;rw[zad];refine⟨zaf.2 λp hpp=>?_,decide_eq_true G.toll⟩;unfold yaad;refine zaf.2 λi hi=>decide_eq_true ?_;rw[hE];exact zaI.2 ⟨p.yRT,G.pas p hpp,hi⟩
 unfold yS;rw[G.ok,hK,hB,hT];rfl
def yahQ{ms:List (List yR6)}{l:List yR6}(h:l∈ms):l.length<=(ms.flatMap yaaN).length:=by
 induction ms with
 |nil=>cases h
 |cons a ms ih=>
  simp only[zaU,zah];rcases zax.1 h with e|e
  .subst e;unfold yaaN;rw[zal];omega
  .have:=ih e;omega
def yagl{ts:List yRT}{x:yRW}{t:yRT}(G:Grown ts x)(ht:oC t=true)(hs:t.small)(hts:∀t∈ts,oC t=true)(hl:ts.length<20)(hnew:∀i∈lG t,i∉ts.flatMap lG):
 yYL x t=(yYK x t,true)/\Grown (ts++[t]) (yYK x t):=by
 have hE:=G.ent
 have hlen:(ts.flatMap lG).length<=6*ts.length:=by
  clear G hE hl hnew
  induction ts with
  |nil=>simp
  |cons a ts ih=>
   have:=(yZJ (hts a (by simp))).2.2.1;have:=ih λt h=>hts t (zbR _ h);simp only[zaU,zah,zar];omega
 have F:=yZQ G.ok ht
 have hroom:∀l∈x.yR3,l.length<24:=λl hl=>by
  have h1:=yahQ hl;have h2:=(yafi G.same).length_eq;unfold yaba at h2;simp only[zah]at h2;omega
 have hok:=yadx G.ok ht hroom (by rw[hE];omega)
 have hall:(lG t).all (yZE x)=true:=zaf.2 λi hi=>by
  unfold yZE;rw[hE];simp only[zbb,decide_eq_false_iff_not];exact hnew i hi
 refine⟨by simp[yYL,G.ok,ht,hall,hok],hok,yZO F G.small hs,G.kept,λp=>?_,?_,G.toll,λp hp=>zbi _ (G.pas p hp)⟩
 .have h1:num p (yYK x t)=num p (oG x (yZr x t) ⟨t,entP x t⟩):=rfl;rw[h1,yafV F.kl,G.same p,zbm];rfl
 .show x.ySd++lG t=_
  rw[hE,zaV];simp
def yaho{x:yRW}(h:Bare x)(hs:x.small):Grown [] x:=by
 have hk:=h.kept;rw[yagw h.ok]at hk;refine⟨h.ok,hs,hk,λp=>?_,h.ent,by rw[h.pas,h.book];rfl,λp hp=>by rw[h.pas]at hp;cases hp⟩;have e1:x.yR3.flatMap yaaN=[]:=zcb.2 λl hl=>by rw[h.mv l hl];rfl
 have e2:x.yRX.flatMap yL=[]:=zcb.2 λw hw=>by obtain⟨a,b⟩:=h.wk w hw;simp[yL,a,b]
 rw[yacy,e1,e2,h.arr];rfl
def yahw(b:Int):List ySc:=[⟨b,0⟩,⟨b+100,10000000⟩]
def yafE(b v:Int):Reach:=⟨yahw b,v,[]⟩
def yajF{b:Int}(hb:0<=b/\b<=1000):sH (yahw b)=true:=by
 simp[sH,yahw,upTo,yhG,yd3,follows,inRange];omega
def yajN{b x:Int}(hb:0<=b/\b<=1000)(hx:b<=x/\x<=b+100):fH (yahw b) x=(x-b)*100000:=by
 unfold fH;rw[if_pos (yajF hb)];have p0:fO (yahw b) 0=⟨b,0⟩:=rfl;have p1:fO (yahw b) 1=⟨b+100,10000000⟩:=rfl;have l1:(yahw b).length-1=1:=rfl;rw[l1,p0,p1];simp only
 by_cases h1:x<=b
 .rw[if_pos h1];have:x=b:=by omega
  subst this;omega
 .rw[if_neg h1]
  by_cases h2:b+100<=x
  .rw[if_pos h2];have:x=b+100:=by omega
   subst this;omega
  .rw[if_neg h2]
   have hs:seg (yahw b) x=0:=by
    simp[seg,yahw,h2]
   rw[hs,p0,p1];simp only[yi8];rw[show b+100-b=(100:Int) by omega,show(x-b)*(10000000-0)=((x-b)*100000)*100 by omega,Int.mul_tdiv_cancel _ (by omega)];omega
def rise(v:Int):Int:=(v+99999)/100000
def yaie{b v:Int}(hb:0<=b/\b<=1000)(hv:0<=v/\v<=10000000):xE (yafE b v)=true:=
 yaeR (yajF hb) hv.1 (by simp) (by simp) (by simp;omega)
def yahS{b v:Int}(hb:0<=b/\b<=1000)(hv:0<=v/\v<=10000000):kD (yafE b v)=b+rise v:=by
 have hr:0<=rise v/\rise v<=100/\v<=rise v*100000/\rise v*100000<=v+99999:=by unfold rise;omega
 have p0:fO (yahw b) 0=⟨b,0⟩:=rfl;have p1:fO (yahw b) ((yahw b).length-1)=⟨b+100,10000000⟩:=rfl
 have hP:=yu1 (l:=yahw b) (y:=v) (p:=b+rise v) (yajF hb) (by rw[p1];simp only;omega) (by rw[p0];simp only;omega) (by rw[p1];simp only;omega) (by rw[yajN hb (by omega)];omega) (λz z1 z2=>by
  rw[p0]at z1;rw[yajN hb (by simp only at z1;omega)];omega)
 have hQ:gU (yafE b v).ySg (yafE b v).ySh=(b+rise v,true):=hP;unfold kD;rw[if_pos (yaie hb hv),hQ];rfl
structure Gear(b:Int)(w:yR8):Prop where
 len:w.yR0.Length=900
 wid:w.yR0.Width=60
 sa:w.yR0.ySi=b
 sb:w.yR0.ySj=b-40
 base:w.yR0.Base=b-40
 area:w.yR0.Area=2
 rate:w.yR0.ySs=1000
 weir:w.ySp=⟨1,0,1,b+90,1⟩
 rule:w.Rule=⟨b+70,b+80,b+99⟩
 yaiS:w.Pauses=[]
def yakg{r:Reach}{k:Int}:rG r 0 k=(r,0):=by
 unfold rG;split
 .have:takeN r 0 k=0:=by unfold takeN;simp only;(repeat' split)<;>omega
  rw[this];simp
 .rfl
def yake{r:Reach}:dU r 0=r:=by
 unfold dU;split
 .split
  .simp
  .rename_i h
   have:r.ySk.set (r.ySk.length-1) (r.ySk.getD (r.ySk.length-1) 0+0)=r.ySk:=by
    refine zbU λj=>?_;rw[zaE];split
    .rename_i e;subst e;rw[if_pos (by omega),zai,zab (by omega)];simp
    .rfl
   rw[this]
 .rfl
def yalx{a b:Reach}{k:Int}:yTe a b 0 k=(a,b,0):=by
 unfold yTe;split
 .have h:=ys2 b;have:yUl b 0=0:=by unfold yUl;split<;>omega
  rw[this,yakg,yake]
 .rfl
def yakx{a b:Reach}{w:ySp}(h:yS1 w (kD a) (kD b)=0):ySZ a b w=(a,b,0):=by
 unfold ySZ;split
 .rw[h];exact yalx
 .rfl
def yajt{w:ySp}{up down:Int}(h:up<=w.ySy):yS1 w up down=0:=by
 unfold yS1;rw[if_neg];intro hf;simp only[yTV,zad,decide_eq_true_eq]at hf;have:=hf.2;unfold yTk at this;split at this<;>omega
def yajH{b u d:Int}(hb:0<=b/\b<=1000)(hu:0<=u/\u<=b+90)(hd:0<=d/\d<=2000):yS9 ⟨1,0,1,b+90,1⟩ ⟨b+70,b+80,b+99⟩ u d 0=⟨1,0,1,b+90,1⟩:=by
 unfold yS9;split
 .rw[if_neg (by simp only;omega)]
  have hw:yS5 ⟨b+70,b+80,b+99⟩ u 0=0:=by
   unfold yS5;split
   .simp
   .rfl
  have ho:yTu ⟨1,0,1,b+90,1⟩ u d 0=0:=by
   unfold yTu;split
   .have:=(yakO (ySp.opened ⟨1,0,1,b+90,1⟩ 0) u d).1
    show yTQ _ u d 0 10 0=0
    rw[yTQ,if_pos this]
   .rfl
  rw[hw,ho];unfold yTf;split
  .simp[yWe,ySp.opened]
  .rfl
 .rfl
structure Calm(n:Int)(x:yRW):Prop where
 ok:rC x=true
 r:∃v0 v1 v2,x.yRV=[yafE 120 v0,yafE 80 v1,yafE 40 v2]/\(6000000-n<=v0/\v0<=6000000+n)/\(6000000-n<=v1/\v1<=6000000+n)/\(6000000-n<=v2/\v2<=6000000+n)
 y:∃a0 a1 a2,x.ySl=[⟨a0,120⟩,⟨a1,80⟩,⟨a2,40⟩]/\(10<=a0/\a0<=29)/\(10<=a1/\a1<=29)/\(10<=a2/\a2<=29)
 w:∃w0 w1,x.yRX=[w0,w1]/\Gear 120 w0/\Gear 80 w1
def yako{v n:Int}(hn:n<=2000000)(h:6000000-n<=v/\v<=6000000+n):40<=rise v/\rise v<=80:=by unfold rise;omega
def yakV{n:Int}{x:yRW}(C:Calm n x)(hn:n<=2000000):yS2 x 0=x:=by
 obtain⟨v0,v1,v2,hr,b0,b1,b2⟩:=C.r;obtain⟨w0,w1,hw,g0,g1⟩:=C.w;have r0:=yako hn b0;have r1:=yako hn b1;have r2:=yako hn b2;have l0:=yahS (b:=120) (v:=v0) (by omega) (by omega);have l1:=yahS (b:=80) (v:=v1) (by omega) (by omega);have l2:=yahS (b:=40) (v:=v2) (by omega) (by omega)
 have n0:yTz 0 [yafE 120 v0,yafE 80 v1,yafE 40 v2] [w0,w1] 0=w0.ySp:=by
  show yS9 w0.ySp w0.Rule (kD (yafE 120 v0)) (kD (yafE 80 v1)) 0=_
  rw[g0.weir,g0.rule,l0,l1];exact yajH (b:=120) (by omega) (by omega) (by omega)
 have n1:yTz 0 [yafE 120 v0,yafE 80 v1,yafE 40 v2] [w0,w1] 1=w1.ySp:=by
  show yS9 w1.ySp w1.Rule (kD (yafE 80 v1)) (kD (yafE 40 v2)) 0=_
  rw[g1.weir,g1.rule,l1,l2];exact yajH (b:=80) (by omega) (by omega) (by omega)
 have t0:through 0 [yafE 120 v0,yafE 80 v1,yafE 40 v2] [w0,w1] 0=(yafE 120 v0,yafE 80 v1,0):=by
  unfold through;rw[n0];exact yakx (yajt (by show kD (yafE 120 v0)<=_;rw[g0.weir,l0];simp only;omega))
 have t1:through 0 [yafE 120 v0,yafE 80 v1,yafE 40 v2] [w0,w1] 1=(yafE 80 v1,yafE 40 v2,0):=by
  unfold through;rw[n1];exact yakx (yajt (by show kD (yafE 80 v1)<=_;rw[g1.weir,l1];simp only;omega))
 have p0:yUp w0 w0.ySp=w0:=rfl;have p1:yUp w1 w1.ySp=w1:=rfl
 have s1:ySX 0 [yafE 120 v0,yafE 80 v1,yafE 40 v2] [w0,w1] 1=([yafE 120 v0,yafE 80 v1,yafE 40 v2],[w0,w1]):=by
  simp only[ySX];rw[t0,n0];rfl
 have s2:ySX 0 [yafE 120 v0,yafE 80 v1,yafE 40 v2] [w0,w1] 2=([yafE 120 v0,yafE 80 v1,yafE 40 v2],[w0,w1]):=by
  rw[ySX,s1];simp only;rw[t1,n1];rfl
 have e:yWH [yafE 120 v0,yafE 80 v1,yafE 40 v2] [w0,w1] x.ySl 2=(yafE 40 v2,0):=by
  unfold yWH;have:yS1 (dW [w0,w1] (2-1)).ySp (kD (dR [yafE 120 v0,yafE 80 v1,yafE 40 v2] 2)) 0=0:=yajt (by show kD (yafE 40 v2)<=w1.ySp.ySy;rw[g1.weir,l2];simp only;omega);rw[this,yakg];rfl
 unfold yS2;split
 .unfold stR stW;rw[hr,hw];simp only[zar,zbf];rw[s2];simp only;rw[e];cases x;simp only at hr hw;subst hr;subst hw;simp
 .rfl
def yalE{b v:Int}:yS8 (yafE b v)=yafE b v:=by
 unfold yS8;rw[if_neg (by simp[yafE])]
def yalC{n:Int}{x:yRW}(C:Calm n x)(ht:x.Time<1000000):yS0 x 0={x with Time:=x.Time+1}:=by
 obtain⟨v0,v1,v2,hr,_⟩:=C.r;have hc:yTF x 0=true:=by simp[yTF,C.ok];omega
 have h1:(yTo x 0).map yS8=x.yRV:=by
  have:yTo x 0=x.yRV:=by
   unfold yTo;split
   .rw[hr];simp only[sent,yake]
   .rfl
  rw[this,hr];simp only[zaC,zcj,yalE]
 unfold yS0;rw[if_pos hc,h1];split<;>simp
def yalJ{t:yRT}(h:oC t=true):1<=yTt t:=by
 have tf:=lK h;unfold yTt;rw[if_pos h];have hf:∀x∈t.qE,1<=x.ySG/\x.ySG<=50:=λx hx=>(ygR (tf.ok x hx)).2.2.2.2.1
 have h1:1<=yDC ySa.ySG t.qE/\yDC ySa.ySG t.qE<=50:=by
  have hp:=tf.pos;cases hb:t.qE with
  |nil=>rw[hb]at hp;simp at hp
  |cons b l=>exact hf b (by rw[hb];simp)
 exact(yBi hf h1.1 h1.2).1
def yalQ{t:yRT}(h:oC t=true){d:Int}(h0:0<=d)(h1:d<=1000):(yTs t d=0↔d<oH t)/\0<=yTs t d/\yTs t d<=51:=by
 have hs:=yalJ h;have hp:=yV0 t d;refine⟨?_,hp⟩;have hr:inRange d 0 1000000000=true:=aC.2 ⟨h0,by omega⟩;unfold yTs;rw[h,hr]
 by_cases h2:oH t<=d
 .have h3:¬d<oH t:=by omega
  simp only[h2,decide_true,zdH,if_true,h3,iff_false];split
  .rw[zaG (by omega)];omega
  .omega
 .have h3:d<oH t:=by omega
  simp[h2,h3]
def toGo(m:yR6)(w:Way):Nat:=(if m.yRT.Up then m.Place else w.Long-m.Place).toNat
def yamm{m:yR6}{w:Way}{r:Reach}(hm:xN m w=true)(hr:xE r=true)(hd:oH m.yRT<=yTp w r)(h1:yTp w r<=1000):
 xN (yS7 m w r) w=true/\(0<toGo m w->toGo (yS7 m w r) w+1<=toGo m w)/\(AtEnd (yS7 m w r) w=true↔toGo (yS7 m w r) w=0):=by
 have h0:0<=yTp w r:=by unfold yTp;split<;>(try split)<;>omega
 have hm2:=hm;simp only[xN,zad]at hm2;obtain⟨⟨m1,m2⟩,m3⟩:=hm2;have m3:=aC.1 m3;obtain⟨p1,p2,_⟩:=yalQ m2 h0 h1
 have hp:1<=yTs m.yRT (yTp w r):=by
  have:¬yTs m.yRT (yTp w r)=0:=λe=>by have:=p1.1 e;omega
  omega
 have e:yS7 m w r=⟨m.yRT,yUF m w r⟩:=by unfold yS7;rw[if_pos (by rw[hm,hr];rfl)]
 have hn:0<=yUF m w r/\yUF m w r<=w.Long:=by
  unfold yUF;split<;>split<;>omega
 have hok:xN (yS7 m w r) w=true:=by
  rw[e];simp only[xN,m1,m2,zaW];exact aC.2 hn
 refine⟨hok,λhg=>?_,?_⟩
 .rw[e];unfold toGo yUF at *;simp only at hg|-;cases hu:m.yRT.Up with
  |true=>
   simp only[hu,if_true]at hg|-;split<;>omega
  |false=>
   simp only[hu,zbQ,if_false]at hg|-;split<;>omega
 .unfold AtEnd;rw[hok,zaW,decide_eq_true_eq,e];unfold toGo endOf;simp only;cases hu:m.yRT.Up with
  |true=>simp only[if_true];omega
  |false=>simp only[zbQ,if_false];omega
def yajW{b:Int}{w:yR8}(G:Gear b w)(hl:lF w.yR0=true)(hb:40<=b/\b<=1000)(hw:0<=w.yR0.ySn/\w.yR0.ySn<=255):bG w.yR0=b-40+w.yR0.ySn/2:=by
 unfold bG;rw[if_pos hl,G.base,G.area,zaG hw.1];unfold ykT;split<;>omega
def yalc{b c v:Int}{w:yR8}(G:Gear b w)(hl:lF w.yR0=true)(hb:40<=b/\b<=1000)(hw:0<=w.yR0.ySn/\w.yR0.ySn<=255)(hg:w.yR0.Gate=0)(hc:c=b\/c=b-40)(hv:5900001<=v/\v<=6100000):
 ∃W' v',jT w.yR0 (yafE c v)=(w.yR0.setW W',yafE c v')/\(0<=W'/\W'<=255)/\(v-300<=v'/\v'<=v+300)/\b-40+W'/2=c+rise v:=by
 have hL:=yahS (b:=c) (v:=v) (by omega) (by omega);have hok:=yaie (b:=c) (v:=v) (by omega) (by omega);have hr:60<=rise v/\rise v<=61:=by unfold rise;omega
 have hC:=yajW G hl hb hw
 have hs:rO (yafE c v)=1000000000-v:=by
  unfold rO;rw[if_pos hok];simp[sZ,yafE]
 unfold jT;rw[hL,hC];split
 .rename_i h
  have hf:dY w.yR0 (yafE c v)=true:=by
   simp only[dY,hl,hok,hg,hL,hC,zaW,zad,decide_eq_true_eq];exact⟨trivial,h⟩
  have hn:ya1 w.yR0 (yafE c v)=2*(c+rise v-(b-40+w.yR0.ySn/2)):=by
   unfold ya1 ykT;rw[hL,hC,G.area,G.rate];split<;>omega
  have ht:rG (yafE c v) (2*(c+rise v-(b-40+w.yR0.ySn/2))) 0=(yafE c (v-2*(c+rise v-(b-40+w.yR0.ySn/2))),2*(c+rise v-(b-40+w.yR0.ySn/2))):=by
   unfold rG;rw[if_pos (by simp[ycj,hok];omega)]
   have:takeN (yafE c v) (2*(c+rise v-(b-40+w.yR0.ySn/2))) 0=2*(c+rise v-(b-40+w.yR0.ySn/2)):=by
    unfold takeN;simp only[yafE]
    (repeat' split)<;>omega
   rw[this];rfl
  refine⟨w.yR0.ySn+2*(c+rise v-(b-40+w.yR0.ySn/2)),v-2*(c+rise v-(b-40+w.yR0.ySn/2)),?_,by omega,by omega,by omega⟩;unfold mM;rw[if_pos hf,hn,ht,if_neg (by simp only;omega)]
 .rename_i h
  by_cases h2:c+rise v<b-40+w.yR0.ySn/2
  .have hf:yYU w.yR0 (yafE c v)=true:=by
    simp only[yYU,hl,hok,hg,hL,hC,zaW,zad,decide_eq_true_eq];exact⟨trivial,h2⟩
   have hn:rV w.yR0 (yafE c v)=2*(b-40+w.yR0.ySn/2-(c+rise v)):=by
    unfold rV ykT;rw[hL,hC,G.area,G.rate];split<;>split<;>omega
   have ht:dU (yafE c v) (2*(b-40+w.yR0.ySn/2-(c+rise v)))=yafE c (v+2*(b-40+w.yR0.ySn/2-(c+rise v))):=by
    unfold dU;rw[if_pos (by simp only[ybC,hok,hs,zaW,zad,decide_eq_true_eq];omega),if_pos (by rfl)];rfl
   refine⟨w.yR0.ySn-2*(b-40+w.yR0.ySn/2-(c+rise v)),v+2*(b-40+w.yR0.ySn/2-(c+rise v)),?_,by omega,by omega,by omega⟩;unfold rJ;rw[if_pos hf,hn,ht,if_neg (by rw[hs];omega)]
  .refine⟨w.yR0.ySn,v,?_,by omega,by omega,by omega⟩
   have hf:yYU w.yR0 (yafE c v)=false:=by
    simp only[yYU,hL,hC,h2,decide_false,zbk]
   unfold rJ;rw[hf];rfl
structure Fine(t:yRT):Prop where
 ok:oC t=true
 yajC:oH t<=30
 width:iH t<=60
 len:aI t<=900
def yakh{t:yRT}(h:Fine t):oO 900 60 [t]=true:=by
 have h1:=h.width;have h2:=h.len;have h6:=(yZJ h.ok)
 have hd:Distinct [t]=true:=by
  have hn:(lG t).Nodup:=by
   have:=h.ok;simp only[oC,zad,decide_eq_true_eq]at this;rw[h6.1];exact this.1.2
  simp[Distinct,h.ok,hn]
 simp[oO,hd,yc6,ytB];omega
def yaml{b v0 v1:Int}{w:yR8}(G:Gear b w)(hb:40<=b/\b<=1000)(h0:5900001<=v0/\v0<=6100000)(h1:5900001<=v1/\v1<=6100000)(hc:∀c∈w.Calls,Fine c.yRT):able (yafE b v0) (yafE (b-40) v1) w=w.Calls:=by
 unfold able;refine zcN.2 λc hm=>?_;have f:=hc c hm;have f1:=f.yajC;have l0:=yahS (b:=b) (v:=v0) (by omega) (by omega);have l1:=yahS (b:=b-40) (v:=v1) (by omega) (by omega);have r0:60<=rise v0:=by unfold rise;omega
 have r1:60<=rise v1:=by unfold rise;omega
 unfold ybp;rw[G.len,G.wid,yakh f,zcv,decide_eq_true_eq];unfold ynb;rw[l0,l1,G.sa,G.sb];split<;>omega
structure Plain(now:Int)(c:yR4):Prop where
 fine:Fine c.yRT
 call:jO c=true
 since:c.Since<=now
 free:c.Booked= -1
def yaim{now:Int}{c:yR4}(h:Plain now c)(hn:now<=1000000):rF c now=(if(now-c.Since)/20<qO c.yRT then qO c.yRT-(now-c.Since)/20 else 0)/\0<=rF c now/\rF c now<=2:=by
 have h1:=h.since;have h2:=h.free;have h3:=(yqg h.call).cls;have h4:inRange now c.Since 1000000=true:=aC.2 (by omega)
 have e:rF c now=(if(now-c.Since)/20<qO c.yRT then qO c.yRT-(now-c.Since)/20 else 0):=by
  unfold rF;rw[if_pos ⟨h.call,h4⟩,if_neg (by omega),zaG (by omega)]
 rw[e];refine⟨rfl,?_⟩;split<;>omega
def yajv{list:List yR4}{now:Int}(hn:now<=1000000)(h:∀c∈list,Plain now c):(kS list now).Perm (List.range list.length):=by
 unfold kS;refine sorted_perm.trans ?_;unfold oU;rw[zcN.2];intro i hi;have hl:=zaN.1 hi;rw[zab hl,zbc];have:=(yaim (h _ (zbo hl)) hn).2;exact decide_eq_true (by omega)
def yajr{list:List yR4}{t:Turn}{now:Int}(hn:now<=1000000)(h:∀c∈list,Plain now c)(ht:ybY t=true)(hne:list≠[]):
 (mW list t now).2=true/\∃c∈list,c.yRT.Up=(mW list t now).1:=by
 have hp:=yajv hn h;have hlen:(kS list now).length=list.length:=by rw[hp.length_eq];simp
 have hpos:0<list.length:=zbs.2 hne
 have hmem:∀i∈kS list now,∃c∈list,list[i]?=some c:=λi hi=>by
  have:=zaN.1 (hp.mem_iff.1 hi);exact⟨list[i],zbo this,zab this⟩
 unfold mW;rw[if_neg (by rw[hlen,ht];simp;omega)];refine⟨rfl,?_⟩;obtain⟨i0,hi0⟩:∃i,(kS list now)[0]?=some i:=⟨_,zab (by omega)⟩;obtain⟨c0,m0,g0⟩:=hmem i0 (zac hi0);have e0:yrc list ((kS list now)[0]?.getD 0)=c0.yRT.Up:=by rw[hi0];exact yoY g0
 simp only[yhi,e0];split
 .exact⟨c0,m0,rfl⟩
 .split
  .exact⟨c0,m0,rfl⟩
  .rename_i hx;have hx:((kS list now).all λi=>yrc list i==c0.yRT.Up)=false:=by simpa using hx
   obtain⟨i,hi,hb⟩:=zdC.1 hx;obtain⟨c,m,g⟩:=hmem i hi;rw[yoY g]at hb;refine⟨c,m,?_⟩;cases h1:c.yRT.Up<;>cases h2:c0.yRT.Up<;>simp[h1,h2]at hb|-
def yaju{a b:yR4}{now now':Int}(ha:rF a now'=rF a now)(hb:rF b now'=rF b now):before a b now'=before a b now:=by
 unfold before;rw[ha,hb]
def yalr{list:List yR4}{t:Turn}{now now':Int}(h:∀c∈list,rF c now'=rF c now):mW list t now'=mW list t now:=by
 have e1:yrt list now'=yrt list now:=by
  funext x y
  unfold yrt;cases hx:list[x]? with
  |none=>rfl
  | some a=>
   cases hy:list[y]? with
   |none=>rfl
   |some b=>
    have h1:=h a (zac hx);have h2:=h b (zac hy);simp only[yaju h1 h2,yaju h2 h1]
 have e2:oU list now' list.length=oU list now list.length:=by
  unfold oU;refine zda λi hi=>?_;have hl:=zaN.1 hi;rw[zab hl,zbc,h _ (zbo hl)]
 have e3:kS list now'=kS list now:=by unfold kS;rw[e1,e2]
 unfold mW;rw[e3]
def yakQ(n:Nat)(h:1<=n/\n<=8):xF ((2^(n-1):Nat):Int) n n=[0]:=by
 have:n=1\/n=2\/n=3\/n=4\/n=5\/n=6\/n=7\/n=8:=by omega
 rcases this with rfl|rfl|rfl|rfl|rfl|rfl|rfl|rfl<;>decide
def yaky{l:yR0}{q:List yRT}{n top k:Nat}:aS l q n top (k+1)=ygf l q n (aS l q n top k) ((top-k:Nat):Int):=rfl
def step_pos{l:yR0}{q:List yRT}{n:Nat}{s:Int×List Nat}{c:Int}(ih:0<s.1->s.2≠[])(h:0<(ygf l q n s c).1):(ygf l q n s c).2≠[]:=by
 unfold ygf at h|-;split
 .rename_i hc;rw[if_pos hc]at h;intro e;simp only at h e;rw[e]at h;simp[yai,qAt]at h
 .rename_i hc;rw[if_neg hc]at h;exact ih h
def yakK{l:yR0}{q:List yRT}{n top:Nat}:∀k:Nat,0<(aS l q n top k).1->(aS l q n top k).2≠[]
 |0,h=>by simp[aS]at h
 |k+1,h=>step_pos (yakK k) h
def step_up{l:yR0}{q:List yRT}{n:Nat}{s:Int×List Nat}{c:Int}:s.1<=(ygf l q n s c).1:=by
 unfold ygf;split
 .rename_i h;simp only;omega
 .exact zbj _
def yali{l:yR0}{q:List yRT}{n top:Nat}{k:Nat}:∀d:Nat,(aS l q n top k).1<=(aS l q n top (k+d)).1
 |0=>zbj _
 |d+1=>zel (yali d) step_up
def yalR{l:yR0}{q:List yRT}{t:yRT}(hl:lF l=true)(ht:q[0]?=some t)(hf:oO l.Length l.Width (l.yRY++[t])=true)(hb:1<=yfv t):sQ l q≠[]:=by
 have hq:1<=q.length:=(zaa.1 ht).1;have hn:1<=yau q/\yau q<=8:=by unfold yau;omega
 unfold sQ;rw[if_pos hl];apply yakK;generalize yau q=n at *;have hp:=yakQ n hn
 have h2:1<=2^(n-1)/\2^(n-1)<=yrO n:=by
  have:n=1\/n=2\/n=3\/n=4\/n=5\/n=6\/n=7\/n=8:=by omega
  rcases this with rfl|rfl|rfl|rfl|rfl|rfl|rfl|rfl<;>decide
 generalize hT:yrO n=top at *;have hk:((top-(top-2^(n-1)):Nat):Int)=((2^(n-1):Nat):Int):=by omega
 have hq1:qAt q [0]=[t]:=by simp[qAt,zai,ht]
 have h3:0<(aS l q n top (top-2^(n-1)+1)).1:=by
  rw[yaky];unfold ygf;rw[hk,hp];have e:yai q [0]=yfv t:=by unfold yai;rw[hq1];simp
  rw[e,hq1];split
  .simp only;omega
  .rename_i h;have:¬(aS l q n top (top-2^(n-1))).1<yfv t:=λh4=>h ⟨h4,hf⟩;omega
 have h4:=yali (l:=l) (q:=q) (n:=n) (top:=top) (k:=top-2^(n-1)+1) (2^(n-1)-1);rw[show top-2^(n-1)+1+(2^(n-1)-1)=top by omega]at h4;omega
def yaic(k:Nat)(up:Bool):Nat:=if up then k else 2-k
def yahJ(j:Nat)(up:Bool):Nat:=if up then j else 1-j
def sumI{α:Type}(f:Nat->α->Int):Nat->List α->Int
 |_,[]=>0
 |k,a::l=>f k a+sumI f (k+1) l
def yaig{α:Type}{f:Nat->α->Int}{b:α}:∀{l:List α} {k i:Nat} {a:α},l[i]?=some a->sumI f k (l.set i b)+f (k+i) a=sumI f k l+f (k+i) b
 |[],_,_,_,h=>by cases h
 |c::l,k,0,a,h=>by
  obtain rfl:c=a:=by simpa using h
  simp only[zbC,sumI,zcA];omega
 |c::l,k,i+1,a,h=>by
  have:=yaig (f:=f) (b:=b) (l:=l) (k:=k+1) (i:=i) (a:=a) (by simpa using h);simp only[zch,sumI];rw[show k+1+i=k+(i+1) by omega]at this;omega
def yakp{α:Type}{f g:Nat->α->Int}:∀{l:List α} {k:Nat},(∀i a,l[i]?=some a->f (k+i) a<=g (k+i) a)->sumI f k l<=sumI g k l
 |[],_,_=>zbj _
 | c::l,k,h=>by
  have h0:=h 0 c rfl
  have:=yakp (f:=f) (g:=g) (l:=l) (k:=k+1) λi a hi=>by
   have:=h (i+1) a (by simpa using hi)
   rwa [show k+(i+1)=k+1+i by omega]at this
  simp only[sumI];rw[zcA]at h0;omega
def yaiv{α:Type}{f:Nat->α->Int}{l:List α}{k:Nat}(h:∀i a,l[i]?=some a->0<=f (k+i) a):0<=sumI f k l:=by
 have h1:sumI (λ_ (_:α)=>(0:Int)) k l=0:=by
  clear h
  induction l generalizing k with
  |nil=>rfl
  |cons a l ih=>simp only[sumI,ih];rfl
 have:=yakp (f:=λ_ (_:α)=>(0:Int)) (g:=f) (l:=l) (k:=k) h;omega
def yahG(k:Nat)(l:List yR6):Int:=(l.map λm=>(yaic k m.yRT.Up:Int)).sum
def yaiy(j:Nat)(l:List yR4):Int:=(l.map λc=>(yahJ j c.yRT.Up:Int)+1).sum
def inA(j:Nat)(l:List yRT):Int:=(l.map λt=>(yahJ j t.Up:Int)).sum
def yagH(j:Nat)(w:yR8):Int:=yaiy j w.Calls+inA j w.yR0.yRY
def yagu(x:yRW):Int:=sumI yahG 0 x.yR3+sumI yagH 0 x.yRX
def ranks(now:Int)(l:List yR4):Int:=(l.map λc=>rF c now).sum
def levW(w:yR8)(g:Int):Bool:=if g=1 then decide (w.yR0.ySn/2=100\/w.yR0.ySn/2=101)else decide (w.yR0.ySn/2=60\/w.yR0.ySn/2=61)
def yahp(now:Int)(w:yR8):Bool×Bool:=mW w.Calls w.Turn now
def wet(now:Int)(w:yR8):Int:=if levW w (yan w (yahp now w))then 1 else 2
def phase(now:Int)(w:yR8):Int:=
 if w.yR0.yRY=[]then
  if w.Calls=[]then 0
  else if w.yR0.Gate=0 then wet now w
  else if w.Calls.any (λc=>decide (yaI c.yRT.Up=w.yR0.Gate))then 0 else 3
 else w.yR0.yRY.length+3+(if w.yR0.Gate=0 then wet now w else 0)
def yaia(now:Int)(_:Nat)(w:yR8):Int:=ranks now w.Calls+phase now w-5*w.Calls.length
def toDo(x:yRW):Int:=12*yagu x+sumI (yaia x.Time) 0 x.yRX
structure Held(now:Int)(d j:Nat)(b:Int)(w:yR8):Prop where
 ok:fJ w=true
 gear:Gear b w
 water:0<=w.yR0.ySn/\w.yR0.ySn<=255
 calls:∀c∈w.Calls,Plain now c/\29*(yahJ j c.yRT.Up+1)<=d
 inside:∀t∈w.yR0.yRY,Fine t/\29*(yahJ j t.Up+1)<=d
 same:∀t∈w.yR0.yRY,∀u∈w.yR0.yRY,t.Up=u.Up
 exit:w.yR0.Gate≠0->∀t∈w.yR0.yRY,t.Up=decide (w.yR0.Gate=1)
def yajg{now:Int}{w:yR8}:1<=wet now w/\wet now w<=2:=by unfold wet;split<;>omega
def yaix{now:Int}{w:yR8}:0<=phase now w/\(w.yR0.yRY=[]->phase now w<=3):=by
 have:=yajg (now:=now) (w:=w);unfold phase;split
 .split
  .exact⟨by omega,λ_=>by omega⟩
  .split
   .exact⟨by omega,λ_=>by omega⟩
   .split<;>exact⟨by omega,λ_=>by omega⟩
 .rename_i h;exact⟨by split<;>omega,λe=>absurd e h⟩
def yaha{now:Int}{d j:Nat}{b:Int}{w:yR8}(H:Held now d j b w):lF w.yR0=true:=by
 have:=H.ok;simp only[fJ,zad]at this;exact this.1.1.1.1.1.1
def yajf{now:Int}{d j:Nat}{b:Int}{w:yR8}(H:Held now d j b w):ybY w.Turn=true:=by
 have:=H.ok;simp only[fJ,zad]at this;exact this.1.1.2
def yalu{now:Int}{d j:Nat}{b:Int}{w:yR8}(H:Held now d j b w)(hb:40<=b/\b<=1000){v0 v1:Int}(h0:5900001<=v0/\v0<=6100000)(h1:5900001<=v1/\v1<=6100000)(hg:w.yR0.Gate=0){g:Int}(hgg:g=1\/g=2)(hl:levW w g=true):oP w.yR0 (yafE b v0) (yafE (b-40) v1) g=true:=by
 have l0:=yahS (b:=b) (v:=v0) (by omega) (by omega);have l1:=yahS (b:=b-40) (v:=v1) (by omega) (by omega);have r0:60<=rise v0/\rise v0<=61:=by unfold rise;omega
 have r1:60<=rise v1/\rise v1<=61:=by unfold rise;omega
 have hC:=yajW H.gear (yaha H) hb H.water;have o0:=yaie (b:=b) (v:=v0) (by omega) (by omega);have o1:=yaie (b:=b-40) (v:=v1) (by omega) (by omega);unfold oP ydG;rw[yaha H,o0,o1,hg,hC,l0,l1];rcases hgg with rfl|rfl
 .simp only[levW,if_true,decide_eq_true_eq]at hl;simp only[decide_true,zaW,Bool.true_or,if_true];exact aC.2 (by omega)
 .simp only[levW,show¬((2:Int)=1) by omega,if_false,decide_eq_true_eq]at hl;simp only[decide_true,zaW,Bool.or_true,show¬((2:Int)=1) by omega,if_false];exact aC.2 (by omega)
def yajl{l:yR0}{g:Int}(h:lF l=true)(hg:0<=g/\g<=2):lF (l.yra g)=true:=by
 simp only[lF,zad]at h|-;exact⟨⟨h.1.1,aC.2 hg⟩,h.2⟩
def yalt{l:yR0}{W:Int}(h:lF l=true)(hg:0<=W/\W<=255):lF (l.setW W)=true:=by
 simp only[lF,zad]at h|-;exact⟨⟨⟨h.1.1.1,aC.2 (by show 0<=W/\W<=1000000000;omega)⟩,h.1.2⟩,h.2⟩
def yaiH{w:yR8}{l:yR0}(h:fJ w=true)(hl:lF l=true):fJ (rH w l)=true:=by
 simp only[fJ,zad]at h|-;exact⟨⟨⟨⟨⟨⟨hl,h.1.1.1.1.1.2⟩,h.1.1.1.1.2⟩,h.1.1.1.2⟩,h.1.1.2⟩,h.1.2⟩,h.2⟩
def yakB{w:yR8}{N:Bool×Bool}:yan w N=1\/yan w N=2:=by unfold yan;split<;>simp
def yakT{now:Int}{d j:Nat}{b:Int}{w:yR8}(H:Held now d j b w)(hn:now<=1000000)(hg:w.yR0.Gate=0)(hbusy:w.yR0.yRY≠[]\/w.Calls≠[]):
 phase now (rH w (w.yR0.yra (yan w (yahp now w))))+1<=phase now w/\Held now d j b (rH w (w.yR0.yra (yan w (yahp now w)))):=by
 have hw:=yajg (now:=now) (w:=w);have hb:=yakB (w:=w) (N:=yahp now w);have hG:yan w (yahp now w)≠0:=by omega
 have hI:(w.yR0.yra (yan w (yahp now w))).yRY=w.yR0.yRY:=rfl;have hgt:(w.yR0.yra (yan w (yahp now w))).Gate=yan w (yahp now w):=rfl;refine⟨?_,⟨yaiH H.ok (yajl (yaha H) (by omega)),⟨H.gear.len,H.gear.wid,H.gear.sa,H.gear.sb,H.gear.base,H.gear.area,H.gear.rate,H.gear.weir,H.gear.rule,H.gear.yaiS⟩,H.water,H.calls,H.inside,H.same,λ_ t ht=>?_⟩⟩
 .unfold phase;simp only[rH,hI,hgt,hg,if_true,hG,if_false]
  by_cases hi:w.yR0.yRY=[]
  .have hc:w.Calls≠[]:=by rcases hbusy with h|h;exact absurd hi h;exact h
   obtain⟨_,c,hcm,hup⟩:=yajr hn (λc h=>(H.calls c h).1) (yajf H) hc
   have hany:(w.Calls.any λc=>decide (yaI c.yRT.Up=yan w (yahp now w)))=true:=by
    rw[List.any_eq_true];refine⟨c,hcm,decide_eq_true ?_⟩;unfold yan yoI yaI yahp;rw[if_pos hi,hup];cases(mW w.Calls w.Turn now).1<;>rfl
   simp only[hi,if_true,hc,if_false,hany];omega
  .simp only[hi,if_false];omega
 .have ht':t∈w.yR0.yRY:=ht
  show t.Up=decide (yan w (yahp now w)=1)
  have hi:w.yR0.yRY≠[]:=λe=>by rw[e]at ht';cases ht'
  obtain⟨u,l,hl⟩:=zcf hi;have hu:=H.same t ht' u (by rw[hl];simp);unfold yan yoI;rw[if_neg hi,hl,List.getD_cons_zero,hu];cases u.Up<;>rfl
def yakM{now:Int}{d j:Nat}{b:Int}{w:yR8}(H:Held now d j b w)(hb:40<=b/\b<=1000){W:Int}(hg:w.yR0.Gate=0)(hbusy:w.yR0.yRY≠[]\/w.Calls≠[])
 (h1:levW w (yan w (yahp now w))=false) (hW:0<=W/\W<=255) (h2:levW (rH w (w.yR0.setW W)) (yan w (yahp now w))=true):
 phase now (rH w (w.yR0.setW W))+1<=phase now w/\Held now d j b (rH w (w.yR0.setW W)):=by
 have e1:wet now w=2:=by unfold wet;rw[h1];rfl
 have e2:wet now (rH w (w.yR0.setW W))=1:=by
  unfold wet;rw[if_pos];exact h2
 refine⟨?_,⟨yaiH H.ok (yalt (yaha H) hW),⟨H.gear.len,H.gear.wid,H.gear.sa,H.gear.sb,H.gear.base,H.gear.area,H.gear.rate,H.gear.weir,H.gear.rule,H.gear.yaiS⟩,hW,H.calls,H.inside,H.same,λh=>absurd hg h⟩⟩;unfold phase;rw[e1,e2];have hI:(rH w (w.yR0.setW W)).yR0.yRY=w.yR0.yRY:=rfl;have hC:(rH w (w.yR0.setW W)).Calls=w.Calls:=rfl;have hgt:(rH w (w.yR0.setW W)).yR0.Gate=w.yR0.Gate:=rfl;rw[hI,hC,hgt];simp only[hg,if_true]
 by_cases hi:w.yR0.yRY=[]
 .have hc:w.Calls≠[]:=by rcases hbusy with h|h;exact absurd hi h;exact h
  simp only[hi,if_true,hc,if_false];omega
 .simp only[hi,if_false];omega
def yaiP{l:yR0}(h:lF l=true)(hg:l.Gate≠0):l.Gate=1\/l.Gate=2:=by
 have:=(qW h).gate;omega
def yala{now:Int}{d j:Nat}{b:Int}{w:yR8}(H:Held now d j b w)(hn:now<=1000000)(hg:w.yR0.Gate≠0)(hi:w.yR0.yRY=[])(hc:w.Calls≠[])
 (hno:∀c∈w.Calls,yaI c.yRT.Up≠w.yR0.Gate):
 mG w (yahp now w)=true/\phase now (ya7 w 0)+1<=phase now w/\Held now d j b (ya7 w 0):=by
 obtain⟨h2,c,hcm,hup⟩:=yajr hn (λc h=>(H.calls c h).1) (yajf H) hc;have hgc:=yaiP (yaha H) hg;have hne:=hno c hcm;have hw:=yajg (now:=now) (w:=ya7 w 0);refine⟨?_,?_,⟨yaiH H.ok (yajl (yaha H) (by omega)),⟨H.gear.len,H.gear.wid,H.gear.sa,H.gear.sb,H.gear.base,H.gear.area,H.gear.rate,H.gear.weir,H.gear.rule,H.gear.yaiS⟩,H.water,H.calls,H.inside,H.same,λh=>absurd rfl h⟩⟩
 .unfold mG yahp;rw[h2]
  have:(mW w.Calls w.Turn now).1≠decide (w.yR0.Gate=2):=by
   intro e;apply hne;rw[hup,e];unfold yaI;rcases hgc with g|g<;>rw[g]<;>rfl
  simp[this]
 .have hany:(w.Calls.any λc=>decide (yaI c.yRT.Up=w.yR0.Gate))=false:=by
   rw[List.any_eq_false];intro c hc;simpa using hno c hc
  have e1:phase now w=3:=by
   unfold phase;rw[if_pos hi,if_neg hc,if_neg hg,hany];rfl
  have e2:phase now (ya7 w 0)=wet now (ya7 w 0):=by
   unfold phase;rw[if_pos (show(ya7 w 0).yR0.yRY=[]from hi),if_neg (show(ya7 w 0).Calls≠[]from hc),if_pos (show(ya7 w 0).yR0.Gate=0 from rfl)]
  omega
def yamr{α:Type}{f:α->Int}{l m:List α}(h:l.Sublist m)(hf:∀a∈m,0<=f a):(l.map f).sum<=(m.map f).sum:=by
 induction h with
 |slnil=>exact zbj _
 |cons a h ih=>
  have:=ih λa h=>hf a (by simp[h]);have:=hf a (by simp);simp only[zaC,zaM];omega
 |cons_cons a h ih=>
  have:=ih λa h=>hf a (by simp[h]);simp only[zaC,zaM];omega
def yamk{cs:List yR4}{g:List Bool}:(mO cs g cs.length).Sublist cs:=by
 have h1:((List.range cs.length).map λi=>cs.getD i default)=cs:=by
  refine List.ext_getElem (by simp) λi h1 h2=>?_;simp[zai,zab h2]
 unfold mO;have h2:(((List.range cs.length).filter λi=>!(g.getD i false)).map λi=>cs.getD i default).Sublist ((List.range cs.length).map λi=>cs.getD i default):=(List.filter_sublist).map _
 rwa [h1]at h2
def yamx{α:Type}{l:List α}{u:α->Bool}{a b:Int}:(l.map λx=>if u x then a else b).sum=a*(l.countP u:Int)+b*(l.countP (λx=>!u x):Int):=by
 induction l with
 |nil=>simp
 |cons x l ih=>
  simp only[zaC,zaM,ih,zep];cases u x<;>simp[zcE]<;>omega
def yalB{j:Nat}{up:Bool}:(yahJ j up:Int)=if up then(j:Int)else((1-j:Nat):Int):=by unfold yahJ;cases up<;>rfl
def yakH{j:Nat}{l:List yR4}:yaiy j l=inA j (l.map λc=>c.yRT)+l.length:=by
 unfold yaiy inA
 induction l with
 |nil=>rfl
 |cons c l ih=>simp only[zaC,zaM,zar]at ih|-;omega
def yajs{j:Nat}{l:List yRT}:inA j l=(j:Int)*(l.countP (λt=>t.Up):Int)+((1-j:Nat):Int)*(l.countP (λt=>!t.Up):Int):=by
 unfold inA;rw[<-yamx]
 congr 1
 refine zbg λt _=>yalB
def yaiD{l:List yRT}:(l.countP (λt=>t.Up):Nat)+l.countP (λt=>!t.Up)=l.length:=by
 induction l with
 |nil=>rfl
 |cons t l ih=>simp only[zep,zar];cases t.Up<;>simp<;>omega
def yalG{j:Nat}{l a b:List yRT}(h:∀p:yRT->Bool,a.countP p+b.countP p=l.countP p):inA j a+inA j b=inA j l/\a.length+b.length=l.length:=by
 have h1:=h λt=>t.Up;have h2:=h λt=>!t.Up;rw[yajs,yajs,yajs];have e1:(l.countP (λt=>t.Up):Int)=(a.countP (λt=>t.Up):Int)+(b.countP (λt=>t.Up):Int):=by omega
 have e2:(l.countP (λt=>!t.Up):Int)=(a.countP (λt=>!t.Up):Int)+(b.countP (λt=>!t.Up):Int):=by omega
 have c1:=yaiD (l:=l);have c2:=yaiD (l:=a);have c3:=yaiD (l:=b);refine⟨?_,by omega⟩;rw[e1,e2,zcE,zcE];omega
def yaiG{j:Nat}:∀{l:List yR4},(l.length:Int)<=yaiy j l
 |[]=>zbj _
 |c::l=>by
  have:=yaiG (j:=j) (l:=l);unfold yaiy at this|-;simp only[zaC,zaM,zar];omega
def yaiA{j:Nat}:∀{l:List yRT},0<=inA j l
 |[]=>zbj _
 |c::l=>by
  have:=yaiA (j:=j) (l:=l);unfold inA at this|-;simp only[zaC,zaM];omega
def yaiq{j:Nat}:∀{l:List yR6},0<=yahG j l
 |[]=>zbj _
 |c::l=>by
  have:=yaiq (j:=j) (l:=l);unfold yahG at this|-;simp only[zaC,zaM];omega
structure Here(n:Int)(d:Nat)(x:yRW):Prop where
 calm:Calm n x
 small:x.small
 held:∀(j:Nat) (w:yR8),x.yRX[j]?=some w->Held x.Time d j (120-40*j) w
 yaja:∀(k:Nat) (l:List yR6) (w:Way),x.yR3[k]?=some l->x.ySl[k]?=some w->∀m∈l,Fine m.yRT/\1<=toGo m w/\toGo m w+29*yaic k m.yRT.Up<=d
 few:(yaba x).length<=8
 pas:(x.yR1.length:Int)+yagu x<=16
def yaiz{n:Int}{x:yRW}(C:Calm n x){k:Nat}(hk:k<=2):∃v,dR x.yRV k=yafE (120-40*k) v/\6000000-n<=v/\v<=6000000+n:=by
 obtain⟨v0,v1,v2,hr,b0,b1,b2⟩:=C.r;have:k=0\/k=1\/k=2:=by omega
 rcases this with rfl|rfl|rfl
 .exact⟨v0,by rw[hr];rfl,b0⟩
 .exact⟨v1,by rw[hr];rfl,b1⟩
 .exact⟨v2,by rw[hr];rfl,b2⟩
def yakU{n:Int}{x:yRW}(C:Calm n x){k:Nat}{w:Way}(hw:x.ySl[k]?=some w):k<=2/\∃a,w=⟨a,120-40*k⟩/\10<=a/\a<=29:=by
 obtain⟨a0,a1,a2,hy,b0,b1,b2⟩:=C.y;rw[hy]at hw;have hl:=(zaa.1 hw).1;simp only[zar,zbf]at hl;have:k=0\/k=1\/k=2:=by omega
 rcases this with rfl|rfl|rfl
 .cases hw;exact⟨by omega,a0,rfl,b0⟩
 .cases hw;exact⟨by omega,a1,rfl,b1⟩
 .cases hw;exact⟨by omega,a2,rfl,b2⟩
def yagI{n:Int}{x:yRW}(C:Calm n x):x.yRV.length=3/\x.yRX.length=2/\x.ySl.length=3/\x.yR3.length=3:=by
 have S:=yagk.1 C.ok;obtain⟨v0,v1,v2,hr,_⟩:=C.r;have h1:x.yRV.length=3:=by rw[hr];rfl
 have:=S.wks;have:=S.ways;have:=S.mvs;omega
def yaiw{v0 v1 v2:Int}(h0:0<=v0/\v0<=10000000)(h1:0<=v1/\v1<=10000000)(h2:0<=v2/\v2<=10000000):jY [yafE 120 v0,yafE 80 v1,yafE 40 v2]=true:=by
 have o0:=yaie (b:=120) (v:=v0) (by omega) h0;have o1:=yaie (b:=80) (v:=v1) (by omega) h1;have o2:=yaie (b:=40) (v:=v2) (by omega) h2;unfold jY ySA;simp[o0,o1,o2,sZ];simp[yafE];omega
def yajG{n:Int}{x y:yRW}(C:Calm n x)(hn:n<=100000)(S:yaio y)(hy:y.ySl=x.ySl){k:Nat}(hk:k<2){w:yR8}(hw:y.yRX=x.yRX.set k w)(G:Gear (120-40*k) w)
 (hr:y.yRV=x.yRV\/∃c v v',c<=2/\dR x.yRV c=yafE (120-40*(c:Nat)) v/\(v-300<=v'/\v'<=v+300)/\y.yRV=x.yRV.set c (yafE (120-40*(c:Nat)) v')):Calm (n+300) y:=by
 obtain⟨v0,v1,v2,er,b0,b1,b2⟩:=C.r;obtain⟨w0,w1,ew,g0,g1⟩:=C.w;refine⟨yagk.2 S,?_,by rw[hy];exact C.y,?_⟩
 .rcases hr with hr|⟨c,v,v',hc,hv,hb,hr⟩
  .exact⟨v0,v1,v2,by rw[hr,er],by omega,by omega,by omega⟩
  .rw[er]at hv hr;have:c=0\/c=1\/c=2:=by omega
   rcases this with rfl|rfl|rfl
   .have e:v=v0:=by simpa[dR,yafE]using(congrArg Reach.ySh hv).symm
    exact⟨v',v1,v2,by rw[hr];rfl,by omega,by omega,by omega⟩
   .have e:v=v1:=by simpa[dR,yafE]using(congrArg Reach.ySh hv).symm
    exact⟨v0,v',v2,by rw[hr];rfl,by omega,by omega,by omega⟩
   .have e:v=v2:=by simpa[dR,yafE]using(congrArg Reach.ySh hv).symm
    exact⟨v0,v1,v',by rw[hr];rfl,by omega,by omega,by omega⟩
 .rw[ew]at hw;have:k=0\/k=1:=by omega
  rcases this with rfl|rfl
  .exact⟨w,w1,by rw[hw];rfl,G,g1⟩
  .exact⟨w0,w,by rw[hw];rfl,g0,G⟩
def yalP{n:Int}{x:yRW}(C:Calm n x)(hn:n<=100000){c:Nat}(hc:c<=2){v v':Int}(hv:dR x.yRV c=yafE (120-40*c) v)(hb:v-300<=v'/\v'<=v+300):jY (x.yRV.set c (yafE (120-40*c) v'))=true:=by
 obtain⟨v0,v1,v2,er,b0,b1,b2⟩:=C.r;rw[er]at hv|-;have:c=0\/c=1\/c=2:=by omega
 rcases this with rfl|rfl|rfl
 .have e:v=v0:=by simpa[dR,yafE]using(congrArg Reach.ySh hv).symm
  exact yaiw (v0:=v') (by omega) (by omega) (by omega)
 .have e:v=v1:=by simpa[dR,yafE]using(congrArg Reach.ySh hv).symm
  exact yaiw (v1:=v') (by omega) (by omega) (by omega)
 .have e:v=v2:=by simpa[dR,yafE]using(congrArg Reach.ySh hv).symm
  exact yaiw (v2:=v') (by omega) (by omega) (by omega)
structure yaiT(n:Int)(d:Nat)(k:Nat)(x y:yRW):Prop where
 here:Here (n+300) d y
 time:y.Time=x.Time
 locks:(y.yR1.length:Int)+yagu y=x.yR1.length+yagu x
 falls:¬((dW x.yRX k).Calls=[]/\(dW x.yRX k).yR0.yRY=[])->toDo y+1<=toDo x
 idle:(dW x.yRX k).Calls=[]/\(dW x.yRX k).yR0.yRY=[]->y=x
def yalv{n n':Int}{d:Nat}{x:yRW}(I:Here n d x)(h:n<=n'):Here n' d x:=by
 refine⟨⟨I.calm.ok,?_,I.calm.y,I.calm.w⟩,I.small,I.held,I.yaja,I.few,I.pas⟩;obtain⟨v0,v1,v2,er,b0,b1,b2⟩:=I.calm.r;exact⟨v0,v1,v2,er,by omega,by omega,by omega⟩
def yaiO{n:Int}{d k:Nat}{x y:yRW}(I:Here n d x)(hn:n<=99000)(hk:k<2){w:yR8}(S:yaio y)(hs:y.small)(hnum:∀p,num p y=num p x)
 (e1:y.Time=x.Time) (e2:y.ySl=x.ySl) (e3:y.yRX=x.yRX.set k w) (e4:y.yR3=x.yR3) (e5:y.yR1=x.yR1)
 (hr:y.yRV=x.yRV\/∃c v v',c<=2/\dR x.yRV c=yafE (120-40*(c:Nat)) v/\(v-300<=v'/\v'<=v+300)/\y.yRV=x.yRV.set c (yafE (120-40*(c:Nat)) v'))
 (H:Held x.Time d k (120-40*k) w) (hA:yagH k w=yagH k (dW x.yRX k)) (hX:yaia x.Time k w+1<=yaia x.Time k (dW x.yRX k)) (hb:¬((dW x.yRX k).Calls=[]/\(dW x.yRX k).yR0.yRY=[])):yaiT n d k x y:=by
 have L:=yagI I.calm;have hw:=yi4 (ws:=x.yRX) (k:=k) (by omega);have a1:=yaig (f:=yagH) (b:=w) (k:=0) hw;have a2:=yaig (f:=yaia x.Time) (b:=w) (k:=0) hw;rw[zbp]at a1 a2;have eA:yagu y=yagu x:=by unfold yagu;rw[e3,e4];omega
 refine⟨⟨yajG I.calm (by omega) S e2 hk e3 H.gear hr,hs,λj v hv=>?_,λj l v hl hv=>I.yaja j l v (by rw[<-e4];exact hl) (by rw[<-e2];exact hv),?_,?_⟩,e1,by rw[eA,e5],λ_=>?_,λh=>absurd h hb⟩
 .rw[e3,zaE]at hv;rw[e1];split at hv
  .rename_i h;subst h;rw[if_pos (by omega)]at hv;cases hv;exact H
  .exact I.held j v hv
 .have:=hnum λ_=>true;unfold num at this;simp only[zbA]at this;have:=I.few;omega
 .rw[eA,e5];exact I.pas
 .unfold toDo;rw[eA,e1,e3];omega
def yakd{t:Turn}{now:Int}:(mW [] t now).2=false:=by
 have h:(kS [] now).length=0:=by have:=ygT (list:=[]) (now:=now);simpa using this
 unfold mW;rw[if_pos (.inl h)]
def yair{n:Int}{d:Nat}{x:yRW}(I:Here n d x):0<=x.Time/\x.Time<=1000000:=aC.1 (yagk.1 I.calm.ok).time
def yalh{n:Int}{d k:Nat}{x:yRW}(I:Here n d x)(hn:n<=99000)(hk:k<2):ybZ x k=yahp x.Time (dW x.yRX k):=by
 have L:=yagI I.calm;have H:=I.held k _ (yi4 (ws:=x.yRX) (k:=k) (by omega));obtain⟨v0,r0,b0⟩:=yaiz I.calm (k:=k) (by omega);obtain⟨v1,r1,b1⟩:=yaiz I.calm (k:=k+1) (by omega);have e:(120-40*((k+1:Nat):Int))=(120-40*(k:Int))-40:=by omega
 unfold ybZ yahp;rw[r0,r1,e,yaml H.gear (by omega) (by omega) (by omega) λc hc=>(H.calls c hc).1.fine]
def yaiM{n:Int}{x:yRW}(C:Calm n x){k:Nat}(hk:k<2){g:Int}(hg:g=1\/g=2):∃v,dR x.yRV (lI k g)=yafE (120-40*(lI k g:Nat)) v/\(6000000-n<=v/\v<=6000000+n)/\lI k g<=2/\(g=1->lI k g=k)/\(g=2->lI k g=k+1):=by
 have h1:g=1->lI k g=k:=λe=>by unfold lI;rw[if_pos e]
 have h2:g=2->lI k g=k+1:=λe=>by unfold lI;rw[if_neg (by omega)]
 have h3:lI k g<=2:=by rcases hg with e|e;rw[h1 e];omega;rw[h2 e];omega
 obtain⟨v,r,b⟩:=yaiz C h3;exact⟨v,r,b,h3,h1,h2⟩
def yakE{n:Int}{d k:Nat}{x:yRW}(I:Here n d x)(h:(dW x.yRX k).Calls=[]/\(dW x.yRX k).yR0.yRY=[]):yaiT n d k x x:=
 ⟨yalv I (by omega),rfl,rfl,λhn=>absurd h hn,λ_=>rfl⟩
def yalM{n:Int}{d k:Nat}{x:yRW}(I:Here n d x)(hn:n<=99000)(hk:k<2)(hg:yag x k=0):yaiT n d k x (qM x k):=by
 have L:=yagI I.calm;have hkw:k<x.yRX.length:=by omega
 have hw:=yi4 (ws:=x.yRX) (k:=k) hkw;have H:=I.held k _ hw;have F:=ym8 I.calm.ok I.small hkw;have S:=yagk.1 I.calm.ok;have hN:=yalh I hn hk;have ht:=yair I;have hnum:∀p,num p (qM x k)=num p x:=λp=>yahb hkw;have hsm:(qM x k).small:=yrJ I.small F;have hg':(dW x.yRX k).yR0.Gate=0:=hg
 by_cases hb:(dW x.yRX k).Calls=[]/\(dW x.yRX k).yR0.yRY=[]
 .have e:qM x k=x:=by
   unfold qM rests;rw[hN,if_pos];unfold yahp;rw[hb.1,hb.2,yakd];rfl
  rw[e];exact yakE I hb
 have hbusy:(dW x.yRX k).yR0.yRY≠[]\/(dW x.yRX k).Calls≠[]:=by
  by_cases h:(dW x.yRX k).yR0.yRY=[]
  .exact .inr λe=>hb ⟨e,h⟩
  .exact .inl h
 have hr:rests (dW x.yRX k) (ybZ x k)=false:=by
  unfold rests;rw[hN];rcases hbusy with h|h
  .simp[h]
  .have:=(yajr (t:=(dW x.yRX k).Turn) ht.2 (λc hc=>(H.calls c hc).1) (yajf H) h).1;unfold yahp;simp[this]
 have ew:qM x k=yls x k (yan (dW x.yRX k) (yahp x.Time (dW x.yRX k))):=by
  unfold qM;rw[hr,hN];rfl
 rw[ew]at hnum hsm|-;have hgg:=yakB (w:=dW x.yRX k) (N:=yahp x.Time (dW x.yRX k));obtain⟨v0,r0,b0⟩:=yaiz I.calm (k:=k) (by omega);obtain⟨v1,r1,b1⟩:=yaiz I.calm (k:=k+1) (by omega);have e40:(120-40*((k+1:Nat):Int))=(120-40*(k:Int))-40:=by omega
 rw[e40]at r1
 by_cases ho:oP (dW x.yRX k).yR0 (dR x.yRV k) (dR x.yRV (k+1)) (yan (dW x.yRX k) (yahp x.Time (dW x.yRX k)))=true
 .obtain⟨p1,H1⟩:=yakT H ht.2 hg' hbusy
  have e:yls x k (yan (dW x.yRX k) (yahp x.Time (dW x.yRX k)))=rD x k (rH (dW x.yRX k) ((dW x.yRX k).yR0.yra (yan (dW x.yRX k) (yahp x.Time (dW x.yRX k))))):=by
   unfold yls opening tK;rw[if_pos ho];rfl
  rw[e]at hnum hsm|-;refine yaiO I hn hk (yait S H1.ok) hsm hnum rfl rfl rfl rfl rfl (.inl rfl) H1 rfl ?_ hb;unfold yaia;have e1:(rH (dW x.yRX k) ((dW x.yRX k).yR0.yra (yan (dW x.yRX k) (yahp x.Time (dW x.yRX k))))).Calls=(dW x.yRX k).Calls:=rfl;rw[e1];omega
 .obtain⟨v,rv,bv,s2,sg1,sg2⟩:=yaiM I.calm hk hgg
  have hl:levW (dW x.yRX k) (yan (dW x.yRX k) (yahp x.Time (dW x.yRX k)))=false:=by
   cases h:levW (dW x.yRX k) (yan (dW x.yRX k) (yahp x.Time (dW x.yRX k)))with
   |false=>rfl
   |true=>
    refine absurd ?_ ho;rw[r0,r1];exact yalu H (by omega) (by omega) (by omega) hg' hgg h
  have hc:(120-40*((lI k (yan (dW x.yRX k) (yahp x.Time (dW x.yRX k))):Nat):Int))=(120-40*(k:Int))\/(120-40*((lI k (yan (dW x.yRX k) (yahp x.Time (dW x.yRX k))):Nat):Int))=(120-40*(k:Int))-40:=by
   rcases hgg with e|e
   .left;rw[sg1 e]
   .right;rw[sg2 e];omega
  obtain⟨W',v',le,lw,lv,ll⟩:=yalc (v:=v) H.gear (yaha H) (by omega) H.water hg' hc (by omega);have hrise:60<=rise v/\rise v<=61:=by unfold rise;omega
  have h2:levW (rH (dW x.yRX k) ((dW x.yRX k).yR0.setW W')) (yan (dW x.yRX k) (yahp x.Time (dW x.yRX k)))=true:=by
   have eW:(rH (dW x.yRX k) ((dW x.yRX k).yR0.setW W')).yR0.ySn=W':=rfl;unfold levW;rw[eW];rcases hgg with e|e
   .rw[sg1 e]at ll;rw[if_pos e,decide_eq_true_eq];omega
   .rw[sg2 e]at ll;rw[if_neg (by omega),decide_eq_true_eq];omega
  obtain⟨p1,H1⟩:=yakM H (by omega) hg' hbusy hl lw h2
  have e:yls x k (yan (dW x.yRX k) (yahp x.Time (dW x.yRX k)))=qJ (rD x k (rH (dW x.yRX k) ((dW x.yRX k).yR0.setW W'))) (lI k (yan (dW x.yRX k) (yahp x.Time (dW x.yRX k)))) (yafE (120-40*((lI k (yan (dW x.yRX k) (yahp x.Time (dW x.yRX k))):Nat):Int)) v'):=by
   unfold yls opening tK;rw[if_neg ho,rv,le];rfl
  rw[e]at hnum hsm|-;refine yaiO I hn hk (yakP (yait S H1.ok) ?_) hsm hnum rfl rfl rfl rfl rfl (.inr ⟨_,v,v',s2,rv,lv,rfl⟩) H1 rfl ?_ hb
  .exact yalP I.calm (by omega) s2 rv lv
  .unfold yaia;have e1:(rH (dW x.yRX k) ((dW x.yRX k).yR0.setW W')).Calls=(dW x.yRX k).Calls:=rfl;rw[e1];omega
def yajZ{t:yRT}{l:List yRT}(h:Distinct (t::l)=true):Distinct l=true:=by
 simp only[Distinct,zad,decide_eq_true_eq,zdo,zaU,zar,zaY]at h|-;refine⟨⟨by omega,h.1.2.2⟩,h.2.2.1⟩
def yajO{n:Int}{x:yRW}(C:Calm n x)(hn:n<=99000){b:Int}{w:yR8}(G:Gear b w){k:Nat}(hk:k<2)(hb:b=120-40*k){g:Int}(hg:g=1\/g=2):xE (dR x.yRV (lI k g))=true/\60<=kD (dR x.yRV (lI k g))-yeb w.yR0 g:=by
 obtain⟨v,r,bv,s2,s3,s4⟩:=yaiM C hk hg;have hc:=yahS (b:=120-40*(lI k g:Nat)) (v:=v) (by omega) (by omega);have ho:=yaie (b:=120-40*(lI k g:Nat)) (v:=v) (by omega) (by omega);have hr:60<=rise v:=by unfold rise;omega
 rw[r];refine⟨ho,?_⟩;rw[hc];unfold yeb;rw[G.sa,G.sb];rcases hg with e|e
 .rw[if_pos e,s3 e];omega
 .rw[if_neg (by omega),s4 e];omega
def yalF{n:Int}{d k:Nat}{x:yRW}(I:Here n d x)(hn:n<=99000)(hk:k<2)(hg:yag x k≠0)(hi:(dW x.yRX k).yR0.yRY≠[]):(iK x k).2=true/\yaiT n d k x (iK x k).1:=by
 have L:=yagI I.calm;have hkw:k<x.yRX.length:=by omega
 have hw:=yi4 (ws:=x.yRX) (k:=k) hkw;have H:=I.held k _ hw;have F:=ym8 I.calm.ok I.small hkw;have S:=yagk.1 I.calm.ok;have hnum:∀p,num p (iK x k).1=num p x:=λp=>yahi F;have hsm:(iK x k).1.small:=yrD I.small F;have hg':(dW x.yRX k).yR0.Gate≠0:=hg;have hgg:=yaiP (yaha H) hg';obtain⟨o1,o2⟩:=yajO I.calm hn H.gear hk rfl hgg;obtain⟨t,l,hl⟩:=zcf hi;have ht:t∈(dW x.yRX k).yR0.yRY:=by rw[hl];simp
 obtain⟨ft,dt⟩:=H.inside t ht;have fd:=ft.yajC;have hup:=H.exit hg' t ht
 have hlv:leaves (dW x.yRX k).yR0 (dR x.yRV (jM x k)) t=true:=by
  unfold leaves;rw[hup];simp only[beq_self_eq_true,zaW,decide_eq_true_eq]
  show oH t<=kD (dR x.yRV (lI k (dW x.yRX k).yR0.Gate))-_
  omega
 have hcl:yh (dW x.yRX k).yR0 (dR x.yRV (jM x k))=true:=by
  unfold yh;rw[yaha H,show xE (dR x.yRV (jM x k))=true from o1];simp[hg']
 have hT:lW x k=((dW x.yRX k).yR0.yt1 l,t,true):=by
  unfold lW sK leaver;rw[if_pos hcl,hl,List.findIdx?_cons,hlv];rfl
 have e:iK x k=(oG (rD x k (rH (dW x.yRX k) ((dW x.yRX k).yR0.yt1 l))) (jM x k) ⟨t,yfJ x k⟩,true):=by
  unfold iK;rw[hT];rfl
 rw[e]at hnum hsm|-;dsimp only at hnum hsm|-;refine⟨rfl,?_⟩;obtain⟨v,rv,bv,s2,s3,s4⟩:=yaiM I.calm hk hgg;have hsd:jM x k=lI k (dW x.yRX k).yR0.Gate:=rfl;rw[<-hsd]at s2 s3 s4;obtain⟨y,hy⟩:∃y,x.ySl[jM x k]?=some y:=⟨_,zab (by omega)⟩;obtain⟨ms,hms⟩:∃ms,x.yR3[jM x k]?=some ms:=⟨_,zab (by omega)⟩
 have hwy:ykM y=true:=by
  have:=S.lanes _ _ _ hy hms;simp only[jS,zad]at this;exact this.1.1
 obtain⟨_,a,hya,ha⟩:=yakU I.calm hy;have hyl:y.Long=a:=by rw[hya]
 have hP:yfJ x k=if(dW x.yRX k).yR0.Gate=1 then a else 0:=by
  unfold yfJ;rw[zai,hy,zbc,hyl];rfl
 have hP2:0<=yfJ x k/\yfJ x k<=a:=by rw[hP];split<;>omega
 have hmo:xN ⟨t,yfJ x k⟩ y=true:=by
  simp only[xN,hwy,ft.ok,zaW];exact aC.2 (by rw[hyl];exact hP2)
 have hgo:toGo ⟨t,yfJ x k⟩ y=a.toNat:=by
  unfold toGo;simp only;rw[hup,hP,hyl];rcases hgg with e|e
  .rw[e];simp
  .rw[e];simp
 have hah:yaic (jM x k) t.Up=yahJ k t.Up:=by
  rw[hup];unfold yaic yahJ;rcases hgg with e|e
  .rw[s3 e,e];simp
  .rw[s4 e,e];simp<;>omega
 have hd:Distinct (dW x.yRX k).yR0.yRY=true:=by
  have:=yaha H;simp only[lF,zad]at this;exact this.2
 rw[hl]at hd;have hlane:=yahQ (zac hms);have hfew:=I.few;have htl:(x.yR3.flatMap yaaN).length<=(yaba x).length:=by unfold yaba;simp only[zah];omega
 have hgd:x.yR3.getD (jM x k) []=ms:=by rw[zai,hms];rfl
 have H1:Held x.Time d k (120-40*k) (rH (dW x.yRX k) ((dW x.yRX k).yR0.yt1 l)):=
  ⟨yaiH H.ok (yahn (yaha H) (yajZ hd)),⟨H.gear.len,H.gear.wid,H.gear.sa,H.gear.sb,H.gear.base,H.gear.area,H.gear.rate,H.gear.weir,H.gear.rule,H.gear.yaiS⟩,H.water,H.calls,
   λu hu=>H.inside u (by rw[hl];exact zbR _ hu),λu hu u' hu'=>H.same u (by rw[hl];exact zbR _ hu) u' (by rw[hl];exact zbR _ hu'),
   λh u hu=>H.exit hg' u (by rw[hl];exact zbR _ hu)⟩
 have S1:=yait (k:=k) S H1.ok
 have S2:=yakw (k:=jM x k) (m:=⟨t,yfJ x k⟩) S1 (by show _<x.yR3.length;omega) (by show(x.yR3.getD (jM x k) []).length<24;rw[hgd];omega) (λu hu=>by
  have hu':x.ySl[jM x k]?=some u:=hu;rw[hy]at hu';cases hu';exact hmo)
 have hM:(oG (rD x k (rH (dW x.yRX k) ((dW x.yRX k).yR0.yt1 l))) (jM x k) ⟨t,yfJ x k⟩).yR3=x.yR3.set (jM x k) (ms++[⟨t,yfJ x k⟩]):=by
  show x.yR3.set (jM x k) (x.yR3.getD (jM x k) []++[⟨t,yfJ x k⟩])=_
  rw[hgd]
 have a1:=yaig (f:=yagH) (b:=rH (dW x.yRX k) ((dW x.yRX k).yR0.yt1 l)) (k:=0) hw;have a2:=yaig (f:=yaia x.Time) (b:=rH (dW x.yRX k) ((dW x.yRX k).yR0.yt1 l)) (k:=0) hw;have a3:=yaig (f:=yahG) (b:=ms++[⟨t,yfJ x k⟩]) (k:=0) hms;rw[zbp]at a1 a2 a3
 have c1:yahG (jM x k) (ms++[⟨t,yfJ x k⟩])=yahG (jM x k) ms+yahJ k t.Up:=by
  unfold yahG;simp[hah]
 have c2:yagH k (dW x.yRX k)=yagH k (rH (dW x.yRX k) ((dW x.yRX k).yR0.yt1 l))+yahJ k t.Up:=by
  unfold yagH inA;rw[hl]
  show yaiy k (dW x.yRX k).Calls+_=yaiy k (dW x.yRX k).Calls+_+_
  simp only[zaC,zaM]
  show _=yaiy k (dW x.yRX k).Calls+(l.map λt=>(yahJ k t.Up:Int)).sum+_
  omega
 have c3:phase x.Time (rH (dW x.yRX k) ((dW x.yRX k).yR0.yt1 l))+1<=phase x.Time (dW x.yRX k):=by
  have e1:phase x.Time (dW x.yRX k)=l.length+1+3:=by
   unfold phase;rw[if_neg hi,if_neg hg',hl];simp only[zar];omega
  rw[e1]
  by_cases h0:l=[]
  .have:=(yaix (now:=x.Time) (w:=rH (dW x.yRX k) ((dW x.yRX k).yR0.yt1 l))).2 h0;omega
  .unfold phase;rw[if_neg (show(rH (dW x.yRX k) ((dW x.yRX k).yR0.yt1 l)).yR0.yRY≠[]from h0),if_neg (show(rH (dW x.yRX k) ((dW x.yRX k).yR0.yt1 l)).yR0.Gate≠0 from hg')]
   show(l.length:Int)+3+0+1<=_
   omega
 have eA:yagu (oG (rD x k (rH (dW x.yRX k) ((dW x.yRX k).yR0.yt1 l))) (jM x k) ⟨t,yfJ x k⟩)=yagu x:=by
  unfold yagu;rw[hM]
  show _+sumI yagH 0 (x.yRX.set k _)=_
  omega
 refine⟨⟨yajG I.calm (by omega) S2 rfl hk rfl H1.gear (.inl rfl),hsm,λj u hu=>?_,λj q u hq hu m hm=>?_,?_,?_⟩,rfl,by rw[eA];rfl,λ_=>?_,λh=>absurd h.2 hi⟩
 .have hu':(x.yRX.set k (rH (dW x.yRX k) ((dW x.yRX k).yR0.yt1 l)))[j]?=some u:=hu;rw[zaE]at hu';split at hu'
  .rename_i h;subst h
   try rw[if_pos hkw]at hu'
   cases hu';exact H1
  .exact I.held j u hu'
 .rw[hM,zaE]at hq;have hu':x.ySl[j]?=some u:=hu;split at hq
  .rename_i h;subst h
   try rw[if_pos (by omega)]at hq
   cases hq;rw[hy]at hu';cases hu';rcases zaj.1 hm with h|h
   .exact I.yaja _ ms y hms hy m h
   .rw[zak]at h;subst h;exact⟨ft,by rw[hgo];omega,by rw[hgo];show _+29*yaic (jM x k) t.Up<=d;rw[hah];omega⟩
  .exact I.yaja j q u hq hu' m hm
 .have:=hnum λ_=>true;unfold num at this;simp only[zbA]at this;omega
 .rw[eA];exact I.pas
 .unfold toDo;rw[eA]
  show _+sumI (yaia x.Time) 0 (x.yRX.set k _)+_<=_
  have:yaia x.Time k (rH (dW x.yRX k) ((dW x.yRX k).yR0.yt1 l))+1<=yaia x.Time k (dW x.yRX k):=by
   unfold yaia
   show ranks x.Time (dW x.yRX k).Calls+_-5*((dW x.yRX k).Calls.length:Int)+1<=_
   omega
  omega
def yakW{x:yRW}{k:Nat}(hi:(dW x.yRX k).yR0.yRY=[]):(iK x k).2=false:=by
 have h:leaver (dW x.yRX k).yR0 (dR x.yRV (jM x k))=none:=by
  unfold leaver;rw[hi];split<;>rfl
 unfold iK lW sK;rw[h];rfl
def yalN{t:Turn}{up:Bool}(h:ybY t=true):ybY (nY t up)=true:=by
 have h2:=aC.1 (show inRange t.Count 0 1000000=true from h);unfold nY;rw[if_pos h];split
 .exact aC.2 (by simp only;split<;>omega)
 .exact aC.2 (by simp only;omega)
def yamo{x:yRW}{ts:List yRT}(h:kU x.Book=true):kU (aU x ts)=true:=by
 have key:∀(ts:List yRT) (b:List ySb),kU b=true->kU (ts.foldl (λb t=>(gJ b (jH x.yRZ t x.Time)).1) b)=true:=by
  intro ts
  induction ts with
  |nil=>intro b h;exact h
  | cons t ts ih=>
   intro b h;rw[zbz];refine ih _ ?_;unfold gJ;split
   .rename_i hc;simp only[zad]at hc;exact hc.2
   .exact h
 exact key ts _ h
def yakI{w:yR8}{i:Nat}{c:yR4}(h:w.Calls[i]?=some c):aO w i=c.yRT:=by
 unfold aO;rw[zai,h];rfl
def yamy{n:Int}{d k:Nat}{x:yRW}(I:Here n d x)(hn:n<=99000)(hk:k<2)(hg:yag x k≠0)(hi:(dW x.yRX k).yR0.yRY=[]){c:yR4}(hc:c∈(dW x.yRX k).Calls)(hu:yaI c.yRT.Up=(dW x.yRX k).yR0.Gate):yeC x k=true:=by
 have L:=yagI I.calm;have H:=I.held k _ (yi4 (ws:=x.yRX) (k:=k) (by omega));have ht:=yair I;have hg':(dW x.yRX k).yR0.Gate≠0:=hg;have hgg:=yaiP (yaha H) hg';obtain⟨o1,o2⟩:=yajO I.calm hn H.gear hk rfl hgg;have o1':xE (dR x.yRV (jM x k))=true:=o1;have o2':60<=kD (dR x.yRV (jM x k))-yeb (dW x.yRX k).yR0 (dW x.yRX k).yR0.Gate:=o2;obtain⟨i,hci⟩:=zbd.1 hc;have hil:=(zaa.1 hci).1;have hp:=yajv ht.2 λc h=>(H.calls c h).1;have him:i∈kS (dW x.yRX k).Calls x.Time:=hp.mem_iff.2 (zaN.2 hil);have fc:=(H.calls c hc).1.fine;have fd:=fc.yajC
 have hmc:bY (dW x.yRX k) (dR x.yRV (jM x k)) i=true:=by
  unfold bY lJ;rw[yakI hci,yaha H,o1',fc.ok,hu];simp only[decide_true,zaW,decide_eq_true_eq];omega
 have hip:i∈places x k:=by
  unfold places placesTo;rw[zby];exact zbE.2 ⟨him,hmc⟩
 obtain⟨p0,ps,hps⟩:=zcf (List.ne_nil_of_mem hip);obtain⟨hpl,_⟩:=yafS (x:=x) (k:=k) p0 (by rw[hps];simp);have hcp:(dW x.yRX k).Calls[p0]?=some ((dW x.yRX k).Calls[p0]):=zab hpl;have f0:=(H.calls _ (zbo hpl)).1.fine
 have hq:(tC (dW x.yRX k) (places x k))[0]?=some ((dW x.yRX k).Calls[p0]).yRT:=by
  unfold tC;rw[hps,zaC,yakI hcp];rfl
 have hne:chosen x k≠[]:=by
  unfold chosen;refine yalR (yaha H) hq ?_ ?_
  .rw[hi,H.gear.len,H.gear.wid];exact yakh f0
  .have h1:=yZJ f0.ok;unfold yfv;have:(lG ((dW x.yRX k).Calls[p0]).yRT).length=((dW x.yRX k).Calls[p0]).yRT.qE.length:=by rw[h1.1,zal]
   omega
 have ho:bW (dW x.yRX k).Pauses x.Time=true:=by
  unfold bW;rw[H.gear.yaiS,aC.2 ht];rfl
 unfold yeC;rw[ho];simp[hi,hne]
def yalA{n:Int}{d k:Nat}{x:yRW}(I:Here n d x)(hn:n<=99000)(hk:k<2)(hg:yag x k≠0)(hm:yeC x k=true):(bH x k).2=true/\yaiT n d k x (bH x k).1:=by
 have L:=yagI I.calm;have hkw:k<x.yRX.length:=by omega
 have hw:=yi4 (ws:=x.yRX) (k:=k) hkw;have H:=I.held k _ hw;have F:=ym8 I.calm.ok I.small hkw;have S:=yagk.1 I.calm.ok;have hnum:∀p,num p (bH x k).1=num p x:=λp=>yahk F;have hsm:(bH x k).1.small:=yrZ I.small F;have G:=yagS F hm;have hm2:=hm;simp only[yeC,zad,decide_eq_true_eq,zbb,decide_eq_false_iff_not]at hm2;obtain⟨⟨hi,_⟩,hne⟩:=hm2;have ht:=yair I
 have hlen:1<=(yiZ x k).length:=by
  have:(yiZ x k).length=(chosen x k).length:=by unfold yiZ qAt;rw[zal]
  have:=zbs.2 hne;omega
 have hdir:∀t∈yiZ x k,t.Up=decide ((dW x.yRX k).yR0.Gate=2):=by
  obtain⟨i1,i2,i3⟩:=yahA (x:=x) (k:=k);intro t h;rw[i3]at h;obtain⟨i,hi,rfl⟩:=zaP.1 h;exact(yCN (yafS i (i2 i hi)).2).1
 obtain⟨n1,n2⟩:=yalG (j:=k) (l:=(dW x.yRX k).Calls.map λc=>c.yRT) G.num;simp only[zal]at n2;have hls:=yamk (cs:=(dW x.yRX k).Calls) (g:=yyy x k)
 have e:bH x k=(rD ⟨x.Time,x.yRV,x.ySl,x.yRX,x.yR3,x.yR9,x.ySd,x.yRZ,aU x (yiZ x k),x.yR1++nK x k (yiZ x k),x.Start,x.In,x.Out⟩ k (yj x k),true):=by
  unfold bH;rw[if_pos hm]
 rw[e]at hnum hsm|-;dsimp only at hnum hsm|-;refine⟨rfl,?_⟩
 have hlk:(yj x k).yR0=((dW x.yRX k).yR0.yt1 (yiZ x k)).yra 0:=by
  unfold yj;rw[G.lock]
 have hIn:(yj x k).yR0.yRY=yiZ x k:=by rw[hlk];rfl
 have hCa:(yj x k).Calls=mO (dW x.yRX k).Calls (yyy x k) (dW x.yRX k).Calls.length:=rfl;have hG0:(yj x k).yR0.Gate=0:=by rw[hlk];rfl
 have hds:Distinct (yiZ x k)=true:=by
  have:=G.fits;unfold oO at this;simp only[zad]at this;exact this.1.1
 generalize hlo:mO (dW x.yRX k).Calls (yyy x k) (dW x.yRX k).Calls.length=lo at *
 have hW1:fJ (yj x k)=true:=by
  have h0:=H.ok;simp only[fJ,zad,decide_eq_true_eq,zaf]at h0|-;refine⟨⟨⟨⟨⟨⟨?_,h0.1.1.1.1.1.2⟩,h0.1.1.1.1.2⟩,h0.1.1.1.2⟩,yalN h0.1.1.2⟩,?_⟩,?_⟩
  .rw[hlk];exact yajl (yahn (yaha H) hds) (by omega)
  .rw[hCa];have:=hls.length_le;omega
  .rw[hCa];intro c hc;exact h0.2 c (hls.subset hc)
 have H1:Held x.Time d k (120-40*k) (yj x k):=by
  refine⟨hW1,?_,by rw[hlk];exact H.water,λc hc=>H.calls c (hls.subset (by rw[<-hCa];exact hc)),λt h=>?_,λt h u h'=>?_,λh=>absurd hG0 h⟩
  .exact⟨by rw[hlk];exact H.gear.len,by rw[hlk];exact H.gear.wid,by rw[hlk];exact H.gear.sa,by rw[hlk];exact H.gear.sb,by rw[hlk];exact H.gear.base,by rw[hlk];exact H.gear.area,by rw[hlk];exact H.gear.rate,H.gear.weir,H.gear.rule,H.gear.yaiS⟩
  .rw[hIn]at h;obtain⟨c,hc,rfl⟩:=G.from_ t h;obtain⟨a,b⟩:=H.calls c hc;exact⟨a.fine,b⟩
  .rw[hIn]at h h';rw[hdir t h,hdir u h']
 have hcl:=F.calls;have hps:=I.pas
 have hA0:0<=yagu x:=by
  unfold yagu;have h1:0<=sumI yahG 0 x.yR3:=yaiv λi a _=>yaiq
  have h2:0<=sumI yagH 0 x.yRX:=yaiv λi a _=>by
   unfold yagH;have:=yaiG (j:=0+i) (l:=a.Calls);have:=yaiA (j:=0+i) (l:=a.yR0.yRY);omega
  omega
 have S0:yaio ⟨x.Time,x.yRV,x.ySl,x.yRX,x.yR3,x.yR9,x.ySd,x.yRZ,aU x (yiZ x k),x.yR1++nK x k (yiZ x k),x.Start,x.In,x.Out⟩:=
  { S with
   pas:=by
    show(x.yR1++nK x k (yiZ x k)).length<=500
    rw[zah];unfold nK;rw[zal];omega
   pasO:=λp hp=>by
    rcases zaj.1 hp with h|h
    .exact S.pasO p h
    .obtain⟨t,h2,rfl⟩:=zaP.1 h;obtain⟨c,hc,rfl⟩:=G.from_ t h2
     show yt x.yRX.length ⟨x.Time,k,c.yRT⟩=true
     simp only[yt,S.time,(H.calls c hc).1.fine.ok,zaW,zcv];exact aC.2 (by omega)
   book:=yamo S.book}
 have S1:=yait (k:=k) S0 hW1;have a1:=yaig (f:=yagH) (b:=yj x k) (k:=0) hw;have a2:=yaig (f:=yaia x.Time) (b:=yj x k) (k:=0) hw;rw[zbp]at a1 a2
 have c1:yagH k (dW x.yRX k)=yagH k (yj x k)+(yiZ x k).length:=by
  unfold yagH;rw[hIn,hCa,hi,yakH,yakH];have:inA k []=0:=rfl;omega
 have eA:yagu (rD ⟨x.Time,x.yRV,x.ySl,x.yRX,x.yR3,x.yR9,x.ySd,x.yRZ,aU x (yiZ x k),x.yR1++nK x k (yiZ x k),x.Start,x.In,x.Out⟩ k (yj x k))+(yiZ x k).length=yagu x:=by
  unfold yagu
  show sumI yahG 0 x.yR3+sumI yagH 0 (x.yRX.set k _)+_=_
  omega
 have eP:((x.yR1++nK x k (yiZ x k)).length:Int)=x.yR1.length+(yiZ x k).length:=by
  rw[zah];unfold nK;rw[zal];omega
 refine⟨⟨yajG I.calm (by omega) S1 rfl hk rfl H1.gear (.inl rfl),hsm,λj u hu=>?_,I.yaja,?_,?_⟩,rfl,?_,λ_=>?_,λh=>?_⟩
 .have hu':(x.yRX.set k (yj x k))[j]?=some u:=hu;rw[zaE]at hu';split at hu'
  .rename_i h;subst h
   try rw[if_pos hkw]at hu'
   cases hu';exact H1
  .exact I.held j u hu'
 .have:=hnum λ_=>true;unfold num at this;simp only[zbA]at this;have:=I.few;omega
 .show((x.yR1++nK x k (yiZ x k)).length:Int)+_<=16
  omega
 .show((x.yR1++nK x k (yiZ x k)).length:Int)+_=_
  omega
 .unfold toDo
  show _+sumI (yaia x.Time) 0 (x.yRX.set k _)+_<=_
  have r1:ranks x.Time lo<=ranks x.Time (dW x.yRX k).Calls:=yamr hls λc hc=>(yaim (H.calls c hc).1 ht.2).2.1;have r2:=yajg (now:=x.Time) (w:=yj x k);have r3:=yaix (now:=x.Time) (w:=dW x.yRX k)
  have r4:phase x.Time (yj x k)=(yiZ x k).length+3+wet x.Time (yj x k):=by
   unfold phase;rw[if_neg (by rw[hIn];exact zbs.1 hlen),if_pos hG0,hIn]
  have:yaia x.Time k (yj x k)<=yaia x.Time k (dW x.yRX k)+6*(yiZ x k).length+5:=by
   unfold yaia;rw[hCa,r4];omega
  omega
 .rw[h.1,zbf]at n2;omega
def yalO{x:yRW}{k:Nat}(hk:k<x.yRX.length):rD x k (dW x.yRX k)=x:=by
 have hw:=yi4 (ws:=x.yRX) (k:=k) hk
 have e:x.yRX.set k (dW x.yRX k)=x.yRX:=by
  refine zbU λj=>?_;rw[zaE];split
  .rename_i h;subst h
   try rw[if_pos hk]
   rw[hw]
  .rfl
 unfold rD;rw[e]
def yalT{n:Int}{d k:Nat}{x:yRW}(I:Here n d x)(hn:n<=99000)(hk:k<2)(hg:yag x k≠0)(hi:(dW x.yRX k).yR0.yRY=[])(hm:yeC x k=false):yaiT n d k x (xY x k):=by
 have L:=yagI I.calm;have hkw:k<x.yRX.length:=by omega
 have hw:=yi4 (ws:=x.yRX) (k:=k) hkw;have H:=I.held k _ hw;have F:=ym8 I.calm.ok I.small hkw;have S:=yagk.1 I.calm.ok;have ht:=yair I;have hN:=yalh I hn hk;have hnum:∀p,num p (xY x k)=num p x:=λp=>yahH hkw;have hsm:(xY x k).small:=yuj I.small F
 by_cases hc:(dW x.yRX k).Calls=[]
 .have e:xY x k=x:=by
   unfold xY
   have:mG (dW x.yRX k) (ybZ x k)=false:=by
    unfold mG;rw[hN];unfold yahp;rw[hc,yakd];simp[hi]
   rw[this];exact yalO hkw
  rw[e];exact yakE I ⟨hc,hi⟩
 .have hno:∀c∈(dW x.yRX k).Calls,yaI c.yRT.Up≠(dW x.yRX k).yR0.Gate:=λc h e=>by
   rw[yamy I hn hk hg hi h e]at hm;cases hm
  obtain⟨p1,p2,H1⟩:=yala H ht.2 hg hi hc hno
  have e:xY x k=rD x k (ya7 (dW x.yRX k) 0):=by
   unfold xY;rw[hN,p1];rfl
  rw[e]at hnum hsm|-;refine yaiO I hn hk (yait S H1.ok) hsm hnum rfl rfl rfl rfl rfl (.inl rfl) H1 rfl ?_ λh=>hc h.1;unfold yaia;have e1:(ya7 (dW x.yRX k) 0).Calls=(dW x.yRX k).Calls:=rfl;rw[e1];omega
def yalp{n:Int}{d k:Nat}{x:yRW}(I:Here n d x)(hn:n<=99000)(hk:k<2):yaiT n d k x (fQ x k):=by
 have L:=yagI I.calm
 have A:yaiT n d k x (yeU x k):=by
  unfold yeU;split
  .rename_i h;exact yalM I hn hk h
  .rename_i hg
   by_cases hi:(dW x.yRX k).yR0.yRY=[]
   .rw[if_neg (by rw[yakW hi];simp)];cases hm:yeC x k with
    |true=>
     obtain⟨e,A⟩:=yalA I hn hk hg hm;rw[if_pos e];exact A
    |false=>
     have e:(bH x k).2=false:=by unfold bH;rw[hm];rfl
     rw[if_neg (by rw[e];simp)];exact yalT I hn hk hg hi hm
   .obtain⟨e,A⟩:=yalF I hn hk hg hi;rw[if_pos e];exact A
 have e:fQ x k=yeU x k:=by
  unfold fQ yd9;rw[I.calm.ok,zeh,A.here.calm.ok];simp;omega
 rw[e];exact A
def grow(w:yR8)(new:List yR4):yR8:={w with Calls:=w.Calls++new}
def yakZ{now:Int}{c:yR4}(h:Plain now c)(hn:now+1<=1000000):rF c (now+1)<=rF c now:=by
 have h1:=(yaim h (by omega)).1;have h2:=(yaim (now:=now+1) ⟨h.fine,h.call,by have:=h.since;omega,h.free⟩ hn).1;have h3:=(yqg h.call).cls;rw[h1,h2];split<;>split<;>omega
def yajE{now:Int}(hn:now+1<=1000000):∀{l:List yR4},(∀c∈l,Plain now c)->ranks (now+1) l<=ranks now l/\(ranks (now+1) l=ranks now l->∀c∈l,rF c (now+1)=rF c now)
 |[],_=>⟨zbj _,λ_ c h=>nomatch h⟩
 |c::l,h=>by
  obtain⟨i1,i2⟩:=yajE hn (l:=l) λc h'=>h c (by simp[h']);have r:=yakZ (h c (by simp)) hn;unfold ranks at i1 i2|-;simp only[zaC,zaM];refine⟨by omega,λe c' hc=>?_⟩;rcases zax.1 hc with e2|h2
  .rw[e2];omega
  .exact i2 (by omega) c' h2
def yaki{now:Int}(hn:now<=1000000):∀{l:List yR4},(∀c∈l,Plain now c)->ranks now l<=2*l.length
 |[],_=>zbj _
 |c::l,h=>by
  have i1:=yaki hn (l:=l) λc h'=>h c (by simp[h']);have r:=(yaim (h c (by simp)) hn).2;unfold ranks at i1|-;simp only[zaC,zaM,zar];omega
def yakt{now:Int}{c:yR4}(h:Plain now c):Plain (now+1) c:=⟨h.fine,h.call,by have:=h.since;omega,h.free⟩
def yald{now now':Int}{w:yR8}{new:List yR4}(hi:w.yR0.yRY≠[]):wet now' (grow w new)=wet now w:=by
 unfold wet yan yoI levW grow;simp only[hi,if_false]
def yaly{now:Int}{d j:Nat}{b:Int}{w:yR8}{new:List yR4}(H:Held now d j b w)(hn:now+1<=1000000)(h:∀c∈new,Plain (now+1) c/\29*(yahJ j c.yRT.Up+1)<=d)(hl:w.Calls.length+new.length<=24):
 Held (now+1) d j b (grow w new)/\yaia (now+1) j (grow w new)<=yaia now j w/\yagH j (grow w new)=yagH j w+yaiy j new:=by
 have hall:∀c∈w.Calls++new,Plain (now+1) c/\29*(yahJ j c.yRT.Up+1)<=d:=λc hc=>by
  rcases zaj.1 hc with h1|h1
  .exact⟨yakt (H.calls c h1).1,(H.calls c h1).2⟩
  .exact h c h1
 refine⟨⟨?_,⟨H.gear.len,H.gear.wid,H.gear.sa,H.gear.sb,H.gear.base,H.gear.area,H.gear.rate,H.gear.weir,H.gear.rule,H.gear.yaiS⟩,H.water,hall,H.inside,H.same,H.exit⟩,?_,?_⟩
 .have h0:=H.ok;simp only[fJ,zad,decide_eq_true_eq,zaf]at h0|-;refine⟨⟨h0.1.1,?_⟩,λc hc=>(hall c hc).1.call⟩
  show(w.Calls++new).length<=24
  rw[zah];omega
 .have r1:=yajE hn λc hc=>(H.calls c hc).1;have r2:=yaki hn λc hc=>(h c hc).1
  have r3:ranks (now+1) (w.Calls++new)=ranks (now+1) w.Calls+ranks (now+1) new:=by
   unfold ranks;rw[zaD,zcB]
  have r4:((w.Calls++new).length:Int)=w.Calls.length+new.length:=by rw[zah];omega
  have hX:yaia (now+1) j (grow w new)=ranks (now+1) w.Calls+ranks (now+1) new+phase (now+1) (grow w new)-5*(w.Calls.length+new.length):=by
   unfold yaia
   show ranks (now+1) (w.Calls++new)+_-5*((w.Calls++new).length:Int)=_
   rw[r3,r4]
  have hX2:yaia now j w=ranks now w.Calls+phase now w-5*w.Calls.length:=rfl;rw[hX,hX2]
  by_cases hi:w.yR0.yRY=[]
  .have p1:=yaix (now:=now) (w:=w);have p2:=yaix (now:=now+1) (w:=grow w new);have p3:=p2.2 hi
   by_cases hw:new=[]
   .subst hw;have e0:grow w []=w:=by cases w;simp[grow]
    rw[e0];have hr0:ranks (now+1) []=0:=rfl;rw[hr0];simp only[zbf]
    by_cases hc:w.Calls=[]
    .have q1:phase (now+1) w=0:=by unfold phase;rw[if_pos hi,if_pos hc]
     omega
    .by_cases hg:w.yR0.Gate=0
     .have q1:phase (now+1) w=wet (now+1) w:=by unfold phase;rw[if_pos hi,if_neg hc,if_pos hg]
      have q2:phase now w=wet now w:=by unfold phase;rw[if_pos hi,if_neg hc,if_pos hg]
      have w1:=yajg (now:=now+1) (w:=w);have w2:=yajg (now:=now) (w:=w)
      by_cases he:ranks (now+1) w.Calls=ranks now w.Calls
      .have:=yalr (t:=w.Turn) (r1.2 he);have q3:wet (now+1) w=wet now w:=by unfold wet yahp;rw[this]
       omega
      .omega
     .have q1:phase (now+1) w=phase now w:=by unfold phase;rw[if_pos hi,if_neg hc,if_neg hg,if_pos hi,if_neg hc,if_neg hg]
      omega
   .have:=zbs.2 hw;omega
  .have q1:phase (now+1) (grow w new)=phase now w:=by
    unfold phase;rw[if_neg (show(grow w new).yR0.yRY≠[]from hi),if_neg hi,yald hi];rfl
   omega
 .unfold yagH yaiy
  show((w.Calls++new).map _).sum+inA j w.yR0.yRY=_
  rw[zaD,zcB];omega
def Calling(now:Int)(d j:Nat)(c:yR4):Prop:=Plain now c/\29*(yahJ j c.yRT.Up+1)+1<=d
def yakC(now:Int)(d:Nat)(W0 W:List yR8):Prop:=W.length=W0.length/\∀(j:Nat) (w0:yR8),W0[j]?=some w0->∃new,W[j]?=some (grow w0 new)/\∀c∈new,Calling now d j c
def yamb{now:Int}{d:Nat}{W:List yR8}:yakC now d W W:=⟨rfl,λj w h=>⟨[],by rw[h];cases w;simp[grow],λc h=>nomatch h⟩⟩
def yamg{now:Int}{d j:Nat}{W0 W:List yR8}{c:yR4}(h:yakC now d W0 W)(hj:j<W.length)(hc:Calling now d j c):yakC now d W0 (yTE W j c)/\sumI yagH 0 (yTE W j c)=sumI yagH 0 W+(yahJ j c.yRT.Up+1):=by
 obtain⟨h1,h2⟩:=h;obtain⟨w0,hw0⟩:∃w0,W0[j]?=some w0:=⟨_,zab (by omega)⟩;obtain⟨new,hw,hn⟩:=h2 j w0 hw0
 have e:yTE W j c=W.set j (grow w0 (new++[c])):=by
  unfold yTE;rw[hw];simp only[grow,zbh]
 rw[e];refine⟨⟨by rw[zbn];exact h1,λi v hv=>?_⟩,?_⟩
 .rw [zaE];split
  .rename_i he;subst he;rw[hw0]at hv;cases hv
   try rw[if_pos hj]
   exact⟨_,rfl,λc' hc'=>by
    rcases zaj.1 hc' with h|h
    .exact hn c' h
    .rw[zak]at h;rw[h];exact hc⟩
  .exact h2 i v hv
 .have a:=yaig (f:=yagH) (b:=grow w0 (new++[c])) (k:=0) hw;rw[zbp]at a
  have e2:yagH j (grow w0 (new++[c]))=yagH j (grow w0 new)+(yahJ j c.yRT.Up+1):=by
   unfold yagH yaiy grow;simp only[zaD,zcB,zaC,zcj,zaM,List.sum_nil];omega
  omega
def yakv{W:List yR8}{j:Nat}{w:yR8}(h:W[j]?=some w):w.Calls.length<=(W.flatMap yL).length:=by
 have hm:=zac h;clear h
 induction W with
 |nil=>cases hm
 |cons a W ih=>
  simp only[zaU,zah];rcases zax.1 hm with e|e
  .subst e;unfold yL;rw[zah,zal];omega
  .have:=ih e;omega
def yakY{m:yR6}{w:Way}{r:Reach}:(yS7 m w r).yRT=m.yRT:=by
 unfold yS7;split<;>rfl
def yalm(d k:Nat)(w:Way)(m:yR6):Prop:=Fine m.yRT/\xN m w=true/\1<=toGo m w/\toGo m w+29*yaic k m.yRT.Up+1<=d
structure Lane(x:yRW)(d k:Nat)(w:Way)(W0:List yR8)(s:yVr):Prop where
 kept:∀m∈s.1,yalm d k w m
 works:yakC x.Time d W0 s.2.1
 arr:∀t∈s.2.2,oC t=true
def yalz{x:yRW}{d k:Nat}{w:Way}{r:Reach}{W0:List yR8}{s:yVr}{m:yR6}(hk:k<=2)(hR:x.yRV.length=3)(hW:W0.length=2)(ht:0<=x.Time/\x.Time<=1000000)
 (hm:Fine m.yRT/\1<=toGo m w/\toGo m w+29*yaic k m.yRT.Up<=d) (hmo:xN m w=true) (hr:xE r=true) (hd:oH m.yRT<=yTp w r) (h1:yTp w r<=1000)
 (I:Lane x d k w W0 s) (hroom:(s.2.1.flatMap yL).length<=8):
 Lane x d k w W0 (yS3 x k w s (yS7 m w r))/\yahG k (yS3 x k w s (yS7 m w r)).1+sumI yagH 0 (yS3 x k w s (yS7 m w r)).2.1=yahG k s.1+sumI yagH 0 s.2.1+yaic k m.yRT.Up:=by
 obtain⟨q1,q2,q3⟩:=yamm hmo hr hd h1;obtain⟨f,g1,g2⟩:=hm;have q2:=q2 (by omega);have etr:=yakY (m:=m) (w:=w) (r:=r);generalize yS7 m w r=m' at *;have hl2:s.2.1.length=2:=by rw[I.works.1];exact hW
 unfold yS3
 by_cases he:AtEnd m' w=true
 .have e0:=q3.1 he;rw[if_pos he]
  by_cases hle:yTh x k m'.yRT=true
  .rw[if_pos hle];refine⟨⟨I.kept,I.works,λt h=>?_⟩,?_⟩
   .rcases zaj.1 h with h|h
    .exact I.arr t h
    .rw[zak]at h;rw[h,etr];exact f.ok
   .have:yaic k m.yRT.Up=0:=by
     unfold yTh at hle;rw[etr,hR]at hle;unfold yaic;cases hu:m.yRT.Up with
     |true=>simp[hu]at hle|-;exact hle
     |false=>simp[hu]at hle|-;omega
    rw[this];simp
  .rw[if_neg hle]
   have hJ:yT7 k m'.yRT<2/\yahJ (yT7 k m'.yRT) m.yRT.Up+1=yaic k m.yRT.Up:=by
    unfold yTh at hle;rw[etr,hR]at hle;unfold yT7 yahJ yaic;rw[etr];cases hu:m.yRT.Up with
    |true=>simp[hu]at hle|-;omega
    |false=>simp[hu]at hle|-;omega
   obtain⟨v,hv⟩:∃v,s.2.1[yT7 k m'.yRT]?=some v:=⟨_,zab (by omega)⟩
   have hnr:noRoom s.2.1 (yT7 k m'.yRT)=false:=by
    unfold noRoom;rw[hv];have:=yakv hv;exact decide_eq_false (by omega)
   rw[if_neg (by rw[hnr];simp)]
   have hcall:Calling x.Time d (yT7 k m'.yRT) ⟨m'.yRT,x.Time,-1⟩:=by
    refine⟨⟨by rw[etr];exact f,?_,zbj _,rfl⟩,?_⟩
    .simp only[jO,etr,f.ok,zaW,zad];exact⟨aC.2 ht,by decide⟩
    .show 29*(yahJ (yT7 k m'.yRT) m'.yRT.Up+1)+1<=d
     have hJ':=hJ.2;rw[etr]at hJ'|-;rw[hJ'];omega
   obtain⟨b1,b2⟩:=yamg I.works (by omega) hcall;refine⟨⟨I.kept,b1,I.arr⟩,?_⟩
   show yahG k s.1+sumI yagH 0 (yTE _ _ _)=_
   rw[b2]
   show _+(_+((yahJ (yT7 k m'.yRT) m'.yRT.Up:Int)+1))=_
   have hJ':=hJ.2;rw[etr]at hJ'|-;omega
 .rw[if_neg he]
  have hpos:1<=toGo m' w:=by
   have:¬toGo m' w=0:=λe=>he (q3.2 e);omega
  refine⟨⟨λa ha=>?_,I.works,I.arr⟩,?_⟩
  .rcases zaj.1 ha with h|h
   .exact I.kept a h
   .rw[zak]at h;subst h;exact⟨by rw[etr];exact f,q1,hpos,by rw[etr];omega⟩
  .show yahG k (s.1++[m'])+_=_
   unfold yahG;simp only[zaD,zcB,zaC,zcj,zaM,List.sum_nil,etr];omega
def yajo{α:Type}{f:Nat->α->Int}{a:α}:∀{l:List α} {k:Nat},sumI f k (l++[a])=sumI f k l+f (k+l.length) a
 |[],k=>by simp[sumI]
 |c::l,k=>by
  simp only[zcw,sumI,zar];rw[yajo (l:=l) (k:=k+1),show k+1+l.length=k+(l.length+1) by omega];omega
def yakj{x:yRW}{d k:Nat}{w:Way}{r:Reach}{W0:List yR8}(hk:k<=2)(hR:x.yRV.length=3)(hW:W0.length=2)(ht:0<=x.Time/\x.Time<=1000000)(hr:xE r=true)(h1:yTp w r<=1000):
 ∀(ms:List yR6) (s:yVr),(∀m∈ms,(Fine m.yRT/\1<=toGo m w/\toGo m w+29*yaic k m.yRT.Up<=d)/\xN m w=true/\oH m.yRT<=yTp w r)->Lane x d k w W0 s->yabI (λ_=>true) s+ms.length<=8->
  Lane x d k w W0 (ms.foldl (λq m=>yS3 x k w q (yS7 m w r)) s)/\yahG k (ms.foldl (λq m=>yS3 x k w q (yS7 m w r)) s).1+sumI yagH 0 (ms.foldl (λq m=>yS3 x k w q (yS7 m w r)) s).2.1=yahG k s.1+sumI yagH 0 s.2.1+yahG k ms
 |[],s,_,I,_=>⟨I,by show yahG k s.1+sumI yagH 0 s.2.1=yahG k s.1+sumI yagH 0 s.2.1+0;omega⟩
 | m::ms,s,h,I,hn=>by
  obtain⟨a1,a2,a3⟩:=h m (by simp);simp only[zar]at hn
  have hroom:(s.2.1.flatMap yL).length<=8:=by
   have:yabI (λ_=>true) s=(yaaN s.1).length+(s.2.1.flatMap yL).length+s.2.2.length:=by unfold yabI;simp only[zbA]
   omega
  obtain⟨b1,b2⟩:=yalz hk hR hW ht a1 a2 hr a3 h1 I hroom;have hc:=yagm (p:=λ_=>true) (x:=x) (k:=k) (w:=w) (s:=s) (m:=yS7 m w r);have ho:one (λ_=>true) (yS7 m w r).yRT=1:=rfl;obtain⟨c1,c2⟩:=yakj hk hR hW ht hr h1 ms (yS3 x k w s (yS7 m w r)) (λm' hm'=>h m' (by simp[hm'])) b1 (by omega);simp only[zbz];refine⟨c1,?_⟩;rw[c2,b2];unfold yahG;simp only[zaC,zaM];omega
structure yamw(x:yRW)(d k:Nat)(s:List (List yR6)×List yR8×List yRT):Prop where
 len:s.1.length=k
 kept:∀(i:Nat) (l:List yR6) (w:Way),s.1[i]?=some l->x.ySl[i]?=some w->∀m∈l,yalm d i w m
 works:yakC x.Time d x.yRX s.2.1
 arr:∀t∈s.2.2,oC t=true
 locks:sumI yahG 0 s.1+sumI yagH 0 s.2.1=sumI yahG 0 (x.yR3.take k)+sumI yagH 0 x.yRX
def yalW{n:Int}{x:yRW}(C:Calm n x)(hn:n<=99000){k:Nat}{w:Way}{r:Reach}(hk:k<=2)(hw:x.ySl[k]?=some w)(hr:x.yRV[k]?=some r):xE r=true/\60<=yTp w r/\yTp w r<=1000:=by
 have S:=yagk.1 C.ok;have L:=yagI C;obtain⟨ms,hms⟩:∃ms,x.yR3[k]?=some ms:=⟨_,zab (by omega)⟩
 have hwy:ykM w=true:=by
  have:=S.lanes _ _ _ hw hms;simp only[jS,zad]at this;exact this.1.1
 obtain⟨_,a,rfl,ha⟩:=yakU C hw;obtain⟨v,rv,bv⟩:=yaiz C hk;have hd:=ye8 (rs:=x.yRV) (k:=k) (by omega);rw[hr]at hd;have hrr:r=yafE (120-40*k) v:=by rw[<-rv];exact Option.some.inj hd
 subst hrr;have hc:=yahS (b:=120-40*(k:Nat)) (v:=v) (by omega) (by omega);have ho:=yaie (b:=120-40*(k:Nat)) (v:=v) (by omega) (by omega);have hrise:60<=rise v/\rise v<=61:=by unfold rise;omega
 refine⟨ho,?_⟩
 have:yTp ⟨a,120-40*k⟩ (yafE (120-40*k) v)=rise v:=by
  unfold yTp;rw[if_pos ⟨hwy,ho⟩,hc];simp only;rw[if_pos (by omega)];omega
 omega
def yalk{n:Int}{d:Nat}{x:yRW}(C:Calm n x)(hn:n<=99000)(hfew:(yaba x).length<=8)(hs:∀(k:Nat) (l:List yR6) (w:Way),x.yR3[k]?=some l->x.ySl[k]?=some w->∀m∈l,Fine m.yRT/\1<=toGo m w/\toGo m w+29*yaic k m.yRT.Up<=d):
 ∀k:Nat,k<=3->yamw x d k (ySW x k)
 |0,_=>⟨rfl,λi l w h=>by simp[ySW]at h,yamb,λt h=>(yagk.1 C.ok).arrT t h,by simp[ySW,sumI]⟩
 | k +1,hk=>by
  have ih:=yalk C hn hfew hs k (by omega);have L:=yagI C;have S:=yagk.1 C.ok;have F:=yCK C.ok;have hN:=yafB (p:=λ_=>true) F k (by omega);obtain⟨w,hw⟩:∃w,x.ySl[k]?=some w:=⟨_,zab (by omega)⟩;obtain⟨r,hr⟩:∃r,x.yRV[k]?=some r:=⟨_,zab (by omega)⟩;obtain⟨ms,hms⟩:∃ms,x.yR3[k]?=some ms:=⟨_,zab (by omega)⟩;obtain⟨d1,d2,d3⟩:=yalW C hn (by omega) hw hr;have hlane:=S.lanes _ _ _ hw hms;simp only[jS,zad,zaf]at hlane;have htk:x.yR3.take (k+1)=x.yR3.take k++[ms]:=by rw[zao,hms];rfl
  have hcnt:((x.yR3.take k).flatMap yaaN).length+ms.length+(x.yRX.flatMap yL).length+x.yR9.length<=8:=by
   have h1:((x.yR3.take (k+1)).flatMap yaaN).length<=(x.yR3.flatMap yaaN).length:=by
    have:x.yR3=x.yR3.take (k+1)++x.yR3.drop (k+1):=(zav _ _).symm
    have h2:(x.yR3.flatMap yaaN).length=((x.yR3.take (k+1)).flatMap yaaN).length+((x.yR3.drop (k+1)).flatMap yaaN).length:=by
     conv=>lhs;rw[this]
     rw[zaV,zah]
    omega
   rw[htk,zaV,zah]at h1;have h3:([ms].flatMap yaaN).length=ms.length:=by simp[yaaN]
   unfold yaba at hfew;simp only[zah]at hfew;omega
  simp only[zbA]at hN
  have hb:yabI (λ_=>true) (([],(ySW x k).2):yVr)+ms.length<=8:=by
   unfold yabI;simp only[zbA];have:(yaaN []).length=0:=rfl;omega
  obtain⟨q1,q2⟩:=yakj (W0:=x.yRX) (d:=d) (k:=k) (w:=w) (r:=r) (by omega) L.1 L.2.1 (aC.1 S.time) d1 d3 ms (([],(ySW x k).2):yVr) (λm hm=>by
   have h1:=hs k ms w hms hw m hm;have:=h1.1.yajC;exact⟨h1,hlane.2 m hm,by omega⟩) ⟨λm h=>(nomatch h),ih.works,ih.arr⟩ hb
  have e:ySW x (k+1)=((ySW x k).1++[(yS4 x k w r (ySW x k).2 ms).1],(yS4 x k w r (ySW x k).2 ms).2):=by
   simp only[ySW,hw,hr,hms]
  rw[e];have es:yS4 x k w r (ySW x k).2 ms=ms.foldl (λq m=>yS3 x k w q (yS7 m w r)) ([],(ySW x k).2):=rfl;rw[<-es]at q1 q2;generalize yS4 x k w r (ySW x k).2 ms=z at *;refine⟨by simp only[zah,zar,zbf];rw[ih.len],λi l v hl hv m hm=>?_,q1.works,q1.arr,?_⟩
  .by_cases hi:i<k
   .rw[zaX (by rw[ih.len];exact hi)]at hl;exact ih.kept i l v hl hv m hm
   .have hil:=(zaa.1 hl).1;simp only[zah,zar,zbf]at hil;have:i=k:=by have:=ih.len;omega
    subst this;rw[zaz (by rw[ih.len];exact Nat.le_refl _),ih.len,zcc]at hl;have hl':z.1=l:=by simpa using hl
    subst hl';rw[hw]at hv;cases hv;exact q1.kept m hm
  .show sumI yahG 0 ((ySW x k).1++[z.1])+sumI yagH 0 z.2.1=_
   have hl:=ih.locks;rw[yajo,ih.len,htk,yajo,zaA,zbp,zbp,show min k x.yR3.length=k by omega];have:yahG k []=0:=rfl;have q2':yahG k z.1+sumI yagH 0 z.2.1=yahG k []+sumI yagH 0 (ySW x k).2.1+yahG k ms:=q2;omega
def yama{α:Type}:∀{l:List α},l.length=2->∃a b,l=[a,b]
 |[a,b],_=>⟨a,b,rfl⟩
def yaiW{x:yRW}(h:x.yRX.length=2):∃w0 w1,x.yRX=[w0,w1]:=yama h
def older(x:yRW):yRW:={x with Time:=x.Time+1}
def yajK{n:Int}{x:yRW}(C:Calm n x)(ht:x.Time+1<=1000000):Calm n (older x):=by
 have S:=yagk.1 C.ok;have h0:=aC.1 S.time;exact⟨yagk.2 {S with time:=aC.2 (by show 0<=x.Time+1/\x.Time+1<=1000000;omega)},C.r,C.y,C.w⟩
def Held.up{now:Int}{d d' j:Nat}{b:Int}{w:yR8}(H:Held now d j b w)(h:d<=d'):Held now d' j b w:=
 ⟨H.ok,H.gear,H.water,λc hc=>⟨(H.calls c hc).1,by have:=(H.calls c hc).2;omega⟩,λt ht=>⟨(H.inside t ht).1,by have:=(H.inside t ht).2;omega⟩,H.same,H.exit⟩
structure Hour(n:Int)(d:Nat)(x y:yRW):Prop where
 here:Here n d y
 time:y.Time=x.Time+1
 locks:(y.yR1.length:Int)+yagu y=x.yR1.length+yagu x
 toDo:toDo y<=toDo x
 near:(∀w∈y.yRX,w.Calls=[]/\w.yR0.yRY=[])->1<=d->Here n (d-1) y
def yalD{n:Int}{d:Nat}{x:yRW}(I:Here n d x)(hn:n<=99000)(ht:x.Time+1<=1000000):Hour n d x (yTd (older x)):=by
 have C:=yajK I.calm ht;have L:=yagI I.calm;have S:=yagk.1 C.ok;have F:=yCK C.ok;have T:=yalk C hn I.few I.yaja 3 (Nat.le_refl _);have hN:=yafB (p:=λ_=>true) F 3 (by show 3<=x.yR3.length;omega);simp only[zbA]at hN;have h3:(older x).yR3.take 3=x.yR3:=zae (by show x.yR3.length<=3;omega);have hml:(older x).yR3.length=3:=L.2.2.2;rw[h3]at hN;have hfew:=I.few;unfold yaba at hfew;simp only[zah]at hfew;have hWk:(older x).yRX=x.yRX:=rfl;have hAr:(older x).yR9=x.yR9:=rfl;rw[hWk,hAr]at hN
 have hz:yTL (older x)={older x with yR3:=(ySW (older x) 3).1,yRX:=(ySW (older x) 3).2.1,yR9:=(ySW (older x) 3).2.2}:=by
  unfold yTL;rw[hml]
 have hlk:=T.locks;rw[h3]at hlk;generalize ySW (older x) 3=s at *;obtain⟨g1,g2⟩:=T.works;rw[hWk]at g1 g2
 have hgrow:∀(j:Nat) (w':yR8),s.2.1[j]?=some w'->∃w new,x.yRX[j]?=some w/\w'=grow w new/\(∀c∈new,Calling (x.Time+1) d j c)/\Held (x.Time+1) d j (120-40*j) w'/\yaia (x.Time+1) j w'<=yaia x.Time j w:=by
  intro j w' hj;have hjl:=(zaa.1 hj).1;obtain⟨w,hw⟩:∃w,x.yRX[j]?=some w:=⟨_,zab (by omega)⟩;obtain⟨new,hw',hc⟩:=g2 j w hw;rw[hj]at hw';have e:w'=grow w new:=Option.some.inj hw';have hcl:=yakv hj;have hgc:w'.Calls.length=w.Calls.length+new.length:=by rw[e];unfold grow;rw[zah]
  obtain⟨q1,q2,_⟩:=yaly (I.held j w hw) ht (new:=new) (λc h=>⟨(hc c h).1,by have:=(hc c h).2;omega⟩) (by omega);rw[<-e]at q1 q2;exact⟨w,new,hw,e,hc,q1,q2⟩
 have hS:yaio (yTL (older x)):=by
  rw[hz]
  exact {S with
   mvs:=by show s.1.length=x.yRV.length;rw[T.len];omega
   wks:=by show s.2.1.length+1=x.yRV.length;omega
   lanes:=λk w l hw hl=>by
    have hl':s.1[k]?=some l:=hl;have hkl:=(zaa.1 hl').1;obtain⟨l0,hl0⟩:∃l0,x.yR3[k]?=some l0:=⟨_,zab (by have:=T.len;omega)⟩;have o:=S.lanes k w l0 hw hl0;have hle:=yahQ (zac hl');simp only[jS,zad,decide_eq_true_eq,zaf]at o|-;exact⟨⟨o.1.1,by omega⟩,λm hm=>(T.kept k l w hl' hw m hm).2.1⟩
   works:=λw hw=>by
    obtain⟨j,hj⟩:=zbd.1 (show w∈s.2.1 from hw);obtain⟨_,_,_,_,_,h,_⟩:=hgrow j w hj;exact h.ok
   arr:=by show s.2.2.length<=500;omega
   arrT:=T.arr
   pasO:=λp hp=>by show yt s.2.1.length p=true;rw[g1];exact S.pasO p hp}
 have e:yTd (older x)=yTL (older x):=by
  unfold yTd;rw[C.ok,yagk.2 hS];rfl
 rw[e];have hnum:∀p,num p (yTL (older x))=num p x:=λp=>by rw[<-e];exact yahF
 have hsm:(yTL (older x)).small:=by rw[<-e];exact yWk (x:=older x) I.small
 rw[hz]at hS hnum hsm|-;have eA:yagu {older x with yR3:=s.1,yRX:=s.2.1,yR9:=s.2.2}=yagu x:=hlk
 have hgear:∃w0 w1,s.2.1=[w0,w1]/\Gear 120 w0/\Gear 80 w1:=by
  have hl:s.2.1.length=2:=by omega
  obtain⟨w0,w1,hw⟩:=yama hl;obtain⟨_,_,_,_,_,q0,_⟩:=hgrow 0 w0 (by rw[hw];rfl);obtain⟨_,_,_,_,_,q1,_⟩:=hgrow 1 w1 (by rw[hw];rfl);exact⟨w0,w1,hw,q0.gear,q1.gear⟩
 have hfew2:(yaba {older x with yR3:=s.1,yRX:=s.2.1,yR9:=s.2.2}).length<=8:=by
  have h:=hnum λ_=>true;unfold num at h;simp only[zbA]at h;exact zba (Nat.le_of_eq h) I.few
 have hX:sumI (yaia (x.Time+1)) 0 s.2.1<=sumI (yaia x.Time) 0 x.yRX:=by
  obtain⟨w0,w1,hw,_⟩:=hgear;obtain⟨u0,_,hu0,_,_,_,r0⟩:=hgrow 0 w0 (by rw[hw];rfl);obtain⟨u1,_,hu1,_,_,_,r1⟩:=hgrow 1 w1 (by rw[hw];rfl);obtain⟨a,b,hxw⟩:=yaiW L.2.1;rw[hxw]at hu0 hu1;cases hu0;cases hu1;rw[hw,hxw];simp only[sumI,zbp];omega
 have hcalm:Calm n {older x with yR3:=s.1,yRX:=s.2.1,yR9:=s.2.2}:=⟨yagk.2 hS,C.r,C.y,hgear⟩;refine⟨⟨hcalm,hsm,λj w hw=>?_,λk l w hl hw m hm=>?_,hfew2,by rw[eA];exact I.pas⟩,rfl,by rw[eA];rfl,?_,λhno hd=>⟨hcalm,hsm,λj w hw=>?_,λk l w hl hw m hm=>?_,hfew2,by rw[eA];exact I.pas⟩⟩
 .obtain⟨_,_,_,_,_,h,_⟩:=hgrow j w hw;exact h
 .obtain⟨a1,a2,a3,a4⟩:=T.kept k l w hl hw m hm;exact⟨a1,a3,by omega⟩
 .unfold toDo;rw[eA]
  show _+sumI (yaia (x.Time+1)) 0 s.2.1<=_
  omega
 .obtain⟨_,_,_,_,_,h,_⟩:=hgrow j w hw;obtain⟨n1,n2⟩:=hno w (zac hw);exact⟨h.ok,h.gear,h.water,(λc hc=>by rw[n1]at hc;cases hc),(λt ht=>by rw[n2]at ht;cases ht),h.same,h.exit⟩
 .obtain⟨a1,a2,a3,a4⟩:=T.kept k l w hl hw m hm;exact⟨a1,a3,by omega⟩
def yajR{n:Int}{d k:Nat}{x y:yRW}(I:Here n d x)(A:yaiT n d k x y):∃n',Here n' d y/\n'+300*toDo y<=n+300*toDo x/\toDo y<=toDo x:=by
 by_cases h:(dW x.yRX k).Calls=[]/\(dW x.yRX k).yR0.yRY=[]
 .have:=A.idle h;subst this;exact⟨n,I,zbj _,zbj _⟩
 .have:=A.falls h;exact⟨n+300,A.here,by omega,by omega⟩
def yajh{now:Int}(hn:now<=1000000):∀{l:List yR4},(∀c∈l,Plain now c)->0<=ranks now l
 |[],_=>zbj _
 |c::l,h=>by
  have i1:=yajh hn (l:=l) λc h'=>h c (by simp[h']);have r:=(yaim (h c (by simp)) hn).2;unfold ranks at i1|-;simp only[zaC,zaM];omega
def yaii{n:Int}{d:Nat}{x:yRW}(I:Here n d x):0<=toDo x:=by
 have L:=yagI I.calm;have ht:=yair I;obtain⟨w0,w1,hw⟩:=yaiW L.2.1;have H0:=I.held 0 w0 (by rw[hw];rfl);have H1:=I.held 1 w1 (by rw[hw];rfl);have h1:0<=sumI yahG 0 x.yR3:=yaiv λi a _=>yaiq;have a0:=yaiG (j:=0) (l:=w0.Calls);have a1:=yaiG (j:=1) (l:=w1.Calls);have b0:=yaiA (j:=0) (l:=w0.yR0.yRY);have b1:=yaiA (j:=1) (l:=w1.yR0.yRY);have r0:=yajh ht.2 λc h=>(H0.calls c h).1;have r1:=yajh ht.2 λc h=>(H1.calls c h).1;have p0:=(yaix (now:=x.Time) (w:=w0)).1;have p1:=(yaix (now:=x.Time) (w:=w1)).1;unfold toDo yagu;rw[hw];simp only[sumI,yagH,yaia,zbp];omega
def yalj{n:Int}{d:Nat}{x:yRW}(I:Here n d x)(hn:n<=99000)(ht:x.Time+1<=1000000):ySY x 0=fQ (fQ (yTd (older x)) (0:Nat)) (1:Nat):=by
 have L:=yagI I.calm;have e1:yS0 x 0=older x:=yalC I.calm (by omega);have e2:yS2 (older x) 0=older x:=yakV (yajK I.calm ht) (by omega)
 have hc:yTS x 0=true:=by
  have h0:=yair I;have h1:x.Time≠1000000:=by omega
  have h2:inRange 0 0 1000000000=true:=by decide
  simp[yTS,I.calm.ok,h1,h2]
 unfold ySY;rw[if_pos hc,L.2.1];unfold yTY;rw[e1,e2];rfl
def yalK{n B:Int}{d:Nat}{x:yRW}(I:Here n d x)(hB:n+300*toDo x<=B)(hB2:B<=99000)(ht:x.Time+1<=1000000):
 ∃n' d',Here n' d' (ySY x 0)/\n'+300*toDo (ySY x 0)<=B/\d'<=d/\(toDo (ySY x 0)+d'+1<=toDo x+d\/d'=0)/\(ySY x 0).Time=x.Time+1/\((ySY x 0).yR1.length:Int)+yagu (ySY x 0)=x.yR1.length+yagu x:=by
 have h0:=yaii I;rw[yalj I (by omega) ht];have S:=yalD I (by omega) ht;generalize yTd (older x)=y at *;have s1:=S.toDo;have s2:=S.time;have s3:=S.locks;have hy:=yaii S.here;have A0:=yalp S.here (by omega) (k:=0) (by omega);obtain⟨n0,I0,b0,t0⟩:=yajR S.here A0;have hz:=yaii I0;have A1:=yalp I0 (by omega) (k:=1) (by omega);obtain⟨n1,I1,b1,t1⟩:=yajR I0 A1;have u1:=A0.time;have u2:=A1.time;have u3:=A0.locks;have u4:=A1.locks
 by_cases hb0:(dW y.yRX 0).Calls=[]/\(dW y.yRX 0).yR0.yRY=[]
 .have e0:=A0.idle hb0;rw[e0]at A1 I0 b0 t0 I1 b1 t1 u2 u4 hz|-
  by_cases hb1:(dW y.yRX 1).Calls=[]/\(dW y.yRX 1).yR0.yRY=[]
  .have e1:=A1.idle hb1;rw[e1]at I1 b1 t1 u2 u4|-;have L:=yagI S.here.calm;obtain⟨w0,w1,hw⟩:=yaiW L.2.1
   have hno:∀w∈y.yRX,w.Calls=[]/\w.yR0.yRY=[]:=by
    rw[hw]at hb0 hb1|-;intro w hm;rcases zax.1 hm with e|hm
    .rw[e];exact hb0
    .rw[zak]at hm;rw[hm];exact hb1
   rcases zaB d with hd|hd
   .exact⟨n,d,S.here,by omega,Nat.le_refl _,.inr hd,s2,s3⟩
   .exact⟨n,d-1,S.near hno hd,by omega,by omega,.inl (by omega),s2,s3⟩
  .have f:=A1.falls hb1;exact⟨n1,d,I1,by omega,Nat.le_refl _,.inl (by omega),by omega,by omega⟩
 .have f:=A0.falls hb0;exact⟨n1,d,I1,by omega,Nat.le_refl _,.inl (by omega),by omega,by omega⟩
def yaiZ{B:Int}(hB2:B<=99000):∀(k:Nat) {n:Int} {d:Nat} {x:yRW},Here n d x->n+300*toDo x<=B->x.Time+k<=1000000->
 ∃n' d',Here n' d' (yUn x 0 k)/\n'+300*toDo (yUn x 0 k)<=B/\d'<=d/\(toDo (yUn x 0 k)+d'+k<=toDo x+d\/d'=0)/\(yUn x 0 k).Time=x.Time+k/\((yUn x 0 k).yR1.length:Int)+yagu (yUn x 0 k)=x.yR1.length+yagu x
 |0,n,d,x,I,hB,_=>⟨n,d,I,hB,Nat.le_refl _,.inl (by show toDo x+d+((0:Nat):Int)<=_;omega),by show x.Time=x.Time+((0:Nat):Int);omega,rfl⟩
 | k+1,n,d,x,I,hB,ht=>by
  obtain⟨n1,d1,I1,b1,l1,m1,t1,p1⟩:=yaiZ hB2 k I hB (by omega);obtain⟨n2,d2,I2,b2,l2,m2,t2,p2⟩:=yalK I1 b1 hB2 (by omega);refine⟨n2,d2,I2,b2,by omega,?_,?_,?_⟩
  .show toDo (ySY (yUn x 0 k) 0)+d2+((k+1:Nat):Int)<=_\/_
   rcases m2 with m2|m2
   .rcases m1 with m1|m1
    .left;omega
    .right;omega
   .right;exact m2
  .show(ySY (yUn x 0 k) 0).Time=_
   omega
  .show((ySY (yUn x 0 k) 0).yR1.length:Int)+yagu (ySY (yUn x 0 k) 0)=_
   omega
def yame{n:Int}{x:yRW}(I:Here n 0 x):yaba x=x.yR9/\yagu x=0:=by
 have L:=yagI I.calm
 have hm:∀l∈x.yR3,l=[]:=by
  intro l hl;obtain⟨k,hk⟩:=zbd.1 hl;have hkl:=(zaa.1 hk).1;obtain⟨w,hw⟩:∃w,x.ySl[k]?=some w:=⟨_,zab (by omega)⟩;cases l with
  |nil=>rfl
  |cons m l=>
   have:=(I.yaja k _ w hk hw m (by simp)).2;omega
 have hw:∀w∈x.yRX,w.Calls=[]/\w.yR0.yRY=[]:=by
  intro w hw;obtain⟨k,hk⟩:=zbd.1 hw;have H:=I.held k w hk;constructor
  .cases h:w.Calls with
   |nil=>rfl
   |cons c l=>have:=(H.calls c (by rw[h];simp)).2;omega
  .cases h:w.yR0.yRY with
   |nil=>rfl
   |cons c l=>have:=(H.inside c (by rw[h];simp)).2;omega
 constructor
 .unfold yaba;have e1:x.yR3.flatMap yaaN=[]:=zcb.2 λl hl=>by rw[hm l hl];rfl
  have e2:x.yRX.flatMap yL=[]:=zcb.2 λw h=>by obtain⟨a,b⟩:=hw w h;simp[yL,a,b]
  rw[e1,e2];rfl
 .unfold yagu
  have h1:sumI yahG 0 x.yR3<=sumI (λ_ _=>0) 0 x.yR3:=yakp λi a h=>by
   rw[hm a (zac h)];exact zbj _
  have h2:0<=sumI yahG 0 x.yR3:=yaiv λi a _=>yaiq
  have h3:sumI (λ_ (_:List yR6)=>(0:Int)) 0 x.yR3=0:=by
   generalize 0=k
   induction x.yR3 generalizing k with
   |nil=>rfl
   |cons a l ih=>simp only[sumI,ih];rfl
  obtain⟨w0,w1,e⟩:=yaiW L.2.1;have z0:=hw w0 (by rw[e];simp);have z1:=hw w1 (by rw[e];simp);rw[e];simp only[sumI,yagH,z0.1,z0.2,z1.1,z1.2];have q0:yaiy (0+1) []=0:=rfl;have q1:inA (0+1) []=0:=rfl;have q2:yaiy 0 []=0:=rfl;have q3:inA 0 []=0:=rfl;omega
def yajP{n:Int}{x:yRW}(C:Calm n x):0<=n:=by
 obtain⟨v0,v1,v2,hr,b0,_⟩:=C.r;omega
def yajJ{n:Int}{d:Nat}{x:yRW}{t:yRT}(I:Here n d x)(hd:d<=87)(hf:Fine t)(hts:t.small)(hok:rC (yYK x t)=true)(hfew:(yaba x).length+1<=8)(hpas:(x.yR1.length:Int)+yagu x+2<=16):
 Here n 87 (yYK x t)/\toDo (yYK x t)=toDo x+24/\(yYK x t).Time=x.Time/\((yYK x t).yR1.length:Int)+yagu (yYK x t)=x.yR1.length+yagu x+2:=by
 have L:=yagI I.calm;have F:=yZQ I.calm.ok hf.ok;have S:=yagk.1 hok;have hK:yZr x t=if t.Up then 2 else 0:=by unfold yZr;rw[L.1]
 have hk2:yZr x t<=2:=by rw[hK];split<;>omega
 obtain⟨y,hy⟩:∃y,x.ySl[yZr x t]?=some y:=⟨_,zab (by omega)⟩;obtain⟨ms,hms⟩:∃ms,x.yR3[yZr x t]?=some ms:=⟨_,zab (by omega)⟩;obtain⟨_,a,hya,ha⟩:=yakU I.calm hy;have hyl:y.Long=a:=by rw[hya]
 have hgd:x.yR3.getD (yZr x t) []=ms:=by rw[zai,hms];rfl
 have hM:(yYK x t).yR3=x.yR3.set (yZr x t) (ms++[⟨t,entP x t⟩]):=by
  show x.yR3.set (yZr x t) (x.yR3.getD (yZr x t) []++[⟨t,entP x t⟩])=_
  rw[hgd]
 have hgo:toGo ⟨t,entP x t⟩ y=a.toNat:=by
  unfold toGo entP;cases hu:t.Up with
  |true=>
   have h2:yZr x t=2:=by rw[hK,hu];rfl
   rw[h2]at hy;simp only[if_true,L.1,zai];rw[show 3-1=2 from rfl,hy,zbc,hyl]
  |false=>
   simp only[zbQ,if_false];rw[hyl];congr 1;omega
 have hah:yaic (yZr x t) t.Up=2:=by
  rw[hK];unfold yaic;cases t.Up<;>rfl
 have a3:=yaig (f:=yahG) (b:=ms++[⟨t,entP x t⟩]) (k:=0) hms;rw[zbp]at a3
 have c1:yahG (yZr x t) (ms++[⟨t,entP x t⟩])=yahG (yZr x t) ms+2:=by
  unfold yahG;simp[hah]
 have eA:yagu (yYK x t)=yagu x+2:=by
  unfold yagu;rw[hM]
  show _+sumI yagH 0 x.yRX=_
  omega
 have hnum:num (λ_=>true) (yYK x t)=num (λ_=>true) x+1:=by
  have h1:num (λ_=>true) (yYK x t)=num (λ_=>true) (oG x (yZr x t) ⟨t,entP x t⟩):=rfl;rw[h1,yafV F.kl];rfl
 refine⟨⟨⟨hok,I.calm.r,I.calm.y,I.calm.w⟩,yZO F I.small hts,λj w hw=>(I.held j w hw).up hd,λj l w hl hw m hm=>?_,?_,?_⟩,?_,rfl,?_⟩
 .rw[hM,zaE]at hl;have hw':x.ySl[j]?=some w:=hw;split at hl
  .rename_i h;subst h
   try rw[if_pos (by omega)]at hl
   cases hl;rw[hy]at hw';cases hw';rcases zaj.1 hm with h|h
   .obtain⟨p1,p2,p3⟩:=I.yaja _ ms y hms hy m h;exact⟨p1,p2,by omega⟩
   .rw[zak]at h;subst h;exact⟨hf,by rw[hgo];omega,by rw[hgo];show _+29*yaic (yZr x t) t.Up<=87;rw[hah];omega⟩
  .obtain⟨p1,p2,p3⟩:=I.yaja j l w hl hw' m hm;exact⟨p1,p2,by omega⟩
 .unfold num at hnum;simp only[zbA]at hnum;omega
 .rw[eA]
  show(x.yR1.length:Int)+_<=16
  omega
 .unfold toDo;rw[eA]
  show _+sumI (yaia x.Time) 0 x.yRX=_
  omega
 .rw[eA]
  show(x.yR1.length:Int)+_=_
  omega
structure Way2(ts:List yRT)(x:yRW):Prop where
 grown:Grown ts x
 here:∃n d,Here n d x/\d<=87/\n+300*toDo x<=7200*ts.length/\toDo x<=24*ts.length
 time:0<=x.Time/\x.Time<=4*ts.length
 start:0<=x.Start/\x.Start<=20000000
 inn:x.In=0
 pas:(x.yR1.length:Int)+yagu x=2*ts.length
def yajq{ts:List yRT}:∀(k:Nat) {x:yRW},Grown ts x->x.Time+k<=1000000->x.In=0->x.Start<=20000000->Grown ts (yUn x 0 k)/\(yUn x 0 k).Time=x.Time+k/\(yUn x 0 k).Start=x.Start/\(yUn x 0 k).In=0
 |0,x,G,_,h,_=>⟨G,by show x.Time=x.Time+((0:Nat):Int);omega,rfl,h⟩
 |k+1,x,G,ht,hi,hs=>by
  obtain⟨g,t,s,i⟩:=yajq k G (by omega) hi hs;obtain⟨g2,t2,s2,i2,_⟩:=yagM g (q:=0) (by omega) (by omega) (by omega);exact⟨g2,by show(ySY (yUn x 0 k) 0).Time=_;omega,by show(ySY (yUn x 0 k) 0).Start=_;omega,by show(ySY (yUn x 0 k) 0).In=_;omega⟩
def yalH{ts:List yRT}{x:yRW}{t:yRT}{q:Nat}(W:Way2 ts x)(hf:Fine t)(hts:t.small)(hsub:∀t∈ts,oC t=true)(hl:ts.length+1<=8)(hnew:∀i∈lG t,i∉ts.flatMap lG)(hq:q<=4):
 yYL x t=(yYK x t,true)/\Way2 (ts++[t]) (yUn (yYK x t) 0 q):=by
 obtain⟨e,g⟩:=yagl W.grown hf.ok hts hsub (by omega) hnew;obtain⟨n,d,I,hd,hn,hT⟩:=W.here;have h1:=W.time;have h2:=W.start;have h3:=W.inn;have h4:=W.pas;have hc:=W.grown.same λ_=>true;unfold num at hc;simp only[zbA]at hc;obtain⟨J,j1,j2,j3⟩:=yajJ I hd hf hts g.ok (by omega) (by omega);have hb:=yajP J.calm;obtain⟨n2,d2,I2,b2,l2,m2,t2,p2⟩:=yaiZ (B:=7200*(ts.length+1)) (by omega) q J (by omega) (by omega);have hs:(yYK x t).Start=x.Start:=rfl;have hi:(yYK x t).In=x.In:=rfl;obtain⟨g2,_,s2,i2⟩:=yajq q g (by omega) (by omega) (by omega);have hb2:=yajP I2.calm;have hlen:(ts++[t]).length=ts.length+1:=by simp
 refine⟨e,g2,⟨n2,d2,I2,by omega,by rw[hlen];omega,?_⟩,by rw[hlen];omega,by omega,i2,by rw[hlen];omega⟩;rw[hlen];have:=yaii I2;omega
def yalZ{ts:List yRT}{x:yRW}(W:Way2 ts x)(hl:ts.length<=8)(hnd:(ts.flatMap lG).Nodup){k:Nat}(hk:300<=k/\k<=1000):
 (yUn x 0 k).yR9.length=ts.length/\(yUn x 0 k).yR1.length=2*ts.length/\yS (yUn x 0 k)=true/\Grown ts (yUn x 0 k):=by
 obtain⟨n,d,I,hd,hn,hT⟩:=W.here;have h1:=W.time;have h2:=W.start;have h3:=W.inn;have h4:=W.pas;have hb:=yajP I.calm;obtain⟨n2,d2,I2,b2,l2,m2,t2,p2⟩:=yaiZ (B:=7200*ts.length) (by omega) k I hn (by omega);obtain⟨g2,_,s2,i2⟩:=yajq k W.grown (by omega) (by omega) (by omega);have h0:=yaii I2
 have hd0:d2=0:=by
  rcases m2 with m|m
  .omega
  .exact m
 subst hd0;obtain⟨e1,e2⟩:=yame I2;have hc:=g2.same λ_=>true;unfold num at hc;simp only[zbA]at hc;rw[e1]at hc;exact⟨hc,by omega,yagi g2 hnd,g2⟩
def yabb{a m:Int}(h0:0<=m)(h1:m<=9223372036854775807):0<=yG1 a m/\yG1 a m<=m:=by
 unfold yG1
 have h2:(BitVec.ofInt 64 m).toNat=m.toNat:=by
  rw[BitVec.toNat_ofInt,Int.emod_eq_of_lt h0 (by omega)]
 have h3:(BitVec.ofInt 64 a&&& BitVec.ofInt 64 m).toNat<=m.toNat:=by rw[BitVec.toNat_and,h2];exact Nat.and_le_right
 rw[ycG (yaeu (by omega) (by omega))];omega
def nenc(n:Nat):List C:=[.u n]
def hNext(h:Int):Int:=IntKind.i64.wrap (IntKind.i64.wrap (h*6364136223846793005)+1442695040888963407)
def hVal(h:Int):Int:=yG1 (yHQ (yzh (hNext h) 33) (yzh (hNext h) 45)) 255
def yYV(code:List UInt8)(p:Nat×Int):List C:=[.sl 1 (code.map yBD),.i p.1,.i p.2]
def yYS(code:List UInt8)(p:Nat×Int):Nat×Int:=(if p.1<code.length then p.1+1 else p.1,hNext p.2)
def yZH(code:List UInt8)(p:Nat×Int):Int:=
 match code[p.1]? with
 |some b=>yG1 (hVal p.2+b.toNat) 255
 |none=>hVal p.2
def yY2{code:List UInt8}{p:Nat×Int}(h:p.1<=code.length):(yYS code p).1<=code.length:=by
 unfold yYS;dsimp only;split<;>omega
def yY8(code:List UInt8)(p:Nat×Int):0<=yZH code p/\yZH code p<=255:=by
 unfold yZH;split
 .exact yabb (by omega) (by omega)
 .exact yabb (by omega) (by omega)
def yadI(h:Int):0<=hVal h/\hVal h<=255:=yabb (by omega) (by omega)
def yadg(b:UInt8):b.toNat<=255:=by have:=b.toNat_lt;omega
def yZu(code:List UInt8)(p:Nat×Int)(hp:p.1<=code.length):yZW prg 131 (yYV code p) (yYV code (yYS code p)) [] (.c (.i (yZH code p))):=by
 refine yZP yabh (by simp) λhwf hwf2=>?_;cases hb:code[p.1]? with
 |none=>
  have hge:code.length<=p.1:=by simpa using hb
  have hnl:(p.1<code.length)=False:=by simp;omega
  simp -dsimp -implicitDefEqProofs [yZm,yYV,hnl];intro _;simp[yYS,yZH,hNext,hVal,hb,hnl]
 |some b=>
  have hlt:p.1<code.length:=(zaa.1 hb).1;have hr:=yadI p.2;have g1:=(zaa.1 hb).2;have h8:=yadg b;simp only[hVal,hNext]at hr;simp -dsimp -implicitDefEqProofs [yZm,yYV,hb,g1,hlt,yBD]
  refineλhl=>⟨by unfold inI;omega,by unfold maxLen at hl;unfold inI;omega,?_⟩
  simp[yYS,yZH,hNext,hVal,hb,g1,hlt]
def yYA(code:List UInt8)(n:Int)(p:Nat×Int):Nat×Int:=
 if n<=256 then yYS code p else yYS code (yYS code (yYS code (yYS code p)))
def yYB(code:List UInt8)(n:Int)(p:Nat×Int):Int:=
 if n<=256 then(yZH code p).tmod n
 else(yZH code p*16777216+yZH code (yYS code p)*65536+yZH code (yYS code (yYS code p))*256+yZH code (yYS code (yYS code (yYS code p)))).tmod n
def yYD{code:List UInt8}{n:Int}{p:Nat×Int}(h:p.1<=code.length):(yYA code n p).1<=code.length:=by
 unfold yYA;split
 .exact yY2 h
 .exact yY2 (yY2 (yY2 (yY2 h)))
def yYC{code:List UInt8}{n:Int}{p:Nat×Int}(hn:1<=n):0<=yYB code n p/\yYB code n p<n:=by
 have h1:=yY8 code p;have h2:=yY8 code (yYS code p);have h3:=yY8 code (yYS code (yYS code p));have h4:=yY8 code (yYS code (yYS code (yYS code p)));unfold yYB;split
 .rw[zbe (by omega)];exact⟨zdR _ (by omega),zdw _ (by omega)⟩
 .rw[zbe (by omega)];exact⟨zdR _ (by omega),zdw _ (by omega)⟩
def yYF(code:List UInt8)(n:Int)(p:Nat×Int)(hp:p.1<=code.length)(hn:1<=n)(hn2:n<=1000000):yZW prg 45 (yYV code p) (yYV code (yYA code n p)) [.c (.i n)] (.c (.i (yYB code n p))):=by
 refine yZP yaaV (by simp) λhwf hwf2=>?_;refine goQ_ ?_;have n0:(n<=0)=False:=by simp;omega
 refine yafw n0 ?_;have hv:=yYC (code:=code) (p:=p) hn
 refineλ_=>⟨λh=>?_,λh=>?_⟩
 .skip
  simp only[yYB,yYA,if_pos h]at hv|-;refine yYE (yZu code p hp) (by simp) (by simp) rfl (by simp[fD]) (goQ_ ?_);refine⟨by omega,by unfold inI;omega,?_⟩;simp[h];intros;omega
 .skip
  have h':¬n<=256:=by omega
  simp only[yYB,yYA,if_neg h']at hv|-;have h1:=yY8 code p;have h2:=yY8 code (yYS code p);have h3:=yY8 code (yYS code (yYS code p));have h4:=yY8 code (yYS code (yYS code (yYS code p)));refine yYE (yZu code p hp) (by simp) (by simp) rfl (by simp[fD]) (goQ_ ?_);refine yYE (yZu code (yYS code p) (yY2 hp)) (by simp) (by simp) rfl (by simp[fD]) (goQ_ ?_);refine yYE (yZu code (yYS code (yYS code p)) (yY2 (yY2 hp))) (by simp) (by simp) rfl (by simp[fD]) (goQ_ ?_);refine yYE (yZu code (yYS code (yYS code (yYS code p))) (yY2 (yY2 (yY2 hp)))) (by simp) (by simp) rfl (by simp[fD]) (goQ_ ?_);refine⟨by unfold inI;omega,by unfold inI;omega,by unfold inI;omega,by unfold inI;omega,by unfold inI;omega,by unfold inI;omega,by omega,by unfold inI;omega,?_⟩;simp[h']
def yaco(h:Int)(b:UInt8):Int:=yG1 (h*131+b.toNat+7) 1073741823
def yZn(code:List UInt8)(k:Nat):Int:=(code.take k).foldl yaco (33173+code.length)
def hash(code:List UInt8):Int:=yZn code (min code.length 4000)
def yaaM{code:List UInt8}:yZn code 0=33173+code.length:=rfl
def yaaJ{code:List UInt8}{k:Nat}{b:UInt8}(h:code[k]?=some b):yZn code (k+1)=yaco (yZn code k) b:=by
 unfold yZn;rw[zao,h,zbH];rfl
def yadD(h:Int)(b:UInt8):0<=yaco h b/\yaco h b<=1073741823:=yabb (by omega) (by omega)
def yabu{code:List UInt8}(hl:code.length<=1048576):∀k:Nat,0<=yZn code k/\yZn code k<=1073741823
 |0=>by rw[yaaM];omega
 | k+1=>by
  cases h:code[k]? with
  |none=>
   have hk:code.length<=k:=by simpa using h
   have:yZn code (k+1)=yZn code k:=by unfold yZn;rw[zae (by omega),zae hk]
   rw[this];exact yabu hl k
  |some b=>rw[yaaJ h];exact yadD _ _
def yadL(code:List UInt8)(hl:code.length<=1048576):nI prg 43 [.c (.sl 1 (code.map yBD))] (.c (.bx (yYV code (0,hash code)))):=by
 refine fF yabJ (goQ_ ?_)
 refineλhlen=>⟨by unfold inI;omega,?_⟩
 refine yX2 (λk=>k<=min code.length 4000) (λk=>xC [(0,.c (.sl 1 (code.map yBD))),(3,.c (.i (yZn code k))),(4,.c (.i k))] []) (λk=>min code.length 4000-k) (by apply aB<;>simp[yaaM]) ?_
 rintro k hk
 have hr:=yabu hl k;rcases yX1 k code with⟨hlt,b,hb⟩|hge
 .have g1:=(zaa.1 hb).2;have h8:=yadg b;have hs:=yaaJ hb;simp only[yaco]at hs;simp -dsimp -implicitDefEqProofs [hb,g1,hlt,yBD]
  refineλ_=>⟨λh4=>⟨by unfold inI;omega,by unfold inI;omega,by unfold inI;omega,by unfold inI;omega,k+1,by omega,by omega,?_⟩,λh4=>?_⟩
  .apply aB<;>simp[hs]
  .have e:min code.length 4000=k:=by omega
   simp[yYV,hash,e,C.plain]
 .have hnl:(k<code.length)=False:=by simp;omega
  refine yafw hnl ?_;intro _;have e:min code.length 4000=k:=by omega
  simp[yYV,hash,e,C.plain]
def yaaI(code:List UInt8)(n:Int)(p:Nat×Int):Bool:=decide (yYB code n p=0)
def yabR(code:List UInt8)(n:Int)(p:Nat×Int)(hp:p.1<=code.length)(hn:1<=n)(hn2:n<=1000000):yZW prg 132 (yYV code p) (yYV code (yYA code n p)) [.c (.i n)] (.c (.b (yaaI code n p))):=by
 refine yZP yabq (by simp) λhwf hwf2=>?_;refine goQ_ ?_;refine yYE (yYF code n p hp hn hn2) (by simp) (by simp) rfl (by simp[fD]) (goQ_ ?_);simp[yaaI]
def yYO(code:List UInt8)(l:List Int)(p:Nat×Int):Int:=l[(yYB code l.length p).toNat]?.getD 0
def yY1(code:List UInt8)(l:List Int)(p:Nat×Int):Nat×Int:=yYA code l.length p
def yY6{code:List UInt8}{l:List Int}{p:Nat×Int}(hl:1<=l.length):yYO code l p∈l:=by
 have h:=yYC (code:=code) (n:=l.length) (p:=p) (by omega);have hlt:(yYB code l.length p).toNat<l.length:=by omega
 unfold yYO;rw[zab hlt];exact zbo hlt
def yYM(code:List UInt8)(l:List Int)(p:Nat×Int)(hp:p.1<=code.length)(hl:1<=l.length)(hl2:l.length<=1000):CurG prg 127 (yYV code p) (yYV code (yY1 code l p)) 1 (l.map qC) (.c (.i (yYO code l p))):=by
 have h:=yYC (code:=code) (n:=l.length) (p:=p) (by omega);have hlt:(yYB code l.length p).toNat<l.length:=by omega
 obtain⟨v,hv⟩:∃v,l[(yYB code l.length p).toNat]?=some v:=⟨_,zab hlt⟩;have gv:=(zaa.1 hv).2;have hpv:yYO code l p=v:=by simp[yYO,hv]
 refine yaeg yZ8 (by omega) rfl (goQ_ ?_);intro hlen;refine yYE (yYF code l.length p hp (by omega) (by omega)) (by simp) (by simp) rfl (by simp[fD]) ?_;simp -dsimp -implicitDefEqProofs [hv,gv,hlt,h.1,h.2];exact⟨rfl,hpv⟩
def yYZ{code:List UInt8}{l:List Int}{p:Nat×Int}(h:p.1<=code.length):(yY1 code l p).1<=code.length:=yYD h
def yZY:List Int:=[5,12,30,80]
def yZ7(code:List UInt8)(p:Nat×Int):Nat×Int:=yY1 code yZY p
def yZ0(code:List UInt8)(p:Nat×Int):Nat×Int:=yYA code 9 (yZ7 code p)
def yZ3(code:List UInt8)(p:Nat×Int):Nat×Int:=yYA code 30 (yZ0 code p)
def yZ6(code:List UInt8)(p:Nat×Int):Nat×Int:=yYA code 12 (yZ3 code p)
def yZK(code:List UInt8)(p:Nat×Int):Nat×Int:=yYA code 3 (yZ6 code p)
def yZD(code:List UInt8)(id:Int)(p:Nat×Int):ySa:=
 ⟨id,yYO code yZY p,1+yYB code 9 (yZ7 code p),1+yYB code 30 (yZ0 code p),1+yYB code 12 (yZ3 code p),yYB code 3 (yZ6 code p)⟩
def yabp{code:List UInt8}{p:Nat×Int}(h:p.1<=code.length):(yZK code p).1<=code.length:=yYD (yYD (yYD (yYD (yYZ h))))
def yabS(code:List UInt8)(id:Int)(p:Nat×Int)(hp:p.1<=code.length):yZW prg 133 (yYV code p) (yYV code (yZK code p)) [.c (.i id)] (.agg ((yZD code id p).enc.map .c)):=by
 have p1:(yZ7 code p).1<=code.length:=yYZ hp;have p2:(yZ0 code p).1<=code.length:=yYD p1;have p3:(yZ3 code p).1<=code.length:=yYD p2;have p4:(yZ6 code p).1<=code.length:=yYD p3;have h2:=yYC (code:=code) (n:=9) (p:=yZ7 code p) (by omega);have h3:=yYC (code:=code) (n:=30) (p:=yZ0 code p) (by omega);have h4:=yYC (code:=code) (n:=12) (p:=yZ3 code p) (by omega);have h5:=yYC (code:=code) (n:=3) (p:=yZ6 code p) (by omega);have hpk:=yYM code yZY p hp (by simp[yZY]) (by simp[yZY]);have e4:yZY.map qC=[[.i 5],[.i 12],[.i 30],[.i 80]]:=rfl;refine yZP yabA (by simp) λhwf hwf2=>?_;refine goQ_ ?_;refine yY5 (rows:=[[.i 5],[.i 12],[.i 30],[.i 80]]) (by simpa[e4]using hpk) (by simp) (by simp) rfl (goQ_ ?_);refine yYE (yYF code 9 (yZ7 code p) p1 (by omega) (by omega)) (by simp[yZ7]) (by simp) rfl (by simp[fD]) (goQ_ ?_);refine⟨by unfold inI;omega,?_⟩;refine yYE (yYF code 30 (yZ0 code p) p2 (by omega) (by omega)) (by simp[yZ0]) (by simp) rfl (by simp[fD]) (goQ_ ?_);refine⟨by unfold inI;omega,?_⟩;refine yYE (yYF code 12 (yZ3 code p) p3 (by omega) (by omega)) (by simp[yZ3]) (by simp) rfl (by simp[fD]) (goQ_ ?_);refine⟨by unfold inI;omega,?_⟩;refine yYE (yYF code 3 (yZ6 code p) p4 (by omega) (by omega)) (by simp[yZ6]) (by simp) rfl (by simp[fD]) (goQ_ ?_);simp[yZK,yZD]
def eoB(r:List ySa):List C:=[.ow 6 (r.map ySa.enc)]
def addLast(rows:List (List ySa))(b:ySa):List (List ySa):=rows.set (rows.length-1) (rows[rows.length-1]?.getD []++[b])
def yYG(code:List UInt8)(id:Int)(p:Nat×Int):Nat->(Nat×Int)×List (List ySa)
 |0=>(p,[])
 |k+1=>
  let q:=yYG code id p k
  if k=0 then(yZK code q.1,q.2++[[yZD code (id+k) q.1]])
  else(yYA code 2 (yZK code q.1),if yaaI code 2 (yZK code q.1)then addLast q.2 (yZD code (id+k) q.1)else q.2++[[yZD code (id+k) q.1]])
def yZ1{code:List UInt8}{id:Int}{p:Nat×Int}(h:p.1<=code.length):∀k:Nat,(yYG code id p k).1.1<=code.length
 |0=>h
 |k+1=>by
  have ih:=yZ1 (id:=id) h k;simp only[yYG];split
  .exact yabp ih
  .exact yYD (yabp ih)
def yZq{code:List UInt8}{id:Int}{p:Nat×Int}:∀k:Nat,(yYG code id p k).2.length<=k/\(1<=k->1<=(yYG code id p k).2.length)
 |0=>by simp[yYG]
 | k+1=>by
  have ih:=yZq (code:=code) (id:=id) (p:=p) k;simp only[yYG];split
  .simp;omega
  .simp only[];split
   .simp[addLast];omega
   .simp;omega
def yZp{code:List UInt8}{id:Int}{p:Nat×Int}:∀k:Nat,∀r∈(yYG code id p k).2,r.length<=k/\1<=r.length
 |0,r,h=>by simp[yYG]at h
 | k +1,r,h=>by
  have ih:=yZp (code:=code) (id:=id) (p:=p) k;simp only[yYG]at h;split at h
  .rcases zaj.1 h with h|h
   .have:=ih r h;omega
   .simp at h;subst h;simp
  .simp only[]at h;split at h
   .unfold addLast at h;rcases zaK h with h|rfl
    .have:=ih r h;omega
    .cases hr:(yYG code id p k).2[(yYG code id p k).2.length-1]? with
     |none=>simp
     |some r0=>have:=ih r0 (zac hr);simp;omega
   .rcases zaj.1 h with h|h
    .have:=ih r h;omega
    .simp at h;subst h;simp
def yacW{rows:List (List ySa)}{z:Nat}{r0:List ySa}{b:ySa}(h:rows[z]?=some r0):setAt (setAt (rows.map eoB) z 0 .jk) z 0 (.ow 6 (r0.map ySa.enc++[b.enc]))=(rows.set z (r0++[b])).map eoB:=by
 have hlt:=(zaa.1 h).1;have e1:(rows.map eoB).getD z []=eoB r0:=by simp[List.getD,h]
 have e2:((rows.map eoB).set z [C.jk]).getD z []=[C.jk]:=by simp[List.getD,hlt]
 have e3:setAt (rows.map eoB) z 0 .jk=(rows.map eoB).set z [C.jk]:=by unfold setAt;rw[e1];rfl
 rw[e3];unfold setAt;rw[e2,List.set_set,zaZ];simp[eoB]
def yY7(code:List UInt8)(p:Nat×Int):Nat:=(1+yYB code 4 (yYA code 2 p)).toNat
def yaaC(code:List UInt8)(id:Int)(p:Nat×Int):Nat×Int:=(yYG code id (yYA code 4 (yYA code 2 p)) (yY7 code p)).1
def yY3(code:List UInt8)(id:Int)(p:Nat×Int):yRT:=⟨yaaI code 2 p,(yYG code id (yYA code 4 (yYA code 2 p)) (yY7 code p)).2⟩
def yZT(code:List UInt8)(p:Nat×Int):(yY7 code p:Int)=1+yYB code 4 (yYA code 2 p)/\1<=yY7 code p/\yY7 code p<=4:=by
 have h:=yYC (code:=code) (n:=4) (p:=yYA code 2 p) (by omega);unfold yY7;omega
end
end Go.Proofs.YtdadkiofenhnbaaGreat
