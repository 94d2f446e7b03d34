/- What functions answer, in plain Lean. -/
import Derived.Test.YtdadkiofenhnbaaGreatT8
set_option linter.all false
set_option maxRecDepth 100000
set_option maxHeartbeats 4000000
namespace Go.Proofs.YtdadkiofenhnbaaGreat
open Go.RowKit
noncomputable section
def yrc(list:List yR4)(i:Nat):Bool:=(list[i]?.map λc=>c.yRT.Up).getD false
def yoY{list:List yR4}{i:Nat}{c:yR4}(h:list[i]?=some c):yrc list i=c.yRT.Up:=by simp[yrc,h]
def yhi(list:List yR4)(o:List Nat)(t:Turn):Bool:=
 if yrc list (o[0]?.getD 0)≠t.Up\/t.Count<3 then yrc list (o[0]?.getD 0)
 else if o.all λi=>yrc list i==yrc list (o[0]?.getD 0)then yrc list (o[0]?.getD 0)else !(yrc list (o[0]?.getD 0))
def mW(list:List yR4)(t:Turn)(now:Int):Bool×Bool:=
 if(kS list now).length=0\/ybY t=false then(false,false)else(yhi list (kS list now) t,true)
def yjA{list:List yR4}{now:Int}:∀x∈kS list now,x<list.length:=λx hx=>yxB (sorted_perm.mem_iff.1 hx)
def ygT{list:List yR4}{now:Int}:(kS list now).length<=list.length:=by
 unfold kS;rw[sorted_perm.length_eq];exact ync
def nY(t:Turn)(up:Bool):Turn:=
 if ybY t=true then if t.Up=up then⟨up,if 1000000<t.Count+1 then 1000000 else t.Count+1⟩else⟨up,1⟩else t
def ywG(t:Turn)(up:Bool):qB prg 292 [.agg (t.enc.map .c),.c (.b up)] (.agg ((nY t up).enc.map .c)):=by
 refine dB yrG (goQ_ ?_);refine aA (yjQ t) ?_;cases h1:ybY t with
 |false=>simp -dsimp -implicitDefEqProofs;simp[nY,h1]
 |true=>
 have hc1:=aC.1 h1
 by_cases hu:t.Up=up
 .refine yafw hu ?_;refine⟨by unfold inI;omega,?_⟩;simp[nY,h1,hu]
 .refine yafw hu ?_;simp[nY,h1,hu]
def yBj(a1 a2 a3 a4 b1 b2 b3 b4:Int):Prop:=a1<b1\/(a1=b1/\(a2<b2\/(a2=b2/\(a3<b3\/(a3=b3/\a4<b4)))))
def bkey(a:yR4)(now:Int):Int:=if rF a now= -1 then a.Booked else 0
def yG{a b:yR4}{now:Int}(ha:rF a now≠3)(hb:rF b now≠3):
 before a b now=true↔yBj (rF a now) (bkey a now) a.Since ((lG a.yRT)[0]?.getD 0) (rF b now) (bkey b now) b.Since ((lG b.yRT)[0]?.getD 0):=by
 unfold before yBj bkey;rw[if_neg (by simp[ha,hb])];generalize rF a now=r at *;generalize rF b now=r' at *;generalize(lG a.yRT)[0]?.getD 0=i;generalize(lG b.yRT)[0]?.getD 0=i'
 by_cases h1:r=r'
 .subst h1;rw[if_neg (by simp)]
  by_cases h2:r= -1
  .rw[if_pos h2,if_pos h2]
   by_cases h3:a.Booked=b.Booked
   .rw[if_neg (by simp[h3])];split<;>simp only[decide_eq_true_eq,true_and]<;>constructor<;>intro h<;>(refine Classical.byContradiction λhn=>?_)<;>omega
   .rw[if_pos ⟨h2,h3⟩];simp only[decide_eq_true_eq,true_and];constructor<;>intro h<;>(refine Classical.byContradiction λhn=>?_)<;>omega
  .rw[if_neg h2,if_neg h2,if_neg (by simp[h2])];split<;>simp only[decide_eq_true_eq,true_and]<;>constructor<;>intro h<;>(refine Classical.byContradiction λhn=>?_)<;>omega
 .rw[if_pos h1];simp only[decide_eq_true_eq,true_and];constructor<;>intro h<;>(refine Classical.byContradiction λhn=>?_)<;>omega
def yJS(list:List yR4)(now:Int)(x:Nat):Prop:=∃c,list[x]?=some c/\rF c now≠3
def dS{list:List yR4}{now:Int}{x y:Nat}{a b:yR4}(ha:list[x]?=some a)(hb:list[y]?=some b):fE (yrt list now) x y=before a b now:=by
 unfold fE yrt;rw[ha,hb];simp only
 by_cases h1:before a b now=true
 .simp[h1]
 .by_cases h2:before b a now=true<;>simp[h1,h2]
def yCB(list:List yR4)(now:Int):SWO (fE (yrt list now)) (yJS list now):=by
 refine⟨?_,?_,?_⟩
 .rintro x y ⟨a,ha,ra⟩ ⟨b,hb,rb⟩ h
  rw[dS ha hb,yG ra rb]at h;rw[dS hb ha,<-zdk,yG rb ra];unfold yBj at *;omega
 .rintro x y z ⟨a,ha,ra⟩ ⟨b,hb,rb⟩ ⟨c,hc,rc⟩ h h'
  rw[dS ha hb,yG ra rb]at h;rw[dS hb hc,yG rb rc]at h';rw[dS ha hc,yG ra rc];unfold yBj at *;omega
 .rintro x y z ⟨a,ha,ra⟩ ⟨b,hb,rb⟩ ⟨c,hc,rc⟩ h h'
  rw[dS ha hb,<-zdk,yG ra rb]at h;rw[dS hb hc,<-zdk,yG rb rc]at h';rw[dS ha hc,<-zdk,yG ra rc];unfold yBj at *;omega
def yHD{list:List yR4}{now:Int}{k x:Nat}(hk:k<=list.length)(h:x∈oU list now k):yJS list now x:=by
 unfold oU at h;obtain⟨h1,h2⟩:=zbE.1 h;rw[zaN]at h1;have h3:list[x]?=some (list[x]'(by omega)):=zab (by omega);rw[h3]at h2;exact⟨_,h3,by simpa using h2⟩
def yEz{list:List yR4}{now:Int}{k:Nat}:(oU list now k).Pairwise (·<·):=List.Pairwise.filter _ zdL
def yf8(list:List yR4)(now:Int)(hs:oM list):
 nI prg 287 [.c (.sl 4 (list.map yR4.enc)),.c (.i now)] (.c (.ow 1 ((kS list now).map kC))):=by
 have hl:=hs.1;refine fF yn1 (goQ_ ?_);intro hlen;refine jX (k0:=1) 5 1 (by simp) (by simp) (by decide) ?_;refine yX2 (λk=>k<=list.length) (λk=>xC [(2,.box 2 0),(3,.box 3 0),(5,.own 5 1 (oU list now k).length),(8,.c (.sl 4 (list.map yR4.enc))),(9,.c (.i list.length)),(10,.c (.i k))] [(2,.box [.c (.sl 4 (list.map yR4.enc))]),(3,.box [.c (.i now)]),(5,.row 1 ((oU list now k).map kC))]) (λk=>list.length-k) (by apply aB<;>simp[oU]) ?_
 rintro k hk
 have hrl:=ync (list:=list) (now:=now) (k:=k);rcases yX1 k list with⟨hlt,c,hc⟩|hge
 .have g1:=(zaa.1 hc).2;have sc:=hs.2 c (zac hc);have hrs:=yqT (now:=now) hc;refine yaeV hc g1 (fC hlt) hlt ?_;refine aA (ykx c now sc) ?_
  by_cases h3:rF c now=3
  .rw[if_pos h3]at hrs;refine yafw h3 ?_;refine⟨gB hlt hlen,k+1,hlt,by omega,?_⟩;apply aB<;>simp[hrs]
  .rw[if_neg h3]at hrs;refine yafw h3 ?_;refine⟨by omega,gB hlt hlen,k+1,hlt,by omega,?_⟩;apply aB<;>simp[hrs,kC]
 .have hkn:k=list.length:=by omega
  subst hkn;refine goQ_ ?_;have ho:kS list now=sorted (fE (yrt list now)) (oU list now list.length):=rfl
  have hsort:InF prg 257 (.c (cw 1 ((oU list now list.length).map kC))) (.c (cw 1 ((kS list now).map kC))) [.fn 357 [.elt [.sl 4 (list.map yR4.enc)],.elt [.i now]]] (.tup []):=by
   rcases zaB (oU list now list.length).length with e|e
   .have e2:=zay.1 e;rw[ho,e2];exact yv1 _ _ _
   .refine yHM (yCB list now) ⟨Tryz.f357,Tryz.func357,rfl,by decide⟩ (λx y hx hy=>?_) _ (λx hx=>yHD (Nat.le_refl _) hx) yEz e (by omega);obtain⟨a,ha,_⟩:=hx;obtain⟨b,hb,_⟩:=hy;exact yBw list now hs x y (zaa.1 ha).1 (zaa.1 hb).1
  have hol:(kS list now).length=(oU list now list.length).length:=by rw[ho];exact sorted_perm.length_eq
  generalize kS list now=o at *;generalize oU list now list.length=r at *;refine yw0 (up:=some (5,.row 1 (o.map kC))) hsort ⟨yHw ⟨yjt (by simp) (by simp[kQ]),yjt (by simp) (by simp[kQ]),trivial⟩,trivial⟩ (yDZ o) rfl (qH (rows:=r.map kC) (by simp) rfl rfl (by simp) (by simp[hol]) rfl rfl) (goQ_ ?_);rw[<-hol,jA]
def yjM(list:List yR4)(t:Turn)(now:Int)(hs:oM list):
 qB prg 276 [.c (.sl 4 (list.map yR4.enc)),.agg (t.enc.map .c),.c (.i now)] (.tup [.c (.b (mW list t now).1),.c (.b (mW list t now).2)]):=by
 refine dB yrp (goQ_ ?_);refine yX5 (yf8 list now hs) ?_;have hol:=ygT (list:=list) (now:=now);have hlt:=yjA (list:=list) (now:=now);have hns:mW list t now=if(kS list now).length=0\/ybY t=false then(false,false)else(yhi list (kS list now) t,true):=rfl
 generalize mW list t now=R at *;generalize kS list now=o at *;rcases zaB o.length with e|e
 .have e2:=zay.1 e;subst e2;refine goQ_ ?_;simp[hns]
 .obtain⟨x,hx⟩:∃x,o[0]?=some x:=⟨_,zab e⟩;have gx:=(zaa.1 hx).2;have e0:(o=[])=False:=by simp only[eq_iff_iff,iff_false];intro h;rw[h]at e;simp at e
  refine yafw e0 ?_;intro hlen;refine aA (yjQ t) ?_;cases h1:ybY t with
  |false=>simp -dsimp -implicitDefEqProofs;simp[hns,h1]
  |true=>
  have hc1:=aC.1 h1;have hxl:=hlt x (zac hx);obtain⟨c,hc⟩:∃e,list[x]?=some e:=⟨_,zab hxl⟩;have gc:=(zaa.1 hc).2;have hup:=yoY hc;have hns2:R=(yhi list o t,true):=by rw[hns,if_neg];simp[h1];exact of_eq_false e0
  have hsd:yhi list o t=if c.yRT.Up≠t.Up\/t.Count<3 then c.yRT.Up else if o.all λi=>yrc list i==c.yRT.Up then c.yRT.Up else !c.yRT.Up:=by
   unfold yhi;rw[hx,zbc,hup]
  rw[hsd]at hns2
  by_cases hu:c.yRT.Up=t.Up
  rotate_left
  .rw[if_pos (.inl hu)]at hns2;simp -dsimp -implicitDefEqProofs [e,hx,gx,kC,hxl,hc,gc,hu];simp[hns2]
  by_cases h3:t.Count<3
  .rw[if_pos (.inr h3)]at hns2;simp -dsimp -implicitDefEqProofs [e,hx,gx,kC,hxl,hc,gc,hu,h3];simp[hns2,hu]
  rw[if_neg (by simp[hu];omega)]at hns2;simp -dsimp -implicitDefEqProofs [e,hx,gx,kC,hxl,hc,gc,hu,h3];rw[hu]at hns2;generalize t.Up=up at *
  refineλ_=>qA (ι:=Nat) (λk=>k<=o.length/\∀y∈o.take k,yrc list y=up) (λk=>xC [(0,.c (.sl 4 (list.map yR4.enc))),(9,.c (.b up)),(41,.own 14 1 o.length),(42,.c (.i o.length)),(43,.c (.i k))] [(14,.row 1 (o.map kC))]) (λk=>o.length-k) 0 (by simp) (by apply aB<;>simp[kC]) ?_
  rintro k ⟨hk,hall⟩
  rcases yX1 k o with⟨hlt2,y,hy⟩|hge
  .have gy:=(zaa.1 hy).2;have hyl:=hlt y (zac hy);obtain⟨d,hd⟩:∃e,list[y]?=some e:=⟨_,zab hyl⟩;have gd:=(zaa.1 hd).2;have hupd:=yoY hd
   by_cases hdu:d.yRT.Up=up
   .simp -dsimp -implicitDefEqProofs [hy,gy,fC hlt2,hlt2,kC,hyl,hd,gd,hdu];refine⟨gB hlt2 hlen,k+1,⟨hlt2,λz hz=>?_⟩,by omega,?_⟩
    .rw[zao,hy]at hz;rcases zaj.1 hz with hz|hz
     .exact hall z hz
     .simp at hz;subst hz;rw[hupd,hdu]
    .apply aB<;>simp[kC]
   .simp -dsimp -implicitDefEqProofs [hy,gy,fC hlt2,hlt2,kC,hyl,hd,gd,hdu];rw[if_neg (by simp;exact⟨y,zac hy,by rw[hupd];exact hdu⟩)]at hns2;simp[hns2]
  .refine yafw (aG hge) ?_;rw[zae hge]at hall;rw[if_pos (by simpa using hall)]at hns2;simp[hns2]
def yc8(now:Int)(p:ySf):Bool:=decide (p.From<=now)&&decide (now<p.Until)
def bW(l:List ySf)(now:Int):Bool:=xO l&&inRange now 0 1000000&&l.all λp=>!yc8 now p
def yAC(l:List ySf)(now:Int):qB prg 286 [.c (.sl 2 (l.map ySf.enc)),.c (.i now)] (.c (.b (bW l now))):=by
 refine dB yvX (goQ_ ?_);refine aA (ymM l) ?_;cases h1:xO l with
 |false=>simp -dsimp -implicitDefEqProofs;simp[bW,h1]
 |true=>
 refine goQ_ ?_;refine aA (iC now 0 1000000) ?_;cases h2:inRange now 0 1000000 with
 |false=>simp -dsimp -implicitDefEqProofs;simp[bW,h2]
 |true=>
 refine goQ_ ?_;intro hlen;refine yX4 (λk=>k<=l.length/\∀p∈l.take k,yc8 now p=false) (λk=>xC [(1,.c (.i now)),(15,.c (.sl 2 (l.map ySf.enc))),(16,.c (.i l.length)),(17,.c (.i k))] []) (λk=>l.length-k) ?_
 rintro k ⟨hk,hno⟩
 rcases yX1 k l with⟨klt,p,hp⟩|kge
 .have gp:=(zaa.1 hp).2;have hmem:=zac hp
  have next:yc8 now p=false->∀p∈l.take (k+1),yc8 now p=false:=by
   intro h0 y hy;rw[zao,hp]at hy;rcases zaj.1 hy with e|e
   .exact hno y e
   .simp at e;rw[e];exact h0
  cases hs:yc8 now p with
  | true=>
   have e:bW l now=false:=by
    have:(l.all λp=>!yc8 now p)=false:=zdC.2 ⟨p,hmem,by simp[hs]⟩;simp[bW,this]
   rw[e];simp only[yc8,zad,decide_eq_true_eq]at hs;simp -dsimp -implicitDefEqProofs [hp,gp,klt,fC klt,hs.1,hs.2]
  |false=>
   have hn:=next hs
   simp only[yc8,zcG,decide_eq_false_iff_not]at hs;refine yaeV hp gp klt (fC klt) ?_;refine⟨λa1=>⟨λa2=>by omega,λa2=>⟨gB klt hlen,k+1,⟨klt,hn⟩,by omega,?_⟩⟩,λa1=>⟨gB klt hlen,k+1,⟨klt,hn⟩,by omega,?_⟩⟩<;>apply aB<;>simp
 .have e:bW l now=true:=by
   have:(l.all λp=>!yc8 now p)=true:=zaf.2 λp hp=>by rw[hno p (by rw[zae kge];exact hp)];rfl
   simp[bW,h1,h2,this]
  exact yafJ (aG kge) e
def rD(x:yRW)(k:Nat)(w:yR8):yRW:={x with yRX:=x.yRX.set k w}
def qJ(x:yRW)(k:Nat)(r:Reach):yRW:={x with yRV:=x.yRV.set k r}
def ycd(x:yRW)(k:Nat)(w:yR8)(hl:x.yRX.length<=1048576)(hk:k<x.yRX.length):qB prg 279 [.agg (x.enc.map .c),.c (.i k),.agg (w.enc.map .c)] (.agg ((rD x k w).enc.map .c)):=by
 refine dB yrs (goQ_ ?_);refine yX5 (yEV x.yRX hl) (yafv hk ?_)
 have e:List.take x.yRX.length ((x.yRX.map yR8.enc).set k w.enc)=(x.yRX.set k w).map yR8.enc:=by
  rw[zae (by simp),zaZ]
 simp only[yR8.enc]at e;simp[rD,e]
def yuW(x:yRW)(k:Nat)(r:Reach)(hl:x.yRV.length<=1048576)(hk:k<x.yRV.length):qB prg 284 [.agg (x.enc.map .c),.c (.i k),.agg (r.enc.map .c)] (.agg ((qJ x k r).enc.map .c)):=by
 refine dB ypn (goQ_ ?_);refine yX5 (yFx x.yRV hl) (yafv hk ?_)
 have e:List.take x.yRV.length ((x.yRV.map Reach.enc).set k r.enc)=(x.yRV.set k r).map Reach.enc:=by
  rw[zae (by simp),zaZ]
 simp only[Reach.enc]at e;simp[qJ,e]
def ys8(x:yRW)(k:Nat)(l:List yR6)(m:yR6)(hs:x.yR3.length<=1048576)(hk:x.yR3[k]?=some l)(hll:l.length<=1048576):
 qB prg 58 [.agg (x.enc.map .c),.c (.i k),.agg (m.enc.map .c)] (.agg ((oG x k m).enc.map .c)):=
 (yAh x k l m hs hk hll).pure (by
  have h:=yv5 x k m;simp[oG,zaZ]at h;simp[AV.shr,AV.yoE,dO,C.shr,ykB,oG,zaZ,h])
def lI(k:Nat)(g:Int):Nat:=if g=1 then k else k+1
def yd4(k:Nat)(g:Int)(hk:k<=1000):qB prg 280 [.c (.i k),.c (.i g)] (.c (.i (lI k g))):=by
 refine dB ypf (goQ_ ?_)
 by_cases h:g=1
 .simp -dsimp -implicitDefEqProofs [h];simp[lI]
 .refine yafw h ?_;refine⟨by unfold inI;omega,?_⟩;simp[lI,h]
@[simp] def rH(w:yR8)(l:yR0):yR8:=⟨l,w.ySp,w.Rule,w.Pauses,w.Turn,w.Calls⟩
def yag(x:yRW)(k:Nat):Int:=(dW x.yRX k).yR0.Gate
def jM(x:yRW)(k:Nat):Nat:=lI k (yag x k)
def lW(x:yRW)(k:Nat):yR0×yRT×Bool:=sK (dW x.yRX k).yR0 (dR x.yRV (jM x k))
def yfJ(x:yRW)(k:Nat):Int:=if yag x k=1 then(x.ySl.getD (jM x k) default).Long else 0
def iK(x:yRW)(k:Nat):yRW×Bool:=
 if(lW x k).2.2 then(oG (rD x k (rH (dW x.yRX k) (lW x k).1)) (jM x k) ⟨(lW x k).2.1,yfJ x k⟩,true)else(x,false)
structure ySq(x:yRW)(k:Nat):Prop where
 kw:k<x.yRX.length
 kr:k+1<x.yRV.length
 rl:x.yRV.length<=6
 ways:x.ySl.length=x.yRV.length
 mvs:x.yR3.length=x.yRV.length
 few:∀l∈x.yR3,l.length<=24
 lok:lF (dW x.yRX k).yR0=true
 wok:fJ (dW x.yRX k)=true
 sw:yR8.small (dW x.yRX k)
 calls:(dW x.yRX k).Calls.length<=24
 book:x.Book.length<=2000
 pass:x.yR1.length<=500
def ym8{x:yRW}{k:Nat}(h:rC x=true)(hs:x.small)(hk:k<x.yRX.length):ySq x k:=by
 have pl:=yjV h;have p1:=pl.two;have p2:=pl.ways;have p3:=pl.mvs;have p4:=pl.wks;have rf:=(ynr (yCL h).ySA).len;have hw:=yi4 hk
 have hok:fJ (dW x.yRX k)=true:=by
  have hh:=h;simp only[rC,sJ,zad,zaf]at hh;exact hh.1.1.1.1.1.1.2.2 _ (zac hw)
 have hok2:=hok;simp only[fJ,zad,decide_eq_true_eq]at hok2
 refine⟨hk,by omega,by omega,p2,p3,λl hl=>?_,hok2.1.1.1.1.1.1,hok,hs.2.2.1.2 _ (zac hw),hok2.1.2,by
  have hh:=h;simp only[rC,kU,zad,decide_eq_true_eq]at hh;exact hh.1.1.1.2.1,by
  have hh:=h;simp only[rC,pO,zad,decide_eq_true_eq]at hh;omega⟩
 obtain⟨j,hj⟩:=zbd.1 hl;have jl:=(zaa.1 hj).1;have hh:=h;simp only[rC,sJ,zad,zaf]at hh;have:=hh.1.1.1.1.1.1.2.1.2 (x.ySl[j]'(by omega),l) (zbd.2 ⟨j,by rw[zbK];exact⟨zab _,hj⟩⟩);simp only[jS,zad,decide_eq_true_eq]at this;exact this.1.2
def ysR(x:yRW)(k:Nat)(hs:x.small)(F:ySq x k):qB prg 186 [.agg (x.enc.map .c),.c (.i k)] (.tup [.agg ((iK x k).1.enc.map .c),.c (.b (iK x k).2)]):=by
 have kw:=F.kw;have kr:=F.kr;have rl:=F.rl;have wy:=F.ways;have mv:=F.mvs;have hw:=yi4 F.kw;obtain⟨w,hwe⟩:∃w,dW x.yRX k=w:=⟨_,rfl⟩;rw[hwe]at hw;have gw:=(zaa.1 hw).2;have hsd:jM x k=lI k w.yR0.Gate:=by unfold jM yag;rw[hwe]
 have hsl:lI k w.yR0.Gate<x.yRV.length:=by unfold lI;split<;>omega
 have hT:lW x k=sK w.yR0 (dR x.yRV (lI k w.yR0.Gate)):=by unfold lW;rw[hsd,hwe]
 have hr:=ye8 hsl;have hLL:=ysW w.yR0 (dR x.yRV (lI k w.yR0.Gate)) (by have:=F.sw;rw[hwe]at this;exact this.1);rw[<-hT]at hLL;unfold iK;rw[hsd,hwe];generalize lW x k=T at *;obtain⟨side,hside⟩:∃s,lI k w.yR0.Gate=s:=⟨_,rfl⟩;rw[hside]at hsl hr hLL|-;have hSR:=yd4 k w.yR0.Gate (by omega);rw[hside]at hSR;obtain⟨r,hre⟩:∃r,dR x.yRV side=r:=⟨_,rfl⟩;rw[hre]at hr hLL;have gr:=(zaa.1 hr).2;obtain⟨R,hR⟩:∃R,(if T.2.2 then(oG (rD x k (rH w T.1)) side ⟨T.2.1,yfJ x k⟩,true)else(x,false))=R:=⟨_,rfl⟩;rw[hR];obtain⟨wy,hwy⟩:∃wy,x.ySl[side]?=some wy:=⟨_,zab (by omega)⟩;have gwy:=(zaa.1 hwy).2;have lwy:=(zaa.1 hwy).1;obtain⟨ms,hms⟩:∃ms,x.yR3[side]?=some ms:=⟨_,zab (by omega)⟩;have h24:=F.few ms (zac hms)
 have hP:yfJ x k=if w.yR0.Gate=1 then wy.Long else 0:=by
  unfold yfJ yag;rw[hwe,hsd,hside,zai,hwy];rfl
 refine dB yqh ?_;simp -dsimp -implicitDefEqProofs [ygD,hw,gw,kw,fC kw];refine yYq hSR (yaeT hr gr hsl ?_);refine yYo hLL ?_;cases hb:T.2.2 with
 |false=>
  rw[hb]at hR;obtain rfl:(x,false)=R:=hR;exact goE_
 | true=>
  rw[hb]at hR;have hR:(oG (rD x k (rH w T.1)) side ⟨T.2.1,yfJ x k⟩,true)=R:=hR;have hWW:=ycd x k (rH w T.1) hs.2.2.1.1 kw;have hWM:=λp=>ys8 (rD x k (rH w T.1)) side ms ⟨T.2.1,p⟩ hs.2.2.2.1.1 hms (by omega);rw[hP]at hR;generalize rD x k (rH w T.1)=x1 at *
  by_cases hg:w.yR0.Gate=1
  .rw[if_pos hg]at hR;have hWM:=hWM wy.Long;rw[<-hR];generalize oG x1 side ⟨T.2.1,wy.Long⟩=x2 at *;refine yaeV hg hwy gwy lwy ?_;refine yYo hWW (goQ_ ?_);refine yYo hWM ?_;exact goE_
  .rw[if_neg hg]at hR;have hWM:=hWM 0;rw[<-hR];generalize oG x1 side ⟨T.2.1,0⟩=x2 at *;refine yafw hg ?_;refine yYo hWW (goQ_ ?_);refine yYo hWM ?_;exact goE_
def ybZ(x:yRW)(k:Nat):Bool×Bool:=mW (able (dR x.yRV k) (dR x.yRV (k+1)) (dW x.yRX k)) (dW x.yRX k).Turn x.Time
@[simp] def ya7(w:yR8)(g:Int):yR8:=⟨w.yR0.yra g,w.ySp,w.Rule,w.Pauses,w.Turn,w.Calls⟩
def mG(w:yR8)(N:Bool×Bool):Bool:=!decide (w.yR0.yRY=[])||(N.2&&(N.1 != decide (w.yR0.Gate=2)))
def xY(x:yRW)(k:Nat):yRW:=rD x k (if mG (dW x.yRX k) (ybZ x k)then ya7 (dW x.yRX k) 0 else dW x.yRX k)
def yhK{a b:Reach}{w:yR8}(h:yR8.small w):oM (able a b w):=⟨zba (zbX _ _) h.2.2.1,λc hc=>h.2.2.2 c (zbE.1 hc).1⟩
def ywM(x:yRW)(k:Nat)(hs:x.small)(F:ySq x k):qB prg 188 [.agg (x.enc.map .c),.c (.i k)] (.agg ((xY x k).enc.map .c)):=by
 have kw:=F.kw;have kr:=F.kr;have sw:=F.sw;have hw:=yi4 F.kw;have ha:=ye8 (rs:=x.yRV) (k:=k) (by omega);have hb:=ye8 kr;have hA:=yGg x k _ _ _ sw hw ha hb (yBO F.wok) hs.1.1;have hN:=yjM (able (dR x.yRV k) (dR x.yRV (k+1)) (dW x.yRX k)) (dW x.yRX k).Turn x.Time (yhK sw);have hN2:ybZ x k=mW (able (dR x.yRV k) (dR x.yRV (k+1)) (dW x.yRX k)) (dW x.yRX k).Turn x.Time:=rfl;rw[<-hN2]at hN;generalize able (dR x.yRV k) (dR x.yRV (k+1)) (dW x.yRX k)=A at *;unfold xY;generalize ybZ x k=N at *;generalize dW x.yRX k=w at *;have gw:=(zaa.1 hw).2;obtain⟨v,hv⟩:∃v,(if mG w N then ya7 w 0 else w)=v:=⟨_,rfl⟩;rw[hv];have hW2:=ycd x k v hs.2.2.1.1 kw;generalize rD x k v=R at *;refine dB yr2 ?_;simp -dsimp -implicitDefEqProofs [yiM,hw,gw,kw,fC kw];refine yYt hA (goQ_ ?_);refine yYs hN ?_;cases hm:mG w N with
 | true=>
  rw[hm,if_pos rfl]at hv;subst hv
  by_cases hI:w.yR0.yRY=[]
  .simp only[mG,hI,decide_true,Bool.not_true,Bool.false_or,zad,bne_iff_ne]at hm;simp -dsimp -implicitDefEqProofs [hI,hm.1,hm.2];refine iF (hW2) (by simp -dsimp -implicitDefEqProofs [hI]) rfl ?_;exact goE_
  .refine yafw hI ?_;intro _ _;refine yYp hW2 ?_;exact goE_
 | false=>
  rw[hm,if_neg zbZ]at hv;subst hv
  have hI:w.yR0.yRY=[]:=by
   by_cases hI:w.yR0.yRY=[]
   .exact hI
   .simp[mG,hI]at hm
  simp only[mG,hI,decide_true,Bool.not_true,Bool.false_or,zcG,bne_eq_false_iff_eq]at hm;cases h2:N.2 with
  |false=>
   refine yaed hI h2 ?_;refine iF (hW2) (by simp -dsimp -implicitDefEqProofs [hI]) rfl ?_;exact goE_
  | true=>
   rw[h2]at hm
   have hm:N.1=decide (w.yR0.Gate=2):=by
    rcases hm with e|e
    .cases e
    .exact e
   refine yaeT hI h2 hm ?_;refine iF (hW2) (by simp -dsimp -implicitDefEqProofs [hI]) rfl ?_;exact goE_
def yoI(w:yR8)(N:Bool×Bool):Bool:=if w.yR0.yRY=[]then !N.1 else(w.yR0.yRY.getD 0 ⟨false,[]⟩).Up
def rests(w:yR8)(N:Bool×Bool):Bool:=decide (w.yR0.yRY=[])&& !N.2
def yan(w:yR8)(N:Bool×Bool):Int:=if yoI w N then 1 else 2
def opening(x:yRW)(k:Nat)(g:Int):yR0×Bool:=tK (dW x.yRX k).yR0 (dR x.yRV k) (dR x.yRV (k+1)) g
def jT(l:yR0)(r:Reach):yR0×Reach:=if bG l<kD r then mM l r else rJ l r
def yls(x:yRW)(k:Nat)(g:Int):yRW:=
 if(opening x k g).2 then rD x k (rH (dW x.yRX k) (opening x k g).1)else qJ (rD x k (rH (dW x.yRX k) (jT (dW x.yRX k).yR0 (dR x.yRV (lI k g))).1)) (lI k g) (jT (dW x.yRX k).yR0 (dR x.yRV (lI k g))).2
def qM(x:yRW)(k:Nat):yRW:=if rests (dW x.yRX k) (ybZ x k)then x else yls x k (yan (dW x.yRX k) (ybZ x k))
set_option maxRecDepth 20000 in
def ys1(x:yRW)(k:Nat)(hs:x.small)(F:ySq x k):qB prg 185 [.agg (x.enc.map .c),.c (.i k)] (.agg ((qM x k).enc.map .c)):=by
 have kw:=F.kw;have kr:=F.kr;have sw:=F.sw;have rl:=F.rl;have hw:=yi4 F.kw;have ha:=ye8 (rs:=x.yRV) (k:=k) (by omega);have hb:=ye8 kr;have hA:=yGg x k _ _ _ sw hw ha hb (yBO F.wok) hs.1.1;have hN:=yjM (able (dR x.yRV k) (dR x.yRV (k+1)) (dW x.yRX k)) (dW x.yRX k).Turn x.Time (yhK sw);have hN2:ybZ x k=mW (able (dR x.yRV k) (dR x.yRV (k+1)) (dW x.yRX k)) (dW x.yRX k).Turn x.Time:=rfl;rw[<-hN2]at hN;generalize able (dR x.yRV k) (dR x.yRV (k+1)) (dW x.yRX k)=A at *;unfold qM;clear hN2;generalize ybZ x k=N at *;obtain⟨g,hg⟩:∃g,yan (dW x.yRX k) N=g:=⟨_,rfl⟩;rw[hg];have hg12:g=1\/g=2:=by rw[<-hg];unfold yan;split<;>omega
 have hsl:lI k g<x.yRV.length:=by unfold lI;split<;>omega
 have hSR:=yd4 k g (by omega);have hr:=ye8 hsl;have hsr:=hs.1.2 _ (zac hr);have hO:=yvt (dW x.yRX k).yR0 (dR x.yRV k) (dR x.yRV (k+1)) g sw.1;have hCh:=jQ (dW x.yRX k).yR0 sw.1;have hLv:=qL (dR x.yRV (lI k g));have hFi:=yvH (dW x.yRX k).yR0 (dR x.yRV (lI k g)) sw.1 hsr;have hDr:=yty (dW x.yRX k).yR0 (dR x.yRV (lI k g)) sw.1 hsr;have hWT:yls x k g=if(opening x k g).2 then rD x k (rH (dW x.yRX k) (opening x k g).1)else qJ (rD x k (rH (dW x.yRX k) (jT (dW x.yRX k).yR0 (dR x.yRV (lI k g))).1)) (lI k g) (jT (dW x.yRX k).yR0 (dR x.yRV (lI k g))).2:=rfl
 have hO2:tK (dW x.yRX k).yR0 (dR x.yRV k) (dR x.yRV (k+1)) g=opening x k g:=rfl;have hLe:jT (dW x.yRX k).yR0 (dR x.yRV (lI k g))=if bG (dW x.yRX k).yR0<kD (dR x.yRV (lI k g))then mM (dW x.yRX k).yR0 (dR x.yRV (lI k g))else rJ (dW x.yRX k).yR0 (dR x.yRV (lI k g)):=rfl
 rw[hO2]at hO;have hWW:=λl=>ycd x k (rH (dW x.yRX k) l) hs.2.2.1.1 kw;have hWR:=λl r=>yuW (rD x k (rH (dW x.yRX k) l)) (lI k g) r hs.1.1 hsl;generalize yls x k g=Z at *;generalize opening x k g=O at *;generalize jT (dW x.yRX k).yR0 (dR x.yRV (lI k g))=L at *;generalize mM (dW x.yRX k).yR0 (dR x.yRV (lI k g))=Fi at *;generalize rJ (dW x.yRX k).yR0 (dR x.yRV (lI k g))=Dr at *;generalize lI k g=sd at *;generalize bG (dW x.yRX k).yR0=cl at *;generalize kD (dR x.yRV sd)=lv at *;generalize dR x.yRV sd=rs at *;generalize dR x.yRV k=ra at *;generalize dR x.yRV (k+1)=rb at *;generalize dW x.yRX k=w at *;have gw:=(zaa.1 hw).2;have ga:=(zaa.1 ha).2;have gb:=(zaa.1 hb).2;have gr:=(zaa.1 hr).2;have ka:k<x.yRV.length:=by omega
 refine dB ypJ ?_;simp -dsimp -implicitDefEqProofs [ygM,hw,gw,kw,fC kw];refine yYt hA (goQ_ ?_);refine yYs hN ?_;obtain⟨n1,n2⟩:=N
 have hcase:(w.yR0.yRY=[]/\n2=false)\/(∃u,(w.yR0.yRY=[]/\n2=true/\n1= !u)/\g=if u then 1 else 2)\/(∃u t,(w.yR0.yRY[0]?=some t/\t.Up=u)/\g=if u then 1 else 2):=by
  by_cases hI:w.yR0.yRY=[]
  .cases h2:n2 with
   |false=>exact .inl ⟨hI,rfl⟩
   |true=>exact .inr (.inl ⟨!n1,⟨hI,rfl,by simp⟩,by rw[<-hg];simp[yan,yoI,hI]⟩)
  .obtain⟨t,ht⟩:∃t,w.yR0.yRY[0]?=some t:=⟨_,zab (zbs.2 hI)⟩;exact .inr (.inr ⟨t.Up,t,⟨ht,rfl⟩,by rw[<-hg];simp[yan,yoI,hI,zai,ht]⟩)
 rcases hcase with⟨hI,h2⟩|⟨u,⟨hI,h2,h1⟩,hgu⟩|⟨u,t,⟨ht,hu⟩,hgu⟩
 .have hre:rests w (n1,n2)=true:=by simp[rests,hI,h2]
  subst h2;exact yafJ hI hre
 .have hre:∀b,rests w (b,true)=false:=λb=>by simp[rests,hI]
  have i1:(0<w.yR0.yRY.length)=False:=eq_false (by rw[hI];simp);have i2:(w.yR0.yRY=[])=True:=eq_true hI;subst h2 h1;cases u
  all_goals
   simp only[if_true,zbQ,if_false]at hgu;subst hgu;simp -dsimp -implicitDefEqProofs [i1,i2,hre,ha,ga,ka,hb,gb,kr]
   refineλ_=>⟨by unfold inI;omega,by omega,by omega,?_⟩
   refine yYo hO ?_;cases hO2:O.2 with
   |true=>
    rw[hO2,if_pos rfl]at hWT;subst hWT;have hW1:=hWW O.1;generalize rD x k (rH w O.1)=R at *;refine goQ_ ?_;refine yYp hW1 ?_;exact yafA hre
   | false=>
    rw[hO2,if_neg zbZ]at hWT;subst hWT;have hW1:=hWW L.1;have hW2:=hWR L.1 L.2;generalize qJ (rD x k (rH w L.1)) sd L.2=R2 at *;generalize rD x k (rH w L.1)=R at *;refine goQ_ ?_;refine yYq hSR (yaeT hr gr hsl ?_);refine yYs hCh (goQ_ ?_);refine yYs hLv ?_
    by_cases hlt:cl<lv
    .rw[if_pos hlt]at hLe;subst hLe;refine yafw hlt ?_;refine yYp hFi (goQ_ ?_);refine yYo hW1 (goQ_ ?_);refine yYo hW2 ?_;exact yafA hre
    .rw[if_neg hlt]at hLe;subst hLe;refine yafw hlt ?_;refine yYp hDr (goQ_ ?_);refine yYo hW1 (goQ_ ?_);refine yYo hW2 ?_;exact yafA hre
 .have hre:rests w (n1,n2)=false:=by
   have:w.yR0.yRY≠[]:=λh=>by rw[h]at ht;cases ht
   simp[rests,this]
  have gt:=(zaa.1 ht).2;have i1:(0<w.yR0.yRY.length)=True:=eq_true (zaa.1 ht).1;have i2:(w.yR0.yRY=[])=False:=eq_false λh=>by rw[h]at ht;cases ht
  cases u
  all_goals
   simp only[if_true,zbQ,if_false]at hgu;subst hgu;simp -dsimp -implicitDefEqProofs [i1,i2,ht,gt,hu,hre,ha,ga,ka,hb,gb,kr]
   refineλ_=>⟨by unfold inI;omega,by omega,by omega,?_⟩
   refine yYo hO ?_;cases hO2:O.2 with
   |true=>
    rw[hO2,if_pos rfl]at hWT;subst hWT;have hW1:=hWW O.1;generalize rD x k (rH w O.1)=R at *;refine goQ_ ?_;refine yYp hW1 ?_;exact yafA hre
   | false=>
    rw[hO2,if_neg zbZ]at hWT;subst hWT;have hW1:=hWW L.1;have hW2:=hWR L.1 L.2;generalize qJ (rD x k (rH w L.1)) sd L.2=R2 at *;generalize rD x k (rH w L.1)=R at *;refine goQ_ ?_;refine yYq hSR (yaeT hr gr hsl ?_);refine yYs hCh (goQ_ ?_);refine yYs hLv ?_
    by_cases hlt:cl<lv
    .rw[if_pos hlt]at hLe;subst hLe;refine yafw hlt ?_;refine yYp hFi (goQ_ ?_);refine yYo hW1 (goQ_ ?_);refine yYo hW2 ?_;exact yafA hre
    .rw[if_neg hlt]at hLe;subst hLe;refine yafw hlt ?_;refine yYp hDr (goQ_ ?_);refine yYo hW1 (goQ_ ?_);refine yYo hW2 ?_;exact yafA hre
def yZL(rs:List Reach)(ws:List Way)(wk:List yR8)(t:yRZ):yRW:=⟨0,rs,ws,wk,List.replicate rs.length [],[],[],t,[],[],0,0,0⟩
def yZU(rs:List Reach)(ws:List Way)(wk:List yR8)(t:yRZ):yRW:=⟨0,rs,ws,wk,List.replicate rs.length [],[],[],t,[],[],yYN (yZL rs ws wk t),0,0⟩
def yY0(w:yR8):Bool:=decide (w.yR0.yRY.length=0)&&decide (w.Calls.length=0)
def yZG:yRW:=⟨0,[],[],[],[],[],[],⟨0,0,[],[]⟩,[],[],0,0,0⟩
def yYI(rs:List Reach)(ws:List Way)(wk:List yR8)(t:yRZ):yRW×Bool:=
 if wk.all yY0&&rC (yZU rs ws wk t)then(yZU rs ws wk t,true)else(yZG,false)
def yabQ{rs:List Reach}{ws:List Way}{wk:List yR8}{t:yRZ}(h1:ybv rs)(h2:yhE ws)(h3:ycw wk)(h4:t.small):(yZL rs ws wk t).small:=by
 have e:∀{α:Type} {p:α->Prop},aW p []:=λ{_ _}=>⟨by simp,λx hx=>by simp at hx⟩;exact⟨h1,h2,h3,⟨by simpa[yZL]using h1.1,λl hl=>by rw[(zcS.1 hl).2];exact e⟩,e,e,h4,e,e⟩
def yabP{rs:List Reach}{ws:List Way}{wk:List yR8}{t:yRZ}(h1:ybv rs)(h2:yhE ws)(h3:ycw wk)(h4:t.small):(yZU rs ws wk t).small:=yabQ h1 h2 h3 h4
def yaes{rs:List Reach}{ws:List Way}{wk:List yR8}{t:yRZ}(h:wk.all yY0=false):yYI rs ws wk t=(yZG,false):=by simp only[yYI,h,zbG];rfl
def yaef{rs:List Reach}{ws:List Way}{wk:List yR8}{t:yRZ}(h:rC (yZU rs ws wk t)=false):yYI rs ws wk t=(yZG,false):=by simp only[yYI,h,zbk];rfl
def yahK(m:Int)(h0:0<=m)(h1:m<=2097152):nI prg 160 [.nil 1,.c (.i m)] (.c (.ow 1 [])):=by
 refine fF yabH (goQ_ ?_);exact⟨h0,λ_=>⟨by unfold inI;omega,by unfold inI;omega,λh=>⟨h0,by omega,by omega⟩⟩⟩
def lenI(a b:Nat)(k:Nat):Int:=if k=0 then 0 else if k=1 then a else a+b
def catI(a b:List Int)(k:Nat):List Int:=if k=0 then[]else if k=1 then a else a++b
def yafR(a b:List Int)(ha:a.length<=1048576)(hb:b.length<=1048576):
 nI prg 59 [.c (.sl 1 [[.sl 1 (a.map qC)],[.sl 1 (b.map qC)]])] (.c (.ow 1 ((a++b).map qC))):=by
 refine fF yabB (goQ_ ?_)
 refineλ_=>qA (ι:=Nat) (λk=>k<=2) (λk=>xC [(0,.c (.sl 1 [[.sl 1 (a.map qC)],[.sl 1 (b.map qC)]])),(3,.c (.i (lenI a.length b.length k))),(9,.c (.sl 1 [[.sl 1 (a.map qC)],[.sl 1 (b.map qC)]])),(10,.c (.i 2)),(11,.c (.i k))] []) (λk=>2-k) 0 (by simp) (by apply aB<;>simp[lenI]) ?_
 intro k hk;obtain rfl|rfl|rfl:k=0\/k=1\/k=2:=by omega
 .simp -dsimp -implicitDefEqProofs [lenI]
  refineλ_=>⟨by unfold inI;omega,by unfold inI;omega,1,by omega,by omega,?_⟩
  apply aB<;>simp
 .simp -dsimp -implicitDefEqProofs [lenI]
  refineλ_=>⟨by unfold inI;omega,by omega,λ_=>⟨by unfold inI;omega,2,by omega,by omega,?_⟩⟩
  apply aB<;>simp
 .simp -dsimp -implicitDefEqProofs [lenI];refine sD (yahK (a.length+b.length) (by omega) (by omega)) (by simp) (by simp[AV.closed,AV.jI,C.closed]) (by simp[fD]) (goQ_ ?_)
  refineλ_=>qA (ι:=Nat) (λk=>k<=2) (λk=>xC [(6,.own 24 1 (catI a b k).length),(25,.c (.sl 1 [[.sl 1 (a.map qC)],[.sl 1 (b.map qC)]])),(26,.c (.i 2)),(27,.c (.i k))] [(24,.row 1 ((catI a b k).map qC))]) (λk=>2-k) 0 (by simp) (by apply aB<;>simp[catI]) ?_
  intro k hk;obtain rfl|rfl|rfl:k=0\/k=1\/k=2:=by omega
  .simp -dsimp -implicitDefEqProofs [catI];refine⟨by omega,by unfold inI;omega,1,by omega,by omega,?_⟩;apply aB<;>simp
  .simp -dsimp -implicitDefEqProofs [catI];refine⟨by omega,by unfold inI;omega,2,by omega,by omega,?_⟩;apply aB<;>simp
  .simp -dsimp -implicitDefEqProofs [catI];rw[zae (by simp)]
def yZr(x:yRW)(t:yRT):Nat:=if t.Up then x.yRV.length-1 else 0
def entP(x:yRW)(t:yRT):Int:=if t.Up then(x.ySl.getD (x.yRV.length-1) ⟨0,0⟩).Long else 0
def yYK(x:yRW)(t:yRT):yRW:={oG x (yZr x t) ⟨t,entP x t⟩with ySd:=x.ySd++lG t}
def yZE(x:yRW)(i:Int):Bool:=!decide (i∈x.ySd)
def yYL(x:yRW)(t:yRT):yRW×Bool:=if rC x&&oC t&&(lG t).all (yZE x)&&rC (yYK x t)then(yYK x t,true)else(x,false)
structure yacx(x:yRW)(t:yRT):Prop where
 two:2<=x.yRV.length
 ways:x.ySl.length=x.yRV.length
 mvs:x.yR3.length=x.yRV.length
 few:∀(k:Nat) (l:List yR6),x.yR3[k]?=some l->l.length<=24
 ent:x.ySd.length<=2000
 ids:(lG t).length<=6
 kl:yZr x t<x.yR3.length
def yZQ{x:yRW}{t:yRT}(h:rC x=true)(ht:oC t=true):yacx x t:=by
 have hh:=h;simp only[rC,zad]at h;obtain⟨⟨⟨⟨⟨⟨⟨h1,h2⟩,h3⟩,h4⟩,h5⟩,h6⟩,h7⟩,h8⟩:=h;simp only[sJ,zad,decide_eq_true_eq]at h2;obtain⟨⟨⟨⟨⟨⟨p1,p2⟩,p3⟩,p4⟩,p5⟩,p6⟩,p7⟩:=h2;refine⟨p2,p3,p4,λk l hk=>?_,?_,?_,?_⟩
 .have kl:=(zaa.1 hk).1;have gl:=(zaa.1 hk).2;have:=zaf.1 p6 (x.ySl[k]'(by omega),l) (zcq.2 ⟨k,by simp;omega,by simp[gl]⟩);simp only[jS,zad,decide_eq_true_eq]at this;exact this.1.2
 .simp only[pO,zad,decide_eq_true_eq]at h3;omega
 .simp only[lG,ht,if_true];simp only[oC,zad,inRange,decide_eq_true_eq]at ht;simp;omega
 .unfold yZr;split<;>omega
def yZO{x:yRW}{t:yRT}(F:yacx x t)(h:x.small)(ht:t.small):(yYK x t).small:=by
 obtain⟨s1,s2,s3,s4,s5,s6,s7,s8,s9⟩:=h;have kl:=F.kl;obtain⟨l,hl⟩:∃l,x.yR3[yZr x t]?=some l:=⟨_,zab kl⟩;have hll:=F.few _ _ hl;refine⟨s1,s2,s3,⟨by simp[yYK,oG];exact s4.1,λy hy=>?_⟩,s5,⟨by simp[yYK];have:=F.ent;have:=F.ids;omega,λy hy=>trivial⟩,s7,s8,s9⟩;have hlm:=zac hl;rcases zaK hy with e|e
 .exact s4.2 y e
 .subst e;rw[zai,hl];refine⟨by simp;omega,λm hm=>?_⟩;rcases zaj.1 hm with e|e
  .exact(s4.2 l hlm).2 m e
  .rw[zak.1 e];exact ht
def yZB(x:yRW)(t:yRT):(yYK x t).enc=[.i x.Time,.sl 3 (x.yRV.map Reach.enc),.sl 2 (x.ySl.map Way.enc),.sl 22 (x.yRX.map yR8.enc),.sl 1 ((oG x (yZr x t) ⟨t,entP x t⟩).yR3.map nD),.sl 2 (x.yR9.map yRT.enc),.sl 1 ((x.ySd++lG t).map qC),.i x.yRZ.Base,.i x.yRZ.ySe,.sl 1 (x.yRZ.yR5.map qC),.sl 1 (x.yRZ.yR7.map qC),.sl 5 (x.Book.map ySb.enc),.sl 4 (x.yR1.map yR2.enc),.i x.Start,.i x.In,.i x.Out]:=rfl
def yabl(x:yRW)(K:Nat)(t:yRT)(p:Int):yaq ((x.yR3.map nD).set K [.ow 3 ((x.yR3[K]?.getD []).map yR6.enc++[[.b t.Up,.sl 1 (t.Rows.map jE),.i p]])])=some ((oG x K ⟨t,p⟩).yR3.map nD):=by
 rw[<-yv5];simp[yR6.enc,zai,yRT.enc]
def yafu(x:yRW)(K:Nat)(y:List C):List.take x.yR3.length ((x.yR3.map nD).set K y)=(x.yR3.map nD).set K y:=zae (by simp)
def yaab(a b:List Int):List.take (a.length+b.length) (a.map qC++b.map qC)=a.map qC++b.map qC:=zae (by simp)
def yagP(l:List Int):AV.closed (.c (.ow 1 (l.map qC))):=by simp[AV.closed,AV.jI,C.closed]
def yafo(x:yRW)(t:yRT)(hs:x.small)(ht:t.small):
 nI prg 14 [.agg (x.enc.map .c),.agg (t.enc.map .c)] (.tup [.agg ((yYL x t).1.iD.map .c),.c (.b (yYL x t).2)]):=by
 have hW:=yis x hs;have hC:=yuq x hs;have hT:=gK t ht;have hI:=ya0 t ht;have no1:rC x=false->yYL x t=(x,false):=λh=>by simp[yYL,h]
 have no2:oC t=false->yYL x t=(x,false):=λh=>by simp[yYL,h]
 refine fF yaeY (goQ_ ?_);refine yYq hW ?_;cases hok:rC x with
 |false=>
  rw[no1 hok];refine goQ_ ?_;refine sD hC (by simp -dsimp -implicitDefEqProofs) (dP (yRW.aF x)) (by simp[fD]) (goT_ ?_);refine ycx ?_;exact goU_
 |true=>
 refine goQ_ ?_;refine yYq hT ?_;cases htk:oC t with
 |false=>
  rw[no2 htk];refine goQ_ ?_;refine sD hC (by simp -dsimp -implicitDefEqProofs) (dP (yRW.aF x)) (by simp[fD]) (goT_ ?_);refine ycx ?_;exact goU_
 |true=>
 have F:=yZQ hok htk;refine goQ_ ?_;refine yYp hI ?_;have no3:(lG t).all (yZE x)=false->yYL x t=(x,false):=λh=>by simp only[yYL,h,zbk,zbG];rfl
 refine goQ_ ?_;intro hlen;refine yX4 (λk=>k<=(lG t).length/\∀i∈(lG t).take k,yZE x i=true) (λk=>xC [(2,.box 2 0),(3,.box 3 0),(4,.box 4 0),(5,.c (.b false)),(6,.c (.sl 1 ((lG t).map qC))),(24,.c (.sl 1 ((lG t).map qC))),(25,.c (.i (lG t).length)),(26,.c (.i k))] [(2,.box [.c (.i x.Time),.c (.sl 3 (x.yRV.map Reach.enc)),.c (.sl 2 (x.ySl.map Way.enc)),.c (.sl 22 (x.yRX.map yR8.enc)),.c (.sl 1 (x.yR3.map nD)),.c (.sl 2 (x.yR9.map yRT.enc)),.c (.sl 1 (x.ySd.map qC)),.c (.i x.yRZ.Base),.c (.i x.yRZ.ySe),.c (.sl 1 (x.yRZ.yR5.map qC)),.c (.sl 1 (x.yRZ.yR7.map qC)),.c (.sl 5 (x.Book.map ySb.enc)),.c (.sl 4 (x.yR1.map yR2.enc)),.c (.i x.Start),.c (.i x.In),.c (.i x.Out)]),(3,.box [.c (.b t.Up),.c (.sl 1 (t.Rows.map jE))]),(4,zW)]) (λk=>(lG t).length-k) ?_
 rintro k ⟨hk,hall⟩
 rcases zas k (lG t).length with klt|kge
 .obtain⟨i,hi⟩:∃i,(lG t)[k]?=some i:=⟨_,zab klt⟩;have g1:=(zaa.1 hi).2;refine yaeV hi g1 klt (fC klt) ?_;refine yYq (yu4 x.ySd i) ?_;cases hin:decide (i∈x.ySd)with
  |true=>
   rw[no3 (all_false (p:=yZE x) hi (by simp only[yZE,hin];rfl))];refine goQ_ ?_;refine sD hC (by simp -dsimp -implicitDefEqProofs) (dP (yRW.aF x)) (by simp[fD]) (goT_ ?_);refine ycx ?_;exact goU_
  |false=>
   have hall':=lD (p:=yZE x) hi hall (by simp only[yZE,hin];rfl);refine goQ_ ?_;refine⟨gB klt hlen,k+1,⟨klt,hall'⟩,by omega,?_⟩;apply aB<;>simp
 have hall2:(lG t).all (yZE x)=true:=dF (p:=yZE x) kge hall;have hes:=yZO F hs ht;have hV:=yis (yYK x t) hes;have hC2:=yuq (yYK x t) hes;rw[yZB]at hV hC2;have no4:rC (yYK x t)=false->yYL x t=(x,false):=λh=>by simp only[yYL,h,zbk];rfl
 have yes:rC (yYK x t)=true->yYL x t=(yYK x t,true):=λh=>by simp only[yYL,hok,htk,hall2,h,zcv,if_true]
 have kl:=F.kl;obtain⟨l,hl⟩:∃l,x.yR3[yZr x t]?=some l:=⟨_,zab kl⟩;have hll:=F.few _ _ hl;have f1:=F.two;have f2:=F.ways;have f3:=F.mvs;have f4:=F.ent;have f5:=F.ids;have s41:=hs.2.2.2.1.1;have hM:=yAh x (yZr x t) l ⟨t,entP x t⟩ s41 hl (by omega);refine yafw (aG kge) ?_;cases hup:t.Up with
 | true=>
  obtain⟨w,hw⟩:∃w,x.ySl[x.yRV.length-1]?=some w:=⟨_,zab (by omega)⟩;have ek:yZr x t=x.yRV.length-1:=by simp[yZr,hup]
  have ep:entP x t=w.Long:=by simp[entP,hup,hw]
  rw[ek,ep]at hM hV hC2;rw[show((x.yRV.length-1:Nat):Int)=(x.yRV.length:Int)-1 from by omega]at hM;refine yaed hw hup ?_
  refineλ_=>⟨by unfold inI;omega,by omega,by omega,?_⟩
  try simp only[hup]at hM hV hC2
  refine qU hM (by simp -dsimp -implicitDefEqProofs [hup]) rfl (by simp[fD,ykB]) ?_;simp -dsimp -implicitDefEqProofs [ykB];refine sD (yafR x.ySd (lG t) (by omega) (by omega)) (by simp -dsimp -implicitDefEqProofs) (yagP _) (by simp[fD]) (goT_ ?_);refine mD (hV) (by simp -dsimp -implicitDefEqProofs [jA,yabl,yafu,yaab]) rfl ?_;cases hv:rC (yYK x t)with
  |false=>
   rw[no4 hv];refine goQ_ ?_;refine sD hC (by simp -dsimp -implicitDefEqProofs) (dP (yRW.aF x)) (by simp[fD]) (goT_ ?_);refine ycx ?_;exact goU_
  |true=>
   rw[yes hv];refine goQ_ ?_;refine sD hC2 (by simp -dsimp -implicitDefEqProofs [jA,yabl,yafu,yaab]) (dP (yRW.aF (yYK x t))) (by simp[fD]) (goT_ ?_);refine ycx ?_;exact goU_
 | false=>
  have ek:yZr x t=0:=by simp[yZr,hup]
  have ep:entP x t=0:=by simp[entP,hup]
  rw[ek,ep]at hM hV hC2;refine yafw hup ?_;refine qU hM (by simp -dsimp -implicitDefEqProofs [hup]) rfl (by simp[fD,ykB]) ?_;simp -dsimp -implicitDefEqProofs [ykB];refine sD (yafR x.ySd (lG t) (by omega) (by omega)) (by simp -dsimp -implicitDefEqProofs) (yagP _) (by simp[fD]) (goT_ ?_);refine mD (hV) (by simp -dsimp -implicitDefEqProofs [jA,yabl,yafu,yaab]) rfl ?_;cases hv:rC (yYK x t)with
  |false=>
   rw[no4 hv];refine goQ_ ?_;refine sD hC (by simp -dsimp -implicitDefEqProofs) (dP (yRW.aF x)) (by simp[fD]) (goT_ ?_);refine ycx ?_;exact goU_
  |true=>
   rw[yes hv];refine goQ_ ?_;refine sD hC2 (by simp -dsimp -implicitDefEqProofs [jA,yabl,yafu,yaab]) (dP (yRW.aF (yYK x t))) (by simp[fD]) (goT_ ?_);refine ycx ?_;exact goU_
def vAt(l:List Int)(k:Nat):Int:=l[k]?.getD 0
def yfM{l:List Int}{k:Nat}{x:Int}(h:l[k]?=some x):vAt l k=x:=by simp[vAt,h]
def kL(l:List Int):Nat->Nat
 |0=>0
 |k+1=>if vAt l (kL l k)<vAt l k then k else kL l k
def yAD{l:List Int}:kL l 0=0:=rfl
def yaV{l:List Int}{k:Nat}:kL l (k+1)=if vAt l (kL l k)<vAt l k then k else kL l k:=rfl
def ygL{l:List Int}(h:0<l.length):∀{k:Nat},k<=l.length->kL l k<l.length
 |0,_=>h
 |k+1,hk=>by
  rw[yaV];split
  .omega
  .exact ygL h (by omega)
def ypA{l:List Int}:∀{k j:Nat},j<k->vAt l j<=vAt l (kL l k)
 | k+1,j,hj=>by
  rw[yaV];rcases zas j k with h|h
  .have:=ypA (l:=l) h;split<;>omega
  .have:j=k:=by omega
   subst this;split<;>omega
def yo6{l:List Int}:∀{k j:Nat},j<kL l k->vAt l j<vAt l (kL l k)
 |0,j,h=>by simp[kL]at h
 | k+1,j,h=>by
  rw[yaV]at h|-;split at h
  .rename_i h2;rw[if_pos h2];have:=ypA (l:=l) (show j<k from h);omega
  .rename_i h2;rw[if_neg h2];exact yo6 h
def yEh{l:List Int}{n a:Nat}(h:a<n)(h1:∀x,x<n->vAt l x<=vAt l a)(h2:∀x,x<a->vAt l x<vAt l a)(hn:n<=l.length):kL l n=a:=by
 have g1:=ypA (l:=l) h;have g2:kL l n<l.length:=ygL (by omega) hn
 have g3:kL l n<n:=by
  have:∀k:Nat,0<k->kL l k<k:=by
   intro k
   induction k with
   |zero=>intro h;omega
   | succ k ih=>
    intro _;rw[yaV];split
    .omega
    .rcases zaB k with e|e
     .subst e;simp[kL]
     .have:=ih e;omega
  exact this n (by omega)
 have g4:=h1 _ g3;rcases zcH a (kL l n)with e|e|e
 .have:=yo6 e;omega
 .exact e.symm
 .have:=h2 _ e;omega
def better(R:List Int)(x y:Nat):Prop:=vAt R y<vAt R x\/(vAt R x=vAt R y/\x<y)
def yfN(R:List Int)(i:Nat)(x:Nat):Bool:=decide (vAt R i<=vAt R x)
def yEp(R:List Int)(i:Nat)(P:List Nat):List Nat:=P.takeWhile (yfN R i)++i::P.dropWhile (yfN R i)
def yA(R:List Int):Nat->List Nat
 |0=>[]
 |i+1=>yEp R i (yA R i)
def yzu{p:Nat->Bool}:∀{l1 l2:List Nat},(∀x∈l1,p x=true)->(∀x∈l2,p x=false)->(l1++l2).takeWhile p=l1/\(l1++l2).dropWhile p=l2
 |[],[],_,_=>⟨rfl,rfl⟩
 |[],x::l,_,h=>by
  have:=h x (by simp);simp[zbw,zcu,this]
 |x::l,l2,h1,h2=>by
  have hx:=h1 x (by simp);obtain⟨e1,e2⟩:=yzu (p:=p) (l1:=l) (l2:=l2) (λy hy=>h1 y (by simp[hy])) h2;simp[zbw,zcu,hx,e1,e2]
def yjw{p:Nat->Bool}:∀{l r:List Nat} {y:Nat},l.dropWhile p=y::r->p y=false
 |[],r,y,h=>by simp at h
 | x::l,r,y,h=>by
  rw[zcu]at h;split at h
  .exact yjw h
  .rename_i hx;cases h;simpa using hx
def yDw{R:List Int}{i:Nat}{P l1 l2:List Nat}(hP:P.Pairwise (better R))(e:l1++l2=P)(h2:∀x∈l2,vAt R x<vAt R i)(h1:∀l y,l1=l++[y]->vAt R i<=vAt R y):yEp R i P=l1++i::l2:=by
 subst e
 have hall:∀x∈l1,yfN R i x=true:=by
  rcases zcl l1 with e|⟨l,y,e⟩
  .subst e;simp
  .have hy:=h1 l y (by simpa using e);subst e;intro x hx;simp only[yfN,decide_eq_true_eq];rw[zcm]at hx hP;rcases zaj.1 hx with hx|hx
   .have:=(zaS.1 (zaS.1 hP).1).2.2 x hx y (by simp);unfold better at this;omega
   .rw[zak]at hx;subst hx;exact hy
 obtain⟨e1,e2⟩:=yzu (p:=yfN R i) hall (λx hx=>by have:=h2 x hx;simp only[yfN,decide_eq_false_iff_not];omega);unfold yEp;rw[e1,e2]
structure ySI(R:List Int)(i:Nat)(o:List Nat):Prop where
 len:o.length=i
 lt:∀x∈o,x<i
 pw:o.Pairwise (better R)
 all:∀x,x<i->x∈o
def ycJ(R:List Int):∀i:Nat,ySI R i (yA R i)
 |0=>⟨rfl,by simp[yA],by simp[yA],λx h=>by omega⟩
 | i +1=>by
  have f:=ycJ R i
  show ySI R (i+1) (yEp R i (yA R i))
  generalize yA R i=P at f;have e:=zcs (p:=yfN R i) (l:=P)
  have h1:∀x∈P.takeWhile (yfN R i),vAt R i<=vAt R x:=λx hx=>by
   have:yfN R i x=true:=by
    have:=zec (p:=yfN R i) (l:=P);exact zaf.1 this x hx
   simpa[yfN]using this
  have h2:∀x∈P.dropWhile (yfN R i),vAt R x<vAt R i:=by
   intro x hx;have hpw:(P.dropWhile (yfN R i)).Pairwise (better R):=by have:=f.pw;rw[<-e]at this;exact(zaS.1 this).2.1
   have hh:∀y l,P.dropWhile (yfN R i)=y::l->vAt R y<vAt R i:=by
    intro y l hy;have:=yjw hy;simpa[yfN]using this
   cases hd:P.dropWhile (yfN R i)with
   |nil=>rw[hd]at hx;cases hx
   | cons y l=>
    have hy:=hh y l hd;rw[hd]at hx hpw;rcases zax.1 hx with e|e
    .subst e;exact hy
    .have:=(zbq.1 hpw).1 x e;unfold better at this;omega
  have hlen:(P.takeWhile (yfN R i)).length+(P.dropWhile (yfN R i)).length=i:=by rw[<-zah,e,f.len]
  have hmem:∀x,x∈P↔x∈P.takeWhile (yfN R i)\/x∈P.dropWhile (yfN R i):=λx=>by rw[<-zaj,e]
  refine⟨by simp only[yEp,zah,zar];omega,λx hx=>?_,?_,λx hx=>?_⟩
  .rcases zaj.1 hx with hx|hx
   .have:=f.lt x ((hmem x).2 (.inl hx));omega
   .rcases zax.1 hx with hx|hx
    .omega
    .have:=f.lt x ((hmem x).2 (.inr hx));omega
  .have hpw:=f.pw;rw[<-e]at hpw;obtain⟨p1,p2,p3⟩:=zaS.1 hpw;refine zaS.2 ⟨p1,zbq.2 ⟨λy hy=>.inl (h2 y hy),p2⟩,λx hx y hy=>?_⟩;rcases zax.1 hy with hy|hy
   .subst hy;have a1:=h1 x hx;have a2:=f.lt x ((hmem x).2 (.inl hx));unfold better;omega
   .exact p3 x hx y hy
  .rcases zas x i with h|h
   .rcases(hmem x).1 (f.all x h)with h|h
    .exact zbi _ h
    .exact zaQ _ (zbR _ h)
   .have:x=i:=by omega
    subst this;exact zaQ _ (zdu ..)
def yek(out:List Int)(o:List Nat)(j:Nat):List Int:=(o.take j).foldl (λs x=>s.set x (vAt s x+1)) out
def yaf(R:List Int)(o:List Nat)(j:Nat):List Int:=(o.take j).foldl (λs x=>s.set x (-1)) R
def ywY{out:List Int}{o:List Nat}:yek out o 0=out:=rfl
def yqB{out:List Int}{o:List Nat}:yaf out o 0=out:=rfl
def yk3{out:List Int}{o:List Nat}{j x:Nat}(h:o[j]?=some x):yek out o (j+1)=(yek out o j).set x (vAt (yek out o j) x+1):=by
 unfold yek;rw[zao,h,zbH];rfl
def ykG{out:List Int}{o:List Nat}{j x:Nat}(h:o[j]?=some x):yaf out o (j+1)=(yaf out o j).set x (-1):=by
 unfold yaf;rw[zao,h,zbH];rfl
def yoC{out:List Int}{o:List Nat}:∀j:Nat,(yek out o j).length=out.length
 |0=>rfl
 | j+1=>by
  cases h:o[j]? with
  |none=>
   have hl:o.length<=j:=by simpa using h
   have e:yek out o (j+1)=yek out o j:=by unfold yek;rw[zae (by omega),zae hl]
   rw[e,yoC j]
  |some x=>rw[yk3 h,zbn,yoC j]
def yd0{out:List Int}{o:List Nat}:∀j:Nat,(yaf out o j).length=out.length
 |0=>rfl
 | j+1=>by
  cases h:o[j]? with
  |none=>
   have hl:o.length<=j:=by simpa using h
   have e:yaf out o (j+1)=yaf out o j:=by unfold yaf;rw[zae (by omega),zae hl]
   rw[e,yd0 j]
  |some x=>rw[ykG h,zbn,yd0 j]
def yH0{l:List Int}{i j:Nat}{v:Int}(h:i<l.length):vAt (l.set i v) j=if i=j then v else vAt l j:=by
 unfold vAt;rw[zaE]
 by_cases e:i=j
 .simp[e,e▸h]
 .simp[e]
def yp3{R:List Int}{o:List Nat}(ho:∀x∈o,x<R.length):∀(j y:Nat),vAt (yaf R o j) y=if y∈o.take j then -1 else vAt R y
 |0,y=>by simp[yqB]
 | j+1,y=>by
  cases h:o[j]? with
  |none=>
   have hl:o.length<=j:=by simpa using h
   have e:yaf R o (j+1)=yaf R o j:=by unfold yaf;rw[zae (by omega),zae hl]
   rw[e,yp3 ho j y,zae hl,zae (by omega)]
  | some x=>
   rw[ykG h,yH0 (by rw[yd0];exact ho x (zac h)),yp3 ho j y,zao,h]
   by_cases e:x=y
   .simp[e]
   .have:y≠x:=λh=>e h.symm;simp[e,this]
def yH9{R:List Int}(hR:∀x,0<=vAt R x){j a:Nat}(h:(yA R R.length)[j]?=some a):kL (yaf R (yA R R.length) j) (yaf R (yA R R.length) j).length=a:=by
 have f:=ycJ R R.length;generalize yA R R.length=o at *;have hj:=(zaa.1 h).1;have ha:=f.lt a (zac h);have irr:∀x,¬better R x x:=λx h=>by unfold better at h;omega
 have hsplit:o=o.take j++a::o.drop (j+1):=by
  rw[<-(zaa.1 h).2,List.getElem_cons_drop,zav]
 have hpw:=f.pw;rw[hsplit]at hpw;obtain⟨p1,p2,p3⟩:=zaS.1 hpw;have hnot:a∉o.take j:=λhm=>irr a (p3 a hm a (by simp));have hat:=yp3 (R:=R) f.lt j;have hva:vAt (yaf R o j) a=vAt R a:=by rw[hat,if_neg hnot]
 have key:∀x,x<R.length->x∉o.take j->x=a\/better R a x:=by
  intro x hx hn;have:=f.all x hx;rw[hsplit]at this;rcases zaj.1 this with h1|h1
  .exact absurd h1 hn
  .rcases zax.1 h1 with h1|h1
   .exact .inl h1
   .exact .inr ((zbq.1 p2).1 x h1)
 rw[yd0];refine yEh ha (λx hx=>?_) (λx hx=>?_) (by rw[yd0];exact Nat.le_refl _)
 .rw[hva,hat];split
  .have:=hR a;omega
  .rename_i hn;rcases key x hx hn with e|e
   .subst e;exact zbj _
   .unfold better at e;omega
 .rw[hva,hat];split
  .have:=hR a;omega
  .rename_i hn;rcases key x (by omega) hn with e|e
   .omega
   .unfold better at e;omega
def yku:Nat->List Int->List Int->List Int
 |0,out,_=>out
 |n+1,out,rest=>yku n (out.set (kL rest rest.length) (vAt out (kL rest rest.length)+1)) (rest.set (kL rest rest.length) (-1))
def yxA{R Q:List Int}(hR:∀x,0<=vAt R x):∀(m j:Nat),j+m<=R.length->yku m (yek Q (yA R R.length) j) (yaf R (yA R R.length) j)=yek Q (yA R R.length) (j+m)
 |0,j,_=>rfl
 |m+1,j,h=>by
  have hj:j<(yA R R.length).length:=by rw[(ycJ R R.length).len];omega
  obtain⟨a,ha⟩:∃a,(yA R R.length)[j]?=some a:=⟨_,zab hj⟩;have hp:=yH9 hR ha;unfold yku;rw[hp,<-yk3 ha,<-ykG ha,yxA hR m (j+1) (by omega)]
  congr 1;omega
def quota(t s w:Int):Int:=(t*w).tdiv s
def yct(t s w:Int):Int:=(t*w).tmod s
def lS(t:Int)(ws:List Int):Bool:=inRange t 0 1000000000&&decide (1<=ws.length)&&decide (ws.length<=12)&&ws.all (λw=>inRange w 0 1000000)&&decide (ws.sum≠0)
def lV(t:Int)(ws:List Int):Int:=t-(ws.map (quota t ws.sum)).sum
def xK(t:Int)(ws:List Int):List Int:=if lS t ws then yku (lV t ws).toNat (ws.map (quota t ws.sum)) (ws.map (yct t ws.sum))else[]
structure ySE(t:Int)(ws:List Int):Prop where
 tot:0<=t/\t<=1000000000
 len:1<=ws.length/\ws.length<=12
 rng:∀w∈ws,0<=w/\w<=1000000
 sum:1<=ws.sum/\ws.sum<=12000000
def sum_bnd{l:List Int}{m:Int}(h:∀x∈l,0<=x/\x<=m):0<=l.sum/\l.sum<=m*l.length:=by
 induction l with
 |nil=>simp
 |cons a l ih=>
  have h1:=ih λx hx=>h x (by simp[hx]);have h2:=h a (by simp);simp only[zaM,zar,zdQ,Int.natCast_one,zcE,zer];omega
def yhO{t:Int}{ws:List Int}(h:lS t ws=true):ySE t ws:=by
 simp only[lS,zad,decide_eq_true_eq,zaf]at h;obtain⟨⟨⟨⟨h1,h2⟩,h3⟩,h4⟩,h5⟩:=h;have hr:∀w∈ws,0<=w/\w<=1000000:=λw hw=>aC.1 (h4 w hw);have hs:=sum_bnd hr;exact⟨aC.1 h1,⟨h2,h3⟩,hr,by omega⟩
def yR{t s w:Int}(ht:0<=t/\t<=1000000000)(hs:1<=s)(hw:0<=w/\w<=1000000):0<=quota t s w/\quota t s w<=1000000000000000/\0<=yct t s w/\yct t s w<s/\s*quota t s w+yct t s w=t*w/\0<=t*w/\t*w<=1000000000000000:=by
 have h0:0<=t*w:=zcx ht.1 hw.1;have h1:t*w<=1000000000*1000000:=zde ht.2 hw.2 hw.1 (by omega);unfold quota yct;rw[zaG h0,zbe h0];have a1:=zdR (t*w) (show s≠0 by omega);have a2:=zdw (t*w) (show 0<s by omega);have a3:=Int.mul_ediv_add_emod (t*w) s;have a4:0<=t*w/s:=zcV h0 (by omega);have a5:t*w/s<=t*w:=zcM _ h0;exact⟨a4,by omega,a1,a2,a3,h0,by omega⟩
def ytz{t s:Int}(ht:0<=t/\t<=1000000000)(hs:1<=s):∀{ws:List Int},(∀w∈ws,0<=w/\w<=1000000)->s*(ws.map (quota t s)).sum+(ws.map (yct t s)).sum=t*ws.sum
 |[],_=>by simp
 |w::ws,h=>by
  have ih:=ytz ht hs (ws:=ws) λx hx=>h x (by simp[hx]);have q:=(yR (t:=t) (s:=s) ht hs (h w (by simp))).2.2.2.2.1;simp only[zaC,zaM,zcE];omega
def ysB{t:Int}{ws:List Int}(h:ySE t ws):0<=lV t ws/\lV t ws<ws.length:=by
 have hs:=ytz h.tot h.sum.1 h.rng
 have hr:=sum_bnd (l:=ws.map (yct t ws.sum)) (m:=ws.sum-1) (λx hx=>by
  obtain⟨w,hw,rfl⟩:=zaP.1 hx;have:=yR h.tot h.sum.1 (h.rng w hw);omega)
 rw[zal]at hr
 have e:ws.sum*lV t ws=(ws.map (yct t ws.sum)).sum:=by
  unfold lV;rw[Int.mul_sub,Int.mul_comm ws.sum t];omega
 have hp:=h.sum.1;have hl:=h.len.1;constructor
 .rcases zcF (lV t ws) 0 with h1|h1
  .have:=Int.mul_neg_of_pos_of_neg (show 0<ws.sum by omega) h1;omega
  .exact h1
 .rcases zcF (lV t ws) ws.length with h1|h1
  .exact h1
  .have h2:=Int.mul_le_mul_of_nonneg_left h1 (show 0<=ws.sum by omega);have h3:(ws.sum-1)*(ws.length:Int)<ws.sum*(ws.length:Int):=Int.mul_lt_mul_of_pos_right (by omega) (by omega);omega
def yqN{t:Int}{ws:List Int}(h:lS t ws=true):xK t ws=yek (ws.map (quota t ws.sum)) (yA (ws.map (yct t ws.sum)) ws.length) (lV t ws).toNat:=by
 have f:=yhO h;have hl:=ysB f
 have hR:∀x,0<=vAt (ws.map (yct t ws.sum)) x:=by
  intro x;unfold vAt;cases hx:(ws.map (yct t ws.sum))[x]? with
  |none=>simp
  |some r=>
   rw[zau,zam]at hx;obtain⟨w,hw,rfl⟩:=hx;exact(yR f.tot f.sum.1 (f.rng w (zac hw))).2.2.1
 have key:=yxA (Q:=ws.map (quota t ws.sum)) hR (lV t ws).toNat 0 (by rw[zal];omega);rw[ywY,yqB,zal,zbp]at key;rw[xK,if_pos h,key]
def dL(x:Nat):List C:=[.i x]
def yCM(t s:Int)(ws:List Int)(ht:0<=t/\t<=1000000000)(hs:1<=s)(hs2:s<=12000000)(hw:∀w∈ws,0<=w/\w<=1000000)(x y:Nat)(hx:x<ws.length)(hy:y<ws.length):
 qB prg 258 [.c (.i x),.c (.i y),.elt [.i t],.elt [.sl 1 (ws.map qC)],.elt [.i s]] (.c (.i (vAt (ws.map (yct t s)) y-vAt (ws.map (yct t s)) x))):=by
 obtain⟨wx,hwx⟩:∃e,ws[x]?=some e:=⟨_,zab hx⟩;obtain⟨wy,hwy⟩:∃e,ws[y]?=some e:=⟨_,zab hy⟩;have g1:=(zaa.1 hwx).2;have g2:=(zaa.1 hwy).2;have q1:=yR ht hs (hw wx (zac hwx));have q2:=yR ht hs (hw wy (zac hwy));have e1:vAt (ws.map (yct t s)) x=yct t s wx:=yfM (by simp[hwx]);have e2:vAt (ws.map (yct t s)) y=yct t s wy:=yfM (by simp[hwy]);rw[e1,e2];unfold yct at *;refine dB yoc ?_;simp -dsimp -implicitDefEqProofs [yeH,hwx,hwy,g1,g2,hx,hy];refine⟨by unfold inI;omega,by omega,by unfold inI;omega,by unfold inI;omega,by omega,by unfold inI;omega,by unfold inI;omega⟩
def ynI(R:List Int)(i n:Nat):List Nat:=yA R i++List.range' i (n-i)
def ye3(l1 l2:List Nat)(i n:Nat):List Nat:=(l1++i::l2)++List.range' (i+1) (n-(i+1))
def yEo{R:List Int}{n:Nat}(h:1<=n):ynI R 1 n=List.range n:=by
 have:yA R 1=[0]:=rfl;unfold ynI;rw[this,zdT,show n=(n-1)+1 by omega,zdK];simp
def yEP{R:List Int}{n:Nat}:ynI R n n=yA R n:=by simp[ynI]
def yGu{R:List Int}{i n:Nat}(h:i<n):ynI R i n=ye3 (yA R i) [] i n:=by
 unfold ynI ye3;rw[show n-i=(n-(i+1))+1 by omega,zdK];simp
def yxl{R:List Int}{i n:Nat}{l1 l2:List Nat}(h:yA R (i+1)=l1++i::l2):ye3 l1 l2 i n=ynI R (i+1) n:=by unfold ynI ye3;rw[h]
def yD3{i n:Nat}{l1 l2:List Nat}(h:l1.length+l2.length=i)(h2:i<n):(ye3 l1 l2 i n).length=n:=by simp[ye3];omega
def yD9{i n y:Nat}{l l2:List Nat}:(ye3 (l++[y]) l2 i n)[l.length+1]?=some i/\(ye3 (l++[y]) l2 i n)[l.length]?=some y/\
 ((ye3 (l++[y]) l2 i n).set (l.length+1) y).set l.length i=ye3 l (y::l2) i n:=by
 unfold ye3;simp only[zbh,zcw,zcD];refine⟨by simp[zcr],by simp[zcr],?_⟩;simp[zcR]
def yEW(R:List Int)(n:Nat)(hn:1≤n)(hn2:n≤1000)(f:Nat)(a b c:List C)(hf:∃fn,Tryz.prog.funcs[f]?=some fn∧fn.body.isSome=true∧(fn.name != "runtime.NumGoroutine")=true)
 (hc:∀x y:Nat,x<n->y<n->qB prg f [.c (.i x),.c (.i y),.elt a,.elt b,.elt c] (.c (.i (vAt R y-vAt R x)))):
 InF prg 377 (.c (cw 1 ((List.range n).map dL))) (.c (cw 1 ((yA R n).map dL))) [.c (.i 0),.c (.i n),.fn f [.elt a,.elt b,.elt c]] (.tup []):=by
 have hon:=ycJ R n;rw[kH (by simp;omega),kH (by rw[zal,hon.len];omega)];refine aK dM (by simp) (by simp) rfl λhwf=>?_;refine goQ_ ?_;refine⟨by unfold inI;omega,?_⟩;refine qA (ι:=Nat) (λi=>1<=i/\i<=n) (λi=>xC [(0,.own 0 1 n),(1,.c (.i 0)),(2,.c (.i n)),(3,.fn f [.elt a,.elt b,.elt c]),(8,.c (.i i)),(1000000,.own 0 1 n)] [(0,.row 1 ((ynI R i n).map dL))]) (λi=>n-i) 1 ⟨Nat.le_refl _,hn⟩ (by apply aB<;>simp[yEo hn]) ?_
 rintro i ⟨hi1,hi⟩
 have fi:=ycJ R i;rcases zas i n with hlt|hge
 .refine yafw (fC hlt) ?_;rw[yGu hlt];have hsuc:yA R (i+1)=yEp R i (yA R i):=rfl;generalize yA R i=P at *;refine qA (ι:=List Nat×List Nat) (λp=>p.1++p.2=P/\∀x∈p.2,vAt R x<vAt R i) (λp=>xC [(0,.own 0 1 n),(1,.c (.i 0)),(2,.c (.i n)),(3,.fn f [.elt a,.elt b,.elt c]),(8,.c (.i i)),(9,.c (.i p.1.length)),(1000000,.own 0 1 n)] [(0,.row 1 ((ye3 p.1 p.2 i n).map dL))]) (λp=>p.1.length) (P,[]) ⟨by simp,by simp⟩ (by apply aB<;>simp[fi.len]) ?_
  rintro⟨l1,l2⟩ ⟨he,h2⟩
  simp only at he h2;rcases zcl l1 with e|⟨l,y,e⟩
  .subst e;have hins:=yDw (R:=R) (i:=i) fi.pw he h2 (λl y h=>by simp at h);rw[<-hsuc]at hins;have hend:=yxl (n:=n) hins;refine goQ_ ?_;refine⟨by unfold inI;omega,i+1,⟨by omega,by omega⟩,by omega,?_⟩;apply aB<;>simp[hend]
  .rw[zcm]at e;subst e;have hlen:=yD3 (n:=n) (l1:=l++[y]) (l2:=l2) (by rw[<-zah,he,fi.len]) hlt;have hyP:y<i:=fi.lt y (by rw[<-he];simp);obtain⟨w1,w2,w3⟩:=yD9 (i:=i) (n:=n) (y:=y) (l:=l) (l2:=l2);have hend:=λh=>yxl (n:=n) (R:=R) (l1:=l++[y]) (l2:=l2) (i:=i) (by rw[hsuc];exact yDw (R:=R) (i:=i) fi.pw he h2 h);have hll:l.length+1<n:=by rw[<-hlen];exact(zaa.1 w1).1
   have e0:(((l++[y]).length:Nat):Int)=((l.length+1:Nat):Int):=by simp
   rw[e0];generalize ye3 (l++[y]) l2 i n=M at *;obtain⟨m,hm⟩:∃m,m=l.length:=⟨_,rfl⟩;obtain⟨j,hj⟩:∃j,j=l.length+1:=⟨_,rfl⟩;rw[<-hj]at w1 w3 hll|-;rw[<-hm]at w2 w3;have v1:=(zaa.1 w1).2;have v2:=(zaa.1 w2).2;have k1:j<M.length:=(zaa.1 w1).1;have k2:m<M.length:=(zaa.1 w2).1;have ej:((j:Int)-1)=(m:Int):=by omega
   have j0:0<j:=by omega
   have mn:m<n:=by omega
   have hf':∃fn,Tryz.prog.funcs[f]?=some fn∧fn.body.isSome=true∧¬fn.name= "runtime.NumGoroutine":=by simpa using hf
   simp -dsimp -implicitDefEqProofs [j0,ej,w1,w2,v1,v2,k1,k2,dL,hll,mn];refine⟨by unfold inI;omega,hf',?_⟩;refine lC (hc i y (by omega) (by omega)) ?_;have hr2:∀h,((M.map dL).set j [C.i y])[m]'h=[C.i y]:=by intro h;rw[zcd (by omega)];simp[v2,dL]
   have hs3:((M.map dL).set j [C.i y]).set m [C.i i]=(ye3 l (y::l2) i n).map dL:=by rw[<-w3,zaZ,zaZ];rfl
   simp -dsimp -implicitDefEqProofs [ej,w1,w2,v1,v2,k1,k2,hll,mn,hr2,hs3];refine⟨λhcm=>?_,λhcm=>?_⟩
   .refine⟨by unfold inI;omega,l,y::l2,⟨by rw[<-he];simp,λx hx=>?_⟩,by omega,?_⟩
    .rcases zax.1 hx with hx|hx
     .subst hx;omega
     .exact h2 x hx
    .apply aB<;>simp[dL,w1,w2,v1,v2,<-hm,hr2,hs3]
   .have hM:=hend λl' y' h=>by
     have:=(zeq h rfl).2;simp at this;subst this;omega
    refine⟨by unfold inI;omega,i+1,⟨by omega,by omega⟩,by omega,?_⟩;apply aB<;>simp[hM]
 .have:i=n:=by omega
  subst this;refine goQ_ ?_;rw[yEP];refine⟨by rw[zae (by rw[zal,fi.len];exact Nat.le_refl _)],?_⟩;simp[ybG]
def yG2(R:List Int)(n:Nat)(hn:1≤n)(hn2:n≤19)(f:Nat)(a b c:List C)(hf:∃fn,Tryz.prog.funcs[f]?=some fn∧fn.body.isSome=true∧(fn.name != "runtime.NumGoroutine")=true)
 (hc:∀x y:Nat,x<n->y<n->qB prg f [.c (.i x),.c (.i y),.elt a,.elt b,.elt c] (.c (.i (vAt R y-vAt R x)))):
 InF prg 350 (.c (cw 1 ((List.range n).map dL))) (.c (cw 1 ((yA R n).map dL))) [.c (.i n),.fn f [.elt a,.elt b,.elt c]] (.tup []):=by
 have hon:=ycJ R n;have hi:=yEW R n hn (by omega) f a b c hf hc;have hcw:cw 1 ((yA R n).map dL)=.ow 1 ((yA R n).map dL):=kH (by rw[zal,hon.len];omega);have hcw0:cw 1 ((List.range n).map dL)=.ow 1 ((List.range n).map dL):=kH (by simp;omega);have n1:((20:Int)<=(n:Int))=False:=by simp;omega
 have n2:((20:Int)<(n:Int))=False:=by simp;omega
 have n3:(20<=n)=False:=by simp;omega
 have n4:(20<n)=False:=by simp;omega
 rw[hcw,hcw0];refine aK nS (by simp) (by simp) rfl λhwf=>?_;refine goQ_ ?_;refine qA (ι:=Unit) (λ_=>True) (λ_=>xC [(0,.own 0 1 n),(1,.c (.i n)),(2,.fn f [.elt a,.elt b,.elt c]),(6,.c (.i 20)),(7,.c (.i 0)),(8,.c (.i 20)),(1000000,.own 0 1 n)] [(0,.row 1 ((List.range n).map dL))]) (λ_=>0) () trivial (by apply aB<;>simp) ?_
 rintro _ _
 refine yaed n1 n3 ?_;refine tH (up:=some (0,.row 1 ((yA R n).map dL))) hi (by simp) rfl rfl (qH (rows:=(List.range n).map dL) (by simp) rfl rfl (by simp) (by simp[hon.len]) rfl rfl) (goQ_ ?_);refine qA (ι:=Unit) (λ_=>True) (λ_=>xC [(0,.own 0 1 n),(1,.c (.i n)),(6,.c (.i 20)),(1000000,.own 0 1 n)] [(0,.row 1 ((yA R n).map dL))]) (λ_=>0) () trivial (by apply aB<;>simp) ?_
 rintro _ _
 refine yaed n2 n4 ?_;exact⟨by rw[zae (by rw[zal,hon.len];exact Nat.le_refl _)],by simp[ybG]⟩
def yzf(R:List Int)(n:Nat)(hn:1≤n)(hn2:n≤19)(f:Nat)(a b c:List C)(hf:∃fn,Tryz.prog.funcs[f]?=some fn∧fn.body.isSome=true∧(fn.name != "runtime.NumGoroutine")=true)
 (hc:∀x y:Nat,x<n->y<n->qB prg f [.c (.i x),.c (.i y),.elt a,.elt b,.elt c] (.c (.i (vAt R y-vAt R x)))):
 InF prg 257 (.c (cw 1 ((List.range n).map dL))) (.c (cw 1 ((yA R n).map dL))) [.fn f [.elt a,.elt b,.elt c]] (.tup []):=by
 have hon:=ycJ R n;have hi:=yG2 R n hn (by omega) f a b c hf hc;have hcw:cw 1 ((yA R n).map dL)=.ow 1 ((yA R n).map dL):=kH (by rw[zal,hon.len];omega);have hcw0:cw 1 ((List.range n).map dL)=.ow 1 ((List.range n).map dL):=kH (by simp;omega);rw[hcw,hcw0];refine aK iM (by simp) (by simp) rfl λhwf=>?_;refine goQ_ ?_;intro _;refine tH (up:=some (0,.row 1 ((yA R n).map dL))) hi (by simp) rfl rfl (qH (rows:=(List.range n).map dL) (by simp) rfl rfl (by simp) (by simp[hon.len]) rfl rfl) (goQ_ ?_);exact⟨by rw[zae (by rw[zal,hon.len];exact Nat.le_refl _)],by simp[ybG]⟩
def sV{t:Int}{ws:List Int}(h:lS t ws=false):xK t ws=[]:=by simp[xK,h]
def yAZ{ws:List Int}{k:Nat}(h12:ws.length<=12)(h:∀x∈ws.take k,inRange x 0 1000000=true):0<=sumTo ws k/\sumTo ws k<=12000000:=by
 have:=sum_bnd (l:=ws.take k) (m:=1000000) λx hx=>aC.1 (h x hx);have e:(ws.take k).length<=12:=by rw[zaA];omega
 unfold sumTo;omega
def yzK{Q:List Int}{o:List Nat}{m:Int}(hm:0<=m)(hQ:∀x∈Q,0<=x/\x<=m):∀(j:Nat),∀x∈yek Q o j,0<=x/\x<=m+j
 |0,x,hx=>by have:=hQ x hx;omega
 | j +1,x,hx=>by
  have ih:=yzK hm hQ (o:=o) j;have e2:((j+1:Nat):Int)=j+1:=by simp
  cases h:o[j]? with
  |none=>
   have hl:o.length<=j:=by simpa using h
   have e:yek Q o (j+1)=yek Q o j:=by unfold yek;rw[zae (by omega),zae hl]
   rw[e]at hx;have:=ih x hx;omega
  | some a=>
   rw[yk3 h]at hx;rcases zaK hx with hx|rfl
   .have:=ih x hx;omega
   .have:0<=vAt (yek Q o j) a/\vAt (yek Q o j) a<=m+j:=by
     unfold vAt;cases hv:(yek Q o j)[a]? with
     |none=>simp;omega
     |some v=>exact ih v (zac hv)
    omega
def ywH(t:Int)(ws:List Int):nI prg 169 [.c (.i t),.c (.sl 1 (ws.map qC))] (.c (.ow 1 ((xK t ws).map qC))):=by
 refine fF yrT (goQ_ ?_);refine aA (iC t 0 1000000000) ?_;cases ht:inRange t 0 1000000000 with
 |false=>refine goQ_ ?_;rw[sV (by simp[lS,ht])]
 |true=>
 refine goQ_ ?_
 refineλhlen=>⟨λh1=>?_,λh1=>?_⟩
 rotate_left
 .rw[sV (by simp[lS];omega)]
 refineλ_=>⟨λh12=>by rw[sV (by simp[lS];omega)],λh12=>?_⟩
 have h12:ws.length<=12:=by omega
 have h1:1<=ws.length:=by omega
 refineλ_=>qA (ι:=Nat) (λk=>k<=ws.length/\∀x∈ws.take k,inRange x 0 1000000=true) (λk=>xC [(2,.box 2 0),(3,.box 3 0),(5,.box 5 0),(27,.c (.sl 1 (ws.map qC))),(28,.c (.i ws.length)),(29,.c (.i k))] [(2,.box [.c (.i t)]),(3,.box [.c (.sl 1 (ws.map qC))]),(5,.box [.c (.i (sumTo ws k))])]) (λk=>ws.length-k) 0 (by simp) (by apply aB<;>simp[aY]) ?_
 rintro k ⟨hk,hall⟩
 rcases yX1 k ws with⟨hlt,x,hx⟩|hge
 .have g1:=(zaa.1 hx).2;refine yaeV hx g1 (fC hlt) hlt ?_;refine aA (iC x 0 1000000) ?_;cases hr:inRange x 0 1000000 with
  |false=>refine goQ_ ?_;rw[sV (by have:=all_false (p:=λw=>inRange w 0 1000000) hx hr;simp[lS,this])]
  |true=>
   refine goQ_ ?_;have hall':=lD (p:=λn=>inRange n 0 1000000) hx hall hr;have hs:=yAZ h12 hall';rw[nV hx]at hs;refine⟨by unfold inI;omega,gB hlt hlen,k+1,⟨hlt,hall'⟩,by omega,?_⟩;apply aB<;>simp[nV hx]
 .have hall2:=dF (p:=λn=>inRange n 0 1000000) hge hall;refine yafw (aG hge) ?_;rw[yb4 hge];refine⟨λh0=>by rw[sV (by simp[lS,h0])],λh0=>?_⟩;have hok:lS t ws=true:=by simp[lS,ht,h12,h1,hall2,h0]
  have f:=yhO hok;have hlft:=ysB f;rw[yqN hok];have ft:=f.tot;have fs:=f.sum;have frng:=f.rng
  refineλ_=>⟨by omega,λ_=>⟨by omega,λ_=>?_⟩⟩
  obtain⟨Q,hQd⟩:∃Q,Q=ws.map (quota t ws.sum):=⟨_,rfl⟩;have hQl:Q.length=ws.length:=by rw[hQd,zal]
  have hQr:∀q∈Q,0<=q/\q<=1000000000000000:=λq hq=>by
   rw[hQd]at hq;obtain⟨w,hw,rfl⟩:=zaP.1 hq;have:=yR ft fs.1 (frng w hw);omega
  have hrest:lV t ws=t-Q.sum:=by rw[hQd];rfl
  rw[<-hQd]
  refine qA (ι:=Nat) (λk=>k<=ws.length) (λk=>xC [(2,.box 2 0),(3,.box 3 0),(5,.box 5 0),(8,.own 44 1 ws.length),(9,.own 47 1 ws.length),(10,.c (.i (t-sumTo Q k))),(49,.c (.sl 1 (ws.map qC))),(50,.c (.i ws.length)),(51,.c (.i k))]
   [(2,.box [.c (.i t)]),(3,.box [.c (.sl 1 (ws.map qC))]),(5,.box [.c (.i ws.sum)]),(44,.row 1 (partly qC [.i 0] Q k)),(47,.row 1 (partly dL [.i 0] (List.range ws.length) k))]) (λk=>ws.length-k) 0 (by simp) (by apply aB<;>simp[aY,mF,hQl]) ?_
  clear hall hk hge k
  rintro k hk
  rcases yX1 k ws with⟨hlt,w,hw⟩|hge
  .have g1:=(zaa.1 hw).2;have hQ:Q[k]?=some (quota t ws.sum w):=by rw[hQd];simp[hw]
   have hO:(List.range ws.length)[k]?=some k:=by simp[hlt]
   have q1:=yR ft fs.1 (frng w (zac hw));have hs1:=fG (f:=qC) (z:=[.i 0]) hQ;have hs2:=fG (f:=dL) (z:=[.i 0]) hO;have hl1:=dG (f:=qC) (z:=[.i 0]) (es:=Q) (k:=k) (by omega);have hl2:=dG (f:=dL) (z:=[.i 0]) (es:=List.range ws.length) (k:=k) (by simp;omega)
   have hd1:((partly qC [.i 0] Q k)[k]?.getD []).set 0 (.i (quota t ws.sum w))=[.i (quota t ws.sum w)]:=by
    have:=tX (f:=qC) (z:=[.i 0]) (n:=1) (es:=Q) (k:=k) rfl (λ_=>rfl) (by omega);obtain⟨x,hx⟩:=zbI.1 this;rw[hx];rfl
   have hd2:((partly dL [.i 0] (List.range ws.length) k)[k]?.getD []).set 0 (.i k)=[.i k]:=by
    have:=tX (f:=dL) (z:=[.i 0]) (n:=1) (es:=List.range ws.length) (k:=k) rfl (λ_=>rfl) (by simp;omega);obtain⟨x,hx⟩:=zbI.1 this;rw[hx];rfl
   rw[zcY]at hl2;have hsum:=nV hQ;have hb1:=sum_bnd (l:=Q.take k) (m:=1000000000000000) λx hx=>hQr x (zaw hx);have hbl:(Q.take k).length<=12:=by rw[zaA];omega
   have hb1':0<=sumTo Q k/\sumTo Q k<=12000000000000000:=by unfold sumTo;omega
   have hqd:(t*w).tdiv ws.sum=quota t ws.sum w:=rfl;have hs1':(partly qC [.i 0] Q k).set k [.i (quota t ws.sum w)]=partly qC [.i 0] Q (k+1):=hs1;have hs2':(partly dL [.i 0] (List.range ws.length) k).set k [.i k]=partly dL [.i 0] (List.range ws.length) (k+1):=hs2;have hself:(partly qC [.i 0] Q (k+1))[k]?=some [.i (quota t ws.sum w)]:=by rw[<-hs1'];exact zcX (by omega)
   generalize partly qC [.i 0] Q k=A at *;generalize hA':partly qC [.i 0] Q (k+1)=A' at *;generalize partly dL [.i 0] (List.range ws.length) k=B at *;generalize hB':partly dL [.i 0] (List.range ws.length) (k+1)=B' at *;have hk1:k<A.length:=by omega
   have hk2:k<B.length:=by omega
   have hd1':A[k].set 0 (C.i (quota t ws.sum w))=[C.i (quota t ws.sum w)]:=by rw[zab hk1]at hd1;exact hd1
   have hd2':B[k].set 0 (C.i k)=[C.i k]:=by rw[zab hk2]at hd2;exact hd2
   simp -dsimp -implicitDefEqProofs [hw,g1,fC hlt,hlt,hqd,hl1,hl2,hd1',hd2',hs1',hs2',hself,hQl];have hl3:A'.length=Q.length:=by rw[<-hs1',zbn,hl1]
   refine⟨by unfold inI;omega,by omega,by unfold inI;omega,by omega,?_⟩;refine⟨by unfold inI;omega,?_⟩;refine⟨by unfold inI;omega,k+1,hlt,by omega,?_⟩;apply aB<;>simp[hd1',hd2',hs1',hs2',hsum,hA',hB'];omega
  .have hkn:k=ws.length:=by omega
   subst hkn;have p1:=eG (f:=qC) (z:=[.i 0]) (es:=Q) (k:=ws.length) (by omega);have p2:=eG (f:=dL) (z:=[.i 0]) (es:=List.range ws.length) (k:=ws.length) (by simp);refine yaed p1 p2 ?_;rw[yb4 (by omega),<-hrest];have hord:=ycJ (ws.map (yct t ws.sum)) ws.length;have hR:(ws.map (yct t ws.sum)).length=ws.length:=by simp
   have hcmp:=yCM t ws.sum ws ft fs.1 fs.2 frng;have hsort:=yzf (ws.map (yct t ws.sum)) ws.length h1 (by omega) 258 [.i t] [.sl 1 (ws.map qC)] [.i ws.sum] ⟨Tryz.f258,Tryz.func258,rfl,by decide⟩ hcmp;generalize yA (ws.map (yct t ws.sum)) ws.length=o at *;refine yw0 (up:=some (47,.row 1 (o.map dL))) hsort ⟨yHw ⟨yjt (by simp) (by simp[kQ]),yjt (by simp) (by simp[kQ]),yjt (by simp) (by simp[kQ]),trivial⟩,trivial⟩ (by rw[kH (by rw[zal,hord.len];omega)];simp[C.closed,dL]) rfl (qH (rows:=(List.range ws.length).map dL) (by simp) rfl rfl (by simp) (by simp[hord.len]) rfl rfl) ?_;have hp1:∀x∈o,x<Q.length:=λx hx=>by have:=hord.lt x hx;omega
   refine goQ_ ?_;have hn0:((lV t ws).toNat:Int)=lV t ws:=zdX hlft.1;have hnl:(lV t ws).toNat<ws.length:=by omega
   rw[<-hn0];generalize(lV t ws).toNat=n at *;have hshl:∀j:Nat,(yek Q o j).length=ws.length:=λj=>by rw[yoC,hQl]
   refine yX2 (λj=>j<=n) (λj=>xC [(8,.own 44 1 ws.length),(9,.own 47 1 ws.length),(10,.c (.i n)),(13,.c (.i j))] [(44,.row 1 ((yek Q o j).map qC)),(47,.row 1 (o.map dL))]) (λj=>n-j) (by apply aB<;>simp[ywY]) ?_
   rintro j hj
   rcases zas j n with hlt|hge
   .have hjo:j<o.length:=by rw[hord.len];omega
    obtain⟨a,ha⟩:∃a,o[j]?=some a:=⟨_,zab hjo⟩;have ga:=(zaa.1 ha).2;have hal:=hord.lt a (zac ha);have hss:=yk3 (out:=Q) ha;have hl:=hshl j;have hbd:=yzK (o:=o) (m:=1000000000000000) (by omega) hQr j;generalize yek Q o j=S at *;obtain⟨v,hv⟩:∃v,S[a]?=some v:=⟨_,zab (by omega)⟩;have gv:=(zaa.1 hv).2;have hvv:=yfM hv;have hb:=hbd v (zac hv);have hs4:(S.map qC).set a [.i (v+1)]=(yek Q o (j+1)).map qC:=by rw[hss,hvv,zaZ]
    have hln:j<ws.length:=by omega
    have hal2:a<S.length:=by omega
    simp -dsimp -implicitDefEqProofs [ha,ga,fC hlt,hlt,hjo,dL,hv,gv,hal,hal2,hln,hs4];refine⟨by unfold inI;omega,by unfold inI;omega,j+1,hlt,by omega,?_⟩;apply aB<;>simp
   .have:j=n:=by omega
    subst this;refine goQ_ ?_;rw[zae (by rw[zal,hshl];exact Nat.le_refl _)]
def yg9(t:Int)(ws:List Int):(xK t ws).length<=12:=by
 cases h:lS t ws with
 |false=>rw[sV h];simp
 |true=>rw[yqN h,yoC,zal];exact(yhO h).len.2
def yus(t:Int)(ws:List Int):qB prg 169 [.c (.i t),.c (.sl 1 (ws.map qC))] (.c (.sl 1 ((xK t ws).map qC))):=(ywH t ws).pure (by simp)
def pre(l:List Int)(k:Nat):List Int:=l.take k
def yFS{l:List Int}:pre l 0=[]:=rfl
def yC5{l:List Int}{k:Nat}(h:k<=l.length):(pre l k).length=k:=by simp[pre];omega
def yz2{l:List Int}{k:Nat}{x:Int}(h:l[k]?=some x):pre l (k+1)=pre l k++[x]:=by unfold pre;rw[zao,h];rfl
def yC4{l:List Int}{k:Nat}(h:l.length<=k):pre l k=l:=by unfold pre;exact zae h
structure ySJ(t:Int)(ws:List Int)(m:Nat)(out rest:List Int):Prop where
 lo:out.length=ws.length
 lr:rest.length=ws.length
 all:yku m out rest=xK t ws
 few:m<=12
 rng:∀x∈out,0<=x/\x<=1000000000000100-m
def ySJ.next{t:Int}{ws:List Int}{m:Nat}{out rest:List Int}(h:ySJ t ws (m+1) out rest)(hp:1<=ws.length):
 ySJ t ws m (out.set (kL rest ws.length) (vAt out (kL rest ws.length)+1)) (rest.set (kL rest ws.length) (-1)):=by
 have hl:=h.lr;refine⟨by rw[zbn];exact h.lo,by rw[zbn];exact hl,?_,by have:=h.few;omega,λx hx=>?_⟩
 .rw[<-h.all,yku,hl]
 .have e:((m+1:Nat):Int)=m+1:=by simp
  have r:=h.rng;rw[e]at r;rcases zaK hx with hx|rfl
  .have:=r x hx;omega
  .have hlt:kL rest ws.length<out.length:=by rw[h.lo,<-hl];exact ygL (by omega) (by omega)
   have:=r (vAt out (kL rest ws.length)) (by unfold vAt;rw[zab hlt];exact zbo hlt);omega
def yvG(t:Int)(ws:List Int)(hl:ws.length<=1048576):qB prg 254 [.c (.i t),.c (.sl 1 (ws.map qC))] (.c (.sl 1 ((xK t ws).map qC))):=by
 refine dB yrN (goQ_ ?_);refine yX2 (λk=>k<=ws.length/\(∀x∈ws.take k,inRange x 0 1000000=true)/\(k≠0->ws.length<=12)) (λk=>xC [(0,.c (.i t)),(1,.c (.sl 1 (ws.map qC))),(5,.own 13 1 0),(6,.own 14 1 0),(7,.c (.i (sumTo ws k))),(8,.c (.i k))] [(13,.row 1 []),(14,.row 1 [])]) (λk=>ws.length-k) (by apply aB<;>simp[aY]) ?_
 rintro k ⟨hk,hall,h12'⟩
 rcases yX1 k ws with⟨hlt,x,hx⟩|hge
 .have g1:=(zaa.1 hx).2;refine yaeV hx (fC hlt) g1 hlt ?_;intro hlen;refine aA (bC x 0 1000000) ?_;cases h1:inRange x 0 1000000 with
  |false=>refine goQ_ ?_;rw[sV (by have:=all_false (p:=λw=>inRange w 0 1000000) hx h1;simp[lS,this])]
  |true=>
   refine yaeV hx (fC hlt) g1 hlt ?_
   refineλ_=>⟨λh12=>?_,λh12=>?_⟩
   .rw[sV (by simp[lS];omega)]
   have h12:ws.length<=12:=by omega
   have hall':=lD (p:=λn=>inRange n 0 1000000) hx hall h1;have hs:=yAZ h12 hall';rw[nV hx]at hs;exact⟨by unfold inI;omega,gB hlt hlen,k+1,⟨hlt,hall',λ_=>h12⟩,by omega,by apply aB<;>simp[nV hx]⟩
 .have hall2:=dF (p:=λn=>inRange n 0 1000000) hge hall
  have h12:ws.length<=12:=by
   rcases zaB k with e|e
   .omega
   .exact h12' (by omega)
  refine yafw (aG hge) ?_;rw[yb4 hge];clear hall hk hge h12'
  refineλhlen=>⟨λh0=>?_,λh0=>by rw[sV (by simp[lS,h0])]⟩
  refine aA (bC t 0 1000000000) ?_;cases ht:inRange t 0 1000000000 with
  |false=>refine goQ_ ?_;rw[sV (by simp[lS,ht])]
  |true=>
  have h1:1<=ws.length:=by
   rcases zaB ws.length with e|e
   .rw[zay.1 e]at h0;simp at h0
   .exact e
  have hok:lS t ws=true:=by simp[lS,ht,h12,h1,hall2,h0]
  have f:=yhO hok;have hlft:=ysB f;have ft:=f.tot;have fs:=f.sum;have frng:=f.rng;have hSO:xK t ws=yku (lV t ws).toNat (ws.map (quota t ws.sum)) (ws.map (yct t ws.sum)):=by rw[xK,if_pos hok]
  obtain⟨Q,hQd⟩:∃Q,Q=ws.map (quota t ws.sum):=⟨_,rfl⟩;obtain⟨R,hRd⟩:∃R,R=ws.map (yct t ws.sum):=⟨_,rfl⟩;have hQl:Q.length=ws.length:=by rw[hQd,zal]
  have hRl:R.length=ws.length:=by rw[hRd,zal]
  have hQr:∀q∈Q,0<=q/\q<=1000000000000000:=λq hq=>by
   rw[hQd]at hq;obtain⟨w,hw,rfl⟩:=zaP.1 hq;have:=yR ft fs.1 (frng w hw);omega
  have hrest:lV t ws=t-Q.sum:=by rw[hQd];rfl
  rw[<-hQd,<-hRd]at hSO;refine goQ_ ?_
  refine qA (ι:=Nat) (λk=>k<=ws.length) (λk=>xC [(0,.c (.i t)),(1,.c (.sl 1 (ws.map qC))),(5,.own 13 1 k),(6,.own 14 1 k),(7,.c (.i ws.sum)),(9,.c (.i (t-sumTo Q k))),(10,.c (.i k))]
   [(13,.row 1 ((pre Q k).map qC)),(14,.row 1 ((pre R k).map qC))]) (λk=>ws.length-k) 0 (by simp) (by apply aB<;>simp[aY,yFS]) ?_
  rintro k hk
  rcases yX1 k ws with⟨hlt,w,hw⟩|hge
  .have g1:=(zaa.1 hw).2;have hQ:Q[k]?=some (quota t ws.sum w):=by rw[hQd];simp[hw]
   have hR:R[k]?=some (yct t ws.sum w):=by rw[hRd];simp[hw]
   have q1:=yR ft fs.1 (frng w (zac hw));have hsum:=nV hQ;have hb1:=sum_bnd (l:=pre Q k) (m:=1000000000000000) λx hx=>hQr x (zaw hx);have hbl:(pre Q k).length=k:=yC5 (by omega);have hbr:(pre R k).length=k:=yC5 (by omega)
   have hb1':0<=sumTo Q k/\sumTo Q k<=12000000000000000:=by
    have:sumTo Q k=(pre Q k).sum:=rfl;omega
   have hqd:(t*w).tdiv ws.sum=quota t ws.sum w:=rfl;have hrd:(t*w).tmod ws.sum=yct t ws.sum w:=rfl;have tQ:=yz2 hQ;have tR:=yz2 hR;generalize pre Q k=A at *;generalize pre R k=B at *;have hgk:(A.map qC++[[C.i (quota t ws.sum w)]])[k]?=some [C.i (quota t ws.sum w)]:=by rw[zaz (by simp[hbl])];simp[hbl]
   have hkl:k<A.length+1:=by omega
   simp -dsimp -implicitDefEqProofs [hw,g1,fC hlt,hlt,hqd,hrd,hbl,hbr,hgk]
   refineλhlen=>⟨by unfold inI;omega,by omega,by unfold inI;omega,by omega,by unfold inI;omega,by omega,by unfold inI;omega,by omega,by omega,by unfold inI;omega,by unfold inI;omega,k+1,hlt,by omega,?_⟩
   apply aB<;>simp[tQ,tR,hsum,hbl,hbr];omega
  .have:k=ws.length:=by omega
   subst this;refine yaed (yC4 (l:=Q) (k:=ws.length) (by omega)) (yC4 (l:=R) (k:=ws.length) (by omega)) ?_;rw[yb4 (by omega),<-hrest];have hn0:((lV t ws).toNat:Int)=lV t ws:=zdX hlft.1;have hnl:(lV t ws).toNat<ws.length:=by omega
   have hP:ySJ t ws (lV t ws).toNat Q R:=⟨hQl,hRl,hSO.symm,by omega,λx hx=>by have:=hQr x hx;omega⟩;rw[<-hn0];generalize(lV t ws).toNat=n at *
   refineλhlen=>qA (ι:=Nat×List Int×List Int) (λp=>ySJ t ws p.1 p.2.1 p.2.2) (λp=>xC [(5,.own 13 1 ws.length),(6,.own 14 1 ws.length),(9,.c (.i p.1))] [(13,.row 1 (p.2.1.map qC)),(14,.row 1 (p.2.2.map qC))]) (λp=>p.1) (n,Q,R) hP (by apply aB<;>simp) ?_
   rintro⟨m,out,rest⟩ hM
   simp only at hM;have hlo:=hM.lo;have hlr:=hM.lr;rcases zaB m with e|e
   .subst e;have hall:=hM.all;rw[yku]at hall;refine goQ_ ?_;rw[zae (by rw[zal,hlo];exact Nat.le_refl _),hall]
   .obtain⟨m,rfl⟩:∃j,m=j+1:=⟨m-1,by omega⟩;have hN:=hM.next h1;refine goQ_ ?_;refine qA (ι:=Nat) (λk=>1<=k/\k<=ws.length) (λk=>xC [(5,.own 13 1 ws.length),(6,.own 14 1 ws.length),(9,.c (.i ((m+1:Nat):Int))),(11,.c (.i (kL rest k:Nat))),(12,.c (.i k))] [(13,.row 1 (out.map qC)),(14,.row 1 (rest.map qC))]) (λk=>ws.length-k) 1 ⟨Nat.le_refl _,h1⟩ (by apply aB<;>simp[yaV,yAD]) ?_
    rintro k ⟨hk1,hk⟩
    rcases zas k ws.length with hlt|hge
    .obtain⟨x,hx⟩:∃x,rest[k]?=some x:=⟨_,zab (by omega)⟩;have i1:=ygL (l:=rest) (by omega) (k:=k) (by omega);obtain⟨p,hp⟩:∃p,rest[kL rest k]?=some p:=⟨_,zab i1⟩;have g1:=(zaa.1 hx).2;have g2:=(zaa.1 hp).2;have e1:kL rest (k+1)=if p<x then k else kL rest k:=by rw[yaV,yfM hx,yfM hp]
     generalize kL rest k=u at *;have j1:((u:Nat):Int)<(ws.length:Int):=by omega
     have hlt':k<rest.length:=by omega
     simp -dsimp -implicitDefEqProofs [hx,hp,g1,g2,i1,hlt,hlt',j1,fC hlt]
     refineλhl=>⟨λc1=>?_,λc1=>?_⟩
     all_goals
      refine⟨gB hlt hl,k+1,⟨by omega,hlt⟩,by omega,?_⟩;apply aB<;>simp[e1]<;>(repeat' split)<;>omega
    .have:k=ws.length:=by omega
     subst this;have i1:=ygL (l:=rest) (by omega) (k:=ws.length) (by omega);have hN':=hN;generalize kL rest ws.length=u at *;obtain⟨v,hv⟩:∃p,out[u]?=some p:=⟨_,zab (by omega)⟩;obtain⟨p,hp⟩:∃p,rest[u]?=some p:=⟨_,zab i1⟩;have g1:=(zaa.1 hv).2;have g2:=(zaa.1 hp).2;rw[yfM hv]at hN;have hb:=hM.rng v (zac hv);have hfew:=hM.few;have j1:u<ws.length:=by omega
     have j2:u<out.length:=by omega
     have s1:(out.map qC).set u [.i (v+1)]=(out.set u (v+1)).map qC:=by rw[zaZ]
     have s2:(rest.map qC).set u [.i (-1)]=(rest.set u (-1)).map qC:=by rw[zaZ]
     generalize out.set u (v+1)=out' at *;generalize rest.set u (-1)=rest' at *;simp -dsimp -implicitDefEqProofs [hv,hp,g1,g2,j1,j2,i1,s1,s2,hlo,hlr];have hmm:((m+1:Nat):Int)=m+1:=by simp
     rw[hmm]at hb
     refineλ_=>⟨by unfold inI;omega,by unfold inI;omega,m,out',rest',hN,by omega,?_⟩
     apply aB<;>simp
def yb9(l:List Int)(t w:Int):Nat->List ySb
 |0=>[]
 |k+1=>yb9 l t w k++(if 0<vAt l k then[⟨0,k+1,vAt l k,t,w⟩]else[])
def yqz{l:List Int}{t w:Int}:yb9 l t w 0=[]:=rfl
def ykr{l:List Int}{t w:Int}{k:Nat}:yb9 l t w (k+1)=yb9 l t w k++(if 0<vAt l k then[⟨0,k+1,vAt l k,t,w⟩]else[]):=rfl
def ygZ{l:List Int}{t w:Int}:∀k:Nat,(yb9 l t w k).length<=k
 |0=>by simp[yb9]
 |k+1=>by
  have:=ygZ (l:=l) (t:=t) (w:=w) k;rw[ykr,zah];split<;>simp<;>omega
def ycT(t:yRZ)(x:yRT)(n:Int):Bool:=nH t&&oC x&&inRange n 0 1000000
def jH(t:yRZ)(x:yRT)(n:Int):List ySb:=if ycT t x n then yb9 (xK (lT t x) t.yR7) n (vAt (lG x) 0) (xK (lT t x) t.yR7).length else[]
def yp0{t:yRZ}{x:yRT}{n:Int}(h:ycT t x n=false):jH t x n=[]:=by simp[jH,h]
def yw9{x:yRT}(h:oC x=true):∃w,(lG x)[0]?=some w:=by
 have tf:=lK h;have h1:=tf.pos;refine⟨_,zab (show 0<(lG x).length by rw[lG,if_pos h,zal];omega)⟩
def yqk(t:yRZ)(x:yRT)(n:Int)(hx:x.small):nI prg 68 [.agg (t.enc.map .c),.agg (x.enc.map .c),.c (.i n)] (.c (.ow 5 ((jH t x n).map ySb.enc))):=by
 refine fF yno (goQ_ ?_);refine aA (yfw t) ?_;cases h1:nH t with
 |false=>refine goQ_ ?_;rw[yp0 (by simp[ycT,h1])]
 |true=>
 refine goQ_ ?_;refine aA (gK x hx) ?_;cases h2:oC x with
 |false=>refine goQ_ ?_;rw[yp0 (by simp[ycT,h2])]
 |true=>
 refine goQ_ ?_;refine aA (iC n 0 1000000) ?_;cases h3:inRange n 0 1000000 with
 |false=>refine goQ_ ?_;rw[yp0 (by simp[ycT,h3])]
 |true=>
 refine goQ_ ?_;have hok:ycT t x n=true:=by simp[ycT,h1,h2,h3]
 have he:jH t x n=yb9 (xK (lT t x) t.yR7) n (vAt (lG x) 0) (xK (lT t x) t.yR7).length:=by rw[jH,if_pos hok]
 obtain⟨w,hw⟩:=yw9 h2;rw[yfM hw]at he;rw[he];refine dD (ya0 x hx) ?_;have gw:=(zaa.1 hw).2;have lw:=(zaa.1 hw).1;refine yaeT hw gw lw ?_;refine lC (yAg t x hx) (goQ_ ?_);refine gX (yus (lT t x) t.yR7) ?_;have hsl:=yg9 (lT t x) t.yR7;generalize xK (lT t x) t.yR7=sh at *;refine goQ_ ?_;intro hlen;refine jX (k0:=5) 8 5 (by simp) (by simp) (by decide) ?_;refine yX2 (λk=>k<=sh.length) (λk=>xC [(2,.c (.i n)),(7,.c (.i w)),(8,.own 8 5 (yb9 sh n w k).length),(33,.c (.sl 1 (sh.map qC))),(34,.c (.i sh.length)),(35,.c (.i k))] [(8,.row 5 ((yb9 sh n w k).map ySb.enc))]) (λk=>sh.length-k) (by apply aB<;>simp[yqz]) ?_
 rintro k hk
 have htl:=ygZ (l:=sh) (t:=n) (w:=w) k;rcases yX1 k sh with⟨hlt,v,hv⟩|hge
 .have gv:=(zaa.1 hv).2;have hs:=ykr (l:=sh) (t:=n) (w:=w) (k:=k);rw[yfM hv]at hs;refine yaeV hv gv (fC hlt) hlt ?_;refine⟨λh0=>?_,λh0=>?_⟩
  .rw[if_pos (by omega)]at hs;refine⟨by unfold inI;omega,by omega,gB hlt hlen,k+1,hlt,by omega,?_⟩;apply aB<;>simp[hs]
  .rw[if_neg (by omega),zbF]at hs;refine⟨gB hlt hlen,k+1,hlt,by omega,?_⟩;apply aB<;>simp[hs]
 .have:k=sh.length:=by omega
  subst this;exact goU_
def ycW(t:yRZ)(x:yRT)(n:Int):(jH t x n).length<=12:=by
 unfold jH;split
 .have h1:=ygZ (l:=xK (lT t x) t.yR7) (t:=n) (w:=vAt (lG x) 0) (xK (lT t x) t.yR7).length;have h2:=yg9 (lT t x) t.yR7;omega
 .simp
def ynv(t:yRZ)(x:yRT)(n:Int)(hx:x.small):qB prg 68 [.agg (t.enc.map .c),.agg (x.enc.map .c),.c (.i n)] (.c (.sl 5 ((jH t x n).map ySb.enc))):=(yqk t x n hx).pure (by simp)
def yqj(t:yRZ)(x:yRT)(n:Int)(ht:t.small)(hx:x.small):qB prg 165 [.agg (t.enc.map .c),.agg (x.enc.map .c),.c (.i n)] (.c (.sl 5 ((jH t x n).map ySb.enc))):=by
 refine dB ynh (goQ_ ?_);refine aA (yfH t) ?_;cases h1:nH t with
 |false=>refine goQ_ ?_;rw[yp0 (by simp[ycT,h1])]
 |true=>
 refine goQ_ ?_;refine aA (jJ x hx) ?_;cases h2:oC x with
 |false=>refine goQ_ ?_;rw[yp0 (by simp[ycT,h2])]
 |true=>
 refine goQ_ ?_;refine aA (bC n 0 1000000) ?_;cases h3:inRange n 0 1000000 with
 |false=>refine goQ_ ?_;rw[yp0 (by simp[ycT,h3])]
 |true=>
 refine goQ_ ?_;have hok:ycT t x n=true:=by simp[ycT,h1,h2,h3]
 have he:jH t x n=yb9 (xK (lT t x) t.yR7) n (vAt (lG x) 0) (xK (lT t x) t.yR7).length:=by rw[jH,if_pos hok]
 obtain⟨w,hw⟩:=yw9 h2;rw[yfM hw]at he;rw[he];have gw:=(zaa.1 hw).2;have lw:=(zaa.1 hw).1;refine lC (yBg t x hx) (goQ_ ?_);refine gX (yvG (lT t x) t.yR7 ht.2) ?_;have hsl:=yg9 (lT t x) t.yR7;generalize xK (lT t x) t.yR7=sh at *;refine goQ_ ?_;refine yX2 (λk=>k<=sh.length) (λk=>xC [(2,.c (.i n)),(4,.box 4 0),(7,.own 10 5 (yb9 sh n w k).length),(8,.c (.sl 1 (sh.map qC))),(9,.c (.i k))] [(4,.box (x.enc.map .c)),(10,.row 5 ((yb9 sh n w k).map ySb.enc))]) (λk=>sh.length-k) (by apply aB<;>simp[yqz]) ?_
 rintro k hk
 have htl:=ygZ (l:=sh) (t:=n) (w:=w) k;rcases yX1 k sh with⟨hlt,v,hv⟩|hge
 .have gv:=(zaa.1 hv).2;have hs:=ykr (l:=sh) (t:=n) (w:=w) (k:=k);rw[yfM hv]at hs;refine yaeV hv gv (fC hlt) hlt ?_
  refineλhlen=>⟨λh0=>?_,λh0=>?_⟩
  .rw[if_pos (by omega)]at hs;refine⟨by unfold inI;omega,?_⟩;refine bI (yaG x hx) (yaeT hw gw lw ?_);refine⟨by omega,gB hlt hlen,k+1,hlt,by omega,?_⟩;apply aB<;>simp[hs]
  .rw[if_neg (by omega),zbF]at hs;refine⟨gB hlt hlen,k+1,hlt,by omega,?_⟩;apply aB<;>simp[hs]
 .have:k=sh.length:=by omega
  subst this;exact goU_
def yKj(m:Int)(h0:0<=m)(h1:m<=2097152):nI prg 256 [.nil 5,.c (.i m)] (.c (.ow 5 [])):=by
 refine fF tZ (goQ_ ?_);exact⟨h0,λ_=>⟨by unfold inI;omega,by unfold inI;omega,λh=>⟨h0,by omega,by omega⟩⟩⟩
def ypG(es:List ySb)(hl:es.length<=2097152):nI prg 154 [.c (.sl 5 (es.map ySb.enc))] (.c (.ow 5 (es.map ySb.enc))):=by
 refine fF fP ?_;simp -dsimp -implicitDefEqProofs [oJ,jA];omega
def lens(a b:Nat)(k:Nat):Int:=if k=0 then 0 else if k=1 then a else a+b
def yxk(a b:List ySb)(k:Nat):List ySb:=if k=0 then[]else if k=1 then a else a++b
def yBP(a b:List ySb)(ha:a.length<=1048576)(hb:b.length<=1048576):
 nI prg 168 [.c (.sl 1 [[.sl 5 (a.map ySb.enc)],[.sl 5 (b.map ySb.enc)]])] (.c (.ow 5 ((a++b).map ySb.enc))):=by
 refine fF dZ (goQ_ ?_)
 refineλ_=>qA (ι:=Nat) (λk=>k<=2) (λk=>xC [(0,.c (.sl 1 [[.sl 5 (a.map ySb.enc)],[.sl 5 (b.map ySb.enc)]])),(3,.c (.i (lens a.length b.length k))),(9,.c (.sl 1 [[.sl 5 (a.map ySb.enc)],[.sl 5 (b.map ySb.enc)]])),(10,.c (.i 2)),(11,.c (.i k))] []) (λk=>2-k) 0 (by simp) (by apply aB<;>simp[lens]) ?_
 intro k hk;obtain rfl|rfl|rfl:k=0\/k=1\/k=2:=by omega
 .simp -dsimp -implicitDefEqProofs [lens]
  refineλ_=>⟨by unfold inI;omega,by unfold inI;omega,1,by omega,by omega,?_⟩
  apply aB<;>simp
 .simp -dsimp -implicitDefEqProofs [lens]
  refineλ_=>⟨by unfold inI;omega,by omega,λ_=>⟨by unfold inI;omega,2,by omega,by omega,?_⟩⟩
  apply aB<;>simp
 .simp -dsimp -implicitDefEqProofs [lens];refine sD (yKj (a.length+b.length) (by omega) (by omega)) (by simp) (by simp[AV.closed,AV.jI,C.closed]) (by simp[fD]) (goQ_ ?_)
  refineλ_=>qA (ι:=Nat) (λk=>k<=2) (λk=>xC [(6,.own 24 5 (yxk a b k).length),(25,.c (.sl 1 [[.sl 5 (a.map ySb.enc)],[.sl 5 (b.map ySb.enc)]])),(26,.c (.i 2)),(27,.c (.i k))] [(24,.row 5 ((yxk a b k).map ySb.enc))]) (λk=>2-k) 0 (by simp) (by apply aB<;>simp[yxk]) ?_
  intro k hk;obtain rfl|rfl|rfl:k=0\/k=1\/k=2:=by omega
  .simp -dsimp -implicitDefEqProofs [yxk];refine⟨by omega,by unfold inI;omega,1,by omega,by omega,?_⟩;apply aB<;>simp
  .simp -dsimp -implicitDefEqProofs [yxk];refine⟨by omega,by unfold inI;omega,2,by omega,by omega,?_⟩;apply aB<;>simp
  .simp -dsimp -implicitDefEqProofs [yxk];rw[zae (by simp)]
def gJ(book more:List ySb):List ySb×Bool:=if kU book&&kU (book++more)then(book++more,true)else(book,false)
def yo9(a b:List ySb)(ha:a.length<=1048576)(hb:b.length<=1048576):
 nI prg 67 [.c (.sl 5 (a.map ySb.enc)),.c (.sl 5 (b.map ySb.enc))] (.tup [.c (.ow 5 ((gJ a b).1.map ySb.enc)),.c (.b (gJ a b).2)]):=by
 have hcat:=yBP a b ha hb;have hp:gJ a b=if kU a&&kU (a++b)then(a++b,true)else(a,false):=rfl
 have hn:2000<b.length->kU (a++b)=false:=λh=>by simp[kU];omega
 generalize a++b=c at hcat hp hn;refine fF ynj (goQ_ ?_);refine aA (ykw a) ?_;cases h:kU a with
 |false=>
  refine goQ_ ?_;refine sD (ypG a (by omega)) (by simp) (by simp[AV.closed,AV.jI,C.closed]) (by simp[fD]) (goQ_ ?_);simp[hp,h,jA]
 | true=>
  refine goQ_ ?_
  refineλ_=>⟨λh2=>?_,λh2=>?_⟩
  .skip
   refine sD (hcat) (by simp) (by simp[AV.closed,AV.jI,C.closed]) (by simp[fD]) (goQ_ ?_);refine mD (ykw c) (by simp[jA]) rfl ?_;cases h3:kU c with
   |false=>
    refine goQ_ ?_;refine sD (ypG a (by omega)) (by simp) (by simp[AV.closed,AV.jI,C.closed]) (by simp[fD]) (goQ_ ?_);simp[hp,h,h3,jA]
   |true=>
    refine goQ_ ?_;refine sD (hcat) (by simp) (by simp[AV.closed,AV.jI,C.closed]) (by simp[fD]) (goQ_ ?_);simp[hp,h,h3,jA]
  .skip
   have h3:=hn (by omega);refine sD (ypG a (by omega)) (by simp) (by simp[AV.closed,AV.jI,C.closed]) (by simp[fD]) (goQ_ ?_);simp[hp,h,h3,jA]
def yp5(a b:List ySb)(ha:a.length<=1048576)(hb:b.length<=1048576):
 qB prg 164 [.c (.sl 5 (a.map ySb.enc)),.c (.sl 5 (b.map ySb.enc))] (.tup [.c (.sl 5 ((gJ a b).1.map ySb.enc)),.c (.b (gJ a b).2)]):=by
 have hp:gJ a b=if kU a&&kU (a++b)then(a++b,true)else(a,false):=rfl
 have e1:a.map ySb.enc++b.map ySb.enc=(a++b).map ySb.enc:=List.map_append.symm;have e2:a.length+b.length=(a++b).length:=List.length_append.symm;generalize a++b=c at hp e1 e2;refine dB ynd (goQ_ ?_);refine⟨by omega,by omega,?_⟩;rw[e1,e2];refine aA (yjB a) ?_;cases h:kU a with
 |false=>
  refine goQ_ ?_;simp[hp,h,jA];omega
 | true=>
  refine goQ_ ?_;refine mD (yjB c) (by simp[jA]) rfl ?_;cases h3:kU c with
  |false=>
   refine goQ_ ?_;simp[hp,h,h3,jA];omega
  |true=>
   refine goQ_ ?_;simp[hp,h,h3,jA]
def yol(a b:List ySb)(ha:a.length<=1048576)(hb:b.length<=1048576):
 qB prg 67 [.c (.sl 5 (a.map ySb.enc)),.c (.sl 5 (b.map ySb.enc))] (.tup [.c (.sl 5 ((gJ a b).1.map ySb.enc)),.c (.b (gJ a b).2)]):=(yo9 a b ha hb).pure (by simp[AV.shr,AV.yEj,AV.yoE,C.shr])
def yrC(a b:List ySb):(gJ a b).1.length<=a.length+b.length:=by
 unfold gJ;split<;>simp
def yadW(l:List Int)(n:Int):qB prg 163 [.c (.sl 1 (l.map qC)),.c (.i n)] (.c (.i (l.count n))):=by
 refine dB yafp (goQ_ ?_);refine yX4 (λk=>k<=l.length) (λk=>xC [(0,.c (.sl 1 (l.map qC))),(1,.c (.i n)),(5,.c (.i ((l.take k).count n))),(6,.c (.i k))] []) (λk=>l.length-k) ?_
 rintro k hk
 have hc:(l.take k).count n<=k:=zba zdl (by simp;omega);rcases yX1 k l with⟨hlt,a,ha⟩|hge
 .have g1:=(zaa.1 ha).2
  have hs:(l.take (k+1)).count n=(l.take k).count n+if a=n then 1 else 0:=by
   rw[zao,ha];simp[zeg,List.count_cons]
  generalize(l.take k).count n=q at *;refine yaeV ha g1 hlt (fC hlt) ?_;intro hlen;have hm:=hlen;unfold maxLen at hm;refine⟨λh=>⟨by unfold inI;omega,gB hlt hlen,k+1,hlt,by omega,?_⟩,λh=>⟨gB hlt hlen,k+1,hlt,by omega,?_⟩⟩
  .apply aB<;>simp[hs,h]
  .apply aB<;>simp[hs,h]
 .refine yafw (aG hge) ?_;intro _;rw[zae hge]
def yafQ(a b:List ySb):qB prg 69 [.c (.sl 5 (a.map ySb.enc)),.c (.sl 5 (b.map ySb.enc))] (.c (.b (decide (a=b)))):=by
 refine dB yaan (goQ_ ?_);intro hlen1 hlen2;refine⟨λh=>?_,λh=>?_⟩
 .have:a≠b:=λe=>h (by rw[e]);simp[this]
 have hl:a.length=b.length:=by omega
 intro _;refine yX4 (λk=>k<=a.length/\a.take k=b.take k) (λk=>xC [(0,.c (.sl 5 (a.map ySb.enc))),(1,.c (.sl 5 (b.map ySb.enc))),(12,.c (.i a.length)),(13,.c (.i k))] []) (λk=>a.length-k) ?_
 rintro k ⟨hk,he⟩
 rcases yX1 k a with⟨hlt,u,hu⟩|hge
 .obtain⟨v,hv⟩:∃v,b[k]?=some v:=⟨_,zab (by omega)⟩;have g1:=(zaa.1 hu).2;have g2:=(zaa.1 hv).2;have hlt2:k<b.length:=by omega
  refine yafn hu hv g1 g2 hlt hlt2 (fC hlt) ?_;refine⟨λh e=>?_,λe1 e2 e3 e4 e5=>⟨gB hlt hlen1,k+1,⟨hlt,?_⟩,by omega,?_⟩⟩
  .subst e;rw[hu]at hv;cases hv;simp at h
  .have huv:u=v:=by cases u;cases v;simp_all
   rw[zao,zao,he,hu,hv,huv]
  .apply aB<;>simp
 .refine yafw (aG hge) ?_;rw[zae hge,zae (by omega)]at he;simp[he]
def yaaA(x:yRW)(b:List ySb)(p:yR2):List ySb:=(gJ b (jH x.yRZ p.yRT p.Time)).1
def yE(x:yRW)(k:Nat):List ySb:=(x.yR1.take k).foldl (yaaA x) []
def yaad(x:yRW)(p:yR2):Bool:=(lG p.yRT).all λi=>decide (i∈x.ySd)
def yaam(x:yRW):Bool:=x.yR1.all (yaad x)&&decide (x.yR1.foldl (yaaA x) []=x.Book)
def yacv{x:yRW}{k:Nat}{p:yR2}(h:x.yR1[k]?=some p):yE x (k+1)=(gJ (yE x k) (jH x.yRZ p.yRT p.Time)).1:=by
 unfold yE;rw[zao,h];simp[yaaA]
def yacR{x:yRW}:∀k:Nat,(yE x k).length<=2000:=by
 intro k
 induction k with
 |zero=>simp[yE]
 | succ k ih=>
  cases h:x.yR1[k]? with
  |none=>
   have:yE x (k+1)=yE x k:=by unfold yE;rw[zao,h];simp
   rw[this];exact ih
  | some p=>
   rw[yacv h];unfold gJ;split
   .rename_i e;simp only[zad,kU,decide_eq_true_eq]at e;exact e.2.1
   .exact ih
def yaeQ{x:yRW}{k:Nat}{p:yR2}{j:Nat}{i:Int}(h:x.yR1[k]?=some p)(hj:(lG p.yRT)[j]?=some i)(hi:i∉x.ySd):yaam x=false:=by
 have h1:yaad x p=false:=all_false (p:=λi=>decide (i∈x.ySd)) hj (by simp[hi]);simp[yaam,all_false (p:=yaad x) h h1]
def yafU{x:yRW}{k:Nat}(hk:x.yR1.length<=k)(h:∀p∈x.yR1.take k,yaad x p=true):yaam x=decide (yE x k=x.Book):=by
 have:=dF (p:=yaad x) hk h;simp only[yaam,this,zaW,yE,zae hk]
def yacU(x:yRW)(hl:x.small):qB prg 25 [.agg (x.enc.map .c)] (.c (.b (yaam x))):=by
 refine dB yafd (goQ_ ?_);intro hlen
 refine qA (ι:=Nat) (λk=>k<=x.yR1.length/\∀p∈x.yR1.take k,yaad x p=true) (λk=>match k with
  |0=>xC [(1,.box 1 0),(2,.c (.b false)),(3,.nil 5),(9,.c (.sl 4 (x.yR1.map yR2.enc))),(10,.c (.i x.yR1.length)),(11,.c (.i 0))] [(1,.box (x.enc.map .c))]
  |k+1=>xC [(1,.box 1 0),(2,.c (.b false)),(3,.c (.sl 5 ((yE x (k+1)).map ySb.enc))),(9,.c (.sl 4 (x.yR1.map yR2.enc))),(10,.c (.i x.yR1.length)),(11,.c (.i (k+1)))] [(1,.box (x.enc.map .c))]) (λk=>x.yR1.length-k) 0 (by simp) (by apply aB<;>simp) ?_
 rintro k ⟨hk,hall⟩
 rcases yX1 k x.yR1 with⟨klt,p,hp⟩|kge
 .have gp:=(zaa.1 hp).2;have hps:=hl.2.2.2.2.2.2.2.2.2 p (zac hp);have hsuc:=yacv hp;have hbl:=yacR (x:=x) k;have htl:=ycW x.yRZ p.yRT p.Time;have hlt:=fC klt;rcases k with _|k
  .have e0:yE x 0=[]:=by simp[yE]
   rw[e0]at hsuc;simp only[Int.natCast_zero]at hlt;refine yaeV hp gp klt hlt ?_;refine yYp (ynv x.yRZ p.yRT p.Time hps) (yaeT hp gp klt ?_);refine yYp (yol [] (jH x.yRZ p.yRT p.Time) (by simp -dsimp -implicitDefEqProofs) (by omega)) ?_;rw[<-hsuc];refine yaeT hp gp klt ?_;refine yYp (ya0 p.yRT hps) (goQ_ ?_);intro hlen2;refine yX4 (λj=>j<=(lG p.yRT).length/\∀i∈(lG p.yRT).take j,decide (i∈x.ySd)=true) (λj=>xC [(1,.box 1 0),(2,.c (.b false)),(3,.c (.sl 5 ((yE x (0+1)).map ySb.enc))),(9,.c (.sl 4 (x.yR1.map yR2.enc))),(10,.c (.i x.yR1.length)),(11,.c (.i ((0:Nat):Int))),(29,.c (.sl 1 ((lG p.yRT).map qC))),(30,.c (.i (lG p.yRT).length)),(31,.c (.i j))] [(1,.box (x.enc.map .c))]) (λj=>(lG p.yRT).length-j) ?_
   rintro j ⟨hj,hallj⟩
   rcases zas j (lG p.yRT).length with jlt|jge
   .obtain⟨i,hi⟩:∃i,(lG p.yRT)[j]?=some i:=⟨_,zab jlt⟩;have gi:=(zaa.1 hi).2;refine yaeV hi gi jlt (fC jlt) ?_;refine yYq (yu4 x.ySd i) ?_;cases hin:decide (i∈x.ySd)with
    |false=>
     refine goQ_ ?_;exact yaeQ hp hi (by simpa using hin)
    |true=>
     have hallj':=lD (p:=λi=>decide (i∈x.ySd)) hi hallj hin;refine goQ_ ?_;refine⟨gB jlt hlen2,j+1,⟨jlt,by simpa using hallj'⟩,by omega,?_⟩;apply aB<;>simp
   .have hca:yaad x p=true:=dF (p:=λi=>decide (i∈x.ySd)) jge hallj;have hall':=lD (p:=yaad x) hp hall hca;refine yafw (aG jge) ?_;refine⟨gB klt hlen,0+1,⟨klt,hall'⟩,by omega,?_⟩;apply aB<;>simp
  .have t1:((k:Int)+1<(x.yR1.length:Int))=True:=by simp;omega
   have t2:(0<=(k:Int)+1)=True:=by simp;omega
   have t3:((k:Int)+1).toNat=k+1:=by omega
   refine yafq hp gp klt t1 t2 t3 ?_;refine yYp (ynv x.yRZ p.yRT p.Time hps) (yaeV hp gp klt t3 ?_);refine yYp (yol (yE x (k+1)) (jH x.yRZ p.yRT p.Time) (by omega) (by omega)) ?_;rw[<-hsuc];refine yaeT hp gp klt ?_;refine yYp (ya0 p.yRT hps) (goQ_ ?_);intro hlen2;refine yX4 (λj=>j<=(lG p.yRT).length/\∀i∈(lG p.yRT).take j,decide (i∈x.ySd)=true) (λj=>xC [(1,.box 1 0),(2,.c (.b false)),(3,.c (.sl 5 ((yE x ((k+1)+1)).map ySb.enc))),(9,.c (.sl 4 (x.yR1.map yR2.enc))),(10,.c (.i x.yR1.length)),(11,.c (.i (((k+1):Nat):Int))),(29,.c (.sl 1 ((lG p.yRT).map qC))),(30,.c (.i (lG p.yRT).length)),(31,.c (.i j))] [(1,.box (x.enc.map .c))]) (λj=>(lG p.yRT).length-j) ?_
   rintro j ⟨hj,hallj⟩
   rcases zas j (lG p.yRT).length with jlt|jge
   .obtain⟨i,hi⟩:∃i,(lG p.yRT)[j]?=some i:=⟨_,zab jlt⟩;have gi:=(zaa.1 hi).2;refine yaeV hi gi jlt (fC jlt) ?_;refine yYq (yu4 x.ySd i) ?_;cases hin:decide (i∈x.ySd)with
    |false=>
     refine goQ_ ?_;exact yaeQ hp hi (by simpa using hin)
    |true=>
     have hallj':=lD (p:=λi=>decide (i∈x.ySd)) hi hallj hin;refine goQ_ ?_;refine⟨gB jlt hlen2,j+1,⟨jlt,by simpa using hallj'⟩,by omega,?_⟩;apply aB<;>simp
   .have hca:yaad x p=true:=dF (p:=λi=>decide (i∈x.ySd)) jge hallj;have hall':=lD (p:=yaad x) hp hall hca;refine yafw (aG jge) ?_;refine⟨gB klt hlen,(k+1)+1,⟨klt,hall'⟩,by omega,?_⟩;apply aB<;>simp
 .have hT:=yafU kge hall;rcases k with _|k
  .have e0:yE x 0=[]:=by simp[yE]
   rw[e0]at hT;have hx0:x.yR1.length=0:=by omega
   have t1:((0:Int)<(x.yR1.length:Int))=False:=by rw[hx0];simp
   refine yaed t1 hx0 ?_;refine yYq (yafQ [] x.Book) (goQ_ ?_);rw[hT];exact decide_eq_decide.2 ⟨Eq.symm,Eq.symm⟩
  .have t1:((k:Int)+1<(x.yR1.length:Int))=False:=by simp;omega
   refine yafw t1 ?_;refine yYq (yafQ (yE x (k+1)) x.Book) (goQ_ ?_);exact hT
def yafC(x:yRW)(hl:x.small):qB prg 65 [.agg (x.enc.map .c)] (.c (.b (yaam x))):=by
 have htf:=hl.2.2.2.2.2.2.1;refine dB yafb (goQ_ ?_)
 refine qA (ι:=Nat) (λk=>k<=x.yR1.length/\∀p∈x.yR1.take k,yaad x p=true) (λk=>match k with
  |0=>xC [(1,.box 1 0),(2,.c (.b false)),(3,.own 9 5 0),(4,.c (.i 0))] [(1,.box (x.enc.map .c)),(9,.row 5 [])]
  |k+1=>xC [(1,.box 1 0),(2,.c (.b false)),(3,.c (.sl 5 ((yE x (k+1)).map ySb.enc))),(4,.c (.i (k+1)))] [(1,.box (x.enc.map .c))]) (λk=>x.yR1.length-k) 0 (by simp) (by apply aB<;>simp) ?_
 rintro k ⟨hk,hall⟩
 rcases yX1 k x.yR1 with⟨klt,p,hp⟩|kge
 .have gp:=(zaa.1 hp).2;have hps:=hl.2.2.2.2.2.2.2.2.2 p (zac hp);have hsuc:=yacv hp;have hbl:=yacR (x:=x) k;have htl:=ycW x.yRZ p.yRT p.Time;rcases k with _|k
  .refine yaeV hp gp klt (fC klt) ?_;intro hlenP;refine yYp (yqj x.yRZ p.yRT p.Time htf hps) (yaeT hp gp klt ?_);refine yGz [9] (yp5 [] (jH x.yRZ p.yRT p.Time) (by simp) (by omega)) (by simp -dsimp -implicitDefEqProofs) (by simp[AV.frz,AV.yHT,AV.tJ]) ?_;have e0:yE x 0=[]:=by simp[yE]
   rw[e0]at hsuc;rw[<-hsuc];refine yaeT hp gp klt ?_;refine yYp (yaG p.yRT hps) (goQ_ ?_);refine yX4 (λj=>j<=(lG p.yRT).length/\∀i∈(lG p.yRT).take j,decide (i∈x.ySd)=true) (λj=>xC [(1,.box 1 0),(2,.c (.b false)),(3,.c (.sl 5 ((yE x (0+1)).map ySb.enc))),(4,.c (.i ((0:Nat):Int))),(6,.c (.sl 1 ((lG p.yRT).map qC))),(7,.c (.i j))] [(1,.box (x.enc.map .c))]) (λj=>(lG p.yRT).length-j) ?_
   rintro j ⟨hj,hallj⟩
   rcases zas j (lG p.yRT).length with jlt|jge
   .obtain⟨i,hi⟩:∃i,(lG p.yRT)[j]?=some i:=⟨_,zab jlt⟩;have gi:=(zaa.1 hi).2;refine yaeV hi gi jlt (fC jlt) ?_;intro hlen2;refine yYs (yadW x.ySd i) ?_
    by_cases hin:i∈x.ySd
    .have hcn:=zeb.2 hin;have z:((x.ySd.count i:Int)=0)=False:=by simp;omega
     have z3:(x.ySd.count i=0)=False:=by simp;omega
     have hallj':=lD (p:=λi=>decide (i∈x.ySd)) hi hallj (by simpa using hin);have z2:(i∉x.ySd)=False:=by simp[hin]
     refine yaeT z z2 z3 ?_;refine⟨gB jlt hlen2,j+1,⟨jlt,by simpa using hallj'⟩,by omega,?_⟩;apply aB<;>simp
    .have hcn:=zdv.2 hin;have z:((x.ySd.count i:Int)=0)=True:=by simp;omega
     have z3:(x.ySd.count i=0)=True:=by simp;omega
     have z2:(i∉x.ySd)=True:=by simp[hin]
     refine yaeT z z2 z3 ?_;exact yaeQ hp hi hin
   .have hca:yaad x p=true:=dF (p:=λi=>decide (i∈x.ySd)) jge hallj;have hall':=lD (p:=yaad x) hp hall hca;refine yafw (aG jge) ?_;intro hlen2;refine⟨gB klt hlenP,0+1,⟨klt,hall'⟩,by omega,?_⟩;apply aB<;>simp
  .have t1:((k:Int)+1<(x.yR1.length:Int))=True:=by simp;omega
   have t2:(0<=(k:Int)+1)=True:=by simp;omega
   have t3:((k:Int)+1).toNat=k+1:=by omega
   refine yafq hp gp klt t1 t2 t3 ?_;intro hlenP;refine yYp (yqj x.yRZ p.yRT p.Time htf hps) (yaeV hp gp klt t3 ?_);refine yYp (yp5 (yE x (k+1)) (jH x.yRZ p.yRT p.Time) (by omega) (by omega)) ?_;rw[<-hsuc];refine yaeT hp gp klt ?_;refine yYp (yaG p.yRT hps) (goQ_ ?_);refine yX4 (λj=>j<=(lG p.yRT).length/\∀i∈(lG p.yRT).take j,decide (i∈x.ySd)=true) (λj=>xC [(1,.box 1 0),(2,.c (.b false)),(3,.c (.sl 5 ((yE x ((k+1)+1)).map ySb.enc))),(4,.c (.i (((k+1):Nat):Int))),(6,.c (.sl 1 ((lG p.yRT).map qC))),(7,.c (.i j))] [(1,.box (x.enc.map .c))]) (λj=>(lG p.yRT).length-j) ?_
   rintro j ⟨hj,hallj⟩
   rcases zas j (lG p.yRT).length with jlt|jge
   .obtain⟨i,hi⟩:∃i,(lG p.yRT)[j]?=some i:=⟨_,zab jlt⟩;have gi:=(zaa.1 hi).2;refine yaeV hi gi jlt (fC jlt) ?_;intro hlen2;refine yYs (yadW x.ySd i) ?_
    by_cases hin:i∈x.ySd
    .have hcn:=zeb.2 hin;have z:((x.ySd.count i:Int)=0)=False:=by simp;omega
     have z3:(x.ySd.count i=0)=False:=by simp;omega
     have hallj':=lD (p:=λi=>decide (i∈x.ySd)) hi hallj (by simpa using hin);have z2:(i∉x.ySd)=False:=by simp[hin]
     refine yaeT z z2 z3 ?_;refine⟨gB jlt hlen2,j+1,⟨jlt,by simpa using hallj'⟩,by omega,?_⟩;apply aB<;>simp
    .have hcn:=zdv.2 hin;have z:((x.ySd.count i:Int)=0)=True:=by simp;omega
     have z3:(x.ySd.count i=0)=True:=by simp;omega
     have z2:(i∉x.ySd)=True:=by simp[hin]
     refine yaeT z z2 z3 ?_;exact yaeQ hp hi hin
   .have hca:yaad x p=true:=dF (p:=λi=>decide (i∈x.ySd)) jge hallj;have hall':=lD (p:=yaad x) hp hall hca;refine yafw (aG jge) ?_;intro hlen2;refine⟨gB klt hlenP,(k+1)+1,⟨klt,hall'⟩,by omega,?_⟩;apply aB<;>simp
 .have hT:=yafU kge hall;rcases k with _|k
  .have e0:yE x 0=[]:=by simp[yE]
   rw[e0]at hT;have hx0:x.yR1.length=0:=by omega
   have t1:((0:Int)<(x.yR1.length:Int))=False:=by rw[hx0];simp
   refine yaed t1 hx0 ?_;refine qA (ι:=Nat) (λj=>j=0) (λ_=>xC [(1,.box 1 0),(2,.c (.b false)),(3,.own 9 5 0),(4,.c (.i 0)),(8,.c (.i 0))] [(1,.box (x.enc.map .c)),(9,.row 5 [])]) (λ_=>0) 0 rfl (by apply aB<;>simp) ?_
   rintro j rfl
   refine goQ_ ?_;intro _;rw[hT];exact decide_eq_decide.2 ⟨λh=>by rw[<-h];rfl,λh=>(zay.1 (by omega)).symm⟩
  .have t1:((k:Int)+1<(x.yR1.length:Int))=False:=by simp;omega
   refine yafw t1 ?_;intro _;obtain⟨B,hB⟩:∃B,yE x (k+1)=B:=⟨_,rfl⟩;have hbl:=yacR (x:=x) (k+1);rw[hB]at hT hbl;rw[hB];refine yX4 (λj=>j<=B.length/\(j=0\/B.length=x.Book.length)/\B.take j=x.Book.take j) (λj=>xC [(1,.box 1 0),(2,.c (.b false)),(3,.c (.sl 5 (B.map ySb.enc))),(8,.c (.i j))] [(1,.box (x.enc.map .c))]) (λj=>B.length-j) ?_
   rintro j ⟨hj,hj0,he⟩
   by_cases hlen:B.length=x.Book.length
   .have z1:((B.length:Int)=(x.Book.length:Int))=True:=by simp[hlen]
    rcases yX1 j B with⟨jlt,u,hu⟩|jge
    .obtain⟨v,hv⟩:∃v,x.Book[j]?=some v:=⟨_,zab (by omega)⟩;have g1:=(zaa.1 hu).2;have g2:=(zaa.1 hv).2;have jlt2:j<x.Book.length:=by omega
     refine yafK hu hv g1 g2 jlt jlt2 (fC jlt) hlen ?_
     refineλhlm=>⟨λh=>?_,λe1 e2 e3 e4 e5=>⟨gB jlt2 hlm,j+1,⟨by omega,?_⟩,by omega,?_⟩⟩
     .have hne:B≠x.Book:=by
       intro e;rw[e,hv]at hu;cases hu;simp at h
      rw[hT];simp[hne]
     .have huv:u=v:=by cases u;cases v;simp_all
      rw[zao,zao,he,hu,hv,huv]
     .apply aB<;>simp
    .have jge2:x.Book.length<=j:=by omega
     rw[zae jge,zae jge2]at he;refine yaed (aG jge2) hlen ?_;intro _;rw[hT];simp[he]
   .have z1:((B.length:Int)=(x.Book.length:Int))=False:=by simp;omega
    obtain rfl:j=0:=hj0.resolve_right hlen
    have hne:yaam x=false:=by
     rw[hT];simp only[decide_eq_false_iff_not];intro e;exact hlen (by rw[e])
    exact goE_3 z1 hlen hne
def fl{α:Type}(f:α->List Int)(l:List α)(k:Nat):List Int:=(l.take k).flatMap f
def yZS{α:Type}{f:α->List Int}{l:List α}:fl f l 0=[]:=rfl
def yZA{α:Type}{f:α->List Int}{l:List α}{k:Nat}{x:α}(h:l[k]?=some x):fl f l (k+1)=fl f l k++f x:=by
 unfold fl;rw[zao,h,zaV];simp
def yaay{α:Type}{f:α->List Int}{l:List α}{k:Nat}(h:l.length<=k):fl f l k=l.flatMap f:=by
 unfold fl;rw[zae h]
def yaaw{α:Type}{f:α->List Int}{l:List α}{k:Nat}{x:α}(h:l[k]?=some x):(fl f l k).length+(f x).length<=(l.flatMap f).length:=by
 have:l.flatMap f=fl f l (k+1)++(l.drop (k+1)).flatMap f:=by
  unfold fl;rw[<-zaV,zav]
 rw[this,yZA h];simp only[zah];omega
def yZi(m:yR6):List Int:=lG m.yRT
def yZc(c:yR4):List Int:=lG c.yRT
def yYR(l:List yR6):List Int:=l.flatMap yZi
def yZy(w:yR8):List Int:=w.Calls.flatMap yZc++w.yR0.yRY.flatMap lG
def yYP(x:yRW):List Int:=x.yR3.flatMap yYR++x.yRX.flatMap yZy++x.yR9.flatMap lG
def yaai(x:yRW):(yYP x).length=(x.yR3.flatMap yYR).length+(x.yRX.flatMap yZy).length+(x.yR9.flatMap lG).length:=by
 simp only[yYP,zah]
def cat3{A B D:List Int}:List.take (A.length+(B.length+D.length)) (List.map qC A++(List.map qC B++List.map qC D))=List.map qC (A++B++D):=by
 rw[zae (by simp)];simp
def yafI(x:yRW)(hs:x.small)(hB:(yYP x).length<=1000000000):qB prg 162 [.agg (x.enc.map .c)] (.c (.sl 1 ((yYP x).map qC))):=by
 obtain⟨s1,s2,s3,s4,s5,s6,s7,s8,s9⟩:=hs;have hP:yYP x=x.yR3.flatMap yYR++x.yRX.flatMap yZy++x.yR9.flatMap lG:=rfl;rw[yaai]at hB;refine dB yafm (goQ_ ?_);refine yX2 (λk=>k<=x.yR3.length) (λk=>xC [(1,.box 1 0),(3,.own 10 1 (fl yYR x.yR3 k).length),(4,.c (.i k))] [(1,.box (x.enc.map .c)),(10,.row 1 ((fl yYR x.yR3 k).map qC))]) (λk=>x.yR3.length-k) (by apply aB<;>simp[yZS]) ?_
 rintro k hk
 rcases yX1 k x.yR3 with⟨klt,l,hl⟩|kge
 .have hls:=s4.2 l (zac hl);have hb1:=yaaw (f:=yYR) hl;have e1:=yZA (f:=yYR) hl;refine yaed hl (fC klt) ?_;intro hlen;generalize fl yYR x.yR3 k=A at hb1 e1;refine yX2 (λj=>j<=l.length) (λj=>xC [(1,.box 1 0),(3,.own 10 1 (A++fl yZi l j).length),(4,.c (.i k)),(5,.c (.i j))] [(1,.box (x.enc.map .c)),(10,.row 1 ((A++fl yZi l j).map qC))]) (λj=>l.length-j) (by apply aB<;>simp[yZS]) ?_
  rintro j hj
  rcases yX1 j l with⟨jlt,m,hm⟩|jge
  .have hms:=hls.2 m (zac hm);have hb2:=yaaw (f:=yZi) hm;have hb3:(yYR l).length=(l.flatMap yZi).length:=rfl;have hb4:(yZi m).length=(lG m.yRT).length:=rfl;refine yaeV hl hm (fC klt) (fC jlt) ?_;intro hlen2;refine dD (yaG m.yRT hms) (goQ_ ?_);refine⟨by omega,gB jlt hlen2,j+1,jlt,by omega,?_⟩;apply aB<;>simp[yZA hm,yZi,zbL]
  .refine yaeT (aG jge) hl (fC klt) ?_;intro _;rw[yaay jge];have e2:A++l.flatMap yZi=fl yYR x.yR3 (k+1):=by rw[e1];rfl
   have e3:A.length+(l.flatMap yZi).length=(fl yYR x.yR3 (k+1)).length:=by rw[<-e2];simp only[zah]
   refine⟨gB klt hlen,k+1,klt,by omega,?_⟩;apply aB<;>simp[<-e2]
 refine yafw (aG kge) ?_;intro _;rw[yaay kge];generalize x.yR3.flatMap yYR=B1 at hB hP;refine yX2 (λq=>q<=x.yRX.length) (λq=>xC [(1,.box 1 0),(3,.own 10 1 (B1++fl yZy x.yRX q).length),(6,.c (.i q))] [(1,.box (x.enc.map .c)),(10,.row 1 ((B1++fl yZy x.yRX q).map qC))]) (λq=>x.yRX.length-q) (by apply aB<;>simp[yZS]) ?_
 rintro q hq
 rcases yX1 q x.yRX with⟨qlt,w,hl⟩|qge
 .have hws:=s3.2 w (zac hl);have hb1:=yaaw (f:=yZy) hl;have hb3:(yZy w).length=(w.Calls.flatMap yZc).length+(w.yR0.yRY.flatMap lG).length:=by simp only[yZy,zah]
  have e1:=yZA (f:=yZy) hl;have g1:=(zaa.1 hl).2;refine yaeV hl g1 qlt (fC qlt) ?_;intro hlen;generalize fl yZy x.yRX q=A at hb1 e1;refine yX2 (λj=>j<=w.Calls.length) (λj=>xC [(1,.box 1 0),(3,.own 10 1 (B1++A++fl yZc w.Calls j).length),(6,.c (.i q)),(7,.c (.i j))] [(1,.box (x.enc.map .c)),(10,.row 1 ((B1++A++fl yZc w.Calls j).map qC))]) (λj=>w.Calls.length-j) (by apply aB<;>simp[yZS]) ?_
  rintro j hj
  rcases yX1 j w.Calls with⟨jlt,c,hm⟩|jge
  .have hms:=hws.2.2.2 c (zac hm);have hb2:=yaaw (f:=yZc) hm;have hb4:(yZc c).length=(lG c.yRT).length:=rfl;refine yafq hl hm g1 qlt (fC qlt) (fC jlt) ?_;intro hlen2;refine dD (yaG c.yRT hms) (goQ_ ?_);refine⟨by omega,gB jlt hlen2,j+1,jlt,by omega,?_⟩;apply aB<;>simp[yZA hm,yZc,zbL]
  refine yaff (aG jge) hl (fC qlt) g1 qlt ?_;intro _;rw[yaay jge];have hW:yZy w=w.Calls.flatMap yZc++w.yR0.yRY.flatMap lG:=rfl;generalize w.Calls.flatMap yZc=A2 at hb3 hW;refine yX2 (λi=>i<=w.yR0.yRY.length) (λi=>xC [(1,.box 1 0),(3,.own 10 1 (B1++A++A2++fl lG w.yR0.yRY i).length),(6,.c (.i q)),(8,.c (.i i))] [(1,.box (x.enc.map .c)),(10,.row 1 ((B1++A++A2++fl lG w.yR0.yRY i).map qC))]) (λi=>w.yR0.yRY.length-i) (by apply aB<;>simp[yZS]) ?_
  rintro i hi
  rcases yX1 i w.yR0.yRY with⟨ilt,t,hm⟩|ige
  .have hms:=hws.1.2 t (zac hm);have hb2:=yaaw (f:=lG) hm;refine yafq hl hm g1 qlt (fC qlt) (fC ilt) ?_;intro hlen2;refine dD (yaG t hms) (goQ_ ?_);refine⟨by omega,gB ilt hlen2,i+1,ilt,by omega,?_⟩;apply aB<;>simp[yZA hm,zbL]
  .refine yaff (aG ige) hl (fC qlt) g1 qlt ?_;intro _;rw[yaay ige];have e2:A++A2++w.yR0.yRY.flatMap lG=fl yZy x.yRX (q+1):=by rw[e1,zbh];exact congrArg _ hW.symm
   refine⟨gB qlt hlen,q+1,qlt,by omega,?_⟩;apply aB<;>simp[<-e2,zbL]
 refine yafw (aG qge) ?_;intro _;rw[yaay qge];generalize x.yRX.flatMap yZy=B2 at hB hP;refine yX2 (λp=>p<=x.yR9.length) (λp=>xC [(1,.box 1 0),(3,.own 10 1 (B1++B2++fl lG x.yR9 p).length),(9,.c (.i p))] [(1,.box (x.enc.map .c)),(10,.row 1 ((B1++B2++fl lG x.yR9 p).map qC))]) (λp=>x.yR9.length-p) (by apply aB<;>simp[yZS]) ?_
 rintro p hp
 rcases yX1 p x.yR9 with⟨plt,t,hm⟩|pge
 .have hms:=s5.2 t (zac hm);have hb2:=yaaw (f:=lG) hm;refine yaed hm (fC plt) ?_;intro hlen;refine dD (yaG t hms) (goQ_ ?_);refine⟨by omega,gB plt hlen,p+1,plt,by omega,?_⟩;apply aB<;>simp[yZA hm,zbL]
 .refine yafw (aG pge) ?_;intro _;rw[yaay pge,hP];exact cat3.symm
def yabG(x:yRW)(hs:x.small)(hB:(yYP x).length<=1000000000):nI prg 33 [.agg (x.enc.map .c)] (.c (.ow 1 ((yYP x).map qC))):=by
 obtain⟨s1,s2,s3,s4,s5,s6,s7,s8,s9⟩:=hs;have hP:yYP x=x.yR3.flatMap yYR++x.yRX.flatMap yZy++x.yR9.flatMap lG:=rfl;rw[yaai]at hB;refine fF yaaT (goQ_ ?_);intro hlen;refine jX (k0:=1) 3 1 (by simp) (by simp) (by decide) ?_;refine yX2 (λk=>k<=x.yR3.length) (λk=>xC [(1,.box 1 0),(3,.own 3 1 (fl yYR x.yR3 k).length),(17,.c (.sl 1 (x.yR3.map nD))),(18,.c (.i x.yR3.length)),(19,.c (.i k))] [(1,.box (x.enc.map .c)),(3,.row 1 ((fl yYR x.yR3 k).map qC))]) (λk=>x.yR3.length-k) (by apply aB<;>simp[yZS]) ?_
 rintro k hk
 rcases yX1 k x.yR3 with⟨klt,l,hl⟩|kge
 .have hls:=s4.2 l (zac hl);have hb1:=yaaw (f:=yYR) hl;have e1:=yZA (f:=yYR) hl;refine yaed hl (fC klt) ?_;intro hlen2;generalize fl yYR x.yR3 k=A at hb1 e1;refine yX2 (λj=>j<=l.length) (λj=>xC [(1,.box 1 0),(3,.own 3 1 (A++fl yZi l j).length),(17,.c (.sl 1 (x.yR3.map nD))),(18,.c (.i x.yR3.length)),(19,.c (.i k)),(23,.c (.sl 3 (l.map yR6.enc))),(24,.c (.i l.length)),(25,.c (.i j))] [(1,.box (x.enc.map .c)),(3,.row 1 ((A++fl yZi l j).map qC))]) (λj=>l.length-j) (by apply aB<;>simp[yZS]) ?_
  rintro j hj
  rcases yX1 j l with⟨jlt,m,hm⟩|jge
  .have hms:=hls.2 m (zac hm);have hb2:=yaaw (f:=yZi) hm;have hb3:(yYR l).length=(l.flatMap yZi).length:=rfl;have hb4:(yZi m).length=(lG m.yRT).length:=rfl;refine yaeV hl hm (fC klt) (fC jlt) ?_;refine dD (ya0 m.yRT hms) (goQ_ ?_);refine⟨by omega,gB jlt hlen2,j+1,jlt,by omega,?_⟩;apply aB<;>simp[yZA hm,yZi,zbL]
  .refine yaed (aG jge) hl ?_;rw[yaay jge];have e2:A++l.flatMap yZi=fl yYR x.yR3 (k+1):=by rw[e1];rfl
   have e3:A.length+(l.flatMap yZi).length=(fl yYR x.yR3 (k+1)).length:=by rw[<-e2];simp only[zah]
   refine⟨gB klt hlen,k+1,klt,by omega,?_⟩;apply aB<;>simp[<-e2]
 refine yafw (aG kge) ?_;rw[yaay kge];generalize x.yR3.flatMap yYR=B1 at hB hP;intro hlen;refine yX2 (λq=>q<=x.yRX.length) (λq=>xC [(1,.box 1 0),(3,.own 3 1 (B1++fl yZy x.yRX q).length),(37,.c (.sl 22 (x.yRX.map yR8.enc))),(38,.c (.i x.yRX.length)),(39,.c (.i q))] [(1,.box (x.enc.map .c)),(3,.row 1 ((B1++fl yZy x.yRX q).map qC))]) (λq=>x.yRX.length-q) (by apply aB<;>simp[yZS]) ?_
 rintro q hq
 rcases yX1 q x.yRX with⟨qlt,w,hl⟩|qge
 .have hws:=s3.2 w (zac hl);have hb1:=yaaw (f:=yZy) hl;have hb3:(yZy w).length=(w.Calls.flatMap yZc).length+(w.yR0.yRY.flatMap lG).length:=by simp only[yZy,zah]
  have e1:=yZA (f:=yZy) hl;have g1:=(zaa.1 hl).2;refine yaeV hl g1 qlt (fC qlt) ?_;intro hlen2;generalize fl yZy x.yRX q=A at hb1 e1;refine yX2 (λj=>j<=w.Calls.length) (λj=>xC [(1,.box 1 0),(3,.own 3 1 (B1++A++fl yZc w.Calls j).length),(37,.c (.sl 22 (x.yRX.map yR8.enc))),(38,.c (.i x.yRX.length)),(39,.c (.i q)),(9,.box 9 0),(44,.c (.sl 4 (w.Calls.map yR4.enc))),(45,.c (.i w.Calls.length)),(46,.c (.i j))] [(1,.box (x.enc.map .c)),(3,.row 1 ((B1++A++fl yZc w.Calls j).map qC)),(9,.box (w.enc.map .c))]) (λj=>w.Calls.length-j) (by apply aB<;>simp[yZS]) ?_
  rintro j hj
  rcases yX1 j w.Calls with⟨jlt,c,hm⟩|jge
  .have hms:=hws.2.2.2 c (zac hm);have hb2:=yaaw (f:=yZc) hm;have hb4:(yZc c).length=(lG c.yRT).length:=rfl;refine yafq hl hm g1 qlt (fC qlt) (fC jlt) ?_;refine dD (ya0 c.yRT hms) (goQ_ ?_);refine⟨by omega,gB jlt hlen2,j+1,jlt,by omega,?_⟩;apply aB<;>simp[yZA hm,yZc,zbL]
  refine yaed (aG jge) hl ?_;rw[yaay jge];have hW:yZy w=w.Calls.flatMap yZc++w.yR0.yRY.flatMap lG:=rfl;generalize w.Calls.flatMap yZc=A2 at hb3 hW;intro hlen2;refine yX2 (λi=>i<=w.yR0.yRY.length) (λi=>xC [(1,.box 1 0),(3,.own 3 1 (B1++A++A2++fl lG w.yR0.yRY i).length),(37,.c (.sl 22 (x.yRX.map yR8.enc))),(38,.c (.i x.yRX.length)),(39,.c (.i q)),(58,.c (.sl 2 (w.yR0.yRY.map yRT.enc))),(59,.c (.i w.yR0.yRY.length)),(60,.c (.i i))] [(1,.box (x.enc.map .c)),(3,.row 1 ((B1++A++A2++fl lG w.yR0.yRY i).map qC))]) (λi=>w.yR0.yRY.length-i) (by apply aB<;>simp[yZS]) ?_
  rintro i hi
  rcases yX1 i w.yR0.yRY with⟨ilt,t,hm⟩|ige
  .have hms:=hws.1.2 t (zac hm);have hb2:=yaaw (f:=lG) hm;refine yafq hl hm g1 qlt (fC qlt) (fC ilt) ?_;refine dD (ya0 t hms) (goQ_ ?_);refine⟨by omega,gB ilt hlen2,i+1,ilt,by omega,?_⟩;apply aB<;>simp[yZA hm,zbL]
  .refine yaed (aG ige) hl ?_;rw[yaay ige];have e2:A++A2++w.yR0.yRY.flatMap lG=fl yZy x.yRX (q+1):=by rw[e1,zbh];exact congrArg _ hW.symm
   refine⟨gB qlt hlen,q+1,qlt,by omega,?_⟩;apply aB<;>simp[<-e2,zbL]
 refine yafw (aG qge) ?_;rw[yaay qge];generalize x.yRX.flatMap yZy=B2 at hB hP;intro hlen;refine yX2 (λp=>p<=x.yR9.length) (λp=>xC [(1,.box 1 0),(3,.own 3 1 (B1++B2++fl lG x.yR9 p).length),(71,.c (.sl 2 (x.yR9.map yRT.enc))),(72,.c (.i x.yR9.length)),(73,.c (.i p))] [(1,.box (x.enc.map .c)),(3,.row 1 ((B1++B2++fl lG x.yR9 p).map qC))]) (λp=>x.yR9.length-p) (by apply aB<;>simp[yZS]) ?_
 rintro p hp
 rcases yX1 p x.yR9 with⟨plt,t,hm⟩|pge
 .have hms:=s5.2 t (zac hm);have hb2:=yaaw (f:=lG) hm;refine yaed hm (fC plt) ?_;refine dD (ya0 t hms) (goQ_ ?_);refine⟨by omega,gB plt hlen,p+1,plt,by omega,?_⟩;apply aB<;>simp[yZA hm,zbL]
 .refine yafw (aG pge) ?_;rw[yaay pge,hP];exact cat3.symm
def yZI(x:yRW)(hs:x.small)(hB:(yYP x).length<=1000000000):qB prg 33 [.agg (x.enc.map .c)] (.c (.sl 1 ((yYP x).map qC))):=(yabG x hs hB).pure rfl
end
end Go.Proofs.YtdadkiofenhnbaaGreat
