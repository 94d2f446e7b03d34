/- What functions answer, in plain Lean. -/
import Derived.Test.YtdadkiofenhnbaaGreatT6
set_option linter.all false
set_option maxRecDepth 100000
set_option maxHeartbeats 4000000
namespace Go.Proofs.YtdadkiofenhnbaaGreat
open Go.RowKit
noncomputable section
def yA1(w:yR8)(hs:w.small):qB prg 243 [.agg (w.enc.map .c)] (.c (.b (fJ w))):=by
 refine dB yvV (goQ_ ?_);refine yX4 (λk=>k<=w.Calls.length/\∀c∈w.Calls.take k,jO c=true) (λk=>xC [(1,.box 1 0),(3,.c (.i k))] [(1,.box (w.enc.map .c))]) (λk=>w.Calls.length-k) ?_
 rintro k ⟨hk,hall⟩
 rcases yX1 k w.Calls with⟨hlt,c,hc⟩|hge
 .refine yaed hc (fC hlt) ?_;intro hlen;refine aA (yqK c (hs.2.2.2 c (zac hc))) ?_;cases h7:jO c with
  |false=>refine goQ_ ?_;exact wk7 hc h7
  |true=>
   refine goQ_ ?_;exact⟨gB hlt hlen,k+1,⟨hlt,lD (p:=jO) hc hall h7⟩,by omega,by apply aB<;>simp⟩
 .refine yafw (aG hge) ?_;have h7:=dF (p:=jO) hge hall;intro _;refine⟨λh6=>?_,λh6=>(wk6 (by omega))⟩;have h6':w.Calls.length<=24:=by omega
  refine aA (dV w.yR0 hs.1) ?_;cases h1:lF w.yR0 with
  |false=>refine goQ_ ?_;exact wk1 h1
  |true=>
  refine goQ_ ?_;refine aA (yAj w.ySp) ?_;cases h2:iZ w.ySp with
  |false=>refine goQ_ ?_;exact wk2 h2
  |true=>
  refine goQ_ ?_;refine aA (yzE w.Rule) ?_;cases h3:ya3 w.Rule with
  |false=>refine goQ_ ?_;exact wk3 h3
  |true=>
  refine goQ_ ?_;refine aA (ylL w.Pauses) ?_;cases h4:xO w.Pauses with
  |false=>refine goQ_ ?_;exact wk4 h4
  |true=>
  refine goQ_ ?_;refine aA (yjN w.Turn) (goQ_ ?_);simp[fJ,h1,h2,h3,h4,h6',h7]
def yot:List ySb->Prop:=aW λ_=>True
def ybv:List Reach->Prop:=aW Reach.small
def yhE:List Way->Prop:=aW λ_=>True
def ycw:List yR8->Prop:=aW yR8.small
def ydp:List yR6->Prop:=aW yR6.small
abbrev nD(xs:List yR6):List C:=[.sl 3 (xs.map yR6.enc)]
-- [][]yR6
def yck:List (List yR6)->Prop:=aW ydp
structure yR2 where
 Time:Int
 yR8:Int
 yRT:yRT
 deriving DecidableEq,Inhabited
@[simp] def yR2.enc(e:yR2):List C:=[.i e.Time,.i e.yR8,.b e.yRT.Up,.sl 1 (e.yRT.Rows.map jE)]
-- yR2
def yR2.small(e:yR2):Prop:=e.yRT.small
def ybz:List yR2->Prop:=aW yR2.small
structure yRW where
 Time:Int
 yRV:List Reach
 ySl:List Way
 yRX:List yR8
 yR3:List (List yR6)
 yR9:List yRT
 ySd:List Int
 yRZ:yRZ
 Book:List ySb
 yR1:List yR2
 Start:Int
 In:Int
 Out:Int
 deriving DecidableEq
@[simp] def yRW.enc(e:yRW):List C:=[.i e.Time,.sl 3 (e.yRV.map Reach.enc),.sl 2 (e.ySl.map Way.enc),.sl 22 (e.yRX.map yR8.enc),.sl 1 (e.yR3.map nD),.sl 2 (e.yR9.map yRT.enc),.sl 1 (e.ySd.map qC),.i e.yRZ.Base,.i e.yRZ.ySe,.sl 1 (e.yRZ.yR5.map qC),.sl 1 (e.yRZ.yR7.map qC),.sl 5 (e.Book.map ySb.enc),.sl 4 (e.yR1.map yR2.enc),.i e.Start,.i e.In,.i e.Out]
-- yRW
def yRW.small(e:yRW):Prop:=ybv e.yRV/\yhE e.ySl/\ycw e.yRX/\yck e.yR3/\aJ e.yR9/\ymY e.ySd/\e.yRZ.small/\yot e.Book/\ybz e.yR1
def yF2(es:List ySa)(hl:es.length<=1048576):nI prg 348 [.c (.sl 6 (es.map ySa.enc))] (.c (.ow 6 (es.map ySa.enc))):=by
 refine fF yab ?_;simp -dsimp -implicitDefEqProofs [oQ,jA];omega
def yBT(xs:List (List ySa))(hl:ybE xs):nI prg 253 [.c (.sl 1 (xs.map jE))] (.c (.ot 1 (xs.map jF))):=by
 refine fF yr7 (goQ_ ?_);intro hlen;have hl1:=hl.1;refine ydE (k0:=1) 3 1 (by simp) (by simp) (by decide) ?_;refine yX2 (λk=>k<=xs.length) (λk=>xC [(3,.own 3 1 k),(6,.c (.sl 1 (xs.map jE))),(7,.c (.i xs.length)),(8,.c (.i k))] [(3,.tr 1 0 ((xs.take k).map jF))]) (λk=>xs.length-k) (by apply aB<;>simp[Obj.leO]) ?_
 rintro k hk
 rcases yX1 k xs with⟨hlt,e,he⟩|hge
 .have hs:xs.take (k+1)=xs.take k++[e]:=by rw[zao,he];rfl
  refine yaed he (fC hlt) ?_;refine sD (yF2 e (hl.2 e (zac he)).1) (by simp) (by simp[AV.closed,AV.jI,C.closed]) (by simp[fD]) (yafv (Nat.min_eq_left hk) ?_);refine⟨by omega,gB hlt hlen,k+1,hlt,by omega,?_⟩;have hs2:(xs.map jF).take (k+1)=(xs.map jF).take k++[[.ow 6 (e.map ySa.enc)]]:=by rw[<-zbl,<-zbl,hs,zaD];rfl
  apply aB<;>simp[Obj.leO,hs2]
 .have:k=xs.length:=by omega
  subst this;refine goT_ ?_
  try simp
def yaU(e:yRT)(hl:yRT.small e):nI prg 155 [.agg (e.enc.map .c)] (.agg (e.iD.map .c)):=by
 refine fF ypv (goQ_ ?_);refine pJ (yBT e.Rows hl) (by simp) (by simp[AV.closed,AV.jI,C.closed,jF]) (by simp[fD]) ?_;exact goU_
def yV0(t:yRT)(d:Int):0<=yTs t d/\yTs t d<=51:=by
 have:=yU7 t;unfold yTs;split
 .split
  .rw[zaG (by omega)];omega
  .omega
 .omega
def yVE{m:yR6}{w:Way}(h:xN m w=true):(1<=w.Long/\w.Long<=10000)/\(0<=m.Place/\m.Place<=w.Long):=by
 simp only[xN,zad]at h;exact⟨(yVz h.1.1).1,aC.1 h.2⟩
def yUF(m:yR6)(w:Way)(r:Reach):Int:=
 if m.yRT.Up then(if 0<m.Place-yTs m.yRT (yTp w r)then m.Place-yTs m.yRT (yTp w r)else 0)
 else if m.Place+yTs m.yRT (yTp w r)<w.Long then m.Place+yTs m.yRT (yTp w r)else w.Long
def yS7(m:yR6)(w:Way)(r:Reach):yR6:=if xN m w&&xE r then⟨m.yRT,yUF m w r⟩else m
def yXR(m:yR6)(w:Way)(r:Reach)(hm:m.small):qB prg 173 [.agg (m.enc.map .c),.agg (w.enc.map .c),.agg (r.enc.map .c)] (.agg ((yS7 m w r).enc.map .c)):=by
 refine dB yWw (goQ_ ?_);refine aA (yym m w hm) ?_;cases h1:xN m w with
 |false=>simp -dsimp -implicitDefEqProofs;simp[yS7,h1]
 | true=>
  refine goQ_ ?_;refine aA (oL r) ?_;cases h2:xE r with
  |false=>simp -dsimp -implicitDefEqProofs;simp[yS7,h2]
  | true=>
   refine goQ_ ?_;refine lC (yWO w r) (goQ_ ?_);refine lC (yW5 m.yRT (yTp w r) hm) ?_;have hp:=yV0 m.yRT (yTp w r);have hf:=yVE h1;cases hu:m.yRT.Up with
   |true=>
    refine yafw hu ?_;refine⟨by unfold inI;omega,?_⟩;simp[yS7,h1,h2,yUF,hu]
   |false=>
    refine yafw hu ?_;refine⟨by unfold inI;omega,?_⟩;simp[yS7,h1,h2,yUF,hu]
def yWg{m:yR6}{w:Way}{r:Reach}:(yS7 m w r).yRT=m.yRT:=by unfold yS7;split<;>rfl
def iW{k:Nat}{xs:List X}{s:St}:wOf (.bsl k xs) s=(xs.map s.ev).flatMap AV.ids:=rfl
def ypY(e:yRT)(hl:yRT.small e):nI prg 71 [.agg (e.enc.map .c)] (.agg (e.iD.map .c)):=by
 refine fF ytC (goQ_ ?_);have hl1:=hl.1
 refine qA (ι:=Nat) (λk=>k<=e.Rows.length) (λk=>match k with
  |0=>xC [(1,.box 1 0),(2,.box 2 0),(3,.box 3 0),(4,.c (.i 0))] [(1,.box [.c (.b e.Up),.c (.sl 1 (e.Rows.map jE))]),(2,.box [.c (.b false),.nil 1]),(3,.box [.c (.b e.Up),.nil 1])]
  |k+1=>xC [(1,.box 1 0),(2,.box 2 0),(3,.box 3 0),(4,.c (.i (k+1)))] [(1,.box [.c (.b e.Up),.c (.sl 1 (e.Rows.map jE))]),(2,.box [.c (.b false),.nil 1]),(3,.box [.c (.b e.Up),.own 25 1 (k+1)]),(25,.tr 1 0 ((e.Rows.map jF).take (k+1)))]) (λk=>e.Rows.length-k) 0 (by simp) (by apply aB<;>simp[Obj.leO]) ?_
 rintro k hk
 rcases k with _|k
 .rcases zas 0 e.Rows.length with hlt|hge
  .obtain⟨r,he⟩:∃r,e.Rows[0]?=some r:=⟨_,zab hlt⟩;have h0:(0<e.Rows.length)=True:=by simpa using hlt
   have hgr:e.Rows[0]=r:=(zaa.1 he).2;have hrl:=(hl.2 r (zac he)).1;simp -dsimp -implicitDefEqProofs [he,h0,hgr,jA,iW];intro hlen;refine⟨by omega,by unfold inI;omega,1,hlt,by omega,?_⟩
   have hs2:(e.Rows.map jF).take 1=[[.ow 6 (r.map ySa.enc)]]:=by
    obtain⟨y,l,hy⟩:∃y l,e.Rows=y::l:=by cases hr:e.Rows with|nil=>rw[hr]at hlt;simp at hlt|cons y l=>exact⟨y,l,rfl⟩
    rw[hy]at he|-;simp at he;subst he;rfl
   apply aB<;>simp[Obj.leO,hs2]
  .have hx:e.Rows=[]:=zay.1 (by omega);have h0:(0<e.Rows.length)=False:=by simp[hx]
   refine yafw h0 ?_;simp[hx]
 .rcases zas (k+1) e.Rows.length with hlt|hge
  .obtain⟨r,he⟩:∃r,e.Rows[k+1]?=some r:=⟨_,zab hlt⟩;have h0:((k:Int)+1<e.Rows.length)=True:=by simp;omega
   have h1:(0<=(k:Int)+1)=True:=by simp;omega
   have h2:((k:Int)+1).toNat=k+1:=by omega
   have hrl:=(hl.2 r (zac he)).1;simp -dsimp -implicitDefEqProofs [he,h0,h1,h2,jA,iW];intro hlen;refine⟨by omega,by omega,by omega,by unfold inI;omega,k+2,hlt,by omega,?_⟩
   have hs2:(e.Rows.map jF).take (k+2)=(e.Rows.map jF).take (k+1)++[[.ow 6 (r.map ySa.enc)]]:=by
    rw[zao,zau,he];rfl
   apply aB<;>simp[Obj.leO,hs2]<;>omega
  .have h0:((k:Int)+1<e.Rows.length)=False:=by simp;omega
   have hx:e.Rows.length=k+1:=by omega
   refine yafw h0 ?_;intro _;have e1:(e.Rows.map jF).take (k+1)=e.Rows.map jF:=zae (by simp;omega);simp[e1]
def ybP(e:yRT)(hl:yRT.small e):qB prg 71 [.agg (e.enc.map .c)] (.agg (e.enc.map .c)):=(ypY e hl).pure (by simp[AV.shr,AV.yoE,dO,C.shr,eF yI])
def mkEn(k:Int):List C:=[.i k,.i (k+1),.i (k+1+1),.i (k+1+1+1),.i (k+1+1+1+1)]
@[simp] def yRZ.iD(e:yRZ):List C:=[.i e.Base,.i e.ySe,.ow 1 (e.yR5.map qC),.ow 1 (e.yR7.map qC)]
def nT(e:yRZ):Int:=e.yR5.length+e.yR7.length
def ye4(r:Reach):Int:=if xE r then sZ r else 0
def ySA(l:List Reach):Int:=(l.map sZ).sum
def jY(l:List Reach):Bool:=decide (1<=l.length)&&decide (l.length<=6)&&l.all xE&&decide (ySA l<=1000000000)
def yYJ(l:List Reach):Int:=if jY l then ySA l else 0
def yav(l:List Reach)(k:Nat):Int:=ySA (l.take k)
def yg2{l:List Reach}:yav l 0=0:=rfl
def yg7{l:List Reach}{k:Nat}{r:Reach}(h:l[k]?=some r):yav l (k+1)=yav l k+sZ r:=by
 unfold yav ySA;rw[zao,h];simp
def ycL{l:List Reach}{k:Nat}(h:l.length<=k):yav l k=ySA l:=by unfold yav;rw[zae h]
structure yST(r:Reach):Prop where
 vol:amount r.ySh=true
 len:r.ySk.length<=12
 amt:∀n∈r.ySk,amount n=true
 rng:0<=sZ r/\sZ r<=1000000000
def yF{r:Reach}(h:xE r=true):yST r:=by
 simp only[xE,zad,decide_eq_true_eq,zaf]at h;obtain⟨⟨⟨⟨h1,h2⟩,h3⟩,h4⟩,h5⟩:=h;refine⟨h2,h3,h4,?_,h5⟩;have a1:=aC.1 (show inRange r.ySh 0 1000000000=true from h2);have a2:=ymV (l:=r.ySk) h4;unfold sZ;omega
def yfj{l:List Reach}:∀{k:Nat},(∀r∈l.take k,xE r=true)->0<=yav l k/\yav l k<=1000000000*k
 |0,_=>by rw[yg2];omega
 | k+1,h=>by
  have ih:=yfj (k:=k) λr hr=>h r (by rw[zao];exact zbi _ hr);have e2:((k+1:Nat):Int)=k+1:=by simp
  cases hk:l[k]? with
  |none=>
   have hl:l.length<=k:=by simpa using hk
   rw[ycL (by omega),<-ycL hl];omega
  |some r=>
   have:=(yF (h r (by rw[zao,hk];exact zaQ _ (by simp)))).rng;rw[yg7 hk];omega
def yabt{l:List Reach}(h:jY l=false):yYJ l=0:=by simp[yYJ,h]
def yuO{l:List Reach}{k:Nat}{r:Reach}(h:l[k]?=some r)(hr:xE r=false):jY l=false:=by
 have:=all_false (p:=xE) h hr;simp[jY,this]
def yn0(r:Reach):qB prg 200 [.agg (r.enc.map .c)] (.c (.i (ye4 r))):=by
 refine dB ysw ?_;simp;refine aA (oL r) ?_;cases h:xE r with
 |false=>simp;simp[ye4,h]
 |true=>
 have f:=yF h;have hl:=f.len;have hv:=aC.1 (show inRange r.ySh 0 1000000000=true from f.vol);have ht:ye4 r=sZ r:=by simp[ye4,h]
 simp[ht];intro hlen;refine yX2 (λk=>k<=r.ySk.length) (λk=>xC [(3,.c (.i (r.ySh+sumTo r.ySk k))),(12,.c (.sl 1 (r.ySk.map qC))),(13,.c (.i r.ySk.length)),(14,.c (.i k))] []) (λk=>r.ySk.length-k) (by apply aB<;>simp[aY]) ?_
 rintro k hk
 rcases yX1 k r.ySk with⟨hlt,x,hx⟩|hge
 .have e1:=nV hx;have b1:=yqW f.amt hl (k+1);rw[e1]at b1;simp[hx,fC hlt];refine⟨by unfold inI;omega,gB hlt hlen,k+1,hlt,by omega,?_⟩;apply aB<;>simp[e1];omega
 .simp[aG hge];rw[yb4 hge,ht];rfl
def yyA(l:List Reach):qB prg 199 [.c (.sl 3 (l.map Reach.enc))] (.c (.b (jY l))):=by
 refine dB ysA ?_;simp
 refineλhlen=>⟨λh1=>?_,λh1=>?_⟩
 rotate_left
 .simp[jY];omega
 refineλ_=>⟨λh6=>by simp[jY];omega,λh6=>?_⟩
 refineλ_=>qA (ι:=Nat) (λk=>k<=l.length/\∀r∈l.take k,xE r=true) (λk=>xC [(3,.c (.i (yav l k))),(14,.c (.sl 3 (l.map Reach.enc))),(15,.c (.i l.length)),(16,.c (.i k))] []) (λk=>l.length-k) 0 (by simp) (by apply aB<;>simp[yg2]) ?_
 rintro k ⟨hk,hall⟩
 rcases yX1 k l with⟨hlt,r,hr⟩|hge
 .simp[hr,fC hlt];refine aA (oL r) ?_;cases h:xE r with
  |false=>simp;exact yuO hr h
  |true=>
   have ht:ye4 r=sZ r:=by simp[ye4,h]
   have hall':=lD (p:=xE) hr hall h;have hb:=yfj hall';have e1:=yg7 hr;simp;refine aA (yn0 r) ?_;simp[ht];refine⟨by rw[e1]at hb;unfold inI;omega,gB hlt hlen,k+1,⟨hlt,hall'⟩,by omega,?_⟩;apply aB<;>simp[e1]
 .have hall2:=dF (p:=xE) hge hall;simp[aG hge];rw[ycL hge];have a1:1<=l.length:=by omega
  have a2:l.length<=6:=by omega
  simp[jY,a1,a2,hall2]
structure ySL(l:List Reach):Prop where
 len:1<=l.length/\l.length<=6
 ok:∀r∈l,xE r=true
 rng:0<=ySA l/\ySA l<=1000000000
def ynr{l:List Reach}(h:jY l=true):ySL l:=by
 simp only[jY,zad,decide_eq_true_eq,zaf]at h;obtain⟨⟨⟨h1,h2⟩,h3⟩,h4⟩:=h;have:=yfj (l:=l) (k:=l.length) (by rw[zby];exact h3);rw[ycL (Nat.le_refl _)]at this;exact⟨⟨h1,h2⟩,h3,this.1,h4⟩
def yaaU(l:List Reach):qB prg 79 [.c (.sl 3 (l.map Reach.enc))] (.c (.i (yYJ l))):=by
 refine dB yaae ?_;simp;refine aA (yyA l) ?_;cases h:jY l with
 |false=>simp;rw[yabt h]
 |true=>
 have f:=ynr h;have ht:yYJ l=ySA l:=by simp[yYJ,h]
 simp[ht];intro hlen;refine yX2 (λk=>k<=l.length) (λk=>xC [(3,.c (.i (yav l k))),(9,.c (.sl 3 (l.map Reach.enc))),(10,.c (.i l.length)),(11,.c (.i k))] []) (λk=>l.length-k) (by apply aB<;>simp[yg2]) ?_
 rintro k hk
 rcases yX1 k l with⟨hlt,r,hr⟩|hge
 .have h2:ye4 r=sZ r:=by simp[ye4,f.ok r (zac hr)]
  have hb:=yfj (l:=l) (k:=k+1) λx hx=>f.ok x (zaw hx);have e1:=yg7 hr;have hl6:=f.len;simp[hr,fC hlt];refine aA (yn0 r) ?_;simp[h2];refine⟨by rw[e1]at hb;unfold inI;omega,gB hlt hlen,k+1,hlt,by omega,?_⟩;apply aB<;>simp[e1]
 .simp[aG hge];rw[ycL hge,ht]
def yiK(l:List Reach)(k:Nat):Int:=if 1000000001<yav l k then 1000000001 else yav l k
def yCF{l:List Reach}:yiK l 0=0:=by simp[yiK,yg2]
def yBZ{l:List Reach}{k:Nat}{r:Reach}(h:l[k]?=some r)(hr:0<=sZ r):(if 1000000001<yiK l k+sZ r then 1000000001 else yiK l k+sZ r)=yiK l (k+1):=by
 unfold yiK;rw[yg7 h]
 (repeat' split)<;>omega
def yED{l:List Reach}{k:Nat}(h:∀r∈l.take k,xE r=true):0<=yiK l k/\yiK l k<=1000000001:=by
 have:=yfj h;unfold yiK;split<;>omega
def yyq(l:List Reach):qB prg 241 [.c (.sl 3 (l.map Reach.enc))] (.c (.b (jY l))):=by
 refine dB yvl ?_;simp;refine yX2 (λk=>k<=l.length/\∀r∈l.take k,xE r=true) (λk=>xC [(0,.c (.sl 3 (l.map Reach.enc))),(3,.c (.i (yiK l k))),(4,.c (.i k))] []) (λk=>l.length-k) (by apply aB<;>simp[yCF]) ?_
 rintro k ⟨hk,hall⟩
 rcases yX1 k l with⟨hlt,r,hr⟩|hge
 .simp[hr,fC hlt];intro hlen;refine aA (qN r) ?_;cases h:xE r with
  |false=>simp;exact yuO hr h
  |true=>
   have f:=yF h;have hall':=lD (p:=xE) hr hall h;have hb:=yED hall;have hs:=f.rng;have e1:=yBZ hr hs.1;simp[hr,fC hlt];refine aA (yuT r f.vol f.len f.amt) ?_;simp[e1];refine⟨by unfold inI;omega,gB hlt hlen,k+1,⟨hlt,hall'⟩,by omega,?_⟩;apply aB<;>simp[e1]
 .have hall2:=dF (p:=xE) hge hall;simp[aG hge];intro hlen;refine aA (bC l.length 1 6) ?_;have hr:yav l k=ySA l:=ycL hge
  have hc:(yiK l k<=1000000000)=(ySA l<=1000000000):=by
   unfold yiK;rw[hr];apply propext;split<;>omega
  have hrng:inRange (l.length:Int) 1 6=(decide (1<=l.length)&&decide (l.length<=6)):=by
   rw[Bool.eq_iff_iff,aC];simp only[zad,decide_eq_true_eq];omega
  cases h1:inRange (l.length:Int) 1 6 with
  |false=>simp;rw[jY,<-hrng,h1];simp
  |true=>
   simp;rw[jY,<-hrng,h1];simp[hall2,hc]
def yaaS(l:List Reach):qB prg 139 [.c (.sl 3 (l.map Reach.enc))] (.c (.i (yYJ l))):=by
 refine dB yaap ?_;simp;refine yX2 (λk=>k<=l.length/\(k≠0->jY l=true)) (λk=>xC [(0,.c (.sl 3 (l.map Reach.enc))),(3,.c (.i (yav l k))),(4,.c (.i k))] []) (λk=>l.length-k) (by apply aB<;>simp[yg2]) ?_
 rintro k ⟨hk,hok⟩
 rcases yX1 k l with⟨hlt,r,hr⟩|hge
 .simp[hr,fC hlt];intro hlen;refine aA (yyq l) ?_;cases h:jY l with
  | false=>
   have:k=0:=by
    rcases zaB k with e|e
    .exact e
    .have:=hok (by omega);rw[h]at this;cases this
   subst this;simp;rw[yabt h,yg2]
  |true=>
   have f:=ynr h;have sf:=yF (f.ok r (zac hr));have hb:=yfj (l:=l) (k:=k+1) λx hx=>f.ok x (zaw hx);have e1:=yg7 hr;have hl6:=f.len;simp[hr,fC hlt];refine aA (yuT r sf.vol sf.len sf.amt) ?_;simp;refine⟨by rw[e1]at hb;unfold inI;omega,gB hlt hlen,k+1,by first|exact⟨hlt,λ_=>h⟩|exact hlt,by omega,?_⟩;apply aB<;>simp[e1]
 .simp[aG hge];intro _;cases h:jY l with
  |true=>rw[ycL hge];simp[yYJ,h]
  | false=>
   have:k=0:=by
    rcases zaB k with e|e
    .exact e
    .have:=hok (by omega);rw[h]at this;cases this
   subst this;rw[yabt h,yg2]
def jS(p:Way×List yR6):Bool:=ykM p.1&&decide (p.2.length<=24)&&p.2.all λm=>xN m p.1
def sJ(x:yRW):Bool:=jY x.yRV&&decide (2<=x.yRV.length)&&decide (x.ySl.length=x.yRV.length)&&decide (x.yR3.length=x.yRV.length)&&decide (x.yRX.length+1=x.yRV.length)&&
 (x.ySl.zip x.yR3).all jS&&x.yRX.all fJ
def yJC{w:Way}{ms:List yR6}(h:ykM w=false):jS (w,ms)=false:=by simp[jS,h]
def yJj{w:Way}{ms:List yR6}(h:24<ms.length):jS (w,ms)=false:=by simp[jS];omega
def yHJ{w:Way}{ms:List yR6}{k:Nat}{m:yR6}(h:ms[k]?=some m)(hm:xN m w=false):jS (w,ms)=false:=by
 have:=all_false (p:=λm=>xN m w) h hm;simp[jS,this]
def yay{x:yRW}{k:Nat}{w:Way}{ms:List yR6}(h1:x.ySl[k]?=some w)(h2:x.yR3[k]?=some ms)(h:jS (w,ms)=false):sJ x=false:=by
 have:=all_false (p:=jS) (l:=x.ySl.zip x.yR3) (k:=k) (zbK.2 ⟨h1,h2⟩) h;simp[sJ,this]
def ytm{x:yRW}{k:Nat}{w:yR8}(h1:x.yRX[k]?=some w)(h:fJ w=false):sJ x=false:=by
 have:=all_false (p:=fJ) h1 h;simp[sJ,this]
def pno2{x:yRW}(h:¬2<=x.yRV.length):sJ x=false:=by simp[sJ,h]
def pno3{x:yRW}(h:¬x.ySl.length=x.yRV.length):sJ x=false:=by simp[sJ,h]
def pno4{x:yRW}(h:¬x.yR3.length=x.yRV.length):sJ x=false:=by simp[sJ,h]
def pno5{x:yRW}(h:¬x.yRX.length+1=x.yRV.length):sJ x=false:=by simp[sJ,h]
def yyU(x:yRW)(hs:x.small):qB prg 144 [.agg (x.enc.map .c)] (.c (.b (sJ x))):=by
 have hsM:=hs.2.2.2.1;have hsW:=hs.2.2.1;refine dB yuL ?_;simp;intro hlen;refine aA (yyA x.yRV) ?_;cases h1:jY x.yRV with
 |false=>simp;simp[sJ,h1]
 |true=>
 simp;refine⟨λh2=>?_,λh2=>(pno2 (by omega))⟩;intro _;refine⟨λh3=>?_,λh3=>(pno3 (by omega))⟩;intro _;refine⟨λh4=>?_,λh4=>(pno4 (by omega))⟩
 refineλ_=>⟨by unfold maxLen at hlen;unfold inI;omega,?_⟩
 refine⟨λh5=>(pno5 (by omega)),λh5=>?_⟩;have h3':x.ySl.length=x.yRV.length:=by omega
 have h4':x.yR3.length=x.yRV.length:=by omega
 have hz:(x.ySl.zip x.yR3).length=x.ySl.length:=by rw[List.length_zip];omega
 refineλhlw=>qA (ι:=Nat) (λk=>k<=x.ySl.length/\∀p∈(x.ySl.zip x.yR3).take k,jS p=true) (λk=>xC [(1,.box 1 0),(44,.c (.sl 2 (x.ySl.map Way.enc))),(45,.c (.i x.ySl.length)),(46,.c (.i k))] [(1,.box (x.enc.map .c))]) (λk=>x.ySl.length-k) 0 (by simp) (by apply aB<;>simp) ?_
 rintro k ⟨hk,hall⟩
 rcases yX1 k x.ySl with⟨hlt,w,hw⟩|hge
 .obtain⟨ms,hm⟩:∃w,x.yR3[k]?=some w:=⟨_,zab (by omega)⟩;have hkm:k<x.yR3.length:=by omega
  have gm:=(zaa.1 hm).2;have gw:=(zaa.1 hw).2;have hp:(x.ySl.zip x.yR3)[k]?=some (w,ms):=zbK.2 ⟨hw,hm⟩;have hsm:=hsM.2 ms (zac hm);simp[hw,gw,fC hlt,hlt];refine aA (ysY w) ?_;cases h6:ykM w with
  |false=>simp;exact yay hw hm (yJC h6)
  |true=>
  simp[hm,gm,hkm,fC hkm];intro hlm;refine⟨λh7=>(yay hw hm (yJj (by omega))),λh7=>?_⟩
  refineλ_=>qA (ι:=Nat) (λi=>i<=ms.length/\∀m∈ms.take i,xN m w=true) (λi=>xC [(1,.box 1 0),(5,.box 5 0),(44,.c (.sl 2 (x.ySl.map Way.enc))),(45,.c (.i x.ySl.length)),(46,.c (.i k)),(67,.c (.sl 3 (ms.map yR6.enc))),(68,.c (.i ms.length)),(69,.c (.i i))] [(1,.box (x.enc.map .c)),(5,.box (w.enc.map .c))]) (λi=>ms.length-i) 0 (by simp) (by apply aB<;>simp) ?_
  rintro i ⟨hi,hall2⟩
  rcases yX1 i ms with⟨hlt2,m,hmm⟩|hge2
  .have g2:=(zaa.1 hmm).2;simp[hmm,g2,fC hlt2,hlt2];refine aA (yym m w (hsm.2 m (zac hmm))) ?_;cases h8:xN m w with
   |false=>simp;exact yay hw hm (yHJ hmm h8)
   |true=>
    simp;refine⟨gB hlt2 hlm,i+1,⟨hlt2,lD (p:=λm=>xN m w) hmm hall2 h8⟩,by omega,?_⟩;apply aB<;>simp
  .have h9:=dF (p:=λm=>xN m w) hge2 hall2
   have hlane:jS (w,ms)=true:=by
    have:ms.length<=24:=by omega
    simp[jS,h6,this,h9]
   simp[aG hge2];refine⟨gB hlt hlw,k+1,⟨hlt,λa b hab=>lD (p:=jS) hp hall hlane (a,b) hab⟩,by omega,?_⟩;apply aB<;>simp
 .have hl:=dF (p:=jS) (by rw[hz];exact hge) hall;simp[aG hge]
  refineλhlk=>qA (ι:=Nat) (λi=>i<=x.yRX.length/\∀w∈x.yRX.take i,fJ w=true) (λi=>xC [(1,.box 1 0),(80,.c (.sl 22 (x.yRX.map yR8.enc))),(81,.c (.i x.yRX.length)),(82,.c (.i i))] [(1,.box (x.enc.map .c))]) (λi=>x.yRX.length-i) 0 (by simp) (by apply aB<;>simp) ?_
  rintro i ⟨hi,hall2⟩
  rcases yX1 i x.yRX with⟨hlt2,w,hw⟩|hge2
  .have g2:=(zaa.1 hw).2;simp[hw,g2,fC hlt2,hlt2];refine aA (yAQ w (hsW.2 w (zac hw))) ?_;cases h8:fJ w with
   |false=>simp;exact ytm hw h8
   |true=>
    simp;refine⟨gB hlt2 hlk,i+1,⟨hlt2,lD (p:=fJ) hw hall2 h8⟩,by omega,?_⟩;apply aB<;>simp
  .have h9:=dF (p:=fJ) hge2 hall2;simp[aG hge2];have h2':2<=x.yRV.length:=by omega
   have h5':x.yRX.length+1=x.yRV.length:=by omega
   simp[sJ,h1,h2',h3',h4',h5',hl,h9]
def yt(n:Nat)(p:yR2):Bool:=inRange p.Time 0 1000000&&inRange p.yR8 0 (n-1)&&oC p.yRT
def pO(x:yRW):Bool:=decide (x.yR9.length<=500)&&decide (x.ySd.length<=2000)&&decide (x.yR1.length<=500)&&x.yR9.all oC&&x.ySd.all (λn=>inRange n 1 9999)&&x.yR1.all (yt x.yRX.length)
def rC(x:yRW):Bool:=inRange x.Time 0 1000000&&sJ x&&pO x&&nH x.yRZ&&kU x.Book&&inRange x.Start 0 1000000000&&inRange x.In 0 1000000000&&inRange x.Out 0 1000000000
def lno1{x:yRW}(h:¬x.yR9.length<=500):pO x=false:=by simp[pO,h]
def lno2{x:yRW}(h:¬x.ySd.length<=2000):pO x=false:=by simp[pO,h]
def lno3{x:yRW}(h:¬x.yR1.length<=500):pO x=false:=by simp[pO,h]
def lno4{x:yRW}{k:Nat}{t:yRT}(h1:x.yR9[k]?=some t)(h:oC t=false):pO x=false:=by
 have:=all_false (p:=oC) h1 h;simp[pO,this]
def lno5{x:yRW}{k:Nat}{t:Int}(h1:x.ySd[k]?=some t)(h:inRange t 1 9999=false):pO x=false:=by
 have:=all_false (p:=λn=>inRange n 1 9999) h1 h;simp[pO,this]
def yEq{x:yRW}{k:Nat}{t:yR2}(h1:x.yR1[k]?=some t)(h:yt x.yRX.length t=false):pO x=false:=by
 have:=all_false (p:=yt x.yRX.length) h1 h;simp[pO,this]
def wno{x:yRW}(h:pO x=false):rC x=false:=by simp[rC,h]
def yis(x:yRW)(hs:x.small):qB prg 53 [.agg (x.enc.map .c)] (.c (.b (rC x))):=by
 have hsA:=hs.2.2.2.2.1;have hsP:=hs.2.2.2.2.2.2.2.2;refine dB ynT ?_;simp;refine aA (iC x.Time 0 1000000) ?_;cases h1:inRange x.Time 0 1000000 with
 |false=>simp;simp[rC,h1]
 |true=>
 simp;refine aA (yyU x hs) ?_;cases h2:sJ x with
 |false=>simp;simp[rC,h2]
 |true=>
 simp;intro hlA;refine⟨λh3=>?_,λh3=>(wno (lno1 (by omega)))⟩;intro hlE;refine⟨λh4=>?_,λh4=>(wno (lno2 (by omega)))⟩;intro hlP;refine⟨λh5=>(wno (lno3 (by omega))),λh5=>?_⟩
 refineλ_=>qA (ι:=Nat) (λk=>k<=x.yR9.length/\∀t∈x.yR9.take k,oC t=true) (λk=>xC [(1,.box 1 0),(37,.c (.sl 2 (x.yR9.map yRT.enc))),(38,.c (.i x.yR9.length)),(39,.c (.i k))] [(1,.box (x.enc.map .c))]) (λk=>x.yR9.length-k) 0 (by simp) (by apply aB<;>simp) ?_
 rintro k ⟨hk,hall⟩
 rcases yX1 k x.yR9 with⟨hlt,t,ht⟩|hge
 .simp[ht,fC hlt];refine aA (gK t (hsA.2 t (zac ht))) ?_;cases h6:oC t with
  |false=>simp;exact wno (lno4 ht h6)
  |true=>
   simp;refine⟨gB hlt hlA,k+1,⟨hlt,lD (p:=oC) ht hall h6⟩,by omega,?_⟩;apply aB<;>simp
 have hA:=dF (p:=oC) hge hall;simp[aG hge]
 refineλ_=>qA (ι:=Nat) (λk=>k<=x.ySd.length/\∀t∈x.ySd.take k,inRange t 1 9999=true) (λk=>xC [(1,.box 1 0),(48,.c (.sl 1 (x.ySd.map qC))),(49,.c (.i x.ySd.length)),(50,.c (.i k))] [(1,.box (x.enc.map .c))]) (λk=>x.ySd.length-k) 0 (by simp) (by apply aB<;>simp) ?_
 clear hall hk hge k
 rintro k ⟨hk,hall⟩
 rcases yX1 k x.ySd with⟨hlt,t,ht⟩|hge
 .simp[ht,fC hlt];refine aA (iC t 1 9999) ?_;cases h6:inRange t 1 9999 with
  |false=>simp;exact wno (lno5 ht h6)
  |true=>
   simp;refine⟨gB hlt hlE,k+1,⟨hlt,lD (p:=λn=>inRange n 1 9999) ht hall h6⟩,by omega,?_⟩;apply aB<;>simp
 have hE:=dF (p:=λn=>inRange n 1 9999) hge hall;simp[aG hge]
 refineλ_=>qA (ι:=Nat) (λk=>k<=x.yR1.length/\∀t∈x.yR1.take k,yt x.yRX.length t=true) (λk=>xC [(1,.box 1 0),(59,.c (.sl 4 (x.yR1.map yR2.enc))),(60,.c (.i x.yR1.length)),(61,.c (.i k))] [(1,.box (x.enc.map .c))]) (λk=>x.yR1.length-k) 0 (by simp) (by apply aB<;>simp) ?_
 clear hall hk hge k
 rintro k ⟨hk,hall⟩
 rcases yX1 k x.yR1 with⟨hlt,t,ht⟩|hge
 .simp[ht,fC hlt];refine aA (iC t.Time 0 1000000) ?_;cases h6:inRange t.Time 0 1000000 with
  |false=>simp;exact wno (yEq ht (by simp[yt,h6]))
  |true=>
  simp
  refineλhlW=>⟨by unfold maxLen at hlW;unfold inI;omega,?_⟩
  refine aA (iC t.yR8 0 (x.yRX.length-1)) ?_;cases h7:inRange t.yR8 0 (x.yRX.length-1)with
  |false=>simp;exact wno (yEq ht (by simp[yt,h7]))
  |true=>
  simp;refine aA (gK t.yRT (hsP.2 t (zac ht))) ?_;cases h8:oC t.yRT with
  |false=>simp;exact wno (yEq ht (by simp[yt,h8]))
  |true=>
  simp;refine⟨gB hlt hlP,k+1,⟨hlt,lD (p:=yt x.yRX.length) ht hall (by simp[yt,h6,h7,h8])⟩,by omega,?_⟩;apply aB<;>simp
 have hP:=dF (p:=yt x.yRX.length) hge hall;simp[aG hge];refine aA (yfw x.yRZ) ?_;cases h7:nH x.yRZ with
 |false=>simp;simp[rC,h7]
 |true=>
 simp;refine aA (ykw x.Book) ?_;cases h8:kU x.Book with
 |false=>simp;simp[rC,h8]
 |true=>
 simp;refine aA (iC x.Start 0 1000000000) ?_;cases h9:inRange x.Start 0 1000000000 with
 |false=>simp;simp[rC,h9]
 |true=>
 simp;refine aA (iC x.In 0 1000000000) ?_;cases h10:inRange x.In 0 1000000000 with
 |false=>simp;simp[rC,h10]
 |true=>
 simp;refine aA (iC x.Out 0 1000000000) ?_;simp;have a3:x.yR9.length<=500:=by omega
 have a4:x.ySd.length<=2000:=by omega
 have a5:x.yR1.length<=500:=by omega
 have hl:pO x=true:=by simp only[pO,a3,a4,a5,hA,hE,hP];simp
 simp[rC,h1,h2,h7,h8,h9,h10,hl]
def yBx(x:yRW)(hs:x.small):qB prg 140 [.agg (x.enc.map .c)] (.c (.b (sJ x))):=by
 have hsM:=hs.2.2.2.1;have hsW:=hs.2.2.1;refine dB yry ?_;simp;intro hlen;refine aA (yyq x.yRV) ?_;cases h1:jY x.yRV with
 |false=>simp;simp[sJ,h1]
 |true=>
 simp;refine⟨λh2=>?_,λh2=>(pno2 (by omega))⟩;intro _;refine⟨λh3=>?_,λh3=>(pno3 (by omega))⟩;intro _;refine⟨λh4=>?_,λh4=>(pno4 (by omega))⟩
 refineλ_=>⟨by unfold maxLen at hlen;unfold inI;omega,?_⟩
 refine⟨λh5=>(pno5 (by omega)),λh5=>?_⟩;have h3':x.ySl.length=x.yRV.length:=by omega
 have h4':x.yR3.length=x.yRV.length:=by omega
 have h5':x.yRX.length+1=x.yRV.length:=by omega
 have hz:(x.ySl.zip x.yR3).length=x.ySl.length:=by rw[List.length_zip];omega
 refine yX4 (λk=>k<=x.ySl.length/\(∀p∈(x.ySl.zip x.yR3).take k,jS p=true)/\∀w∈x.yRX.take k,fJ w=true) (λk=>xC [(1,.box 1 0),(3,.c (.i x.yRV.length)),(4,.c (.i k))] [(1,.box (x.enc.map .c))]) (λk=>x.ySl.length-k) ?_
 rintro k ⟨hk,hall,hallw⟩
 rcases yX1 k x.ySl with⟨hlt,w,hw⟩|hge
 .obtain⟨ms,hm⟩:∃w,x.yR3[k]?=some w:=⟨_,zab (by omega)⟩;have hkm:k<x.yR3.length:=by omega
  have hkr:k<x.yRV.length:=by omega
  have gm:=(zaa.1 hm).2;have gw:=(zaa.1 hw).2;have hp:(x.ySl.zip x.yR3)[k]?=some (w,ms):=zbK.2 ⟨hw,hm⟩;have hsm:=hsM.2 ms (zac hm);simp[hw,gw,fC hlt,hlt,hkr,fC hkr];refine aA (ysH w) ?_;cases h6:ykM w with
  |false=>simp;exact yay hw hm (yJC h6)
  |true=>
  simp[hm,gm,hkm,fC hkm];intro hlm;refine⟨λh7=>?_,λh7=>(yay hw hm (yJj (by omega)))⟩;refine⟨by unfold maxLen at hlen;unfold inI;omega,λhc=>?_,λhc=>?_⟩
  .obtain⟨wk,hwk⟩:∃w,x.yRX[k]?=some w:=⟨_,zab (by omega)⟩;have gk:=(zaa.1 hwk).2;have hkw:k<x.yRX.length:=by omega
   refine⟨hkw,?_⟩;simp[hwk];refine aA (yA1 wk (hsW.2 wk (zac hwk))) ?_;cases h10:fJ wk with
   |false=>simp;exact ytm hwk h10
   |true=>
   simp;refine yX4 (λi=>i<=ms.length/\∀m∈ms.take i,xN m w=true) (λi=>xC [(1,.box 1 0),(3,.c (.i x.yRV.length)),(4,.c (.i k)),(5,.c (.i i))] [(1,.box (x.enc.map .c))]) (λi=>ms.length-i) ?_
   rintro i ⟨hi,hall2⟩
   rcases yX1 i ms with⟨hlt2,m,hmm⟩|hge2
   .have g2:=(zaa.1 hmm).2;simp[hw,gw,hlt,fC hlt,hm,gm,hkm,fC hkm,hmm,g2,fC hlt2,hlt2];intro _;refine lC (yof m w (hsm.2 m (zac hmm))) ?_;cases h8:xN m w with
    |false=>simp;exact yay hw hm (yHJ hmm h8)
    |true=>
     simp;refine⟨gB hlt2 hlm,i+1,⟨hlt2,lD (p:=λm=>xN m w) hmm hall2 h8⟩,by omega,?_⟩;apply aB<;>simp
   .have h9:=dF (p:=λm=>xN m w) hge2 hall2
    have hlane:jS (w,ms)=true:=by
     have:ms.length<=24:=by omega
     simp[jS,h6,this,h9]
    simp[hm,gm,hkm,fC hkm,aG hge2]
    refineλ_=>⟨by unfold maxLen at hlen;unfold inI;omega,k+1,⟨hlt,λa b hab=>lD (p:=jS) hp hall hlane (a,b) hab,lD (p:=fJ) hwk hallw h10⟩,by omega,?_⟩
    apply aB<;>simp
  .have hwa:x.yRX.take (k+1)=x.yRX.take k:=by rw[zae (by omega),zae (by omega)]
   refine yX4 (λi=>i<=ms.length/\∀m∈ms.take i,xN m w=true) (λi=>xC [(1,.box 1 0),(3,.c (.i x.yRV.length)),(4,.c (.i k)),(5,.c (.i i))] [(1,.box (x.enc.map .c))]) (λi=>ms.length-i) ?_
   rintro i ⟨hi,hall2⟩
   rcases yX1 i ms with⟨hlt2,m,hmm⟩|hge2
   .have g2:=(zaa.1 hmm).2;simp[hw,gw,hlt,fC hlt,hm,gm,hkm,fC hkm,hmm,g2,fC hlt2,hlt2];intro _;refine lC (yof m w (hsm.2 m (zac hmm))) ?_;cases h8:xN m w with
    |false=>simp;exact yay hw hm (yHJ hmm h8)
    |true=>
     simp;refine⟨gB hlt2 hlm,i+1,⟨hlt2,lD (p:=λm=>xN m w) hmm hall2 h8⟩,by omega,?_⟩;apply aB<;>simp
   .have h9:=dF (p:=λm=>xN m w) hge2 hall2
    have hlane:jS (w,ms)=true:=by
     have:ms.length<=24:=by omega
     simp[jS,h6,this,h9]
    simp[hm,gm,hkm,fC hkm,aG hge2]
    refineλ_=>⟨by unfold maxLen at hlen;unfold inI;omega,k+1,⟨hlt,λa b hab=>lD (p:=jS) hp hall hlane (a,b) hab,by rw[hwa];exact hallw⟩,by omega,?_⟩
    apply aB<;>simp
 .simp[aG hge];refine⟨by omega,λ_=>?_⟩;have hl:=dF (p:=jS) (by rw[hz];exact hge) hall;have h9:=dF (p:=fJ) (l:=x.yRX) (k:=k) (by omega) hallw;have h2':2<=x.yRV.length:=by omega
  simp[sJ,h1,h2',h3',h4',h5',hl,h9]
def yCm(x:yRW)(hs:x.small):qB prg 141 [.agg (x.enc.map .c)] (.c (.b (pO x))):=by
 have hsA:=hs.2.2.2.2.1;have hsP:=hs.2.2.2.2.2.2.2.2;refine dB yrm ?_;simp;intro hlA;refine⟨λh3=>?_,λh3=>(lno1 (by omega))⟩;intro hlE;refine⟨λh4=>?_,λh4=>(lno2 (by omega))⟩;intro hlP;refine⟨λh5=>(lno3 (by omega)),λh5=>?_⟩;refine yX4 (λk=>k<=x.yR9.length/\∀t∈x.yR9.take k,oC t=true) (λk=>xC [(1,.box 1 0),(3,.c (.i k))] [(1,.box (x.enc.map .c))]) (λk=>x.yR9.length-k) ?_
 rintro k ⟨hk,hall⟩
 rcases yX1 k x.yR9 with⟨hlt,t,ht⟩|hge
 .have g1:=(zaa.1 ht).2;simp[ht,g1,hlt,fC hlt];intro _;refine aA (jJ t (hsA.2 t (zac ht))) ?_;cases h6:oC t with
  |false=>simp;exact lno4 ht h6
  |true=>
   simp;refine⟨gB hlt hlA,k+1,⟨hlt,lD (p:=oC) ht hall h6⟩,by omega,?_⟩;apply aB<;>simp
 have hA:=dF (p:=oC) hge hall;simp[aG hge]
 refineλ_=>qA (ι:=Nat) (λk=>k<=x.ySd.length/\∀t∈x.ySd.take k,inRange t 1 9999=true) (λk=>xC [(1,.box 1 0),(4,.c (.i k))] [(1,.box (x.enc.map .c))]) (λk=>x.ySd.length-k) 0 (by simp) (by apply aB<;>simp) ?_
 clear hall hk hge k
 rintro k ⟨hk,hall⟩
 rcases yX1 k x.ySd with⟨hlt,t,ht⟩|hge
 .have g1:=(zaa.1 ht).2;simp[ht,g1,hlt,fC hlt];intro _;refine aA (bC t 1 9999) ?_;cases h6:inRange t 1 9999 with
  |false=>simp;exact lno5 ht h6
  |true=>
   simp;refine⟨gB hlt hlE,k+1,⟨hlt,lD (p:=λn=>inRange n 1 9999) ht hall h6⟩,by omega,?_⟩;apply aB<;>simp
 have hE:=dF (p:=λn=>inRange n 1 9999) hge hall;simp[aG hge]
 refineλ_=>qA (ι:=Nat) (λk=>k<=x.yR1.length/\∀t∈x.yR1.take k,yt x.yRX.length t=true) (λk=>xC [(1,.box 1 0),(5,.c (.i k))] [(1,.box (x.enc.map .c))]) (λk=>x.yR1.length-k) 0 (by simp) (by apply aB<;>simp) ?_
 clear hall hk hge k
 rintro k ⟨hk,hall⟩
 rcases yX1 k x.yR1 with⟨hlt,t,ht⟩|hge
 .have g1:=(zaa.1 ht).2;simp[ht,g1,hlt,fC hlt];intro _;refine aA (bC t.Time 0 1000000) ?_;cases h6:inRange t.Time 0 1000000 with
  |false=>simp;exact yEq ht (by simp[yt,h6])
  |true=>
  simp
  refineλhlW=>⟨by unfold maxLen at hlW;unfold inI;omega,?_⟩
  refine aA (bC t.yR8 0 (x.yRX.length-1)) ?_;cases h7:inRange t.yR8 0 (x.yRX.length-1)with
  |false=>simp;exact yEq ht (by simp[yt,h7])
  |true=>
  simp;refine aA (jJ t.yRT (hsP.2 t (zac ht))) ?_;cases h8:oC t.yRT with
  |false=>simp;exact yEq ht (by simp[yt,h8])
  |true=>
  simp;refine⟨gB hlt hlP,k+1,⟨hlt,lD (p:=yt x.yRX.length) ht hall (by simp[yt,h6,h7,h8])⟩,by omega,?_⟩;apply aB<;>simp
 have hP:=dF (p:=yt x.yRX.length) hge hall;simp[aG hge];intro _;have a3:x.yR9.length<=500:=by omega
 have a4:x.ySd.length<=2000:=by omega
 have a5:x.yR1.length<=500:=by omega
 simp only[pO,a3,a4,a5,hA,hE,hP];simp
def yc1(x:yRW)(hs:x.small):qB prg 52 [.agg (x.enc.map .c)] (.c (.b (rC x))):=by
 refine dB ynS ?_;simp;refine aA (bC x.Time 0 1000000) ?_;cases h1:inRange x.Time 0 1000000 with
 |false=>simp;simp[rC,h1]
 |true=>
 simp;refine aA (bC x.Start 0 1000000000) ?_;cases h2:inRange x.Start 0 1000000000 with
 |false=>simp;simp[rC,h2]
 |true=>
 simp;refine aA (bC x.In 0 1000000000) ?_;cases h3:inRange x.In 0 1000000000 with
 |false=>simp;simp[rC,h3]
 |true=>
 simp;refine aA (bC x.Out 0 1000000000) ?_;cases h4:inRange x.Out 0 1000000000 with
 |false=>simp;simp[rC,h4]
 |true=>
 simp;refine aA (yBx x hs) ?_;cases h5:sJ x with
 |false=>simp;simp[rC,h5]
 |true=>
 simp;refine aA (yCm x hs) ?_;cases h6:pO x with
 |false=>simp;simp[rC,h6]
 |true=>
 simp;refine aA (yfH x.yRZ) ?_;cases h7:nH x.yRZ with
 |false=>simp;simp[rC,h7]
 |true=>
 simp;refine aA (yjB x.Book) ?_;simp;simp[rC,h1,h2,h3,h4,h5,h6,h7]
def yYT(w:yR8):Int:=w.yR0.ySn
def yYN(x:yRW):Int:=if rC x then yYJ x.yRV+(x.yRX.map yYT).sum else 0
def yZd(x:yRW)(k:Nat):Int:=((x.yRX.take k).map yYT).sum
def yZx{x:yRW}:yZd x 0=0:=rfl
def yZv{x:yRW}{k:Nat}{w:yR8}(h:x.yRX[k]?=some w):yZd x (k+1)=yZd x k+w.yR0.ySn:=by
 unfold yZd;rw[zao,h];simp[yYT]
def yZh{x:yRW}{k:Nat}(h:x.yRX.length<=k):yZd x k=(x.yRX.map yYT).sum:=by unfold yZd;rw[zae h]
structure ySK(x:yRW):Prop where
 ySA:jY x.yRV=true
 few:x.yRX.length<=5
 rng:∀w∈x.yRX,0<=w.yR0.ySn/\w.yR0.ySn<=1000000000
 start:0<=x.Start/\x.Start<=1000000000
 inn:0<=x.In/\x.In<=1000000000
 out:0<=x.Out/\x.Out<=1000000000
def yCL{x:yRW}(h:rC x=true):ySK x:=by
 simp only[rC,zad]at h;obtain⟨⟨⟨⟨⟨⟨⟨h1,h2⟩,h3⟩,h4⟩,h5⟩,h6⟩,h7⟩,h8⟩:=h;simp only[sJ,zad,decide_eq_true_eq,zaf]at h2;obtain⟨⟨⟨⟨⟨⟨p1,p2⟩,p3⟩,p4⟩,p5⟩,p6⟩,p7⟩:=h2;have rf:=(ynr p1).len;refine⟨p1,by omega,λw hw=>?_,aC.1 h6,aC.1 h7,aC.1 h8⟩;have:=p7 w hw;simp only[fJ,lF,zad]at this;exact aC.1 this.1.1.1.1.1.1.1.1.2
def yY9{x:yRW}(h:ySK x):∀k:Nat,0<=yZd x k/\yZd x k<=1000000000*k
 |0=>by rw[yZx];omega
 | k+1=>by
  have ih:=yY9 h k;have e2:((k+1:Nat):Int)=k+1:=by simp
  cases hk:x.yRX[k]? with
  |none=>
   have hl:x.yRX.length<=k:=by simpa using hk
   rw[yZh (by omega),<-yZh hl];omega
  |some w=>
   have:=h.rng w (zac hk);rw[yZv hk];omega
def yZo{l:List Reach}(h:jY l=true):0<=yYJ l/\yYJ l<=1000000000:=by
 have:=(ynr h).rng;simp[yYJ,h];omega
def yacC(x:yRW):0<=yYN x/\yYN x<=6000000000:=by
 unfold yYN;split
 .rename_i h;have f:=yCL h;have h1:=yZo f.ySA;have h2:=yY9 f x.yRX.length;have h3:=f.few;rw[yZh (Nat.le_refl _)]at h2;omega
 .omega
def yaah(x:yRW)(hs:x.small):qB prg 34 [.agg (x.enc.map .c)] (.c (.i (yYN x))):=by
 refine dB yabk (goQ_ ?_);refine aA (yis x hs) ?_;cases h:rC x with
 |false=>simp -dsimp -implicitDefEqProofs;simp[yYN,h]
 |true=>
 have f:=yCL h;have hr:=yZo f.ySA;have hfew:=f.few;have hW:yYN x=yYJ x.yRV+(x.yRX.map yYT).sum:=by simp[yYN,h]
 refine goQ_ ?_;refine aA (yaaU x.yRV) (goQ_ ?_);intro hlen;refine yX2 (λk=>k<=x.yRX.length) (λk=>xC [(3,.c (.i (yYJ x.yRV+yZd x k))),(13,.c (.sl 22 (x.yRX.map yR8.enc))),(14,.c (.i x.yRX.length)),(15,.c (.i k))] []) (λk=>x.yRX.length-k) (by apply aB<;>simp[yZx]) ?_
 rintro k hk
 rcases yX1 k x.yRX with⟨hlt,w,hw⟩|hge
 .have g1:=(zaa.1 hw).2;have e1:=yZv hw;have hb:=yY9 f (k+1);have hb0:=yY9 f k;rw[e1]at hb;refine yaeV hw g1 (fC hlt) hlt ?_;refine⟨by unfold inI;omega,gB hlt hlen,k+1,hlt,by omega,?_⟩;apply aB<;>simp[e1];omega
 .refine yafw (aG hge) ?_;rw[yZh hge,hW]
def yabW(x:yRW)(hs:x.small):qB prg 51 [.agg (x.enc.map .c)] (.c (.i (yYN x))):=by
 refine dB yabj (goQ_ ?_);refine aA (yc1 x hs) ?_;cases h:rC x with
 |false=>simp -dsimp -implicitDefEqProofs;simp[yYN,h]
 |true=>
 have f:=yCL h;have hr:=yZo f.ySA;have hfew:=f.few;have hW:yYN x=yYJ x.yRV+(x.yRX.map yYT).sum:=by simp[yYN,h]
 refine goQ_ ?_;refine aA (yaaS x.yRV) (goQ_ ?_);refine yX2 (λk=>k<=x.yRX.length) (λk=>xC [(1,.box 1 0),(3,.c (.i (yYJ x.yRV+yZd x k))),(4,.c (.i k))] [(1,.box (x.enc.map .c))]) (λk=>x.yRX.length-k) (by apply aB<;>simp[yZx]) ?_
 rintro k hk
 rcases yX1 k x.yRX with⟨hlt,w,hw⟩|hge
 .have g1:=(zaa.1 hw).2;have e1:=yZv hw;have hb:=yY9 f (k+1);have hb0:=yY9 f k;rw[e1]at hb;refine yaeV hw g1 (fC hlt) hlt ?_
  refineλhlen=>⟨by unfold inI;omega,gB hlt hlen,k+1,hlt,by omega,?_⟩
  apply aB<;>simp[e1];omega
 .refine yafw (aG hge) ?_;intro _;rw[yZh hge,hW]
def yN(x:yRW):Bool:=rC x&&decide (yYN x+x.Out=x.Start+x.In)
def yacK(x:yRW)(hs:x.small):qB prg 23 [.agg (x.enc.map .c)] (.c (.b (yN x))):=by
 refine dB yafh (goQ_ ?_);refine lC (yis x hs) ?_;cases h:rC x with
 |false=>simp -dsimp -implicitDefEqProofs;simp[yN,h]
 |true=>
 have f:=yCL h;have f1:=f.start;have f2:=f.inn;have f3:=f.out;have hw:=yacC x;refine goQ_ ?_;refine lC (yaah x hs) (goQ_ ?_);refine⟨by unfold inI;omega,by unfold inI;omega,?_⟩;simp[yN,h]
def yafH(x:yRW)(hs:x.small):qB prg 63 [.agg (x.enc.map .c)] (.c (.b (yN x))):=by
 refine dB yafa (goQ_ ?_);refine lC (yc1 x hs) ?_;cases h:rC x with
 |false=>simp -dsimp -implicitDefEqProofs;simp[yN,h]
 |true=>
 have f:=yCL h;have f1:=f.start;have f2:=f.inn;have f3:=f.out;have hw:=yacC x;refine goQ_ ?_;refine lC (yabW x hs) (goQ_ ?_);refine⟨by unfold inI;omega,by unfold inI;omega,?_⟩;simp[yN,h]
def iJ{α:Type}{f:α->List C}(h:∀x,∀c∈f x,c.closed)(k:Nat)(l:List α):(C.ot k (l.map f)).closed:=by
 simp only[C.closed,zaP]
 rintro r ⟨x,_,rfl⟩ c hc
 exact h x c hc
def dP{l:List C}(h:∀c∈l,c.closed):(AV.agg (l.map .c)).closed:=by
 show∀c,c∈AV.cs (l.map AV.c)->c.closed
 rw[ypQ];exact h
def yeK(xs:List ySa):∀c∈jF xs,c.closed:=by simp[jF,C.closed]
def yRT.aF(e:yRT):∀c∈e.iD,c.closed:=by
 simp only[yRT.iD,zax,zaH,or_false,forall_eq_or_imp,forall_eq];exact⟨by simp[C.closed],iJ yeK _ _⟩
def yR6.aF(e:yR6):∀c∈e.iD,c.closed:=by
 simp only[yR6.iD,zax,zaH,or_false,forall_eq_or_imp,forall_eq];exact⟨by simp[C.closed],iJ yeK _ _,by simp[C.closed]⟩
def Reach.aF(e:Reach):∀c∈e.iD,c.closed:=by
 simp only[Reach.iD,zax,zaH,or_false,forall_eq_or_imp,forall_eq];exact⟨by simp[C.closed],by simp[C.closed],by simp[C.closed]⟩
def yRZ.aF(e:yRZ):∀c∈e.iD,c.closed:=by
 simp only[yRZ.iD,zax,zaH,or_false,forall_eq_or_imp,forall_eq];exact⟨by simp[C.closed],by simp[C.closed],by simp[C.closed],by simp[C.closed]⟩
def aH(e:Reach):Nat:=2*e.ySg.length+1+e.ySk.length
def rY(k:Int)(e:Reach):List C:=[.ow 2 (marked mkPt 2 [] k e.ySg.length),.i (k+2*(e.ySg.length:Int)),.ow 1 (marked qC 1 [] (k+2*(e.ySg.length:Int)+1) e.ySk.length)]
def yaj(k:Int):List C:=[.i k,.i (k+1)]
def qR(k:Int):List C:=[.i k,.i (k+1)]
def jC(e:yRT):Nat:=1+cnt nB e.Rows
def pR(k:Int)(e:yRT):List C:=[.b (decide (k.tmod 3=0)),.ot 1 (dH fB nB (k+1) e.Rows)]
@[simp] def yR4.iD(e:yR4):List C:=[.b e.yRT.Up,.ot 1 (e.yRT.Rows.map jF),.i e.Since,.i e.Booked]
def yR4.bF(e:yR4):dO e.iD=some e.enc:=by simp[yR4.iD,dO,yY yI]
def yR4.aF(e:yR4):∀c∈e.iD,c.closed:=by
 simp only[yR4.iD,zax,zaH,or_false,forall_eq_or_imp,forall_eq];exact⟨by simp[C.closed],iJ yeK _ _,by simp[C.closed],by simp[C.closed]⟩
def gI(e:yR4):Nat:=1+cnt nB e.yRT.Rows+1+1
def ybu(k:Int)(e:yR4):List C:=[.b (decide (k.tmod 3=0)),.ot 1 (dH fB nB (k+1) e.yRT.Rows),.i (k+1+(cnt nB e.yRT.Rows:Int)),.i (k+1+(cnt nB e.yRT.Rows:Int)+1)]
@[simp] def yR0.iD(e:yR0):List C:=[.i e.Length,.i e.Width,.i e.ySi,.i e.ySj,.i e.Base,.i e.Area,.i e.ySs,.i e.ySn,.i e.Gate,.ot 2 (e.yRY.map yRT.iD)]
def yR0.aF(e:yR0):∀c∈e.iD,c.closed:=by
 simp only[yR0.iD,zax,zaH,or_false,forall_eq_or_imp,forall_eq];exact⟨by simp[C.closed],by simp[C.closed],by simp[C.closed],by simp[C.closed],by simp[C.closed],by simp[C.closed],by simp[C.closed],by simp[C.closed],by simp[C.closed],iJ yRT.aF _ _⟩
@[simp] def yR8.iD(e:yR8):List C:=[.i e.yR0.Length,.i e.yR0.Width,.i e.yR0.ySi,.i e.yR0.ySj,.i e.yR0.Base,.i e.yR0.Area,.i e.yR0.ySs,.i e.yR0.ySn,.i e.yR0.Gate,.ot 2 (e.yR0.yRY.map yRT.iD),.i e.ySp.ySu,.i e.ySp.Open,.i e.ySp.Step,.i e.ySp.ySy,.i e.ySp.Width,.i e.Rule.Low,.i e.Rule.High,.i e.Rule.ySx,.ow 2 (e.Pauses.map ySf.enc),.b e.Turn.Up,.i e.Turn.Count,.ot 4 (e.Calls.map yR4.iD)]
def yR8.bF(e:yR8):dO e.iD=some e.enc:=by simp[yR8.iD,dO,yY yRT.bF,yY yR4.bF]
def yR8.aF(e:yR8):∀c∈e.iD,c.closed:=by
 simp only[yR8.iD,zax,zaH,or_false,forall_eq_or_imp,forall_eq];exact⟨by simp[C.closed],by simp[C.closed],by simp[C.closed],by simp[C.closed],by simp[C.closed],by simp[C.closed],by simp[C.closed],by simp[C.closed],by simp[C.closed],iJ yRT.aF _ _,by simp[C.closed],by simp[C.closed],by simp[C.closed],by simp[C.closed],by simp[C.closed],by simp[C.closed],by simp[C.closed],by simp[C.closed],by simp[C.closed],by simp[C.closed],by simp[C.closed],iJ yR4.aF _ _⟩
def iI(e:yR8):Nat:=1+1+1+1+1+1+1+1+1+cnt jC e.yR0.yRY+1+1+1+1+1+1+1+1+2*e.Pauses.length+1+1+cnt gI e.Calls
def yax(k:Int)(e:yR8):List C:=[.i k,.i (k+1),.i (k+1+1),.i (k+1+1+1),.i (k+1+1+1+1),.i (k+1+1+1+1+1),.i (k+1+1+1+1+1+1),.i (k+1+1+1+1+1+1+1),.i (k+1+1+1+1+1+1+1+1),.ot 2 (dH pR jC (k+1+1+1+1+1+1+1+1+1) e.yR0.yRY),.i (k+1+1+1+1+1+1+1+1+1+(cnt jC e.yR0.yRY:Int)),.i (k+1+1+1+1+1+1+1+1+1+(cnt jC e.yR0.yRY:Int)+1),.i (k+1+1+1+1+1+1+1+1+1+(cnt jC e.yR0.yRY:Int)+1+1),.i (k+1+1+1+1+1+1+1+1+1+(cnt jC e.yR0.yRY:Int)+1+1+1),.i (k+1+1+1+1+1+1+1+1+1+(cnt jC e.yR0.yRY:Int)+1+1+1+1),.i (k+1+1+1+1+1+1+1+1+1+(cnt jC e.yR0.yRY:Int)+1+1+1+1+1),.i (k+1+1+1+1+1+1+1+1+1+(cnt jC e.yR0.yRY:Int)+1+1+1+1+1+1),.i (k+1+1+1+1+1+1+1+1+1+(cnt jC e.yR0.yRY:Int)+1+1+1+1+1+1+1),.ow 2 (marked qR 2 [] (k+1+1+1+1+1+1+1+1+1+(cnt jC e.yR0.yRY:Int)+1+1+1+1+1+1+1+1) e.Pauses.length),.b (decide ((k+1+1+1+1+1+1+1+1+1+(cnt jC e.yR0.yRY:Int)+1+1+1+1+1+1+1+1+2*(e.Pauses.length:Int)).tmod 3=0)),.i (k+1+1+1+1+1+1+1+1+1+(cnt jC e.yR0.yRY:Int)+1+1+1+1+1+1+1+1+2*(e.Pauses.length:Int)+1),.ot 4 (dH ybu gI (k+1+1+1+1+1+1+1+1+1+(cnt jC e.yR0.yRY:Int)+1+1+1+1+1+1+1+1+2*(e.Pauses.length:Int)+1+1) e.Calls)]
def xG(xs:List yR6):List C:=[.ot 3 (xs.map yR6.iD)]
def oV(xs:List yR6):dO (xG xs)=some (nD xs):=by simp[xG,dO,yY yR6.bF]
def yoj(xs:List yR6):∀c∈xG xs,c.closed:=by
 intro c hc;simp only[xG,zak]at hc;subst hc;exact iJ yR6.aF _ _
def kG(r:List yR6):Nat:=cnt nM r
def xU(k:Int)(r:List yR6):List C:=[.ot 3 (dH fM nM k r)]
@[simp] def yR2.iD(e:yR2):List C:=[.i e.Time,.i e.yR8,.b e.yRT.Up,.ot 1 (e.yRT.Rows.map jF)]
def yR2.bF(e:yR2):dO e.iD=some e.enc:=by simp[yR2.iD,dO,yY yI]
def yR2.aF(e:yR2):∀c∈e.iD,c.closed:=by
 simp only[yR2.iD,zax,zaH,or_false,forall_eq_or_imp,forall_eq];exact⟨by simp[C.closed],by simp[C.closed],by simp[C.closed],iJ yeK _ _⟩
def sF(e:yR2):Nat:=1+1+1+cnt nB e.yRT.Rows
def iR(k:Int)(e:yR2):List C:=[.i k,.i (k+1),.b (decide ((k+1+1).tmod 3=0)),.ot 1 (dH fB nB (k+1+1+1) e.yRT.Rows)]
@[simp] def yRW.iD(e:yRW):List C:=[.i e.Time,.ot 3 (e.yRV.map Reach.iD),.ow 2 (e.ySl.map Way.enc),.ot 22 (e.yRX.map yR8.iD),.ot 1 (e.yR3.map xG),.ot 2 (e.yR9.map yRT.iD),.ow 1 (e.ySd.map qC),.i e.yRZ.Base,.i e.yRZ.ySe,.ow 1 (e.yRZ.yR5.map qC),.ow 1 (e.yRZ.yR7.map qC),.ow 5 (e.Book.map ySb.enc),.ot 4 (e.yR1.map yR2.iD),.i e.Start,.i e.In,.i e.Out]
def yRW.aF(e:yRW):∀c∈e.iD,c.closed:=by
 simp only[yRW.iD,zax,zaH,or_false,forall_eq_or_imp,forall_eq];exact⟨by simp[C.closed],iJ Reach.aF _ _,by simp[C.closed],iJ yR8.aF _ _,iJ yoj _ _,iJ yRT.aF _ _,by simp[C.closed],by simp[C.closed],by simp[C.closed],by simp[C.closed],by simp[C.closed],by simp[C.closed],iJ yR2.aF _ _,by simp[C.closed],by simp[C.closed],by simp[C.closed]⟩
def yHb(es:List ySc)(hl:es.length<=1048576):nI prg 347 [.c (.sl 2 (es.map ySc.enc))] (.c (.ow 2 (es.map ySc.enc))):=by
 refine fF mZ ?_;simp[iP,jA];omega
def ynW(es:List Int)(hl:es.length<=1048576):nI prg 152 [.c (.sl 1 (es.map qC))] (.c (.ow 1 (es.map qC))):=by
 refine fF yev ?_;simp[yad,jA];omega
def yFa(es:List ySf)(hl:es.length<=1048576):nI prg 251 [.c (.sl 2 (es.map ySf.enc))] (.c (.ow 2 (es.map ySf.enc))):=by
 refine fF oZ ?_;simp[yYQ,jA];omega
def yFI(es:List Way)(hl:es.length<=1048576):nI prg 148 [.c (.sl 2 (es.map Way.enc))] (.c (.ow 2 (es.map Way.enc))):=by
 refine fF yal ?_;simp[aT,jA];omega
def yFy(es:List ySb)(hl:es.length<=1048576):nI prg 154 [.c (.sl 5 (es.map ySb.enc))] (.c (.ow 5 (es.map ySb.enc))):=by
 refine fF fP ?_;simp[oJ,jA];omega
def ye5(e:Reach)(hl:Reach.small e):nI prg 249 [.agg (e.enc.map .c)] (.agg (e.iD.map .c)):=by
 refine fF yqn (goQ_ ?_);refine pJ (yHb e.ySg hl.1.1) (by simp) (by simp[AV.closed,AV.jI,C.closed]) (by simp[fD]) (goT_ ?_);refine pJ (ynW e.ySk hl.2.1) (by simp) (by simp[AV.closed,AV.jI,C.closed]) (by simp[fD]) ?_;exact goU_
def yvL(xs:List Reach)(hl:ybv xs):nI prg 147 [.c (.sl 3 (xs.map Reach.enc))] (.c (.ot 3 (xs.map Reach.iD))):=by
 refine fF ym4 ?_;simp;intro hlen;have hl1:=hl.1;refine⟨by omega,?_⟩;intro _;refine yX2 (λk=>k<=xs.length) (λk=>xC [(3,.own 8 3 k),(9,.c (.sl 3 (xs.map Reach.enc))),(10,.c (.i xs.length)),(11,.c (.i k))] [(8,.tr 3 0 ((xs.take k).map Reach.iD))]) (λk=>xs.length-k) (by apply aB<;>simp[Obj.leO]) ?_
 rintro k hk
 rcases yX1 k xs with⟨hlt,e,he⟩|hge
 .have hs:xs.take (k+1)=xs.take k++[e]:=by rw[zao,he];rfl
  have he2:=hl.2 e (zac he);have g1:=(zaa.1 he).2;simp[he,g1,hlt,fC hlt];refine yX3 (ye5 e he2) (dP (Reach.aF e)) ?_;simp[jA,Nat.min_eq_left hk,iW];refine⟨by omega,gB hlt hlen,k+1,hlt,by omega,?_⟩;have hs2:(xs.map Reach.iD).take (k+1)=(xs.map Reach.iD).take k++[Reach.iD e]:=by rw[<-zbl,<-zbl,hs,zaD];rfl
  apply aB<;>simp[Obj.leO,hs2]
 .have:k=xs.length:=by omega
  subst this;simp[jA]
  try simp
def ybj(xs:List yRT)(hl:aJ xs):nI prg 151 [.c (.sl 2 (xs.map yRT.enc))] (.c (.ot 2 (xs.map yRT.iD))):=by
 refine fF ynC ?_;simp;intro hlen;have hl1:=hl.1;refine ydE (k0:=2) 3 2 (by simp) (by simp) (by decide) ?_;refine yX2 (λk=>k<=xs.length) (λk=>xC [(3,.own 3 2 k),(6,.c (.sl 2 (xs.map yRT.enc))),(7,.c (.i xs.length)),(8,.c (.i k))] [(3,.tr 2 0 ((xs.take k).map yRT.iD))]) (λk=>xs.length-k) (by apply aB<;>simp[Obj.leO]) ?_
 rintro k hk
 rcases yX1 k xs with⟨hlt,e,he⟩|hge
 .have hs:xs.take (k+1)=xs.take k++[e]:=by rw[zao,he];rfl
  have he2:=hl.2 e (zac he);have g1:=(zaa.1 he).2;simp[he,g1,hlt,fC hlt];refine yX3 (yaU e he2) (dP (yRT.aF e)) ?_;simp[jA,Nat.min_eq_left hk,iW];refine⟨by omega,gB hlt hlen,k+1,hlt,by omega,?_⟩;have hs2:(xs.map yRT.iD).take (k+1)=(xs.map yRT.iD).take k++[yRT.iD e]:=by rw[<-zbl,<-zbl,hs,zaD];rfl
  apply aB<;>simp[Obj.leO,hs2]
 .have:k=xs.length:=by omega
  subst this;simp[jA]
  try simp
def yzp(xs:List yR4)(hl:oM xs):nI prg 252 [.c (.sl 4 (xs.map yR4.enc))] (.c (.ot 4 (xs.map yR4.iD))):=by
 refine fF ype (goQ_ ?_);intro hlen;have hl1:=hl.1;refine ydE (k0:=4) 3 4 (by simp) (by simp) (by decide) ?_;refine yX2 (λk=>k<=xs.length) (λk=>xC [(3,.own 3 4 k),(6,.c (.sl 4 (xs.map yR4.enc))),(7,.c (.i xs.length)),(8,.c (.i k))] [(3,.tr 4 0 ((xs.take k).map yR4.iD))]) (λk=>xs.length-k) (by apply aB<;>simp[Obj.leO]) ?_
 rintro k hk
 rcases yX1 k xs with⟨hlt,e,he⟩|hge
 .have hs:xs.take (k+1)=xs.take k++[e]:=by rw[zao,he];rfl
  have he2:=hl.2 e (zac he);have g1:=(zaa.1 he).2;refine yaeV he g1 hlt (fC hlt) ?_;refine yage (yaU e.yRT he2) (dP (yRT.aF e.yRT)) ?_;simp -dsimp -implicitDefEqProofs [jA,Nat.min_eq_left hk,iW];refine⟨by omega,gB hlt hlen,k+1,hlt,by omega,?_⟩;have hs2:(xs.map yR4.iD).take (k+1)=(xs.map yR4.iD).take k++[yR4.iD e]:=by rw[<-zbl,<-zbl,hs,zaD];rfl
  apply aB<;>simp[Obj.leO,hs2]
 .have:k=xs.length:=by omega
  subst this;refine goT_ ?_
  try simp
def yyd(xs:List yR6)(hl:ydp xs):nI prg 150 [.c (.sl 3 (xs.map yR6.enc))] (.c (.ot 3 (xs.map yR6.iD))):=by
 refine fF yoA (goQ_ ?_);intro hlen;have hl1:=hl.1;refine ydE (k0:=3) 3 3 (by simp) (by simp) (by decide) ?_;refine yX2 (λk=>k<=xs.length) (λk=>xC [(3,.own 3 3 k),(6,.c (.sl 3 (xs.map yR6.enc))),(7,.c (.i xs.length)),(8,.c (.i k))] [(3,.tr 3 0 ((xs.take k).map yR6.iD))]) (λk=>xs.length-k) (by apply aB<;>simp[Obj.leO]) ?_
 rintro k hk
 rcases yX1 k xs with⟨hlt,e,he⟩|hge
 .have hs:xs.take (k+1)=xs.take k++[e]:=by rw[zao,he];rfl
  have he2:=hl.2 e (zac he);have g1:=(zaa.1 he).2;refine yaeV he g1 hlt (fC hlt) ?_;refine yage (yaU e.yRT he2) (dP (yRT.aF e.yRT)) ?_;simp -dsimp -implicitDefEqProofs [jA,Nat.min_eq_left hk,iW];refine⟨by omega,gB hlt hlen,k+1,hlt,by omega,?_⟩;have hs2:(xs.map yR6.iD).take (k+1)=(xs.map yR6.iD).take k++[yR6.iD e]:=by rw[<-zbl,<-zbl,hs,zaD];rfl
  apply aB<;>simp[Obj.leO,hs2]
 .have:k=xs.length:=by omega
  subst this;refine goT_ ?_
  try simp
def ysC(e:yR0)(hl:yR0.small e):nI prg 250 [.agg (e.enc.map .c)] (.agg (e.iD.map .c)):=by
 refine fF yrk ?_;simp;refine yX3 (ybj e.yRY hl) (iJ yRT.aF _ _) ?_;simp[jA]
def yy2(e:yRZ)(hl:yRZ.small e):nI prg 153 [.agg (e.enc.map .c)] (.agg (e.iD.map .c)):=by
 refine fF yn6 ?_;simp;refine sD (ynW e.yR5 hl.1) (by simp) (by simp[AV.closed,AV.jI,C.closed]) (by simp[fD]) ?_;simp[jA];refine sD (ynW e.yR7 hl.2) (by simp) (by simp[AV.closed,AV.jI,C.closed]) (by simp[fD]) ?_;simp[jA]
def yAG(xs:List yR8)(hl:ycw xs):nI prg 149 [.c (.sl 22 (xs.map yR8.enc))] (.c (.ot 22 (xs.map yR8.iD))):=by
 refine fF yp9 ?_;simp;intro hlen;have hl1:=hl.1;refine ydE (k0:=22) 3 22 (by simp) (by simp) (by decide) ?_;refine yX2 (λk=>k<=xs.length) (λk=>xC [(3,.own 3 22 k),(6,.c (.sl 22 (xs.map yR8.enc))),(7,.c (.i xs.length)),(8,.c (.i k))] [(3,.tr 22 0 ((xs.take k).map yR8.iD))]) (λk=>xs.length-k) (by apply aB<;>simp[Obj.leO]) ?_
 rintro k hk
 rcases yX1 k xs with⟨hlt,e,he⟩|hge
 .have hs:xs.take (k+1)=xs.take k++[e]:=by rw[zao,he];rfl
  have he2:=hl.2 e (zac he);have g1:=(zaa.1 he).2;simp[he,g1,hlt,fC hlt];refine yX3 (ysC e.yR0 he2.1) (dP (yR0.aF _)) ?_;simp[jA];refine sD (yFa e.Pauses he2.2.1.1) (by simp) (by simp[AV.closed,AV.jI,C.closed]) (by simp[fD]) ?_;simp[jA];refine yX3 (yzp e.Calls he2.2.2) (iJ yR4.aF _ _) ?_;simp[jA,Nat.min_eq_left hk];refine⟨by omega,gB hlt hlen,k+1,hlt,by omega,?_⟩;have hs2:(xs.map yR8.iD).take (k+1)=(xs.map yR8.iD).take k++[yR8.iD e]:=by rw[<-zbl,<-zbl,hs,zaD];rfl
  apply aB<;>simp[Obj.leO,hs2]
 .have:k=xs.length:=by omega
  subst this;simp[jA]
  try simp
def yuq(x:yRW)(hl:x.small):nI prg 55 [.agg (x.enc.map .c)] (.agg (x.iD.map .c)):=by
 obtain⟨s1,s2,s3,s4,s5,s6,s7,s8,s9⟩:=hl;have s41:=s4.1;have s91:=s9.1;refine fF ylx (goQ_ ?_);refine yX3 (yvL x.yRV s1) (iJ Reach.aF _ _) (goT_ ?_);refine sD (yFI x.ySl s2.1) (by simp) (by simp[AV.closed,AV.jI,C.closed]) (by simp[fD]) (goT_ ?_);refine yX3 (yAG x.yRX s3) (iJ yR8.aF _ _) (goT_ ?_);intro hlen;refine⟨by omega,yoL ?_⟩;refine goQ_ ?_;intro _;refine yX2 (λk=>k<=x.yR3.length) (λk=>xC [(1,.box 1 0),(2,.box 2 0),(3,.own 24 1 x.yR3.length),(26,.c (.sl 1 (x.yR3.map nD))),(27,.c (.i x.yR3.length)),(28,.c (.i k))] [(1,.box [.c (.i x.Time),.own 11 3 x.yRV.length,.own 15 2 x.ySl.length,.own 19 22 x.yRX.length,.c (.sl 1 (x.yR3.map nD)),.c (.sl 2 (x.yR9.map yRT.enc)),.c (.sl 1 (x.ySd.map qC)),.c (.i x.yRZ.Base),.c (.i x.yRZ.ySe),.c (.sl 1 (x.yRZ.yR5.map qC)),.c (.sl 1 (x.yRZ.yR7.map qC)),.c (.sl 5 (x.Book.map ySb.enc)),.c (.sl 4 (x.yR1.map yR2.enc)),.c (.i x.Start),.c (.i x.In),.c (.i x.Out)]),(2,zW),(11,.tr 3 0 (x.yRV.map Reach.iD)),(15,.row 2 (x.ySl.map Way.enc)),(19,.tr 22 0 (x.yRX.map yR8.iD)),(24,.tr 1 0 (partly xG [.sl 3 []] x.yR3 k))]) (λk=>x.yR3.length-k) (by apply aB<;>simp[mF,Obj.leO]) ?_
 rintro k hk
 rcases yX1 k x.yR3 with⟨hlt,e,he⟩|hge
 .have hs:=fG (f:=xG) (z:=[.sl 3 []]) he
  have hd:((partly xG [.sl 3 []] x.yR3 k)[k]?.getD []).set 0 (.ot 3 (e.map yR6.iD))=xG e:=by
   have:=tX (f:=xG) (z:=[.sl 3 []]) (n:=1) rfl (λ_=>rfl) hlt;obtain⟨y,hy⟩:=zbI.1 this;rw[hy];rfl
  refine yaed he (fC hlt) ?_;refine yX3 (yyd e (s4.2 e (zac he))) (iJ yR6.aF _ _) ?_;simp -dsimp -implicitDefEqProofs [fC hlt,dG hk,jA,setAt,hd,hs];exact⟨hlt,gB hlt hlen,k+1,hlt,by omega,by apply aB<;>simp[Obj.leO]⟩
 have hke:k=x.yR3.length:=by omega
 subst hke;simp -dsimp -implicitDefEqProofs [eG (Nat.le_refl _),jA];refine yX3 (ybj x.yR9 s5) (iJ yRT.aF _ _) (goT_ ?_);refine sD (ynW x.ySd s6.1) (by simp) (by simp[AV.closed,AV.jI,C.closed]) (by simp[fD]) (goT_ ?_);refine yX3 (yy2 x.yRZ s7) (dP (yRZ.aF _)) (goT_ ?_);refine sD (yFy x.Book s8.1) (by simp) (by simp[AV.closed,AV.jI,C.closed]) (by simp[fD]) (goT_ ?_);intro hlen2;refine ydE (k0:=4) 6 4 (by simp) (by simp) (by decide) ?_;refine yX2 (λk=>k<=x.yR1.length) (λk=>xC [(1,.box 1 0),(2,.box 2 0),(6,.own 6 4 k),(58,.c (.sl 4 (x.yR1.map yR2.enc))),(59,.c (.i x.yR1.length)),(60,.c (.i k))] [(1,.box [.c (.i x.Time),.own 11 3 x.yRV.length,.own 15 2 x.ySl.length,.own 19 22 x.yRX.length,.own 24 1 x.yR3.length,.own 43 2 x.yR9.length,.own 47 1 x.ySd.length,.c (.i x.yRZ.Base),.c (.i x.yRZ.ySe),.own 30051 1 x.yRZ.yR5.length,.own 40051 1 x.yRZ.yR7.length,.own 55 5 x.Book.length,.c (.sl 4 (x.yR1.map yR2.enc)),.c (.i x.Start),.c (.i x.In),.c (.i x.Out)]),(2,zW),(11,.tr 3 0 (x.yRV.map Reach.iD)),(15,.row 2 (x.ySl.map Way.enc)),(19,.tr 22 0 (x.yRX.map yR8.iD)),(24,.tr 1 0 (x.yR3.map xG)),(43,.tr 2 0 (x.yR9.map yRT.iD)),(47,.row 1 (x.ySd.map qC)),(30051,.row 1 (x.yRZ.yR5.map qC)),(40051,.row 1 (x.yRZ.yR7.map qC)),(55,.row 5 (x.Book.map ySb.enc)),(6,.tr 4 0 ((x.yR1.take k).map yR2.iD))]) (λk=>x.yR1.length-k) (by apply aB<;>simp[Obj.leO]) ?_
 rintro k hk2
 rcases yX1 k x.yR1 with⟨hlt,e,he⟩|hge2
 .have hs:x.yR1.take (k+1)=x.yR1.take k++[e]:=by rw[zao,he];rfl
  have he2:=s9.2 e (zac he);have g1:=(zaa.1 he).2;refine yaeV he g1 hlt (fC hlt) ?_;refine yage (yaU e.yRT he2) (dP (yRT.aF e.yRT)) ?_;simp -dsimp -implicitDefEqProofs [jA,Nat.min_eq_left hk2,iW];refine⟨by omega,gB hlt hlen2,k+1,hlt,by omega,?_⟩;have hs2:(x.yR1.map yR2.iD).take (k+1)=(x.yR1.map yR2.iD).take k++[yR2.iD e]:=by rw[<-zbl,<-zbl,hs,zaD];rfl
  apply aB<;>simp[Obj.leO,hs2]
 have hke2:k=x.yR1.length:=by omega
 subst hke2;exact goU_
def ypa(e:Reach)(hl:Reach.small e):nI prg 136 [.agg (e.enc.map .c)] (.agg (e.iD.map .c)):=by
 have h1:=hl.1.1;have h2:=hl.2.1;refine fF ysq ?_;simp -dsimp -implicitDefEqProofs [yjr,jA];exact⟨by omega,by omega⟩
def ypc(e:Reach)(hl:Reach.small e):qB prg 136 [.agg (e.enc.map .c)] (.agg (e.enc.map .c)):=(ypa e hl).pure (by simp[AV.shr,AV.yoE,dO,C.shr])
def yFb(e:yR6)(hl:yR6.small e):qB prg 138 [.agg (e.enc.map .c)] (.agg (e.enc.map .c)):=by
 refine dB yub (goQ_ ?_);refine bI (ybP e.yRT hl) ?_;exact goE_
@[simp] def lkI(e:yR0):List C:=[.i e.Length,.i e.Width,.i e.ySi,.i e.ySj,.i e.Base,.i e.Area,.i e.ySs,.i e.ySn,.i e.Gate,.ow 2 (e.yRY.map yRT.enc)]
def yxj(e:yR0)(hl:yR0.small e):nI prg 240 [.agg (e.enc.map .c)] (.agg ((lkI e).map .c)):=by
 have hl1:=hl.1;have hsm:=hl.2;refine fF ysx (goQ_ ?_);refine yX2 (λk=>k<=e.yRY.length) (λk=>xC [(1,.box 1 0),(2,.box 2 0),(3,.own 5 2 k),(4,.c (.i k))] [(1,.box [.c (.i e.Length),.c (.i e.Width),.c (.i e.ySi),.c (.i e.ySj),.c (.i e.Base),.c (.i e.Area),.c (.i e.ySs),.c (.i e.ySn),.c (.i e.Gate),.c (.sl 2 (e.yRY.map yRT.enc))]),(2,.box [.c (.i 0),.c (.i 0),.c (.i 0),.c (.i 0),.c (.i 0),.c (.i 0),.c (.i 0),.c (.i 0),.c (.i 0),.nil 2]),(5,.row 2 ((e.yRY.take k).map yRT.enc))]) (λk=>e.yRY.length-k) (by apply aB<;>simp[Obj.leO]) ?_
 rintro k hk
 rcases yX1 k e.yRY with⟨klt,e1,he⟩|kge
 .have he2:=hsm e1 (zac he);have g1:=(zaa.1 he).2;have hs2:(e.yRY.map yRT.enc).take (k+1)=(e.yRY.map yRT.enc).take k++[yRT.enc e1]:=by rw[zao,zau,he];rfl
  refine yaeV he g1 klt (fC klt) ?_;intro hlen;refine dD (ybP e1 he2) ?_;simp -dsimp -implicitDefEqProofs [he,g1,klt,fC klt,jA,Nat.min_eq_left hk];refine⟨by omega,gB klt hlen,k+1,klt,by omega,?_⟩;apply aB<;>simp[Obj.leO,hs2]
 have ek:k=e.yRY.length:=by omega
 subst ek;exact goU_
def yb7(e:yR0)(hl:yR0.small e):qB prg 240 [.agg (e.enc.map .c)] (.agg (e.enc.map .c)):=(yxj e hl).pure (by simp[AV.shr,AV.yoE,dO,C.shr])
def rO(r:Reach):Int:=if xE r then 1000000000-sZ r else 0
def ybC(r:Reach)(a:Int):Bool:=xE r&&decide (0<=a)&&decide (a<=rO r)
def dU(r:Reach)(a:Int):Reach:=
 if ybC r a then(if r.ySk.length=0 then⟨r.ySg,r.ySh+a,r.ySk⟩else⟨r.ySg,r.ySh,r.ySk.set (r.ySk.length-1) (r.ySk.getD (r.ySk.length-1) 0+a)⟩)else r
def yS8(r:Reach):Reach:=
 if xE r&&decide (0<r.ySk.length)then⟨r.ySg,r.ySh+r.ySk.getD 0 0,r.ySk.tail++[0]⟩else r
def ys2(r:Reach):0<=rO r/\rO r<=1000000000:=by
 unfold rO;split
 .rename_i h;have:=(yF h).rng;omega
 .omega
def yo3(r:Reach):qB prg 275 [.agg (r.enc.map .c)] (.c (.i (rO r))):=by
 refine dB ytk (goQ_ ?_);refine aA (oL r) ?_;cases h:xE r with
 |false=>simp -dsimp -implicitDefEqProofs;simp[rO,h]
 |true=>
 have f:=(yF h).rng;have ht:ye4 r=sZ r:=by simp[ye4,h]
 refine goQ_ ?_;refine aA (yn0 r) (yafw ht ?_);refine⟨by unfold inI;omega,?_⟩;simp[rO,h]
def yAl(r:Reach)(a:Int)(hl:r.small):nI prg 183 [.agg (r.enc.map .c),.c (.i a)] (.agg ((dU r a).iD.map .c)):=by
 refine fF yvx (goQ_ ?_);refine yX3 (ye5 r hl) (dP (Reach.aF r)) (goT_ ?_);refine aA (oL r) ?_;cases h:xE r with
 |false=>simp -dsimp -implicitDefEqProofs [jA];simp[dU,ybC,h]
 |true=>
 have f:=yF h;have f1:=f.rng;have hv:=aC.1 (show inRange r.ySh 0 1000000000=true from f.vol);have hsp:=ys2 r;have hlen12:=f.len
 have hno:¬(0<=a/\a<=rO r)->dU r a=r:=λhn=>by
  have:ybC r a=false:=by
   simp only[ybC,h,zaW,zcG,decide_eq_false_iff_not];omega
  simp[dU,this]
 have hyes:0<=a->a<=rO r->ybC r a=true:=λh1 h2=>by simp[ybC,h,h1,h2]
 refine goQ_ ?_;refine⟨λh0=>?_,λh0=>?_⟩
 rotate_left
 .rw[hno (by omega)];simp[jA]
 refine aA (yo3 r) (goQ_ ?_);refine⟨λh1=>?_,λh1=>?_⟩
 .rw[hno (by omega)];simp[jA]
 have hc:=hyes h0 (by omega);intro _;refine⟨λhp=>?_,λhp=>?_⟩
 .have e:dU r a=⟨r.ySg,r.ySh+a,r.ySk⟩:=by simp[dU,hc,hp]
  rw[e];refine⟨by unfold inI;omega,?_⟩;simp[jA]
 .have hpl:0<r.ySk.length:=zbs.2 hp;obtain⟨v,hv2⟩:∃v,r.ySk[r.ySk.length-1]?=some v:=⟨_,zab (by omega)⟩;have hva:=aC.1 (show inRange v 0 1000000000=true from f.amt v (zac hv2));have hg:r.ySk.getD (r.ySk.length-1) 0=v:=by rw[zai,hv2];rfl
  have e:dU r a=⟨r.ySg,r.ySh,r.ySk.set (r.ySk.length-1) (v+a)⟩:=by
   have:¬r.ySk.length=0:=by omega
   simp only[dU,hc,if_true,if_neg this,hg]
  rw[e];intro _;refine⟨by unfold inI;omega,by omega,by omega,by omega,yafw hv2 ?_⟩;refine⟨by unfold inI;omega,by omega,by omega,by omega,jA.symm,?_⟩;exact(zae (by simp)).symm
def Reach.yoT(r:Reach):(AV.agg (r.iD.map .c)).shr (.agg (r.enc.map .c)):=by simp[AV.shr,AV.yoE,dO,C.shr]
def yyV(r:Reach)(a:Int)(hl:r.small):qB prg 183 [.agg (r.enc.map .c),.c (.i a)] (.agg ((dU r a).enc.map .c)):=(yAl r a hl).pure (Reach.yoT _)
def yXE(xs:List Int)(h:0<xs.length):List.take xs.length (List.take xs.length (List.take (xs.length-1) (xs.map qC).tail)++((xs.map qC).drop (xs.length-1)).set 0 (((List.take xs.length (List.take (xs.length-1) (xs.map qC).tail)++(xs.map qC).drop (xs.length-1))[xs.length-1]?.getD []).set 0 (.i 0)))=(xs.map qC).tail++[qC 0]:=by
 have hl:((xs.map qC).tail).length=xs.length-1:=by simp
 have hT:List.take xs.length (List.take (xs.length-1) (xs.map qC).tail)=(xs.map qC).tail:=by
  rw[zae (l:=(xs.map qC).tail) (by omega),zae (by omega)]
 obtain⟨z,hz⟩:∃z,xs.drop (xs.length-1)=[z]:=zbI.1 (by simp;omega);have hd:(xs.map qC).drop (xs.length-1)=[qC z]:=by rw[<-zdn,hz];rfl
 rw[hT,hd,zaz (by omega),hl];simp only[zcc,zbP,zbc,zbC];exact zae (by rw[zah,hl];simp;omega)
def yW0(r:Reach)(hl:r.small):nI prg 184 [.agg (r.enc.map .c)] (.agg ((yS8 r).iD.map .c)):=by
 refine fF yWj (goQ_ ?_);refine yX3 (ye5 r hl) (dP (Reach.aF r)) (goT_ ?_);intro hlen;refine⟨λhp=>?_,λhp=>?_⟩
 rotate_left
 .simp[yS8,hp,jA]
 refine aA (oL r) ?_;cases h:xE r with
 |false=>simp -dsimp -implicitDefEqProofs [jA];simp[yS8,h]
 |true=>
 have f:=yF h;have hv:=aC.1 (show inRange r.ySh 0 1000000000=true from f.vol);have hpl:0<r.ySk.length:=zbs.2 hp;obtain⟨v,hv2⟩:∃v,r.ySk[0]?=some v:=⟨_,zab hpl⟩;have hva:=aC.1 (show inRange v 0 1000000000=true from f.amt v (zac hv2))
 have hfl:yS8 r=⟨r.ySg,r.ySh+v,r.ySk.tail++[0]⟩:=by
  have hg:r.ySk.getD 0 0=v:=by rw[zai,hv2];rfl
  simp only[yS8,h,decide_eq_true hpl,zdH,if_true,hg]
 have h12:=f.len;rw[hfl];refine yafw hv2 ?_;exact⟨hpl,by unfold inI;omega,by omega,λ_=>⟨by unfold inI;omega,by omega,by omega,by omega,jA.symm,(yXE r.ySk hpl).symm⟩⟩
def takeN(r:Reach)(a k:Int):Int:=
 let z:=if r.ySh-k<a then r.ySh-k else a
 if 0<z then z else 0
def ycj(r:Reach)(a k:Int):Bool:=xE r&&decide (0<=a)&&decide (0<=k)
def rG(r:Reach)(a k:Int):Reach×Int:=if ycj r a k then(⟨r.ySg,r.ySh-takeN r a k,r.ySk⟩,takeN r a k)else(r,0)
def yyl(r:Reach)(a k:Int)(hl:r.small):nI prg 181 [.agg (r.enc.map .c),.c (.i a),.c (.i k)] (.tup [.agg ((rG r a k).1.iD.map .c),.c (.i (rG r a k).2)]):=by
 refine yBL ytZ (by simp) λhwf=>?_;refine goQ_ ?_;refine yX3 (ye5 r hl) (dP (Reach.aF r)) (goT_ ?_);refine aA (oL r) ?_;cases h:xE r with
 |false=>
  refine goT_ ?_;have e:rG r a k=(r,0):=by simp[rG,ycj,h]
  rw[e];refine ycx ?_;simp[jA]
 |true=>
 have f:=yF h;have hv:=aC.1 (show inRange r.ySh 0 1000000000=true from f.vol);refine goQ_ ?_;refine⟨λha=>⟨λhk=>?_,λhk=>?_⟩,λha=>?_⟩
 .have e:rG r a k=(r,0):=by
   have:¬0<=k:=by omega
   simp[rG,ycj,this]
  rw[e];refine ycx ?_;simp[jA]
 .have e:rG r a k=(⟨r.ySg,r.ySh-takeN r a k,r.ySk⟩,takeN r a k):=by simp[rG,ycj,h,ha,hk]
  rw[e]
  have hk2:inI k:=by
   have:=hwf.2.2.1;simpa[AV.wf,AV.wf1,C.WF]using this
  unfold inI at hk2;have ht:takeN r a k=(if 0<(if r.ySh-k<a then r.ySh-k else a)then(if r.ySh-k<a then r.ySh-k else a)else 0):=rfl
  have htr:0<=takeN r a k/\takeN r a k<=1000000000:=by
   rw[ht];repeat' split
   all_goals omega
  rw[<-ht];refine⟨by unfold inI;omega,by unfold inI;omega,?_⟩;refine ycx ?_;simp[jA]
 .have e:rG r a k=(r,0):=by
   have:¬0<=a:=by omega
   simp[rG,ycj,this]
  rw[e];refine ycx ?_;simp[jA]
def yvU(r:Reach)(a k:Int)(hl:r.small):qB prg 181 [.agg (r.enc.map .c),.c (.i a),.c (.i k)] (.tup [.agg ((rG r a k).1.enc.map .c),.c (.i (rG r a k).2)]):=(yyl r a k hl).pure (by simp[AV.shr,AV.yEj,AV.yoE,dO,C.shr])
def yTr(a b:Reach)(q k:Int):Bool:=xE a&&xE b&&decide (0<=q)&&decide (0<=k)
def yUl(b:Reach)(q:Int):Int:=if rO b<q then rO b else q
def yTe(a b:Reach)(q k:Int):Reach×Reach×Int:=
 if yTr a b q k then((rG a (yUl b q) k).1,dU b (rG a (yUl b q) k).2,(rG a (yUl b q) k).2)else(a,b,0)
def yqt(e:Reach)(hl:Reach.small e):qB prg 249 [.agg (e.enc.map .c)] (.agg (e.enc.map .c)):=(ye5 e hl).pure (Reach.yoT _)
def yWT(a b:Reach)(q k:Int)(ha:a.small)(hb:b.small):qB prg 272 [.agg (a.enc.map .c),.agg (b.enc.map .c),.c (.i q),.c (.i k)] (.tup [.agg ((yTe a b q k).1.enc.map .c),.agg ((yTe a b q k).2.1.enc.map .c),.c (.i (yTe a b q k).2.2)]):=by
 refine dB yWm ?_;have no:yTr a b q k=false->yTe a b q k=(a,b,0):=λh=>by simp[yTe,h]
 refine goQ_ ?_;refine aA (oL a) ?_;cases h1:xE a with
 |false=>
  rw[no (by simp[yTr,h1])];refine goQ_ ?_;refine bI (yqt a ha) (goQ_ ?_);refine bI (yqt b hb) ?_;exact goE_
 |true=>
 refine goQ_ ?_;refine aA (oL b) ?_;cases h2:xE b with
 |false=>
  rw[no (by simp[yTr,h2])];refine goQ_ ?_;refine bI (yqt a ha) (goQ_ ?_);refine bI (yqt b hb) ?_;exact goE_
 |true=>
 refine goQ_ ?_;refine⟨λhq=>⟨λhk=>?_,λhk=>?_⟩,λhq=>?_⟩
 .have hk':¬0<=k:=by omega
  rw[no (by simp[yTr,hk'])];refine bI (yqt a ha) (goQ_ ?_);refine bI (yqt b hb) ?_;exact goE_
 .have hc:yTr a b q k=true:=by simp[yTr,h1,h2,hq,hk]
  have e:yTe a b q k=((rG a (yUl b q) k).1,dU b (rG a (yUl b q) k).2,(rG a (yUl b q) k).2):=by simp[yTe,hc]
  rw[e];refine ypC (yo3 b) (goQ_ ?_);have hT:=yvU a (yUl b q) k ha;unfold yUl at hT|-;refine bI hT ?_;generalize rG a (if rO b<q then rO b else q) k=r at *;refine goQ_ ?_;refine bI (yyV b r.2 hb) ?_;exact goE_
 .have hq':¬0<=q:=by omega
  rw[no (by simp[yTr,hq'])];refine bI (yqt a ha) (goQ_ ?_);refine bI (yqt b hb) ?_;exact goE_
def yTv:Nat->Nat
 |0=>0
 |m+1=>if(yTv m+1)*(yTv m+1)<=m+1 then yTv m+1 else yTv m
def yV1:∀m:Nat,yTv m*yTv m<=m/\m<(yTv m+1)*(yTv m+1)
 |0=>by simp[yTv]
 | m+1=>by
  have ih:=yV1 m;unfold yTv;split
  .rename_i h;refine⟨h,?_⟩
   have:(yTv m+1+1)*(yTv m+1+1)=(yTv m+1)*(yTv m+1)+2*(yTv m+1)+1:=by
    rw[zbB,Nat.mul_add];omega
   omega
  .omega
def yW6{m r:Nat}(h1:r*r<=m)(h2:m<(r+1)*(r+1)):yTv m=r:=by
 obtain⟨a,b⟩:=yV1 m;rcases zcH (yTv m) r with h|h|h
 .have:(yTv m+1)*(yTv m+1)<=r*r:=zdx h h;omega
 .exact h
 .have:(r+1)*(r+1)<=yTv m*yTv m:=zdx h h;omega
def yTm(n:Int):Int:=if 0<=n/\n<=1000000000000000000 then yTv n.toNat else -1
def yW3(n:Int):qB prg 273 [.c (.i n)] (.c (.i (yTm n))):=by
 refine dB yWq (goQ_ ?_);refine⟨λh0=>⟨λh1=>?_,λh1=>?_⟩,λh0=>?_⟩
 .have:¬(0<=n/\n<=1000000000000000000):=by omega
  simp only[yTm,if_neg this]
 rotate_left
 .have:¬(0<=n/\n<=1000000000000000000):=by omega
  simp only[yTm,if_neg this]
 have hr:0<=n/\n<=1000000000000000000:=by omega
 refine qA (ι:=Nat×Nat) (λp=>p.1<=p.2/\p.2<=1000000000/\p.1*p.1<=n.toNat/\n.toNat<(p.2+1)*(p.2+1)) (λp=>xC [(0,.c (.i n)),(3,.c (.i p.1)),(4,.c (.i p.2))] []) (λp=>p.2-p.1) (0,1000000000) (by simp;omega) (by apply aB<;>simp) ?_
 rintro⟨lo,hi⟩ ⟨h1,h2,h3,h4⟩
 simp only at h1 h2 h3 h4;refine goQ_ ?_;refine⟨λhg=>?_,λhg=>?_⟩
 .obtain⟨m,hm⟩:∃m,m=(lo+hi+1)/2:=⟨_,rfl⟩;have em:((lo:Int)+hi+1).tdiv 2=(m:Int):=by rw[zaG (by omega)];omega
  have hmm:(m:Int)*m=((m*m:Nat):Int):=(Int.natCast_mul m m).symm;have hb:m*m<=1000000000*1000000000:=zdx (by omega) (by omega);rw[em,hmm];refine⟨by unfold inI;omega,by unfold inI;omega,by unfold inI;omega,by unfold inI;omega,λhc=>?_,λhc=>?_⟩
  .have h4i:n<((hi:Int)+1)*(hi+1):=by
    have:((hi:Int)+1)*(hi+1)=(((hi+1)*(hi+1):Nat):Int):=by simp
    omega
   refine⟨m,hi,⟨by omega,h2,by omega,h4i⟩,by omega,?_⟩;apply aB<;>simp
  .refine⟨by unfold inI;omega,lo,m-1,⟨by omega,by omega,by omega,by rw[show((m-1:Nat):Int)+1=m by omega,hmm];omega⟩,by omega,?_⟩;apply aB<;>simp<;>omega
 .have:hi=lo:=by omega
  subst this;simp only[yTm,if_pos hr];rw[yW6 h3 h4]
def yyJ{a b A B:Int}(ha:0<=a/\a<=A)(hb:0<=b/\b<=B):0<=a*b/\a*b<=A*B:=
 ⟨zcx ha.1 hb.1,zde ha.2 hb.2 hb.1 (by omega)⟩
def lev(x:Int):Bool:=inRange x 0 100000
structure yXD(w:ySp):Prop where
 gts:1<=w.ySu/\w.ySu<=8
 opn:0<=w.Open/\w.Open<=10*w.ySu
 stp:1<=w.Step/\w.Step<=80
 crs:0<=w.ySy/\w.ySy<=100000
 wid:1<=w.Width/\w.Width<=1000
def yTI{w:ySp}(h:iZ w=true):yXD w:=by
 simp only[iZ,zad]at h;obtain⟨⟨⟨⟨h1,h2⟩,h3⟩,h4⟩,h5⟩:=h;exact⟨aC.1 h1,aC.1 h2,aC.1 h3,aC.1 h4,aC.1 h5⟩
structure yXA(r:Rule):Prop where
 low:0<=r.Low/\r.Low<=100000
 hig:0<=r.High/\r.High<=100000
 fld:0<=r.ySx/\r.ySx<=100000
 lh:r.Low<r.High
 hf:r.High<=r.ySx
def yWt{r:Rule}(h:ya3 r=true):yXA r:=by
 simp only[ya3,zad,decide_eq_true_eq]at h;obtain⟨⟨⟨⟨h1,h2⟩,h3⟩,h4⟩,h5⟩:=h;exact⟨aC.1 h1,aC.1 h2,aC.1 h3,h4,h5⟩
def yXx{n:Int}(h:n<=1000000): -1<=yTm n/\yTm n<=1000:=by
 unfold yTm;split
 .rename_i h2;obtain⟨a,b⟩:=yV1 n.toNat;refine⟨by omega,?_⟩;rcases zas 1000 (yTv n.toNat)with e|e
  .have:1001*1001<=yTv n.toNat*yTv n.toNat:=zdx e e;omega
  .omega
 .omega
def yWb{n:Int}(h0:0<=n)(h:n<=1000000):0<=yTm n/\yTm n<=1000:=by
 refine⟨?_,(yXx h).2⟩;unfold yTm;rw[if_pos ⟨h0,by omega⟩];omega
def yTk(w:ySp)(up down:Int):Int:=up-(if w.ySy<down then down else w.ySy)
def yTV(w:ySp)(up down:Int):Bool:=iZ w&&lev up&&lev down&&decide (0<yTk w up down)
def yS1(w:ySp)(up down:Int):Int:=if yTV w up down then(w.Open*w.Width*yTm (yTk w up down)).tdiv 10 else 0
def yakO(w:ySp)(up down:Int):0<=yS1 w up down/\yS1 w up down<=8000000:=by
 unfold yS1;split
 .rename_i h;simp only[yTV,zad,decide_eq_true_eq]at h;obtain⟨⟨⟨h1,h2⟩,h3⟩,h4⟩:=h;have f:=yTI h1;have f1:=f.gts;have f2:=f.opn;have f3:=f.wid;have f4:=f.crs;have u:=aC.1 h2;have hd:yTk w up down<=100000:=by unfold yTk;split<;>omega
  have m1:=yyJ (a:=w.Open) (b:=w.Width) (A:=80) (B:=1000) (by omega) (by omega);have r1:=yWb (n:=yTk w up down) (by omega) (by omega);have m2:=yyJ (a:=w.Open*w.Width) (b:=yTm (yTk w up down)) (A:=80000) (B:=1000) (by omega) r1;rw[zaG m2.1];omega
 .omega
def yWe(w:ySp)(o:Int):Int:=
 let z:=if w.Open+w.Step<o then w.Open+w.Step else o
 if z<w.Open-w.Step then w.Open-w.Step else z
@[simp] def ySp.opened(w:ySp)(o:Int):ySp:=⟨w.ySu,o,w.Step,w.ySy,w.Width⟩
def yTf(w:ySp)(o:Int):ySp:=if iZ w&&inRange o 0 (10*w.ySu)then w.opened (yWe w o)else w
def yTQ(w:ySp)(up down q:Int):Nat->Int->Int
 |0,o=>o
 |m+1,o=>if q<=yS1 (w.opened o) up down then o else yTQ w up down q m (o+1)
def yTu(w:ySp)(up down q:Int):Int:=if iZ w&&lev up&&lev down then yTQ w up down q (10*w.ySu).toNat 0 else 0
def yWs{w:ySp}{up down q:Int}{k n:Nat}(h:k<=n)(hg:q<=yS1 (w.opened k) up down):yTQ w up down q (n-k) k=k:=by
 cases hm:n-k with
 |zero=>rfl
 |succ m=>rw[yTQ,if_pos hg]
def yW2{w:ySp}{up down q:Int}{k n:Nat}(h:k<n)(hg:yS1 (w.opened k) up down<q):yTQ w up down q (n-(k+1)) ((k+1:Nat):Int)=yTQ w up down q (n-k) k:=by
 rw[show n-k=(n-(k+1))+1 by omega,yTQ,if_neg (by omega)];rfl
def wants(r:Rule)(l q:Int):Bool:=ya3 r&&inRange q 0 1000000000&&lev l&&decide (r.Low<l)
def yS5(r:Rule)(l q:Int):Int:=
 if wants r l q then(if 2*q<(q*(l-r.Low)).tdiv (r.High-r.Low)then 2*q else(q*(l-r.Low)).tdiv (r.High-r.Low))else 0
def yTa(w:ySp)(r:Rule)(up down q:Int):Bool:=iZ w&&ya3 r&&inRange q 0 1000000000&&lev up&&lev down
def yS9(w:ySp)(r:Rule)(up down q:Int):ySp:=
 if yTa w r up down q then(if r.ySx<=up then yTf w (10*w.ySu)else yTf w (yTu w up down (yS5 r up q)))else w
def ySZ(a b:Reach)(w:ySp):Reach×Reach×Int:=
 if xE a&&xE b&&iZ w then yTe a b (yS1 w (kD a) (kD b)) (fH a.ySg w.ySy)else(a,b,0)
def yUb(w:ySp)(up down:Int):qB prg 180 [.agg (w.enc.map .c),.c (.i up),.c (.i down)] (.c (.i (yS1 w up down))):=by
 refine dB yVL ?_;have no:yTV w up down=false->yS1 w up down=0:=λh=>by simp[yS1,h]
 refine goQ_ ?_;refine aA (yBa w) ?_;cases h1:iZ w with
 |false=>refine goQ_ ?_;exact no (by simp[yTV,h1])
 |true=>
 refine goQ_ ?_;refine aA (iC up 0 100000) ?_;cases h2:inRange up 0 100000 with
 |false=>refine goQ_ ?_;exact no (by simp[yTV,lev,h2])
 |true=>
 refine goQ_ ?_;refine aA (iC down 0 100000) ?_;cases h3:inRange down 0 100000 with
 |false=>refine goQ_ ?_;exact no (by simp[yTV,lev,h3])
 |true=>
 have f:=yTI h1;have f1:=f.gts;have f2:=f.opn;have f3:=f.wid;have f4:=f.crs;have u:=aC.1 h2;have d:=aC.1 h3;refine goQ_ ?_;have hh:yTk w up down=up-(if w.ySy<down then down else w.ySy):=rfl;have hd: -100000<=yTk w up down/\yTk w up down<=100000:=by rw[hh];split<;>omega
 rw[<-hh];generalize(if w.ySy<down then down else w.ySy)=c at *;refine⟨by unfold inI;omega,?_⟩
 by_cases h4:yTk w up down<=0
 .have no2:=no (by simp[yTV];omega);refine⟨λh5=>?_,λh5=>?_⟩<;>first|exact no2|omega
 .have m1:=yyJ (a:=w.Open) (b:=w.Width) (A:=80) (B:=1000) (by omega) (by omega);have r1:=yWb (n:=yTk w up down) (by omega) (by omega);have m2:=yyJ (a:=w.Open*w.Width) (b:=yTm (yTk w up down)) (A:=80000) (B:=1000) (by omega) r1
  have m3:0<=(w.Open*w.Width*yTm (yTk w up down)).tdiv 10/\(w.Open*w.Width*yTm (yTk w up down)).tdiv 10<=8000000:=by
   rw[zaG m2.1];omega
  have yes:yS1 w up down=(w.Open*w.Width*yTm (yTk w up down)).tdiv 10:=by
   have:yTV w up down=true:=by simp[yTV,lev,h1,h2,h3];omega
   simp[yS1,this]
  refine⟨λh5=>(by omega),λh5=>?_⟩;refine⟨by unfold inI;omega,?_⟩;refine lC (yW3 (yTk w up down)) (goQ_ ?_);exact⟨by unfold inI;omega,by unfold inI;omega,yes⟩
def yXl(n a b:Int):qB prg 353 [.c (.i n),.c (.i a),.c (.i b)] (.c (.i (if b<a\/n<a then a else if b<n then b else n))):=by
 refine dB yWG (goQ_ ?_);refine⟨λh1=>⟨λh2 h3 h4=>by omega,λh2=>⟨λh3=>?_,λh3=>?_⟩⟩,λh1 h2 h3=>by omega⟩
 .rw[if_neg (by omega),if_pos h3]
 .rw[if_neg (by omega),if_neg (by omega)]
def yUY(w:ySp)(o:Int):qB prg 268 [.agg (w.enc.map .c),.c (.i o)] (.agg ((yTf w o).enc.map .c)):=by
 refine dB yVK ?_;have no:(iZ w&&inRange o 0 (10*w.ySu))=false->yTf w o=w:=λh=>by simp[yTf,h]
 refine goQ_ ?_;refine aA (yBa w) ?_;cases h1:iZ w with
 |false=>simp -dsimp -implicitDefEqProofs;simp[no (by simp[h1])]
 |true=>
 have f:=yTI h1;have f1:=f.gts;have f2:=f.opn;have f3:=f.stp;refine goQ_ ?_;refine⟨by unfold inI;omega,?_⟩;refine aA (iC o 0 (10*w.ySu)) ?_;cases h2:inRange o 0 (10*w.ySu)with
 |false=>simp -dsimp -implicitDefEqProofs;simp[no (by simp[h2])]
 |true=>
 have u:=aC.1 h2;have yes:yTf w o=w.opened (yWe w o):=by simp[yTf,h1,h2]
 rw[yes];refine goQ_ ?_;refine⟨by unfold inI;omega,by unfold inI;omega,?_⟩;refine aA (yXl o (w.Open-w.Step) (w.Open+w.Step)) (goQ_ ?_);unfold yWe;simp only
 repeat' split
 all_goals omega
def yWJ(w:ySp)(up down q:Int):qB prg 269 [.agg (w.enc.map .c),.c (.i up),.c (.i down),.c (.i q)] (.c (.i (yTu w up down q))):=by
 refine dB yVZ ?_;have no:(iZ w&&lev up&&lev down)=false->yTu w up down q=0:=λh=>by simp[yTu,h]
 refine goQ_ ?_;refine aA (yBa w) ?_;cases h1:iZ w with
 |false=>refine goQ_ ?_;exact no (by simp[h1])
 |true=>
 refine goQ_ ?_;refine aA (iC up 0 100000) ?_;cases h2:inRange up 0 100000 with
 |false=>refine goQ_ ?_;exact no (by simp[lev,h2])
 |true=>
 refine goQ_ ?_;refine aA (iC down 0 100000) ?_;cases h3:inRange down 0 100000 with
 |false=>refine goQ_ ?_;exact no (by simp[lev,h3])
 |true=>
 have f:=yTI h1;have f1:=f.gts;have f2:=f.opn;have f3:=f.stp;obtain⟨n,hn⟩:∃n:Nat,n=(10*w.ySu).toNat:=⟨_,rfl⟩;have hn2:10*w.ySu=(n:Int):=by omega
 have yes:yTu w up down q=yTQ w up down q n 0:=by rw[hn];simp[yTu,h1,h2,h3,lev]
 rw[yes];refine goQ_ ?_;rw[hn2];refine⟨by unfold inI;omega,?_⟩;refine qA (ι:=Nat×Int) (λz=>z.1<=n+1/\(z.1<=n->yTQ w up down q (n-z.1) z.1=yTQ w up down q n 0)/\(n<z.1->yTQ w up down q n 0=n)) (λz=>xC [(1,.c (.i up)),(2,.c (.i down)),(3,.c (.i q)),(4,.box 4 0),(8,.c (.i 0)),(9,.c (.i n)),(10,.c (.i z.1))] [(4,.box [.c (.i w.ySu),.c (.i z.2),.c (.i w.Step),.c (.i w.ySy),.c (.i w.Width)])]) (λz=>n+1-z.1) (0,w.Open) ⟨by simp,by simp,by simp⟩ (by apply aB<;>simp[Obj.leO]) ?_
 rintro⟨k,o⟩ ⟨h0,hk,he⟩
 simp only at h0 hk he;rcases zas n k with hlt|hge
 .have q1:((k:Int)<=(n:Int))=False:=by simp;omega
  have q2:(k<=n)=False:=by simp;omega
  refine yaed q1 q2 ?_;exact(he hlt)
 .have q1:((k:Int)<=(n:Int))=True:=by simp;omega
  have q2:(k<=n)=True:=by simp;omega
  refine yaed q1 q2 ?_;refine aA (yUb (w.opened k) up down) (goQ_ ?_);have hok:=hk hge;refine⟨λhg=>?_,λhg=>?_⟩
  .rw[<-hok,yWs hge hg]
  .refine⟨by unfold inI;omega,k+1,⟨by omega,λh=>by rw[yW2 (by omega) hg,hok],λh=>?_⟩,by omega,k,?_⟩
   .rw[<-hok,show k=n by omega];simp[yTQ]
   .apply aB<;>simp[Obj.leO]
def yVH(r:Rule)(l q:Int):qB prg 270 [.agg (r.enc.map .c),.c (.i l),.c (.i q)] (.c (.i (yS5 r l q))):=by
 refine dB yVg ?_;have no:wants r l q=false->yS5 r l q=0:=λh=>by simp[yS5,h]
 refine goQ_ ?_;refine aA (yAx r) ?_;cases h1:ya3 r with
 |false=>refine goQ_ ?_;exact no (by simp[wants,h1])
 |true=>
 refine goQ_ ?_;refine aA (iC q 0 1000000000) ?_;cases h2:inRange q 0 1000000000 with
 |false=>refine goQ_ ?_;exact no (by simp[wants,h2])
 |true=>
 refine goQ_ ?_;refine aA (iC l 0 100000) ?_;cases h3:inRange l 0 100000 with
 |false=>refine goQ_ ?_;exact no (by simp[wants,lev,h3])
 |true=>
 have f:=yWt h1;have f1:=f.low;have f2:=f.hig;have f3:=f.lh;have u:=aC.1 h2;have d:=aC.1 h3
 by_cases h4:l<=r.Low
 .refine yafw h4 ?_;exact no (by simp[wants];omega)
 have h4':=zet.1 h4
 have yes:yS5 r l q=if 2*q<(q*(l-r.Low)).tdiv (r.High-r.Low)then 2*q else(q*(l-r.Low)).tdiv (r.High-r.Low):=by
  have:wants r l q=true:=by simp[wants,lev,h1,h2,h3,h4']
  simp[yS5,this]
 have m1:=yyJ (a:=q) (b:=l-r.Low) (A:=1000000000) (B:=100000) (by omega) (by omega)
 have m2:0<=(q*(l-r.Low)).tdiv (r.High-r.Low)/\(q*(l-r.Low)).tdiv (r.High-r.Low)<=100000000000000:=by
  rw[zaG m1.1];refine⟨zcV m1.1 (by omega),zel (zcM _ m1.1) (by omega)⟩
 rw[yes];refine yaed h4 h4' ?_;exact⟨by unfold inI;omega,by unfold inI;omega,by unfold inI;omega,by omega,by unfold inI;omega,by unfold inI;omega⟩
def yVT(w:ySp)(r:Rule)(up down q:Int):qB prg 177 [.agg (w.enc.map .c),.agg (r.enc.map .c),.c (.i up),.c (.i down),.c (.i q)] (.agg ((yS9 w r up down q).enc.map .c)):=by
 refine dB yVx ?_;have no:yTa w r up down q=false->yS9 w r up down q=w:=λh=>by simp[yS9,h]
 refine goQ_ ?_;refine aA (yBa w) ?_;cases h1:iZ w with
 |false=>simp -dsimp -implicitDefEqProofs;simp[no (by simp[yTa,h1])]
 |true=>
 refine goQ_ ?_;refine aA (yAx r) ?_;cases h2:ya3 r with
 |false=>simp -dsimp -implicitDefEqProofs;simp[no (by simp[yTa,h2])]
 |true=>
 refine goQ_ ?_;refine aA (iC q 0 1000000000) ?_;cases h3:inRange q 0 1000000000 with
 |false=>simp -dsimp -implicitDefEqProofs;simp[no (by simp[yTa,h3])]
 |true=>
 refine goQ_ ?_;refine aA (iC up 0 100000) ?_;cases h4:inRange up 0 100000 with
 |false=>simp -dsimp -implicitDefEqProofs;simp[no (by simp[yTa,lev,h4])]
 |true=>
 refine goQ_ ?_;refine aA (iC down 0 100000) ?_;cases h5:inRange down 0 100000 with
 |false=>simp -dsimp -implicitDefEqProofs;simp[no (by simp[yTa,lev,h5])]
 |true=>
 have f:=yTI h1;have f1:=f.gts;have hc:yTa w r up down q=true:=by simp[yTa,lev,h1,h2,h3,h4,h5]
 by_cases h6:r.ySx<=up
 .have yes:yS9 w r up down q=yTf w (10*w.ySu):=by simp[yS9,hc,h6]
  rw[yes];refine yafw h6 ?_;refine⟨by unfold inI;omega,?_⟩;refine aA (yUY w (10*w.ySu)) ?_;exact goE_
 .have yes:yS9 w r up down q=yTf w (yTu w up down (yS5 r up q)):=by simp[yS9,hc,h6]
  rw[yes];refine yafw h6 ?_;refine ypC (yVH r up q) (goQ_ ?_);refine ypC (yWJ w up down (yS5 r up q)) (goQ_ ?_);refine ypC (yUY w (yTu w up down (yS5 r up q))) ?_;exact goE_
def yVM(a b:Reach)(w:ySp)(ha:a.small)(hb:b.small):qB prg 179 [.agg (a.enc.map .c),.agg (b.enc.map .c),.agg (w.enc.map .c)] (.tup [.agg ((ySZ a b w).1.enc.map .c),.agg ((ySZ a b w).2.1.enc.map .c),.c (.i (ySZ a b w).2.2)]):=by
 refine dB yVl ?_;have no:(xE a&&xE b&&iZ w)=false->ySZ a b w=(a,b,0):=λh=>by simp[ySZ,h]
 refine goQ_ ?_;refine aA (oL a) ?_;cases h1:xE a with
 |false=>
  rw[no (by simp[h1])];refine goQ_ ?_;refine bI (yqt a ha) (goQ_ ?_);refine bI (yqt b hb) ?_;exact goE_
 |true=>
 refine goQ_ ?_;refine aA (oL b) ?_;cases h2:xE b with
 |false=>
  rw[no (by simp[h2])];refine goQ_ ?_;refine bI (yqt a ha) (goQ_ ?_);refine bI (yqt b hb) ?_;exact goE_
 |true=>
 refine goQ_ ?_;refine aA (yBa w) ?_;cases h3:iZ w with
 |false=>
  rw[no (by simp[h3])];refine goQ_ ?_;refine bI (yqt a ha) (goQ_ ?_);refine bI (yqt b hb) ?_;exact goE_
 |true=>
 have yes:ySZ a b w=yTe a b (yS1 w (kD a) (kD b)) (fH a.ySg w.ySy):=by simp[ySZ,h1,h2,h3]
 rw[yes];refine goQ_ ?_;refine lC (qL a) (goQ_ ?_);refine lC (qL b) (goQ_ ?_);refine lC (yUb w (kD a) (kD b)) (goQ_ ?_);refine ypC (yxT a.ySg w.ySy) (goQ_ ?_);have hP:=yWT a b (yS1 w (kD a) (kD b)) (fH a.ySg w.ySy) ha hb;refine bI hP ?_;generalize yTe a b (yS1 w (kD a) (kD b)) (fH a.ySg w.ySy)=z at *;exact goE_
def yap{α:Type}(t:α->Nat)(xs:List α):Nat:=xs.length+(xs.map t).sum
def ya2(xs:List Int):Nat:=xs.length
def ylb(xs:List ySa):Nat:=xs.length
def yb0:List (List ySa)->Nat:=yap ylb
def iT(e:yRT):Nat:=yb0 e.Rows
def ymT(xs:List ySc):Nat:=xs.length
def ydF(e:Reach):Nat:=ymT e.ySg+ya2 e.ySk
def ydQ:List Reach->Nat:=yap ydF
def ynl(xs:List ySf):Nat:=xs.length
def gY:List yRT->Nat:=yap iT
def yoM(e:yR0):Nat:=gY e.yRY
def ykp(e:yR4):Nat:=iT e.yRT
def ygU:List yR4->Nat:=yap ykp
def ygK(e:yR8):Nat:=yoM e.yR0+ynl e.Pauses+ygU e.Calls
def yf3:List yR8->Nat:=yap ygK
def hsW(x:yRW):List H:=[.p (.i x.Time),.t 3 (x.yRV.map Reach.iD),.w 2 (x.ySl.map Way.enc),.t 22 (x.yRX.map yR8.iD),.t 1 (x.yR3.map xG),.t 2 (x.yR9.map yRT.iD),.w 1 (x.ySd.map qC),
 .p (.i x.yRZ.Base),.p (.i x.yRZ.ySe),.w 1 (x.yRZ.yR5.map qC),.w 1 (x.yRZ.yR7.map qC),.w 5 (x.Book.map ySb.enc),.t 4 (x.yR1.map yR2.iD),.p (.i x.Start),.p (.i x.In),.p (.i x.Out)]
def wm1(x:yRW)(k:Int):Int:=k+cnt aH x.yRV
def wm2(x:yRW)(k:Int):Int:=wm1 x k+2*x.ySl.length
def wm3(x:yRW)(k:Int):Int:=wm2 x k+cnt iI x.yRX
def wm4(x:yRW)(k:Int):Int:=wm3 x k+cnt kG x.yR3
def wm5(x:yRW)(k:Int):Int:=wm4 x k+cnt jC x.yR9
def wm6(x:yRW)(k:Int):Int:=wm5 x k+x.ySd.length
def wm7(x:yRW)(k:Int):Int:=wm6 x k+nT x.yRZ
def wm8(x:yRW)(k:Int):Int:=wm7 x k+5*x.Book.length
def hsM(x:yRW)(k:Int):List H:=[.p (.i x.Time),.t 3 (dH rY aH k x.yRV),.w 2 (marked yaj 2 [] (wm1 x k) x.ySl.length),.t 22 (dH yax iI (wm2 x k) x.yRX),.t 1 (dH xU kG (wm3 x k) x.yR3),.t 2 (dH pR jC (wm4 x k) x.yR9),.w 1 (marked qC 1 [] (wm5 x k) x.ySd.length),
 .p (.i x.yRZ.Base),.p (.i x.yRZ.ySe),.w 1 (marked qC 1 [] (wm6 x k) x.yRZ.yR5.length),.w 1 (marked qC 1 [] (wm6 x k+x.yRZ.yR5.length) x.yRZ.yR7.length),.w 5 (marked mkEn 5 [] (wm7 x k) x.Book.length),.t 4 (dH iR sF (wm8 x k) x.yR1),.p (.i x.Start),.p (.i x.In),.p (.i x.Out)]
def em(l:List yR6):List C:=[.ow 3 (l.map yR6.enc)]
def yHe(l:List yR6):dO (em l)=some (nD l):=rfl
def yRW.yXO(e:yRW):List C:=[.i e.Time,.ow 3 (e.yRV.map Reach.enc),.ow 2 (e.ySl.map Way.enc),.ow 22 (e.yRX.map yR8.enc),.ot 1 (e.yR3.map em),.ow 2 (e.yR9.map yRT.enc),.ow 1 (e.ySd.map qC),.i e.yRZ.Base,.i e.yRZ.ySe,.ow 1 (e.yRZ.yR5.map qC),.ow 1 (e.yRZ.yR7.map qC),.ow 5 (e.Book.map ySb.enc),.ow 4 (e.yR1.map yR2.enc),.i e.Start,.i e.In,.i e.Out]
def wE(w:yR8):List C:=[.i w.yR0.Length,.i w.yR0.Width,.i w.yR0.ySi,.i w.yR0.ySj,.i w.yR0.Base,.i w.yR0.Area,.i w.yR0.ySs,.i w.yR0.ySn,.i w.yR0.Gate,.sl 2 (w.yR0.yRY.map yRT.enc),.i w.ySp.ySu,.i w.ySp.Open,.i w.ySp.Step,.i w.ySp.ySy,.i w.ySp.Width,.i w.Rule.Low,.i w.Rule.High,.i w.Rule.ySx,.ow 2 (w.Pauses.map ySf.enc),.b w.Turn.Up,.i w.Turn.Count,.ow 4 (w.Calls.map yR4.enc)]
def yK7(w:yR8):dO (wE w)=some w.enc:=rfl
def ywh(w:yR8)(hl:yR8.small w):nI prg 137 [.agg (w.enc.map .c)] (.agg ((wE w).map .c)):=by
 obtain⟨s1,s2,s3⟩:=hl;have hl1:=s3.1;have hp1:=s2.1;have hsm:=s3.2;refine fF ynq (goQ_ ?_);refine dD (yb7 w.yR0 s1) (goT_ ?_);refine⟨by omega,?_⟩;refine yX2 (λk=>k<=w.Calls.length) (λk=>xC [(1,.box 1 0),(2,.box 2 0),(3,.box 3 0),(4,.c (.i k))] [(1,.box (w.enc.map .c)),(2,.box [.c (.i 0),.c (.i 0),.c (.i 0),.c (.i 0),.c (.i 0),.c (.i 0),.c (.i 0),.c (.i 0),.c (.i 0),.nil 2,.c (.i 0),.c (.i 0),.c (.i 0),.c (.i 0),.c (.i 0),.c (.i 0),.c (.i 0),.c (.i 0),.nil 2,.c (.b false),.c (.i 0),.nil 4]),(3,.box ((w.enc.map .c).set 18 (.own 11 2 w.Pauses.length) |>.set 21 (.own 16 4 k))),(11,.row 2 (w.Pauses.map ySf.enc)),(16,.row 4 ((w.Calls.take k).map yR4.enc))]) (λk=>w.Calls.length-k) (by apply aB<;>simp[Obj.leO]) ?_
 rintro k hk
 rcases yX1 k w.Calls with⟨klt,e1,he⟩|kge
 .have he2:=hsm e1 (zac he);have g1:=(zaa.1 he).2;have hs2:(w.Calls.map yR4.enc).take (k+1)=(w.Calls.map yR4.enc).take k++[yR4.enc e1]:=by rw[zao,zau,he];rfl
  refine yaeV he g1 klt (fC klt) ?_;intro hlen;refine dD (ybP e1.yRT he2) ?_;simp -dsimp -implicitDefEqProofs [he,g1,klt,fC klt,jA,Nat.min_eq_left hk];refine⟨by omega,gB klt hlen,k+1,klt,by omega,?_⟩;apply aB<;>simp[Obj.leO,hs2]
 have ek:k=w.Calls.length:=by omega
 subst ek;simp -dsimp -implicitDefEqProofs [jA,wE]
def yRW.yIh(e:yRW):List C:=[.i e.Time,.ow 3 (e.yRV.map Reach.enc),.ow 2 (e.ySl.map Way.enc),.ot 22 (e.yRX.map wE),.ot 1 (e.yR3.map em),.ow 2 (e.yR9.map yRT.enc),.ow 1 (e.ySd.map qC),.i e.yRZ.Base,.i e.yRZ.ySe,.ow 1 (e.yRZ.yR5.map qC),.ow 1 (e.yRZ.yR7.map qC),.ow 5 (e.Book.map ySb.enc),.ow 4 (e.yR1.map yR2.enc),.i e.Start,.i e.In,.i e.Out]
def yEs(x:yRW)(hl:x.small):nI prg 50 [.agg (x.enc.map .c)] (.agg (x.yIh.map .c)):=by
 obtain⟨s1,s2,s3,s4,s5,s6,s7,s8,s9⟩:=hl;have t1:=s1.1;have t2:=s2.1;have t3:=s3.1;have t4:=s4.1;have t5:=s5.1;have t6:=s6.1;have t8:=s8.1;have t9:=s9.1;have t71:=s7.1;have t72:=s7.2;refine fF ytg (goQ_ ?_);refine yX2 (λk=>k<=x.yRV.length) (λk=>xC [(1,.box 1 0),(2,.box 2 0),(3,.box 3 0),(4,.c (.i k))] [(1,.box [.c (.i x.Time),.c (.sl 3 (x.yRV.map Reach.enc)),.c (.sl 2 (x.ySl.map Way.enc)),.c (.sl 22 (x.yRX.map yR8.enc)),.c (.sl 1 (x.yR3.map nD)),.c (.sl 2 (x.yR9.map yRT.enc)),.c (.sl 1 (x.ySd.map qC)),.c (.i x.yRZ.Base),.c (.i x.yRZ.ySe),.c (.sl 1 (x.yRZ.yR5.map qC)),.c (.sl 1 (x.yRZ.yR7.map qC)),.c (.sl 5 (x.Book.map ySb.enc)),.c (.sl 4 (x.yR1.map yR2.enc)),.c (.i x.Start),.c (.i x.In),.c (.i x.Out)]),(2,zW),(3,.box [.c (.i x.Time),.own 13 3 k,.c (.sl 2 (x.ySl.map Way.enc)),.c (.sl 22 (x.yRX.map yR8.enc)),.c (.sl 1 (x.yR3.map nD)),.c (.sl 2 (x.yR9.map yRT.enc)),.c (.sl 1 (x.ySd.map qC)),.c (.i x.yRZ.Base),.c (.i x.yRZ.ySe),.c (.sl 1 (x.yRZ.yR5.map qC)),.c (.sl 1 (x.yRZ.yR7.map qC)),.c (.sl 5 (x.Book.map ySb.enc)),.c (.sl 4 (x.yR1.map yR2.enc)),.c (.i x.Start),.c (.i x.In),.c (.i x.Out)]),(13,.row 3 ((x.yRV.take k).map Reach.enc))]) (λk=>x.yRV.length-k) (by apply aB<;>simp[Obj.leO]) ?_
 rintro k hk
 rcases yX1 k x.yRV with⟨klt,e1,he⟩|kge
 .have he2:=s1.2 e1 (zac he);have g1:=(zaa.1 he).2;have hs2:(x.yRV.map Reach.enc).take (k+1)=(x.yRV.map Reach.enc).take k++[Reach.enc e1]:=by rw[zao,zau,he];rfl
  refine yaeV he g1 klt (fC klt) ?_;intro hlen;refine bI (ypc e1 he2) ?_;simp -dsimp -implicitDefEqProofs [he,g1,klt,fC klt,jA,Nat.min_eq_left hk,iW];refine⟨by omega,gB klt hlen,k+1,klt,by omega,?_⟩;apply aB<;>simp[Obj.leO,hs2]
 have ek:k=x.yRV.length:=by omega
 subst ek;refine goT_ ?_;intro _;refine⟨by omega,?_⟩;refine yX2 (λk=>k<=x.yRX.length) (λk=>xC [(1,.box 1 0),(2,.box 2 0),(3,.box 3 0),(5,.c (.i k))] [(1,.box [.c (.i x.Time),.c (.sl 3 (x.yRV.map Reach.enc)),.c (.sl 2 (x.ySl.map Way.enc)),.c (.sl 22 (x.yRX.map yR8.enc)),.c (.sl 1 (x.yR3.map nD)),.c (.sl 2 (x.yR9.map yRT.enc)),.c (.sl 1 (x.ySd.map qC)),.c (.i x.yRZ.Base),.c (.i x.yRZ.ySe),.c (.sl 1 (x.yRZ.yR5.map qC)),.c (.sl 1 (x.yRZ.yR7.map qC)),.c (.sl 5 (x.Book.map ySb.enc)),.c (.sl 4 (x.yR1.map yR2.enc)),.c (.i x.Start),.c (.i x.In),.c (.i x.Out)]),(2,zW),(3,.box [.c (.i x.Time),.own 13 3 x.yRV.length,.own 33 2 x.ySl.length,.own 38 22 k,.c (.sl 1 (x.yR3.map nD)),.c (.sl 2 (x.yR9.map yRT.enc)),.c (.sl 1 (x.ySd.map qC)),.c (.i x.yRZ.Base),.c (.i x.yRZ.ySe),.c (.sl 1 (x.yRZ.yR5.map qC)),.c (.sl 1 (x.yRZ.yR7.map qC)),.c (.sl 5 (x.Book.map ySb.enc)),.c (.sl 4 (x.yR1.map yR2.enc)),.c (.i x.Start),.c (.i x.In),.c (.i x.Out)]),(13,.row 3 (x.yRV.map Reach.enc)),(33,.row 2 (x.ySl.map Way.enc)),(38,.tr 22 0 ((x.yRX.map wE).take k))]) (λk=>x.yRX.length-k) (by apply aB<;>simp[Obj.leO]) ?_
 rintro k hk
 rcases yX1 k x.yRX with⟨klt,e1,he⟩|kge
 .have he2:=s3.2 e1 (zac he);have g1:=(zaa.1 he).2;have hs2:(x.yRX.map wE).take (k+1)=(x.yRX.map wE).take k++[wE e1]:=by rw[zao,zau,he];rfl
  refine yaeV he g1 klt (fC klt) ?_;intro hlen;refine yCa (ywh e1 he2) (by simp) rfl (by simp[fD,wE]) ?_;simp -dsimp -implicitDefEqProofs [he,g1,klt,fC klt,jA,Nat.min_eq_left hk,iW,wE];refine⟨by omega,gB klt hlen,k+1,klt,by omega,?_⟩;apply aB<;>simp[Obj.leO,hs2,wE]
 have ek:k=x.yRX.length:=by omega
 subst ek;refine goT_ ?_;intro _;refine yX2 (λk=>k<=x.yR3.length) (λk=>xC [(1,.box 1 0),(2,.box 2 0),(3,.box 3 0),(6,.c (.i k))] [(1,.box [.c (.i x.Time),.c (.sl 3 (x.yRV.map Reach.enc)),.c (.sl 2 (x.ySl.map Way.enc)),.c (.sl 22 (x.yRX.map yR8.enc)),.c (.sl 1 (x.yR3.map nD)),.c (.sl 2 (x.yR9.map yRT.enc)),.c (.sl 1 (x.ySd.map qC)),.c (.i x.yRZ.Base),.c (.i x.yRZ.ySe),.c (.sl 1 (x.yRZ.yR5.map qC)),.c (.sl 1 (x.yRZ.yR7.map qC)),.c (.sl 5 (x.Book.map ySb.enc)),.c (.sl 4 (x.yR1.map yR2.enc)),.c (.i x.Start),.c (.i x.In),.c (.i x.Out)]),(2,zW),(3,.box [.c (.i x.Time),.own 13 3 x.yRV.length,.own 33 2 x.ySl.length,.own 38 22 x.yRX.length,.own 58 1 k,.c (.sl 2 (x.yR9.map yRT.enc)),.c (.sl 1 (x.ySd.map qC)),.c (.i x.yRZ.Base),.c (.i x.yRZ.ySe),.c (.sl 1 (x.yRZ.yR5.map qC)),.c (.sl 1 (x.yRZ.yR7.map qC)),.c (.sl 5 (x.Book.map ySb.enc)),.c (.sl 4 (x.yR1.map yR2.enc)),.c (.i x.Start),.c (.i x.In),.c (.i x.Out)]),(13,.row 3 (x.yRV.map Reach.enc)),(33,.row 2 (x.ySl.map Way.enc)),(38,.tr 22 0 (x.yRX.map wE)),(58,if k=0 then .row 1 []else .tr 1 0 ((x.yR3.take k).map em))]) (λk=>x.yR3.length-k) (by apply aB<;>simp[Obj.leO]) ?_
 rintro k hk
 rcases yX1 k x.yR3 with⟨klt,l,hl⟩|kge
 .have hls:=s4.2 l (zac hl);have hll:=hls.1;have g1:=(zaa.1 hl).2;have hs2:(x.yR3.map em).take (k+1)=(x.yR3.map em).take k++[em l]:=by rw[zao,zau,hl];rfl
  refine yaeV hl g1 klt (fC klt) ?_;intro hlen;generalize hZ:(if k=0 then Obj.row 1 []else .tr 1 0 ((x.yR3.map em).take k))=Z;have hz1:Z.leO Z:=by rw[<-hZ];split<;>first|rfl|exact⟨rfl,rfl⟩
  have hz2:∀i,Z.kill i=Z:=by intro i;rw[<-hZ];split<;>rfl
  have hz3:∀L,Z.ye9 L=true:=by intro L;rw[<-hZ];split<;>rfl
  simp only[Obj.leO]at hz1;simp only[Obj.ye9]at hz3;refine yX2 (λi=>i<=l.length) (λi=>xC [(1,.box 1 0),(2,.box 2 0),(3,.box 3 0),(6,.c (.i k)),(7,.own 67 3 i),(8,.c (.i i))] [(1,.box [.c (.i x.Time),.c (.sl 3 (x.yRV.map Reach.enc)),.c (.sl 2 (x.ySl.map Way.enc)),.c (.sl 22 (x.yRX.map yR8.enc)),.c (.sl 1 (x.yR3.map nD)),.c (.sl 2 (x.yR9.map yRT.enc)),.c (.sl 1 (x.ySd.map qC)),.c (.i x.yRZ.Base),.c (.i x.yRZ.ySe),.c (.sl 1 (x.yRZ.yR5.map qC)),.c (.sl 1 (x.yRZ.yR7.map qC)),.c (.sl 5 (x.Book.map ySb.enc)),.c (.sl 4 (x.yR1.map yR2.enc)),.c (.i x.Start),.c (.i x.In),.c (.i x.Out)]),(2,zW),(3,.box [.c (.i x.Time),.own 13 3 x.yRV.length,.own 33 2 x.ySl.length,.own 38 22 x.yRX.length,.own 58 1 k,.c (.sl 2 (x.yR9.map yRT.enc)),.c (.sl 1 (x.ySd.map qC)),.c (.i x.yRZ.Base),.c (.i x.yRZ.ySe),.c (.sl 1 (x.yRZ.yR5.map qC)),.c (.sl 1 (x.yRZ.yR7.map qC)),.c (.sl 5 (x.Book.map ySb.enc)),.c (.sl 4 (x.yR1.map yR2.enc)),.c (.i x.Start),.c (.i x.In),.c (.i x.Out)]),(13,.row 3 (x.yRV.map Reach.enc)),(33,.row 2 (x.ySl.map Way.enc)),(38,.tr 22 0 (x.yRX.map wE)),(58,Z),(67,.row 3 ((l.take i).map yR6.enc))]) (λi=>l.length-i) (by apply aB<;>simp[Obj.leO,hz1,hz2,hz3]) ?_
  rintro i hi
  rcases yX1 i l with⟨ilt,m,hm⟩|ige
  .have hms:=hls.2 m (zac hm);have g2:=(zaa.1 hm).2;have hs3:(l.map yR6.enc).take (i+1)=(l.map yR6.enc).take i++[yR6.enc m]:=by rw[zao,zau,hm];rfl
   refine yafK hl hm g1 g2 klt (fC klt) ilt (fC ilt) ?_;intro hlen2;refine dD (yFb m hms) (yafv (Nat.min_eq_left hi) ?_);refine⟨by omega,gB ilt hlen2,i+1,ilt,by omega,?_⟩;apply aB<;>simp[Obj.leO,hs3,hz1,hz2,hz3]
  have ei:i=l.length:=by omega
  subst ei;simp -dsimp -implicitDefEqProofs [hl,g1,klt,fC klt,jA,hz2];intro _;subst hZ;rcases zaB k with e0|e0
  .subst e0;have hs3:(x.yR3.map em).take 1=[em l]:=by simpa using hs2
   refine goT_ ?_;refine⟨by unfold inI;omega,1,klt,by omega,?_⟩;apply aB<;>simp[Obj.leO,hs3,em]
  .have hne:(k=0)=False:=by simp;omega
   refine goT_2 hne (Nat.min_eq_left hk) ?_;refine⟨by omega,gB klt hlen,k+1,klt,by omega,?_⟩;apply aB<;>simp[Obj.leO,hs2,em]
 have ek:k=x.yR3.length:=by omega
 subst ek;refine goT_ ?_;intro _;have hif:(if x.yR3=[]then Obj.row 1 []else .tr 1 0 (x.yR3.map em))=(if x.yR3.length=0 then Obj.row 1 []else .tr 1 0 (x.yR3.map em)):=by cases x.yR3<;>simp
 generalize hZ:(if x.yR3.length=0 then Obj.row 1 []else .tr 1 0 (x.yR3.map em))=Z at hif;have hz1:Z.leO Z:=by rw[<-hZ];split<;>first|rfl|exact⟨rfl,rfl⟩
 have hz2:∀i,Z.kill i=Z:=by intro i;rw[<-hZ];split<;>rfl
 have hz3:∀L,Z.ye9 L=true:=by intro L;rw[<-hZ];split<;>rfl
 simp only[Obj.leO]at hz1;simp only[Obj.ye9]at hz3;refine yX2 (λk=>k<=x.yR9.length) (λk=>xC [(1,.box 1 0),(2,.box 2 0),(3,.box 3 0),(9,.c (.i k))] [(1,.box [.c (.i x.Time),.c (.sl 3 (x.yRV.map Reach.enc)),.c (.sl 2 (x.ySl.map Way.enc)),.c (.sl 22 (x.yRX.map yR8.enc)),.c (.sl 1 (x.yR3.map nD)),.c (.sl 2 (x.yR9.map yRT.enc)),.c (.sl 1 (x.ySd.map qC)),.c (.i x.yRZ.Base),.c (.i x.yRZ.ySe),.c (.sl 1 (x.yRZ.yR5.map qC)),.c (.sl 1 (x.yRZ.yR7.map qC)),.c (.sl 5 (x.Book.map ySb.enc)),.c (.sl 4 (x.yR1.map yR2.enc)),.c (.i x.Start),.c (.i x.In),.c (.i x.Out)]),(2,zW),(3,.box [.c (.i x.Time),.own 13 3 x.yRV.length,.own 33 2 x.ySl.length,.own 38 22 x.yRX.length,.own 58 1 x.yR3.length,.own 96 2 k,.c (.sl 1 (x.ySd.map qC)),.c (.i x.yRZ.Base),.c (.i x.yRZ.ySe),.c (.sl 1 (x.yRZ.yR5.map qC)),.c (.sl 1 (x.yRZ.yR7.map qC)),.c (.sl 5 (x.Book.map ySb.enc)),.c (.sl 4 (x.yR1.map yR2.enc)),.c (.i x.Start),.c (.i x.In),.c (.i x.Out)]),(13,.row 3 (x.yRV.map Reach.enc)),(33,.row 2 (x.ySl.map Way.enc)),(38,.tr 22 0 (x.yRX.map wE)),(58,Z),(96,.row 2 ((x.yR9.take k).map yRT.enc))]) (λk=>x.yR9.length-k) (by apply aB<;>simp[Obj.leO,hif,hz1,hz2,hz3]) ?_
 rintro k hk
 rcases yX1 k x.yR9 with⟨klt,e1,he⟩|kge
 .have he2:=s5.2 e1 (zac he);have g1:=(zaa.1 he).2;have hs2:(x.yR9.map yRT.enc).take (k+1)=(x.yR9.map yRT.enc).take k++[yRT.enc e1]:=by rw[zao,zau,he];rfl
  refine yaeV he g1 klt (fC klt) ?_;intro hlen;refine bI (ybP e1 he2) ?_;simp -dsimp -implicitDefEqProofs [he,g1,klt,fC klt,jA,Nat.min_eq_left hk,iW];refine⟨by omega,gB klt hlen,k+1,klt,by omega,?_⟩;apply aB<;>simp[Obj.leO,hif,hz1,hz2,hz3,hs2]
 have ek:k=x.yR9.length:=by omega
 subst ek;refine goT_ ?_;intro _;refine⟨by omega,by omega,by omega,by omega,?_⟩;refine yX2 (λk=>k<=x.yR1.length) (λk=>xC [(1,.box 1 0),(2,.box 2 0),(3,.box 3 0),(10,.c (.i k))] [(1,.box [.c (.i x.Time),.c (.sl 3 (x.yRV.map Reach.enc)),.c (.sl 2 (x.ySl.map Way.enc)),.c (.sl 22 (x.yRX.map yR8.enc)),.c (.sl 1 (x.yR3.map nD)),.c (.sl 2 (x.yR9.map yRT.enc)),.c (.sl 1 (x.ySd.map qC)),.c (.i x.yRZ.Base),.c (.i x.yRZ.ySe),.c (.sl 1 (x.yRZ.yR5.map qC)),.c (.sl 1 (x.yRZ.yR7.map qC)),.c (.sl 5 (x.Book.map ySb.enc)),.c (.sl 4 (x.yR1.map yR2.enc)),.c (.i x.Start),.c (.i x.In),.c (.i x.Out)]),(2,zW),(3,.box [.c (.i x.Time),.own 13 3 x.yRV.length,.own 33 2 x.ySl.length,.own 38 22 x.yRX.length,.own 58 1 x.yR3.length,.own 96 2 x.yR9.length,.own 116 1 x.ySd.length,.c (.i x.yRZ.Base),.c (.i x.yRZ.ySe),.own 121 1 x.yRZ.yR5.length,.own 128 1 x.yRZ.yR7.length,.own 135 5 x.Book.length,.own 140 4 k,.c (.i x.Start),.c (.i x.In),.c (.i x.Out)]),(13,.row 3 (x.yRV.map Reach.enc)),(33,.row 2 (x.ySl.map Way.enc)),(38,.tr 22 0 (x.yRX.map wE)),(58,Z),(96,.row 2 (x.yR9.map yRT.enc)),(116,.row 1 (x.ySd.map qC)),(121,.row 1 (x.yRZ.yR5.map qC)),(128,.row 1 (x.yRZ.yR7.map qC)),(135,.row 5 (x.Book.map ySb.enc)),(140,.row 4 ((x.yR1.take k).map yR2.enc))]) (λk=>x.yR1.length-k) (by apply aB<;>simp[Obj.leO,hif,hz1,hz2,hz3]) ?_
 rintro k hk
 rcases yX1 k x.yR1 with⟨klt,e1,he⟩|kge
 .have he2:=s9.2 e1 (zac he);have g1:=(zaa.1 he).2;have hs2:(x.yR1.map yR2.enc).take (k+1)=(x.yR1.map yR2.enc).take k++[yR2.enc e1]:=by rw[zao,zau,he];rfl
  refine yaeV he g1 klt (fC klt) ?_;intro hlen;refine dD (ybP e1.yRT he2) ?_;simp -dsimp -implicitDefEqProofs [he,g1,klt,fC klt,jA,Nat.min_eq_left hk,iW];refine⟨by omega,gB klt hlen,k+1,klt,by omega,?_⟩;apply aB<;>simp[Obj.leO,hif,hz1,hz2,hz3,hs2]
 have ek:k=x.yR1.length:=by omega
 subst ek;refine goT_ ?_;intro _;subst hZ
 by_cases e:x.yR3.length=0
 .have e2:x.yR3=[]:=zay.1 e;simp[yRW.yIh,e2,jA]
 .simp[yRW.yIh,e,jA]
def yWv(x:yRW)(hl:x.small):nI prg 50 [.agg (x.enc.map .c)] (.agg (x.yXO.map .c)):=
 (yEs x hl).loose (by
  simp only[yRW.yIh,yRW.yXO,Los];exact⟨.same _,.same _,.same _,.flat (eF yK7 x.yRX),.same _,.same _,.same _,.same _,.same _,.same _,.same _,.same _,.same _,.same _,.same _,.same _,trivial⟩)
def sent(q:Int):List Reach->List Reach
 |[]=>[]
 |r::l=>dU r q::l
def yUd(x:yRW)(q:Int):Bool:=decide (q<=1000000000-x.Start-x.In)
def yTo(x:yRW)(q:Int):List Reach:=if yUd x q then sent q x.yRV else x.yRV
def yTF(x:yRW)(q:Int):Bool:=rC x&& !decide (x.Time=1000000)&&decide (0<=q)
def yS0(x:yRW)(q:Int):yRW:=
 if yTF x q then⟨x.Time+1,(yTo x q).map yS8,x.ySl,x.yRX,x.yR3,x.yR9,x.ySd,x.yRZ,x.Book,x.yR1,x.Start,if yUd x q then x.In+q else x.In,x.Out⟩else x
def yTO(rs:List Reach)(k:Nat):List Reach:=(rs.take k).map yS8++rs.drop k
def yWZ{rs:List Reach}:yTO rs 0=rs:=by simp[yTO]
def yXe{rs:List Reach}{k:Nat}(h:rs.length<=k):yTO rs k=rs.map yS8:=by
 unfold yTO;rw[zae h,zcy h,zbF]
def yXk{rs:List Reach}{k:Nat}:(yTO rs k).length=rs.length:=by
 unfold yTO;simp;omega
def yXB{rs:List Reach}{k:Nat}(h:k<rs.length):(yTO rs k)[k]?=rs[k]?:=by
 unfold yTO;rw[zaz (by simp;omega)];simp[Nat.min_eq_left (Nat.le_of_lt h)]
def yXg{rs:List Reach}{k:Nat}{r:Reach}(h:rs[k]?=some r):(yTO rs k).set k (yS8 r)=yTO rs (k+1):=by
 have hlt:=(zaa.1 h).1;have hg:=(zaa.1 h).2;unfold yTO;rw[zao,h,zaF hlt,hg];have hl:((rs.take k).map yS8).length=k:=by simp;omega
 rw[zci _ _ (by omega),hl];simp
def yxR{r:Reach}{a:Int}(h:r.small):(dU r a).small:=by
 unfold dU;split
 .split
  .exact h
  .exact⟨h.1,by simpa using h.2.1,λ_ _=>trivial⟩
 .exact h
def yWD{r:Reach}(h:r.small):(yS8 r).small:=by
 unfold yS8;split
 .rename_i h2;simp only[zad,decide_eq_true_eq]at h2;refine⟨h.1,?_,λ_ _=>trivial⟩;have:=h.2.1;simp;omega
 .exact h
def yXJ{q:Int}{l:List Reach}:(sent q l).length=l.length:=by cases l<;>rfl
def yTx{x:yRW}{q:Int}:(yTo x q).length=x.yRV.length:=by unfold yTo;split<;>simp[yXJ]
def yUz{x:yRW}{q:Int}(h:ybv x.yRV):ybv (yTo x q):=by
 refine⟨by rw[yTx];exact h.1,λr hr=>?_⟩;unfold yTo at hr;split at hr
 .have h2:=h.2;revert hr h2;cases x.yRV with
  |nil=>intro hr;simp[sent]at hr
  |cons a l=>
   intro hr h2;simp only[sent,zax]at hr;rcases hr with rfl|hr
   .exact yxR (h2 a (by simp))
   .exact h2 r (by simp[hr])
 .exact h.2 r hr
def yTM{x:yRW}{q:Int}(h:x.small):(yS0 x q).small:=by
 unfold yS0;split
 .obtain⟨s1,s2⟩:=h;have p:=yUz (q:=q) s1;refine⟨⟨by simpa using p.1,λr hr=>?_⟩,s2⟩;obtain⟨r0,h0,rfl⟩:=zaP.1 hr;exact yWD (p.2 r0 h0)
 .exact h
def yFx(es:List Reach)(hl:es.length<=1048576):nI prg 176 [.c (.sl 3 (es.map Reach.enc))] (.c (.ow 3 (es.map Reach.enc))):=by
 refine fF qZ ?_;simp[mP,jA];omega
def yWX{x:yRW}(h:rC x=true):∃r l,x.yRV=r::l:=by
 simp only[rC,sJ,zad,decide_eq_true_eq]at h;obtain⟨⟨⟨⟨⟨⟨⟨h1,h2⟩,h3⟩,h4⟩,h5⟩,h6⟩,h7⟩,h8⟩:=h;have:=h2.1.1.1.1.1.2;cases hx:x.yRV with
 |nil=>rw[hx]at this;simp at this
 |cons r l=>exact⟨r,l,rfl⟩
def yXn{x:yRW}(h:rC x=true):0<=x.Time/\x.Time<=1000000:=by
 simp only[rC,zad]at h;exact aC.1 h.1.1.1.1.1.1.1
def rsC(rs:List Reach)(k:Nat):List (List C):=(yTO rs k).map Reach.enc
def yVP{rs:List Reach}{k:Nat}:(rsC rs k).length=rs.length:=by unfold rsC;rw[zal,yXk]
def yWL{rs:List Reach}{k:Nat}{r:Reach}(h:rs[k]?=some r):(rsC rs k)[k]?=some r.enc:=by
 unfold rsC;rw[zau,yXB (zaa.1 h).1,h];rfl
def yVQ{rs:List Reach}{k:Nat}{r:Reach}(h:rs[k]?=some r):(rsC rs k).set k (yS8 r).enc=rsC rs (k+1):=by
 unfold rsC;rw[<-yXg h,zaZ]
def yVf{rs:List Reach}:rsC rs 0=rs.map Reach.enc:=by unfold rsC;rw[yWZ]
def yVR{rs:List Reach}{k:Nat}(h:rs.length<=k):rsC rs k=(rs.map yS8).map Reach.enc:=by unfold rsC;rw[yXe h]
def yVk(r:Reach)(hl:r.small):qB prg 184 [.agg (r.enc.map .c)] (.agg ((yS8 r).enc.map .c)):=(yW0 r hl).pure (Reach.yoT _)
def yUO{x:yRW}{q:Int}(h:yTF x q=false):yS0 x q=x:=by simp[yS0,h]
def yXU(x:yRW)(q:Int)(hl:x.small):qB prg 74 [.agg (x.enc.map .c),.c (.i q)] (.agg ((yS0 x q).enc.map .c)):=by
 have hl0:=hl;obtain⟨s1,s2,s3,s4,s5,s6,s7,s8,s9⟩:=hl;have s11:=s1.1;refine dB yWU (goQ_ ?_);refine aA (yis x hl0) ?_;cases h:rC x with
 |false=>simp -dsimp -implicitDefEqProofs;simp[yUO,yTF,h]
 |true=>
 have ht:=yXn h;have hw:=yCL h;obtain⟨r0,rl,hrl⟩:=yWX h;refine goQ_ ?_;refine⟨λht2=>?_,λht2=>?_⟩
 rotate_left
 .rw[yUO (by simp[yTF,ht2])];simp
 refine⟨λhq=>?_,λhq=>?_⟩
 .have:¬0<=q:=by omega
  rw[yUO (by simp[yTF,this])];simp
 have hc:yTF x q=true:=by simp[yTF,h,ht2,hq]
 have w1:=hw.start;have w2:=hw.inn;refine⟨by unfold inI;omega,?_⟩;refine yX5 (yFx x.yRV s11) (goT_ ?_);refine⟨by unfold inI;omega,by unfold inI;omega,λhp=>?_,λhp=>?_⟩
 .have hpi:yUd x q=true:=by simp[yUd];omega
  have hrs:yTo x q=dU r0 q::rl:=by simp[yTo,hpi,hrl,sent]
  have e:yS0 x q=⟨x.Time+1,(yTo x q).map yS8,x.ySl,x.yRX,x.yR3,x.yR9,x.ySd,x.yRZ,x.Book,x.yR1,x.Start,x.In+q,x.Out⟩:=by simp[yS0,hc,hpi]
  rw[e];have h00:x.yRV[0]?=some r0:=by rw[hrl];rfl
  have hg0:0<x.yRV.length:=by rw[hrl];simp
  have hset0:(x.yRV.map Reach.enc).set 0 (dU r0 q).enc=(yTo x q).map Reach.enc:=by rw[hrs,hrl];rfl
  have hr0:r0.small:=s1.2 r0 (by rw[hrl];simp);simp only[Reach.enc]at hset0;have g00:=(zaa.1 h00).2;refine yaeT h00 g00 hg0 ?_;refine bI (yyV r0 q hr0) (yaeV h00 g00 hg0 hset0 ?_);refine⟨by unfold inI;omega,?_⟩;intro hlen;refine yX2 (λk=>k<=x.yRV.length) (λk=>xC [(2,.box 2 0),(4,.box 4 0),(5,.box 5 0),(53,.own 28 3 x.yRV.length),(54,.c (.i x.yRV.length)),(55,.c (.i k))] [(2,.box [.c (.i x.Time),.c (.sl 3 (x.yRV.map Reach.enc)),.c (.sl 2 (x.ySl.map Way.enc)),.c (.sl 22 (x.yRX.map yR8.enc)),.c (.sl 1 (x.yR3.map nD)),.c (.sl 2 (x.yR9.map yRT.enc)),.c (.sl 1 (x.ySd.map qC)),.c (.i x.yRZ.Base),.c (.i x.yRZ.ySe),.c (.sl 1 (x.yRZ.yR5.map qC)),.c (.sl 1 (x.yRZ.yR7.map qC)),.c (.sl 5 (x.Book.map ySb.enc)),.c (.sl 4 (x.yR1.map yR2.enc)),.c (.i x.Start),.c (.i x.In),.c (.i x.Out)]),(4,zW),(5,.box [.c (.i (x.Time+1)),.own 28 3 x.yRV.length,.c (.sl 2 (x.ySl.map Way.enc)),.c (.sl 22 (x.yRX.map yR8.enc)),.c (.sl 1 (x.yR3.map nD)),.c (.sl 2 (x.yR9.map yRT.enc)),.c (.sl 1 (x.ySd.map qC)),.c (.i x.yRZ.Base),.c (.i x.yRZ.ySe),.c (.sl 1 (x.yRZ.yR5.map qC)),.c (.sl 1 (x.yRZ.yR7.map qC)),.c (.sl 5 (x.Book.map ySb.enc)),.c (.sl 4 (x.yR1.map yR2.enc)),.c (.i x.Start),.c (.i (x.In+q)),.c (.i x.Out)]),(28,.row 3 (rsC (yTo x q) k))]) (λk=>x.yRV.length-k) (by apply aB<;>simp[yVf]) ?_
  rintro k hk
  have hrl2:(rsC (yTo x q) k).length=x.yRV.length:=by rw[yVP,yTx]
  rcases zas k x.yRV.length with klt|kge
  .obtain⟨r,hr⟩:∃r,(yTo x q)[k]?=some r:=⟨_,zab (by rw[yTx];exact klt)⟩;have hrs2:=(yUz (q:=q) s1).2 r (zac hr);have hat:=yWL hr;have hset:=yVQ hr;simp only[Reach.enc]at hat hset;have hat2:=(zaa.1 hat).2;refine yaff hrl2 hat hat2 klt (fC klt) ?_;refine bI (yVk r hrs2) (yafq hrl2 hat hat2 klt (fC klt) hset ?_);refine⟨gB klt hlen,k+1,klt,by omega,?_⟩;apply aB<;>simp[hset]
  .have hall:=yVR (rs:=(yTo x q)) (k:=k) (by rw[yTx];exact kge);refine yaed (aG kge) hall ?_;exact(zae (by simp[yTx])).symm
 .have hpi:yUd x q=false:=by simp[yUd];omega
  have hrs:yTo x q=x.yRV:=by simp[yTo,hpi]
  have e:yS0 x q=⟨x.Time+1,(yTo x q).map yS8,x.ySl,x.yRX,x.yR3,x.yR9,x.ySd,x.yRZ,x.Book,x.yR1,x.Start,x.In,x.Out⟩:=by simp[yS0,hc,hpi]
  rw[e,hrs];intro hlen;refine yX2 (λk=>k<=x.yRV.length) (λk=>xC [(2,.box 2 0),(4,.box 4 0),(5,.box 5 0),(53,.own 28 3 x.yRV.length),(54,.c (.i x.yRV.length)),(55,.c (.i k))] [(2,.box [.c (.i x.Time),.c (.sl 3 (x.yRV.map Reach.enc)),.c (.sl 2 (x.ySl.map Way.enc)),.c (.sl 22 (x.yRX.map yR8.enc)),.c (.sl 1 (x.yR3.map nD)),.c (.sl 2 (x.yR9.map yRT.enc)),.c (.sl 1 (x.ySd.map qC)),.c (.i x.yRZ.Base),.c (.i x.yRZ.ySe),.c (.sl 1 (x.yRZ.yR5.map qC)),.c (.sl 1 (x.yRZ.yR7.map qC)),.c (.sl 5 (x.Book.map ySb.enc)),.c (.sl 4 (x.yR1.map yR2.enc)),.c (.i x.Start),.c (.i x.In),.c (.i x.Out)]),(4,zW),(5,.box [.c (.i (x.Time+1)),.own 28 3 x.yRV.length,.c (.sl 2 (x.ySl.map Way.enc)),.c (.sl 22 (x.yRX.map yR8.enc)),.c (.sl 1 (x.yR3.map nD)),.c (.sl 2 (x.yR9.map yRT.enc)),.c (.sl 1 (x.ySd.map qC)),.c (.i x.yRZ.Base),.c (.i x.yRZ.ySe),.c (.sl 1 (x.yRZ.yR5.map qC)),.c (.sl 1 (x.yRZ.yR7.map qC)),.c (.sl 5 (x.Book.map ySb.enc)),.c (.sl 4 (x.yR1.map yR2.enc)),.c (.i x.Start),.c (.i x.In),.c (.i x.Out)]),(28,.row 3 (rsC x.yRV k))]) (λk=>x.yRV.length-k) (by apply aB<;>simp[yVf]) ?_
  rintro k hk
  have hrl2:(rsC x.yRV k).length=x.yRV.length:=yVP;rcases yX1 k x.yRV with⟨klt,r,hr⟩|kge
  .have hrs2:=s1.2 r (zac hr);have hat:=yWL hr;have hset:=yVQ hr;simp only[Reach.enc]at hat hset;have hat2:=(zaa.1 hat).2;refine yaff hrl2 hat hat2 klt (fC klt) ?_;refine bI (yVk r hrs2) (yafq hrl2 hat hat2 klt (fC klt) hset ?_);refine⟨gB klt hlen,k+1,klt,by omega,?_⟩;apply aB<;>simp[hset]
  .have hall:=yVR (rs:=x.yRV) (k:=k) (by exact kge);refine yaed (aG kge) hall ?_;exact(zae (by simp[yTx])).symm
def yW4(r:Reach)(a:Int):ydF (dU r a)=ydF r:=by
 have:(dU r a).ySg.length=r.ySg.length/\(dU r a).ySk.length=r.ySk.length:=by
  unfold dU;split
  .split
   .exact⟨rfl,rfl⟩
   .exact⟨rfl,by simp⟩
  .exact⟨rfl,rfl⟩
 unfold ydF ymT ya2;omega
def yUp(w:yR8)(v:ySp):yR8:=⟨w.yR0,v,w.Rule,w.Pauses,w.Turn,w.Calls⟩
def dR(rs:List Reach)(k:Nat):Reach:=rs.getD k default
def dW(ws:List yR8)(k:Nat):yR8:=ws.getD k default
def yTz(q:Int)(rs:List Reach)(ws:List yR8)(k:Nat):ySp:=yS9 (dW ws k).ySp (dW ws k).Rule (kD (dR rs k)) (kD (dR rs (k+1))) q
def through(q:Int)(rs:List Reach)(ws:List yR8)(k:Nat):Reach×Reach×Int:=ySZ (dR rs k) (dR rs (k+1)) (yTz q rs ws k)
def ySX(q:Int)(rs:List Reach)(ws:List yR8):Nat->List Reach×List yR8
 |0=>(rs,ws)
 | k +1=>(((ySX q rs ws k).1.set k (through q (ySX q rs ws k).1 (ySX q rs ws k).2 k).1).set (k+1) (through q (ySX q rs ws k).1 (ySX q rs ws k).2 k).2.1,
     (ySX q rs ws k).2.set k (yUp (dW (ySX q rs ws k).2 k) (yTz q (ySX q rs ws k).1 (ySX q rs ws k).2 k)))
def yTn(x:yRW)(q:Int):Bool:=rC x&&inRange q 0 1000000000
def stR(x:yRW)(q:Int):List Reach:=(ySX q x.yRV x.yRX x.yRX.length).1
def stW(x:yRW)(q:Int):List yR8:=(ySX q x.yRV x.yRX x.yRX.length).2
def yWH(rs:List Reach)(ws:List yR8)(ys:List Way)(n:Nat):Reach×Int:=
 rG (dR rs n) (yS1 (dW ws (n-1)).ySp (kD (dR rs n)) 0) (fH (dR rs n).ySg (ys.getD n default).Bed)
def yS2(x:yRW)(q:Int):yRW:=
 if yTn x q then⟨x.Time,(stR x q).set (x.yRV.length-1) (yWH (stR x q) (stW x q) x.ySl (x.yRV.length-1)).1,x.ySl,stW x q,x.yR3,x.yR9,x.ySd,x.yRZ,x.Book,x.yR1,x.Start,x.In,x.Out+(yWH (stR x q) (stW x q) x.ySl (x.yRV.length-1)).2⟩else x
def yTG{q:Int}{rs:List Reach}{ws:List yR8}:∀k:Nat,(ySX q rs ws k).1.length=rs.length/\(ySX q rs ws k).2.length=ws.length
 |0=>⟨rfl,rfl⟩
 |k+1=>by
  obtain⟨h1,h2⟩:=yTG (q:=q) (rs:=rs) (ws:=ws) k;simp[ySX,h1,h2]
def ye8{rs:List Reach}{k:Nat}(h:k<rs.length):rs[k]?=some (dR rs k):=by
 rw[dR,zai,zab h];rfl
def yi4{ws:List yR8}{k:Nat}(h:k<ws.length):ws[k]?=some (dW ws k):=by
 rw[dW,zai,zab h];rfl
def ywk{r:Reach}{a k:Int}(h:r.small):(rG r a k).1.small:=by
 unfold rG;split<;>exact h
def yWz{a b:Reach}{q k:Int}(ha:a.small)(hb:b.small):(yTe a b q k).1.small/\(yTe a b q k).2.1.small:=by
 unfold yTe;split
 .exact⟨ywk ha,yxR hb⟩
 .exact⟨ha,hb⟩
def yXz{a b:Reach}{w:ySp}(ha:a.small)(hb:b.small):(ySZ a b w).1.small/\(ySZ a b w).2.1.small:=by
 unfold ySZ;split
 .exact yWz ha hb
 .exact⟨ha,hb⟩
def yWS(r:Reach)(a k:Int):ydF (rG r a k).1=ydF r:=by
 unfold rG;split<;>rfl
def yXG(a b:Reach)(q k:Int):ydF (yTe a b q k).1=ydF a/\ydF (yTe a b q k).2.1=ydF b:=by
 unfold yTe;split
 .exact⟨yWS _ _ _,yW4 _ _⟩
 .exact⟨rfl,rfl⟩
def yXK(a b:Reach)(w:ySp):ydF (ySZ a b w).1=ydF a/\ydF (ySZ a b w).2.1=ydF b:=by
 unfold ySZ;split
 .exact yXG _ _ _ _
 .exact⟨rfl,rfl⟩
def yUM{α:Type}{t:α->Nat}{l:List α}{k:Nat}{a b:α}(h:l[k]?=some a)(e:t b=t a):yap t (l.set k b)=yap t l:=by
 obtain⟨hk,rfl⟩:=zaa.1 h
 have:(l.set k b).map t=l.map t:=by
  rw[zaZ,e];apply zbU;intro i;rw[zaE];split
  .rename_i hi;subst hi;simp[hk]
  .rfl
 unfold yap;rw[this,zbn]
def yuN{α:Type}{sm:α->Prop}{l:List α}{k:Nat}{b:α}(h:aW sm l)(e:sm b):aW sm (l.set k b):=
 ⟨by simpa using h.1,λx hx=>by
  rcases zaK hx with hx|hx
  .exact h.2 x hx
  .rw[hx];exact e⟩
def yUk{q:Int}{rs:List Reach}{ws:List yR8}(hr:ybv rs)(hw:ycw ws)(hn:ws.length<rs.length):∀k:Nat,k<=ws.length->
 ybv (ySX q rs ws k).1/\ycw (ySX q rs ws k).2/\ydQ (ySX q rs ws k).1=ydQ rs/\yf3 (ySX q rs ws k).2=yf3 ws
 |0,_=>⟨hr,hw,rfl,rfl⟩
 | k+1,hk=>by
  obtain⟨a,b,c,d⟩:=yUk (q:=q) hr hw hn k (by omega);obtain⟨l1,l2⟩:=yTG (q:=q) (rs:=rs) (ws:=ws) k;simp only[ySX];generalize(ySX q rs ws k).1=rs' at *;generalize(ySX q rs ws k).2=ws' at *;have r1:=ye8 (rs:=rs') (k:=k) (by omega);have r2:=ye8 (rs:=rs') (k:=k+1) (by omega);have w1:=yi4 (ws:=ws') (k:=k) (by omega);have t:=yXK (dR rs' k) (dR rs' (k+1)) (yTz q rs' ws' k);have s:=yXz (w:=yTz q rs' ws' k) (a.2 _ (zac r1)) (a.2 _ (zac r2));refine⟨yuN (yuN a s.1) s.2,yuN b (show yR8.small (dW ws' k)from b.2 _ (zac w1)),?_,?_⟩
  .rw[<-c];have h2:(rs'.set k (through q rs' ws' k).1)[k+1]?=some (dR rs' (k+1)):=by rw[zcJ (by omega)];exact r2
   exact(yUM h2 t.2).trans (yUM r1 t.1)
  .rw[<-d];exact yUM w1 rfl
structure ySP(x:yRW):Prop where
 two:2<=x.yRV.length
 ways:x.ySl.length=x.yRV.length
 mvs:x.yR3.length=x.yRV.length
 wks:x.yRX.length+1=x.yRV.length
def yjV{x:yRW}(h:rC x=true):ySP x:=by
 simp only[rC,zad]at h;obtain⟨⟨⟨⟨⟨⟨⟨h1,h2⟩,h3⟩,h4⟩,h5⟩,h6⟩,h7⟩,h8⟩:=h;simp only[sJ,zad,decide_eq_true_eq]at h2;obtain⟨⟨⟨⟨⟨⟨p1,p2⟩,p3⟩,p4⟩,p5⟩,p6⟩,p7⟩:=h2;exact⟨p2,p3,p4,p5⟩
def yUC{x:yRW}{q:Int}(h:x.small):(yS2 x q).small:=by
 unfold yS2;split
 .rename_i hc;simp only[yTn,zad]at hc;have pl:=yjV hc.1;have p1:=pl.wks;have p2:=pl.two;obtain⟨s1,s2,s3,s4,s5,s6,s7,s8,s9⟩:=h;obtain⟨a,b,c,d⟩:=yUk (q:=q) s1 s3 (by omega) _ (Nat.le_refl _);obtain⟨l1,l2⟩:=yTG (q:=q) (rs:=x.yRV) (ws:=x.yRX) x.yRX.length;exact⟨yuN a (ywk (a.2 _ (zac (ye8 (by have:(stR x q).length=x.yRV.length:=l1;omega))))),s2,b,s4,s5,s6,s7,s8,s9⟩
 .exact h
def yEV(es:List yR8)(hl:es.length<=1048576):nI prg 171 [.c (.sl 22 (es.map yR8.enc))] (.c (.ow 22 (es.map yR8.enc))):=by
 refine fF yQ ?_;simp -dsimp -implicitDefEqProofs [mQ,jA];omega
end
end Go.Proofs.YtdadkiofenhnbaaGreat
