/- What functions answer, in plain Lean. -/
import Derived.Test.YtdadkiofenhnbaaGreatS7
set_option linter.all false
set_option maxRecDepth 100000
set_option maxHeartbeats 4000000
namespace Go.Proofs.YtdadkiofenhnbaaGreat
open Go.RowKit
noncomputable section
def yzy(l:List yRT)(hs:aJ l):qB prg 367 [.c (.sl 2 (l.map yRT.enc))] (.c (.b (Distinct l))):=by
 refine dB ypB (goQ_ ?_);refine yX4 (λk=>k<=l.length/\(∀t∈l.take k,oC t=true)/\(k≠0->l.length<=8)) (λk=>xC [(0,.c (.sl 2 (l.map yRT.enc))),(3,.c (.i k))] []) (λk=>l.length-k) ?_
 rintro k ⟨hk,hall,h8⟩
 rcases yX1 k l with⟨hlt,t,ht⟩|hge
 .have hts:=hs.2 t (zac ht);refine yaed ht (fC hlt) ?_;intro hlen;refine aA (jJ t hts) ?_;cases h1:oC t with
  |false=>refine goQ_ ?_;exact yp8 ht h1
  |true=>
   have hall':=lD (p:=oC) ht hall h1;refine goQ_ ?_;intro _;refine⟨λh9=>(by simp[Distinct];omega),λh9=>?_⟩;have h9':l.length<=8:=by omega
   exact⟨gB hlt hlen,k+1,⟨hlt,hall',λ_=>h9'⟩,by omega,by apply aB<;>simp⟩
 .have h1:=dF (p:=oC) hge hall
  have h8':l.length<=8:=by
   rcases zau k with e|e
   .omega
   .exact h8 (by omega)
  refine yafw (aG hge) ?_;intro _;refine aA (yju l hs h8' (zae.1 h1)) (goQ_ ?_);simp[Distinct,h1,h8']
def lF(k:yR0):Bool:=inRange k.Length 1 1000&&inRange k.Width 1 100&&inRange k.ySi 0 100000&&inRange k.ySj 0 100000&&inRange k.Base 0 100000&&inRange k.Area 1 10000&&inRange k.ySs 1 100000&&inRange k.ySn 0 1000000000&&inRange k.Gate 0 2&&Distinct k.yRY
def pX(k:yR0)(h:k.small):qB prg 343 [.agg (k.enc.map .c)] (.c (.b (lF k))):=by
 refine dB ywo (goQ_ ?_);refine aA (iC k.Length 1 1000) ?_;cases h0:inRange k.Length 1 1000 with
 |false=>simp -dsimp -implicitDefEqProofs;simp[lF,h0]
 |true=>
 refine goQ_ ?_;refine aA (iC k.Width 1 100) ?_;cases h1:inRange k.Width 1 100 with
 |false=>simp -dsimp -implicitDefEqProofs;simp[lF,h0,h1]
 |true=>
 refine goQ_ ?_;refine aA (iC k.ySi 0 100000) ?_;cases h2:inRange k.ySi 0 100000 with
 |false=>simp -dsimp -implicitDefEqProofs;simp[lF,h0,h1,h2]
 |true=>
 refine goQ_ ?_;refine aA (iC k.ySj 0 100000) ?_;cases h3:inRange k.ySj 0 100000 with
 |false=>simp -dsimp -implicitDefEqProofs;simp[lF,h0,h1,h2,h3]
 |true=>
 refine goQ_ ?_;refine aA (iC k.Base 0 100000) ?_;cases h4:inRange k.Base 0 100000 with
 |false=>simp -dsimp -implicitDefEqProofs;simp[lF,h0,h1,h2,h3,h4]
 |true=>
 refine goQ_ ?_;refine aA (iC k.Area 1 10000) ?_;cases h5:inRange k.Area 1 10000 with
 |false=>simp -dsimp -implicitDefEqProofs;simp[lF,h0,h1,h2,h3,h4,h5]
 |true=>
 refine goQ_ ?_;refine aA (iC k.ySs 1 100000) ?_;cases h6:inRange k.ySs 1 100000 with
 |false=>simp -dsimp -implicitDefEqProofs;simp[lF,h0,h1,h2,h3,h4,h5,h6]
 |true=>
 refine goQ_ ?_;refine aA (iC k.ySn 0 1000000000) ?_;cases h7:inRange k.ySn 0 1000000000 with
 |false=>simp -dsimp -implicitDefEqProofs;simp[lF,h0,h1,h2,h3,h4,h5,h6,h7]
 |true=>
 refine goQ_ ?_;refine aA (iC k.Gate 0 2) ?_;cases h8:inRange k.Gate 0 2 with
 |false=>simp -dsimp -implicitDefEqProofs;simp[lF,h0,h1,h2,h3,h4,h5,h6,h7,h8]
 |true=>
 refine goQ_ ?_;refine aA (yfU k.yRY h) ?_;cases h9:Distinct k.yRY with
 |false=>simp -dsimp -implicitDefEqProofs;simp[lF,h0,h1,h2,h3,h4,h5,h6,h7,h8,h9]
 |true=>
  simp -dsimp -implicitDefEqProofs;simp[lF,h0,h1,h2,h3,h4,h5,h6,h7,h8,h9]
def dV(k:yR0)(h:k.small):qB prg 315 [.agg (k.enc.map .c)] (.c (.b (lF k))):=by
 refine dB ywF (goQ_ ?_);refine aA (bC k.Length 1 1000) ?_;cases h0:inRange k.Length 1 1000 with
 |false=>simp -dsimp -implicitDefEqProofs;simp[lF,h0]
 |true=>
 refine goQ_ ?_;refine aA (bC k.Width 1 100) ?_;cases h1:inRange k.Width 1 100 with
 |false=>simp -dsimp -implicitDefEqProofs;simp[lF,h0,h1]
 |true=>
 refine goQ_ ?_;refine aA (yaJ k.ySi) ?_;cases h2:inRange k.ySi 0 100000 with
 |false=>simp -dsimp -implicitDefEqProofs;simp[lF,h0,h1,h2]
 |true=>
 refine goQ_ ?_;refine aA (yaJ k.ySj) ?_;cases h3:inRange k.ySj 0 100000 with
 |false=>simp -dsimp -implicitDefEqProofs;simp[lF,h0,h1,h2,h3]
 |true=>
 refine goQ_ ?_;refine aA (yaJ k.Base) ?_;cases h4:inRange k.Base 0 100000 with
 |false=>simp -dsimp -implicitDefEqProofs;simp[lF,h0,h1,h2,h3,h4]
 |true=>
 refine goQ_ ?_;refine aA (bC k.Area 1 10000) ?_;cases h5:inRange k.Area 1 10000 with
 |false=>simp -dsimp -implicitDefEqProofs;simp[lF,h0,h1,h2,h3,h4,h5]
 |true=>
 refine goQ_ ?_;refine aA (bC k.ySs 1 100000) ?_;cases h6:inRange k.ySs 1 100000 with
 |false=>simp -dsimp -implicitDefEqProofs;simp[lF,h0,h1,h2,h3,h4,h5,h6]
 |true=>
 refine goQ_ ?_;refine aA (bC k.ySn 0 1000000000) ?_;cases h7:inRange k.ySn 0 1000000000 with
 |false=>simp -dsimp -implicitDefEqProofs;simp[lF,h0,h1,h2,h3,h4,h5,h6,h7]
 |true=>
 refine goQ_ ?_;refine aA (bC k.Gate 0 2) ?_;cases h8:inRange k.Gate 0 2 with
 |false=>simp -dsimp -implicitDefEqProofs;simp[lF,h0,h1,h2,h3,h4,h5,h6,h7,h8]
 |true=>
 refine goQ_ ?_;refine aA (yzy k.yRY h) ?_;cases h9:Distinct k.yRY with
 |false=>simp -dsimp -implicitDefEqProofs;simp[lF,h0,h1,h2,h3,h4,h5,h6,h7,h8,h9]
 |true=>
  simp -dsimp -implicitDefEqProofs;simp[lF,h0,h1,h2,h3,h4,h5,h6,h7,h8,h9]
def fJ(w:yR8):Bool:=lF w.yR0&&iZ w.ySp&&ya3 w.Rule&&xO w.Pauses&&ybY w.Turn&&decide (w.Calls.length<=24)&&w.Calls.all jO
def wk1{w:yR8}(h:lF w.yR0=false):fJ w=false:=by simp[fJ,h]
def wk2{w:yR8}(h:iZ w.ySp=false):fJ w=false:=by simp[fJ,h]
def wk3{w:yR8}(h:ya3 w.Rule=false):fJ w=false:=by simp[fJ,h]
def wk4{w:yR8}(h:xO w.Pauses=false):fJ w=false:=by simp[fJ,h]
def wk5{w:yR8}(h:ybY w.Turn=false):fJ w=false:=by simp[fJ,h]
def wk6{w:yR8}(h:24<w.Calls.length):fJ w=false:=by
 have:¬w.Calls.length<=24:=by omega
 simp[fJ,this]
def wk7{w:yR8}{k:Nat}{c:yR4}(hc:w.Calls[k]?=some c)(h:jO c=false):fJ w=false:=by
 have:w.Calls.all jO=false:=all_false (p:=jO) hc h;simp only[fJ,this,zba]
def yAQ(w:yR8)(hs:w.small):qB prg 248 [.agg (w.enc.map .c)] (.c (.b (fJ w))):=by
 refine dB yvC (goQ_ ?_);refine aA (pX w.yR0 hs.1) ?_;cases h1:lF w.yR0 with
 |false=>refine goQ_ ?_;exact wk1 h1
 |true=>
 refine goQ_ ?_;refine aA (yBa w.ySp) ?_;cases h2:iZ w.ySp with
 |false=>refine goQ_ ?_;exact wk2 h2
 |true=>
 refine goQ_ ?_;refine aA (yAx w.Rule) ?_;cases h3:ya3 w.Rule with
 |false=>refine goQ_ ?_;exact wk3 h3
 |true=>
 refine goQ_ ?_;refine aA (ymM w.Pauses) ?_;cases h4:xO w.Pauses with
 |false=>refine goQ_ ?_;exact wk4 h4
 |true=>
 refine goQ_ ?_;refine aA (yjQ w.Turn) ?_;cases h5:ybY w.Turn with
 |false=>refine goQ_ ?_;exact wk5 h5
 |true=>
 refine goQ_ ?_;intro hlen;refine⟨λh6=>(wk6 (by omega)),λh6=>?_⟩
 refineλ_=>qA (ι:=Nat) (λk=>k<=w.Calls.length/\∀c∈w.Calls.take k,jO c=true) (λk=>xC [(38,.c (.sl 4 (w.Calls.map yR4.enc))),(39,.c (.i w.Calls.length)),(40,.c (.i k))] []) (λk=>w.Calls.length-k) 0 (by simp) (by apply aB<;>simp) ?_
 rintro k ⟨hk,hall⟩
 rcases yX1 k w.Calls with⟨hlt,c,hc⟩|hge
 .refine yaed hc (fC hlt) ?_;refine aA (yqV c (hs.2.2.2 c (zac hc))) ?_;cases h7:jO c with
  |false=>refine goQ_ ?_;exact wk7 hc h7
  |true=>
   refine goQ_ ?_;exact⟨gB hlt hlen,k+1,⟨hlt,lD (p:=jO) hc hall h7⟩,by omega,by apply aB<;>simp⟩
 .refine yafw (aG hge) ?_;have h7:=dF (p:=jO) hge hall;have h6':w.Calls.length<=24:=by omega
  simp[fJ,h1,h2,h3,h4,h5,h6',h7]
def yA1(w:yR8)(hs:w.small):qB prg 243 [.agg (w.enc.map .c)] (.c (.b (fJ w))):=by
 refine dB yvV (goQ_ ?_);refine yX4 (λk=>k<=w.Calls.length/\∀c∈w.Calls.take k,jO c=true) (λk=>xC [(1,.box 1 0),(3,.c (.i k))] [(1,.box (w.enc.map .c))]) (λk=>w.Calls.length-k) ?_
 rintro k ⟨hk,hall⟩
 rcases yX1 k w.Calls with⟨hlt,c,hc⟩|hge
 .refine yaed hc (fC hlt) ?_;intro hlen;refine aA (yqK c (hs.2.2.2 c (zac hc))) ?_;cases h7:jO c with
  |false=>refine goQ_ ?_;exact wk7 hc h7
  |true=>
   refine goQ_ ?_;exact⟨gB hlt hlen,k+1,⟨hlt,lD (p:=jO) hc hall h7⟩,by omega,by apply aB<;>simp⟩
 .refine yafw (aG hge) ?_;have h7:=dF (p:=jO) hge hall;intro _;refine⟨λh6=>?_,λh6=>(wk6 (by omega))⟩;have h6':w.Calls.length<=24:=by omega
  refine aA (dV w.yR0 hs.1) ?_;cases h1:lF w.yR0 with
  |false=>refine goQ_ ?_;exact wk1 h1
  |true=>
  refine goQ_ ?_;refine aA (yAj w.ySp) ?_;cases h2:iZ w.ySp with
  |false=>refine goQ_ ?_;exact wk2 h2
  |true=>
  refine goQ_ ?_;refine aA (yzE w.Rule) ?_;cases h3:ya3 w.Rule with
  |false=>refine goQ_ ?_;exact wk3 h3
  |true=>
  refine goQ_ ?_;refine aA (ylL w.Pauses) ?_;cases h4:xO w.Pauses with
  |false=>refine goQ_ ?_;exact wk4 h4
  |true=>
  refine goQ_ ?_;refine aA (yjN w.Turn) (goQ_ ?_);simp[fJ,h1,h2,h3,h4,h6',h7]
def yot:List ySb->Prop:=aW λ_=>True
def ybv:List Reach->Prop:=aW Reach.small
def yhE:List Way->Prop:=aW λ_=>True
def ycw:List yR8->Prop:=aW yR8.small
def ydp:List yR6->Prop:=aW yR6.small
abbrev nD(xs:List yR6):List C:=[.sl 3 (xs.map yR6.enc)]
-- [][]yR6
def yck:List (List yR6)->Prop:=aW ydp
structure yR2 where
 Time:Int
 yR8:Int
 yRT:yRT
 deriving DecidableEq,Inhabited
@[simp] def yR2.enc(e:yR2):List C:=[.i e.Time,.i e.yR8,.b e.yRT.Up,.sl 1 (e.yRT.Rows.map jE)]
-- yR2
def yR2.small(e:yR2):Prop:=e.yRT.small
def ybz:List yR2->Prop:=aW yR2.small
structure yRW where
 Time:Int
 yRV:List Reach
 ySl:List Way
 yRX:List yR8
 yR3:List (List yR6)
 yR9:List yRT
 ySd:List Int
 yRZ:yRZ
 Book:List ySb
 yR1:List yR2
 Start:Int
 In:Int
 Out:Int
 deriving DecidableEq
@[simp] def yRW.enc(e:yRW):List C:=[.i e.Time,.sl 3 (e.yRV.map Reach.enc),.sl 2 (e.ySl.map Way.enc),.sl 22 (e.yRX.map yR8.enc),.sl 1 (e.yR3.map nD),.sl 2 (e.yR9.map yRT.enc),.sl 1 (e.ySd.map qC),.i e.yRZ.Base,.i e.yRZ.ySe,.sl 1 (e.yRZ.yR5.map qC),.sl 1 (e.yRZ.yR7.map qC),.sl 5 (e.Book.map ySb.enc),.sl 4 (e.yR1.map yR2.enc),.i e.Start,.i e.In,.i e.Out]
-- yRW
def yRW.small(e:yRW):Prop:=ybv e.yRV/\yhE e.ySl/\ycw e.yRX/\yck e.yR3/\aJ e.yR9/\ymY e.ySd/\e.yRZ.small/\yot e.Book/\ybz e.yR1
def yF2(es:List ySa)(hl:es.length<=1048576):nI prg 348 [.c (.sl 6 (es.map ySa.enc))] (.c (.ow 6 (es.map ySa.enc))):=by
 refine fF yab ?_;simp -dsimp -implicitDefEqProofs [oQ,jA];omega
def yBT(xs:List (List ySa))(hl:ybE xs):nI prg 253 [.c (.sl 1 (xs.map jE))] (.c (.ot 1 (xs.map jF))):=by
 refine fF yr7 (goQ_ ?_);intro hlen;have hl1:=hl.1;refine ydE (k0:=1) 3 1 (by simp) (by simp) (by decide) ?_;refine yX2 (λk=>k<=xs.length) (λk=>xC [(3,.own 3 1 k),(6,.c (.sl 1 (xs.map jE))),(7,.c (.i xs.length)),(8,.c (.i k))] [(3,.tr 1 0 ((xs.take k).map jF))]) (λk=>xs.length-k) (by apply aB<;>simp[Obj.leO]) ?_
 rintro k hk
 rcases yX1 k xs with⟨hlt,e,he⟩|hge
 .have hs:xs.take (k+1)=xs.take k++[e]:=by rw[zao,he];rfl
  refine yaed he (fC hlt) ?_;refine sD (yF2 e (hl.2 e (zac he)).1) (by simp) (by simp[AV.closed,AV.jI,C.closed]) (by simp[fD]) (yafv (Nat.min_eq_left hk) ?_);refine⟨by omega,gB hlt hlen,k+1,hlt,by omega,?_⟩;have hs2:(xs.map jF).take (k+1)=(xs.map jF).take k++[[.ow 6 (e.map ySa.enc)]]:=by rw[<-zaV,<-zaV,hs,zaB];rfl
  apply aB<;>simp[Obj.leO,hs2]
 .have:k=xs.length:=by omega
  subst this;refine goT_ ?_
  try simp
def yaU(e:yRT)(hl:yRT.small e):nI prg 155 [.agg (e.enc.map .c)] (.agg (e.iD.map .c)):=by
 refine fF ypv (goQ_ ?_);refine pJ (yBT e.Rows hl) (by simp) (by simp[AV.closed,AV.jI,C.closed,jF]) (by simp[fD]) ?_;exact goU_
def yV0(t:yRT)(d:Int):0<=yTs t d/\yTs t d<=51:=by
 have:=yU7 t;unfold yTs;split
 .split
  .rw[zaz (by omega)];omega
  .omega
 .omega
def yVE{m:yR6}{w:Way}(h:xN m w=true):(1<=w.Long/\w.Long<=10000)/\(0<=m.Place/\m.Place<=w.Long):=by
 simp only[xN,zad]at h;exact⟨(yVz h.1.1).1,aC.1 h.2⟩
def yUF(m:yR6)(w:Way)(r:Reach):Int:=
 if m.yRT.Up then(if 0<m.Place-yTs m.yRT (yTp w r)then m.Place-yTs m.yRT (yTp w r)else 0)
 else if m.Place+yTs m.yRT (yTp w r)<w.Long then m.Place+yTs m.yRT (yTp w r)else w.Long
def yS7(m:yR6)(w:Way)(r:Reach):yR6:=if xN m w&&xE r then⟨m.yRT,yUF m w r⟩else m
def yXR(m:yR6)(w:Way)(r:Reach)(hm:m.small):qB prg 173 [.agg (m.enc.map .c),.agg (w.enc.map .c),.agg (r.enc.map .c)] (.agg ((yS7 m w r).enc.map .c)):=by
 refine dB yWw (goQ_ ?_);refine aA (yym m w hm) ?_;cases h1:xN m w with
 |false=>simp -dsimp -implicitDefEqProofs;simp[yS7,h1]
 | true=>
  refine goQ_ ?_;refine aA (oL r) ?_;cases h2:xE r with
  |false=>simp -dsimp -implicitDefEqProofs;simp[yS7,h2]
  | true=>
   refine goQ_ ?_;refine lC (yWO w r) (goQ_ ?_);refine lC (yW5 m.yRT (yTp w r) hm) ?_;have hp:=yV0 m.yRT (yTp w r);have hf:=yVE h1;cases hu:m.yRT.Up with
   |true=>
    refine yafw hu ?_;refine⟨by unfold inI;omega,?_⟩;simp[yS7,h1,h2,yUF,hu]
   |false=>
    refine yafw hu ?_;refine⟨by unfold inI;omega,?_⟩;simp[yS7,h1,h2,yUF,hu]
def yWg{m:yR6}{w:Way}{r:Reach}:(yS7 m w r).yRT=m.yRT:=by unfold yS7;split<;>rfl
def iW{k:Nat}{xs:List X}{s:St}:wOf (.bsl k xs) s=(xs.map s.ev).flatMap AV.ids:=rfl
def ypY(e:yRT)(hl:yRT.small e):nI prg 71 [.agg (e.enc.map .c)] (.agg (e.iD.map .c)):=by
 refine fF ytC (goQ_ ?_);have hl1:=hl.1
 refine qA (ι:=Nat) (λk=>k<=e.Rows.length) (λk=>match k with
  |0=>xC [(1,.box 1 0),(2,.box 2 0),(3,.box 3 0),(4,.c (.i 0))] [(1,.box [.c (.b e.Up),.c (.sl 1 (e.Rows.map jE))]),(2,.box [.c (.b false),.nil 1]),(3,.box [.c (.b e.Up),.nil 1])]
  |k+1=>xC [(1,.box 1 0),(2,.box 2 0),(3,.box 3 0),(4,.c (.i (k+1)))] [(1,.box [.c (.b e.Up),.c (.sl 1 (e.Rows.map jE))]),(2,.box [.c (.b false),.nil 1]),(3,.box [.c (.b e.Up),.own 25 1 (k+1)]),(25,.tr 1 0 ((e.Rows.map jF).take (k+1)))]) (λk=>e.Rows.length-k) 0 (by simp) (by apply aB<;>simp[Obj.leO]) ?_
 rintro k hk
 rcases k with _|k
 .rcases zaq 0 e.Rows.length with hlt|hge
  .obtain⟨r,he⟩:∃r,e.Rows[0]?=some r:=⟨_,zab hlt⟩;have h0:(0<e.Rows.length)=True:=by simpa using hlt
   have hgr:e.Rows[0]=r:=(zaa.1 he).2;have hrl:=(hl.2 r (zac he)).1;simp -dsimp -implicitDefEqProofs [he,h0,hgr,jA,iW];intro hlen;refine⟨by omega,by unfold inI;omega,1,hlt,by omega,?_⟩
   have hs2:(e.Rows.map jF).take 1=[[.ow 6 (r.map ySa.enc)]]:=by
    obtain⟨y,l,hy⟩:∃y l,e.Rows=y::l:=by cases hr:e.Rows with|nil=>rw[hr]at hlt;simp at hlt|cons y l=>exact⟨y,l,rfl⟩
    rw[hy]at he|-;simp at he;subst he;rfl
   apply aB<;>simp[Obj.leO,hs2]
  .have hx:e.Rows=[]:=zav.1 (by omega);have h0:(0<e.Rows.length)=False:=by simp[hx]
   refine yafw h0 ?_;simp[hx]
 .rcases zaq (k+1) e.Rows.length with hlt|hge
  .obtain⟨r,he⟩:∃r,e.Rows[k+1]?=some r:=⟨_,zab hlt⟩;have h0:((k:Int)+1<e.Rows.length)=True:=by simp;omega
   have h1:(0<=(k:Int)+1)=True:=by simp;omega
   have h2:((k:Int)+1).toNat=k+1:=by omega
   have hrl:=(hl.2 r (zac he)).1;simp -dsimp -implicitDefEqProofs [he,h0,h1,h2,jA,iW];intro hlen;refine⟨by omega,by omega,by omega,by unfold inI;omega,k+2,hlt,by omega,?_⟩
   have hs2:(e.Rows.map jF).take (k+2)=(e.Rows.map jF).take (k+1)++[[.ow 6 (r.map ySa.enc)]]:=by
    rw[zao,zat,he];rfl
   apply aB<;>simp[Obj.leO,hs2]<;>omega
  .have h0:((k:Int)+1<e.Rows.length)=False:=by simp;omega
   have hx:e.Rows.length=k+1:=by omega
   refine yafw h0 ?_;intro _;have e1:(e.Rows.map jF).take (k+1)=e.Rows.map jF:=List.take_of_length_le (by simp;omega);simp[e1]
def ybP(e:yRT)(hl:yRT.small e):qB prg 71 [.agg (e.enc.map .c)] (.agg (e.enc.map .c)):=(ypY e hl).pure (by simp[AV.shr,AV.yoE,dO,C.shr,eF yI])
def mkEn(k:Int):List C:=[.i k,.i (k+1),.i (k+1+1),.i (k+1+1+1),.i (k+1+1+1+1)]
@[simp] def yRZ.iD(e:yRZ):List C:=[.i e.Base,.i e.ySe,.ow 1 (e.yR5.map qC),.ow 1 (e.yR7.map qC)]
def nT(e:yRZ):Int:=e.yR5.length+e.yR7.length
def ye4(r:Reach):Int:=if xE r then sZ r else 0
def ySA(l:List Reach):Int:=(l.map sZ).sum
def jY(l:List Reach):Bool:=decide (1<=l.length)&&decide (l.length<=6)&&l.all xE&&decide (ySA l<=1000000000)
def yYJ(l:List Reach):Int:=if jY l then ySA l else 0
def yav(l:List Reach)(k:Nat):Int:=ySA (l.take k)
def yg2{l:List Reach}:yav l 0=0:=rfl
def yg7{l:List Reach}{k:Nat}{r:Reach}(h:l[k]?=some r):yav l (k+1)=yav l k+sZ r:=by
 unfold yav ySA;rw[zao,h];simp
def ycL{l:List Reach}{k:Nat}(h:l.length<=k):yav l k=ySA l:=by unfold yav;rw[List.take_of_length_le h]
structure yST(r:Reach):Prop where
 vol:amount r.ySh=true
 len:r.ySk.length<=12
 amt:∀n∈r.ySk,amount n=true
 rng:0<=sZ r/\sZ r<=1000000000
def yF{r:Reach}(h:xE r=true):yST r:=by
 simp only[xE,zad,decide_eq_true_eq,zae]at h;obtain⟨⟨⟨⟨h1,h2⟩,h3⟩,h4⟩,h5⟩:=h;refine⟨h2,h3,h4,?_,h5⟩;have a1:=aC.1 (show inRange r.ySh 0 1000000000=true from h2);have a2:=ymV (l:=r.ySk) h4;unfold sZ;omega
def yfj{l:List Reach}:∀{k:Nat},(∀r∈l.take k,xE r=true)->0<=yav l k/\yav l k<=1000000000*k
 |0,_=>by rw[yg2];omega
 | k+1,h=>by
  have ih:=yfj (k:=k) λr hr=>h r (by rw[zao];exact zbu _ hr);have e2:((k+1:Nat):Int)=k+1:=by simp
  cases hk:l[k]? with
  |none=>
   have hl:l.length<=k:=by simpa using hk
   rw[ycL (by omega),<-ycL hl];omega
  |some r=>
   have:=(yF (h r (by rw[zao,hk];exact zaN _ (by simp)))).rng;rw[yg7 hk];omega
def yabt{l:List Reach}(h:jY l=false):yYJ l=0:=by simp[yYJ,h]
def yuO{l:List Reach}{k:Nat}{r:Reach}(h:l[k]?=some r)(hr:xE r=false):jY l=false:=by
 have:=all_false (p:=xE) h hr;simp[jY,this]
def yn0(r:Reach):qB prg 200 [.agg (r.enc.map .c)] (.c (.i (ye4 r))):=by
 refine dB ysw ?_;simp;refine aA (oL r) ?_;cases h:xE r with
 |false=>simp;simp[ye4,h]
 |true=>
 have f:=yF h;have hl:=f.len;have hv:=aC.1 (show inRange r.ySh 0 1000000000=true from f.vol);have ht:ye4 r=sZ r:=by simp[ye4,h]
 simp[ht];intro hlen;refine yX2 (λk=>k<=r.ySk.length) (λk=>xC [(3,.c (.i (r.ySh+sumTo r.ySk k))),(12,.c (.sl 1 (r.ySk.map qC))),(13,.c (.i r.ySk.length)),(14,.c (.i k))] []) (λk=>r.ySk.length-k) (by apply aB<;>simp[aY]) ?_
 rintro k hk
 rcases yX1 k r.ySk with⟨hlt,x,hx⟩|hge
 .have e1:=nV hx;have b1:=yqW f.amt hl (k+1);rw[e1]at b1;simp[hx,fC hlt];refine⟨by unfold inI;omega,gB hlt hlen,k+1,hlt,by omega,?_⟩;apply aB<;>simp[e1];omega
 .simp[aG hge];rw[yb4 hge,ht];rfl
def yyA(l:List Reach):qB prg 199 [.c (.sl 3 (l.map Reach.enc))] (.c (.b (jY l))):=by
 refine dB ysA ?_;simp
 refineλhlen=>⟨λh1=>?_,λh1=>?_⟩
 rotate_left
 .simp[jY];omega
 refineλ_=>⟨λh6=>by simp[jY];omega,λh6=>?_⟩
 refineλ_=>qA (ι:=Nat) (λk=>k<=l.length/\∀r∈l.take k,xE r=true) (λk=>xC [(3,.c (.i (yav l k))),(14,.c (.sl 3 (l.map Reach.enc))),(15,.c (.i l.length)),(16,.c (.i k))] []) (λk=>l.length-k) 0 (by simp) (by apply aB<;>simp[yg2]) ?_
 rintro k ⟨hk,hall⟩
 rcases yX1 k l with⟨hlt,r,hr⟩|hge
 .simp[hr,fC hlt];refine aA (oL r) ?_;cases h:xE r with
  |false=>simp;exact yuO hr h
  |true=>
   have ht:ye4 r=sZ r:=by simp[ye4,h]
   have hall':=lD (p:=xE) hr hall h;have hb:=yfj hall';have e1:=yg7 hr;simp;refine aA (yn0 r) ?_;simp[ht];refine⟨by rw[e1]at hb;unfold inI;omega,gB hlt hlen,k+1,⟨hlt,hall'⟩,by omega,?_⟩;apply aB<;>simp[e1]
 .have hall2:=dF (p:=xE) hge hall;simp[aG hge];rw[ycL hge];have a1:1<=l.length:=by omega
  have a2:l.length<=6:=by omega
  simp[jY,a1,a2,hall2]
structure ySL(l:List Reach):Prop where
 len:1<=l.length/\l.length<=6
 ok:∀r∈l,xE r=true
 rng:0<=ySA l/\ySA l<=1000000000
def ynr{l:List Reach}(h:jY l=true):ySL l:=by
 simp only[jY,zad,decide_eq_true_eq,zae]at h;obtain⟨⟨⟨h1,h2⟩,h3⟩,h4⟩:=h;have:=yfj (l:=l) (k:=l.length) (by rw[List.take_length];exact h3);rw[ycL (Nat.le_refl _)]at this;exact⟨⟨h1,h2⟩,h3,this.1,h4⟩
def yaaU(l:List Reach):qB prg 79 [.c (.sl 3 (l.map Reach.enc))] (.c (.i (yYJ l))):=by
 refine dB yaae ?_;simp;refine aA (yyA l) ?_;cases h:jY l with
 |false=>simp;rw[yabt h]
 |true=>
 have f:=ynr h;have ht:yYJ l=ySA l:=by simp[yYJ,h]
 simp[ht];intro hlen;refine yX2 (λk=>k<=l.length) (λk=>xC [(3,.c (.i (yav l k))),(9,.c (.sl 3 (l.map Reach.enc))),(10,.c (.i l.length)),(11,.c (.i k))] []) (λk=>l.length-k) (by apply aB<;>simp[yg2]) ?_
 rintro k hk
 rcases yX1 k l with⟨hlt,r,hr⟩|hge
 .have h2:ye4 r=sZ r:=by simp[ye4,f.ok r (zac hr)]
  have hb:=yfj (l:=l) (k:=k+1) λx hx=>f.ok x (zas hx);have e1:=yg7 hr;have hl6:=f.len;simp[hr,fC hlt];refine aA (yn0 r) ?_;simp[h2];refine⟨by rw[e1]at hb;unfold inI;omega,gB hlt hlen,k+1,hlt,by omega,?_⟩;apply aB<;>simp[e1]
 .simp[aG hge];rw[ycL hge,ht]
def yiK(l:List Reach)(k:Nat):Int:=if 1000000001<yav l k then 1000000001 else yav l k
def yCF{l:List Reach}:yiK l 0=0:=by simp[yiK,yg2]
def yBZ{l:List Reach}{k:Nat}{r:Reach}(h:l[k]?=some r)(hr:0<=sZ r):(if 1000000001<yiK l k+sZ r then 1000000001 else yiK l k+sZ r)=yiK l (k+1):=by
 unfold yiK;rw[yg7 h]
 (repeat' split)<;>omega
def yED{l:List Reach}{k:Nat}(h:∀r∈l.take k,xE r=true):0<=yiK l k/\yiK l k<=1000000001:=by
 have:=yfj h;unfold yiK;split<;>omega
def yyq(l:List Reach):qB prg 241 [.c (.sl 3 (l.map Reach.enc))] (.c (.b (jY l))):=by
 refine dB yvl ?_;simp;refine yX2 (λk=>k<=l.length/\∀r∈l.take k,xE r=true) (λk=>xC [(0,.c (.sl 3 (l.map Reach.enc))),(3,.c (.i (yiK l k))),(4,.c (.i k))] []) (λk=>l.length-k) (by apply aB<;>simp[yCF]) ?_
 rintro k ⟨hk,hall⟩
 rcases yX1 k l with⟨hlt,r,hr⟩|hge
 .simp[hr,fC hlt];intro hlen;refine aA (qN r) ?_;cases h:xE r with
  |false=>simp;exact yuO hr h
  |true=>
   have f:=yF h;have hall':=lD (p:=xE) hr hall h;have hb:=yED hall;have hs:=f.rng;have e1:=yBZ hr hs.1;simp[hr,fC hlt];refine aA (yuT r f.vol f.len f.amt) ?_;simp[e1];refine⟨by unfold inI;omega,gB hlt hlen,k+1,⟨hlt,hall'⟩,by omega,?_⟩;apply aB<;>simp[e1]
 .have hall2:=dF (p:=xE) hge hall;simp[aG hge];intro hlen;refine aA (bC l.length 1 6) ?_;have hr:yav l k=ySA l:=ycL hge
  have hc:(yiK l k<=1000000000)=(ySA l<=1000000000):=by
   unfold yiK;rw[hr];apply propext;split<;>omega
  have hrng:inRange (l.length:Int) 1 6=(decide (1<=l.length)&&decide (l.length<=6)):=by
   rw[zdd,aC];simp only[zad,decide_eq_true_eq];omega
  cases h1:inRange (l.length:Int) 1 6 with
  |false=>simp;rw[jY,<-hrng,h1];simp
  |true=>
   simp;rw[jY,<-hrng,h1];simp[hall2,hc]
def yaaS(l:List Reach):qB prg 139 [.c (.sl 3 (l.map Reach.enc))] (.c (.i (yYJ l))):=by
 refine dB yaap ?_;simp;refine yX2 (λk=>k<=l.length/\(k≠0->jY l=true)) (λk=>xC [(0,.c (.sl 3 (l.map Reach.enc))),(3,.c (.i (yav l k))),(4,.c (.i k))] []) (λk=>l.length-k) (by apply aB<;>simp[yg2]) ?_
 rintro k ⟨hk,hok⟩
 rcases yX1 k l with⟨hlt,r,hr⟩|hge
 .simp[hr,fC hlt];intro hlen;refine aA (yyq l) ?_;cases h:jY l with
  | false=>
   have:k=0:=by
    rcases zau k with e|e
    .exact e
    .have:=hok (by omega);rw[h]at this;cases this
   subst this;simp;rw[yabt h,yg2]
  |true=>
   have f:=ynr h;have sf:=yF (f.ok r (zac hr));have hb:=yfj (l:=l) (k:=k+1) λx hx=>f.ok x (zas hx);have e1:=yg7 hr;have hl6:=f.len;simp[hr,fC hlt];refine aA (yuT r sf.vol sf.len sf.amt) ?_;simp;refine⟨by rw[e1]at hb;unfold inI;omega,gB hlt hlen,k+1,by first|exact⟨hlt,λ_=>h⟩|exact hlt,by omega,?_⟩;apply aB<;>simp[e1]
 .simp[aG hge];intro _;cases h:jY l with
  |true=>rw[ycL hge];simp[yYJ,h]
  | false=>
   have:k=0:=by
    rcases zau k with e|e
    .exact e
    .have:=hok (by omega);rw[h]at this;cases this
   subst this;rw[yabt h,yg2]
def jS(p:Way×List yR6):Bool:=ykM p.1&&decide (p.2.length<=24)&&p.2.all λm=>xN m p.1
def sJ(x:yRW):Bool:=jY x.yRV&&decide (2<=x.yRV.length)&&decide (x.ySl.length=x.yRV.length)&&decide (x.yR3.length=x.yRV.length)&&decide (x.yRX.length+1=x.yRV.length)&&
 (x.ySl.zip x.yR3).all jS&&x.yRX.all fJ
def yJC{w:Way}{ms:List yR6}(h:ykM w=false):jS (w,ms)=false:=by simp[jS,h]
def yJj{w:Way}{ms:List yR6}(h:24<ms.length):jS (w,ms)=false:=by simp[jS];omega
def yHJ{w:Way}{ms:List yR6}{k:Nat}{m:yR6}(h:ms[k]?=some m)(hm:xN m w=false):jS (w,ms)=false:=by
 have:=all_false (p:=λm=>xN m w) h hm;simp[jS,this]
def yay{x:yRW}{k:Nat}{w:Way}{ms:List yR6}(h1:x.ySl[k]?=some w)(h2:x.yR3[k]?=some ms)(h:jS (w,ms)=false):sJ x=false:=by
 have:=all_false (p:=jS) (l:=x.ySl.zip x.yR3) (k:=k) (zby.2 ⟨h1,h2⟩) h;simp[sJ,this]
def ytm{x:yRW}{k:Nat}{w:yR8}(h1:x.yRX[k]?=some w)(h:fJ w=false):sJ x=false:=by
 have:=all_false (p:=fJ) h1 h;simp[sJ,this]
def pno2{x:yRW}(h:¬2<=x.yRV.length):sJ x=false:=by simp[sJ,h]
def pno3{x:yRW}(h:¬x.ySl.length=x.yRV.length):sJ x=false:=by simp[sJ,h]
def pno4{x:yRW}(h:¬x.yR3.length=x.yRV.length):sJ x=false:=by simp[sJ,h]
def pno5{x:yRW}(h:¬x.yRX.length+1=x.yRV.length):sJ x=false:=by simp[sJ,h]
def yyU(x:yRW)(hs:x.small):qB prg 144 [.agg (x.enc.map .c)] (.c (.b (sJ x))):=by
 have hsM:=hs.2.2.2.1;have hsW:=hs.2.2.1;refine dB yuL ?_;simp;intro hlen;refine aA (yyA x.yRV) ?_;cases h1:jY x.yRV with
 |false=>simp;simp[sJ,h1]
 |true=>
 simp;refine⟨λh2=>?_,λh2=>(pno2 (by omega))⟩;intro _;refine⟨λh3=>?_,λh3=>(pno3 (by omega))⟩;intro _;refine⟨λh4=>?_,λh4=>(pno4 (by omega))⟩
 refineλ_=>⟨by unfold maxLen at hlen;unfold inI;omega,?_⟩
 refine⟨λh5=>(pno5 (by omega)),λh5=>?_⟩;have h3':x.ySl.length=x.yRV.length:=by omega
 have h4':x.yR3.length=x.yRV.length:=by omega
 have hz:(x.ySl.zip x.yR3).length=x.ySl.length:=by rw[List.length_zip];omega
 refineλhlw=>qA (ι:=Nat) (λk=>k<=x.ySl.length/\∀p∈(x.ySl.zip x.yR3).take k,jS p=true) (λk=>xC [(1,.box 1 0),(44,.c (.sl 2 (x.ySl.map Way.enc))),(45,.c (.i x.ySl.length)),(46,.c (.i k))] [(1,.box (x.enc.map .c))]) (λk=>x.ySl.length-k) 0 (by simp) (by apply aB<;>simp) ?_
 rintro k ⟨hk,hall⟩
 rcases yX1 k x.ySl with⟨hlt,w,hw⟩|hge
 .obtain⟨ms,hm⟩:∃w,x.yR3[k]?=some w:=⟨_,zab (by omega)⟩;have hkm:k<x.yR3.length:=by omega
  have gm:=(zaa.1 hm).2;have gw:=(zaa.1 hw).2;have hp:(x.ySl.zip x.yR3)[k]?=some (w,ms):=zby.2 ⟨hw,hm⟩;have hsm:=hsM.2 ms (zac hm);simp[hw,gw,fC hlt,hlt];refine aA (ysY w) ?_;cases h6:ykM w with
  |false=>simp;exact yay hw hm (yJC h6)
  |true=>
  simp[hm,gm,hkm,fC hkm];intro hlm;refine⟨λh7=>(yay hw hm (yJj (by omega))),λh7=>?_⟩
  refineλ_=>qA (ι:=Nat) (λi=>i<=ms.length/\∀m∈ms.take i,xN m w=true) (λi=>xC [(1,.box 1 0),(5,.box 5 0),(44,.c (.sl 2 (x.ySl.map Way.enc))),(45,.c (.i x.ySl.length)),(46,.c (.i k)),(67,.c (.sl 3 (ms.map yR6.enc))),(68,.c (.i ms.length)),(69,.c (.i i))] [(1,.box (x.enc.map .c)),(5,.box (w.enc.map .c))]) (λi=>ms.length-i) 0 (by simp) (by apply aB<;>simp) ?_
  rintro i ⟨hi,hall2⟩
  rcases yX1 i ms with⟨hlt2,m,hmm⟩|hge2
  .have g2:=(zaa.1 hmm).2;simp[hmm,g2,fC hlt2,hlt2];refine aA (yym m w (hsm.2 m (zac hmm))) ?_;cases h8:xN m w with
   |false=>simp;exact yay hw hm (yHJ hmm h8)
   |true=>
    simp;refine⟨gB hlt2 hlm,i+1,⟨hlt2,lD (p:=λm=>xN m w) hmm hall2 h8⟩,by omega,?_⟩;apply aB<;>simp
  .have h9:=dF (p:=λm=>xN m w) hge2 hall2
   have hlane:jS (w,ms)=true:=by
    have:ms.length<=24:=by omega
    simp[jS,h6,this,h9]
   simp[aG hge2];refine⟨gB hlt hlw,k+1,⟨hlt,λa b hab=>lD (p:=jS) hp hall hlane (a,b) hab⟩,by omega,?_⟩;apply aB<;>simp
 .have hl:=dF (p:=jS) (by rw[hz];exact hge) hall;simp[aG hge]
  refineλhlk=>qA (ι:=Nat) (λi=>i<=x.yRX.length/\∀w∈x.yRX.take i,fJ w=true) (λi=>xC [(1,.box 1 0),(80,.c (.sl 22 (x.yRX.map yR8.enc))),(81,.c (.i x.yRX.length)),(82,.c (.i i))] [(1,.box (x.enc.map .c))]) (λi=>x.yRX.length-i) 0 (by simp) (by apply aB<;>simp) ?_
  rintro i ⟨hi,hall2⟩
  rcases yX1 i x.yRX with⟨hlt2,w,hw⟩|hge2
  .have g2:=(zaa.1 hw).2;simp[hw,g2,fC hlt2,hlt2];refine aA (yAQ w (hsW.2 w (zac hw))) ?_;cases h8:fJ w with
   |false=>simp;exact ytm hw h8
   |true=>
    simp;refine⟨gB hlt2 hlk,i+1,⟨hlt2,lD (p:=fJ) hw hall2 h8⟩,by omega,?_⟩;apply aB<;>simp
  .have h9:=dF (p:=fJ) hge2 hall2;simp[aG hge2];have h2':2<=x.yRV.length:=by omega
   have h5':x.yRX.length+1=x.yRV.length:=by omega
   simp[sJ,h1,h2',h3',h4',h5',hl,h9]
def yt(n:Nat)(p:yR2):Bool:=inRange p.Time 0 1000000&&inRange p.yR8 0 (n-1)&&oC p.yRT
def pO(x:yRW):Bool:=decide (x.yR9.length<=500)&&decide (x.ySd.length<=2000)&&decide (x.yR1.length<=500)&&x.yR9.all oC&&x.ySd.all (λn=>inRange n 1 9999)&&x.yR1.all (yt x.yRX.length)
def rC(x:yRW):Bool:=inRange x.Time 0 1000000&&sJ x&&pO x&&nH x.yRZ&&kU x.Book&&inRange x.Start 0 1000000000&&inRange x.In 0 1000000000&&inRange x.Out 0 1000000000
def lno1{x:yRW}(h:¬x.yR9.length<=500):pO x=false:=by simp[pO,h]
def lno2{x:yRW}(h:¬x.ySd.length<=2000):pO x=false:=by simp[pO,h]
def lno3{x:yRW}(h:¬x.yR1.length<=500):pO x=false:=by simp[pO,h]
def lno4{x:yRW}{k:Nat}{t:yRT}(h1:x.yR9[k]?=some t)(h:oC t=false):pO x=false:=by
 have:=all_false (p:=oC) h1 h;simp[pO,this]
def lno5{x:yRW}{k:Nat}{t:Int}(h1:x.ySd[k]?=some t)(h:inRange t 1 9999=false):pO x=false:=by
 have:=all_false (p:=λn=>inRange n 1 9999) h1 h;simp[pO,this]
def yEq{x:yRW}{k:Nat}{t:yR2}(h1:x.yR1[k]?=some t)(h:yt x.yRX.length t=false):pO x=false:=by
 have:=all_false (p:=yt x.yRX.length) h1 h;simp[pO,this]
def wno{x:yRW}(h:pO x=false):rC x=false:=by simp[rC,h]
def yis(x:yRW)(hs:x.small):qB prg 53 [.agg (x.enc.map .c)] (.c (.b (rC x))):=by
 have hsA:=hs.2.2.2.2.1;have hsP:=hs.2.2.2.2.2.2.2.2;refine dB ynT ?_;simp;refine aA (iC x.Time 0 1000000) ?_;cases h1:inRange x.Time 0 1000000 with
 |false=>simp;simp[rC,h1]
 |true=>
 simp;refine aA (yyU x hs) ?_;cases h2:sJ x with
 |false=>simp;simp[rC,h2]
 |true=>
 simp;intro hlA;refine⟨λh3=>?_,λh3=>(wno (lno1 (by omega)))⟩;intro hlE;refine⟨λh4=>?_,λh4=>(wno (lno2 (by omega)))⟩;intro hlP;refine⟨λh5=>(wno (lno3 (by omega))),λh5=>?_⟩
 refineλ_=>qA (ι:=Nat) (λk=>k<=x.yR9.length/\∀t∈x.yR9.take k,oC t=true) (λk=>xC [(1,.box 1 0),(37,.c (.sl 2 (x.yR9.map yRT.enc))),(38,.c (.i x.yR9.length)),(39,.c (.i k))] [(1,.box (x.enc.map .c))]) (λk=>x.yR9.length-k) 0 (by simp) (by apply aB<;>simp) ?_
 rintro k ⟨hk,hall⟩
 rcases yX1 k x.yR9 with⟨hlt,t,ht⟩|hge
 .simp[ht,fC hlt];refine aA (gK t (hsA.2 t (zac ht))) ?_;cases h6:oC t with
  |false=>simp;exact wno (lno4 ht h6)
  |true=>
   simp;refine⟨gB hlt hlA,k+1,⟨hlt,lD (p:=oC) ht hall h6⟩,by omega,?_⟩;apply aB<;>simp
 have hA:=dF (p:=oC) hge hall;simp[aG hge]
 refineλ_=>qA (ι:=Nat) (λk=>k<=x.ySd.length/\∀t∈x.ySd.take k,inRange t 1 9999=true) (λk=>xC [(1,.box 1 0),(48,.c (.sl 1 (x.ySd.map qC))),(49,.c (.i x.ySd.length)),(50,.c (.i k))] [(1,.box (x.enc.map .c))]) (λk=>x.ySd.length-k) 0 (by simp) (by apply aB<;>simp) ?_
 clear hall hk hge k
 rintro k ⟨hk,hall⟩
 rcases yX1 k x.ySd with⟨hlt,t,ht⟩|hge
 .simp[ht,fC hlt];refine aA (iC t 1 9999) ?_;cases h6:inRange t 1 9999 with
  |false=>simp;exact wno (lno5 ht h6)
  |true=>
   simp;refine⟨gB hlt hlE,k+1,⟨hlt,lD (p:=λn=>inRange n 1 9999) ht hall h6⟩,by omega,?_⟩;apply aB<;>simp
 have hE:=dF (p:=λn=>inRange n 1 9999) hge hall;simp[aG hge]
 refineλ_=>qA (ι:=Nat) (λk=>k<=x.yR1.length/\∀t∈x.yR1.take k,yt x.yRX.length t=true) (λk=>xC [(1,.box 1 0),(59,.c (.sl 4 (x.yR1.map yR2.enc))),(60,.c (.i x.yR1.length)),(61,.c (.i k))] [(1,.box (x.enc.map .c))]) (λk=>x.yR1.length-k) 0 (by simp) (by apply aB<;>simp) ?_
 clear hall hk hge k
 rintro k ⟨hk,hall⟩
 rcases yX1 k x.yR1 with⟨hlt,t,ht⟩|hge
 .simp[ht,fC hlt];refine aA (iC t.Time 0 1000000) ?_;cases h6:inRange t.Time 0 1000000 with
  |false=>simp;exact wno (yEq ht (by simp[yt,h6]))
  |true=>
  simp
  refineλhlW=>⟨by unfold maxLen at hlW;unfold inI;omega,?_⟩
  refine aA (iC t.yR8 0 (x.yRX.length-1)) ?_;cases h7:inRange t.yR8 0 (x.yRX.length-1)with
  |false=>simp;exact wno (yEq ht (by simp[yt,h7]))
  |true=>
  simp;refine aA (gK t.yRT (hsP.2 t (zac ht))) ?_;cases h8:oC t.yRT with
  |false=>simp;exact wno (yEq ht (by simp[yt,h8]))
  |true=>
  simp;refine⟨gB hlt hlP,k+1,⟨hlt,lD (p:=yt x.yRX.length) ht hall (by simp[yt,h6,h7,h8])⟩,by omega,?_⟩;apply aB<;>simp
 have hP:=dF (p:=yt x.yRX.length) hge hall;simp[aG hge];refine aA (yfw x.yRZ) ?_;cases h7:nH x.yRZ with
 |false=>simp;simp[rC,h7]
 |true=>
 simp;refine aA (ykw x.Book) ?_;cases h8:kU x.Book with
 |false=>simp;simp[rC,h8]
 |true=>
 simp;refine aA (iC x.Start 0 1000000000) ?_;cases h9:inRange x.Start 0 1000000000 with
 |false=>simp;simp[rC,h9]
 |true=>
 simp;refine aA (iC x.In 0 1000000000) ?_;cases h10:inRange x.In 0 1000000000 with
 |false=>simp;simp[rC,h10]
 |true=>
 simp;refine aA (iC x.Out 0 1000000000) ?_;simp;have a3:x.yR9.length<=500:=by omega
 have a4:x.ySd.length<=2000:=by omega
 have a5:x.yR1.length<=500:=by omega
 have hl:pO x=true:=by simp only[pO,a3,a4,a5,hA,hE,hP];simp
 simp[rC,h1,h2,h7,h8,h9,h10,hl]
def yBx(x:yRW)(hs:x.small):qB prg 140 [.agg (x.enc.map .c)] (.c (.b (sJ x))):=by
 have hsM:=hs.2.2.2.1;have hsW:=hs.2.2.1;refine dB yry ?_;simp;intro hlen;refine aA (yyq x.yRV) ?_;cases h1:jY x.yRV with
 |false=>simp;simp[sJ,h1]
 |true=>
 simp;refine⟨λh2=>?_,λh2=>(pno2 (by omega))⟩;intro _;refine⟨λh3=>?_,λh3=>(pno3 (by omega))⟩;intro _;refine⟨λh4=>?_,λh4=>(pno4 (by omega))⟩
 refineλ_=>⟨by unfold maxLen at hlen;unfold inI;omega,?_⟩
 refine⟨λh5=>(pno5 (by omega)),λh5=>?_⟩;have h3':x.ySl.length=x.yRV.length:=by omega
 have h4':x.yR3.length=x.yRV.length:=by omega
 have h5':x.yRX.length+1=x.yRV.length:=by omega
 have hz:(x.ySl.zip x.yR3).length=x.ySl.length:=by rw[List.length_zip];omega
 refine yX4 (λk=>k<=x.ySl.length/\(∀p∈(x.ySl.zip x.yR3).take k,jS p=true)/\∀w∈x.yRX.take k,fJ w=true) (λk=>xC [(1,.box 1 0),(3,.c (.i x.yRV.length)),(4,.c (.i k))] [(1,.box (x.enc.map .c))]) (λk=>x.ySl.length-k) ?_
 rintro k ⟨hk,hall,hallw⟩
 rcases yX1 k x.ySl with⟨hlt,w,hw⟩|hge
 .obtain⟨ms,hm⟩:∃w,x.yR3[k]?=some w:=⟨_,zab (by omega)⟩;have hkm:k<x.yR3.length:=by omega
  have hkr:k<x.yRV.length:=by omega
  have gm:=(zaa.1 hm).2;have gw:=(zaa.1 hw).2;have hp:(x.ySl.zip x.yR3)[k]?=some (w,ms):=zby.2 ⟨hw,hm⟩;have hsm:=hsM.2 ms (zac hm);simp[hw,gw,fC hlt,hlt,hkr,fC hkr];refine aA (ysH w) ?_;cases h6:ykM w with
  |false=>simp;exact yay hw hm (yJC h6)
  |true=>
  simp[hm,gm,hkm,fC hkm];intro hlm;refine⟨λh7=>?_,λh7=>(yay hw hm (yJj (by omega)))⟩;refine⟨by unfold maxLen at hlen;unfold inI;omega,λhc=>?_,λhc=>?_⟩
  .obtain⟨wk,hwk⟩:∃w,x.yRX[k]?=some w:=⟨_,zab (by omega)⟩;have gk:=(zaa.1 hwk).2;have hkw:k<x.yRX.length:=by omega
   refine⟨hkw,?_⟩;simp[hwk];refine aA (yA1 wk (hsW.2 wk (zac hwk))) ?_;cases h10:fJ wk with
   |false=>simp;exact ytm hwk h10
   |true=>
   simp;refine yX4 (λi=>i<=ms.length/\∀m∈ms.take i,xN m w=true) (λi=>xC [(1,.box 1 0),(3,.c (.i x.yRV.length)),(4,.c (.i k)),(5,.c (.i i))] [(1,.box (x.enc.map .c))]) (λi=>ms.length-i) ?_
   rintro i ⟨hi,hall2⟩
   rcases yX1 i ms with⟨hlt2,m,hmm⟩|hge2
   .have g2:=(zaa.1 hmm).2;simp[hw,gw,hlt,fC hlt,hm,gm,hkm,fC hkm,hmm,g2,fC hlt2,hlt2];intro _;refine lC (yof m w (hsm.2 m (zac hmm))) ?_;cases h8:xN m w with
    |false=>simp;exact yay hw hm (yHJ hmm h8)
    |true=>
     simp;refine⟨gB hlt2 hlm,i+1,⟨hlt2,lD (p:=λm=>xN m w) hmm hall2 h8⟩,by omega,?_⟩;apply aB<;>simp
   .have h9:=dF (p:=λm=>xN m w) hge2 hall2
    have hlane:jS (w,ms)=true:=by
     have:ms.length<=24:=by omega
     simp[jS,h6,this,h9]
    simp[hm,gm,hkm,fC hkm,aG hge2]
    refineλ_=>⟨by unfold maxLen at hlen;unfold inI;omega,k+1,⟨hlt,λa b hab=>lD (p:=jS) hp hall hlane (a,b) hab,lD (p:=fJ) hwk hallw h10⟩,by omega,?_⟩
    apply aB<;>simp
  .have hwa:x.yRX.take (k+1)=x.yRX.take k:=by rw[List.take_of_length_le (by omega),List.take_of_length_le (by omega)]
   refine yX4 (λi=>i<=ms.length/\∀m∈ms.take i,xN m w=true) (λi=>xC [(1,.box 1 0),(3,.c (.i x.yRV.length)),(4,.c (.i k)),(5,.c (.i i))] [(1,.box (x.enc.map .c))]) (λi=>ms.length-i) ?_
   rintro i ⟨hi,hall2⟩
   rcases yX1 i ms with⟨hlt2,m,hmm⟩|hge2
   .have g2:=(zaa.1 hmm).2;simp[hw,gw,hlt,fC hlt,hm,gm,hkm,fC hkm,hmm,g2,fC hlt2,hlt2];intro _;refine lC (yof m w (hsm.2 m (zac hmm))) ?_;cases h8:xN m w with
    |false=>simp;exact yay hw hm (yHJ hmm h8)
    |true=>
     simp;refine⟨gB hlt2 hlm,i+1,⟨hlt2,lD (p:=λm=>xN m w) hmm hall2 h8⟩,by omega,?_⟩;apply aB<;>simp
   .have h9:=dF (p:=λm=>xN m w) hge2 hall2
    have hlane:jS (w,ms)=true:=by
     have:ms.length<=24:=by omega
     simp[jS,h6,this,h9]
    simp[hm,gm,hkm,fC hkm,aG hge2]
    refineλ_=>⟨by unfold maxLen at hlen;unfold inI;omega,k+1,⟨hlt,λa b hab=>lD (p:=jS) hp hall hlane (a,b) hab,by rw[hwa];exact hallw⟩,by omega,?_⟩
    apply aB<;>simp
 .simp[aG hge];refine⟨by omega,λ_=>?_⟩;have hl:=dF (p:=jS) (by rw[hz];exact hge) hall;have h9:=dF (p:=fJ) (l:=x.yRX) (k:=k) (by omega) hallw;have h2':2<=x.yRV.length:=by omega
  simp[sJ,h1,h2',h3',h4',h5',hl,h9]
def yCm(x:yRW)(hs:x.small):qB prg 141 [.agg (x.enc.map .c)] (.c (.b (pO x))):=by
 have hsA:=hs.2.2.2.2.1;have hsP:=hs.2.2.2.2.2.2.2.2;refine dB yrm ?_;simp;intro hlA;refine⟨λh3=>?_,λh3=>(lno1 (by omega))⟩;intro hlE;refine⟨λh4=>?_,λh4=>(lno2 (by omega))⟩;intro hlP;refine⟨λh5=>(lno3 (by omega)),λh5=>?_⟩;refine yX4 (λk=>k<=x.yR9.length/\∀t∈x.yR9.take k,oC t=true) (λk=>xC [(1,.box 1 0),(3,.c (.i k))] [(1,.box (x.enc.map .c))]) (λk=>x.yR9.length-k) ?_
 rintro k ⟨hk,hall⟩
 rcases yX1 k x.yR9 with⟨hlt,t,ht⟩|hge
 .have g1:=(zaa.1 ht).2;simp[ht,g1,hlt,fC hlt];intro _;refine aA (jJ t (hsA.2 t (zac ht))) ?_;cases h6:oC t with
  |false=>simp;exact lno4 ht h6
  |true=>
   simp;refine⟨gB hlt hlA,k+1,⟨hlt,lD (p:=oC) ht hall h6⟩,by omega,?_⟩;apply aB<;>simp
 have hA:=dF (p:=oC) hge hall;simp[aG hge]
 refineλ_=>qA (ι:=Nat) (λk=>k<=x.ySd.length/\∀t∈x.ySd.take k,inRange t 1 9999=true) (λk=>xC [(1,.box 1 0),(4,.c (.i k))] [(1,.box (x.enc.map .c))]) (λk=>x.ySd.length-k) 0 (by simp) (by apply aB<;>simp) ?_
 clear hall hk hge k
 rintro k ⟨hk,hall⟩
 rcases yX1 k x.ySd with⟨hlt,t,ht⟩|hge
 .have g1:=(zaa.1 ht).2;simp[ht,g1,hlt,fC hlt];intro _;refine aA (bC t 1 9999) ?_;cases h6:inRange t 1 9999 with
  |false=>simp;exact lno5 ht h6
  |true=>
   simp;refine⟨gB hlt hlE,k+1,⟨hlt,lD (p:=λn=>inRange n 1 9999) ht hall h6⟩,by omega,?_⟩;apply aB<;>simp
 have hE:=dF (p:=λn=>inRange n 1 9999) hge hall;simp[aG hge]
 refineλ_=>qA (ι:=Nat) (λk=>k<=x.yR1.length/\∀t∈x.yR1.take k,yt x.yRX.length t=true) (λk=>xC [(1,.box 1 0),(5,.c (.i k))] [(1,.box (x.enc.map .c))]) (λk=>x.yR1.length-k) 0 (by simp) (by apply aB<;>simp) ?_
 clear hall hk hge k
 rintro k ⟨hk,hall⟩
 rcases yX1 k x.yR1 with⟨hlt,t,ht⟩|hge
 .have g1:=(zaa.1 ht).2;simp[ht,g1,hlt,fC hlt];intro _;refine aA (bC t.Time 0 1000000) ?_;cases h6:inRange t.Time 0 1000000 with
  |false=>simp;exact yEq ht (by simp[yt,h6])
  |true=>
  simp
  refineλhlW=>⟨by unfold maxLen at hlW;unfold inI;omega,?_⟩
  refine aA (bC t.yR8 0 (x.yRX.length-1)) ?_;cases h7:inRange t.yR8 0 (x.yRX.length-1)with
  |false=>simp;exact yEq ht (by simp[yt,h7])
  |true=>
  simp;refine aA (jJ t.yRT (hsP.2 t (zac ht))) ?_;cases h8:oC t.yRT with
  |false=>simp;exact yEq ht (by simp[yt,h8])
  |true=>
  simp;refine⟨gB hlt hlP,k+1,⟨hlt,lD (p:=yt x.yRX.length) ht hall (by simp[yt,h6,h7,h8])⟩,by omega,?_⟩;apply aB<;>simp
 have hP:=dF (p:=yt x.yRX.length) hge hall;simp[aG hge];intro _;have a3:x.yR9.length<=500:=by omega
 have a4:x.ySd.length<=2000:=by omega
 have a5:x.yR1.length<=500:=by omega
 simp only[pO,a3,a4,a5,hA,hE,hP];simp
def yc1(x:yRW)(hs:x.small):qB prg 52 [.agg (x.enc.map .c)] (.c (.b (rC x))):=by
 refine dB ynS ?_;simp;refine aA (bC x.Time 0 1000000) ?_;cases h1:inRange x.Time 0 1000000 with
 |false=>simp;simp[rC,h1]
 |true=>
 simp;refine aA (bC x.Start 0 1000000000) ?_;cases h2:inRange x.Start 0 1000000000 with
 |false=>simp;simp[rC,h2]
 |true=>
 simp;refine aA (bC x.In 0 1000000000) ?_;cases h3:inRange x.In 0 1000000000 with
 |false=>simp;simp[rC,h3]
 |true=>
 simp;refine aA (bC x.Out 0 1000000000) ?_;cases h4:inRange x.Out 0 1000000000 with
 |false=>simp;simp[rC,h4]
 |true=>
 simp;refine aA (yBx x hs) ?_;cases h5:sJ x with
 |false=>simp;simp[rC,h5]
 |true=>
 simp;refine aA (yCm x hs) ?_;cases h6:pO x with
 |false=>simp;simp[rC,h6]
 |true=>
 simp;refine aA (yfH x.yRZ) ?_;cases h7:nH x.yRZ with
 |false=>simp;simp[rC,h7]
 |true=>
 simp;refine aA (yjB x.Book) ?_;simp;simp[rC,h1,h2,h3,h4,h5,h6,h7]
def yYT(w:yR8):Int:=w.yR0.ySn
def yYN(x:yRW):Int:=if rC x then yYJ x.yRV+(x.yRX.map yYT).sum else 0
def yZd(x:yRW)(k:Nat):Int:=((x.yRX.take k).map yYT).sum
def yZx{x:yRW}:yZd x 0=0:=rfl
def yZv{x:yRW}{k:Nat}{w:yR8}(h:x.yRX[k]?=some w):yZd x (k+1)=yZd x k+w.yR0.ySn:=by
 unfold yZd;rw[zao,h];simp[yYT]
def yZh{x:yRW}{k:Nat}(h:x.yRX.length<=k):yZd x k=(x.yRX.map yYT).sum:=by unfold yZd;rw[List.take_of_length_le h]
structure ySK(x:yRW):Prop where
 ySA:jY x.yRV=true
 few:x.yRX.length<=5
 rng:∀w∈x.yRX,0<=w.yR0.ySn/\w.yR0.ySn<=1000000000
 start:0<=x.Start/\x.Start<=1000000000
 inn:0<=x.In/\x.In<=1000000000
 out:0<=x.Out/\x.Out<=1000000000
def yCL{x:yRW}(h:rC x=true):ySK x:=by
 simp only[rC,zad]at h;obtain⟨⟨⟨⟨⟨⟨⟨h1,h2⟩,h3⟩,h4⟩,h5⟩,h6⟩,h7⟩,h8⟩:=h;simp only[sJ,zad,decide_eq_true_eq,zae]at h2;obtain⟨⟨⟨⟨⟨⟨p1,p2⟩,p3⟩,p4⟩,p5⟩,p6⟩,p7⟩:=h2;have rf:=(ynr p1).len;refine⟨p1,by omega,λw hw=>?_,aC.1 h6,aC.1 h7,aC.1 h8⟩;have:=p7 w hw;simp only[fJ,lF,zad]at this;exact aC.1 this.1.1.1.1.1.1.1.1.2
def yY9{x:yRW}(h:ySK x):∀k:Nat,0<=yZd x k/\yZd x k<=1000000000*k
 |0=>by rw[yZx];omega
 | k+1=>by
  have ih:=yY9 h k;have e2:((k+1:Nat):Int)=k+1:=by simp
  cases hk:x.yRX[k]? with
  |none=>
   have hl:x.yRX.length<=k:=by simpa using hk
   rw[yZh (by omega),<-yZh hl];omega
  |some w=>
   have:=h.rng w (zac hk);rw[yZv hk];omega
def yZo{l:List Reach}(h:jY l=true):0<=yYJ l/\yYJ l<=1000000000:=by
 have:=(ynr h).rng;simp[yYJ,h];omega
def yacC(x:yRW):0<=yYN x/\yYN x<=6000000000:=by
 unfold yYN;split
 .rename_i h;have f:=yCL h;have h1:=yZo f.ySA;have h2:=yY9 f x.yRX.length;have h3:=f.few;rw[yZh (Nat.le_refl _)]at h2;omega
 .omega
def yaah(x:yRW)(hs:x.small):qB prg 34 [.agg (x.enc.map .c)] (.c (.i (yYN x))):=by
 refine dB yabk (goQ_ ?_);refine aA (yis x hs) ?_;cases h:rC x with
 |false=>simp -dsimp -implicitDefEqProofs;simp[yYN,h]
 |true=>
 have f:=yCL h;have hr:=yZo f.ySA;have hfew:=f.few;have hW:yYN x=yYJ x.yRV+(x.yRX.map yYT).sum:=by simp[yYN,h]
 refine goQ_ ?_;refine aA (yaaU x.yRV) (goQ_ ?_);intro hlen;refine yX2 (λk=>k<=x.yRX.length) (λk=>xC [(3,.c (.i (yYJ x.yRV+yZd x k))),(13,.c (.sl 22 (x.yRX.map yR8.enc))),(14,.c (.i x.yRX.length)),(15,.c (.i k))] []) (λk=>x.yRX.length-k) (by apply aB<;>simp[yZx]) ?_
 rintro k hk
 rcases yX1 k x.yRX with⟨hlt,w,hw⟩|hge
 .have g1:=(zaa.1 hw).2;have e1:=yZv hw;have hb:=yY9 f (k+1);have hb0:=yY9 f k;rw[e1]at hb;refine yaeV hw g1 (fC hlt) hlt ?_;refine⟨by unfold inI;omega,gB hlt hlen,k+1,hlt,by omega,?_⟩;apply aB<;>simp[e1];omega
 .refine yafw (aG hge) ?_;rw[yZh hge,hW]
def yabW(x:yRW)(hs:x.small):qB prg 51 [.agg (x.enc.map .c)] (.c (.i (yYN x))):=by
 refine dB yabj (goQ_ ?_);refine aA (yc1 x hs) ?_;cases h:rC x with
 |false=>simp -dsimp -implicitDefEqProofs;simp[yYN,h]
 |true=>
 have f:=yCL h;have hr:=yZo f.ySA;have hfew:=f.few;have hW:yYN x=yYJ x.yRV+(x.yRX.map yYT).sum:=by simp[yYN,h]
 refine goQ_ ?_;refine aA (yaaS x.yRV) (goQ_ ?_);refine yX2 (λk=>k<=x.yRX.length) (λk=>xC [(1,.box 1 0),(3,.c (.i (yYJ x.yRV+yZd x k))),(4,.c (.i k))] [(1,.box (x.enc.map .c))]) (λk=>x.yRX.length-k) (by apply aB<;>simp[yZx]) ?_
 rintro k hk
 rcases yX1 k x.yRX with⟨hlt,w,hw⟩|hge
 .have g1:=(zaa.1 hw).2;have e1:=yZv hw;have hb:=yY9 f (k+1);have hb0:=yY9 f k;rw[e1]at hb;refine yaeV hw g1 (fC hlt) hlt ?_
  refineλhlen=>⟨by unfold inI;omega,gB hlt hlen,k+1,hlt,by omega,?_⟩
  apply aB<;>simp[e1];omega
 .refine yafw (aG hge) ?_;intro _;rw[yZh hge,hW]
def iJ{α:Type}{f:α->List C}(h:∀x,∀c∈f x,c.closed)(k:Nat)(l:List α):(C.ot k (l.map f)).closed:=by
 simp only[C.closed,zaM]
 rintro r ⟨x,_,rfl⟩ c hc
 exact h x c hc
def dP{l:List C}(h:∀c∈l,c.closed):(AV.agg (l.map .c)).closed:=by
 show∀c,c∈AV.cs (l.map AV.c)->c.closed
 rw[ypQ];exact h
def yeK(xs:List ySa):∀c∈jF xs,c.closed:=by simp[jF,C.closed]
def yRT.aF(e:yRT):∀c∈e.iD,c.closed:=by
 simp only[yRT.iD,zaC,zaO,or_false,forall_eq_or_imp,forall_eq];exact⟨by simp[C.closed],iJ yeK _ _⟩
def yR6.aF(e:yR6):∀c∈e.iD,c.closed:=by
 simp only[yR6.iD,zaC,zaO,or_false,forall_eq_or_imp,forall_eq];exact⟨by simp[C.closed],iJ yeK _ _,by simp[C.closed]⟩
def Reach.aF(e:Reach):∀c∈e.iD,c.closed:=by
 simp only[Reach.iD,zaC,zaO,or_false,forall_eq_or_imp,forall_eq];exact⟨by simp[C.closed],by simp[C.closed],by simp[C.closed]⟩
def yRZ.aF(e:yRZ):∀c∈e.iD,c.closed:=by
 simp only[yRZ.iD,zaC,zaO,or_false,forall_eq_or_imp,forall_eq];exact⟨by simp[C.closed],by simp[C.closed],by simp[C.closed],by simp[C.closed]⟩
def aH(e:Reach):Nat:=2*e.ySg.length+1+e.ySk.length
def rY(k:Int)(e:Reach):List C:=[.ow 2 (marked mkPt 2 [] k e.ySg.length),.i (k+2*(e.ySg.length:Int)),.ow 1 (marked qC 1 [] (k+2*(e.ySg.length:Int)+1) e.ySk.length)]
def yaj(k:Int):List C:=[.i k,.i (k+1)]
def qR(k:Int):List C:=[.i k,.i (k+1)]
def jC(e:yRT):Nat:=1+cnt nB e.Rows
def pR(k:Int)(e:yRT):List C:=[.b (decide (k.tmod 3=0)),.ot 1 (dH fB nB (k+1) e.Rows)]
@[simp] def yR4.iD(e:yR4):List C:=[.b e.yRT.Up,.ot 1 (e.yRT.Rows.map jF),.i e.Since,.i e.Booked]
def yR4.bF(e:yR4):dO e.iD=some e.enc:=by simp[yR4.iD,dO,yY yI]
def yR4.aF(e:yR4):∀c∈e.iD,c.closed:=by
 simp only[yR4.iD,zaC,zaO,or_false,forall_eq_or_imp,forall_eq];exact⟨by simp[C.closed],iJ yeK _ _,by simp[C.closed],by simp[C.closed]⟩
def gI(e:yR4):Nat:=1+cnt nB e.yRT.Rows+1+1
def ybu(k:Int)(e:yR4):List C:=[.b (decide (k.tmod 3=0)),.ot 1 (dH fB nB (k+1) e.yRT.Rows),.i (k+1+(cnt nB e.yRT.Rows:Int)),.i (k+1+(cnt nB e.yRT.Rows:Int)+1)]
@[simp] def yR0.iD(e:yR0):List C:=[.i e.Length,.i e.Width,.i e.ySi,.i e.ySj,.i e.Base,.i e.Area,.i e.ySs,.i e.ySn,.i e.Gate,.ot 2 (e.yRY.map yRT.iD)]
def yR0.aF(e:yR0):∀c∈e.iD,c.closed:=by
 simp only[yR0.iD,zaC,zaO,or_false,forall_eq_or_imp,forall_eq];exact⟨by simp[C.closed],by simp[C.closed],by simp[C.closed],by simp[C.closed],by simp[C.closed],by simp[C.closed],by simp[C.closed],by simp[C.closed],by simp[C.closed],iJ yRT.aF _ _⟩
@[simp] def yR8.iD(e:yR8):List C:=[.i e.yR0.Length,.i e.yR0.Width,.i e.yR0.ySi,.i e.yR0.ySj,.i e.yR0.Base,.i e.yR0.Area,.i e.yR0.ySs,.i e.yR0.ySn,.i e.yR0.Gate,.ot 2 (e.yR0.yRY.map yRT.iD),.i e.ySp.ySu,.i e.ySp.Open,.i e.ySp.Step,.i e.ySp.ySy,.i e.ySp.Width,.i e.Rule.Low,.i e.Rule.High,.i e.Rule.ySx,.ow 2 (e.Pauses.map ySf.enc),.b e.Turn.Up,.i e.Turn.Count,.ot 4 (e.Calls.map yR4.iD)]
def yR8.bF(e:yR8):dO e.iD=some e.enc:=by simp[yR8.iD,dO,yY yRT.bF,yY yR4.bF]
def yR8.aF(e:yR8):∀c∈e.iD,c.closed:=by
 simp only[yR8.iD,zaC,zaO,or_false,forall_eq_or_imp,forall_eq];exact⟨by simp[C.closed],by simp[C.closed],by simp[C.closed],by simp[C.closed],by simp[C.closed],by simp[C.closed],by simp[C.closed],by simp[C.closed],by simp[C.closed],iJ yRT.aF _ _,by simp[C.closed],by simp[C.closed],by simp[C.closed],by simp[C.closed],by simp[C.closed],by simp[C.closed],by simp[C.closed],by simp[C.closed],by simp[C.closed],by simp[C.closed],by simp[C.closed],iJ yR4.aF _ _⟩
def iI(e:yR8):Nat:=1+1+1+1+1+1+1+1+1+cnt jC e.yR0.yRY+1+1+1+1+1+1+1+1+2*e.Pauses.length+1+1+cnt gI e.Calls
def yax(k:Int)(e:yR8):List C:=[.i k,.i (k+1),.i (k+1+1),.i (k+1+1+1),.i (k+1+1+1+1),.i (k+1+1+1+1+1),.i (k+1+1+1+1+1+1),.i (k+1+1+1+1+1+1+1),.i (k+1+1+1+1+1+1+1+1),.ot 2 (dH pR jC (k+1+1+1+1+1+1+1+1+1) e.yR0.yRY),.i (k+1+1+1+1+1+1+1+1+1+(cnt jC e.yR0.yRY:Int)),.i (k+1+1+1+1+1+1+1+1+1+(cnt jC e.yR0.yRY:Int)+1),.i (k+1+1+1+1+1+1+1+1+1+(cnt jC e.yR0.yRY:Int)+1+1),.i (k+1+1+1+1+1+1+1+1+1+(cnt jC e.yR0.yRY:Int)+1+1+1),.i (k+1+1+1+1+1+1+1+1+1+(cnt jC e.yR0.yRY:Int)+1+1+1+1),.i (k+1+1+1+1+1+1+1+1+1+(cnt jC e.yR0.yRY:Int)+1+1+1+1+1),.i (k+1+1+1+1+1+1+1+1+1+(cnt jC e.yR0.yRY:Int)+1+1+1+1+1+1),.i (k+1+1+1+1+1+1+1+1+1+(cnt jC e.yR0.yRY:Int)+1+1+1+1+1+1+1),.ow 2 (marked qR 2 [] (k+1+1+1+1+1+1+1+1+1+(cnt jC e.yR0.yRY:Int)+1+1+1+1+1+1+1+1) e.Pauses.length),.b (decide ((k+1+1+1+1+1+1+1+1+1+(cnt jC e.yR0.yRY:Int)+1+1+1+1+1+1+1+1+2*(e.Pauses.length:Int)).tmod 3=0)),.i (k+1+1+1+1+1+1+1+1+1+(cnt jC e.yR0.yRY:Int)+1+1+1+1+1+1+1+1+2*(e.Pauses.length:Int)+1),.ot 4 (dH ybu gI (k+1+1+1+1+1+1+1+1+1+(cnt jC e.yR0.yRY:Int)+1+1+1+1+1+1+1+1+2*(e.Pauses.length:Int)+1+1) e.Calls)]
def xG(xs:List yR6):List C:=[.ot 3 (xs.map yR6.iD)]
def oV(xs:List yR6):dO (xG xs)=some (nD xs):=by simp[xG,dO,yY yR6.bF]
def yoj(xs:List yR6):∀c∈xG xs,c.closed:=by
 intro c hc;simp only[xG,zan]at hc;subst hc;exact iJ yR6.aF _ _
def kG(r:List yR6):Nat:=cnt nM r
def xU(k:Int)(r:List yR6):List C:=[.ot 3 (dH fM nM k r)]
@[simp] def yR2.iD(e:yR2):List C:=[.i e.Time,.i e.yR8,.b e.yRT.Up,.ot 1 (e.yRT.Rows.map jF)]
def yR2.bF(e:yR2):dO e.iD=some e.enc:=by simp[yR2.iD,dO,yY yI]
def yR2.aF(e:yR2):∀c∈e.iD,c.closed:=by
 simp only[yR2.iD,zaC,zaO,or_false,forall_eq_or_imp,forall_eq];exact⟨by simp[C.closed],by simp[C.closed],by simp[C.closed],iJ yeK _ _⟩
def sF(e:yR2):Nat:=1+1+1+cnt nB e.yRT.Rows
def iR(k:Int)(e:yR2):List C:=[.i k,.i (k+1),.b (decide ((k+1+1).tmod 3=0)),.ot 1 (dH fB nB (k+1+1+1) e.yRT.Rows)]
@[simp] def yRW.iD(e:yRW):List C:=[.i e.Time,.ot 3 (e.yRV.map Reach.iD),.ow 2 (e.ySl.map Way.enc),.ot 22 (e.yRX.map yR8.iD),.ot 1 (e.yR3.map xG),.ot 2 (e.yR9.map yRT.iD),.ow 1 (e.ySd.map qC),.i e.yRZ.Base,.i e.yRZ.ySe,.ow 1 (e.yRZ.yR5.map qC),.ow 1 (e.yRZ.yR7.map qC),.ow 5 (e.Book.map ySb.enc),.ot 4 (e.yR1.map yR2.iD),.i e.Start,.i e.In,.i e.Out]
def yRW.aF(e:yRW):∀c∈e.iD,c.closed:=by
 simp only[yRW.iD,zaC,zaO,or_false,forall_eq_or_imp,forall_eq];exact⟨by simp[C.closed],iJ Reach.aF _ _,by simp[C.closed],iJ yR8.aF _ _,iJ yoj _ _,iJ yRT.aF _ _,by simp[C.closed],by simp[C.closed],by simp[C.closed],by simp[C.closed],by simp[C.closed],by simp[C.closed],iJ yR2.aF _ _,by simp[C.closed],by simp[C.closed],by simp[C.closed]⟩
def yHb(es:List ySc)(hl:es.length<=1048576):nI prg 347 [.c (.sl 2 (es.map ySc.enc))] (.c (.ow 2 (es.map ySc.enc))):=by
 refine fF mZ ?_;simp[iP,jA];omega
def ynW(es:List Int)(hl:es.length<=1048576):nI prg 152 [.c (.sl 1 (es.map qC))] (.c (.ow 1 (es.map qC))):=by
 refine fF yev ?_;simp[yad,jA];omega
def yFa(es:List ySf)(hl:es.length<=1048576):nI prg 251 [.c (.sl 2 (es.map ySf.enc))] (.c (.ow 2 (es.map ySf.enc))):=by
 refine fF oZ ?_;simp[yYQ,jA];omega
def yFI(es:List Way)(hl:es.length<=1048576):nI prg 148 [.c (.sl 2 (es.map Way.enc))] (.c (.ow 2 (es.map Way.enc))):=by
 refine fF yal ?_;simp[aT,jA];omega
def yFy(es:List ySb)(hl:es.length<=1048576):nI prg 154 [.c (.sl 5 (es.map ySb.enc))] (.c (.ow 5 (es.map ySb.enc))):=by
 refine fF fP ?_;simp[oJ,jA];omega
def ye5(e:Reach)(hl:Reach.small e):nI prg 249 [.agg (e.enc.map .c)] (.agg (e.iD.map .c)):=by
 refine fF yqn (goQ_ ?_);refine pJ (yHb e.ySg hl.1.1) (by simp) (by simp[AV.closed,AV.jI,C.closed]) (by simp[fD]) (goT_ ?_);refine pJ (ynW e.ySk hl.2.1) (by simp) (by simp[AV.closed,AV.jI,C.closed]) (by simp[fD]) ?_;exact goU_
def yvL(xs:List Reach)(hl:ybv xs):nI prg 147 [.c (.sl 3 (xs.map Reach.enc))] (.c (.ot 3 (xs.map Reach.iD))):=by
 refine fF ym4 ?_;simp;intro hlen;have hl1:=hl.1;refine⟨by omega,?_⟩;intro _;refine yX2 (λk=>k<=xs.length) (λk=>xC [(3,.own 8 3 k),(9,.c (.sl 3 (xs.map Reach.enc))),(10,.c (.i xs.length)),(11,.c (.i k))] [(8,.tr 3 0 ((xs.take k).map Reach.iD))]) (λk=>xs.length-k) (by apply aB<;>simp[Obj.leO]) ?_
 rintro k hk
 rcases yX1 k xs with⟨hlt,e,he⟩|hge
 .have hs:xs.take (k+1)=xs.take k++[e]:=by rw[zao,he];rfl
  have he2:=hl.2 e (zac he);have g1:=(zaa.1 he).2;simp[he,g1,hlt,fC hlt];refine yX3 (ye5 e he2) (dP (Reach.aF e)) ?_;simp[jA,Nat.min_eq_left hk,iW];refine⟨by omega,gB hlt hlen,k+1,hlt,by omega,?_⟩;have hs2:(xs.map Reach.iD).take (k+1)=(xs.map Reach.iD).take k++[Reach.iD e]:=by rw[<-zaV,<-zaV,hs,zaB];rfl
  apply aB<;>simp[Obj.leO,hs2]
 .have:k=xs.length:=by omega
  subst this;simp[jA]
  try simp
def ybj(xs:List yRT)(hl:aJ xs):nI prg 151 [.c (.sl 2 (xs.map yRT.enc))] (.c (.ot 2 (xs.map yRT.iD))):=by
 refine fF ynC ?_;simp;intro hlen;have hl1:=hl.1;refine ydE (k0:=2) 3 2 (by simp) (by simp) (by decide) ?_;refine yX2 (λk=>k<=xs.length) (λk=>xC [(3,.own 3 2 k),(6,.c (.sl 2 (xs.map yRT.enc))),(7,.c (.i xs.length)),(8,.c (.i k))] [(3,.tr 2 0 ((xs.take k).map yRT.iD))]) (λk=>xs.length-k) (by apply aB<;>simp[Obj.leO]) ?_
 rintro k hk
 rcases yX1 k xs with⟨hlt,e,he⟩|hge
 .have hs:xs.take (k+1)=xs.take k++[e]:=by rw[zao,he];rfl
  have he2:=hl.2 e (zac he);have g1:=(zaa.1 he).2;simp[he,g1,hlt,fC hlt];refine yX3 (yaU e he2) (dP (yRT.aF e)) ?_;simp[jA,Nat.min_eq_left hk,iW];refine⟨by omega,gB hlt hlen,k+1,hlt,by omega,?_⟩;have hs2:(xs.map yRT.iD).take (k+1)=(xs.map yRT.iD).take k++[yRT.iD e]:=by rw[<-zaV,<-zaV,hs,zaB];rfl
  apply aB<;>simp[Obj.leO,hs2]
 .have:k=xs.length:=by omega
  subst this;simp[jA]
  try simp
def yzp(xs:List yR4)(hl:oM xs):nI prg 252 [.c (.sl 4 (xs.map yR4.enc))] (.c (.ot 4 (xs.map yR4.iD))):=by
 refine fF ype (goQ_ ?_);intro hlen;have hl1:=hl.1;refine ydE (k0:=4) 3 4 (by simp) (by simp) (by decide) ?_;refine yX2 (λk=>k<=xs.length) (λk=>xC [(3,.own 3 4 k),(6,.c (.sl 4 (xs.map yR4.enc))),(7,.c (.i xs.length)),(8,.c (.i k))] [(3,.tr 4 0 ((xs.take k).map yR4.iD))]) (λk=>xs.length-k) (by apply aB<;>simp[Obj.leO]) ?_
 rintro k hk
 rcases yX1 k xs with⟨hlt,e,he⟩|hge
 .have hs:xs.take (k+1)=xs.take k++[e]:=by rw[zao,he];rfl
  have he2:=hl.2 e (zac he);have g1:=(zaa.1 he).2;refine yaeV he g1 hlt (fC hlt) ?_;refine yage (yaU e.yRT he2) (dP (yRT.aF e.yRT)) ?_;simp -dsimp -implicitDefEqProofs [jA,Nat.min_eq_left hk,iW];refine⟨by omega,gB hlt hlen,k+1,hlt,by omega,?_⟩;have hs2:(xs.map yR4.iD).take (k+1)=(xs.map yR4.iD).take k++[yR4.iD e]:=by rw[<-zaV,<-zaV,hs,zaB];rfl
  apply aB<;>simp[Obj.leO,hs2]
 .have:k=xs.length:=by omega
  subst this;refine goT_ ?_
  try simp
def yyd(xs:List yR6)(hl:ydp xs):nI prg 150 [.c (.sl 3 (xs.map yR6.enc))] (.c (.ot 3 (xs.map yR6.iD))):=by
 refine fF yoA (goQ_ ?_);intro hlen;have hl1:=hl.1;refine ydE (k0:=3) 3 3 (by simp) (by simp) (by decide) ?_;refine yX2 (λk=>k<=xs.length) (λk=>xC [(3,.own 3 3 k),(6,.c (.sl 3 (xs.map yR6.enc))),(7,.c (.i xs.length)),(8,.c (.i k))] [(3,.tr 3 0 ((xs.take k).map yR6.iD))]) (λk=>xs.length-k) (by apply aB<;>simp[Obj.leO]) ?_
 rintro k hk
 rcases yX1 k xs with⟨hlt,e,he⟩|hge
 .have hs:xs.take (k+1)=xs.take k++[e]:=by rw[zao,he];rfl
  have he2:=hl.2 e (zac he);have g1:=(zaa.1 he).2;refine yaeV he g1 hlt (fC hlt) ?_;refine yage (yaU e.yRT he2) (dP (yRT.aF e.yRT)) ?_;simp -dsimp -implicitDefEqProofs [jA,Nat.min_eq_left hk,iW];refine⟨by omega,gB hlt hlen,k+1,hlt,by omega,?_⟩;have hs2:(xs.map yR6.iD).take (k+1)=(xs.map yR6.iD).take k++[yR6.iD e]:=by rw[<-zaV,<-zaV,hs,zaB];rfl
  apply aB<;>simp[Obj.leO,hs2]
 .have:k=xs.length:=by omega
  subst this;refine goT_ ?_
  try simp
def ysC(e:yR0)(hl:yR0.small e):nI prg 250 [.agg (e.enc.map .c)] (.agg (e.iD.map .c)):=by
 refine fF yrk ?_;simp;refine yX3 (ybj e.yRY hl) (iJ yRT.aF _ _) ?_;simp[jA]
def yy2(e:yRZ)(hl:yRZ.small e):nI prg 153 [.agg (e.enc.map .c)] (.agg (e.iD.map .c)):=by
 refine fF yn6 ?_;simp;refine sD (ynW e.yR5 hl.1) (by simp) (by simp[AV.closed,AV.jI,C.closed]) (by simp[fD]) ?_;simp[jA];refine sD (ynW e.yR7 hl.2) (by simp) (by simp[AV.closed,AV.jI,C.closed]) (by simp[fD]) ?_;simp[jA]
def yAG(xs:List yR8)(hl:ycw xs):nI prg 149 [.c (.sl 22 (xs.map yR8.enc))] (.c (.ot 22 (xs.map yR8.iD))):=by
 refine fF yp9 ?_;simp;intro hlen;have hl1:=hl.1;refine ydE (k0:=22) 3 22 (by simp) (by simp) (by decide) ?_;refine yX2 (λk=>k<=xs.length) (λk=>xC [(3,.own 3 22 k),(6,.c (.sl 22 (xs.map yR8.enc))),(7,.c (.i xs.length)),(8,.c (.i k))] [(3,.tr 22 0 ((xs.take k).map yR8.iD))]) (λk=>xs.length-k) (by apply aB<;>simp[Obj.leO]) ?_
 rintro k hk
 rcases yX1 k xs with⟨hlt,e,he⟩|hge
 .have hs:xs.take (k+1)=xs.take k++[e]:=by rw[zao,he];rfl
  have he2:=hl.2 e (zac he);have g1:=(zaa.1 he).2;simp[he,g1,hlt,fC hlt];refine yX3 (ysC e.yR0 he2.1) (dP (yR0.aF _)) ?_;simp[jA];refine sD (yFa e.Pauses he2.2.1.1) (by simp) (by simp[AV.closed,AV.jI,C.closed]) (by simp[fD]) ?_;simp[jA];refine yX3 (yzp e.Calls he2.2.2) (iJ yR4.aF _ _) ?_;simp[jA,Nat.min_eq_left hk];refine⟨by omega,gB hlt hlen,k+1,hlt,by omega,?_⟩;have hs2:(xs.map yR8.iD).take (k+1)=(xs.map yR8.iD).take k++[yR8.iD e]:=by rw[<-zaV,<-zaV,hs,zaB];rfl
  apply aB<;>simp[Obj.leO,hs2]
 .have:k=xs.length:=by omega
  subst this;simp[jA]
  try simp
def yuq(x:yRW)(hl:x.small):nI prg 55 [.agg (x.enc.map .c)] (.agg (x.iD.map .c)):=by
 obtain⟨s1,s2,s3,s4,s5,s6,s7,s8,s9⟩:=hl;have s41:=s4.1;have s91:=s9.1;refine fF ylx (goQ_ ?_);refine yX3 (yvL x.yRV s1) (iJ Reach.aF _ _) (goT_ ?_);refine sD (yFI x.ySl s2.1) (by simp) (by simp[AV.closed,AV.jI,C.closed]) (by simp[fD]) (goT_ ?_);refine yX3 (yAG x.yRX s3) (iJ yR8.aF _ _) (goT_ ?_);intro hlen;refine⟨by omega,yoL ?_⟩;refine goQ_ ?_;intro _;refine yX2 (λk=>k<=x.yR3.length) (λk=>xC [(1,.box 1 0),(2,.box 2 0),(3,.own 24 1 x.yR3.length),(26,.c (.sl 1 (x.yR3.map nD))),(27,.c (.i x.yR3.length)),(28,.c (.i k))] [(1,.box [.c (.i x.Time),.own 11 3 x.yRV.length,.own 15 2 x.ySl.length,.own 19 22 x.yRX.length,.c (.sl 1 (x.yR3.map nD)),.c (.sl 2 (x.yR9.map yRT.enc)),.c (.sl 1 (x.ySd.map qC)),.c (.i x.yRZ.Base),.c (.i x.yRZ.ySe),.c (.sl 1 (x.yRZ.yR5.map qC)),.c (.sl 1 (x.yRZ.yR7.map qC)),.c (.sl 5 (x.Book.map ySb.enc)),.c (.sl 4 (x.yR1.map yR2.enc)),.c (.i x.Start),.c (.i x.In),.c (.i x.Out)]),(2,zW),(11,.tr 3 0 (x.yRV.map Reach.iD)),(15,.row 2 (x.ySl.map Way.enc)),(19,.tr 22 0 (x.yRX.map yR8.iD)),(24,.tr 1 0 (partly xG [.sl 3 []] x.yR3 k))]) (λk=>x.yR3.length-k) (by apply aB<;>simp[mF,Obj.leO]) ?_
 rintro k hk
 rcases yX1 k x.yR3 with⟨hlt,e,he⟩|hge
 .have hs:=fG (f:=xG) (z:=[.sl 3 []]) he
  have hd:((partly xG [.sl 3 []] x.yR3 k)[k]?.getD []).set 0 (.ot 3 (e.map yR6.iD))=xG e:=by
   have:=tX (f:=xG) (z:=[.sl 3 []]) (n:=1) rfl (λ_=>rfl) hlt;obtain⟨y,hy⟩:=zbw.1 this;rw[hy];rfl
  refine yaed he (fC hlt) ?_;refine yX3 (yyd e (s4.2 e (zac he))) (iJ yR6.aF _ _) ?_;simp -dsimp -implicitDefEqProofs [fC hlt,dG hk,jA,setAt,hd,hs];exact⟨hlt,gB hlt hlen,k+1,hlt,by omega,by apply aB<;>simp[Obj.leO]⟩
 have hke:k=x.yR3.length:=by omega
 subst hke;simp -dsimp -implicitDefEqProofs [eG (Nat.le_refl _),jA];refine yX3 (ybj x.yR9 s5) (iJ yRT.aF _ _) (goT_ ?_);refine sD (ynW x.ySd s6.1) (by simp) (by simp[AV.closed,AV.jI,C.closed]) (by simp[fD]) (goT_ ?_);refine yX3 (yy2 x.yRZ s7) (dP (yRZ.aF _)) (goT_ ?_);refine sD (yFy x.Book s8.1) (by simp) (by simp[AV.closed,AV.jI,C.closed]) (by simp[fD]) (goT_ ?_);intro hlen2;refine ydE (k0:=4) 6 4 (by simp) (by simp) (by decide) ?_;refine yX2 (λk=>k<=x.yR1.length) (λk=>xC [(1,.box 1 0),(2,.box 2 0),(6,.own 6 4 k),(58,.c (.sl 4 (x.yR1.map yR2.enc))),(59,.c (.i x.yR1.length)),(60,.c (.i k))] [(1,.box [.c (.i x.Time),.own 11 3 x.yRV.length,.own 15 2 x.ySl.length,.own 19 22 x.yRX.length,.own 24 1 x.yR3.length,.own 43 2 x.yR9.length,.own 47 1 x.ySd.length,.c (.i x.yRZ.Base),.c (.i x.yRZ.ySe),.own 30051 1 x.yRZ.yR5.length,.own 40051 1 x.yRZ.yR7.length,.own 55 5 x.Book.length,.c (.sl 4 (x.yR1.map yR2.enc)),.c (.i x.Start),.c (.i x.In),.c (.i x.Out)]),(2,zW),(11,.tr 3 0 (x.yRV.map Reach.iD)),(15,.row 2 (x.ySl.map Way.enc)),(19,.tr 22 0 (x.yRX.map yR8.iD)),(24,.tr 1 0 (x.yR3.map xG)),(43,.tr 2 0 (x.yR9.map yRT.iD)),(47,.row 1 (x.ySd.map qC)),(30051,.row 1 (x.yRZ.yR5.map qC)),(40051,.row 1 (x.yRZ.yR7.map qC)),(55,.row 5 (x.Book.map ySb.enc)),(6,.tr 4 0 ((x.yR1.take k).map yR2.iD))]) (λk=>x.yR1.length-k) (by apply aB<;>simp[Obj.leO]) ?_
 rintro k hk2
 rcases yX1 k x.yR1 with⟨hlt,e,he⟩|hge2
 .have hs:x.yR1.take (k+1)=x.yR1.take k++[e]:=by rw[zao,he];rfl
  have he2:=s9.2 e (zac he);have g1:=(zaa.1 he).2;refine yaeV he g1 hlt (fC hlt) ?_;refine yage (yaU e.yRT he2) (dP (yRT.aF e.yRT)) ?_;simp -dsimp -implicitDefEqProofs [jA,Nat.min_eq_left hk2,iW];refine⟨by omega,gB hlt hlen2,k+1,hlt,by omega,?_⟩;have hs2:(x.yR1.map yR2.iD).take (k+1)=(x.yR1.map yR2.iD).take k++[yR2.iD e]:=by rw[<-zaV,<-zaV,hs,zaB];rfl
  apply aB<;>simp[Obj.leO,hs2]
 have hke2:k=x.yR1.length:=by omega
 subst hke2;exact goU_
def ypa(e:Reach)(hl:Reach.small e):nI prg 136 [.agg (e.enc.map .c)] (.agg (e.iD.map .c)):=by
 have h1:=hl.1.1;have h2:=hl.2.1;refine fF ysq ?_;simp -dsimp -implicitDefEqProofs [yjr,jA];exact⟨by omega,by omega⟩
def ypc(e:Reach)(hl:Reach.small e):qB prg 136 [.agg (e.enc.map .c)] (.agg (e.enc.map .c)):=(ypa e hl).pure (by simp[AV.shr,AV.yoE,dO,C.shr])
def yFb(e:yR6)(hl:yR6.small e):qB prg 138 [.agg (e.enc.map .c)] (.agg (e.enc.map .c)):=by
 refine dB yub (goQ_ ?_);refine bI (ybP e.yRT hl) ?_;exact goE_
@[simp] def lkI(e:yR0):List C:=[.i e.Length,.i e.Width,.i e.ySi,.i e.ySj,.i e.Base,.i e.Area,.i e.ySs,.i e.ySn,.i e.Gate,.ow 2 (e.yRY.map yRT.enc)]
def yxj(e:yR0)(hl:yR0.small e):nI prg 240 [.agg (e.enc.map .c)] (.agg ((lkI e).map .c)):=by
 have hl1:=hl.1;have hsm:=hl.2;refine fF ysx (goQ_ ?_);refine yX2 (λk=>k<=e.yRY.length) (λk=>xC [(1,.box 1 0),(2,.box 2 0),(3,.own 5 2 k),(4,.c (.i k))] [(1,.box [.c (.i e.Length),.c (.i e.Width),.c (.i e.ySi),.c (.i e.ySj),.c (.i e.Base),.c (.i e.Area),.c (.i e.ySs),.c (.i e.ySn),.c (.i e.Gate),.c (.sl 2 (e.yRY.map yRT.enc))]),(2,.box [.c (.i 0),.c (.i 0),.c (.i 0),.c (.i 0),.c (.i 0),.c (.i 0),.c (.i 0),.c (.i 0),.c (.i 0),.nil 2]),(5,.row 2 ((e.yRY.take k).map yRT.enc))]) (λk=>e.yRY.length-k) (by apply aB<;>simp[Obj.leO]) ?_
 rintro k hk
 rcases yX1 k e.yRY with⟨klt,e1,he⟩|kge
 .have he2:=hsm e1 (zac he);have g1:=(zaa.1 he).2;have hs2:(e.yRY.map yRT.enc).take (k+1)=(e.yRY.map yRT.enc).take k++[yRT.enc e1]:=by rw[zao,zat,he];rfl
  refine yaeV he g1 klt (fC klt) ?_;intro hlen;refine dD (ybP e1 he2) ?_;simp -dsimp -implicitDefEqProofs [he,g1,klt,fC klt,jA,Nat.min_eq_left hk];refine⟨by omega,gB klt hlen,k+1,klt,by omega,?_⟩;apply aB<;>simp[Obj.leO,hs2]
 have ek:k=e.yRY.length:=by omega
 subst ek;exact goU_
def yb7(e:yR0)(hl:yR0.small e):qB prg 240 [.agg (e.enc.map .c)] (.agg (e.enc.map .c)):=(yxj e hl).pure (by simp[AV.shr,AV.yoE,dO,C.shr])
def em(l:List yR6):List C:=[.ow 3 (l.map yR6.enc)]
def yHe(l:List yR6):dO (em l)=some (nD l):=rfl
def yRW.yXO(e:yRW):List C:=[.i e.Time,.ow 3 (e.yRV.map Reach.enc),.ow 2 (e.ySl.map Way.enc),.ow 22 (e.yRX.map yR8.enc),.ot 1 (e.yR3.map em),.ow 2 (e.yR9.map yRT.enc),.ow 1 (e.ySd.map qC),.i e.yRZ.Base,.i e.yRZ.ySe,.ow 1 (e.yRZ.yR5.map qC),.ow 1 (e.yRZ.yR7.map qC),.ow 5 (e.Book.map ySb.enc),.ow 4 (e.yR1.map yR2.enc),.i e.Start,.i e.In,.i e.Out]
def wE(w:yR8):List C:=[.i w.yR0.Length,.i w.yR0.Width,.i w.yR0.ySi,.i w.yR0.ySj,.i w.yR0.Base,.i w.yR0.Area,.i w.yR0.ySs,.i w.yR0.ySn,.i w.yR0.Gate,.sl 2 (w.yR0.yRY.map yRT.enc),.i w.ySp.ySu,.i w.ySp.Open,.i w.ySp.Step,.i w.ySp.ySy,.i w.ySp.Width,.i w.Rule.Low,.i w.Rule.High,.i w.Rule.ySx,.ow 2 (w.Pauses.map ySf.enc),.b w.Turn.Up,.i w.Turn.Count,.ow 4 (w.Calls.map yR4.enc)]
def yK7(w:yR8):dO (wE w)=some w.enc:=rfl
def ywh(w:yR8)(hl:yR8.small w):nI prg 137 [.agg (w.enc.map .c)] (.agg ((wE w).map .c)):=by
 obtain⟨s1,s2,s3⟩:=hl;have hl1:=s3.1;have hp1:=s2.1;have hsm:=s3.2;refine fF ynq (goQ_ ?_);refine dD (yb7 w.yR0 s1) (goT_ ?_);refine⟨by omega,?_⟩;refine yX2 (λk=>k<=w.Calls.length) (λk=>xC [(1,.box 1 0),(2,.box 2 0),(3,.box 3 0),(4,.c (.i k))] [(1,.box (w.enc.map .c)),(2,.box [.c (.i 0),.c (.i 0),.c (.i 0),.c (.i 0),.c (.i 0),.c (.i 0),.c (.i 0),.c (.i 0),.c (.i 0),.nil 2,.c (.i 0),.c (.i 0),.c (.i 0),.c (.i 0),.c (.i 0),.c (.i 0),.c (.i 0),.c (.i 0),.nil 2,.c (.b false),.c (.i 0),.nil 4]),(3,.box ((w.enc.map .c).set 18 (.own 11 2 w.Pauses.length) |>.set 21 (.own 16 4 k))),(11,.row 2 (w.Pauses.map ySf.enc)),(16,.row 4 ((w.Calls.take k).map yR4.enc))]) (λk=>w.Calls.length-k) (by apply aB<;>simp[Obj.leO]) ?_
 rintro k hk
 rcases yX1 k w.Calls with⟨klt,e1,he⟩|kge
 .have he2:=hsm e1 (zac he);have g1:=(zaa.1 he).2;have hs2:(w.Calls.map yR4.enc).take (k+1)=(w.Calls.map yR4.enc).take k++[yR4.enc e1]:=by rw[zao,zat,he];rfl
  refine yaeV he g1 klt (fC klt) ?_;intro hlen;refine dD (ybP e1.yRT he2) ?_;simp -dsimp -implicitDefEqProofs [he,g1,klt,fC klt,jA,Nat.min_eq_left hk];refine⟨by omega,gB klt hlen,k+1,klt,by omega,?_⟩;apply aB<;>simp[Obj.leO,hs2]
 have ek:k=w.Calls.length:=by omega
 subst ek;simp -dsimp -implicitDefEqProofs [jA,wE]
def yRW.yIh(e:yRW):List C:=[.i e.Time,.ow 3 (e.yRV.map Reach.enc),.ow 2 (e.ySl.map Way.enc),.ot 22 (e.yRX.map wE),.ot 1 (e.yR3.map em),.ow 2 (e.yR9.map yRT.enc),.ow 1 (e.ySd.map qC),.i e.yRZ.Base,.i e.yRZ.ySe,.ow 1 (e.yRZ.yR5.map qC),.ow 1 (e.yRZ.yR7.map qC),.ow 5 (e.Book.map ySb.enc),.ow 4 (e.yR1.map yR2.enc),.i e.Start,.i e.In,.i e.Out]
def yEs(x:yRW)(hl:x.small):nI prg 50 [.agg (x.enc.map .c)] (.agg (x.yIh.map .c)):=by
 obtain⟨s1,s2,s3,s4,s5,s6,s7,s8,s9⟩:=hl;have t1:=s1.1;have t2:=s2.1;have t3:=s3.1;have t4:=s4.1;have t5:=s5.1;have t6:=s6.1;have t8:=s8.1;have t9:=s9.1;have t71:=s7.1;have t72:=s7.2;refine fF ytg (goQ_ ?_);refine yX2 (λk=>k<=x.yRV.length) (λk=>xC [(1,.box 1 0),(2,.box 2 0),(3,.box 3 0),(4,.c (.i k))] [(1,.box [.c (.i x.Time),.c (.sl 3 (x.yRV.map Reach.enc)),.c (.sl 2 (x.ySl.map Way.enc)),.c (.sl 22 (x.yRX.map yR8.enc)),.c (.sl 1 (x.yR3.map nD)),.c (.sl 2 (x.yR9.map yRT.enc)),.c (.sl 1 (x.ySd.map qC)),.c (.i x.yRZ.Base),.c (.i x.yRZ.ySe),.c (.sl 1 (x.yRZ.yR5.map qC)),.c (.sl 1 (x.yRZ.yR7.map qC)),.c (.sl 5 (x.Book.map ySb.enc)),.c (.sl 4 (x.yR1.map yR2.enc)),.c (.i x.Start),.c (.i x.In),.c (.i x.Out)]),(2,zW),(3,.box [.c (.i x.Time),.own 13 3 k,.c (.sl 2 (x.ySl.map Way.enc)),.c (.sl 22 (x.yRX.map yR8.enc)),.c (.sl 1 (x.yR3.map nD)),.c (.sl 2 (x.yR9.map yRT.enc)),.c (.sl 1 (x.ySd.map qC)),.c (.i x.yRZ.Base),.c (.i x.yRZ.ySe),.c (.sl 1 (x.yRZ.yR5.map qC)),.c (.sl 1 (x.yRZ.yR7.map qC)),.c (.sl 5 (x.Book.map ySb.enc)),.c (.sl 4 (x.yR1.map yR2.enc)),.c (.i x.Start),.c (.i x.In),.c (.i x.Out)]),(13,.row 3 ((x.yRV.take k).map Reach.enc))]) (λk=>x.yRV.length-k) (by apply aB<;>simp[Obj.leO]) ?_
 rintro k hk
 rcases yX1 k x.yRV with⟨klt,e1,he⟩|kge
 .have he2:=s1.2 e1 (zac he);have g1:=(zaa.1 he).2;have hs2:(x.yRV.map Reach.enc).take (k+1)=(x.yRV.map Reach.enc).take k++[Reach.enc e1]:=by rw[zao,zat,he];rfl
  refine yaeV he g1 klt (fC klt) ?_;intro hlen;refine bI (ypc e1 he2) ?_;simp -dsimp -implicitDefEqProofs [he,g1,klt,fC klt,jA,Nat.min_eq_left hk,iW];refine⟨by omega,gB klt hlen,k+1,klt,by omega,?_⟩;apply aB<;>simp[Obj.leO,hs2]
 have ek:k=x.yRV.length:=by omega
 subst ek;refine goT_ ?_;intro _;refine⟨by omega,?_⟩;refine yX2 (λk=>k<=x.yRX.length) (λk=>xC [(1,.box 1 0),(2,.box 2 0),(3,.box 3 0),(5,.c (.i k))] [(1,.box [.c (.i x.Time),.c (.sl 3 (x.yRV.map Reach.enc)),.c (.sl 2 (x.ySl.map Way.enc)),.c (.sl 22 (x.yRX.map yR8.enc)),.c (.sl 1 (x.yR3.map nD)),.c (.sl 2 (x.yR9.map yRT.enc)),.c (.sl 1 (x.ySd.map qC)),.c (.i x.yRZ.Base),.c (.i x.yRZ.ySe),.c (.sl 1 (x.yRZ.yR5.map qC)),.c (.sl 1 (x.yRZ.yR7.map qC)),.c (.sl 5 (x.Book.map ySb.enc)),.c (.sl 4 (x.yR1.map yR2.enc)),.c (.i x.Start),.c (.i x.In),.c (.i x.Out)]),(2,zW),(3,.box [.c (.i x.Time),.own 13 3 x.yRV.length,.own 33 2 x.ySl.length,.own 38 22 k,.c (.sl 1 (x.yR3.map nD)),.c (.sl 2 (x.yR9.map yRT.enc)),.c (.sl 1 (x.ySd.map qC)),.c (.i x.yRZ.Base),.c (.i x.yRZ.ySe),.c (.sl 1 (x.yRZ.yR5.map qC)),.c (.sl 1 (x.yRZ.yR7.map qC)),.c (.sl 5 (x.Book.map ySb.enc)),.c (.sl 4 (x.yR1.map yR2.enc)),.c (.i x.Start),.c (.i x.In),.c (.i x.Out)]),(13,.row 3 (x.yRV.map Reach.enc)),(33,.row 2 (x.ySl.map Way.enc)),(38,.tr 22 0 ((x.yRX.map wE).take k))]) (λk=>x.yRX.length-k) (by apply aB<;>simp[Obj.leO]) ?_
 rintro k hk
 rcases yX1 k x.yRX with⟨klt,e1,he⟩|kge
 .have he2:=s3.2 e1 (zac he);have g1:=(zaa.1 he).2;have hs2:(x.yRX.map wE).take (k+1)=(x.yRX.map wE).take k++[wE e1]:=by rw[zao,zat,he];rfl
  refine yaeV he g1 klt (fC klt) ?_;intro hlen;refine yCa (ywh e1 he2) (by simp) rfl (by simp[fD,wE]) ?_;simp -dsimp -implicitDefEqProofs [he,g1,klt,fC klt,jA,Nat.min_eq_left hk,iW,wE];refine⟨by omega,gB klt hlen,k+1,klt,by omega,?_⟩;apply aB<;>simp[Obj.leO,hs2,wE]
 have ek:k=x.yRX.length:=by omega
 subst ek;refine goT_ ?_;intro _;refine yX2 (λk=>k<=x.yR3.length) (λk=>xC [(1,.box 1 0),(2,.box 2 0),(3,.box 3 0),(6,.c (.i k))] [(1,.box [.c (.i x.Time),.c (.sl 3 (x.yRV.map Reach.enc)),.c (.sl 2 (x.ySl.map Way.enc)),.c (.sl 22 (x.yRX.map yR8.enc)),.c (.sl 1 (x.yR3.map nD)),.c (.sl 2 (x.yR9.map yRT.enc)),.c (.sl 1 (x.ySd.map qC)),.c (.i x.yRZ.Base),.c (.i x.yRZ.ySe),.c (.sl 1 (x.yRZ.yR5.map qC)),.c (.sl 1 (x.yRZ.yR7.map qC)),.c (.sl 5 (x.Book.map ySb.enc)),.c (.sl 4 (x.yR1.map yR2.enc)),.c (.i x.Start),.c (.i x.In),.c (.i x.Out)]),(2,zW),(3,.box [.c (.i x.Time),.own 13 3 x.yRV.length,.own 33 2 x.ySl.length,.own 38 22 x.yRX.length,.own 58 1 k,.c (.sl 2 (x.yR9.map yRT.enc)),.c (.sl 1 (x.ySd.map qC)),.c (.i x.yRZ.Base),.c (.i x.yRZ.ySe),.c (.sl 1 (x.yRZ.yR5.map qC)),.c (.sl 1 (x.yRZ.yR7.map qC)),.c (.sl 5 (x.Book.map ySb.enc)),.c (.sl 4 (x.yR1.map yR2.enc)),.c (.i x.Start),.c (.i x.In),.c (.i x.Out)]),(13,.row 3 (x.yRV.map Reach.enc)),(33,.row 2 (x.ySl.map Way.enc)),(38,.tr 22 0 (x.yRX.map wE)),(58,if k=0 then .row 1 []else .tr 1 0 ((x.yR3.take k).map em))]) (λk=>x.yR3.length-k) (by apply aB<;>simp[Obj.leO]) ?_
 rintro k hk
 rcases yX1 k x.yR3 with⟨klt,l,hl⟩|kge
 .have hls:=s4.2 l (zac hl);have hll:=hls.1;have g1:=(zaa.1 hl).2;have hs2:(x.yR3.map em).take (k+1)=(x.yR3.map em).take k++[em l]:=by rw[zao,zat,hl];rfl
  refine yaeV hl g1 klt (fC klt) ?_;intro hlen;generalize hZ:(if k=0 then Obj.row 1 []else .tr 1 0 ((x.yR3.map em).take k))=Z;have hz1:Z.leO Z:=by rw[<-hZ];split<;>first|rfl|exact⟨rfl,rfl⟩
  have hz2:∀i,Z.kill i=Z:=by intro i;rw[<-hZ];split<;>rfl
  have hz3:∀L,Z.ye9 L=true:=by intro L;rw[<-hZ];split<;>rfl
  simp only[Obj.leO]at hz1;simp only[Obj.ye9]at hz3;refine yX2 (λi=>i<=l.length) (λi=>xC [(1,.box 1 0),(2,.box 2 0),(3,.box 3 0),(6,.c (.i k)),(7,.own 67 3 i),(8,.c (.i i))] [(1,.box [.c (.i x.Time),.c (.sl 3 (x.yRV.map Reach.enc)),.c (.sl 2 (x.ySl.map Way.enc)),.c (.sl 22 (x.yRX.map yR8.enc)),.c (.sl 1 (x.yR3.map nD)),.c (.sl 2 (x.yR9.map yRT.enc)),.c (.sl 1 (x.ySd.map qC)),.c (.i x.yRZ.Base),.c (.i x.yRZ.ySe),.c (.sl 1 (x.yRZ.yR5.map qC)),.c (.sl 1 (x.yRZ.yR7.map qC)),.c (.sl 5 (x.Book.map ySb.enc)),.c (.sl 4 (x.yR1.map yR2.enc)),.c (.i x.Start),.c (.i x.In),.c (.i x.Out)]),(2,zW),(3,.box [.c (.i x.Time),.own 13 3 x.yRV.length,.own 33 2 x.ySl.length,.own 38 22 x.yRX.length,.own 58 1 k,.c (.sl 2 (x.yR9.map yRT.enc)),.c (.sl 1 (x.ySd.map qC)),.c (.i x.yRZ.Base),.c (.i x.yRZ.ySe),.c (.sl 1 (x.yRZ.yR5.map qC)),.c (.sl 1 (x.yRZ.yR7.map qC)),.c (.sl 5 (x.Book.map ySb.enc)),.c (.sl 4 (x.yR1.map yR2.enc)),.c (.i x.Start),.c (.i x.In),.c (.i x.Out)]),(13,.row 3 (x.yRV.map Reach.enc)),(33,.row 2 (x.ySl.map Way.enc)),(38,.tr 22 0 (x.yRX.map wE)),(58,Z),(67,.row 3 ((l.take i).map yR6.enc))]) (λi=>l.length-i) (by apply aB<;>simp[Obj.leO,hz1,hz2,hz3]) ?_
  rintro i hi
  rcases yX1 i l with⟨ilt,m,hm⟩|ige
  .have hms:=hls.2 m (zac hm);have g2:=(zaa.1 hm).2;have hs3:(l.map yR6.enc).take (i+1)=(l.map yR6.enc).take i++[yR6.enc m]:=by rw[zao,zat,hm];rfl
   refine yafK hl hm g1 g2 klt (fC klt) ilt (fC ilt) ?_;intro hlen2;refine dD (yFb m hms) (yafv (Nat.min_eq_left hi) ?_);refine⟨by omega,gB ilt hlen2,i+1,ilt,by omega,?_⟩;apply aB<;>simp[Obj.leO,hs3,hz1,hz2,hz3]
  have ei:i=l.length:=by omega
  subst ei;simp -dsimp -implicitDefEqProofs [hl,g1,klt,fC klt,jA,hz2];intro _;subst hZ;rcases zau k with e0|e0
  .subst e0;have hs3:(x.yR3.map em).take 1=[em l]:=by simpa using hs2
   refine goT_ ?_;refine⟨by unfold inI;omega,1,klt,by omega,?_⟩;apply aB<;>simp[Obj.leO,hs3,em]
  .have hne:(k=0)=False:=by simp;omega
   refine goT_2 hne (Nat.min_eq_left hk) ?_;refine⟨by omega,gB klt hlen,k+1,klt,by omega,?_⟩;apply aB<;>simp[Obj.leO,hs2,em]
 have ek:k=x.yR3.length:=by omega
 subst ek;refine goT_ ?_;intro _;have hif:(if x.yR3=[]then Obj.row 1 []else .tr 1 0 (x.yR3.map em))=(if x.yR3.length=0 then Obj.row 1 []else .tr 1 0 (x.yR3.map em)):=by cases x.yR3<;>simp
 generalize hZ:(if x.yR3.length=0 then Obj.row 1 []else .tr 1 0 (x.yR3.map em))=Z at hif;have hz1:Z.leO Z:=by rw[<-hZ];split<;>first|rfl|exact⟨rfl,rfl⟩
 have hz2:∀i,Z.kill i=Z:=by intro i;rw[<-hZ];split<;>rfl
 have hz3:∀L,Z.ye9 L=true:=by intro L;rw[<-hZ];split<;>rfl
 simp only[Obj.leO]at hz1;simp only[Obj.ye9]at hz3;refine yX2 (λk=>k<=x.yR9.length) (λk=>xC [(1,.box 1 0),(2,.box 2 0),(3,.box 3 0),(9,.c (.i k))] [(1,.box [.c (.i x.Time),.c (.sl 3 (x.yRV.map Reach.enc)),.c (.sl 2 (x.ySl.map Way.enc)),.c (.sl 22 (x.yRX.map yR8.enc)),.c (.sl 1 (x.yR3.map nD)),.c (.sl 2 (x.yR9.map yRT.enc)),.c (.sl 1 (x.ySd.map qC)),.c (.i x.yRZ.Base),.c (.i x.yRZ.ySe),.c (.sl 1 (x.yRZ.yR5.map qC)),.c (.sl 1 (x.yRZ.yR7.map qC)),.c (.sl 5 (x.Book.map ySb.enc)),.c (.sl 4 (x.yR1.map yR2.enc)),.c (.i x.Start),.c (.i x.In),.c (.i x.Out)]),(2,zW),(3,.box [.c (.i x.Time),.own 13 3 x.yRV.length,.own 33 2 x.ySl.length,.own 38 22 x.yRX.length,.own 58 1 x.yR3.length,.own 96 2 k,.c (.sl 1 (x.ySd.map qC)),.c (.i x.yRZ.Base),.c (.i x.yRZ.ySe),.c (.sl 1 (x.yRZ.yR5.map qC)),.c (.sl 1 (x.yRZ.yR7.map qC)),.c (.sl 5 (x.Book.map ySb.enc)),.c (.sl 4 (x.yR1.map yR2.enc)),.c (.i x.Start),.c (.i x.In),.c (.i x.Out)]),(13,.row 3 (x.yRV.map Reach.enc)),(33,.row 2 (x.ySl.map Way.enc)),(38,.tr 22 0 (x.yRX.map wE)),(58,Z),(96,.row 2 ((x.yR9.take k).map yRT.enc))]) (λk=>x.yR9.length-k) (by apply aB<;>simp[Obj.leO,hif,hz1,hz2,hz3]) ?_
 rintro k hk
 rcases yX1 k x.yR9 with⟨klt,e1,he⟩|kge
 .have he2:=s5.2 e1 (zac he);have g1:=(zaa.1 he).2;have hs2:(x.yR9.map yRT.enc).take (k+1)=(x.yR9.map yRT.enc).take k++[yRT.enc e1]:=by rw[zao,zat,he];rfl
  refine yaeV he g1 klt (fC klt) ?_;intro hlen;refine bI (ybP e1 he2) ?_;simp -dsimp -implicitDefEqProofs [he,g1,klt,fC klt,jA,Nat.min_eq_left hk,iW];refine⟨by omega,gB klt hlen,k+1,klt,by omega,?_⟩;apply aB<;>simp[Obj.leO,hif,hz1,hz2,hz3,hs2]
 have ek:k=x.yR9.length:=by omega
 subst ek;refine goT_ ?_;intro _;refine⟨by omega,by omega,by omega,by omega,?_⟩;refine yX2 (λk=>k<=x.yR1.length) (λk=>xC [(1,.box 1 0),(2,.box 2 0),(3,.box 3 0),(10,.c (.i k))] [(1,.box [.c (.i x.Time),.c (.sl 3 (x.yRV.map Reach.enc)),.c (.sl 2 (x.ySl.map Way.enc)),.c (.sl 22 (x.yRX.map yR8.enc)),.c (.sl 1 (x.yR3.map nD)),.c (.sl 2 (x.yR9.map yRT.enc)),.c (.sl 1 (x.ySd.map qC)),.c (.i x.yRZ.Base),.c (.i x.yRZ.ySe),.c (.sl 1 (x.yRZ.yR5.map qC)),.c (.sl 1 (x.yRZ.yR7.map qC)),.c (.sl 5 (x.Book.map ySb.enc)),.c (.sl 4 (x.yR1.map yR2.enc)),.c (.i x.Start),.c (.i x.In),.c (.i x.Out)]),(2,zW),(3,.box [.c (.i x.Time),.own 13 3 x.yRV.length,.own 33 2 x.ySl.length,.own 38 22 x.yRX.length,.own 58 1 x.yR3.length,.own 96 2 x.yR9.length,.own 116 1 x.ySd.length,.c (.i x.yRZ.Base),.c (.i x.yRZ.ySe),.own 121 1 x.yRZ.yR5.length,.own 128 1 x.yRZ.yR7.length,.own 135 5 x.Book.length,.own 140 4 k,.c (.i x.Start),.c (.i x.In),.c (.i x.Out)]),(13,.row 3 (x.yRV.map Reach.enc)),(33,.row 2 (x.ySl.map Way.enc)),(38,.tr 22 0 (x.yRX.map wE)),(58,Z),(96,.row 2 (x.yR9.map yRT.enc)),(116,.row 1 (x.ySd.map qC)),(121,.row 1 (x.yRZ.yR5.map qC)),(128,.row 1 (x.yRZ.yR7.map qC)),(135,.row 5 (x.Book.map ySb.enc)),(140,.row 4 ((x.yR1.take k).map yR2.enc))]) (λk=>x.yR1.length-k) (by apply aB<;>simp[Obj.leO,hif,hz1,hz2,hz3]) ?_
 rintro k hk
 rcases yX1 k x.yR1 with⟨klt,e1,he⟩|kge
 .have he2:=s9.2 e1 (zac he);have g1:=(zaa.1 he).2;have hs2:(x.yR1.map yR2.enc).take (k+1)=(x.yR1.map yR2.enc).take k++[yR2.enc e1]:=by rw[zao,zat,he];rfl
  refine yaeV he g1 klt (fC klt) ?_;intro hlen;refine dD (ybP e1.yRT he2) ?_;simp -dsimp -implicitDefEqProofs [he,g1,klt,fC klt,jA,Nat.min_eq_left hk,iW];refine⟨by omega,gB klt hlen,k+1,klt,by omega,?_⟩;apply aB<;>simp[Obj.leO,hif,hz1,hz2,hz3,hs2]
 have ek:k=x.yR1.length:=by omega
 subst ek;refine goT_ ?_;intro _;subst hZ
 by_cases e:x.yR3.length=0
 .have e2:x.yR3=[]:=zav.1 e;simp[yRW.yIh,e2,jA]
 .simp[yRW.yIh,e,jA]
def yWv(x:yRW)(hl:x.small):nI prg 50 [.agg (x.enc.map .c)] (.agg (x.yXO.map .c)):=
 (yEs x hl).loose (by
  simp only[yRW.yIh,yRW.yXO,Los];exact⟨.same _,.same _,.same _,.flat (eF yK7 x.yRX),.same _,.same _,.same _,.same _,.same _,.same _,.same _,.same _,.same _,.same _,.same _,.same _,trivial⟩)
def yRW.qX(x:yRW)(W M:List (List C)):List C:=[.i x.Time,.ow 3 (x.yRV.map Reach.enc),.sl 2 (x.ySl.map Way.enc),.ot 22 W,.ot 1 M,.sl 2 (x.yR9.map yRT.enc),.sl 1 (x.ySd.map qC),.i x.yRZ.Base,.i x.yRZ.ySe,.sl 1 (x.yRZ.yR5.map qC),.sl 1 (x.yRZ.yR7.map qC),.sl 5 (x.Book.map ySb.enc),.ow 4 (x.yR1.map yR2.enc),.i x.Start,.i x.In,.i x.Out]
def yDS(x:yRW)(hl:x.small):nI prg 50 [.agg (x.enc.map .c)] (.agg ((x.qX (x.yRX.map yR8.enc) (x.yR3.map em)).map .c)):=
 (yEs x hl).loose (by
  simp only[yRW.yIh,yRW.qX,Los];exact⟨.same _,.same _,.give rfl,(Lo.flat (eF yK7 x.yRX)).trans (.tree _ _),.same _,.give rfl,.give rfl,.same _,.same _,.give rfl,.give rfl,.give rfl,.same _,.same _,.same _,.same _,trivial⟩)
def yap{α:Type}(t:α->Nat)(xs:List α):Nat:=xs.length+(xs.map t).sum
def ya2(xs:List Int):Nat:=xs.length
def ylb(xs:List ySa):Nat:=xs.length
def yb0:List (List ySa)->Nat:=yap ylb
def iT(e:yRT):Nat:=yb0 e.Rows
def ymT(xs:List ySc):Nat:=xs.length
def ydF(e:Reach):Nat:=ymT e.ySg+ya2 e.ySk
def ydQ:List Reach->Nat:=yap ydF
def ynl(xs:List ySf):Nat:=xs.length
def gY:List yRT->Nat:=yap iT
def yoM(e:yR0):Nat:=gY e.yRY
def ykp(e:yR4):Nat:=iT e.yRT
def ygU:List yR4->Nat:=yap ykp
def ygK(e:yR8):Nat:=yoM e.yR0+ynl e.Pauses+ygU e.Calls
def yf3:List yR8->Nat:=yap ygK
def hsW(x:yRW):List H:=[.p (.i x.Time),.t 3 (x.yRV.map Reach.iD),.w 2 (x.ySl.map Way.enc),.t 22 (x.yRX.map yR8.iD),.t 1 (x.yR3.map xG),.t 2 (x.yR9.map yRT.iD),.w 1 (x.ySd.map qC),
 .p (.i x.yRZ.Base),.p (.i x.yRZ.ySe),.w 1 (x.yRZ.yR5.map qC),.w 1 (x.yRZ.yR7.map qC),.w 5 (x.Book.map ySb.enc),.t 4 (x.yR1.map yR2.iD),.p (.i x.Start),.p (.i x.In),.p (.i x.Out)]
def wm1(x:yRW)(k:Int):Int:=k+cnt aH x.yRV
def wm2(x:yRW)(k:Int):Int:=wm1 x k+2*x.ySl.length
def wm3(x:yRW)(k:Int):Int:=wm2 x k+cnt iI x.yRX
def wm4(x:yRW)(k:Int):Int:=wm3 x k+cnt kG x.yR3
def wm5(x:yRW)(k:Int):Int:=wm4 x k+cnt jC x.yR9
def wm6(x:yRW)(k:Int):Int:=wm5 x k+x.ySd.length
def wm7(x:yRW)(k:Int):Int:=wm6 x k+nT x.yRZ
def wm8(x:yRW)(k:Int):Int:=wm7 x k+5*x.Book.length
def hsM(x:yRW)(k:Int):List H:=[.p (.i x.Time),.t 3 (dH rY aH k x.yRV),.w 2 (marked yaj 2 [] (wm1 x k) x.ySl.length),.t 22 (dH yax iI (wm2 x k) x.yRX),.t 1 (dH xU kG (wm3 x k) x.yR3),.t 2 (dH pR jC (wm4 x k) x.yR9),.w 1 (marked qC 1 [] (wm5 x k) x.ySd.length),
 .p (.i x.yRZ.Base),.p (.i x.yRZ.ySe),.w 1 (marked qC 1 [] (wm6 x k) x.yRZ.yR5.length),.w 1 (marked qC 1 [] (wm6 x k+x.yRZ.yR5.length) x.yRZ.yR7.length),.w 5 (marked mkEn 5 [] (wm7 x k) x.Book.length),.t 4 (dH iR sF (wm8 x k) x.yR1),.p (.i x.Start),.p (.i x.In),.p (.i x.Out)]
def yZL(rs:List Reach)(ws:List Way)(wk:List yR8)(t:yRZ):yRW:=⟨0,rs,ws,wk,List.replicate rs.length [],[],[],t,[],[],0,0,0⟩
def yZU(rs:List Reach)(ws:List Way)(wk:List yR8)(t:yRZ):yRW:=⟨0,rs,ws,wk,List.replicate rs.length [],[],[],t,[],[],yYN (yZL rs ws wk t),0,0⟩
def yY0(w:yR8):Bool:=decide (w.yR0.yRY.length=0)&&decide (w.Calls.length=0)
def yZG:yRW:=⟨0,[],[],[],[],[],[],⟨0,0,[],[]⟩,[],[],0,0,0⟩
def yYI(rs:List Reach)(ws:List Way)(wk:List yR8)(t:yRZ):yRW×Bool:=
 if wk.all yY0&&rC (yZU rs ws wk t)then(yZU rs ws wk t,true)else(yZG,false)
def yabQ{rs:List Reach}{ws:List Way}{wk:List yR8}{t:yRZ}(h1:ybv rs)(h2:yhE ws)(h3:ycw wk)(h4:t.small):(yZL rs ws wk t).small:=by
 have e:∀{α:Type} {p:α->Prop},aW p []:=λ{_ _}=>⟨by simp,λx hx=>by simp at hx⟩;exact⟨h1,h2,h3,⟨by simpa[yZL]using h1.1,λl hl=>by rw[(zcE.1 hl).2];exact e⟩,e,e,h4,e,e⟩
def yabP{rs:List Reach}{ws:List Way}{wk:List yR8}{t:yRZ}(h1:ybv rs)(h2:yhE ws)(h3:ycw wk)(h4:t.small):(yZU rs ws wk t).small:=yabQ h1 h2 h3 h4
def yaes{rs:List Reach}{ws:List Way}{wk:List yR8}{t:yRZ}(h:wk.all yY0=false):yYI rs ws wk t=(yZG,false):=by simp only[yYI,h,zbs];rfl
def yaef{rs:List Reach}{ws:List Way}{wk:List yR8}{t:yRZ}(h:rC (yZU rs ws wk t)=false):yYI rs ws wk t=(yZG,false):=by simp only[yYI,h,zba];rfl
def yET(es:List (List yR6))(hl:es.length<=1048576):nI prg 158 [.c (.sl 1 (es.map nD))] (.c (.ot 1 (es.map nD))):=by
 refine fF lX ?_;simp -dsimp -implicitDefEqProofs [aN,jA];omega
def yIe(es:List yR6):qB prg 159 [.c (.sl 3 (es.map yR6.enc))] (.clip 3 (es.map yR6.enc)):=by
 refine dB yu ?_;simp -dsimp -implicitDefEqProofs [bQ,jA]
def oG(x:yRW)(k:Nat)(m:yR6):yRW:={x with yR3:=x.yR3.set k (x.yR3.getD k []++[m])}
def ykB(x:yRW)(k:Nat)(m:yR6):List C:=[.i x.Time,.sl 3 (x.yRV.map Reach.enc),.sl 2 (x.ySl.map Way.enc),.sl 22 (x.yRX.map yR8.enc),.ot 1 ((x.yR3.map nD).set k [.ow 3 ((x.yR3.getD k []++[m]).map yR6.enc)]),.sl 2 (x.yR9.map yRT.enc),.sl 1 (x.ySd.map qC),.i x.yRZ.Base,.i x.yRZ.ySe,.sl 1 (x.yRZ.yR5.map qC),.sl 1 (x.yRZ.yR7.map qC),.sl 5 (x.Book.map ySb.enc),.sl 4 (x.yR1.map yR2.enc),.i x.Start,.i x.In,.i x.Out]
def yAh(x:yRW)(k:Nat)(l:List yR6)(m:yR6)(hs:x.yR3.length<=1048576)(hk:x.yR3[k]?=some l)(hll:l.length<=1048576):
 nI prg 58 [.agg (x.enc.map .c),.c (.i k),.agg (m.enc.map .c)] (.agg ((ykB x k m).map .c)):=by
 have kl:=(zaa.1 hk).1;have gl:=(zaa.1 hk).2;refine fF ypS (goQ_ ?_);refine yX5 (yET x.yR3 hs) (goT_4 hk gl kl (fC kl) ?_);refine bI (yIe l) ?_;simp -dsimp -implicitDefEqProofs [jA,hk,gl,kl,fC kl,ykB];refine⟨by omega,?_⟩;have e1:∀y:List C,List.take (l.length+1) (List.map yR6.enc l++[y])=List.map yR6.enc l++[y]:=λy=>List.take_of_length_le (by simp);have e2:∀y:List C,List.take x.yR3.length ((List.map nD x.yR3).set k y)=(List.map nD x.yR3).set k y:=λy=>List.take_of_length_le (by simp);simp[setAt,hk,gl,kl,nD,e1,e2]
def ysh(xs:List (List yR6)):yaq (xs.map nD)=some (xs.map nD):=by
 induction xs with
 |nil=>rfl
 |cons a xs ih=>rw[zbk];simp only[yaq,ih];rfl
def yBn{rows rs:List (List C)}{r s:List C}(h:yaq rows=some rs)(hr:dO r=some s)(k:Nat):yaq (rows.set k r)=some (rs.set k s):=by
 induction rows generalizing rs k with
 |nil=>simp only[yaq,Option.some.injEq]at h;subst h;rfl
 | cons a l ih=>
  simp only[yaq]at h;cases ha:dO a with
  |none=>rw[ha]at h;cases h
  | some x=>
   cases hl:yaq l with
   |none=>rw[ha,hl]at h;cases h
   |some y=>
    rw[ha,hl]at h;simp only[Option.some.injEq]at h;subst h;cases k with
    |zero=>simp only[zbD,yaq,hr,hl]
    |succ k=>simp only[zcA,yaq,ha,ih hl k]
def yv5(x:yRW)(k:Nat)(m:yR6):yaq ((x.yR3.map nD).set k [.ow 3 ((x.yR3.getD k []++[m]).map yR6.enc)])=some ((oG x k m).yR3.map nD):=by
 rw[yBn (ysh x.yR3) (s:=nD (x.yR3.getD k []++[m])) rfl k];simp[oG,zaP]
def yZr(x:yRW)(t:yRT):Nat:=if t.Up then x.yRV.length-1 else 0
def entP(x:yRW)(t:yRT):Int:=if t.Up then(x.ySl.getD (x.yRV.length-1) ⟨0,0⟩).Long else 0
def yYK(x:yRW)(t:yRT):yRW:={oG x (yZr x t) ⟨t,entP x t⟩with ySd:=x.ySd++lG t}
def yZE(x:yRW)(i:Int):Bool:=!decide (i∈x.ySd)
def yYL(x:yRW)(t:yRT):yRW×Bool:=if rC x&&oC t&&(lG t).all (yZE x)&&rC (yYK x t)then(yYK x t,true)else(x,false)
structure yacx(x:yRW)(t:yRT):Prop where
 two:2<=x.yRV.length
 ways:x.ySl.length=x.yRV.length
 mvs:x.yR3.length=x.yRV.length
 few:∀(k:Nat) (l:List yR6),x.yR3[k]?=some l->l.length<=24
 ent:x.ySd.length<=2000
 ids:(lG t).length<=6
 kl:yZr x t<x.yR3.length
def yZQ{x:yRW}{t:yRT}(h:rC x=true)(ht:oC t=true):yacx x t:=by
 have hh:=h;simp only[rC,zad]at h;obtain⟨⟨⟨⟨⟨⟨⟨h1,h2⟩,h3⟩,h4⟩,h5⟩,h6⟩,h7⟩,h8⟩:=h;simp only[sJ,zad,decide_eq_true_eq]at h2;obtain⟨⟨⟨⟨⟨⟨p1,p2⟩,p3⟩,p4⟩,p5⟩,p6⟩,p7⟩:=h2;refine⟨p2,p3,p4,λk l hk=>?_,?_,?_,?_⟩
 .have kl:=(zaa.1 hk).1;have gl:=(zaa.1 hk).2;have:=zae.1 p6 (x.ySl[k]'(by omega),l) (zcf.2 ⟨k,by simp;omega,by simp[gl]⟩);simp only[jS,zad,decide_eq_true_eq]at this;exact this.1.2
 .simp only[pO,zad,decide_eq_true_eq]at h3;omega
 .simp only[lG,ht,if_true];simp only[oC,zad,inRange,decide_eq_true_eq]at ht;simp;omega
 .unfold yZr;split<;>omega
def yZO{x:yRW}{t:yRT}(F:yacx x t)(h:x.small)(ht:t.small):(yYK x t).small:=by
 obtain⟨s1,s2,s3,s4,s5,s6,s7,s8,s9⟩:=h;have kl:=F.kl;obtain⟨l,hl⟩:∃l,x.yR3[yZr x t]?=some l:=⟨_,zab kl⟩;have hll:=F.few _ _ hl;refine⟨s1,s2,s3,⟨by simp[yYK,oG];exact s4.1,λy hy=>?_⟩,s5,⟨by simp[yYK];have:=F.ent;have:=F.ids;omega,λy hy=>trivial⟩,s7,s8,s9⟩;have hlm:=zac hl;rcases zaS hy with e|e
 .exact s4.2 y e
 .subst e;rw[zaf,hl];refine⟨by simp;omega,λm hm=>?_⟩;rcases zaj.1 hm with e|e
  .exact(s4.2 l hlm).2 m e
  .rw[zan.1 e];exact ht
def yZB(x:yRW)(t:yRT):(yYK x t).enc=[.i x.Time,.sl 3 (x.yRV.map Reach.enc),.sl 2 (x.ySl.map Way.enc),.sl 22 (x.yRX.map yR8.enc),.sl 1 ((oG x (yZr x t) ⟨t,entP x t⟩).yR3.map nD),.sl 2 (x.yR9.map yRT.enc),.sl 1 ((x.ySd++lG t).map qC),.i x.yRZ.Base,.i x.yRZ.ySe,.sl 1 (x.yRZ.yR5.map qC),.sl 1 (x.yRZ.yR7.map qC),.sl 5 (x.Book.map ySb.enc),.sl 4 (x.yR1.map yR2.enc),.i x.Start,.i x.In,.i x.Out]:=rfl
def yaab(a b:List Int):List.take (a.length+b.length) (a.map qC++b.map qC)=a.map qC++b.map qC:=List.take_of_length_le (by simp)
def vAt(l:List Int)(k:Nat):Int:=l[k]?.getD 0
def yfM{l:List Int}{k:Nat}{x:Int}(h:l[k]?=some x):vAt l k=x:=by simp[vAt,h]
def kL(l:List Int):Nat->Nat
 |0=>0
 |k+1=>if vAt l (kL l k)<vAt l k then k else kL l k
def yAD{l:List Int}:kL l 0=0:=rfl
def yaV{l:List Int}{k:Nat}:kL l (k+1)=if vAt l (kL l k)<vAt l k then k else kL l k:=rfl
def ygL{l:List Int}(h:0<l.length):∀{k:Nat},k<=l.length->kL l k<l.length
 |0,_=>h
 |k+1,hk=>by
  rw[yaV];split
  .omega
  .exact ygL h (by omega)
def ypA{l:List Int}:∀{k j:Nat},j<k->vAt l j<=vAt l (kL l k)
 | k+1,j,hj=>by
  rw[yaV];rcases zaq j k with h|h
  .have:=ypA (l:=l) h;split<;>omega
  .have:j=k:=by omega
   subst this;split<;>omega
def yo6{l:List Int}:∀{k j:Nat},j<kL l k->vAt l j<vAt l (kL l k)
 |0,j,h=>by simp[kL]at h
 | k+1,j,h=>by
  rw[yaV]at h|-;split at h
  .rename_i h2;rw[if_pos h2];have:=ypA (l:=l) (show j<k from h);omega
  .rename_i h2;rw[if_neg h2];exact yo6 h
def yEh{l:List Int}{n a:Nat}(h:a<n)(h1:∀x,x<n->vAt l x<=vAt l a)(h2:∀x,x<a->vAt l x<vAt l a)(hn:n<=l.length):kL l n=a:=by
 have g1:=ypA (l:=l) h;have g2:kL l n<l.length:=ygL (by omega) hn
 have g3:kL l n<n:=by
  have:∀k:Nat,0<k->kL l k<k:=by
   intro k
   induction k with
   |zero=>intro h;omega
   | succ k ih=>
    intro _;rw[yaV];split
    .omega
    .rcases zau k with e|e
     .subst e;simp[kL]
     .have:=ih e;omega
  exact this n (by omega)
 have g4:=h1 _ g3;rcases zcs a (kL l n)with e|e|e
 .have:=yo6 e;omega
 .exact e.symm
 .have:=h2 _ e;omega
def better(R:List Int)(x y:Nat):Prop:=vAt R y<vAt R x\/(vAt R x=vAt R y/\x<y)
def yfN(R:List Int)(i:Nat)(x:Nat):Bool:=decide (vAt R i<=vAt R x)
def yEp(R:List Int)(i:Nat)(P:List Nat):List Nat:=P.takeWhile (yfN R i)++i::P.dropWhile (yfN R i)
def yA(R:List Int):Nat->List Nat
 |0=>[]
 |i+1=>yEp R i (yA R i)
def yzu{p:Nat->Bool}:∀{l1 l2:List Nat},(∀x∈l1,p x=true)->(∀x∈l2,p x=false)->(l1++l2).takeWhile p=l1/\(l1++l2).dropWhile p=l2
 |[],[],_,_=>⟨rfl,rfl⟩
 |[],x::l,_,h=>by
  have:=h x (by simp);simp[zbo,zcn,this]
 |x::l,l2,h1,h2=>by
  have hx:=h1 x (by simp);obtain⟨e1,e2⟩:=yzu (p:=p) (l1:=l) (l2:=l2) (λy hy=>h1 y (by simp[hy])) h2;simp[zbo,zcn,hx,e1,e2]
def yjw{p:Nat->Bool}:∀{l r:List Nat} {y:Nat},l.dropWhile p=y::r->p y=false
 |[],r,y,h=>by simp at h
 | x::l,r,y,h=>by
  rw[zcn]at h;split at h
  .exact yjw h
  .rename_i hx;cases h;simpa using hx
def yDw{R:List Int}{i:Nat}{P l1 l2:List Nat}(hP:P.Pairwise (better R))(e:l1++l2=P)(h2:∀x∈l2,vAt R x<vAt R i)(h1:∀l y,l1=l++[y]->vAt R i<=vAt R y):yEp R i P=l1++i::l2:=by
 subst e
 have hall:∀x∈l1,yfN R i x=true:=by
  rcases zbR l1 with e|⟨l,y,e⟩
  .subst e;simp
  .have hy:=h1 l y (by simpa using e);subst e;intro x hx;simp only[yfN,decide_eq_true_eq];rw[zbS]at hx hP;rcases zaj.1 hx with hx|hx
   .have:=(zaK.1 (zaK.1 hP).1).2.2 x hx y (by simp);unfold better at this;omega
   .rw[zan]at hx;subst hx;exact hy
 obtain⟨e1,e2⟩:=yzu (p:=yfN R i) hall (λx hx=>by have:=h2 x hx;simp only[yfN,decide_eq_false_iff_not];omega);unfold yEp;rw[e1,e2]
structure ySI(R:List Int)(i:Nat)(o:List Nat):Prop where
 len:o.length=i
 lt:∀x∈o,x<i
 pw:o.Pairwise (better R)
 all:∀x,x<i->x∈o
def ycJ(R:List Int):∀i:Nat,ySI R i (yA R i)
 |0=>⟨rfl,by simp[yA],by simp[yA],λx h=>by omega⟩
 | i +1=>by
  have f:=ycJ R i
  show ySI R (i+1) (yEp R i (yA R i))
  generalize yA R i=P at f;have e:=zch (p:=yfN R i) (l:=P)
  have h1:∀x∈P.takeWhile (yfN R i),vAt R i<=vAt R x:=λx hx=>by
   have:yfN R i x=true:=by
    have:=zdP (p:=yfN R i) (l:=P);exact zae.1 this x hx
   simpa[yfN]using this
  have h2:∀x∈P.dropWhile (yfN R i),vAt R x<vAt R i:=by
   intro x hx;have hpw:(P.dropWhile (yfN R i)).Pairwise (better R):=by have:=f.pw;rw[<-e]at this;exact(zaK.1 this).2.1
   have hh:∀y l,P.dropWhile (yfN R i)=y::l->vAt R y<vAt R i:=by
    intro y l hy;have:=yjw hy;simpa[yfN]using this
   cases hd:P.dropWhile (yfN R i)with
   |nil=>rw[hd]at hx;cases hx
   | cons y l=>
    have hy:=hh y l hd;rw[hd]at hx hpw;rcases zaC.1 hx with e|e
    .subst e;exact hy
    .have:=(zbg.1 hpw).1 x e;unfold better at this;omega
  have hlen:(P.takeWhile (yfN R i)).length+(P.dropWhile (yfN R i)).length=i:=by rw[<-zah,e,f.len]
  have hmem:∀x,x∈P↔x∈P.takeWhile (yfN R i)\/x∈P.dropWhile (yfN R i):=λx=>by rw[<-zaj,e]
  refine⟨by simp only[yEp,zah,zaA];omega,λx hx=>?_,?_,λx hx=>?_⟩
  .rcases zaj.1 hx with hx|hx
   .have:=f.lt x ((hmem x).2 (.inl hx));omega
   .rcases zaC.1 hx with hx|hx
    .omega
    .have:=f.lt x ((hmem x).2 (.inr hx));omega
  .have hpw:=f.pw;rw[<-e]at hpw;obtain⟨p1,p2,p3⟩:=zaK.1 hpw;refine zaK.2 ⟨p1,zbg.2 ⟨λy hy=>.inl (h2 y hy),p2⟩,λx hx y hy=>?_⟩;rcases zaC.1 hy with hy|hy
   .subst hy;have a1:=h1 x hx;have a2:=f.lt x ((hmem x).2 (.inl hx));unfold better;omega
   .exact p3 x hx y hy
  .rcases zaq x i with h|h
   .rcases(hmem x).1 (f.all x h)with h|h
    .exact zbu _ h
    .exact zaN _ (zcW _ h)
   .have:x=i:=by omega
    subst this;exact zaN _ (zde ..)
def yek(out:List Int)(o:List Nat)(j:Nat):List Int:=(o.take j).foldl (λs x=>s.set x (vAt s x+1)) out
def yaf(R:List Int)(o:List Nat)(j:Nat):List Int:=(o.take j).foldl (λs x=>s.set x (-1)) R
def ywY{out:List Int}{o:List Nat}:yek out o 0=out:=rfl
def yqB{out:List Int}{o:List Nat}:yaf out o 0=out:=rfl
def yk3{out:List Int}{o:List Nat}{j x:Nat}(h:o[j]?=some x):yek out o (j+1)=(yek out o j).set x (vAt (yek out o j) x+1):=by
 unfold yek;rw[zao,h,zcj];rfl
def ykG{out:List Int}{o:List Nat}{j x:Nat}(h:o[j]?=some x):yaf out o (j+1)=(yaf out o j).set x (-1):=by
 unfold yaf;rw[zao,h,zcj];rfl
def yoC{out:List Int}{o:List Nat}:∀j:Nat,(yek out o j).length=out.length
 |0=>rfl
 | j+1=>by
  cases h:o[j]? with
  |none=>
   have hl:o.length<=j:=by simpa using h
   have e:yek out o (j+1)=yek out o j:=by unfold yek;rw[List.take_of_length_le (by omega),List.take_of_length_le hl]
   rw[e,yoC j]
  |some x=>rw[yk3 h,zbF,yoC j]
def yd0{out:List Int}{o:List Nat}:∀j:Nat,(yaf out o j).length=out.length
 |0=>rfl
 | j+1=>by
  cases h:o[j]? with
  |none=>
   have hl:o.length<=j:=by simpa using h
   have e:yaf out o (j+1)=yaf out o j:=by unfold yaf;rw[List.take_of_length_le (by omega),List.take_of_length_le hl]
   rw[e,yd0 j]
  |some x=>rw[ykG h,zbF,yd0 j]
def yH0{l:List Int}{i j:Nat}{v:Int}(h:i<l.length):vAt (l.set i v) j=if i=j then v else vAt l j:=by
 unfold vAt;rw[zaR]
 by_cases e:i=j
 .simp[e,e▸h]
 .simp[e]
def yp3{R:List Int}{o:List Nat}(ho:∀x∈o,x<R.length):∀(j y:Nat),vAt (yaf R o j) y=if y∈o.take j then -1 else vAt R y
 |0,y=>by simp[yqB]
 | j+1,y=>by
  cases h:o[j]? with
  |none=>
   have hl:o.length<=j:=by simpa using h
   have e:yaf R o (j+1)=yaf R o j:=by unfold yaf;rw[List.take_of_length_le (by omega),List.take_of_length_le hl]
   rw[e,yp3 ho j y,List.take_of_length_le hl,List.take_of_length_le (by omega)]
  | some x=>
   rw[ykG h,yH0 (by rw[yd0];exact ho x (zac h)),yp3 ho j y,zao,h]
   by_cases e:x=y
   .simp[e]
   .have:y≠x:=λh=>e h.symm;simp[e,this]
def yH9{R:List Int}(hR:∀x,0<=vAt R x){j a:Nat}(h:(yA R R.length)[j]?=some a):kL (yaf R (yA R R.length) j) (yaf R (yA R R.length) j).length=a:=by
 have f:=ycJ R R.length;generalize yA R R.length=o at *;have hj:=(zaa.1 h).1;have ha:=f.lt a (zac h);have irr:∀x,¬better R x x:=λx h=>by unfold better at h;omega
 have hsplit:o=o.take j++a::o.drop (j+1):=by
  rw[<-(zaa.1 h).2,List.getElem_cons_drop,zaw]
 have hpw:=f.pw;rw[hsplit]at hpw;obtain⟨p1,p2,p3⟩:=zaK.1 hpw;have hnot:a∉o.take j:=λhm=>irr a (p3 a hm a (by simp));have hat:=yp3 (R:=R) f.lt j;have hva:vAt (yaf R o j) a=vAt R a:=by rw[hat,if_neg hnot]
 have key:∀x,x<R.length->x∉o.take j->x=a\/better R a x:=by
  intro x hx hn;have:=f.all x hx;rw[hsplit]at this;rcases zaj.1 this with h1|h1
  .exact absurd h1 hn
  .rcases zaC.1 h1 with h1|h1
   .exact .inl h1
   .exact .inr ((zbg.1 p2).1 x h1)
 rw[yd0];refine yEh ha (λx hx=>?_) (λx hx=>?_) (by rw[yd0];exact Nat.le_refl _)
 .rw[hva,hat];split
  .have:=hR a;omega
  .rename_i hn;rcases key x hx hn with e|e
   .subst e;exact zbC _
   .unfold better at e;omega
 .rw[hva,hat];split
  .have:=hR a;omega
  .rename_i hn;rcases key x (by omega) hn with e|e
   .omega
   .unfold better at e;omega
def yku:Nat->List Int->List Int->List Int
 |0,out,_=>out
 |n+1,out,rest=>yku n (out.set (kL rest rest.length) (vAt out (kL rest rest.length)+1)) (rest.set (kL rest rest.length) (-1))
def yxA{R Q:List Int}(hR:∀x,0<=vAt R x):∀(m j:Nat),j+m<=R.length->yku m (yek Q (yA R R.length) j) (yaf R (yA R R.length) j)=yek Q (yA R R.length) (j+m)
 |0,j,_=>rfl
 |m+1,j,h=>by
  have hj:j<(yA R R.length).length:=by rw[(ycJ R R.length).len];omega
  obtain⟨a,ha⟩:∃a,(yA R R.length)[j]?=some a:=⟨_,zab hj⟩;have hp:=yH9 hR ha;unfold yku;rw[hp,<-yk3 ha,<-ykG ha,yxA hR m (j+1) (by omega)]
  congr 1;omega
def quota(t s w:Int):Int:=(t*w).tdiv s
def yct(t s w:Int):Int:=(t*w).tmod s
def lS(t:Int)(ws:List Int):Bool:=inRange t 0 1000000000&&decide (1<=ws.length)&&decide (ws.length<=12)&&ws.all (λw=>inRange w 0 1000000)&&decide (ws.sum≠0)
def lV(t:Int)(ws:List Int):Int:=t-(ws.map (quota t ws.sum)).sum
def xK(t:Int)(ws:List Int):List Int:=if lS t ws then yku (lV t ws).toNat (ws.map (quota t ws.sum)) (ws.map (yct t ws.sum))else[]
structure ySE(t:Int)(ws:List Int):Prop where
 tot:0<=t/\t<=1000000000
 len:1<=ws.length/\ws.length<=12
 rng:∀w∈ws,0<=w/\w<=1000000
 sum:1<=ws.sum/\ws.sum<=12000000
def sum_bnd{l:List Int}{m:Int}(h:∀x∈l,0<=x/\x<=m):0<=l.sum/\l.sum<=m*l.length:=by
 induction l with
 |nil=>simp
 |cons a l ih=>
  have h1:=ih λx hx=>h x (by simp[hx]);have h2:=h a (by simp);simp only[zcm,zaA,zdD,Int.natCast_one,zdr,zeb];omega
def yhO{t:Int}{ws:List Int}(h:lS t ws=true):ySE t ws:=by
 simp only[lS,zad,decide_eq_true_eq,zae]at h;obtain⟨⟨⟨⟨h1,h2⟩,h3⟩,h4⟩,h5⟩:=h;have hr:∀w∈ws,0<=w/\w<=1000000:=λw hw=>aC.1 (h4 w hw);have hs:=sum_bnd hr;exact⟨aC.1 h1,⟨h2,h3⟩,hr,by omega⟩
def yR{t s w:Int}(ht:0<=t/\t<=1000000000)(hs:1<=s)(hw:0<=w/\w<=1000000):0<=quota t s w/\quota t s w<=1000000000000000/\0<=yct t s w/\yct t s w<s/\s*quota t s w+yct t s w=t*w/\0<=t*w/\t*w<=1000000000000000:=by
 have h0:0<=t*w:=zcw ht.1 hw.1;have h1:t*w<=1000000000*1000000:=zcO ht.2 hw.2 hw.1 (by omega);unfold quota yct;rw[zaz h0,zbK h0];have a1:=zdE (t*w) (show s≠0 by omega);have a2:=zdf (t*w) (show 0<s by omega);have a3:=Int.mul_ediv_add_emod (t*w) s;have a4:0<=t*w/s:=zcr h0 (by omega);have a5:t*w/s<=t*w:=zco _ h0;exact⟨a4,by omega,a1,a2,a3,h0,by omega⟩
def ytz{t s:Int}(ht:0<=t/\t<=1000000000)(hs:1<=s):∀{ws:List Int},(∀w∈ws,0<=w/\w<=1000000)->s*(ws.map (quota t s)).sum+(ws.map (yct t s)).sum=t*ws.sum
 |[],_=>by simp
 |w::ws,h=>by
  have ih:=ytz ht hs (ws:=ws) λx hx=>h x (by simp[hx]);have q:=(yR (t:=t) (s:=s) ht hs (h w (by simp))).2.2.2.2.1;simp only[zbk,zcm,zdr];omega
def ysB{t:Int}{ws:List Int}(h:ySE t ws):0<=lV t ws/\lV t ws<ws.length:=by
 have hs:=ytz h.tot h.sum.1 h.rng
 have hr:=sum_bnd (l:=ws.map (yct t ws.sum)) (m:=ws.sum-1) (λx hx=>by
  obtain⟨w,hw,rfl⟩:=zaM.1 hx;have:=yR h.tot h.sum.1 (h.rng w hw);omega)
 rw[zam]at hr
 have e:ws.sum*lV t ws=(ws.map (yct t ws.sum)).sum:=by
  unfold lV;rw[Int.mul_sub,Int.mul_comm ws.sum t];omega
 have hp:=h.sum.1;have hl:=h.len.1;constructor
 .rcases zcq (lV t ws) 0 with h1|h1
  .have:=Int.mul_neg_of_pos_of_neg (show 0<ws.sum by omega) h1;omega
  .exact h1
 .rcases zcq (lV t ws) ws.length with h1|h1
  .exact h1
  .have h2:=Int.mul_le_mul_of_nonneg_left h1 (show 0<=ws.sum by omega);have h3:(ws.sum-1)*(ws.length:Int)<ws.sum*(ws.length:Int):=Int.mul_lt_mul_of_pos_right (by omega) (by omega);omega
def yqN{t:Int}{ws:List Int}(h:lS t ws=true):xK t ws=yek (ws.map (quota t ws.sum)) (yA (ws.map (yct t ws.sum)) ws.length) (lV t ws).toNat:=by
 have f:=yhO h;have hl:=ysB f
 have hR:∀x,0<=vAt (ws.map (yct t ws.sum)) x:=by
  intro x;unfold vAt;cases hx:(ws.map (yct t ws.sum))[x]? with
  |none=>simp
  |some r=>
   rw[zat,zai]at hx;obtain⟨w,hw,rfl⟩:=hx;exact(yR f.tot f.sum.1 (f.rng w (zac hw))).2.2.1
 have key:=yxA (Q:=ws.map (quota t ws.sum)) hR (lV t ws).toNat 0 (by rw[zam];omega);rw[ywY,yqB,zam,zbv]at key;rw[xK,if_pos h,key]
def dL(x:Nat):List C:=[.i x]
def yCM(t s:Int)(ws:List Int)(ht:0<=t/\t<=1000000000)(hs:1<=s)(hs2:s<=12000000)(hw:∀w∈ws,0<=w/\w<=1000000)(x y:Nat)(hx:x<ws.length)(hy:y<ws.length):
 qB prg 258 [.c (.i x),.c (.i y),.elt [.i t],.elt [.sl 1 (ws.map qC)],.elt [.i s]] (.c (.i (vAt (ws.map (yct t s)) y-vAt (ws.map (yct t s)) x))):=by
 obtain⟨wx,hwx⟩:∃e,ws[x]?=some e:=⟨_,zab hx⟩;obtain⟨wy,hwy⟩:∃e,ws[y]?=some e:=⟨_,zab hy⟩;have g1:=(zaa.1 hwx).2;have g2:=(zaa.1 hwy).2;have q1:=yR ht hs (hw wx (zac hwx));have q2:=yR ht hs (hw wy (zac hwy));have e1:vAt (ws.map (yct t s)) x=yct t s wx:=yfM (by simp[hwx]);have e2:vAt (ws.map (yct t s)) y=yct t s wy:=yfM (by simp[hwy]);rw[e1,e2];unfold yct at *;refine dB yoc ?_;simp -dsimp -implicitDefEqProofs [yeH,hwx,hwy,g1,g2,hx,hy];refine⟨by unfold inI;omega,by omega,by unfold inI;omega,by unfold inI;omega,by omega,by unfold inI;omega,by unfold inI;omega⟩
def ynI(R:List Int)(i n:Nat):List Nat:=yA R i++List.range' i (n-i)
def ye3(l1 l2:List Nat)(i n:Nat):List Nat:=(l1++i::l2)++List.range' (i+1) (n-(i+1))
def yEo{R:List Int}{n:Nat}(h:1<=n):ynI R 1 n=List.range n:=by
 have:yA R 1=[0]:=rfl;unfold ynI;rw[this,zdG,show n=(n-1)+1 by omega,zdw];simp
def yEP{R:List Int}{n:Nat}:ynI R n n=yA R n:=by simp[ynI]
def yGu{R:List Int}{i n:Nat}(h:i<n):ynI R i n=ye3 (yA R i) [] i n:=by
 unfold ynI ye3;rw[show n-i=(n-(i+1))+1 by omega,zdw];simp
def yxl{R:List Int}{i n:Nat}{l1 l2:List Nat}(h:yA R (i+1)=l1++i::l2):ye3 l1 l2 i n=ynI R (i+1) n:=by unfold ynI ye3;rw[h]
def yD3{i n:Nat}{l1 l2:List Nat}(h:l1.length+l2.length=i)(h2:i<n):(ye3 l1 l2 i n).length=n:=by simp[ye3];omega
def yD9{i n y:Nat}{l l2:List Nat}:(ye3 (l++[y]) l2 i n)[l.length+1]?=some i/\(ye3 (l++[y]) l2 i n)[l.length]?=some y/\
 ((ye3 (l++[y]) l2 i n).set (l.length+1) y).set l.length i=ye3 l (y::l2) i n:=by
 unfold ye3;simp only[zaW,zcU,zcD];refine⟨by simp[zcg],by simp[zcg],?_⟩;simp[zcB]
def yEW(R:List Int)(n:Nat)(hn:1≤n)(hn2:n≤1000)(f:Nat)(a b c:List C)(hf:∃fn,Tryz.prog.funcs[f]?=some fn∧fn.body.isSome=true∧(fn.name != "runtime.NumGoroutine")=true)
 (hc:∀x y:Nat,x<n->y<n->qB prg f [.c (.i x),.c (.i y),.elt a,.elt b,.elt c] (.c (.i (vAt R y-vAt R x)))):
 InF prg 377 (.c (cw 1 ((List.range n).map dL))) (.c (cw 1 ((yA R n).map dL))) [.c (.i 0),.c (.i n),.fn f [.elt a,.elt b,.elt c]] (.tup []):=by
 have hon:=ycJ R n;rw[kH (by simp;omega),kH (by rw[zam,hon.len];omega)];refine aK dM (by simp) (by simp) rfl λhwf=>?_;refine goQ_ ?_;refine⟨by unfold inI;omega,?_⟩;refine qA (ι:=Nat) (λi=>1<=i/\i<=n) (λi=>xC [(0,.own 0 1 n),(1,.c (.i 0)),(2,.c (.i n)),(3,.fn f [.elt a,.elt b,.elt c]),(8,.c (.i i)),(1000000,.own 0 1 n)] [(0,.row 1 ((ynI R i n).map dL))]) (λi=>n-i) 1 ⟨Nat.le_refl _,hn⟩ (by apply aB<;>simp[yEo hn]) ?_
 rintro i ⟨hi1,hi⟩
 have fi:=ycJ R i;rcases zaq i n with hlt|hge
 .refine yafw (fC hlt) ?_;rw[yGu hlt];have hsuc:yA R (i+1)=yEp R i (yA R i):=rfl;generalize yA R i=P at *;refine qA (ι:=List Nat×List Nat) (λp=>p.1++p.2=P/\∀x∈p.2,vAt R x<vAt R i) (λp=>xC [(0,.own 0 1 n),(1,.c (.i 0)),(2,.c (.i n)),(3,.fn f [.elt a,.elt b,.elt c]),(8,.c (.i i)),(9,.c (.i p.1.length)),(1000000,.own 0 1 n)] [(0,.row 1 ((ye3 p.1 p.2 i n).map dL))]) (λp=>p.1.length) (P,[]) ⟨by simp,by simp⟩ (by apply aB<;>simp[fi.len]) ?_
  rintro⟨l1,l2⟩ ⟨he,h2⟩
  simp only at he h2;rcases zbR l1 with e|⟨l,y,e⟩
  .subst e;have hins:=yDw (R:=R) (i:=i) fi.pw he h2 (λl y h=>by simp at h);rw[<-hsuc]at hins;have hend:=yxl (n:=n) hins;refine goQ_ ?_;refine⟨by unfold inI;omega,i+1,⟨by omega,by omega⟩,by omega,?_⟩;apply aB<;>simp[hend]
  .rw[zbS]at e;subst e;have hlen:=yD3 (n:=n) (l1:=l++[y]) (l2:=l2) (by rw[<-zah,he,fi.len]) hlt;have hyP:y<i:=fi.lt y (by rw[<-he];simp);obtain⟨w1,w2,w3⟩:=yD9 (i:=i) (n:=n) (y:=y) (l:=l) (l2:=l2);have hend:=λh=>yxl (n:=n) (R:=R) (l1:=l++[y]) (l2:=l2) (i:=i) (by rw[hsuc];exact yDw (R:=R) (i:=i) fi.pw he h2 h);have hll:l.length+1<n:=by rw[<-hlen];exact(zaa.1 w1).1
   have e0:(((l++[y]).length:Nat):Int)=((l.length+1:Nat):Int):=by simp
   rw[e0];generalize ye3 (l++[y]) l2 i n=M at *;obtain⟨m,hm⟩:∃m,m=l.length:=⟨_,rfl⟩;obtain⟨j,hj⟩:∃j,j=l.length+1:=⟨_,rfl⟩;rw[<-hj]at w1 w3 hll|-;rw[<-hm]at w2 w3;have v1:=(zaa.1 w1).2;have v2:=(zaa.1 w2).2;have k1:j<M.length:=(zaa.1 w1).1;have k2:m<M.length:=(zaa.1 w2).1;have ej:((j:Int)-1)=(m:Int):=by omega
   have j0:0<j:=by omega
   have mn:m<n:=by omega
   have hf':∃fn,Tryz.prog.funcs[f]?=some fn∧fn.body.isSome=true∧¬fn.name= "runtime.NumGoroutine":=by simpa using hf
   simp -dsimp -implicitDefEqProofs [j0,ej,w1,w2,v1,v2,k1,k2,dL,hll,mn];refine⟨by unfold inI;omega,hf',?_⟩;refine lC (hc i y (by omega) (by omega)) ?_;have hr2:∀h,((M.map dL).set j [C.i y])[m]'h=[C.i y]:=by intro h;rw[zbM (by omega)];simp[v2,dL]
   have hs3:((M.map dL).set j [C.i y]).set m [C.i i]=(ye3 l (y::l2) i n).map dL:=by rw[<-w3,zaP,zaP];rfl
   simp -dsimp -implicitDefEqProofs [ej,w1,w2,v1,v2,k1,k2,hll,mn,hr2,hs3];refine⟨λhcm=>?_,λhcm=>?_⟩
   .refine⟨by unfold inI;omega,l,y::l2,⟨by rw[<-he];simp,λx hx=>?_⟩,by omega,?_⟩
    .rcases zaC.1 hx with hx|hx
     .subst hx;omega
     .exact h2 x hx
    .apply aB<;>simp[dL,w1,w2,v1,v2,<-hm,hr2,hs3]
   .have hM:=hend λl' y' h=>by
     have:=(zdz h rfl).2;simp at this;subst this;omega
    refine⟨by unfold inI;omega,i+1,⟨by omega,by omega⟩,by omega,?_⟩;apply aB<;>simp[hM]
 .have:i=n:=by omega
  subst this;refine goQ_ ?_;rw[yEP];refine⟨by rw[List.take_of_length_le (by rw[zam,fi.len];exact Nat.le_refl _)],?_⟩;simp[ybG]
def yG2(R:List Int)(n:Nat)(hn:1≤n)(hn2:n≤19)(f:Nat)(a b c:List C)(hf:∃fn,Tryz.prog.funcs[f]?=some fn∧fn.body.isSome=true∧(fn.name != "runtime.NumGoroutine")=true)
 (hc:∀x y:Nat,x<n->y<n->qB prg f [.c (.i x),.c (.i y),.elt a,.elt b,.elt c] (.c (.i (vAt R y-vAt R x)))):
 InF prg 350 (.c (cw 1 ((List.range n).map dL))) (.c (cw 1 ((yA R n).map dL))) [.c (.i n),.fn f [.elt a,.elt b,.elt c]] (.tup []):=by
 have hon:=ycJ R n;have hi:=yEW R n hn (by omega) f a b c hf hc;have hcw:cw 1 ((yA R n).map dL)=.ow 1 ((yA R n).map dL):=kH (by rw[zam,hon.len];omega);have hcw0:cw 1 ((List.range n).map dL)=.ow 1 ((List.range n).map dL):=kH (by simp;omega);have n1:((20:Int)<=(n:Int))=False:=by simp;omega
 have n2:((20:Int)<(n:Int))=False:=by simp;omega
 have n3:(20<=n)=False:=by simp;omega
 have n4:(20<n)=False:=by simp;omega
 rw[hcw,hcw0];refine aK nS (by simp) (by simp) rfl λhwf=>?_;refine goQ_ ?_;refine qA (ι:=Unit) (λ_=>True) (λ_=>xC [(0,.own 0 1 n),(1,.c (.i n)),(2,.fn f [.elt a,.elt b,.elt c]),(6,.c (.i 20)),(7,.c (.i 0)),(8,.c (.i 20)),(1000000,.own 0 1 n)] [(0,.row 1 ((List.range n).map dL))]) (λ_=>0) () trivial (by apply aB<;>simp) ?_
 rintro _ _
 refine yaed n1 n3 ?_;refine tH (up:=some (0,.row 1 ((yA R n).map dL))) hi (by simp) rfl rfl (qH (rows:=(List.range n).map dL) (by simp) rfl rfl (by simp) (by simp[hon.len]) rfl rfl) (goQ_ ?_);refine qA (ι:=Unit) (λ_=>True) (λ_=>xC [(0,.own 0 1 n),(1,.c (.i n)),(6,.c (.i 20)),(1000000,.own 0 1 n)] [(0,.row 1 ((yA R n).map dL))]) (λ_=>0) () trivial (by apply aB<;>simp) ?_
 rintro _ _
 refine yaed n2 n4 ?_;exact⟨by rw[List.take_of_length_le (by rw[zam,hon.len];exact Nat.le_refl _)],by simp[ybG]⟩
def yzf(R:List Int)(n:Nat)(hn:1≤n)(hn2:n≤19)(f:Nat)(a b c:List C)(hf:∃fn,Tryz.prog.funcs[f]?=some fn∧fn.body.isSome=true∧(fn.name != "runtime.NumGoroutine")=true)
 (hc:∀x y:Nat,x<n->y<n->qB prg f [.c (.i x),.c (.i y),.elt a,.elt b,.elt c] (.c (.i (vAt R y-vAt R x)))):
 InF prg 257 (.c (cw 1 ((List.range n).map dL))) (.c (cw 1 ((yA R n).map dL))) [.fn f [.elt a,.elt b,.elt c]] (.tup []):=by
 have hon:=ycJ R n;have hi:=yG2 R n hn (by omega) f a b c hf hc;have hcw:cw 1 ((yA R n).map dL)=.ow 1 ((yA R n).map dL):=kH (by rw[zam,hon.len];omega);have hcw0:cw 1 ((List.range n).map dL)=.ow 1 ((List.range n).map dL):=kH (by simp;omega);rw[hcw,hcw0];refine aK iM (by simp) (by simp) rfl λhwf=>?_;refine goQ_ ?_;intro _;refine tH (up:=some (0,.row 1 ((yA R n).map dL))) hi (by simp) rfl rfl (qH (rows:=(List.range n).map dL) (by simp) rfl rfl (by simp) (by simp[hon.len]) rfl rfl) (goQ_ ?_);exact⟨by rw[List.take_of_length_le (by rw[zam,hon.len];exact Nat.le_refl _)],by simp[ybG]⟩
def sV{t:Int}{ws:List Int}(h:lS t ws=false):xK t ws=[]:=by simp[xK,h]
def yAZ{ws:List Int}{k:Nat}(h12:ws.length<=12)(h:∀x∈ws.take k,inRange x 0 1000000=true):0<=sumTo ws k/\sumTo ws k<=12000000:=by
 have:=sum_bnd (l:=ws.take k) (m:=1000000) λx hx=>aC.1 (h x hx);have e:(ws.take k).length<=12:=by rw[zay];omega
 unfold sumTo;omega
def yzK{Q:List Int}{o:List Nat}{m:Int}(hm:0<=m)(hQ:∀x∈Q,0<=x/\x<=m):∀(j:Nat),∀x∈yek Q o j,0<=x/\x<=m+j
 |0,x,hx=>by have:=hQ x hx;omega
 | j +1,x,hx=>by
  have ih:=yzK hm hQ (o:=o) j;have e2:((j+1:Nat):Int)=j+1:=by simp
  cases h:o[j]? with
  |none=>
   have hl:o.length<=j:=by simpa using h
   have e:yek Q o (j+1)=yek Q o j:=by unfold yek;rw[List.take_of_length_le (by omega),List.take_of_length_le hl]
   rw[e]at hx;have:=ih x hx;omega
  | some a=>
   rw[yk3 h]at hx;rcases zaS hx with hx|rfl
   .have:=ih x hx;omega
   .have:0<=vAt (yek Q o j) a/\vAt (yek Q o j) a<=m+j:=by
     unfold vAt;cases hv:(yek Q o j)[a]? with
     |none=>simp;omega
     |some v=>exact ih v (zac hv)
    omega
end
end Go.Proofs.YtdadkiofenhnbaaGreat
