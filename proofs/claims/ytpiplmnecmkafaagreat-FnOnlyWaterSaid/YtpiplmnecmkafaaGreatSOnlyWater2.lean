/- What the law FnOnlyWater stands on: contracts of functions, what each answers as plain Lean, in short form (names, layout). -/
import Derived.Test.YtpiplmnecmkafaaGreatSOnlyWater1
set_option linter.all false
namespace Go.Proofs.YtpiplmnecmkafaaGreat
open Go.RowKit
structure Met(l:List Boat):Prop where
 ok:∀b∈l,jH b=true
 nd:(l.map dZ).Nodup
 len:l.length<=6
theorem Met.snoc{l:List Boat}{b:Boat}(h:Met l)(h1:jH b=true)(h2:b.Id∉l.map dZ)(h3:l.length<6):Met (l++[b]):=by
 refine⟨?_,?_,by simp;omega⟩
 ·intro x hx;rcases zao.1 hx with hx|hx
  ·exact h.ok x hx
  ·rw[zal.1 hx];exact h1
 ·have:=@yc3 (l++[b]) l.length b (by simp);rw[show l.length+1=(l++[b]).length by simp,zbL]at this;rw[this,List.take_left']
  ·exact⟨h.nd,h2⟩
  ·rfl
def kY(t:Train)(k:Nat)(r:List Boat)(j:Nat):List Boat:=heads t.Rows k++r.take j
theorem yiW{t:Train}{k:Nat}{r:List Boat}:kY t k r 0=heads t.Rows k:=by simp[kY]
theorem yn3{t:Train}{k:Nat}{r:List Boat}{j:Nat}{b:Boat}(h:r[j]?=some b):kY t k r (j+1)=kY t k r j++[b]:=by
 unfold kY;rw[zar,h];simp
theorem yks{t:Train}{k:Nat}{r:List Boat}{j:Nat}(hr:t.Rows[k]?=some r)(h:r.length<=j):kY t k r j=heads t.Rows (k+1):=by
 unfold kY;rw[zaf h,ya0 hr]
theorem yrD{t:Train}{k:Nat}{r:List Boat}{j:Nat}(h:j<=r.length):(kY t k r j).length=(heads t.Rows k).length+j:=by
 unfold kY;simp;omega
theorem dK (t:Train) (h:t.small):lC Tryz.prog 20 [.agg (t.enc.map .c)] (.c (.b (oC t))):=by
 refine qB yh4 ?_;simp -dsimp -implicitDefEqProofs;intro hlen;refine⟨λh0 _=>⟨λh1=>?_,λh1 _=>?_⟩,λh0=>?_⟩
 ·by_cases h2:oC t=false
  ·exact h2
  ·exfalso;have h3:oC t=true:=by simpa using h2
   simp only[oC,zad,zae]at h3;obtain⟨⟨⟨h4,_⟩,_⟩,h5⟩:=h3;have h6:=jA.1 h5
   have:∀l:List (List Boat),(∀r∈l,full r=true)->l.length<=l.flatten.length:=by
    intro l
    induction l with
    |nil=>simp
    |cons r l ih=>
     intro hl;have e1:=ih λx hx=>hl x (by simp[hx]);have e2:=ydE.1 (hl r (by simp));simp only[zaC,zbP,zau];omega
   have:=this t.Rows h4;unfold Train.lD at h6;omega
 ·refine qA (ι:=Nat) (λk=>k<=t.Rows.length/\(∀r∈t.Rows.take k,full r=true)/\Met (heads t.Rows k)) (λk=>rD [(3,.row 3 1 0 0),(4,.c (.i (heads t.Rows k).length)),(20,.c (.sl 1 (t.Rows.map iH))),(21,.c (.i t.Rows.length)),(22,.c (.i k))] [(3,.row 1 (lZ (heads t.Rows k)))]) (λk=>t.Rows.length-k) 0 ⟨by simp,by simp,by simp[dX],by simp[dX],by simp[dX]⟩ (by apply dB<;>simp[dX,yte]) ?_
  rintro k ⟨hk,hall,hm⟩
  rcases zah k t.Rows.length with hlt|hge
  ·obtain⟨r,hr⟩:∃r,t.Rows[k]?=some r:=⟨_,zaa hlt⟩;have hml:=hm.len;have hrs:=(h.2 r (zac hr)).1;obtain⟨rest,hsp⟩:=yf5 hr;simp -dsimp -implicitDefEqProofs [hr,kD hlt];intro hrl;refine⟨λhr0 _=>⟨by unfold inI;omega,λh6=>?_,λh6 _=>?_⟩,λhr0=>?_⟩
   ·refine ywx ?_;rw[hsp];simp only[zau];omega
   ·refine qA (ι:=Nat) (λj=>j<=r.length/\Met (kY t k r j)) (λj=>rD [(3,.row 3 1 0 0),(4,.c (.i (kY t k r j).length)),(20,.c (.sl 1 (t.Rows.map iH))),(21,.c (.i t.Rows.length)),(22,.c (.i k)),(36,.c (.sl 6 (r.map Boat.enc))),(37,.c (.i r.length)),(38,.c (.i j))] [(3,.row 1 (lZ (kY t k r j)))]) (λj=>r.length-j) 0 ⟨by simp,by rw[yiW];exact hm⟩ (by apply dB<;>simp[yiW]) ?_
    rintro j ⟨hj,hmj⟩
    rcases zah j r.length with hlt2|hge2
    ·obtain⟨b,hb⟩:∃b,r[j]?=some b:=⟨_,zaa hlt2⟩;have hsl:=yrD (t:=t) (k:=k) hj;have hlt6:(kY t k r j).length<6:=by omega
     have hmem:b∈t.lD:=by
      rw[hsp];simp only[zao];exact .inl (.inr (zac hb))
     simp -dsimp -implicitDefEqProofs [hb,kD hlt2];refine fH (ymy b) ?_;simp -dsimp -implicitDefEqProofs;refine⟨λh2=>?_,λh2=>yuY hmem h2⟩;have hsn:=ysJ hmj.len;refine⟨by omega,hsn,?_⟩;refine⟨_,_,yhR ((kY t k r j).map dZ) b.Id,by simp[yrh],.inr rfl,?_⟩;simp -dsimp -implicitDefEqProofs [kD hlt2,yrT hlt6,yss hlt6];refine⟨λx hx he=>yxX λhn=>?_,λh3=>?_⟩
     ·have hsp2:t.lD=kY t k r j++(b::(r.drop (j+1)++rest)):=by
       rw[hsp];unfold kY
       have:r=r.take j++b::r.drop (j+1):=by
        conv=>lhs;rw[<-zbd j r]
        rw[zaM hlt2,(zab.1 hb).2]
       conv=>lhs;rw[this]
       simp
      rw[hsp2,zaN,zaD]at hn;exact(zaU.1 hn).2.2 _ (zaA hx) _ (List.mem_cons_self) he
     ·have hni:b.Id∉(kY t k r j).map dZ:=by
       intro hm';obtain⟨x,hx,he⟩:=zaO.1 hm';exact h3 x hx he
      have hs1:=yn3 (t:=t) (k:=k) hb;refine⟨by omega,by omega,by unfold inI;omega,by unfold inI;omega,j+1,⟨hlt2,by rw[hs1];exact hmj.snoc h2 hni hlt6⟩,by omega,?_⟩;apply dB<;>simp[hs1]
    ·simp -dsimp -implicitDefEqProofs [eH hge2];rw[yks hr hge2]at hmj;refine⟨by unfold inI;omega,k+1,⟨hlt,iC (p:=full) hr hall (by simp[full,hr0]),hmj⟩,by omega,?_⟩;apply dB<;>simp[yks hr hge2]
   ·exact yui hr (by simp[hr0])
  ·simp -dsimp -implicitDefEqProofs [eH hge];rw[ycA hge]at hm;have hr1:=dD (p:=full) hge hall;have hb1:t.lD.all jH=true:=zae.2 hm.ok
   have hl1:0<t.lD.length:=by
    obtain⟨r,l,e⟩:=List.exists_cons_of_ne_nil h0;have:=ydE.1 (zae.1 hr1 r (by rw[e];simp));unfold Train.lD;rw[e];simp only[zbP,zau];omega
   have hl2:t.lD.length<=6:=hm.len;have h7:inRange t.lD.length 1 6=true:=jA.2 (by omega);have hn1:(t.lD.map dZ).Nodup:=hm.nd;simp[oC,hr1,hb1,hn1,h7]
 ·have:t.lD=[]:=by simp[Train.lD,h0]
  have h7:inRange t.lD.length 1 6=false:=by rw[this];rfl
  simp only[oC,h7,zbc]
def aI(m:Mover)(w:Way):Bool:=yK w&&oC m.Train&&inRange m.Place 0 w.Long
theorem yk0(m:Mover)(w:Way)(h:m.small):lC Tryz.prog 76 [.agg (m.enc.map .c),.agg (w.enc.map .c)] (.c (.b (aI m w))):=by
 refine qB yiU ?_;simp -dsimp -implicitDefEqProofs;refine aA (yil w) ?_;simp -dsimp -implicitDefEqProofs;refine⟨λh1=>?_,λh1=>by simp[aI,h1]⟩;refine aA (dK m.Train h) ?_;simp -dsimp -implicitDefEqProofs;refine⟨λh2=>?_,λh2=>by simp[aI,h2]⟩;refine aA (gB m.Place 0 w.Long) ?_;simp -dsimp -implicitDefEqProofs;simp[aI,h1,h2]
theorem ydz(m:Mover)(w:Way)(h:m.small):lC Tryz.prog 172 [.agg (m.enc.map .c),.agg (w.enc.map .c)] (.c (.b (aI m w))):=by
 refine qB yhD ?_;simp -dsimp -implicitDefEqProofs;refine aA (ygY w) ?_;simp -dsimp -implicitDefEqProofs;refine⟨λh1=>?_,λh1=>by simp[aI,h1]⟩;refine aA (xR m.Train h) ?_;simp -dsimp -implicitDefEqProofs;refine⟨λh2=>?_,λh2=>by simp[aI,h2]⟩;refine aA (jB m.Place 0 w.Long) ?_;simp -dsimp -implicitDefEqProofs;simp[aI,h1,h2]
def maxOf(f:Boat->Int)(l:List Boat)(z:Int):Int:=l.foldl (λm b=>if m<f b then f b else m) z
def ydY(f:Boat->Int)(l:List Boat)(z:Int)(k:Nat):Int:=maxOf f (l.take k) z
theorem yhf{f:Boat->Int}{l:List Boat}{z:Int}:ydY f l z 0=z:=rfl
theorem yhO{f:Boat->Int}{l:List Boat}{z:Int}{k:Nat}{b:Boat}(h:l[k]?=some b):ydY f l z (k+1)=if ydY f l z k<f b then f b else ydY f l z k:=by
 unfold ydY maxOf;rw[zar,h,zcy];rfl
theorem ykr{f:Boat->Int}{l:List Boat}{z:Int}{k:Nat}(h:l.length<=k):ydY f l z k=maxOf f l z:=by
 unfold ydY;rw[zaf h]
theorem yjb{f:Boat->Int}{a b:Int}:∀{l:List Boat} {z:Int},(∀x∈l,a<=f x/\f x<=b)->a<=z->z<=b->a<=maxOf f l z/\maxOf f l z<=b
 |[],z,_,h1,h2=>⟨h1,h2⟩
 |x::l,z,h,h1,h2=>by
  have:=h x (by simp);unfold maxOf;rw[zcc];refine yjb (l:=l) (λy hy=>h y (by simp[hy])) ?_ ?_<;>split<;>omega
structure TrainFacts(t:Train):Prop where
 rows:∀r∈t.Rows,full r=true
 ok:∀b∈t.lD,jH b=true
 nd:(t.lD.map dZ).Nodup
 pos:1<=t.lD.length
 len:t.lD.length<=6
theorem qN{t:Train}(h:oC t=true):TrainFacts t:=by
 simp only[oC,zad,zae,decide_eq_true_eq]at h;obtain⟨⟨⟨h1,h2⟩,h3⟩,h4⟩:=h;have h5:=jA.1 h4;exact⟨h1,h2,h3,by omega,by omega⟩
theorem yfq{b:Boat}(h:jH b=true):(1<=b.Id/\b.Id<=9999)/\(1<=b.Length/\b.Length<=200)/\(1<=b.Width/\b.Width<=30)/\(1<=b.Draught/\b.Draught<=100)/\(1<=b.Speed/\b.Speed<=50)/\(0<=b.Class/\b.Class<=2):=by
 simp only[jH,zad]at h;obtain⟨⟨⟨⟨⟨h1,h2⟩,h3⟩,h4⟩,h5⟩,h6⟩:=h;exact⟨jA.1 h1,jA.1 h2,jA.1 h3,jA.1 h4,jA.1 h5,jA.1 h6⟩
theorem ykw(t:Train)(h:t.small):lC Tryz.prog 56 [.agg (t.enc.map .c)] (.c (.sl 6 (t.lD.map Boat.enc))):=by
 refine qB yif ?_;simp -dsimp -implicitDefEqProofs;intro hlen;refine yE (k0:=6) 3 6 (by simp) (by simp) (by decide) ?_;refine qA (ι:=Nat) (λk=>k<=t.Rows.length) (λk=>rD [(3,.own 3 6 (heads t.Rows k).length),(7,.c (.sl 1 (t.Rows.map iH))),(8,.c (.i t.Rows.length)),(9,.c (.i k))] [(3,.row 6 ((heads t.Rows k).map Boat.enc))]) (λk=>t.Rows.length-k) 0 (by simp) (by apply dB<;>simp[dX]) ?_
 rintro k hk
 rcases zah k t.Rows.length with hlt|hge
 ·obtain⟨r,hr⟩:∃r,t.Rows[k]?=some r:=⟨_,zaa hlt⟩;have hb:=ycu h (k+1);have hf:=ya0 hr;rw[hf,zau]at hb;simp -dsimp -implicitDefEqProofs [hr,kD hlt];refine⟨by omega,aC hlt hlen,k+1,hlt,by omega,?_⟩;apply dB<;>simp[hf]
 ·simp -dsimp -implicitDefEqProofs [eH hge];rw[ycA hge];rw[zaf (by rw[zbi];exact Nat.le_refl _)];rfl
def sO(t:Train):Int:=if oC t then maxOf Boat.Draught t.lD 0 else 0
theorem ycg(t:Train)(h:t.small):lC Tryz.prog 67 [.agg (t.enc.map .c)] (.c (.i (sO t))):=by
 refine qB yeZ ?_;simp -dsimp -implicitDefEqProofs;refine aA (dK t h) ?_;simp -dsimp -implicitDefEqProofs;refine⟨λh1=>by simp[sO,h1],λh1=>?_⟩;refine xG (ykw t h) ?_;simp -dsimp -implicitDefEqProofs;intro hlen;refine qA (ι:=Nat) (λk=>k<=t.lD.length) (λk=>rD [(3,.c (.i (ydY Boat.Draught t.lD 0 k))),(10,.c (.sl 6 (t.lD.map Boat.enc))),(11,.c (.i t.lD.length)),(12,.c (.i k))] []) (λk=>t.lD.length-k) 0 (by simp) (by apply dB<;>simp[yhf]) ?_
 rintro k hk
 rcases zah k t.lD.length with hlt|hge
 ·obtain⟨b,hb⟩:∃b,t.lD[k]?=some b:=⟨_,zaa hlt⟩;simp -dsimp -implicitDefEqProofs [hb,kD hlt];refine⟨aC hlt hlen,k+1,hlt,by omega,?_⟩;apply dB<;>simp[yhO hb]
 ·simp -dsimp -implicitDefEqProofs [eH hge];simp[sO,h1,ykr hge]
theorem yk3(t:Train):0<=sO t/\sO t<=100:=by
 unfold sO;split
 ·rename_i h;have hf:=qN h;exact yjb (λx hx=>by have:=yfq (hf.ok x hx);omega) (by omega) (by omega)
 ·omega
def yia:List Int->Prop:=lN λ_=>True
structure Point where
 X:Int
 Y:Int
 deriving DecidableEq,Inhabited
@[simp] def Point.enc(e:Point):List C:=[.i e.X,.i e.Y]
-- Point
def ykO:List Point->Prop:=lN λ_=>True
structure Reach where
 Table:List Point
 Volume:Int
 Pipe:List Int
 deriving DecidableEq,Inhabited
@[simp] def Reach.enc(e:Reach):List C:=[.sl 2 (e.Table.map Point.enc),.i e.Volume,.sl 1 (e.Pipe.map qC)]
-- Reach
def Reach.small(e:Reach):Prop:=ykO e.Table/\yia e.Pipe
def xZ(p:Point):Bool:=inRange p.X 0 1000000000&&inRange p.Y 0 1000000000
def follows(a b:Point):Bool:=decide (a.X<b.X)&&decide (a.Y<=b.Y)
def yau(l:List Point)(k:Nat):Bool:=
 match l[k]? with
 | some p=>xZ p&&(match k with
  |0=>true
  |j+1=>match l[j]? with
   |some q=>follows q p
   |none=>false)
 |none=>true
def upTo(l:List Point):Nat->Bool
 |0=>true
 |k+1=>upTo l k&&yau l k
def fF(l:List Point):Bool:=upTo l l.length&&inRange l.length 2 20
theorem yaD{l:List Point}{p:Point}(h:l[0]?=some p):yau l 0=xZ p:=by simp[yau,h]
theorem xU{l:List Point}{k:Nat}{p q:Point}(h:l[k+1]?=some p)(hq:l[k]?=some q):yau l (k+1)=(xZ p&&follows q p):=by simp[yau,h,hq]
theorem yjc{l:List Point}:∀{k n:Nat},k<n->yau l k=false->upTo l n=false
 |k,0,h,_=>by omega
 | k,n+1,h,hs=>by
  simp only[upTo];rcases zah k n with h1|h1
  ·rw[yjc h1 hs];rfl
  ·have:k=n:=by omega
   subst this;rw[hs,zbc]
theorem ycD{l:List Point}{k:Nat}(h:upTo l k=true)(hs:yau l k=true):upTo l (k+1)=true:=by simp[upTo,h,hs]
theorem ygN{l:List Point}{k:Nat}(h:k<l.length)(hs:yau l k=false):fF l=false:=by simp[fF,yjc h hs]
theorem ysA{l:List Point}(h:inRange l.length 2 20=false):fF l=false:=by simp[fF,h]
theorem ybp(l:List Point):lC Tryz.prog 142 [.c (.sl 2 (l.map Point.enc))] (.c (.b (fF l))):=by
 refine qB yiQ ?_;simp -dsimp -implicitDefEqProofs;intro hlen;refine⟨λh0 _=>⟨λh1=>?_,λh1 _=>?_⟩,λh0=>?_⟩
 ·exact ysA (aN.2 (by omega))
 ·refine qA (ι:=Nat) (λk=>k<=l.length/\upTo l k=true) (λk=>rD [(0,.c (.sl 2 (l.map Point.enc))),(13,.c (.sl 2 (l.map Point.enc))),(14,.c (.i l.length)),(15,.c (.i k))] []) (λk=>l.length-k) 0 ⟨by simp,rfl⟩ (by apply dB<;>simp) ?_
  rintro k ⟨hk,hup⟩
  rcases zah k l.length with hlt|hge
  ·obtain⟨p,hp⟩:∃p,l[k]?=some p:=⟨_,zaa hlt⟩
   have hbad:xZ p=false->fF l=false:=λe=>ygN hlt (by
    cases k with
    |zero=>rw[yaD hp,e]
    |succ j=>rw[xU hp (zaa (by omega)),e,zbm])
   cases k with
   |zero=>
    have f1:=(zab.1 hp).2;simp -dsimp -implicitDefEqProofs [hp,hlt,f1];refine aA (gB p.X 0 1000000000) ?_;simp -dsimp -implicitDefEqProofs;refine⟨λh2=>?_,λh2=>hbad (by simp[xZ,h2])⟩;refine aA (gB p.Y 0 1000000000) ?_;simp -dsimp -implicitDefEqProofs;refine⟨λh3=>hbad (by simp[xZ,h3]),λh3=>?_⟩;have hpt:xZ p=true:=by simp[xZ,h2,h3]
    exact⟨by unfold inI;omega,1,⟨hlt,ycD hup (by rw[yaD hp,hpt])⟩,by omega,by apply dB<;>simp⟩
   | succ j=>
    obtain⟨q,hq⟩:∃q,l[j]?=some q:=⟨_,zaa (by omega)⟩;have hj:(j:Int)+1<l.length:=by omega
    have hj2:(j:Int)<l.length:=by omega
    have hj3:(0:Int)<j+1:=by omega
    have hj4:(0:Int)<=j+1:=by omega
    have hj5:((j:Int)+1).toNat=j+1:=by omega
    simp -dsimp -implicitDefEqProofs [hp,hq,hj,hj2,hj3,hj4,hj5];refine aA (gB p.X 0 1000000000) ?_;simp -dsimp -implicitDefEqProofs;refine⟨λh2=>?_,λh2=>hbad (by simp[xZ,h2])⟩;refine aA (gB p.Y 0 1000000000) ?_;simp -dsimp -implicitDefEqProofs [hp,hq,hj,hj2,hj3,hj4,hj5];refine⟨λh3=>hbad (by simp[xZ,h3]),λh3=>?_⟩;have hpt:xZ p=true:=by simp[xZ,h2,h3]
    have hbad2:follows q p=false->fF l=false:=λe=>ygN hlt (by rw[xU hp hq,e,zbc]);refine⟨by unfold inI;omega,λh4=>⟨by unfold inI;omega,λh5=>?_,λh5=>?_⟩,λh4=>?_⟩
    ·exact hbad2 (by simp[follows];omega)
    ·have hf:follows q p=true:=by simp[follows,h4,h5]
     exact⟨by unfold inI;omega,j+2,⟨hlt,ycD hup (by rw[xU hp hq,hpt,hf];rfl)⟩,by omega,by apply dB<;>simp;omega⟩
    ·exact hbad2 (by simp[follows];omega)
  ·simp -dsimp -implicitDefEqProofs [eH hge];have e:k=l.length:=by omega
   subst e;have h7:inRange l.length 2 20=true:=jA.2 (by omega);simp[fF,hup,h7]
 ·exact ysA (aN.2 (by omega))
theorem yd7(l:List Point):lC Tryz.prog 124 [.c (.sl 2 (l.map Point.enc))] (.c (.b (fF l))):=by
 refine qB yir ?_;simp -dsimp -implicitDefEqProofs;refine qA (ι:=Nat) (λk=>k<=l.length/\upTo l k=true) (λk=>rD [(0,.c (.sl 2 (l.map Point.enc))),(3,.c (.i k))] []) (λk=>l.length-k) 0 ⟨by simp,rfl⟩ (by apply dB<;>simp) ?_
 rintro k ⟨hk,hup⟩
 rcases zah k l.length with hlt|hge
 ·obtain⟨p,hp⟩:∃p,l[k]?=some p:=⟨_,zaa hlt⟩
  have hbad:xZ p=false->fF l=false:=λe=>ygN hlt (by
   cases k with
   |zero=>rw[yaD hp,e]
   |succ j=>rw[xU hp (zaa (by omega)),e,zbm])
  cases k with
  |zero=>
   have f1:=(zab.1 hp).2;simp -dsimp -implicitDefEqProofs [hp,hlt,f1];intro hlen;refine fH (jB p.X 0 1000000000) ?_;simp -dsimp -implicitDefEqProofs [hp,hlt,f1];refine⟨λh2=>?_,λh2=>hbad (by simp[xZ,h2])⟩;refine fH (jB p.Y 0 1000000000) ?_;simp -dsimp -implicitDefEqProofs [hp,hlt,f1];refine⟨λh3=>?_,λh3=>hbad (by simp[xZ,h3])⟩;have hpt:xZ p=true:=by simp[xZ,h2,h3]
   exact⟨by unfold inI;omega,1,⟨hlt,ycD hup (by rw[yaD hp,hpt])⟩,by omega,by apply dB<;>simp⟩
  | succ j=>
   obtain⟨q,hq⟩:∃q,l[j]?=some q:=⟨_,zaa (by omega)⟩;have hj:(j:Int)+1<l.length:=by omega
   have hj2:(j:Int)<l.length:=by omega
   have hj3:(0:Int)<j+1:=by omega
   have hj4:(0:Int)<=j+1:=by omega
   have hj5:((j:Int)+1).toNat=j+1:=by omega
   simp -dsimp -implicitDefEqProofs [hp,hq,hj,hj2,hj3,hj4,hj5];intro hlen;refine fH (jB p.X 0 1000000000) ?_;simp -dsimp -implicitDefEqProofs [hp,hq,hj,hj2,hj3,hj4,hj5];refine⟨λh2=>?_,λh2=>hbad (by simp[xZ,h2])⟩;refine fH (jB p.Y 0 1000000000) ?_;simp -dsimp -implicitDefEqProofs [hp,hq,hj,hj2,hj3,hj4,hj5];refine⟨λh3=>?_,λh3=>hbad (by simp[xZ,h3])⟩;have hpt:xZ p=true:=by simp[xZ,h2,h3]
   unfold maxLen at hlen;have hbad2:follows q p=false->fF l=false:=λe=>ygN hlt (by rw[xU hp hq,e,zbc]);refine⟨by unfold inI;omega,λh4=>⟨by unfold inI;omega,λh5=>?_,λh5=>?_⟩,λh4=>?_⟩
   ·exact hbad2 (by simp[follows];omega)
   ·have hf:follows q p=true:=by simp[follows,h4,h5]
    exact⟨by unfold inI;omega,j+2,⟨hlt,ycD hup (by rw[xU hp hq,hpt,hf];rfl)⟩,by omega,by apply dB<;>simp;omega⟩
   ·exact hbad2 (by simp[follows];omega)
 ·simp -dsimp -implicitDefEqProofs [eH hge];intro hlen;refine aA (jB l.length 2 20) ?_;simp -dsimp -implicitDefEqProofs;have e:k=l.length:=by omega
  subst e;simp[fF,hup]
def amount(n:Int):Bool:=inRange n 0 1000000000
def sD(r:Reach):Int:=r.Volume+r.Pipe.sum
def bC(r:Reach):Bool:=fF r.Table&&amount r.Volume&&decide (r.Pipe.length<=12)&&r.Pipe.all amount&&decide (sD r<=1000000000)
theorem ybz:∀{l:List Int},(∀x∈l,amount x=true)->0<=l.sum
 |[],_=>by simp
 |x::l,h=>by
  have h1:=ybz (l:=l) λy hy=>h y (by simp[hy]);have h2:=jA.1 (show inRange x 0 1000000000=true from h x (by simp));simp only[zbg];omega
theorem yrx{l:List Int}(k:Nat):l.sum=sumTo l k+(l.drop k).sum:=by
 unfold sumTo
 conv=>lhs;rw[<-zbd k l]
 rw[List.sum_append]
theorem yw9{r:Reach}{k:Nat}{x:Int}(hx:r.Pipe[k]?=some x)(h:1000000000<r.Volume+sumTo r.Pipe k+x):bC r=false:=by
 cases hr:bC r with
 |false=>rfl
 |true=>
  exfalso;simp only[bC,zad,zae,decide_eq_true_eq]at hr;obtain⟨⟨_,h1⟩,h2⟩:=hr;have h3:=ybz (l:=r.Pipe.drop (k+1)) λy hy=>h1 y (zby hy);have h4:=yrx (l:=r.Pipe) (k+1);rw[ybx hx]at h4;unfold sD at h2;omega
theorem yj5{r:Reach}{k:Nat}{x:Int}(hx:r.Pipe[k]?=some x)(h:amount x=false):bC r=false:=by
 have:r.Pipe.all amount=false:=all_false (p:=amount) hx h;simp[bC,this]
theorem rH(r:Reach):lC Tryz.prog 95 [.agg (r.enc.map .c)] (.c (.b (bC r))):=by
 refine qB yig ?_;simp -dsimp -implicitDefEqProofs;refine aA (ybp r.Table) ?_;simp -dsimp -implicitDefEqProofs;refine⟨λh1=>?_,λh1=>by simp[bC,h1]⟩;refine aA (gB r.Volume 0 1000000000) ?_;simp -dsimp -implicitDefEqProofs;refine⟨λh2 hlen=>⟨λh3=>?_,λh3=>⟨?_,λ_=>?_⟩⟩,λh2=>by simp[bC,amount,h2]⟩
 ·have:¬r.Pipe.length<=12:=by omega
  simp[bC,this]
 ·have:=jA.1 h2;unfold inI;omega
 have h2':=jA.1 h2;refine qA (ι:=Nat) (λk=>k<=r.Pipe.length/\(∀n∈r.Pipe.take k,amount n=true)/\0<=sumTo r.Pipe k/\r.Volume+sumTo r.Pipe k<=1000000000) (λk=>rD [(3,.c (.i (1000000000-r.Volume-sumTo r.Pipe k))),(26,.c (.sl 1 (r.Pipe.map qC))),(27,.c (.i r.Pipe.length)),(28,.c (.i k))] []) (λk=>r.Pipe.length-k) 0 ⟨by simp,by simp,by simp[yP],by simp only[yP];omega⟩ (by apply dB<;>simp[yP]) ?_
 rintro k ⟨hk,hall,hs0,hs⟩
 rcases zah k r.Pipe.length with hlt|hge
 ·obtain⟨x,hx⟩:∃x,r.Pipe[k]?=some x:=⟨_,zaa hlt⟩;simp -dsimp -implicitDefEqProofs [hx,kD hlt];refine⟨λh4=>⟨λh5=>?_,λh5=>?_⟩,λh4=>?_⟩
  ·exact yw9 hx (by omega)
  ·have ha:amount x=true:=jA.2 (by omega);have e1:=ybx hx;refine⟨by unfold inI;omega,aC hlt hlen,k+1,⟨hlt,iC (p:=amount) hx hall ha,by rw[e1];omega,by rw[e1];omega⟩,by omega,?_⟩;apply dB<;>simp[e1];omega
  ·exact yj5 hx (aN.2 (by omega))
 ·simp -dsimp -implicitDefEqProofs [eH hge];have h6:=dD (p:=amount) hge hall;rw[ye4 hge]at hs;simp[bC,h1,show amount r.Volume=true from h2,h6,sD,hs];omega
theorem yfG{l:List Int}(h:∀n∈l,amount n=true)(hl:l.length<=12)(k:Nat):0<=sumTo l k/\sumTo l k<=12000000000:=by
 have h1:=ycC (l:=l.take k) (b:=1000000000) λx hx=>h x (zaP hx);have h2:(l.take k).length<=12:=by simp;omega
 unfold sumTo;omega
theorem yhA(r:Reach)(hv:amount r.Volume=true)(hl:r.Pipe.length<=12)(hp:∀n∈r.Pipe,amount n=true):lC Tryz.prog 125 [.agg (r.enc.map .c)] (.c (.i (sD r))):=by
 refine qB yjr ?_;have hv':=jA.1 (show inRange r.Volume 0 1000000000=true from hv);simp -dsimp -implicitDefEqProofs;refine qA (ι:=Nat) (λk=>k<=r.Pipe.length) (λk=>rD [(1,.box 1 0),(3,.c (.i (r.Volume+sumTo r.Pipe k))),(4,.c (.i k))] [(1,.box (r.enc.map .c))]) (λk=>r.Pipe.length-k) 0 (by simp) (by apply dB<;>simp[yP]) ?_
 rintro k hk
 rcases zah k r.Pipe.length with hlt|hge
 ·obtain⟨x,hx⟩:∃x,r.Pipe[k]?=some x:=⟨_,zaa hlt⟩;have e1:=ybx hx;have b1:=yfG hp hl (k+1);rw[e1]at b1;simp -dsimp -implicitDefEqProofs [hx,kD hlt];intro hlen;refine⟨by unfold inI;omega,aC hlt hlen,k+1,hlt,by omega,?_⟩;apply dB<;>simp[e1];omega
 ·simp -dsimp -implicitDefEqProofs [eH hge];intro _;rw[ye4 hge];rfl
theorem oN(r:Reach):lC Tryz.prog 81 [.agg (r.enc.map .c)] (.c (.b (bC r))):=by
 refine qB yhv ?_;simp -dsimp -implicitDefEqProofs;refine aA (yd7 r.Table) ?_;simp -dsimp -implicitDefEqProofs;refine⟨λh1=>?_,λh1=>by simp[bC,h1]⟩;refine aA (jB r.Volume 0 1000000000) ?_;simp -dsimp -implicitDefEqProofs;refine⟨λh2 hlen=>⟨λh3=>?_,λh3=>?_⟩,λh2=>by simp[bC,amount,h2]⟩
 ·have:¬r.Pipe.length<=12:=by omega
  simp[bC,this]
 refine qA (ι:=Nat) (λk=>k<=r.Pipe.length/\(∀n∈r.Pipe.take k,amount n=true)) (λk=>rD [(1,.box 1 0),(3,.c (.i k))] [(1,.box (r.enc.map .c))]) (λk=>r.Pipe.length-k) 0 ⟨by simp,by simp⟩ (by apply dB<;>simp) ?_
 rintro k ⟨hk,hall⟩
 rcases zah k r.Pipe.length with hlt|hge
 ·obtain⟨x,hx⟩:∃x,r.Pipe[k]?=some x:=⟨_,zaa hlt⟩;simp -dsimp -implicitDefEqProofs [hx,kD hlt];intro _;refine aA (jB x 0 1000000000) ?_;simp -dsimp -implicitDefEqProofs;refine⟨λh4=>yj5 hx h4,λh4=>?_⟩;exact⟨aC hlt hlen,k+1,⟨hlt,iC (p:=amount) hx hall h4⟩,by omega,by apply dB<;>simp⟩
 ·simp -dsimp -implicitDefEqProofs [eH hge];intro _;have h6:=dD (p:=amount) hge hall;refine aA (yhA r h2 (by omega) (zae.1 h6)) ?_;simp -dsimp -implicitDefEqProofs;have h3':r.Pipe.length<=12:=by omega
  simp[bC,h1,show amount r.Volume=true from h2,h6,h3']
theorem ypn{α:Type}{p:α->Bool}:∀{l:List α} {k:Nat} {q:α},k<=(l.takeWhile p).length->l[k]?=some q->p q=true->k+1<=(l.takeWhile p).length
 |[],k,q,_,h,_=>by simp at h
 |x::l,0,q,_,h,hq=>by
  simp at h;subst h;simp[zbA,hq]
 | x::l,k+1,q,hk,h,hq=>by
  rw[zbA]at hk|-;split at hk
  ·rename_i hx;rw[if_pos hx];have:=ypn (l:=l) (k:=k) (by simpa using hk) (by simpa using h) hq;simp only[zaC];omega
  ·simp at hk
theorem yp8{α:Type}{p:α->Bool}:∀{l:List α} {k:Nat} {q:α},k<=(l.takeWhile p).length->l[k]?=some q->p q=false->(l.takeWhile p).length=k
 |[],k,q,_,h,_=>by simp at h
 |x::l,0,q,_,h,hq=>by
  simp at h;subst h;simp[zbA,hq]
 | x::l,k+1,q,hk,h,hq=>by
  rw[zbA]at hk|-;split at hk
  ·rename_i hx;rw[if_pos hx];have:=yp8 (l:=l) (k:=k) (by simpa using hk) (by simpa using h) hq;simp only[zaC];omega
  ·simp at hk
def seg(l:List Point)(x:Int):Nat:=(l.tail.takeWhile λq=>decide (q.X<=x)).length
theorem seg_next{l:List Point}{x:Int}{k:Nat}{q:Point}(hk:k<=seg l x)(hq:l[k+1]?=some q)(h:q.X<=x):k+1<=seg l x:=
 ypn hk (by rw[zba];exact hq) (by simp[h])
theorem ynR{l:List Point}{x:Int}{k:Nat}{q:Point}(hk:k<=seg l x)(hq:l[k+1]?=some q)(h:x<q.X):seg l x=k:=
 yp8 hk (by rw[zba];exact hq) (by simp;omega)
theorem yiY{l:List Point}:∀{n k:Nat},upTo l n=true->k<n->yau l k=true
 |0,k,_,h=>by omega
 | n+1,k,h,hk=>by
  simp only[upTo,zad]at h;rcases zah k n with h1|h1
  ·exact yiY h.1 h1
  ·have:k=n:=by omega
   subst this;exact h.2
structure TableFacts(l:List Point):Prop where
 len:2<=l.length/\l.length<=20
 pt:∀(k:Nat) (p:Point),l[k]?=some p->(0<=p.X/\p.X<=1000000000)/\(0<=p.Y/\p.Y<=1000000000)
 up:∀(k:Nat) (p q:Point),l[k]?=some p->l[k+1]?=some q->p.X<q.X/\p.Y<=q.Y
theorem jX{l:List Point}(h:fF l=true):TableFacts l:=by
 simp only[fF,zad]at h;obtain⟨h1,h2⟩:=h;have h3:=jA.1 h2;refine⟨by omega,λk p hp=>?_,λk p q hp hq=>?_⟩
 ·have hk:=(zab.1 hp).1;have hs:=yiY h1 hk
  have:xZ p=true:=by
   cases k with
   |zero=>rw[yaD hp]at hs;exact hs
   |succ j=>
    rw[xU hp (zaa (by omega)),zad]at hs;exact hs.1
  simp only[xZ,zad]at this;exact⟨jA.1 this.1,jA.1 this.2⟩
 ·have hk:=(zab.1 hq).1;have hs:=yiY h1 hk;rw[xU hq hp,zad]at hs;have:=hs.2;simpa[follows]using this
def yb7(p q:Point)(x:Int):Int:=p.Y+((x-p.X)*(q.Y-p.Y)).tdiv (q.X-p.X)
def bI(l:List Point)(k:Nat):Point:=l[k]?.getD default
theorem nH{l:List Point}{k:Nat}{p:Point}(h:l[k]?=some p):bI l k=p:=by simp[bI,h]
def iD(l:List Point)(x:Int):Int:=
 if fF l then if x<=(bI l 0).X then(bI l 0).Y else if(bI l (l.length-1)).X<=x then(bI l (l.length-1)).Y else yb7 (bI l (seg l x)) (bI l (seg l x+1)) x
 else 0
theorem ynw{l:List Point}(tf:TableFacts l){k:Nat}{p q:Point}(hp:l[k]?=some p)(hq:l[k+1]?=some q){x v:Int}(hx:p.X<=x)(h4:x<q.X)(hv:v=p.Y+((x-p.X)*(q.Y-p.Y)).tdiv (q.X-p.X)):
 inI (x-p.X)/\inI (q.Y-p.Y)/\inI ((x-p.X)*(q.Y-p.Y))/\inI (q.X-p.X)/\¬q.X-p.X=0/\inI (((x-p.X)*(q.Y-p.Y)).tdiv (q.X-p.X))/\inI (p.Y+((x-p.X)*(q.Y-p.Y)).tdiv (q.X-p.X))/\v=p.Y+((x-p.X)*(q.Y-p.Y)).tdiv (q.X-p.X):=by
 have b1:=tf.pt k p hp;have b2:=tf.pt (k+1) q hq;have b3:=tf.up k p q hp hq;have c1:0<=(x-p.X)*(q.Y-p.Y):=zcV (by omega) (by omega);have c2:(x-p.X)*(q.Y-p.Y)<=1000000000*1000000000:=Int.mul_le_mul (by omega) (by omega) (by omega) (by omega);have c3:((x-p.X)*(q.Y-p.Y)).tdiv (q.X-p.X)=((x-p.X)*(q.Y-p.Y))/(q.X-p.X):=zbf c1;have c4:0<=((x-p.X)*(q.Y-p.Y))/(q.X-p.X):=zcO c1 (by omega);have c5:((x-p.X)*(q.Y-p.Y))/(q.X-p.X)<=(x-p.X)*(q.Y-p.Y):=zcH _ c1;refine⟨by unfold inI;omega,by unfold inI;omega,by unfold inI;omega,by unfold inI;omega,by omega,?_,?_,hv⟩
 ·rw[c3];unfold inI;omega
 ·rw[c3];unfold inI;omega
theorem ybu(l:List Point)(x:Int):lC Tryz.prog 110 [.c (.sl 2 (l.map Point.enc)),.c (.i x)] (.c (.i (iD l x))):=by
 refine qB yha ?_;simp -dsimp -implicitDefEqProofs;refine aA (ybp l) ?_;cases h1:fF l with
 |false=>
  simp -dsimp -implicitDefEqProofs;simp[iD,h1]
 | true=>
  have tf:=jX h1;obtain⟨hl1,hl2⟩:=tf.len;obtain⟨p0,e0⟩:∃p,l[0]?=some p:=⟨_,zaa (by omega)⟩;obtain⟨pe,ee⟩:∃p,l[l.length-1]?=some p:=⟨_,zaa (by omega)⟩;have f0:=(zab.1 e0).2;have l0:0<l.length:=by omega
  have l1:(1:Int)<=l.length:=by omega
  have l2:(l.length:Int)-1<l.length:=by omega
  have l3:inI ((l.length:Int)-1):=by unfold inI;omega
  simp -dsimp -implicitDefEqProofs [e0,ee,f0,l0,l1,l2,l3];have a0:bI l 0=p0:=nH e0;have ae:bI l (l.length-1)=pe:=nH ee
  refineλ_=>⟨λh2=>by simp[iD,h1,a0,h2],λh2=>⟨λh3=>?_,λh3=>?_⟩⟩
  ·have:¬x<=p0.X:=by omega
   simp[iD,h1,a0,ae,this,h3]
  have hv:iD l x=yb7 (bI l (seg l x)) (bI l (seg l x+1)) x:=by
   have g1:¬x<=p0.X:=by omega
   have g2:¬pe.X<=x:=by omega
   simp[iD,h1,a0,ae,g1,g2]
  refine qA (ι:=Nat) (λk=>k+2<=l.length/\k<=seg l x/\(bI l k).X<=x) (λk=>rD [(0,.c (.sl 2 (l.map Point.enc))),(1,.c (.i x)),(6,.c (.i k))] []) (λk=>l.length-k) 0 ⟨hl1,zcm _,by rw[a0];omega⟩ (by apply dB<;>simp) ?_
  rintro k ⟨hk,hs,hx⟩
  obtain⟨p,hp⟩:∃p,l[k]?=some p:=⟨_,zaa (by omega)⟩;obtain⟨q,hq⟩:∃p,l[k+1]?=some p:=⟨_,zaa (by omega)⟩;rw[nH hp]at hx;have i1:(k:Int)+1<l.length:=by omega
  have i2:(k:Int)<l.length:=by omega
  have i3:(0:Int)<=k+1:=by omega
  have i4:((k:Int)+1).toNat=k+1:=by omega
  have i5:inI ((k:Int)+1):=by unfold inI;omega
  simp -dsimp -implicitDefEqProofs [hp,hq,i1,i2,i3,i4,i5];refine⟨λh4=>⟨k+1,⟨?_,seg_next hs hq h4,by rw[nH hq];exact h4⟩,by omega,by apply dB<;>simp⟩,λh4=>?_⟩
  ·rcases zah (k+2) l.length with g|g
   ·omega
   ·have e:l.length-1=k+1:=by omega
    rw[e,hq]at ee;cases ee;omega
  ·exact ynw tf hp hq hx h4 (by rw[hv,ynR hs hq h4,nH hp,nH hq];rfl)
theorem oQ(l:List Point)(x:Int):lC Tryz.prog 80 [.c (.sl 2 (l.map Point.enc)),.c (.i x)] (.c (.i (iD l x))):=by
 refine qB yiD ?_;simp -dsimp -implicitDefEqProofs;refine aA (yd7 l) ?_;cases h1:fF l with
 |false=>
  simp -dsimp -implicitDefEqProofs;simp[iD,h1]
 | true=>
  have tf:=jX h1;obtain⟨hl1,hl2⟩:=tf.len;obtain⟨p0,e0⟩:∃p,l[0]?=some p:=⟨_,zaa (by omega)⟩;obtain⟨pe,ee⟩:∃p,l[l.length-1]?=some p:=⟨_,zaa (by omega)⟩;have f0:=(zab.1 e0).2;have l0:0<l.length:=by omega
  have l1:(1:Int)<=l.length:=by omega
  have l2:(l.length:Int)-1<l.length:=by omega
  have l3:inI ((l.length:Int)-1):=by unfold inI;omega
  simp -dsimp -implicitDefEqProofs [e0,ee,f0,l0,l1,l2,l3];have a0:bI l 0=p0:=nH e0;have ae:bI l (l.length-1)=pe:=nH ee
  refineλ_=>⟨λh2=>by simp[iD,h1,a0,h2],λh2=>⟨λh3=>?_,λh3=>?_⟩⟩
  ·have:¬x<=p0.X:=by omega
   simp[iD,h1,a0,ae,this,h3]
  have hv:iD l x=yb7 (bI l (seg l x)) (bI l (seg l x+1)) x:=by
   have g1:¬x<=p0.X:=by omega
   have g2:¬pe.X<=x:=by omega
   simp[iD,h1,a0,ae,g1,g2]
  refine qA (ι:=Nat) (λk=>k+2<=l.length/\k<=seg l x/\(bI l k).X<=x) (λk=>rD [(0,.c (.sl 2 (l.map Point.enc))),(1,.c (.i x)),(6,.c (.i k))] []) (λk=>l.length-k) 0 ⟨hl1,zcm _,by rw[a0];omega⟩ (by apply dB<;>simp) ?_
  rintro k ⟨hk,hs,hx⟩
  obtain⟨p,hp⟩:∃p,l[k]?=some p:=⟨_,zaa (by omega)⟩;obtain⟨q,hq⟩:∃p,l[k+1]?=some p:=⟨_,zaa (by omega)⟩;rw[nH hp]at hx;have i1:(k:Int)+1<l.length:=by omega
  have i2:(k:Int)<l.length:=by omega
  have i3:(0:Int)<=k+1:=by omega
  have i4:((k:Int)+1).toNat=k+1:=by omega
  have i5:inI ((k:Int)+1):=by unfold inI;omega
  simp -dsimp -implicitDefEqProofs [hp,hq,i1,i2,i3,i4,i5];refine⟨λh4=>⟨k+1,⟨?_,seg_next hs hq h4,by rw[nH hq];exact h4⟩,by omega,by apply dB<;>simp⟩,λh4=>?_⟩
  ·rcases zah (k+2) l.length with g|g
   ·omega
   ·have e:l.length-1=k+1:=by omega
    rw[e,hq]at ee;cases ee;omega
  ·exact ynw tf hp hq hx h4 (by rw[hv,ynR hs hq h4,nH hp,nH hq];rfl)
def least(f:Int->Bool)(lo:Int):Nat->Int
 |0=>lo
 |n+1=>if f lo then lo else least f (lo+1) n
theorem ymm{f:Int->Bool}:∀{n:Nat} {lo p:Int},lo<=p->p<=lo+n->f p=true->(∀z,lo<=z->z<p->f z=false)->least f lo n=p
 |0,lo,p,h1,h2,h3,h4=>by simp only[least];omega
 | n+1,lo,p,h1,h2,h3,h4=>by
  simp only[least]
  by_cases e:lo=p
  ·subst e;rw[if_pos h3]
  ·rw[if_neg (by rw[h4 lo (zbJ _) (by omega)];simp)];exact ymm (by omega) (by omega) h3 λz hz1 hz2=>h4 z (by omega) hz2
theorem yqG{a b d:Int}(ha:0<=a)(hab:a<=b)(hd:0<d):a.tdiv d<=b.tdiv d:=by
 rw[zbf ha,zbf (by omega)];exact Int.ediv_le_ediv hd hab
theorem ydd{l:List Point}(tf:TableFacts l){k:Nat}{p q:Point}(hp:l[k]?=some p)(hq:l[k+1]?=some q){x y:Int}(hx:p.X<=x)(hxy:x<=y):yb7 p q x<=yb7 p q y:=by
 have b3:=tf.up k p q hp hq;unfold yb7;have c1:0<=(x-p.X)*(q.Y-p.Y):=zcV (by omega) (by omega);have c2:(x-p.X)*(q.Y-p.Y)<=(y-p.X)*(q.Y-p.Y):=Int.mul_le_mul_of_nonneg_right (by omega) (by omega);have:=yqG c1 c2 (show 0<q.X-p.X by omega);omega
theorem yoP{l:List Point}(tf:TableFacts l){k:Nat}{p q:Point}(hp:l[k]?=some p)(hq:l[k+1]?=some q):yb7 p q p.X=p.Y/\yb7 p q q.X=q.Y:=by
 have b3:=tf.up k p q hp hq;unfold yb7;refine⟨by simp,?_⟩;rw[Int.mul_tdiv_cancel_left _ (by omega)];omega
theorem ytJ{α:Type}{p:α->Bool}:∀{l:List α} {i:Nat} {q:α},i<(l.takeWhile p).length->l[i]?=some q->p q=true
 |[],i,q,h,_=>by simp at h
 | x::l,i,q,h,hq=>by
  rw[zbA]at h;split at h
  ·rename_i hx;cases i with
   |zero=>simp at hq;subst hq;exact hx
   |succ i=>exact ytJ (l:=l) (i:=i) (by simpa using h) (by simpa using hq)
  ·simp at h
theorem ytA{α:Type}{p:α->Bool}:∀{l:List α} {q:α},l[(l.takeWhile p).length]?=some q->p q=false
 |[],q,h=>by simp at h
 | x::l,q,h=>by
  rw[zbA]at h;split at h
  ·exact ytA (l:=l) (by simpa using h)
  ·rename_i hx;simp at h;subst h;simpa using hx
theorem aY{l:List Point}(tf:TableFacts l):∀{j i:Nat} {p q:Point},i<=j->l[i]?=some p->l[j]?=some q->p.X<=q.X/\p.Y<=q.Y
 |0,i,p,q,h,hp,hq=>by
  have:i=0:=by omega
  subst this;rw[hp]at hq;cases hq;omega
 | j+1,i,p,q,h,hp,hq=>by
  rcases zah j i with h1|h1
  ·have:i=j+1:=by omega
   subst this;rw[hp]at hq;cases hq;omega
  ·have hj:=(zab.1 hq).1;obtain⟨r,hr⟩:∃r,l[j]?=some r:=⟨_,zaa (by omega)⟩;have e1:=aY tf h1 hp hr;have e2:=tf.up j r q hr hq;omega
theorem ywi{l:List Point}(tf:TableFacts l){x:Int}(h0:(bI l 0).X<=x)(h1:x<(bI l (l.length-1)).X):∃p q,l[seg l x]?=some p/\l[seg l x+1]?=some q/\p.X<=x/\x<q.X:=by
 obtain⟨hl1,hl2⟩:=tf.len
 have hlen:seg l x<=l.length-1:=by
  unfold seg;have:=(List.takeWhile_sublist (λq:Point=>decide (q.X<=x)) (l:=l.tail)).length_le;simpa using this
 obtain⟨e,he⟩:∃e,l[l.length-1]?=some e:=⟨_,zaa (by omega)⟩;rw[nH he]at h1
 have hp:∀p,l[seg l x]?=some p->p.X<=x:=by
  intro p hp;cases hs:seg l x with
  |zero=>rw[hs]at hp;rw[nH hp]at h0;exact h0
  |succ j=>
   rw[hs]at hp;have:=ytJ (p:=λq:Point=>decide (q.X<=x)) (l:=l.tail) (i:=j) (q:=p) (by show j<seg l x;omega) (by rw[zba];exact hp);simpa using this
 have hlt:seg l x<l.length-1:=by
  rcases zah (seg l x) (l.length-1)with h|h
  ·exact h
  ·have e1:seg l x=l.length-1:=by omega
   have:=hp e (by rw[e1];exact he);omega
 obtain⟨p,hp'⟩:∃p,l[seg l x]?=some p:=⟨_,zaa (by omega)⟩;obtain⟨q,hq'⟩:∃p,l[seg l x+1]?=some p:=⟨_,zaa (by omega)⟩;refine⟨p,q,hp',hq',hp p hp',?_⟩;have:=ytA (p:=λq:Point=>decide (q.X<=x)) (l:=l.tail) (q:=q) (by rw[zba];exact hq');simp at this;omega
theorem ymC{l:List Point}(h:fF l=true){x:Int}(h0:(bI l 0).X<x)(h1:x<(bI l (l.length-1)).X):iD l x=yb7 (bI l (seg l x)) (bI l (seg l x+1)) x:=by
 have g1:¬x<=(bI l 0).X:=by omega
 have g2:¬(bI l (l.length-1)).X<=x:=by omega
 simp[iD,h,g1,g2]
theorem yN{l:List Point}(h:fF l=true){x:Int}(h0:x<=(bI l 0).X):iD l x=(bI l 0).Y:=by simp[iD,h,h0]
theorem ybD{l:List Point}(h:fF l=true){x:Int}(h1:(bI l (l.length-1)).X<=x):iD l x=(bI l (l.length-1)).Y:=by
 have tf:=jX h;obtain⟨hl1,hl2⟩:=tf.len;obtain⟨e,he⟩:∃e,l[l.length-1]?=some e:=⟨_,zaa (by omega)⟩;obtain⟨p,hp⟩:∃e,l[0]?=some e:=⟨_,zaa (by omega)⟩;obtain⟨q,hq⟩:∃e,l[1]?=some e:=⟨_,zaa (by omega)⟩;have e1:=tf.up 0 p q hp hq;have e2:=aY tf (show 1<=l.length-1 by omega) hq he;have g1:¬x<=(bI l 0).X:=by rw[nH hp];rw[nH he]at h1;omega
 simp[iD,h,g1,h1]
theorem yb8{l:List Point}(h:fF l=true){x:Int}(h0:(bI l 0).X<x)(h1:x<(bI l (l.length-1)).X):
 ∃p q,l[seg l x]?=some p/\l[seg l x+1]?=some q/\p.X<=x/\x<q.X/\iD l x=yb7 p q x/\p.Y<=iD l x/\iD l x<=q.Y:=by
 have tf:=jX h;obtain⟨p,q,e1,e2,e3,e4⟩:=ywi tf (zcN h0) h1;have hv:=ymC h h0 h1;rw[nH e1,nH e2]at hv;have hen:=yoP tf e1 e2;have m1:=ydd tf e1 e2 (zbJ _) e3;have m2:=ydd tf e1 e2 e3 (zcN e4);exact⟨p,q,e1,e2,e3,e4,hv,by rw[hv];omega,by rw[hv];omega⟩
theorem ysk{l:List Point}(tf:TableFacts l){x y:Int}(hxy:x<=y){p q:Point}(hp:l[seg l x]?=some p)(hx:p.X<=x)(hq:l[seg l y+1]?=some q)(hy:y<q.X):seg l x<=seg l y:=by
 rcases zah (seg l y) (seg l x)with h|h
 ·have:=aY tf (show seg l y+1<=seg l x by omega) hq hp;omega
 ·exact h
theorem ybm{l:List Point}(h:fF l=true){x y:Int}(hxy:x<=y):iD l x<=iD l y:=by
 have tf:=jX h;obtain⟨hl1,hl2⟩:=tf.len;obtain⟨e,he⟩:∃e,l[l.length-1]?=some e:=⟨_,zaa (by omega)⟩;obtain⟨f,hf⟩:∃e,l[0]?=some e:=⟨_,zaa (by omega)⟩;have hfe:=aY tf (zcm _) hf he;rcases zct (bI l 0).X y with hy|hy
 ·rcases zct y (bI l (l.length-1)).X with hy2|hy2
  ·obtain⟨p',q',a1,a2,a3,a4,a5,a6,a7⟩:=yb8 h hy hy2;rcases zct (bI l 0).X x with hx|hx
   ·obtain⟨p,q,b1,b2,b3,b4,b5,b6,b7⟩:=yb8 h hx (by omega);have hs:=ysk tf hxy b1 b3 a2 a4;rcases zah (seg l x) (seg l y)with hlt|hge
    ·have:=aY tf (show seg l x+1<=seg l y by omega) b2 a1;omega
    ·have e1:seg l x=seg l y:=by omega
     rw[e1]at b1 b2;rw[b1]at a1;cases a1;rw[b2]at a2;cases a2;rw[a5,b5];exact ydd tf b1 b2 b3 hxy
   ·rw[yN h hx,nH hf];have:=aY tf (zcm _) hf a1;omega
  ·rw[ybD h hy2,nH he];rcases zct (bI l 0).X x with hx|hx
   ·rcases zct x (bI l (l.length-1)).X with hx2|hx2
    ·obtain⟨p,q,b1,b2,b3,b4,b5,b6,b7⟩:=yb8 h hx hx2;have hk:=(zab.1 b2).1;have:=aY tf (show seg l x+1<=l.length-1 by omega) b2 he;omega
    ·rw[ybD h hx2,nH he];omega
   ·rw[yN h hx,nH hf];omega
 ·rw[yN h hy,yN h (by omega)];omega
def sN(l:List Point)(y:Int):Int×Bool:=
 if fF l=true/\y<=(bI l (l.length-1)).Y then(least (λz=>decide (y<=iD l z)) (bI l 0).X ((bI l (l.length-1)).X-(bI l 0).X).toNat,true)else(0,false)
theorem yoh{l:List Point}{y:Int}(h:fF l=false):sN l y=(0,false):=by simp[sN,h]
theorem ymD{l:List Point}{y:Int}(h:(bI l (l.length-1)).Y<y):sN l y=(0,false):=by
 have:¬y<=(bI l (l.length-1)).Y:=by omega
 simp[sN,this]
theorem yox{l:List Point}{y p:Int}(h:fF l=true)(hy:y<=(bI l (l.length-1)).Y)(h0:(bI l 0).X<=p)(h1:p<=(bI l (l.length-1)).X)(hp:y<=iD l p)(hz:∀z,(bI l 0).X<=z->z<p->iD l z<y):sN l y=(p,true):=by
 simp only[sN,h,hy,and_self,if_true];rw[ymm (p:=p) h0 (by omega) (by simp[hp]) λz z1 z2=>by have:=hz z z1 z2;simp;omega]
theorem ybe{l:List Point}(h1:fF l=true):∃p0 pe,l[0]?=some p0/\l[l.length-1]?=some pe/\bI l 0=p0/\bI l (l.length-1)=pe/\0<=p0.X/\p0.X<=pe.X/\pe.X<=1000000000/\2<=l.length/\l.length<=20/\0<=pe.Y/\pe.Y<=1000000000:=by
 have tf:=jX h1;obtain⟨hl1,hl2⟩:=tf.len;obtain⟨p0,e0⟩:∃p,l[0]?=some p:=⟨_,zaa (by omega)⟩;obtain⟨pe,ee⟩:∃p,l[l.length-1]?=some p:=⟨_,zaa (by omega)⟩;have b1:=tf.pt _ _ e0;have b2:=tf.pt _ _ ee;have b3:=aY tf (zcm _) e0 ee;exact⟨p0,pe,e0,ee,nH e0,nH ee,b1.1.1,b3.1,b2.1.2,hl1,hl2,b2.2.1,b2.2.2⟩
theorem ykK(l:List Point)(y:Int):lC Tryz.prog 96 [.c (.sl 2 (l.map Point.enc)),.c (.i y)] (.tup [.c (.i (sN l y).1),.c (.b (sN l y).2)]):=by
 refine qB yhe ?_;simp -dsimp -implicitDefEqProofs;refine aA (ybp l) ?_;cases h1:fF l with
 |false=>
  simp -dsimp -implicitDefEqProofs;simp[yoh h1]
 | true=>
  obtain⟨p0,pe,e0,ee,a0,ae,b1,b2,b3,hl1,hl2,b4,b5⟩:=ybe h1;have f0:=(zab.1 e0).2;have l0:0<l.length:=by omega
  have l1:(1:Int)<=l.length:=by omega
  have l2:(l.length:Int)-1<l.length:=by omega
  have l3:inI ((l.length:Int)-1):=by unfold inI;omega
  simp -dsimp -implicitDefEqProofs [e0,ee,f0,l0,l1,l2,l3]
  refineλ_=>⟨λh2=>?_,λh2 _=>?_⟩
  ·simp[ymD (show(bI l (l.length-1)).Y<y by rw[ae];exact h2)]
  have hy:y<=(bI l (l.length-1)).Y:=by rw[ae];omega
  have he:y<=iD l pe.X:=by rw[ybD h1 (by rw[ae];exact zbJ _),ae];rw[ae]at hy;exact hy
  have hz:∀z,p0.X<=z->z<p0.X->iD l z<y:=λz z1 z2=>absurd z2 (by omega);have hz':∀z,p0.X<=z->z<=p0.X-1->iD l z<y:=λz z1 z2=>absurd z2 (by omega);refine qA (ι:=Int×Int) (λp=>p0.X<=p.1/\p.1<=p.2/\p.2<=pe.X/\y<=iD l p.2/\∀z,p0.X<=z->z<p.1->iD l z<y) (λp=>rD [(0,.c (.sl 2 (l.map Point.enc))),(1,.c (.i y)),(6,.c (.i p.1)),(7,.c (.i p.2))] []) (λp=>(p.2-p.1).toNat) (p0.X,pe.X) ⟨zbJ _,b2,zbJ _,he,hz⟩ (by apply dB<;>simp) ?_
  rintro⟨lo,hi⟩ ⟨c1,c2,c3,c4,c5⟩
  simp only at c1 c2 c3 c4 c5;have hq:(lo+hi).tdiv 2=(lo+hi)/2:=zbf (by omega);simp -dsimp -implicitDefEqProofs;refine⟨λh4=>⟨by unfold inI;omega,by rw[hq];unfold inI;omega,?_⟩,λh4=>?_⟩
  ·refine mF (ybu l ((lo+hi).tdiv 2)) (by simp) rfl ?_;simp -dsimp -implicitDefEqProofs;rw[hq];refine⟨λh5=>?_,λh5=>?_⟩
   ·exact⟨lo,(lo+hi)/2,⟨c1,by omega,by omega,h5,c5⟩,by omega,by apply dB<;>simp⟩
   ·refine⟨by unfold inI;omega,(lo+hi)/2+1,hi,⟨by omega,by omega,c3,c4,λz z1 z2=>?_⟩,by omega,by apply dB<;>simp⟩;have:=ybm h1 (show z<=(lo+hi)/2 by omega);omega
  ·have e:hi=lo:=by omega
   subst e;rw[yox h1 hy (by rw[a0];exact c1) (by rw[ae];exact c3) c4 (by rw[a0];exact c5)];simp
theorem yne{l:List Point}{y:Int}(h:(sN l y).2=true):fF l=true/\0<=(sN l y).1/\(sN l y).1<=1000000000:=by
 unfold sN at h|-;split at h
 ·rename_i hh;obtain⟨p0,pe,e0,ee,a0,ae,b1,b2,b3,hl1,hl2,b4,b5⟩:=ybe hh.1;rw[if_pos hh]
  have:∀(f:Int->Bool) (n:Nat) (lo:Int),lo<=least f lo n/\least f lo n<=lo+n:=by
   intro f n
   induction n with
   |zero=>intro lo;simp[least]
   |succ n ih=>
    intro lo;simp only[least];have:=ih (lo+1);split<;>omega
  have:=this (λz=>decide (y<=iD l z)) ((bI l (l.length-1)).X-(bI l 0).X).toNat (bI l 0).X;rw[a0,ae]at this;simp only[a0,ae];exact⟨hh.1,by omega,by omega⟩
 ·simp at h
def aF(r:Reach):Int:=if bC r then(if(sN r.Table r.Volume).2 then(sN r.Table r.Volume).1 else(bI r.Table (r.Table.length-1)).X)else 0
theorem yhg(r:Reach):0<=aF r/\aF r<=1000000000:=by
 unfold aF;split
 ·rename_i h;have ht:fF r.Table=true:=by simp[bC]at h;exact h.1.1.1.1
  obtain⟨p0,pe,e0,ee,a0,ae,b1,b2,b3,hl1,hl2,b4,b5⟩:=ybe ht;split
  ·rename_i hp;have:=yne hp;omega
  ·rw[ae];omega
 ·omega
theorem dN(r:Reach):lC Tryz.prog 66 [.agg (r.enc.map .c)] (.c (.i (aF r))):=by
 refine qB yiE ?_;simp -dsimp -implicitDefEqProofs;refine aA (rH r) ?_;cases h:bC r with
 |false=>simp -dsimp -implicitDefEqProofs;simp[aF,h]
 | true=>
  have ht:fF r.Table=true:=by simp[bC]at h;exact h.1.1.1.1
  obtain⟨p0,pe,e0,ee,a0,ae,b1,b2,b3,hl1,hl2,b4,b5⟩:=ybe ht;simp -dsimp -implicitDefEqProofs;refine aA (ykK r.Table r.Volume) ?_;cases hp:(sN r.Table r.Volume).2 with
  |false=>
   have l2:(r.Table.length:Int)-1<r.Table.length:=by omega
   have l3:inI ((r.Table.length:Int)-1):=by unfold inI;omega
   have l1:(1:Int)<=r.Table.length:=by omega
   simp -dsimp -implicitDefEqProofs [hp,ee,l1,l2,l3];intro _;simp[aF,h,hp,ae]
  |true=>simp -dsimp -implicitDefEqProofs [hp];simp[aF,h,hp]
@[simp] def Mover.iE(e:Mover):List C:=[.b e.Train.Up,.ot 1 (e.Train.Rows.map iI),.i e.Place]
theorem Mover.oH(e:Mover):mM e.iE=some e.enc:=by simp[Mover.iE,mM,nR jV]
def mkPt(k:Int):List C:=[.i k,.i (k+1)]
@[simp] def Reach.iE(e:Reach):List C:=[.ow 2 (e.Table.map Point.enc),.i e.Volume,.ow 1 (e.Pipe.map qC)]
theorem Reach.oH(e:Reach):mM e.iE=some e.enc:=by simp[Reach.iE,mM,C.shr]
def fM(k:Int)(e:Mover):List C:=[.b (decide (k.tmod 3=0)),.ot 1 (yfE fB nB (k+1) e.Train.Rows),.i (k+1+cnt nB e.Train.Rows)]
def nM(e:Mover):Nat:=1+cnt nB e.Train.Rows+1
theorem yuS{t:Train}(h:TrainFacts t):t.Rows.length<=6:=by
 have:∀l:List (List Boat),(∀r∈l,full r=true)->l.length<=l.flatten.length:=by
  intro l
  induction l with
  |nil=>simp
  |cons r l ih=>
   intro hl;have e1:=ih λx hx=>hl x (by simp[hx]);have e2:=ydE.1 (hl r (by simp));simp only[zaC,zbP,zau];omega
 have h1:=this t.Rows h.rows;have h2:=h.len;unfold Train.lD at h2;omega
theorem yfo{t:Train}(h:TrainFacts t){k:Nat}{r:List Boat}(hr:t.Rows[k]?=some r):1<=r.length/\r.length<=6/\∀b∈r,jH b=true:=by
 have h1:=ydE.1 (h.rows r (zac hr));obtain⟨m,e⟩:=yf5 hr;have h2:=h.len;rw[e]at h2;simp only[zau]at h2;exact⟨by omega,by omega,λb hb=>h.ok b (by rw[e];simp[hb])⟩
def sumF{α:Type}(f:α->Int)(l:List α)(k:Nat):Int:=((l.take k).map f).sum
theorem yeK{α:Type}{f:α->Int}{l:List α}:sumF f l 0=0:=rfl
theorem yfw{α:Type}{f:α->Int}{l:List α}{k:Nat}{x:α}(h:l[k]?=some x):sumF f l (k+1)=sumF f l k+f x:=by
 unfold sumF;rw[zar,h,zaN,List.sum_append];simp
theorem yd5{α:Type}{f:α->Int}{l:List α}{k:Nat}(h:l.length<=k):sumF f l k=(l.map f).sum:=by
 unfold sumF;rw[zaf h]
theorem ylC{α:Type}{f:α->Int}{l:List α}{c:Int}(hc:0<=c)(h:∀x∈l,0<=f x/\f x<=c):∀k:Nat,0<=sumF f l k/\sumF f l k<=c*k
 |0=>by simp[yeK]
 | k+1=>by
  have ih:=ylC hc h k;have e:c*((k+1:Nat):Int)=c*k+c:=by rw[Int.natCast_add,zdn];simp
  cases hk:l[k]? with
  |none=>
   have:l.length<=k:=by simpa using hk
   have e2:sumF f l (k+1)=sumF f l k:=by unfold sumF;rw[zaf (by omega),zaf this]
   rw[e2,e];omega
  |some x=>
   have:=h x (zac hk);rw[yfw hk,e];omega
def rowLen(r:List Boat):Int:=maxOf Boat.Length r 0
def rV(t:Train):Int:=if oC t then(t.Rows.map rowLen).sum else 0
theorem yqF{r:List Boat}(h:∀b∈r,jH b=true):0<=rowLen r/\rowLen r<=200:=
 yjb (λx hx=>by have:=yfq (h x hx);omega) (by omega) (by omega)
theorem yhb{t:Train}(h:TrainFacts t){k:Nat}(hk:k<=t.Rows.length):0<=sumF rowLen t.Rows k/\sumF rowLen t.Rows k<=1200:=by
 have h1:=ylC (f:=rowLen) (l:=t.Rows) (c:=200) (by omega) (λr hr=>by
  obtain⟨i,hi⟩:=zam hr;exact yqF (yfo h hi).2.2) k
 have:=yuS h;omega
theorem yfK(t:Train):0<=rV t/\rV t<=1200:=by
 unfold rV;split
 ·rename_i h;have:=yhb (qN h) (Nat.le_refl _);rw[yd5 (Nat.le_refl _)]at this;exact this
 ·omega
theorem yjD(t:Train)(h:t.small):lC Tryz.prog 99 [.agg (t.enc.map .c)] (.c (.i (rV t))):=by
 refine qB ygC ?_;simp -dsimp -implicitDefEqProofs;refine aA (dK t h) ?_;simp -dsimp -implicitDefEqProofs;refine⟨λh1=>by simp[rV,h1],λh1 hlen=>?_⟩;have tf:=qN h1;refine qA (ι:=Nat) (λk=>k<=t.Rows.length) (λk=>rD [(3,.c (.i (sumF rowLen t.Rows k))),(13,.c (.sl 1 (t.Rows.map iH))),(14,.c (.i t.Rows.length)),(15,.c (.i k))] []) (λk=>t.Rows.length-k) 0 (by simp) (by apply dB<;>simp[yeK]) ?_
 rintro k hk
 rcases zah k t.Rows.length with hlt|hge
 ·obtain⟨r,hr⟩:∃r,t.Rows[k]?=some r:=⟨_,zaa hlt⟩;simp -dsimp -implicitDefEqProofs [hr,kD hlt];intro hrl;refine qA (ι:=Nat) (λj=>j<=r.length) (λj=>rD [(3,.c (.i (sumF rowLen t.Rows k))),(13,.c (.sl 1 (t.Rows.map iH))),(14,.c (.i t.Rows.length)),(15,.c (.i k)),(6,.c (.i (ydY Boat.Length r 0 j))),(19,.c (.sl 6 (r.map Boat.enc))),(20,.c (.i r.length)),(21,.c (.i j))] []) (λj=>r.length-j) 0 (by simp) (by apply dB<;>simp[yhf]) ?_
  rintro j hj
  rcases zah j r.length with hlt2|hge2
  ·obtain⟨b,hb⟩:∃b,r[j]?=some b:=⟨_,zaa hlt2⟩;simp -dsimp -implicitDefEqProofs [hb,kD hlt2];refine⟨aC hlt2 hrl,j+1,hlt2,by omega,?_⟩;apply dB<;>simp[yhO hb]
  ·simp -dsimp -implicitDefEqProofs [eH hge2];have b1:=yhb tf hk;have b2:=yhb tf (show k+1<=t.Rows.length from hlt);have e:=yfw (f:=rowLen) hr;rw[ykr hge2];have e':sumF rowLen t.Rows (k+1)=sumF rowLen t.Rows k+maxOf Boat.Length r 0:=e;refine⟨by unfold inI;omega,aC hlt hlen,k+1,hlt,by omega,?_⟩;apply dB<;>simp[e']
 ·simp -dsimp -implicitDefEqProofs [eH hge];simp[rV,h1,yd5 hge]
def cZ(r:List Boat):Int:=(r.map Boat.Width).sum
def yoL(l:List (List Boat)):Int:=l.foldl (λm r=>if m<cZ r then cZ r else m) 0
def mZ(l:List (List Boat))(k:Nat):Int:=yoL (l.take k)
theorem ynk{l:List (List Boat)}:mZ l 0=0:=rfl
theorem yna{l:List (List Boat)}{k:Nat}{r:List Boat}(h:l[k]?=some r):mZ l (k+1)=if mZ l k<cZ r then cZ r else mZ l k:=by
 unfold mZ yoL;rw[zar,h,zcy];rfl
theorem ypb{l:List (List Boat)}{k:Nat}(h:l.length<=k):mZ l k=yoL l:=by
 unfold mZ;rw[zaf h]
def nK(t:Train):Int:=if oC t then yoL t.Rows else 0
theorem ymA{r:List Boat}(h:∀b∈r,jH b=true)(h6:r.length<=6){k:Nat}(hk:k<=r.length):0<=sumF Boat.Width r k/\sumF Boat.Width r k<=180:=by
 have:=ylC (f:=Boat.Width) (l:=r) (c:=30) (by omega) (λb hb=>by have:=yfq (h b hb);omega) k;omega
theorem yuG{l:List (List Boat)}(h:∀r∈l,0<=cZ r/\cZ r<=180):0<=yoL l/\yoL l<=180:=by
 unfold yoL
 have:∀(l:List (List Boat)) (z:Int),(∀r∈l,0<=cZ r/\cZ r<=180)->0<=z->z<=180->0<=l.foldl (λm r=>if m<cZ r then cZ r else m) z/\l.foldl (λm r=>if m<cZ r then cZ r else m) z<=180:=by
  intro l
  induction l with
  |nil=>intro z _ h1 h2;exact⟨h1,h2⟩
  |cons r l ih=>
   intro z h h1 h2;have:=h r (by simp);rw[zcc];refine ih _ (λy hy=>h y (by simp[hy])) ?_ ?_<;>split<;>omega
 exact this l 0 h (by omega) (by omega)
theorem yhK(t:Train):0<=nK t/\nK t<=180:=by
 unfold nK;split
 ·rename_i h;refine yuG λr hr=>?_;obtain⟨i,hi⟩:=zam hr;obtain⟨a1,a2,a3⟩:=yfo (qN h) hi;have:=ymA a3 a2 (Nat.le_refl _);rw[yd5 (Nat.le_refl _)]at this;exact this
 ·omega
theorem ylX(t:Train)(h:t.small):lC Tryz.prog 98 [.agg (t.enc.map .c)] (.c (.i (nK t))):=by
 refine qB yhp ?_;simp -dsimp -implicitDefEqProofs;refine aA (dK t h) ?_;simp -dsimp -implicitDefEqProofs;refine⟨λh1=>by simp[nK,h1],λh1 hlen=>?_⟩;have tf:=qN h1;refine qA (ι:=Nat) (λk=>k<=t.Rows.length) (λk=>rD [(3,.c (.i (mZ t.Rows k))),(13,.c (.sl 1 (t.Rows.map iH))),(14,.c (.i t.Rows.length)),(15,.c (.i k))] []) (λk=>t.Rows.length-k) 0 (by simp) (by apply dB<;>simp[ynk]) ?_
 rintro k hk
 rcases zah k t.Rows.length with hlt|hge
 ·obtain⟨r,hr⟩:∃r,t.Rows[k]?=some r:=⟨_,zaa hlt⟩;obtain⟨a1,a2,a3⟩:=yfo tf hr;simp -dsimp -implicitDefEqProofs [hr,kD hlt];intro hrl;refine qA (ι:=Nat) (λj=>j<=r.length) (λj=>rD [(3,.c (.i (mZ t.Rows k))),(13,.c (.sl 1 (t.Rows.map iH))),(14,.c (.i t.Rows.length)),(15,.c (.i k)),(6,.c (.i (sumF Boat.Width r j))),(19,.c (.sl 6 (r.map Boat.enc))),(20,.c (.i r.length)),(21,.c (.i j))] []) (λj=>r.length-j) 0 (by simp) (by apply dB<;>simp[yeK]) ?_
  rintro j hj
  rcases zah j r.length with hlt2|hge2
  ·obtain⟨b,hb⟩:∃b,r[j]?=some b:=⟨_,zaa hlt2⟩;have b1:=ymA a3 a2 (show j+1<=r.length from hlt2);have e:=yfw (f:=Boat.Width) hb;simp -dsimp -implicitDefEqProofs [hb,kD hlt2];refine⟨by unfold inI;omega,aC hlt2 hrl,j+1,hlt2,by omega,?_⟩;apply dB<;>simp[e]
  ·simp -dsimp -implicitDefEqProofs [eH hge2];rw[yd5 hge2];have e:mZ t.Rows (k+1)=if mZ t.Rows k<(r.map Boat.Width).sum then(r.map Boat.Width).sum else mZ t.Rows k:=yna hr
   refine⟨aC hlt hlen,k+1,hlt,by omega,?_⟩;apply dB<;>simp[e]
 ·simp -dsimp -implicitDefEqProofs [eH hge];simp[nK,h1,ypb hge]
theorem yeG{α β:Type}{f:α->β}{l:List α}:(l.map f).take l.length=l.map f:=zaf (by simp)
def kE(t:Train):List Int:=if oC t then t.lD.map dZ else[]
def oZ(t:Train)(k:Nat):List Int:=(t.lD.take k).map dZ
theorem yas{t:Train}:oZ t 0=[]:=rfl
theorem yfL{t:Train}{k:Nat}{b:Boat}(h:t.lD[k]?=some b):oZ t (k+1)=oZ t k++[b.Id]:=by
 unfold oZ;rw[zar,h,zaN];rfl
theorem yhE{t:Train}{k:Nat}(h:t.lD.length<=k):oZ t k=t.lD.map dZ:=by
 unfold oZ;rw[zaf h]
theorem yiS{t:Train}{k:Nat}(h:k<=t.lD.length):(oZ t k).length=k:=by
 unfold oZ;simp;omega
theorem jY(t:Train)(h:t.small):lC Tryz.prog 22 [.agg (t.enc.map .c)] (.c (.sl 1 ((kE t).map qC))):=by
 refine qB yk2 ?_;simp -dsimp -implicitDefEqProofs;refine aA (dK t h) ?_;cases h1:oC t with
 |false=>simp -dsimp -implicitDefEqProofs;simp[kE,h1]
 | true=>
  have tf:=qN h1;have h6:=tf.len;simp -dsimp -implicitDefEqProofs;refine xG (ykw t h) ?_;simp -dsimp -implicitDefEqProofs;intro hlen;refine yE (k0:=1) 3 1 (by simp) (by simp) (by decide) ?_;refine qA (ι:=Nat) (λk=>k<=t.lD.length) (λk=>rD [(3,.own 3 1 (oZ t k).length),(10,.c (.sl 6 (t.lD.map Boat.enc))),(11,.c (.i t.lD.length)),(12,.c (.i k))] [(3,.row 1 ((oZ t k).map qC))]) (λk=>t.lD.length-k) 0 (by simp) (by apply dB<;>simp[yas]) ?_
  rintro k hk
  have hkl:=yiS hk;rcases zah k t.lD.length with hlt|hge
  ·obtain⟨b,hb⟩:∃b,t.lD[k]?=some b:=⟨_,zaa hlt⟩;simp -dsimp -implicitDefEqProofs [hb,kD hlt];refine⟨by omega,aC hlt hlen,k+1,hlt,by omega,?_⟩;apply dB<;>simp[yfL hb]
  ·simp -dsimp -implicitDefEqProofs [eH hge];rw[yeG,yhE hge];simp[kE,h1]
theorem yo1(t:Train)(h:t.small):lC Tryz.prog 195 [.agg (t.enc.map .c)] (.c (.sl 1 ((kE t).map qC))):=by
 refine qB ylj ?_;simp -dsimp -implicitDefEqProofs;refine xG (yiK t h) ?_;simp -dsimp -implicitDefEqProofs;refine qA (ι:=Nat) (λk=>k<=t.lD.length/\(k≠0->oC t=true)) (λk=>rD [(1,.box 1 0),(3,.own 6 1 (oZ t k).length),(4,.c (.sl 6 (t.lD.map Boat.enc))),(5,.c (.i k))] [(1,.box (t.enc.map .c)),(6,.row 1 ((oZ t k).map qC))]) (λk=>t.lD.length-k) 0 (by simp) (by apply dB<;>simp[yas]) ?_
 rintro k ⟨hk,hok⟩
 have hkl:=yiS hk
 have fin:oC t=false->k=0:=λh1=>by
  rcases zaK k with e|e
  ·exact e
  ·rw[hok (by omega)]at h1;cases h1
 rcases zah k t.lD.length with hlt|hge
 ·obtain⟨b,hb⟩:∃b,t.lD[k]?=some b:=⟨_,zaa hlt⟩;simp -dsimp -implicitDefEqProofs [hb,kD hlt];intro hlen;refine aA (xR t h) ?_;cases h1:oC t with
  |false=>
   have:=fin h1;subst this;simp -dsimp -implicitDefEqProofs;simp[kE,h1,yas]
  |true=>
   have h6:=(qN h1).len;simp -dsimp -implicitDefEqProofs [hb,kD hlt];refine⟨by omega,aC hlt hlen,k+1,by first|exact⟨hlt,λ_=>h1⟩|exact hlt,by omega,?_⟩;apply dB<;>simp[yfL hb]
 ·simp -dsimp -implicitDefEqProofs [eH hge];intro _;rw[yeG]
  by_cases h1:oC t=true
  ·rw[yhE hge];simp[kE,h1]
  ·have:=fin (by simpa using h1);subst this;simp[kE,h1,yas]
theorem ylV{t:Train}(h:oC t=true):(kE t).length<=6:=by
 have:=(qN h).len;simp[kE,h];omega
theorem yxx{t:Train}(h:oC t=true):(kE t).Nodup:=by
 have:=(qN h).nd;simp only[kE,h,if_true];exact this
def iL:List Train->Prop:=lN Train.small
structure Lock where
 Length:Int
 Width:Int
 SillAbove:Int
 SillBelow:Int
 Base:Int
 Area:Int
 Rate:Int
 Water:Int
 Gate:Int
 Inside:List Train
 deriving DecidableEq,Inhabited
@[simp] def Lock.enc(e:Lock):List C:=[.i e.Length,.i e.Width,.i e.SillAbove,.i e.SillBelow,.i e.Base,.i e.Area,.i e.Rate,.i e.Water,.i e.Gate,.sl 2 (e.Inside.map Train.enc)]
-- Lock
def Lock.small(e:Lock):Prop:=iL e.Inside
structure Weir where
 Gates:Int
 Open:Int
 Step:Int
 Crest:Int
 Width:Int
 deriving DecidableEq,Inhabited
@[simp] def Weir.enc(e:Weir):List C:=[.i e.Gates,.i e.Open,.i e.Step,.i e.Crest,.i e.Width]
-- Weir
structure Rule where
 Low:Int
 High:Int
 Flood:Int
 deriving DecidableEq,Inhabited
@[simp] def Rule.enc(e:Rule):List C:=[.i e.Low,.i e.High,.i e.Flood]
-- Rule
structure Pause where
 From:Int
 Until:Int
 deriving DecidableEq,Inhabited
@[simp] def Pause.enc(e:Pause):List C:=[.i e.From,.i e.Until]
-- Pause
def yly:List Pause->Prop:=lN λ_=>True
structure Turn where
 Up:Bool
 Count:Int
 deriving DecidableEq,Inhabited
@[simp] def Turn.enc(e:Turn):List C:=[.b e.Up,.i e.Count]
-- Turn
structure CallT where
 Train:Train
 Since:Int
 Booked:Int
 deriving DecidableEq,Inhabited
@[simp] def CallT.enc(e:CallT):List C:=[.b e.Train.Up,.sl 1 (e.Train.Rows.map iH),.i e.Since,.i e.Booked]
-- Call
def CallT.small(e:CallT):Prop:=e.Train.small
def yfV:List CallT->Prop:=lN CallT.small
structure Work where
 Lock:Lock
 Weir:Weir
 Rule:Rule
 Pauses:List Pause
 Turn:Turn
 Calls:List CallT
 deriving DecidableEq,Inhabited
@[simp] def Work.enc(e:Work):List C:=[.i e.Lock.Length,.i e.Lock.Width,.i e.Lock.SillAbove,.i e.Lock.SillBelow,.i e.Lock.Base,.i e.Lock.Area,.i e.Lock.Rate,.i e.Lock.Water,.i e.Lock.Gate,.sl 2 (e.Lock.Inside.map Train.enc),.i e.Weir.Gates,.i e.Weir.Open,.i e.Weir.Step,.i e.Weir.Crest,.i e.Weir.Width,.i e.Rule.Low,.i e.Rule.High,.i e.Rule.Flood,.sl 2 (e.Pauses.map Pause.enc),.b e.Turn.Up,.i e.Turn.Count,.sl 4 (e.Calls.map CallT.enc)]
-- Work
def Work.small(e:Work):Prop:=e.Lock.small/\yly e.Pauses/\yfV e.Calls
def qF(w:Weir):Bool:=inRange w.Gates 1 8&&inRange w.Open 0 (10*w.Gates)&&inRange w.Step 1 80&&inRange w.Crest 0 100000&&inRange w.Width 1 1000
theorem gV(w:Weir):lC Tryz.prog 119 [.agg (w.enc.map .c)] (.c (.b (qF w))):=by
 refine qB yjN ?_;simp -dsimp -implicitDefEqProofs;refine aA (gB w.Gates 1 8) ?_;cases h0:inRange w.Gates 1 8 with
 |false=>simp -dsimp -implicitDefEqProofs;simp[qF,h0]
 |true=>
 simp -dsimp -implicitDefEqProofs;refine⟨by have:=jA.1 h0;unfold inI;omega,?_⟩;refine aA (gB w.Open 0 (10*w.Gates)) ?_;cases h1:inRange w.Open 0 (10*w.Gates)with
 |false=>simp -dsimp -implicitDefEqProofs;simp[qF,h0,h1]
 |true=>
 simp -dsimp -implicitDefEqProofs;refine aA (gB w.Step 1 80) ?_;cases h2:inRange w.Step 1 80 with
 |false=>simp -dsimp -implicitDefEqProofs;simp[qF,h0,h1,h2]
 |true=>
 simp -dsimp -implicitDefEqProofs;refine aA (gB w.Crest 0 100000) ?_;cases h3:inRange w.Crest 0 100000 with
 |false=>simp -dsimp -implicitDefEqProofs;simp[qF,h0,h1,h2,h3]
 |true=>
 simp -dsimp -implicitDefEqProofs;refine aA (gB w.Width 1 1000) ?_;cases h4:inRange w.Width 1 1000 with
 |false=>simp -dsimp -implicitDefEqProofs;simp[qF,h0,h1,h2,h3,h4]
 |true=>
  simp -dsimp -implicitDefEqProofs;simp[qF,h0,h1,h2,h3,h4]
theorem ynP(w:Weir):lC Tryz.prog 186 [.agg (w.enc.map .c)] (.c (.b (qF w))):=by
 refine qB yjP ?_;simp -dsimp -implicitDefEqProofs;refine aA (jB w.Gates 1 8) ?_;cases h0:inRange w.Gates 1 8 with
 |false=>simp -dsimp -implicitDefEqProofs;simp[qF,h0]
 |true=>
 simp -dsimp -implicitDefEqProofs;refine⟨by have:=jA.1 h0;unfold inI;omega,?_⟩;refine aA (jB w.Open 0 (10*w.Gates)) ?_;cases h1:inRange w.Open 0 (10*w.Gates)with
 |false=>simp -dsimp -implicitDefEqProofs;simp[qF,h0,h1]
 |true=>
 simp -dsimp -implicitDefEqProofs;refine aA (jB w.Step 1 80) ?_;cases h2:inRange w.Step 1 80 with
 |false=>simp -dsimp -implicitDefEqProofs;simp[qF,h0,h1,h2]
 |true=>
 simp -dsimp -implicitDefEqProofs;refine aA (jB w.Crest 0 100000) ?_;cases h3:inRange w.Crest 0 100000 with
 |false=>simp -dsimp -implicitDefEqProofs;simp[qF,h0,h1,h2,h3]
 |true=>
 simp -dsimp -implicitDefEqProofs;refine aA (jB w.Width 1 1000) ?_;cases h4:inRange w.Width 1 1000 with
 |false=>simp -dsimp -implicitDefEqProofs;simp[qF,h0,h1,h2,h3,h4]
 |true=>
  simp -dsimp -implicitDefEqProofs;simp[qF,h0,h1,h2,h3,h4]
def qK(r:Rule):Bool:=inRange r.Low 0 100000&&inRange r.High 0 100000&&inRange r.Flood 0 100000&&decide (r.Low<r.High)&&decide (r.High<=r.Flood)
theorem yb6(r:Rule):lC Tryz.prog 120 [.agg (r.enc.map .c)] (.c (.b (qK r))):=by
 refine qB yjR ?_;simp -dsimp -implicitDefEqProofs;refine aA (gB r.Low 0 100000) ?_;cases h0:inRange r.Low 0 100000 with
 |false=>simp -dsimp -implicitDefEqProofs;simp[qK,h0]
 |true=>
 simp -dsimp -implicitDefEqProofs;refine aA (gB r.High 0 100000) ?_;cases h1:inRange r.High 0 100000 with
 |false=>simp -dsimp -implicitDefEqProofs;simp[qK,h0,h1]
 |true=>
 simp -dsimp -implicitDefEqProofs;refine aA (gB r.Flood 0 100000) ?_;cases h2:inRange r.Flood 0 100000 with
 |false=>simp -dsimp -implicitDefEqProofs;simp[qK,h0,h1,h2]
 |true=>
 simp -dsimp -implicitDefEqProofs;simp[qK,h0,h1,h2];exact⟨λh _=>h,λa b=>by omega⟩
theorem yl9(r:Rule):lC Tryz.prog 187 [.agg (r.enc.map .c)] (.c (.b (qK r))):=by
 refine qB yjw ?_;simp -dsimp -implicitDefEqProofs;refine aA (gU r.Low) ?_;cases h0:inRange r.Low 0 100000 with
 |false=>simp -dsimp -implicitDefEqProofs;simp[qK,h0]
 |true=>
 simp -dsimp -implicitDefEqProofs;refine aA (gU r.High) ?_;cases h1:inRange r.High 0 100000 with
 |false=>simp -dsimp -implicitDefEqProofs;simp[qK,h0,h1]
 |true=>
 simp -dsimp -implicitDefEqProofs;refine aA (gU r.Flood) ?_;cases h2:inRange r.Flood 0 100000 with
 |false=>simp -dsimp -implicitDefEqProofs;simp[qK,h0,h1,h2]
 |true=>
 simp -dsimp -implicitDefEqProofs;simp[qK,h0,h1,h2];exact⟨λh _=>h,λa b=>by omega⟩
def yfs(t:Turn):Bool:=inRange t.Count 0 1000000
theorem ymE(t:Turn):lC Tryz.prog 122 [.agg (t.enc.map .c)] (.c (.b (yfs t))):=by
 refine qB yjG ?_;simp -dsimp -implicitDefEqProofs;refine aA (gB t.Count 0 1000000) ?_;simp -dsimp -implicitDefEqProofs
 try rfl
theorem ynm(t:Turn):lC Tryz.prog 188 [.agg (t.enc.map .c)] (.c (.b (yfs t))):=by
 refine qB yjl ?_;simp -dsimp -implicitDefEqProofs;refine aA (jB t.Count 0 1000000) ?_;simp -dsimp -implicitDefEqProofs
 try rfl
def oK(c:CallT):Bool:=oC c.Train&&inRange c.Since 0 1000000&&inRange c.Booked (-1) 1000000
theorem ynU(c:CallT)(h:c.small):lC Tryz.prog 123 [.agg (c.enc.map .c)] (.c (.b (oK c))):=by
 refine qB yjE ?_;simp -dsimp -implicitDefEqProofs;refine aA (dK c.Train h) ?_;cases h0:oC c.Train with
 |false=>simp -dsimp -implicitDefEqProofs;simp[oK,h0]
 |true=>
 simp -dsimp -implicitDefEqProofs;refine aA (gB c.Since 0 1000000) ?_;cases h1:inRange c.Since 0 1000000 with
 |false=>simp -dsimp -implicitDefEqProofs;simp[oK,h0,h1]
 |true=>
 simp -dsimp -implicitDefEqProofs;refine aA (gB c.Booked (-1) 1000000) ?_;cases h2:inRange c.Booked (-1) 1000000 with
 |false=>simp -dsimp -implicitDefEqProofs;simp[oK,h0,h1,h2]
 |true=>
  simp -dsimp -implicitDefEqProofs;simp[oK,h0,h1,h2]
theorem ymn(c:CallT)(h:c.small):lC Tryz.prog 184 [.agg (c.enc.map .c)] (.c (.b (oK c))):=by
 refine qB yjq ?_;simp -dsimp -implicitDefEqProofs;refine aA (xR c.Train h) ?_;cases h0:oC c.Train with
 |false=>simp -dsimp -implicitDefEqProofs;simp[oK,h0]
 |true=>
 simp -dsimp -implicitDefEqProofs;refine aA (jB c.Since 0 1000000) ?_;cases h1:inRange c.Since 0 1000000 with
 |false=>simp -dsimp -implicitDefEqProofs;simp[oK,h0,h1]
 |true=>
 simp -dsimp -implicitDefEqProofs;refine aA (jB c.Booked (-1) 1000000) ?_;cases h2:inRange c.Booked (-1) 1000000 with
 |false=>simp -dsimp -implicitDefEqProofs;simp[oK,h0,h1,h2]
 |true=>
  simp -dsimp -implicitDefEqProofs;simp[oK,h0,h1,h2]
def fP(b:Int)(p:Pause):Bool:=!decide (p.From<b)&& !decide (p.Until<=p.From)&& !decide (1000000<p.Until)
def oL:Int->List Pause->Bool
 |_,[]=>true
 |b,p::l=>fP b p&&oL p.Until l
def jJ(l:List Pause):Bool:=decide (l.length<=8)&&oL 0 l
theorem yfT{l:List Pause}{k:Nat}{p:Pause}{b:Int}(h:l[k]?=some p):oL b (l.drop k)=(fP b p&&oL p.Until (l.drop (k+1))):=by
 have hlt:=(zab.1 h).1;rw[zaM hlt,(zab.1 h).2];rfl
theorem yju(l:List Pause):lC Tryz.prog 121 [.c (.sl 2 (l.map Pause.enc))] (.c (.b (jJ l))):=by
 refine qB ygB ?_;simp -dsimp -implicitDefEqProofs;intro hlen;refine⟨λh8=>(by simp[jJ];omega),λh8=>?_⟩
 refineλ_=>qA (ι:=Nat×Int) (λq=>q.1<=l.length/\oL q.2 (l.drop q.1)=oL 0 l) (λq=>rD [(3,.c (.i q.2)),(9,.c (.sl 2 (l.map Pause.enc))),(10,.c (.i l.length)),(11,.c (.i q.1))] []) (λq=>l.length-q.1) (0,0) (by simp) (by apply dB<;>simp) ?_
 rintro⟨k,b⟩ ⟨hk,hf⟩
 simp only at hk hf;rcases zah k l.length with hlt|hge
 ·obtain⟨p,hp⟩:∃p,l[k]?=some p:=⟨_,zaa hlt⟩;rw[yfT hp]at hf;have bad:fP b p=false->jJ l=false:=λe=>by rw[e,zbm]at hf;simp[jJ,<-hf]
  simp -dsimp -implicitDefEqProofs [hp,kD hlt];refine⟨λh1=>?_,λh1=>(bad (by simp[fP];omega))⟩;refine⟨λh2=>?_,λh2=>(bad (by simp[fP];omega))⟩;refine⟨λh3=>(bad (by simp[fP];omega)),λh3=>?_⟩;have hok:fP b p=true:=by simp[fP];omega
  rw[hok,zbz]at hf;exact⟨aC hlt hlen,k+1,p.Until,⟨hlt,hf⟩,by omega,by apply dB<;>simp⟩
 ·simp -dsimp -implicitDefEqProofs [eH hge];rw[zcI hge]at hf;have h8':l.length<=8:=by omega
  simp[jJ,h8',<-hf,oL]
theorem ycV(l:List Pause):lC Tryz.prog 40 [.c (.sl 2 (l.map Pause.enc))] (.c (.b (jJ l))):=by
 refine qB ygl ?_;simp -dsimp -implicitDefEqProofs;refine qA (ι:=Nat×Int) (λq=>q.1<=l.length/\oL q.2 (l.drop q.1)=oL 0 l) (λq=>rD [(0,.c (.sl 2 (l.map Pause.enc))),(3,.c (.i q.2)),(4,.c (.i q.1))] []) (λq=>l.length-q.1) (0,0) (by simp) (by apply dB<;>simp) ?_
 rintro⟨k,b⟩ ⟨hk,hf⟩
 simp only at hk hf;rcases zah k l.length with hlt|hge
 ·obtain⟨p,hp⟩:∃p,l[k]?=some p:=⟨_,zaa hlt⟩;rw[yfT hp]at hf;have bad:fP b p=false->jJ l=false:=λe=>by rw[e,zbm]at hf;simp[jJ,<-hf]
  simp -dsimp -implicitDefEqProofs [hp,kD hlt];intro hlen;refine⟨λh1=>?_,λh1=>(bad (by simp[fP];omega))⟩;refine⟨λh2=>?_,λh2=>(bad (by simp[fP];omega))⟩;refine⟨λh3=>(bad (by simp[fP];omega)),λh3=>?_⟩;have hok:fP b p=true:=by simp[fP];omega
  rw[hok,zbz]at hf;exact⟨aC hlt hlen,k+1,p.Until,⟨hlt,hf⟩,by omega,by apply dB<;>simp⟩
 ·simp -dsimp -implicitDefEqProofs [eH hge];rw[zcI hge]at hf;simp[jJ,<-hf,oL]
  try omega
def aG(l:List Train)(k:Nat):List Int:=(l.take k).flatMap kE
def seenAt(l:List Train)(k:Nat)(t:Train)(j:Nat):List Int:=aG l k++(kE t).take j
def Distinct(l:List Train):Bool:=decide (l.length<=8)&&l.all oC&&decide ((l.flatMap kE).Nodup)
theorem yj{l:List Train}:aG l 0=[]:=rfl
theorem yg{l:List Train}{k:Nat}{t:Train}(h:l[k]?=some t):aG l (k+1)=aG l k++kE t:=by
 unfold aG;rw[zar,h,zbU];simp
theorem yf2{l:List Train}{k:Nat}(h:l.length<=k):aG l k=l.flatMap kE:=by
 unfold aG;rw[zaf h]
theorem yjz{l:List Train}{k:Nat}{t:Train}(h:l[k]?=some t):∃m,l.flatMap kE=aG l k++kE t++m:=by
 refine⟨(l.drop (k+1)).flatMap kE,?_⟩;rw[<-yg h];unfold aG;rw[<-zbU,zbd]
theorem yf9{l:List Train}{k:Nat}{t:Train}:seenAt l k t 0=aG l k:=by simp[seenAt]
theorem yfO{l:List Train}{k j:Nat}{t:Train}{x:Int}(h:(kE t)[j]?=some x):seenAt l k t (j+1)=seenAt l k t j++[x]:=by
 unfold seenAt;rw[zar,h];simp
theorem yi3{l:List Train}{k j:Nat}{t:Train}(ht:l[k]?=some t)(h:(kE t).length<=j):seenAt l k t j=aG l (k+1):=by
 unfold seenAt;rw[zaf h,yg ht]
theorem yfQ{l:List Train}(k:Nat)(h:∀t∈l.take k,oC t=true):(aG l k).length<=6*k:=by
 have key:∀(m:List Train),(∀t∈m,oC t=true)->(m.flatMap kE).length<=6*m.length:=by
  intro m
  induction m with
  |nil=>simp
  |cons t m ih=>
   intro hm;have h1:=ylV (hm t (by simp));have h2:=ih λx hx=>hm x (by simp[hx]);simp only[zbt,zau,zaC];omega
 have:=key (l.take k) h;have h2:(l.take k).length<=k:=by rw[zaY];omega
 unfold aG;omega
theorem twice{l:List Train}{k j:Nat}{t:Train}{x:Int}(ht:l[k]?=some t)(hx:(kE t)[j]?=some x)(hm:x∈seenAt l k t j):Distinct l=false:=by
 have:¬(l.flatMap kE).Nodup:=by
  intro hn;obtain⟨m,e⟩:=yjz ht;have hlt:=(zab.1 hx).1
  have e2:kE t=(kE t).take j++x::(kE t).drop (j+1):=by
   conv=>lhs;rw[<-zbd j (kE t)]
   rw[zaM hlt,(zab.1 hx).2]
  have e3:l.flatMap kE=seenAt l k t j++x::((kE t).drop (j+1)++m):=by
   rw[e];unfold seenAt;conv=>lhs;rw[e2]
   simp
  rw[e3]at hn;exact(zaU.1 hn).2.2 x hm x (by simp) rfl
 simp[Distinct,this]
theorem yko{l:List Train}{k:Nat}{t:Train}(ht:l[k]?=some t)(h:oC t=false):Distinct l=false:=by
 have:l.all oC=false:=all_false (p:=oC) ht h;simp only[Distinct,this,zbc,zbm]
theorem yaT(l:List Train)(hs:iL l):lC Tryz.prog 97 [.c (.sl 2 (l.map Train.enc))] (.c (.b (Distinct l))):=by
 refine qB ybX ?_;simp -dsimp -implicitDefEqProofs;intro hlen;refine⟨λh8=>(by simp[Distinct];omega),λh8=>?_⟩;intro _;refine yE (k0:=1) 3 1 (by simp) (by simp) (by decide) ?_;refine qA (ι:=Nat) (λk=>k<=l.length/\(∀t∈l.take k,oC t=true)/\(aG l k).Nodup) (λk=>rD [(3,.own 3 1 (aG l k).length),(11,.c (.sl 2 (l.map Train.enc))),(12,.c (.i l.length)),(13,.c (.i k))] [(3,.row 1 ((aG l k).map qC))]) (λk=>l.length-k) 0 (by simp[yj]) (by apply dB<;>simp[yj]) ?_
 rintro k ⟨hk,hall,hnd⟩
 rcases zah k l.length with hlt|hge
 ·obtain⟨t,ht⟩:∃t,l[k]?=some t:=⟨_,zaa hlt⟩;have hts:=hs.2 t (zac ht);simp -dsimp -implicitDefEqProofs [ht,kD hlt];refine aA (dK t hts) ?_;cases h1:oC t with
  |false=>simp -dsimp -implicitDefEqProofs;exact yko ht h1
  | true=>
   have hall':=iC (p:=oC) ht hall h1;have hil:=ylV h1;have hul:=yfQ k hall;simp -dsimp -implicitDefEqProofs;refine xG (jY t hts) ?_;simp -dsimp -implicitDefEqProofs;intro _;refine qA (ι:=Nat) (λj=>j<=(kE t).length/\(seenAt l k t j).Nodup) (λj=>rD [(3,.own 3 1 (seenAt l k t j).length),(11,.c (.sl 2 (l.map Train.enc))),(12,.c (.i l.length)),(13,.c (.i k)),(21,.c (.sl 1 ((kE t).map qC))),(22,.c (.i (kE t).length)),(23,.c (.i j))] [(3,.row 1 ((seenAt l k t j).map qC))]) (λj=>(kE t).length-j) 0 ⟨by simp,by rw[yf9];exact hnd⟩ (by apply dB<;>simp[yf9]) ?_
   rintro j ⟨hj,hnj⟩
   have hsl:(seenAt l k t j).length<=60:=by unfold seenAt;rw[zau,zaY];omega
   rcases zah j (kE t).length with hlt2|hge2
   ·obtain⟨x,hx⟩:∃x,(kE t)[j]?=some x:=⟨_,zaa hlt2⟩;simp -dsimp -implicitDefEqProofs [hx,kD hlt2];refine mF (yhR (seenAt l k t j) x) (by simp[yeG]) rfl ?_;simp -dsimp -implicitDefEqProofs;refine⟨λh2=>(twice ht hx h2),λh2=>?_⟩
    have hn2:(seenAt l k t (j+1)).Nodup:=by
     rw[yfO hx];exact zaU.2 ⟨hnj,by simp,λa ha b hb e=>by simp at hb;subst hb;subst e;exact h2 ha⟩
    refine⟨by omega,by unfold inI;omega,j+1,⟨hlt2,hn2⟩,by omega,?_⟩;apply dB<;>simp[yfO hx]
   ·simp -dsimp -implicitDefEqProofs [eH hge2];rw[yi3 ht hge2]at hnj;refine⟨by unfold inI;omega,k+1,⟨hlt,hall',hnj⟩,by omega,?_⟩;apply dB<;>simp[yi3 ht hge2]
 ·simp -dsimp -implicitDefEqProofs [eH hge];rw[yf2 hge]at hnd;have h1:=dD (p:=oC) hge hall;have h8':l.length<=8:=by omega
  simp[Distinct,h1,hnd,h8']
theorem yhh(l:List Train)(hs:iL l)(h8:l.length<=8)(hok:∀t∈l,oC t=true):lC Tryz.prog 193 [.c (.sl 2 (l.map Train.enc))] (.c (.b (decide ((l.flatMap kE).Nodup)))):=by
 refine qB ycL ?_
 have fin:Distinct l=false->decide ((l.flatMap kE).Nodup)=false:=by
  intro h;have h1:l.all oC=true:=zae.2 hok;simpa[Distinct,h1,h8]using h
 simp -dsimp -implicitDefEqProofs;refine qA (ι:=Nat) (λk=>k<=l.length/\(aG l k).Nodup) (λk=>rD [(0,.c (.sl 2 (l.map Train.enc))),(3,.own 8 1 (aG l k).length),(4,.c (.i k))] [(8,.row 1 ((aG l k).map qC))]) (λk=>l.length-k) 0 (by simp[yj]) (by apply dB<;>simp[yj]) ?_
 rintro k ⟨hk,hnd⟩
 rcases zah k l.length with hlt|hge
 ·obtain⟨t,ht⟩:∃t,l[k]?=some t:=⟨_,zaa hlt⟩;have hts:=hs.2 t (zac ht);have h1:=hok t (zac ht);have hil:=ylV h1;have hul:=yfQ (l:=l) k (λt ht=>hok t (zaP ht));simp -dsimp -implicitDefEqProofs [ht,kD hlt];intro hlen;refine xG (yo1 t hts) ?_;simp -dsimp -implicitDefEqProofs;refine qA (ι:=Nat) (λi=>i<=(kE t).length/\∀x∈(kE t).take i,x∉aG l k) (λi=>rD [(0,.c (.sl 2 (l.map Train.enc))),(3,.own 8 1 (aG l k).length),(4,.c (.i k)),(5,.c (.sl 1 ((kE t).map qC))),(6,.c (.i i))] [(8,.row 1 ((aG l k).map qC))]) (λi=>(kE t).length-i) 0 (by simp) (by apply dB<;>simp) ?_
  rintro i ⟨hi,hni⟩
  rcases zah i (kE t).length with hlt2|hge2
  ·obtain⟨x,hx⟩:∃x,(kE t)[i]?=some x:=⟨_,zaa hlt2⟩;simp -dsimp -implicitDefEqProofs [kD hlt2];intro _;refine qA (ι:=Nat) (λj=>j<=(aG l k).length/\∀y∈(aG l k).take j,y≠x) (λj=>rD [(0,.c (.sl 2 (l.map Train.enc))),(3,.own 8 1 (aG l k).length),(4,.c (.i k)),(5,.c (.sl 1 ((kE t).map qC))),(6,.c (.i i)),(7,.c (.i j))] [(8,.row 1 ((aG l k).map qC))]) (λj=>(aG l k).length-j) 0 (by simp) (by apply dB<;>simp) ?_
   rintro j ⟨hj,hnj⟩
   rcases zah j (aG l k).length with hlt3|hge3
   ·obtain⟨y,hy⟩:∃y,(aG l k)[j]?=some y:=⟨_,zaa hlt3⟩
    have bad:y=x->¬(l.flatMap kE).Nodup:=λe=>by
     have:=fin (twice ht hx (by unfold seenAt;rw[<-e];exact zaT _ (zac hy)));simpa using this
    generalize aG l k=u at *;have g1:=(zab.1 hy).2;simp -dsimp -implicitDefEqProofs [hx,kD hlt2,hy,g1,kD hlt3,hlt3];intro _;refine⟨λh2=>(bad h2),λh2=>?_⟩;refine⟨by unfold inI;omega,j+1,⟨hlt3,?_⟩,by omega,?_⟩
    ·rw[zar,hy];intro z hz;rcases zao.1 hz with hz|hz
     ·exact hnj z hz
     ·simp at hz;subst hz;exact h2
    ·apply dB<;>simp
   ·rw[zaf hge3]at hnj;simp -dsimp -implicitDefEqProofs [eH hge3];intro _;refine⟨by unfold inI;omega,i+1,⟨hlt2,?_⟩,by omega,by apply dB<;>simp⟩;rw[zar,hx];intro z hz;rcases zao.1 hz with hz|hz
    ·exact hni z hz
    ·simp at hz;subst hz;exactλhm=>hnj _ hm rfl
  ·rw[zaf hge2]at hni;simp -dsimp -implicitDefEqProofs [eH hge2]
   have hnd2:(aG l (k+1)).Nodup:=by
    rw[yg ht];exact zaU.2 ⟨hnd,yxx h1,λa ha b hb e=>hni b hb (e▸ha)⟩
   refineλ_=>⟨by omega,by unfold inI;omega,k+1,⟨hlt,hnd2⟩,by omega,?_⟩
   apply dB<;>simp[yg ht]
 ·simp -dsimp -implicitDefEqProofs [eH hge];rw[yf2 hge]at hnd;simp[hnd]
theorem ynO(l:List Train)(hs:iL l):lC Tryz.prog 191 [.c (.sl 2 (l.map Train.enc))] (.c (.b (Distinct l))):=by
 refine qB yfa ?_;simp -dsimp -implicitDefEqProofs;refine qA (ι:=Nat) (λk=>k<=l.length/\(∀t∈l.take k,oC t=true)/\(k≠0->l.length<=8)) (λk=>rD [(0,.c (.sl 2 (l.map Train.enc))),(3,.c (.i k))] []) (λk=>l.length-k) 0 (by simp) (by apply dB<;>simp) ?_
 rintro k ⟨hk,hall,h8⟩
 rcases zah k l.length with hlt|hge
 ·obtain⟨t,ht⟩:∃t,l[k]?=some t:=⟨_,zaa hlt⟩;have hts:=hs.2 t (zac ht);simp -dsimp -implicitDefEqProofs [ht,kD hlt];intro hlen;refine aA (xR t hts) ?_;cases h1:oC t with
  |false=>simp -dsimp -implicitDefEqProofs;exact yko ht h1
  |true=>
   have hall':=iC (p:=oC) ht hall h1;simp -dsimp -implicitDefEqProofs;intro _;refine⟨λh9=>(by simp[Distinct];omega),λh9=>?_⟩;have h9':l.length<=8:=by omega
   exact⟨aC hlt hlen,k+1,⟨hlt,hall',λ_=>h9'⟩,by omega,by apply dB<;>simp⟩
 ·have h1:=dD (p:=oC) hge hall
  have h8':l.length<=8:=by
   rcases zaK k with e|e
   ·omega
   ·exact h8 (by omega)
  simp -dsimp -implicitDefEqProofs [eH hge];intro _;refine aA (yhh l hs h8' (zae.1 h1)) ?_;simp -dsimp -implicitDefEqProofs;simp[Distinct,h1,h8']
def kH(k:Lock):Bool:=inRange k.Length 1 1000&&inRange k.Width 1 100&&inRange k.SillAbove 0 100000&&inRange k.SillBelow 0 100000&&inRange k.Base 0 100000&&inRange k.Area 1 10000&&inRange k.Rate 1 100000&&inRange k.Water 0 1000000000&&inRange k.Gate 0 2&&Distinct k.Inside
theorem ynD(k:Lock)(h:k.small):lC Tryz.prog 118 [.agg (k.enc.map .c)] (.c (.b (kH k))):=by
 refine qB yjg ?_;simp -dsimp -implicitDefEqProofs;refine aA (gB k.Length 1 1000) ?_;cases h0:inRange k.Length 1 1000 with
 |false=>simp -dsimp -implicitDefEqProofs;simp[kH,h0]
 |true=>
 simp -dsimp -implicitDefEqProofs;refine aA (gB k.Width 1 100) ?_;cases h1:inRange k.Width 1 100 with
 |false=>simp -dsimp -implicitDefEqProofs;simp[kH,h0,h1]
 |true=>
 simp -dsimp -implicitDefEqProofs;refine aA (gB k.SillAbove 0 100000) ?_;cases h2:inRange k.SillAbove 0 100000 with
 |false=>simp -dsimp -implicitDefEqProofs;simp[kH,h0,h1,h2]
 |true=>
 simp -dsimp -implicitDefEqProofs;refine aA (gB k.SillBelow 0 100000) ?_;cases h3:inRange k.SillBelow 0 100000 with
 |false=>simp -dsimp -implicitDefEqProofs;simp[kH,h0,h1,h2,h3]
 |true=>
 simp -dsimp -implicitDefEqProofs;refine aA (gB k.Base 0 100000) ?_;cases h4:inRange k.Base 0 100000 with
 |false=>simp -dsimp -implicitDefEqProofs;simp[kH,h0,h1,h2,h3,h4]
 |true=>
 simp -dsimp -implicitDefEqProofs;refine aA (gB k.Area 1 10000) ?_;cases h5:inRange k.Area 1 10000 with
 |false=>simp -dsimp -implicitDefEqProofs;simp[kH,h0,h1,h2,h3,h4,h5]
 |true=>
 simp -dsimp -implicitDefEqProofs;refine aA (gB k.Rate 1 100000) ?_;cases h6:inRange k.Rate 1 100000 with
 |false=>simp -dsimp -implicitDefEqProofs;simp[kH,h0,h1,h2,h3,h4,h5,h6]
 |true=>
 simp -dsimp -implicitDefEqProofs;refine aA (gB k.Water 0 1000000000) ?_;cases h7:inRange k.Water 0 1000000000 with
 |false=>simp -dsimp -implicitDefEqProofs;simp[kH,h0,h1,h2,h3,h4,h5,h6,h7]
 |true=>
 simp -dsimp -implicitDefEqProofs;refine aA (gB k.Gate 0 2) ?_;cases h8:inRange k.Gate 0 2 with
 |false=>simp -dsimp -implicitDefEqProofs;simp[kH,h0,h1,h2,h3,h4,h5,h6,h7,h8]
 |true=>
 simp -dsimp -implicitDefEqProofs;refine aA (yaT k.Inside h) ?_;cases h9:Distinct k.Inside with
 |false=>simp -dsimp -implicitDefEqProofs;simp[kH,h0,h1,h2,h3,h4,h5,h6,h7,h8,h9]
 |true=>
  simp -dsimp -implicitDefEqProofs;simp[kH,h0,h1,h2,h3,h4,h5,h6,h7,h8,h9]
theorem yms(k:Lock)(h:k.small):lC Tryz.prog 185 [.agg (k.enc.map .c)] (.c (.b (kH k))):=by
 refine qB yjB ?_;simp -dsimp -implicitDefEqProofs;refine aA (jB k.Length 1 1000) ?_;cases h0:inRange k.Length 1 1000 with
 |false=>simp -dsimp -implicitDefEqProofs;simp[kH,h0]
 |true=>
 simp -dsimp -implicitDefEqProofs;refine aA (jB k.Width 1 100) ?_;cases h1:inRange k.Width 1 100 with
 |false=>simp -dsimp -implicitDefEqProofs;simp[kH,h0,h1]
 |true=>
 simp -dsimp -implicitDefEqProofs;refine aA (gU k.SillAbove) ?_;cases h2:inRange k.SillAbove 0 100000 with
 |false=>simp -dsimp -implicitDefEqProofs;simp[kH,h0,h1,h2]
 |true=>
 simp -dsimp -implicitDefEqProofs;refine aA (gU k.SillBelow) ?_;cases h3:inRange k.SillBelow 0 100000 with
 |false=>simp -dsimp -implicitDefEqProofs;simp[kH,h0,h1,h2,h3]
 |true=>
 simp -dsimp -implicitDefEqProofs;refine aA (gU k.Base) ?_;cases h4:inRange k.Base 0 100000 with
 |false=>simp -dsimp -implicitDefEqProofs;simp[kH,h0,h1,h2,h3,h4]
 |true=>
 simp -dsimp -implicitDefEqProofs;refine aA (jB k.Area 1 10000) ?_;cases h5:inRange k.Area 1 10000 with
 |false=>simp -dsimp -implicitDefEqProofs;simp[kH,h0,h1,h2,h3,h4,h5]
 |true=>
 simp -dsimp -implicitDefEqProofs;refine aA (jB k.Rate 1 100000) ?_;cases h6:inRange k.Rate 1 100000 with
 |false=>simp -dsimp -implicitDefEqProofs;simp[kH,h0,h1,h2,h3,h4,h5,h6]
 |true=>
 simp -dsimp -implicitDefEqProofs;refine aA (jB k.Water 0 1000000000) ?_;cases h7:inRange k.Water 0 1000000000 with
 |false=>simp -dsimp -implicitDefEqProofs;simp[kH,h0,h1,h2,h3,h4,h5,h6,h7]
 |true=>
 simp -dsimp -implicitDefEqProofs;refine aA (jB k.Gate 0 2) ?_;cases h8:inRange k.Gate 0 2 with
 |false=>simp -dsimp -implicitDefEqProofs;simp[kH,h0,h1,h2,h3,h4,h5,h6,h7,h8]
 |true=>
 simp -dsimp -implicitDefEqProofs;refine aA (ynO k.Inside h) ?_;cases h9:Distinct k.Inside with
 |false=>simp -dsimp -implicitDefEqProofs;simp[kH,h0,h1,h2,h3,h4,h5,h6,h7,h8,h9]
 |true=>
  simp -dsimp -implicitDefEqProofs;simp[kH,h0,h1,h2,h3,h4,h5,h6,h7,h8,h9]
def dF(w:Work):Bool:=kH w.Lock&&qF w.Weir&&qK w.Rule&&jJ w.Pauses&&yfs w.Turn&&decide (w.Calls.length<=24)&&w.Calls.all oK
theorem wk1{w:Work}(h:kH w.Lock=false):dF w=false:=by simp[dF,h]
theorem wk2{w:Work}(h:qF w.Weir=false):dF w=false:=by simp[dF,h]
theorem wk3{w:Work}(h:qK w.Rule=false):dF w=false:=by simp[dF,h]
theorem wk4{w:Work}(h:jJ w.Pauses=false):dF w=false:=by simp[dF,h]
theorem wk5{w:Work}(h:yfs w.Turn=false):dF w=false:=by simp[dF,h]
theorem wk6{w:Work}(h:24<w.Calls.length):dF w=false:=by
 have:¬w.Calls.length<=24:=by omega
 simp[dF,this]
theorem wk7{w:Work}{k:Nat}{c:CallT}(hc:w.Calls[k]?=some c)(h:oK c=false):dF w=false:=by
 have:w.Calls.all oK=false:=all_false (p:=oK) hc h;simp only[dF,this,zbc]
theorem ynE(w:Work)(hs:w.small):lC Tryz.prog 77 [.agg (w.enc.map .c)] (.c (.b (dF w))):=by
 refine qB yjy ?_;simp -dsimp -implicitDefEqProofs;refine aA (ynD w.Lock hs.1) ?_;cases h1:kH w.Lock with
 |false=>simp -dsimp -implicitDefEqProofs;exact wk1 h1
 |true=>
 simp -dsimp -implicitDefEqProofs;refine aA (gV w.Weir) ?_;cases h2:qF w.Weir with
 |false=>simp -dsimp -implicitDefEqProofs;exact wk2 h2
 |true=>
 simp -dsimp -implicitDefEqProofs;refine aA (yb6 w.Rule) ?_;cases h3:qK w.Rule with
 |false=>simp -dsimp -implicitDefEqProofs;exact wk3 h3
 |true=>
 simp -dsimp -implicitDefEqProofs;refine aA (yju w.Pauses) ?_;cases h4:jJ w.Pauses with
 |false=>simp -dsimp -implicitDefEqProofs;exact wk4 h4
 |true=>
 simp -dsimp -implicitDefEqProofs;refine aA (ymE w.Turn) ?_;cases h5:yfs w.Turn with
 |false=>simp -dsimp -implicitDefEqProofs;exact wk5 h5
 |true=>
 simp -dsimp -implicitDefEqProofs;intro hlen;refine⟨λh6=>(wk6 (by omega)),λh6=>?_⟩
 refineλ_=>qA (ι:=Nat) (λk=>k<=w.Calls.length/\∀c∈w.Calls.take k,oK c=true) (λk=>rD [(38,.c (.sl 4 (w.Calls.map CallT.enc))),(39,.c (.i w.Calls.length)),(40,.c (.i k))] []) (λk=>w.Calls.length-k) 0 (by simp) (by apply dB<;>simp) ?_
 rintro k ⟨hk,hall⟩
 rcases zah k w.Calls.length with hlt|hge
 ·obtain⟨c,hc⟩:∃c,w.Calls[k]?=some c:=⟨_,zaa hlt⟩;simp -dsimp -implicitDefEqProofs [hc,kD hlt];refine aA (ynU c (hs.2.2.2 c (zac hc))) ?_;cases h7:oK c with
  |false=>simp -dsimp -implicitDefEqProofs;exact wk7 hc h7
  |true=>
   simp -dsimp -implicitDefEqProofs;exact⟨aC hlt hlen,k+1,⟨hlt,iC (p:=oK) hc hall h7⟩,by omega,by apply dB<;>simp⟩
 ·simp -dsimp -implicitDefEqProofs [eH hge];have h7:=dD (p:=oK) hge hall;have h6':w.Calls.length<=24:=by omega
  simp[dF,h1,h2,h3,h4,h5,h6',h7]
theorem ynJ(w:Work)(hs:w.small):lC Tryz.prog 171 [.agg (w.enc.map .c)] (.c (.b (dF w))):=by
 refine qB yjm ?_;simp -dsimp -implicitDefEqProofs;refine qA (ι:=Nat) (λk=>k<=w.Calls.length/\∀c∈w.Calls.take k,oK c=true) (λk=>rD [(1,.box 1 0),(3,.c (.i k))] [(1,.box (w.enc.map .c))]) (λk=>w.Calls.length-k) 0 (by simp) (by apply dB<;>simp) ?_
 rintro k ⟨hk,hall⟩
 rcases zah k w.Calls.length with hlt|hge
 ·obtain⟨c,hc⟩:∃c,w.Calls[k]?=some c:=⟨_,zaa hlt⟩;simp -dsimp -implicitDefEqProofs [hc,kD hlt];intro hlen;refine aA (ymn c (hs.2.2.2 c (zac hc))) ?_;cases h7:oK c with
  |false=>simp -dsimp -implicitDefEqProofs;exact wk7 hc h7
  |true=>
   simp -dsimp -implicitDefEqProofs;exact⟨aC hlt hlen,k+1,⟨hlt,iC (p:=oK) hc hall h7⟩,by omega,by apply dB<;>simp⟩
 ·simp -dsimp -implicitDefEqProofs [eH hge];have h7:=dD (p:=oK) hge hall;intro _;refine⟨λh6=>?_,λh6=>(wk6 (by omega))⟩;have h6':w.Calls.length<=24:=by omega
  refine aA (yms w.Lock hs.1) ?_;cases h1:kH w.Lock with
  |false=>simp -dsimp -implicitDefEqProofs;exact wk1 h1
  |true=>
  simp -dsimp -implicitDefEqProofs;refine aA (ynP w.Weir) ?_;cases h2:qF w.Weir with
  |false=>simp -dsimp -implicitDefEqProofs;exact wk2 h2
  |true=>
  simp -dsimp -implicitDefEqProofs;refine aA (yl9 w.Rule) ?_;cases h3:qK w.Rule with
  |false=>simp -dsimp -implicitDefEqProofs;exact wk3 h3
  |true=>
  simp -dsimp -implicitDefEqProofs;refine aA (ycV w.Pauses) ?_;cases h4:jJ w.Pauses with
  |false=>simp -dsimp -implicitDefEqProofs;exact wk4 h4
  |true=>
  simp -dsimp -implicitDefEqProofs;refine aA (ynm w.Turn) ?_;simp -dsimp -implicitDefEqProofs;simp[dF,h1,h2,h3,h4,h6',h7]
def ykR:List Entry->Prop:=lN λ_=>True
def dJ:List Reach->Prop:=lN Reach.small
def yT:List Way->Prop:=lN λ_=>True
def qM:List Work->Prop:=lN Work.small
def yd0:List Mover->Prop:=lN Mover.small
abbrev qE(xs:List Mover):List C:=[.sl 3 (xs.map Mover.enc)]
-- [][]Mover
def yje:List (List Mover)->Prop:=lN yd0
structure Passing where
 Time:Int
 Work:Int
 Train:Train
 deriving DecidableEq,Inhabited
@[simp] def Passing.enc(e:Passing):List C:=[.i e.Time,.i e.Work,.b e.Train.Up,.sl 1 (e.Train.Rows.map iH)]
-- Passing
def Passing.small(e:Passing):Prop:=e.Train.small
def yiw:List Passing->Prop:=lN Passing.small
structure Waterway where
 Time:Int
 Reaches:List Reach
 Ways:List Way
 Works:List Work
 Movers:List (List Mover)
 Arrived:List Train
 Entered:List Int
 Tariff:Tariff
 Book:List Entry
 Passings:List Passing
 Start:Int
 In:Int
 Out:Int
 deriving DecidableEq
@[simp] def Waterway.enc(e:Waterway):List C:=[.i e.Time,.sl 3 (e.Reaches.map Reach.enc),.sl 2 (e.Ways.map Way.enc),.sl 22 (e.Works.map Work.enc),.sl 1 (e.Movers.map qE),.sl 2 (e.Arrived.map Train.enc),.sl 1 (e.Entered.map qC),.i e.Tariff.Base,.i e.Tariff.PerArea,.sl 1 (e.Tariff.PerClass.map qC),.sl 1 (e.Tariff.Weights.map qC),.sl 5 (e.Book.map Entry.enc),.sl 4 (e.Passings.map Passing.enc),.i e.Start,.i e.In,.i e.Out]
-- Waterway
def Waterway.small(e:Waterway):Prop:=dJ e.Reaches/\yT e.Ways/\qM e.Works/\yje e.Movers/\iL e.Arrived/\yia e.Entered/\e.Tariff.small/\ykR e.Book/\yiw e.Passings
theorem ysP(es:List Boat)(hl:es.length<=1048576):pM Tryz.prog 136 [.c (.sl 6 (es.map Boat.enc))] (.c (.ow 6 (es.map Boat.enc))):=by
 refine mG jR ?_;simp -dsimp -implicitDefEqProofs [mJ,aB];omega
theorem ypf(xs:List (List Boat))(hl:yer xs):pM Tryz.prog 88 [.c (.sl 1 (xs.map iH))] (.c (.ot 1 (xs.map iI))):=by
 refine mG ygG ?_;simp -dsimp -implicitDefEqProofs;intro hlen;have hl1:=hl.1;refine yF (k0:=1) 3 1 (by simp) (by simp) (by decide) ?_;refine qA (ι:=Nat) (λk=>k<=xs.length) (λk=>rD [(3,.own 3 1 k),(6,.c (.sl 1 (xs.map iH))),(7,.c (.i xs.length)),(8,.c (.i k))] [(3,.tr 1 0 ((xs.take k).map iI))]) (λk=>xs.length-k) 0 (by simp) (by apply dB<;>simp[Obj.leO]) ?_
 rintro k hk
 rcases zah k xs.length with hlt|hge
 ·obtain⟨e,he⟩:∃e,xs[k]?=some e:=⟨_,zaa hlt⟩;have hs:xs.take (k+1)=xs.take k++[e]:=by rw[zar,he];rfl
  simp -dsimp -implicitDefEqProofs [he,kD hlt];refine rG (ysP e (hl.2 e (zac he)).1) (by simp) (by simp[AV.closed,AV.iR,C.closed]) (by simp[tC]) ?_;simp -dsimp -implicitDefEqProofs [aB,Nat.min_eq_left hk];refine⟨by omega,aC hlt hlen,k+1,hlt,by omega,?_⟩;have hs2:(xs.map iI).take (k+1)=(xs.map iI).take k++[[.ow 6 (e.map Boat.enc)]]:=by rw[<-zbk,<-zbk,hs,zaN];rfl
  apply dB<;>simp[Obj.leO,hs2]
 ·have:k=xs.length:=by omega
  subst this;simp -dsimp -implicitDefEqProofs [aB]
  try simp
theorem yaf(e:Train)(hl:Train.small e):pM Tryz.prog 55 [.agg (e.enc.map .c)] (.agg (e.iE.map .c)):=by
 refine mG yeP ?_;simp -dsimp -implicitDefEqProofs;refine yC (ypf e.Rows hl) (by simp) (by simp[AV.closed,AV.iR,C.closed,iI]) (by simp[tC]) ?_;simp -dsimp -implicitDefEqProofs [aB]
theorem oV{k:Nat}{xs:List X}{s:St}:wOf (.bsl k xs) s=(xs.map s.ev).flatMap AV.ids:=rfl
theorem yaG(e:Train)(hl:Train.small e):lC Tryz.prog 129 [.agg (e.enc.map .c)] (.agg (e.enc.map .c)):=by
 refine qB yi6 ?_;simp -dsimp -implicitDefEqProofs;have hl1:=hl.1
 refine qA (ι:=Nat) (λk=>k<=e.Rows.length) (λk=>match k with
  |0=>rD [(1,.box 1 0),(2,.box 2 0),(3,.box 3 0),(4,.c (.i 0))] [(1,.box [.c (.b e.Up),.c (.sl 1 (e.Rows.map iH))]),(2,.box [.c (.b false),.nil 1]),(3,.box [.c (.b e.Up),.nil 1])]
  |k+1=>rD [(1,.box 1 0),(2,.box 2 0),(3,.box 3 0),(4,.c (.i (k+1)))] [(1,.box [.c (.b e.Up),.c (.sl 1 (e.Rows.map iH))]),(2,.box [.c (.b false),.nil 1]),(3,.box [.c (.b e.Up),.own 25 1 (k+1)]),(25,.tr 1 0 ((e.Rows.map iI).take (k+1)))]) (λk=>e.Rows.length-k) 0 (by simp) (by apply dB<;>simp[Obj.leO]) ?_
 rintro k hk
 rcases k with _|k
 ·rcases zah 0 e.Rows.length with hlt|hge
  ·obtain⟨r,he⟩:∃r,e.Rows[0]?=some r:=⟨_,zaa hlt⟩;have h0:(0<e.Rows.length)=True:=by simpa using hlt
   have hgr:e.Rows[0]=r:=(zab.1 he).2;have hrl:=(hl.2 r (zac he)).1;simp -dsimp -implicitDefEqProofs [he,h0,hgr,aB,oV];intro hlen;refine⟨by omega,by unfold inI;omega,1,hlt,by omega,?_⟩
   have hs2:(e.Rows.map iI).take 1=[[.ow 6 (r.map Boat.enc)]]:=by
    obtain⟨y,l,hy⟩:∃y l,e.Rows=y::l:=by cases hr:e.Rows with|nil=>rw[hr]at hlt;simp at hlt|cons y l=>exact⟨y,l,rfl⟩
    rw[hy]at he|-;simp at he;subst he;rfl
   apply dB<;>simp[Obj.leO,hs2]
  ·have hx:e.Rows=[]:=zaZ.1 (by omega);have h0:(0<e.Rows.length)=False:=by simp[hx]
   simp -dsimp -implicitDefEqProofs [h0];simp[hx]
 ·rcases zah (k+1) e.Rows.length with hlt|hge
  ·obtain⟨r,he⟩:∃r,e.Rows[k+1]?=some r:=⟨_,zaa hlt⟩;have h0:((k:Int)+1<e.Rows.length)=True:=by simp;omega
   have h1:(0<=(k:Int)+1)=True:=by simp;omega
   have h2:((k:Int)+1).toNat=k+1:=by omega
   have hrl:=(hl.2 r (zac he)).1;simp -dsimp -implicitDefEqProofs [he,h0,h1,h2,aB,oV];intro hlen;refine⟨by omega,by omega,by omega,by unfold inI;omega,k+2,hlt,by omega,?_⟩
   have hs2:(e.Rows.map iI).take (k+2)=(e.Rows.map iI).take (k+1)++[[.ow 6 (r.map Boat.enc)]]:=by
    rw[zar,zaq,he];rfl
   apply dB<;>simp[Obj.leO,hs2]<;>omega
  ·have h0:((k:Int)+1<e.Rows.length)=False:=by simp;omega
   have hx:e.Rows.length=k+1:=by omega
   simp -dsimp -implicitDefEqProofs [h0];intro _;have e1:(e.Rows.map iI).take (k+1)=e.Rows.map iI:=zaf (by simp;omega);rw[e1,e1,bT jV];simp
def mkEn(k:Int):List C:=[.i k,.i (k+1),.i (k+1+1),.i (k+1+1+1),.i (k+1+1+1+1)]
@[simp] def Tariff.iE(e:Tariff):List C:=[.i e.Base,.i e.PerArea,.ow 1 (e.PerClass.map qC),.ow 1 (e.Weights.map qC)]
def nT(e:Tariff):Int:=e.PerClass.length+e.Weights.length
def rX(r:Reach):Int:=if bC r then sD r else 0
def river(l:List Reach):Int:=(l.map sD).sum
def pG(l:List Reach):Bool:=decide (1<=l.length)&&decide (l.length<=6)&&l.all bC&&decide (river l<=1000000000)
def nG(l:List Reach):Int:=if pG l then river l else 0
def bP(l:List Reach)(k:Nat):Int:=river (l.take k)
theorem fO{l:List Reach}:bP l 0=0:=rfl
theorem pV{l:List Reach}{k:Nat}{r:Reach}(h:l[k]?=some r):bP l (k+1)=bP l k+sD r:=by
 unfold bP river;rw[zar,h];simp
theorem rM{l:List Reach}{k:Nat}(h:l.length<=k):bP l k=river l:=by unfold bP;rw[zaf h]
structure SumFacts(r:Reach):Prop where
 vol:amount r.Volume=true
 len:r.Pipe.length<=12
 amt:∀n∈r.Pipe,amount n=true
 rng:0<=sD r/\sD r<=1000000000
theorem dQ{r:Reach}(h:bC r=true):SumFacts r:=by
 simp only[bC,zad,decide_eq_true_eq,zae]at h;obtain⟨⟨⟨⟨h1,h2⟩,h3⟩,h4⟩,h5⟩:=h;refine⟨h2,h3,h4,?_,h5⟩;have a1:=jA.1 (show inRange r.Volume 0 1000000000=true from h2);have a2:=ybz (l:=r.Pipe) h4;unfold sD;omega
theorem jQ{l:List Reach}:∀{k:Nat},(∀r∈l.take k,bC r=true)->0<=bP l k/\bP l k<=1000000000*k
 |0,_=>by rw[fO];omega
 | k+1,h=>by
  have ih:=jQ (k:=k) λr hr=>h r (by rw[zar];exact zaT _ hr);have e2:((k+1:Nat):Int)=k+1:=by simp
  cases hk:l[k]? with
  |none=>
   have hl:l.length<=k:=by simpa using hk
   rw[rM (by omega),<-rM hl];omega
  |some r=>
   have:=(dQ (h r (by rw[zar,hk];exact zaw _ (by simp)))).rng;rw[pV hk];omega
theorem yhV{l:List Reach}(h:pG l=false):nG l=0:=by simp[nG,h]
theorem yiv{l:List Reach}{k:Nat}{r:Reach}(h:l[k]?=some r)(hr:bC r=false):pG l=false:=by
 have:=all_false (p:=bC) h hr;simp[pG,this]
theorem ybs(r:Reach):lC Tryz.prog 117 [.agg (r.enc.map .c)] (.c (.i (rX r))):=by
 refine qB yio ?_;simp -dsimp -implicitDefEqProofs;refine aA (rH r) ?_;cases h:bC r with
 |false=>simp -dsimp -implicitDefEqProofs;simp[rX,h]
 |true=>
 have f:=dQ h;have hl:=f.len;have hv:=jA.1 (show inRange r.Volume 0 1000000000=true from f.vol);have ht:rX r=sD r:=by simp[rX,h]
 simp -dsimp -implicitDefEqProofs [ht];intro hlen;refine qA (ι:=Nat) (λk=>k<=r.Pipe.length) (λk=>rD [(3,.c (.i (r.Volume+sumTo r.Pipe k))),(12,.c (.sl 1 (r.Pipe.map qC))),(13,.c (.i r.Pipe.length)),(14,.c (.i k))] []) (λk=>r.Pipe.length-k) 0 (by simp) (by apply dB<;>simp[yP]) ?_
 rintro k hk
 rcases zah k r.Pipe.length with hlt|hge
 ·obtain⟨x,hx⟩:∃x,r.Pipe[k]?=some x:=⟨_,zaa hlt⟩;have e1:=ybx hx;have b1:=yfG f.amt hl (k+1);rw[e1]at b1;simp -dsimp -implicitDefEqProofs [hx,kD hlt];refine⟨by unfold inI;omega,aC hlt hlen,k+1,hlt,by omega,?_⟩;apply dB<;>simp[e1];omega
 ·simp -dsimp -implicitDefEqProofs [eH hge];rw[ye4 hge,ht];rfl
theorem yed(l:List Reach):lC Tryz.prog 74 [.c (.sl 3 (l.map Reach.enc))] (.c (.b (pG l))):=by
 refine qB yg9 ?_;simp -dsimp -implicitDefEqProofs
 refineλhlen=>⟨λh1=>?_,λh1=>?_⟩
 rotate_left
 ·simp[pG];omega
 refineλ_=>⟨λh6=>by simp[pG];omega,λh6=>?_⟩
 refineλ_=>qA (ι:=Nat) (λk=>k<=l.length/\∀r∈l.take k,bC r=true) (λk=>rD [(3,.c (.i (bP l k))),(14,.c (.sl 3 (l.map Reach.enc))),(15,.c (.i l.length)),(16,.c (.i k))] []) (λk=>l.length-k) 0 (by simp) (by apply dB<;>simp[fO]) ?_
 rintro k ⟨hk,hall⟩
 rcases zah k l.length with hlt|hge
 ·obtain⟨r,hr⟩:∃r,l[k]?=some r:=⟨_,zaa hlt⟩;simp -dsimp -implicitDefEqProofs [hr,kD hlt];refine aA (rH r) ?_;cases h:bC r with
  |false=>simp -dsimp -implicitDefEqProofs;exact yiv hr h
  |true=>
   have ht:rX r=sD r:=by simp[rX,h]
   have hall':=iC (p:=bC) hr hall h;have hb:=jQ hall';have e1:=pV hr;simp -dsimp -implicitDefEqProofs;refine aA (ybs r) ?_;simp -dsimp -implicitDefEqProofs [ht];refine⟨by rw[e1]at hb;unfold inI;omega,aC hlt hlen,k+1,⟨hlt,hall'⟩,by omega,?_⟩;apply dB<;>simp[e1]
 ·have hall2:=dD (p:=bC) hge hall;simp -dsimp -implicitDefEqProofs [eH hge];rw[rM hge];have a1:1<=l.length:=by omega
  have a2:l.length<=6:=by omega
  simp[pG,a1,a2,hall2]
structure RiverFacts(l:List Reach):Prop where
 len:1<=l.length/\l.length<=6
 ok:∀r∈l,bC r=true
 rng:0<=river l/\river l<=1000000000
theorem oU{l:List Reach}(h:pG l=true):RiverFacts l:=by
 simp only[pG,zad,decide_eq_true_eq,zae]at h;obtain⟨⟨⟨h1,h2⟩,h3⟩,h4⟩:=h;have:=jQ (l:=l) (k:=l.length) (by rw[zbL];exact h3);rw[rM (Nat.le_refl _)]at this;exact⟨⟨h1,h2⟩,h3,this.1,h4⟩
theorem ygq(l:List Reach):lC Tryz.prog 73 [.c (.sl 3 (l.map Reach.enc))] (.c (.i (nG l))):=by
 refine qB ydH ?_;simp -dsimp -implicitDefEqProofs;refine aA (yed l) ?_;cases h:pG l with
 |false=>simp -dsimp -implicitDefEqProofs;rw[yhV h]
 |true=>
 have f:=oU h;have ht:nG l=river l:=by simp[nG,h]
 simp -dsimp -implicitDefEqProofs [ht];intro hlen;refine qA (ι:=Nat) (λk=>k<=l.length) (λk=>rD [(3,.c (.i (bP l k))),(9,.c (.sl 3 (l.map Reach.enc))),(10,.c (.i l.length)),(11,.c (.i k))] []) (λk=>l.length-k) 0 (by simp) (by apply dB<;>simp[fO]) ?_
 rintro k hk
 rcases zah k l.length with hlt|hge
 ·obtain⟨r,hr⟩:∃r,l[k]?=some r:=⟨_,zaa hlt⟩;have h2:rX r=sD r:=by simp[rX,f.ok r (zac hr)]
  have hb:=jQ (l:=l) (k:=k+1) λx hx=>f.ok x (zaP hx);have e1:=pV hr;have hl6:=f.len;simp -dsimp -implicitDefEqProofs [hr,kD hlt];refine aA (ybs r) ?_;simp -dsimp -implicitDefEqProofs [h2];refine⟨by rw[e1]at hb;unfold inI;omega,aC hlt hlen,k+1,hlt,by omega,?_⟩;apply dB<;>simp[e1]
 ·simp -dsimp -implicitDefEqProofs [eH hge];rw[rM hge,ht]
def ybS(l:List Reach)(k:Nat):Int:=if 1000000001<bP l k then 1000000001 else bP l k
theorem yob{l:List Reach}:ybS l 0=0:=by simp[ybS,fO]
theorem yn2{l:List Reach}{k:Nat}{r:Reach}(h:l[k]?=some r)(hr:0<=sD r):(if 1000000001<ybS l k+sD r then 1000000001 else ybS l k+sD r)=ybS l (k+1):=by
 unfold ybS;rw[pV h]
 (repeat' split)<;>omega
theorem yqK{l:List Reach}{k:Nat}(h:∀r∈l.take k,bC r=true):0<=ybS l k/\ybS l k<=1000000001:=by
 have:=jQ h;unfold ybS;split<;>omega
theorem yem(l:List Reach):lC Tryz.prog 169 [.c (.sl 3 (l.map Reach.enc))] (.c (.b (pG l))):=by
 refine qB yiy ?_;simp -dsimp -implicitDefEqProofs;refine qA (ι:=Nat) (λk=>k<=l.length/\∀r∈l.take k,bC r=true) (λk=>rD [(0,.c (.sl 3 (l.map Reach.enc))),(3,.c (.i (ybS l k))),(4,.c (.i k))] []) (λk=>l.length-k) 0 (by simp) (by apply dB<;>simp[yob]) ?_
 rintro k ⟨hk,hall⟩
 rcases zah k l.length with hlt|hge
 ·obtain⟨r,hr⟩:∃r,l[k]?=some r:=⟨_,zaa hlt⟩;simp -dsimp -implicitDefEqProofs [hr,kD hlt];intro hlen;refine aA (oN r) ?_;cases h:bC r with
  |false=>simp -dsimp -implicitDefEqProofs;exact yiv hr h
  |true=>
   have f:=dQ h;have hall':=iC (p:=bC) hr hall h;have hb:=yqK hall;have hs:=f.rng;have e1:=yn2 hr hs.1;simp -dsimp -implicitDefEqProofs [hr,kD hlt];refine aA (yhA r f.vol f.len f.amt) ?_;simp -dsimp -implicitDefEqProofs [e1];refine⟨by unfold inI;omega,aC hlt hlen,k+1,⟨hlt,hall'⟩,by omega,?_⟩;apply dB<;>simp[e1]
 ·have hall2:=dD (p:=bC) hge hall;simp -dsimp -implicitDefEqProofs [eH hge];intro hlen;refine aA (jB l.length 1 6) ?_;have hr:bP l k=river l:=rM hge
  have hc:(ybS l k<=1000000000)=(river l<=1000000000):=by
   unfold ybS;rw[hr];apply propext;split<;>omega
  have hrng:inRange (l.length:Int) 1 6=(decide (1<=l.length)&&decide (l.length<=6)):=by
   rw[zcP,jA];simp only[zad,decide_eq_true_eq];omega
  cases h1:inRange (l.length:Int) 1 6 with
  |false=>simp -dsimp -implicitDefEqProofs;rw[pG,<-hrng,h1];simp
  |true=>
   simp -dsimp -implicitDefEqProofs;rw[pG,<-hrng,h1];simp[hall2,hc]
theorem ygs(l:List Reach):lC Tryz.prog 130 [.c (.sl 3 (l.map Reach.enc))] (.c (.i (nG l))):=by
 refine qB ydM ?_;simp -dsimp -implicitDefEqProofs;refine qA (ι:=Nat) (λk=>k<=l.length/\(k≠0->pG l=true)) (λk=>rD [(0,.c (.sl 3 (l.map Reach.enc))),(3,.c (.i (bP l k))),(4,.c (.i k))] []) (λk=>l.length-k) 0 (by simp) (by apply dB<;>simp[fO]) ?_
 rintro k ⟨hk,hok⟩
 rcases zah k l.length with hlt|hge
 ·obtain⟨r,hr⟩:∃r,l[k]?=some r:=⟨_,zaa hlt⟩;simp -dsimp -implicitDefEqProofs [hr,kD hlt];intro hlen;refine aA (yem l) ?_;cases h:pG l with
  | false=>
   have:k=0:=by
    rcases zaK k with e|e
    ·exact e
    ·have:=hok (by omega);rw[h]at this;cases this
   subst this;simp -dsimp -implicitDefEqProofs;rw[yhV h,fO]
  |true=>
   have f:=oU h;have sf:=dQ (f.ok r (zac hr));have hb:=jQ (l:=l) (k:=k+1) λx hx=>f.ok x (zaP hx);have e1:=pV hr;have hl6:=f.len;simp -dsimp -implicitDefEqProofs [hr,kD hlt];refine aA (yhA r sf.vol sf.len sf.amt) ?_;simp -dsimp -implicitDefEqProofs;refine⟨by rw[e1]at hb;unfold inI;omega,aC hlt hlen,k+1,by first|exact⟨hlt,λ_=>h⟩|exact hlt,by omega,?_⟩;apply dB<;>simp[e1]
 ·simp -dsimp -implicitDefEqProofs [eH hge];intro _;cases h:pG l with
  |true=>rw[rM hge];simp[nG,h]
  | false=>
   have:k=0:=by
    rcases zaK k with e|e
    ·exact e
    ·have:=hok (by omega);rw[h]at this;cases this
   subst this;rw[yhV h,fO]
def fK(p:Way×List Mover):Bool:=yK p.1&&decide (p.2.length<=24)&&p.2.all λm=>aI m p.1
def bG(x:Waterway):Bool:=pG x.Reaches&&decide (2<=x.Reaches.length)&&decide (x.Ways.length=x.Reaches.length)&&decide (x.Movers.length=x.Reaches.length)&&decide (x.Works.length+1=x.Reaches.length)&&
 (x.Ways.zip x.Movers).all fK&&x.Works.all dF
theorem yvQ{w:Way}{ms:List Mover}(h:yK w=false):fK (w,ms)=false:=by simp[fK,h]
theorem yvy{w:Way}{ms:List Mover}(h:24<ms.length):fK (w,ms)=false:=by simp[fK];omega
theorem ysT{w:Way}{ms:List Mover}{k:Nat}{m:Mover}(h:ms[k]?=some m)(hm:aI m w=false):fK (w,ms)=false:=by
 have:=all_false (p:=λm=>aI m w) h hm;simp[fK,this]
theorem iU{x:Waterway}{k:Nat}{w:Way}{ms:List Mover}(h1:x.Ways[k]?=some w)(h2:x.Movers[k]?=some ms)(h:fK (w,ms)=false):bG x=false:=by
 have:=all_false (p:=fK) (l:=x.Ways.zip x.Movers) (k:=k) (zbS.2 ⟨h1,h2⟩) h;simp[bG,this]
theorem yhu{x:Waterway}{k:Nat}{w:Work}(h1:x.Works[k]?=some w)(h:dF w=false):bG x=false:=by
 have:=all_false (p:=dF) h1 h;simp[bG,this]
theorem pno2{x:Waterway}(h:¬2<=x.Reaches.length):bG x=false:=by simp[bG,h]
theorem pno3{x:Waterway}(h:¬x.Ways.length=x.Reaches.length):bG x=false:=by simp[bG,h]
theorem pno4{x:Waterway}(h:¬x.Movers.length=x.Reaches.length):bG x=false:=by simp[bG,h]
theorem pno5{x:Waterway}(h:¬x.Works.length+1=x.Reaches.length):bG x=false:=by simp[bG,h]
theorem ylc(x:Waterway)(hs:x.small):lC Tryz.prog 34 [.agg (x.enc.map .c)] (.c (.b (bG x))):=by
 have hsM:=hs.2.2.2.1;have hsW:=hs.2.2.1;refine qB yiz ?_;simp -dsimp -implicitDefEqProofs;intro hlen;refine aA (yed x.Reaches) ?_;cases h1:pG x.Reaches with
 |false=>simp -dsimp -implicitDefEqProofs;simp[bG,h1]
 |true=>
 simp -dsimp -implicitDefEqProofs;refine⟨λh2=>?_,λh2=>(pno2 (by omega))⟩;intro _;refine⟨λh3=>?_,λh3=>(pno3 (by omega))⟩;intro _;refine⟨λh4=>?_,λh4=>(pno4 (by omega))⟩
 refineλ_=>⟨by unfold maxLen at hlen;unfold inI;omega,?_⟩
 refine⟨λh5=>(pno5 (by omega)),λh5=>?_⟩;have h3':x.Ways.length=x.Reaches.length:=by omega
 have h4':x.Movers.length=x.Reaches.length:=by omega
 have hz:(x.Ways.zip x.Movers).length=x.Ways.length:=by rw[List.length_zip];omega
 refineλhlw=>qA (ι:=Nat) (λk=>k<=x.Ways.length/\∀p∈(x.Ways.zip x.Movers).take k,fK p=true) (λk=>rD [(1,.box 1 0),(44,.c (.sl 2 (x.Ways.map Way.enc))),(45,.c (.i x.Ways.length)),(46,.c (.i k))] [(1,.box (x.enc.map .c))]) (λk=>x.Ways.length-k) 0 (by simp) (by apply dB<;>simp) ?_
 rintro k ⟨hk,hall⟩
 rcases zah k x.Ways.length with hlt|hge
 ·obtain⟨w,hw⟩:∃w,x.Ways[k]?=some w:=⟨_,zaa hlt⟩;obtain⟨ms,hm⟩:∃w,x.Movers[k]?=some w:=⟨_,zaa (by omega)⟩;have hkm:k<x.Movers.length:=by omega
  have gm:=(zab.1 hm).2;have gw:=(zab.1 hw).2;have hp:(x.Ways.zip x.Movers)[k]?=some (w,ms):=zbS.2 ⟨hw,hm⟩;have hsm:=hsM.2 ms (zac hm);simp -dsimp -implicitDefEqProofs [hw,gw,kD hlt,hlt];refine aA (yil w) ?_;cases h6:yK w with
  |false=>simp -dsimp -implicitDefEqProofs;exact iU hw hm (yvQ h6)
  |true=>
  simp -dsimp -implicitDefEqProofs [hm,gm,hkm,kD hkm];intro hlm;refine⟨λh7=>(iU hw hm (yvy (by omega))),λh7=>?_⟩
  refineλ_=>qA (ι:=Nat) (λi=>i<=ms.length/\∀m∈ms.take i,aI m w=true) (λi=>rD [(1,.box 1 0),(5,.box 5 0),(44,.c (.sl 2 (x.Ways.map Way.enc))),(45,.c (.i x.Ways.length)),(46,.c (.i k)),(67,.c (.sl 3 (ms.map Mover.enc))),(68,.c (.i ms.length)),(69,.c (.i i))] [(1,.box (x.enc.map .c)),(5,.box (w.enc.map .c))]) (λi=>ms.length-i) 0 (by simp) (by apply dB<;>simp) ?_
  rintro i ⟨hi,hall2⟩
  rcases zah i ms.length with hlt2|hge2
  ·obtain⟨m,hmm⟩:∃w,ms[i]?=some w:=⟨_,zaa hlt2⟩;have g2:=(zab.1 hmm).2;simp -dsimp -implicitDefEqProofs [hmm,g2,kD hlt2,hlt2];refine aA (yk0 m w (hsm.2 m (zac hmm))) ?_;cases h8:aI m w with
   |false=>simp -dsimp -implicitDefEqProofs;exact iU hw hm (ysT hmm h8)
   |true=>
    simp -dsimp -implicitDefEqProofs;refine⟨aC hlt2 hlm,i+1,⟨hlt2,iC (p:=λm=>aI m w) hmm hall2 h8⟩,by omega,?_⟩;apply dB<;>simp
  ·have h9:=dD (p:=λm=>aI m w) hge2 hall2
   have hlane:fK (w,ms)=true:=by
    have:ms.length<=24:=by omega
    simp[fK,h6,this,h9]
   simp -dsimp -implicitDefEqProofs [eH hge2];refine⟨aC hlt hlw,k+1,⟨hlt,λa b hab=>iC (p:=fK) hp hall hlane (a,b) hab⟩,by omega,?_⟩;apply dB<;>simp
 ·have hl:=dD (p:=fK) (by rw[hz];exact hge) hall;simp -dsimp -implicitDefEqProofs [eH hge]
  refineλhlk=>qA (ι:=Nat) (λi=>i<=x.Works.length/\∀w∈x.Works.take i,dF w=true) (λi=>rD [(1,.box 1 0),(80,.c (.sl 22 (x.Works.map Work.enc))),(81,.c (.i x.Works.length)),(82,.c (.i i))] [(1,.box (x.enc.map .c))]) (λi=>x.Works.length-i) 0 (by simp) (by apply dB<;>simp) ?_
  rintro i ⟨hi,hall2⟩
  rcases zah i x.Works.length with hlt2|hge2
  ·obtain⟨w,hw⟩:∃w,x.Works[i]?=some w:=⟨_,zaa hlt2⟩;have g2:=(zab.1 hw).2;simp -dsimp -implicitDefEqProofs [hw,g2,kD hlt2,hlt2];refine aA (ynE w (hsW.2 w (zac hw))) ?_;cases h8:dF w with
   |false=>simp -dsimp -implicitDefEqProofs;exact yhu hw h8
   |true=>
    simp -dsimp -implicitDefEqProofs;refine⟨aC hlt2 hlk,i+1,⟨hlt2,iC (p:=dF) hw hall2 h8⟩,by omega,?_⟩;apply dB<;>simp
  ·have h9:=dD (p:=dF) hge2 hall2;simp -dsimp -implicitDefEqProofs [eH hge2];have h2':2<=x.Reaches.length:=by omega
   have h5':x.Works.length+1=x.Reaches.length:=by omega
   simp[bG,h1,h2',h3',h4',h5',hl,h9]
def bQ(n:Nat)(p:Passing):Bool:=inRange p.Time 0 1000000&&inRange p.Work 0 (n-1)&&oC p.Train
def gI(x:Waterway):Bool:=decide (x.Arrived.length<=500)&&decide (x.Entered.length<=2000)&&decide (x.Passings.length<=500)&&x.Arrived.all oC&&x.Entered.all (λn=>inRange n 1 9999)&&x.Passings.all (bQ x.Works.length)
def xB(x:Waterway):Bool:=inRange x.Time 0 1000000&&bG x&&gI x&&sG x.Tariff&&yaz x.Book&&inRange x.Start 0 1000000000&&inRange x.In 0 1000000000&&inRange x.Out 0 1000000000
theorem lno1{x:Waterway}(h:¬x.Arrived.length<=500):gI x=false:=by simp[gI,h]
theorem lno2{x:Waterway}(h:¬x.Entered.length<=2000):gI x=false:=by simp[gI,h]
theorem lno3{x:Waterway}(h:¬x.Passings.length<=500):gI x=false:=by simp[gI,h]
theorem lno4{x:Waterway}{k:Nat}{t:Train}(h1:x.Arrived[k]?=some t)(h:oC t=false):gI x=false:=by
 have:=all_false (p:=oC) h1 h;simp[gI,this]
theorem lno5{x:Waterway}{k:Nat}{t:Int}(h1:x.Entered[k]?=some t)(h:inRange t 1 9999=false):gI x=false:=by
 have:=all_false (p:=λn=>inRange n 1 9999) h1 h;simp[gI,this]
theorem yq6{x:Waterway}{k:Nat}{t:Passing}(h1:x.Passings[k]?=some t)(h:bQ x.Works.length t=false):gI x=false:=by
 have:=all_false (p:=bQ x.Works.length) h1 h;simp[gI,this]
theorem wno{x:Waterway}(h:gI x=false):xB x=false:=by simp[xB,h]
theorem lH(x:Waterway)(hs:x.small):lC Tryz.prog 15 [.agg (x.enc.map .c)] (.c (.b (xB x))):=by
 have hsA:=hs.2.2.2.2.1;have hsP:=hs.2.2.2.2.2.2.2.2;refine qB yej ?_;simp -dsimp -implicitDefEqProofs;refine aA (gB x.Time 0 1000000) ?_;cases h1:inRange x.Time 0 1000000 with
 |false=>simp -dsimp -implicitDefEqProofs;simp[xB,h1]
 |true=>
 simp -dsimp -implicitDefEqProofs;refine aA (ylc x hs) ?_;cases h2:bG x with
 |false=>simp -dsimp -implicitDefEqProofs;simp[xB,h2]
 |true=>
 simp -dsimp -implicitDefEqProofs;intro hlA;refine⟨λh3=>?_,λh3=>(wno (lno1 (by omega)))⟩;intro hlE;refine⟨λh4=>?_,λh4=>(wno (lno2 (by omega)))⟩;intro hlP;refine⟨λh5=>(wno (lno3 (by omega))),λh5=>?_⟩
 refineλ_=>qA (ι:=Nat) (λk=>k<=x.Arrived.length/\∀t∈x.Arrived.take k,oC t=true) (λk=>rD [(1,.box 1 0),(37,.c (.sl 2 (x.Arrived.map Train.enc))),(38,.c (.i x.Arrived.length)),(39,.c (.i k))] [(1,.box (x.enc.map .c))]) (λk=>x.Arrived.length-k) 0 (by simp) (by apply dB<;>simp) ?_
 rintro k ⟨hk,hall⟩
 rcases zah k x.Arrived.length with hlt|hge
 ·obtain⟨t,ht⟩:∃w,x.Arrived[k]?=some w:=⟨_,zaa hlt⟩;simp -dsimp -implicitDefEqProofs [ht,kD hlt];refine aA (dK t (hsA.2 t (zac ht))) ?_;cases h6:oC t with
  |false=>simp -dsimp -implicitDefEqProofs;exact wno (lno4 ht h6)
  |true=>
   simp -dsimp -implicitDefEqProofs;refine⟨aC hlt hlA,k+1,⟨hlt,iC (p:=oC) ht hall h6⟩,by omega,?_⟩;apply dB<;>simp
 have hA:=dD (p:=oC) hge hall;simp -dsimp -implicitDefEqProofs [eH hge]
 refineλ_=>qA (ι:=Nat) (λk=>k<=x.Entered.length/\∀t∈x.Entered.take k,inRange t 1 9999=true) (λk=>rD [(1,.box 1 0),(48,.c (.sl 1 (x.Entered.map qC))),(49,.c (.i x.Entered.length)),(50,.c (.i k))] [(1,.box (x.enc.map .c))]) (λk=>x.Entered.length-k) 0 (by simp) (by apply dB<;>simp) ?_
 clear hall hk hge k
 rintro k ⟨hk,hall⟩
 rcases zah k x.Entered.length with hlt|hge
 ·obtain⟨t,ht⟩:∃w,x.Entered[k]?=some w:=⟨_,zaa hlt⟩;simp -dsimp -implicitDefEqProofs [ht,kD hlt];refine aA (gB t 1 9999) ?_;cases h6:inRange t 1 9999 with
  |false=>simp -dsimp -implicitDefEqProofs;exact wno (lno5 ht h6)
  |true=>
   simp -dsimp -implicitDefEqProofs;refine⟨aC hlt hlE,k+1,⟨hlt,iC (p:=λn=>inRange n 1 9999) ht hall h6⟩,by omega,?_⟩;apply dB<;>simp
 have hE:=dD (p:=λn=>inRange n 1 9999) hge hall;simp -dsimp -implicitDefEqProofs [eH hge]
 refineλ_=>qA (ι:=Nat) (λk=>k<=x.Passings.length/\∀t∈x.Passings.take k,bQ x.Works.length t=true) (λk=>rD [(1,.box 1 0),(59,.c (.sl 4 (x.Passings.map Passing.enc))),(60,.c (.i x.Passings.length)),(61,.c (.i k))] [(1,.box (x.enc.map .c))]) (λk=>x.Passings.length-k) 0 (by simp) (by apply dB<;>simp) ?_
 clear hall hk hge k
 rintro k ⟨hk,hall⟩
 rcases zah k x.Passings.length with hlt|hge
 ·obtain⟨t,ht⟩:∃w,x.Passings[k]?=some w:=⟨_,zaa hlt⟩;simp -dsimp -implicitDefEqProofs [ht,kD hlt];refine aA (gB t.Time 0 1000000) ?_;cases h6:inRange t.Time 0 1000000 with
  |false=>simp -dsimp -implicitDefEqProofs;exact wno (yq6 ht (by simp[bQ,h6]))
  |true=>
  simp -dsimp -implicitDefEqProofs
  refineλhlW=>⟨by unfold maxLen at hlW;unfold inI;omega,?_⟩
  refine aA (gB t.Work 0 (x.Works.length-1)) ?_;cases h7:inRange t.Work 0 (x.Works.length-1)with
  |false=>simp -dsimp -implicitDefEqProofs;exact wno (yq6 ht (by simp[bQ,h7]))
  |true=>
  simp -dsimp -implicitDefEqProofs;refine aA (dK t.Train (hsP.2 t (zac ht))) ?_;cases h8:oC t.Train with
  |false=>simp -dsimp -implicitDefEqProofs;exact wno (yq6 ht (by simp[bQ,h8]))
  |true=>
  simp -dsimp -implicitDefEqProofs;refine⟨aC hlt hlP,k+1,⟨hlt,iC (p:=bQ x.Works.length) ht hall (by simp[bQ,h6,h7,h8])⟩,by omega,?_⟩;apply dB<;>simp
 have hP:=dD (p:=bQ x.Works.length) hge hall;simp -dsimp -implicitDefEqProofs [eH hge];refine aA (yjI x.Tariff) ?_;cases h7:sG x.Tariff with
 |false=>simp -dsimp -implicitDefEqProofs;simp[xB,h7]
 |true=>
 simp -dsimp -implicitDefEqProofs;refine aA (ymp x.Book) ?_;cases h8:yaz x.Book with
 |false=>simp -dsimp -implicitDefEqProofs;simp[xB,h8]
 |true=>
 simp -dsimp -implicitDefEqProofs;refine aA (gB x.Start 0 1000000000) ?_;cases h9:inRange x.Start 0 1000000000 with
 |false=>simp -dsimp -implicitDefEqProofs;simp[xB,h9]
 |true=>
 simp -dsimp -implicitDefEqProofs;refine aA (gB x.In 0 1000000000) ?_;cases h10:inRange x.In 0 1000000000 with
 |false=>simp -dsimp -implicitDefEqProofs;simp[xB,h10]
 |true=>
 simp -dsimp -implicitDefEqProofs;refine aA (gB x.Out 0 1000000000) ?_;simp -dsimp -implicitDefEqProofs;have a3:x.Arrived.length<=500:=by omega
 have a4:x.Entered.length<=2000:=by omega
 have a5:x.Passings.length<=500:=by omega
 have hl:gI x=true:=by simp only[gI,a3,a4,a5,hA,hE,hP];simp
 simp[xB,h1,h2,h7,h8,h9,h10,hl]
theorem yoY(x:Waterway)(hs:x.small):lC Tryz.prog 131 [.agg (x.enc.map .c)] (.c (.b (bG x))):=by
 have hsM:=hs.2.2.2.1;have hsW:=hs.2.2.1;refine qB ygn ?_;simp -dsimp -implicitDefEqProofs;intro hlen;refine aA (yem x.Reaches) ?_;cases h1:pG x.Reaches with
 |false=>simp -dsimp -implicitDefEqProofs;simp[bG,h1]
 |true=>
 simp -dsimp -implicitDefEqProofs;refine⟨λh2=>?_,λh2=>(pno2 (by omega))⟩;intro _;refine⟨λh3=>?_,λh3=>(pno3 (by omega))⟩;intro _;refine⟨λh4=>?_,λh4=>(pno4 (by omega))⟩
 refineλ_=>⟨by unfold maxLen at hlen;unfold inI;omega,?_⟩
 refine⟨λh5=>(pno5 (by omega)),λh5=>?_⟩;have h3':x.Ways.length=x.Reaches.length:=by omega
 have h4':x.Movers.length=x.Reaches.length:=by omega
 have h5':x.Works.length+1=x.Reaches.length:=by omega
 have hz:(x.Ways.zip x.Movers).length=x.Ways.length:=by rw[List.length_zip];omega
 refine qA (ι:=Nat) (λk=>k<=x.Ways.length/\(∀p∈(x.Ways.zip x.Movers).take k,fK p=true)/\∀w∈x.Works.take k,dF w=true) (λk=>rD [(1,.box 1 0),(3,.c (.i x.Reaches.length)),(4,.c (.i k))] [(1,.box (x.enc.map .c))]) (λk=>x.Ways.length-k) 0 (by simp) (by apply dB<;>simp) ?_
 rintro k ⟨hk,hall,hallw⟩
 rcases zah k x.Ways.length with hlt|hge
 ·obtain⟨w,hw⟩:∃w,x.Ways[k]?=some w:=⟨_,zaa hlt⟩;obtain⟨ms,hm⟩:∃w,x.Movers[k]?=some w:=⟨_,zaa (by omega)⟩;have hkm:k<x.Movers.length:=by omega
  have hkr:k<x.Reaches.length:=by omega
  have gm:=(zab.1 hm).2;have gw:=(zab.1 hw).2;have hp:(x.Ways.zip x.Movers)[k]?=some (w,ms):=zbS.2 ⟨hw,hm⟩;have hsm:=hsM.2 ms (zac hm);simp -dsimp -implicitDefEqProofs [hw,gw,kD hlt,hlt,hkr,kD hkr];refine aA (ygY w) ?_;cases h6:yK w with
  |false=>simp -dsimp -implicitDefEqProofs;exact iU hw hm (yvQ h6)
  |true=>
  simp -dsimp -implicitDefEqProofs [hm,gm,hkm,kD hkm];intro hlm;refine⟨λh7=>?_,λh7=>(iU hw hm (yvy (by omega)))⟩;refine⟨by unfold maxLen at hlen;unfold inI;omega,λhc=>?_,λhc=>?_⟩
  ·obtain⟨wk,hwk⟩:∃w,x.Works[k]?=some w:=⟨_,zaa (by omega)⟩;have gk:=(zab.1 hwk).2;have hkw:k<x.Works.length:=by omega
   refine⟨hkw,?_⟩;simp -dsimp -implicitDefEqProofs [hwk];refine aA (ynJ wk (hsW.2 wk (zac hwk))) ?_;cases h10:dF wk with
   |false=>simp -dsimp -implicitDefEqProofs;exact yhu hwk h10
   |true=>
   simp -dsimp -implicitDefEqProofs;refine qA (ι:=Nat) (λi=>i<=ms.length/\∀m∈ms.take i,aI m w=true) (λi=>rD [(1,.box 1 0),(3,.c (.i x.Reaches.length)),(4,.c (.i k)),(5,.c (.i i))] [(1,.box (x.enc.map .c))]) (λi=>ms.length-i) 0 (by simp) (by apply dB<;>simp) ?_
   rintro i ⟨hi,hall2⟩
   rcases zah i ms.length with hlt2|hge2
   ·obtain⟨m,hmm⟩:∃w,ms[i]?=some w:=⟨_,zaa hlt2⟩;have g2:=(zab.1 hmm).2;simp -dsimp -implicitDefEqProofs [hw,gw,hlt,kD hlt,hm,gm,hkm,kD hkm,hmm,g2,kD hlt2,hlt2];intro _;refine fH (ydz m w (hsm.2 m (zac hmm))) ?_;cases h8:aI m w with
    |false=>simp -dsimp -implicitDefEqProofs;exact iU hw hm (ysT hmm h8)
    |true=>
     simp -dsimp -implicitDefEqProofs;refine⟨aC hlt2 hlm,i+1,⟨hlt2,iC (p:=λm=>aI m w) hmm hall2 h8⟩,by omega,?_⟩;apply dB<;>simp
   ·have h9:=dD (p:=λm=>aI m w) hge2 hall2
    have hlane:fK (w,ms)=true:=by
     have:ms.length<=24:=by omega
     simp[fK,h6,this,h9]
    simp -dsimp -implicitDefEqProofs [hm,gm,hkm,kD hkm,eH hge2]
    refineλ_=>⟨by unfold maxLen at hlen;unfold inI;omega,k+1,⟨hlt,λa b hab=>iC (p:=fK) hp hall hlane (a,b) hab,iC (p:=dF) hwk hallw h10⟩,by omega,?_⟩
    apply dB<;>simp
  ·have hwa:x.Works.take (k+1)=x.Works.take k:=by rw[zaf (by omega),zaf (by omega)]
   refine qA (ι:=Nat) (λi=>i<=ms.length/\∀m∈ms.take i,aI m w=true) (λi=>rD [(1,.box 1 0),(3,.c (.i x.Reaches.length)),(4,.c (.i k)),(5,.c (.i i))] [(1,.box (x.enc.map .c))]) (λi=>ms.length-i) 0 (by simp) (by apply dB<;>simp) ?_
   rintro i ⟨hi,hall2⟩
   rcases zah i ms.length with hlt2|hge2
   ·obtain⟨m,hmm⟩:∃w,ms[i]?=some w:=⟨_,zaa hlt2⟩;have g2:=(zab.1 hmm).2;simp -dsimp -implicitDefEqProofs [hw,gw,hlt,kD hlt,hm,gm,hkm,kD hkm,hmm,g2,kD hlt2,hlt2];intro _;refine fH (ydz m w (hsm.2 m (zac hmm))) ?_;cases h8:aI m w with
    |false=>simp -dsimp -implicitDefEqProofs;exact iU hw hm (ysT hmm h8)
    |true=>
     simp -dsimp -implicitDefEqProofs;refine⟨aC hlt2 hlm,i+1,⟨hlt2,iC (p:=λm=>aI m w) hmm hall2 h8⟩,by omega,?_⟩;apply dB<;>simp
   ·have h9:=dD (p:=λm=>aI m w) hge2 hall2
    have hlane:fK (w,ms)=true:=by
     have:ms.length<=24:=by omega
     simp[fK,h6,this,h9]
    simp -dsimp -implicitDefEqProofs [hm,gm,hkm,kD hkm,eH hge2]
    refineλ_=>⟨by unfold maxLen at hlen;unfold inI;omega,k+1,⟨hlt,λa b hab=>iC (p:=fK) hp hall hlane (a,b) hab,by rw[hwa];exact hallw⟩,by omega,?_⟩
    apply dB<;>simp
 ·simp -dsimp -implicitDefEqProofs [eH hge];refine⟨by omega,λ_=>?_⟩;have hl:=dD (p:=fK) (by rw[hz];exact hge) hall;have h9:=dD (p:=dF) (l:=x.Works) (k:=k) (by omega) hallw;have h2':2<=x.Reaches.length:=by omega
  simp[bG,h1,h2',h3',h4',h5',hl,h9]
end Go.Proofs.YtpiplmnecmkafaaGreat
