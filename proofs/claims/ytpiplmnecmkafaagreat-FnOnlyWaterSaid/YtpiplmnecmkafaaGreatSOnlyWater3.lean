/- What the law FnOnlyWater stands on: contracts of functions, what each answers as plain Lean, in short form (names, layout). -/
import Derived.Test.YtpiplmnecmkafaaGreatSOnlyWater2
set_option linter.all false
namespace Go.Proofs.YtpiplmnecmkafaaGreat
open Go.RowKit
theorem yoy(x:Waterway)(hs:x.small):lC Tryz.prog 132 [.agg (x.enc.map .c)] (.c (.b (gI x))):=by
 have hsA:=hs.2.2.2.2.1;have hsP:=hs.2.2.2.2.2.2.2.2;refine qB ygw ?_;simp -dsimp -implicitDefEqProofs;intro hlA;refine⟨λh3=>?_,λh3=>(lno1 (by omega))⟩;intro hlE;refine⟨λh4=>?_,λh4=>(lno2 (by omega))⟩;intro hlP;refine⟨λh5=>(lno3 (by omega)),λh5=>?_⟩;refine qA (ι:=Nat) (λk=>k<=x.Arrived.length/\∀t∈x.Arrived.take k,oC t=true) (λk=>rD [(1,.box 1 0),(3,.c (.i k))] [(1,.box (x.enc.map .c))]) (λk=>x.Arrived.length-k) 0 (by simp) (by apply dB<;>simp) ?_
 rintro k ⟨hk,hall⟩
 rcases zah k x.Arrived.length with hlt|hge
 ·obtain⟨t,ht⟩:∃w,x.Arrived[k]?=some w:=⟨_,zaa hlt⟩;have g1:=(zab.1 ht).2;simp -dsimp -implicitDefEqProofs [ht,g1,hlt,kD hlt];intro _;refine aA (xR t (hsA.2 t (zac ht))) ?_;cases h6:oC t with
  |false=>simp -dsimp -implicitDefEqProofs;exact lno4 ht h6
  |true=>
   simp -dsimp -implicitDefEqProofs;refine⟨aC hlt hlA,k+1,⟨hlt,iC (p:=oC) ht hall h6⟩,by omega,?_⟩;apply dB<;>simp
 have hA:=dD (p:=oC) hge hall;simp -dsimp -implicitDefEqProofs [eH hge]
 refineλ_=>qA (ι:=Nat) (λk=>k<=x.Entered.length/\∀t∈x.Entered.take k,inRange t 1 9999=true) (λk=>rD [(1,.box 1 0),(4,.c (.i k))] [(1,.box (x.enc.map .c))]) (λk=>x.Entered.length-k) 0 (by simp) (by apply dB<;>simp) ?_
 clear hall hk hge k
 rintro k ⟨hk,hall⟩
 rcases zah k x.Entered.length with hlt|hge
 ·obtain⟨t,ht⟩:∃w,x.Entered[k]?=some w:=⟨_,zaa hlt⟩;have g1:=(zab.1 ht).2;simp -dsimp -implicitDefEqProofs [ht,g1,hlt,kD hlt];intro _;refine aA (jB t 1 9999) ?_;cases h6:inRange t 1 9999 with
  |false=>simp -dsimp -implicitDefEqProofs;exact lno5 ht h6
  |true=>
   simp -dsimp -implicitDefEqProofs;refine⟨aC hlt hlE,k+1,⟨hlt,iC (p:=λn=>inRange n 1 9999) ht hall h6⟩,by omega,?_⟩;apply dB<;>simp
 have hE:=dD (p:=λn=>inRange n 1 9999) hge hall;simp -dsimp -implicitDefEqProofs [eH hge]
 refineλ_=>qA (ι:=Nat) (λk=>k<=x.Passings.length/\∀t∈x.Passings.take k,bQ x.Works.length t=true) (λk=>rD [(1,.box 1 0),(5,.c (.i k))] [(1,.box (x.enc.map .c))]) (λk=>x.Passings.length-k) 0 (by simp) (by apply dB<;>simp) ?_
 clear hall hk hge k
 rintro k ⟨hk,hall⟩
 rcases zah k x.Passings.length with hlt|hge
 ·obtain⟨t,ht⟩:∃w,x.Passings[k]?=some w:=⟨_,zaa hlt⟩;have g1:=(zab.1 ht).2;simp -dsimp -implicitDefEqProofs [ht,g1,hlt,kD hlt];intro _;refine aA (jB t.Time 0 1000000) ?_;cases h6:inRange t.Time 0 1000000 with
  |false=>simp -dsimp -implicitDefEqProofs;exact yq6 ht (by simp[bQ,h6])
  |true=>
  simp -dsimp -implicitDefEqProofs
  refineλhlW=>⟨by unfold maxLen at hlW;unfold inI;omega,?_⟩
  refine aA (jB t.Work 0 (x.Works.length-1)) ?_;cases h7:inRange t.Work 0 (x.Works.length-1)with
  |false=>simp -dsimp -implicitDefEqProofs;exact yq6 ht (by simp[bQ,h7])
  |true=>
  simp -dsimp -implicitDefEqProofs;refine aA (xR t.Train (hsP.2 t (zac ht))) ?_;cases h8:oC t.Train with
  |false=>simp -dsimp -implicitDefEqProofs;exact yq6 ht (by simp[bQ,h8])
  |true=>
  simp -dsimp -implicitDefEqProofs;refine⟨aC hlt hlP,k+1,⟨hlt,iC (p:=bQ x.Works.length) ht hall (by simp[bQ,h6,h7,h8])⟩,by omega,?_⟩;apply dB<;>simp
 have hP:=dD (p:=bQ x.Works.length) hge hall;simp -dsimp -implicitDefEqProofs [eH hge];intro _;have a3:x.Arrived.length<=500:=by omega
 have a4:x.Entered.length<=2000:=by omega
 have a5:x.Passings.length<=500:=by omega
 simp only[gI,a3,a4,a5,hA,hE,hP];simp
theorem ybJ(x:Waterway)(hs:x.small):lC Tryz.prog 84 [.agg (x.enc.map .c)] (.c (.b (xB x))):=by
 refine qB ydB ?_;simp -dsimp -implicitDefEqProofs;refine aA (jB x.Time 0 1000000) ?_;cases h1:inRange x.Time 0 1000000 with
 |false=>simp -dsimp -implicitDefEqProofs;simp[xB,h1]
 |true=>
 simp -dsimp -implicitDefEqProofs;refine aA (jB x.Start 0 1000000000) ?_;cases h2:inRange x.Start 0 1000000000 with
 |false=>simp -dsimp -implicitDefEqProofs;simp[xB,h2]
 |true=>
 simp -dsimp -implicitDefEqProofs;refine aA (jB x.In 0 1000000000) ?_;cases h3:inRange x.In 0 1000000000 with
 |false=>simp -dsimp -implicitDefEqProofs;simp[xB,h3]
 |true=>
 simp -dsimp -implicitDefEqProofs;refine aA (jB x.Out 0 1000000000) ?_;cases h4:inRange x.Out 0 1000000000 with
 |false=>simp -dsimp -implicitDefEqProofs;simp[xB,h4]
 |true=>
 simp -dsimp -implicitDefEqProofs;refine aA (yoY x hs) ?_;cases h5:bG x with
 |false=>simp -dsimp -implicitDefEqProofs;simp[xB,h5]
 |true=>
 simp -dsimp -implicitDefEqProofs;refine aA (yoy x hs) ?_;cases h6:gI x with
 |false=>simp -dsimp -implicitDefEqProofs;simp[xB,h6]
 |true=>
 simp -dsimp -implicitDefEqProofs;refine aA (yjT x.Tariff) ?_;cases h7:sG x.Tariff with
 |false=>simp -dsimp -implicitDefEqProofs;simp[xB,h7]
 |true=>
 simp -dsimp -implicitDefEqProofs;refine aA (ymf x.Book) ?_;simp -dsimp -implicitDefEqProofs;simp[xB,h1,h2,h3,h4,h5,h6,h7]
def xF(w:Work):Int:=w.Lock.Water
def qG(x:Waterway):Int:=if xB x then nG x.Reaches+(x.Works.map xF).sum else 0
def lX(x:Waterway)(k:Nat):Int:=((x.Works.take k).map xF).sum
theorem ya7{x:Waterway}:lX x 0=0:=rfl
theorem ya9{x:Waterway}{k:Nat}{w:Work}(h:x.Works[k]?=some w):lX x (k+1)=lX x k+w.Lock.Water:=by
 unfold lX;rw[zar,h];simp[xF]
theorem mY{x:Waterway}{k:Nat}(h:x.Works.length<=k):lX x k=(x.Works.map xF).sum:=by unfold lX;rw[zaf h]
structure WaterFacts(x:Waterway):Prop where
 river:pG x.Reaches=true
 few:x.Works.length<=5
 rng:∀w∈x.Works,0<=w.Lock.Water/\w.Lock.Water<=1000000000
 start:0<=x.Start/\x.Start<=1000000000
 inn:0<=x.In/\x.In<=1000000000
 out:0<=x.Out/\x.Out<=1000000000
theorem tJ{x:Waterway}(h:xB x=true):WaterFacts x:=by
 simp only[xB,zad]at h;obtain⟨⟨⟨⟨⟨⟨⟨h1,h2⟩,h3⟩,h4⟩,h5⟩,h6⟩,h7⟩,h8⟩:=h;simp only[bG,zad,decide_eq_true_eq,zae]at h2;obtain⟨⟨⟨⟨⟨⟨p1,p2⟩,p3⟩,p4⟩,p5⟩,p6⟩,p7⟩:=h2;have rf:=(oU p1).len;refine⟨p1,by omega,λw hw=>?_,jA.1 h6,jA.1 h7,jA.1 h8⟩;have:=p7 w hw;simp only[dF,kH,zad]at this;exact jA.1 this.1.1.1.1.1.1.1.1.2
theorem pU{x:Waterway}(h:WaterFacts x):∀k:Nat,0<=lX x k/\lX x k<=1000000000*k
 |0=>by rw[ya7];omega
 | k+1=>by
  have ih:=pU h k;have e2:((k+1:Nat):Int)=k+1:=by simp
  cases hk:x.Works[k]? with
  |none=>
   have hl:x.Works.length<=k:=by simpa using hk
   rw[mY (by omega),<-mY hl];omega
  |some w=>
   have:=h.rng w (zac hk);rw[ya9 hk];omega
theorem yQ{l:List Reach}(h:pG l=true):0<=nG l/\nG l<=1000000000:=by
 have:=(oU h).rng;simp[nG,h];omega
theorem ygb(x:Waterway):0<=qG x/\qG x<=6000000000:=by
 unfold qG;split
 ·rename_i h;have f:=tJ h;have h1:=yQ f.river;have h2:=pU f x.Works.length;have h3:=f.few;rw[mY (Nat.le_refl _)]at h2;omega
 ·omega
theorem ylo(x:Waterway)(hs:x.small):lC Tryz.prog 33 [.agg (x.enc.map .c)] (.c (.i (qG x))):=by
 refine qB yiu ?_;simp -dsimp -implicitDefEqProofs;refine aA (lH x hs) ?_;cases h:xB x with
 |false=>simp -dsimp -implicitDefEqProofs;simp[qG,h]
 |true=>
 have f:=tJ h;have hr:=yQ f.river;have hfew:=f.few;have hW:qG x=nG x.Reaches+(x.Works.map xF).sum:=by simp[qG,h]
 simp -dsimp -implicitDefEqProofs;refine aA (ygq x.Reaches) ?_;simp -dsimp -implicitDefEqProofs;intro hlen;refine qA (ι:=Nat) (λk=>k<=x.Works.length) (λk=>rD [(3,.c (.i (nG x.Reaches+lX x k))),(13,.c (.sl 22 (x.Works.map Work.enc))),(14,.c (.i x.Works.length)),(15,.c (.i k))] []) (λk=>x.Works.length-k) 0 (by simp) (by apply dB<;>simp[ya7]) ?_
 rintro k hk
 rcases zah k x.Works.length with hlt|hge
 ·obtain⟨w,hw⟩:∃w,x.Works[k]?=some w:=⟨_,zaa hlt⟩;have g1:=(zab.1 hw).2;have e1:=ya9 hw;have hb:=pU f (k+1);have hb0:=pU f k;rw[e1]at hb;simp -dsimp -implicitDefEqProofs [hw,g1,kD hlt,hlt];refine⟨by unfold inI;omega,aC hlt hlen,k+1,hlt,by omega,?_⟩;apply dB<;>simp[e1];omega
 ·simp -dsimp -implicitDefEqProofs [eH hge];rw[mY hge,hW]
theorem ylK(x:Waterway)(hs:x.small):lC Tryz.prog 83 [.agg (x.enc.map .c)] (.c (.i (qG x))):=by
 refine qB yiJ ?_;simp -dsimp -implicitDefEqProofs;refine aA (ybJ x hs) ?_;cases h:xB x with
 |false=>simp -dsimp -implicitDefEqProofs;simp[qG,h]
 |true=>
 have f:=tJ h;have hr:=yQ f.river;have hfew:=f.few;have hW:qG x=nG x.Reaches+(x.Works.map xF).sum:=by simp[qG,h]
 simp -dsimp -implicitDefEqProofs;refine aA (ygs x.Reaches) ?_;simp -dsimp -implicitDefEqProofs;refine qA (ι:=Nat) (λk=>k<=x.Works.length) (λk=>rD [(1,.box 1 0),(3,.c (.i (nG x.Reaches+lX x k))),(4,.c (.i k))] [(1,.box (x.enc.map .c))]) (λk=>x.Works.length-k) 0 (by simp) (by apply dB<;>simp[ya7]) ?_
 rintro k hk
 rcases zah k x.Works.length with hlt|hge
 ·obtain⟨w,hw⟩:∃w,x.Works[k]?=some w:=⟨_,zaa hlt⟩;have g1:=(zab.1 hw).2;have e1:=ya9 hw;have hb:=pU f (k+1);have hb0:=pU f k;rw[e1]at hb;simp -dsimp -implicitDefEqProofs [hw,g1,kD hlt,hlt]
  refineλhlen=>⟨by unfold inI;omega,aC hlt hlen,k+1,hlt,by omega,?_⟩
  apply dB<;>simp[e1];omega
 ·simp -dsimp -implicitDefEqProofs [eH hge];intro _;rw[mY hge,hW]
def yaR(x:Waterway):Bool:=xB x&&decide (qG x+x.Out=x.Start+x.In)
theorem yiA(x:Waterway)(hs:x.small):lC Tryz.prog 14 [.agg (x.enc.map .c)] (.c (.b (yaR x))):=by
 refine qB yfB ?_;simp -dsimp -implicitDefEqProofs;refine fH (lH x hs) ?_;cases h:xB x with
 |false=>simp -dsimp -implicitDefEqProofs;simp[yaR,h]
 |true=>
 have f:=tJ h;have f1:=f.start;have f2:=f.inn;have f3:=f.out;have hw:=ygb x;simp -dsimp -implicitDefEqProofs;refine fH (ylo x hs) ?_;simp -dsimp -implicitDefEqProofs;refine⟨by unfold inI;omega,by unfold inI;omega,?_⟩;simp[yaR,h]
theorem cO{α:Type}{f:α->List C}(h:∀x,∀c∈f x,c.closed)(k:Nat)(l:List α):(C.ot k (l.map f)).closed:=by
 simp only[C.closed,zaO]
 rintro r ⟨x,_,rfl⟩ c hc
 exact h x c hc
theorem yZ{l:List C}(h:∀c∈l,c.closed):(AV.agg (l.map .c)).closed:=by
 show∀c,c∈AV.cs (l.map AV.c)->c.closed
 rw[yo5];exact h
theorem yak(xs:List Boat):∀c∈iI xs,c.closed:=by simp[iI,C.closed]
theorem Train.lF(e:Train):∀c∈e.iE,c.closed:=by
 simp only[Train.iE,zaH,zaG,or_false,forall_eq_or_imp,forall_eq];exact⟨by simp[C.closed],cO yak _ _⟩
theorem Mover.lF(e:Mover):∀c∈e.iE,c.closed:=by
 simp only[Mover.iE,zaH,zaG,or_false,forall_eq_or_imp,forall_eq];exact⟨by simp[C.closed],cO yak _ _,by simp[C.closed]⟩
theorem Reach.lF(e:Reach):∀c∈e.iE,c.closed:=by
 simp only[Reach.iE,zaH,zaG,or_false,forall_eq_or_imp,forall_eq];exact⟨by simp[C.closed],by simp[C.closed],by simp[C.closed]⟩
theorem Tariff.lF(e:Tariff):∀c∈e.iE,c.closed:=by
 simp only[Tariff.iE,zaH,zaG,or_false,forall_eq_or_imp,forall_eq];exact⟨by simp[C.closed],by simp[C.closed],by simp[C.closed],by simp[C.closed]⟩
def ymN(e:Reach):Nat:=2*e.Table.length+1+e.Pipe.length
def yr1(k:Int)(e:Reach):List C:=[.ow 2 (marked mkPt 2 [] k e.Table.length),.i (k+2*(e.Table.length:Int)),.ow 1 (marked qC 1 [] (k+2*(e.Table.length:Int)+1) e.Pipe.length)]
def yyt(k:Int):List C:=[.i k,.i (k+1)]
def ysa(k:Int):List C:=[.i k,.i (k+1)]
def bK(e:Train):Nat:=1+cnt nB e.Rows
def ynM(k:Int)(e:Train):List C:=[.b (decide (k.tmod 3=0)),.ot 1 (yfE fB nB (k+1) e.Rows)]
@[simp] def CallT.iE(e:CallT):List C:=[.b e.Train.Up,.ot 1 (e.Train.Rows.map iI),.i e.Since,.i e.Booked]
theorem CallT.oH(e:CallT):mM e.iE=some e.enc:=by simp[CallT.iE,mM,nR jV]
theorem CallT.lF(e:CallT):∀c∈e.iE,c.closed:=by
 simp only[CallT.iE,zaH,zaG,or_false,forall_eq_or_imp,forall_eq];exact⟨by simp[C.closed],cO yak _ _,by simp[C.closed],by simp[C.closed]⟩
def ypF(e:CallT):Nat:=1+cnt nB e.Train.Rows+1+1
def yuJ(k:Int)(e:CallT):List C:=[.b (decide (k.tmod 3=0)),.ot 1 (yfE fB nB (k+1) e.Train.Rows),.i (k+1+(cnt nB e.Train.Rows:Int)),.i (k+1+(cnt nB e.Train.Rows:Int)+1)]
@[simp] def Lock.iE(e:Lock):List C:=[.i e.Length,.i e.Width,.i e.SillAbove,.i e.SillBelow,.i e.Base,.i e.Area,.i e.Rate,.i e.Water,.i e.Gate,.ot 2 (e.Inside.map Train.iE)]
theorem Lock.oH(e:Lock):mM e.iE=some e.enc:=by simp[Lock.iE,mM,nR Train.oH]
theorem Lock.lF(e:Lock):∀c∈e.iE,c.closed:=by
 simp only[Lock.iE,zaH,zaG,or_false,forall_eq_or_imp,forall_eq];exact⟨by simp[C.closed],by simp[C.closed],by simp[C.closed],by simp[C.closed],by simp[C.closed],by simp[C.closed],by simp[C.closed],by simp[C.closed],by simp[C.closed],cO Train.lF _ _⟩
@[simp] def Work.iE(e:Work):List C:=[.i e.Lock.Length,.i e.Lock.Width,.i e.Lock.SillAbove,.i e.Lock.SillBelow,.i e.Lock.Base,.i e.Lock.Area,.i e.Lock.Rate,.i e.Lock.Water,.i e.Lock.Gate,.ot 2 (e.Lock.Inside.map Train.iE),.i e.Weir.Gates,.i e.Weir.Open,.i e.Weir.Step,.i e.Weir.Crest,.i e.Weir.Width,.i e.Rule.Low,.i e.Rule.High,.i e.Rule.Flood,.ow 2 (e.Pauses.map Pause.enc),.b e.Turn.Up,.i e.Turn.Count,.ot 4 (e.Calls.map CallT.iE)]
theorem Work.oH(e:Work):mM e.iE=some e.enc:=by simp[Work.iE,mM,nR Train.oH,nR CallT.oH]
theorem Work.lF(e:Work):∀c∈e.iE,c.closed:=by
 simp only[Work.iE,zaH,zaG,or_false,forall_eq_or_imp,forall_eq];exact⟨by simp[C.closed],by simp[C.closed],by simp[C.closed],by simp[C.closed],by simp[C.closed],by simp[C.closed],by simp[C.closed],by simp[C.closed],by simp[C.closed],cO Train.lF _ _,by simp[C.closed],by simp[C.closed],by simp[C.closed],by simp[C.closed],by simp[C.closed],by simp[C.closed],by simp[C.closed],by simp[C.closed],by simp[C.closed],by simp[C.closed],by simp[C.closed],cO CallT.lF _ _⟩
def ypy(e:Work):Nat:=1+1+1+1+1+1+1+1+1+cnt bK e.Lock.Inside+1+1+1+1+1+1+1+1+2*e.Pauses.length+1+1+cnt ypF e.Calls
def yua(k:Int)(e:Work):List C:=[.i k,.i (k+1),.i (k+1+1),.i (k+1+1+1),.i (k+1+1+1+1),.i (k+1+1+1+1+1),.i (k+1+1+1+1+1+1),.i (k+1+1+1+1+1+1+1),.i (k+1+1+1+1+1+1+1+1),.ot 2 (yfE ynM bK (k+1+1+1+1+1+1+1+1+1) e.Lock.Inside),.i (k+1+1+1+1+1+1+1+1+1+(cnt bK e.Lock.Inside:Int)),.i (k+1+1+1+1+1+1+1+1+1+(cnt bK e.Lock.Inside:Int)+1),.i (k+1+1+1+1+1+1+1+1+1+(cnt bK e.Lock.Inside:Int)+1+1),.i (k+1+1+1+1+1+1+1+1+1+(cnt bK e.Lock.Inside:Int)+1+1+1),.i (k+1+1+1+1+1+1+1+1+1+(cnt bK e.Lock.Inside:Int)+1+1+1+1),.i (k+1+1+1+1+1+1+1+1+1+(cnt bK e.Lock.Inside:Int)+1+1+1+1+1),.i (k+1+1+1+1+1+1+1+1+1+(cnt bK e.Lock.Inside:Int)+1+1+1+1+1+1),.i (k+1+1+1+1+1+1+1+1+1+(cnt bK e.Lock.Inside:Int)+1+1+1+1+1+1+1),.ow 2 (marked ysa 2 [] (k+1+1+1+1+1+1+1+1+1+(cnt bK e.Lock.Inside:Int)+1+1+1+1+1+1+1+1) e.Pauses.length),.b (decide ((k+1+1+1+1+1+1+1+1+1+(cnt bK e.Lock.Inside:Int)+1+1+1+1+1+1+1+1+2*(e.Pauses.length:Int)).tmod 3=0)),.i (k+1+1+1+1+1+1+1+1+1+(cnt bK e.Lock.Inside:Int)+1+1+1+1+1+1+1+1+2*(e.Pauses.length:Int)+1),.ot 4 (yfE yuJ ypF (k+1+1+1+1+1+1+1+1+1+(cnt bK e.Lock.Inside:Int)+1+1+1+1+1+1+1+1+2*(e.Pauses.length:Int)+1+1) e.Calls)]
def tK(xs:List Mover):List C:=[.ot 3 (xs.map Mover.iE)]
theorem ycR(xs:List Mover):mM (tK xs)=some (qE xs):=by simp[tK,mM,nR Mover.oH]
theorem yli(xs:List Mover):∀c∈tK xs,c.closed:=by
 intro c hc;simp only[tK,zal]at hc;subst hc;exact cO Mover.lF _ _
def ykq(r:List Mover):Nat:=cnt nM r
def yrk(k:Int)(r:List Mover):List C:=[.ot 3 (yfE fM nM k r)]
@[simp] def Passing.iE(e:Passing):List C:=[.i e.Time,.i e.Work,.b e.Train.Up,.ot 1 (e.Train.Rows.map iI)]
theorem Passing.oH(e:Passing):mM e.iE=some e.enc:=by simp[Passing.iE,mM,nR jV]
theorem Passing.lF(e:Passing):∀c∈e.iE,c.closed:=by
 simp only[Passing.iE,zaH,zaG,or_false,forall_eq_or_imp,forall_eq];exact⟨by simp[C.closed],by simp[C.closed],by simp[C.closed],cO yak _ _⟩
def yo2(e:Passing):Nat:=1+1+1+cnt nB e.Train.Rows
def yoK(k:Int)(e:Passing):List C:=[.i k,.i (k+1),.b (decide ((k+1+1).tmod 3=0)),.ot 1 (yfE fB nB (k+1+1+1) e.Train.Rows)]
@[simp] def Waterway.iE(e:Waterway):List C:=[.i e.Time,.ot 3 (e.Reaches.map Reach.iE),.ow 2 (e.Ways.map Way.enc),.ot 22 (e.Works.map Work.iE),.ot 1 (e.Movers.map tK),.ot 2 (e.Arrived.map Train.iE),.ow 1 (e.Entered.map qC),.i e.Tariff.Base,.i e.Tariff.PerArea,.ow 1 (e.Tariff.PerClass.map qC),.ow 1 (e.Tariff.Weights.map qC),.ow 5 (e.Book.map Entry.enc),.ot 4 (e.Passings.map Passing.iE),.i e.Start,.i e.In,.i e.Out]
theorem Waterway.oH(e:Waterway):mM e.iE=some e.enc:=by simp[Waterway.iE,mM,nR Reach.oH,nR Work.oH,nR ycR,nR Train.oH,nR Passing.oH]
theorem Waterway.lF(e:Waterway):∀c∈e.iE,c.closed:=by
 simp only[Waterway.iE,zaH,zaG,or_false,forall_eq_or_imp,forall_eq];exact⟨by simp[C.closed],cO Reach.lF _ _,by simp[C.closed],cO Work.lF _ _,cO yli _ _,cO Train.lF _ _,by simp[C.closed],by simp[C.closed],by simp[C.closed],by simp[C.closed],by simp[C.closed],by simp[C.closed],cO Passing.lF _ _,by simp[C.closed],by simp[C.closed],by simp[C.closed]⟩
theorem yrO(es:List Point)(hl:es.length<=1048576):pM Tryz.prog 135 [.c (.sl 2 (es.map Point.enc))] (.c (.ow 2 (es.map Point.enc))):=by
 refine mG nP ?_;simp -dsimp -implicitDefEqProofs [aJ,aB];omega
theorem yd3(es:List Int)(hl:es.length<=1048576):pM Tryz.prog 52 [.c (.sl 1 (es.map qC))] (.c (.ow 1 (es.map qC))):=by
 refine mG yac ?_;simp -dsimp -implicitDefEqProofs [jS,aB];omega
theorem yqU(es:List Pause)(hl:es.length<=1048576):pM Tryz.prog 87 [.c (.sl 2 (es.map Pause.enc))] (.c (.ow 2 (es.map Pause.enc))):=by
 refine mG jP ?_;simp -dsimp -implicitDefEqProofs [bJ,aB];omega
theorem ys2(es:List Way)(hl:es.length<=1048576):pM Tryz.prog 48 [.c (.sl 2 (es.map Way.enc))] (.c (.ow 2 (es.map Way.enc))):=by
 refine mG lS ?_;simp -dsimp -implicitDefEqProofs [iK,aB];omega
theorem ytt(es:List Entry)(hl:es.length<=1048576):pM Tryz.prog 54 [.c (.sl 5 (es.map Entry.enc))] (.c (.ow 5 (es.map Entry.enc))):=by
 refine mG kP ?_;simp -dsimp -implicitDefEqProofs [qI,aB];omega
theorem nY(e:Reach)(hl:Reach.small e):pM Tryz.prog 85 [.agg (e.enc.map .c)] (.agg (e.iE.map .c)):=by
 refine mG yfl ?_;simp -dsimp -implicitDefEqProofs;refine yC (yrO e.Table hl.1.1) (by simp) (by simp[AV.closed,AV.iR,C.closed]) (by simp[tC]) ?_;simp -dsimp -implicitDefEqProofs [aB];refine yC (yd3 e.Pipe hl.2.1) (by simp) (by simp[AV.closed,AV.iR,C.closed]) (by simp[tC]) ?_;simp -dsimp -implicitDefEqProofs [aB]
theorem yjt(xs:List Reach)(hl:dJ xs):pM Tryz.prog 47 [.c (.sl 3 (xs.map Reach.enc))] (.c (.ot 3 (xs.map Reach.iE))):=by
 refine mG yc4 ?_;simp -dsimp -implicitDefEqProofs;intro hlen;have hl1:=hl.1;refine⟨by omega,?_⟩;intro _;refine qA (ι:=Nat) (λk=>k<=xs.length) (λk=>rD [(3,.own 8 3 k),(9,.c (.sl 3 (xs.map Reach.enc))),(10,.c (.i xs.length)),(11,.c (.i k))] [(8,.tr 3 0 ((xs.take k).map Reach.iE))]) (λk=>xs.length-k) 0 (by simp) (by apply dB<;>simp[Obj.leO]) ?_
 rintro k hk
 rcases zah k xs.length with hlt|hge
 ·obtain⟨e,he⟩:∃e,xs[k]?=some e:=⟨_,zaa hlt⟩;have hs:xs.take (k+1)=xs.take k++[e]:=by rw[zar,he];rfl
  have he2:=hl.2 e (zac he);have g1:=(zab.1 he).2;simp -dsimp -implicitDefEqProofs [he,g1,hlt,kD hlt];refine rG (nY e he2) (by simp) (yZ (Reach.lF e)) (by simp[tC]) ?_;simp -dsimp -implicitDefEqProofs [aB,Nat.min_eq_left hk,oV];refine⟨by omega,aC hlt hlen,k+1,hlt,by omega,?_⟩;have hs2:(xs.map Reach.iE).take (k+1)=(xs.map Reach.iE).take k++[Reach.iE e]:=by rw[<-zbk,<-zbk,hs,zaN];rfl
  apply dB<;>simp[Obj.leO,hs2]
 ·have:k=xs.length:=by omega
  subst this;simp -dsimp -implicitDefEqProofs [aB]
  try simp
theorem ydK(xs:List Train)(hl:iL xs):pM Tryz.prog 51 [.c (.sl 2 (xs.map Train.enc))] (.c (.ot 2 (xs.map Train.iE))):=by
 refine mG ydO ?_;simp -dsimp -implicitDefEqProofs;intro hlen;have hl1:=hl.1;refine yF (k0:=2) 3 2 (by simp) (by simp) (by decide) ?_;refine qA (ι:=Nat) (λk=>k<=xs.length) (λk=>rD [(3,.own 3 2 k),(6,.c (.sl 2 (xs.map Train.enc))),(7,.c (.i xs.length)),(8,.c (.i k))] [(3,.tr 2 0 ((xs.take k).map Train.iE))]) (λk=>xs.length-k) 0 (by simp) (by apply dB<;>simp[Obj.leO]) ?_
 rintro k hk
 rcases zah k xs.length with hlt|hge
 ·obtain⟨e,he⟩:∃e,xs[k]?=some e:=⟨_,zaa hlt⟩;have hs:xs.take (k+1)=xs.take k++[e]:=by rw[zar,he];rfl
  have he2:=hl.2 e (zac he);have g1:=(zab.1 he).2;simp -dsimp -implicitDefEqProofs [he,g1,hlt,kD hlt];refine rG (yaf e he2) (by simp) (yZ (Train.lF e)) (by simp[tC]) ?_;simp -dsimp -implicitDefEqProofs [aB,Nat.min_eq_left hk,oV];refine⟨by omega,aC hlt hlen,k+1,hlt,by omega,?_⟩;have hs2:(xs.map Train.iE).take (k+1)=(xs.map Train.iE).take k++[Train.iE e]:=by rw[<-zbk,<-zbk,hs,zaN];rfl
  apply dB<;>simp[Obj.leO,hs2]
 ·have:k=xs.length:=by omega
  subst this;simp -dsimp -implicitDefEqProofs [aB]
  try simp
theorem ynn(xs:List CallT)(hl:yfV xs):pM Tryz.prog 29 [.c (.sl 4 (xs.map CallT.enc))] (.c (.ot 4 (xs.map CallT.iE))):=by
 refine mG yfC ?_;simp -dsimp -implicitDefEqProofs;intro hlen;have hl1:=hl.1;refine yF (k0:=4) 3 4 (by simp) (by simp) (by decide) ?_;refine qA (ι:=Nat) (λk=>k<=xs.length) (λk=>rD [(3,.own 3 4 k),(6,.c (.sl 4 (xs.map CallT.enc))),(7,.c (.i xs.length)),(8,.c (.i k))] [(3,.tr 4 0 ((xs.take k).map CallT.iE))]) (λk=>xs.length-k) 0 (by simp) (by apply dB<;>simp[Obj.leO]) ?_
 rintro k hk
 rcases zah k xs.length with hlt|hge
 ·obtain⟨e,he⟩:∃e,xs[k]?=some e:=⟨_,zaa hlt⟩;have hs:xs.take (k+1)=xs.take k++[e]:=by rw[zar,he];rfl
  have he2:=hl.2 e (zac he);have g1:=(zab.1 he).2;simp -dsimp -implicitDefEqProofs [he,g1,hlt,kD hlt];refine yC (yaf e.Train he2) (by simp) (yZ (Train.lF e.Train)) (by simp[tC]) ?_;simp -dsimp -implicitDefEqProofs [aB,Nat.min_eq_left hk,oV];refine⟨by omega,aC hlt hlen,k+1,hlt,by omega,?_⟩;have hs2:(xs.map CallT.iE).take (k+1)=(xs.map CallT.iE).take k++[CallT.iE e]:=by rw[<-zbk,<-zbk,hs,zaN];rfl
  apply dB<;>simp[Obj.leO,hs2]
 ·have:k=xs.length:=by omega
  subst this;simp -dsimp -implicitDefEqProofs [aB]
  try simp
theorem yl2(xs:List Mover)(hl:yd0 xs):pM Tryz.prog 50 [.c (.sl 3 (xs.map Mover.enc))] (.c (.ot 3 (xs.map Mover.iE))):=by
 refine mG yex ?_;simp -dsimp -implicitDefEqProofs;intro hlen;have hl1:=hl.1;refine yF (k0:=3) 3 3 (by simp) (by simp) (by decide) ?_;refine qA (ι:=Nat) (λk=>k<=xs.length) (λk=>rD [(3,.own 3 3 k),(6,.c (.sl 3 (xs.map Mover.enc))),(7,.c (.i xs.length)),(8,.c (.i k))] [(3,.tr 3 0 ((xs.take k).map Mover.iE))]) (λk=>xs.length-k) 0 (by simp) (by apply dB<;>simp[Obj.leO]) ?_
 rintro k hk
 rcases zah k xs.length with hlt|hge
 ·obtain⟨e,he⟩:∃e,xs[k]?=some e:=⟨_,zaa hlt⟩;have hs:xs.take (k+1)=xs.take k++[e]:=by rw[zar,he];rfl
  have he2:=hl.2 e (zac he);have g1:=(zab.1 he).2;simp -dsimp -implicitDefEqProofs [he,g1,hlt,kD hlt];refine yC (yaf e.Train he2) (by simp) (yZ (Train.lF e.Train)) (by simp[tC]) ?_;simp -dsimp -implicitDefEqProofs [aB,Nat.min_eq_left hk,oV];refine⟨by omega,aC hlt hlen,k+1,hlt,by omega,?_⟩;have hs2:(xs.map Mover.iE).take (k+1)=(xs.map Mover.iE).take k++[Mover.iE e]:=by rw[<-zbk,<-zbk,hs,zaN];rfl
  apply dB<;>simp[Obj.leO,hs2]
 ·have:k=xs.length:=by omega
  subst this;simp -dsimp -implicitDefEqProofs [aB]
  try simp
theorem yor(e:Lock)(hl:Lock.small e):pM Tryz.prog 86 [.agg (e.enc.map .c)] (.agg (e.iE.map .c)):=by
 refine mG yge ?_;simp -dsimp -implicitDefEqProofs;refine rG (ydK e.Inside hl) (by simp) (cO Train.lF _ _) (by simp[tC]) ?_;simp -dsimp -implicitDefEqProofs [aB]
theorem yln(e:Tariff)(hl:Tariff.small e):pM Tryz.prog 53 [.agg (e.enc.map .c)] (.agg (e.iE.map .c)):=by
 refine mG ydX ?_;simp -dsimp -implicitDefEqProofs;refine rG (yd3 e.PerClass hl.1) (by simp) (by simp[AV.closed,AV.iR,C.closed]) (by simp[tC]) ?_;simp -dsimp -implicitDefEqProofs [aB];refine rG (yd3 e.Weights hl.2) (by simp) (by simp[AV.closed,AV.iR,C.closed]) (by simp[tC]) ?_;simp -dsimp -implicitDefEqProofs [aB]
theorem ym7(xs:List Work)(hl:qM xs):pM Tryz.prog 49 [.c (.sl 22 (xs.map Work.enc))] (.c (.ot 22 (xs.map Work.iE))):=by
 refine mG yeN ?_;simp -dsimp -implicitDefEqProofs;intro hlen;have hl1:=hl.1;refine yF (k0:=22) 3 22 (by simp) (by simp) (by decide) ?_;refine qA (ι:=Nat) (λk=>k<=xs.length) (λk=>rD [(3,.own 3 22 k),(6,.c (.sl 22 (xs.map Work.enc))),(7,.c (.i xs.length)),(8,.c (.i k))] [(3,.tr 22 0 ((xs.take k).map Work.iE))]) (λk=>xs.length-k) 0 (by simp) (by apply dB<;>simp[Obj.leO]) ?_
 rintro k hk
 rcases zah k xs.length with hlt|hge
 ·obtain⟨e,he⟩:∃e,xs[k]?=some e:=⟨_,zaa hlt⟩;have hs:xs.take (k+1)=xs.take k++[e]:=by rw[zar,he];rfl
  have he2:=hl.2 e (zac he);have g1:=(zab.1 he).2;simp -dsimp -implicitDefEqProofs [he,g1,hlt,kD hlt];refine rG (yor e.Lock he2.1) (by simp) (yZ (Lock.lF _)) (by simp[tC]) ?_;simp -dsimp -implicitDefEqProofs [aB];refine rG (yqU e.Pauses he2.2.1.1) (by simp) (by simp[AV.closed,AV.iR,C.closed]) (by simp[tC]) ?_;simp -dsimp -implicitDefEqProofs [aB];refine rG (ynn e.Calls he2.2.2) (by simp) (cO CallT.lF _ _) (by simp[tC]) ?_;simp -dsimp -implicitDefEqProofs [aB,Nat.min_eq_left hk];refine⟨by omega,aC hlt hlen,k+1,hlt,by omega,?_⟩;have hs2:(xs.map Work.iE).take (k+1)=(xs.map Work.iE).take k++[Work.iE e]:=by rw[<-zbk,<-zbk,hs,zaN];rfl
  apply dB<;>simp[Obj.leO,hs2]
 ·have:k=xs.length:=by omega
  subst this;simp -dsimp -implicitDefEqProofs [aB]
  try simp
set_option maxRecDepth 20000 in
theorem yhl(x:Waterway)(hl:x.small):pM Tryz.prog 21 [.agg (x.enc.map .c)] (.agg (x.iE.map .c)):=by
 obtain⟨s1,s2,s3,s4,s5,s6,s7,s8,s9⟩:=hl;have s41:=s4.1;have s91:=s9.1;refine mG ycO ?_;simp -dsimp -implicitDefEqProofs;refine rG (yjt x.Reaches s1) (by simp) (cO Reach.lF _ _) (by simp[tC]) ?_;simp -dsimp -implicitDefEqProofs [aB];refine rG (ys2 x.Ways s2.1) (by simp) (by simp[AV.closed,AV.iR,C.closed]) (by simp[tC]) ?_;simp -dsimp -implicitDefEqProofs [aB];refine rG (ym7 x.Works s3) (by simp) (cO Work.lF _ _) (by simp[tC]) ?_;simp -dsimp -implicitDefEqProofs [aB];intro hlen;refine⟨by omega,ylJ ?_⟩;simp -dsimp -implicitDefEqProofs;intro _;refine qA (ι:=Nat) (λk=>k<=x.Movers.length) (λk=>rD [(1,.box 1 0),(2,.box 2 0),(3,.own 24 1 x.Movers.length),(26,.c (.sl 1 (x.Movers.map qE))),(27,.c (.i x.Movers.length)),(28,.c (.i k))] [(1,.box [.c (.i x.Time),.own 11 3 x.Reaches.length,.own 15 2 x.Ways.length,.own 19 22 x.Works.length,.c (.sl 1 (x.Movers.map qE)),.c (.sl 2 (x.Arrived.map Train.enc)),.c (.sl 1 (x.Entered.map qC)),.c (.i x.Tariff.Base),.c (.i x.Tariff.PerArea),.c (.sl 1 (x.Tariff.PerClass.map qC)),.c (.sl 1 (x.Tariff.Weights.map qC)),.c (.sl 5 (x.Book.map Entry.enc)),.c (.sl 4 (x.Passings.map Passing.enc)),.c (.i x.Start),.c (.i x.In),.c (.i x.Out)]),(2,.box [.c (.i 0),.nil 3,.nil 2,.nil 22,.nil 1,.nil 2,.nil 1,.c (.i 0),.c (.i 0),.nil 1,.nil 1,.nil 5,.nil 4,.c (.i 0),.c (.i 0),.c (.i 0)]),(11,.tr 3 0 (x.Reaches.map Reach.iE)),(15,.row 2 (x.Ways.map Way.enc)),(19,.tr 22 0 (x.Works.map Work.iE)),(24,.tr 1 0 (partly tK [.sl 3 []] x.Movers k))]) (λk=>x.Movers.length-k) 0 (by simp) (by apply dB<;>simp[yl8,Obj.leO]) ?_
 rintro k hk
 rcases zah k x.Movers.length with hlt|hge
 ·obtain⟨e,he⟩:∃e,x.Movers[k]?=some e:=⟨_,zaa hlt⟩;have hs:=yn6 (f:=tK) (z:=[.sl 3 []]) he
  have hd:((partly tK [.sl 3 []] x.Movers k)[k]?.getD []).set 0 (.ot 3 (e.map Mover.iE))=tK e:=by
   have:=yo8 (f:=tK) (z:=[.sl 3 []]) (n:=1) rfl (λ_=>rfl) hlt;obtain⟨y,hy⟩:=zcg.1 this;rw[hy];rfl
  simp -dsimp -implicitDefEqProofs [he,kD hlt];refine rG (yl2 e (s4.2 e (zac he))) (by simp) (cO Mover.lF _ _) (by simp[tC]) ?_;simp -dsimp -implicitDefEqProofs [kD hlt,ypc hk,aB,setAt,hd,hs];exact⟨hlt,aC hlt hlen,k+1,hlt,by omega,by apply dB<;>simp[Obj.leO]⟩
 have hke:k=x.Movers.length:=by omega
 subst hke;simp -dsimp -implicitDefEqProofs [yoR (Nat.le_refl _),aB];refine rG (ydK x.Arrived s5) (by simp) (cO Train.lF _ _) (by simp[tC]) ?_;simp -dsimp -implicitDefEqProofs [aB];refine rG (yd3 x.Entered s6.1) (by simp) (by simp[AV.closed,AV.iR,C.closed]) (by simp[tC]) ?_;simp -dsimp -implicitDefEqProofs [aB];refine rG (yln x.Tariff s7) (by simp) (yZ (Tariff.lF _)) (by simp[tC]) ?_;simp -dsimp -implicitDefEqProofs [aB];refine rG (ytt x.Book s8.1) (by simp) (by simp[AV.closed,AV.iR,C.closed]) (by simp[tC]) ?_;simp -dsimp -implicitDefEqProofs [aB];intro hlen2;refine yF (k0:=4) 6 4 (by simp) (by simp) (by decide) ?_;refine qA (ι:=Nat) (λk=>k<=x.Passings.length) (λk=>rD [(1,.box 1 0),(2,.box 2 0),(6,.own 6 4 k),(58,.c (.sl 4 (x.Passings.map Passing.enc))),(59,.c (.i x.Passings.length)),(60,.c (.i k))] [(1,.box [.c (.i x.Time),.own 11 3 x.Reaches.length,.own 15 2 x.Ways.length,.own 19 22 x.Works.length,.own 24 1 x.Movers.length,.own 43 2 x.Arrived.length,.own 47 1 x.Entered.length,.c (.i x.Tariff.Base),.c (.i x.Tariff.PerArea),.own 30051 1 x.Tariff.PerClass.length,.own 40051 1 x.Tariff.Weights.length,.own 55 5 x.Book.length,.c (.sl 4 (x.Passings.map Passing.enc)),.c (.i x.Start),.c (.i x.In),.c (.i x.Out)]),(2,.box [.c (.i 0),.nil 3,.nil 2,.nil 22,.nil 1,.nil 2,.nil 1,.c (.i 0),.c (.i 0),.nil 1,.nil 1,.nil 5,.nil 4,.c (.i 0),.c (.i 0),.c (.i 0)]),(11,.tr 3 0 (x.Reaches.map Reach.iE)),(15,.row 2 (x.Ways.map Way.enc)),(19,.tr 22 0 (x.Works.map Work.iE)),(24,.tr 1 0 (x.Movers.map tK)),(43,.tr 2 0 (x.Arrived.map Train.iE)),(47,.row 1 (x.Entered.map qC)),(30051,.row 1 (x.Tariff.PerClass.map qC)),(40051,.row 1 (x.Tariff.Weights.map qC)),(55,.row 5 (x.Book.map Entry.enc)),(6,.tr 4 0 ((x.Passings.take k).map Passing.iE))]) (λk=>x.Passings.length-k) 0 (by simp) (by apply dB<;>simp[Obj.leO]) ?_
 rintro k hk2
 rcases zah k x.Passings.length with hlt|hge2
 ·obtain⟨e,he⟩:∃e,x.Passings[k]?=some e:=⟨_,zaa hlt⟩;have hs:x.Passings.take (k+1)=x.Passings.take k++[e]:=by rw[zar,he];rfl
  have he2:=s9.2 e (zac he);have g1:=(zab.1 he).2;simp -dsimp -implicitDefEqProofs [he,g1,hlt,kD hlt];refine yC (yaf e.Train he2) (by simp) (yZ (Train.lF e.Train)) (by simp[tC]) ?_;simp -dsimp -implicitDefEqProofs [aB,Nat.min_eq_left hk2,oV];refine⟨by omega,aC hlt hlen2,k+1,hlt,by omega,?_⟩;have hs2:(x.Passings.map Passing.iE).take (k+1)=(x.Passings.map Passing.iE).take k++[Passing.iE e]:=by rw[<-zbk,<-zbk,hs,zaN];rfl
  apply dB<;>simp[Obj.leO,hs2]
 have hke2:k=x.Passings.length:=by omega
 subst hke2;simp -dsimp -implicitDefEqProofs [aB]
def yl3(W:Int)(k:Nat)(a:Int×Int×Int)(t:Train):Int×Int×Int:=
 if 0<k/\a.2.1+nK t<=W then(a.1,a.2.1+nK t,if a.2.2<rV t then rV t else a.2.2)
 else(a.1+a.2.2,nK t,rV t)
def ybB(W:Int)(l:List Train):Nat->Int×Int×Int
 |0=>(0,0,0)
 |k+1=>match l[k]? with
  |some t=>yl3 W k (ybB W l k) t
  |none=>ybB W l k
def yaA(L W:Int)(l:List Train):Bool:=Distinct l&&l.all (λt=>decide (nK t<=W))&&decide ((ybB W l l.length).1+(ybB W l l.length).2.2<=L)
theorem yj8{W:Int}{l:List Train}{k:Nat}{t:Train}(h:l[k]?=some t):ybB W l (k+1)=yl3 W k (ybB W l k) t:=by
 simp only[ybB,h]
theorem ypv{W:Int}{l:List Train}:∀k:Nat,(0<=(ybB W l k).1/\(ybB W l k).1<=1200*k)/\(0<=(ybB W l k).2.1/\(ybB W l k).2.1<=180*k)/\(0<=(ybB W l k).2.2/\(ybB W l k).2.2<=1200)
 |0=>by simp[ybB]
 | k+1=>by
  have ih:=ypv (W:=W) (l:=l) k;cases h:l[k]? with
  |none=>simp only[ybB,h];omega
  | some t=>
   have h1:=yhK t;have h2:=yfK t;rw[yj8 h];unfold yl3;split
   ·simp only;refine⟨by omega,by omega,?_⟩;split<;>omega
   ·simp only;omega
theorem yqC{L W:Int}{l:List Train}(h:Distinct l=false):yaA L W l=false:=by simp[yaA,h]
theorem yml{L W:Int}{l:List Train}{k:Nat}{t:Train}(h:l[k]?=some t)(hw:W<nK t):yaA L W l=false:=by
 have:l.all (λt=>decide (nK t<=W))=false:=all_false (p:=λt=>decide (nK t<=W)) h (by simp;omega);simp only[yaA,this,zbc,zbm]
theorem yaL(l:List Train)(e:Lock)(hs:iL l):lC Tryz.prog 68 [.agg (e.enc.map .c),.c (.sl 2 (l.map Train.enc))] (.c (.b (yaA e.Length e.Width l))):=by
 refine qB yc6 ?_;simp -dsimp -implicitDefEqProofs;refine aA (yaT l hs) ?_;cases hd:Distinct l with
 |false=>simp -dsimp -implicitDefEqProofs;exact yqC hd
 |true=>
 have h8:l.length<=8:=by simp only[Distinct,zad,decide_eq_true_eq]at hd;exact hd.1.1
 simp -dsimp -implicitDefEqProofs;intro hlen;refine qA (ι:=Nat) (λk=>k<=l.length/\∀t∈l.take k,decide (nK t<=e.Width)=true) (λk=>rD [(2,.box 2 0),(5,.c (.i (ybB e.Width l k).1)),(6,.c (.i (ybB e.Width l k).2.1)),(7,.c (.i (ybB e.Width l k).2.2)),(15,.c (.sl 2 (l.map Train.enc))),(16,.c (.i l.length)),(17,.c (.i k))] [(2,.box (e.enc.map .c))]) (λk=>l.length-k) 0 (by simp) (by apply dB<;>simp[ybB]) ?_
 rintro k ⟨hk,hall⟩
 have hin:=ypv (W:=e.Width) (l:=l) k;rcases zah k l.length with hlt|hge
 ·obtain⟨t,ht⟩:∃t,l[k]?=some t:=⟨_,zaa hlt⟩;have hts:=hs.2 t (zac ht);have h1:=yhK t;have h2:=yfK t;have e1:=yj8 (W:=e.Width) ht;simp -dsimp -implicitDefEqProofs [ht,kD hlt];refine fH (ylX t hts) ?_;simp -dsimp -implicitDefEqProofs;refine fH (yjD t hts) ?_;simp -dsimp -implicitDefEqProofs;refine⟨λhw=>(yml ht hw),λhw=>?_⟩;have hall':=iC (p:=λt=>decide (nK t<=e.Width)) ht hall (by simpa using hw);unfold yl3 at e1;have hall2:∀x∈l.take (k+1),nK x<=e.Width:=by simpa using hall'
  refine⟨λhk0=>⟨by unfold inI;omega,λhf=>?_,λhf=>?_⟩,λhk0=>?_⟩
  ·have e2:=e1.trans (if_pos ⟨hk0,hf⟩);refine⟨by unfold inI;omega,aC hlt hlen,k+1,⟨hlt,hall2⟩,by omega,?_⟩;apply dB<;>simp[e2]
  ·have e2:=e1.trans (if_neg (λh=>by omega));refine⟨by unfold inI;omega,aC hlt hlen,k+1,⟨hlt,hall2⟩,by omega,?_⟩;apply dB<;>simp[e2]
  ·have e2:=e1.trans (if_neg (λh=>by omega));refine⟨by unfold inI;omega,aC hlt hlen,k+1,⟨hlt,hall2⟩,by omega,?_⟩;apply dB<;>simp[e2]
 ·have hall2:=dD (p:=λt=>decide (nK t<=e.Width)) hge hall;have:k=l.length:=by omega
  subst this;simp -dsimp -implicitDefEqProofs;refine⟨by unfold inI;omega,?_⟩;have ha:l.all (λt=>decide (nK t<=e.Width))=true:=hall2;simp only[yaA,hd,ha,zbz]
def ylh(a b:Reach)(w:Work)(c:CallT):Int:=if c.Train.Up then aF b-w.Lock.SillBelow else aF a-w.Lock.SillAbove
def ybN(a b:Reach)(w:Work)(c:CallT):Bool:=decide (sO c.Train<=ylh a b w c)&&yaA w.Lock.Length w.Lock.Width [c.Train]
def able(a b:Reach)(w:Work):List CallT:=w.Calls.filter (ybN a b w)
def yax(a b:Reach)(w:Work)(k:Nat):List CallT:=(w.Calls.take k).filter (ybN a b w)
theorem ymJ{a b:Reach}{w:Work}{k:Nat}{c:CallT}(h:w.Calls[k]?=some c):yax a b w (k+1)=yax a b w k++(if ybN a b w c then[c]else[]):=by
 unfold yax;rw[zar,h,zcs];cases hc:ybN a b w c<;>simp[hc]
theorem yoo{a b:Reach}{w:Work}{k:Nat}(h:w.Calls.length<=k):yax a b w k=able a b w:=by
 unfold yax able;rw[zaf h]
theorem yo4{a b:Reach}{w:Work}{k:Nat}:(yax a b w k).length<=w.Calls.length:=by
 have:=List.length_filter_le (ybN a b w) (w.Calls.take k);rw[zaY]at this;unfold yax;omega
structure SillOk(w:Work):Prop where
 a:0<=w.Lock.SillAbove/\w.Lock.SillAbove<=100000
 b:0<=w.Lock.SillBelow/\w.Lock.SillBelow<=100000
theorem yxo{w:Work}(h:dF w=true):SillOk w:=by
 simp only[dF,kH,zad]at h;exact⟨jA.1 h.1.1.1.1.1.1.1.1.1.1.1.1.1.2,jA.1 h.1.1.1.1.1.1.1.1.1.1.1.1.2⟩
theorem yrQ{t:Train}(h:t.small):iL [t]:=⟨by simp,λx hx=>by simp at hx;rw[hx];exact h⟩
set_option maxRecDepth 20000 in
theorem yyk(x:Waterway)(k:Nat)(w:Work)(a b:Reach)(hs:Work.small w)(hw:x.Works[k]?=some w)(ha:x.Reaches[k]?=some a)(hb:x.Reaches[k+1]?=some b)(hsill:SillOk w)(hrl:x.Reaches.length<=1048576):
 lC Tryz.prog 30 [.agg (x.enc.map .c),.c (.i k)] (.c (.sl 4 ((able a b w).map CallT.enc))):=by
 have kw:=(zab.1 hw).1;have ka:=(zab.1 ha).1;have kb:=(zab.1 hb).1;have gw:=(zab.1 hw).2;have ga:=(zab.1 ha).2;have gb:=(zab.1 hb).2;obtain⟨q1,q2⟩:=hsill;have la:=yhg a;have lb:=yhg b;have hc1:=hs.2.2.1;refine qB ym6 ?_;simp -dsimp -implicitDefEqProofs [yfJ,hw,gw,kw,kD kw];simp -dsimp -implicitDefEqProofs [ha,ga,ka,kD ka];refine fH (dN a) ?_;simp -dsimp -implicitDefEqProofs;refine⟨by unfold inI;omega,by unfold inI;omega,by omega,by omega,?_⟩;simp -dsimp -implicitDefEqProofs [hb,gb];refine fH (dN b) ?_;simp -dsimp -implicitDefEqProofs;refine⟨by unfold inI;omega,λhlen=>?_⟩;refine yE (k0:=4) 8 4 (by simp) (by simp) (by decide) ?_;refine qA (ι:=Nat) (λi=>i<=w.Calls.length) (λi=>rD [(2,.box 2 0),(5,.box 5 0),(6,.c (.i (aF a-w.Lock.SillAbove))),(7,.c (.i (aF b-w.Lock.SillBelow))),(8,.own 8 4 (yax a b w i).length),(39,.c (.sl 4 (w.Calls.map CallT.enc))),(40,.c (.i w.Calls.length)),(41,.c (.i i))] [(2,.box (x.enc.map .c)),(5,.box (w.enc.map .c)),(8,.row 4 ((yax a b w i).map CallT.enc))]) (λi=>w.Calls.length-i) 0 (by simp) (by apply dB<;>simp[yax]) ?_
 rintro i hi
 have hil:=yo4 (a:=a) (b:=b) (w:=w) (k:=i);rcases zah i w.Calls.length with hlt|hge
 ·obtain⟨c,hc⟩:∃c,w.Calls[i]?=some c:=⟨_,zaa hlt⟩;have g1:=(zab.1 hc).2;have hcs:=hs.2.2.2 c (zac hc);have e1:=ymJ (a:=a) (b:=b) hc;have hd:=yk3 c.Train;have fin:∀{z:Int},z=ylh a b w c->ybN a b w c=(decide (sO c.Train<=z)&&yaA w.Lock.Length w.Lock.Width [c.Train]):=λh=>by rw[h];rfl
  cases hu:c.Train.Up with
  | true=>
   have fin:=fin (z:=aF b-w.Lock.SillBelow) (by unfold ylh;rw[if_pos hu]);simp -dsimp -implicitDefEqProofs [hc,g1,hlt,kD hlt,hu];refine mF (ycg c.Train hcs) (by simp[hu]) rfl ?_;simp -dsimp -implicitDefEqProofs;refine⟨λhd1=>?_,λhd1=>?_⟩
   ·have hff:=yaL [c.Train] w.Lock (yrQ hcs);refine mF (hff) (by simp[hu]) rfl ?_;cases hf:yaA w.Lock.Length w.Lock.Width [c.Train]with
    |true=>
     have e2:ybN a b w c=true:=by rw[fin];simp[hd1,hf]
     rw[e2]at e1;simp -dsimp -implicitDefEqProofs [hu];refine⟨by omega,aC hlt hlen,i+1,hlt,by omega,?_⟩;apply dB<;>simp[e1,hu]
    |false=>
     have e2:ybN a b w c=false:=by rw[fin];simp[hf]
     rw[e2]at e1;simp -dsimp -implicitDefEqProofs;refine⟨aC hlt hlen,i+1,hlt,by omega,?_⟩;apply dB<;>simp[e1]
   ·have e2:ybN a b w c=false:=by
     have:¬sO c.Train<=aF b-w.Lock.SillBelow:=by omega
     rw[fin];simp[this]
    rw[e2]at e1;refine⟨aC hlt hlen,i+1,hlt,by omega,?_⟩;apply dB<;>simp[e1]
  | false=>
   have fin:=fin (z:=aF a-w.Lock.SillAbove) (by unfold ylh;rw[if_neg (by simp[hu])]);simp -dsimp -implicitDefEqProofs [hc,g1,hlt,kD hlt,hu];refine mF (ycg c.Train hcs) (by simp[hu]) rfl ?_;simp -dsimp -implicitDefEqProofs;refine⟨λhd1=>?_,λhd1=>?_⟩
   ·have hff:=yaL [c.Train] w.Lock (yrQ hcs);refine mF (hff) (by simp[hu]) rfl ?_;cases hf:yaA w.Lock.Length w.Lock.Width [c.Train]with
    |true=>
     have e2:ybN a b w c=true:=by rw[fin];simp[hd1,hf]
     rw[e2]at e1;simp -dsimp -implicitDefEqProofs [hu];refine⟨by omega,aC hlt hlen,i+1,hlt,by omega,?_⟩;apply dB<;>simp[e1,hu]
    |false=>
     have e2:ybN a b w c=false:=by rw[fin];simp[hf]
     rw[e2]at e1;simp -dsimp -implicitDefEqProofs;refine⟨aC hlt hlen,i+1,hlt,by omega,?_⟩;apply dB<;>simp[e1]
   ·have e2:ybN a b w c=false:=by
     have:¬sO c.Train<=aF a-w.Lock.SillAbove:=by omega
     rw[fin];simp[this]
    rw[e2]at e1;refine⟨aC hlt hlen,i+1,hlt,by omega,?_⟩;apply dB<;>simp[e1]
 ·simp -dsimp -implicitDefEqProofs [eH hge];rw[yoo hge];exact aB.symm
structure WorkAt(x:Waterway)(k:Nat)(w:Work)(a b:Reach):Prop where
 hw:x.Works[k]?=some w
 ha:x.Reaches[k]?=some a
 hb:x.Reaches[k+1]?=some b
 ok:dF w=true
 wl:x.Works.length+1=x.Reaches.length
theorem yyr{x:Waterway}{k:Nat}(h:xB x=true)(hk:k<x.Works.length):∃w a b,WorkAt x k w a b:=by
 simp only[xB,zad]at h;obtain⟨⟨⟨⟨⟨⟨⟨h1,h2⟩,h3⟩,h4⟩,h5⟩,h6⟩,h7⟩,h8⟩:=h;simp only[bG,zad,decide_eq_true_eq,zae]at h2;obtain⟨⟨⟨⟨⟨⟨p1,p2⟩,p3⟩,p4⟩,p5⟩,p6⟩,p7⟩:=h2;have e1:x.Works[k]?=some x.Works[k]:=zaa hk;exact⟨x.Works[k],x.Reaches[k]'(by omega),x.Reaches[k+1]'(by omega),e1,zaa _,zaa _,p7 _ (zac e1),p5⟩
theorem yrA(e:Reach)(hl:Reach.small e):pM Tryz.prog 126 [.agg (e.enc.map .c)] (.agg (e.iE.map .c)):=by
 have h1:=hl.1.1;have h2:=hl.2.1;refine mG yhY ?_;simp -dsimp -implicitDefEqProofs [ycr,aB];exact⟨by omega,by omega⟩
theorem yrc(e:Reach)(hl:Reach.small e):lC Tryz.prog 126 [.agg (e.enc.map .c)] (.agg (e.enc.map .c)):=(yrA e hl).pure (by simp[AV.shr,AV.ygz,mM,C.shr])
theorem yq5(e:Mover)(hl:Mover.small e):lC Tryz.prog 128 [.agg (e.enc.map .c)] (.agg (e.enc.map .c)):=by
 refine qB yi9 ?_;simp -dsimp -implicitDefEqProofs;refine kF (yaG e.Train hl) ?_;simp -dsimp -implicitDefEqProofs
set_option maxRecDepth 20000 in
theorem yrg(e:Lock)(hl:Lock.small e):lC Tryz.prog 168 [.agg (e.enc.map .c)] (.agg (e.enc.map .c)):=by
 have hl1:=hl.1;have hsm:=hl.2;refine qB yi2 ?_;simp -dsimp -implicitDefEqProofs;refine qA (ι:=Nat) (λk=>k<=e.Inside.length) (λk=>rD [(1,.box 1 0),(2,.box 2 0),(3,.own 5 2 k),(4,.c (.i k))] [(1,.box [.c (.i e.Length),.c (.i e.Width),.c (.i e.SillAbove),.c (.i e.SillBelow),.c (.i e.Base),.c (.i e.Area),.c (.i e.Rate),.c (.i e.Water),.c (.i e.Gate),.c (.sl 2 (e.Inside.map Train.enc))]),(2,.box [.c (.i 0),.c (.i 0),.c (.i 0),.c (.i 0),.c (.i 0),.c (.i 0),.c (.i 0),.c (.i 0),.c (.i 0),.nil 2]),(5,.row 2 ((e.Inside.take k).map Train.enc))]) (λk=>e.Inside.length-k) 0 (by simp) (by apply dB<;>simp[Obj.leO]) ?_
 rintro k hk
 rcases zah k e.Inside.length with klt|kge
 ·obtain⟨e1,he⟩:∃e1,e.Inside[k]?=some e1:=⟨_,zaa klt⟩;have he2:=hsm e1 (zac he);have g1:=(zab.1 he).2;have hs2:(e.Inside.map Train.enc).take (k+1)=(e.Inside.map Train.enc).take k++[Train.enc e1]:=by rw[zar,zaq,he];rfl
  simp -dsimp -implicitDefEqProofs [he,g1,klt,kD klt];intro hlen;refine xG (yaG e1 he2) ?_;simp -dsimp -implicitDefEqProofs [he,g1,klt,kD klt,aB,Nat.min_eq_left hk];refine⟨by omega,aC klt hlen,k+1,klt,by omega,?_⟩;apply dB<;>simp[Obj.leO,hs2]
 have ek:k=e.Inside.length:=by omega
 subst ek;simp -dsimp -implicitDefEqProofs [aB]
set_option maxRecDepth 20000 in
theorem yjJ(w:Work)(hl:Work.small w):lC Tryz.prog 127 [.agg (w.enc.map .c)] (.agg (w.enc.map .c)):=by
 obtain⟨s1,s2,s3⟩:=hl;have hl1:=s3.1;have hp1:=s2.1;have hsm:=s3.2;refine qB ydh ?_;simp -dsimp -implicitDefEqProofs;refine xG (yrg w.Lock s1) ?_;simp -dsimp -implicitDefEqProofs [aB];refine⟨by omega,?_⟩;refine qA (ι:=Nat) (λk=>k<=w.Calls.length) (λk=>rD [(1,.box 1 0),(2,.box 2 0),(3,.box 3 0),(4,.c (.i k))] [(1,.box (w.enc.map .c)),(2,.box [.c (.i 0),.c (.i 0),.c (.i 0),.c (.i 0),.c (.i 0),.c (.i 0),.c (.i 0),.c (.i 0),.c (.i 0),.nil 2,.c (.i 0),.c (.i 0),.c (.i 0),.c (.i 0),.c (.i 0),.c (.i 0),.c (.i 0),.c (.i 0),.nil 2,.c (.b false),.c (.i 0),.nil 4]),(3,.box ((w.enc.map .c).set 18 (.own 11 2 w.Pauses.length) |>.set 21 (.own 16 4 k))),(11,.row 2 (w.Pauses.map Pause.enc)),(16,.row 4 ((w.Calls.take k).map CallT.enc))]) (λk=>w.Calls.length-k) 0 (by simp) (by apply dB<;>simp[Obj.leO]) ?_
 rintro k hk
 rcases zah k w.Calls.length with klt|kge
 ·obtain⟨e1,he⟩:∃e1,w.Calls[k]?=some e1:=⟨_,zaa klt⟩;have he2:=hsm e1 (zac he);have g1:=(zab.1 he).2;have hs2:(w.Calls.map CallT.enc).take (k+1)=(w.Calls.map CallT.enc).take k++[CallT.enc e1]:=by rw[zar,zaq,he];rfl
  simp -dsimp -implicitDefEqProofs [he,g1,klt,kD klt];intro hlen;refine xG (yaG e1.Train he2) ?_;simp -dsimp -implicitDefEqProofs [he,g1,klt,kD klt,aB,Nat.min_eq_left hk];refine⟨by omega,aC klt hlen,k+1,klt,by omega,?_⟩;apply dB<;>simp[Obj.leO,hs2]
 have ek:k=w.Calls.length:=by omega
 subst ek;simp -dsimp -implicitDefEqProofs [aB]
def gK(r:Reach):Int:=if bC r then 1000000000-sD r else 0
def yae(r:Reach)(a:Int):Bool:=bC r&&decide (0<=a)&&decide (a<=gK r)
def lJ(r:Reach)(a:Int):Reach:=
 if yae r a then(if r.Pipe.length=0 then⟨r.Table,r.Volume+a,r.Pipe⟩else⟨r.Table,r.Volume,r.Pipe.set (r.Pipe.length-1) (r.Pipe.getD (r.Pipe.length-1) 0+a)⟩)else r
def jK(r:Reach):Reach:=
 if bC r&&decide (0<r.Pipe.length)then⟨r.Table,r.Volume+r.Pipe.getD 0 0,r.Pipe.tail++[0]⟩else r
theorem yh5(r:Reach):0<=gK r/\gK r<=1000000000:=by
 unfold gK;split
 ·rename_i h;have:=(dQ h).rng;omega
 ·omega
theorem yei(r:Reach):lC Tryz.prog 151 [.agg (r.enc.map .c)] (.c (.i (gK r))):=by
 refine qB yid ?_;simp -dsimp -implicitDefEqProofs;refine aA (rH r) ?_;cases h:bC r with
 |false=>simp -dsimp -implicitDefEqProofs;simp[gK,h]
 |true=>
 have f:=(dQ h).rng;have ht:rX r=sD r:=by simp[rX,h]
 simp -dsimp -implicitDefEqProofs;refine aA (ybs r) ?_;simp -dsimp -implicitDefEqProofs [ht];refine⟨by unfold inI;omega,?_⟩;simp[gK,h]
theorem ymM(r:Reach)(a:Int)(hl:r.small):pM Tryz.prog 111 [.agg (r.enc.map .c),.c (.i a)] (.agg ((lJ r a).iE.map .c)):=by
 refine mG yjO ?_;simp -dsimp -implicitDefEqProofs;refine rG (nY r hl) (by simp) (yZ (Reach.lF r)) (by simp[tC]) ?_;simp -dsimp -implicitDefEqProofs [aB];refine aA (rH r) ?_;cases h:bC r with
 |false=>simp -dsimp -implicitDefEqProofs [aB];simp[lJ,yae,h]
 |true=>
 have f:=dQ h;have f1:=f.rng;have hv:=jA.1 (show inRange r.Volume 0 1000000000=true from f.vol);have hsp:=yh5 r;have hlen12:=f.len
 have hno:¬(0<=a/\a<=gK r)->lJ r a=r:=λhn=>by
  have:yae r a=false:=by
   simp only[yae,h,zbz,zcQ,decide_eq_false_iff_not];omega
  simp[lJ,this]
 have hyes:0<=a->a<=gK r->yae r a=true:=λh1 h2=>by simp[yae,h,h1,h2]
 simp -dsimp -implicitDefEqProofs;refine⟨λh0=>?_,λh0=>?_⟩
 rotate_left
 ·rw[hno (by omega)];simp[aB]
 refine aA (yei r) ?_;simp -dsimp -implicitDefEqProofs;refine⟨λh1=>?_,λh1=>?_⟩
 ·rw[hno (by omega)];simp[aB]
 have hc:=hyes h0 (by omega);intro _;refine⟨λhp=>?_,λhp=>?_⟩
 ·have e:lJ r a=⟨r.Table,r.Volume+a,r.Pipe⟩:=by simp[lJ,hc,hp]
  rw[e];refine⟨by unfold inI;omega,?_⟩;simp[aB]
 ·have hpl:0<r.Pipe.length:=zcX.2 hp;obtain⟨v,hv2⟩:∃v,r.Pipe[r.Pipe.length-1]?=some v:=⟨_,zaa (by omega)⟩;have hva:=jA.1 (show inRange v 0 1000000000=true from f.amt v (zac hv2));have hg:r.Pipe.getD (r.Pipe.length-1) 0=v:=by rw[zbe,hv2];rfl
  have e:lJ r a=⟨r.Table,r.Volume,r.Pipe.set (r.Pipe.length-1) (v+a)⟩:=by
   have:¬r.Pipe.length=0:=by omega
   simp only[lJ,hc,if_true,if_neg this,hg]
  rw[e];intro _;refine⟨by unfold inI;omega,by omega,by omega,by omega,?_⟩;simp -dsimp -implicitDefEqProofs [hv2];refine⟨by unfold inI;omega,by omega,by omega,by omega,aB.symm,?_⟩;exact(zaf (by simp)).symm
theorem Reach.ylU(r:Reach):(AV.agg (r.iE.map .c)).shr (.agg (r.enc.map .c)):=by simp[AV.shr,AV.ygz,mM,C.shr]
theorem ydR(r:Reach)(a:Int)(hl:r.small):lC Tryz.prog 111 [.agg (r.enc.map .c),.c (.i a)] (.agg ((lJ r a).enc.map .c)):=(ymM r a hl).pure (Reach.ylU _)
theorem ysI(xs:List Int)(h:0<xs.length):List.take xs.length (List.take xs.length (List.take (xs.length-1) (xs.map qC).tail)++((xs.map qC).drop (xs.length-1)).set 0 (((List.take xs.length (List.take (xs.length-1) (xs.map qC).tail)++(xs.map qC).drop (xs.length-1))[xs.length-1]?.getD []).set 0 (.i 0)))=(xs.map qC).tail++[qC 0]:=by
 have hl:((xs.map qC).tail).length=xs.length-1:=by simp
 have hT:List.take xs.length (List.take (xs.length-1) (xs.map qC).tail)=(xs.map qC).tail:=by
  rw[zaf (l:=(xs.map qC).tail) (by omega),zaf (by omega)]
 obtain⟨z,hz⟩:∃z,xs.drop (xs.length-1)=[z]:=zcg.1 (by simp;omega);have hd:(xs.map qC).drop (xs.length-1)=[qC z]:=by rw[<-List.map_drop,hz];rfl
 rw[hT,hd,zan (by omega),hl];simp only[zbX,zbr,zbs,zbZ];exact zaf (by rw[zau,hl];simp;omega)
theorem ymI(r:Reach)(hl:r.small):pM Tryz.prog 112 [.agg (r.enc.map .c)] (.agg ((jK r).iE.map .c)):=by
 refine mG yjU ?_;simp -dsimp -implicitDefEqProofs;refine rG (nY r hl) (by simp) (yZ (Reach.lF r)) (by simp[tC]) ?_;simp -dsimp -implicitDefEqProofs [aB];intro hlen;refine⟨λhp=>?_,λhp=>?_⟩
 rotate_left
 ·simp[jK,hp,aB]
 refine aA (rH r) ?_;cases h:bC r with
 |false=>simp -dsimp -implicitDefEqProofs [aB];simp[jK,h]
 |true=>
 have f:=dQ h;have hv:=jA.1 (show inRange r.Volume 0 1000000000=true from f.vol);have hpl:0<r.Pipe.length:=zcX.2 hp;obtain⟨v,hv2⟩:∃v,r.Pipe[0]?=some v:=⟨_,zaa hpl⟩;have hva:=jA.1 (show inRange v 0 1000000000=true from f.amt v (zac hv2))
 have hfl:jK r=⟨r.Table,r.Volume+v,r.Pipe.tail++[0]⟩:=by
  have hg:r.Pipe.getD 0 0=v:=by rw[zbe,hv2];rfl
  simp only[jK,h,decide_eq_true hpl,zdj,if_true,hg]
 have h12:=f.len;rw[hfl];simp -dsimp -implicitDefEqProofs [hv2];exact⟨hpl,by unfold inI;omega,by omega,λ_=>⟨by unfold inI;omega,by omega,by omega,by omega,aB.symm,(ysI r.Pipe hpl).symm⟩⟩
def em(l:List Mover):List C:=[.ow 3 (l.map Mover.enc)]
def Waterway.ysq(e:Waterway):List C:=[.i e.Time,.ow 3 (e.Reaches.map Reach.enc),.ow 2 (e.Ways.map Way.enc),.ow 22 (e.Works.map Work.enc),.ot 1 (e.Movers.map em),.ow 2 (e.Arrived.map Train.enc),.ow 1 (e.Entered.map qC),.i e.Tariff.Base,.i e.Tariff.PerArea,.ow 1 (e.Tariff.PerClass.map qC),.ow 1 (e.Tariff.Weights.map qC),.ow 5 (e.Book.map Entry.enc),.ow 4 (e.Passings.map Passing.enc),.i e.Start,.i e.In,.i e.Out]
set_option maxRecDepth 20000 in
theorem yq4(x:Waterway)(hl:x.small):pM Tryz.prog 82 [.agg (x.enc.map .c)] (.agg (x.ysq.map .c)):=by
 obtain⟨s1,s2,s3,s4,s5,s6,s7,s8,s9⟩:=hl;have t1:=s1.1;have t2:=s2.1;have t3:=s3.1;have t4:=s4.1;have t5:=s5.1;have t6:=s6.1;have t8:=s8.1;have t9:=s9.1;have t71:=s7.1;have t72:=s7.2;refine mG yh7 ?_;simp -dsimp -implicitDefEqProofs;refine qA (ι:=Nat) (λk=>k<=x.Reaches.length) (λk=>rD [(1,.box 1 0),(2,.box 2 0),(3,.box 3 0),(4,.c (.i k))] [(1,.box [.c (.i x.Time),.c (.sl 3 (x.Reaches.map Reach.enc)),.c (.sl 2 (x.Ways.map Way.enc)),.c (.sl 22 (x.Works.map Work.enc)),.c (.sl 1 (x.Movers.map qE)),.c (.sl 2 (x.Arrived.map Train.enc)),.c (.sl 1 (x.Entered.map qC)),.c (.i x.Tariff.Base),.c (.i x.Tariff.PerArea),.c (.sl 1 (x.Tariff.PerClass.map qC)),.c (.sl 1 (x.Tariff.Weights.map qC)),.c (.sl 5 (x.Book.map Entry.enc)),.c (.sl 4 (x.Passings.map Passing.enc)),.c (.i x.Start),.c (.i x.In),.c (.i x.Out)]),(2,.box [.c (.i 0),.nil 3,.nil 2,.nil 22,.nil 1,.nil 2,.nil 1,.c (.i 0),.c (.i 0),.nil 1,.nil 1,.nil 5,.nil 4,.c (.i 0),.c (.i 0),.c (.i 0)]),(3,.box [.c (.i x.Time),.own 13 3 k,.c (.sl 2 (x.Ways.map Way.enc)),.c (.sl 22 (x.Works.map Work.enc)),.c (.sl 1 (x.Movers.map qE)),.c (.sl 2 (x.Arrived.map Train.enc)),.c (.sl 1 (x.Entered.map qC)),.c (.i x.Tariff.Base),.c (.i x.Tariff.PerArea),.c (.sl 1 (x.Tariff.PerClass.map qC)),.c (.sl 1 (x.Tariff.Weights.map qC)),.c (.sl 5 (x.Book.map Entry.enc)),.c (.sl 4 (x.Passings.map Passing.enc)),.c (.i x.Start),.c (.i x.In),.c (.i x.Out)]),(13,.row 3 ((x.Reaches.take k).map Reach.enc))]) (λk=>x.Reaches.length-k) 0 (by simp) (by apply dB<;>simp[Obj.leO]) ?_
 rintro k hk
 rcases zah k x.Reaches.length with klt|kge
 ·obtain⟨e1,he⟩:∃e1,x.Reaches[k]?=some e1:=⟨_,zaa klt⟩;have he2:=s1.2 e1 (zac he);have g1:=(zab.1 he).2;have hs2:(x.Reaches.map Reach.enc).take (k+1)=(x.Reaches.map Reach.enc).take k++[Reach.enc e1]:=by rw[zar,zaq,he];rfl
  simp -dsimp -implicitDefEqProofs [he,g1,klt,kD klt];intro hlen;refine kF (yrc e1 he2) ?_;simp -dsimp -implicitDefEqProofs [he,g1,klt,kD klt,aB,Nat.min_eq_left hk,oV];refine⟨by omega,aC klt hlen,k+1,klt,by omega,?_⟩;apply dB<;>simp[Obj.leO,hs2]
 have ek:k=x.Reaches.length:=by omega
 subst ek;simp -dsimp -implicitDefEqProofs [aB];intro _;refine⟨by omega,?_⟩;refine qA (ι:=Nat) (λk=>k<=x.Works.length) (λk=>rD [(1,.box 1 0),(2,.box 2 0),(3,.box 3 0),(5,.c (.i k))] [(1,.box [.c (.i x.Time),.c (.sl 3 (x.Reaches.map Reach.enc)),.c (.sl 2 (x.Ways.map Way.enc)),.c (.sl 22 (x.Works.map Work.enc)),.c (.sl 1 (x.Movers.map qE)),.c (.sl 2 (x.Arrived.map Train.enc)),.c (.sl 1 (x.Entered.map qC)),.c (.i x.Tariff.Base),.c (.i x.Tariff.PerArea),.c (.sl 1 (x.Tariff.PerClass.map qC)),.c (.sl 1 (x.Tariff.Weights.map qC)),.c (.sl 5 (x.Book.map Entry.enc)),.c (.sl 4 (x.Passings.map Passing.enc)),.c (.i x.Start),.c (.i x.In),.c (.i x.Out)]),(2,.box [.c (.i 0),.nil 3,.nil 2,.nil 22,.nil 1,.nil 2,.nil 1,.c (.i 0),.c (.i 0),.nil 1,.nil 1,.nil 5,.nil 4,.c (.i 0),.c (.i 0),.c (.i 0)]),(3,.box [.c (.i x.Time),.own 13 3 x.Reaches.length,.own 33 2 x.Ways.length,.own 38 22 k,.c (.sl 1 (x.Movers.map qE)),.c (.sl 2 (x.Arrived.map Train.enc)),.c (.sl 1 (x.Entered.map qC)),.c (.i x.Tariff.Base),.c (.i x.Tariff.PerArea),.c (.sl 1 (x.Tariff.PerClass.map qC)),.c (.sl 1 (x.Tariff.Weights.map qC)),.c (.sl 5 (x.Book.map Entry.enc)),.c (.sl 4 (x.Passings.map Passing.enc)),.c (.i x.Start),.c (.i x.In),.c (.i x.Out)]),(13,.row 3 (x.Reaches.map Reach.enc)),(33,.row 2 (x.Ways.map Way.enc)),(38,.row 22 ((x.Works.take k).map Work.enc))]) (λk=>x.Works.length-k) 0 (by simp) (by apply dB<;>simp[Obj.leO]) ?_
 rintro k hk
 rcases zah k x.Works.length with klt|kge
 ·obtain⟨e1,he⟩:∃e1,x.Works[k]?=some e1:=⟨_,zaa klt⟩;have he2:=s3.2 e1 (zac he);have g1:=(zab.1 he).2;have hs2:(x.Works.map Work.enc).take (k+1)=(x.Works.map Work.enc).take k++[Work.enc e1]:=by rw[zar,zaq,he];rfl
  simp -dsimp -implicitDefEqProofs [he,g1,klt,kD klt];intro hlen;refine kF (yjJ e1 he2) ?_;simp -dsimp -implicitDefEqProofs [he,g1,klt,kD klt,aB,Nat.min_eq_left hk,oV];refine⟨by omega,aC klt hlen,k+1,klt,by omega,?_⟩;apply dB<;>simp[Obj.leO,hs2]
 have ek:k=x.Works.length:=by omega
 subst ek;simp -dsimp -implicitDefEqProofs [aB];intro _;refine qA (ι:=Nat) (λk=>k<=x.Movers.length) (λk=>rD [(1,.box 1 0),(2,.box 2 0),(3,.box 3 0),(6,.c (.i k))] [(1,.box [.c (.i x.Time),.c (.sl 3 (x.Reaches.map Reach.enc)),.c (.sl 2 (x.Ways.map Way.enc)),.c (.sl 22 (x.Works.map Work.enc)),.c (.sl 1 (x.Movers.map qE)),.c (.sl 2 (x.Arrived.map Train.enc)),.c (.sl 1 (x.Entered.map qC)),.c (.i x.Tariff.Base),.c (.i x.Tariff.PerArea),.c (.sl 1 (x.Tariff.PerClass.map qC)),.c (.sl 1 (x.Tariff.Weights.map qC)),.c (.sl 5 (x.Book.map Entry.enc)),.c (.sl 4 (x.Passings.map Passing.enc)),.c (.i x.Start),.c (.i x.In),.c (.i x.Out)]),(2,.box [.c (.i 0),.nil 3,.nil 2,.nil 22,.nil 1,.nil 2,.nil 1,.c (.i 0),.c (.i 0),.nil 1,.nil 1,.nil 5,.nil 4,.c (.i 0),.c (.i 0),.c (.i 0)]),(3,.box [.c (.i x.Time),.own 13 3 x.Reaches.length,.own 33 2 x.Ways.length,.own 38 22 x.Works.length,.own 58 1 k,.c (.sl 2 (x.Arrived.map Train.enc)),.c (.sl 1 (x.Entered.map qC)),.c (.i x.Tariff.Base),.c (.i x.Tariff.PerArea),.c (.sl 1 (x.Tariff.PerClass.map qC)),.c (.sl 1 (x.Tariff.Weights.map qC)),.c (.sl 5 (x.Book.map Entry.enc)),.c (.sl 4 (x.Passings.map Passing.enc)),.c (.i x.Start),.c (.i x.In),.c (.i x.Out)]),(13,.row 3 (x.Reaches.map Reach.enc)),(33,.row 2 (x.Ways.map Way.enc)),(38,.row 22 (x.Works.map Work.enc)),(58,if k=0 then .row 1 []else .tr 1 0 ((x.Movers.take k).map em))]) (λk=>x.Movers.length-k) 0 (by simp) (by apply dB<;>simp[Obj.leO]) ?_
 rintro k hk
 rcases zah k x.Movers.length with klt|kge
 ·obtain⟨l,hl⟩:∃l,x.Movers[k]?=some l:=⟨_,zaa klt⟩;have hls:=s4.2 l (zac hl);have hll:=hls.1;have g1:=(zab.1 hl).2;have hs2:(x.Movers.map em).take (k+1)=(x.Movers.map em).take k++[em l]:=by rw[zar,zaq,hl];rfl
  simp -dsimp -implicitDefEqProofs [hl,g1,klt,kD klt];intro hlen;generalize hZ:(if k=0 then Obj.row 1 []else .tr 1 0 ((x.Movers.map em).take k))=Z;have hz1:Z.leO Z:=by rw[<-hZ];split<;>first|rfl|exact⟨rfl,rfl⟩
  have hz2:∀i,Z.kill i=Z:=by intro i;rw[<-hZ];split<;>rfl
  have hz3:∀L,Z.yan L=true:=by intro L;rw[<-hZ];split<;>rfl
  simp only[Obj.leO]at hz1;simp only[Obj.yan]at hz3;refine qA (ι:=Nat) (λi=>i<=l.length) (λi=>rD [(1,.box 1 0),(2,.box 2 0),(3,.box 3 0),(6,.c (.i k)),(7,.own 67 3 i),(8,.c (.i i))] [(1,.box [.c (.i x.Time),.c (.sl 3 (x.Reaches.map Reach.enc)),.c (.sl 2 (x.Ways.map Way.enc)),.c (.sl 22 (x.Works.map Work.enc)),.c (.sl 1 (x.Movers.map qE)),.c (.sl 2 (x.Arrived.map Train.enc)),.c (.sl 1 (x.Entered.map qC)),.c (.i x.Tariff.Base),.c (.i x.Tariff.PerArea),.c (.sl 1 (x.Tariff.PerClass.map qC)),.c (.sl 1 (x.Tariff.Weights.map qC)),.c (.sl 5 (x.Book.map Entry.enc)),.c (.sl 4 (x.Passings.map Passing.enc)),.c (.i x.Start),.c (.i x.In),.c (.i x.Out)]),(2,.box [.c (.i 0),.nil 3,.nil 2,.nil 22,.nil 1,.nil 2,.nil 1,.c (.i 0),.c (.i 0),.nil 1,.nil 1,.nil 5,.nil 4,.c (.i 0),.c (.i 0),.c (.i 0)]),(3,.box [.c (.i x.Time),.own 13 3 x.Reaches.length,.own 33 2 x.Ways.length,.own 38 22 x.Works.length,.own 58 1 k,.c (.sl 2 (x.Arrived.map Train.enc)),.c (.sl 1 (x.Entered.map qC)),.c (.i x.Tariff.Base),.c (.i x.Tariff.PerArea),.c (.sl 1 (x.Tariff.PerClass.map qC)),.c (.sl 1 (x.Tariff.Weights.map qC)),.c (.sl 5 (x.Book.map Entry.enc)),.c (.sl 4 (x.Passings.map Passing.enc)),.c (.i x.Start),.c (.i x.In),.c (.i x.Out)]),(13,.row 3 (x.Reaches.map Reach.enc)),(33,.row 2 (x.Ways.map Way.enc)),(38,.row 22 (x.Works.map Work.enc)),(58,Z),(67,.row 3 ((l.take i).map Mover.enc))]) (λi=>l.length-i) 0 (by simp) (by apply dB<;>simp[Obj.leO,hz1,hz2,hz3]) ?_
  rintro i hi
  rcases zah i l.length with ilt|ige
  ·obtain⟨m,hm⟩:∃m,l[i]?=some m:=⟨_,zaa ilt⟩;have hms:=hls.2 m (zac hm);have g2:=(zab.1 hm).2;have hs3:(l.map Mover.enc).take (i+1)=(l.map Mover.enc).take i++[Mover.enc m]:=by rw[zar,zaq,hm];rfl
   simp -dsimp -implicitDefEqProofs [hl,hm,g1,g2,klt,kD klt,ilt,kD ilt];intro hlen2;refine xG (yq5 m hms) ?_;simp -dsimp -implicitDefEqProofs [aB,Nat.min_eq_left hi];refine⟨by omega,aC ilt hlen2,i+1,ilt,by omega,?_⟩;apply dB<;>simp[Obj.leO,hs3,hz1,hz2,hz3]
  have ei:i=l.length:=by omega
  subst ei;simp -dsimp -implicitDefEqProofs [hl,g1,klt,kD klt,aB,hz2];intro _;subst hZ;rcases zaK k with e0|e0
  ·subst e0;have hs3:(x.Movers.map em).take 1=[em l]:=by simpa using hs2
   simp -dsimp -implicitDefEqProofs [aB];refine⟨by unfold inI;omega,1,klt,by omega,?_⟩;apply dB<;>simp[Obj.leO,hs3,em]
  ·have hne:(k=0)=False:=by simp;omega
   simp -dsimp -implicitDefEqProofs [hne,aB,Nat.min_eq_left hk];refine⟨by omega,aC klt hlen,k+1,klt,by omega,?_⟩;apply dB<;>simp[Obj.leO,hs2,em]
 have ek:k=x.Movers.length:=by omega
 subst ek;simp -dsimp -implicitDefEqProofs [aB];intro _;have hif:(if x.Movers=[]then Obj.row 1 []else .tr 1 0 (x.Movers.map em))=(if x.Movers.length=0 then Obj.row 1 []else .tr 1 0 (x.Movers.map em)):=by cases x.Movers<;>simp
 generalize hZ:(if x.Movers.length=0 then Obj.row 1 []else .tr 1 0 (x.Movers.map em))=Z at hif;have hz1:Z.leO Z:=by rw[<-hZ];split<;>first|rfl|exact⟨rfl,rfl⟩
 have hz2:∀i,Z.kill i=Z:=by intro i;rw[<-hZ];split<;>rfl
 have hz3:∀L,Z.yan L=true:=by intro L;rw[<-hZ];split<;>rfl
 simp only[Obj.leO]at hz1;simp only[Obj.yan]at hz3;refine qA (ι:=Nat) (λk=>k<=x.Arrived.length) (λk=>rD [(1,.box 1 0),(2,.box 2 0),(3,.box 3 0),(9,.c (.i k))] [(1,.box [.c (.i x.Time),.c (.sl 3 (x.Reaches.map Reach.enc)),.c (.sl 2 (x.Ways.map Way.enc)),.c (.sl 22 (x.Works.map Work.enc)),.c (.sl 1 (x.Movers.map qE)),.c (.sl 2 (x.Arrived.map Train.enc)),.c (.sl 1 (x.Entered.map qC)),.c (.i x.Tariff.Base),.c (.i x.Tariff.PerArea),.c (.sl 1 (x.Tariff.PerClass.map qC)),.c (.sl 1 (x.Tariff.Weights.map qC)),.c (.sl 5 (x.Book.map Entry.enc)),.c (.sl 4 (x.Passings.map Passing.enc)),.c (.i x.Start),.c (.i x.In),.c (.i x.Out)]),(2,.box [.c (.i 0),.nil 3,.nil 2,.nil 22,.nil 1,.nil 2,.nil 1,.c (.i 0),.c (.i 0),.nil 1,.nil 1,.nil 5,.nil 4,.c (.i 0),.c (.i 0),.c (.i 0)]),(3,.box [.c (.i x.Time),.own 13 3 x.Reaches.length,.own 33 2 x.Ways.length,.own 38 22 x.Works.length,.own 58 1 x.Movers.length,.own 96 2 k,.c (.sl 1 (x.Entered.map qC)),.c (.i x.Tariff.Base),.c (.i x.Tariff.PerArea),.c (.sl 1 (x.Tariff.PerClass.map qC)),.c (.sl 1 (x.Tariff.Weights.map qC)),.c (.sl 5 (x.Book.map Entry.enc)),.c (.sl 4 (x.Passings.map Passing.enc)),.c (.i x.Start),.c (.i x.In),.c (.i x.Out)]),(13,.row 3 (x.Reaches.map Reach.enc)),(33,.row 2 (x.Ways.map Way.enc)),(38,.row 22 (x.Works.map Work.enc)),(58,Z),(96,.row 2 ((x.Arrived.take k).map Train.enc))]) (λk=>x.Arrived.length-k) 0 (by simp) (by apply dB<;>simp[Obj.leO,hif,hz1,hz2,hz3]) ?_
 rintro k hk
 rcases zah k x.Arrived.length with klt|kge
 ·obtain⟨e1,he⟩:∃e1,x.Arrived[k]?=some e1:=⟨_,zaa klt⟩;have he2:=s5.2 e1 (zac he);have g1:=(zab.1 he).2;have hs2:(x.Arrived.map Train.enc).take (k+1)=(x.Arrived.map Train.enc).take k++[Train.enc e1]:=by rw[zar,zaq,he];rfl
  simp -dsimp -implicitDefEqProofs [he,g1,klt,kD klt];intro hlen;refine kF (yaG e1 he2) ?_;simp -dsimp -implicitDefEqProofs [he,g1,klt,kD klt,aB,Nat.min_eq_left hk,oV];refine⟨by omega,aC klt hlen,k+1,klt,by omega,?_⟩;apply dB<;>simp[Obj.leO,hif,hz1,hz2,hz3,hs2]
 have ek:k=x.Arrived.length:=by omega
 subst ek;simp -dsimp -implicitDefEqProofs [aB];intro _;refine⟨by omega,by omega,by omega,by omega,?_⟩;refine qA (ι:=Nat) (λk=>k<=x.Passings.length) (λk=>rD [(1,.box 1 0),(2,.box 2 0),(3,.box 3 0),(10,.c (.i k))] [(1,.box [.c (.i x.Time),.c (.sl 3 (x.Reaches.map Reach.enc)),.c (.sl 2 (x.Ways.map Way.enc)),.c (.sl 22 (x.Works.map Work.enc)),.c (.sl 1 (x.Movers.map qE)),.c (.sl 2 (x.Arrived.map Train.enc)),.c (.sl 1 (x.Entered.map qC)),.c (.i x.Tariff.Base),.c (.i x.Tariff.PerArea),.c (.sl 1 (x.Tariff.PerClass.map qC)),.c (.sl 1 (x.Tariff.Weights.map qC)),.c (.sl 5 (x.Book.map Entry.enc)),.c (.sl 4 (x.Passings.map Passing.enc)),.c (.i x.Start),.c (.i x.In),.c (.i x.Out)]),(2,.box [.c (.i 0),.nil 3,.nil 2,.nil 22,.nil 1,.nil 2,.nil 1,.c (.i 0),.c (.i 0),.nil 1,.nil 1,.nil 5,.nil 4,.c (.i 0),.c (.i 0),.c (.i 0)]),(3,.box [.c (.i x.Time),.own 13 3 x.Reaches.length,.own 33 2 x.Ways.length,.own 38 22 x.Works.length,.own 58 1 x.Movers.length,.own 96 2 x.Arrived.length,.own 116 1 x.Entered.length,.c (.i x.Tariff.Base),.c (.i x.Tariff.PerArea),.own 121 1 x.Tariff.PerClass.length,.own 128 1 x.Tariff.Weights.length,.own 135 5 x.Book.length,.own 140 4 k,.c (.i x.Start),.c (.i x.In),.c (.i x.Out)]),(13,.row 3 (x.Reaches.map Reach.enc)),(33,.row 2 (x.Ways.map Way.enc)),(38,.row 22 (x.Works.map Work.enc)),(58,Z),(96,.row 2 (x.Arrived.map Train.enc)),(116,.row 1 (x.Entered.map qC)),(121,.row 1 (x.Tariff.PerClass.map qC)),(128,.row 1 (x.Tariff.Weights.map qC)),(135,.row 5 (x.Book.map Entry.enc)),(140,.row 4 ((x.Passings.take k).map Passing.enc))]) (λk=>x.Passings.length-k) 0 (by simp) (by apply dB<;>simp[Obj.leO,hif,hz1,hz2,hz3]) ?_
 rintro k hk
 rcases zah k x.Passings.length with klt|kge
 ·obtain⟨e1,he⟩:∃e1,x.Passings[k]?=some e1:=⟨_,zaa klt⟩;have he2:=s9.2 e1 (zac he);have g1:=(zab.1 he).2;have hs2:(x.Passings.map Passing.enc).take (k+1)=(x.Passings.map Passing.enc).take k++[Passing.enc e1]:=by rw[zar,zaq,he];rfl
  simp -dsimp -implicitDefEqProofs [he,g1,klt,kD klt];intro hlen;refine xG (yaG e1.Train he2) ?_;simp -dsimp -implicitDefEqProofs [he,g1,klt,kD klt,aB,Nat.min_eq_left hk,oV];refine⟨by omega,aC klt hlen,k+1,klt,by omega,?_⟩;apply dB<;>simp[Obj.leO,hif,hz1,hz2,hz3,hs2]
 have ek:k=x.Passings.length:=by omega
 subst ek;simp -dsimp -implicitDefEqProofs [aB];intro _;subst hZ
 by_cases e:x.Movers.length=0
 ·have e2:x.Movers=[]:=zaZ.1 e;simp[Waterway.ysq,e2,aB]
 ·simp[Waterway.ysq,e,aB]
def sent(q:Int):List Reach->List Reach
 |[]=>[]
 |r::l=>lJ r q::l
def yct(x:Waterway)(q:Int):Bool:=decide (q<=1000000000-x.Start-x.In)
def tY(x:Waterway)(q:Int):List Reach:=if yct x q then sent q x.Reaches else x.Reaches
def yh(x:Waterway)(q:Int):Bool:=xB x&& !decide (x.Time=1000000)&&decide (0<=q)
def kG(x:Waterway)(q:Int):Waterway:=
 if yh x q then⟨x.Time+1,(tY x q).map jK,x.Ways,x.Works,x.Movers,x.Arrived,x.Entered,x.Tariff,x.Book,x.Passings,x.Start,if yct x q then x.In+q else x.In,x.Out⟩else x
def jZ(rs:List Reach)(k:Nat):List Reach:=(rs.take k).map jK++rs.drop k
theorem ymj{rs:List Reach}:jZ rs 0=rs:=by simp[jZ]
theorem yoJ{rs:List Reach}{k:Nat}(h:rs.length<=k):jZ rs k=rs.map jK:=by
 unfold jZ;rw[zaf h,zbD h,zce]
theorem yoA{rs:List Reach}{k:Nat}:(jZ rs k).length=rs.length:=by
 unfold jZ;simp;omega
theorem yqy{rs:List Reach}{k:Nat}(h:k<rs.length):(jZ rs k)[k]?=rs[k]?:=by
 unfold jZ;rw[zan (by simp;omega)];simp[Nat.min_eq_left (Nat.le_of_lt h)]
theorem yol{rs:List Reach}{k:Nat}{r:Reach}(h:rs[k]?=some r):(jZ rs k).set k (jK r)=jZ rs (k+1):=by
 have hlt:=(zab.1 h).1;have hg:=(zab.1 h).2;unfold jZ;rw[zar,h,zaM hlt,hg];have hl:((rs.take k).map jK).length=k:=by simp;omega
 rw[zcj _ _ (by omega),hl];simp
theorem ydN{r:Reach}{a:Int}(h:r.small):(lJ r a).small:=by
 unfold lJ;split
 ·split
  ·exact h
  ·exact⟨h.1,by simpa using h.2.1,λ_ _=>trivial⟩
 ·exact h
theorem ylI{r:Reach}(h:r.small):(jK r).small:=by
 unfold jK;split
 ·rename_i h2;simp only[zad,decide_eq_true_eq]at h2;refine⟨h.1,?_,λ_ _=>trivial⟩;have:=h.2.1;simp;omega
 ·exact h
theorem ysu{q:Int}{l:List Reach}:(sent q l).length=l.length:=by cases l<;>rfl
theorem yB{x:Waterway}{q:Int}:(tY x q).length=x.Reaches.length:=by unfold tY;split<;>simp[ysu]
theorem yfN{x:Waterway}{q:Int}(h:dJ x.Reaches):dJ (tY x q):=by
 refine⟨by rw[yB];exact h.1,λr hr=>?_⟩;unfold tY at hr;split at hr
 ·have h2:=h.2;revert hr h2;cases x.Reaches with
  |nil=>intro hr;simp[sent]at hr
  |cons a l=>
   intro hr h2;simp only[sent,zaH]at hr;rcases hr with rfl|hr
   ·exact ydN (h2 a (by simp))
   ·exact h2 r (by simp[hr])
 ·exact h.2 r hr
theorem ybr{x:Waterway}{q:Int}(h:x.small):(kG x q).small:=by
 unfold kG;split
 ·obtain⟨s1,s2⟩:=h;have p:=yfN (q:=q) s1;refine⟨⟨by simpa using p.1,λr hr=>?_⟩,s2⟩;obtain⟨r0,h0,rfl⟩:=zaO.1 hr;exact ylI (p.2 r0 h0)
 ·exact h
theorem ynp(es:List Reach)(hl:es.length<=1048576):pM Tryz.prog 105 [.c (.sl 3 (es.map Reach.enc))] (.c (.ow 3 (es.map Reach.enc))):=by
 refine mG mP ?_;simp -dsimp -implicitDefEqProofs [xI,aB];omega
theorem ymo{x:Waterway}(h:xB x=true):∃r l,x.Reaches=r::l:=by
 simp only[xB,bG,zad,decide_eq_true_eq]at h;obtain⟨⟨⟨⟨⟨⟨⟨h1,h2⟩,h3⟩,h4⟩,h5⟩,h6⟩,h7⟩,h8⟩:=h;have:=h2.1.1.1.1.1.2;cases hx:x.Reaches with
 |nil=>rw[hx]at this;simp at this
 |cons r l=>exact⟨r,l,rfl⟩
theorem yuZ{x:Waterway}(h:xB x=true):0<=x.Time/\x.Time<=1000000:=by
 simp only[xB,zad]at h;exact jA.1 h.1.1.1.1.1.1.1
def rsC(rs:List Reach)(k:Nat):List (List C):=(jZ rs k).map Reach.enc
theorem yp0{rs:List Reach}{k:Nat}:(rsC rs k).length=rs.length:=by unfold rsC;rw[zbi,yoA]
theorem yta{rs:List Reach}{k:Nat}{r:Reach}(h:rs[k]?=some r):(rsC rs k)[k]?=some r.enc:=by
 unfold rsC;rw[zaq,yqy (zab.1 h).1,h];rfl
theorem ypZ{rs:List Reach}{k:Nat}{r:Reach}(h:rs[k]?=some r):(rsC rs k).set k (jK r).enc=rsC rs (k+1):=by
 unfold rsC;rw[<-yol h,zcq]
theorem yno{rs:List Reach}:rsC rs 0=rs.map Reach.enc:=by unfold rsC;rw[ymj]
theorem ypE{rs:List Reach}{k:Nat}(h:rs.length<=k):rsC rs k=(rs.map jK).map Reach.enc:=by unfold rsC;rw[yoJ h]
theorem yd9(r:Reach)(hl:r.small):lC Tryz.prog 112 [.agg (r.enc.map .c)] (.agg ((jK r).enc.map .c)):=(ymI r hl).pure (Reach.ylU _)
theorem ykT{x:Waterway}{q:Int}(h:yh x q=false):kG x q=x:=by simp[kG,h]
set_option maxRecDepth 20000 in
theorem yyP(x:Waterway)(q:Int)(hl:x.small):lC Tryz.prog 71 [.agg (x.enc.map .c),.c (.i q)] (.agg ((kG x q).enc.map .c)):=by
 have hl0:=hl;obtain⟨s1,s2,s3,s4,s5,s6,s7,s8,s9⟩:=hl;have s11:=s1.1;refine qB ymd ?_;simp -dsimp -implicitDefEqProofs;refine aA (lH x hl0) ?_;cases h:xB x with
 |false=>simp -dsimp -implicitDefEqProofs;simp[ykT,yh,h]
 |true=>
 have ht:=yuZ h;have hw:=tJ h;obtain⟨r0,rl,hrl⟩:=ymo h;simp -dsimp -implicitDefEqProofs;refine⟨λht2=>?_,λht2=>?_⟩
 rotate_left
 ·rw[ykT (by simp[yh,ht2])];simp
 refine⟨λhq=>?_,λhq=>?_⟩
 ·have:¬0<=q:=by omega
  rw[ykT (by simp[yh,this])];simp
 have hc:yh x q=true:=by simp[yh,h,ht2,hq]
 have w1:=hw.start;have w2:=hw.inn;refine⟨by unfold inI;omega,?_⟩;refine kX (ynp x.Reaches s11) (by simp) rfl (by simp[tC]) ?_;simp -dsimp -implicitDefEqProofs [aB];refine⟨by unfold inI;omega,by unfold inI;omega,λhp=>?_,λhp=>?_⟩
 ·have hpi:yct x q=true:=by simp[yct];omega
  have hrs:tY x q=lJ r0 q::rl:=by simp[tY,hpi,hrl,sent]
  have e:kG x q=⟨x.Time+1,(tY x q).map jK,x.Ways,x.Works,x.Movers,x.Arrived,x.Entered,x.Tariff,x.Book,x.Passings,x.Start,x.In+q,x.Out⟩:=by simp[kG,hc,hpi]
  rw[e];have h00:x.Reaches[0]?=some r0:=by rw[hrl];rfl
  have hg0:0<x.Reaches.length:=by rw[hrl];simp
  have hset0:(x.Reaches.map Reach.enc).set 0 (lJ r0 q).enc=(tY x q).map Reach.enc:=by rw[hrs,hrl];rfl
  have hr0:r0.small:=s1.2 r0 (by rw[hrl];simp);simp only[Reach.enc]at hset0;have g00:=(zab.1 h00).2;simp -dsimp -implicitDefEqProofs [h00,g00,hg0];refine kF (ydR r0 q hr0) ?_;simp -dsimp -implicitDefEqProofs [h00,g00,hg0,hset0];refine⟨by unfold inI;omega,?_⟩;intro hlen;refine qA (ι:=Nat) (λk=>k<=x.Reaches.length) (λk=>rD [(2,.box 2 0),(4,.box 4 0),(5,.box 5 0),(53,.own 28 3 x.Reaches.length),(54,.c (.i x.Reaches.length)),(55,.c (.i k))] [(2,.box [.c (.i x.Time),.c (.sl 3 (x.Reaches.map Reach.enc)),.c (.sl 2 (x.Ways.map Way.enc)),.c (.sl 22 (x.Works.map Work.enc)),.c (.sl 1 (x.Movers.map qE)),.c (.sl 2 (x.Arrived.map Train.enc)),.c (.sl 1 (x.Entered.map qC)),.c (.i x.Tariff.Base),.c (.i x.Tariff.PerArea),.c (.sl 1 (x.Tariff.PerClass.map qC)),.c (.sl 1 (x.Tariff.Weights.map qC)),.c (.sl 5 (x.Book.map Entry.enc)),.c (.sl 4 (x.Passings.map Passing.enc)),.c (.i x.Start),.c (.i x.In),.c (.i x.Out)]),(4,.box [.c (.i 0),.nil 3,.nil 2,.nil 22,.nil 1,.nil 2,.nil 1,.c (.i 0),.c (.i 0),.nil 1,.nil 1,.nil 5,.nil 4,.c (.i 0),.c (.i 0),.c (.i 0)]),(5,.box [.c (.i (x.Time+1)),.own 28 3 x.Reaches.length,.c (.sl 2 (x.Ways.map Way.enc)),.c (.sl 22 (x.Works.map Work.enc)),.c (.sl 1 (x.Movers.map qE)),.c (.sl 2 (x.Arrived.map Train.enc)),.c (.sl 1 (x.Entered.map qC)),.c (.i x.Tariff.Base),.c (.i x.Tariff.PerArea),.c (.sl 1 (x.Tariff.PerClass.map qC)),.c (.sl 1 (x.Tariff.Weights.map qC)),.c (.sl 5 (x.Book.map Entry.enc)),.c (.sl 4 (x.Passings.map Passing.enc)),.c (.i x.Start),.c (.i (x.In+q)),.c (.i x.Out)]),(28,.row 3 (rsC (tY x q) k))]) (λk=>x.Reaches.length-k) 0 (by simp) (by apply dB<;>simp[yno]) ?_
  rintro k hk
  have hrl2:(rsC (tY x q) k).length=x.Reaches.length:=by rw[yp0,yB]
  rcases zah k x.Reaches.length with klt|kge
  ·obtain⟨r,hr⟩:∃r,(tY x q)[k]?=some r:=⟨_,zaa (by rw[yB];exact klt)⟩;have hrs2:=(yfN (q:=q) s1).2 r (zac hr);have hat:=yta hr;have hset:=ypZ hr;simp only[Reach.enc]at hat hset;have hat2:=(zab.1 hat).2;simp -dsimp -implicitDefEqProofs [hrl2,hat,hat2,klt,kD klt];refine kF (yd9 r hrs2) ?_;simp -dsimp -implicitDefEqProofs [hrl2,hat,hat2,klt,kD klt,hset];refine⟨aC klt hlen,k+1,klt,by omega,?_⟩;apply dB<;>simp[hset]
  ·have hall:=ypE (rs:=(tY x q)) (k:=k) (by rw[yB];exact kge);simp -dsimp -implicitDefEqProofs [eH kge,hall];exact(zaf (by simp[yB])).symm
 ·have hpi:yct x q=false:=by simp[yct];omega
  have hrs:tY x q=x.Reaches:=by simp[tY,hpi]
  have e:kG x q=⟨x.Time+1,(tY x q).map jK,x.Ways,x.Works,x.Movers,x.Arrived,x.Entered,x.Tariff,x.Book,x.Passings,x.Start,x.In,x.Out⟩:=by simp[kG,hc,hpi]
  rw[e,hrs];intro hlen;refine qA (ι:=Nat) (λk=>k<=x.Reaches.length) (λk=>rD [(2,.box 2 0),(4,.box 4 0),(5,.box 5 0),(53,.own 28 3 x.Reaches.length),(54,.c (.i x.Reaches.length)),(55,.c (.i k))] [(2,.box [.c (.i x.Time),.c (.sl 3 (x.Reaches.map Reach.enc)),.c (.sl 2 (x.Ways.map Way.enc)),.c (.sl 22 (x.Works.map Work.enc)),.c (.sl 1 (x.Movers.map qE)),.c (.sl 2 (x.Arrived.map Train.enc)),.c (.sl 1 (x.Entered.map qC)),.c (.i x.Tariff.Base),.c (.i x.Tariff.PerArea),.c (.sl 1 (x.Tariff.PerClass.map qC)),.c (.sl 1 (x.Tariff.Weights.map qC)),.c (.sl 5 (x.Book.map Entry.enc)),.c (.sl 4 (x.Passings.map Passing.enc)),.c (.i x.Start),.c (.i x.In),.c (.i x.Out)]),(4,.box [.c (.i 0),.nil 3,.nil 2,.nil 22,.nil 1,.nil 2,.nil 1,.c (.i 0),.c (.i 0),.nil 1,.nil 1,.nil 5,.nil 4,.c (.i 0),.c (.i 0),.c (.i 0)]),(5,.box [.c (.i (x.Time+1)),.own 28 3 x.Reaches.length,.c (.sl 2 (x.Ways.map Way.enc)),.c (.sl 22 (x.Works.map Work.enc)),.c (.sl 1 (x.Movers.map qE)),.c (.sl 2 (x.Arrived.map Train.enc)),.c (.sl 1 (x.Entered.map qC)),.c (.i x.Tariff.Base),.c (.i x.Tariff.PerArea),.c (.sl 1 (x.Tariff.PerClass.map qC)),.c (.sl 1 (x.Tariff.Weights.map qC)),.c (.sl 5 (x.Book.map Entry.enc)),.c (.sl 4 (x.Passings.map Passing.enc)),.c (.i x.Start),.c (.i x.In),.c (.i x.Out)]),(28,.row 3 (rsC x.Reaches k))]) (λk=>x.Reaches.length-k) 0 (by simp) (by apply dB<;>simp[yno]) ?_
  rintro k hk
  have hrl2:(rsC x.Reaches k).length=x.Reaches.length:=yp0;rcases zah k x.Reaches.length with klt|kge
  ·obtain⟨r,hr⟩:∃r,x.Reaches[k]?=some r:=⟨_,zaa klt⟩;have hrs2:=s1.2 r (zac hr);have hat:=yta hr;have hset:=ypZ hr;simp only[Reach.enc]at hat hset;have hat2:=(zab.1 hat).2;simp -dsimp -implicitDefEqProofs [hrl2,hat,hat2,klt,kD klt];refine kF (yd9 r hrs2) ?_;simp -dsimp -implicitDefEqProofs [hrl2,hat,hat2,klt,kD klt,hset];refine⟨aC klt hlen,k+1,klt,by omega,?_⟩;apply dB<;>simp[hset]
  ·have hall:=ypE (rs:=x.Reaches) (k:=k) (by exact kge);simp -dsimp -implicitDefEqProofs [eH kge,hall];exact(zaf (by simp[yB])).symm
theorem yn7(f:Nat)(a b:List C):InF Tryz.prog 189 (.c (.sl 1 [])) (.c (.sl 1 [])) [.c (.i 0),.c (.i 0),.fn f [.elt a,.elt b]] (.tup []):=by
 refine yrP jT (by simp) (by simp) rfl λhwf=>?_;simp -dsimp -implicitDefEqProofs;refine⟨by unfold inI;omega,?_⟩;refine qA (ι:=Unit) (λ_=>True) (λ_=>rD [(2,.c (.i 0)),(8,.c (.i 1)),(1000000,.c (.sl 1 []))] []) (λ_=>0) () trivial (by apply dB<;>simp) ?_
 rintro _ _
 simp -dsimp -implicitDefEqProofs;simp[ycM]
theorem yqt(f:Nat)(a b:List C):InF Tryz.prog 174 (.c (.sl 1 [])) (.c (.sl 1 [])) [.c (.i 0),.fn f [.elt a,.elt b]] (.tup []):=by
 refine yrP yc (by simp) (by simp) rfl λhwf=>?_;simp -dsimp -implicitDefEqProofs;refine qA (ι:=Unit) (λ_=>True) (λ_=>rD [(0,.c (.sl 1 [])),(1,.c (.i 0)),(2,.fn f [.elt a,.elt b]),(6,.c (.i 20)),(7,.c (.i 0)),(8,.c (.i 20)),(1000000,.c (.sl 1 []))] []) (λ_=>0) () trivial (by apply dB<;>simp) ?_
 rintro _ _
 simp -dsimp -implicitDefEqProofs;refine yma (up:=none) (yn7 f a b) (by simp) rfl rfl (yvK rfl) ?_;simp -dsimp -implicitDefEqProofs;refine qA (ι:=Unit) (λ_=>True) (λ_=>rD [(1,.c (.i 0)),(6,.c (.i 20)),(1000000,.c (.sl 1 []))] []) (λ_=>0) () trivial (by apply dB<;>simp) ?_
 rintro _ _
 simp -dsimp -implicitDefEqProofs;simp[ycM]
theorem yjs(f:Nat)(a b:List C):InF Tryz.prog 139 (.c (.sl 1 [])) (.c (.sl 1 [])) [.fn f [.elt a,.elt b]] (.tup []):=by
 refine yrP fU (by simp) (by simp) rfl λhwf=>?_;simp -dsimp -implicitDefEqProofs;refine yma (up:=none) (yqt f a b) (by simp) rfl rfl (yvK rfl) ?_;simp -dsimp -implicitDefEqProofs;simp[ycM]
theorem ytZ(now:Int):pM Tryz.prog 162 [.c (.sl 4 []),.c (.i now)] (.c (.ow 1 [])):=by
 refine mG ydw ?_;simp -dsimp -implicitDefEqProofs;refine yE (k0:=1) 5 1 (by simp) (by simp) (by decide) ?_;refine qA (ι:=Unit) (λ_=>True) (λ_=>rD [(2,.box 2 0),(3,.box 3 0),(5,.own 5 1 0),(8,.c (.sl 4 [])),(9,.c (.i 0)),(10,.c (.i 0))] [(2,.box [.c (.sl 4 [])]),(3,.box [.c (.i now)]),(5,.row 1 [])]) (λ_=>0) () trivial (by apply dB<;>simp) ?_
 rintro _ _
 simp -dsimp -implicitDefEqProofs;refine yri (up:=some (5,.row 1 [])) (yjs _ _ _) ⟨yyw ⟨ynW (cs:=[.sl 4 []]) (by simp) (by simp[iP]),ynW (cs:=[.i now]) (by simp) (by simp[iP]),trivial⟩,trivial⟩ (by simp[C.closed]) rfl (yvg (rows:=[]) (by simp) rfl rfl (by simp) (by simp) rfl rfl) ?_;simp -dsimp -implicitDefEqProofs
theorem yu0(t:Turn)(now:Int):lC Tryz.prog 152 [.c (.sl 4 []),.agg (t.enc.map .c),.c (.i now)] (.tup [.c (.b false),.c (.b false)]):=by
 refine qB ygt ?_;simp -dsimp -implicitDefEqProofs;refine kX (ytZ now) (by simp) rfl (by simp[tC]) ?_;simp -dsimp -implicitDefEqProofs
set_option maxRecDepth 20000 in
theorem ytI(x:Waterway)(k:Nat)(w:Work)(a b:Reach)(hs:Work.small w)(hw:x.Works[k]?=some w)(ha:x.Reaches[k]?=some a)(hb:x.Reaches[k+1]?=some b)(hsill:SillOk w)(hrl:x.Reaches.length<=1048576)(hc:w.Calls=[])(hi:w.Lock.Inside=[]):
 lC Tryz.prog 113 [.agg (x.enc.map .c),.c (.i k)] (.agg (x.enc.map .c)):=by
 have kw:=(zab.1 hw).1;have gw:=(zab.1 hw).2;have hA:=yyk x k w a b hs hw ha hb hsill hrl;have hA0:able a b w=[]:=by unfold able;rw[hc];rfl
 rw[hA0]at hA;refine qB ye7 ?_;simp -dsimp -implicitDefEqProofs [yaX,hw,gw,kw,kD kw];refine yrp hA ?_;simp -dsimp -implicitDefEqProofs [hi];refine fH (yu0 w.Turn x.Time) ?_;simp -dsimp -implicitDefEqProofs [hi]
structure Idle(x:Waterway):Prop where
 mv:∀l∈x.Movers,l=[]
 wk:∀w∈x.Works,w.Calls=[]/\w.Lock.Inside=[]/\w.Lock.Gate=0
set_option maxRecDepth 20000 in
theorem yxz(x:Waterway)(k:Nat)(hl:x.small)(hi:Idle x):lC Tryz.prog 72 [.agg (x.enc.map .c),.c (.i k)] (.agg (x.enc.map .c)):=by
 refine qB yoS ?_;simp -dsimp -implicitDefEqProofs;refine aA (lH x hl) ?_;cases h:xB x with
 |false=>simp -dsimp -implicitDefEqProofs
 |true=>
 simp -dsimp -implicitDefEqProofs;intro hlen
 refineλh1=>⟨h1,?_⟩
 obtain⟨w,a,b,hw⟩:=yyr (k:=k) h h1;have kw:=(zab.1 hw.hw).1;have gw:=(zab.1 hw.hw).2;have hmem:=zac hw.hw;obtain⟨c1,c2,c3⟩:=hi.wk w hmem;simp -dsimp -implicitDefEqProofs [hw.hw,gw,kw,kD kw,c3];refine xG (ytI x k w a b (hl.2.2.1.2 w hmem) hw.hw hw.ha hw.hb (yxo hw.ok) hl.1.1 c1 c2) ?_;simp -dsimp -implicitDefEqProofs;refine aA (lH x hl) ?_;simp -dsimp -implicitDefEqProofs [h]
def takeN(r:Reach)(a k:Int):Int:=
 let z:=if r.Volume-k<a then r.Volume-k else a
 if 0<z then z else 0
def ybv(r:Reach)(a k:Int):Bool:=bC r&&decide (0<=a)&&decide (0<=k)
def eF(r:Reach)(a k:Int):Reach×Int:=if ybv r a k then(⟨r.Table,r.Volume-takeN r a k,r.Pipe⟩,takeN r a k)else(r,0)
theorem ylW(r:Reach)(a k:Int)(hl:r.small):pM Tryz.prog 109 [.agg (r.enc.map .c),.c (.i a),.c (.i k)] (.tup [.agg ((eF r a k).1.iE.map .c),.c (.i (eF r a k).2)]):=by
 refine ys6 yg2 (by simp) λhwf=>?_;simp -dsimp -implicitDefEqProofs;refine rG (nY r hl) (by simp) (yZ (Reach.lF r)) (by simp[tC]) ?_;simp -dsimp -implicitDefEqProofs [aB];refine aA (rH r) ?_;cases h:bC r with
 |false=>
  simp -dsimp -implicitDefEqProofs [aB];have e:eF r a k=(r,0):=by simp[eF,ybv,h]
  rw[e];refine yH ?_;simp[aB]
 |true=>
 have f:=dQ h;have hv:=jA.1 (show inRange r.Volume 0 1000000000=true from f.vol);simp -dsimp -implicitDefEqProofs;refine⟨λha=>⟨λhk=>?_,λhk=>?_⟩,λha=>?_⟩
 ·have e:eF r a k=(r,0):=by
   have:¬0<=k:=by omega
   simp[eF,ybv,this]
  rw[e];refine yH ?_;simp[aB]
 ·have e:eF r a k=(⟨r.Table,r.Volume-takeN r a k,r.Pipe⟩,takeN r a k):=by simp[eF,ybv,h,ha,hk]
  rw[e]
  have hk2:inI k:=by
   have:=hwf.2.2.1;simpa[AV.wf,AV.wf1,C.WF]using this
  unfold inI at hk2;have ht:takeN r a k=(if 0<(if r.Volume-k<a then r.Volume-k else a)then(if r.Volume-k<a then r.Volume-k else a)else 0):=rfl
  have htr:0<=takeN r a k/\takeN r a k<=1000000000:=by
   rw[ht];repeat' split
   all_goals omega
  rw[<-ht];refine⟨by unfold inI;omega,by unfold inI;omega,?_⟩;refine yH ?_;simp[aB]
 ·have e:eF r a k=(r,0):=by
   have:¬0<=a:=by omega
   simp[eF,ybv,this]
  rw[e];refine yH ?_;simp[aB]
theorem yc1(r:Reach)(a k:Int)(hl:r.small):lC Tryz.prog 109 [.agg (r.enc.map .c),.c (.i a),.c (.i k)] (.tup [.agg ((eF r a k).1.enc.map .c),.c (.i (eF r a k).2)]):=(ylW r a k hl).pure (by simp[AV.shr,AV.yrZ,AV.ygz,mM,C.shr])
def yt(a b:Reach)(q k:Int):Bool:=bC a&&bC b&&decide (0<=q)&&decide (0<=k)
def ybK(b:Reach)(q:Int):Int:=if gK b<q then gK b else q
def qL(a b:Reach)(q k:Int):Reach×Reach×Int:=
 if yt a b q k then((eF a (ybK b q) k).1,lJ b (eF a (ybK b q) k).2,(eF a (ybK b q) k).2)else(a,b,0)
theorem bH(e:Reach)(hl:Reach.small e):lC Tryz.prog 85 [.agg (e.enc.map .c)] (.agg (e.enc.map .c)):=(nY e hl).pure (Reach.ylU _)
theorem ymv(a b:Reach)(q k:Int)(ha:a.small)(hb:b.small):lC Tryz.prog 149 [.agg (a.enc.map .c),.agg (b.enc.map .c),.c (.i q),.c (.i k)] (.tup [.agg ((qL a b q k).1.enc.map .c),.agg ((qL a b q k).2.1.enc.map .c),.c (.i (qL a b q k).2.2)]):=by
 refine qB yjH ?_;have no:yt a b q k=false->qL a b q k=(a,b,0):=λh=>by simp[qL,h]
 simp -dsimp -implicitDefEqProofs;refine aA (rH a) ?_;cases h1:bC a with
 |false=>
  rw[no (by simp[yt,h1])];simp -dsimp -implicitDefEqProofs;refine kF (bH a ha) ?_;simp -dsimp -implicitDefEqProofs;refine kF (bH b hb) ?_;simp -dsimp -implicitDefEqProofs
 |true=>
 simp -dsimp -implicitDefEqProofs;refine aA (rH b) ?_;cases h2:bC b with
 |false=>
  rw[no (by simp[yt,h2])];simp -dsimp -implicitDefEqProofs;refine kF (bH a ha) ?_;simp -dsimp -implicitDefEqProofs;refine kF (bH b hb) ?_;simp -dsimp -implicitDefEqProofs
 |true=>
 simp -dsimp -implicitDefEqProofs;refine⟨λhq=>⟨λhk=>?_,λhk=>?_⟩,λhq=>?_⟩
 ·have hk':¬0<=k:=by omega
  rw[no (by simp[yt,hk'])];refine kF (bH a ha) ?_;simp -dsimp -implicitDefEqProofs;refine kF (bH b hb) ?_;simp -dsimp -implicitDefEqProofs
 ·have hc:yt a b q k=true:=by simp[yt,h1,h2,hq,hk]
  have e:qL a b q k=((eF a (ybK b q) k).1,lJ b (eF a (ybK b q) k).2,(eF a (ybK b q) k).2):=by simp[qL,hc]
  rw[e];refine yaH (yei b) ?_;simp -dsimp -implicitDefEqProofs;have hT:=yc1 a (ybK b q) k ha;unfold ybK at hT|-;refine kF hT ?_;generalize eF a (if gK b<q then gK b else q) k=r at *;simp -dsimp -implicitDefEqProofs;refine kF (ydR b r.2 hb) ?_;simp -dsimp -implicitDefEqProofs
 ·have hq':¬0<=q:=by omega
  rw[no (by simp[yt,hq'])];refine kF (bH a ha) ?_;simp -dsimp -implicitDefEqProofs;refine kF (bH b hb) ?_;simp -dsimp -implicitDefEqProofs
def jO:Nat->Nat
 |0=>0
 |m+1=>if(jO m+1)*(jO m+1)<=m+1 then jO m+1 else jO m
theorem yg3:∀m:Nat,jO m*jO m<=m/\m<(jO m+1)*(jO m+1)
 |0=>by simp[jO]
 | m+1=>by
  have ih:=yg3 m;unfold jO;split
  ·rename_i h;refine⟨h,?_⟩
   have:(jO m+1+1)*(jO m+1+1)=(jO m+1)*(jO m+1)+2*(jO m+1)+1:=by
    rw[zaz,Nat.mul_add];omega
   omega
  ·omega
theorem ytp{m r:Nat}(h1:r*r<=m)(h2:m<(r+1)*(r+1)):jO m=r:=by
 obtain⟨a,b⟩:=yg3 m;rcases zcw (jO m) r with h|h|h
 ·have:(jO m+1)*(jO m+1)<=r*r:=zcu h h;omega
 ·exact h
 ·have:(r+1)*(r+1)<=jO m*jO m:=zcu h h;omega
def jU(n:Int):Int:=if 0<=n/\n<=1000000000000000000 then jO n.toNat else -1
theorem ymb(n:Int):lC Tryz.prog 150 [.c (.i n)] (.c (.i (jU n))):=by
 refine qB yjd ?_;simp -dsimp -implicitDefEqProofs;refine⟨λh0=>⟨λh1=>?_,λh1=>?_⟩,λh0=>?_⟩
 ·have:¬(0<=n/\n<=1000000000000000000):=by omega
  simp only[jU,if_neg this]
 rotate_left
 ·have:¬(0<=n/\n<=1000000000000000000):=by omega
  simp only[jU,if_neg this]
 have hr:0<=n/\n<=1000000000000000000:=by omega
 refine qA (ι:=Nat×Nat) (λp=>p.1<=p.2/\p.2<=1000000000/\p.1*p.1<=n.toNat/\n.toNat<(p.2+1)*(p.2+1)) (λp=>rD [(0,.c (.i n)),(3,.c (.i p.1)),(4,.c (.i p.2))] []) (λp=>p.2-p.1) (0,1000000000) (by simp;omega) (by apply dB<;>simp) ?_
 rintro⟨lo,hi⟩ ⟨h1,h2,h3,h4⟩
 simp only at h1 h2 h3 h4;simp -dsimp -implicitDefEqProofs;refine⟨λhg=>?_,λhg=>?_⟩
 ·obtain⟨m,hm⟩:∃m,m=(lo+hi+1)/2:=⟨_,rfl⟩;have em:((lo:Int)+hi+1).tdiv 2=(m:Int):=by rw[zbf (by omega)];omega
  have hmm:(m:Int)*m=((m*m:Nat):Int):=(Int.natCast_mul m m).symm;have hb:m*m<=1000000000*1000000000:=zcu (by omega) (by omega);rw[em,hmm];refine⟨by unfold inI;omega,by unfold inI;omega,by unfold inI;omega,by unfold inI;omega,λhc=>?_,λhc=>?_⟩
  ·have h4i:n<((hi:Int)+1)*(hi+1):=by
    have:((hi:Int)+1)*(hi+1)=(((hi+1)*(hi+1):Nat):Int):=by simp
    omega
   refine⟨m,hi,⟨by omega,h2,by omega,h4i⟩,by omega,?_⟩;apply dB<;>simp
  ·refine⟨by unfold inI;omega,lo,m-1,⟨by omega,by omega,by omega,by rw[show((m-1:Nat):Int)+1=m by omega,hmm];omega⟩,by omega,?_⟩;apply dB<;>simp<;>omega
 ·have:hi=lo:=by omega
  subst this;simp only[jU,if_pos hr];rw[ytp h3 h4]
theorem yi1{a b A B:Int}(ha:0<=a/\a<=A)(hb:0<=b/\b<=B):0<=a*b/\a*b<=A*B:=
 ⟨zcV ha.1 hb.1,Int.mul_le_mul ha.2 hb.2 hb.1 (by omega)⟩
def lev(x:Int):Bool:=inRange x 0 100000
structure WeirFacts(w:Weir):Prop where
 gts:1<=w.Gates/\w.Gates<=8
 opn:0<=w.Open/\w.Open<=10*w.Gates
 stp:1<=w.Step/\w.Step<=80
 crs:0<=w.Crest/\w.Crest<=100000
 wid:1<=w.Width/\w.Width<=1000
theorem yaV{w:Weir}(h:qF w=true):WeirFacts w:=by
 simp only[qF,zad]at h;obtain⟨⟨⟨⟨h1,h2⟩,h3⟩,h4⟩,h5⟩:=h;exact⟨jA.1 h1,jA.1 h2,jA.1 h3,jA.1 h4,jA.1 h5⟩
structure RuleFacts(r:Rule):Prop where
 low:0<=r.Low/\r.Low<=100000
 hig:0<=r.High/\r.High<=100000
 fld:0<=r.Flood/\r.Flood<=100000
 lh:r.Low<r.High
 hf:r.High<=r.Flood
theorem yqs{r:Rule}(h:qK r=true):RuleFacts r:=by
 simp only[qK,zad,decide_eq_true_eq]at h;obtain⟨⟨⟨⟨h1,h2⟩,h3⟩,h4⟩,h5⟩:=h;exact⟨jA.1 h1,jA.1 h2,jA.1 h3,h4,h5⟩
theorem yrq{n:Int}(h:n<=1000000): -1<=jU n/\jU n<=1000:=by
 unfold jU;split
 ·rename_i h2;obtain⟨a,b⟩:=yg3 n.toNat;refine⟨by omega,?_⟩;rcases zah 1000 (jO n.toNat)with e|e
  ·have:1001*1001<=jO n.toNat*jO n.toNat:=zcu e e;omega
  ·omega
 ·omega
theorem yn4{n:Int}(h0:0<=n)(h:n<=1000000):0<=jU n/\jU n<=1000:=by
 refine⟨?_,(yrq h).2⟩;unfold jU;rw[if_pos ⟨h0,by omega⟩];omega
def kZ(w:Weir)(up down:Int):Int:=up-(if w.Crest<down then down else w.Crest)
def yga(w:Weir)(up down:Int):Bool:=qF w&&lev up&&lev down&&decide (0<kZ w up down)
def iJ(w:Weir)(up down:Int):Int:=if yga w up down then(w.Open*w.Width*jU (kZ w up down)).tdiv 10 else 0
def yhH(w:Weir)(o:Int):Int:=
 let z:=if w.Open+w.Step<o then w.Open+w.Step else o
 if z<w.Open-w.Step then w.Open-w.Step else z
@[simp] def Weir.opened(w:Weir)(o:Int):Weir:=⟨w.Gates,o,w.Step,w.Crest,w.Width⟩
def iQ(w:Weir)(o:Int):Weir:=if qF w&&inRange o 0 (10*w.Gates)then w.opened (yhH w o)else w
def ybM(w:Weir)(up down q:Int):Nat->Int->Int
 |0,o=>o
 |m+1,o=>if q<=iJ (w.opened o) up down then o else ybM w up down q m (o+1)
def yaq(w:Weir)(up down q:Int):Int:=if qF w&&lev up&&lev down then ybM w up down q (10*w.Gates).toNat 0 else 0
theorem yrl{w:Weir}{up down q:Int}{k n:Nat}(h:k<=n)(hg:q<=iJ (w.opened k) up down):ybM w up down q (n-k) k=k:=by
 cases hm:n-k with
 |zero=>rfl
 |succ m=>rw[ybM,if_pos hg]
theorem yth{w:Weir}{up down q:Int}{k n:Nat}(h:k<n)(hg:iJ (w.opened k) up down<q):ybM w up down q (n-(k+1)) ((k+1:Nat):Int)=ybM w up down q (n-k) k:=by
 rw[show n-k=(n-(k+1))+1 by omega,ybM,if_neg (by omega)];rfl
def wants(r:Rule)(l q:Int):Bool:=qK r&&inRange q 0 1000000000&&lev l&&decide (r.Low<l)
def xN(r:Rule)(l q:Int):Int:=
 if wants r l q then(if 2*q<(q*(l-r.Low)).tdiv (r.High-r.Low)then 2*q else(q*(l-r.Low)).tdiv (r.High-r.Low))else 0
def jW(w:Weir)(r:Rule)(up down q:Int):Bool:=qF w&&qK r&&inRange q 0 1000000000&&lev up&&lev down
def lM(w:Weir)(r:Rule)(up down q:Int):Weir:=
 if jW w r up down q then(if r.Flood<=up then iQ w (10*w.Gates)else iQ w (yaq w up down (xN r up q)))else w
def iF(a b:Reach)(w:Weir):Reach×Reach×Int:=
 if bC a&&bC b&&qF w then qL a b (iJ w (aF a) (aF b)) (iD a.Table w.Crest)else(a,b,0)
theorem yat(w:Weir)(up down:Int):lC Tryz.prog 108 [.agg (w.enc.map .c),.c (.i up),.c (.i down)] (.c (.i (iJ w up down))):=by
 refine qB ygJ ?_;have no:yga w up down=false->iJ w up down=0:=λh=>by simp[iJ,h]
 simp -dsimp -implicitDefEqProofs;refine aA (gV w) ?_;cases h1:qF w with
 |false=>simp -dsimp -implicitDefEqProofs;exact no (by simp[yga,h1])
 |true=>
 simp -dsimp -implicitDefEqProofs;refine aA (gB up 0 100000) ?_;cases h2:inRange up 0 100000 with
 |false=>simp -dsimp -implicitDefEqProofs;exact no (by simp[yga,lev,h2])
 |true=>
 simp -dsimp -implicitDefEqProofs;refine aA (gB down 0 100000) ?_;cases h3:inRange down 0 100000 with
 |false=>simp -dsimp -implicitDefEqProofs;exact no (by simp[yga,lev,h3])
 |true=>
 have f:=yaV h1;have f1:=f.gts;have f2:=f.opn;have f3:=f.wid;have f4:=f.crs;have u:=jA.1 h2;have d:=jA.1 h3;simp -dsimp -implicitDefEqProofs;have hh:kZ w up down=up-(if w.Crest<down then down else w.Crest):=rfl;have hd: -100000<=kZ w up down/\kZ w up down<=100000:=by rw[hh];split<;>omega
 rw[<-hh];generalize(if w.Crest<down then down else w.Crest)=c at *;refine⟨by unfold inI;omega,?_⟩
 by_cases h4:kZ w up down<=0
 ·have no2:=no (by simp[yga];omega);refine⟨λh5=>?_,λh5=>?_⟩<;>first|exact no2|omega
 ·have m1:=yi1 (a:=w.Open) (b:=w.Width) (A:=80) (B:=1000) (by omega) (by omega);have r1:=yn4 (n:=kZ w up down) (by omega) (by omega);have m2:=yi1 (a:=w.Open*w.Width) (b:=jU (kZ w up down)) (A:=80000) (B:=1000) (by omega) r1
  have m3:0<=(w.Open*w.Width*jU (kZ w up down)).tdiv 10/\(w.Open*w.Width*jU (kZ w up down)).tdiv 10<=8000000:=by
   rw[zbf m2.1];omega
  have yes:iJ w up down=(w.Open*w.Width*jU (kZ w up down)).tdiv 10:=by
   have:yga w up down=true:=by simp[yga,lev,h1,h2,h3];omega
   simp[iJ,this]
  refine⟨λh5=>(by omega),λh5=>?_⟩;refine⟨by unfold inI;omega,?_⟩;refine fH (ymb (kZ w up down)) ?_;simp -dsimp -implicitDefEqProofs;exact⟨by unfold inI;omega,by unfold inI;omega,yes⟩
theorem yn0(n a b:Int):lC Tryz.prog 176 [.c (.i n),.c (.i a),.c (.i b)] (.c (.i (if b<a\/n<a then a else if b<n then b else n))):=by
 refine qB ylG ?_;simp -dsimp -implicitDefEqProofs;refine⟨λh1=>⟨λh2 h3 h4=>by omega,λh2=>⟨λh3=>?_,λh3=>?_⟩⟩,λh1 h2 h3=>by omega⟩
 ·rw[if_neg (by omega),if_pos h3]
 ·rw[if_neg (by omega),if_neg (by omega)]
theorem ycZ(w:Weir)(o:Int):lC Tryz.prog 146 [.agg (w.enc.map .c),.c (.i o)] (.agg ((iQ w o).enc.map .c)):=by
 refine qB ygk ?_;have no:(qF w&&inRange o 0 (10*w.Gates))=false->iQ w o=w:=λh=>by simp[iQ,h]
 simp -dsimp -implicitDefEqProofs;refine aA (gV w) ?_;cases h1:qF w with
 |false=>simp -dsimp -implicitDefEqProofs;simp[no (by simp[h1])]
 |true=>
 have f:=yaV h1;have f1:=f.gts;have f2:=f.opn;have f3:=f.stp;simp -dsimp -implicitDefEqProofs;refine⟨by unfold inI;omega,?_⟩;refine aA (gB o 0 (10*w.Gates)) ?_;cases h2:inRange o 0 (10*w.Gates)with
 |false=>simp -dsimp -implicitDefEqProofs;simp[no (by simp[h2])]
 |true=>
 have u:=jA.1 h2;have yes:iQ w o=w.opened (yhH w o):=by simp[iQ,h1,h2]
 rw[yes];simp -dsimp -implicitDefEqProofs;refine⟨by unfold inI;omega,by unfold inI;omega,?_⟩;refine aA (yn0 o (w.Open-w.Step) (w.Open+w.Step)) ?_;simp -dsimp -implicitDefEqProofs;unfold yhH;simp only
 repeat' split
 all_goals omega
theorem yld(w:Weir)(up down q:Int):lC Tryz.prog 147 [.agg (w.enc.map .c),.c (.i up),.c (.i down),.c (.i q)] (.c (.i (yaq w up down q))):=by
 refine qB yim ?_;have no:(qF w&&lev up&&lev down)=false->yaq w up down q=0:=λh=>by simp[yaq,h]
 simp -dsimp -implicitDefEqProofs;refine aA (gV w) ?_;cases h1:qF w with
 |false=>simp -dsimp -implicitDefEqProofs;exact no (by simp[h1])
 |true=>
 simp -dsimp -implicitDefEqProofs;refine aA (gB up 0 100000) ?_;cases h2:inRange up 0 100000 with
 |false=>simp -dsimp -implicitDefEqProofs;exact no (by simp[lev,h2])
 |true=>
 simp -dsimp -implicitDefEqProofs;refine aA (gB down 0 100000) ?_;cases h3:inRange down 0 100000 with
 |false=>simp -dsimp -implicitDefEqProofs;exact no (by simp[lev,h3])
 |true=>
 have f:=yaV h1;have f1:=f.gts;have f2:=f.opn;have f3:=f.stp;obtain⟨n,hn⟩:∃n:Nat,n=(10*w.Gates).toNat:=⟨_,rfl⟩;have hn2:10*w.Gates=(n:Int):=by omega
 have yes:yaq w up down q=ybM w up down q n 0:=by rw[hn];simp[yaq,h1,h2,h3,lev]
 rw[yes];simp -dsimp -implicitDefEqProofs;rw[hn2];refine⟨by unfold inI;omega,?_⟩;refine qA (ι:=Nat×Int) (λz=>z.1<=n+1/\(z.1<=n->ybM w up down q (n-z.1) z.1=ybM w up down q n 0)/\(n<z.1->ybM w up down q n 0=n)) (λz=>rD [(1,.c (.i up)),(2,.c (.i down)),(3,.c (.i q)),(4,.box 4 0),(8,.c (.i 0)),(9,.c (.i n)),(10,.c (.i z.1))] [(4,.box [.c (.i w.Gates),.c (.i z.2),.c (.i w.Step),.c (.i w.Crest),.c (.i w.Width)])]) (λz=>n+1-z.1) (0,w.Open) ⟨by simp,by simp,by simp⟩ (by apply dB<;>simp[Obj.leO]) ?_
 rintro⟨k,o⟩ ⟨h0,hk,he⟩
 simp only at h0 hk he;rcases zah n k with hlt|hge
 ·have q1:((k:Int)<=(n:Int))=False:=by simp;omega
  have q2:(k<=n)=False:=by simp;omega
  simp -dsimp -implicitDefEqProofs [q1,q2];exact(he hlt)
 ·have q1:((k:Int)<=(n:Int))=True:=by simp;omega
  have q2:(k<=n)=True:=by simp;omega
  simp -dsimp -implicitDefEqProofs [q1,q2];refine aA (yat (w.opened k) up down) ?_;simp -dsimp -implicitDefEqProofs;have hok:=hk hge;refine⟨λhg=>?_,λhg=>?_⟩
  ·rw[<-hok,yrl hge hg]
  ·refine⟨by unfold inI;omega,k+1,⟨by omega,λh=>by rw[yth (by omega) hg,hok],λh=>?_⟩,by omega,k,?_⟩
   ·rw[<-hok,show k=n by omega];simp[ybM]
   ·apply dB<;>simp[Obj.leO]
theorem ygD(r:Rule)(l q:Int):lC Tryz.prog 148 [.agg (r.enc.map .c),.c (.i l),.c (.i q)] (.c (.i (xN r l q))):=by
 refine qB ydC ?_;have no:wants r l q=false->xN r l q=0:=λh=>by simp[xN,h]
 simp -dsimp -implicitDefEqProofs;refine aA (yb6 r) ?_;cases h1:qK r with
 |false=>simp -dsimp -implicitDefEqProofs;exact no (by simp[wants,h1])
 |true=>
 simp -dsimp -implicitDefEqProofs;refine aA (gB q 0 1000000000) ?_;cases h2:inRange q 0 1000000000 with
 |false=>simp -dsimp -implicitDefEqProofs;exact no (by simp[wants,h2])
 |true=>
 simp -dsimp -implicitDefEqProofs;refine aA (gB l 0 100000) ?_;cases h3:inRange l 0 100000 with
 |false=>simp -dsimp -implicitDefEqProofs;exact no (by simp[wants,lev,h3])
 |true=>
 have f:=yqs h1;have f1:=f.low;have f2:=f.hig;have f3:=f.lh;have u:=jA.1 h2;have d:=jA.1 h3
 by_cases h4:l<=r.Low
 ·simp -dsimp -implicitDefEqProofs [h4];exact no (by simp[wants];omega)
 have h4':=zdp.1 h4
 have yes:xN r l q=if 2*q<(q*(l-r.Low)).tdiv (r.High-r.Low)then 2*q else(q*(l-r.Low)).tdiv (r.High-r.Low):=by
  have:wants r l q=true:=by simp[wants,lev,h1,h2,h3,h4']
  simp[xN,this]
 have m1:=yi1 (a:=q) (b:=l-r.Low) (A:=1000000000) (B:=100000) (by omega) (by omega)
 have m2:0<=(q*(l-r.Low)).tdiv (r.High-r.Low)/\(q*(l-r.Low)).tdiv (r.High-r.Low)<=100000000000000:=by
  rw[zbf m1.1];refine⟨zcO m1.1 (by omega),Int.le_trans (zcH _ m1.1) (by omega)⟩
 rw[yes];simp -dsimp -implicitDefEqProofs [h4,h4'];exact⟨by unfold inI;omega,by unfold inI;omega,by unfold inI;omega,by omega,by unfold inI;omega,by unfold inI;omega⟩
theorem yhZ(w:Weir)(r:Rule)(up down q:Int):lC Tryz.prog 106 [.agg (w.enc.map .c),.agg (r.enc.map .c),.c (.i up),.c (.i down),.c (.i q)] (.agg ((lM w r up down q).enc.map .c)):=by
 refine qB ye3 ?_;have no:jW w r up down q=false->lM w r up down q=w:=λh=>by simp[lM,h]
 simp -dsimp -implicitDefEqProofs;refine aA (gV w) ?_;cases h1:qF w with
 |false=>simp -dsimp -implicitDefEqProofs;simp[no (by simp[jW,h1])]
 |true=>
 simp -dsimp -implicitDefEqProofs;refine aA (yb6 r) ?_;cases h2:qK r with
 |false=>simp -dsimp -implicitDefEqProofs;simp[no (by simp[jW,h2])]
 |true=>
 simp -dsimp -implicitDefEqProofs;refine aA (gB q 0 1000000000) ?_;cases h3:inRange q 0 1000000000 with
 |false=>simp -dsimp -implicitDefEqProofs;simp[no (by simp[jW,h3])]
 |true=>
 simp -dsimp -implicitDefEqProofs;refine aA (gB up 0 100000) ?_;cases h4:inRange up 0 100000 with
 |false=>simp -dsimp -implicitDefEqProofs;simp[no (by simp[jW,lev,h4])]
 |true=>
 simp -dsimp -implicitDefEqProofs;refine aA (gB down 0 100000) ?_;cases h5:inRange down 0 100000 with
 |false=>simp -dsimp -implicitDefEqProofs;simp[no (by simp[jW,lev,h5])]
 |true=>
 have f:=yaV h1;have f1:=f.gts;have hc:jW w r up down q=true:=by simp[jW,lev,h1,h2,h3,h4,h5]
 by_cases h6:r.Flood<=up
 ·have yes:lM w r up down q=iQ w (10*w.Gates):=by simp[lM,hc,h6]
  rw[yes];simp -dsimp -implicitDefEqProofs [h6];refine⟨by unfold inI;omega,?_⟩;refine aA (ycZ w (10*w.Gates)) ?_;simp -dsimp -implicitDefEqProofs
 ·have yes:lM w r up down q=iQ w (yaq w up down (xN r up q)):=by simp[lM,hc,h6]
  rw[yes];simp -dsimp -implicitDefEqProofs [h6];refine yaH (ygD r up q) ?_;simp -dsimp -implicitDefEqProofs;refine yaH (yld w up down (xN r up q)) ?_;simp -dsimp -implicitDefEqProofs;refine yaH (ycZ w (yaq w up down (xN r up q))) ?_;simp -dsimp -implicitDefEqProofs
theorem ygu(a b:Reach)(w:Weir)(ha:a.small)(hb:b.small):lC Tryz.prog 107 [.agg (a.enc.map .c),.agg (b.enc.map .c),.agg (w.enc.map .c)] (.tup [.agg ((iF a b w).1.enc.map .c),.agg ((iF a b w).2.1.enc.map .c),.c (.i (iF a b w).2.2)]):=by
 refine qB yeg ?_;have no:(bC a&&bC b&&qF w)=false->iF a b w=(a,b,0):=λh=>by simp[iF,h]
 simp -dsimp -implicitDefEqProofs;refine aA (rH a) ?_;cases h1:bC a with
 |false=>
  rw[no (by simp[h1])];simp -dsimp -implicitDefEqProofs;refine kF (bH a ha) ?_;simp -dsimp -implicitDefEqProofs;refine kF (bH b hb) ?_;simp -dsimp -implicitDefEqProofs
 |true=>
 simp -dsimp -implicitDefEqProofs;refine aA (rH b) ?_;cases h2:bC b with
 |false=>
  rw[no (by simp[h2])];simp -dsimp -implicitDefEqProofs;refine kF (bH a ha) ?_;simp -dsimp -implicitDefEqProofs;refine kF (bH b hb) ?_;simp -dsimp -implicitDefEqProofs
 |true=>
 simp -dsimp -implicitDefEqProofs;refine aA (gV w) ?_;cases h3:qF w with
 |false=>
  rw[no (by simp[h3])];simp -dsimp -implicitDefEqProofs;refine kF (bH a ha) ?_;simp -dsimp -implicitDefEqProofs;refine kF (bH b hb) ?_;simp -dsimp -implicitDefEqProofs
 |true=>
 have yes:iF a b w=qL a b (iJ w (aF a) (aF b)) (iD a.Table w.Crest):=by simp[iF,h1,h2,h3]
 rw[yes];simp -dsimp -implicitDefEqProofs;refine fH (dN a) ?_;simp -dsimp -implicitDefEqProofs;refine fH (dN b) ?_;simp -dsimp -implicitDefEqProofs;refine fH (yat w (aF a) (aF b)) ?_;simp -dsimp -implicitDefEqProofs;refine yaH (ybu a.Table w.Crest) ?_;simp -dsimp -implicitDefEqProofs;have hP:=ymv a b (iJ w (aF a) (aF b)) (iD a.Table w.Crest) ha hb;refine kF hP ?_;generalize qL a b (iJ w (aF a) (aF b)) (iD a.Table w.Crest)=z at *;simp -dsimp -implicitDefEqProofs
def yf1{α:Type}(t:α->Nat)(xs:List α):Nat:=xs.length+(xs.map t).sum
def ymQ(xs:List Int):Nat:=xs.length
def yq1(xs:List Boat):Nat:=xs.length
def yop:List (List Boat)->Nat:=yf1 yq1
def yjW(e:Train):Nat:=yop e.Rows
def yiX(xs:List Point):Nat:=xs.length
def rJ(e:Reach):Nat:=yiX e.Table+ymQ e.Pipe
def yhd:List Reach->Nat:=yf1 rJ
def yoj(xs:List Pause):Nat:=xs.length
def yo0:List Train->Nat:=yf1 yjW
def yrR(e:Lock):Nat:=yo0 e.Inside
def yts(e:CallT):Nat:=yjW e.Train
def yra:List CallT->Nat:=yf1 yts
def yrK(e:Work):Nat:=yrR e.Lock+yoj e.Pauses+yra e.Calls
def yj7:List Work->Nat:=yf1 yrK
def hsW(x:Waterway):List H:=[.p (.i x.Time),.t 3 (x.Reaches.map Reach.iE),.w 2 (x.Ways.map Way.enc),.t 22 (x.Works.map Work.iE),.t 1 (x.Movers.map tK),.t 2 (x.Arrived.map Train.iE),.w 1 (x.Entered.map qC),
 .p (.i x.Tariff.Base),.p (.i x.Tariff.PerArea),.w 1 (x.Tariff.PerClass.map qC),.w 1 (x.Tariff.Weights.map qC),.w 5 (x.Book.map Entry.enc),.t 4 (x.Passings.map Passing.iE),.p (.i x.Start),.p (.i x.In),.p (.i x.Out)]
def wm1(x:Waterway)(k:Int):Int:=k+cnt ymN x.Reaches
def wm2(x:Waterway)(k:Int):Int:=wm1 x k+2*x.Ways.length
def wm3(x:Waterway)(k:Int):Int:=wm2 x k+cnt ypy x.Works
def wm4(x:Waterway)(k:Int):Int:=wm3 x k+cnt ykq x.Movers
def wm5(x:Waterway)(k:Int):Int:=wm4 x k+cnt bK x.Arrived
def wm6(x:Waterway)(k:Int):Int:=wm5 x k+x.Entered.length
def wm7(x:Waterway)(k:Int):Int:=wm6 x k+nT x.Tariff
def wm8(x:Waterway)(k:Int):Int:=wm7 x k+5*x.Book.length
def hsM(x:Waterway)(k:Int):List H:=[.p (.i x.Time),.t 3 (yfE yr1 ymN k x.Reaches),.w 2 (marked yyt 2 [] (wm1 x k) x.Ways.length),.t 22 (yfE yua ypy (wm2 x k) x.Works),.t 1 (yfE yrk ykq (wm3 x k) x.Movers),.t 2 (yfE ynM bK (wm4 x k) x.Arrived),.w 1 (marked qC 1 [] (wm5 x k) x.Entered.length),
 .p (.i x.Tariff.Base),.p (.i x.Tariff.PerArea),.w 1 (marked qC 1 [] (wm6 x k) x.Tariff.PerClass.length),.w 1 (marked qC 1 [] (wm6 x k+x.Tariff.PerClass.length) x.Tariff.Weights.length),.w 5 (marked mkEn 5 [] (wm7 x k) x.Book.length),.t 4 (yfE yoK yo2 (wm8 x k) x.Passings),.p (.i x.Start),.p (.i x.In),.p (.i x.Out)]
theorem ytM(r:Reach)(a:Int):rJ (lJ r a)=rJ r:=by
 have:(lJ r a).Table.length=r.Table.length/\(lJ r a).Pipe.length=r.Pipe.length:=by
  unfold lJ;split
  ·split
   ·exact⟨rfl,rfl⟩
   ·exact⟨rfl,by simp⟩
  ·exact⟨rfl,rfl⟩
 unfold rJ yiX ymQ;omega
def yam(w:Work)(v:Weir):Work:=⟨w.Lock,v,w.Rule,w.Pauses,w.Turn,w.Calls⟩
def dR(rs:List Reach)(k:Nat):Reach:=rs.getD k default
def dW(ws:List Work)(k:Nat):Work:=ws.getD k default
def iT(q:Int)(rs:List Reach)(ws:List Work)(k:Nat):Weir:=lM (dW ws k).Weir (dW ws k).Rule (aF (dR rs k)) (aF (dR rs (k+1))) q
def through(q:Int)(rs:List Reach)(ws:List Work)(k:Nat):Reach×Reach×Int:=iF (dR rs k) (dR rs (k+1)) (iT q rs ws k)
def jE(q:Int)(rs:List Reach)(ws:List Work):Nat->List Reach×List Work
 |0=>(rs,ws)
 | k +1=>(((jE q rs ws k).1.set k (through q (jE q rs ws k).1 (jE q rs ws k).2 k).1).set (k+1) (through q (jE q rs ws k).1 (jE q rs ws k).2 k).2.1,
     (jE q rs ws k).2.set k (yam (dW (jE q rs ws k).2 k) (iT q (jE q rs ws k).1 (jE q rs ws k).2 k)))
def mQ(x:Waterway)(q:Int):Bool:=xB x&&inRange q 0 1000000000
def stR(x:Waterway)(q:Int):List Reach:=(jE q x.Reaches x.Works x.Works.length).1
def stW(x:Waterway)(q:Int):List Work:=(jE q x.Reaches x.Works x.Works.length).2
def ygo(rs:List Reach)(ws:List Work)(ys:List Way)(n:Nat):Reach×Int:=
 eF (dR rs n) (iJ (dW ws (n-1)).Weir (aF (dR rs n)) 0) (iD (dR rs n).Table (ys.getD n default).Bed)
def oG(x:Waterway)(q:Int):Waterway:=
 if mQ x q then⟨x.Time,(stR x q).set (x.Reaches.length-1) (ygo (stR x q) (stW x q) x.Ways (x.Reaches.length-1)).1,x.Ways,stW x q,x.Movers,x.Arrived,x.Entered,x.Tariff,x.Book,x.Passings,x.Start,x.In,x.Out+(ygo (stR x q) (stW x q) x.Ways (x.Reaches.length-1)).2⟩else x
theorem lT{q:Int}{rs:List Reach}{ws:List Work}:∀k:Nat,(jE q rs ws k).1.length=rs.length/\(jE q rs ws k).2.length=ws.length
 |0=>⟨rfl,rfl⟩
 |k+1=>by
  obtain⟨h1,h2⟩:=lT (q:=q) (rs:=rs) (ws:=ws) k;simp[jE,h1,h2]
theorem ydZ{rs:List Reach}{k:Nat}(h:k<rs.length):rs[k]?=some (dR rs k):=by
 rw[dR,zbe,zaa h];rfl
theorem ynu{ws:List Work}{k:Nat}(h:k<ws.length):ws[k]?=some (dW ws k):=by
 rw[dW,zbe,zaa h];rfl
theorem ycY{r:Reach}{a k:Int}(h:r.small):(eF r a k).1.small:=by
 unfold eF;split<;>exact h
theorem ylq{a b:Reach}{q k:Int}(ha:a.small)(hb:b.small):(qL a b q k).1.small/\(qL a b q k).2.1.small:=by
 unfold qL;split
 ·exact⟨ycY ha,ydN hb⟩
 ·exact⟨ha,hb⟩
theorem yqL{a b:Reach}{w:Weir}(ha:a.small)(hb:b.small):(iF a b w).1.small/\(iF a b w).2.1.small:=by
 unfold iF;split
 ·exact ylq ha hb
 ·exact⟨ha,hb⟩
theorem ytO(r:Reach)(a k:Int):rJ (eF r a k).1=rJ r:=by
 unfold eF;split<;>rfl
theorem ysl(a b:Reach)(q k:Int):rJ (qL a b q k).1=rJ a/\rJ (qL a b q k).2.1=rJ b:=by
 unfold qL;split
 ·exact⟨ytO _ _ _,ytM _ _⟩
 ·exact⟨rfl,rfl⟩
theorem yuE(a b:Reach)(w:Weir):rJ (iF a b w).1=rJ a/\rJ (iF a b w).2.1=rJ b:=by
 unfold iF;split
 ·exact ysl _ _ _ _
 ·exact⟨rfl,rfl⟩
theorem yeS{α:Type}{t:α->Nat}{l:List α}{k:Nat}{a b:α}(h:l[k]?=some a)(e:t b=t a):yf1 t (l.set k b)=yf1 t l:=by
 obtain⟨hk,rfl⟩:=zab.1 h
 have:(l.set k b).map t=l.map t:=by
  rw[zcq,e];apply zch;intro i;rw[zaI];split
  ·rename_i hi;subst hi;simp[hk]
  ·rfl
 unfold yf1;rw[this,zbB]
theorem ybh{α:Type}{sm:α->Prop}{l:List α}{k:Nat}{b:α}(h:lN sm l)(e:sm b):lN sm (l.set k b):=
 ⟨by simpa using h.1,λx hx=>by
  rcases zaJ hx with hx|hx
  ·exact h.2 x hx
  ·rw[hx];exact e⟩
theorem yfr{q:Int}{rs:List Reach}{ws:List Work}(hr:dJ rs)(hw:qM ws)(hn:ws.length<rs.length):∀k:Nat,k<=ws.length->
 dJ (jE q rs ws k).1/\qM (jE q rs ws k).2/\yhd (jE q rs ws k).1=yhd rs/\yj7 (jE q rs ws k).2=yj7 ws
 |0,_=>⟨hr,hw,rfl,rfl⟩
 | k+1,hk=>by
  obtain⟨a,b,c,d⟩:=yfr (q:=q) hr hw hn k (by omega);obtain⟨l1,l2⟩:=lT (q:=q) (rs:=rs) (ws:=ws) k;simp only[jE];generalize(jE q rs ws k).1=rs' at *;generalize(jE q rs ws k).2=ws' at *;have r1:=ydZ (rs:=rs') (k:=k) (by omega);have r2:=ydZ (rs:=rs') (k:=k+1) (by omega);have w1:=ynu (ws:=ws') (k:=k) (by omega);have t:=yuE (dR rs' k) (dR rs' (k+1)) (iT q rs' ws' k);have s:=yqL (w:=iT q rs' ws' k) (a.2 _ (zac r1)) (a.2 _ (zac r2));refine⟨ybh (ybh a s.1) s.2,ybh b (show Work.small (dW ws' k)from b.2 _ (zac w1)),?_,?_⟩
  ·rw[<-c];have h2:(rs'.set k (through q rs' ws' k).1)[k+1]?=some (dR rs' (k+1)):=by rw[zcT (by omega)];exact r2
   exact(yeS h2 t.2).trans (yeS r1 t.1)
  ·rw[<-d];exact yeS w1 rfl
structure PartLens(x:Waterway):Prop where
 two:2<=x.Reaches.length
 ways:x.Ways.length=x.Reaches.length
 mvs:x.Movers.length=x.Reaches.length
 wks:x.Works.length+1=x.Reaches.length
theorem ydD{x:Waterway}(h:xB x=true):PartLens x:=by
 simp only[xB,zad]at h;obtain⟨⟨⟨⟨⟨⟨⟨h1,h2⟩,h3⟩,h4⟩,h5⟩,h6⟩,h7⟩,h8⟩:=h;simp only[bG,zad,decide_eq_true_eq]at h2;obtain⟨⟨⟨⟨⟨⟨p1,p2⟩,p3⟩,p4⟩,p5⟩,p6⟩,p7⟩:=h2;exact⟨p2,p3,p4,p5⟩
theorem yci{x:Waterway}{q:Int}(h:x.small):(oG x q).small:=by
 unfold oG;split
 ·rename_i hc;simp only[mQ,zad]at hc;have pl:=ydD hc.1;have p1:=pl.wks;have p2:=pl.two;obtain⟨s1,s2,s3,s4,s5,s6,s7,s8,s9⟩:=h;obtain⟨a,b,c,d⟩:=yfr (q:=q) s1 s3 (by omega) _ (Nat.le_refl _);obtain⟨l1,l2⟩:=lT (q:=q) (rs:=x.Reaches) (ws:=x.Works) x.Works.length;exact⟨ybh a (ycY (a.2 _ (zac (ydZ (by have:(stR x q).length=x.Reaches.length:=l1;omega))))),s2,b,s4,s5,s6,s7,s8,s9⟩
 ·exact h
theorem ykB(es:List Work)(hl:es.length<=1048576):pM Tryz.prog 100 [.c (.sl 22 (es.map Work.enc))] (.c (.ow 22 (es.map Work.enc))):=by
 refine mG dS ?_;simp -dsimp -implicitDefEqProofs [qJ,aB];omega
theorem yov(r:Reach)(a k:Int):0<=(eF r a k).2/\(eF r a k).2<=1000000000:=by
 unfold eF;split
 ·rename_i h;simp only[ybv,zad,decide_eq_true_eq]at h;have f:=dQ h.1.1;have hv:=jA.1 (show inRange r.Volume 0 1000000000=true from f.vol);have h2:=h.2;simp only[takeN]
  repeat' split
  all_goals omega
 ·simp
def rZ(rs:List Reach):List (List C):=rs.map Reach.enc
def yc2(ws:List Work):List (List C):=ws.map Work.enc
theorem yg1{rs:List Reach}{k:Nat}{r:Reach}(h:rs[k]?=some r):(rZ rs)[k]?=some r.enc:=by unfold rZ;rw[zaq,h];rfl
theorem ymW{ws:List Work}{k:Nat}{w:Work}(h:ws[k]?=some w):(yc2 ws)[k]?=some w.enc:=by unfold yc2;rw[zaq,h];rfl
theorem yka{rs:List Reach}{k:Nat}{r:Reach}:(rZ rs).set k r.enc=rZ (rs.set k r):=by unfold rZ;rw[zcq]
theorem yrt{ws:List Work}{k:Nat}{w:Work}:(yc2 ws).set k w.enc=yc2 (ws.set k w):=by unfold yc2;rw[zcq]
theorem yG{rs:List Reach}:(rZ rs).length=rs.length:=by simp[rZ]
theorem yaK{ws:List Work}:(yc2 ws).length=ws.length:=by simp[yc2]
theorem ym5{x:Waterway}{q:Int}(h:mQ x q=false):oG x q=x:=by simp[oG,h]
set_option maxRecDepth 20000 in
theorem yuc(x:Waterway)(q:Int)(hl:x.small):lC Tryz.prog 70 [.agg (x.enc.map .c),.c (.i q)] (.agg ((oG x q).enc.map .c)):=by
 have hl0:=hl;obtain⟨s1,s2,s3,s4,s5,s6,s7,s8,s9⟩:=hl;have s11:=s1.1;have s31:=s3.1;refine qB ylN ?_;simp -dsimp -implicitDefEqProofs;refine aA (lH x hl0) ?_;cases h:xB x with
 |false=>simp -dsimp -implicitDefEqProofs;simp[ym5,mQ,h]
 |true=>
 simp -dsimp -implicitDefEqProofs;refine aA (gB q 0 1000000000) ?_;cases hq:inRange q 0 1000000000 with
 |false=>simp -dsimp -implicitDefEqProofs;simp[ym5,mQ,hq]
 |true=>
 have hc:mQ x q=true:=by simp[mQ,h,hq]
 have hw:=tJ h;have pl:=ydD h;have p1:=pl.two;have p2:=pl.ways;have p3:=pl.wks;have e:oG x q=⟨x.Time,(stR x q).set (x.Reaches.length-1) (ygo (stR x q) (stW x q) x.Ways (x.Reaches.length-1)).1,x.Ways,stW x q,x.Movers,x.Arrived,x.Entered,x.Tariff,x.Book,x.Passings,x.Start,x.In,x.Out+(ygo (stR x q) (stW x q) x.Ways (x.Reaches.length-1)).2⟩:=by simp[oG,hc]
 rw[e];simp -dsimp -implicitDefEqProofs;refine kX (ynp x.Reaches s11) (by simp) rfl (by simp[tC]) ?_;simp -dsimp -implicitDefEqProofs;refine kX (ykB x.Works s31) (by simp) rfl (by simp[tC]) ?_;simp -dsimp -implicitDefEqProofs;intro hlen;refine qA (ι:=Nat) (λk=>k<=x.Works.length) (λk=>rD [(1,.c (.i q)),(2,.box 2 0),(4,.box 4 0),(5,.box 5 0),(34,.own 31 22 x.Works.length),(35,.c (.i x.Works.length)),(36,.c (.i k))] [(2,.box (x.enc.map .c)),(4,.box [.c (.i 0),.nil 3,.nil 2,.nil 22,.nil 1,.nil 2,.nil 1,.c (.i 0),.c (.i 0),.nil 1,.nil 1,.nil 5,.nil 4,.c (.i 0),.c (.i 0),.c (.i 0)]),(5,.box [.c (.i x.Time),.own 27 3 x.Reaches.length,.c (.sl 2 (x.Ways.map Way.enc)),.own 31 22 x.Works.length,.c (.sl 1 (x.Movers.map qE)),.c (.sl 2 (x.Arrived.map Train.enc)),.c (.sl 1 (x.Entered.map qC)),.c (.i x.Tariff.Base),.c (.i x.Tariff.PerArea),.c (.sl 1 (x.Tariff.PerClass.map qC)),.c (.sl 1 (x.Tariff.Weights.map qC)),.c (.sl 5 (x.Book.map Entry.enc)),.c (.sl 4 (x.Passings.map Passing.enc)),.c (.i x.Start),.c (.i x.In),.c (.i x.Out)]),(27,.row 3 (rZ (jE q x.Reaches x.Works k).1)),(31,.row 22 (yc2 (jE q x.Reaches x.Works k).2))]) (λk=>x.Works.length-k) 0 (by simp) (by apply dB<;>simp[jE,rZ,yc2,aB]) ?_
 rintro k hk
 obtain⟨l1,l2⟩:=lT (q:=q) (rs:=x.Reaches) (ws:=x.Works) k;obtain⟨a1,a2,_,_⟩:=yfr (q:=q) s1 s3 (by omega) k hk;have hst1:(jE q x.Reaches x.Works (k+1)).1=((jE q x.Reaches x.Works k).1.set k (through q (jE q x.Reaches x.Works k).1 (jE q x.Reaches x.Works k).2 k).1).set (k+1) (through q (jE q x.Reaches x.Works k).1 (jE q x.Reaches x.Works k).2 k).2.1:=rfl;have hst2:(jE q x.Reaches x.Works (k+1)).2=(jE q x.Reaches x.Works k).2.set k (yam (dW (jE q x.Reaches x.Works k).2 k) (iT q (jE q x.Reaches x.Works k).1 (jE q x.Reaches x.Works k).2 k)):=rfl;rcases zah k x.Works.length with klt|kge
 ·obtain⟨rs2,hrs2⟩:∃r,(jE q x.Reaches x.Works (k+1)).1=r:=⟨_,rfl⟩;obtain⟨ws2,hws2⟩:∃r,(jE q x.Reaches x.Works (k+1)).2=r:=⟨_,rfl⟩;rw[hrs2]at hst1;rw[hws2]at hst2;generalize(jE q x.Reaches x.Works k).1=rs at *;generalize(jE q x.Reaches x.Works k).2=ws at *;have r1:=ydZ (rs:=rs) (k:=k) (by omega);have r2:=ydZ (rs:=rs) (k:=k+1) (by omega);have w1:=ynu (ws:=ws) (k:=k) (by omega);have sr1:=a1.2 _ (zac r1);have sr2:=a1.2 _ (zac r2);have sw1:=a2.2 _ (zac w1);have hnw:iT q rs ws k=lM (dW ws k).Weir (dW ws k).Rule (aF (dR rs k)) (aF (dR rs (k+1))) q:=rfl;have hth:through q rs ws k=iF (dR rs k) (dR rs (k+1)) (iT q rs ws k):=rfl;rw[hth]at hst1;have hLT:=ygu (dR rs k) (dR rs (k+1)) (iT q rs ws k) sr1 sr2;generalize iT q rs ws k=nw at *;have ar1:=yg1 r1;have ar2:=yg1 r2;have aw1:=ymW w1;generalize dR rs k=ra at *;generalize dR rs (k+1)=rb at *;generalize dW ws k=wk at *;generalize iF ra rb nw=LT at *;obtain⟨k',hk'⟩:∃k',k'=k+1:=⟨_,rfl⟩;have ek:((k:Int)+1)=(k':Int):=by omega
  rw[<-hk']at ar2 hst1;have sR:∀(rs:List Reach) (j:Nat) (r:Reach),(rZ rs).set j [.sl 2 (r.Table.map Point.enc),.i r.Volume,.sl 1 (r.Pipe.map qC)]=rZ (rs.set j r):=λ_ _ _=>yka;have sW:=yrt (ws:=ws) (k:=k) (w:=yam wk nw);rw[<-hst2]at sW;simp only[Reach.enc]at ar1 ar2;simp only[Work.enc,yam]at aw1 sW;have gr1:=(zab.1 ar1).2;have gr2:=(zab.1 ar2).2;have gw1:=(zab.1 aw1).2;have n1:k<x.Reaches.length:=by omega
  have n2:k'<x.Reaches.length:=by omega
  simp -dsimp -implicitDefEqProofs [yG,yaK,l1,l2,ar1,gr1,ar2,gr2,aw1,gw1,klt,kD klt,n1,n2,ek];refine⟨by unfold inI;omega,?_⟩;refine tH (dN ra) (by simp -dsimp -implicitDefEqProofs) (.inr rfl) ?_;simp -dsimp -implicitDefEqProofs;refine tH (dN rb) (by simp -dsimp -implicitDefEqProofs) (.inr rfl) ?_;simp -dsimp -implicitDefEqProofs;have hSW:=yhZ wk.Weir wk.Rule (aF ra) (aF rb) q;rw[<-hnw]at hSW;refine tH (hSW) (by simp -dsimp -implicitDefEqProofs) (.inr rfl) ?_;simp -dsimp -implicitDefEqProofs [yG,yaK,l1,l2,ar1,gr1,ar2,gr2,aw1,gw1,klt,n1,n2,ek];refine⟨by unfold inI;omega,?_⟩;refine tH (hLT) (by simp -dsimp -implicitDefEqProofs) (.inl rfl) ?_;have hset:((rZ rs).set k [.sl 2 (LT.1.Table.map Point.enc),.i LT.1.Volume,.sl 1 (LT.1.Pipe.map qC)]).set k' [.sl 2 (LT.2.1.Table.map Point.enc),.i LT.2.1.Volume,.sl 1 (LT.2.1.Pipe.map qC)]=rZ rs2:=by rw[sR,sR,hst1]
  have hgs:∀(X:List C) (h),((rZ rs).set k X)[k']'h=[.sl 2 (rb.Table.map Point.enc),.i rb.Volume,.sl 1 (rb.Pipe.map qC)]:=λX h=>by rw[List.getElem_set_ne (by omega)];exact gr2
  simp -dsimp -implicitDefEqProofs [yG,yaK,l1,l2,ar1,gr1,ar2,gr2,aw1,gw1,klt,n1,n2,ek,hset,sW,hgs];refine⟨by unfold inI;omega,k+1,klt,by omega,?_⟩;apply dB<;>simp[hset,sW,hrs2,hws2,ek,hgs]
 ·have hkn:k=x.Works.length:=by omega
  subst hkn;have hR:(jE q x.Reaches x.Works x.Works.length).1=stR x q:=rfl;have hW:(jE q x.Reaches x.Works x.Works.length).2=stW x q:=rfl;rw[hR]at l1 a1;rw[hW]at l2 a2;rw[hR,hW];generalize stR x q=rs at *;generalize stW x q=ws at *;obtain⟨n,hn⟩:∃n,n=x.Reaches.length-1:=⟨_,rfl⟩;have en:((x.Reaches.length:Int)-1)=(n:Int):=by omega
  obtain⟨m,hm⟩:∃m,m=n-1:=⟨_,rfl⟩;have em:((n:Int)-1)=(m:Int):=by omega
  rw[<-hn];have r1:=ydZ (rs:=rs) (k:=n) (by omega);have w1:=ynu (ws:=ws) (k:=m) (by omega);have hy:x.Ways[n]?=some (x.Ways.getD n default):=by rw[zbe,zaa (by omega)];rfl
  have sr1:=a1.2 _ (zac r1);have hT:ygo rs ws x.Ways n=eF (dR rs n) (iJ (dW ws m).Weir (aF (dR rs n)) 0) (iD (dR rs n).Table (x.Ways.getD n default).Bed):=by rw[hm];rfl
  rw[hT];have ar1:=yg1 r1;have aw1:=ymW w1;generalize dR rs n=ra at *;generalize dW ws m=wk at *;generalize x.Ways.getD n default=wy at *;have gy:=(zab.1 hy).2;have sR:∀(rs:List Reach) (j:Nat) (r:Reach),(rZ rs).set j [.sl 2 (r.Table.map Point.enc),.i r.Volume,.sl 1 (r.Pipe.map qC)]=rZ (rs.set j r):=λ_ _ _=>yka;simp only[Reach.enc]at ar1;simp only[Work.enc]at aw1;have gr1:=(zab.1 ar1).2;have gw1:=(zab.1 aw1).2;have n1:n<x.Reaches.length:=by omega
  have n2:m<x.Works.length:=by omega
  have n3:n<x.Ways.length:=by omega
  simp -dsimp -implicitDefEqProofs [yG,yaK,l1,l2,ar1,gr1,aw1,gw1,n1,n2,n3,hy,gy,en,em];intro hlen2;refine⟨by unfold inI;omega,by unfold inI;omega,?_⟩;refine⟨_,_,dN ra,by simp -dsimp -implicitDefEqProofs,.inr rfl,?_⟩;simp -dsimp -implicitDefEqProofs;refine⟨_,_,yat wk.Weir (aF ra) 0,by simp -dsimp -implicitDefEqProofs [aw1,gw1,gr1,n2],.inr rfl,?_⟩;simp -dsimp -implicitDefEqProofs [n3,hy,gy];refine tH (ybu ra.Table wy.Bed) (by simp -dsimp -implicitDefEqProofs) (.inr rfl) ?_;simp -dsimp -implicitDefEqProofs;have hP:=yc1 ra (iJ wk.Weir (aF ra) 0) (iD ra.Table wy.Bed) sr1;have hto:=yov ra (iJ wk.Weir (aF ra) 0) (iD ra.Table wy.Bed);refine tH (hP) (by simp -dsimp -implicitDefEqProofs) (.inl rfl) ?_;generalize eF ra (iJ wk.Weir (aF ra) 0) (iD ra.Table wy.Bed)=z at *;have w5:=hw.out;simp -dsimp -implicitDefEqProofs [yG,l1,n1,gr1,ar1,sR];refine⟨by unfold inI;omega,?_,(zaf (by show(yc2 ws).length<=_;rw[yaK];omega)).symm⟩;rw[zaf (by rw[yG,zbB];omega)];exact sR rs n z.1
theorem ytN(es:List Train):lC Tryz.prog 101 [.c (.sl 2 (es.map Train.enc))] (.clip 2 (es.map Train.enc)):=by
 refine qB gQ ?_;simp -dsimp -implicitDefEqProofs [kJ,aB]
theorem yh8:∀{ms:List (List Mover)},(∀l∈ms,l=[])->ms.map qE=List.replicate ms.length [C.sl 3 []]
 |[],_=>rfl
 |l::ms,h=>by
  rw[zaD,yh8 (ms:=ms) λl hl=>h l (by simp[hl]),h l (by simp),zaC,zbn];rfl
def yeI(x:Waterway):List AV:=[.c (.i x.Time),.c (.sl 3 (x.Reaches.map Reach.enc)),.c (.sl 2 (x.Ways.map Way.enc)),.own 18 22 x.Works.length,.own 23 1 x.Movers.length,.clip 2 (x.Arrived.map Train.enc),.c (.sl 1 (x.Entered.map qC)),.c (.i x.Tariff.Base),.c (.i x.Tariff.PerArea),.c (.sl 1 (x.Tariff.PerClass.map qC)),.c (.sl 1 (x.Tariff.Weights.map qC)),.c (.sl 5 (x.Book.map Entry.enc)),.c (.sl 4 (x.Passings.map Passing.enc)),.c (.i x.Start),.c (.i x.In),.c (.i x.Out)]
set_option maxHeartbeats 4000000 in
set_option maxRecDepth 40000 in
theorem yvf(x:Waterway)(hs:x.small)(hi:Idle x):lC Tryz.prog 69 [.agg (x.enc.map .c)] (.agg (x.enc.map .c)):=by
 have hW:=lH x hs;have s41:=hs.2.2.2.1.1;have s31:=hs.2.2.1.1;have hM:=yh8 hi.mv;refine qB ynB ?_;simp -dsimp -implicitDefEqProofs;refine mF (hW) (by simp -dsimp -implicitDefEqProofs) rfl ?_;cases hok:xB x with
 |false=>simp -dsimp -implicitDefEqProofs
 |true=>
 have pl:=ydD hok;have f1:=pl.two;have f2:=hs.1.1;simp -dsimp -implicitDefEqProofs;refine kX (ykB x.Works s31) (by simp) rfl (by simp[tC]) ?_;simp -dsimp -implicitDefEqProofs [aB]
 refineλhlen=>⟨by omega,ylJ ?_⟩
 simp -dsimp -implicitDefEqProofs;refine nI (ytN x.Arrived) (by simp -dsimp -implicitDefEqProofs) rfl ?_;simp -dsimp -implicitDefEqProofs
 refineλhlen2=>⟨by unfold inI;omega,λhlen3=>?_⟩
 refine qA (ι:=Nat) (λk=>k<=x.Movers.length) (λk=>rD [(1,.box 1 0),(2,.box 2 0),(3,.box 3 0),(4,.c (.i ((x.Reaches.length:Int)-1))),(34,.c (.sl 1 (x.Movers.map qE))),(35,.c (.i x.Movers.length)),(36,.c (.i k))] [(1,.box (x.enc.map .c)),(2,.box [.c (.i 0),.nil 3,.nil 2,.nil 22,.nil 1,.nil 2,.nil 1,.c (.i 0),.c (.i 0),.nil 1,.nil 1,.nil 5,.nil 4,.c (.i 0),.c (.i 0),.c (.i 0)]),(3,.box (yeI x)),(18,.row 22 (x.Works.map Work.enc)),(23,.row 1 (List.replicate x.Movers.length [.sl 3 []]))]) (λk=>x.Movers.length-k) 0 (by simp) (by apply dB<;>simp[yeI]) ?_
 rintro k hk
 rcases zah k x.Movers.length with klt|kge
 ·obtain⟨ms,hms⟩:∃ms,x.Movers[k]?=some ms:=⟨_,zaa klt⟩;have gms:=(zab.1 hms).2;obtain rfl:ms=[]:=hi.mv ms (zac hms);simp -dsimp -implicitDefEqProofs [hms,gms,klt,kD klt];refine qA (ι:=Unit) (λ_=>True) (λ_=>rD [(1,.box 1 0),(2,.box 2 0),(3,.box 3 0),(4,.c (.i ((x.Reaches.length:Int)-1))),(34,.c (.sl 1 (x.Movers.map qE))),(35,.c (.i x.Movers.length)),(36,.c (.i k)),(5,.c (.i k)),(41,.c (.sl 3 [])),(42,.c (.i 0)),(43,.c (.i 0))] [(1,.box (x.enc.map .c)),(2,.box [.c (.i 0),.nil 3,.nil 2,.nil 22,.nil 1,.nil 2,.nil 1,.c (.i 0),.c (.i 0),.nil 1,.nil 1,.nil 5,.nil 4,.c (.i 0),.c (.i 0),.c (.i 0)]),(3,.box (yeI x)),(18,.row 22 (x.Works.map Work.enc)),(23,.row 1 (List.replicate x.Movers.length [.sl 3 []]))]) (λ_=>0) () trivial (by apply dB<;>simp[yeI]) ?_
  rintro _ _
  simp -dsimp -implicitDefEqProofs;refine⟨aC klt hlen3,k+1,klt,by omega,?_⟩;apply dB<;>simp[yeI]
 ·have hV:=hW;simp only[Waterway.enc,hM]at hV;simp -dsimp -implicitDefEqProofs [eH kge,yeI];refine mF (hV) (by simp -dsimp -implicitDefEqProofs [aB]) rfl ?_;simp -dsimp -implicitDefEqProofs [hok,hM,aB]
end Go.Proofs.YtpiplmnecmkafaaGreat
