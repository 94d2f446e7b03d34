/- The machine of the proof: an abstract run of the code, proved sound. -/
import Derived.Test.YtdadkiofenhnbaaGreatTA7
set_option linter.all false
namespace Go.Proofs.YtdadkiofenhnbaaGreat
open Go.RowKit
def lnt1(s:St)(ids:List Nat)(x y:AV):Prop:=(x.yoa=true/\out1 s x y)\/∃id cs,x=.box id 0/\y=.elt cs/\s.ob id=.box (cs.map .c)/\id∉ids
def yDc(s:St)(ids:List Nat):List AV->List AV->Prop
 |[],[]=>True
 |x::l,y::l'=>lnt1 s ids x y/\yDc s ids l l'
 |_,_=>False
def lnt(s:St)(ids:List Nat)(x y:AV):Prop:=(x.nU=true/\nZ s x y)\/∃f l l',x=.fn f l/\y=.fn f l'/\yDc s ids l l'
def lnts(s:St)(ids:List Nat):List AV->List AV->Prop
 |[],[]=>True
 |x::l,y::l'=>lnt s ids x y/\lnts s ids l l'
 |_,_=>False
def yxm{s:St}{ids:List Nat}:∀{l l':List AV},yDc s ids l l'->l'.length=l.length/\∀(j:Nat) (y:AV),l'[j]?=some y->∃x,l[j]?=some x/\lnt1 s ids x y
 |[],[],_=>⟨rfl,λj y hj=>by simp at hj⟩
 |x::l,y::l',h=>by
  obtain⟨h1,h2⟩:=yxm h.2;refine⟨by simp[h1],λj z hj=>?_⟩;cases j with
  |zero=>simp at hj;subst hj;exact⟨x,rfl,h.1⟩
  |succ j=>exact h2 j z (by simpa using hj)
def yAU{s:St}{ids:List Nat}:∀{l l':List AV},lnts s ids l l'->l'.length=l.length/\∀(j:Nat) (y:AV),l'[j]?=some y->∃x,l[j]?=some x/\lnt s ids x y
 |[],[],_=>⟨rfl,λj y hj=>by simp at hj⟩
 |x::l,y::l',h=>by
  obtain⟨h1,h2⟩:=yAU h.2;refine⟨by simp[h1],λj z hj=>?_⟩;cases j with
  |zero=>simp at hj;subst hj;exact⟨x,rfl,h.1⟩
  |succ j=>exact h2 j z (by simpa using hj)
section
variable {P:Program} {f:Nat} {s:St} {d:Option Nat} {avs args:List AV} {res:AV} {K:St->Prop}
def yw0{x0:AV}{c c':C}{up:Option (Nat×Obj)}(hp:InF P f (.c c) (.c c') args res)(ho:lnts s (kQ [up]) avs args)(hc:c'.closed)(hs:res.scalar=true)
 (hio:ioC s x0 c c' up) (hK:K ((s.turned [up]).put d res)):yat P f (x0::avs) d s K:=by
 have hck:x0.lH=true:=by
  cases x0<;>first
   |rfl
   |(obtain⟨_,hp,_⟩:=hio;exact hp.elim)
 intro g a w blk h hd vs hvs hv;obtain⟨h1,h2⟩:=yAU ho;obtain⟨v0,hv0,hr0⟩:=hv 0 x0 rfl;have hr1:RV1 w (Good g s.yRU blk w) s.yRU blk v0 x0:=RVs.one1 (g:=g) hr0 hck
 obtain⟨⟨Fs,a1,a2,a3⟩,a4⟩:=h.handed (l:=[x0]) (us:=[v0]) (cs:=[c]) (cs':=[c']) (ups:=[up]) ⟨hio,trivial⟩ (by cases up<;>simp[kQ]) (λj x hj=>by
  cases j with
  |zero=>simp at hj;subst hj;exact⟨v0,rfl,hr1⟩
  |succ j=>simp at hj)
 have gG:∀b,Good g s.yRU blk w b->All g w b/\¬given s blk (kQ [up]) b:=λb hb=>⟨yAR b hb,λhx=>by
  obtain⟨id,_,h2,h3⟩:=ybx hx;exact hb.2 id h2 h3⟩
 obtain⟨u0,hu0,ho0⟩:=a1 0 c rfl;simp at hu0;subst hu0
 refine(hp w (λb=>All g w b/\¬given s blk (kQ [up]) b) (given s blk (kQ [up])) (λb hb=>yBS h hb.1) (λb hb=>yAf h hb) (λb hb hx=>hb.2 hx) vs v0 (by simp at hvs;omega) hv0
  (OT.mono ho0 gG (λ_ _ _ h=>h) (λb hb=>a2 0 b hb) (λ_ _=>rfl)) (λj y hj=>?_)).mono ?_
 .obtain⟨x,hx,hxy⟩:=h2 j y hj;obtain⟨u,hu,hru⟩:=hv (j+1) x (by simpa using hx);refine⟨u,hu,?_⟩;rcases hxy with⟨hd,hxy⟩|⟨f',l,l',rfl,rfl,hll⟩
  .exact ykY gG hru hd hxy
  .obtain⟨arr,e,hsz,hl⟩:=hru;obtain⟨n1,n2⟩:=yxm hll;refine⟨arr,e,by omega,λj z hj=>?_⟩;obtain⟨x,hx,hxy⟩:=n2 j z hj;obtain⟨u,hu,hru⟩:=hl j x hx;refine⟨u,hu,?_⟩;rcases hxy with⟨hd,hxy⟩|⟨id,cs,rfl,rfl,hO,hid⟩
   .have:=yz5 (O':=noO) (bl':=noB) gG hd hru;cases x<;>simp[AV.yoa]at hd
    .cases hxy;exact this
    .rcases hxy with⟨k,rfl⟩|⟨k,rfl⟩
     .cases hru;exact yjq
     .exact this
    .rcases hxy with rfl|rfl
     .obtain⟨_,_,_,hr⟩:=this;exact hr
     .exact this
    .cases hxy;exact this
   .obtain⟨b,cells',hO',hb,rfl⟩:=hru;obtain⟨arr',e',r1,r2,r3⟩:=h.box hO hb;have hlive:s.yRU id≠.none:=by rw[show s.yRU id=_ from hO];simp
    refine⟨_,rfl,λj c hj=>?_⟩;obtain⟨u,hu,hru⟩:=r3 j (.c c) (by simp[hj]);refine⟨⟨yBU h hlive (.inl hb),λhx=>?_⟩,u,by rw[add_lit,cell_of w r1];simpa using hu,Rd.mono hru gG (λ_ _ _ h=>h)⟩;obtain⟨id',m1,m2,m3⟩:=ybx hx;have:=h.inj id' id _ m2 hlive m3 (.inl hb);exact hid (this▸m1)
 .rintro e w' ⟨v,F',rfl,hoff,hF',hx',hr⟩
  obtain⟨L',hL⟩:=a4 (Fs':=λj b=>j=0/\F' b) hoff hF' (λj z hj=>by
   cases j with
   |zero=>
    simp at hj;subst hj;exact⟨v0,rfl,OT.mono (OT.closed hx' hc) (λ_ h=>h) (λ_ _ _ h=>h) (λ_ h=>⟨rfl,h⟩) (λ_ _=>rfl)⟩
   |succ j=>simp at hj) (λj b hb=>hb.2) (λj j' b hb hb'=>hb.1.trans hb'.1.symm)
  exact⟨v,rfl,_,L',hK,hL.put hd (ybN hs hr)⟩
end
def yjt{s:St}{ids:List Nat}{id:Nat}{cs:List C}(h:s.ob id=.box (cs.map .c))(h2:id∉ids):lnt1 s ids (.box id 0) (.elt cs):=.inr ⟨id,cs,rfl,rfl,h,h2⟩
def yHw{s:St}{ids:List Nat}{f:Nat}{l l':List AV}(h:yDc s ids l l'):lnt s ids (.fn f l) (.fn f l'):=.inr ⟨f,l,l',rfl,rfl,h⟩
end Go.Proofs.YtdadkiofenhnbaaGreat
