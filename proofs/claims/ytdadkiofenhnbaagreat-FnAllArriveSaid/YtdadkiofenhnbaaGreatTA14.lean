/- The machine of the proof: an abstract run of the code, proved sound. -/
import Derived.Test.YtdadkiofenhnbaaGreatTA4
set_option linter.all false
namespace Go.Proofs.YtdadkiofenhnbaaGreat
open Go.RowKit
def yas(i j x:Nat):Nat:=if x=i then j else if x=j then i else x
def yoG(i j x:Nat):yas i j (yas i j x)=x:=by
 unfold yas
 repeat' split
 all_goals omega
def AV.ytG(σ:Nat->Nat):AV->AV
 | .box id o=>.box (σ id) o
 | .row id k n o=>.row (σ id) k n o
 | .own id k n=>.own (σ id) k n
 | .sub id v i j k n=>.sub (σ id) v i j k n
 | .yak id v i j k i' o=>.yak (σ id) v i j k i' o
 | .cut id k lo n=>.cut (σ id) k lo n
 | .mpr id=>.mpr (σ id)
 |x=>x
def AV.yzO(σ:Nat->Nat):AV->AV
 | .agg l=>.agg (l.map (AV.ytG σ))
 | .fn f l=>.fn f (l.map (AV.ytG σ))
 |x=>x.ytG σ
def AV.ren(σ:Nat->Nat):AV->AV
 | .tup l=>.tup (l.map (AV.yzO σ))
 |x=>x.yzO σ
def Obj.ren(σ:Nat->Nat):Obj->Obj
 | .box l=>.box (l.map (AV.ytG σ))
 |o=>o
def St.ren(i j:Nat)(s:St):St:=⟨λt=>(s.env t).ren (yas i j),λid=>(s.yRU (yas i j id)).ren (yas i j)⟩
section
variable {w:World} {G G':Nat->Prop} {O O':Nat->Obj} {bl bl':Nat->Option Nat} {σ:Nat->Nat} {v:Value} {x:AV}
def Obj.yFB{o:Obj}:o.ren σ≠.none↔o≠.none:=by cases o<;>simp[Obj.ren]
def Obj.ysU{o:Obj}:(o.ren σ).nO=o.nO:=by cases o<;>rfl
def RV1.ren(hG:∀b,G b->G' b)(hO:∀id,O' (σ id)=(O id).ren σ)(hb:∀id,bl' (σ id)=bl id)(h:RV1 w G O bl v x):RV1 w G' O' bl' v (x.ytG σ):=by
 cases x with
 |any=>trivial
 |und=>exact h
 |c x=>exact Rd.mono h hG (λ_ _ _ h=>h)
 |nil k=>exact h
 |clip k rows=>obtain⟨a,n,e,hr⟩:=h;exact⟨a,n,e,hr.mono hG (λ_ _ _ h=>h)⟩
 |box id off=>obtain⟨b,cells,ho,h1,h2⟩:=h;exact⟨b,cells.map (AV.ytG σ),by rw[hO,ho];rfl,by rw[hb];exact h1,h2⟩
 |gl b o=>exact⟨hG _ h.1,h.2⟩
 |mpr id=>obtain⟨b,kvs,ho,h1,h2⟩:=h;exact⟨b,kvs,by rw[hO,ho];rfl,by rw[hb];exact h1,h2⟩
 |row id k i off=>obtain⟨b,m,ho,h1,h2⟩:=h;exact⟨b,m,by rw[hO,Obj.ysU];exact ho,by rw[hb];exact h1,h2⟩
 |elt cs=>
  obtain⟨ad,e,hc⟩:=h;exact⟨ad,e,λj c hj=>let⟨hg,u,hu,hr⟩:=hc j c hj;⟨hG _ hg,u,hu,hr.mono hG (λ_ _ _ h=>h)⟩⟩
 |own id k n=>obtain⟨m,ho,r⟩:=h;exact⟨m,by rw[hO,Obj.ysU];exact ho,by rw[hb];exact r⟩
 |cut id k lo n=>obtain⟨m,A,c,ho,r⟩:=h;exact⟨m,A,c,by rw[hO,Obj.ysU];exact ho,by rw[hb];exact r⟩
 |sub id ver i j k n=>obtain⟨k0,ver',rows,ho,r1,r2⟩:=h;exact⟨k0,ver',rows,by rw[hO,ho];rfl,r1,by rw[hb];exact r2⟩
 |yak id ver i j k i' off=>obtain⟨k0,ver',rows,ho,r1,r2⟩:=h;exact⟨k0,ver',rows,by rw[hO,ho];rfl,r1,by rw[hb];exact r2⟩
 |agg l=>exact h
 |tup l=>exact h
 |fn f l=>exact h
def RV1.renL(hG:∀b,G b->G' b)(hO:∀id,O' (σ id)=(O id).ren σ)(hb:∀id,bl' (σ id)=bl id){l:List AV}{arr:Array Value}
 (h:∀(j:Nat) (x:AV),l[j]?=some x->∃u:Value,arr[j]?=some u/\RV1 w G O bl u x):∀(j:Nat) (x:AV),(l.map (AV.ytG σ))[j]?=some x->∃u:Value,arr[j]?=some u/\RV1 w G' O' bl' u x:=by
 intro j y hj;rw[zau]at hj;cases hx:l[j]? with
 |none=>rw[hx]at hj;cases hj
 |some x=>
  rw[hx]at hj;cases hj;obtain⟨u,hu,hr⟩:=h j x hx;exact⟨u,hu,hr.ren hG hO hb⟩
def RV2.ren(hG:∀b,G b->G' b)(hO:∀id,O' (σ id)=(O id).ren σ)(hb:∀id,bl' (σ id)=bl id)(h:RV2 w G O bl v x):RV2 w G' O' bl' v (x.yzO σ):=by
 cases x
 case agg l=>obtain⟨arr,e,hs,hx⟩:=h;exact⟨arr,e,by rw[zal];exact hs,RV1.renL hG hO hb hx⟩
 case fn f l=>obtain⟨arr,e,hs,hx⟩:=h;exact⟨arr,e,by rw[zal];exact hs,RV1.renL hG hO hb hx⟩
 all_goals(simp only[RV2,AV.yzO]at h|-;first|exact RV1.ren hG hO hb h|exact h.elim)
def RV.ren(hG:∀b,G b->G' b)(hO:∀id,O' (σ id)=(O id).ren σ)(hb:∀id,bl' (σ id)=bl id)(h:RV w G O bl v x):RV w G' O' bl' v (x.ren σ):=by
 cases x
 case tup l=>
  obtain⟨arr,e,hs,hx⟩:=h;refine⟨arr,e,by rw[zal];exact hs,λj y hj=>?_⟩;rw[zau]at hj;cases hq:l[j]? with
  |none=>rw[hq]at hj;cases hj
  |some x=>
   rw[hq]at hj;cases hj;obtain⟨u,hu,hr⟩:=hx j x hq;exact⟨u,hu,hr.ren hG hO hb⟩
 all_goals(simp only[RV,AV.ren]at h|-;exact RV2.ren hG hO hb h)
end
@[simp] def ren_env{i j t:Nat}{s:St}:(s.ren i j).env t=(s.env t).ren (yas i j):=rfl
@[simp] def ren_ob{i j t:Nat}{s:St}:(s.ren i j).ob t=(s.ob (yas i j t)).ren (yas i j):=rfl
def yyv(i j:Nat){s s':St}(h:(s.ren i j).le s'):s.le s':=by
 intro g a w blk hr
 let L':Lay:=⟨λid=>blk.root (yas i j id),λid=>blk.sub (yas i j id)⟩
 have hO:∀id,(s.ren i j).yRU (yas i j id)=(s.yRU id).ren (yas i j):=λid=>by
  show(s.yRU (yas i j (yas i j id))).ren _=_
  rw[yoG]
 have hb:∀id,L'.root (yas i j id)=blk.root id:=λid=>by
  show blk.root (yas i j (yas i j id))=_
  rw[yoG]
 have hlv:∀id,(s.ren i j).yRU id≠.none->s.yRU (yas i j id)≠.none:=λid h=>Obj.yFB.1 h;have hG:∀b,Good g s.yRU blk w b->Good g (s.ren i j).yRU L' w b:=λb hg=>⟨hg.1,λid hid hf=>hg.2 (yas i j id) (hlv id hid) hf⟩;refine h g a w L' ⟨hr.size,hr.small,hr.defers,hr.below,hr.g0,hr.f0,hr.g0f,λt=>(hr.env t).ren hG hO hb,λid=>?_,λid b hid hf=>hr.new _ b (hlv id hid) hf,λi1 j1 b hi hj h1 h2=>?_,λid b hid=>hr.apart _ b (hlv id hid)⟩
 .have:=hr.yRU (yas i j id)
  show jU w _ _ _ (blk.sub (yas i j id)) (blk.root (yas i j id)) ((s.yRU (yas i j id)).ren _)
  cases ho:s.yRU (yas i j id)with
  |none=>trivial
  |mp kvs=>rw[ho]at this;exact this
  |box cells=>
   rw[ho]at this;obtain⟨b,arr,e,h1,h2,h3,h4⟩:=this;exact⟨b,arr,e,h1,h2,by rw[zal];exact h3,RV1.renL hG hO hb h4⟩
  |row k rows=>
   rw[ho]at this;rcases this with h1|⟨b,arr,e,h1,h2,h3,h4,h5⟩
   .exact .inl h1
   .exact .inr ⟨b,arr,e,h1,h2,h3,h4,λi r j c hr hc=>let⟨u,hu,hru⟩:=h5 i r j c hr hc;⟨u,hu,hru.mono hG (λ_ _ _ h=>h)⟩⟩
  |tr k v rows=>
   rw[ho]at this;rcases this with h1|⟨b,arr,e,h1,h2,h3,h4,h5⟩
   .exact .inl h1
   .exact .inr ⟨b,arr,e,h1,h2,h3,h4,h5.mono hG (λ_ _ _ h=>h) (λ_ h=>h) (λ_ _=>rfl)⟩
 .have:=hr.inj _ _ b (hlv _ hi) (hlv _ hj) h1 h2;have:=congrArg (yas i j) this
  rwa [yoG,yoG]at this
end Go.Proofs.YtdadkiofenhnbaaGreat
