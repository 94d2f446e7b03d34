/- What the law FnOnlyWater stands on: the machine, in short form (names, layout). -/
import Derived.Test.YtpiplmnecmkafaaGreatSOnlyWaterA7
set_option linter.all false
namespace Go.Proofs.YtpiplmnecmkafaaGreat
open Go.RowKit
def AV.yuP(ids:List Nat)(x:AV):Bool:=x.iG.all λi=>ids.contains i
def AV.frz(ids:List Nat):AV->Bool
 | .agg l| .fn _ l=>l.all (AV.yuP ids)
 | .box _ _=>false
 |x=>x.yuP ids
section
variable {g:Ghost} {s:St} {a:Act} {w:World} {blk:Lay} {v:Value} {x y:AV}
theorem yk6{ids:List Nat}{id:Nat}(h:x.yuP ids=true)(hi:id∈x.iG):id∈ids:=by
 have:=zae.1 h id hi;simpa using this
theorem ym2(h:Repr g s a w blk){G':Nat->Prop}{ids:List Nat}(hG:∀b,Good g s.objs blk w b->G' b)(hF:∀id,id∈ids->s.objs id≠.none->∀b,blk.fp id b->G' b)(hf:x.frz ids=true)(hx:RVs g s w blk v x)(ho:iO s x y):RV w G' noO noB v y:=by
 refine ybb ?_;unfold iO at ho;split at ho
 ·rename_i l;split at ho
  ·rename_i l';obtain⟨arr,e,hs,hl⟩:=hx;obtain⟨h1,h2⟩:=dV ho;refine⟨arr,e,by omega,λj z hj=>?_⟩;obtain⟨x,hx,hxy⟩:=h2 j z hj;obtain⟨u,hu,hru⟩:=hl j x hx;exact⟨u,hu,yd2 h hG (λid hid=>hF id (yk6 (zae.1 hf x (zac hx)) hid)) hru hxy⟩
  ·exact ho.elim
 ·rename_i f l;split at ho
  ·rename_i f' l';obtain⟨rfl,ho⟩:=ho;obtain⟨arr,e,hs,hl⟩:=hx;obtain⟨h1,h2⟩:=dV ho;refine⟨arr,e,by omega,λj z hj=>?_⟩;obtain⟨x,hx,hxy⟩:=h2 j z hj;obtain⟨u,hu,hru⟩:=hl j x hx;exact⟨u,hu,yd2 h hG (λid hid=>hF id (yk6 (zae.1 hf x (zac hx)) hid)) hru hxy⟩
  ·exact ho.elim
 ·cases hf
 ·have hf1:x.yuP ids=true:=by
   cases x<;>first|exact hf|(rename_i h1 h2 h3;exact(h1 _ rfl).elim)|(rename_i h1 h2 h3;exact(h2 _ _ rfl).elim)|(rename_i h1 h2 h3;exact(h3 _ _ rfl).elim)
  refine ykN (yd2 h hG (λid hid=>hF id (yk6 hf1 hid)) ?_ ho);cases x<;>first|exact hx|exact ho.elim|(rename_i h1 h2 h3;exact(h1 _ rfl).elim)|(rename_i h1 h2 h3;exact(h2 _ _ rfl).elim)
theorem Repr.drops(h:Repr g s a w blk)(ids:List Nat):Repr g (s.drops ids) a w blk/\(∀b,Good g s.objs blk w b->Good g (s.drops ids).objs blk w b)/\(∀id,id∈ids->s.objs id≠.none->∀b,blk.fp id b->Good g (s.drops ids).objs blk w b):=by
 have e:(⟨λt=>(s.env t).kills ids,(s.drops ids).objs⟩:St)=s.drops ids:=by
  have:(λt=>(s.env t).kills ids)=(s.drops ids).env:=funext λt=>(St.yaQ ids s t).symm;rw[this]
 have live:∀i,(s.drops ids).objs i≠.none->i∉ids/\s.objs i≠.none:=by
  intro i hi;rw[St.dO]at hi
  by_cases hm:i∈ids
  ·rw[if_pos hm]at hi;exact absurd rfl hi
  ·rw[if_neg hm]at hi;exact⟨hm,(Obj.qP ids _).1 hi⟩
 obtain⟨k1,k2,_⟩:=h.yfR ids (λ_=>False) (objs':=(s.drops ids).objs) (w':=w) (L':=blk) (X:=noF) (Off.refl _ _) (λq hq=>hq.elim) (λi _=>⟨St.dO ids s i,rfl,rfl⟩)
  (λ_ _ h=>h.elim) (λ_ _ _ h=>h.elim) (λ_ _ h=>h.elim) (λ_ h=>h.elim) (λ_ _ _ _ h=>h.elim) (λ_ _ _ _ _ h=>h.elim)
 rw[e]at k1;refine⟨k1,k2.good,λid hid hl b hb=>?_⟩;obtain⟨n1,n2⟩:=h.new id b hl hb;refine⟨?_,λi hi hf=>?_⟩
 ·rcases n1 with n1|n1
  ·exact .inl (.inr n1)
  ·exact .inr ⟨n1,n2⟩
 ·obtain⟨q1,q2⟩:=live i hi;have:=h.inj i id b q2 hl hf hb;subst this;exact q1 hid
end
section
variable {P:Program} {f:Nat} {s:St} {d:Option Nat} {avs args:List AV} {res:AV} {K:St->Prop}
theorem ymZ(ids:List Nat)(hp:lC P f args res)(ho:sJ s avs args)(hf:(avs.all (AV.frz ids))=true)(hK:K ((s.drops ids).put d res)):gW P f avs d s K:=by
 intro g a w blk h hd vs hvs hv;obtain⟨h1,h2⟩:=qQ ho;obtain⟨k1,k2,k3⟩:=h.drops ids;refine(hp w (Good g (s.drops ids).objs blk w) (λb hb=>aW k1 hb) vs (by omega) (λj y hj=>?_)).mono ?_
 ·obtain⟨x,hx,hxy⟩:=h2 j y hj;obtain⟨u,hu,hru⟩:=hv j x hx;exact⟨u,hu,ym2 h k2 k3 (zae.1 hf x (zac hx)) hru hxy⟩
 ·rintro e w' ⟨v,rfl,hb,hr⟩
  have h':=k1.call hb;refine⟨v,rfl,_,blk,hK,h'.put hd (ya5 (λb hb'=>?_) hr)⟩;rcases hb' with hg|⟨e1,e2⟩
  ·refine⟨?_,hg.2⟩;rcases hg.1 with e|e
   ·exact .inl e
   ·exact .inr ⟨e.1,by have:=hb.size;omega⟩
  ·refine⟨.inr ⟨by have:=k1.below.size;omega,e2⟩,λid hid e=>?_⟩;have:=(k1.new id b hid e).2;omega
theorem yqq{d:Nat}(ids:List Nat)(hp:pM P f args res)(ho:sJ s avs args)(hf:(avs.all (AV.frz ids))=true)(hfr:tC (s.drops ids) (res.lG d))(hK:K ((s.drops ids).take d res)):gW P f avs (some d) s K:=by
 intro g a w blk h hd vs hvs hv;obtain⟨h1,h2⟩:=qQ ho;obtain⟨k1,k2,k3⟩:=h.drops ids;refine(hp w (Good g (s.drops ids).objs blk w) (λb hb=>aW k1 hb) vs (by omega) (λj y hj=>?_)).mono ?_
 ·obtain⟨x,hx,hxy⟩:=h2 j y hj;obtain⟨u,hu,hru⟩:=hv j x hx;exact⟨u,hu,ym2 h k2 k3 (zae.1 hf x (zac hx)) hru hxy⟩
 ·rintro e w' ⟨v,F,rfl,hb,hF,hr⟩
  obtain⟨L',q1,q2⟩:=k1.got hb hF (λb hb=>hb) hr hfr;exact⟨v,rfl,_,L',hK,q1.put hd q2⟩
end
end Go.Proofs.YtpiplmnecmkafaaGreat
