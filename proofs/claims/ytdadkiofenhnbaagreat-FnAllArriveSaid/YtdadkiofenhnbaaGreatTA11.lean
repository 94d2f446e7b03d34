/- The machine of the proof: an abstract run of the code, proved sound. -/
import Derived.Test.YtdadkiofenhnbaaGreatTA7
set_option linter.all false
namespace Go.Proofs.YtdadkiofenhnbaaGreat
open Go.RowKit
def AV.yHT(ids:List Nat)(x:AV):Bool:=x.tJ.all λi=>ids.contains i
def AV.frz(ids:List Nat):AV->Bool
 | .agg l| .fn _ l=>l.all (AV.yHT ids)
 | .box _ _=>false
 |x=>x.yHT ids
section
variable {g:ySm} {s:St} {a:Act} {w:World} {blk:Lay} {v:Value} {x y:AV}
def yzn{ids:List Nat}{id:Nat}(h:x.yHT ids=true)(hi:id∈x.tJ):id∈ids:=by
 have:=zaf.1 h id hi;simpa using this
def yG4(h:Repr g s a w blk){G':Nat->Prop}{ids:List Nat}(hG:∀b,Good g s.yRU blk w b->G' b)(hF:∀id,id∈ids->s.yRU id≠.none->∀b,blk.fp id b->G' b)(hf:x.frz ids=true)(hx:RVs g s w blk v x)(ho:nZ s x y):RV w G' noO noB v y:=by
 refine yhR ?_;unfold nZ at ho;split at ho
 .rename_i l;split at ho
  .rename_i l';obtain⟨arr,e,hs,hl⟩:=hx;obtain⟨h1,h2⟩:=yaZ ho;refine⟨arr,e,by omega,λj z hj=>?_⟩;obtain⟨x,hx,hxy⟩:=h2 j z hj;obtain⟨u,hu,hru⟩:=hl j x hx;exact⟨u,hu,yi6 h hG (λid hid=>hF id (yzn (zaf.1 hf x (zac hx)) hid)) hru hxy⟩
  .exact ho.elim
 .rename_i f l;split at ho
  .rename_i f' l';obtain⟨rfl,ho⟩:=ho;obtain⟨arr,e,hs,hl⟩:=hx;obtain⟨h1,h2⟩:=yaZ ho;refine⟨arr,e,by omega,λj z hj=>?_⟩;obtain⟨x,hx,hxy⟩:=h2 j z hj;obtain⟨u,hu,hru⟩:=hl j x hx;exact⟨u,hu,yi6 h hG (λid hid=>hF id (yzn (zaf.1 hf x (zac hx)) hid)) hru hxy⟩
  .exact ho.elim
 .cases hf
 .have hf1:x.yHT ids=true:=by
   cases x<;>first|exact hf|(rename_i h1 h2 h3;exact(h1 _ rfl).elim)|(rename_i h1 h2 h3;exact(h2 _ _ rfl).elim)|(rename_i h1 h2 h3;exact(h3 _ _ rfl).elim)
  refine yxS (yi6 h hG (λid hid=>hF id (yzn hf1 hid)) ?_ ho);cases x<;>first|exact hx|exact ho.elim|(rename_i h1 h2 h3;exact(h1 _ rfl).elim)|(rename_i h1 h2 h3;exact(h2 _ _ rfl).elim)
def Repr.drops(h:Repr g s a w blk)(ids:List Nat):Repr g (s.drops ids) a w blk/\(∀b,Good g s.yRU blk w b->Good g (s.drops ids).yRU blk w b)/\(∀id,id∈ids->s.yRU id≠.none->∀b,blk.fp id b->Good g (s.drops ids).yRU blk w b):=by
 have e:(⟨λt=>(s.env t).kills ids,(s.drops ids).yRU⟩:St)=s.drops ids:=by
  have:(λt=>(s.env t).kills ids)=(s.drops ids).env:=funext λt=>(St.ydJ ids s t).symm;rw[this]
 have live:∀i,(s.drops ids).yRU i≠.none->i∉ids/\s.yRU i≠.none:=by
  intro i hi;rw[St.pV]at hi
  by_cases hm:i∈ids
  .rw[if_pos hm]at hi;exact absurd rfl hi
  .rw[if_neg hm]at hi;exact⟨hm,(Obj.lY ids _).1 hi⟩
 obtain⟨k1,k2,_⟩:=h.yq6 ids (λ_=>False) (objs':=(s.drops ids).yRU) (w':=w) (L':=blk) (X:=noF) (Off.refl _ _) (λq hq=>hq.elim) (λi _=>⟨St.pV ids s i,rfl,rfl⟩)
  (λ_ _ h=>h.elim) (λ_ _ _ h=>h.elim) (λ_ _ h=>h.elim) (λ_ h=>h.elim) (λ_ _ _ _ h=>h.elim) (λ_ _ _ _ _ h=>h.elim)
 rw[e]at k1;refine⟨k1,k2.good,λid hid hl b hb=>?_⟩;obtain⟨n1,n2⟩:=h.new id b hl hb;refine⟨?_,λi hi hf=>?_⟩
 .rcases n1 with n1|n1
  .exact .inl (.inr n1)
  .exact .inr ⟨n1,n2⟩
 .obtain⟨q1,q2⟩:=live i hi;have:=h.inj i id b q2 hl hf hb;subst this;exact q1 hid
end
section
variable {P:Program} {f:Nat} {s:St} {d:Option Nat} {avs args:List AV} {res:AV} {K:St->Prop}
def yGz(ids:List Nat)(hp:qB P f args res)(ho:iO s avs args)(hf:(avs.all (AV.frz ids))=true)(hK:K ((s.drops ids).put d res)):yat P f avs d s K:=by
 intro g a w blk h hd vs hvs hv;obtain⟨h1,h2⟩:=yV ho;obtain⟨k1,k2,k3⟩:=h.drops ids;refine(hp w (Good g (s.drops ids).yRU blk w) (λb hb=>ycl k1 hb) vs (by omega) (λj y hj=>?_)).mono ?_
 .obtain⟨x,hx,hxy⟩:=h2 j y hj;obtain⟨u,hu,hru⟩:=hv j x hx;exact⟨u,hu,yG4 h k2 k3 (zaf.1 hf x (zac hx)) hru hxy⟩
 .rintro e w' ⟨v,rfl,hb,hr⟩
  have h':=k1.call hb;refine⟨v,rfl,_,blk,hK,h'.put hd (yey (λb hb'=>?_) hr)⟩;rcases hb' with hg|⟨e1,e2⟩
  .refine⟨?_,hg.2⟩;rcases hg.1 with e|e
   .exact .inl e
   .exact .inr ⟨e.1,by have:=hb.size;omega⟩
  .refine⟨.inr ⟨by have:=k1.below.size;omega,e2⟩,λid hid e=>?_⟩;have:=(k1.new id b hid e).2;omega
def yadt{d:Nat}(ids:List Nat)(hp:nI P f args res)(ho:iO s avs args)(hf:(avs.all (AV.frz ids))=true)(hfr:fD (s.drops ids) (res.fK d))(hK:K ((s.drops ids).take d res)):yat P f avs (some d) s K:=by
 intro g a w blk h hd vs hvs hv;obtain⟨h1,h2⟩:=yV ho;obtain⟨k1,k2,k3⟩:=h.drops ids;refine(hp w (Good g (s.drops ids).yRU blk w) (λb hb=>ycl k1 hb) vs (by omega) (λj y hj=>?_)).mono ?_
 .obtain⟨x,hx,hxy⟩:=h2 j y hj;obtain⟨u,hu,hru⟩:=hv j x hx;exact⟨u,hu,yG4 h k2 k3 (zaf.1 hf x (zac hx)) hru hxy⟩
 .rintro e w' ⟨v,F,rfl,hb,hF,hr⟩
  obtain⟨L',q1,q2⟩:=k1.got hb hF (λb hb=>hb) hr hfr;exact⟨v,rfl,_,L',hK,q1.put hd q2⟩
end
end Go.Proofs.YtdadkiofenhnbaaGreat
