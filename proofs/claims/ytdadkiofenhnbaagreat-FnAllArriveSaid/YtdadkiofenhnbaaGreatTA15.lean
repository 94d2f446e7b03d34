/- The machine of the proof: an abstract run of the code, proved sound. -/
import Derived.Test.YtdadkiofenhnbaaGreatTA7
set_option linter.all false
namespace Go.Proofs.YtdadkiofenhnbaaGreat
open Go.RowKit
def yVb(id:Nat){s s':St}{k v:Nat}{rows rows':List (List C)}(ho:s.yRU id=.tr k v rows)(hs:yaq rows=some rows')(h:(s.iG id (.tr k (v+1) rows')).le s'):s.le s':=by
 intro g a w blk hr;have hne:s.yRU id≠.none:=by rw[ho];exactλe=>by cases e
 obtain⟨z1,z2⟩:=yoU hs;have hob:(s.iG id (.tr k (v+1) rows')).yRU id=.tr k (v+1) rows':=by simp[St.iG,upd]
 have hoo:∀i,i≠id->(s.iG id (.tr k (v+1) rows')).yRU i=s.yRU i:=λi hi=>by simp[St.iG,upd,hi]
 have hkill:∀o:Obj,o.kills []=o:=λo=>by rfl
 have hr0:=hr.yRU id;rw[ho]at hr0
 obtain⟨k1,_,_⟩:=hr.yq6 [] (λi=>i=id) (objs':=(s.iG id (.tr k (v+1) rows')).yRU) (w':=w) (L':=⟨blk.root,λi=>if i=id then noF else blk.sub i⟩) (X:=noF) (Off.refl _ _) (λq hq=>hq.elim)
  (λi hi=>⟨by rw[hoo i hi];simp only[zaH,if_false];rfl,rfl,by simp[hi]⟩)
  (λi b hi _ hf=>.inl ⟨id,.inl rfl,hne,by
   subst hi;rcases hf with e|e
   .exact .inl e
   .simp at e;exact e.elim⟩)
  (λi j b hi hj _ _ _ _=>hi.trans hj.symm)
  (λi b hi _ _ e=>by subst hi;simp at e;exact e.elim)
  (λi hi _ _=>by subst hi;rw[ho,hob];exact⟨⟨rfl,by omega,by omega,λe=>by omega⟩,rfl⟩)
  (λi k' v' rows'' hi _ e=>by
   subst hi;rw[ho]at e;cases e;rw[hob];intro e;cases e)
  (λG' K _ hM i hi=>by
   subst hi;rw[hob];simp only[if_true];rcases hr0 with⟨e1,e2⟩|⟨b,arr,e,h1,h2,h3,h4,vals,Fs,q1,q2,q3,q4⟩
   .refine .inl ⟨e1,?_⟩;subst e2;exact zay.1 (by simpa using z1)
   .refine .inr ⟨b,arr,e,h1,h2,by rw[z1];exact h3,λr' hr'=>?_,vals,λ_ _=>noF,λ_ _ _ h=>h.elim,λ_ _ _ _ _ h=>h.elim,λj r' hj l c hc=>?_,λj r' hj l c hc=>?_⟩
    .obtain⟨j,hj⟩:=zbd.1 hr';obtain⟨r,hr1,hr2⟩:=z2 j r' hj;rw[(ygy hr2).1];exact h4 r (zac hr1)
    .obtain⟨r,hr1,hr2⟩:=z2 j r' hj;obtain⟨x,hx,_⟩:=(ygy hr2).2 l c hc;exact q3 j r hr1 l x hx
    .obtain⟨r,hr1,hr2⟩:=z2 j r' hj;obtain⟨x,hx,hxc⟩:=(ygy hr2).2 l c hc;refine .sh ((q4 j r hr1 l x hx).yqb hxc K.good λq hq=>hM q ⟨_,.inl rfl,hne,.inr (q1 j l q hq).1⟩ λi hi _ hf=>?_);subst hi;rcases hf with e|e
     .have e:blk.root i=some q:=e;rw[h1]at e;cases e;exact(q1 j l _ hq).2 rfl
     .simp at e;exact e.elim)
 exact h g a w _ k1
end Go.Proofs.YtdadkiofenhnbaaGreat
