/- The machine of the proof: an abstract run of the code, proved sound. -/
import Derived.Test.YtdadkiofenhnbaaGreatSA9
set_option linter.all false
namespace Go.Proofs.YtdadkiofenhnbaaGreat
open Go.RowKit
def Lo(c c':C):Prop:=∀(w:World) (G F:Nat->Prop) (v:Value),OT w G v c F->∃F':Nat->Prop,(∀b,F' b->F b)/\∀G':Nat->Prop,(∀b,G b->G' b)->(∀b,F b->¬F' b->G' b)->OT w G' v c' F'
def Lo.same(c:C):Lo c c:=λw G F v h=>⟨F,λ_ h=>h,λG' h1 _=>h.mono h1 (λ_ _ _ h=>h) (λ_ h=>h) λ_ _=>rfl⟩
def Lo.give{c y:C}(hy:c.shr=some y):Lo c y:=λw G F v h=>⟨noF,λ_ h=>h.elim,λG' h1 h2=>.sh (h.yqb hy h1 λb hb=>h2 b hb λh=>h)⟩
def Lo.tree(k:Nat)(rows:List (List C)):Lo (.ow k rows) (.ot k rows):=by
 intro w G F v h;refine⟨F,λ_ h=>h,λG' h1 _=>?_⟩;cases h with
 |sh h=>cases h
 |ow0=>exact .ot0
 |ow vals a1 a2 a3 a4 a5 a6 a7 a8 a9=>exact .ot vals (λ_ _=>noF) a1 a2 a3 a4 a5 a6 a7 (λ_ _ _ h=>h.elim) (λ_ _ _ _ _ h=>h.elim) a8 λi r hr j c hj=>.sh ((a9 i r hr j c hj).mono h1 λ_ _ _ h=>h)
def Lo.flat{k:Nat}{rows rows':List (List C)}(hs:yaq rows=some rows'):Lo (.ot k rows) (.ow k rows'):=by
 intro w G F v h;obtain⟨z1,z2⟩:=yoU hs;cases h with
 |sh h=>cases h
 |ot0=>
  cases zav.1 z1;exact⟨noF,λ_ h=>h.elim,λG' _ _=>.ow0⟩
 | @ot b0 len cap k rows arr e F vals Fs a1 a2 a3 a4 a5 a6 a7 a8 a9 a10 a11=>
  refine⟨λx=>x=b0,λx hx=>by rw[hx];exact a7,λG' h1 h2=>?_⟩
  have key:∀i r,rows'[i]?=some r->∀(j:Nat) c,r[j]?=some c->∃(r':List C) (c':C),rows[i]?=some r'/\r'[j]?=some c'/\c'.shr=some c:=λi r hr j c hc=>by
   obtain⟨r',e1,e2⟩:=z2 i r hr;obtain⟨c',e3,e4⟩:=(ygy e2).2 j c hc;exact⟨r',c',e1,e3,e4⟩
  refine .ow vals a1 (by omega) a3 a4 a5 (λr hr=>?_) rfl (λi r hr j c hj=>?_) (λi r hr j c hj=>?_)
  .obtain⟨i,hi⟩:=zar hr;obtain⟨r',e1,e2⟩:=z2 i r hi;rw[(ygy e2).1];exact a6 r' (zac e1)
  .obtain⟨r',c',e1,e2,_⟩:=key i r hr j c hj;exact a10 i r' e1 j c' e2
  .obtain⟨r',c',e1,e2,e3⟩:=key i r hr j c hj;exact(a11 i r' e1 j c' e2).yqb e3 h1 λq hq=>h2 q (a8 i j q hq).1 (a8 i j q hq).2
def Lo.trans{a b c:C}(h1:Lo a b)(h2:Lo b c):Lo a c:=by
 intro w G F v h;obtain⟨F1,p1,p2⟩:=h1 w G F v h;obtain⟨F2,q1,q2⟩:=h2 w (λb=>G b\/(F b/\¬F1 b)) F1 v (p2 _ (λ_ h=>.inl h) λ_ h h'=>.inr ⟨h,h'⟩);refine⟨F2,λb hb=>p1 b (q1 b hb),λG' g1 g2=>q2 G' (λb hb=>?_) λb hb hn=>g2 b (p1 b hb) hn⟩;rcases hb with hb|⟨hb,hn⟩
 .exact g1 b hb
 .exact g2 b hb λh=>hn (q1 b h)
def Los:List C->List C->Prop
 |[],[]=>True
 |c::l,c'::l'=>Lo c c'/\Los l l'
 |_,_=>False
def Los.get:∀{l l':List C},Los l l'->l'.length=l.length/\∀(j:Nat) (c':C),l'[j]?=some c'->∃c,l[j]?=some c/\Lo c c'
 |[],[],_=>⟨rfl,λj c h=>by simp at h⟩
 |c::l,c'::l',⟨h1,h2⟩=>by
  obtain⟨e1,e2⟩:=Los.get h2;refine⟨by simp[e1],λj y hj=>?_⟩;cases j with
  |zero=>simp at hj;subst hj;exact⟨c,rfl,h1⟩
  |succ j=>exact e2 j y (by simpa using hj)
 |[],_::_,h=>h.elim
 |_::_,[],h=>h.elim
def nI.loose{P:Program}{f:Nat}{args:List AV}{cs cs':List C}(h:nI P f args (.agg (cs.map .c)))(hl:Los cs cs'):nI P f args (.agg (cs'.map .c)):=by
 obtain⟨l1,l2⟩:=hl.get;intro w G hG vs hvs hv;refine(h w G hG vs hvs hv).mono ?_
 rintro e w' ⟨v,F,e1,e2,e3,⟨arr,q1,q2,Fs,q3,q4,q5⟩⟩
 have key:∀j:Nat,∃F':Nat->Prop,(∀b,F' b->Fs j b)/\∀c',cs'[j]?=some c'->∃u,arr[j]?=some u/\∀G':Nat->Prop,(∀b,((G b\/(w.heap.size<=b/\b<w'.heap.size))/\¬F b)->G' b)->(∀b,Fs j b->¬F' b->G' b)->OT w' G' u c' F':=by
  intro j;cases hj:cs'[j]? with
  |none=>exact⟨noF,λ_ h=>h.elim,λc' h=>by cases h⟩
  |some c'=>
   obtain⟨c,hc,lo⟩:=l2 j c' hj;obtain⟨u,c2,z1,z2,z3⟩:=q3 j (.c c) (by rw[zat,hc];rfl);cases z1;obtain⟨F',f1,f2⟩:=lo _ _ _ _ z3;exact⟨F',f1,λc'' h=>by cases h;exact⟨u,z2,f2⟩⟩
 let Fn:Nat->Nat->Prop:=λj=>Classical.choose (key j)
 have hFn:=λj=>Classical.choose_spec (key j);have sub:∀j b,Fn j b->Fs j b:=λj=>(hFn j).1;refine⟨v,λb=>∃j,Fn j b,e1,e2,λb ⟨j,hb⟩=>e3 b (q4 j b (sub j b hb)),arr,q1,by rw[q2,zam,zam,l1],Fn,λj y hj=>?_,λj b hb=>⟨j,hb⟩,λj j' b h1 h2=>q5 j j' b (sub j b h1) (sub j' b h2)⟩;rw[zat]at hj;cases hc:cs'[j]? with
 |none=>rw[hc]at hj;cases hj
 |some c'=>
  rw[hc]at hj;cases hj;obtain⟨u,hu,ho⟩:=(hFn j).2 c' hc;refine⟨u,c',rfl,hu,ho _ (λb hb=>⟨hb.1,λ⟨i,hi⟩=>hb.2 (q4 i b (sub i b hi))⟩) λb hb hn=>⟨.inr (e3 b (q4 j b hb)),λ⟨i,hi⟩=>?_⟩⟩;have e:=q5 i j b (sub i b hi) hb;subst e;exact hn hi
def yIH(id:Nat){s s':St}{k:Nat}{rows:List (List C)}(ho:s.yRU id=.row k rows)(h:(s.iG id (.tr k 0 rows)).le s'):s.le s':=by
 intro g a w blk hr;have hne:s.yRU id≠.none:=by rw[ho];exactλe=>by cases e
 have hob:(s.iG id (.tr k 0 rows)).yRU id=.tr k 0 rows:=by simp[St.iG,upd]
 have hoo:∀i,i≠id->(s.iG id (.tr k 0 rows)).yRU i=s.yRU i:=λi hi=>by simp[St.iG,upd,hi]
 have hr0:=hr.yRU id;rw[ho]at hr0
 obtain⟨k1,_,_⟩:=hr.yq6 [] (λi=>i=id) (objs':=(s.iG id (.tr k 0 rows)).yRU) (w':=w) (L':=⟨blk.root,λi=>if i=id then noF else blk.sub i⟩) (X:=noF) (Off.refl _ _) (λq hq=>hq.elim)
  (λi hi=>⟨by rw[hoo i hi];simp only[zaO,if_false];rfl,rfl,by simp[hi]⟩)
  (λi b hi _ hf=>.inl ⟨id,.inl rfl,hne,by
   subst hi;rcases hf with e|e
   .exact .inl e
   .simp at e;exact e.elim⟩)
  (λi j b hi hj _ _ _ _=>hi.trans hj.symm)
  (λi b hi _ _ e=>by subst hi;simp at e;exact e.elim)
  (λi hi _ _=>by subst hi;rw[ho,hob];exact⟨⟨rows.length,rfl,Nat.le_refl _⟩,rfl⟩)
  (λi k' v' rows'' hi _ e=>by subst hi;rw[ho]at e;cases e)
  (λG' K _ _ i hi=>by
   subst hi;rw[hob];simp only[if_true];rcases hr0 with e|⟨b,arr,e,h1,h2,h3,h4,h5⟩
   .exact .inl e
   .refine .inr ⟨b,arr,e,h1,h2,h3,h4,λi j=>(arr[i*k+j]?).getD undef,λ_ _=>noF,λ_ _ _ h=>h.elim,λ_ _ _ _ _ h=>h.elim,λi r hr j c hc=>?_,λi r hr j c hc=>?_⟩
    .obtain⟨u,hu,_⟩:=h5 i r j c hr hc;dsimp only;rw[hu];rfl
    .obtain⟨u,hu,hru⟩:=h5 i r j c hr hc;dsimp only;rw[hu];exact .sh (hru.mono K.good (λ_ _ _ h=>h)))
 exact h g a w _ k1
def yk5(t:Nat){s s':St}{id k n:Nat}{y:AV}(ht:s.env t=.own id k n)(hy:out1 s (.own id k n) y)(h:(⟨upd t y (s.drop id).env,(s.drop id).yRU⟩:St).le s'):s.le s':=by
 intro g a w blk hr;obtain⟨k1,k2,k3⟩:=hr.drops [id];refine h g a w blk ⟨k1.size,k1.small,k1.defers,k1.below,k1.g0,k1.f0,k1.g0f,λt'=>?_,k1.yRU,k1.new,k1.inj,k1.apart⟩
 show RV _ _ _ _ _ (upd t y _ t')
 rw[jG];split
 .rename_i e;subst e;have hv:=hr.env t';rw[ht]at hv;exact yey (λ_ h=>h) (yvp (yi6 hr k2 (λi hi=>by rw[zan.1 hi];exact k3 id (by simp)) (show RV1 w (Good g s.yRU blk w) s.yRU blk (g.val a t') (.own id k n)from hv) hy))
 .exact k1.env t'
end Go.Proofs.YtdadkiofenhnbaaGreat
