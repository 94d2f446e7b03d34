/- The machine of the proof: an abstract run of the code, proved sound. -/
import Derived.Test.YtdadkiofenhnbaaGreatTA11
set_option linter.all false
namespace Go.Proofs.YtdadkiofenhnbaaGreat
open Go.RowKit
def Lo(c c':C):Prop:=∀(w:World) (G F:Nat->Prop) (v:Value),OT w G v c F->∃F':Nat->Prop,(∀b,F' b->F b)/\∀G':Nat->Prop,(∀b,G b->G' b)->(∀b,F b->¬F' b->G' b)->OT w G' v c' F'
def Lo.same(c:C):Lo c c:=λw G F v h=>⟨F,λ_ h=>h,λG' h1 _=>h.mono h1 (λ_ _ _ h=>h) (λ_ h=>h) λ_ _=>rfl⟩
def Lo.tree(k:Nat)(rows:List (List C)):Lo (.ow k rows) (.ot k rows):=by
 intro w G F v h;refine⟨F,λ_ h=>h,λG' h1 _=>?_⟩;cases h with
 |sh h=>cases h
 |ow0=>exact .ot0
 |ow vals a1 a2 a3 a4 a5 a6 a7 a8 a9=>exact .ot vals (λ_ _=>noF) a1 a2 a3 a4 a5 a6 a7 (λ_ _ _ h=>h.elim) (λ_ _ _ _ _ h=>h.elim) a8 λi r hr j c hj=>.sh ((a9 i r hr j c hj).mono h1 λ_ _ _ h=>h)
def Lo.flat{k:Nat}{rows rows':List (List C)}(hs:yaq rows=some rows'):Lo (.ot k rows) (.ow k rows'):=by
 intro w G F v h;obtain⟨z1,z2⟩:=yoU hs;cases h with
 |sh h=>cases h
 |ot0=>
  cases zay.1 z1;exact⟨noF,λ_ h=>h.elim,λG' _ _=>.ow0⟩
 | @ot b0 len cap k rows arr e F vals Fs a1 a2 a3 a4 a5 a6 a7 a8 a9 a10 a11=>
  refine⟨λx=>x=b0,λx hx=>by rw[hx];exact a7,λG' h1 h2=>?_⟩
  have key:∀i r,rows'[i]?=some r->∀(j:Nat) c,r[j]?=some c->∃(r':List C) (c':C),rows[i]?=some r'/\r'[j]?=some c'/\c'.shr=some c:=λi r hr j c hc=>by
   obtain⟨r',e1,e2⟩:=z2 i r hr;obtain⟨c',e3,e4⟩:=(ygy e2).2 j c hc;exact⟨r',c',e1,e3,e4⟩
  refine .ow vals a1 (by omega) a3 a4 a5 (λr hr=>?_) rfl (λi r hr j c hj=>?_) (λi r hr j c hj=>?_)
  .obtain⟨i,hi⟩:=zat hr;obtain⟨r',e1,e2⟩:=z2 i r hi;rw[(ygy e2).1];exact a6 r' (zac e1)
  .obtain⟨r',c',e1,e2,_⟩:=key i r hr j c hj;exact a10 i r' e1 j c' e2
  .obtain⟨r',c',e1,e2,e3⟩:=key i r hr j c hj;exact(a11 i r' e1 j c' e2).yqb e3 h1 λq hq=>h2 q (a8 i j q hq).1 (a8 i j q hq).2
def Lo.trans{a b c:C}(h1:Lo a b)(h2:Lo b c):Lo a c:=by
 intro w G F v h;obtain⟨F1,p1,p2⟩:=h1 w G F v h;obtain⟨F2,q1,q2⟩:=h2 w (λb=>G b\/(F b/\¬F1 b)) F1 v (p2 _ (λ_ h=>.inl h) λ_ h h'=>.inr ⟨h,h'⟩);refine⟨F2,λb hb=>p1 b (q1 b hb),λG' g1 g2=>q2 G' (λb hb=>?_) λb hb hn=>g2 b (p1 b hb) hn⟩;rcases hb with hb|⟨hb,hn⟩
 .exact g1 b hb
 .exact g2 b hb λh=>hn (q1 b h)
def Los:List C->List C->Prop
 |[],[]=>True
 |c::l,c'::l'=>Lo c c'/\Los l l'
 |_,_=>False
def Los.get:∀{l l':List C},Los l l'->l'.length=l.length/\∀(j:Nat) (c':C),l'[j]?=some c'->∃c,l[j]?=some c/\Lo c c'
 |[],[],_=>⟨rfl,λj c h=>by simp at h⟩
 |c::l,c'::l',⟨h1,h2⟩=>by
  obtain⟨e1,e2⟩:=Los.get h2;refine⟨by simp[e1],λj y hj=>?_⟩;cases j with
  |zero=>simp at hj;subst hj;exact⟨c,rfl,h1⟩
  |succ j=>exact e2 j y (by simpa using hj)
 |[],_::_,h=>h.elim
 |_::_,[],h=>h.elim
def nI.loose{P:Program}{f:Nat}{args:List AV}{cs cs':List C}(h:nI P f args (.agg (cs.map .c)))(hl:Los cs cs'):nI P f args (.agg (cs'.map .c)):=by
 obtain⟨l1,l2⟩:=hl.get;intro w G hG vs hvs hv;refine(h w G hG vs hvs hv).mono ?_
 rintro e w' ⟨v,F,e1,e2,e3,⟨arr,q1,q2,Fs,q3,q4,q5⟩⟩
 have key:∀j:Nat,∃F':Nat->Prop,(∀b,F' b->Fs j b)/\∀c',cs'[j]?=some c'->∃u,arr[j]?=some u/\∀G':Nat->Prop,(∀b,((G b\/(w.heap.size<=b/\b<w'.heap.size))/\¬F b)->G' b)->(∀b,Fs j b->¬F' b->G' b)->OT w' G' u c' F':=by
  intro j;cases hj:cs'[j]? with
  |none=>exact⟨noF,λ_ h=>h.elim,λc' h=>by cases h⟩
  |some c'=>
   obtain⟨c,hc,lo⟩:=l2 j c' hj;obtain⟨u,c2,z1,z2,z3⟩:=q3 j (.c c) (by rw[zau,hc];rfl);cases z1;obtain⟨F',f1,f2⟩:=lo _ _ _ _ z3;exact⟨F',f1,λc'' h=>by cases h;exact⟨u,z2,f2⟩⟩
 let Fn:Nat->Nat->Prop:=λj=>Classical.choose (key j)
 have hFn:=λj=>Classical.choose_spec (key j);have sub:∀j b,Fn j b->Fs j b:=λj=>(hFn j).1;refine⟨v,λb=>∃j,Fn j b,e1,e2,λb ⟨j,hb⟩=>e3 b (q4 j b (sub j b hb)),arr,q1,by rw[q2,zal,zal,l1],Fn,λj y hj=>?_,λj b hb=>⟨j,hb⟩,λj j' b h1 h2=>q5 j j' b (sub j b h1) (sub j' b h2)⟩;rw[zau]at hj;cases hc:cs'[j]? with
 |none=>rw[hc]at hj;cases hj
 |some c'=>
  rw[hc]at hj;cases hj;obtain⟨u,hu,ho⟩:=(hFn j).2 c' hc;refine⟨u,c',rfl,hu,ho _ (λb hb=>⟨hb.1,λ⟨i,hi⟩=>hb.2 (q4 i b (sub i b hi))⟩) λb hb hn=>⟨.inr (e3 b (q4 j b hb)),λ⟨i,hi⟩=>?_⟩⟩;have e:=q5 i j b (sub i b hi) hb;subst e;exact hn hi
end Go.Proofs.YtdadkiofenhnbaaGreat
