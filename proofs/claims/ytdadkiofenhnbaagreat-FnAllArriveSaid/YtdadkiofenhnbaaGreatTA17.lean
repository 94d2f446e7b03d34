/- The machine of the proof: an abstract run of the code, proved sound. -/
import Derived.Test.YtdadkiofenhnbaaGreatTA16
set_option linter.all false
namespace Go.Proofs.YtdadkiofenhnbaaGreat
open Go.RowKit
def CurG(P:Program)(f:Nat)(cs cs':List C)(k:Nat)(rows:List (List C))(res:AV):Prop:=
 ∀ (w:World) (G:Nat->Prop) (b0:Nat) (F1:Nat->Prop),(∀b,G b->b<w.heap.size)->b0<w.heap.size->(∀b,F1 b->b<w.heap.size)->¬G b0->¬F1 b0->(∀b,G b->¬F1 b)->
  ∀(v1:Value) (vs:Array Value),vs.size=2->vs[0]?=some (.pointer (some ⟨b0,0,none⟩))->vs[1]?=some v1->BoxOk w G b0 cs->OT w G v1 (.ow k rows) F1->
  Calls P f vs w λe w'=>∃v,e=.returned v/\Off (λb=>b=b0\/F1 b) w w'/\
   BoxOk w' (λb=>((G b\/F1 b)\/(w.heap.size<=b/\b<w'.heap.size))/\b≠b0) b0 cs'/\RV w' noF noO noB v res
section
variable {g:ySm} {s:St} {a:Act} {w:World} {L:Lay}
def Repr.yael(h:Repr g s a w L){w':World}{id id1 b0:Nat}{cs cs':List C}(hne:id1≠id)(hO:s.ob id=.box (cs.map .c))(hb0:L.root id=some b0)(hl1:s.yRU id1≠.none)
 (hoff:Off (λb=>b=b0\/L.fp id1 b) w w')
 (hbox:BoxOk w' (λb=>((Good g s.yRU L w b\/L.fp id1 b)\/(w.heap.size<=b/\b<w'.heap.size))/\b≠b0) b0 cs'):
 Repr g ((s.drop id1).iG id (.box (cs'.map .c))) a w' L:=by
 have hO':s.yRU id=.box (cs.map .c):=hO;have hlive:s.yRU id≠.none:=by rw[hO'];simp
 have oI:((s.drop id1).iG id (.box (cs'.map .c))).yRU id=.box (cs'.map .c):=by simp[St.iG,jG]
 have key:=h.yq6 [id1] (λi=>i=id) (objs':=((s.drop id1).iG id (.box (cs'.map .c))).yRU) (w':=w') (L':=L) (X:=λb=>b=b0\/L.fp id1 b) hoff
  (λq hq=>by
   rcases hq with hq|hq
   .exact⟨id,.inl rfl,hlive,.inl (by rw[hq];exact hb0)⟩
   .exact⟨id1,.inr (by simp),hl1,hq⟩)
  (λi hi=>by
   refine⟨?_,rfl,rfl⟩
   show upd id _ (upd id1 .none λi=>(s.yRU i).kill id1) i=_
   rw[jG,if_neg hi,jG]
   by_cases e:i=id1
   .simp[e]
   .simp only[e,if_false,zak];rfl)
  (λi b hi _ hf=>by subst hi;exact .inl ⟨i,.inl rfl,hlive,hf⟩)
  (λi j b hi hj _ _ _ _=>by rw[hi,hj])
  (λi b hi _ hr=>by subst hi;exact h.apart i b hlive hr)
  (λi hi _ hn=>by subst hi;rw[oI,hO'];exact⟨trivial,rfl⟩)
  (λi k v' rows hi _ hk=>by subst hi;rw[hO']at hk;cases hk)
  (λG' K hN hM i hi=>by
   subst hi;rw[oI];obtain⟨arr,e,q1,q2,q3⟩:=hbox;refine⟨b0,arr,e,hb0,q1,by simp[q2],λj x hx=>?_⟩;rw[zau,zam]at hx;obtain⟨c,hc,rfl⟩:=hx;obtain⟨u,hu,hr⟩:=q3 j c hc;refine⟨u,hu,Rd.mono hr ?_ (λ_ _ _ h=>h)⟩
   rintro b ⟨e1,e2⟩
   rcases e1 with(e1|e1)|e1
   .exact K.good b e1
   .refine hM b ⟨id1,.inr (by simp),hl1,e1⟩ λj hj _ hf=>?_;subst hj;exact hne (h.inj id1 j b hl1 hlive e1 hf)
   .refine hN b e1.1 e1.2 λj hj _ hf=>?_;subst hj;have:=(h.new j b hlive hf).2;omega)
 exact key.1
end
section
variable {P:Program} {f:Nat} {s:St} {d:Option Nat} {id id1 k n:Nat} {rows:List (List C)} {res:AV} {K:St->Prop} {cs cs':List C}
def yY5(hp:CurG P f cs cs' k (rows.take n) res)(hO:s.ob id=.box (cs.map .c))(hO1:s.ob id1=.row k rows)(hs:res.scalar=true)
 (hK:K (((s.drop id1).iG id (.box (cs'.map .c))).put d res)):yat P f [.box id 0,.own id1 k n] d s K:=by
 intro g a w blk h hd vs hvs hv;have hlive:s.yRU id≠.none:=by rw[show s.yRU id=_ from hO];simp
 obtain⟨v0,hv0,hr0⟩:=hv 0 _ rfl;obtain⟨b0,cells,q1,q2,rfl⟩:=(show RV1 w (Good g s.yRU blk w) s.yRU blk v0 (.box id 0)from hr0);obtain⟨v1,hv1,hr1⟩:=hv 1 _ rfl;obtain⟨arr,e,r1,r2,r3⟩:=h.box hO q2;have q2':blk.root id=some b0:=q2
 have hne:id1≠id:=by
  intro e;subst e;rw[hO]at hO1;cases hO1
 obtain⟨_,hl1,hot⟩:=ykc h (show RV1 w (Good g s.yRU blk w) s.yRU blk v1 (.own id1 k n)from hr1) (c:=.ow k (rows.take n)) (ids:=[id1]) (by simp[pk1,hO1])
 have hbox:BoxOk w (Good g s.yRU blk w) b0 cs:=⟨arr,e,r1,by simpa using r2,λj c hc=>by
  obtain⟨u,hu,hr⟩:=r3 j (.c c) (by simp[hc]);exact⟨u,hu,hr⟩⟩
 refine(hp w (Good g s.yRU blk w) b0 (blk.fp id1) (λb hb=>ycl h hb) (h.new id b0 hlive (.inl q2')).2 (λb hb=>(h.new id1 b hl1 hb).2) (λhb=>hb.2 id hlive (.inl q2'))
  (λhb=>hne (h.inj id1 id b0 hl1 hlive hb (.inl q2'))) (λb hb hf=>hb.2 id1 hl1 hf) v1 vs (by simpa using hvs) hv0 hv1 hbox hot).mono ?_
 rintro e w' ⟨v,rfl,hoff,hb,hr⟩
 have:=h.yael hne hO q2' hl1 hoff hb;exact⟨v,rfl,_,blk,hK,this.put hd (ybN hs hr)⟩
end
def yZl(cs:List C)(k:Nat)(rows:List (List C)):St:=⟨λt=>if t=1000000 then .box 0 0 else if t=0 then .box 0 0 else if t=1 then .own 1 k rows.length else .any,λi=>if i=0 then .box (cs.map .c)else if i=1 then .row k rows else .none⟩
def yaeb(s:St)(rs:List RS)(cs':List C)(res:AV):Prop:=s.env 1000000=.box 0 0/\s.ob 0=.box (cs'.map .c)/\ybG s rs res
def yaeg{P:Program}{f N:Nat}{c:SC}{rs:List RS}{cs cs':List C}{k:Nat}{rows:List (List C)}{res:AV}(hf:Has P f N c rs)(hN:2<=N)(hsc:res.scalar=true)
 (H:wpS P N c (yZl cs k rows) (λe s=>match e with| .exit _=>False|_=>yaeb s rs cs' res)):CurG P f cs cs' k rows res:=by
 obtain⟨fn,code,h1,h2,h3,⟨fl,h4⟩,h5⟩:=hf.ok;intro w G b0 F1 hG hb0 hF1 hGb hFb hGF v1 vs hvs hv0 hv1 hx ho;obtain⟨arr,ty,x1,x2,x3⟩:=hx;refine calls_of_wp h1 h2 ?_;obtain⟨R,S,a1,a2,a3,a4,a5⟩:=OT.lays (id:=1) ho;have hm:((1,Obj.row k rows):Nat×Obj)∈(C.ow k rows).fK 1:=by simp[C.fK]
 let g:ySm:=⟨w,G,(λb=>b=b0\/F1 b),N,#[.pointer (some ⟨b0,0,none⟩)]⟩
 let L0:Lay:=⟨λi=>if i=0 then some b0 else if i=1 then R 1 else none,λi=>if i=1 then S 1 else noF⟩
 have o0:(yZl cs k rows).yRU 0=.box (cs.map .c):=by simp[yZl]
 have o1:(yZl cs k rows).yRU 1=.row k rows:=by simp[yZl]
 have on:∀i,i≠0->i≠1->(yZl cs k rows).yRU i=.none:=by intro i e1 e2;simp[yZl,e1,e2]
 have fp0:∀b,L0.fp 0 b->b=b0:=by
  rintro b (h|h)
  .have:some b0=some b:=h;cases this;rfl
  .exact h.elim
 have fp1:∀b,L0.fp 1 b->F1 b:=λb hb=>a1 _ hm b hb
 have fps:∀i b,(yZl cs k rows).yRU i≠.none->L0.fp i b->(i=0/\b=b0)\/(i=1/\F1 b):=by
  intro i b hi hf
  by_cases e0:i=0
  .subst e0;exact .inl ⟨rfl,fp0 b hf⟩
  .by_cases e1:i=1
   .subst e1;exact .inr ⟨rfl,fp1 b hf⟩
   .exact absurd (on i e0 e1) hi
 have hgood:∀b,G b->Good g (yZl cs k rows).yRU L0 w b:=by
  intro b hb;refine⟨.inl (.inl hb),λi hi hf=>?_⟩;rcases fps i b hi hf with⟨_,e⟩|⟨_,e⟩
  .exact hGb (e▸hb)
  .exact hGF b hb e
 have hptr:∀{G':Nat->Prop},RV w G' (yZl cs k rows).yRU L0 (.pointer (some ⟨b0,0,none⟩)) (.box 0 0):=⟨b0,_,o0,rfl,rfl⟩
 have hinit:Repr g (yZl cs k rows) {tmps:=vs++Array.replicate (fn.ntmps-vs.size) undef,defers:=[]} w L0:=by
  refine⟨by simp[g];omega,hf.small,rfl,Off.refl _ _,hG,λb hb=>?_,λb hb hx=>?_,λt=>?_,λid=>?_,λid b hid hfp=>?_,λi j b hi hj hfi hfj=>?_,λi b hi hr=>?_⟩
  .show b<w.heap.size
   rcases hb with hb|hb
   .omega
   .exact hF1 b hb
  .rcases hx with hx|hx
   .exact hGb (hx▸hb)
   .exact hGF b hb hx
  .have hsm:=hf.small
   have val:∀u,vs[t]?=some u->g.val {tmps:=vs++Array.replicate (fn.ntmps-vs.size) undef,defers:=[]} t=u:=by
    intro u hu;have hlt:t<vs.size:=(zaJ.1 hu).1;unfold ySm.val;rw[if_pos (by unfold jV at *;omega),zan,zbS hlt,hu];rfl
   show RV _ _ _ _ _ (if t=1000000 then .box 0 0 else if t=0 then .box 0 0 else if t=1 then .own 1 k rows.length else .any)
   split
   .rename_i e;subst e
    have:g.val {tmps:=vs++Array.replicate (fn.ntmps-vs.size) undef,defers:=[]} 1000000=.pointer (some ⟨b0,0,none⟩):=by
     unfold ySm.val;rw[if_neg (by unfold jV;omega)];simp[g,jV]
    rw[this];exact hptr
   .split
    .rename_i e;subst e;rw[val _ hv0];exact hptr
    .split
     .rename_i e;subst e;rw[val _ hv1]
      exact a4 _ (yZl cs k rows).yRU L0 hgood λp hp=>by
       have:p=(1,Obj.row k rows):=by simpa[C.fK]using hp
       subst this;exact⟨o1,rfl⟩
     .trivial
  .by_cases e0:id=0
   .subst e0;rw[o0];refine⟨b0,arr,ty,rfl,x1,by simp[x2],λj x hx=>?_⟩;rw[zau,zam]at hx;obtain⟨c,hc,rfl⟩:=hx;obtain⟨u,hu,hr⟩:=x3 j c hc;exact⟨u,hu,Rd.mono hr hgood (λ_ _ _ h=>h)⟩
   .by_cases e1:id=1
    .subst e1;rw[o1];exact a5 _ (yZl cs k rows).yRU L0 hgood _ hm
    .rw[on id e0 e1];trivial
  .rcases fps id b hid hfp with⟨_,e⟩|⟨_,e⟩
   .exact⟨.inl (.inl e),by omega⟩
   .exact⟨.inl (.inr e),hF1 b e⟩
  .rcases fps i b hi hfi with⟨e1,e2⟩|⟨e1,e2⟩<;>rcases fps j b hj hfj with⟨e3,e4⟩|⟨e3,e4⟩
   .rw[e1,e3]
   .exact absurd (e2▸e4) hFb
   .exact absurd (e4▸e2) hFb
   .rw[e1,e3]
  .rcases fps i b hi (.inl hr)with⟨e1,e2⟩|⟨e1,e2⟩
   .subst e1;exactλh=>h.elim
   .subst e1;exact a2 _ hm b hr
 refine Code.wp_mono ?_ (ygd (g:=g) rfl h4 H hinit);intro e a' w' hl
 have fin:∀s blk,yaeb s rs cs' res->Repr g s a' w' blk->a'.defers=[]/\∃v,(results fn a'.tmps).run P w'=.ok v w'/\(∃v',Ending.returned v=.returned v'/\Off (λb=>b=b0\/F1 b) w w'/\
  BoxOk w' (λb=>((G b\/F1 b)\/(w.heap.size<=b/\b<w'.heap.size))/\b≠b0) b0 cs'/\RV w' noF noO noB v' res):=by
  rintro s blk ⟨c1,c2,c3⟩ h
  obtain⟨v,e1,e2⟩:=yyI h h5 c3;have hsl:=h.env 1000000;have hv:g.val a' 1000000=.pointer (some ⟨b0,0,none⟩):=by unfold ySm.val;rw[if_neg (by unfold jV;omega)];simp[g,jV]
  rw[hv,c1]at hsl;obtain⟨b1,cells,q1,q2,q3⟩:=(show RV1 w' (Good g s.yRU blk w') s.yRU blk (.pointer (some ⟨b0,0,none⟩)) (.box 0 0)from hsl);have hb1:b1=b0:=by injection q3 with q3;injection q3 with q3;injection q3 with q3;exact q3.symm
  subst hb1;have q2':blk.root 0=some b1:=q2;have hlive:s.yRU 0≠.none:=by rw[show s.yRU 0=_ from c2];simp
  have hGd:∀b,Good g s.yRU blk w' b->((G b\/F1 b)\/(w.heap.size<=b/\b<w'.heap.size))/\b≠b1:=by
   intro b hb;have ne:b≠b1:=λe=>by subst e;exact hb.2 0 hlive (.inl q2')
   refine⟨?_,ne⟩;rcases hb.1 with(e|e)|e
   .exact .inl (.inl e)
   .rcases e with e|e
    .exact absurd e ne
    .exact .inl (.inr e)
   .exact .inr e
  refine⟨h.defers,v,e1,v,rfl,h.below,?_,ybN hsc e2⟩;obtain⟨arr,ty,r1,r2,r3⟩:=h.box c2 q2;refine⟨arr,ty,r1,by simpa using r2,λj c hc=>?_⟩;obtain⟨u,hu,hr⟩:=r3 j (.c c) (by simp[hc]);exact⟨u,hu,Rd.mono hr hGd (λ_ _ _ h=>h)⟩
 cases e with
 |normal=>obtain⟨s,blk,hr,h⟩:=hl;exact fin s blk hr h
 |exit id=>obtain⟨s,blk,hr,h⟩:=hl;exact hr.elim
 |ret=>obtain⟨s,blk,hr,h⟩:=hl;exact fin s blk hr h
 |goto l=>exact hl.elim
 |panic ch=>exact hl.elim
 |outgrown=>exact hl.elim
@[simp] def yaeG{cs:List C}{k:Nat}{rows:List (List C)}{t:Nat}:(yZl cs k rows).env t=if t=1000000 then .box 0 0 else if t=0 then .box 0 0 else if t=1 then .own 1 k rows.length else .any:=rfl
@[simp] def yaeK{cs:List C}{k:Nat}{rows:List (List C)}{i:Nat}:(yZl cs k rows).ob i=if i=0 then .box (cs.map .c)else if i=1 then .row k rows else .none:=rfl
@[simp] def yaeJ{s:St}{rs:List RS}{cs':List C}{res:AV}:yaeb s rs cs' res=(s.env 1000000=.box 0 0/\s.ob 0=.box (cs'.map .c)/\ybG s rs res):=rfl
end Go.Proofs.YtdadkiofenhnbaaGreat
