/- The machine of the proof: an abstract run of the code, proved sound. -/
import Derived.Test.YtdadkiofenhnbaaGreatTA7
set_option linter.all false
namespace Go.Proofs.YtdadkiofenhnbaaGreat
open Go.RowKit
def BoxOk(w:World)(G:Nat->Prop)(b:Nat)(cs:List C):Prop:=
 ∃(arr:Array Value) (e:TypeId),w.heap[b]?=some (.cells arr e (0,0))/\arr.size=cs.length/\∀(j:Nat) (c:C),cs[j]?=some c->∃u:Value,arr[j]?=some u/\Rd w G u c
def yZW(P:Program)(f:Nat)(cs cs':List C)(args:List AV)(res:AV):Prop:=
 ∀ (w:World) (G:Nat->Prop) (b0:Nat),(∀b,G b->b<w.heap.size)->b0<w.heap.size->¬G b0->∀vs:Array Value,vs.size=args.length+1->vs[0]?=some (.pointer (some ⟨b0,0,none⟩))->BoxOk w G b0 cs->
  (∀(j:Nat) (y:AV),args[j]?=some y->∃u:Value,vs[j+1]?=some u/\RV w G noO noB u y)->
  Calls P f vs w λe w'=>∃v F2,e=.returned v/\Off (λb=>b=b0) w w'/\(∀b,F2 b->w.heap.size<=b/\b<w'.heap.size)/\
   BoxOk w' (λb=>(G b\/(w.heap.size<=b/\b<w'.heap.size))/\¬F2 b/\b≠b0) b0 cs'/\
   AOk w' (λb=>(G b\/(w.heap.size<=b/\b<w'.heap.size))/\¬F2 b/\b≠b0) v res F2
section
variable {g:ySm} {s:St} {a:Act} {w:World} {L:Lay}
def Repr.yaeE(h:Repr g s a w L){w':World}{F:Nat->Prop}{v:Value}{res:AV}{d id b0:Nat}{cs cs':List C}(hO:s.ob id=.box (cs.map .c))(hb0:L.root id=some b0)
 (hoff:Off (λb=>b=b0) w w') (hF:∀b,F b->w.heap.size<=b/\b<w'.heap.size)
 (hbox:BoxOk w' (λb=>(Good g s.yRU L w b\/(w.heap.size<=b/\b<w'.heap.size))/\¬F b/\b≠b0) b0 cs')
 (ho:AOk w' (λb=>(Good g s.yRU L w b\/(w.heap.size<=b/\b<w'.heap.size))/\¬F b/\b≠b0) v res F) (hfr:fD s (res.fK d)):
 ∃L':Lay,Repr g ⟨s.env,nG (upd id (.box (cs'.map .c)) s.yRU) (res.fK d)⟩ a w' L'/\
  RV w' (Good g (nG (upd id (.box (cs'.map .c)) s.yRU) (res.fK d)) L' w') (nG (upd id (.box (cs'.map .c)) s.yRU) (res.fK d)) L' v (res.unp d):=by
 obtain⟨R,S,h1,h2,h3,h4,h5⟩:=ho.lays hfr.2;generalize hl:res.fK d=l at *;have hO':s.yRU id=.box (cs.map .c):=hO;have hlive:s.yRU id≠.none:=by rw[hO'];simp
 let L':Lay:=⟨λi=>if i∈l.map (·.1)then R i else L.root i,λi=>if i∈l.map (·.1)then S i else L.sub i⟩
 have rt:∀i,L'.root i=if i∈l.map (·.1)then R i else L.root i:=λi=>rfl
 have sb:∀i,L'.sub i=if i∈l.map (·.1)then S i else L.sub i:=λi=>rfl
 have mem:∀i,i∈l.map (·.1)->∃p,p∈l/\p.1=i:=λi hi=>by obtain⟨p,hp,e⟩:=zaP.1 hi;exact⟨p,hp,e⟩
 have fpF:∀i,i∈l.map (·.1)->∀b,L'.fp i b->F b:=by
  intro i hi b hf;obtain⟨p,hp,rfl⟩:=mem i hi;unfold Lay.fp at hf;rw[rt,sb,if_pos hi,if_pos hi]at hf;exact h1 p hp b hf
 have none_:∀i,i∈l.map (·.1)->s.yRU i=.none:=by
  intro i hi;obtain⟨p,hp,rfl⟩:=mem i hi;exact hfr.1 p hp
 have hid:id∉l.map (·.1):=λhm=>hlive (none_ id hm)
 have fpI:∀b,L'.fp id b↔L.fp id b:=by
  intro b;unfold Lay.fp;rw[rt,sb,if_neg hid,if_neg hid]
 have oI:nG (upd id (.box (cs'.map .c)) s.yRU) l id=.box (cs'.map .c):=by
  rw[kY hid];simp[jG]
 have key:=h.yq6 [] (λi=>i∈l.map (·.1)\/i=id) (objs':=nG (upd id (.box (cs'.map .c)) s.yRU) l) (w':=w') (L':=L') (X:=λb=>b=b0) hoff
  (λq hq=>⟨id,.inl (.inr rfl),hlive,.inl (by rw[hq];exact hb0)⟩)
  (λi hi=>by
   have h1:i∉l.map (·.1):=λe=>hi (.inl e);have h2:i≠id:=λe=>hi (.inr e);exact⟨by rw[kY h1];simp[Obj.yTq,jG,h2],by rw[rt,if_neg h1],by rw[sb,if_neg h1]⟩)
  (λi b hi _ hf=>by
   rcases hi with hi|rfl
   .exact .inr (hF b (fpF i hi b hf))
   .exact .inl ⟨i,.inl (.inr rfl),hlive,(fpI b).1 hf⟩)
  (λi j b hi hj _ _ hfi hfj=>by
   have cross:∀i,i∈l.map (·.1)->L'.fp i b->L'.fp id b->False:=by
    intro i hi hfi hfj;have e1:=hF b (fpF i hi b hfi);have e2:=(h.new id b hlive ((fpI b).1 hfj)).2;omega
   rcases hi with hi|rfl<;>rcases hj with hj|rfl
   .obtain⟨p,hp,rfl⟩:=mem i hi;obtain⟨q,hq,rfl⟩:=mem j hj;unfold Lay.fp at hfi hfj;rw[rt,sb,if_pos hi,if_pos hi]at hfi;rw[rt,sb,if_pos hj,if_pos hj]at hfj;exact h3 p q hp hq b hfi hfj
   .exact(cross i hi hfi hfj).elim
   .exact(cross j hj hfj hfi).elim
   .rfl)
  (λi b hi _ hr=>by
   rcases hi with hi|rfl
   .obtain⟨p,hp,rfl⟩:=mem i hi;rw[rt,if_pos hi]at hr;rw[sb,if_pos hi];exact h2 p hp b hr
   .rw[rt,if_neg hid]at hr;rw[sb,if_neg hid];exact h.apart i b hlive hr)
  (λi hi _ hn=>by
   rcases hi with hi|rfl
   .exact absurd (none_ i hi) hn
   .rw[oI,hO'];exact⟨trivial,by rw[rt,if_neg hid]⟩)
  (λi k v' rows hi _ hk=>by
   rcases hi with hi|rfl
   .rw[none_ i hi]at hk;cases hk
   .rw[hO']at hk;cases hk)
  (λG' K hN hM i hi=>by
   have hG:∀b,((Good g s.yRU L w b\/(w.heap.size<=b/\b<w'.heap.size))/\¬F b/\b≠b0)->G' b:=by
    rintro b ⟨e1,e2,e3⟩
    rcases e1 with e1|e1
    .exact K.good b e1
    .refine hN b e1.1 e1.2 λi hi _ hf=>?_;rcases hi with hi|rfl
     .exact e2 (fpF i hi b hf)
     .have:=(h.new i b hlive ((fpI b).1 hf)).2;omega
   rcases hi with hi|rfl
   .obtain⟨p,hp,rfl⟩:=mem i hi;rw[rt,sb,if_pos hi,if_pos hi,kW hfr.2 p hp];exact h5 G' _ _ hG p hp
   .rw[rt,if_neg hid,oI];obtain⟨arr,e,q1,q2,q3⟩:=hbox;refine⟨b0,arr,e,hb0,q1,by simp[q2],λj x hx=>?_⟩;rw[zau,zam]at hx;obtain⟨c,hc,rfl⟩:=hx;obtain⟨u,hu,hr⟩:=q3 j c hc;exact⟨u,hu,Rd.mono hr hG (λ_ _ _ h=>h)⟩)
 obtain⟨k1,k2,k3⟩:=key;refine⟨L',k1,h4 _ _ _ (λb hb=>?_) λp hp=>⟨kW hfr.2 p hp,by show L'.root p.1=_;rw[rt,if_pos (zbx hp)]⟩⟩;obtain⟨e1,e2,e3⟩:=hb;rcases e1 with e1|e1
 .exact k2.good b e1
 .refine k3 b e1.1 e1.2 λi hi _ hf=>?_;rcases hi with hi|rfl
  .exact e2 (fpF i hi b hf)
  .have:=(h.new i b hlive ((fpI b).1 hf)).2;omega
end
section
variable {P:Program} {f:Nat} {s:St} {d id:Nat} {avs args:List AV} {res:AV} {K:St->Prop} {cs cs':List C}
def yYE(hp:yZW P f cs cs' args res)(hO:s.ob id=.box (cs.map .c))(ho:iO s avs args)(hdat:avs.all AV.nU=true)(hfr:fD s (res.fK d))
 (hK:K ((s.iG id (.box (cs'.map .c))).take d res)):yat P f (.box id 0::avs) (some d) s K:=by
 intro g a w blk h hd vs hvs hv;obtain⟨h1,h2⟩:=yV ho;have hlive:s.yRU id≠.none:=by rw[show s.yRU id=_ from hO];simp
 obtain⟨v0,hv0,hr0⟩:=hv 0 _ rfl;obtain⟨b0,cells,q1,q2,rfl⟩:=(show RV1 w (Good g s.yRU blk w) s.yRU blk v0 (.box id 0)from hr0);obtain⟨arr,e,r1,r2,r3⟩:=h.box hO q2;have q2':blk.root id=some b0:=q2
 have hbox:BoxOk w (Good g s.yRU blk w) b0 cs:=⟨arr,e,r1,by simpa using r2,λj c hc=>by
  obtain⟨u,hu,hr⟩:=r3 j (.c c) (by simp[hc]);exact⟨u,hu,hr⟩⟩
 refine(hp w (Good g s.yRU blk w) b0 (λb hb=>ycl h hb) (h.new id b0 hlive (.inl q2')).2 (λhb=>hb.2 id hlive (.inl q2')) vs (by simp at hvs;omega) hv0 hbox (λj y hj=>?_)).mono ?_
 .obtain⟨x,hx,hxy⟩:=h2 j y hj;obtain⟨u,hu,hru⟩:=hv (j+1) x (by simpa using hx);exact⟨u,hu,ykY (λ_ h=>h) hru (zaf.1 hdat x (zac hx)) hxy⟩
 .rintro e w' ⟨v,F,rfl,hoff,hF,hb,hr⟩
  obtain⟨L',k1,k2⟩:=h.yaeE hO q2' hoff hF hb hr hfr;exact⟨v,rfl,_,L',hK,k1.put hd k2⟩
end
def yY4(cs:List C)(args:List AV):St:=⟨λt=>if t=1000000 then .box 0 0 else if t=0 then .box 0 0 else(args[t-1]?).getD .any,λi=>if i=0 then .box (cs.map .c)else .none⟩
def yabV(k:Nat):Obj->List Nat
 | .box cells=>if cells.length=k then cells.flatMap AV.oid else[]
 |_=>[]
def yabd(s:St)(k:Nat):AV->List Nat
 | .box id 0=>yabV k (s.ob id)
 |_=>[]
def yaea:Obj->List Nat
 | .box [x]=>x.yfL
 |_=>[]
def yacz(s:St):AV->List Nat
 | .box id 0=>yaea (s.ob id)
 |_=>[]
def yZk(s:St):RS->List Nat
 | .t n=>(s.env n).yfL
 | .cl n k=>yabd s k (s.env n)
 | .c1 n=>yacz s (s.env n)
def curP(s:St)(rs:List RS)(cs':List C)(res:AV):Prop:=s.env 1000000=.box 0 0/\s.ob 0=.box (cs'.map .c)/\0∉rs.flatMap (yZk s)/\ykX s rs res
def yacM{s:St}{r:RS}{x:AV}(h:yef s r=some x):x.yfL=yZk s r:=by
 cases r with
 |t n=>
  simp only[yef]at h;split at h
  .cases h
  .cases h;rfl
 | cl n k=>
  simp only[yef]at h;split at h
  .rename_i id he;split at h
   .rename_i cells ho;split at h
    .rename_i hl;cases h;simp[yZk,yabd,he,ho,yabV,hl,AV.yfL]
    .cases h
   .cases h
  .cases h
 | c1 n=>
  simp only[yef]at h;split at h
  .rename_i id he;split at h
   .rename_i y ho;cases h;simp[yZk,yacz,he,ho,yaea]
   .cases h
  .cases h
def yaaK{s:St}:∀{rs:List RS} {xs:List AV},ybW s rs=some xs->xs.flatMap AV.yfL=rs.flatMap (yZk s)
 |[],xs,h=>by cases h;rfl
 | r::rs,xs,h=>by
  simp only[ybW]at h;split at h
  .rename_i x xs' h1 h2;cases h;rw[zaU,zaU,yacM h1,yaaK h2]
  .cases h
section
variable {P:Program} {g:ySm} {s:St} {a:Act} {w:World} {L:Lay}
def yadF(h:Repr g s a w L){fn:Func}{rs:List RS}{res:AV}(hc:ybo P fn.results.toList=some rs)(hy:ykX s rs res):
 ∃v F,(results fn a.tmps).run P w=.ok v w/\AOk w (Good g s.yRU L w) v res F/\∀b,F b->∃i0,i0∈rs.flatMap (yZk s)/\s.yRU i0≠.none/\L.fp i0 b:=by
 unfold ykX at hy;split at hy
 case h_2=>exact hy.elim
 rename_i xs hxs;rw[<-yaaK hxs];obtain⟨vs,e1,e2,e3,e4⟩:=yxo h hc hxs;unfold yIl at hy;split at hy
 .rename_i x;obtain⟨hy,hnd⟩:=hy;obtain⟨u,hu,hr⟩:=e4 0 x rfl;obtain⟨F,k1,k2⟩:=yyo h hr hy hnd
  match vs,e2,hu with
  |[u'],_,hu=>
   simp at hu;subst hu;refine⟨_,F,yfd e1,?_,λb hb=>let⟨i0,m0,m⟩:=k2 b hb;⟨i0,by simpa using m0,m⟩⟩;cases res<;>first|exact k1|exact k1.elim
 .rename_i hne;obtain⟨ys,rfl,hy,hnd⟩:=hy;obtain⟨Fs,f1,f2,f3,f4⟩:=yAt h (us:=vs) hy e4 hnd
  have hl:vs.toArray.size≠1:=by
   intro e;have:xs.length=1:=by rw[<-e2];simpa using e
   match xs,this,hne with
   |[r],_,hne=>exact hne r rfl
  refine⟨_,λb=>∃j,Fs j b,yfd e1,?_,λb hb=>let⟨j,hj⟩:=hb;f3 j b hj⟩;rw[dif_neg hl];refine⟨vs.toArray,rfl,by simp[e2,f1],Fs,λj y hj=>?_,λj b hb=>⟨j,hb⟩,f4⟩;obtain⟨u,hu,hr⟩:=f2 j y hj;exact⟨u,by simpa using hu,hr⟩
end
def yZP{P:Program}{f N:Nat}{c:SC}{rs:List RS}{cs cs':List C}{args:List AV}{res:AV}(hf:Has P f N c rs)(hN:args.length+1<=N)
 (H:ycR args->(∀c,c∈cs->c.WF)->wpS P N c (yY4 cs args) (λe s=>match e with| .exit _=>False|_=>curP s rs cs' res)):yZW P f cs cs' args res:=by
 obtain⟨fn,code,h1,h2,h3,⟨fl,h4⟩,h5⟩:=hf.ok;intro w G b0 hG hb0 hGb vs hvs hv0 hx hv
 have hwf:ycR args:=ygQ args λx hx=>by
  obtain⟨j,hj⟩:=zat hx;obtain⟨u,_,hr⟩:=hv j x hj;exact yDe hr
 obtain⟨arr,ty,x1,x2,x3⟩:=hx
 have hwf2:∀c,c∈cs->c.WF:=λc hc=>by
  obtain⟨j,hj⟩:=zat hc;obtain⟨u,_,hr⟩:=x3 j c hj;exact hr.wf
 refine calls_of_wp h1 h2 ?_
 let g:ySm:=⟨w,G,(λb=>b=b0),N,#[.pointer (some ⟨b0,0,none⟩)]⟩
 let L0:Lay:=⟨λi=>if i=0 then some b0 else none,λ_=>noF⟩
 have hob:∀i,(yY4 cs args).yRU i≠.none->i=0:=by
  intro i hi
  by_cases h:i=0
  .exact h
  .exact absurd (show(yY4 cs args).yRU i=.none from if_neg h) hi
 have hob0:(yY4 cs args).yRU 0=.box (cs.map .c):=by simp[yY4]
 have fp0:∀b,L0.fp 0 b->b=b0:=by
  rintro b (h|h)
  .have:some b0=some b:=h;cases this;rfl
  .exact h.elim
 have hgood:∀b,G b->Good g (yY4 cs args).yRU L0 w b:=by
  intro b hb;refine⟨.inl (.inl hb),λi hi hf=>?_⟩;have:=hob i hi;subst this;exact hGb (fp0 b hf▸hb)
 have hptr:∀{G':Nat->Prop},RV w G' (yY4 cs args).yRU L0 (.pointer (some ⟨b0,0,none⟩)) (.box 0 0):=⟨b0,_,hob0,rfl,rfl⟩
 have hinit:Repr g (yY4 cs args) {tmps:=vs++Array.replicate (fn.ntmps-vs.size) undef,defers:=[]} w L0:=by
  refine⟨by simp[g];omega,hf.small,rfl,Off.refl _ _,hG,λb hb=>?_,λb hb hx=>?_,λt=>?_,λid=>?_,λid b hid hfp=>?_,λi j b hi hj hfi hfj=>?_,λi b hi hr=>?_⟩
  .have:b=b0:=hb
   show b<w.heap.size
   omega
  .have:b=b0:=hx;exact hGb (this▸hb)
  .have hsm:=hf.small
   have val:∀u,vs[t]?=some u->g.val {tmps:=vs++Array.replicate (fn.ntmps-vs.size) undef,defers:=[]} t=u:=by
    intro u hu;have hlt:t<vs.size:=(zaJ.1 hu).1;unfold ySm.val;rw[if_pos (by unfold jV at *;omega),zan,zbS hlt,hu];rfl
   show RV _ _ _ _ _ (if t=1000000 then .box 0 0 else if t=0 then .box 0 0 else(args[t-1]?).getD .any)
   split
   .rename_i e;subst e
    have:g.val {tmps:=vs++Array.replicate (fn.ntmps-vs.size) undef,defers:=[]} 1000000=.pointer (some ⟨b0,0,none⟩):=by
     unfold ySm.val;rw[if_neg (by unfold jV;omega)];simp[g,jV]
    rw[this];exact hptr
   .split
    .rename_i e;subst e;rw[val _ hv0];exact hptr
    .rename_i e1 e2;cases ht:args[t-1]? with
     |none=>trivial
     |some y=>
      obtain⟨u,hu,hr⟩:=hv (t-1) y ht;rw[show t-1+1=t by omega]at hu;rw[val u hu];exact yey (O:=(yY4 cs args).yRU) hgood hr
  .by_cases hm:id=0
   .subst hm;rw[hob0];refine⟨b0,arr,ty,rfl,x1,by simp[x2],λj x hx=>?_⟩;rw[zau,zam]at hx;obtain⟨c,hc,rfl⟩:=hx;obtain⟨u,hu,hr⟩:=x3 j c hc;exact⟨u,hu,Rd.mono hr hgood (λ_ _ _ h=>h)⟩
   .rw[show(yY4 cs args).yRU id=.none by simp[yY4,hm]];trivial
  .have:=hob id hid;subst this;have:=fp0 b hfp;exact⟨.inl this,by omega⟩
  .rw[hob i hi,hob j hj]
  .exactλh=>h.elim
 refine Code.wp_mono ?_ (ygd (g:=g) rfl h4 (H hwf hwf2) hinit);intro e a' w' hl
 have fin:∀s blk,curP s rs cs' res->Repr g s a' w' blk->a'.defers=[]/\∃v,(results fn a'.tmps).run P w'=.ok v w'/\(∃v' F2,Ending.returned v=.returned v'/\Off (λb=>b=b0) w w'/\(∀b,F2 b->w.heap.size<=b/\b<w'.heap.size)/\
  BoxOk w' (λb=>(G b\/(w.heap.size<=b/\b<w'.heap.size))/\¬F2 b/\b≠b0) b0 cs'/\
  AOk w' (λb=>(G b\/(w.heap.size<=b/\b<w'.heap.size))/\¬F2 b/\b≠b0) v' res F2):=by
  rintro s blk ⟨c1,c2,c3,c4⟩ h
  obtain⟨v,F,e1,e2,e3⟩:=yadF h h5 c4;have hsl:=h.env 1000000;have hv:g.val a' 1000000=.pointer (some ⟨b0,0,none⟩):=by unfold ySm.val;rw[if_neg (by unfold jV;omega)];simp[g,jV]
  rw[hv,c1]at hsl;obtain⟨b1,cells,q1,q2,q3⟩:=(show RV1 w' (Good g s.yRU blk w') s.yRU blk (.pointer (some ⟨b0,0,none⟩)) (.box 0 0)from hsl);have hb1:b1=b0:=by injection q3 with q3;injection q3 with q3;injection q3 with q3;exact q3.symm
  subst hb1;have q2':blk.root 0=some b1:=q2;have hlive:s.yRU 0≠.none:=by rw[show s.yRU 0=_ from c2];simp
  have hF:∀b,F b->w.heap.size<=b/\b<w'.heap.size:=by
   intro b hb;obtain⟨i0,m0,m1,m2⟩:=e3 b hb;obtain⟨n1,n2⟩:=h.new i0 b m1 m2;rcases n1 with n1|n1
   .have n1:b=b1:=n1;subst n1;have:=h.inj i0 0 b m1 hlive m2 (.inl q2');exact absurd (this▸m0) c3
   .exact⟨n1,n2⟩
  have hGd:∀b,Good g s.yRU blk w' b->(G b\/(w.heap.size<=b/\b<w'.heap.size))/\¬F b/\b≠b1:=by
   intro b hb;refine⟨hb.1.elim (λq=>q.elim .inl λe=>(hb.2 0 hlive (.inl (by have e:b=b1:=e;rw[e];exact q2'))).elim) .inr,λhF=>?_,λe=>?_⟩
   .obtain⟨i0,m0,m1,m2⟩:=e3 b hF;exact hb.2 i0 m1 m2
   .subst e;exact hb.2 0 hlive (.inl q2')
  refine⟨h.defers,v,e1,v,F,rfl,h.below,hF,?_,e2.mono hGd (λ_ _ _ h=>h) (λ_ h=>h) (λ_ _=>rfl)⟩;obtain⟨arr,ty,r1,r2,r3⟩:=h.box c2 q2;refine⟨arr,ty,r1,by simpa using r2,λj c hc=>?_⟩;obtain⟨u,hu,hr⟩:=r3 j (.c c) (by simp[hc]);exact⟨u,hu,Rd.mono hr hGd (λ_ _ _ h=>h)⟩
 cases e with
 |normal=>obtain⟨s,blk,hr,h⟩:=hl;exact fin s blk hr h
 |exit id=>obtain⟨s,blk,hr,h⟩:=hl;exact hr.elim
 |ret=>obtain⟨s,blk,hr,h⟩:=hl;exact fin s blk hr h
 |goto l=>exact hl.elim
 |panic ch=>exact hl.elim
 |outgrown=>exact hl.elim
@[simp] def yaem{cs:List C}{args:List AV}{t:Nat}:(yY4 cs args).env t=if t=1000000 then .box 0 0 else if t=0 then .box 0 0 else(args[t-1]?).getD .any:=rfl
@[simp] def yaeF{cs:List C}{args:List AV}{i:Nat}:(yY4 cs args).ob i=if i=0 then .box (cs.map .c)else .none:=rfl
@[simp] def curP_eq{s:St}{rs:List RS}{cs':List C}{res:AV}:curP s rs cs' res=(s.env 1000000=.box 0 0/\s.ob 0=.box (cs'.map .c)/\0∉rs.flatMap (yZk s)/\ykX s rs res):=rfl
@[simp] def yaeH{s:St}{n:Nat}:yZk s (.t n)=(s.env n).yfL:=rfl
@[simp] def yaeB{s:St}{n k:Nat}:yZk s (.cl n k)=yabd s k (s.env n):=rfl
@[simp] def yaer{s:St}{k id:Nat}:yabd s k (.box id 0)=yabV k (s.ob id):=rfl
@[simp] def yaex{k:Nat}{cells:List AV}:yabV k (.box cells)=if cells.length=k then cells.flatMap AV.oid else[]:=rfl
@[simp] def cunp_bx{d:Nat}{cs:List C}:(C.bx cs).unp d=if cs.all C.plain then .box d 0 else .any:=rfl
@[simp] def yaeO{d:Nat}{cs:List C}:(C.bx cs).fK d=if cs.all C.plain then[(d,.box (cs.map .c))]else[]:=rfl
def ybB.share{w:World}{G G':Nat->Prop}{v:Value}{x y:AV}{F:Nat->Prop}(h:ybB w G v x F)(hs:x.yoE y)(h1:∀b,G b->G' b)(h2:∀b,F b->G' b):ybB w G' v y noF:=by
 have hr:=ybB.yqb h hs h1 h2;cases x with
 |c c=>
  cases y with
  |c c'=>exact OT.sh hr
  |_=>exact hs.elim
 | agg l=>
  cases y with
  |agg l'=>
   obtain⟨arr,e,hsz,hg⟩:=hr;obtain⟨e1,e2⟩:=hs;refine⟨arr,e,hsz,λ_=>noF,λj z hj=>?_,λ_ _ h=>h,λ_ _ _ h=>h.elim⟩;obtain⟨u,hu,hr⟩:=hg j z hj;rw[e2,zau,zam]at hj;obtain⟨c,hc,rfl⟩:=hj;exact⟨u,c,rfl,hu,OT.sh hr⟩
  |_=>exact hs.elim
 |_=>exact h.elim
def yZW.share{P:Program}{f:Nat}{cs cs':List C}{args:List AV}{res y:AV}(h:yZW P f cs cs' args res)(hs:res.shr y)(hn:∀l,res≠.tup l):yZW P f cs cs' args y:=by
 intro w G b0 hG hb0 hGb vs hvs hv0 hx hv;refine(h w G b0 hG hb0 hGb vs hvs hv0 hx hv).mono ?_
 rintro e w' ⟨v,F2,e1,e2,e3,⟨arr,ty,x1,x2,x3⟩,e5⟩
 refine⟨v,noF,e1,e2,λb hb=>hb.elim,⟨arr,ty,x1,x2,λj c hj=>?_⟩,?_⟩
 .obtain⟨u,hu,hr⟩:=x3 j c hj;exact⟨u,hu,hr.mono (λb hb=>⟨hb.1,λh=>h.elim,hb.2.2⟩) (λ_ _ _ h=>h)⟩
 .have g1:∀b,((G b\/(w.heap.size<=b/\b<w'.heap.size))/\¬F2 b/\b≠b0)->((G b\/(w.heap.size<=b/\b<w'.heap.size))/\¬noF b/\b≠b0):=λb hb=>⟨hb.1,λh=>h.elim,hb.2.2⟩;have g2:∀b,F2 b->((G b\/(w.heap.size<=b/\b<w'.heap.size))/\¬noF b/\b≠b0):=λb hb=>⟨.inr (e3 b hb),λh=>h.elim,λh=>by have:=(e3 b hb).1;omega⟩;cases res with
  |tup l=>exact absurd rfl (hn l)
  |c c=>
   cases y with
   |c c'=>exact ybB.share (x:=.c c) (y:=.c c') e5 hs g1 g2
   |_=>exact hs.elim
  |agg l=>
   cases y with
   |agg l'=>exact ybB.share (x:=.agg l) (y:=.agg l') e5 hs g1 g2
   |_=>exact hs.elim
  |_=>exact e5.elim
end Go.Proofs.YtdadkiofenhnbaaGreat
