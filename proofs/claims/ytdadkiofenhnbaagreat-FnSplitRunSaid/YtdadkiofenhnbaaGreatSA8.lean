/- The machine of the proof: an abstract run of the code, proved sound. -/
import Derived.Test.YtdadkiofenhnbaaGreatSA7
set_option linter.all false
namespace Go.Proofs.YtdadkiofenhnbaaGreat
open Go.RowKit
def yI6{w:World}{G F:Nat->Prop}{v:Value}{cs:List C}(h:OT w G v (.bx cs) F):
 ∃(b0:Nat) (arr:Array Value) (e:TypeId) (Fs:Nat->Nat->Prop),v=.pointer (some ⟨b0,0,none⟩)/\w.heap[b0]?=some (.cells arr e (0,0))/\arr.size=cs.length/\F b0/\(∀j x,Fs j x->F x/\x≠b0)/\(∀j j' x,Fs j x->Fs j' x->j=j')/\
  ∀(j:Nat) (c:C),cs[j]?=some c->∃u,arr[j]?=some u/\OT w G u c (Fs j):=by
 cases h with
 |sh h=>cases h
 |@bx b0 cells arr e F0 vals Fs h1 h2 h3 h4 h5 h6 h7=>exact⟨b0,arr,e,Fs,rfl,h1,h2,h3,h4,h5,λj c hj=>⟨_,h6 j c hj,h7 j c hj⟩⟩
def yFK{s:St}{x:AV}{c:C}{l:List Nat}(h:pk1 s x=some (c,l)):∀i,i∈l->(s.yRU i).nO≠none:=by
 intro i hi;unfold pk1 at h;split at h
 .split at h
  .cases h;cases hi
  .cases h
 .cases h;cases hi
 .cases h;cases hi
 .split at h
  .rename_i ho;split at h
   .cases h;rw[zan]at hi;subst hi;rw[show s.yRU i=_ from ho];simp[Obj.nO]
   .cases h
  .rename_i ho;split at h
   .cases h;rw[zan]at hi;subst hi;rw[show s.yRU i=_ from ho];simp[Obj.nO]
   .cases h
  .cases h
 .cases h
def yuK{s:St}:∀{l:List AV} {cs:List C} {ids:List Nat},pkl s l=some (cs,ids)->∀i,i∈ids->(s.yRU i).nO≠none
 |[],cs,ids,h,i,hi=>by cases h;cases hi
 | x::l,cs,ids,h,i,hi=>by
  simp only[pkl]at h;split at h
  .rename_i c a cs' as h1 h2;cases h;rcases zaj.1 hi with hi|hi
   .exact yFK h1 i hi
   .exact yuK h2 i hi
  .cases h
def St.yqI(s:St)(ids:List Nat)(id d0:Nat)(cs':List C):St:=⟨(s.drops ids).env,nG (upd id (.box (ybi d0 0 cs')) (s.drops ids).yRU) (jP d0 0 cs')⟩
section
variable {g:ySm} {s:St} {a:Act} {w:World} {L:Lay}
def Repr.yqI(h:Repr g s a w L){w':World}{F':Nat->Prop}{id d0 b0:Nat}{ids:List Nat}{xs:List AV}{cs':List C}(hO:s.ob id=.box xs)(hb0:L.root id=some b0)(hni:id∉ids)
 {X:Nat->Prop} (hX1:∀b,X b->b=b0\/∃i,i∈ids/\s.yRU i≠.none/\L.fp i b)
 (hoff:Off X w w') (hF':∀b,F' b->X b\/(w.heap.size<=b/\b<w'.heap.size))
 (hot:OT w' (λb=>((Good g s.yRU L w b\/X b)\/(w.heap.size<=b/\b<w'.heap.size))/\¬F' b) (.pointer (some ⟨b0,0,none⟩)) (.bx cs') F') (hfr:fD (s.drops ids) (jP d0 0 cs')):
 ∃L':Lay,Repr g (s.yqI ids id d0 cs') a w' L':=by
 obtain⟨b1,arr,ty,Fs,q0,q1,q2,q3,q4,q5,q6⟩:=yI6 hot;have e0:b0=b1:=by injection q0 with q0;injection q0 with q0;injection q0
 subst e0
 obtain⟨R,S,h1,h2,h3,h4,h5⟩:=yla (w:=w') (G:=λb=>((Good g s.yRU L w b\/X b)\/(w.heap.size<=b/\b<w'.heap.size))/\¬F' b) d0 arr.toList q5 cs' 0 (λi c hc=>by
  obtain⟨u,hu,ho⟩:=q6 i c hc;rw[zbv];exact⟨u,by simpa using hu,ho⟩) hfr.2
 generalize hl:jP d0 0 cs'=l at *;have hO':s.yRU id=.box xs:=hO;have hlive:s.yRU id≠.none:=by rw[hO'];simp
 let L':Lay:=⟨λi=>if i∈l.map (·.1)then R i else L.root i,λi=>if i∈l.map (·.1)then S i else if i=id then noF else L.sub i⟩
 have rt:∀i,L'.root i=if i∈l.map (·.1)then R i else L.root i:=λi=>rfl
 have sb:∀i,L'.sub i=if i∈l.map (·.1)then S i else if i=id then noF else L.sub i:=λi=>rfl
 have mem:∀i,i∈l.map (·.1)->∃p,p∈l/\p.1=i:=λi hi=>by obtain⟨p,hp,e⟩:=zaM.1 hi;exact⟨p,hp,e⟩
 have fpF:∀i,i∈l.map (·.1)->∀b,L'.fp i b->F' b/\b≠b0:=by
  intro i hi b hf;obtain⟨p,hp,rfl⟩:=mem i hi;unfold Lay.fp at hf;rw[rt,sb,if_pos hi,if_pos hi]at hf;obtain⟨j,_,hj⟩:=h1 p hp b hf;exact q4 j b hj
 have none_:∀i,i∈l.map (·.1)->i∉ids->s.yRU i=.none:=by
  intro i hi hn;obtain⟨p,hp,rfl⟩:=mem i hi;have:=hfr.1 p hp;rw[St.yzF,if_neg hn]at this;exact Classical.byContradiction λhne=>(Obj.lY ids _).2 hne this
 have hid:id∉l.map (·.1):=λhm=>hlive (none_ id hm hni)
 have fpI:∀b,L'.fp id b->b=b0:=by
  intro b hb;unfold Lay.fp at hb;rw[rt,sb,if_neg hid,if_neg hid,if_pos rfl,hb0]at hb;rcases hb with e|e
  .cases e;rfl
  .exact e.elim
 have oI:nG (upd id (.box (ybi d0 0 cs')) (s.drops ids).yRU) l id=.box (ybi d0 0 cs'):=by
  rw[kY hid];simp[jG]
 have fX:∀b,X b->∃i,((i∈l.map (·.1)\/i=id)\/i∈ids)/\s.yRU i≠.none/\L.fp i b:=by
  intro b hb;rcases hX1 b hb with e|⟨i,e1,e2,e3⟩
  .exact⟨id,.inl (.inr rfl),hlive,.inl (by rw[e];exact hb0)⟩
  .exact⟨i,.inr e1,e2,e3⟩
 have e:(⟨λt=>(s.env t).kills ids,nG (upd id (.box (ybi d0 0 cs')) (s.drops ids).yRU) l⟩:St)=s.yqI ids id d0 cs':=by
  have:(λt=>(s.env t).kills ids)=(s.drops ids).env:=funext λt=>(St.ydJ ids s t).symm;rw[this,<-hl];rfl
 have key:=h.yq6 ids (λi=>i∈l.map (·.1)\/i=id) (objs':=nG (upd id (.box (ybi d0 0 cs')) (s.drops ids).yRU) l) (w':=w') (L':=L') (X:=X) hoff
  (λq hq=>fX q hq)
  (λi hi=>by
   have h1:i∉l.map (·.1):=λe=>hi (.inl e);have h2:i≠id:=λe=>hi (.inr e);exact⟨by rw[kY h1,jG,if_neg h2];exact St.pV ids s i,by rw[rt,if_neg h1],by rw[sb,if_neg h1,if_neg h2]⟩)
  (λi b hi _ hf=>by
   rcases hi with hi|rfl
   .rcases hF' b (fpF i hi b hf).1 with e|e
    .exact .inl (fX b e)
    .exact .inr e
   .exact .inl ⟨i,.inl (.inr rfl),hlive,.inl (by rw[fpI b hf];exact hb0)⟩)
  (λi j b hi hj _ _ hfi hfj=>by
   rcases hi with hi|rfl<;>rcases hj with hj|rfl
   .obtain⟨p,hp,rfl⟩:=mem i hi;obtain⟨q,hq,rfl⟩:=mem j hj;unfold Lay.fp at hfi hfj;rw[rt,sb,if_pos hi,if_pos hi]at hfi;rw[rt,sb,if_pos hj,if_pos hj]at hfj;exact h3 p q hp hq b hfi hfj
   .exact((fpF i hi b hfi).2 (fpI b hfj)).elim
   .exact((fpF j hj b hfj).2 (fpI b hfi)).elim
   .rfl)
  (λi b hi _ hr=>by
   rcases hi with hi|rfl
   .obtain⟨p,hp,rfl⟩:=mem i hi;rw[rt,if_pos hi]at hr;rw[sb,if_pos hi];exact h2 p hp b hr
   .rw[sb,if_neg hid,if_pos rfl]
    exactλh=>h.elim)
  (λi hi hn hs=>by
   rcases hi with hi|rfl
   .exact absurd (none_ i hi hn) hs
   .rw[oI,hO'];exact⟨trivial,by rw[rt,if_neg hid]⟩)
  (λi k v' rows hi hn hk=>by
   rcases hi with hi|rfl
   .rw[none_ i hi hn]at hk;cases hk
   .rw[hO']at hk;cases hk)
  (λG' K hN hM i hi=>by
   have hG:∀b,((Good g s.yRU L w b\/X b)\/(w.heap.size<=b/\b<w'.heap.size))/\¬F' b->G' b:=by
    rintro b ⟨e1,e2⟩
    have away:∀i,(i∈l.map (·.1)\/i=id)->nG (upd id (.box (ybi d0 0 cs')) (s.drops ids).yRU) l i≠.none->¬L'.fp i b:=by
     intro i hi _ hf;rcases hi with hi|rfl
     .exact e2 (fpF i hi b hf).1
     .exact e2 (by rw[fpI b hf];exact q3)
    rcases e1 with(e1|e1)|e1
    .exact K.good b e1
    .exact hM b (fX b e1) away
    .exact hN b e1.1 e1.2 away
   have hOB:∀p,p∈l->nG (upd id (.box (ybi d0 0 cs')) (s.drops ids).yRU) l p.1=p.2/\L'.root p.1=R p.1:=λp hp=>⟨kW hfr.2 p hp,by rw[rt,if_pos (zbd hp)]⟩;rcases hi with hi|rfl
   .obtain⟨p,hp,rfl⟩:=mem i hi;rw[rt,sb,if_pos hi,if_pos hi,kW hfr.2 p hp];exact h5 G' _ _ hG p hp
   .rw[oI,rt,if_neg hid];refine⟨b0,arr,ty,hb0,q1,by rw[yfc];exact q2,λj x hx=>?_⟩;obtain⟨u,hu,hr⟩:=h4 G' _ L'.root hG hOB j x hx;rw[zbv]at hu;exact⟨u,by simpa using hu,hr⟩)
 rw[e]at key;exact⟨L',key.1⟩
end
section
variable {P:Program} {f:Nat} {s:St} {d:Option Nat} {avs args:List AV} {res:AV} {K:St->Prop}
def yfT(d0:Nat){id:Nat}{ids:List Nat}{xs:List AV}{cs cs':List C}(hp:InF P f (.c (.bx cs)) (.c (.bx cs')) args res)(hO:s.ob id=.box xs)(hpk:pkl s xs=some (cs,ids))(hnd:ids.Nodup)
 (ho:iO s avs args) (hdat:avs.all AV.nU=true) (hs:res.scalar=true) (hfr:fD (s.drops ids) (jP d0 0 cs')) (hK:K ((s.yqI ids id d0 cs').put d res)):yat P f (.box id 0::avs) d s K:=by
 intro g a w blk h hd vs hvs hv;obtain⟨h1,h2⟩:=yV ho;obtain⟨v0,hv0,hr0⟩:=hv 0 _ rfl;have hlive:s.yRU id≠.none:=by rw[show s.yRU id=_ from hO];simp
 obtain⟨b0,cells,q1,q2,rfl⟩:=(show RV1 w (Good g s.yRU blk w) s.yRU blk v0 (.box id 0)from hr0);have q2':blk.root id=some b0:=q2;obtain⟨arr,e,r1,r2,r3⟩:=h.box hO q2;obtain⟨Fs,p1,p2,p3,p4⟩:=ys4 h (us:=arr.toList) hpk (λj x hj=>let⟨u,hu,hr⟩:=r3 j x hj;⟨u,by simpa using hu,hr⟩) hnd;have hni:id∉ids:=λhm=>yuK hpk id hm (by rw[show s.yRU id=_ from hO];rfl)
 have hne:∀i,i∈ids->s.yRU i≠.none->∀b,blk.fp i b->b≠b0:=by
  intro i hi hl b hf e;subst e;exact hni (h.inj i id b hl hlive hf (.inl q2')▸hi)
 let X:Nat->Prop:=λb=>b=b0\/∃i,i∈ids/\s.yRU i≠.none/\blk.fp i b
 have hot:OT w (Good g s.yRU blk w) (.pointer (some ⟨b0,0,none⟩)) (.bx cs) X:=by
  refine .bx (λj=>arr.toList.getD j undef) Fs r1 (by rw[r2,p1]) (.inl rfl) (λj x hx=>?_) p4 (λj c hc=>?_) (λj c hc=>?_)
  .obtain⟨i0,m0,m1,m2⟩:=p3 j x hx;exact⟨.inr ⟨i0,m0,m1,m2⟩,hne i0 m0 m1 x m2⟩
  .obtain⟨u,hu,_⟩:=p2 j c hc;rw[zaf,hu];simpa using hu
  .obtain⟨u,hu,ho⟩:=p2 j c hc;rw[zaf,hu];exact ho
 have hXl:∀b,X b->∃i,s.yRU i≠.none/\blk.fp i b:=by
  rintro b (e|⟨i,_,e2,e3⟩)
  .exact⟨id,hlive,.inl (by rw[e];exact q2')⟩
  .exact⟨i,e2,e3⟩
 refine(hp w (Good g s.yRU blk w) X (λb hb=>ycl h hb) (λb hb=>?_) (λb hb hx=>?_) vs _ (by simp at hvs;omega) hv0 hot (λj y hj=>?_)).mono ?_
 .obtain⟨i,e1,e2⟩:=hXl b hb;exact(h.new i b e1 e2).2
 .obtain⟨i,e1,e2⟩:=hXl b hx;exact hb.2 i e1 e2
 .obtain⟨x,hx,hxy⟩:=h2 j y hj;obtain⟨u,hu,hru⟩:=hv (j+1) x (by simpa using hx);exact⟨u,hu,ykY (λ_ h=>h) hru (zae.1 hdat x (zac hx)) hxy⟩
 .rintro e w' ⟨v,F',rfl,hoff,hF',hx',hr⟩
  obtain⟨L',hL⟩:=h.yqI hO q2' hni (X:=X) (λb hb=>hb) hoff hF' hx' hfr;exact⟨v,rfl,_,L',hK,hL.put hd (ybN hs hr)⟩
end
def yU(cs:List C)(args:List AV):St:=⟨λt=>if t=1000000 then .box 0 0 else if t=0 then .box 0 0 else(args[t-1]?).getD .any,λi=>if i=0 then .box (ybi 0 0 cs)else nG noO (jP 0 0 cs) i⟩
def ptrP(s:St)(rs:List RS)(cs':List C)(res:AV):Prop:=s.env 1000000=.box 0 0/\(∃xs ids,s.ob 0=.box xs/\pkl s xs=some (cs',ids)/\ids.Nodup)/\ybG s rs res
def yIz{c:C}{i:Nat}{p:Nat×Obj}(h:p∈c.fK i):p.1=i:=by
 cases c<;>simp only[C.fK]at h<;>first
  |(split at h<;>first|(rw[zan]at h;rw[h])|cases h)
  |(rw[zan]at h;rw[h])
  |cases h
def yzx:∀{cs:List C} {j:Nat} {p:Nat×Obj},p∈jP 0 j cs->1<=p.1
 |[],_,p,h=>by cases h
 |c::cs,j,p,h=>by
  rcases zaj.1 (show p∈c.fK (sid 0 j)++jP 0 (j+1) cs from h)with h|h
  .rw[yIz h];unfold sid;omega
  .exact yzx h
def ycN{P:Program}{f N:Nat}{c:SC}{rs:List RS}{cs cs':List C}{args:List AV}{res:AV}(hf:Has P f N c rs)(hN:args.length+1<=N)(hn:((jP 0 0 cs).map (·.1)).Nodup)(hsc:res.scalar=true)
 (H:ycR args->wpS P N c (yU cs args) (λe s=>match e with| .exit _=>False|_=>ptrP s rs cs' res)):InF P f (.c (.bx cs)) (.c (.bx cs')) args res:=by
 obtain⟨fn,code,h1,h2,h3,⟨fl,h4⟩,h5⟩:=hf.ok;intro w G F hG hF hGF vs v0 hvs hv0 hx hv
 have hwf:ycR args:=ygQ args λx hx=>by
  obtain⟨j,hj⟩:=zar hx;obtain⟨u,_,hr⟩:=hv j x hj;exact yDe hr
 refine calls_of_wp h1 h2 ?_;obtain⟨b0,arr,ty,Fs,rfl,x1,x2,x3,x4,x5,x6⟩:=yI6 hx
 obtain⟨R,S,a1,a2,a3,a4,a5⟩:=yla (w:=w) (G:=G) 0 arr.toList x5 cs 0 (λi c hc=>by
  obtain⟨u,hu,ho⟩:=x6 i c hc;rw[zbv];exact⟨u,by simpa using hu,ho⟩) hn
 have hge:∀p,p∈jP 0 0 cs->p.1≠0:=λp hp=>by have:=yzx hp;omega
 generalize hl:jP 0 0 cs=l at *
 let g:ySm:=⟨w,G,F,N,#[.pointer (some ⟨b0,0,none⟩)]⟩
 let ids:=l.map (·.1)
 have h0:0∉ids:=λhm=>by obtain⟨p,hp,e⟩:=zaM.1 hm;exact hge p hp e
 let L0:Lay:=⟨λi=>if i=0 then some b0 else if i∈ids then R i else none,λi=>if i∈ids then S i else noF⟩
 have o0:(yU cs args).yRU 0=.box (ybi 0 0 cs):=by simp[yU]
 have oI:∀i,i≠0->(yU cs args).yRU i=nG noO l i:=λi hi=>by rw[<-hl];exact if_neg hi
 have mem:∀i,i∈ids->∃p,p∈l/\p.1=i:=λi hi=>by obtain⟨p,hp,e⟩:=zaM.1 hi;exact⟨p,hp,e⟩
 have dead:∀i,i∉ids->nG noO l i=.none:=λi hi=>kY hi
 have rt:∀i,i∈ids->L0.root i=R i:=λi hi=>by
  show(if i=0 then some b0 else if i∈ids then R i else none)=R i
  rw[if_neg (λe=>by subst e;exact h0 hi),if_pos hi]
 have sb:∀i,i∈ids->L0.sub i=S i:=λi hi=>if_pos hi
 have fp0:∀b,L0.fp 0 b->b=b0:=by
  rintro b (e|e)
  .have e:some b0=some b:=e;cases e;rfl
  .have e:(if 0∈ids then S 0 else noF) b:=e;rw[if_neg h0]at e;exact e.elim
 have fpI:∀i b,i∈ids->L0.fp i b->F b/\b≠b0:=by
  intro i b hi hf;obtain⟨p,hp,rfl⟩:=mem i hi;unfold Lay.fp at hf;rw[rt _ hi,sb _ hi]at hf;obtain⟨j,_,hj⟩:=a1 p hp b hf;exact x4 j b hj
 have live:∀i,(yU cs args).yRU i≠.none->i=0\/i∈ids:=by
  intro i hi
  by_cases e:i=0
  .exact .inl e
  .rw[oI i e]at hi
   by_cases hm:i∈ids
   .exact .inr hm
   .exact absurd (dead i hm) hi
 have hgood:∀b,G b->Good g (yU cs args).yRU L0 w b:=by
  intro b hb;refine⟨.inl (.inl hb),λi hi hf=>?_⟩;rcases live i hi with rfl|hm
  .exact hGF b hb (by rw[fp0 b hf];exact x3)
  .exact hGF b hb (fpI i b hm hf).1
 have hptr:∀{G':Nat->Prop},RV w G' (yU cs args).yRU L0 (.pointer (some ⟨b0,0,none⟩)) (.box 0 0):=⟨b0,_,o0,rfl,rfl⟩;have hOB:∀p,p∈l->(yU cs args).yRU p.1=p.2/\L0.root p.1=R p.1:=λp hp=>⟨by rw[oI _ (hge p hp)];exact kW hn p hp,rt _ (zbd hp)⟩
 have hinit:Repr g (yU cs args) {tmps:=vs++Array.replicate (fn.ntmps-vs.size) undef,defers:=[]} w L0:=by
  refine⟨by simp[g];omega,hf.small,rfl,Off.refl _ _,hG,hF,hGF,λt=>?_,λid=>?_,λid b hid hfp=>?_,λi j b hi hj hfi hfj=>?_,λi b hi hr=>?_⟩
  .have hsm:=hf.small
   have val:∀u,vs[t]?=some u->g.val {tmps:=vs++Array.replicate (fn.ntmps-vs.size) undef,defers:=[]} t=u:=by
    intro u hu;have hlt:t<vs.size:=(zaE.1 hu).1;unfold ySm.val;rw[if_pos (by unfold jV at *;omega),zak,zbt hlt,hu];rfl
   show RV _ _ _ _ _ (if t=1000000 then .box 0 0 else if t=0 then .box 0 0 else(args[t-1]?).getD .any)
   split
   .rename_i e;subst e
    have:g.val {tmps:=vs++Array.replicate (fn.ntmps-vs.size) undef,defers:=[]} 1000000=.pointer (some ⟨b0,0,none⟩):=by
     unfold ySm.val;rw[if_neg (by unfold jV;omega)];simp[g,jV]
    rw[this];exact hptr
   .split
    .rename_i e;subst e;rw[val _ hv0];exact hptr
    .rename_i e1 e2;cases ht:args[t-1]? with
     |none=>trivial
     |some y=>
      obtain⟨u,hu,hr⟩:=hv (t-1) y ht;rw[show t-1+1=t by omega]at hu;rw[val u hu];exact yey (O:=(yU cs args).yRU) hgood hr
  .by_cases e:id=0
   .subst e;rw[o0];refine⟨b0,arr,ty,rfl,x1,by rw[yfc];exact x2,λj x hx=>?_⟩;obtain⟨u,hu,hr⟩:=a4 _ _ L0.root hgood hOB j x hx;rw[zbv]at hu;exact⟨u,by simpa using hu,hr⟩
   .rw[oI id e]
    by_cases hm:id∈ids
    .obtain⟨p,hp,rfl⟩:=mem id hm;rw[kW hn p hp,sb _ hm,show L0.root p.1=_ from rt _ hm];exact a5 _ _ _ hgood p hp
    .rw[dead id hm];trivial
  .rcases live id hid with rfl|hm
   .rw[fp0 b hfp];exact⟨.inl x3,hF b0 x3⟩
   .have:=(fpI id b hm hfp).1;exact⟨.inl this,hF b this⟩
  .rcases live i hi with rfl|hm<;>rcases live j hj with rfl|hm'
   .rfl
   .exact((fpI j b hm' hfj).2 (fp0 b hfi)).elim
   .exact((fpI i b hm hfi).2 (fp0 b hfj)).elim
   .obtain⟨p,hp,rfl⟩:=mem i hm;obtain⟨q,hq,rfl⟩:=mem j hm';unfold Lay.fp at hfi hfj;rw[rt _ hm,sb _ hm]at hfi;rw[rt _ hm',sb _ hm']at hfj;exact a3 p q hp hq b hfi hfj
  .rcases live i hi with rfl|hm
   .show¬(if 0∈ids then S 0 else noF) b
    rw[if_neg h0];exactλh=>h.elim
   .obtain⟨p,hp,rfl⟩:=mem i hm;rw[rt _ hm]at hr;rw[sb _ hm];exact a2 p hp b hr
 refine Code.wp_mono ?_ (ygd (g:=g) rfl h4 (H hwf) hinit);intro e a' w' hl
 have fin:∀s blk,ptrP s rs cs' res->Repr g s a' w' blk->a'.defers=[]/\∃v,(results fn a'.tmps).run P w'=.ok v w'/\(∃v' F',Ending.returned v=.returned v'/\Off F w w'/\(∀b,F' b->F b\/(w.heap.size<=b/\b<w'.heap.size))/\
  ybB w' (λb=>((G b\/F b)\/(w.heap.size<=b/\b<w'.heap.size))/\¬F' b) (.pointer (some ⟨b0,0,none⟩)) (.c (.bx cs')) F'/\RV w' noF noO noB v' res):=by
  rintro s blk ⟨c1,⟨xs,ids',c2,c3,c4⟩,c5⟩ h
  obtain⟨v,e1,e2⟩:=yyI h h5 c5;have hsl:=h.env 1000000;have hv:g.val a' 1000000=.pointer (some ⟨b0,0,none⟩):=by unfold ySm.val;rw[if_neg (by unfold jV;omega)];simp[g,jV]
  rw[hv,c1]at hsl;obtain⟨b1,cells,q1,q2,q3⟩:=(show RV1 w' (Good g s.yRU blk w') s.yRU blk (.pointer (some ⟨b0,0,none⟩)) (.box 0 0)from hsl);have hb1:b1=b0:=by injection q3 with q3;injection q3 with q3;injection q3 with q3;exact q3.symm
  subst hb1;have q2':blk.root 0=some b1:=q2;have hlive:s.yRU 0≠.none:=by rw[show s.yRU 0=_ from c2];simp
  obtain⟨arr2,ty2,r1,r2,r3⟩:=h.box c2 q2;obtain⟨Fs2,p1,p2,p3,p4⟩:=ys4 h (us:=arr2.toList) c3 (λj x hj=>let⟨u,hu,hr⟩:=r3 j x hj;⟨u,by simpa using hu,hr⟩) c4;have hni:0∉ids':=λhm=>yuK c3 0 hm (by rw[show s.yRU 0=_ from c2];rfl)
  let F':Nat->Prop:=λb=>b=b1\/∃i,i∈ids'/\s.yRU i≠.none/\blk.fp i b
  have hF'l:∀b,F' b->∃i,s.yRU i≠.none/\blk.fp i b:=by
   rintro b (e|⟨i,_,e2,e3⟩)
   .exact⟨0,hlive,.inl (by rw[e];exact q2')⟩
   .exact⟨i,e2,e3⟩
  refine⟨h.defers,v,e1,v,F',rfl,h.below,λb hb=>?_,?_,ybN hsc e2⟩
  .obtain⟨i,m1,m2⟩:=hF'l b hb;obtain⟨n1,n2⟩:=h.new i b m1 m2;rcases n1 with n1|n1
   .exact .inl n1
   .exact .inr ⟨n1,n2⟩
  .have hot:OT w' (Good g s.yRU blk w') (.pointer (some ⟨b1,0,none⟩)) (.bx cs') F':=by
    refine .bx (λj=>arr2.toList.getD j undef) Fs2 r1 (by rw[r2,p1]) (.inl rfl) (λj x hx=>?_) p4 (λj c hc=>?_) (λj c hc=>?_)
    .obtain⟨i0,m0,m1,m2⟩:=p3 j x hx;refine⟨.inr ⟨i0,m0,m1,m2⟩,λe=>hni ?_⟩;subst e;exact h.inj i0 0 x m1 hlive m2 (.inl q2')▸m0
    .obtain⟨u,hu,_⟩:=p2 j c hc;rw[zaf,hu];simpa using hu
    .obtain⟨u,hu,ho⟩:=p2 j c hc;rw[zaf,hu];exact ho
   refine OT.mono hot (λb hb=>⟨hb.1,λhF=>?_⟩) (λ_ _ _ h=>h) (λ_ h=>h) (λ_ _=>rfl);obtain⟨i,m1,m2⟩:=hF'l b hF;exact hb.2 i m1 m2
 cases e with
 |normal=>obtain⟨s,blk,hr,h⟩:=hl;exact fin s blk hr h
 |exit id=>obtain⟨s,blk,hr,h⟩:=hl;exact hr.elim
 |ret=>obtain⟨s,blk,hr,h⟩:=hl;exact fin s blk hr h
 |goto l=>exact hl.elim
 |panic ch=>exact hl.elim
 |outgrown=>exact hl.elim
@[simp] def yJw{cs:List C}{args:List AV}{t:Nat}:(yU cs args).env t=if t=1000000 then .box 0 0 else if t=0 then .box 0 0 else(args[t-1]?).getD .any:=rfl
@[simp] def yMm{cs:List C}{args:List AV}{i:Nat}:(yU cs args).ob i=if i=0 then .box (ybi 0 0 cs)else nG noO (jP 0 0 cs) i:=rfl
@[simp] def yOe{s:St}{ids:List Nat}{id d0:Nat}{cs':List C}{t:Nat}:(s.yqI ids id d0 cs').env t=(s.drops ids).env t:=rfl
@[simp] def yQd{s:St}{ids:List Nat}{id d0:Nat}{cs':List C}{i:Nat}:(s.yqI ids id d0 cs').ob i=nG (λj=>if j=id then .box (ybi d0 0 cs')else(s.drops ids).yRU j) (jP d0 0 cs') i:=rfl
end Go.Proofs.YtdadkiofenhnbaaGreat
