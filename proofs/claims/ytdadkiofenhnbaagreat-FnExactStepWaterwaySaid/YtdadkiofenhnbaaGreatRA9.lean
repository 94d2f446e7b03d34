/- The machine of the proof: an abstract run of the code, proved sound. -/
import Derived.Test.YtdadkiofenhnbaaGreatRA7
set_option linter.all false
namespace Go.Proofs.YtdadkiofenhnbaaGreat
open Go.RowKit
inductive H where
 |p (c:C)
 |w (k:Nat) (rows:List (List C))
 |t (k:Nat) (rows:List (List C))
def H.c:H->C
 | .p c=>c
 | .w k rows=>cw k rows
 | .t k rows=>ct k rows
def hv(id k:Nat):List (List C)->AV
 |[]=>.c (.sl k [])
 |r::l=>.own id k (r::l).length
def hw(k:Nat):List (List C)->Obj
 |[]=>.none
 |r::l=>.row k (r::l)
def ht(k ver:Nat):List (List C)->Obj
 |[]=>.none
 |r::l=>.tr k ver (r::l)
def H.av(id:Nat):H->AV
 | .p c=>.c c
 | .w k rows=>hv id k rows
 | .t k rows=>hv id k rows
def H.ob:H->Obj
 | .p _=>.none
 | .w k rows=>hw k rows
 | .t k rows=>ht k 0 rows
def H.ok:H->Prop
 | .p c=>c.plain=true
 |_=>True
def avH:Nat->List H->List AV
 |_,[]=>[]
 |j,h::l=>h.av (sid 0 j)::avH (j+1) l
def obH:Nat->List H->Nat->Obj
 |_,[]=>λ_=>.none
 |j,h::l=>λi=>if i=sid 0 j then h.ob else obH (j+1) l i
def okH:List H->Prop
 |[]=>True
 |h::l=>h.ok/\okH l
def unp_H{h:H}(ho:h.ok)(id:Nat):h.c.unp id=h.av id:=by
 cases h with
 |p c=>exact yIF id c ho
 |w k rows=>cases rows<;>rfl
 |t k rows=>cases rows<;>rfl
def yCs{h:H}(ho:h.ok)(id:Nat):(h.c.fK id=[]/\h.ob=.none)\/h.c.fK id=[(id,h.ob)]:=by
 cases h with
 |p c=>
  refine .inl ⟨?_,rfl⟩;have hp:c.plain=true:=ho;cases c<;>first|rfl|simp[C.plain]at hp
 |w k rows=>cases rows<;>first|exact .inl ⟨rfl,rfl⟩|exact .inr rfl
 |t k rows=>cases rows<;>first|exact .inl ⟨rfl,rfl⟩|exact .inr rfl
def yHq:∀{hs:List H} {j:Nat},okH hs->ybi 0 j (hs.map H.c)=avH j hs
 |[],_,_=>rfl
 |h::l,j,ho=>by
  show h.c.unp (sid 0 j)::ybi 0 (j+1) (l.map H.c)=_
  rw[unp_H ho.1,yHq ho.2];rfl
def yth:∀{hs:List H} {j:Nat} {p:Nat×Obj},okH hs->p∈jP 0 j (hs.map H.c)->∃j',j<=j'/\p.1=sid 0 j'
 |[],_,p,_,hp=>by cases hp
 | h::l,j,p,ho,hp=>by
  rcases zaq.1 (show p∈h.c.fK (sid 0 j)++jP 0 (j+1) (l.map H.c)from hp)with h1|h1
  .rcases yCs ho.1 (sid 0 j)with⟨e,_⟩|e
   .rw[e]at h1;cases h1
   .rw[e,zas]at h1;subst h1;exact⟨j,Nat.le_refl _,rfl⟩
  .obtain⟨j',e1,e2⟩:=yth ho.2 h1;exact⟨j',by omega,e2⟩
def yzd{j j':Nat}(h:sid 0 j=sid 0 j'):j=j':=by unfold sid at h;omega
def yzX:∀{hs:List H} {j:Nat},okH hs->((jP 0 j (hs.map H.c)).map (·.1)).Nodup
 |[],_,_=>by simp[jP]
 | h::l,j,ho=>by
  show((h.c.fK (sid 0 j)++jP 0 (j+1) (l.map H.c)).map (·.1)).Nodup
  have ih:=yzX (hs:=l) (j:=j+1) ho.2;rcases yCs ho.1 (sid 0 j)with⟨e,_⟩|e
  .rw[e];exact ih
  .rw[e,zaB,zba];refine⟨by simp,ih,λx hx y hy hxy=>?_⟩;simp only[zbd,zcN,zas]at hx;obtain⟨p,hp,rfl⟩:=zaO.1 hy;obtain⟨j',e1,e2⟩:=yth ho.2 hp;rw[hx,e2]at hxy;have:=yzd hxy;omega
def yFm:∀{hs:List H} {j i:Nat},okH hs->nG noO (jP 0 j (hs.map H.c)) i=obH j hs i
 |[],_,_,_=>rfl
 | h::l,j,i,ho=>by
  show nG noO (h.c.fK (sid 0 j)++jP 0 (j+1) (l.map H.c)) i=if i=sid 0 j then h.ob else obH (j+1) l i
  have ih:=yFm (hs:=l) (j:=j+1) (i:=i) ho.2
  have hout:i=sid 0 j->nG noO (jP 0 (j+1) (l.map H.c)) i=.none:=by
   intro e;rw[kY]
   .rfl
   .intro hc;obtain⟨p,hp,e2⟩:=zaO.1 hc;obtain⟨j',e3,e4⟩:=yth ho.2 hp;rw[e4,e]at e2;have:=yzd e2;omega
  rcases yCs ho.1 (sid 0 j)with⟨e,e0⟩|e
  .rw[e,zcj];split
   .rename_i h1;rw[hout h1,e0]
   .exact ih
  .rw[e]
   show upd (sid 0 j) h.ob _ i=_
   rw[jG];split
   .rfl
   .exact ih
def lieH(s:St)(j:Nat):H->Prop
 | .p c=>c.plain=true
 | .w k rows=>s.ob (sid 0 j)=hw k rows
 | .t k rows=>∃ver,s.ob (sid 0 j)=ht k ver rows
def yC7(s:St):Nat->List H->Prop
 |_,[]=>True
 |j,h::l=>lieH s j h/\yC7 s (j+1) l
def yMe{s:St}{j:Nat}{h:H}(hl:lieH s j h):yfF s (h.av (sid 0 j)) h.c:=by
 cases h with
 |p c=>exact⟨rfl,hl⟩
 | w k rows=>
  cases rows with
  |nil=>exact⟨rfl,rfl⟩
  | cons r l=>
   have ho:s.ob (sid 0 j)=.row k (r::l):=hl
   show(match s.ob (sid 0 j)with
    | .row k0 rs=>k0=k/\k=k/\r::l=rs.take (r::l).length
    |_=>False)
   rw[ho];exact⟨rfl,rfl,List.take_length.symm⟩
 | t k rows=>
  obtain⟨ver,hl⟩:=hl;cases rows with
  |nil=>exact⟨rfl,rfl⟩
  | cons r l=>
   have ho:s.ob (sid 0 j)=.tr k ver (r::l):=hl
   show(match s.ob (sid 0 j)with
    | .row k0 rs=>k0=k/\k=k/\r::l=rs.take (r::l).length
    | .tr k0 _ rs=>k0=k/\k=k/\r::l=rs.take (r::l).length
    |_=>False)
   rw[ho];exact⟨rfl,rfl,List.take_length.symm⟩
def yFE{s:St}:∀{hs:List H} {j:Nat},yC7 s j hs->yye s (avH j hs) ((hs.map H.c).map .c)
 |[],_,_=>trivial
 |h::l,j,hl=>⟨⟨_,rfl,yMe hl.1⟩,yFE hl.2⟩
def yJb(h:H)(id:Nat):(h.av id).oid=[]\/(h.av id).oid=[id]:=by
 cases h with
 |p c=>exact .inl rfl
 |w k rows=>cases rows<;>first|exact .inl rfl|exact .inr rfl
 |t k rows=>cases rows<;>first|exact .inl rfl|exact .inr rfl
def yDv:∀{hs:List H} {j x:Nat},x∈(avH j hs).flatMap AV.oid->∃j',j<=j'/\x=sid 0 j'
 |[],_,x,hx=>by cases hx
 | h::l,j,x,hx=>by
  rcases zaq.1 (show x∈(h.av (sid 0 j)).oid++(avH (j+1) l).flatMap AV.oid from hx)with h1|h1
  .rcases yJb h (sid 0 j)with e|e
   .rw[e]at h1;cases h1
   .rw[e,zas]at h1;exact⟨j,Nat.le_refl _,h1⟩
  .obtain⟨j',e1,e2⟩:=yDv h1;exact⟨j',by omega,e2⟩
def yCS:∀{hs:List H} {j:Nat},((avH j hs).flatMap AV.oid).Nodup
 |[],_=>by simp[avH]
 | h::l,j=>by
  show((h.av (sid 0 j)).oid++(avH (j+1) l).flatMap AV.oid).Nodup
  have ih:=yCS (hs:=l) (j:=j+1);rcases yJb h (sid 0 j)with e|e
  .rw[e];exact ih
  .rw[e,zba];refine⟨by simp,ih,λx hx y hy hxy=>?_⟩;rw[zas]at hx;obtain⟨j',e1,e2⟩:=yDv hy;rw[hx,e2]at hxy;have:=yzd hxy;omega
def yzR(hs:List H)(args:List AV):St:=⟨λt=>if t=1000000 then .agg (avH 0 hs)else if t=0 then .agg (avH 0 hs)else(args[t-1]?).getD .any,obH 0 hs⟩
def inH(s:St)(rs:List RS)(hs:List H)(res:AV):Prop:=inP s rs (.agg ((hs.map H.c).map .c)) res
def yLT{s:St}{rs:List RS}{hs:List H}{res:AV}(h1:s.env 1000000=.agg (avH 0 hs))(h2:yC7 s 0 hs)(h3:ybG s rs res):inH s rs hs res:=by
 refine⟨?_,?_,h3⟩
 .rw[h1];exact yFE h2
 .rw[h1];exact yCS
def yMr{P:Program}{f N:Nat}{c:SC}{rs:List RS}{hs hs':List H}{args:List AV}{res:AV}(hf:Has P f N c rs)(hN:args.length+1<=N)(ho:okH hs)(hsc:res.scalar=true)
 (HH:ycR args->wpS P N c (yzR hs args) (λe s=>match e with| .exit _=>False|_=>inH s rs hs' res)):InF P f (.agg ((hs.map H.c).map .c)) (.agg ((hs'.map H.c).map .c)) args res:=by
 refine aK hf hN (by show((jP 0 0 (AV.cs ((hs.map H.c).map .c))).map (·.1)).Nodup;rw[ypQ];exact yzX ho) hsc λhwf=>?_
 have e:ykj (.agg ((hs.map H.c).map .c)) args=yzR hs args:=by
  have e1:(AV.agg ((hs.map H.c).map .c)).ylA 0=.agg (avH 0 hs):=by
   show AV.agg (ybi 0 0 (AV.cs ((hs.map H.c).map .c)))=_
   rw[ypQ,yHq ho]
  refine St.ext' (λt=>?_) λi=>?_
  .show(if t=1000000 then(AV.agg ((hs.map H.c).map .c)).ylA 0 else if t=0 then(AV.agg ((hs.map H.c).map .c)).ylA 0 else(args[t-1]?).getD .any)=_
   rw[e1];rfl
  .show nG noO (jP 0 0 (AV.cs ((hs.map H.c).map .c))) i=_
   rw[ypQ,yFm ho];rfl
 rw[e];exact HH hwf
@[simp] def yOs{id k:Nat}{rows:List (List C)}:(hv id k rows).lH=true:=by cases rows<;>rfl
@[simp] def yNM{hs:List H}{args:List AV}{t:Nat}:(yzR hs args).env t=if t=1000000 then .agg (avH 0 hs)else if t=0 then .agg (avH 0 hs)else(args[t-1]?).getD .any:=rfl
@[simp] def yRh{hs:List H}{args:List AV}{i:Nat}:(yzR hs args).ob i=obH 0 hs i:=rfl
@[simp] def avH_nil{j:Nat}:avH j []=[]:=rfl
@[simp] def avH_p{j:Nat}{c:C}{l:List H}:avH j (.p c::l)=.c c::avH (j+1) l:=rfl
@[simp] def avH_w{j k:Nat}{rows:List (List C)}{l:List H}:avH j (.w k rows::l)=hv (sid 0 j) k rows::avH (j+1) l:=rfl
@[simp] def avH_t{j k:Nat}{rows:List (List C)}{l:List H}:avH j (.t k rows::l)=hv (sid 0 j) k rows::avH (j+1) l:=rfl
@[simp] def obH_nil{j i:Nat}:obH j [] i=.none:=rfl
@[simp] def obH_p{j i:Nat}{c:C}{l:List H}:obH j (.p c::l) i=if i=sid 0 j then .none else obH (j+1) l i:=rfl
@[simp] def obH_w{j k i:Nat}{rows:List (List C)}{l:List H}:obH j (.w k rows::l) i=if i=sid 0 j then hw k rows else obH (j+1) l i:=rfl
@[simp] def obH_t{j k i:Nat}{rows:List (List C)}{l:List H}:obH j (.t k rows::l) i=if i=sid 0 j then ht k 0 rows else obH (j+1) l i:=rfl
section
variable {P:Program} {f:Nat} {s:St} {d:Option Nat} {avs args:List AV} {res:AV} {K:St->Prop} {id k ver:Nat} {rows rows':List (List C)}
def ydZ{o:Obj}(h:s.ob id=o):s.iG id o=s:=by
 refine St.ext' (λt=>rfl) λi=>?_
 show upd id o s.yRU i=_
 rw[jG];split
 .rename_i e;rw[e];exact h.symm
 .rfl
theorem yHl(h:rows'.length=rows.length):hv id k rows'=hv id k rows:=by
 cases rows<;>cases rows'<;>simp_all [hv]
def ypR(hp:InF P f (.c (cw k rows)) (.c (cw k rows')) args res)(hO:s.ob id=hw k rows)(hl:rows'.length=rows.length)(ho:iO s avs args)(hdat:avs.all AV.nU=true)(hs:res.scalar=true)
 (hK:K ((s.iG id (hw k rows')).put d res)):yat P f (hv id k rows::avs) d s K:=by
 cases rows with
 |nil=>
  have:rows'=[]:=zae.1 (by simpa using hl);subst this;refine tH (up:=none) hp ho hdat hs (sS rfl) ?_;rw[ydZ (o:=hw k []) hO]at hK;exact hK
 |cons r l=>
  obtain⟨r',l',rfl⟩:∃r' l',rows'=r'::l':=by cases rows' with|nil=>simp at hl|cons r' l'=>exact⟨r',l',rfl⟩
  refine tH (up:=some (id,.row k (r'::l'))) hp ho hdat hs (qH (rows:=r::l) hO rfl rfl rfl hl rfl rfl) ?_;exact hK
def ygF(hp:InF P f (.c (ct k rows)) (.c (ct k rows')) args res)(hO:s.ob id=ht k ver rows)(hl:rows'.length=rows.length)(ho:iO s avs args)(hdat:avs.all AV.nU=true)(hs:res.scalar=true)
 (hK:K ((s.iG id (ht k (ver+1) rows')).put d res)):yat P f (hv id k rows::avs) d s K:=by
 cases rows with
 |nil=>
  have:rows'=[]:=zae.1 (by simpa using hl);subst this;refine tH (up:=none) hp ho hdat hs (sS rfl) ?_;rw[ydZ (o:=ht k (ver+1) []) hO]at hK;exact hK
 |cons r l=>
  obtain⟨r',l',rfl⟩:∃r' l',rows'=r'::l':=by cases rows' with|nil=>simp at hl|cons r' l'=>exact⟨r',l',rfl⟩
  refine tH (up:=some (id,.tr k (ver+1) (r'::l'))) hp ho hdat hs (yd8 (rows:=r::l) hO rfl rfl rfl rfl hl rfl rfl) ?_;exact hK
def yFR{c1 c2:C}{i1 i2 k1 k2:Nat}{r1 r2 r1' r2':List (List C)}(hp:InF P f (.agg ([c1,c2,cw k1 r1,cw k2 r2].map .c)) (.agg ([c1,c2,cw k1 r1',cw k2 r2'].map .c)) args res)(hne:i1≠i2)(p1:c1.plain=true)(p2:c2.plain=true)
 (h1:s.ob i1=hw k1 r1) (h2:s.ob i2=hw k2 r2) (l1:r1'.length=r1.length) (l2:r2'.length=r2.length) (ho:iO s avs args) (hdat:avs.all AV.nU=true) (hs:res.scalar=true)
 (hK:K (((s.iG i1 (hw k1 r1')).iG i2 (hw k2 r2')).put d res)):yat P f (.agg [.c c1,.c c2,hv i1 k1 r1,hv i2 k2 r2]::avs) d s K:=by
 cases r1 with
 | nil=>
  have e1:r1'=[]:=zae.1 (by simpa using l1);subst e1;rw[ydZ (o:=hw k1 []) h1]at hK;cases r2 with
  |nil=>
   have e2:r2'=[]:=zae.1 (by simpa using l2);subst e2;rw[ydZ (o:=hw k2 []) h2]at hK;exact yfZ (ups:=[none,none,none,none]) hp ho hdat hs ⟨sS p1,sS p2,sS rfl,sS rfl,trivial⟩ (by simp[kQ]) hK
  |cons r l=>
   obtain⟨r',l',rfl⟩:∃r' l',r2'=r'::l':=by cases r2' with|nil=>simp at l2|cons r' l'=>exact⟨r',l',rfl⟩
   exact yfZ (ups:=[none,none,none,some (i2,.row k2 (r'::l'))]) hp ho hdat hs ⟨sS p1,sS p2,sS rfl,qH (rows:=r::l) h2 rfl rfl rfl l2 rfl rfl,trivial⟩ (by simp[kQ]) hK
 | cons q m=>
  obtain⟨q',m',rfl⟩:∃r' l',r1'=r'::l':=by cases r1' with|nil=>simp at l1|cons r' l'=>exact⟨r',l',rfl⟩
  cases r2 with
  | nil=>
   have e2:r2'=[]:=zae.1 (by simpa using l2);subst e2
   have h2':(s.iG i1 (hw k1 (q'::m'))).ob i2=hw k2 []:=by
    show upd i1 _ s.yRU i2=_
    rw[jG,if_neg (Ne.symm hne)];exact h2
   rw[ydZ (o:=hw k2 []) h2']at hK;exact yfZ (ups:=[none,none,some (i1,.row k1 (q'::m')),none]) hp ho hdat hs ⟨sS p1,sS p2,qH (rows:=q::m) h1 rfl rfl rfl l1 rfl rfl,sS rfl,trivial⟩ (by simp[kQ]) hK
  | cons r l=>
   obtain⟨r',l',rfl⟩:∃r' l',r2'=r'::l':=by cases r2' with|nil=>simp at l2|cons r' l'=>exact⟨r',l',rfl⟩
   refine yfZ (ups:=[none,none,some (i1,.row k1 (q'::m')),some (i2,.row k2 (r'::l'))]) hp ho hdat hs ⟨sS p1,sS p2,qH (rows:=q::m) h1 rfl rfl rfl l1 rfl rfl,qH (rows:=r::l) h2 rfl rfl rfl l2 rfl rfl,trivial⟩ (by simp[kQ,hne]) ?_
   have e:s.turned [none,none,some (i1,.row k1 (q'::m')),some (i2,.row k2 (r'::l'))]=(s.iG i1 (hw k1 (q'::m'))).iG i2 (hw k2 (r'::l')):=by
    refine St.ext' (λt=>rfl) λi=>?_
    show upd i1 _ (upd i2 _ s.yRU) i=upd i2 _ (upd i1 _ s.yRU) i
    simp only[jG]
    by_cases a:i=i1
    .have b:i≠i2:=λh=>hne (a.symm.trans h);rw[if_pos a,if_neg b,if_pos a];rfl
    .rw[if_neg a]
     by_cases b:i=i2
     .rw[if_pos b,if_pos b];rfl
     .rw[if_neg b,if_neg b,if_neg a]
   rw[e];exact hK
end
end Go.Proofs.YtdadkiofenhnbaaGreat
