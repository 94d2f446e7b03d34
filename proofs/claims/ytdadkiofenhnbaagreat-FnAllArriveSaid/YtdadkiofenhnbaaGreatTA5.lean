/- The machine of the proof: an abstract run of the code, proved sound. -/
import Derived.Test.YtdadkiofenhnbaaGreatTA4
import Derived.Deep.Slices
import Derived.Handed
import Derived.Carry
import Derived.ChangeArms
import Derived.ChangeSame
import Derived.JoinedOf
import Derived.KernelRfl
set_option linter.all false
namespace Go.Proofs.YtdadkiofenhnbaaGreat
open Go.RowKit Go.ChangeShapes Go.WideShapes Go.Deep
inductive Sh where
 |i
 |b
 |u
 |s
 |sl (l:List Sh)
def ykb(P:Program)(rec:TypeId->Option (List Sh)):Nat->List Field->Option (List Sh)
 |_,[]=>some []
 | o,f::l=>match rec f.type with
  |some a=>if f.offset=o/\P.cellsOf f.type=a.length then
   match ykb P rec (o+a.length) l with
   |some r=>some (a++r)
   |none=>none
   else none
  |none=>none
def yBk(P:Program):Nat->TypeId->Option (List Sh)
 |0,_=>none
 | n+1,t=>match P.underlying t with
  |some .bool=>some [.b]
  |some (.int .i64)=>some [.i]
  |some (.int .u8)=>some [.u]
  |some .string=>some [.s]
  |some (.slice e)=>match yBk P n e with
   |some l=>if P.cellsOf e=l.length then some [.sl l]else none
   |none=>none
  |some (.struct fs)=>ykb P (yBk P n) 0 fs.toList
  |_=>none
inductive Fit:Sh->C->Prop where
 |i (n:Int):Fit .i (.i n)
 |b (v:Bool):Fit .b (.b v)
 |u (n:Nat):Fit .u (.u n)
 |s (x:ByteArray):Fit .s (.s x)
 |sl (l:List Sh) (k:Nat) (rows:List (List C)):k=l.length->(∀r,r∈rows->r.length=l.length)->(∀r,r∈rows->∀(j:Nat) (z:Sh) (c:C),l[j]?=some z->r[j]?=some c->Fit z c)->Fit (.sl l) (.sl k rows)
def Fits(l:List Sh)(xs:List C):Prop:=xs.length=l.length/\∀(j:Nat) (z:Sh) (c:C),l[j]?=some z->xs[j]?=some c->Fit z c
def Fits.nil:Fits [] []:=⟨rfl,by simp⟩
def Fits.one{z:Sh}{c:C}(h:Fit z c):Fits [z] [c]:=by
 refine⟨rfl,λj s' c' h1 h2=>?_⟩;cases j with
 |zero=>simp at h1 h2;subst h1;subst h2;exact h
 |succ j=>simp at h1
def Fits.append{l l':List Sh}{xs xs':List C}(h:Fits l xs)(h':Fits l' xs'):Fits (l++l') (xs++xs'):=by
 refine⟨by simp[h.1,h'.1],λj z c h1 h2=>?_⟩;rcases zas j l.length with hj|hj
 .rw[zaX hj]at h1;rw[zaX (by rw[h.1];exact hj)]at h2;exact h.2 j z c h1 h2
 .rw[zaz hj]at h1;rw[zaz (by rw[h.1];exact hj),h.1]at h2;exact h'.2 _ z c h1 h2
def Fits.cons_inv{z:Sh}{l:List Sh}{xs:List C}(h:Fits (z::l) xs):∃c ys,xs=c::ys/\Fit z c/\Fits l ys:=by
 cases xs with
 |nil=>simp[Fits]at h
 |cons c ys=>
  refine⟨c,ys,rfl,h.2 0 z c rfl rfl,by simpa using h.1,λj s' c' h1 h2=>h.2 (j+1) s' c' (by simpa using h1) (by simpa using h2)⟩
def Fits.gW{xs:List C}(h:Fits [] xs):xs=[]:=by
 cases xs with
 |nil=>rfl
 |cons c ys=>simp[Fits]at h
def Fit.u_inv{c:C}(h:Fit .u c):∃n,c=.u n:=by cases h;exact⟨_,rfl⟩
def Fit.tV{l:List Sh}{c:C}(h:Fit (.sl l) c){α:Type}(enc:α->List C)(he:∀xs,Fits l xs->∃a,xs=enc a):∃as:List α,c=.sl l.length (as.map enc):=by
 cases h with
 | sl _ k rows h0 h1 h2=>
  subst h0
  suffices∀rows:List (List C),(∀r,r∈rows->Fits l r)->∃as:List α,rows=as.map enc by
   obtain⟨as,rfl⟩:=this rows λr hr=>⟨h1 r hr,h2 r hr⟩;exact⟨as,rfl⟩
  intro rows hr
  induction rows with
  |nil=>exact⟨[],rfl⟩
  |cons r rows ih=>
   obtain⟨as,e⟩:=ih λr' h=>hr r' (by simp[h]);obtain⟨a,e'⟩:=he r (hr r (by simp));exact⟨a::as,by simp[e,e']⟩
section
variable {H:Type} {enc:TypeId×Value->H} {P:Program} {w:World} {base:Nat} {spare:Nat->Bool} {held:Bool}
def cell_lt{ad:Addr}{u:Value}(h:w.cell? ad=some u):ad.block<w.heap.size:=by
 unfold World.cell? at h;split at h
 .rename_i h1;exact(zaJ.1 h1).1
 .cases h
def Old(w:World)(b:Nat):Prop:=b<w.heap.size
def RdL(w:World)(cs:List Value)(xs:List C):Prop:=xs.length=cs.length/\∀(j:Nat) (v:Value) (c:C),cs[j]?=some v->xs[j]?=some c->Rd w (Old w) v c
def RdL.one{v:Value}{c:C}(h:Rd w (Old w) v c):RdL w [v] [c]:=by
 refine⟨rfl,λj s' c' h1 h2=>?_⟩;cases j with
 |zero=>simp at h1 h2;subst h1;subst h2;exact h
 |succ j=>simp at h1
def RdL.append{l l':List Value}{xs xs':List C}(h:RdL w l xs)(h':RdL w l' xs'):RdL w (l++l') (xs++xs'):=by
 refine⟨by simp[h.1,h'.1],λj z c h1 h2=>?_⟩;rcases zas j l.length with hj|hj
 .rw[zaX hj]at h1;rw[zaX (by rw[h.1];exact hj)]at h2;exact h.2 j z c h1 h2
 .rw[zaz hj]at h1;rw[zaz (by rw[h.1];exact hj),h.1]at h2;exact h'.2 _ z c h1 h2
def wf_i64{n:Int}(h:(Lit.int .i64 n).wf=true):inI n:=by
 simp only[Lit.wf,zad,decide_eq_true_eq]at h;have h1:IntKind.i64.min= -9223372036854775808:=rfl;have h2:IntKind.i64.max=9223372036854775807:=rfl;exact⟨by omega,by omega⟩
def wf_u8{n:Int}(h:(Lit.int .u8 n).wf=true):∃m:Nat,n=m/\m<256:=by
 simp only[Lit.wf,zad,decide_eq_true_eq]at h;have h1:IntKind.u8.min=0:=rfl;have h2:IntKind.u8.max=255:=rfl;exact⟨n.toNat,by omega,by omega⟩
def yEF{rec:TypeId->Option (List Sh)}{fuel:Nat}{cs:List Value}
 (IH:∀t l cs x,rec t=some l->DataW.trod enc P w base spare held fuel t cs=some x->cs.length=l.length/\∃xs,Fits l xs/\RdL w cs xs):
 ∀(fs:List Field) (o:Nat) (l:List Sh),ykb P rec o fs=some l->o<=cs.length->
  (∀(f:Field),f∈fs->∃x,DataW.trod enc P w base spare held fuel f.type ((cs.drop f.offset).take (P.cellsOf f.type))=some x)->
  o+l.length<=cs.length/\∃xs,Fits l xs/\RdL w ((cs.drop o).take l.length) xs:=by
 intro fs
 induction fs with
 |nil=>
  intro o l h ho _;cases h;exact⟨ho,[],.nil,by simp[RdL]⟩
 | cons f fs ih=>
  intro o l h ho hall;simp only[ykb]at h;split at h
  .rename_i a ha;split at h
   .rename_i hc;split at h
    .rename_i r hr;cases h;obtain⟨x,hx⟩:=hall f (by simp);obtain⟨hlen,xs,hf,hrd⟩:=IH _ _ _ _ ha hx;rw[hc.1,hc.2]at hlen hrd
     have ho2:o+a.length<=cs.length:=by
      simp only[zaA,zaR]at hlen;omega
     obtain⟨h1,ys,hf2,hrd2⟩:=ih _ _ hr ho2 λf hf=>hall f (by simp[hf]);refine⟨by simp;omega,xs++ys,hf.append hf2,?_⟩
     have e:(cs.drop o).take (a++r).length=(cs.drop o).take a.length++(cs.drop (o+a.length)).take r.length:=by
      rw[zah,zdF,zdd]
     rw[e];exact hrd.append hrd2
    .cases h
   .cases h
  .cases h
def yIW:∀(n:Nat) (t:TypeId) (l:List Sh) (fuel:Nat) (cs:List Value) (x:DataW H×List MemPlace),yBk P n t=some l->P.cellsOf t=l.length->
 DataW.trod enc P w base spare held fuel t cs=some x->cs.length=l.length/\∃xs,Fits l xs/\RdL w cs xs:=by
 intro n
 induction n with
 |zero=>intro t l fuel cs x h;cases h
 | succ n ih=>
  intro t l fuel cs x h hC hx;simp only[yBk]at h;split at h
  .rename_i hu;cases h;obtain⟨v,rfl,_⟩:=DataW.trod_bool hu hx;exact⟨rfl,[.b v],.one (.b v),.one .b⟩
  .rename_i hu;cases h;obtain⟨v,rfl,_,hw⟩:=DataW.trod_int hu hx;exact⟨rfl,[.i v],.one (.i v),.one (.i (wf_i64 hw))⟩
  .rename_i hu;cases h;obtain⟨v,rfl,_,hw⟩:=DataW.trod_int hu hx;obtain⟨m,rfl,hm⟩:=wf_u8 hw;exact⟨rfl,[.u m],.one (.u m),.one (.u hm)⟩
  .rename_i hu;cases h;obtain⟨v,rfl,_,hw⟩:=DataW.trod_string hu hx;exact⟨rfl,[.s v],.one (.s v),.one (.s hw)⟩
  .rename_i e hu;split at h
   .rename_i le hle;split at h
    .rename_i hce;cases h;rcases open_slice hu hx with⟨rfl,_⟩|⟨a,len,cap,m,n',D,Pl,rfl,hb,hl,hm,hmm,_,hel⟩
     .refine⟨rfl,[.sl le.length []],.one (.sl _ _ _ rfl (by simp) (by simp)),.one (.sl (λ_ _=>undef) rfl (Nat.le_refl _) (by unfold maxLen;omega) (by simp) (by omega) (by simp) (by simp))⟩
     .have hlm:len<=m:=by rw[hmm];split<;>omega
      have hall:∀i,i<len->∃p:List Value×List C,w.cells? base (a.add (i*le.length)) le.length=some p.1/\Fits le p.2/\RdL w p.1 p.2:=by
       intro i hi;obtain⟨cs',h1,h2⟩:=hel i (by omega);rw[hce]at h1;obtain⟨_,xs,hf,hr⟩:=ih e le n' cs' _ hle hce h2;exact⟨(cs',xs),h1,hf,hr⟩
      obtain⟨F,hF⟩:=choose_lt hall
      have hrow:∀i r,((List.range len).map λi=>(F i).2)[i]?=some r->i<len/\r=(F i).2:=by
       intro i r hr;rw[zau]at hr
       have hi:i<len:=by
        rcases zas i len with h|h
        .exact h
        .rw[zdg (by simpa using h)]at hr;cases hr
       rw[zdW hi]at hr;exact⟨hi,by simpa using hr.symm⟩
      have hmem:∀r,r∈((List.range len).map λi=>(F i).2)->Fits le r:=by
       intro r hr;simp only[zaP,zaN]at hr;obtain⟨i,hi,rfl⟩:=hr;exact(hF i hi).2.1
      have hget:∀i,i<len->∀(j:Nat) (c:C),(F i).2[j]?=some c->∃v,(F i).1[j]?=some v/\w.cell? ((a.add (i*le.length)).add j)=some v:=by
       intro i hi j c hc;obtain⟨h1,h2,h3⟩:=hF i hi;obtain⟨_,h4,h5⟩:=World.cells?_some h1
       have hj:j<le.length:=by
        have:=(zaa.1 hc).1;rw[h2.1]at this;exact this
       have e1:(F i).1[j]?=some ((F i).1[j]'(by omega)):=zab (by omega);exact⟨_,e1,(h5 j hj).trans e1⟩
      refine⟨rfl,[.sl le.length ((List.range len).map λi=>(F i).2)],.one (.sl _ _ _ rfl (λr hr=>(hmem r hr).1) λr hr j z c hs hc=>(hmem r hr).2 j z c hs hc),
       .one (.sl (λi j=>((F i).1[j]?).getD undef) (by simp) hl hm (λr hr=>(hmem r hr).1) (by simp) ?_ ?_)⟩
      .intro i r hr j c hj;obtain⟨hi,rfl⟩:=hrow i r hr;obtain⟨v,hv,hc⟩:=hget i hi j c hj;rw[add_add]at hc;refine⟨a,rfl,?_,by rw[hv];exact hc⟩;have:=cell_lt hc;rw[block_add]at this;exact this
      .intro i r hr j c hj;obtain⟨hi,rfl⟩:=hrow i r hr;obtain⟨v,hv,hc⟩:=hget i hi j c hj;rw[hv];exact(hF i hi).2.2.2 j v c hv hj
    .cases h
   .cases h
  .rename_i fs hu;obtain⟨xs,n',rfl,_,hlen,hsz,hf⟩:=DataW.trod_struct hu hx
   have hall:∀(f:Field),f∈fs.toList->∃x,DataW.trod enc P w base spare held n' f.type ((cs.drop f.offset).take (P.cellsOf f.type))=some x:=by
    intro f hm;obtain⟨i,hi⟩:=zat hm;have hi':fs[i]?=some f:=by rw[<-zcn];exact hi
    have hlt:i<xs.length:=by rw[hsz];exact(zaJ.1 hi').1
    exact⟨_,(hf i f hi').trans (zab hlt)⟩
   obtain⟨h1,ys,hfit,hrd⟩:=yEF (rec:=λt=>if P.cellsOf t=((yBk P n t).getD []).length then yBk P n t else none) (λt l cs x h1 h2=>by
    split at h1
    .rename_i hc;rw[h1]at hc;exact ih t l n' cs x h1 (by simpa using hc) h2
    .cases h1) fs.toList 0 l (by
     clear hall hlen hsz hf hx hC hu;generalize fs.toList=fl at h;generalize 0=o at h|-
     induction fl generalizing o l with
     |nil=>exact h
     | cons f fl ihf=>
      simp only[ykb]at h|-;split at h
      .rename_i a ha;split at h
       .rename_i hc;split at h
        .rename_i r hr;simp only[ha,zbc,hc.2,if_pos];rw[if_pos ⟨hc.1,trivial⟩];rw[ihf _ _ hr];exact h
        .cases h
       .cases h
      .cases h) (zbu _) hall
   refine⟨by omega,ys,hfit,?_⟩;have:cs=(cs.drop 0).take l.length:=by rw[List.drop_zero,zae (by omega)]
   rw[this];exact hrd
  .cases h
end
end Go.Proofs.YtdadkiofenhnbaaGreat
namespace Go.Proofs.YtdadkiofenhnbaaGreat
open Go.RowKit Go.ChangeShapes Go.WideShapes Go.Deep
def isStruct(P:Program)(t:TypeId):Bool:=match P.underlying t with
 |some (.struct _)=>true
 |_=>false
def yFX(P:Program)(t:TypeId):Option (Bool×List Sh):=
 match yBk P 64 t with
 |some l=>if P.cellsOf t=l.length then some (isStruct P t,l)else none
 |none=>none
inductive ySU:Bool×List Sh->AV->Prop where
 |st {l:List Sh} {xs:List C}:Fits l xs->ySU (true,l) (.agg (xs.map .c))
 |one {z:Sh} {c:C}:Fit z c->ySU (false,[z]) (.c c)
def yC8(P:Program):List TypeId->Option (List (Bool×List Sh))
 |[]=>some []
 |t::ts=>match yFX P t,yC8 P ts with
  |some a,some l=>some (a::l)
  |_,_=>none
def yCr:List (Bool×List Sh)->List AV->Prop
 |[],as=>as=[]
 |z::zs,as=>∃a as',as=a::as'/\ySU z a/\yCr zs as'
section
variable {H:Type} {enc:TypeId×Value->H} {P:Program} {w:World}
def yF1 {r:Reach} {b0 base:Nat} {spare:Nat->Bool} {held:Bool} {t:TypeId} {z:Bool×List Sh} {v:Value} {d:DataW H} {ps:List MemPlace} (hz:yFX P t=some z) (hv:Value.okWide P w r b0 t v)
 (h:DataW.Trod enc P w base spare held t v d ps):∃a,ySU z a/\RV w (Old w) noO noB v a:=by
 simp only[yFX]at hz;split at hz
 .rename_i l hl;split at hz
  .rename_i hC;cases hz;obtain⟨fuel,hf⟩:=h;obtain⟨hlen,xs,hfit,hrd⟩:=yIW 64 t l fuel _ _ hl hC hf;cases hs:isStruct P t with
   | true=>
    simp only[isStruct]at hs;split at hs
    .rename_i fs hu;obtain⟨cs,rfl,_⟩:=okWide_struct hu hv;refine⟨.agg (xs.map .c),.st hfit,cs,rfl,?_,λj x hj=>?_⟩
     .have:=hrd.1;simp[Value.cells]at this;simp[this]
     .rw[zau]at hj;cases hx:xs[j]? with
      |none=>rw[hx]at hj;cases hj
      | some c=>
       rw[hx]at hj;cases hj
       have hlt:j<cs.size:=by
        have h1:=(zaa.1 hx).1;have h2:=hrd.1;simp[Value.cells]at h2;omega
       refine⟨cs[j],zaL hlt,hrd.2 j _ c ?_ hx⟩;simp[Value.cells,hlt]
    .cases hs
   | false=>
    have hone:v.cells= #[v]:=by
     simp only[yBk]at hl;split at hl
     .rename_i hu;obtain⟨x,rfl⟩:=okWide_bool hu hv;rfl
     .rename_i hu;obtain⟨x,rfl⟩:=okWide_int hu hv;rfl
     .rename_i hu;obtain⟨x,rfl⟩:=okWide_int hu hv;rfl
     .rename_i hu;obtain⟨x,rfl⟩:=okWide_string hu hv;rfl
     .rename_i hu;obtain⟨x,y,z,rfl⟩:=okWide_slice hu hv;rfl
     .rename_i hu;simp[isStruct,hu]at hs
     .cases hl
    rw[hone]at hlen hrd;obtain⟨z,rfl⟩:∃z,l=[z]:=zbI.1 (by simpa using hlen.symm);obtain⟨c,ys,rfl,hc,hy⟩:=hfit.cons_inv;obtain rfl:=hy.gW;exact⟨.c c,.one hc,hrd.2 0 v c rfl rfl⟩
  .cases hz
 .cases hz
def yDH{r:Reach}{b0 base:Nat}{spare:Nat->Bool}{held:Bool}:∀{ts:List TypeId} {zs:List (Bool×List Sh)} {vs:List Value} {ds:List (DataW H)} {ps:List MemPlace},yC8 P ts=some zs->
 (∀(j:Nat) t v,ts[j]?=some t->vs[j]?=some v->Value.okWide P w r b0 t v)->DataW.TrodAll enc P w base spare held ts vs ds ps->
 ∃as,yCr zs as/\vs.length=as.length/\ds.length=ts.length/\∀(j:Nat) (x:AV),as[j]?=some x->∃u:Value,vs[j]?=some u/\RV w (Old w) noO noB u x:=by
 intro ts
 induction ts with
 |nil=>
  intro zs vs ds ps hz _ h;cases hz;obtain⟨rfl,rfl,rfl⟩:=trodAll_nil h;exact⟨[],rfl,rfl,rfl,by simp⟩
 | cons t ts ih=>
  intro zs vs ds ps hz hv h;simp only[yC8]at hz;split at hz
  .rename_i z zs' h1 h2;cases hz;obtain⟨v,vs',d,ds',p,q,rfl,rfl,rfl,h3,h4⟩:=trodAll_cons h;obtain⟨a,hfa,hra⟩:=yF1 h1 (hv 0 t v rfl rfl) h3;obtain⟨as,hf,hl,hd,hr⟩:=ih h2 (λj t' v' e1 e2=>hv (j+1) t' v' (by simpa using e1) (by simpa using e2)) h4;refine⟨a::as,⟨a,as,rfl,hfa,hf⟩,by simp[hl],by simp[hd],λj x hj=>?_⟩;cases j with
   |zero=>simp at hj;subst hj;exact⟨v,rfl,hra⟩
   |succ j=>simp at hj;obtain⟨u,hu,hx⟩:=hr j x hj;exact⟨u,by simpa using hu,hx⟩
  .cases hz
def yvN(hl:laidOutB P=true){W W':World}(hb:Below W.heap.size W W'):∀{ts:List TypeId} {vs:List Value} {ds:List (DataW H)} {ps:List MemPlace},
 ts.all (λt=>P.readableRec t&&decide (t<P.types.size))=true->DataW.TrodAll enc P W 0 (λ_=>true) true ts vs ds ps->(∀x∈ps,x.block<W.heap.size)->
 DataW.TrodAll enc P W' 0 (λb=>decide (b<W.heap.size)) true ts vs ds ps:=by
 intro ts
 induction ts with
 |nil=>
  intro vs ds ps _ h _;obtain⟨rfl,rfl,rfl⟩:=trodAll_nil h;rfl
 |cons t ts ih=>
  intro vs ds ps hr h hlt;obtain⟨v,vs',d,ds',p,q,rfl,rfl,rfl,h3,h4⟩:=trodAll_cons h;simp only[zdo,zad,decide_eq_true_eq]at hr;exact⟨p,q,Below.trod hl hr.1.1 hr.1.2 h3 hb λx hx=>hlt x (zbi _ hx),ih hr.2 h4 λx hx=>hlt x (zaQ _ hx),rfl⟩
end
structure ySS(s:ChangeSpec)(n:Nat):Prop where
 vars:s.vars=[]
 fn:∀(H:Type) (ds:List (DataW H)),ds.length=n->s.fn H ds={results:=[.lit (.bool true)],args:=ds}
structure ySD(P:Program)(fn:Func)(tb:TypeId)(zs:List (Bool×List Sh)):Prop where
 laid:laidOutB P=true
 par:fn.params.toList.all (λt=>P.readableRec t&&decide (t<P.types.size))=true
 res:fn.resultTypes= #[tb]
 bool:P.underlying tb=some .bool
 sh:yC8 P fn.params.toList=some zs
def yGF{H:Type}{enc:TypeId×Value->H}{P:Program}{fn:Func}{s:ChangeSpec}{tb:TypeId}{zs:List (Bool×List Sh)}(hs:ySS s fn.params.size)(hp:ySD P fn tb zs){W W':World}{args:Array Value}{ds gs:List (DataW H)}{before:List MemPlace}
 (hW:DataW.Whole enc P fn.params.toList s.vars false W args.toList ds gs before) (hlen:ds.length=fn.params.size) (hb:Below W.heap.size W W'):
 s.post enc P fn false true false false W args (.bool true) W':=by
 have hlt:=hW.lt;have hW0:=hW;obtain⟨p,q,hA,hV,rfl,hfz,hnd⟩:=hW;rw[hs.vars]at hV;obtain⟨rfl,rfl⟩:=trodVars_none hV;refine⟨ds,[],_,[],p,[],hW0,?_,?_,?_,?_,λh=>by cases h⟩
 .rw[zbF,hs.fn H ds hlen,hp.res];exact trodAll_mk1 ⟨1,by simp[DataW.trod,Value.cells,hp.bool]⟩
 .rw[zbF,hs.fn H ds hlen];exact yvN hp.laid hb hp.par hA λx hx=>hlt x (by simp[hx])
 .rw[zbF,hs.fn H ds hlen,hs.vars];rfl
 .exact hb.frame _
def law_lifted{C:Checked}{os:Os}{f:FuncId}{fn:Func}{s:ChangeSpec}{conds:List PathCond}{tb:TypeId}{zs:List (Bool×List Sh)}{H:Type}{enc:TypeId×Value->H}
 (own:ownKnob C.prog.godebug=none) (started:os.Started) (noInit:C.prog.inits.idxOf? f=none) (hfn:C.prog.funcs[f]?=some fn)
 (witness:∃(w:World) (tape:Tape) (i:Input),w.os=os/\(w.forCall tape i).Shaped C.prog/\i.vars=[]/\Input.okWide C.prog (w.forCall tape i) .any w.heap.size f i/\
  s.pre6 enc C.prog fn conds false (w.forCall tape i).memory i.args/\({}:Assume).holds C.prog (lone (Frame.enter C.prog f i.args .normal) [] (w.forCall tape i)))
 (hs:ySS s fn.params.size) (hp:ySD C.prog fn tb zs)
 (h:∀as,yCr zs as->qB C.prog f as (.c (.b true))):
 ReturnsInHanded {} C os f .any (s.pre6 enc C.prog fn conds false) (s.post enc C.prog fn false true false false):=by
 refine returnsInHanded_of_change own started noInit hfn witness ?_;intro W base args ds gs before hval hW _ _;have hA:=hW;obtain⟨p,q,hA,_,_,_,_⟩:=hA;obtain⟨as,hfit,hl1,hl2,hr⟩:=yDH hp.sh (λj t v h1 h2=>hval j t v (by simpa using h1) (by simpa using h2)) hA;refine(h as hfit W (Old W) (λb h=>h) args (by simpa using hl1) (λj x hx=>?_)).mono λe W' ⟨v,he,hb,hv⟩=>?_
 .obtain⟨u,hu,hx'⟩:=hr j x hx;exact⟨u,by simpa using hu,hx'⟩
 .cases hv with
  |b=>exact⟨_,he,yGF hs hp hW (by simpa using hl2) hb⟩
end Go.Proofs.YtdadkiofenhnbaaGreat
namespace Go.Proofs.YtdadkiofenhnbaaGreat
def yda(w r:List Char)(hw:w.all (λc=>!(c== ' '))=true):wordsSigns (w++ ' ' ::r)=w::wordsSigns r:=by
 induction w with
 |nil=>rfl
 |cons c w ih=>
  simp only[zdo,zad,zbb,beq_eq_false_iff_ne]at hw;simp only[zcw];rw[wordsSigns.eq_3 _ _ (by intro h;exact hw.1 h),ih hw.2]
def behind(s l:_)(hs:isSumSigns s=true):behindMainWord (['h','a','r','n','e','s','s']::s::l)=l:=by
 have h1: "harness".toList=['h','a','r','n','e','s','s']:=by decide
 simp only[behindMainWord,h1,hs];simp
def t1: "gc".toList=['g','c']:=by decide
def t2: "spec".toList=['s','p','e','c']:=by decide
def t3: "cut".toList=['c','u','t']:=by decide
def t4: "carried".toList=['c','a','r','r','i','e','d']:=by decide
def yqf:∀(os:List String) (l:List (List Char)),(∀o∈os,(['c','u','t']==o.toList)=false)->stripLifts os (['c','u','t']::l)=([],['c','u','t']::l)
 |[],_,_=>rfl
 |o::os,l,h=>by
  simp only[stripLifts,h o (by simp),zbQ,if_false];exact yqf os l λo ho=>h o (by simp[ho])
def yoW:∀o∈liftWords,(['c','u','t']==o.toList)=false:=by decide
def yId{P:Program}{l:List (List Char)}(h:behindMainWord (wordsSigns P.initOrder.toList)=['c','u','t']::l):P.make=some .cut:=by
 unfold Program.make;rw[h];simp[t1,t2,t3]
def yyc{P:Program}{l:List (List Char)}(h:behindMainWord (wordsSigns P.initOrder.toList)=['c','u','t']::l):P.headLifts=[]:=by
 unfold Program.headLifts;simp only[h,yqf _ _ yoW];simp
def yvD{P:Program}{l:List (List Char)}(h:behindMainWord (wordsSigns P.initOrder.toList)=['c','u','t']::l):P.liftsFinal=false:=by
 unfold Program.liftsFinal;simp only[yyc h];simp[h,t4]
def yzS{P:Program}{l:List (List Char)}(h:behindMainWord (wordsSigns P.initOrder.toList)=['c','u','t']::l)(h1:P.laysLater=false)(h2:P.bearsReflect=false)(h3:P.doorFits []=true):P.mayEnter=true:=by
 unfold Program.mayEnter;rw[h];simp[yqf _ _ yoW,t1,t2,t3,t4,h1,h2,h3]
structure ySF(P:Program):Prop where
 laid:laidOutB P=true
 maps:mapsRowed P=true
 stops:P.stops=[]
 knobs:P.stopKnobs=[]
 heard:P.stopsHeard=true
 keys:P.plainKeys=true
 enter:P.mayEnter=true
 lifts:P.liftsFinal=false
 make:P.make=some .cut
 own:ownKnob P.godebug=none
def yvb(P:Program)(f:FuncId)(fn:Func)(s:ChangeSpec)(c:OpenClaim):Bool:=
 c.wf (OpenSpec.ofChange s)&&
 fn.params.all (P.readableRec ·)&&namedTie P c.named s.vars&&
 (c.inPlace==P.inPlace f)&&(c.unfollowed==P.unfollowed f)&&(c.recurses==P.recurses f)&&(c.named==P.varsNamed f)&&
 (c.maps==(fn.params.toList++s.plain.varTypes P).any (P.mapsRec ·))&&(c.ifaces==(fn.params.toList++s.plain.varTypes P).any (P.ifacesRec ·))&&(c.mapsOut==P.mapsAmong fn.resultTypes.toList)&&
 (c.loops==(fn.params.toList++s.plain.varTypes P).any (P.loopsFrom ·))&&(c.wideKeys==(fn.params.toList++s.plain.varTypes P++fn.resultTypes.toList).any (P.wideKeysFrom ·))&&
 s.vars.all (P.varReadable ·)&&fn.resultTypes.all (λt=>P.readableRec t&&decide (t<P.types.size))&&(c.ifacesOut==fn.resultTypes.toList.any (P.ifacesRec ·))&&(c.loopsOut==fn.resultTypes.toList.any (P.loopsFrom ·))&&
 (c.pinned==c.pinnedBy)&&
 (c.veiled==(fn.params.toList++s.plain.varTypes P++fn.resultTypes.toList).any (P.veiledRec ·))&&c.veiledFits P fn.params.toList (fn.params.toList++s.plain.varTypes P++fn.resultTypes.toList)
def yDX{P:Program}{f:FuncId}{fn:Func}{s:ChangeSpec}{c:OpenClaim}(h:ySF P)(hr:yvb P f fn s c=true)
 (hc:c.stops=[]/\c.knobs=[]/\c.plainKeys=true/\c.shortTexts=none/\c.lifted=false/\c.make=.cut/\c.domain=[]/\c.kinds=[]):joinedFacts P f fn s c=true:=by
 obtain⟨c1,c2,c3,c4,c5,c6,c7,c8⟩:=hc;unfold joinedFacts;unfold yvb at hr;rw[h.laid,h.maps,h.stops,h.knobs,h.heard,h.keys,h.enter,h.lifts,h.make,c1,c2,c3,c4,c5,c6,c7,c8];simp only[zad]at hr|-;simp only[hr,and_self,true_and,and_true];simp
end Go.Proofs.YtdadkiofenhnbaaGreat
