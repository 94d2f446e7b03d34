/- The machine of the proof: an abstract run of the code, proved sound. -/
import Derived.Test.YtdadkiofenhnbaaGreatTA17
set_option linter.all false
namespace Go.Proofs.YtdadkiofenhnbaaGreat
open Go.RowKit
section
variable {P:Program} {f:Nat} {s:St} {d id:Nat} {n:Nat} {xs:List X} {args:List AV} {res:AV} {K:Lab->St->Prop} {T:Tag K} {cs cs':List C}
def yadN{j id:Nat}(h:2*j∈[2*id]\/2*j+1∈[2*id]):j=id:=by
 rcases h with h|h<;>simp at h<;>omega
def yZ9(hp:yZW P f cs cs' args res)(h0:s.env n=.box id 0)(hO:s.ob id=.box (cs.map .c))(ho:∀s':St,iO s' (xs.map s.ev) args)(hdat:(xs.map s.ev).all AV.nU=true)(hu:res.unp d=res)(hn:res.fK d=[])
 (hK:K ([2*id],true) ((s.iG id (.box (cs'.map .c))).put (some d) res)):yadG P f (some d) (.t n::xs) s K T:=by
 refine⟨([2*id],true),_,⟨[],[(id,.box (cs'.map .c))],res,bT,⟨λj hj=>(by cases hj),λp hp'=>?_,λs2 e1 e2 e3 K2 hK2=>?_⟩,λj hj=>?_,rfl⟩,hK⟩
 .simp only[zak]at hp';subst hp';simp
 .have em:xs.map s2.ev=xs.map s.ev:=zbg λx hx=>e1 x (by simp[IOp.xs,hx]);have e0:s2.ev (.t n)=.box id 0:=(e1 (.t n) (by simp[IOp.xs])).trans h0
  show yat P f ((X.t n::xs).map s2.ev) (some d) s2 K2
  rw[zaC,em,e0];have hid:s2.ob id=s.ob id:=e2 (.t n) (by simp[IOp.xs]) id (by rw[show s.ev (.t n)=s.env n from rfl,h0];simp[AV.ids,AV.qV,AV.nP,AV.tJ]);refine yYE hp (hid.trans hO) (ho s2) hdat ⟨by rw[hn];simp,by rw[hn];simp⟩ ?_
  have:(s2.iG id (.box (cs'.map .c))).take d res=(s2.iG id (.box (cs'.map .c))).put (some d) res:=by
   unfold St.take;rw[hu,hn];rfl
  rw[this,bT];exact hK2
 .refine .inl ⟨.t n,by simp[IOp.xs],?_⟩;rw[yadN hj,show s.ev (.t n)=s.env n from rfl,h0];simp[AV.ids,AV.qV,AV.nP,AV.tJ]
def yaaz{m id1 k q:Nat}{rows:List (List C)}(hp:CurG P f cs cs' k (rows.take q) res)(h0:s.env n=.box id 0)(h1:s.env m=.own id1 k q)(hO:s.ob id=.box (cs.map .c))(hO1:s.ob id1=.row k rows)(hs:res.scalar=true)
 (hK:K ([2*id,2*id1+1],true) (((s.drop id1).iG id (.box (cs'.map .c))).put (some d) res)):yadG P f (some d) [.t n,.t m] s K T:=by
 have i0:id∈(s.ev (.t n)).ids:=by rw[show s.ev (.t n)=s.env n from rfl,h0];simp[AV.ids,AV.qV,AV.nP,AV.tJ]
 have i1:id1∈(s.ev (.t m)).ids:=by rw[show s.ev (.t m)=s.env m from rfl,h1];simp[AV.ids,AV.qV,AV.nP,AV.tJ]
 refine⟨([2*id,2*id1+1],true),_,⟨[id1],[(id,.box (cs'.map .c))],res,pU (ids:=[id1]),⟨λj hj=>?_,λp hp'=>?_,λs2 e1 e2 e3 K2 hK2=>?_⟩,λj hj=>?_,rfl⟩,hK⟩
 .simp only[zak]at hj;subst hj;simp
 .simp only[zak]at hp';subst hp';simp
 .have a0:s2.ev (.t n)=.box id 0:=(e1 (.t n) (by simp[IOp.xs])).trans h0;have a1:s2.ev (.t m)=.own id1 k q:=(e1 (.t m) (by simp[IOp.xs])).trans h1
  show yat P f ([X.t n,X.t m].map s2.ev) (some d) s2 K2
  rw[zaC,zaC,zcj,a0,a1];refine yY5 hp ((e2 (.t n) (by simp[IOp.xs]) id i0).trans hO) ((e2 (.t m) (by simp[IOp.xs]) id1 i1).trans hO1) hs ?_;have:((s2.drop id1).iG id (.box (cs'.map .c))).put (some d) res=s2.act [id1] [(id,.box (cs'.map .c))] (some d) res:=pU (ids:=[id1]);rw[this];exact hK2
 .have:j=id\/j=id1:=by
   rcases hj with h|h<;>simp at h<;>omega
  rcases this with e|e
  .exact .inl ⟨.t n,by simp[IOp.xs],e▸i0⟩
  .exact .inl ⟨.t m,by simp[IOp.xs],e▸i1⟩
end
end Go.Proofs.YtdadkiofenhnbaaGreat
