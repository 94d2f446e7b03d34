/- The machine of the proof: an abstract run of the code, proved sound. -/
import Derived.Test.YtdadkiofenhnbaaGreatTA7
set_option linter.all false
namespace Go.Proofs.YtdadkiofenhnbaaGreat
open Go.RowKit
def res1(s:St)(r:RS)(x:AV):Prop:=
 match r with
 | .t n=>s.env n=x/\yzi x
 | .cl n k=>∃id cells,s.env n=.box id 0/\s.ob id=.box cells/\cells.length=k/\x=.agg cells
 | .c1 n=>∃id,s.env n=.box id 0/\s.ob id=.box [x]
def resL(s:St):List RS->List AV->Prop
 |[],[]=>True
 |r::rs,x::xs=>res1 s r x/\resL s rs xs
 |_,_=>False
def yFj{s:St}{r:RS}{x:AV}(h:res1 s r x):yef s r=some x:=by
 cases r with
 |t n=>
  obtain⟨h1,h2⟩:=h;simp only[yef,h1];cases x<;>first|rfl|exact h2.elim
 |cl n k=>
  obtain⟨id,cells,h1,h2,h3,rfl⟩:=h;simp only[yef,h1,h2,h3,if_true]
 |c1 n=>
  obtain⟨id,h1,h2⟩:=h;simp only[yef,h1,h2]
def ywX{s:St}:∀{rs:List RS} {xs:List AV},resL s rs xs->ybW s rs=some xs
 |[],[],_=>rfl
 |[],_::_,h=>h.elim
 |_::_,[],h=>h.elim
 |r::rs,x::xs,h=>by simp only[ybW,yFj h.1,ywX h.2]
def tupK(k:AV->Prop):AV->Prop
 | .tup _=>False
 |x=>k x
def boxK(n:Nat)(k:AV->Prop):Obj->Prop
 | .box cells=>cells.length=n/\k (.agg cells)
 |_=>False
def clK(s:St)(n:Nat)(k:AV->Prop):AV->Prop
 | .box id 0=>boxK n k (s.ob id)
 |_=>False
def yFM(k:AV->Prop):Obj->Prop
 | .box [x]=>k x
 |_=>False
def c1K(s:St)(k:AV->Prop):AV->Prop
 | .box id 0=>yFM k (s.ob id)
 |_=>False
def yza(s:St)(r:RS)(k:AV->Prop):Prop:=
 match r with
 | .t n=>tupK k (s.env n)
 | .cl n m=>clK s m k (s.env n)
 | .c1 n=>c1K s k (s.env n)
@[simp] def resK_t{s:St}{n:Nat}{k:AV->Prop}:yza s (.t n) k=tupK k (s.env n):=rfl
@[simp] def resK_cl{s:St}{n m:Nat}{k:AV->Prop}:yza s (.cl n m) k=clK s m k (s.env n):=rfl
@[simp] def yH7{s:St}{n id:Nat}{k:AV->Prop}:clK s n k (.box id 0)=boxK n k (s.ob id):=rfl
@[simp] def yQZ{n:Nat}{k:AV->Prop}{cells:List AV}:boxK n k (.box cells)=(cells.length=n/\k (.agg cells)):=rfl
@[simp] def yIB{s:St}{id:Nat}{k:AV->Prop}:c1K s k (.box id 0)=yFM k (s.ob id):=rfl
@[simp] def tupK_c{k:AV->Prop}{c:C}:tupK k (.c c)=k (.c c):=rfl
def yAk{s:St}{r:RS}{k:AV->Prop}(h:yza s r k):∃x,res1 s r x/\k x:=by
 cases r with
 |t n=>
  simp only[yza]at h;refine⟨s.env n,⟨rfl,?_⟩,?_⟩<;>(revert h;generalize s.env n=x;cases x<;>intro h<;>first|trivial|exact h|exact h.elim)
 |cl n m=>
  simp only[yza]at h;cases hx:s.env n<;>rw[hx]at h<;>first|exact h.elim|skip
  rename_i id off;cases off<;>first|exact h.elim|skip
  rw[yH7]at h;cases ho:s.ob id<;>rw[ho]at h<;>first|exact h.elim|skip
  rename_i cells;exact⟨_,⟨id,cells,hx,ho,h.1,rfl⟩,h.2⟩
 |c1 n=>
  simp only[yza]at h;cases hx:s.env n<;>rw[hx]at h<;>first|exact h.elim|skip
  rename_i id off;cases off<;>first|exact h.elim|skip
  rw[yIB]at h;cases ho:s.ob id<;>rw[ho]at h<;>first|exact h.elim|skip
  rename_i cells
  match cells,h,ho with
  |[x],h,ho=>exact⟨x,⟨id,hx,ho⟩,h⟩
def ycx{s:St}{r1 r2:RS}{y1 y2:AV}(h:yza s r1 λx1=>yza s r2 λx2=>ygt s x1 y1/\ygt s x2 y2/\(x1.yfL++x2.yfL).Nodup):ykX s [r1,r2] (.tup [y1,y2]):=by
 obtain⟨x1,h1,h⟩:=yAk h;obtain⟨x2,h2,o1,o2,hn⟩:=yAk h;unfold ykX;rw[ywX (rs:=[r1,r2]) (xs:=[x1,x2]) ⟨h1,h2,trivial⟩];exact⟨[y1,y2],rfl,⟨o1,o2,trivial⟩,by simpa using hn⟩
end Go.Proofs.YtdadkiofenhnbaaGreat
