/- What the law FnOnlyWater stands on: the machine, in short form (names, layout). -/
import Derived.Test.YtpiplmnecmkafaaGreatSOnlyWaterA7
set_option linter.all false
namespace Go.Proofs.YtpiplmnecmkafaaGreat
open Go.RowKit
def res1(s:St)(r:RS)(x:AV):Prop:=
 match r with
 | .t n=>s.env n=x/\yl0 x
 | .cl n k=>∃id cells,s.env n=.box id 0/\s.ob id=.box cells/\cells.length=k/\x=.agg cells
 | .c1 n=>∃id,s.env n=.box id 0/\s.ob id=.box [x]
def resL(s:St):List RS->List AV->Prop
 |[],[]=>True
 |r::rs,x::xs=>res1 s r x/\resL s rs xs
 |_,_=>False
theorem ysm{s:St}{r:RS}{x:AV}(h:res1 s r x):qV s r=some x:=by
 cases r with
 |t n=>
  obtain⟨h1,h2⟩:=h;simp only[qV,h1];cases x<;>first|rfl|exact h2.elim
 |cl n k=>
  obtain⟨id,cells,h1,h2,h3,rfl⟩:=h;simp only[qV,h1,h2,h3,if_true]
 |c1 n=>
  obtain⟨id,h1,h2⟩:=h;simp only[qV,h1,h2]
theorem yke{s:St}:∀{rs:List RS} {xs:List AV},resL s rs xs->kT s rs=some xs
 |[],[],_=>rfl
 |[],_::_,h=>h.elim
 |_::_,[],h=>h.elim
 |r::rs,x::xs,h=>by simp only[kT,ysm h.1,yke h.2]
def yoV(k:AV->Prop):AV->Prop
 | .tup _=>False
 |x=>k x
def boxK(n:Nat)(k:AV->Prop):Obj->Prop
 | .box cells=>cells.length=n/\k (.agg cells)
 |_=>False
def clK(s:St)(n:Nat)(k:AV->Prop):AV->Prop
 | .box id 0=>boxK n k (s.ob id)
 |_=>False
def ytk(k:AV->Prop):Obj->Prop
 | .box [x]=>k x
 |_=>False
def c1K(s:St)(k:AV->Prop):AV->Prop
 | .box id 0=>ytk k (s.ob id)
 |_=>False
def ylb(s:St)(r:RS)(k:AV->Prop):Prop:=
 match r with
 | .t n=>yoV k (s.env n)
 | .cl n m=>clK s m k (s.env n)
 | .c1 n=>c1K s k (s.env n)
@[simp] theorem resK_t{s:St}{n:Nat}{k:AV->Prop}:ylb s (.t n) k=yoV k (s.env n):=rfl
@[simp] theorem resK_cl{s:St}{n m:Nat}{k:AV->Prop}:ylb s (.cl n m) k=clK s m k (s.env n):=rfl
@[simp] theorem resK_c1{s:St}{n:Nat}{k:AV->Prop}:ylb s (.c1 n) k=c1K s k (s.env n):=rfl
@[simp] theorem yuT{s:St}{n id:Nat}{k:AV->Prop}:clK s n k (.box id 0)=boxK n k (s.ob id):=rfl
@[simp] theorem yCl{n:Nat}{k:AV->Prop}{cells:List AV}:boxK n k (.box cells)=(cells.length=n/\k (.agg cells)):=rfl
@[simp] theorem yuv{s:St}{id:Nat}{k:AV->Prop}:c1K s k (.box id 0)=ytk k (s.ob id):=rfl
@[simp] theorem yzz{k:AV->Prop}{x:AV}:ytk k (.box [x])=k x:=rfl
@[simp] theorem tupK_c{k:AV->Prop}{c:C}:yoV k (.c c)=k (.c c):=rfl
@[simp] theorem yCi{k:AV->Prop}{id q n:Nat}:yoV k (.own id q n)=k (.own id q n):=rfl
@[simp] theorem yEp{k:AV->Prop}{q:Nat}:yoV k (.nil q)=k (.nil q):=rfl
@[simp] theorem yCO{k:AV->Prop}{l:List AV}:yoV k (.agg l)=k (.agg l):=rfl
@[simp] theorem yzB{k:AV->Prop}{q:Nat}{r:List (List C)}:yoV k (.clip q r)=k (.clip q r):=rfl
theorem ynI{s:St}{r:RS}{k:AV->Prop}(h:ylb s r k):∃x,res1 s r x/\k x:=by
 cases r with
 |t n=>
  simp only[ylb]at h;refine⟨s.env n,⟨rfl,?_⟩,?_⟩<;>(revert h;generalize s.env n=x;cases x<;>intro h<;>first|trivial|exact h|exact h.elim)
 |cl n m=>
  simp only[ylb]at h;cases hx:s.env n<;>rw[hx]at h<;>first|exact h.elim|skip
  rename_i id off;cases off<;>first|exact h.elim|skip
  rw[yuT]at h;cases ho:s.ob id<;>rw[ho]at h<;>first|exact h.elim|skip
  rename_i cells;exact⟨_,⟨id,cells,hx,ho,h.1,rfl⟩,h.2⟩
 |c1 n=>
  simp only[ylb]at h;cases hx:s.env n<;>rw[hx]at h<;>first|exact h.elim|skip
  rename_i id off;cases off<;>first|exact h.elim|skip
  rw[yuv]at h;cases ho:s.ob id<;>rw[ho]at h<;>first|exact h.elim|skip
  rename_i cells
  match cells,h,ho with
  |[x],h,ho=>exact⟨x,⟨id,hx,ho⟩,h⟩
theorem yH{s:St}{r1 r2:RS}{y1 y2:AV}(h:ylb s r1 λx1=>ylb s r2 λx2=>yu s x1 y1/\yu s x2 y2/\(x1.mW++x2.mW).Nodup):yav s [r1,r2] (.tup [y1,y2]):=by
 obtain⟨x1,h1,h⟩:=ynI h;obtain⟨x2,h2,o1,o2,hn⟩:=ynI h;unfold yav;rw[yke (rs:=[r1,r2]) (xs:=[x1,x2]) ⟨h1,h2,trivial⟩];exact⟨[y1,y2],rfl,⟨o1,o2,trivial⟩,by simpa using hn⟩
end Go.Proofs.YtpiplmnecmkafaaGreat
