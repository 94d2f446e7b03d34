/- What the law FnOnlyWater stands on: the machine, in short form (names, layout). -/
import Derived.Test.YtpiplmnecmkafaaGreatSOnlyWaterA7
set_option linter.all false
namespace Go.Proofs.YtpiplmnecmkafaaGreat
open Go.RowKit
inductive H where
 |p (c:C)
 |w (k:Nat) (rows:List (List C))
 |t (k:Nat) (rows:List (List C))
def H.c:H->C
 | .p c=>c
 | .w k rows=>cw k rows
 | .t k rows=>ct k rows
def hv(id k:Nat):List (List C)->AV
 |[]=>.c (.sl k [])
 |r::l=>.own id k (r::l).length
def hw(k:Nat):List (List C)->Obj
 |[]=>.none
 |r::l=>.row k (r::l)
def ht(k ver:Nat):List (List C)->Obj
 |[]=>.none
 |r::l=>.tr k ver (r::l)
def H.av(id:Nat):H->AV
 | .p c=>.c c
 | .w k rows=>hv id k rows
 | .t k rows=>hv id k rows
def H.ob:H->Obj
 | .p _=>.none
 | .w k rows=>hw k rows
 | .t k rows=>ht k 0 rows
def H.ok:H->Prop
 | .p c=>c.plain=true
 |_=>True
def avH:Nat->List H->List AV
 |_,[]=>[]
 |j,h::l=>h.av (sid 0 j)::avH (j+1) l
def obH:Nat->List H->Nat->Obj
 |_,[]=>λ_=>.none
 |j,h::l=>λi=>if i=sid 0 j then h.ob else obH (j+1) l i
def ysi(hs:List H)(args:List AV):St:=⟨λt=>if t=1000000 then .agg (avH 0 hs)else if t=0 then .agg (avH 0 hs)else(args[t-1]?).getD .any,obH 0 hs⟩
@[simp] theorem yz4{id k:Nat}{rows:List (List C)}:(hv id k rows).bF=true:=by cases rows<;>rfl
@[simp] theorem yBp{hs:List H}{args:List AV}{t:Nat}:(ysi hs args).env t=if t=1000000 then .agg (avH 0 hs)else if t=0 then .agg (avH 0 hs)else(args[t-1]?).getD .any:=rfl
@[simp] theorem yEf{hs:List H}{args:List AV}{i:Nat}:(ysi hs args).ob i=obH 0 hs i:=rfl
@[simp] theorem yx1{hs:List H}{args:List AV}{i:Nat}:(ysi hs args).objs i=obH 0 hs i:=rfl
@[simp] theorem avH_nil{j:Nat}:avH j []=[]:=rfl
@[simp] theorem avH_p{j:Nat}{c:C}{l:List H}:avH j (.p c::l)=.c c::avH (j+1) l:=rfl
@[simp] theorem avH_w{j k:Nat}{rows:List (List C)}{l:List H}:avH j (.w k rows::l)=hv (sid 0 j) k rows::avH (j+1) l:=rfl
@[simp] theorem avH_t{j k:Nat}{rows:List (List C)}{l:List H}:avH j (.t k rows::l)=hv (sid 0 j) k rows::avH (j+1) l:=rfl
@[simp] theorem obH_nil{j i:Nat}:obH j [] i=.none:=rfl
@[simp] theorem obH_p{j i:Nat}{c:C}{l:List H}:obH j (.p c::l) i=if i=sid 0 j then .none else obH (j+1) l i:=rfl
@[simp] theorem obH_w{j k i:Nat}{rows:List (List C)}{l:List H}:obH j (.w k rows::l) i=if i=sid 0 j then hw k rows else obH (j+1) l i:=rfl
@[simp] theorem obH_t{j k i:Nat}{rows:List (List C)}{l:List H}:obH j (.t k rows::l) i=if i=sid 0 j then ht k 0 rows else obH (j+1) l i:=rfl
section
variable {P:Program} {f:Nat} {s:St} {d:Option Nat} {avs args:List AV} {res:AV} {K:St->Prop} {id k ver:Nat} {rows rows':List (List C)}
end
end Go.Proofs.YtpiplmnecmkafaaGreat
