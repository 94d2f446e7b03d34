/- The machine of the proof: an abstract run of the code, proved sound. -/
import Derived.Test.YtdadkiofenhnbaaGreatTA7
set_option linter.all false
namespace Go.Proofs.YtdadkiofenhnbaaGreat
open Go.RowKit
inductive H where
 |p (c:C)
 |w (k:Nat) (rows:List (List C))
 |t (k:Nat) (rows:List (List C))
def H.c:H->C
 | .p c=>c
 | .w k rows=>cw k rows
 | .t k rows=>ct k rows
def hv(id k:Nat):List (List C)->AV
 |[]=>.c (.sl k [])
 |r::l=>.own id k (r::l).length
def hw(k:Nat):List (List C)->Obj
 |[]=>.none
 |r::l=>.row k (r::l)
def ht(k ver:Nat):List (List C)->Obj
 |[]=>.none
 |r::l=>.tr k ver (r::l)
def H.av(id:Nat):H->AV
 | .p c=>.c c
 | .w k rows=>hv id k rows
 | .t k rows=>hv id k rows
def H.ob:H->Obj
 | .p _=>.none
 | .w k rows=>hw k rows
 | .t k rows=>ht k 0 rows
def H.ok:H->Prop
 | .p c=>c.plain=true
 |_=>True
section
variable {P:Program} {f:Nat} {s:St} {d:Option Nat} {avs args:List AV} {res:AV} {K:St->Prop} {id k ver:Nat} {rows rows':List (List C)}
end
end Go.Proofs.YtdadkiofenhnbaaGreat
