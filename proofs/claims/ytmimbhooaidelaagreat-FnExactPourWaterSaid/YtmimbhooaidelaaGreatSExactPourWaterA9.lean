/- What the law FnExactPourWater stands on: the machine, in short form (names, layout). -/
import Derived.Test.YtmimbhooaidelaaGreatSExactPourWaterA7
set_option linter.all false
namespace Go.Proofs.YtmimbhooaidelaaGreat
open Go.RowKit
def yz0 (k : AV → Prop) : AV → Prop
 | .tup _=>False
 | x=>k x
def boxK (n : Nat) (k : AV → Prop) : Obj → Prop
 | .box cells=>cells.length = n ∧ k (.agg cells)
 | _=>False
def clK (s : St) (n : Nat) (k : AV → Prop) : AV → Prop
 | .box id 0=>boxK n k (s.ob id)
 | _=>False
def yDv (k : AV → Prop) : Obj → Prop
 | .box [x]=>k x
 | _=>False
def c1K (s : St) (k : AV → Prop) : AV → Prop
 | .box id 0=>yDv k (s.ob id)
 | _=>False
def resK (s : St) (r : RS) (k : AV → Prop) : Prop :=
 match r with
 | .t n=>yz0 k (s.env n)
 | .cl n m=>clK s m k (s.env n)
 | .c1 n=>c1K s k (s.env n)
@[simp] theorem resK_t {s : St} {n : Nat} {k : AV → Prop} : resK s (.t n) k = yz0 k (s.env n):=rfl
@[simp] theorem resK_cl {s : St} {n m : Nat} {k : AV → Prop} : resK s (.cl n m) k = clK s m k (s.env n):=rfl
@[simp] theorem resK_c1 {s : St} {n : Nat} {k : AV → Prop} : resK s (.c1 n) k = c1K s k (s.env n):=rfl
@[simp] theorem clK_box {s : St} {n id : Nat} {k : AV → Prop} : clK s n k (.box id 0) = boxK n k (s.ob id):=rfl
@[simp] theorem yMd {n : Nat} {k : AV → Prop} {cells : List AV} : boxK n k (.box cells) = (cells.length = n ∧ k (.agg cells)):=rfl
@[simp] theorem c1K_box {s : St} {id : Nat} {k : AV → Prop} : c1K s k (.box id 0) = yDv k (s.ob id):=rfl
@[simp] theorem yIG {k : AV → Prop} {x : AV} : yDv k (.box [x]) = k x:=rfl
@[simp] theorem tupK_c {k : AV → Prop} {c : C} : yz0 k (.c c) = k (.c c):=rfl
@[simp] theorem yMa {k : AV → Prop} {id q n : Nat} : yz0 k (.own id q n) = k (.own id q n):=rfl
@[simp] theorem yL4 {k : AV → Prop} {q : Nat} : yz0 k (.nil q) = k (.nil q):=rfl
@[simp] theorem yL7 {k : AV → Prop} {l : List AV} : yz0 k (.agg l) = k (.agg l):=rfl
@[simp] theorem yKA {k : AV → Prop} {q : Nat} {r : List (List C)} : yz0 k (.clip q r) = k (.clip q r):=rfl
end Go.Proofs.YtmimbhooaidelaaGreat
