/- What the law FnExactLedgerOk stands on: the machine, in short form (names, layout). -/
import Derived.Test.YtpkpdbohalbbaaaGreatSExactLedgerOkA7
set_option linter.all false
namespace Go.Proofs.YtpkpdbohalbbaaaGreat
open Go.RowKit
def yvQ (k : AV → Prop) : AV → Prop
 | .tup _=>False
 | x=>k x
def boxK (n : Nat) (k : AV → Prop) : Obj → Prop
 | .box cells=>cells.length = n ∧ k (.agg cells)
 | _=>False
def clK (s : St) (n : Nat) (k : AV → Prop) : AV → Prop
 | .box id 0=>boxK n k (s.ob id)
 | _=>False
def yyH (k : AV → Prop) : Obj → Prop
 | .box [x]=>k x
 | _=>False
def c1K (s : St) (k : AV → Prop) : AV → Prop
 | .box id 0=>yyH k (s.ob id)
 | _=>False
def resK (s : St) (r : RS) (k : AV → Prop) : Prop :=
 match r with
 | .t n=>yvQ k (s.env n)
 | .cl n m=>clK s m k (s.env n)
 | .c1 n=>c1K s k (s.env n)
@[simp] theorem resK_t {s : St} {n : Nat} {k : AV → Prop} : resK s (.t n) k = yvQ k (s.env n):=rfl
@[simp] theorem resK_cl {s : St} {n m : Nat} {k : AV → Prop} : resK s (.cl n m) k = clK s m k (s.env n):=rfl
@[simp] theorem resK_c1 {s : St} {n : Nat} {k : AV → Prop} : resK s (.c1 n) k = c1K s k (s.env n):=rfl
@[simp] theorem clK_box {s : St} {n id : Nat} {k : AV → Prop} : clK s n k (.box id 0) = boxK n k (s.ob id):=rfl
@[simp] theorem yKr {n : Nat} {k : AV → Prop} {cells : List AV} : boxK n k (.box cells) = (cells.length = n ∧ k (.agg cells)):=rfl
@[simp] theorem c1K_box {s : St} {id : Nat} {k : AV → Prop} : c1K s k (.box id 0) = yyH k (s.ob id):=rfl
@[simp] theorem yFq {k : AV → Prop} {x : AV} : yyH k (.box [x]) = k x:=rfl
@[simp] theorem tupK_c {k : AV → Prop} {c : C} : yvQ k (.c c) = k (.c c):=rfl
@[simp] theorem yJb {k : AV → Prop} {id q n : Nat} : yvQ k (.own id q n) = k (.own id q n):=rfl
@[simp] theorem yHM {k : AV → Prop} {q : Nat} : yvQ k (.nil q) = k (.nil q):=rfl
@[simp] theorem yIx {k : AV → Prop} {l : List AV} : yvQ k (.agg l) = k (.agg l):=rfl
@[simp] theorem yHf {k : AV → Prop} {q : Nat} {r : List (List C)} : yvQ k (.clip q r) = k (.clip q r):=rfl
end Go.Proofs.YtpkpdbohalbbaaaGreat
