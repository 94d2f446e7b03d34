/- What the law FnExactBoatsOnce stands on: the machine, in short form (names, layout). -/
import Derived.Test.YtpkpdbohalbbaaaGreatSExactBoatsOnceA7
set_option linter.all false
namespace Go.Proofs.YtpkpdbohalbbaaaGreat
open Go.RowKit
def lnt1 (s : St) (ids : List Nat) (x y : AV) : Prop:=(x.ypu = true ∧ out1 s x y) ∨ ∃ id cs,x = .box id 0 ∧ y = .elt cs ∧ s.ob id = .box (cs.map .c) ∧ id ∉ ids
def yML (s : St) (ids : List Nat) : List AV → List AV → Prop
 | [],[]=>True
 | x :: l,y :: l'=>lnt1 s ids x y ∧ yML s ids l l'
 | _,_=>False
def lnt (s : St) (ids : List Nat) (x y : AV) : Prop:=(x.ycJ = true ∧ ydb s x y) ∨ ∃ f l l',x = .fn f l ∧ y = .fn f l' ∧ yML s ids l l'
def yMP (s : St) (ids : List Nat) : List AV → List AV → Prop
 | [],[]=>True
 | x :: l,y :: l'=>lnt s ids x y ∧ yMP s ids l l'
 | _,_=>False
section
variable {P : Program} {f : Nat} {s : St} {d : Option Nat} {avs args : List AV} {res : AV} {K : St → Prop}
end
@[simp] theorem yNw {s : St} {ids : List Nat} : yMP s ids [] [] = True:=rfl
@[simp] theorem yNv {s : St} {ids : List Nat} {x y : AV} {l l' : List AV} : yMP s ids (x :: l) (y :: l') = (lnt s ids x y ∧ yMP s ids l l'):=rfl
end Go.Proofs.YtpkpdbohalbbaaaGreat
