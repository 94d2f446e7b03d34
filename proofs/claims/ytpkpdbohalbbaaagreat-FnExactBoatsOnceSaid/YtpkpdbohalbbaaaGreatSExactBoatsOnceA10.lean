/- What the law FnExactBoatsOnce stands on: the machine, in short form (names, layout). -/
import Derived.Test.YtpkpdbohalbbaaaGreatSExactBoatsOnceA7
set_option linter.all false
namespace Go.Proofs.YtpkpdbohalbbaaaGreat
open Go.RowKit
section
variable {g : Ghost} {s : St} {a : Act} {w : World} {blk : Lay} {v : Value} {x y : AV}
theorem Repr.drops (h : Repr g s a w blk) (ids : List Nat) : Repr g (s.drops ids) a w blk ∧ (∀ b,Good g s.objs blk w b → Good g (s.drops ids).objs blk w b) ∧ (∀ id,id ∈ ids → s.objs id ≠ .none → ∀ b,blk.fp id b → Good g (s.drops ids).objs blk w b):=by
 have e : (⟨fun t=>(s.env t).kills ids,(s.drops ids).objs⟩ : St) = s.drops ids:=by
  have : (fun t=>(s.env t).kills ids) = (s.drops ids).env:=funext fun t=>(St.yjz ids s t).symm
  rw [this]
 have live : ∀ i,(s.drops ids).objs i ≠ .none → i ∉ ids ∧ s.objs i ≠ .none:=by
  intro i hi
  rw [St.ydR] at hi
  by_cases hm : i ∈ ids
  ·rw [if_pos hm] at hi; exact absurd rfl hi
  ·rw [if_neg hm] at hi; exact ⟨hm,(Obj.ydO ids _).1 hi⟩
 obtain ⟨k1,k2,_⟩:=h.ywN ids (fun _=>False) (objs':=(s.drops ids).objs) (w':=w) (L':=blk) (X:=noF) (Off.refl _ _) (fun q hq=>hq.elim) (fun i _=>⟨St.ydR ids s i,rfl,rfl⟩)
  (fun _ _ h=>h.elim) (fun _ _ _ h=>h.elim) (fun _ _ h=>h.elim) (fun _ h=>h.elim) (fun _ _ _ _ h=>h.elim) (fun _ _ _ _ _ h=>h.elim)
 rw [e] at k1
 refine ⟨k1,k2.good,fun id hid hl b hb=>?_⟩
 obtain ⟨n1,n2⟩:=h.new id b hl hb
 refine ⟨?_,fun i hi hf=>?_⟩
 ·rcases n1 with n1 | n1
  ·exact .inl (.inr n1)
  ·exact .inr ⟨n1,n2⟩
 ·obtain ⟨q1,q2⟩:=live i hi
  have:=h.inj i id b q2 hl hf hb
  subst this
  exact q1 hid
end
section
variable {P : Program} {f : Nat} {s : St} {d : Option Nat} {avs args : List AV} {res : AV} {K : St → Prop}
end
end Go.Proofs.YtpkpdbohalbbaaaGreat
