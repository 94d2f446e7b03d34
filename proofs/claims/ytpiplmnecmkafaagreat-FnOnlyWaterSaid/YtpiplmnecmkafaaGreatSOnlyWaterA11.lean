/- What the law FnOnlyWater stands on: the machine, in short form (names, layout). -/
import Derived.Test.YtpiplmnecmkafaaGreatSOnlyWaterA7
set_option linter.all false
namespace Go.Proofs.YtpiplmnecmkafaaGreat
open Go.RowKit
def AV.yOj (ids : List Nat) (x : AV) : Bool:=x.ya8.all fun i=>ids.contains i
def AV.frz (ids : List Nat) : AV → Bool
 | .agg l | .fn _ l=>l.all (AV.yOj ids)
 | .box _ _=>false
 | x=>x.yOj ids
section
variable {g : Ghost} {s : St} {a : Act} {w : World} {blk : Lay} {v : Value} {x y : AV}
theorem yOb {ids : List Nat} {id : Nat} (h : x.yOj ids = true) (hi : id ∈ x.ya8) : id ∈ ids:=by
 have:=List.all_eq_true.1 h id hi
 simpa using this
theorem yOh (h : Repr g s a w blk) {G' : Nat → Prop} {ids : List Nat} (hG : ∀ b,Good g s.objs blk w b → G' b) (hF : ∀ id,id ∈ ids → s.objs id ≠ .none → ∀ b,blk.fp id b → G' b) (hf : x.frz ids = true) (hx : RVs g s w blk v x) (ho : ydb s x y) : RV w G' noO noB v y:=by
 refine yje ?_
 unfold ydb at ho
 split at ho
 ·rename_i l
  split at ho
  ·rename_i l'
   obtain ⟨arr,e,hs,hl⟩:=hx
   obtain ⟨h1,h2⟩:=yfT ho
   refine ⟨arr,e,by omega,fun j z hj=>?_⟩
   obtain ⟨x,hx,hxy⟩:=h2 j z hj
   obtain ⟨u,hu,hru⟩:=hl j x hx
   exact ⟨u,hu,yNY h hG (fun id hid=>hF id (yOb (List.all_eq_true.1 hf x (List.mem_of_getElem? hx)) hid)) hru hxy⟩
  ·exact ho.elim
 ·rename_i f l
  split at ho
  ·rename_i f' l'
   obtain ⟨rfl,ho⟩:=ho
   obtain ⟨arr,e,hs,hl⟩:=hx
   obtain ⟨h1,h2⟩:=yfT ho
   refine ⟨arr,e,by omega,fun j z hj=>?_⟩
   obtain ⟨x,hx,hxy⟩:=h2 j z hj
   obtain ⟨u,hu,hru⟩:=hl j x hx
   exact ⟨u,hu,yNY h hG (fun id hid=>hF id (yOb (List.all_eq_true.1 hf x (List.mem_of_getElem? hx)) hid)) hru hxy⟩
  ·exact ho.elim
 ·cases hf
 ·have hf1 : x.yOj ids = true:=by
   cases x <;> first | exact hf | (rename_i h1 h2 h3; exact (h1 _ rfl).elim) | (rename_i h1 h2 h3; exact (h2 _ _ rfl).elim) | (rename_i h1 h2 h3; exact (h3 _ _ rfl).elim)
  refine yw5 (yNY h hG (fun id hid=>hF id (yOb hf1 hid)) ?_ ho)
  cases x <;> first | exact hx | exact ho.elim | (rename_i h1 h2 h3; exact (h1 _ rfl).elim) | (rename_i h1 h2 h3; exact (h2 _ _ rfl).elim)
theorem Repr.drops (h : Repr g s a w blk) (ids : List Nat) : Repr g (s.drops ids) a w blk ∧ (∀ b,Good g s.objs blk w b → Good g (s.drops ids).objs blk w b) ∧ (∀ id,id ∈ ids → s.objs id ≠ .none → ∀ b,blk.fp id b → Good g (s.drops ids).objs blk w b):=by
 have e : (⟨fun t=>(s.env t).kills ids,(s.drops ids).objs⟩ : St) = s.drops ids:=by
  have : (fun t=>(s.env t).kills ids) = (s.drops ids).env:=funext fun t=>(St.yjz ids s t).symm
  rw [this]
 have live : ∀ i,(s.drops ids).objs i ≠ .none → i ∉ ids ∧ s.objs i ≠ .none:=by
  intro i hi
  rw [St.ydR] at hi
  by_cases hm : i ∈ ids
  ·rw [if_pos hm] at hi; exact absurd rfl hi
  ·rw [if_neg hm] at hi; exact ⟨hm,(Obj.ydO ids _).1 hi⟩
 obtain ⟨k1,k2,_⟩:=h.ywN ids (fun _=>False) (objs':=(s.drops ids).objs) (w':=w) (L':=blk) (X:=noF) (Off.refl _ _) (fun q hq=>hq.elim) (fun i _=>⟨St.ydR ids s i,rfl,rfl⟩)
  (fun _ _ h=>h.elim) (fun _ _ _ h=>h.elim) (fun _ _ h=>h.elim) (fun _ h=>h.elim) (fun _ _ _ _ h=>h.elim) (fun _ _ _ _ _ h=>h.elim)
 rw [e] at k1
 refine ⟨k1,k2.good,fun id hid hl b hb=>?_⟩
 obtain ⟨n1,n2⟩:=h.new id b hl hb
 refine ⟨?_,fun i hi hf=>?_⟩
 ·rcases n1 with n1 | n1
  ·exact .inl (.inr n1)
  ·exact .inr ⟨n1,n2⟩
 ·obtain ⟨q1,q2⟩:=live i hi
  have:=h.inj i id b q2 hl hf hb
  subst this
  exact q1 hid
end
section
variable {P : Program} {f : Nat} {s : St} {d : Option Nat} {avs args : List AV} {res : AV} {K : St → Prop}
theorem yUj (ids : List Nat) (hp : yB P f args res) (ho : ybD s avs args) (hf : (avs.all (AV.frz ids)) = true) (hK : K ((s.drops ids).put d res)) : yfo P f avs d s K:=by
 intro g a w blk h hd vs hvs hv
 obtain ⟨h1,h2⟩:=yeN ho
 obtain ⟨k1,k2,k3⟩:=h.drops ids
 refine (hp w (Good g (s.drops ids).objs blk w) (fun b hb=>yhz k1 hb) vs (by omega) (fun j y hj=>?_)).mono ?_
 ·obtain ⟨x,hx,hxy⟩:=h2 j y hj
  obtain ⟨u,hu,hru⟩:=hv j x hx
  exact ⟨u,hu,yOh h k2 k3 (List.all_eq_true.1 hf x (List.mem_of_getElem? hx)) hru hxy⟩
 ·rintro e w' ⟨v,rfl,hb,hr⟩
  have h':=k1.call hb
  refine ⟨v,rfl,_,blk,hK,h'.put hd (yk5 (fun b hb'=>?_) hr)⟩
  rcases hb' with hg | ⟨e1,e2⟩
  ·refine ⟨?_,hg.2⟩
   rcases hg.1 with e | e
   ·exact .inl e
   ·exact .inr ⟨e.1,by have:=hb.size; omega⟩
  ·refine ⟨.inr ⟨by have:=k1.below.size; omega,e2⟩,fun id hid e=>?_⟩
   have:=(k1.new id b hid e).2
   omega
theorem yOf {d : Nat} (ids : List Nat) (hp : ybh P f args res) (ho : ybD s avs args) (hf : (avs.all (AV.frz ids)) = true) (hfr : yU (s.drops ids) (res.ya6 d)) (hK : K ((s.drops ids).take d res)) : yfo P f avs (some d) s K:=by
 intro g a w blk h hd vs hvs hv
 obtain ⟨h1,h2⟩:=yeN ho
 obtain ⟨k1,k2,k3⟩:=h.drops ids
 refine (hp w (Good g (s.drops ids).objs blk w) (fun b hb=>yhz k1 hb) vs (by omega) (fun j y hj=>?_)).mono ?_
 ·obtain ⟨x,hx,hxy⟩:=h2 j y hj
  obtain ⟨u,hu,hru⟩:=hv j x hx
  exact ⟨u,hu,yOh h k2 k3 (List.all_eq_true.1 hf x (List.mem_of_getElem? hx)) hru hxy⟩
 ·rintro e w' ⟨v,F,rfl,hb,hF,hr⟩
  obtain ⟨L',q1,q2⟩:=k1.got hb hF (fun b hb=>hb) hr hfr
  exact ⟨v,rfl,_,L',hK,q1.put hd q2⟩
end
end Go.Proofs.YtpiplmnecmkafaaGreat
