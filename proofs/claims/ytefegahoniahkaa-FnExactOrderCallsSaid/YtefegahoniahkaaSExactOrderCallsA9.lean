/- What the law FnExactOrderCalls stands on: the machine, in short form (names, layout). -/
import Derived.Test.YtefegahoniahkaaSExactOrderCallsA4
set_option linter.all false
namespace Go.Proofs.Ytefegahoniahkaa
open Go.RowKit
def yK8 (i j x : Nat) : Nat:=if x = i then j else if x = j then i else x
theorem yLL (i j x : Nat) : yK8 i j (yK8 i j x) = x:=by
 unfold yK8
 repeat' split
 all_goals omega
def AV.yMl (σ : Nat → Nat) : AV → AV
 | .box id o=>.box (σ id) o
 | .row id k n o=>.row (σ id) k n o
 | .own id k n=>.own (σ id) k n
 | .sub id v i j k n=>.sub (σ id) v i j k n
 | .yc3 id v i j k i' o=>.yc3 (σ id) v i j k i' o
 | .cut id k lo n=>.cut (σ id) k lo n
 | x=>x
def AV.yMX (σ : Nat → Nat) : AV → AV
 | .agg l=>.agg (l.map (AV.yMl σ))
 | .fn f l=>.fn f (l.map (AV.yMl σ))
 | x=>x.yMl σ
def AV.ren (σ : Nat → Nat) : AV → AV
 | .tup l=>.tup (l.map (AV.yMX σ))
 | x=>x.yMX σ
def Obj.ren (σ : Nat → Nat) : Obj → Obj
 | .box l=>.box (l.map (AV.yMl σ))
 | o=>o
def St.ren (i j : Nat) (s : St) : St:=⟨fun t=>(s.env t).ren (yK8 i j),fun id=>(s.objs (yK8 i j id)).ren (yK8 i j)⟩
section
variable {w : World} {G G' : Nat → Prop} {O O' : Nat → Obj} {bl bl' : Nat → Option Nat} {σ : Nat → Nat} {v : Value} {x : AV}
theorem Obj.yNe {o : Obj} : o.ren σ ≠ .none ↔ o ≠ .none:=by cases o <;> simp [Obj.ren]
theorem Obj.yL4 {o : Obj} : (o.ren σ).ybP = o.ybP:=by cases o <;> rfl
theorem RV1.ren (hG : ∀ b,G b → G' b) (hO : ∀ id,O' (σ id) = (O id).ren σ) (hb : ∀ id,bl' (σ id) = bl id) (h : RV1 w G O bl v x) : RV1 w G' O' bl' v (x.yMl σ):=by
 cases x with
 | any=>trivial
 | und=>exact h
 | c x=>exact Rd.mono h hG (fun _ _ _ h=>h)
 | nil k=>exact h
 | clip k rows=>obtain ⟨a,n,e,hr⟩:=h; exact ⟨a,n,e,hr.mono hG (fun _ _ _ h=>h)⟩
 | box id off=>obtain ⟨b,cells,ho,h1,h2⟩:=h; exact ⟨b,cells.map (AV.yMl σ),by rw [hO,ho]; rfl,by rw [hb]; exact h1,h2⟩
 | row id k i off=>obtain ⟨b,m,ho,h1,h2⟩:=h; exact ⟨b,m,by rw [hO,Obj.yL4]; exact ho,by rw [hb]; exact h1,h2⟩
 | elt cs =>
  obtain ⟨ad,e,hc⟩:=h
  exact ⟨ad,e,fun j c hj=>let ⟨hg,u,hu,hr⟩:=hc j c hj; ⟨hG _ hg,u,hu,hr.mono hG (fun _ _ _ h=>h)⟩⟩
 | own id k n=>obtain ⟨m,ho,r⟩:=h; exact ⟨m,by rw [hO,Obj.yL4]; exact ho,by rw [hb]; exact r⟩
 | cut id k lo n=>obtain ⟨m,A,c,ho,r⟩:=h; exact ⟨m,A,c,by rw [hO,Obj.yL4]; exact ho,by rw [hb]; exact r⟩
 | sub id ver i j k n=>obtain ⟨k0,ver',rows,ho,r1,r2⟩:=h; exact ⟨k0,ver',rows,by rw [hO,ho]; rfl,r1,by rw [hb]; exact r2⟩
 | yc3 id ver i j k i' off=>obtain ⟨k0,ver',rows,ho,r1,r2⟩:=h; exact ⟨k0,ver',rows,by rw [hO,ho]; rfl,r1,by rw [hb]; exact r2⟩
 | agg l=>exact h
 | tup l=>exact h
 | fn f l=>exact h
theorem RV1.renL (hG : ∀ b,G b → G' b) (hO : ∀ id,O' (σ id) = (O id).ren σ) (hb : ∀ id,bl' (σ id) = bl id) {l : List AV} {arr : Array Value}
 (h : ∀ (j : Nat) (x : AV),l[j]? = some x → ∃ u : Value,arr[j]? = some u ∧ RV1 w G O bl u x) : ∀ (j : Nat) (x : AV),(l.map (AV.yMl σ))[j]? = some x → ∃ u : Value,arr[j]? = some u ∧ RV1 w G' O' bl' u x:=by
 intro j y hj
 rw [List.getElem?_map] at hj
 cases hx : l[j]? with
 | none=>rw [hx] at hj; cases hj
 | some x =>
  rw [hx] at hj; cases hj
  obtain ⟨u,hu,hr⟩:=h j x hx
  exact ⟨u,hu,hr.ren hG hO hb⟩
theorem RV2.ren (hG : ∀ b,G b → G' b) (hO : ∀ id,O' (σ id) = (O id).ren σ) (hb : ∀ id,bl' (σ id) = bl id) (h : RV2 w G O bl v x) : RV2 w G' O' bl' v (x.yMX σ):=by
 cases x
 case agg l=>obtain ⟨arr,e,hs,hx⟩:=h; exact ⟨arr,e,by rw [List.length_map]; exact hs,RV1.renL hG hO hb hx⟩
 case fn f l=>obtain ⟨arr,e,hs,hx⟩:=h; exact ⟨arr,e,by rw [List.length_map]; exact hs,RV1.renL hG hO hb hx⟩
 all_goals (simp only [RV2,AV.yMX] at h ⊢; first | exact RV1.ren hG hO hb h | exact h.elim)
theorem RV.ren (hG : ∀ b,G b → G' b) (hO : ∀ id,O' (σ id) = (O id).ren σ) (hb : ∀ id,bl' (σ id) = bl id) (h : RV w G O bl v x) : RV w G' O' bl' v (x.ren σ):=by
 cases x
 case tup l =>
  obtain ⟨arr,e,hs,hx⟩:=h
  refine ⟨arr,e,by rw [List.length_map]; exact hs,fun j y hj=>?_⟩
  rw [List.getElem?_map] at hj
  cases hq : l[j]? with
  | none=>rw [hq] at hj; cases hj
  | some x =>
   rw [hq] at hj; cases hj
   obtain ⟨u,hu,hr⟩:=hx j x hq
   exact ⟨u,hu,hr.ren hG hO hb⟩
 all_goals (simp only [RV,AV.ren] at h ⊢; exact RV2.ren hG hO hb h)
end
@[simp] theorem ren_env {i j t : Nat} {s : St} : (s.ren i j).env t = (s.env t).ren (yK8 i j):=rfl
@[simp] theorem yNx {i j t : Nat} {s : St} : (s.ren i j).objs t = (s.objs (yK8 i j t)).ren (yK8 i j):=rfl
@[simp] theorem ren_ob {i j t : Nat} {s : St} : (s.ren i j).ob t = (s.ob (yK8 i j t)).ren (yK8 i j):=rfl
theorem yNh (i j : Nat) {s s' : St} (h : (s.ren i j).le s') : s.le s':=by
 intro g a w blk hr
 let L' : Lay:=⟨fun id=>blk.root (yK8 i j id),fun id=>blk.sub (yK8 i j id)⟩
 have hO : ∀ id,(s.ren i j).objs (yK8 i j id) = (s.objs id).ren (yK8 i j):=fun id=>by
  show (s.objs (yK8 i j (yK8 i j id))).ren _ = _
  rw [yLL]
 have hb : ∀ id,L'.root (yK8 i j id) = blk.root id:=fun id=>by
  show blk.root (yK8 i j (yK8 i j id)) = _
  rw [yLL]
 have hlv : ∀ id,(s.ren i j).objs id ≠ .none → s.objs (yK8 i j id) ≠ .none:=fun id h=>Obj.yNe.1 h
 have hG : ∀ b,Good g s.objs blk w b → Good g (s.ren i j).objs L' w b:=fun b hg=>⟨hg.1,fun id hid hf=>hg.2 (yK8 i j id) (hlv id hid) hf⟩
 refine h g a w L' ⟨hr.size,hr.small,hr.defers,hr.below,hr.g0,hr.f0,hr.g0f,fun t=>(hr.env t).ren hG hO hb,fun id=>?_,fun id b hid hf=>hr.new _ b (hlv id hid) hf,fun i1 j1 b hi hj h1 h2=>?_,fun id b hid=>hr.apart _ b (hlv id hid)⟩
 ·have:=hr.objs (yK8 i j id)
  show yco w _ _ _ (blk.sub (yK8 i j id)) (blk.root (yK8 i j id)) ((s.objs (yK8 i j id)).ren _)
  cases ho : s.objs (yK8 i j id) with
  | none=>trivial
  | box cells =>
   rw [ho] at this
   obtain ⟨b,arr,e,h1,h2,h3,h4⟩:=this
   exact ⟨b,arr,e,h1,h2,by rw [List.length_map]; exact h3,RV1.renL hG hO hb h4⟩
  | row k rows =>
   rw [ho] at this
   rcases this with h1 | ⟨b,arr,e,h1,h2,h3,h4,h5⟩
   ·exact .inl h1
   ·exact .inr ⟨b,arr,e,h1,h2,h3,h4,fun i r j c hr hc=>let ⟨u,hu,hru⟩:=h5 i r j c hr hc; ⟨u,hu,hru.mono hG (fun _ _ _ h=>h)⟩⟩
  | tr k v rows =>
   rw [ho] at this
   rcases this with h1 | ⟨b,arr,e,h1,h2,h3,h4,h5⟩
   ·exact .inl h1
   ·exact .inr ⟨b,arr,e,h1,h2,h3,h4,h5.mono hG (fun _ _ _ h=>h) (fun _ h=>h) (fun _ _=>rfl)⟩
 ·have:=hr.inj _ _ b (hlv _ hi) (hlv _ hj) h1 h2
  have:=congrArg (yK8 i j) this
  rwa [yLL,yLL] at this
end Go.Proofs.Ytefegahoniahkaa
