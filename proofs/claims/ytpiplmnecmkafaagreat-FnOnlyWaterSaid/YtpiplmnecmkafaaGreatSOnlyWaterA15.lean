/- What the law FnOnlyWater stands on: the machine, in short form (names, layout). -/
import Derived.Test.YtpiplmnecmkafaaGreatSOnlyWaterA7
set_option linter.all false
namespace Go.Proofs.YtpiplmnecmkafaaGreat
open Go.RowKit
theorem yQa (id : Nat) {s s' : St} {k v : Nat} {rows rows' : List (List C)} (ho : s.objs id = .tr k v rows) (hs : ykv rows = some rows') (h : (s.yat id (.tr k (v + 1) rows')).le s') : s.le s':=by
 intro g a w blk hr
 have hne : s.objs id ≠ .none:=by rw [ho]; exact fun e=>by cases e
 obtain ⟨z1,z2⟩:=yu6 hs
 have hob : (s.yat id (.tr k (v + 1) rows')).objs id = .tr k (v + 1) rows':=by simp [St.yat,upd]
 have hoo : ∀ i,i ≠ id → (s.yat id (.tr k (v + 1) rows')).objs i = s.objs i:=fun i hi=>by simp [St.yat,upd,hi]
 have hkill : ∀ o : Obj,o.kills [] = o:=fun o=>by rfl
 have hr0:=hr.objs id
 rw [ho] at hr0
 obtain ⟨k1,_,_⟩:=hr.ywN [] (fun i=>i = id) (objs':=(s.yat id (.tr k (v + 1) rows')).objs) (w':=w) (L':=⟨blk.root,fun i=>if i = id then noF else blk.sub i⟩) (X:=noF) (Off.refl _ _) (fun q hq=>hq.elim)
  (fun i hi=>⟨by rw [hoo i hi]; simp only [List.not_mem_nil,if_false]; rfl,rfl,by simp [hi]⟩)
  (fun i b hi _ hf=>.inl ⟨id,.inl rfl,hne,by
   subst hi
   rcases hf with e | e
   ·exact .inl e
   ·simp at e; exact e.elim⟩)
  (fun i j b hi hj _ _ _ _=>hi.trans hj.symm)
  (fun i b hi _ _ e=>by subst hi; simp at e; exact e.elim)
  (fun i hi _ _=>by subst hi; rw [ho,hob]; exact ⟨⟨rfl,by omega,by omega,fun e=>by omega⟩,rfl⟩)
  (fun i k' v' rows'' hi _ e=>by
   subst hi
   rw [ho] at e; cases e
   rw [hob]; intro e; cases e)
  (fun G' K _ hM i hi=>by
   subst hi
   rw [hob]
   simp only [if_true]
   rcases hr0 with ⟨e1,e2⟩ | ⟨b,arr,e,h1,h2,h3,h4,vals,Fs,q1,q2,q3,q4⟩
   ·refine .inl ⟨e1,?_⟩
    subst e2
    exact List.length_eq_zero_iff.1 (by simpa using z1)
   ·refine .inr ⟨b,arr,e,h1,h2,by rw [z1]; exact h3,fun r' hr'=>?_,vals,fun _ _=>noF,fun _ _ _ h=>h.elim,fun _ _ _ _ _ h=>h.elim,fun j r' hj l c hc=>?_,fun j r' hj l c hc=>?_⟩
    ·obtain ⟨j,hj⟩:=List.mem_iff_getElem?.1 hr'
     obtain ⟨r,hr1,hr2⟩:=z2 j r' hj
     rw [(yll hr2).1]
     exact h4 r (List.mem_of_getElem? hr1)
    ·obtain ⟨r,hr1,hr2⟩:=z2 j r' hj
     obtain ⟨x,hx,_⟩:=(yll hr2).2 l c hc
     exact q3 j r hr1 l x hx
    ·obtain ⟨r,hr1,hr2⟩:=z2 j r' hj
     obtain ⟨x,hx,hxc⟩:=(yll hr2).2 l c hc
     refine .sh ((q4 j r hr1 l x hx).ypM hxc K.good fun q hq=>hM q ⟨_,.inl rfl,hne,.inr (q1 j l q hq).1⟩ fun i hi _ hf=>?_)
     subst hi
     rcases hf with e | e
     ·have e : blk.root i = some q:=e
      rw [h1] at e; cases e
      exact (q1 j l _ hq).2 rfl
     ·simp at e; exact e.elim)
 exact h g a w _ k1
end Go.Proofs.YtpiplmnecmkafaaGreat
