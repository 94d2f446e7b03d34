/- What the law FnExactNextSide stands on: contracts of functions, what each answers as plain Lean, in short form (names, layout). -/
import Derived.Test.YtefegahoniahkaaSExactNextSide1
set_option linter.all false
namespace Go.Proofs.Ytefegahoniahkaa
open Go.RowKit
open Go.ChangeShapes Go.WideShapes
section
variable {lt : Nat → Nat → Bool} {S : Nat → Prop} {l r : List Nat}
theorem yiQ (h : SWO lt S) {x u : Nat} {i : Nat} (sl : l.Pairwise (tot lt)) (hx : x ∈ l.take i) (hu : l[i - 1]? = some u) : x = u ∨ tot lt x u:=by
 obtain ⟨k,hk,rfl⟩:=List.mem_iff_getElem.1 hx
 rw [List.length_take] at hk
 rw [List.getElem_take]
 obtain ⟨hi,rfl⟩:=List.getElem?_eq_some_iff.1 hu
 rcases Nat.lt_or_ge k (i - 1) with h1 | h1
 ·exact .inr (List.pairwise_iff_getElem.1 sl k (i - 1) _ _ h1)
 ·have : k = i - 1:=by omega
  subst this; exact .inl rfl
theorem yhF (h : SWO lt S) {y v : Nat} {j : Nat} (sr : r.Pairwise (tot lt)) (hy : y ∈ r.drop j) (hv : r[j]? = some v) : y = v ∨ tot lt v y:=by
 obtain ⟨k,hk,rfl⟩:=List.mem_iff_getElem.1 hy
 rw [List.length_drop] at hk
 rw [List.getElem_drop]
 obtain ⟨hj,rfl⟩:=List.getElem?_eq_some_iff.1 hv
 rcases Nat.eq_zero_or_pos k with h1 | h1
 ·subst h1; exact .inl rfl
 ·exact .inr (List.pairwise_iff_getElem.1 sr j (j + k) _ _ (by omega))
theorem ykC (h : SWO lt S) (hl : ∀ x ∈ l,S x) (hr : ∀ x ∈ r,S x) (sl : l.Pairwise (tot lt)) (sr : r.Pairwise (tot lt)) {i j : Nat}
 (hA : i = 0 ∨ r.length ≤ j ∨ ∃ u v,l[i - 1]? = some u ∧ r[j]? = some v ∧ tot lt u v) {x y : Nat} (hx : x ∈ l.take i) (hy : y ∈ r.drop j) : tot lt x y:=by
 rcases hA with e | e | ⟨u,v,hu,hv,huv⟩
 ·subst e; simp at hx
 ·rw [List.drop_of_length_le e] at hy; cases hy
 ·have su:=hl u (List.mem_of_getElem? hu)
  have sv:=hr v (List.mem_of_getElem? hv)
  have sx:=hl x (List.mem_of_mem_take hx)
  have sy:=hr y (List.mem_of_mem_drop hy)
  have h1 : tot lt x v:=by
   rcases yiQ h sl hx hu with e | e
   ·rw [e]; exact huv
   ·exact yfQ h sx su sv e huv
  rcases yhF h sr hy hv with e | e
  ·rw [e]; exact h1
  ·exact yfQ h sx sv sy h1 e
theorem ypA (h : SWO lt S) (hl : ∀ x ∈ l,S x) (hr : ∀ x ∈ r,S x) (sl : l.Pairwise (tot lt)) (sr : r.Pairwise (tot lt)) {i j : Nat}
 (hA : i = 0 ∨ r.length ≤ j ∨ ∃ u v,l[i - 1]? = some u ∧ r[j]? = some v ∧ tot lt u v)
 (hB : j = 0 ∨ l.length ≤ i ∨ ∃ u v,r[j - 1]? = some u ∧ l[i]? = some v ∧ tot lt u v) : ∀ x ∈ l.take i ++ r.take j,∀ y ∈ l.drop i ++ r.drop j,tot lt x y:=by
 have pw : ∀ {a : List Nat} {k : Nat},a.Pairwise (tot lt) → ∀ x ∈ a.take k,∀ y ∈ a.drop k,tot lt x y:=by
  intro a k ha x hx y hy
  rw [← List.take_append_drop k a,List.pairwise_append] at ha
  exact ha.2.2 x hx y hy
 intro x hx y hy
 rcases List.mem_append.1 hx with hx | hx <;> rcases List.mem_append.1 hy with hy | hy
 ·exact pw sl x hx y hy
 ·exact ykC h hl hr sl sr hA hx hy
 ·exact ykC h hr hl sr sl hB hx hy
 ·exact pw sr x hx y hy
theorem halves (h : SWO lt S) (hl : ∀ x ∈ l,S x) (hr : ∀ x ∈ r,S x) {i j : Nat} {o o1 o2 : List Nat} (ho : o.Perm (l ++ r)) (so : o.Pairwise (tot lt))
 (h1 : o1.Perm (l.take i ++ r.take j)) (s1 : o1.Pairwise (tot lt)) (h2 : o2.Perm (l.drop i ++ r.drop j)) (s2 : o2.Pairwise (tot lt))
 (hc : ∀ x ∈ l.take i ++ r.take j,∀ y ∈ l.drop i ++ r.drop j,tot lt x y) : o = o1 ++ o2:=by
 have hp : (o1 ++ o2).Perm (l ++ r):=by
  refine (h1.append h2).trans ?_
  have e : (l.take i ++ r.take j ++ (l.drop i ++ r.drop j)).Perm (l.take i ++ l.drop i ++ (r.take j ++ r.drop j)):=by
   rw [List.append_assoc,List.append_assoc]
   refine .append_left _ ?_
   rw [← List.append_assoc,← List.append_assoc]
   exact .append_right _ List.perm_append_comm
  rw [List.take_append_drop,List.take_append_drop] at e
  exact e
 refine ybc h (fun x hx=>?_) (ho.trans hp.symm) so ?_
 ·rcases List.mem_append.1 (ho.mem_iff.1 hx) with hx | hx
  ·exact hl x hx
  ·exact hr x hx
 ·rw [List.pairwise_append]
  exact ⟨s1,s2,fun x hx y hy=>hc x (h1.mem_iff.1 hx) y (h2.mem_iff.1 hy)⟩
theorem ym0 {x y : Nat} (h : x < y) (h1 : lt y x = false) : tot lt x y:=by
 cases h2 : lt x y with
 | true=>exact .inl h2
 | false=>exact .inr ⟨h1,h⟩
theorem ylR (h : SWO lt S) (hl : ∀ x ∈ l,S x) (hr : ∀ x ∈ r,S x) (sl : l.Pairwise (tot lt)) (sr : r.Pairwise (tot lt)) (hc : ∀ x ∈ l,∀ y ∈ r,x < y) : (l ++ r).Nodup:=by
 rw [List.nodup_append]
 refine ⟨yhN h hl sl,yhN h hr sr,fun x hx y hy e=>?_⟩
 have:=hc x hx y hy
 omega
end
theorem ylg {P R Q : List Nat} {x y : Nat} {i j : Nat} (hi : i = P.length) (hj : j = P.length + 1 + R.length) : (P ++ x :: (R ++ y :: Q))[i]? = some x ∧ (P ++ x :: (R ++ y :: Q))[j]? = some y ∧
 ((P ++ x :: (R ++ y :: Q)).set i y).set j x = P ++ y :: (R ++ x :: Q):=by
 subst hi hj
 refine ⟨by simp [List.getElem?_append],?_,?_⟩
 ·rw [List.getElem?_append_right (by omega),show P.length + 1 + R.length - P.length = R.length + 1 by omega,List.getElem?_cons_succ,List.getElem?_append_right (by omega)]
  simp
 ·rw [List.set_append,if_neg (by omega),Nat.sub_self,List.set_cons_zero,List.set_append,if_neg (by omega),show P.length + 1 + R.length - P.length = R.length + 1 by omega,List.set_cons_succ,List.set_append,if_neg (by omega),Nat.sub_self,List.set_cons_zero]
theorem yii {A l B : List Nat} {t k : Nat} (hk : k = A.length + t) (h : t < l.length) : (A ++ (l ++ B))[k]? = l[t]?:=by
 subst hk
 rw [List.getElem?_append_right (by omega),Nat.add_sub_cancel_left,List.getElem?_append_left h]
theorem set_mid {A l B : List Nat} {t k v : Nat} (hk : k = A.length + t) (h : t < l.length) : (A ++ (l ++ B)).set k v = A ++ (l.set t v ++ B):=by
 subst hk
 rw [List.set_append_right _ _ (by omega),Nat.add_sub_cancel_left,List.set_append_left _ _ h]
def yao (A l B : List Nat) : List Nat:=A ++ (l ++ B)
theorem ybo {A l B : List Nat} : (yao A l B).length = A.length + l.length + B.length:=by simp [yao]; omega
theorem ytq {A B xs l l2 : List Nat} {t x y q j m : Nat} (hq : q = A.length) (hj : j = q + l.length + 1) (hm : m = q + l.length) :
 (yao A (gM xs (l ++ [y]) l2 x t) B)[j]? = some x ∧ (yao A (gM xs (l ++ [y]) l2 x t) B)[m]? = some y ∧
 ((yao A (gM xs (l ++ [y]) l2 x t) B).set j y).set m x = yao A (gM xs l (y :: l2) x t) B:=by
 unfold yao
 obtain ⟨w1,w2,w3⟩:=ytW (xs:=xs) (i:=t) (x:=x) (y:=y) (l:=l) (l2:=l2)
 have k1:=(List.getElem?_eq_some_iff.1 w1).1
 have k2:=(List.getElem?_eq_some_iff.1 w2).1
 refine ⟨by rw [yii (t:=l.length + 1) (by omega) k1]; exact w1,by rw [yii (t:=l.length) (by omega) k2]; exact w2,?_⟩
 rw [set_mid (t:=l.length + 1) (by omega) k1,set_mid (t:=l.length) (by omega) (by simpa using k2),w3]
section
variable {lt : Nat → Nat → Bool} {S : Nat → Prop} {l r : List Nat}
theorem ys8 (h : SWO lt S) (hr : ∀ x ∈ r,S x) {x y : Nat} {k : Nat} (hx : S x) (sr : r.Pairwise (tot lt)) (hy : r[k]? = some y) (hl : lt y x = true) : ∀ u ∈ r.take (k + 1),lt u x = true:=by
 intro u hu
 have hy0:=hr y (List.mem_of_getElem? hy)
 have hu0:=hr u (List.mem_of_mem_take hu)
 rcases yiQ (i:=k + 1) h sr hu (by simpa using hy) with e | e
 ·rw [e]; exact hl
 ·cases h1 : lt u x with
  | true=>rfl
  | false =>
   cases h2 : lt y u with
   | true=>rcases e with e | e
           ·rw [h.asym u y hu0 hy0 e] at h2; cases h2
           ·rw [e.1] at h2; cases h2
   | false=>rw [h.neg y u x hy0 hu0 hx h2 h1] at hl; cases hl
theorem yq0 (h : SWO lt S) (hr : ∀ x ∈ r,S x) {x y : Nat} {k : Nat} (hx : S x) (sr : r.Pairwise (tot lt)) (hy : r[k]? = some y) (hl : lt y x = false) : ∀ u ∈ r.drop k,lt u x = false:=by
 intro u hu
 have hy0:=hr y (List.mem_of_getElem? hy)
 have hu0:=hr u (List.mem_of_mem_drop hu)
 rcases yhF h sr hu hy with e | e
 ·rw [e]; exact hl
 ·have h3 : lt u y = false:=by
   rcases e with e | e
   ·exact h.asym y u hy0 hu0 e
   ·exact e.1
  exact h.neg u y x hu0 hy0 hx h3 hl
theorem yq9 (h : SWO lt S) (hr : ∀ x ∈ r,S x) {x y : Nat} {k : Nat} (hx : S x) (sr : r.Pairwise (tot lt)) (hy : r[k]? = some y) (hl : lt x y = false) : ∀ u ∈ r.take (k + 1),lt x u = false:=by
 intro u hu
 have hy0:=hr y (List.mem_of_getElem? hy)
 have hu0:=hr u (List.mem_of_mem_take hu)
 rcases yiQ (i:=k + 1) h sr hu (by simpa using hy) with e | e
 ·rw [e]; exact hl
 ·have h3 : lt y u = false:=by
   rcases e with e | e
   ·exact h.asym u y hu0 hy0 e
   ·exact e.1
  exact h.neg x y u hx hy0 hu0 hl h3
theorem yqH (h : SWO lt S) (hr : ∀ x ∈ r,S x) {x y : Nat} {k : Nat} (hx : S x) (sr : r.Pairwise (tot lt)) (hy : r[k]? = some y) (hl : lt x y = true) : ∀ u ∈ r.drop k,lt x u = true:=by
 intro u hu
 have hy0:=hr y (List.mem_of_getElem? hy)
 have hu0:=hr u (List.mem_of_mem_drop hu)
 rcases yhF h sr hu hy with e | e
 ·rw [e]; exact hl
 ·cases h1 : lt x u with
  | true=>rfl
  | false =>
   have h3 : lt u y = false:=by
    rcases e with e | e
    ·exact h.asym y u hy0 hu0 e
    ·exact e.1
   rw [h.neg x u y hx hu0 hy0 h1 h3] at hl; cases hl
theorem yqb (h : SWO lt S) (hr : ∀ x ∈ r,S x) {x : Nat} {k : Nat} {o : List Nat} (hx : S x) (sr : r.Pairwise (tot lt)) (hlt : ∀ u ∈ r,x < u) (h1 : ∀ u ∈ r.take k,lt u x = true) (h2 : ∀ u ∈ r.drop k,lt u x = false)
 (po : o.Perm ([x] ++ r)) (so : o.Pairwise (tot lt)) : o = r.take k ++ x :: r.drop k:=by
 have hp : (r.take k ++ x :: r.drop k).Perm ([x] ++ r):=by
  refine List.perm_middle.trans ?_
  rw [List.take_append_drop]; exact .refl _
 refine ybc h (S:=S) (fun u hu=>?_) (po.trans hp.symm) so ?_
 ·rcases List.mem_append.1 (po.mem_iff.1 hu) with hu | hu
  ·simp at hu; subst hu; exact hx
  ·exact hr u hu
 ·rw [← List.take_append_drop k r,List.pairwise_append] at sr
  rw [List.pairwise_append,List.pairwise_cons]
  refine ⟨sr.1,⟨fun u hu=>ym0 (hlt u (List.mem_of_mem_drop hu)) (h2 u hu),sr.2.1⟩,fun u hu v hv=>?_⟩
  rcases List.mem_cons.1 hv with rfl | hv
  ·exact .inl (h1 u hu)
  ·exact sr.2.2 u hu v hv
theorem yoX (h : SWO lt S) (hl : ∀ x ∈ l,S x) {y : Nat} {k : Nat} {o : List Nat} (hy : S y) (sl : l.Pairwise (tot lt)) (hlt : ∀ u ∈ l,u < y) (h1 : ∀ u ∈ l.take k,lt y u = false) (h2 : ∀ u ∈ l.drop k,lt y u = true)
 (po : o.Perm (l ++ [y])) (so : o.Pairwise (tot lt)) : o = l.take k ++ y :: l.drop k:=by
 have hp : (l.take k ++ y :: l.drop k).Perm (l ++ [y]):=by
  refine List.perm_middle.trans ?_
  rw [List.take_append_drop]
  exact (List.perm_append_comm (l₁:=[y]) (l₂:=l))
 refine ybc h (S:=S) (fun u hu=>?_) (po.trans hp.symm) so ?_
 ·rcases List.mem_append.1 (po.mem_iff.1 hu) with hu | hu
  ·exact hl u hu
  ·simp at hu; subst hu; exact hy
 ·rw [← List.take_append_drop k l,List.pairwise_append] at sl
  rw [List.pairwise_append,List.pairwise_cons]
  refine ⟨sl.1,⟨fun u hu=>.inl (h2 u hu),sl.2.1⟩,fun u hu v hv=>?_⟩
  rcases List.mem_cons.1 hv with rfl | hv
  ·exact ym0 (hlt u (List.mem_of_mem_take hu)) (h1 u hu)
  ·exact sl.2.2 u hu v hv
end
theorem yjm (cmp : Nat → Nat → Int) (A xs B M0 M1 : List Nat) (hM0 : M0 = yao A xs B) (hM1 : M1 = yao A (sorted (yj cmp) xs) B) (q e N : Nat) (hq : q = A.length) (he : e = q + xs.length) (hN : N = M0.length) (hn : 1 ≤ N) (hn2 : N ≤ 1048576) (f : Nat) (a b : List C) (hf : ∃ fn,Try.prog.funcs[f]? = some fn ∧ fn.body.isSome = true ∧ (fn.name != "runtime.NumGoroutine") = true)
 (hc : ∀ x y : Nat,x ∈ xs → y ∈ xs → yR Try.prog f [.c (.i x),.c (.i y),.elt a,.elt b] (.c (.i (cmp x y)))) :
 InF Try.prog yK (.c (cw 1 (M0.map yh))) (.c (cw 1 (M1.map yh))) [.c (.i q),.c (.i e),.fn f [.elt a,.elt b]] (.tup []):=by
 have hpl : (sorted (yj cmp) xs).length = xs.length:=sorted_perm.length_eq
 have hL : M1.length = N:=by rw [hN,hM0,hM1,ybo,ybo,hpl]
 have hN2 : q + xs.length + B.length = N:=by rw [hN,hM0,ybo]; omega
 rw [ybe (by rw [List.length_map]; omega),ybe (by rw [List.length_map,hL]; omega)]
 refine yfi yaK (by simp) (by simp) rfl fun hwf=>?_
 have hg1 : gO (yj cmp) xs 1 = xs ∨ xs.length = 0:=by
  rcases Nat.eq_zero_or_pos xs.length with h | h
  ·exact .inr h
  ·exact .inl (yuV h)
 have hg2 : gO (yj cmp) xs 1 = xs:=by
  rcases hg1 with h | h
  ·exact h
  ·rw [List.length_eq_zero_iff] at h; subst h; rfl
 have hg3 : xs.length = 0 → sorted (yj cmp) xs = xs:=fun h=>by rw [List.length_eq_zero_iff] at h; subst h; rfl
 simp -dsimp -implicitDefEqProofs [yam]
 refine ⟨by unfold inI; omega,?_⟩
 refine yw (ι:=Nat) (fun i=>q + 1 ≤ i ∧ (i ≤ e ∨ i = q + 1)) (fun i=>yaV [(0,.own 0 1 N),(1,.c (.i q)),(2,.c (.i e)),(3,.fn f [.elt a,.elt b]),(8,.c (.i i)),(1000000,.own 0 1 N)] [(0,.row 1 ((yao A (gO (yj cmp) xs (i - q)) B).map yh))]) (fun i=>e - i) (q + 1) ⟨Nat.le_refl _,.inr rfl⟩ (by apply yD <;> simp [AV.yc,AV.yJ,Obj.yc,hg2,hN,hM0]) ?_
 rintro i ⟨hi1,hi⟩
 rcases Nat.lt_or_ge i e with hlt | hge
 ·obtain ⟨t,ht⟩ : ∃ t,t = i - q:=⟨_,rfl⟩
  rw [← ht]
  have hop:=yfW (lt:=yj cmp) (xs:=xs) t (by omega)
  have hol : (ydt (yj cmp) xs t).length = t:=by rw [hop.length_eq,List.length_take]; omega
  have hom : ∀ y ∈ ydt (yj cmp) xs t,y ∈ xs:=fun y hy=>List.mem_of_mem_take (hop.mem_iff.1 hy)
  obtain ⟨x,hx⟩ : ∃ x,xs[t]? = some x:=⟨_,List.getElem?_eq_getElem (by omega)⟩
  have hxm:=List.mem_of_getElem? hx
  have ht1 : i + 1 - q = t + 1:=by omega
  simp -dsimp -implicitDefEqProofs [yaT hlt]
  rw [gO_go hx]
  generalize hP : ydt (yj cmp) xs t = P at *
  refine yw (ι:=Nat × List Nat × List Nat) (fun p=>p.1 = q + p.2.1.length ∧ p.2.1 ++ p.2.2 = P ∧ ∀ y ∈ p.2.2,yj cmp x y = true) (fun p=>yaV [(0,.own 0 1 N),(1,.c (.i q)),(2,.c (.i e)),(3,.fn f [.elt a,.elt b]),(8,.c (.i i)),(9,.c (.i p.1)),(1000000,.own 0 1 N)] [(0,.row 1 ((yao A (gM xs p.2.1 p.2.2 x t) B).map yh))]) (fun p=>p.1) (i,P,[]) ⟨by simp only; omega,by simp,by simp⟩ (by apply yD <;> simp [AV.yc,AV.yJ,Obj.yc]) ?_
  rintro ⟨j,l1,l2⟩ ⟨hj,he2,h2⟩
  simp only at hj he2 h2
  rcases List.eq_nil_or_concat l1 with e0 | ⟨l,y,e0⟩
  ·subst e0
   have hins:=ykZ (lt:=yj cmp) (x:=x) he2 h2 (fun l y h=>by simp at h)
   have hend:=yqQ (lt:=yj cmp) hx (by rw [hP]; exact hins)
   have hjq : j = q:=by simpa using hj
   subst hjq
   simp -dsimp -implicitDefEqProofs
   refine ⟨by unfold inI; omega,i + 1,⟨by omega,by omega⟩,by omega,?_⟩
   apply yD <;> simp [AV.yc,AV.yJ,Obj.yc,hend,ht1]
  ·rw [List.concat_eq_append] at e0
   subst e0
   have hyP : y ∈ xs:=hom y (by rw [← he2]; simp)
   have hj2 : j = q + l.length + 1:=by rw [hj]; simp; omega
   obtain ⟨m,hm⟩ : ∃ m,m = q + l.length:=⟨_,rfl⟩
   obtain ⟨w1,w2,w3⟩:=ytq (A:=A) (B:=B) (xs:=xs) (t:=t) (x:=x) (y:=y) (l:=l) (l2:=l2) hq hj2 hm
   have hend:=fun h=>yqQ (lt:=yj cmp) (l1:=l ++ [y]) (l2:=l2) hx (by rw [hP]; exact ykZ (lt:=yj cmp) (x:=x) he2 h2 h)
   have hlen : (yao A (gM xs (l ++ [y]) l2 x t) B).length = N:=by
    have:=yuN (x:=x) (xs:=xs) (l1:=l ++ [y]) (l2:=l2) (i:=t) (by rw [← List.length_append,he2,hol]) (by omega)
    rw [ybo,this]; omega
   have hll : j < N:=by rw [← hlen]; exact (List.getElem?_eq_some_iff.1 w1).1
   have hMe : (∀ l' y',l ++ [y] = l' ++ [y'] → yj cmp x y' = false) → yao A (gM xs (l ++ [y]) l2 x t) B = yao A (gO (yj cmp) xs (t + 1)) B:=fun h=>by rw [hend h]
   clear hend
   generalize yao A (gM xs (l ++ [y]) l2 x t) B = M at *
   have v1:=(List.getElem?_eq_some_iff.1 w1).2
   have v2:=(List.getElem?_eq_some_iff.1 w2).2
   have k1 : j < M.length:=(List.getElem?_eq_some_iff.1 w1).1
   have k2 : m < M.length:=(List.getElem?_eq_some_iff.1 w2).1
   have ej : ((j : Int) - 1) = (m : Int):=by omega
   have j0 : ((q : Int) < (j : Int)) = True:=by simp; omega
   have j0' : (q < j) = True:=by simp; omega
   have mn : m < N:=by omega
   have hf' : ∃ fn,Try.prog.funcs[f]? = some fn ∧ fn.body.isSome = true ∧ ¬fn.name = "runtime.NumGoroutine":=by simpa using hf
   simp -dsimp -implicitDefEqProofs [j0,j0',ej,w1,w2,v1,v2,k1,k2,yh,hll,mn]
   refine ⟨by unfold inI; omega,hf',?_⟩
   refine ⟨_,_,hc x y hxm hyP,by simp,.inr rfl,?_⟩
   have hr2 : ∀ h,((M.map yh).set j [C.i y])[m]'h = [C.i y]:=by intro h; rw [List.getElem_set_ne (by omega)]; simp [v2,yh]
   have hs3 : ((M.map yh).set j [C.i y]).set m [C.i x] = (yao A (gM xs l (y :: l2) x t) B).map yh:=by rw [← w3,List.map_set,List.map_set]; rfl
   simp -dsimp -implicitDefEqProofs [ej,w1,w2,v1,v2,k1,k2,hll,mn,hr2,hs3]
   refine ⟨fun hcm=>?_,fun hcm=>?_⟩
   ·refine ⟨by unfold inI; omega,m,l,y :: l2,⟨hm,by rw [← he2]; simp,fun z hz=>?_⟩,by omega,?_⟩
    ·rcases List.mem_cons.1 hz with hz | hz
     ·subst hz; simp [yj]; omega
     ·exact h2 z hz
    ·apply yD <;> simp [AV.yc,AV.yJ,Obj.yc,yh,w1,w2,v1,v2,hr2,hs3]
   ·have hM:=hMe fun l' y' h=>by
     have:=(List.append_inj' h rfl).2
     simp at this; subst this; simp [yj]; omega
    refine ⟨by unfold inI; omega,i + 1,⟨by omega,by omega⟩,by omega,?_⟩
    apply yD <;> simp [AV.yc,AV.yJ,Obj.yc,hM,ht1]
 ·have hfin : gO (yj cmp) xs (i - q) = sorted (yj cmp) xs:=by
   rcases Nat.eq_zero_or_pos xs.length with h | h
   ·rw [hg3 h]; rw [show i - q = 1 by omega,hg2]
   ·rw [show i - q = xs.length by omega,ytQ]
  simp -dsimp -implicitDefEqProofs [ycC hge]
  rw [hfin,← hM1]
  refine ⟨by rw [List.take_of_length_le (by rw [List.length_map,hL]; exact Nat.le_refl _)],?_⟩
  simp [ydZ]
def yea (P X R Y Q : List Nat) (i : Nat) : List Nat:=P ++ ((Y.take i ++ X.drop i) ++ (R ++ ((X.take i ++ Y.drop i) ++ Q)))
theorem yju {P X R Y Q : List Nat} {i n : Nat} (hX : X.length = n) (hY : Y.length = n) (hi : i ≤ n) : (yea P X R Y Q i).length = P.length + n + R.length + n + Q.length:=by
 simp [yea]; omega
theorem yoU {P X R Y Q : List Nat} {i n x y p q : Nat} (hX : X.length = n) (hY : Y.length = n) (hx : X[i]? = some x) (hy : Y[i]? = some y) (hp : p = P.length + i) (hq : q = P.length + n + R.length + i) :
 (yea P X R Y Q i)[p]? = some x ∧ (yea P X R Y Q i)[q]? = some y ∧ ((yea P X R Y Q i).set p y).set q x = yea P X R Y Q (i + 1):=by
 have i1:=(List.getElem?_eq_some_iff.1 hx).1
 have i2:=(List.getElem?_eq_some_iff.1 hy).1
 have d1 : X.drop i = x :: X.drop (i + 1):=by rw [List.drop_eq_getElem_cons i1,(List.getElem?_eq_some_iff.1 hx).2]
 have d2 : Y.drop i = y :: Y.drop (i + 1):=by rw [List.drop_eq_getElem_cons i2,(List.getElem?_eq_some_iff.1 hy).2]
 have t1 : X.take (i + 1) = X.take i ++ [x]:=by rw [List.take_succ,hx]; rfl
 have t2 : Y.take (i + 1) = Y.take i ++ [y]:=by rw [List.take_succ,hy]; rfl
 have e1 : yea P X R Y Q i = (P ++ Y.take i) ++ x :: ((X.drop (i + 1) ++ (R ++ X.take i)) ++ y :: (Y.drop (i + 1) ++ Q)):=by
  unfold yea; rw [d1,d2]; simp
 have e2 : yea P X R Y Q (i + 1) = (P ++ Y.take i) ++ y :: ((X.drop (i + 1) ++ (R ++ X.take i)) ++ x :: (Y.drop (i + 1) ++ Q)):=by
  unfold yea; rw [t1,t2]; simp
 rw [e1,e2]
 exact ylg (by simp; omega) (by simp; omega)
theorem yne {P X R Y Q : List Nat} : yea P X R Y Q 0 = P ++ (X ++ (R ++ (Y ++ Q))):=by simp [yea]
theorem ymN {P X R Y Q : List Nat} {n : Nat} (hX : X.length = n) (hY : Y.length = n) : yea P X R Y Q n = P ++ (Y ++ (R ++ (X ++ Q))):=by
 unfold yea
 rw [show X.drop n = [] from List.drop_of_length_le (by omega),show X.take n = X from List.take_of_length_le (by omega),show Y.drop n = [] from List.drop_of_length_le (by omega),show Y.take n = Y from List.take_of_length_le (by omega)]; simp
theorem ykN (P X R Y Q M0 M1 : List Nat) (p q n N : Nat) (hM0 : M0 = yea P X R Y Q 0) (hM1 : M1 = yea P X R Y Q n) (hX : X.length = n) (hY : Y.length = n) (hp : p = P.length) (hq : q = P.length + n + R.length) (hN : N = M0.length) (hn : 1 ≤ N) (hn2 : N ≤ 1048576) (f : Nat) (a b : List C) :
 InF Try.prog yV (.c (cw 1 (M0.map yh))) (.c (cw 1 (M1.map yh))) [.c (.i p),.c (.i q),.c (.i n),.fn f [.elt a,.elt b]] (.tup []):=by
 have hN2 : P.length + n + R.length + n + Q.length = N:=by rw [hN,hM0,yju hX hY (Nat.zero_le _)]
 have hL : M1.length = N:=by rw [hM1,yju hX hY (Nat.le_refl _)]; omega
 rw [ybe (by rw [List.length_map]; omega),ybe (by rw [List.length_map,hL]; omega)]
 refine yfi yci (by simp) (by simp) rfl fun hwf=>?_
 simp -dsimp -implicitDefEqProofs [ya0]
 refine yw (ι:=Nat) (fun i=>i ≤ n) (fun i=>yaV [(0,.own 0 1 N),(1,.c (.i p)),(2,.c (.i q)),(3,.c (.i n)),(10,.c (.i i)),(1000000,.own 0 1 N)] [(0,.row 1 ((yea P X R Y Q i).map yh))]) (fun i=>n - i) 0 (Nat.zero_le _) (by apply yD <;> simp [AV.yc,AV.yJ,Obj.yc,hN,hM0]) ?_
 rintro i hi
 rcases Nat.lt_or_ge i n with hlt | hge
 ·obtain ⟨x,hx⟩ : ∃ x,X[i]? = some x:=⟨_,List.getElem?_eq_getElem (by omega)⟩
  obtain ⟨y,hy⟩ : ∃ y,Y[i]? = some y:=⟨_,List.getElem?_eq_getElem (by omega)⟩
  obtain ⟨m,hm⟩ : ∃ m,m = P.length + i:=⟨_,rfl⟩
  obtain ⟨j,hj⟩ : ∃ j,j = P.length + n + R.length + i:=⟨_,rfl⟩
  obtain ⟨w1,w2,w3⟩:=yoU (P:=P) (R:=R) (Q:=Q) hX hY hx hy hm hj
  have hlen:=yju (P:=P) (R:=R) (Q:=Q) hX hY hi
  generalize yea P X R Y Q i = M at *
  have v1:=(List.getElem?_eq_some_iff.1 w1).2
  have v2:=(List.getElem?_eq_some_iff.1 w2).2
  have k1 : m < M.length:=(List.getElem?_eq_some_iff.1 w1).1
  have k2 : j < M.length:=(List.getElem?_eq_some_iff.1 w2).1
  have em : ((p : Int) + i) = (m : Int):=by omega
  have ej : ((q : Int) + i) = (j : Int):=by omega
  have n1 : m < N:=by omega
  have n2 : j < N:=by omega
  have hr2 : ∀ h,((M.map yh).set m [C.i y])[j]'h = [C.i y]:=by intro h; rw [List.getElem_set_ne (by omega)]; simp [v2,yh]
  have hs3 : ((M.map yh).set m [C.i y]).set j [C.i x] = (yea P X R Y Q (i + 1)).map yh:=by rw [← w3,List.map_set,List.map_set]; rfl
  simp -dsimp -implicitDefEqProofs [em,ej,yaT hlt,w1,w2,v1,v2,k1,k2,yh,n1,n2,hr2,hs3]
  refine ⟨by unfold inI; omega,by unfold inI; omega,by unfold inI; omega,by unfold inI; omega,i + 1,hlt,by omega,?_⟩
  apply yD <;> simp [AV.yc,AV.yJ,Obj.yc,hs3]
 ·have : i = n:=by omega
  subst this
  simp -dsimp -implicitDefEqProofs
  rw [← hM1]
  refine ⟨by rw [List.take_of_length_le (by rw [List.length_map,hL]; exact Nat.le_refl _)],?_⟩
  simp [ydZ]
def yaz (P U V Q : List Nat) : List Nat:=P ++ (U ++ (V ++ Q))
theorem yaI {P U V Q : List Nat} : (yaz P U V Q).length = P.length + U.length + V.length + Q.length:=by simp [yaz]; omega
theorem ytL (P0 U0 V0 Q0 M0 M1 : List Nat) (hM0 : M0 = yaz P0 U0 V0 Q0) (hM1 : M1 = yaz P0 V0 U0 Q0) (p m b N : Nat) (hU0 : 1 ≤ U0.length) (hV0 : 1 ≤ V0.length) (hp : p = P0.length) (hm : m = p + U0.length) (hb : b = m + V0.length) (hN : N = M0.length) (hn2 : N ≤ 1048576) (f : Nat) (ca cb : List C) :
 InF Try.prog yaG (.c (cw 1 (M0.map yh))) (.c (cw 1 (M1.map yh))) [.c (.i p),.c (.i m),.c (.i b),.fn f [.elt ca,.elt cb]] (.tup []):=by
 have hN2 : P0.length + U0.length + V0.length + Q0.length = N:=by rw [hN,hM0,yaI]
 have hL : M1.length = N:=by rw [hM1,yaI]; omega
 rw [ybe (by rw [List.length_map]; omega),ybe (by rw [List.length_map,hL]; omega)]
 refine yfi yc0 (by simp) (by simp) rfl fun hwf=>?_
 simp -dsimp -implicitDefEqProofs [ybh]
 have e1 : ((m : Int) - p) = ((U0.length : Nat) : Int):=by omega
 have e2 : ((b : Int) - m) = ((V0.length : Nat) : Int):=by omega
 rw [e1,e2]
 refine ⟨by unfold inI; omega,by unfold inI; omega,?_⟩
 refine yw (ι:=(Nat × Nat) × (List Nat × List Nat × List Nat × List Nat)) (fun z=>z.1.1 = z.2.2.1.length ∧ z.1.2 = z.2.2.2.1.length ∧ 1 ≤ z.1.1 ∧ 1 ≤ z.1.2 ∧ m = z.2.1.length + z.1.1 ∧ yaz z.2.1 z.2.2.2.1 z.2.2.1 z.2.2.2.2 = M1)
  (fun z=>yaV [(0,.own 0 1 N),(2,.c (.i m)),(4,.fn f [.elt ca,.elt cb]),(10,.c (.i z.1.1)),(11,.c (.i z.1.2)),(1000000,.own 0 1 N)] [(0,.row 1 ((yaz z.2.1 z.2.2.1 z.2.2.2.1 z.2.2.2.2).map yh))]) (fun z=>z.1.1 + z.1.2) ((U0.length,V0.length),(P0,U0,V0,Q0)) ⟨rfl,rfl,hU0,hV0,by simp only; omega,hM1.symm⟩ (by apply yD <;> simp [AV.yc,AV.yJ,Obj.yc,hM0,yaI,hN2]) ?_
 rintro ⟨⟨i,j⟩,P,U,V,Q⟩ ⟨hU,hV,hi,hj,hmm,hT⟩
 simp only at hU hV hi hj hmm hT
 have hTl : P.length + U.length + V.length + Q.length = N:=by
  have:=congrArg List.length hT
  rw [hL,yaI] at this; omega
 have em : ((m : Int) - i) = ((P.length : Nat) : Int):=by omega
 rcases Nat.lt_trichotomy i j with h | h | h
 ·-- the left part is the shorter one
  obtain ⟨Va,Vb,hVe,hVb⟩ : ∃ Va Vb,V = Va ++ Vb ∧ Vb.length = i:=⟨V.take (j - i),V.drop (j - i),(List.take_append_drop _ _).symm,by simp; omega⟩
  subst hVe
  have hVa : Va.length = j - i:=by simp at hV; omega
  have g1 : (yaz P U (Va ++ Vb) Q).length = N:=by rw [yaI]; omega
  have g2 : (yaz P Vb Va (U ++ Q)).length = N:=by rw [yaI]; simp; simp at hTl; omega
  have hs:=ykN P U Va Vb Q (yaz P U (Va ++ Vb) Q) (yaz P Vb Va (U ++ Q)) P.length (m + j - i) i N (by rw [yne]; simp [yaz]) (by rw [ymN hU.symm hVb]; simp [yaz]) hU.symm hVb rfl (by omega) g1.symm (by omega) hn2 f ca cb
  have q1 : ((i : Int) = (j : Int)) = False:=by simp; omega
  have q1' : (i = j) = False:=by simp; omega
  have q2 : ((j : Int) < (i : Int)) = False:=by simp; omega
  have q2' : (j < i) = False:=by simp; omega
  have q3 : ((m : Int) + j - i) = ((m + j - i : Nat) : Int):=by omega
  have q4 : ((j : Int) - i) = ((j - i : Nat) : Int):=by omega
  simp -dsimp -implicitDefEqProofs [q1,q1',q2,q2',em,q3]
  refine ⟨by unfold inI; omega,by unfold inI; omega,by unfold inI; omega,?_⟩
  refine yaZ (up:=some (0,.row 1 ((yaz P Vb Va (U ++ Q)).map yh))) hs (by simp) rfl rfl (ybG (rows:=(yaz P U (Va ++ Vb) Q).map yh) (by simp) rfl rfl (by simp [g1]) (by simp [g1,g2]) rfl rfl) ?_
  simp -dsimp -implicitDefEqProofs [q4]
  refine ⟨by unfold inI; omega,i,j - i,P,Vb,Va,U ++ Q,⟨hVb.symm,hVa.symm,hi,by omega,hmm,by rw [← hT]; simp [yaz]⟩,by omega,?_⟩
  apply yD <;> simp [AV.yc,AV.yJ,Obj.yc]
 ·have g1 : (yaz P U V Q).length = N:=by rw [yaI]; omega
  have g2 : (yaz P V U Q).length = N:=by rw [yaI]; omega
  have hs:=ykN P U [] V Q (yaz P U V Q) (yaz P V U Q) P.length m i N (by rw [yne]; simp [yaz]) (by rw [ymN hU.symm (by omega)]; simp [yaz]) hU.symm (by omega) rfl (by simp; omega) g1.symm (by omega) hn2 f ca cb
  subst h
  simp -dsimp -implicitDefEqProofs [em]
  refine ⟨by unfold inI; omega,?_⟩
  refine yaZ (up:=some (0,.row 1 ((yaz P V U Q).map yh))) hs (by simp) rfl rfl (ybG (rows:=(yaz P U V Q).map yh) (by simp) rfl rfl (by simp [g1]) (by simp [g1,g2]) rfl rfl) ?_
  simp -dsimp -implicitDefEqProofs
  rw [hT]
  refine ⟨by rw [List.take_of_length_le (by rw [List.length_map,hL]; exact Nat.le_refl _)],?_⟩
  simp [ydZ]
 ·obtain ⟨Ua,Ub,hUe,hUa⟩ : ∃ Ua Ub,U = Ua ++ Ub ∧ Ua.length = j:=⟨U.take j,U.drop j,(List.take_append_drop _ _).symm,by simp; omega⟩
  subst hUe
  have hUb : Ub.length = i - j:=by simp at hU; omega
  have g1 : (yaz P (Ua ++ Ub) V Q).length = N:=by rw [yaI]; omega
  have g2 : (yaz (P ++ V) Ub Ua Q).length = N:=by rw [yaI]; simp; simp at hTl; omega
  have hs:=ykN P Ua Ub V Q (yaz P (Ua ++ Ub) V Q) (yaz (P ++ V) Ub Ua Q) P.length m j N (by rw [yne]; simp [yaz]) (by rw [ymN hUa hV.symm]; simp [yaz]) hUa hV.symm rfl (by omega) g1.symm (by omega) hn2 f ca cb
  have q1 : ((i : Int) = (j : Int)) = False:=by simp; omega
  have q1' : (i = j) = False:=by simp; omega
  have q2 : ((j : Int) < (i : Int)) = True:=by simp; omega
  have q2' : (j < i) = True:=by simp; omega
  have q4 : ((i : Int) - j) = ((i - j : Nat) : Int):=by omega
  simp -dsimp -implicitDefEqProofs [q1,q1',q2,q2',em]
  refine ⟨by unfold inI; omega,?_⟩
  refine yaZ (up:=some (0,.row 1 ((yaz (P ++ V) Ub Ua Q).map yh))) hs (by simp) rfl rfl (ybG (rows:=(yaz P (Ua ++ Ub) V Q).map yh) (by simp) rfl rfl (by simp [g1]) (by simp [g1,g2]) rfl rfl) ?_
  simp -dsimp -implicitDefEqProofs [q4]
  refine ⟨by unfold inI; omega,i - j,j,P ++ V,Ub,Ua,Q,⟨hUb.symm,hUa.symm,by omega,hj,by simp; omega,by rw [← hT]; simp [yaz]⟩,by omega,?_⟩
  apply yD <;> simp [AV.yc,AV.yJ,Obj.yc]
structure MG (lt : Nat → Nat → Bool) (S : Nat → Prop) (A l r B o M0 M1 : List Nat) (a m b N : Nat) : Prop where
 pl : 1 ≤ l.length
 pr : 1 ≤ r.length
 sl : ∀ x ∈ l,S x
 sr : ∀ x ∈ r,S x
 ol : l.Pairwise (tot lt)
 or : r.Pairwise (tot lt)
 cr : ∀ x ∈ l,∀ y ∈ r,x < y
 po : o.Perm (l ++ r)
 oo : o.Pairwise (tot lt)
 ha : a = A.length
 hm : m = a + l.length
 hb : b = m + r.length
 h0 : M0 = yaz A l r B
 h1 : M1 = yao A o B
 hN : N = M0.length
 hn : N ≤ 1048576
theorem MG.len1 {lt : Nat → Nat → Bool} {S : Nat → Prop} {A l r B o M0 M1 : List Nat} {a m b N : Nat} (g : MG lt S A l r B o M0 M1 a m b N) : M1.length = N ∧ 1 ≤ N ∧ b ≤ N:=by
 have h1:=g.po.length_eq
 have h2:=g.hN
 have h3:=g.pl
 have h4:=g.hb; have h5:=g.hm; have h6:=g.ha
 rw [g.h0,yaI] at h2
 rw [g.h1,ybo,h1,List.length_append]
 omega
theorem yin {i j : Nat} : ((i : Int) + j).toNat / 2 = (i + j) / 2:=by congr 1
theorem yiF {A l r B : List Nat} {k t : Nat} (hk : k = A.length + t) (h : t < l.length) : (yaz A l r B)[k]? = l[t]?:=by
 unfold yaz; exact yii hk h
theorem yje {A l r B : List Nat} {k t : Nat} (hk : k = A.length + l.length + t) (h : t < r.length) : (yaz A l r B)[k]? = r[t]?:=by
 unfold yaz; rw [← List.append_assoc]; exact yii (by rw [List.length_append]; exact hk) h
theorem swp_right {A r B : List Nat} {x y k t : Nat} (hy : r[t]? = some y) (hk : k = A.length + t) :
 (yao A (r.take t ++ x :: r.drop t) B)[k]? = some x ∧ (yao A (r.take t ++ x :: r.drop t) B)[k + 1]? = some y ∧
 ((yao A (r.take t ++ x :: r.drop t) B).set k y).set (k + 1) x = yao A (r.take (t + 1) ++ x :: r.drop (t + 1)) B:=by
 have i1:=(List.getElem?_eq_some_iff.1 hy).1
 have d1 : r.drop t = y :: r.drop (t + 1):=by rw [List.drop_eq_getElem_cons i1,(List.getElem?_eq_some_iff.1 hy).2]
 have t1 : r.take (t + 1) = r.take t ++ [y]:=by rw [List.take_succ,hy]; rfl
 have e1 : yao A (r.take t ++ x :: r.drop t) B = (A ++ r.take t) ++ x :: ([] ++ y :: (r.drop (t + 1) ++ B)):=by unfold yao; rw [d1]; simp
 have e2 : yao A (r.take (t + 1) ++ x :: r.drop (t + 1)) B = (A ++ r.take t) ++ y :: ([] ++ x :: (r.drop (t + 1) ++ B)):=by unfold yao; rw [t1]; simp
 rw [e1,e2]
 exact ylg (by simp; omega) (by simp; omega)
theorem swp_left {A l B : List Nat} {y u k t : Nat} (hu : l[t]? = some u) (hk : k = A.length + t) :
 (yao A (l.take (t + 1) ++ y :: l.drop (t + 1)) B)[k + 1]? = some y ∧ (yao A (l.take (t + 1) ++ y :: l.drop (t + 1)) B)[k]? = some u ∧
 ((yao A (l.take (t + 1) ++ y :: l.drop (t + 1)) B).set (k + 1) u).set k y = yao A (l.take t ++ y :: l.drop t) B:=by
 have i1:=(List.getElem?_eq_some_iff.1 hu).1
 have d1 : l.drop t = u :: l.drop (t + 1):=by rw [List.drop_eq_getElem_cons i1,(List.getElem?_eq_some_iff.1 hu).2]
 have t1 : l.take (t + 1) = l.take t ++ [u]:=by rw [List.take_succ,hu]; rfl
 have e1 : yao A (l.take (t + 1) ++ y :: l.drop (t + 1)) B = (A ++ l.take t) ++ u :: ([] ++ y :: (l.drop (t + 1) ++ B)):=by unfold yao; rw [t1]; simp
 have e2 : yao A (l.take t ++ y :: l.drop t) B = (A ++ l.take t) ++ y :: ([] ++ u :: (l.drop (t + 1) ++ B)):=by unfold yao; rw [d1]; simp
 rw [e1,e2]
 obtain ⟨a1,a2,a3⟩:=ylg (P:=A ++ l.take t) (R:=[]) (Q:=l.drop (t + 1) ++ B) (x:=u) (y:=y) (i:=k) (j:=k + 1) (by simp; omega) (by simp; omega)
 exact ⟨a2,a1,by rw [List.set_comm _ _ (by omega)]; exact a3⟩
section
variable {cmp : Nat → Nat → Int} {S : Nat → Prop} {f : Nat} {ca cb : List C}
theorem yoK (h : SWO (yj cmp) S) (hf : ∃ fn,Try.prog.funcs[f]? = some fn ∧ fn.body.isSome = true ∧ (fn.name != "runtime.NumGoroutine") = true)
 (hc : ∀ x y : Nat,S x → S y → yR Try.prog f [.c (.i x),.c (.i y),.elt ca,.elt cb] (.c (.i (cmp x y)))) {A r B o M0 M1 : List Nat} {a m b N x : Nat} (g : MG (yj cmp) S A [x] r B o M0 M1 a m b N) :
 InF Try.prog yu (.c (cw 1 (M0.map yh))) (.c (cw 1 (M1.map yh))) [.c (.i a),.c (.i m),.c (.i b),.fn f [.elt ca,.elt cb]] (.tup []):=by
 obtain ⟨hL,hN1,hbN⟩:=g.len1
 have hN:=g.hN; have hn:=g.hn; have ha:=g.ha; have hm:=g.hm; have hb:=g.hb; have h0:=g.h0; have h1:=g.h1
 simp only [List.length_singleton] at hm
 have hx : S x:=g.sl x (by simp)
 rw [ybe (by rw [List.length_map]; omega),ybe (by rw [List.length_map,hL]; omega)]
 refine yfi yax (by simp) (by simp) rfl fun hwf=>?_
 have e1 : ((m : Int) - a) = 1:=by omega
 simp -dsimp -implicitDefEqProofs [yai,e1]
 refine ⟨by unfold inI; omega,?_⟩
 refine yw (ι:=Nat × Nat) (fun z=>m ≤ z.1 ∧ z.1 ≤ z.2 ∧ z.2 ≤ b ∧ (∀ u ∈ r.take (z.1 - m),yj cmp u x = true) ∧ (∀ u ∈ r.drop (z.2 - m),yj cmp u x = false))
  (fun z=>yaV [(0,.own 0 1 N),(1,.c (.i a)),(4,.fn f [.elt ca,.elt cb]),(10,.c (.i z.1)),(11,.c (.i z.2)),(1000000,.own 0 1 N)] [(0,.row 1 (M0.map yh))]) (fun z=>z.2 - z.1) (m,b) ⟨by simp,by simp only; omega,by simp,by simp,by simp [hb]⟩ (by apply yD <;> simp [AV.yc,AV.yJ,Obj.yc,hN]) ?_
 rintro ⟨i,j⟩ ⟨b1,b2,b3,b4,b5⟩
 simp only at b1 b2 b3 b4 b5
 have hf' : ∃ fn,Try.prog.funcs[f]? = some fn ∧ fn.body.isSome = true ∧ ¬fn.name = "runtime.NumGoroutine":=by simpa using hf
 have wx : M0[a]? = some x:=by rw [h0,yiF (t:=0) (by omega) (by simp)]; rfl
 have vx:=(List.getElem?_eq_some_iff.1 wx).2
 have kx : a < N:=by rw [hN]; exact (List.getElem?_eq_some_iff.1 wx).1
 rcases Nat.lt_or_ge i j with hlt | hge
 ·obtain ⟨k,hk⟩ : ∃ k,k = (i + j) / 2:=⟨_,rfl⟩
  obtain ⟨y,hy⟩ : ∃ y,r[k - m]? = some y:=⟨_,List.getElem?_eq_getElem (by omega)⟩
  have wy : M0[k]? = some y:=by rw [h0,yje (t:=k - m) (by simp; omega) (by omega)]; exact hy
  have vy:=(List.getElem?_eq_some_iff.1 wy).2
  have ky : k < N:=by rw [hN]; exact (List.getElem?_eq_some_iff.1 wy).1
  have hyS:=g.sr y (List.mem_of_getElem? hy)
  simp -dsimp -implicitDefEqProofs [yaT hlt,yin,← hk,wx,vx,kx,wy,vy,ky,yh]
  refine ⟨by unfold inI; omega,by omega,by omega,by omega,by omega,hf',?_⟩
  refine ⟨_,_,hc y x hyS hx,by simp,.inr rfl,?_⟩
  simp -dsimp -implicitDefEqProofs
  refine ⟨fun hcm=>?_,fun hcm=>?_⟩
  ·refine ⟨by unfold inI; omega,k + 1,j,⟨by omega,by omega,b3,?_,b5⟩,by omega,?_⟩
   ·rw [show k + 1 - m = (k - m) + 1 by omega]
    exact ys8 h g.sr hx g.or hy (by simpa [yj] using hcm)
   ·apply yD <;> simp [AV.yc,AV.yJ,Obj.yc]
  ·refine ⟨i,k,⟨b1,by omega,by omega,b4,yq0 h g.sr hx g.or hy (by simpa [yj] using hcm)⟩,by omega,?_⟩
   apply yD <;> simp [AV.yc,AV.yJ,Obj.yc]
 ·have hij : i = j:=by omega
  subst hij
  have ho:=yqb h g.sr hx g.or (fun u hu=>g.cr x (by simp) u hu) b4 b5 g.po g.oo
  obtain ⟨t,ht⟩ : ∃ t,t = i - m:=⟨_,rfl⟩
  rw [← ht] at ho
  have hM0 : M0 = yao A (r.take 0 ++ x :: r.drop 0) B:=by rw [h0]; simp [yaz,yao]
  simp -dsimp -implicitDefEqProofs
  refine yw (ι:=Nat) (fun k=>a ≤ k ∧ k ≤ a + t) (fun k=>yaV [(0,.own 0 1 N),(10,.c (.i i)),(13,.c (.i k)),(1000000,.own 0 1 N)] [(0,.row 1 ((yao A (r.take (k - a) ++ x :: r.drop (k - a)) B).map yh))]) (fun k=>a + t - k) a ⟨Nat.le_refl _,by omega⟩ (by apply yD <;> simp [AV.yc,AV.yJ,Obj.yc,hM0]) ?_
  rintro k ⟨k1,k2⟩
  rcases Nat.lt_or_ge k (a + t) with klt | kge
  ·obtain ⟨y,hy⟩ : ∃ y,r[k - a]? = some y:=⟨_,List.getElem?_eq_getElem (by omega)⟩
   obtain ⟨w1,w2,w3⟩:=swp_right (A:=A) (B:=B) (x:=x) hy (k:=k) (by omega)
   have hml : (yao A (r.take (k - a) ++ x :: r.drop (k - a)) B).length = N:=by rw [hN,hM0,ybo,ybo]; simp; omega
   rw [show k - a + 1 = k + 1 - a by omega] at w3
   generalize yao A (r.take (k - a) ++ x :: r.drop (k - a)) B = M at *
   obtain ⟨j,hj⟩ : ∃ j,j = k + 1:=⟨_,rfl⟩
   rw [← hj] at w2 w3
   have v1:=(List.getElem?_eq_some_iff.1 w1).2
   have v2:=(List.getElem?_eq_some_iff.1 w2).2
   have q1 : k < M.length:=(List.getElem?_eq_some_iff.1 w1).1
   have q2 : j < M.length:=(List.getElem?_eq_some_iff.1 w2).1
   have n1 : k < N:=by omega
   have n2 : j < N:=by omega
   have ej : ((k : Int) + 1) = (j : Int):=by omega
   have c1 : ((k : Int) < (i : Int) - 1) = True:=by simp; omega
   have hr2 : ∀ h,((M.map yh).set k [C.i y])[j]'h = [C.i y]:=by intro h; rw [List.getElem_set_ne (by omega)]; simp [v2,yh]
   have hs3 : ((M.map yh).set k [C.i y]).set j [C.i x] = (yao A (r.take (j - a) ++ x :: r.drop (j - a)) B).map yh:=by rw [← w3,List.map_set,List.map_set]; rfl
   simp -dsimp -implicitDefEqProofs [c1,ej,w1,w2,v1,v2,q1,q2,yh,n1,n2,hr2,hs3]
   refine ⟨by unfold inI; omega,by unfold inI; omega,j,⟨by omega,by omega⟩,by omega,?_⟩
   apply yD <;> simp [AV.yc,AV.yJ,Obj.yc,hs3]
  ·have c1 : ((k : Int) < (i : Int) - 1) = False:=by simp; omega
   simp -dsimp -implicitDefEqProofs [c1]
   refine ⟨by unfold inI; omega,?_⟩
   rw [show k - a = t by omega,← ho,← h1]
   refine ⟨by rw [List.take_of_length_le (by rw [List.length_map,hL]; exact Nat.le_refl _)],?_⟩
   simp [ydZ]
theorem ymV (h : SWO (yj cmp) S) (hf : ∃ fn,Try.prog.funcs[f]? = some fn ∧ fn.body.isSome = true ∧ (fn.name != "runtime.NumGoroutine") = true)
 (hc : ∀ x y : Nat,S x → S y → yR Try.prog f [.c (.i x),.c (.i y),.elt ca,.elt cb] (.c (.i (cmp x y)))) {A l B o M0 M1 : List Nat} {a m b N y : Nat} (hl2 : 2 ≤ l.length) (g : MG (yj cmp) S A l [y] B o M0 M1 a m b N) :
 InF Try.prog yu (.c (cw 1 (M0.map yh))) (.c (cw 1 (M1.map yh))) [.c (.i a),.c (.i m),.c (.i b),.fn f [.elt ca,.elt cb]] (.tup []):=by
 obtain ⟨hL,hN1,hbN⟩:=g.len1
 have hN:=g.hN; have hn:=g.hn; have ha:=g.ha; have hm:=g.hm; have hb:=g.hb; have h0:=g.h0; have h1:=g.h1
 simp only [List.length_singleton] at hb
 have hx : S y:=g.sr y (by simp)
 rw [ybe (by rw [List.length_map]; omega),ybe (by rw [List.length_map,hL]; omega)]
 refine yfi yax (by simp) (by simp) rfl fun hwf=>?_
 have e1 : ((m : Int) - a = 1) = False:=by simp; omega
 have e2 : ((b : Int) - m) = 1:=by omega
 simp -dsimp -implicitDefEqProofs [yai,e1,e2]
 refine ⟨by unfold inI; omega,by unfold inI; omega,?_⟩
 refine yw (ι:=Nat × Nat) (fun z=>a ≤ z.1 ∧ z.1 ≤ z.2 ∧ z.2 ≤ m ∧ (∀ u ∈ l.take (z.1 - a),yj cmp y u = false) ∧ (∀ u ∈ l.drop (z.2 - a),yj cmp y u = true))
  (fun z=>yaV [(0,.own 0 1 N),(2,.c (.i m)),(4,.fn f [.elt ca,.elt cb]),(14,.c (.i z.1)),(15,.c (.i z.2)),(1000000,.own 0 1 N)] [(0,.row 1 (M0.map yh))]) (fun z=>z.2 - z.1) (a,m) ⟨by simp,by simp only; omega,by simp,by simp,by simp [hm]⟩ (by apply yD <;> simp [AV.yc,AV.yJ,Obj.yc,hN]) ?_
 rintro ⟨i,j⟩ ⟨b1,b2,b3,b4,b5⟩
 simp only at b1 b2 b3 b4 b5
 have hf' : ∃ fn,Try.prog.funcs[f]? = some fn ∧ fn.body.isSome = true ∧ ¬fn.name = "runtime.NumGoroutine":=by simpa using hf
 have wx : M0[m]? = some y:=by rw [h0,yje (t:=0) (by omega) (by simp)]; rfl
 have vx:=(List.getElem?_eq_some_iff.1 wx).2
 have kx : m < N:=by rw [hN]; exact (List.getElem?_eq_some_iff.1 wx).1
 rcases Nat.lt_or_ge i j with hlt | hge
 ·obtain ⟨k,hk⟩ : ∃ k,k = (i + j) / 2:=⟨_,rfl⟩
  obtain ⟨u,hu⟩ : ∃ u,l[k - a]? = some u:=⟨_,List.getElem?_eq_getElem (by omega)⟩
  have wy : M0[k]? = some u:=by rw [h0,yiF (t:=k - a) (by omega) (by omega)]; exact hu
  have vy:=(List.getElem?_eq_some_iff.1 wy).2
  have ky : k < N:=by rw [hN]; exact (List.getElem?_eq_some_iff.1 wy).1
  have huS:=g.sl u (List.mem_of_getElem? hu)
  simp -dsimp -implicitDefEqProofs [yaT hlt,yin,← hk,wx,vx,kx,wy,vy,ky,yh]
  refine ⟨by unfold inI; omega,by omega,by omega,by omega,by omega,hf',?_⟩
  refine ⟨_,_,hc y u hx huS,by simp,.inr rfl,?_⟩
  simp -dsimp -implicitDefEqProofs
  refine ⟨fun hcm=>?_,fun hcm=>?_⟩
  ·refine ⟨by unfold inI; omega,k + 1,j,⟨by omega,by omega,b3,?_,b5⟩,by omega,?_⟩
   ·rw [show k + 1 - a = (k - a) + 1 by omega]
    exact yq9 h g.sl hx g.ol hu (by simpa [yj] using hcm)
   ·apply yD <;> simp [AV.yc,AV.yJ,Obj.yc]
  ·refine ⟨i,k,⟨b1,by omega,by omega,b4,yqH h g.sl hx g.ol hu (by simpa [yj] using hcm)⟩,by omega,?_⟩
   apply yD <;> simp [AV.yc,AV.yJ,Obj.yc]
 ·have hij : i = j:=by omega
  subst hij
  have ho:=yoX h g.sl hx g.ol (fun u hu=>g.cr u hu y (by simp)) b4 b5 g.po g.oo
  have hM0 : M0 = yao A (l.take (m - a) ++ y :: l.drop (m - a)) B:=by rw [h0,show m - a = l.length by omega]; simp [yaz,yao]
  simp -dsimp -implicitDefEqProofs
  refine yw (ι:=Nat) (fun k=>i ≤ k ∧ k ≤ m) (fun k=>yaV [(0,.own 0 1 N),(14,.c (.i i)),(17,.c (.i k)),(1000000,.own 0 1 N)] [(0,.row 1 ((yao A (l.take (k - a) ++ y :: l.drop (k - a)) B).map yh))]) (fun k=>k - i) m ⟨by omega,Nat.le_refl _⟩ (by apply yD <;> simp [AV.yc,AV.yJ,Obj.yc,← hM0]) ?_
  rintro k ⟨k1,k2⟩
  rcases Nat.lt_or_ge i k with klt | kge
  ·obtain ⟨j,hj⟩ : ∃ j,j = k - 1:=⟨_,rfl⟩
   obtain ⟨u,hu⟩ : ∃ u,l[j - a]? = some u:=⟨_,List.getElem?_eq_getElem (by omega)⟩
   obtain ⟨w1,w2,w3⟩:=swp_left (A:=A) (B:=B) (y:=y) hu (k:=j) (by omega)
   have ejk : j + 1 = k:=by omega
   rw [show j - a + 1 = k - a by omega] at w1 w2 w3
   rw [ejk] at w1 w3
   have hml : (yao A (l.take (k - a) ++ y :: l.drop (k - a)) B).length = N:=by rw [hN,hM0,ybo,ybo]; simp; omega
   generalize yao A (l.take (k - a) ++ y :: l.drop (k - a)) B = M at *
   have v1:=(List.getElem?_eq_some_iff.1 w1).2
   have v2:=(List.getElem?_eq_some_iff.1 w2).2
   have q1 : k < M.length:=(List.getElem?_eq_some_iff.1 w1).1
   have q2 : j < M.length:=(List.getElem?_eq_some_iff.1 w2).1
   have n1 : k < N:=by omega
   have n2 : j < N:=by omega
   have ej : ((k : Int) - 1) = (j : Int):=by omega
   have hr2 : ∀ h,((M.map yh).set k [C.i u])[j]'h = [C.i u]:=by intro h; rw [List.getElem_set_ne (by omega)]; simp [v2,yh]
   have hs3 : ((M.map yh).set k [C.i u]).set j [C.i y] = (yao A (l.take (j - a) ++ y :: l.drop (j - a)) B).map yh:=by rw [← w3,List.map_set,List.map_set]; rfl
   simp -dsimp -implicitDefEqProofs [yaT klt,klt,ej,w1,w2,v1,v2,q1,q2,yh,n1,n2,hr2,hs3]
   refine ⟨by unfold inI; omega,j,⟨by omega,by omega⟩,by omega,?_⟩
   apply yD <;> simp [AV.yc,AV.yJ,Obj.yc,hs3]
  ·have hki : k = i:=by omega
   subst hki
   simp -dsimp -implicitDefEqProofs
   rw [← ho,← h1]
   refine ⟨by rw [List.take_of_length_le (by rw [List.length_map,hL]; exact Nat.le_refl _)],?_⟩
   simp [ydZ]
end
section
variable {cmp : Nat → Nat → Int} {S : Nat → Prop} {f : Nat} {ca cb : List C}
theorem yjp (h : SWO (yj cmp) S) {l r : List Nat} (hl : ∀ x ∈ l,S x) (hr : ∀ x ∈ r,S x) (sl : l.Pairwise (tot (yj cmp))) (sr : r.Pairwise (tot (yj cmp))) (hc : ∀ x ∈ l,∀ y ∈ r,x < y) :
 ∃ o : List Nat,o.Perm (l ++ r) ∧ o.Pairwise (tot (yj cmp)):=ygd h (fun y hy=>by rcases List.mem_append.1 hy with hy | hy; exact hl y hy; exact hr y hy) (ylR h hl hr sl sr hc)
def ynT (cmp : Nat → Nat → Int) (M0 : List Nat) (n s0 s : Nat) : Prop:=s = s0 ∨ ∃ u v,M0[s - 1]? = some u ∧ M0[n - s]? = some v ∧ yj cmp v u = false
def ynK (cmp : Nat → Nat → Int) (M0 : List Nat) (p r0 s : Nat) : Prop:=s = r0 ∨ ∃ u v,M0[s]? = some u ∧ M0[p - s]? = some v ∧ yj cmp v u = true
theorem yoP (h : SWO (yj cmp) S) {A l r B o M0 M1 : List Nat} {a m b N d n p s0 r0 s z : Nat} (g : MG (yj cmp) S A l r B o M0 M1 a m b N) (hd : d = (a + b) / 2) (hn' : n = d + m) (hp : p = n - 1)
 (F1 : s0 ≤ r0) (F2 : a ≤ s0) (F3 : r0 ≤ m) (F4 : r0 ≤ d) (F5 : n ≤ b + s0) (F6 : s0 = a ∨ n - s0 = b) (F7 : r0 = m ∨ r0 = d) (b1 : s0 ≤ s) (b3 : s ≤ r0)
 (b4 : ynT cmp M0 n s0 s) (b5 : ynK cmp M0 p r0 s) (hz : z = n - s) (hl2 : 2 ≤ l.length) (hr2 : 2 ≤ r.length) : ∀ x ∈ l.take (s - a) ++ r.take (z - m),∀ y ∈ l.drop (s - a) ++ r.drop (z - m),tot (yj cmp) x y:=by
 have ha:=g.ha; have hm:=g.hm; have hb:=g.hb; have h0:=g.h0
 have hA : s - a = 0 ∨ r.length ≤ z - m ∨ ∃ u v,l[s - a - 1]? = some u ∧ r[z - m]? = some v ∧ tot (yj cmp) u v:=by
  rcases b4 with e | ⟨u,v,hu,hv,hlt⟩
  ·rcases F6 with e2 | e2
   ·left; omega
   ·right; left; omega
  ·rcases Nat.eq_zero_or_pos (s - a) with e | e
   ·exact .inl e
   rcases Nat.lt_or_ge (z - m) r.length with e2 | e2
   ·right; right
    have hu' : l[s - a - 1]? = some u:=by rw [h0,yiF (t:=s - a - 1) (by omega) (by omega)] at hu; exact hu
    have hv' : r[z - m]? = some v:=by rw [h0,yje (t:=z - m) (by omega) (by omega)] at hv; exact hv
    exact ⟨u,v,hu',hv',ym0 (g.cr u (List.mem_of_getElem? hu') v (List.mem_of_getElem? hv')) hlt⟩
   ·exact .inr (.inl e2)
 have hB : z - m = 0 ∨ l.length ≤ s - a ∨ ∃ u v,r[z - m - 1]? = some u ∧ l[s - a]? = some v ∧ tot (yj cmp) u v:=by
  rcases b5 with e | ⟨u,v,hu,hv,hlt⟩
  ·rcases F7 with e2 | e2
   ·right; left; omega
   ·left; omega
  ·rcases Nat.eq_zero_or_pos (z - m) with e | e
   ·exact .inl e
   rcases Nat.lt_or_ge (s - a) l.length with e2 | e2
   ·right; right
    have hu' : l[s - a]? = some u:=by rw [h0,yiF (t:=s - a) (by omega) (by omega)] at hu; exact hu
    have hv' : r[z - m - 1]? = some v:=by rw [h0,yje (t:=z - m - 1) (by omega) (by omega)] at hv; exact hv
    exact ⟨v,u,hv',hu',.inl hlt⟩
   ·exact .inr (.inl e2)
 exact ypA h g.sl g.sr g.ol g.or hA hB
set_option maxHeartbeats 1000000 in
theorem yov (h : SWO (yj cmp) S) {A l r B o M0 M1 : List Nat} {a m b N d n p s0 r0 s z : Nat} (g : MG (yj cmp) S A l r B o M0 M1 a m b N) (hd : d = (a + b) / 2) (hn' : n = d + m) (hp : p = n - 1)
 (F1 : s0 ≤ r0) (F2 : a ≤ s0) (F3 : r0 ≤ m) (F4 : r0 ≤ d) (F5 : n ≤ b + s0) (F6 : s0 = a ∨ n - s0 = b) (F7 : r0 = m ∨ r0 = d) (b1 : s0 ≤ s) (b3 : s ≤ r0)
 (b4 : ynT cmp M0 n s0 s) (b5 : ynK cmp M0 p r0 s) (hz : z = n - s) (hl2 : 2 ≤ l.length) (hr2 : 2 ≤ r.length) :
 ∃ l1 l2 r1 r2 o1 o2 Mr M2 : List Nat,Mr.length = N ∧ M2.length = N ∧ l1.length = s - a ∧ l2.length = m - s ∧ r1.length = z - m ∧ r2.length = b - z ∧
  (M0 = yaz (A ++ l1) l2 r1 (r2 ++ B) ∧ Mr = yaz (A ++ l1) r1 l2 (r2 ++ B)) ∧
  (a < s → m < z → MG (yj cmp) S A l1 r1 (l2 ++ (r2 ++ B)) o1 Mr M2 a s d N) ∧ (s < m → z < b → MG (yj cmp) S (A ++ o1) l2 r2 B o2 M2 M1 d z b N) ∧
  (m ≤ s ∨ z ≤ m → M0 = Mr) ∧ (s ≤ a ∨ z ≤ m → Mr = M2) ∧ (m ≤ s ∨ b ≤ z → M2 = M1):=by
 have hN:=g.hN; have ha:=g.ha; have hm:=g.hm; have hb:=g.hb; have h0:=g.h0; have h1:=g.h1
 have hNl : A.length + l.length + r.length + B.length = N:=by rw [hN,h0,yaI]
 have el : l.take (s - a) ++ l.drop (s - a) = l:=List.take_append_drop _ _
 have er : r.take (z - m) ++ r.drop (z - m) = r:=List.take_append_drop _ _
 have sl1 : ∀ x ∈ l.take (s - a),S x:=fun x hx=>g.sl x (List.mem_of_mem_take hx)
 have sl2 : ∀ x ∈ l.drop (s - a),S x:=fun x hx=>g.sl x (List.mem_of_mem_drop hx)
 have sr1 : ∀ x ∈ r.take (z - m),S x:=fun x hx=>g.sr x (List.mem_of_mem_take hx)
 have sr2 : ∀ x ∈ r.drop (z - m),S x:=fun x hx=>g.sr x (List.mem_of_mem_drop hx)
 have ol:=g.ol; have or:=g.or
 rw [← el,List.pairwise_append] at ol
 rw [← er,List.pairwise_append] at or
 have cross:=yoP h g hd hn' hp F1 F2 F3 F4 F5 F6 F7 b1 b3 b4 b5 hz hl2 hr2
 have zb : m ≤ z ∧ z ≤ b ∧ s ≤ m ∧ a ≤ s ∧ s + z = d + m:=by omega
 obtain ⟨zb1,zb2,zb3,zb4,zb5⟩:=zb
 clear b4 b5 F1 F2 F3 F4 F5 F6 F7 b1 b3 hz hp hn' hd
 obtain ⟨o1,po1,so1⟩:=yjp h sl1 sr1 ol.1 or.1 (fun x hx y hy=>g.cr x (List.mem_of_mem_take hx) y (List.mem_of_mem_take hy))
 obtain ⟨o2,po2,so2⟩:=yjp h sl2 sr2 ol.2.1 or.2.1 (fun x hx y hy=>g.cr x (List.mem_of_mem_drop hx) y (List.mem_of_mem_drop hy))
 have ho:=halves h g.sl g.sr g.po g.oo po1 so1 po2 so2 cross
 have lo1:=po1.length_eq
 have lo2:=po2.length_eq
 have q1 : (l.take (s - a)).length = s - a:=by rw [List.length_take]; omega
 have q2 : (l.drop (s - a)).length = m - s:=by rw [List.length_drop]; omega
 have q3 : (r.take (z - m)).length = z - m:=by rw [List.length_take]; omega
 have q4 : (r.drop (z - m)).length = b - z:=by rw [List.length_drop]; omega
 rw [List.length_append] at lo1 lo2
 have hM0 : M0 = yaz (A ++ l.take (s - a)) (l.drop (s - a)) (r.take (z - m)) (r.drop (z - m) ++ B):=by
  rw [h0]; conv=>lhs; rw [← el,← er]
  simp only [yaz,List.append_assoc]
 have one1 : l.take (s - a) = [] ∨ r.take (z - m) = [] → o1 = l.take (s - a) ++ r.take (z - m):=fun e=>by
  refine ybc h (S:=S) (fun x hx=>?_) po1 so1 ?_
  ·rcases List.mem_append.1 (po1.mem_iff.1 hx) with hx | hx
   ·exact sl1 x hx
   ·exact sr1 x hx
  ·rcases e with e | e <;> rw [e]
   ·simpa using or.1
   ·simpa using ol.1
 have one2 : l.drop (s - a) = [] ∨ r.drop (z - m) = [] → o2 = l.drop (s - a) ++ r.drop (z - m):=fun e=>by
  refine ybc h (S:=S) (fun x hx=>?_) po2 so2 ?_
  ·rcases List.mem_append.1 (po2.mem_iff.1 hx) with hx | hx
   ·exact sl2 x hx
   ·exact sr2 x hx
  ·rcases e with e | e <;> rw [e]
   ·simpa using or.2.1
   ·simpa using ol.2.1
 generalize l.take (s - a) = l1 at *
 generalize l.drop (s - a) = l2 at *
 generalize r.take (z - m) = r1 at *
 generalize r.drop (z - m) = r2 at *
 have nil : ∀ {x : List Nat} {k : Nat},x.length = k → k = 0 → x = []:=fun h1 h2=>List.length_eq_zero_iff.1 (h1.trans h2)
 refine ⟨l1,l2,r1,r2,o1,o2,yaz (A ++ l1) r1 l2 (r2 ++ B),yao A o1 (l2 ++ (r2 ++ B)),?_,?_,q1,q2,q3,q4,⟨hM0,rfl⟩,fun e1 e2=>?_,fun e1 e2=>?_,fun e=>?_,fun e=>?_,fun e=>?_⟩
 ·rw [yaI]; simp only [List.length_append]; omega
 ·rw [ybo]; simp only [List.length_append]; omega
 ·exact ⟨by omega,by omega,sl1,sr1,ol.1,or.1,fun x hx y hy=>g.cr x (by rw [← el]; simp [hx]) y (by rw [← er]; simp [hy]),po1,so1,ha,by omega,by omega,by simp [yaz],rfl,by rw [yaI]; simp only [List.length_append]; omega,g.hn⟩
 ·exact ⟨by omega,by omega,sl2,sr2,ol.2.1,or.2.1,fun x hx y hy=>g.cr x (by rw [← el]; simp [hx]) y (by rw [← er]; simp [hy]),po2,so2,by simp only [List.length_append]; omega,by omega,by omega,by simp [yaz,yao],by rw [h1,ho]; simp [yao],by rw [ybo]; simp only [List.length_append]; omega,g.hn⟩
 ·rw [hM0]
  rcases e with e | e
  ·rw [nil q2 (by omega)]; simp [yaz]
  ·rw [nil q3 (by omega)]; simp [yaz]
 ·rcases e with e | e
  ·rw [one1 (.inl (nil q1 (by omega)))]; simp [yaz,yao]
  ·rw [one1 (.inr (nil q3 (by omega)))]; simp [yaz,yao]
 ·rw [h1,ho]
  rcases e with e | e
  ·rw [one2 (.inl (nil q2 (by omega)))]; simp [yao]
  ·rw [one2 (.inr (nil q4 (by omega)))]; simp [yao]
set_option maxHeartbeats 4000000 in
theorem yqD (h : SWO (yj cmp) S) (hf : ∃ fn,Try.prog.funcs[f]? = some fn ∧ fn.body.isSome = true ∧ (fn.name != "runtime.NumGoroutine") = true)
 (hc : ∀ x y : Nat,S x → S y → yR Try.prog f [.c (.i x),.c (.i y),.elt ca,.elt cb] (.c (.i (cmp x y)))) {A l r B o M0 M1 : List Nat} {a m b N : Nat} (hl2 : 2 ≤ l.length) (hr2 : 2 ≤ r.length) (g : MG (yj cmp) S A l r B o M0 M1 a m b N)
 (ih : ∀ (A' l' r' B' o' M0' M1' : List Nat) (a' m' b' : Nat),l'.length + r'.length < l.length + r.length → MG (yj cmp) S A' l' r' B' o' M0' M1' a' m' b' N →
  InF Try.prog yu (.c (cw 1 (M0'.map yh))) (.c (cw 1 (M1'.map yh))) [.c (.i a'),.c (.i m'),.c (.i b'),.fn f [.elt ca,.elt cb]] (.tup [])) :
 InF Try.prog yu (.c (cw 1 (M0.map yh))) (.c (cw 1 (M1.map yh))) [.c (.i a),.c (.i m),.c (.i b),.fn f [.elt ca,.elt cb]] (.tup []):=by
 obtain ⟨hL,hN1,hbN⟩:=g.len1
 have hN:=g.hN; have hn:=g.hn; have ha:=g.ha; have hm:=g.hm; have hb:=g.hb; have h0:=g.h0; have h1:=g.h1
 have hNl : A.length + l.length + r.length + B.length = N:=by rw [hN,h0,yaI]
 rw [ybe (by rw [List.length_map]; omega),ybe (by rw [List.length_map,hL]; omega)]
 refine yfi yax (by simp) (by simp) rfl fun hwf=>?_
 have e1 : ((m : Int) - a = 1) = False:=by simp; omega
 have e2 : ((b : Int) - m = 1) = False:=by simp; omega
 obtain ⟨d,hd⟩ : ∃ d,d = (a + b) / 2:=⟨_,rfl⟩
 obtain ⟨n,hn'⟩ : ∃ n,n = d + m:=⟨_,rfl⟩
 obtain ⟨p,hp⟩ : ∃ p,p = n - 1:=⟨_,rfl⟩
 have en : ((d : Int) + m) = (n : Int):=by omega
 have ep : ((n : Int) - 1) = (p : Int):=by omega
 have hf' : ∃ fn,Try.prog.funcs[f]? = some fn ∧ fn.body.isSome = true ∧ ¬fn.name = "runtime.NumGoroutine":=by simpa using hf
 obtain ⟨s0,r0,hs1,hs2⟩ : ∃ s0 r0 : Nat,(d < m → s0 = n - b ∧ r0 = d) ∧ (m ≤ d → s0 = a ∧ r0 = m):=by
  rcases Nat.lt_or_ge d m with q | q
  ·exact ⟨n - b,d,fun _=>⟨rfl,rfl⟩,fun q2=>by omega⟩
  ·exact ⟨a,m,fun q2=>by omega,fun _=>⟨rfl,rfl⟩⟩
 have F : s0 ≤ r0 ∧ a ≤ s0 ∧ r0 ≤ m ∧ r0 ≤ d ∧ n ≤ b + s0 ∧ (s0 = a ∨ n - s0 = b) ∧ (r0 = m ∨ r0 = d):=by
  rcases Nat.lt_or_ge d m with q | q
  ·obtain ⟨z1,z2⟩:=hs1 q; omega
  ·obtain ⟨z1,z2⟩:=hs2 q; omega
 obtain ⟨F1,F2,F3,F4,F5,F6,F7⟩:=F
 simp -dsimp -implicitDefEqProofs [yai,e1,e2,yin,← hd,en,ep]
 refine ⟨by unfold inI; omega,by unfold inI; omega,by unfold inI; omega,by omega,by omega,by unfold inI; omega,fun hdm=>?_,fun hdm=>?_⟩
 case' refine_1 =>
  obtain ⟨z1,er⟩:=hs1 hdm
  have es : ((n : Int) - b) = (s0 : Int):=by omega
  refine ⟨by unfold inI; omega,by unfold inI; omega,?_⟩
  refine yw (ι:=Nat × Nat) (fun z=>s0 ≤ z.1 ∧ z.1 ≤ z.2 ∧ z.2 ≤ r0 ∧ ynT cmp M0 n s0 z.1 ∧ ynK cmp M0 p r0 z.2) (fun z=>yaV [(0,.own 0 1 N),(1,.c (.i a)),(2,.c (.i m)),(3,.c (.i b)),(4,.fn f [.elt ca,.elt cb]),(18,.c (.i d)),(19,.c (.i n)),(20,.c (.i z.1)),(21,.c (.i z.2)),(22,.c (.i p)),(1000000,.own 0 1 N)] [(0,.row 1 (M0.map yh))]) (fun z=>z.2 - z.1) (s0,r0) ⟨Nat.le_refl _,F1,Nat.le_refl _,.inl rfl,.inl rfl⟩ (by apply yD <;> simp [AV.yc,AV.yJ,Obj.yc,hN,es,er]) ?_
 case' refine_2 =>
  obtain ⟨es,er⟩:=hs2 hdm
  refine ⟨by unfold inI; omega,?_⟩
  refine yw (ι:=Nat × Nat) (fun z=>s0 ≤ z.1 ∧ z.1 ≤ z.2 ∧ z.2 ≤ r0 ∧ ynT cmp M0 n s0 z.1 ∧ ynK cmp M0 p r0 z.2) (fun z=>yaV [(0,.own 0 1 N),(1,.c (.i a)),(2,.c (.i m)),(3,.c (.i b)),(4,.fn f [.elt ca,.elt cb]),(18,.c (.i d)),(19,.c (.i n)),(20,.c (.i z.1)),(21,.c (.i z.2)),(22,.c (.i p)),(1000000,.own 0 1 N)] [(0,.row 1 (M0.map yh))]) (fun z=>z.2 - z.1) (s0,r0) ⟨Nat.le_refl _,F1,Nat.le_refl _,.inl rfl,.inl rfl⟩ (by apply yD <;> simp [AV.yc,AV.yJ,Obj.yc,hN,es,er]) ?_
 all_goals
  rintro ⟨s,e⟩ ⟨b1,b2,b3,b4,b5⟩
  simp only at b1 b2 b3 b4 b5
  rcases Nat.lt_or_ge s e with hlt | hge
  ·obtain ⟨k,hk⟩ : ∃ k,k = (s + e) / 2:=⟨_,rfl⟩
   obtain ⟨q,hq⟩ : ∃ q,q = p - k:=⟨_,rfl⟩
   have eq : ((p : Int) - k) = (q : Int):=by omega
   obtain ⟨u,hu⟩ : ∃ u,l[k - a]? = some u:=⟨_,List.getElem?_eq_getElem (by omega)⟩
   obtain ⟨v,hv⟩ : ∃ v,r[q - m]? = some v:=⟨_,List.getElem?_eq_getElem (by omega)⟩
   have wu : M0[k]? = some u:=by rw [h0,yiF (t:=k - a) (by omega) (by omega)]; exact hu
   have wv : M0[q]? = some v:=by rw [h0,yje (t:=q - m) (by omega) (by omega)]; exact hv
   have vu:=(List.getElem?_eq_some_iff.1 wu).2
   have vv:=(List.getElem?_eq_some_iff.1 wv).2
   have ku : k < N:=by rw [hN]; exact (List.getElem?_eq_some_iff.1 wu).1
   have kv : q < N:=by rw [hN]; exact (List.getElem?_eq_some_iff.1 wv).1
   have uS:=g.sl u (List.mem_of_getElem? hu)
   have vS:=g.sr v (List.mem_of_getElem? hv)
   simp -dsimp -implicitDefEqProofs [yaT hlt,yin,← hk,eq,wu,vu,ku,wv,vv,kv,yh]
   refine ⟨by unfold inI; omega,by omega,by omega,by unfold inI; omega,by omega,by omega,hf',?_⟩
   refine ⟨_,_,hc v u vS uS,by simp,.inr rfl,?_⟩
   simp -dsimp -implicitDefEqProofs
   refine ⟨fun hcm=>?_,fun hcm=>?_⟩
   ·have hcf : yj cmp v u = false:=by simpa [yj] using hcm
    refine ⟨by unfold inI; omega,k + 1,e,⟨by omega,by omega,b3,.inr ⟨u,v,wu,by rw [show n - (k + 1) = q by omega]; exact wv,hcf⟩,b5⟩,by omega,?_⟩
    apply yD <;> simp [AV.yc,AV.yJ,Obj.yc]
   ·have hcf : yj cmp v u = true:=by simpa [yj] using hcm
    refine ⟨s,k,⟨b1,by omega,by omega,b4,.inr ⟨u,v,wu,by rw [← hq]; exact wv,hcf⟩⟩,by omega,?_⟩
    apply yD <;> simp [AV.yc,AV.yJ,Obj.yc]
  ·have hse : s = e:=by omega
   subst hse
   obtain ⟨z,hz⟩ : ∃ z,z = n - s:=⟨_,rfl⟩
   have ez : ((n : Int) - s) = (z : Int):=by omega
   obtain ⟨l1,l2,r1,r2,o1,o2,Mr,M2,p1⟩:=yov h g hd hn' hp F1 F2 F3 F4 F5 F6 F7 b1 b3 b4 b5 hz hl2 hr2
   obtain ⟨hmr,hm2,hL1,hL2,hR1,hR2,hmr1,hmg1,hmg2,n1,n2,n3⟩:=p1
   have hrot:=fun (c1 : s < m) (c2 : m < z)=>ytL (A ++ l1) l2 r1 (r2 ++ B) M0 Mr hmr1.1 hmr1.2 s m z N (by omega) (by omega) (by simp; omega) (by omega) (by omega) hN hn f ca cb
   have hm1:=fun c1 c2=>ih _ _ _ _ _ _ _ _ _ _ (by omega) (hmg1 c1 c2)
   have hm2':=fun c1 c2=>ih _ _ _ _ _ _ _ _ _ _ (by omega) (hmg2 c1 c2)
   clear hmg1 hmg2 ih
   have lr : (Mr.map yh).length = N:=by rw [List.length_map,hmr]
   have l0 : (M0.map yh).length = N:=by rw [List.length_map,hN]
   have lm2 : (M2.map yh).length = N:=by rw [List.length_map,hm2]
   have lm1 : (M1.map yh).length = N:=by rw [List.length_map,hL]
   cases hb1 : decide (s < m) <;> cases hb2 : decide (m < z) <;> cases hb5 : decide (a < s) <;> cases hb6 : decide (z < b)
   all_goals
    have hb3 : decide (s < d) = decide (m < z):=decide_eq_decide.2 (by omega)
    have hb4 : decide (d < z) = decide (s < m):=decide_eq_decide.2 (by omega)
    rw [hb2] at hb3
    rw [hb1] at hb4
    have c1:=hb1
    have c2:=hb2
    have c5:=hb5
    have c6:=hb6
    simp only [decide_eq_true_eq,decide_eq_false_iff_not,Nat.not_lt] at c1 c2 c5 c6
    first
     | (exfalso; omega)
     | skip
   all_goals
    try rw [n1 (by omega)]
    simp -dsimp -implicitDefEqProofs [ez,hb1,hb2,hb3,hb4,hb5,hb6]
    refine ⟨by unfold inI; omega,?_⟩
    try
     refine yaZ (up:=some (0,.row 1 (Mr.map yh))) (hrot c1 c2) (by simp) rfl rfl (ybG (rows:=M0.map yh) (by simp) rfl rfl (by simp [l0]) (by simp [l0,lr]) rfl rfl) ?_
     simp -dsimp -implicitDefEqProofs [hb1,hb2,hb3,hb4,hb5,hb6]
    try rw [n2 (by omega)]
    try
     refine yaZ (up:=some (0,.row 1 (M2.map yh))) (hm1 c5 c2) (by simp) rfl rfl (ybG (rows:=Mr.map yh) (by simp) rfl rfl (by simp [lr]) (by simp [lm2,lr]) rfl rfl) ?_
     simp -dsimp -implicitDefEqProofs [hb1,hb2,hb3,hb4,hb5,hb6]
    try rw [n3 (by omega)]
    try
     refine yaZ (up:=some (0,.row 1 (M1.map yh))) (hm2' c1 c6) (by simp) rfl rfl (ybG (rows:=M2.map yh) (by simp) rfl rfl (by simp [lm2]) (by simp [lm2,lm1]) rfl rfl) ?_
     simp -dsimp -implicitDefEqProofs [hb1,hb2,hb3,hb4,hb5,hb6]
    exact ⟨by rw [List.take_of_length_le (by rw [lm1]; exact Nat.le_refl _)],by simp [ydZ]⟩
theorem ynb (h : SWO (yj cmp) S) (hf : ∃ fn,Try.prog.funcs[f]? = some fn ∧ fn.body.isSome = true ∧ (fn.name != "runtime.NumGoroutine") = true)
 (hc : ∀ x y : Nat,S x → S y → yR Try.prog f [.c (.i x),.c (.i y),.elt ca,.elt cb] (.c (.i (cmp x y)))) {N : Nat} : ∀ (k : Nat) (A l r B o M0 M1 : List Nat) (a m b : Nat),l.length + r.length ≤ k → MG (yj cmp) S A l r B o M0 M1 a m b N →
 InF Try.prog yu (.c (cw 1 (M0.map yh))) (.c (cw 1 (M1.map yh))) [.c (.i a),.c (.i m),.c (.i b),.fn f [.elt ca,.elt cb]] (.tup [])
 | 0,A,l,r,B,o,M0,M1,a,m,b,hk,g=>by have:=g.pl; omega
 | k + 1,A,l,r,B,o,M0,M1,a,m,b,hk,g=>by
  have pl:=g.pl; have pr:=g.pr
  rcases Nat.lt_or_ge l.length 2 with e | e
  ·obtain ⟨x,rfl⟩:=List.length_eq_one_iff.1 (show l.length = 1 by omega)
   exact yoK h hf hc g
  rcases Nat.lt_or_ge r.length 2 with e2 | e2
  ·obtain ⟨y,rfl⟩:=List.length_eq_one_iff.1 (show r.length = 1 by omega)
   exact ymV h hf hc e g
  exact yqD h hf hc e e2 g fun A' l' r' B' o' M0' M1' a' m' b' hk' g'=>ynb h hf hc k A' l' r' B' o' M0' M1' a' m' b' (by omega) g'
end
def bl (lt : Nat → Nat → Bool) (s : Nat) : Nat → List Nat → List Nat
 | 0,_=>[]
 | k + 1,l=>sorted lt (l.take s) ++ bl lt s k (l.drop s)
def blk (lt : Nat → Nat → Bool) (s : Nat) (l : List Nat) : List Nat:=bl lt s l.length l
section
variable {lt : Nat → Nat → Bool} {s : Nat}
theorem ygI : ∀ k : Nat,bl lt s k [] = []
 | 0=>rfl
 | k + 1=>by simp [bl,ygI k,sorted,ydt]
theorem yll (hs : 1 ≤ s) : ∀ (k k' : Nat) (l : List Nat),l.length ≤ k → l.length ≤ k' → bl lt s k l = bl lt s k' l
 | 0,k',l,h,_=>by
  rw [List.length_eq_zero_iff.1 (show l.length = 0 by omega),ygI,ygI]
 | k + 1,0,l,_,h=>by rw [List.length_eq_zero_iff.1 (show l.length = 0 by omega),ygI,ygI]
 | k + 1,k' + 1,l,h,h'=>by
  rcases Nat.eq_zero_or_pos l.length with e | e
  ·rw [List.length_eq_zero_iff.1 e,ygI,ygI]
  ·unfold bl
   rw [yll hs k k' (l.drop s) (by rw [List.length_drop]; omega) (by rw [List.length_drop]; omega)]
theorem yd5 (hs : 1 ≤ s) (l : List Nat) : blk lt s l = sorted lt (l.take s) ++ blk lt s (l.drop s):=by
 rcases Nat.eq_zero_or_pos l.length with e | e
 ·rw [List.length_eq_zero_iff.1 e]; simp [blk,bl,sorted,ydt]
 ·unfold blk
  rw [yll hs l.length ((l.length - 1) + 1) l (by omega) (by omega)]
  show sorted lt (l.take s) ++ bl lt s (l.length - 1) (l.drop s) = _
  rw [yll hs (l.length - 1) (l.drop s).length (l.drop s) (by rw [List.length_drop]; omega) (Nat.le_refl _)]
theorem yhp (hs : 1 ≤ s) {l : List Nat} (h : l.length ≤ s) : blk lt s l = sorted lt l:=by
 rw [yd5 hs,List.take_of_length_le h,List.drop_of_length_le h]
 simp [blk,bl]
theorem yd7 (hs : 1 ≤ s) : ∀ (q : Nat) (u v : List Nat),u.length = q * s → v.length ≤ s → blk lt s (u ++ v) = blk lt s u ++ sorted lt v
 | 0,u,v,h,hv=>by
  rw [List.length_eq_zero_iff.1 (show u.length = 0 by omega),List.nil_append,yhp hs hv]; rfl
 | q + 1,u,v,h,hv=>by
  rw [Nat.succ_mul] at h
  rw [yd5 hs (u ++ v),yd5 hs u,List.take_append_of_le_length (by omega),List.drop_append_of_le_length (by omega),yd7 hs q (u.drop s) v (by rw [List.length_drop]; omega) hv,List.append_assoc]
theorem ydE (hs : 1 ≤ s) : ∀ (k : Nat) (l : List Nat),l.length ≤ k → (blk lt s l).length = l.length
 | 0,l,h=>by rw [List.length_eq_zero_iff.1 (show l.length = 0 by omega)]; rfl
 | k + 1,l,h=>by
  rcases Nat.eq_zero_or_pos l.length with e | e
  ·rw [List.length_eq_zero_iff.1 e]; rfl
  ·rw [yd5 hs,List.length_append,sorted_perm.length_eq,ydE hs k (l.drop s) (by rw [List.length_drop]; omega),List.length_take,List.length_drop]; omega
end
section
variable {cmp : Nat → Nat → Int} {S : Nat → Prop} {f : Nat} {ca cb : List C}
def yfh (lt : Nat → Nat → Bool) (xs : List Nat) (a : Nat) : List Nat:=blk lt 20 (xs.take a) ++ xs.drop a
def yfG (lt : Nat → Nat → Bool) (s : Nat) (xs : List Nat) (a : Nat) : List Nat:=blk lt (2 * s) (xs.take a) ++ blk lt s (xs.drop a)
theorem yfr {lt : Nat → Nat → Bool} {xs : List Nat} {a : Nat} : (yfh lt xs a).length = xs.length:=by
 unfold yfh; rw [List.length_append,ydE (by omega) _ _ (Nat.le_refl _),List.length_take,List.length_drop]; omega
theorem yiX {lt : Nat → Nat → Bool} {s : Nat} {xs : List Nat} {a : Nat} (hs : 1 ≤ s) : (yfG lt s xs a).length = xs.length:=by
 unfold yfG; rw [List.length_append,ydE (by omega) _ _ (Nat.le_refl _),ydE hs _ _ (Nat.le_refl _),List.length_take,List.length_drop]; omega
theorem yoz {lt : Nat → Nat → Bool} {xs : List Nat} {a q : Nat} (ha : a = q * 20) (h : a + 20 ≤ xs.length) :
 yfh lt xs a = yao (blk lt 20 (xs.take a)) ((xs.drop a).take 20) (xs.drop (a + 20)) ∧ yfh lt xs (a + 20) = yao (blk lt 20 (xs.take a)) (sorted lt ((xs.drop a).take 20)) (xs.drop (a + 20)):=by
 have e : xs.take (a + 20) = xs.take a ++ (xs.drop a).take 20:=List.take_add
 refine ⟨?_,?_⟩
 ·unfold yfh yao
  congr 1
  rw [← List.drop_drop,List.take_append_drop]
 ·unfold yfh yao
  rw [e,yd7 (by omega) q _ _ (by rw [List.length_take]; omega) (by rw [List.length_take]; omega),List.append_assoc]
theorem ypi {lt : Nat → Nat → Bool} {xs : List Nat} {a q : Nat} (ha : a = q * 20) (h : a ≤ xs.length) (h2 : xs.length < a + 20) :
 yfh lt xs a = yao (blk lt 20 (xs.take a)) (xs.drop a) [] ∧ blk lt 20 xs = yao (blk lt 20 (xs.take a)) (sorted lt (xs.drop a)) []:=by
 refine ⟨by simp [yfh,yao],?_⟩
 conv=>lhs; rw [← List.take_append_drop a xs]
 rw [yd7 (by omega) q _ _ (by rw [List.length_take]; omega) (by rw [List.length_drop]; omega)]
 simp [yao]
theorem ykv (h : SWO (yj cmp) S) {xs : List Nat} (hS : ∀ x ∈ xs,S x) (hup : xs.Pairwise (·< ·)) {a q s N : Nat} (hs : 1 ≤ s) (ha : a = q * (2 * s)) {b : Nat} (hb : b = if a + 2 * s ≤ xs.length then a + 2 * s else xs.length) (h2 : a + s < xs.length) (hN : N = xs.length) (hn : N ≤ 1048576) :
 MG (yj cmp) S (blk (yj cmp) (2 * s) (xs.take a)) (sorted (yj cmp) ((xs.drop a).take s)) (sorted (yj cmp) ((xs.drop (a + s)).take s)) (blk (yj cmp) s (xs.drop (a + 2 * s))) (sorted (yj cmp) ((xs.drop a).take (2 * s)))
  (yfG (yj cmp) s xs a) (if a + 2 * s ≤ xs.length then yfG (yj cmp) s xs (a + 2 * s) else blk (yj cmp) (2 * s) xs) a (a + s) b N:=by
 have lA : (blk (yj cmp) (2 * s) (xs.take a)).length = a:=by rw [ydE (by omega) _ _ (Nat.le_refl _),List.length_take]; omega
 have l1 : ((xs.drop a).take s).length = s:=by rw [List.length_take,List.length_drop]; omega
 have l2 : ((xs.drop (a + s)).take s).length = b - (a + s):=by rw [List.length_take,List.length_drop,hb]; split <;> omega
 have hb2 : a + s < b:=by rw [hb]; split <;> omega
 have e2 : (xs.drop a).take (2 * s) = (xs.drop a).take s ++ (xs.drop (a + s)).take s:=by
  rw [show 2 * s = s + s by omega,List.take_add,List.drop_drop]
 have sub : ∀ {l : List Nat},l.Sublist xs → (∀ x ∈ l,S x) ∧ l.Pairwise (·< ·):=fun hl=>⟨fun x hx=>hS x (hl.subset hx),hup.sublist hl⟩
 have c1:=sub ((List.take_sublist s (xs.drop a)).trans (List.drop_sublist a xs))
 have c2:=sub ((List.take_sublist s (xs.drop (a + s))).trans (List.drop_sublist (a + s) xs))
 have c3:=sub ((List.take_sublist (2 * s) (xs.drop a)).trans (List.drop_sublist a xs))
 have p1:=sorted_perm (lt:=yj cmp) (xs:=(xs.drop a).take s)
 have p2:=sorted_perm (lt:=yj cmp) (xs:=(xs.drop (a + s)).take s)
 have p3:=sorted_perm (lt:=yj cmp) (xs:=(xs.drop a).take (2 * s))
 have hM0 : yfG (yj cmp) s xs a = yaz (blk (yj cmp) (2 * s) (xs.take a)) (sorted (yj cmp) ((xs.drop a).take s)) (sorted (yj cmp) ((xs.drop (a + s)).take s)) (blk (yj cmp) s (xs.drop (a + 2 * s))):=by
  unfold yfG yaz
  rw [yd5 hs (xs.drop a),List.drop_drop,yd5 hs (xs.drop (a + s)),List.drop_drop,show a + s + s = a + 2 * s by omega]
 have c3u:=c3.2
 rw [e2,List.pairwise_append] at c3u
 refine ⟨by rw [p1.length_eq]; omega,by rw [p2.length_eq]; omega,fun x hx=>c1.1 x (p1.mem_iff.1 hx),fun x hx=>c2.1 x (p2.mem_iff.1 hx),ygo h c1.1 c1.2,ygo h c2.1 c2.2,fun x hx y hy=>c3u.2.2 x (p1.mem_iff.1 hx) y (p2.mem_iff.1 hy),?_,ygo h c3.1 c3.2,lA.symm,by rw [p1.length_eq,l1],by rw [p2.length_eq,l2]; omega,hM0,?_,by rw [yiX hs]; exact hN,hn⟩
 ·refine p3.trans ?_
  rw [e2]
  exact (p1.append p2).symm
 ·split
  ·rename_i hle
   unfold yfG yao
   rw [show xs.take (a + 2 * s) = xs.take a ++ (xs.drop a).take (2 * s) from List.take_add,yd7 (by omega) q _ _ (by rw [List.length_take]; omega) (by rw [List.length_take]; omega),List.append_assoc]
  ·rename_i hle
   have e3 : (xs.drop a).take (2 * s) = xs.drop a:=List.take_of_length_le (by rw [List.length_drop]; omega)
   rw [e3,show xs.drop (a + 2 * s) = [] from List.drop_of_length_le (by omega)]
   conv=>lhs; rw [← List.take_append_drop a xs]
   rw [yd7 (by omega) q _ _ (by rw [List.length_take]; omega) (by rw [List.length_drop]; omega)]
   simp [yao,blk,bl]
theorem yqr {lt : Nat → Nat → Bool} {xs : List Nat} {a q s : Nat} (hs : 1 ≤ s) (ha : a = q * (2 * s)) (h1 : a ≤ xs.length) (h2 : xs.length ≤ a + s) : yfG lt s xs a = blk lt (2 * s) xs:=by
 unfold yfG
 conv=>rhs; rw [← List.take_append_drop a xs]
 rw [yd7 (by omega) q _ _ (by rw [List.length_take]; omega) (by rw [List.length_drop]; omega),yhp hs (by rw [List.length_drop]; omega)]
theorem yoy (h : SWO (yj cmp) S) (hf : ∃ fn,Try.prog.funcs[f]? = some fn ∧ fn.body.isSome = true ∧ (fn.name != "runtime.NumGoroutine") = true)
 (hc : ∀ x y : Nat,S x → S y → yR Try.prog f [.c (.i x),.c (.i y),.elt ca,.elt cb] (.c (.i (cmp x y)))) (xs : List Nat) (hS : ∀ x ∈ xs,S x) (hup : xs.Pairwise (·< ·)) (N : Nat) (hN : N = xs.length) (hn1 : 1 ≤ N) (hn2 : N ≤ 1048576) :
 InF Try.prog yaq (.c (cw 1 (xs.map yh))) (.c (cw 1 ((sorted (yj cmp) xs).map yh))) [.c (.i N),.fn f [.elt ca,.elt cb]] (.tup []):=by
 have hpl : (sorted (yj cmp) xs).length = xs.length:=sorted_perm.length_eq
 rw [ybe (by simp; omega),ybe (by rw [List.length_map,hpl]; omega)]
 refine yfi ybg (by simp) (by simp) rfl fun hwf=>?_
 have i0 : yfh (yj cmp) xs 0 = xs:=by simp [yfh,blk,bl]
 simp -dsimp -implicitDefEqProofs [yaF]
 refine yw (ι:=Nat × Nat × Nat) (fun z=>z.1 = z.2.2 * 20 ∧ z.2.1 = z.1 + 20 ∧ z.1 ≤ N) (fun z=>yaV [(0,.own 0 1 N),(1,.c (.i N)),(2,.fn f [.elt ca,.elt cb]),(6,.c (.i 20)),(7,.c (.i z.1)),(8,.c (.i z.2.1)),(1000000,.own 0 1 N)] [(0,.row 1 ((yfh (yj cmp) xs z.1).map yh))]) (fun z=>N - z.1) (0,20,0) ⟨rfl,rfl,Nat.zero_le _⟩ (by apply yD <;> simp [AV.yc,AV.yJ,Obj.yc,hN,i0]) ?_
 rintro ⟨a,b,q⟩ ⟨h1,h2,h3⟩
 simp only at h1 h2 h3
 have lA : (blk (yj cmp) 20 (xs.take a)).length = a:=by rw [ydE (by omega) _ _ (Nat.le_refl _),List.length_take]; omega
 rcases Nat.lt_or_ge N b with hlt | hge
 ·have q1 : ((b : Int) ≤ (N : Int)) = False:=by simp; omega
  have q1' : (b ≤ N) = False:=by simp; omega
  obtain ⟨e1,e2⟩:=ypi (lt:=yj cmp) (xs:=xs) h1 (by omega) (by omega)
  have hi:=yjm cmp _ _ _ _ _ e1 e2 a N N lA.symm (by rw [List.length_drop]; omega) (by rw [yfr]; exact hN) hn1 hn2 f ca cb hf (fun x y hx hy=>hc x y (hS x (List.mem_of_mem_drop hx)) (hS y (List.mem_of_mem_drop hy)))
  have lb : (blk (yj cmp) 20 xs).length = N:=by rw [ydE (by omega) _ _ (Nat.le_refl _)]; exact hN.symm
  have ls : (yfh (yj cmp) xs a).length = N:=by rw [yfr]; exact hN.symm
  simp -dsimp -implicitDefEqProofs [q1,q1']
  refine yaZ (up:=some (0,.row 1 ((blk (yj cmp) 20 xs).map yh))) hi (by simp) rfl rfl (ybG (rows:=(yfh (yj cmp) xs a).map yh) (by simp) rfl rfl (by simp [ls]) (by simp [ls,lb]) rfl rfl) ?_
  simp -dsimp -implicitDefEqProofs
  refine yw (ι:=Nat) (fun s=>20 ≤ s ∧ s ≤ 2 * N + 20) (fun s=>yaV [(0,.own 0 1 N),(1,.c (.i N)),(2,.fn f [.elt ca,.elt cb]),(6,.c (.i s)),(1000000,.own 0 1 N)] [(0,.row 1 ((blk (yj cmp) s xs).map yh))]) (fun s=>N - s) 20 ⟨Nat.le_refl _,by omega⟩ (by apply yD <;> simp [AV.yc,AV.yJ,Obj.yc]) ?_
  rintro s ⟨s1,s2⟩
  rcases Nat.lt_or_ge s N with slt | sge
  ·obtain ⟨t,ht⟩ : ∃ t,t = 2 * s:=⟨_,rfl⟩
   have et : 2 * (s : Int) = (t : Int):=by omega
   have et2 : (s : Int) * 2 = (t : Int):=by omega
   have i2 : yfG (yj cmp) s xs 0 = blk (yj cmp) s xs:=by simp [yfG,blk,bl]
   simp -dsimp -implicitDefEqProofs [yaT slt,et]
   refine ⟨by unfold inI; omega,?_⟩
   refine yw (ι:=Nat × Nat × Nat) (fun z=>z.1 = z.2.2 * (2 * s) ∧ z.2.1 = z.1 + 2 * s ∧ z.1 ≤ N) (fun z=>yaV [(0,.own 0 1 N),(1,.c (.i N)),(2,.fn f [.elt ca,.elt cb]),(6,.c (.i s)),(7,.c (.i z.1)),(8,.c (.i z.2.1)),(1000000,.own 0 1 N)] [(0,.row 1 ((yfG (yj cmp) s xs z.1).map yh))]) (fun z=>N - z.1) (0,t,0) ⟨by simp,by simp only; omega,Nat.zero_le _⟩ (by apply yD <;> simp [AV.yc,AV.yJ,Obj.yc,i2]) ?_
   rintro ⟨a,b,q⟩ ⟨h1,h2,h3⟩
   simp only at h1 h2 h3
   obtain ⟨m,hm⟩ : ∃ m,m = a + s:=⟨_,rfl⟩
   have em : ((a : Int) + s) = (m : Int):=by omega
   have ls : (yfG (yj cmp) s xs a).length = N:=by rw [yiX (by omega)]; exact hN.symm
   have lb : (blk (yj cmp) t xs).length = N:=by rw [ydE (by omega) _ _ (Nat.le_refl _)]; exact hN.symm
   rcases Nat.lt_or_ge N b with blt | bge
   ·have q2 : ((b : Int) ≤ (N : Int)) = False:=by simp; omega
    have q2' : (b ≤ N) = False:=by simp; omega
    rcases Nat.lt_or_ge m N with mlt | mge
    ·have g:=ykv h hS hup (by omega) h1 (b:=N) (N:=N) (by rw [if_neg (by omega)]; exact hN) (by omega) hN hn2
     rw [if_neg (by omega),← hm,← ht] at g
     have hms:=ynb h hf hc _ _ _ _ _ _ _ _ _ _ _ (Nat.le_refl _) g
     simp -dsimp -implicitDefEqProofs [q2,q2',em,yaT mlt]
     refine ⟨by unfold inI; omega,?_⟩
     refine yaZ (up:=some (0,.row 1 ((blk (yj cmp) t xs).map yh))) hms (by simp) rfl rfl (ybG (rows:=(yfG (yj cmp) s xs a).map yh) (by simp) rfl rfl (by simp [ls]) (by simp [ls,lb]) rfl rfl) ?_
     simp -dsimp -implicitDefEqProofs [et2]
     refine ⟨by unfold inI; omega,t,⟨by omega,by omega⟩,by omega,?_⟩
     apply yD <;> simp [AV.yc,AV.yJ,Obj.yc]
    ·have e:=yqr (lt:=yj cmp) (xs:=xs) (s:=s) (by omega) h1 (by omega) (by omega)
     rw [← ht] at e
     rw [e]
     simp -dsimp -implicitDefEqProofs [q2,q2',em,ycC mge,et2]
     refine ⟨by unfold inI; omega,by unfold inI; omega,t,⟨by omega,by omega⟩,by omega,?_⟩
     apply yD <;> simp [AV.yc,AV.yJ,Obj.yc]
   ·have q2 : ((b : Int) ≤ (N : Int)) = True:=by simp; omega
    have q2' : (b ≤ N) = True:=by simp; omega
    have g:=ykv h hS hup (by omega) h1 (b:=b) (N:=N) (by rw [if_pos (by omega)]; exact h2) (by omega) hN hn2
    rw [if_pos (by omega),← hm,← h2] at g
    have hms:=ynb h hf hc _ _ _ _ _ _ _ _ _ _ _ (Nat.le_refl _) g
    have ls2 : (yfG (yj cmp) s xs b).length = N:=by rw [yiX (by omega)]; exact hN.symm
    obtain ⟨b2,hb2⟩ : ∃ b2,b2 = b + t:=⟨_,rfl⟩
    have eb2 : ((b : Int) + t) = (b2 : Int):=by omega
    simp -dsimp -implicitDefEqProofs [q2,q2',em]
    refine ⟨by unfold inI; omega,?_⟩
    refine yaZ (up:=some (0,.row 1 ((yfG (yj cmp) s xs b).map yh))) hms (by simp) rfl rfl (ybG (rows:=(yfG (yj cmp) s xs a).map yh) (by simp) rfl rfl (by simp [ls]) (by simp [ls,ls2]) rfl rfl) ?_
    simp -dsimp -implicitDefEqProofs [et,eb2]
    refine ⟨by unfold inI; omega,by unfold inI; omega,b,b2,⟨⟨q + 1,by rw [Nat.succ_mul]; omega⟩,by omega,bge⟩,by omega,?_⟩
    apply yD <;> simp [AV.yc,AV.yJ,Obj.yc]
  ·have e : blk (yj cmp) s xs = sorted (yj cmp) xs:=yhp (by omega) (by omega)
   rw [e]
   simp -dsimp -implicitDefEqProofs [ycC sge]
   exact ⟨by rw [List.take_of_length_le (by rw [List.length_map,hpl]; omega)],by simp [ydZ]⟩
 ·have q1 : ((b : Int) ≤ (N : Int)) = True:=by simp; omega
  have q1' : (b ≤ N) = True:=by simp; omega
  obtain ⟨e1,e2⟩:=yoz (lt:=yj cmp) (xs:=xs) h1 (by omega)
  rw [← h2] at e1 e2
  have hi:=yjm cmp _ _ _ _ _ e1 e2 a b N lA.symm (by rw [List.length_take,List.length_drop]; omega) (by rw [yfr]; exact hN) hn1 hn2 f ca cb hf (fun x y hx hy=>hc x y (hS x (List.mem_of_mem_drop (List.mem_of_mem_take hx))) (hS y (List.mem_of_mem_drop (List.mem_of_mem_take hy))))
  have ls : (yfh (yj cmp) xs a).length = N:=by rw [yfr]; exact hN.symm
  have lb : (yfh (yj cmp) xs b).length = N:=by rw [yfr]; exact hN.symm
  obtain ⟨b2,hb2⟩ : ∃ b2,b2 = b + 20:=⟨_,rfl⟩
  have eb2 : ((b : Int) + 20) = (b2 : Int):=by omega
  simp -dsimp -implicitDefEqProofs [q1,q1']
  refine yaZ (up:=some (0,.row 1 ((yfh (yj cmp) xs b).map yh))) hi (by simp) rfl rfl (ybG (rows:=(yfh (yj cmp) xs a).map yh) (by simp) rfl rfl (by simp [ls]) (by simp [ls,lb]) rfl rfl) ?_
  simp -dsimp -implicitDefEqProofs [eb2]
  refine ⟨by unfold inI; omega,b,b2,⟨⟨q + 1,by rw [Nat.succ_mul]; omega⟩,by omega,hge⟩,by omega,?_⟩
  apply yD <;> simp [AV.yc,AV.yJ,Obj.yc]
theorem yrJ (h : SWO (yj cmp) S) (hf : ∃ fn,Try.prog.funcs[f]? = some fn ∧ fn.body.isSome = true ∧ (fn.name != "runtime.NumGoroutine") = true)
 (hc : ∀ x y : Nat,S x → S y → yR Try.prog f [.c (.i x),.c (.i y),.elt ca,.elt cb] (.c (.i (cmp x y)))) (xs : List Nat) (hS : ∀ x ∈ xs,S x) (hup : xs.Pairwise (·< ·)) (hn1 : 1 ≤ xs.length) (hn2 : xs.length ≤ 1048576) :
 InF Try.prog yL (.c (cw 1 (xs.map yh))) (.c (cw 1 ((sorted (yj cmp) xs).map yh))) [.fn f [.elt ca,.elt cb]] (.tup []):=by
 have hpl : (sorted (yj cmp) xs).length = xs.length:=sorted_perm.length_eq
 have hi:=yoy h hf hc xs hS hup xs.length rfl hn1 hn2
 have hcw : cw 1 ((sorted (yj cmp) xs).map yh) = .ow 1 ((sorted (yj cmp) xs).map yh):=ybe (by rw [List.length_map,hpl]; omega)
 have hcw0 : cw 1 (xs.map yh) = .ow 1 (xs.map yh):=ybe (by simp; omega)
 rw [hcw,hcw0]
 refine yfi yaJ (by simp) (by simp) rfl fun hwf=>?_
 simp -dsimp -implicitDefEqProofs [yal]
 intro _
 refine yaZ (up:=some (0,.row 1 ((sorted (yj cmp) xs).map yh))) hi (by simp) rfl rfl (ybG (rows:=xs.map yh) (by simp) rfl rfl (by simp) (by simp [hpl]) rfl rfl) ?_
 simp -dsimp -implicitDefEqProofs
 exact ⟨by rw [List.take_of_length_le (by rw [List.length_map,hpl]; exact Nat.le_refl _)],by simp [ydZ]⟩
end
def yh6 (list : List CallT) (i : Nat) : Bool:=(list[i]?.map fun c=>c.Train.Up).getD false
theorem ygV {list : List CallT} {i : Nat} {c : CallT} (h : list[i]? = some c) : yh6 list i = c.Train.Up:=by simp [yh6,h]
def yel (list : List CallT) (o : List Nat) (t : Turn) : Bool :=
 if yh6 list (o[0]?.getD 0) ≠ t.Up ∨ t.Count < 3 then yh6 list (o[0]?.getD 0)
 else if o.all fun i=>yh6 list i == yh6 list (o[0]?.getD 0) then yh6 list (o[0]?.getD 0) else !(yh6 list (o[0]?.getD 0))
def yct (list : List CallT) (t : Turn) (now : Int) : Bool × Bool :=
 if (ybf list now).length = 0 ∨ ygw t = false then (false,false) else (yel list (ybf list now) t,true)
theorem ylK {list : List CallT} {now : Int} : ∀ x ∈ ybf list now,x < list.length:=fun x hx=>ykt (sorted_perm.mem_iff.1 hx)
theorem yky {list : List CallT} {now : Int} : (ybf list now).length ≤ list.length:=by
 unfold ybf; rw [sorted_perm.length_eq]; exact ygC
def ylI (a1 a2 a3 a4 b1 b2 b3 b4 : Int) : Prop:=a1 < b1 ∨ (a1 = b1 ∧ (a2 < b2 ∨ (a2 = b2 ∧ (a3 < b3 ∨ (a3 = b3 ∧ a4 < b4)))))
def bkey (a : CallT) (now : Int) : Int:=if yC a now = -1 then a.Booked else 0
theorem ybp {a b : CallT} {now : Int} (ha : yC a now ≠ 3) (hb : yC b now ≠ 3) :
 before a b now = true ↔ ylI (yC a now) (bkey a now) a.Since ((ybl a.Train)[0]?.getD 0) (yC b now) (bkey b now) b.Since ((ybl b.Train)[0]?.getD 0):=by
 unfold before ylI bkey
 rw [if_neg (by simp [ha,hb])]
 generalize yC a now = r at *
 generalize yC b now = r' at *
 generalize (ybl a.Train)[0]?.getD 0 = i
 generalize (ybl b.Train)[0]?.getD 0 = i'
 by_cases h1 : r = r'
 ·subst h1
  rw [if_neg (by simp)]
  by_cases h2 : r = -1
  ·rw [if_pos h2,if_pos h2]
   by_cases h3 : a.Booked = b.Booked
   ·rw [if_neg (by simp [h3])]
    split <;> simp only [decide_eq_true_eq,true_and] <;> constructor <;> intro h <;> (refine Classical.byContradiction fun hn=>?_) <;> omega
   ·rw [if_pos ⟨h2,h3⟩]; simp only [decide_eq_true_eq,true_and]; constructor <;> intro h <;> (refine Classical.byContradiction fun hn=>?_) <;> omega
  ·rw [if_neg h2,if_neg h2,if_neg (by simp [h2])]
   split <;> simp only [decide_eq_true_eq,true_and] <;> constructor <;> intro h <;> (refine Classical.byContradiction fun hn=>?_) <;> omega
 ·rw [if_pos h1]; simp only [decide_eq_true_eq,true_and]; constructor <;> intro h <;> (refine Classical.byContradiction fun hn=>?_) <;> omega
def ysp (list : List CallT) (now : Int) (x : Nat) : Prop:=∃ c,list[x]? = some c ∧ yC c now ≠ 3
theorem yaE {list : List CallT} {now : Int} {x y : Nat} {a b : CallT} (ha : list[x]? = some a) (hb : list[y]? = some b) : yj (yig list now) x y = before a b now:=by
 unfold yj yig
 rw [ha,hb]
 simp only
 by_cases h1 : before a b now = true
 ·simp [h1]
 ·by_cases h2 : before b a now = true <;> simp [h1,h2]
theorem ymC (list : List CallT) (now : Int) : SWO (yj (yig list now)) (ysp list now):=by
 refine ⟨?_,?_,?_⟩
 ·rintro x y ⟨a,ha,ra⟩ ⟨b,hb,rb⟩ h
  rw [yaE ha hb,ybp ra rb] at h
  rw [yaE hb ha,← Bool.not_eq_true,ybp rb ra]
  unfold ylI at *; omega
 ·rintro x y z ⟨a,ha,ra⟩ ⟨b,hb,rb⟩ ⟨c,hc,rc⟩ h h'
  rw [yaE ha hb,ybp ra rb] at h
  rw [yaE hb hc,ybp rb rc] at h'
  rw [yaE ha hc,ybp ra rc]
  unfold ylI at *; omega
 ·rintro x y z ⟨a,ha,ra⟩ ⟨b,hb,rb⟩ ⟨c,hc,rc⟩ h h'
  rw [yaE ha hb,← Bool.not_eq_true,ybp ra rb] at h
  rw [yaE hb hc,← Bool.not_eq_true,ybp rb rc] at h'
  rw [yaE ha hc,← Bool.not_eq_true,ybp ra rc]
  unfold ylI at *; omega
theorem ypm {list : List CallT} {now : Int} {k x : Nat} (hk : k ≤ list.length) (h : x ∈ yaO list now k) : ysp list now x:=by
 unfold yaO at h
 obtain ⟨h1,h2⟩:=List.mem_filter.1 h
 rw [List.mem_range] at h1
 have h3 : list[x]? = some (list[x]'(by omega)):=List.getElem?_eq_getElem (by omega)
 rw [h3] at h2
 exact ⟨_,h3,by simpa using h2⟩
theorem yn4 {list : List CallT} {now : Int} {k : Nat} : (yaO list now k).Pairwise (·< ·):=List.Pairwise.filter _ List.pairwise_lt_range
theorem yho (list : List CallT) (now : Int) (hs : ya2 list) :
 yjQ Try.prog yb2 [.c (.sl 4 (list.map CallT.enc)),.c (.i now)] (.c (.ow 1 ((ybf list now).map yh))):=by
 have hl:=hs.1
 refine yqt yha (by simp) fun hwf=>?_
 simp -dsimp -implicitDefEqProofs [ydI]
 intro hlen
 refine yhz (k0:=1) 5 1 (by simp) (by simp) (by decide) ?_
 refine yw (ι:=Nat) (fun k=>k ≤ list.length) (fun k=>yaV [(2,.box 2 0),(3,.box 3 0),(5,.own 5 1 (yaO list now k).length),(8,.c (.sl 4 (list.map CallT.enc))),(9,.c (.i list.length)),(10,.c (.i k))] [(2,.box [.c (.sl 4 (list.map CallT.enc))]),(3,.box [.c (.i now)]),(5,.row 1 ((yaO list now k).map yh))]) (fun k=>list.length - k) 0 (by simp) (by apply yD <;> simp [AV.yc,AV.yJ,Obj.yc,yaO]) ?_
 rintro k hk
 have hrl:=ygC (list:=list) (now:=now) (k:=k)
 rcases Nat.lt_or_ge k list.length with hlt | hge
 ·obtain ⟨c,hc⟩ : ∃ x,list[k]? = some x:=⟨_,List.getElem?_eq_getElem hlt⟩
  have g1:=(List.getElem?_eq_some_iff.1 hc).2
  have sc:=hs.2 c (List.mem_of_getElem? hc)
  have hrs:=yh0 (now:=now) hc
  simp -dsimp -implicitDefEqProofs [hc,g1,yaT hlt,hlt]
  refine yg (yap c now sc) (by simp) rfl ?_
  by_cases h3 : yC c now = 3
  ·rw [if_pos h3] at hrs
   simp -dsimp -implicitDefEqProofs [h3]
   refine ⟨yaf hlt hlen,k + 1,hlt,by omega,?_⟩
   apply yD <;> simp [AV.yc,AV.yJ,Obj.yc,hrs]
  ·rw [if_neg h3] at hrs
   simp -dsimp -implicitDefEqProofs [h3]
   refine ⟨by omega,yaf hlt hlen,k + 1,hlt,by omega,?_⟩
   apply yD <;> simp [AV.yc,AV.yJ,Obj.yc,hrs,yh]
 ·have hkn : k = list.length:=by omega
  subst hkn
  simp -dsimp -implicitDefEqProofs
  have ho : ybf list now = sorted (yj (yig list now)) (yaO list now list.length):=rfl
  have hsort : InF Try.prog yL (.c (cw 1 ((yaO list now list.length).map yh))) (.c (cw 1 ((ybf list now).map yh))) [.fn yaX [.elt [.sl 4 (list.map CallT.enc)],.elt [.i now]]] (.tup []):=by
   rcases Nat.eq_zero_or_pos (yaO list now list.length).length with e | e
   ·have e2:=List.length_eq_zero_iff.1 e
    rw [ho,e2]
    exact yjX _ _ _
   ·refine yrJ (ymC list now) ⟨Try.f26,Try.func26,rfl,by decide⟩ (fun x y hx hy=>?_) _ (fun x hx=>ypm (Nat.le_refl _) hx) yn4 e (by omega)
    obtain ⟨a,ha,_⟩:=hx
    obtain ⟨b,hb,_⟩:=hy
    exact ymH list now hs x y (List.getElem?_eq_some_iff.1 ha).1 (List.getElem?_eq_some_iff.1 hb).1
  have hol : (ybf list now).length = (yaO list now list.length).length:=by rw [ho]; exact sorted_perm.length_eq
  generalize ybf list now = o at *
  generalize yaO list now list.length = r at *
  refine yoo (up:=some (5,.row 1 (o.map yh))) hsort ⟨yuH ⟨ylE (by simp) (by simp [ybq]),ylE (by simp) (by simp [ybq]),trivial⟩,trivial⟩ (yop o) rfl (ybG (rows:=r.map yh) (by simp) rfl rfl (by simp) (by simp [hol]) rfl rfl) ?_
  simp -dsimp -implicitDefEqProofs
  rw [← hol,yom]
theorem yfa (c : CallT) (now : Int) (h : c.small) : yR Try.prog ybD [.agg (c.enc.map .c),.c (.i now)] (.c (.i (yC c now))):=by
 refine yF yjM (by simp) fun hwf=>?_
 simp -dsimp -implicitDefEqProofs [yf9]
 refine yg (ymg c h) (by simp) rfl ?_
 cases h1 : yby c with
 | false=>simp -dsimp -implicitDefEqProofs; simp [yC,h1]
 | true =>
 have cf:=yhA h1
 have f1:=cf.cls; have f2:=cf.snc; have f3:=cf.bkd
 simp -dsimp -implicitDefEqProofs
 refine yg (yag now c.Since 1000000) (by simp) rfl ?_
 cases h2 : inRange now c.Since 1000000 with
 | false=>simp -dsimp -implicitDefEqProofs; simp [yC,h1,h2]
 | true =>
 have r2:=yab.1 h2
 have hq : 0 ≤ (now - c.Since).tdiv 20 ∧ (now - c.Since).tdiv 20 ≤ 50000:=by
  rw [Int.tdiv_eq_ediv_of_nonneg (by omega)]; omega
 have fin : ¬ (c.Booked ≠ -1 ∧ c.Booked ≤ now) → yC c now = if (now - c.Since).tdiv 20 < yaS c.Train then yaS c.Train - (now - c.Since).tdiv 20 else 0:=fun hn=>by
  unfold yC; rw [if_pos ⟨h1,h2⟩,if_neg hn]
 have fyes : (c.Booked ≠ -1 ∧ c.Booked ≤ now) → yC c now = -1:=fun hn=>by
  unfold yC; rw [if_pos ⟨h1,h2⟩,if_pos hn]
 simp -dsimp -implicitDefEqProofs
 refine yg (yag c.Booked 0 now) (by simp) rfl ?_
 cases h3 : inRange c.Booked 0 now with
 | true =>
  have r3:=yab.1 h3
  simp -dsimp -implicitDefEqProofs
  exact fyes ⟨by omega,by omega⟩
 | false =>
  have r3:=ydC.1 h3
  rw [fin (by omega)]
  simp -dsimp -implicitDefEqProofs
  refine ⟨_,_,ykP c.Train h,by simp,.inr rfl,?_⟩
  simp -dsimp -implicitDefEqProofs
  exact ⟨by unfold inI; omega,by unfold inI; omega,by unfold inI; omega⟩
theorem yhn (a b : CallT) (now : Int) (ha : a.small) (hb : b.small) : yR Try.prog ybI [.agg (a.enc.map .c),.agg (b.enc.map .c),.c (.i now)] (.c (.b (before a b now))):=by
 refine yF ygG (by simp) fun hwf=>?_
 simp -dsimp -implicitDefEqProofs [ydi]
 refine yg (yfa a now ha) (by simp) rfl ?_
 simp -dsimp -implicitDefEqProofs
 refine yg (yfa b now hb) (by simp) rfl ?_
 by_cases h1 : yC a now = 3
 ·simp -dsimp -implicitDefEqProofs [h1]
  simp [before,h1]
 by_cases h2 : yC b now = 3
 ·simp -dsimp -implicitDefEqProofs [h1,h2]
  simp [before,h2]
 by_cases h3 : yC a now = yC b now
 rotate_left
 ·simp -dsimp -implicitDefEqProofs [h1,h2,h3]
  simp [before,h1,h2,h3]
 have last : a.Since = b.Since → ¬ (yC a now = -1 ∧ a.Booked ≠ b.Booked) → before a b now = decide ((ybl a.Train)[0]?.getD 0 < (ybl b.Train)[0]?.getD 0):=fun h5 h6=>by
  unfold before; rw [if_neg (by simp [h1,h2]),if_neg (by simp [h3]),if_neg h6,if_neg (by simp [h5])]
 have snc : a.Since ≠ b.Since → ¬ (yC a now = -1 ∧ a.Booked ≠ b.Booked) → before a b now = decide (a.Since < b.Since):=fun h5 h6=>by
  unfold before; rw [if_neg (by simp [h1,h2]),if_neg (by simp [h3]),if_neg h6,if_pos h5]
 have bkd : (yC a now = -1 ∧ a.Booked ≠ b.Booked) → before a b now = decide (a.Booked < b.Booked):=fun h6=>by
  unfold before; rw [if_neg (by simp [h1,h2]),if_neg (by simp [h3]),if_pos h6]
 obtain ⟨_,pa⟩:=yfV h1
 obtain ⟨_,pb⟩:=yfV h2
 obtain ⟨x,hx⟩ : ∃ x,(ybl a.Train)[0]? = some x:=⟨_,List.getElem?_eq_getElem pa⟩
 obtain ⟨y,hy⟩ : ∃ x,(ybl b.Train)[0]? = some x:=⟨_,List.getElem?_eq_getElem pb⟩
 have gx:=(List.getElem?_eq_some_iff.1 hx).2
 have gy:=(List.getElem?_eq_some_iff.1 hy).2
 by_cases h6 : yC a now = -1 ∧ a.Booked ≠ b.Booked
 ·have h3' : yC b now = -1:=by rw [← h3]; exact h6.1
  simp -dsimp -implicitDefEqProofs [h1,h2,h3,h6.1,h6.2,h3']
  rw [bkd h6]
 by_cases h5 : a.Since = b.Since
 rotate_left
 ·by_cases h7 : yC a now = -1
  ·have h8 : a.Booked = b.Booked:=by
    by_cases h : a.Booked = b.Booked
    ·exact h
    ·exact absurd ⟨h7,h⟩ h6
   have h3' : yC b now = -1:=by rw [← h3]; exact h7
   simp -dsimp -implicitDefEqProofs [h7,h8,h5,h3']
   rw [snc h5 h6]
  ·have h3' : ¬ yC b now = -1:=by rw [← h3]; exact h7
   simp -dsimp -implicitDefEqProofs [h1,h2,h3,h5,h3']
   rw [snc h5 h6]
 ·have hl:=last h5 h6
  rw [hx,hy] at hl
  simp only [Option.getD_some] at hl
  by_cases h7 : yC a now = -1
  ·have h8 : a.Booked = b.Booked:=by
    by_cases h : a.Booked = b.Booked
    ·exact h
    ·exact absurd ⟨h7,h⟩ h6
   have h3' : yC b now = -1:=by rw [← h3]; exact h7
   simp -dsimp -implicitDefEqProofs [h7,h8,h5,h3']
   refine ⟨_,_,yeb a.Train ha,by simp,.inl rfl,?_⟩
   simp -dsimp -implicitDefEqProofs [pa,hx,gx]
   refine ⟨_,_,yeb b.Train hb,by simp,.inl rfl,?_⟩
   simp -dsimp -implicitDefEqProofs [pb,hy,gy]
   rw [hl]
  ·have h3' : ¬ yC b now = -1:=by rw [← h3]; exact h7
   simp -dsimp -implicitDefEqProofs [h1,h2,h3,h5,h3']
   refine ⟨_,_,yeb a.Train ha,by simp,.inl rfl,?_⟩
   simp -dsimp -implicitDefEqProofs [pa,hx,gx]
   refine ⟨_,_,yeb b.Train hb,by simp,.inl rfl,?_⟩
   simp -dsimp -implicitDefEqProofs [pb,hy,gy]
   rw [hl]
theorem ymv {lt : Nat → Nat → Bool} {xs : List Nat} {x : Nat} : ∀ i : Nat,i ≤ xs.length → ydt lt (xs ++ [x]) i = ydt lt xs i
 | 0,_=>rfl
 | i + 1,h=>by
  have h1 : (xs ++ [x])[i]? = xs[i]?:=List.getElem?_append_left (by omega)
  have h2 : xs[i]? = some (xs[i]'(by omega)):=List.getElem?_eq_getElem (by omega)
  rw [yc3 (h1.trans h2),yc3 h2,ymv i (by omega)]
theorem yl7 {lt : Nat → Nat → Bool} {xs : List Nat} {x : Nat} : sorted lt (xs ++ [x]) = yh4 lt x (sorted lt xs):=by
 unfold sorted
 rw [List.length_append,List.length_singleton,yc3 (x:=x) (by simp),ymv _ (Nat.le_refl _)]
def ybZ (list : List CallT) (now : Int) (k : Nat) : List Nat:=sorted (yj (yig list now)) (yaO list now k)
theorem yqo {list : List CallT} {now : Int} {k x : Nat} (h : x ∈ ybZ list now k) : x < k:=ykt (sorted_perm.mem_iff.1 h)
theorem yoY {list : List CallT} {now : Int} {k : Nat} : (ybZ list now k).length ≤ k:=by unfold ybZ; rw [sorted_perm.length_eq]; exact ygC
theorem yhs (list : List CallT) (now : Int) (hs : ya2 list) :
 yjQ Try.prog yb4 [.c (.sl 4 (list.map CallT.enc)),.c (.i now)] (.c (.ow 1 ((ybf list now).map yh))):=by
 have hl:=hs.1
 refine yqt ygZ (by simp) fun hwf=>?_
 simp -dsimp -implicitDefEqProofs [ydw]
 refine yw (ι:=Nat) (fun k=>k ≤ list.length) (fun k=>yaV [(0,.c (.sl 4 (list.map CallT.enc))),(1,.c (.i now)),(5,.own 8 1 (ybZ list now k).length),(6,.c (.i k))] [(8,.row 1 ((ybZ list now k).map yh))]) (fun k=>list.length - k) 0 (by simp) (by apply yD <;> simp [AV.yc,AV.yJ,Obj.yc,ybZ,yaO,sorted,ydt]) ?_
 rintro k hk
 have hsl:=yoY (list:=list) (now:=now) (k:=k)
 rcases Nat.lt_or_ge k list.length with hlt | hge
 ·obtain ⟨c,hc⟩ : ∃ x,list[k]? = some x:=⟨_,List.getElem?_eq_getElem hlt⟩
  have g1:=(List.getElem?_eq_some_iff.1 hc).2
  have sc:=hs.2 c (List.mem_of_getElem? hc)
  have hrs:=yh0 (now:=now) hc
  simp -dsimp -implicitDefEqProofs [hc,g1,yaT hlt,hlt]
  intro hlen
  refine yg (yfa c now sc) (by simp) rfl ?_
  by_cases h3 : yC c now = 3
  ·rw [if_pos h3] at hrs
   have hs2 : ybZ list now (k + 1) = ybZ list now k:=by unfold ybZ; rw [hrs]
   simp -dsimp -implicitDefEqProofs [h3]
   refine ⟨yaf hlt hlen,k + 1,hlt,by omega,?_⟩
   apply yD <;> simp [AV.yc,AV.yJ,Obj.yc,hs2]
  ·rw [if_neg h3] at hrs
   have hs2 : ybZ list now (k + 1) = yh4 (yj (yig list now)) k (ybZ list now k):=by unfold ybZ; rw [hrs,yl7]
   have hPlt : ∀ y ∈ ybZ list now k,y < list.length:=fun y hy=>Nat.lt_trans (yqo hy) hlt
   simp -dsimp -implicitDefEqProofs [h3]
   intro hlen2
   generalize ybZ list now k = P at *
   refine yw (ι:=Nat × List Nat × List Nat) (fun p=>p.1 = p.2.1.length ∧ p.2.1 ++ p.2.2 = P ∧ ∀ y ∈ p.2.2,yj (yig list now) k y = true) (fun p=>yaV [(0,.c (.sl 4 (list.map CallT.enc))),(1,.c (.i now)),(5,.own 8 1 P.length),(6,.c (.i k)),(7,.c (.i p.1))] [(8,.row 1 (P.map yh))]) (fun p=>p.1) (P.length,P,[]) ⟨rfl,by simp,by simp⟩ (by apply yD <;> simp [AV.yc,AV.yJ,Obj.yc]) ?_
   rintro ⟨j,l1,l2⟩ ⟨hj,he2,h2⟩
   simp only at hj he2 h2
   have fin : (∀ l y,l1 = l ++ [y] → yj (yig list now) k y = false) → ybZ list now (k + 1) = l1 ++ k :: l2:=fun h1=>by rw [hs2]; exact ykZ he2 h2 h1
   rcases List.eq_nil_or_concat l1 with e0 | ⟨l,y,e0⟩
   ·have hfin:=fin (fun l y h=>by rw [e0] at h; simp at h)
    have hj0 : j = 0:=by rw [hj,e0]; rfl
    subst hj0
    have hP0 : l2 = P:=by rw [← he2,e0]; rfl
    have hrow : (yh k :: P.map yh) = (ybZ list now (k + 1)).map yh:=by rw [hfin,e0,hP0]; rfl
    have hlen3 : 1 + P.length = (ybZ list now (k + 1)).length:=by rw [hfin,e0,hP0]; simp; omega
    simp -dsimp -implicitDefEqProofs
    refine ⟨by omega,yaf hlt hlen,k + 1,hlt,by omega,?_⟩
    refine yp8 44 8 ?_
    apply yD <;> simp [AV.yc,AV.yJ,Obj.yc,AV.ren,AV.yoD,AV.ykV,Obj.ren,ybW,hrow,hlen3]
    rw [List.take_of_length_le (by simp)]; exact hrow
   ·rw [List.concat_eq_append] at e0
    subst e0
    obtain ⟨m,hm⟩ : ∃ m,m = l.length:=⟨_,rfl⟩
    have hj2 : j = m + 1:=by rw [hj,hm]; simp
    have ej : ((j : Int) - 1) = (m : Int):=by omega
    have j0 : 0 < j:=by omega
    have hyP : y ∈ P:=by rw [← he2]; simp
    have hy : P[m]? = some y:=by rw [← he2,hm]; simp
    have gy:=(List.getElem?_eq_some_iff.1 hy).2
    have my:=(List.getElem?_eq_some_iff.1 hy).1
    have hyl:=hPlt y hyP
    obtain ⟨d,hd⟩ : ∃ x,list[y]? = some x:=⟨_,List.getElem?_eq_getElem hyl⟩
    have gd:=(List.getElem?_eq_some_iff.1 hd).2
    have sd:=hs.2 d (List.mem_of_getElem? hd)
    have hlb:=yaE (now:=now) hc hd
    simp -dsimp -implicitDefEqProofs [j0,ej,hc,g1,hlt,hy,gy,my,hyl,hd,gd,yh]
    refine ⟨by unfold inI; omega,?_⟩
    refine ⟨_,_,yhn c d now sc sd,by simp,.inr rfl,?_⟩
    cases hb : before c d now with
    | true =>
     simp -dsimp -implicitDefEqProofs [ej]
     refine ⟨by unfold inI; omega,m,⟨l,hm,y :: l2,by rw [← he2]; simp,fun z hz=>?_⟩,by omega,?_⟩
     ·rcases List.mem_cons.1 hz with hz | hz
      ·subst hz; rw [hlb,hb]
      ·exact h2 z hz
     ·apply yD <;> simp [AV.yc,AV.yJ,Obj.yc,yh]
    | false =>
     have hfin:=fin fun l' y' h=>by
      have:=(List.append_inj' h rfl).2
      simp at this; subst this; rw [hlb,hb]
     have hjl : j ≤ P.length:=by omega
     have htk : List.take j (List.map yh P) = (l ++ [y]).map yh:=by rw [← List.map_take,← he2,hj,List.take_left' rfl]
     have hdr : List.drop j (List.map yh P) = l2.map yh:=by rw [← List.map_drop,← he2,hj,List.drop_left' rfl]
     have hl2 : P.length = j + l2.length:=by rw [← he2,hj]; simp; omega
     have hlen3 : (ybZ list now (k + 1)).length = min j P.length + 1 + (P.length - j):=by rw [hfin]; simp at hj ⊢; omega
     simp -dsimp -implicitDefEqProofs
     refine ⟨hjl,by omega,by omega,hjl,by omega,yaf hlt hlen,k + 1,hlt,by omega,?_⟩
     refine yp8 44 8 ?_
     apply yD <;> simp [AV.yc,AV.yJ,Obj.yc,AV.ren,AV.yoD,AV.ykV,Obj.ren,ybW,hlen3]
     rw [htk,hdr,hfin,List.take_of_length_le (by rw [List.length_map]; omega)]
     simp [yh]
 ·have hkn : k = list.length:=by omega
  subst hkn
  simp -dsimp -implicitDefEqProofs [ycC hge]
  intro _
  exact (List.take_of_length_le (by simp [ybZ,ybf])).symm
theorem yjj (list : List CallT) (t : Turn) (now : Int) (hs : ya2 list) :
 yR Try.prog ycO [.c (.sl 4 (list.map CallT.enc)),.agg (t.enc.map .c),.c (.i now)] (.tup [.c (.b (yct list t now).1),.c (.b (yct list t now).2)]):=by
 refine yF yie (by simp) fun hwf=>?_
 simp -dsimp -implicitDefEqProofs [yeU]
 refine yhJ (yho list now hs) (by simp ) rfl (by simp [yeI]) ?_
 have hol:=yky (list:=list) (now:=now)
 have hlt:=ylK (list:=list) (now:=now)
 have hns : yct list t now = if (ybf list now).length = 0 ∨ ygw t = false then (false,false) else (yel list (ybf list now) t,true):=rfl
 generalize yct list t now = R at *
 generalize ybf list now = o at *
 rcases Nat.eq_zero_or_pos o.length with e | e
 ·have e2:=List.length_eq_zero_iff.1 e
  subst e2
  simp -dsimp -implicitDefEqProofs
  simp [hns]
 ·obtain ⟨x,hx⟩ : ∃ x,o[0]? = some x:=⟨_,List.getElem?_eq_getElem e⟩
  have gx:=(List.getElem?_eq_some_iff.1 hx).2
  have e0 : (o = []) = False:=by simp only [eq_iff_iff,iff_false]; intro h; rw [h] at e; simp at e
  simp -dsimp -implicitDefEqProofs [e0]
  intro hlen
  refine yg (ylQ t) (by simp) rfl ?_
  cases h1 : ygw t with
  | false=>simp -dsimp -implicitDefEqProofs; simp [hns,h1]
  | true =>
  have hc1:=yab.1 h1
  have hxl:=hlt x (List.mem_of_getElem? hx)
  obtain ⟨c,hc⟩ : ∃ e,list[x]? = some e:=⟨_,List.getElem?_eq_getElem hxl⟩
  have gc:=(List.getElem?_eq_some_iff.1 hc).2
  have hup:=ygV hc
  have hns2 : R = (yel list o t,true):=by rw [hns,if_neg]; simp [h1]; exact of_eq_false e0
  have hsd : yel list o t = if c.Train.Up ≠ t.Up ∨ t.Count < 3 then c.Train.Up else if o.all fun i=>yh6 list i == c.Train.Up then c.Train.Up else !c.Train.Up:=by
   unfold yel; rw [hx,Option.getD_some,hup]
  rw [hsd] at hns2
  by_cases hu : c.Train.Up = t.Up
  rotate_left
  ·rw [if_pos (.inl hu)] at hns2
   simp -dsimp -implicitDefEqProofs [e,hx,gx,yh,hxl,hc,gc,hu]
   simp [hns2]
  by_cases h3 : t.Count < 3
  ·rw [if_pos (.inr h3)] at hns2
   simp -dsimp -implicitDefEqProofs [e,hx,gx,yh,hxl,hc,gc,hu,h3]
   simp [hns2,hu]
  rw [if_neg (by simp [hu]; omega)] at hns2
  simp -dsimp -implicitDefEqProofs [e,hx,gx,yh,hxl,hc,gc,hu,h3]
  rw [hu] at hns2
  generalize t.Up = up at *
  refine fun _=>yw (ι:=Nat) (fun k=>k ≤ o.length ∧ ∀ y ∈ o.take k,yh6 list y = up) (fun k=>yaV [(0,.c (.sl 4 (list.map CallT.enc))),(9,.c (.b up)),(41,.own 14 1 o.length),(42,.c (.i o.length)),(43,.c (.i k))] [(14,.row 1 (o.map yh))]) (fun k=>o.length - k) 0 (by simp) (by apply yD <;> simp [AV.yc,AV.yJ,Obj.yc,yh]) ?_
  rintro k ⟨hk,hall⟩
  rcases Nat.lt_or_ge k o.length with hlt2 | hge
  ·obtain ⟨y,hy⟩ : ∃ x,o[k]? = some x:=⟨_,List.getElem?_eq_getElem hlt2⟩
   have gy:=(List.getElem?_eq_some_iff.1 hy).2
   have hyl:=hlt y (List.mem_of_getElem? hy)
   obtain ⟨d,hd⟩ : ∃ e,list[y]? = some e:=⟨_,List.getElem?_eq_getElem hyl⟩
   have gd:=(List.getElem?_eq_some_iff.1 hd).2
   have hupd:=ygV hd
   by_cases hdu : d.Train.Up = up
   ·simp -dsimp -implicitDefEqProofs [hy,gy,yaT hlt2,hlt2,yh,hyl,hd,gd,hdu]
    refine ⟨yaf hlt2 hlen,k + 1,⟨hlt2,fun z hz=>?_⟩,by omega,?_⟩
    ·rw [List.take_succ,hy] at hz
     rcases List.mem_append.1 hz with hz | hz
     ·exact hall z hz
     ·simp at hz; subst hz; rw [hupd,hdu]
    ·apply yD <;> simp [AV.yc,AV.yJ,Obj.yc,yh]
   ·simp -dsimp -implicitDefEqProofs [hy,gy,yaT hlt2,hlt2,yh,hyl,hd,gd,hdu]
    rw [if_neg (by simp; exact ⟨y,List.mem_of_getElem? hy,by rw [hupd]; exact hdu⟩)] at hns2
    simp [hns2]
  ·simp -dsimp -implicitDefEqProofs [ycC hge]
   rw [List.take_of_length_le hge] at hall
   rw [if_pos (by simpa using hall)] at hns2
   simp [hns2]
theorem yjP (list : List CallT) (t : Turn) (now : Int) (hs : ya2 list) :
 yR Try.prog ycR [.c (.sl 4 (list.map CallT.enc)),.agg (t.enc.map .c),.c (.i now)] (.tup [.c (.b (yct list t now).1),.c (.b (yct list t now).2)]):=by
 refine yF yib (by simp) fun hwf=>?_
 simp -dsimp -implicitDefEqProofs [yeR]
 refine yhJ (yhs list now hs) (by simp ) rfl (by simp [yeI]) ?_
 have hol:=yky (list:=list) (now:=now)
 have hlt:=ylK (list:=list) (now:=now)
 have hns : yct list t now = if (ybf list now).length = 0 ∨ ygw t = false then (false,false) else (yel list (ybf list now) t,true):=rfl
 generalize yct list t now = R at *
 generalize ybf list now = o at *
 rcases Nat.eq_zero_or_pos o.length with e | e
 ·have e2:=List.length_eq_zero_iff.1 e
  subst e2
  simp -dsimp -implicitDefEqProofs
  simp [hns]
 ·obtain ⟨x,hx⟩ : ∃ x,o[0]? = some x:=⟨_,List.getElem?_eq_getElem e⟩
  have gx:=(List.getElem?_eq_some_iff.1 hx).2
  have e0 : (o = []) = False:=by simp only [eq_iff_iff,iff_false]; intro h; rw [h] at e; simp at e
  simp -dsimp -implicitDefEqProofs [e0]
  intro hlen
  refine yg (ylD t) (by simp) rfl ?_
  cases h1 : ygw t with
  | false=>simp -dsimp -implicitDefEqProofs; simp [hns,h1]
  | true =>
  have hc1:=yab.1 h1
  have hxl:=hlt x (List.mem_of_getElem? hx)
  obtain ⟨c,hc⟩ : ∃ e,list[x]? = some e:=⟨_,List.getElem?_eq_getElem hxl⟩
  have gc:=(List.getElem?_eq_some_iff.1 hc).2
  have hup:=ygV hc
  have hns2 : R = (yel list o t,true):=by rw [hns,if_neg]; simp [h1]; exact of_eq_false e0
  have hsd : yel list o t = if c.Train.Up ≠ t.Up ∨ t.Count < 3 then c.Train.Up else if o.all fun i=>yh6 list i == c.Train.Up then c.Train.Up else !c.Train.Up:=by
   unfold yel; rw [hx,Option.getD_some,hup]
  rw [hsd] at hns2
  by_cases hu : c.Train.Up = t.Up
  rotate_left
  ·rw [if_pos (.inl hu)] at hns2
   simp -dsimp -implicitDefEqProofs [e,hx,gx,yh,hxl,hc,gc,hu]
   simp [hns2]
  by_cases h3 : t.Count < 3
  ·rw [if_pos (.inr h3)] at hns2
   simp -dsimp -implicitDefEqProofs [e,hx,gx,yh,hxl,hc,gc,hu,h3]
   simp [hns2,hu]
  rw [if_neg (by simp [hu]; omega)] at hns2
  simp -dsimp -implicitDefEqProofs [e,hx,gx,yh,hxl,hc,gc,hu,h3]
  rw [hu] at hns2
  generalize t.Up = up at *
  refine yw (ι:=Nat) (fun k=>k ≤ o.length ∧ ∀ y ∈ o.take k,yh6 list y = up) (fun k=>yaV [(0,.c (.sl 4 (list.map CallT.enc))),(8,.own 13 1 o.length),(9,.c (.b up)),(10,.c (.i k))] [(13,.row 1 (o.map yh))]) (fun k=>o.length - k) 0 (by simp) (by apply yD <;> simp [AV.yc,AV.yJ,Obj.yc,yh]) ?_
  rintro k ⟨hk,hall⟩
  rcases Nat.lt_or_ge k o.length with hlt2 | hge
  ·obtain ⟨y,hy⟩ : ∃ x,o[k]? = some x:=⟨_,List.getElem?_eq_getElem hlt2⟩
   have gy:=(List.getElem?_eq_some_iff.1 hy).2
   have hyl:=hlt y (List.mem_of_getElem? hy)
   obtain ⟨d,hd⟩ : ∃ e,list[y]? = some e:=⟨_,List.getElem?_eq_getElem hyl⟩
   have gd:=(List.getElem?_eq_some_iff.1 hd).2
   have hupd:=ygV hd
   by_cases hdu : d.Train.Up = up
   ·simp -dsimp -implicitDefEqProofs [hy,gy,yaT hlt2,hlt2,yh,hyl,hd,gd,hdu]
    intro _
    refine ⟨yaf hlt2 hlen,k + 1,⟨hlt2,fun z hz=>?_⟩,by omega,?_⟩
    ·rw [List.take_succ,hy] at hz
     rcases List.mem_append.1 hz with hz | hz
     ·exact hall z hz
     ·simp at hz; subst hz; rw [hupd,hdu]
    ·apply yD <;> simp [AV.yc,AV.yJ,Obj.yc,yh]
   ·simp -dsimp -implicitDefEqProofs [hy,gy,yaT hlt2,hlt2,yh,hyl,hd,gd,hdu]
    intro _
    rw [if_neg (by simp; exact ⟨y,List.mem_of_getElem? hy,by rw [hupd]; exact hdu⟩)] at hns2
    simp [hns2]
  ·simp -dsimp -implicitDefEqProofs [ycC hge]
   intro _
   rw [List.take_of_length_le hge] at hall
   rw [if_pos (by simpa using hall)] at hns2
   simp [hns2]
theorem ygW (x0 : List CallT) (x1 : Turn) (x2 : Int) : yR Try.prog yb1 [.c (.sl 4 (x0.map CallT.enc)),.agg (x1.enc.map .c),.c (.i x2)] (.c (.b true)):=by
 refine yF yeG (by simp) fun hwf=>?_
 simp -dsimp -implicitDefEqProofs [yb5]
 refine yg (ymJ x0 1048576 (by omega) (by omega)) (by simp) rfl ?_
 simp -dsimp -implicitDefEqProofs
 intro hsz0
 have hl0:=ypp ymt (by omega) (by omega) hsz0
 refine ⟨_,_,yhK x0 hl0,by simp,.inl rfl,?_⟩
 simp -dsimp -implicitDefEqProofs
 refine ⟨_,_,ylx x1,by simp,.inr rfl,?_⟩
 simp -dsimp -implicitDefEqProofs
 refine ⟨_,_,yjP x0 x1 x2 hl0,by simp,.inr rfl,?_⟩
 simp -dsimp -implicitDefEqProofs
 refine yO (yhK x0 hl0) (by simp) rfl ?_
 simp -dsimp -implicitDefEqProofs
 refine yg (ylx x1) (by simp) rfl ?_
 simp -dsimp -implicitDefEqProofs
 refine yg (yjj x0 x1 x2 hl0) (by simp) rfl ?_
 simp -dsimp -implicitDefEqProofs
 refine yO (yhK x0 hl0) (by simp) rfl ?_
 simp -dsimp -implicitDefEqProofs
 refine yg (yod x0 x0) (by simp) rfl ?_
 simp -dsimp -implicitDefEqProofs
theorem yqT {xs : List C} (h : Fits [.i,.i,.i,.i,.i,.i] xs) : ∃ e : Boat,xs = e.enc:=by
 obtain ⟨c0,ys,rfl,h0,h⟩:=h.cons_inv
 obtain ⟨c1,ys,rfl,h1,h⟩:=h.cons_inv
 obtain ⟨c2,ys,rfl,h2,h⟩:=h.cons_inv
 obtain ⟨c3,ys,rfl,h3,h⟩:=h.cons_inv
 obtain ⟨c4,ys,rfl,h4,h⟩:=h.cons_inv
 obtain ⟨c5,ys,rfl,h5,h⟩:=h.cons_inv
 obtain rfl:=h.ygL
 obtain ⟨n0,rfl⟩:=h0.yf5
 obtain ⟨n1,rfl⟩:=h1.yf5
 obtain ⟨n2,rfl⟩:=h2.yf5
 obtain ⟨n3,rfl⟩:=h3.yf5
 obtain ⟨n4,rfl⟩:=h4.yf5
 obtain ⟨n5,rfl⟩:=h5.yf5
 exact ⟨⟨n0,n1,n2,n3,n4,n5⟩,rfl⟩
theorem yoi {xs : List C} (h : Fits [.sl [.i,.i,.i,.i,.i,.i]] xs) : ∃ e : List Boat,xs = yX e:=by
 obtain ⟨c0,ys,rfl,h0,h⟩:=h.cons_inv
 obtain rfl:=h.ygL
 obtain ⟨n0,rfl⟩:=h0.ymD Boat.enc fun _ h=>yqT h
 exact ⟨n0,rfl⟩
theorem ypa {xs : List C} (h : Fits [.b,.i] xs) : ∃ e : Turn,xs = e.enc:=by
 obtain ⟨c0,ys,rfl,h0,h⟩:=h.cons_inv
 obtain ⟨c1,ys,rfl,h1,h⟩:=h.cons_inv
 obtain rfl:=h.ygL
 obtain ⟨n0,rfl⟩:=h0.yrW
 obtain ⟨n1,rfl⟩:=h1.yf5
 exact ⟨⟨n0,n1⟩,rfl⟩
theorem yp1 {xs : List C} (h : Fits [.b,.sl [.sl [.i,.i,.i,.i,.i,.i]],.i,.i] xs) : ∃ e : CallT,xs = e.enc:=by
 obtain ⟨c0,ys,rfl,h0,h⟩:=h.cons_inv
 obtain ⟨c1,ys,rfl,h1,h⟩:=h.cons_inv
 obtain ⟨c2,ys,rfl,h2,h⟩:=h.cons_inv
 obtain ⟨c3,ys,rfl,h3,h⟩:=h.cons_inv
 obtain rfl:=h.ygL
 obtain ⟨n0,rfl⟩:=h0.yrW
 obtain ⟨n1,rfl⟩:=h1.ymD yX fun _ h=>yoi h
 obtain ⟨n2,rfl⟩:=h2.yf5
 obtain ⟨n3,rfl⟩:=h3.yf5
 exact ⟨⟨⟨n0,n1⟩,n2,n3⟩,rfl⟩
theorem yeY : IsLaw Rows.fnExactNextSideSpec Try.f3.params.size:=by
 refine ⟨rfl,fun H ds h=>?_⟩
 match ds,h with
 | [d0,d1,d2],_=>rfl
theorem ydV : LawFacts Try.prog Try.f3 (Try.f3.resultTypes.getD 0 0) [(false,[.sl [.b,.sl [.sl [.i,.i,.i,.i,.i,.i]],.i,.i]]),(true,[.b,.i]),(false,[.i])] :=
 ⟨ykE,by kernel_rfl,by kernel_rfl,by kernel_rfl,by kernel_rfl⟩
set_option maxRecDepth 100000 in
theorem yei (os : Os) (started : os.Started) (H : Type) (enc : TypeId × Value → H) :
 ReturnsInHanded {} Try.checked os 3 .any (Rows.fnExactNextSideSpec.pre6 enc Try.prog Try.f3 Rows.fnExactNextSideRow.domain false) (Rows.fnExactNextSideSpec.post enc Try.prog Try.f3 false true false false):=by
 refine law_lifted (C:=Try.checked) yl4 started (by kernel_rfl) Try.func3
  (ChangeSpec.witness6 (enc:=enc) (C:=Try.checked) false ⟨#[],#[.slice none 0 0,.agg #[.bool false,.int .i64 0],.int .i64 0],[]⟩ 8 (by kernel_rfl) (by kernel_rfl) (by kernel_rfl) (by kernel_rfl)) yeY ydV ?_
 rintro avs ⟨a,avs0,rfl,ha,b,avs1,rfl,hb,c,avs2,rfl,hc,rfl⟩
 cases ha with
 | one h0 =>
  cases hb with
  | st h1 =>
   cases hc with
   | one h2 =>
    obtain ⟨x0,rfl⟩:=h0.ymD CallT.enc fun xs h=>yp1 h
    obtain ⟨x1,rfl⟩:=ypa h1
    obtain ⟨x2,rfl⟩:=h2.yf5
    exact ygW x0 x1 x2
theorem yeX : yi2 Try.prog 3 Try.f3 Rows.fnExactNextSideSpec Rows.fnExactNextSideRow = true:=by kernel_rfl
theorem yeW : Try.pinned.checked.prog.funcNamed Rows.fnExactNextSideRow.func = some 3:=by kernel_rfl
theorem yfB : Try.f3.isInstance Try.pinned.checked.prog Rows.fnExactNextSideRow.origin Rows.fnExactNextSideRow.targs:=(of_decide_eq_true (by kernel_rfl))
theorem yfJ : Try.f3.isWrapper Try.pinned.checked.prog Rows.fnExactNextSideRow.wrapper Rows.fnExactNextSideRow.mainSum:=by
 unfold Func.isWrapper; first | (rw [if_pos (by decide +kernel)]; kernel_rfl) | (rw [if_neg (by decide +kernel)]; exact ⟨rfl,rfl⟩)
theorem FnExactNextSide_holds : Rows.FnExactNextSideSaid :=
 OpenClaim.holds_of_wide (p:=Try.pinned) (s:=Rows.fnExactNextSideSpec) (c:=Rows.fnExactNextSideRow) 3 Try.f3 rfl rfl rfl rfl rfl rfl rfl ⟨rfl,rfl,rfl,rfl,rfl⟩ rfl rfl rfl rfl rfl yeW Try.func3
  (yoQ yo2 yeX ⟨rfl,rfl,rfl,rfl,rfl,rfl,rfl,rfl⟩) yfB yfJ (fun os started H enc _=>yei os started H enc)
end Go.Proofs.Ytefegahoniahkaa
