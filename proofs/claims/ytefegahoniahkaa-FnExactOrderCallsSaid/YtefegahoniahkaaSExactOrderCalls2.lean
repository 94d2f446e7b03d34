/- What the law FnExactOrderCalls stands on: contracts of functions, what each answers as plain Lean, in short form (names, layout). -/
import Derived.Test.YtefegahoniahkaaSExactOrderCalls1
set_option linter.all false
namespace Go.Proofs.Ytefegahoniahkaa
open Go.RowKit
open Go.ChangeShapes Go.WideShapes
theorem yMp (P X R Y Q M0 M1 : List Nat) (p q n N : Nat) (hM0 : M0 = yLp P X R Y Q 0) (hM1 : M1 = yLp P X R Y Q n) (hX : X.length = n) (hY : Y.length = n) (hp : p = P.length) (hq : q = P.length + n + R.length) (hN : N = M0.length) (hn : 1 ≤ N) (hn2 : N ≤ 1048576) (f : Nat) (a b : List C) :
 InF Try.prog 61 (.c (cw 1 (M0.map yKP))) (.c (cw 1 (M1.map yKP))) [.c (.i p),.c (.i q),.c (.i n),.fn f [.elt a,.elt b]] (.tup []):=by
 have hN2 : P.length + n + R.length + n + Q.length = N:=by rw [hN,hM0,yL2 hX hY (Nat.zero_le _)]
 have hL : M1.length = N:=by rw [hM1,yL2 hX hY (Nat.le_refl _)]; omega
 rw [yb4 (by rw [List.length_map]; omega),yb4 (by rw [List.length_map,hL]; omega)]
 refine ybO yLa (by simp) (by simp) rfl fun hwf=>?_
 simp -dsimp -implicitDefEqProofs
 refine yg (ι:=Nat) (fun i=>i ≤ n) (fun i=>yO [(0,.own 0 1 N),(1,.c (.i p)),(2,.c (.i q)),(3,.c (.i n)),(10,.c (.i i)),(1000000,.own 0 1 N)] [(0,.row 1 ((yLp P X R Y Q i).map yKP))]) (fun i=>n - i) 0 (Nat.zero_le _) (by apply yj <;> simp [hN,hM0]) ?_
 rintro i hi
 rcases Nat.lt_or_ge i n with hlt | hge
 ·obtain ⟨x,hx⟩ : ∃ x,X[i]? = some x:=⟨_,List.getElem?_eq_getElem (by omega)⟩
  obtain ⟨y,hy⟩ : ∃ y,Y[i]? = some y:=⟨_,List.getElem?_eq_getElem (by omega)⟩
  obtain ⟨m,hm⟩ : ∃ m,m = P.length + i:=⟨_,rfl⟩
  obtain ⟨j,hj⟩ : ∃ j,j = P.length + n + R.length + i:=⟨_,rfl⟩
  obtain ⟨w1,w2,w3⟩:=yM5 (P:=P) (R:=R) (Q:=Q) hX hY hx hy hm hj
  have hlen:=yL2 (P:=P) (R:=R) (Q:=Q) hX hY hi
  generalize yLp P X R Y Q i = M at *
  have v1:=(List.getElem?_eq_some_iff.1 w1).2
  have v2:=(List.getElem?_eq_some_iff.1 w2).2
  have k1 : m < M.length:=(List.getElem?_eq_some_iff.1 w1).1
  have k2 : j < M.length:=(List.getElem?_eq_some_iff.1 w2).1
  have em : ((p : Int) + i) = (m : Int):=by omega
  have ej : ((q : Int) + i) = (j : Int):=by omega
  have n1 : m < N:=by omega
  have n2 : j < N:=by omega
  have hr2 : ∀ h,((M.map yKP).set m [C.i y])[j]'h = [C.i y]:=by intro h; rw [List.getElem_set_ne (by omega)]; simp [v2,yKP]
  have hs3 : ((M.map yKP).set m [C.i y]).set j [C.i x] = (yLp P X R Y Q (i + 1)).map yKP:=by rw [← w3,List.map_set,List.map_set]; rfl
  simp -dsimp -implicitDefEqProofs [em,ej,yG hlt,w1,w2,v1,v2,k1,k2,yKP,n1,n2,hr2,hs3]
  refine ⟨by unfold inI; omega,by unfold inI; omega,by unfold inI; omega,by unfold inI; omega,i + 1,hlt,by omega,?_⟩
  apply yj <;> simp [hs3]
 ·have : i = n:=by omega
  subst this
  simp -dsimp -implicitDefEqProofs
  rw [← hM1]
  refine ⟨by rw [List.take_of_length_le (by rw [List.length_map,hL]; exact Nat.le_refl _)],?_⟩
  simp [yml]
def yKX (P U V Q : List Nat) : List Nat:=P ++ (U ++ (V ++ Q))
theorem yK0 {P U V Q : List Nat} : (yKX P U V Q).length = P.length + U.length + V.length + Q.length:=by simp [yKX]; omega
theorem yNn (P0 U0 V0 Q0 M0 M1 : List Nat) (hM0 : M0 = yKX P0 U0 V0 Q0) (hM1 : M1 = yKX P0 V0 U0 Q0) (p m b N : Nat) (hU0 : 1 ≤ U0.length) (hV0 : 1 ≤ V0.length) (hp : p = P0.length) (hm : m = p + U0.length) (hb : b = m + V0.length) (hN : N = M0.length) (hn2 : N ≤ 1048576) (f : Nat) (ca cb : List C) :
 InF Try.prog 57 (.c (cw 1 (M0.map yKP))) (.c (cw 1 (M1.map yKP))) [.c (.i p),.c (.i m),.c (.i b),.fn f [.elt ca,.elt cb]] (.tup []):=by
 have hN2 : P0.length + U0.length + V0.length + Q0.length = N:=by rw [hN,hM0,yK0]
 have hL : M1.length = N:=by rw [hM1,yK0]; omega
 rw [yb4 (by rw [List.length_map]; omega),yb4 (by rw [List.length_map,hL]; omega)]
 refine ybO yLd (by simp) (by simp) rfl fun hwf=>?_
 simp -dsimp -implicitDefEqProofs
 have e1 : ((m : Int) - p) = ((U0.length : Nat) : Int):=by omega
 have e2 : ((b : Int) - m) = ((V0.length : Nat) : Int):=by omega
 rw [e1,e2]
 refine ⟨by unfold inI; omega,by unfold inI; omega,?_⟩
 refine yg (ι:=(Nat × Nat) × (List Nat × List Nat × List Nat × List Nat)) (fun z=>z.1.1 = z.2.2.1.length ∧ z.1.2 = z.2.2.2.1.length ∧ 1 ≤ z.1.1 ∧ 1 ≤ z.1.2 ∧ m = z.2.1.length + z.1.1 ∧ yKX z.2.1 z.2.2.2.1 z.2.2.1 z.2.2.2.2 = M1)
  (fun z=>yO [(0,.own 0 1 N),(2,.c (.i m)),(4,.fn f [.elt ca,.elt cb]),(10,.c (.i z.1.1)),(11,.c (.i z.1.2)),(1000000,.own 0 1 N)] [(0,.row 1 ((yKX z.2.1 z.2.2.1 z.2.2.2.1 z.2.2.2.2).map yKP))]) (fun z=>z.1.1 + z.1.2) ((U0.length,V0.length),(P0,U0,V0,Q0)) ⟨rfl,rfl,hU0,hV0,by simp only; omega,hM1.symm⟩ (by apply yj <;> simp [hM0,yK0,hN2]) ?_
 rintro ⟨⟨i,j⟩,P,U,V,Q⟩ ⟨hU,hV,hi,hj,hmm,hT⟩
 simp only at hU hV hi hj hmm hT
 have hTl : P.length + U.length + V.length + Q.length = N:=by
  have:=congrArg List.length hT
  rw [hL,yK0] at this; omega
 have em : ((m : Int) - i) = ((P.length : Nat) : Int):=by omega
 rcases Nat.lt_trichotomy i j with h | h | h
 ·-- the left part is the shorter one
  obtain ⟨Va,Vb,hVe,hVb⟩ : ∃ Va Vb,V = Va ++ Vb ∧ Vb.length = i:=⟨V.take (j - i),V.drop (j - i),(List.take_append_drop _ _).symm,by simp; omega⟩
  subst hVe
  have hVa : Va.length = j - i:=by simp at hV; omega
  have g1 : (yKX P U (Va ++ Vb) Q).length = N:=by rw [yK0]; omega
  have g2 : (yKX P Vb Va (U ++ Q)).length = N:=by rw [yK0]; simp; simp at hTl; omega
  have hs:=yMp P U Va Vb Q (yKX P U (Va ++ Vb) Q) (yKX P Vb Va (U ++ Q)) P.length (m + j - i) i N (by rw [yMB]; simp [yKX]) (by rw [yMH hU.symm hVb]; simp [yKX]) hU.symm hVb rfl (by omega) g1.symm (by omega) hn2 f ca cb
  have q1 : ((i : Int) = (j : Int)) = False:=by simp; omega
  have q1' : (i = j) = False:=by simp; omega
  have q2 : ((j : Int) < (i : Int)) = False:=by simp; omega
  have q2' : (j < i) = False:=by simp; omega
  have q3 : ((m : Int) + j - i) = ((m + j - i : Nat) : Int):=by omega
  have q4 : ((j : Int) - i) = ((j - i : Nat) : Int):=by omega
  simp -dsimp -implicitDefEqProofs [q1,q1',q2,q2',em,q3]
  refine ⟨by unfold inI; omega,by unfold inI; omega,by unfold inI; omega,?_⟩
  refine ycW (up:=some (0,.row 1 ((yKX P Vb Va (U ++ Q)).map yKP))) hs (by simp) rfl rfl (ybY (rows:=(yKX P U (Va ++ Vb) Q).map yKP) (by simp) rfl rfl (by simp [g1]) (by simp [g1,g2]) rfl rfl) ?_
  simp -dsimp -implicitDefEqProofs [q4]
  refine ⟨by unfold inI; omega,i,j - i,P,Vb,Va,U ++ Q,⟨hVb.symm,hVa.symm,hi,by omega,hmm,by rw [← hT]; simp [yKX]⟩,by omega,?_⟩
  apply yj <;> simp
 ·have g1 : (yKX P U V Q).length = N:=by rw [yK0]; omega
  have g2 : (yKX P V U Q).length = N:=by rw [yK0]; omega
  have hs:=yMp P U [] V Q (yKX P U V Q) (yKX P V U Q) P.length m i N (by rw [yMB]; simp [yKX]) (by rw [yMH hU.symm (by omega)]; simp [yKX]) hU.symm (by omega) rfl (by simp; omega) g1.symm (by omega) hn2 f ca cb
  subst h
  simp -dsimp -implicitDefEqProofs [em]
  refine ⟨by unfold inI; omega,?_⟩
  refine ycW (up:=some (0,.row 1 ((yKX P V U Q).map yKP))) hs (by simp) rfl rfl (ybY (rows:=(yKX P U V Q).map yKP) (by simp) rfl rfl (by simp [g1]) (by simp [g1,g2]) rfl rfl) ?_
  simp -dsimp -implicitDefEqProofs
  rw [hT]
  refine ⟨by rw [List.take_of_length_le (by rw [List.length_map,hL]; exact Nat.le_refl _)],?_⟩
  simp [yml]
 ·obtain ⟨Ua,Ub,hUe,hUa⟩ : ∃ Ua Ub,U = Ua ++ Ub ∧ Ua.length = j:=⟨U.take j,U.drop j,(List.take_append_drop _ _).symm,by simp; omega⟩
  subst hUe
  have hUb : Ub.length = i - j:=by simp at hU; omega
  have g1 : (yKX P (Ua ++ Ub) V Q).length = N:=by rw [yK0]; omega
  have g2 : (yKX (P ++ V) Ub Ua Q).length = N:=by rw [yK0]; simp; simp at hTl; omega
  have hs:=yMp P Ua Ub V Q (yKX P (Ua ++ Ub) V Q) (yKX (P ++ V) Ub Ua Q) P.length m j N (by rw [yMB]; simp [yKX]) (by rw [yMH hUa hV.symm]; simp [yKX]) hUa hV.symm rfl (by omega) g1.symm (by omega) hn2 f ca cb
  have q1 : ((i : Int) = (j : Int)) = False:=by simp; omega
  have q1' : (i = j) = False:=by simp; omega
  have q2 : ((j : Int) < (i : Int)) = True:=by simp; omega
  have q2' : (j < i) = True:=by simp; omega
  have q4 : ((i : Int) - j) = ((i - j : Nat) : Int):=by omega
  simp -dsimp -implicitDefEqProofs [q1,q1',q2,q2',em]
  refine ⟨by unfold inI; omega,?_⟩
  refine ycW (up:=some (0,.row 1 ((yKX (P ++ V) Ub Ua Q).map yKP))) hs (by simp) rfl rfl (ybY (rows:=(yKX P (Ua ++ Ub) V Q).map yKP) (by simp) rfl rfl (by simp [g1]) (by simp [g1,g2]) rfl rfl) ?_
  simp -dsimp -implicitDefEqProofs [q4]
  refine ⟨by unfold inI; omega,i - j,j,P ++ V,Ub,Ua,Q,⟨hUb.symm,hUa.symm,by omega,hj,by simp; omega,by rw [← hT]; simp [yKX]⟩,by omega,?_⟩
  apply yj <;> simp
structure MG (lt : Nat → Nat → Bool) (S : Nat → Prop) (A l r B o M0 M1 : List Nat) (a m b N : Nat) : Prop where
 pl : 1 ≤ l.length
 pr : 1 ≤ r.length
 sl : ∀ x ∈ l,S x
 sr : ∀ x ∈ r,S x
 ol : l.Pairwise (tot lt)
 or : r.Pairwise (tot lt)
 cr : ∀ x ∈ l,∀ y ∈ r,x < y
 po : o.Perm (l ++ r)
 oo : o.Pairwise (tot lt)
 ha : a = A.length
 hm : m = a + l.length
 hb : b = m + r.length
 h0 : M0 = yKX A l r B
 h1 : M1 = yKU A o B
 hN : N = M0.length
 hn : N ≤ 1048576
theorem MG.len1 {lt : Nat → Nat → Bool} {S : Nat → Prop} {A l r B o M0 M1 : List Nat} {a m b N : Nat} (g : MG lt S A l r B o M0 M1 a m b N) : M1.length = N ∧ 1 ≤ N ∧ b ≤ N:=by
 have h1:=g.po.length_eq
 have h2:=g.hN
 have h3:=g.pl
 have h4:=g.hb; have h5:=g.hm; have h6:=g.ha
 rw [g.h0,yK0] at h2
 rw [g.h1,yK6,h1,List.length_append]
 omega
theorem yL0 {i j : Nat} : ((i : Int) + j).toNat / 2 = (i + j) / 2:=by congr 1
theorem yL5 {A l r B : List Nat} {k t : Nat} (hk : k = A.length + t) (h : t < l.length) : (yKX A l r B)[k]? = l[t]?:=by
 unfold yKX; exact yLZ hk h
theorem yL6 {A l r B : List Nat} {k t : Nat} (hk : k = A.length + l.length + t) (h : t < r.length) : (yKX A l r B)[k]? = r[t]?:=by
 unfold yKX; rw [← List.append_assoc]; exact yLZ (by rw [List.length_append]; exact hk) h
theorem swp_right {A r B : List Nat} {x y k t : Nat} (hy : r[t]? = some y) (hk : k = A.length + t) :
 (yKU A (r.take t ++ x :: r.drop t) B)[k]? = some x ∧ (yKU A (r.take t ++ x :: r.drop t) B)[k + 1]? = some y ∧
 ((yKU A (r.take t ++ x :: r.drop t) B).set k y).set (k + 1) x = yKU A (r.take (t + 1) ++ x :: r.drop (t + 1)) B:=by
 have i1:=(List.getElem?_eq_some_iff.1 hy).1
 have d1 : r.drop t = y :: r.drop (t + 1):=by rw [List.drop_eq_getElem_cons i1,(List.getElem?_eq_some_iff.1 hy).2]
 have t1 : r.take (t + 1) = r.take t ++ [y]:=by rw [List.take_succ,hy]; rfl
 have e1 : yKU A (r.take t ++ x :: r.drop t) B = (A ++ r.take t) ++ x :: ([] ++ y :: (r.drop (t + 1) ++ B)):=by unfold yKU; rw [d1]; simp
 have e2 : yKU A (r.take (t + 1) ++ x :: r.drop (t + 1)) B = (A ++ r.take t) ++ y :: ([] ++ x :: (r.drop (t + 1) ++ B)):=by unfold yKU; rw [t1]; simp
 rw [e1,e2]
 exact yMq (by simp; omega) (by simp; omega)
theorem swp_left {A l B : List Nat} {y u k t : Nat} (hu : l[t]? = some u) (hk : k = A.length + t) :
 (yKU A (l.take (t + 1) ++ y :: l.drop (t + 1)) B)[k + 1]? = some y ∧ (yKU A (l.take (t + 1) ++ y :: l.drop (t + 1)) B)[k]? = some u ∧
 ((yKU A (l.take (t + 1) ++ y :: l.drop (t + 1)) B).set (k + 1) u).set k y = yKU A (l.take t ++ y :: l.drop t) B:=by
 have i1:=(List.getElem?_eq_some_iff.1 hu).1
 have d1 : l.drop t = u :: l.drop (t + 1):=by rw [List.drop_eq_getElem_cons i1,(List.getElem?_eq_some_iff.1 hu).2]
 have t1 : l.take (t + 1) = l.take t ++ [u]:=by rw [List.take_succ,hu]; rfl
 have e1 : yKU A (l.take (t + 1) ++ y :: l.drop (t + 1)) B = (A ++ l.take t) ++ u :: ([] ++ y :: (l.drop (t + 1) ++ B)):=by unfold yKU; rw [t1]; simp
 have e2 : yKU A (l.take t ++ y :: l.drop t) B = (A ++ l.take t) ++ y :: ([] ++ u :: (l.drop (t + 1) ++ B)):=by unfold yKU; rw [d1]; simp
 rw [e1,e2]
 obtain ⟨a1,a2,a3⟩:=yMq (P:=A ++ l.take t) (R:=[]) (Q:=l.drop (t + 1) ++ B) (x:=u) (y:=y) (i:=k) (j:=k + 1) (by simp; omega) (by simp; omega)
 exact ⟨a2,a1,by rw [List.set_comm _ _ (by omega)]; exact a3⟩
section
variable {cmp : Nat → Nat → Int} {S : Nat → Prop} {f : Nat} {ca cb : List C}
theorem yMW (h : SWO (yKO cmp) S) (hf : ∃ fn,Try.prog.funcs[f]? = some fn ∧ fn.body.isSome = true ∧ (fn.name != "runtime.NumGoroutine") = true)
 (hc : ∀ x y : Nat,S x → S y → yB Try.prog f [.c (.i x),.c (.i y),.elt ca,.elt cb] (.c (.i (cmp x y)))) {A r B o M0 M1 : List Nat} {a m b N x : Nat} (g : MG (yKO cmp) S A [x] r B o M0 M1 a m b N) :
 InF Try.prog 50 (.c (cw 1 (M0.map yKP))) (.c (cw 1 (M1.map yKP))) [.c (.i a),.c (.i m),.c (.i b),.fn f [.elt ca,.elt cb]] (.tup []):=by
 obtain ⟨hL,hN1,hbN⟩:=g.len1
 have hN:=g.hN; have hn:=g.hn; have ha:=g.ha; have hm:=g.hm; have hb:=g.hb; have h0:=g.h0; have h1:=g.h1
 simp only [List.length_singleton] at hm
 have hx : S x:=g.sl x (by simp)
 rw [yb4 (by rw [List.length_map]; omega),yb4 (by rw [List.length_map,hL]; omega)]
 refine ybO yKW (by simp) (by simp) rfl fun hwf=>?_
 have e1 : ((m : Int) - a) = 1:=by omega
 simp -dsimp -implicitDefEqProofs [yKS,e1]
 refine ⟨by unfold inI; omega,?_⟩
 refine yg (ι:=Nat × Nat) (fun z=>m ≤ z.1 ∧ z.1 ≤ z.2 ∧ z.2 ≤ b ∧ (∀ u ∈ r.take (z.1 - m),yKO cmp u x = true) ∧ (∀ u ∈ r.drop (z.2 - m),yKO cmp u x = false))
  (fun z=>yO [(0,.own 0 1 N),(1,.c (.i a)),(4,.fn f [.elt ca,.elt cb]),(10,.c (.i z.1)),(11,.c (.i z.2)),(1000000,.own 0 1 N)] [(0,.row 1 (M0.map yKP))]) (fun z=>z.2 - z.1) (m,b) ⟨by simp,by simp only; omega,by simp,by simp,by simp [hb]⟩ (by apply yj <;> simp [hN]) ?_
 rintro ⟨i,j⟩ ⟨b1,b2,b3,b4,b5⟩
 simp only at b1 b2 b3 b4 b5
 have hf' : ∃ fn,Try.prog.funcs[f]? = some fn ∧ fn.body.isSome = true ∧ ¬fn.name = "runtime.NumGoroutine":=by simpa using hf
 have wx : M0[a]? = some x:=by rw [h0,yL5 (t:=0) (by omega) (by simp)]; rfl
 have vx:=(List.getElem?_eq_some_iff.1 wx).2
 have kx : a < N:=by rw [hN]; exact (List.getElem?_eq_some_iff.1 wx).1
 rcases Nat.lt_or_ge i j with hlt | hge
 ·obtain ⟨k,hk⟩ : ∃ k,k = (i + j) / 2:=⟨_,rfl⟩
  obtain ⟨y,hy⟩ : ∃ y,r[k - m]? = some y:=⟨_,List.getElem?_eq_getElem (by omega)⟩
  have wy : M0[k]? = some y:=by rw [h0,yL6 (t:=k - m) (by simp; omega) (by omega)]; exact hy
  have vy:=(List.getElem?_eq_some_iff.1 wy).2
  have ky : k < N:=by rw [hN]; exact (List.getElem?_eq_some_iff.1 wy).1
  have hyS:=g.sr y (List.mem_of_getElem? hy)
  simp -dsimp -implicitDefEqProofs [yG hlt,yL0,← hk,wx,vx,kx,wy,vy,ky,yKP]
  refine ⟨by unfold inI; omega,by omega,by omega,by omega,by omega,hf',?_⟩
  refine yaC (hc y x hyS hx) ?_
  simp -dsimp -implicitDefEqProofs
  refine ⟨fun hcm=>?_,fun hcm=>?_⟩
  ·refine ⟨by unfold inI; omega,k + 1,j,⟨by omega,by omega,b3,?_,b5⟩,by omega,?_⟩
   ·rw [show k + 1 - m = (k - m) + 1 by omega]
    exact yNr h g.sr hx g.or hy (by simpa [yKO] using hcm)
   ·apply yj <;> simp
  ·refine ⟨i,k,⟨b1,by omega,by omega,b4,yNj h g.sr hx g.or hy (by simpa [yKO] using hcm)⟩,by omega,?_⟩
   apply yj <;> simp
 ·have hij : i = j:=by omega
  subst hij
  have ho:=yM8 h g.sr hx g.or (fun u hu=>g.cr x (by simp) u hu) b4 b5 g.po g.oo
  obtain ⟨t,ht⟩ : ∃ t,t = i - m:=⟨_,rfl⟩
  rw [← ht] at ho
  have hM0 : M0 = yKU A (r.take 0 ++ x :: r.drop 0) B:=by rw [h0]; simp [yKX,yKU]
  simp -dsimp -implicitDefEqProofs
  refine yg (ι:=Nat) (fun k=>a ≤ k ∧ k ≤ a + t) (fun k=>yO [(0,.own 0 1 N),(10,.c (.i i)),(13,.c (.i k)),(1000000,.own 0 1 N)] [(0,.row 1 ((yKU A (r.take (k - a) ++ x :: r.drop (k - a)) B).map yKP))]) (fun k=>a + t - k) a ⟨Nat.le_refl _,by omega⟩ (by apply yj <;> simp [hM0]) ?_
  rintro k ⟨k1,k2⟩
  rcases Nat.lt_or_ge k (a + t) with klt | kge
  ·obtain ⟨y,hy⟩ : ∃ y,r[k - a]? = some y:=⟨_,List.getElem?_eq_getElem (by omega)⟩
   obtain ⟨w1,w2,w3⟩:=swp_right (A:=A) (B:=B) (x:=x) hy (k:=k) (by omega)
   have hml : (yKU A (r.take (k - a) ++ x :: r.drop (k - a)) B).length = N:=by rw [hN,hM0,yK6,yK6]; simp; omega
   rw [show k - a + 1 = k + 1 - a by omega] at w3
   generalize yKU A (r.take (k - a) ++ x :: r.drop (k - a)) B = M at *
   obtain ⟨j,hj⟩ : ∃ j,j = k + 1:=⟨_,rfl⟩
   rw [← hj] at w2 w3
   have v1:=(List.getElem?_eq_some_iff.1 w1).2
   have v2:=(List.getElem?_eq_some_iff.1 w2).2
   have q1 : k < M.length:=(List.getElem?_eq_some_iff.1 w1).1
   have q2 : j < M.length:=(List.getElem?_eq_some_iff.1 w2).1
   have n1 : k < N:=by omega
   have n2 : j < N:=by omega
   have ej : ((k : Int) + 1) = (j : Int):=by omega
   have c1 : ((k : Int) < (i : Int) - 1) = True:=by simp; omega
   have hr2 : ∀ h,((M.map yKP).set k [C.i y])[j]'h = [C.i y]:=by intro h; rw [List.getElem_set_ne (by omega)]; simp [v2,yKP]
   have hs3 : ((M.map yKP).set k [C.i y]).set j [C.i x] = (yKU A (r.take (j - a) ++ x :: r.drop (j - a)) B).map yKP:=by rw [← w3,List.map_set,List.map_set]; rfl
   simp -dsimp -implicitDefEqProofs [c1,ej,w1,w2,v1,v2,q1,q2,yKP,n1,n2,hr2,hs3]
   refine ⟨by unfold inI; omega,by unfold inI; omega,j,⟨by omega,by omega⟩,by omega,?_⟩
   apply yj <;> simp [hs3]
  ·have c1 : ((k : Int) < (i : Int) - 1) = False:=by simp; omega
   simp -dsimp -implicitDefEqProofs [c1]
   refine ⟨by unfold inI; omega,?_⟩
   rw [show k - a = t by omega,← ho,← h1]
   refine ⟨by rw [List.take_of_length_le (by rw [List.length_map,hL]; exact Nat.le_refl _)],?_⟩
   simp [yml]
theorem yMD (h : SWO (yKO cmp) S) (hf : ∃ fn,Try.prog.funcs[f]? = some fn ∧ fn.body.isSome = true ∧ (fn.name != "runtime.NumGoroutine") = true)
 (hc : ∀ x y : Nat,S x → S y → yB Try.prog f [.c (.i x),.c (.i y),.elt ca,.elt cb] (.c (.i (cmp x y)))) {A l B o M0 M1 : List Nat} {a m b N y : Nat} (hl2 : 2 ≤ l.length) (g : MG (yKO cmp) S A l [y] B o M0 M1 a m b N) :
 InF Try.prog 50 (.c (cw 1 (M0.map yKP))) (.c (cw 1 (M1.map yKP))) [.c (.i a),.c (.i m),.c (.i b),.fn f [.elt ca,.elt cb]] (.tup []):=by
 obtain ⟨hL,hN1,hbN⟩:=g.len1
 have hN:=g.hN; have hn:=g.hn; have ha:=g.ha; have hm:=g.hm; have hb:=g.hb; have h0:=g.h0; have h1:=g.h1
 simp only [List.length_singleton] at hb
 have hx : S y:=g.sr y (by simp)
 rw [yb4 (by rw [List.length_map]; omega),yb4 (by rw [List.length_map,hL]; omega)]
 refine ybO yKW (by simp) (by simp) rfl fun hwf=>?_
 have e1 : ((m : Int) - a = 1) = False:=by simp; omega
 have e2 : ((b : Int) - m) = 1:=by omega
 simp -dsimp -implicitDefEqProofs [yKS,e1,e2]
 refine ⟨by unfold inI; omega,by unfold inI; omega,?_⟩
 refine yg (ι:=Nat × Nat) (fun z=>a ≤ z.1 ∧ z.1 ≤ z.2 ∧ z.2 ≤ m ∧ (∀ u ∈ l.take (z.1 - a),yKO cmp y u = false) ∧ (∀ u ∈ l.drop (z.2 - a),yKO cmp y u = true))
  (fun z=>yO [(0,.own 0 1 N),(2,.c (.i m)),(4,.fn f [.elt ca,.elt cb]),(14,.c (.i z.1)),(15,.c (.i z.2)),(1000000,.own 0 1 N)] [(0,.row 1 (M0.map yKP))]) (fun z=>z.2 - z.1) (a,m) ⟨by simp,by simp only; omega,by simp,by simp,by simp [hm]⟩ (by apply yj <;> simp [hN]) ?_
 rintro ⟨i,j⟩ ⟨b1,b2,b3,b4,b5⟩
 simp only at b1 b2 b3 b4 b5
 have hf' : ∃ fn,Try.prog.funcs[f]? = some fn ∧ fn.body.isSome = true ∧ ¬fn.name = "runtime.NumGoroutine":=by simpa using hf
 have wx : M0[m]? = some y:=by rw [h0,yL6 (t:=0) (by omega) (by simp)]; rfl
 have vx:=(List.getElem?_eq_some_iff.1 wx).2
 have kx : m < N:=by rw [hN]; exact (List.getElem?_eq_some_iff.1 wx).1
 rcases Nat.lt_or_ge i j with hlt | hge
 ·obtain ⟨k,hk⟩ : ∃ k,k = (i + j) / 2:=⟨_,rfl⟩
  obtain ⟨u,hu⟩ : ∃ u,l[k - a]? = some u:=⟨_,List.getElem?_eq_getElem (by omega)⟩
  have wy : M0[k]? = some u:=by rw [h0,yL5 (t:=k - a) (by omega) (by omega)]; exact hu
  have vy:=(List.getElem?_eq_some_iff.1 wy).2
  have ky : k < N:=by rw [hN]; exact (List.getElem?_eq_some_iff.1 wy).1
  have huS:=g.sl u (List.mem_of_getElem? hu)
  simp -dsimp -implicitDefEqProofs [yG hlt,yL0,← hk,wx,vx,kx,wy,vy,ky,yKP]
  refine ⟨by unfold inI; omega,by omega,by omega,by omega,by omega,hf',?_⟩
  refine yaC (hc y u hx huS) ?_
  simp -dsimp -implicitDefEqProofs
  refine ⟨fun hcm=>?_,fun hcm=>?_⟩
  ·refine ⟨by unfold inI; omega,k + 1,j,⟨by omega,by omega,b3,?_,b5⟩,by omega,?_⟩
   ·rw [show k + 1 - a = (k - a) + 1 by omega]
    exact yNl h g.sl hx g.ol hu (by simpa [yKO] using hcm)
   ·apply yj <;> simp
  ·refine ⟨i,k,⟨b1,by omega,by omega,b4,yM6 h g.sl hx g.ol hu (by simpa [yKO] using hcm)⟩,by omega,?_⟩
   apply yj <;> simp
 ·have hij : i = j:=by omega
  subst hij
  have ho:=yMQ h g.sl hx g.ol (fun u hu=>g.cr u hu y (by simp)) b4 b5 g.po g.oo
  have hM0 : M0 = yKU A (l.take (m - a) ++ y :: l.drop (m - a)) B:=by rw [h0,show m - a = l.length by omega]; simp [yKX,yKU]
  simp -dsimp -implicitDefEqProofs
  refine yg (ι:=Nat) (fun k=>i ≤ k ∧ k ≤ m) (fun k=>yO [(0,.own 0 1 N),(14,.c (.i i)),(17,.c (.i k)),(1000000,.own 0 1 N)] [(0,.row 1 ((yKU A (l.take (k - a) ++ y :: l.drop (k - a)) B).map yKP))]) (fun k=>k - i) m ⟨by omega,Nat.le_refl _⟩ (by apply yj <;> simp [← hM0]) ?_
  rintro k ⟨k1,k2⟩
  rcases Nat.lt_or_ge i k with klt | kge
  ·obtain ⟨j,hj⟩ : ∃ j,j = k - 1:=⟨_,rfl⟩
   obtain ⟨u,hu⟩ : ∃ u,l[j - a]? = some u:=⟨_,List.getElem?_eq_getElem (by omega)⟩
   obtain ⟨w1,w2,w3⟩:=swp_left (A:=A) (B:=B) (y:=y) hu (k:=j) (by omega)
   have ejk : j + 1 = k:=by omega
   rw [show j - a + 1 = k - a by omega] at w1 w2 w3
   rw [ejk] at w1 w3
   have hml : (yKU A (l.take (k - a) ++ y :: l.drop (k - a)) B).length = N:=by rw [hN,hM0,yK6,yK6]; simp; omega
   generalize yKU A (l.take (k - a) ++ y :: l.drop (k - a)) B = M at *
   have v1:=(List.getElem?_eq_some_iff.1 w1).2
   have v2:=(List.getElem?_eq_some_iff.1 w2).2
   have q1 : k < M.length:=(List.getElem?_eq_some_iff.1 w1).1
   have q2 : j < M.length:=(List.getElem?_eq_some_iff.1 w2).1
   have n1 : k < N:=by omega
   have n2 : j < N:=by omega
   have ej : ((k : Int) - 1) = (j : Int):=by omega
   have hr2 : ∀ h,((M.map yKP).set k [C.i u])[j]'h = [C.i u]:=by intro h; rw [List.getElem_set_ne (by omega)]; simp [v2,yKP]
   have hs3 : ((M.map yKP).set k [C.i u]).set j [C.i y] = (yKU A (l.take (j - a) ++ y :: l.drop (j - a)) B).map yKP:=by rw [← w3,List.map_set,List.map_set]; rfl
   simp -dsimp -implicitDefEqProofs [yG klt,klt,ej,w1,w2,v1,v2,q1,q2,yKP,n1,n2,hr2,hs3]
   refine ⟨by unfold inI; omega,j,⟨by omega,by omega⟩,by omega,?_⟩
   apply yj <;> simp [hs3]
  ·have hki : k = i:=by omega
   subst hki
   simp -dsimp -implicitDefEqProofs
   rw [← ho,← h1]
   refine ⟨by rw [List.take_of_length_le (by rw [List.length_map,hL]; exact Nat.le_refl _)],?_⟩
   simp [yml]
end
section
variable {cmp : Nat → Nat → Int} {S : Nat → Prop} {f : Nat} {ca cb : List C}
theorem yMb (h : SWO (yKO cmp) S) {l r : List Nat} (hl : ∀ x ∈ l,S x) (hr : ∀ x ∈ r,S x) (sl : l.Pairwise (tot (yKO cmp))) (sr : r.Pairwise (tot (yKO cmp))) (hc : ∀ x ∈ l,∀ y ∈ r,x < y) :
 ∃ o : List Nat,o.Perm (l ++ r) ∧ o.Pairwise (tot (yKO cmp)):=yLC h (fun y hy=>by rcases List.mem_append.1 hy with hy | hy; exact hl y hy; exact hr y hy) (yMs h hl hr sl sr hc)
def yMK (cmp : Nat → Nat → Int) (M0 : List Nat) (n s0 s : Nat) : Prop:=s = s0 ∨ ∃ u v,M0[s - 1]? = some u ∧ M0[n - s]? = some v ∧ yKO cmp v u = false
def yMN (cmp : Nat → Nat → Int) (M0 : List Nat) (p r0 s : Nat) : Prop:=s = r0 ∨ ∃ u v,M0[s]? = some u ∧ M0[p - s]? = some v ∧ yKO cmp v u = true
theorem yM2 (h : SWO (yKO cmp) S) {A l r B o M0 M1 : List Nat} {a m b N d n p s0 r0 s z : Nat} (g : MG (yKO cmp) S A l r B o M0 M1 a m b N) (hd : d = (a + b) / 2) (hn' : n = d + m) (hp : p = n - 1)
 (F1 : s0 ≤ r0) (F2 : a ≤ s0) (F3 : r0 ≤ m) (F4 : r0 ≤ d) (F5 : n ≤ b + s0) (F6 : s0 = a ∨ n - s0 = b) (F7 : r0 = m ∨ r0 = d) (b1 : s0 ≤ s) (b3 : s ≤ r0)
 (b4 : yMK cmp M0 n s0 s) (b5 : yMN cmp M0 p r0 s) (hz : z = n - s) (hl2 : 2 ≤ l.length) (hr2 : 2 ≤ r.length) : ∀ x ∈ l.take (s - a) ++ r.take (z - m),∀ y ∈ l.drop (s - a) ++ r.drop (z - m),tot (yKO cmp) x y:=by
 have ha:=g.ha; have hm:=g.hm; have hb:=g.hb; have h0:=g.h0
 have hA : s - a = 0 ∨ r.length ≤ z - m ∨ ∃ u v,l[s - a - 1]? = some u ∧ r[z - m]? = some v ∧ tot (yKO cmp) u v:=by
  rcases b4 with e | ⟨u,v,hu,hv,hlt⟩
  ·rcases F6 with e2 | e2
   ·left; omega
   ·right; left; omega
  ·rcases Nat.eq_zero_or_pos (s - a) with e | e
   ·exact .inl e
   rcases Nat.lt_or_ge (z - m) r.length with e2 | e2
   ·right; right
    have hu' : l[s - a - 1]? = some u:=by rw [h0,yL5 (t:=s - a - 1) (by omega) (by omega)] at hu; exact hu
    have hv' : r[z - m]? = some v:=by rw [h0,yL6 (t:=z - m) (by omega) (by omega)] at hv; exact hv
    exact ⟨u,v,hu',hv',yMJ (g.cr u (List.mem_of_getElem? hu') v (List.mem_of_getElem? hv')) hlt⟩
   ·exact .inr (.inl e2)
 have hB : z - m = 0 ∨ l.length ≤ s - a ∨ ∃ u v,r[z - m - 1]? = some u ∧ l[s - a]? = some v ∧ tot (yKO cmp) u v:=by
  rcases b5 with e | ⟨u,v,hu,hv,hlt⟩
  ·rcases F7 with e2 | e2
   ·right; left; omega
   ·left; omega
  ·rcases Nat.eq_zero_or_pos (z - m) with e | e
   ·exact .inl e
   rcases Nat.lt_or_ge (s - a) l.length with e2 | e2
   ·right; right
    have hu' : l[s - a]? = some u:=by rw [h0,yL5 (t:=s - a) (by omega) (by omega)] at hu; exact hu
    have hv' : r[z - m - 1]? = some v:=by rw [h0,yL6 (t:=z - m - 1) (by omega) (by omega)] at hv; exact hv
    exact ⟨v,u,hv',hu',.inl hlt⟩
   ·exact .inr (.inl e2)
 exact yNf h g.sl g.sr g.ol g.or hA hB
set_option maxHeartbeats 1000000 in
theorem yMS (h : SWO (yKO cmp) S) {A l r B o M0 M1 : List Nat} {a m b N d n p s0 r0 s z : Nat} (g : MG (yKO cmp) S A l r B o M0 M1 a m b N) (hd : d = (a + b) / 2) (hn' : n = d + m) (hp : p = n - 1)
 (F1 : s0 ≤ r0) (F2 : a ≤ s0) (F3 : r0 ≤ m) (F4 : r0 ≤ d) (F5 : n ≤ b + s0) (F6 : s0 = a ∨ n - s0 = b) (F7 : r0 = m ∨ r0 = d) (b1 : s0 ≤ s) (b3 : s ≤ r0)
 (b4 : yMK cmp M0 n s0 s) (b5 : yMN cmp M0 p r0 s) (hz : z = n - s) (hl2 : 2 ≤ l.length) (hr2 : 2 ≤ r.length) :
 ∃ l1 l2 r1 r2 o1 o2 Mr M2 : List Nat,Mr.length = N ∧ M2.length = N ∧ l1.length = s - a ∧ l2.length = m - s ∧ r1.length = z - m ∧ r2.length = b - z ∧
  (M0 = yKX (A ++ l1) l2 r1 (r2 ++ B) ∧ Mr = yKX (A ++ l1) r1 l2 (r2 ++ B)) ∧
  (a < s → m < z → MG (yKO cmp) S A l1 r1 (l2 ++ (r2 ++ B)) o1 Mr M2 a s d N) ∧ (s < m → z < b → MG (yKO cmp) S (A ++ o1) l2 r2 B o2 M2 M1 d z b N) ∧
  (m ≤ s ∨ z ≤ m → M0 = Mr) ∧ (s ≤ a ∨ z ≤ m → Mr = M2) ∧ (m ≤ s ∨ b ≤ z → M2 = M1):=by
 have hN:=g.hN; have ha:=g.ha; have hm:=g.hm; have hb:=g.hb; have h0:=g.h0; have h1:=g.h1
 have hNl : A.length + l.length + r.length + B.length = N:=by rw [hN,h0,yK0]
 have el : l.take (s - a) ++ l.drop (s - a) = l:=List.take_append_drop _ _
 have er : r.take (z - m) ++ r.drop (z - m) = r:=List.take_append_drop _ _
 have sl1 : ∀ x ∈ l.take (s - a),S x:=fun x hx=>g.sl x (List.mem_of_mem_take hx)
 have sl2 : ∀ x ∈ l.drop (s - a),S x:=fun x hx=>g.sl x (List.mem_of_mem_drop hx)
 have sr1 : ∀ x ∈ r.take (z - m),S x:=fun x hx=>g.sr x (List.mem_of_mem_take hx)
 have sr2 : ∀ x ∈ r.drop (z - m),S x:=fun x hx=>g.sr x (List.mem_of_mem_drop hx)
 have ol:=g.ol; have or:=g.or
 rw [← el,List.pairwise_append] at ol
 rw [← er,List.pairwise_append] at or
 have cross:=yM2 h g hd hn' hp F1 F2 F3 F4 F5 F6 F7 b1 b3 b4 b5 hz hl2 hr2
 have zb : m ≤ z ∧ z ≤ b ∧ s ≤ m ∧ a ≤ s ∧ s + z = d + m:=by omega
 obtain ⟨zb1,zb2,zb3,zb4,zb5⟩:=zb
 clear b4 b5 F1 F2 F3 F4 F5 F6 F7 b1 b3 hz hp hn' hd
 obtain ⟨o1,po1,so1⟩:=yMb h sl1 sr1 ol.1 or.1 (fun x hx y hy=>g.cr x (List.mem_of_mem_take hx) y (List.mem_of_mem_take hy))
 obtain ⟨o2,po2,so2⟩:=yMb h sl2 sr2 ol.2.1 or.2.1 (fun x hx y hy=>g.cr x (List.mem_of_mem_drop hx) y (List.mem_of_mem_drop hy))
 have ho:=halves h g.sl g.sr g.po g.oo po1 so1 po2 so2 cross
 have lo1:=po1.length_eq
 have lo2:=po2.length_eq
 have q1 : (l.take (s - a)).length = s - a:=by rw [List.length_take]; omega
 have q2 : (l.drop (s - a)).length = m - s:=by rw [List.length_drop]; omega
 have q3 : (r.take (z - m)).length = z - m:=by rw [List.length_take]; omega
 have q4 : (r.drop (z - m)).length = b - z:=by rw [List.length_drop]; omega
 rw [List.length_append] at lo1 lo2
 have hM0 : M0 = yKX (A ++ l.take (s - a)) (l.drop (s - a)) (r.take (z - m)) (r.drop (z - m) ++ B):=by
  rw [h0]; conv=>lhs; rw [← el,← er]
  simp only [yKX,List.append_assoc]
 have one1 : l.take (s - a) = [] ∨ r.take (z - m) = [] → o1 = l.take (s - a) ++ r.take (z - m):=fun e=>by
  refine yK4 h (S:=S) (fun x hx=>?_) po1 so1 ?_
  ·rcases List.mem_append.1 (po1.mem_iff.1 hx) with hx | hx
   ·exact sl1 x hx
   ·exact sr1 x hx
  ·rcases e with e | e <;> rw [e]
   ·simpa using or.1
   ·simpa using ol.1
 have one2 : l.drop (s - a) = [] ∨ r.drop (z - m) = [] → o2 = l.drop (s - a) ++ r.drop (z - m):=fun e=>by
  refine yK4 h (S:=S) (fun x hx=>?_) po2 so2 ?_
  ·rcases List.mem_append.1 (po2.mem_iff.1 hx) with hx | hx
   ·exact sl2 x hx
   ·exact sr2 x hx
  ·rcases e with e | e <;> rw [e]
   ·simpa using or.2.1
   ·simpa using ol.2.1
 generalize l.take (s - a) = l1 at *
 generalize l.drop (s - a) = l2 at *
 generalize r.take (z - m) = r1 at *
 generalize r.drop (z - m) = r2 at *
 have nil : ∀ {x : List Nat} {k : Nat},x.length = k → k = 0 → x = []:=fun h1 h2=>List.length_eq_zero_iff.1 (h1.trans h2)
 refine ⟨l1,l2,r1,r2,o1,o2,yKX (A ++ l1) r1 l2 (r2 ++ B),yKU A o1 (l2 ++ (r2 ++ B)),?_,?_,q1,q2,q3,q4,⟨hM0,rfl⟩,fun e1 e2=>?_,fun e1 e2=>?_,fun e=>?_,fun e=>?_,fun e=>?_⟩
 ·rw [yK0]; simp only [List.length_append]; omega
 ·rw [yK6]; simp only [List.length_append]; omega
 ·exact ⟨by omega,by omega,sl1,sr1,ol.1,or.1,fun x hx y hy=>g.cr x (by rw [← el]; simp [hx]) y (by rw [← er]; simp [hy]),po1,so1,ha,by omega,by omega,by simp [yKX],rfl,by rw [yK0]; simp only [List.length_append]; omega,g.hn⟩
 ·exact ⟨by omega,by omega,sl2,sr2,ol.2.1,or.2.1,fun x hx y hy=>g.cr x (by rw [← el]; simp [hx]) y (by rw [← er]; simp [hy]),po2,so2,by simp only [List.length_append]; omega,by omega,by omega,by simp [yKX,yKU],by rw [h1,ho]; simp [yKU],by rw [yK6]; simp only [List.length_append]; omega,g.hn⟩
 ·rw [hM0]
  rcases e with e | e
  ·rw [nil q2 (by omega)]; simp [yKX]
  ·rw [nil q3 (by omega)]; simp [yKX]
 ·rcases e with e | e
  ·rw [one1 (.inl (nil q1 (by omega)))]; simp [yKX,yKU]
  ·rw [one1 (.inr (nil q3 (by omega)))]; simp [yKX,yKU]
 ·rw [h1,ho]
  rcases e with e | e
  ·rw [one2 (.inl (nil q2 (by omega)))]; simp [yKU]
  ·rw [one2 (.inr (nil q4 (by omega)))]; simp [yKU]
set_option maxHeartbeats 4000000 in
theorem yNg (h : SWO (yKO cmp) S) (hf : ∃ fn,Try.prog.funcs[f]? = some fn ∧ fn.body.isSome = true ∧ (fn.name != "runtime.NumGoroutine") = true)
 (hc : ∀ x y : Nat,S x → S y → yB Try.prog f [.c (.i x),.c (.i y),.elt ca,.elt cb] (.c (.i (cmp x y)))) {A l r B o M0 M1 : List Nat} {a m b N : Nat} (hl2 : 2 ≤ l.length) (hr2 : 2 ≤ r.length) (g : MG (yKO cmp) S A l r B o M0 M1 a m b N)
 (ih : ∀ (A' l' r' B' o' M0' M1' : List Nat) (a' m' b' : Nat),l'.length + r'.length < l.length + r.length → MG (yKO cmp) S A' l' r' B' o' M0' M1' a' m' b' N →
  InF Try.prog 50 (.c (cw 1 (M0'.map yKP))) (.c (cw 1 (M1'.map yKP))) [.c (.i a'),.c (.i m'),.c (.i b'),.fn f [.elt ca,.elt cb]] (.tup [])) :
 InF Try.prog 50 (.c (cw 1 (M0.map yKP))) (.c (cw 1 (M1.map yKP))) [.c (.i a),.c (.i m),.c (.i b),.fn f [.elt ca,.elt cb]] (.tup []):=by
 obtain ⟨hL,hN1,hbN⟩:=g.len1
 have hN:=g.hN; have hn:=g.hn; have ha:=g.ha; have hm:=g.hm; have hb:=g.hb; have h0:=g.h0; have h1:=g.h1
 have hNl : A.length + l.length + r.length + B.length = N:=by rw [hN,h0,yK0]
 rw [yb4 (by rw [List.length_map]; omega),yb4 (by rw [List.length_map,hL]; omega)]
 refine ybO yKW (by simp) (by simp) rfl fun hwf=>?_
 have e1 : ((m : Int) - a = 1) = False:=by simp; omega
 have e2 : ((b : Int) - m = 1) = False:=by simp; omega
 obtain ⟨d,hd⟩ : ∃ d,d = (a + b) / 2:=⟨_,rfl⟩
 obtain ⟨n,hn'⟩ : ∃ n,n = d + m:=⟨_,rfl⟩
 obtain ⟨p,hp⟩ : ∃ p,p = n - 1:=⟨_,rfl⟩
 have en : ((d : Int) + m) = (n : Int):=by omega
 have ep : ((n : Int) - 1) = (p : Int):=by omega
 have hf' : ∃ fn,Try.prog.funcs[f]? = some fn ∧ fn.body.isSome = true ∧ ¬fn.name = "runtime.NumGoroutine":=by simpa using hf
 obtain ⟨s0,r0,hs1,hs2⟩ : ∃ s0 r0 : Nat,(d < m → s0 = n - b ∧ r0 = d) ∧ (m ≤ d → s0 = a ∧ r0 = m):=by
  rcases Nat.lt_or_ge d m with q | q
  ·exact ⟨n - b,d,fun _=>⟨rfl,rfl⟩,fun q2=>by omega⟩
  ·exact ⟨a,m,fun q2=>by omega,fun _=>⟨rfl,rfl⟩⟩
 have F : s0 ≤ r0 ∧ a ≤ s0 ∧ r0 ≤ m ∧ r0 ≤ d ∧ n ≤ b + s0 ∧ (s0 = a ∨ n - s0 = b) ∧ (r0 = m ∨ r0 = d):=by
  rcases Nat.lt_or_ge d m with q | q
  ·obtain ⟨z1,z2⟩:=hs1 q; omega
  ·obtain ⟨z1,z2⟩:=hs2 q; omega
 obtain ⟨F1,F2,F3,F4,F5,F6,F7⟩:=F
 simp -dsimp -implicitDefEqProofs [yKS,e1,e2,yL0,← hd,en,ep]
 refine ⟨by unfold inI; omega,by unfold inI; omega,by unfold inI; omega,by omega,by omega,by unfold inI; omega,fun hdm=>?_,fun hdm=>?_⟩
 case' refine_1 =>
  obtain ⟨z1,er⟩:=hs1 hdm
  have es : ((n : Int) - b) = (s0 : Int):=by omega
  refine ⟨by unfold inI; omega,by unfold inI; omega,?_⟩
  refine yg (ι:=Nat × Nat) (fun z=>s0 ≤ z.1 ∧ z.1 ≤ z.2 ∧ z.2 ≤ r0 ∧ yMK cmp M0 n s0 z.1 ∧ yMN cmp M0 p r0 z.2) (fun z=>yO [(0,.own 0 1 N),(1,.c (.i a)),(2,.c (.i m)),(3,.c (.i b)),(4,.fn f [.elt ca,.elt cb]),(18,.c (.i d)),(19,.c (.i n)),(20,.c (.i z.1)),(21,.c (.i z.2)),(22,.c (.i p)),(1000000,.own 0 1 N)] [(0,.row 1 (M0.map yKP))]) (fun z=>z.2 - z.1) (s0,r0) ⟨Nat.le_refl _,F1,Nat.le_refl _,.inl rfl,.inl rfl⟩ (by apply yj <;> simp [hN,es,er]) ?_
 case' refine_2 =>
  obtain ⟨es,er⟩:=hs2 hdm
  refine ⟨by unfold inI; omega,?_⟩
  refine yg (ι:=Nat × Nat) (fun z=>s0 ≤ z.1 ∧ z.1 ≤ z.2 ∧ z.2 ≤ r0 ∧ yMK cmp M0 n s0 z.1 ∧ yMN cmp M0 p r0 z.2) (fun z=>yO [(0,.own 0 1 N),(1,.c (.i a)),(2,.c (.i m)),(3,.c (.i b)),(4,.fn f [.elt ca,.elt cb]),(18,.c (.i d)),(19,.c (.i n)),(20,.c (.i z.1)),(21,.c (.i z.2)),(22,.c (.i p)),(1000000,.own 0 1 N)] [(0,.row 1 (M0.map yKP))]) (fun z=>z.2 - z.1) (s0,r0) ⟨Nat.le_refl _,F1,Nat.le_refl _,.inl rfl,.inl rfl⟩ (by apply yj <;> simp [hN,es,er]) ?_
 all_goals
  rintro ⟨s,e⟩ ⟨b1,b2,b3,b4,b5⟩
  simp only at b1 b2 b3 b4 b5
  rcases Nat.lt_or_ge s e with hlt | hge
  ·obtain ⟨k,hk⟩ : ∃ k,k = (s + e) / 2:=⟨_,rfl⟩
   obtain ⟨q,hq⟩ : ∃ q,q = p - k:=⟨_,rfl⟩
   have eq : ((p : Int) - k) = (q : Int):=by omega
   obtain ⟨u,hu⟩ : ∃ u,l[k - a]? = some u:=⟨_,List.getElem?_eq_getElem (by omega)⟩
   obtain ⟨v,hv⟩ : ∃ v,r[q - m]? = some v:=⟨_,List.getElem?_eq_getElem (by omega)⟩
   have wu : M0[k]? = some u:=by rw [h0,yL5 (t:=k - a) (by omega) (by omega)]; exact hu
   have wv : M0[q]? = some v:=by rw [h0,yL6 (t:=q - m) (by omega) (by omega)]; exact hv
   have vu:=(List.getElem?_eq_some_iff.1 wu).2
   have vv:=(List.getElem?_eq_some_iff.1 wv).2
   have ku : k < N:=by rw [hN]; exact (List.getElem?_eq_some_iff.1 wu).1
   have kv : q < N:=by rw [hN]; exact (List.getElem?_eq_some_iff.1 wv).1
   have uS:=g.sl u (List.mem_of_getElem? hu)
   have vS:=g.sr v (List.mem_of_getElem? hv)
   simp -dsimp -implicitDefEqProofs [yG hlt,yL0,← hk,eq,wu,vu,ku,wv,vv,kv,yKP]
   refine ⟨by unfold inI; omega,by omega,by omega,by unfold inI; omega,by omega,by omega,hf',?_⟩
   refine yaC (hc v u vS uS) ?_
   simp -dsimp -implicitDefEqProofs
   refine ⟨fun hcm=>?_,fun hcm=>?_⟩
   ·have hcf : yKO cmp v u = false:=by simpa [yKO] using hcm
    refine ⟨by unfold inI; omega,k + 1,e,⟨by omega,by omega,b3,.inr ⟨u,v,wu,by rw [show n - (k + 1) = q by omega]; exact wv,hcf⟩,b5⟩,by omega,?_⟩
    apply yj <;> simp
   ·have hcf : yKO cmp v u = true:=by simpa [yKO] using hcm
    refine ⟨s,k,⟨b1,by omega,by omega,b4,.inr ⟨u,v,wu,by rw [← hq]; exact wv,hcf⟩⟩,by omega,?_⟩
    apply yj <;> simp
  ·have hse : s = e:=by omega
   subst hse
   obtain ⟨z,hz⟩ : ∃ z,z = n - s:=⟨_,rfl⟩
   have ez : ((n : Int) - s) = (z : Int):=by omega
   obtain ⟨l1,l2,r1,r2,o1,o2,Mr,M2,p1⟩:=yMS h g hd hn' hp F1 F2 F3 F4 F5 F6 F7 b1 b3 b4 b5 hz hl2 hr2
   obtain ⟨hmr,hm2,hL1,hL2,hR1,hR2,hmr1,hmg1,hmg2,n1,n2,n3⟩:=p1
   have hrot:=fun (c1 : s < m) (c2 : m < z)=>yNn (A ++ l1) l2 r1 (r2 ++ B) M0 Mr hmr1.1 hmr1.2 s m z N (by omega) (by omega) (by simp; omega) (by omega) (by omega) hN hn f ca cb
   have hm1:=fun c1 c2=>ih _ _ _ _ _ _ _ _ _ _ (by omega) (hmg1 c1 c2)
   have hm2':=fun c1 c2=>ih _ _ _ _ _ _ _ _ _ _ (by omega) (hmg2 c1 c2)
   clear hmg1 hmg2 ih
   have lr : (Mr.map yKP).length = N:=by rw [List.length_map,hmr]
   have l0 : (M0.map yKP).length = N:=by rw [List.length_map,hN]
   have lm2 : (M2.map yKP).length = N:=by rw [List.length_map,hm2]
   have lm1 : (M1.map yKP).length = N:=by rw [List.length_map,hL]
   cases hb1 : decide (s < m) <;> cases hb2 : decide (m < z) <;> cases hb5 : decide (a < s) <;> cases hb6 : decide (z < b)
   all_goals
    have hb3 : decide (s < d) = decide (m < z):=decide_eq_decide.2 (by omega)
    have hb4 : decide (d < z) = decide (s < m):=decide_eq_decide.2 (by omega)
    rw [hb2] at hb3
    rw [hb1] at hb4
    have c1:=hb1
    have c2:=hb2
    have c5:=hb5
    have c6:=hb6
    simp only [decide_eq_true_eq,decide_eq_false_iff_not,Nat.not_lt] at c1 c2 c5 c6
    first
     | (exfalso; omega)
     | skip
   all_goals
    try rw [n1 (by omega)]
    simp -dsimp -implicitDefEqProofs [ez,hb1,hb2,hb3,hb4,hb5,hb6]
    refine ⟨by unfold inI; omega,?_⟩
    try
     refine ycW (up:=some (0,.row 1 (Mr.map yKP))) (hrot c1 c2) (by simp) rfl rfl (ybY (rows:=M0.map yKP) (by simp) rfl rfl (by simp [l0]) (by simp [l0,lr]) rfl rfl) ?_
     simp -dsimp -implicitDefEqProofs [hb1,hb2,hb3,hb4,hb5,hb6]
    try rw [n2 (by omega)]
    try
     refine ycW (up:=some (0,.row 1 (M2.map yKP))) (hm1 c5 c2) (by simp) rfl rfl (ybY (rows:=Mr.map yKP) (by simp) rfl rfl (by simp [lr]) (by simp [lm2,lr]) rfl rfl) ?_
     simp -dsimp -implicitDefEqProofs [hb1,hb2,hb3,hb4,hb5,hb6]
    try rw [n3 (by omega)]
    try
     refine ycW (up:=some (0,.row 1 (M1.map yKP))) (hm2' c1 c6) (by simp) rfl rfl (ybY (rows:=M2.map yKP) (by simp) rfl rfl (by simp [lm2]) (by simp [lm2,lm1]) rfl rfl) ?_
     simp -dsimp -implicitDefEqProofs [hb1,hb2,hb3,hb4,hb5,hb6]
    exact ⟨by rw [List.take_of_length_le (by rw [lm1]; exact Nat.le_refl _)],by simp [yml]⟩
theorem yMF (h : SWO (yKO cmp) S) (hf : ∃ fn,Try.prog.funcs[f]? = some fn ∧ fn.body.isSome = true ∧ (fn.name != "runtime.NumGoroutine") = true)
 (hc : ∀ x y : Nat,S x → S y → yB Try.prog f [.c (.i x),.c (.i y),.elt ca,.elt cb] (.c (.i (cmp x y)))) {N : Nat} : ∀ (k : Nat) (A l r B o M0 M1 : List Nat) (a m b : Nat),l.length + r.length ≤ k → MG (yKO cmp) S A l r B o M0 M1 a m b N →
 InF Try.prog 50 (.c (cw 1 (M0.map yKP))) (.c (cw 1 (M1.map yKP))) [.c (.i a),.c (.i m),.c (.i b),.fn f [.elt ca,.elt cb]] (.tup [])
 | 0,A,l,r,B,o,M0,M1,a,m,b,hk,g=>by have:=g.pl; omega
 | k + 1,A,l,r,B,o,M0,M1,a,m,b,hk,g=>by
  have pl:=g.pl; have pr:=g.pr
  rcases Nat.lt_or_ge l.length 2 with e | e
  ·obtain ⟨x,rfl⟩:=List.length_eq_one_iff.1 (show l.length = 1 by omega)
   exact yMW h hf hc g
  rcases Nat.lt_or_ge r.length 2 with e2 | e2
  ·obtain ⟨y,rfl⟩:=List.length_eq_one_iff.1 (show r.length = 1 by omega)
   exact yMD h hf hc e g
  exact yNg h hf hc e e2 g fun A' l' r' B' o' M0' M1' a' m' b' hk' g'=>yMF h hf hc k A' l' r' B' o' M0' M1' a' m' b' (by omega) g'
end
def bl (lt : Nat → Nat → Bool) (s : Nat) : Nat → List Nat → List Nat
 | 0,_=>[]
 | k + 1,l=>sorted lt (l.take s) ++ bl lt s k (l.drop s)
def blk (lt : Nat → Nat → Bool) (s : Nat) (l : List Nat) : List Nat:=bl lt s l.length l
section
variable {lt : Nat → Nat → Bool} {s : Nat}
theorem yLE : ∀ k : Nat,bl lt s k [] = []
 | 0=>rfl
 | k + 1=>by simp [bl,yLE k,sorted,yLg]
theorem yMn (hs : 1 ≤ s) : ∀ (k k' : Nat) (l : List Nat),l.length ≤ k → l.length ≤ k' → bl lt s k l = bl lt s k' l
 | 0,k',l,h,_=>by
  rw [List.length_eq_zero_iff.1 (show l.length = 0 by omega),yLE,yLE]
 | k + 1,0,l,_,h=>by rw [List.length_eq_zero_iff.1 (show l.length = 0 by omega),yLE,yLE]
 | k + 1,k' + 1,l,h,h'=>by
  rcases Nat.eq_zero_or_pos l.length with e | e
  ·rw [List.length_eq_zero_iff.1 e,yLE,yLE]
  ·unfold bl
   rw [yMn hs k k' (l.drop s) (by rw [List.length_drop]; omega) (by rw [List.length_drop]; omega)]
theorem yLl (hs : 1 ≤ s) (l : List Nat) : blk lt s l = sorted lt (l.take s) ++ blk lt s (l.drop s):=by
 rcases Nat.eq_zero_or_pos l.length with e | e
 ·rw [List.length_eq_zero_iff.1 e]; simp [blk,bl,sorted,yLg]
 ·unfold blk
  rw [yMn hs l.length ((l.length - 1) + 1) l (by omega) (by omega)]
  show sorted lt (l.take s) ++ bl lt s (l.length - 1) (l.drop s) = _
  rw [yMn hs (l.length - 1) (l.drop s).length (l.drop s) (by rw [List.length_drop]; omega) (Nat.le_refl _)]
theorem yLR (hs : 1 ≤ s) {l : List Nat} (h : l.length ≤ s) : blk lt s l = sorted lt l:=by
 rw [yLl hs,List.take_of_length_le h,List.drop_of_length_le h]
 simp [blk,bl]
theorem yLm (hs : 1 ≤ s) : ∀ (q : Nat) (u v : List Nat),u.length = q * s → v.length ≤ s → blk lt s (u ++ v) = blk lt s u ++ sorted lt v
 | 0,u,v,h,hv=>by
  rw [List.length_eq_zero_iff.1 (show u.length = 0 by omega),List.nil_append,yLR hs hv]; rfl
 | q + 1,u,v,h,hv=>by
  rw [Nat.succ_mul] at h
  rw [yLl hs (u ++ v),yLl hs u,List.take_append_of_le_length (by omega),List.drop_append_of_le_length (by omega),yLm hs q (u.drop s) v (by rw [List.length_drop]; omega) hv,List.append_assoc]
theorem yLh (hs : 1 ≤ s) : ∀ (k : Nat) (l : List Nat),l.length ≤ k → (blk lt s l).length = l.length
 | 0,l,h=>by rw [List.length_eq_zero_iff.1 (show l.length = 0 by omega)]; rfl
 | k + 1,l,h=>by
  rcases Nat.eq_zero_or_pos l.length with e | e
  ·rw [List.length_eq_zero_iff.1 e]; rfl
  ·rw [yLl hs,List.length_append,sorted_perm.length_eq,yLh hs k (l.drop s) (by rw [List.length_drop]; omega),List.length_take,List.length_drop]; omega
end
section
variable {cmp : Nat → Nat → Int} {S : Nat → Prop} {f : Nat} {ca cb : List C}
def yLt (lt : Nat → Nat → Bool) (xs : List Nat) (a : Nat) : List Nat:=blk lt 20 (xs.take a) ++ xs.drop a
def yLw (lt : Nat → Nat → Bool) (s : Nat) (xs : List Nat) (a : Nat) : List Nat:=blk lt (2 * s) (xs.take a) ++ blk lt s (xs.drop a)
theorem yLv {lt : Nat → Nat → Bool} {xs : List Nat} {a : Nat} : (yLt lt xs a).length = xs.length:=by
 unfold yLt; rw [List.length_append,yLh (by omega) _ _ (Nat.le_refl _),List.length_take,List.length_drop]; omega
theorem yL9 {lt : Nat → Nat → Bool} {s : Nat} {xs : List Nat} {a : Nat} (hs : 1 ≤ s) : (yLw lt s xs a).length = xs.length:=by
 unfold yLw; rw [List.length_append,yLh (by omega) _ _ (Nat.le_refl _),yLh hs _ _ (Nat.le_refl _),List.length_take,List.length_drop]; omega
theorem yM3 {lt : Nat → Nat → Bool} {xs : List Nat} {a q : Nat} (ha : a = q * 20) (h : a + 20 ≤ xs.length) :
 yLt lt xs a = yKU (blk lt 20 (xs.take a)) ((xs.drop a).take 20) (xs.drop (a + 20)) ∧ yLt lt xs (a + 20) = yKU (blk lt 20 (xs.take a)) (sorted lt ((xs.drop a).take 20)) (xs.drop (a + 20)):=by
 have e : xs.take (a + 20) = xs.take a ++ (xs.drop a).take 20:=List.take_add
 refine ⟨?_,?_⟩
 ·unfold yLt yKU
  congr 1
  rw [← List.drop_drop,List.take_append_drop]
 ·unfold yLt yKU
  rw [e,yLm (by omega) q _ _ (by rw [List.length_take]; omega) (by rw [List.length_take]; omega),List.append_assoc]
theorem yNa {lt : Nat → Nat → Bool} {xs : List Nat} {a q : Nat} (ha : a = q * 20) (h : a ≤ xs.length) (h2 : xs.length < a + 20) :
 yLt lt xs a = yKU (blk lt 20 (xs.take a)) (xs.drop a) [] ∧ blk lt 20 xs = yKU (blk lt 20 (xs.take a)) (sorted lt (xs.drop a)) []:=by
 refine ⟨by simp [yLt,yKU],?_⟩
 conv=>lhs; rw [← List.take_append_drop a xs]
 rw [yLm (by omega) q _ _ (by rw [List.length_take]; omega) (by rw [List.length_drop]; omega)]
 simp [yKU]
theorem yMk (h : SWO (yKO cmp) S) {xs : List Nat} (hS : ∀ x ∈ xs,S x) (hup : xs.Pairwise (·< ·)) {a q s N : Nat} (hs : 1 ≤ s) (ha : a = q * (2 * s)) {b : Nat} (hb : b = if a + 2 * s ≤ xs.length then a + 2 * s else xs.length) (h2 : a + s < xs.length) (hN : N = xs.length) (hn : N ≤ 1048576) :
 MG (yKO cmp) S (blk (yKO cmp) (2 * s) (xs.take a)) (sorted (yKO cmp) ((xs.drop a).take s)) (sorted (yKO cmp) ((xs.drop (a + s)).take s)) (blk (yKO cmp) s (xs.drop (a + 2 * s))) (sorted (yKO cmp) ((xs.drop a).take (2 * s)))
  (yLw (yKO cmp) s xs a) (if a + 2 * s ≤ xs.length then yLw (yKO cmp) s xs (a + 2 * s) else blk (yKO cmp) (2 * s) xs) a (a + s) b N:=by
 have lA : (blk (yKO cmp) (2 * s) (xs.take a)).length = a:=by rw [yLh (by omega) _ _ (Nat.le_refl _),List.length_take]; omega
 have l1 : ((xs.drop a).take s).length = s:=by rw [List.length_take,List.length_drop]; omega
 have l2 : ((xs.drop (a + s)).take s).length = b - (a + s):=by rw [List.length_take,List.length_drop,hb]; split <;> omega
 have hb2 : a + s < b:=by rw [hb]; split <;> omega
 have e2 : (xs.drop a).take (2 * s) = (xs.drop a).take s ++ (xs.drop (a + s)).take s:=by
  rw [show 2 * s = s + s by omega,List.take_add,List.drop_drop]
 have sub : ∀ {l : List Nat},l.Sublist xs → (∀ x ∈ l,S x) ∧ l.Pairwise (·< ·):=fun hl=>⟨fun x hx=>hS x (hl.subset hx),hup.sublist hl⟩
 have c1:=sub ((List.take_sublist s (xs.drop a)).trans (List.drop_sublist a xs))
 have c2:=sub ((List.take_sublist s (xs.drop (a + s))).trans (List.drop_sublist (a + s) xs))
 have c3:=sub ((List.take_sublist (2 * s) (xs.drop a)).trans (List.drop_sublist a xs))
 have p1:=sorted_perm (lt:=yKO cmp) (xs:=(xs.drop a).take s)
 have p2:=sorted_perm (lt:=yKO cmp) (xs:=(xs.drop (a + s)).take s)
 have p3:=sorted_perm (lt:=yKO cmp) (xs:=(xs.drop a).take (2 * s))
 have hM0 : yLw (yKO cmp) s xs a = yKX (blk (yKO cmp) (2 * s) (xs.take a)) (sorted (yKO cmp) ((xs.drop a).take s)) (sorted (yKO cmp) ((xs.drop (a + s)).take s)) (blk (yKO cmp) s (xs.drop (a + 2 * s))):=by
  unfold yLw yKX
  rw [yLl hs (xs.drop a),List.drop_drop,yLl hs (xs.drop (a + s)),List.drop_drop,show a + s + s = a + 2 * s by omega]
 have c3u:=c3.2
 rw [e2,List.pairwise_append] at c3u
 refine ⟨by rw [p1.length_eq]; omega,by rw [p2.length_eq]; omega,fun x hx=>c1.1 x (p1.mem_iff.1 hx),fun x hx=>c2.1 x (p2.mem_iff.1 hx),yLI h c1.1 c1.2,yLI h c2.1 c2.2,fun x hx y hy=>c3u.2.2 x (p1.mem_iff.1 hx) y (p2.mem_iff.1 hy),?_,yLI h c3.1 c3.2,lA.symm,by rw [p1.length_eq,l1],by rw [p2.length_eq,l2]; omega,hM0,?_,by rw [yL9 hs]; exact hN,hn⟩
 ·refine p3.trans ?_
  rw [e2]
  exact (p1.append p2).symm
 ·split
  ·rename_i hle
   unfold yLw yKU
   rw [show xs.take (a + 2 * s) = xs.take a ++ (xs.drop a).take (2 * s) from List.take_add,yLm (by omega) q _ _ (by rw [List.length_take]; omega) (by rw [List.length_take]; omega),List.append_assoc]
  ·rename_i hle
   have e3 : (xs.drop a).take (2 * s) = xs.drop a:=List.take_of_length_le (by rw [List.length_drop]; omega)
   rw [e3,show xs.drop (a + 2 * s) = [] from List.drop_of_length_le (by omega)]
   conv=>lhs; rw [← List.take_append_drop a xs]
   rw [yLm (by omega) q _ _ (by rw [List.length_take]; omega) (by rw [List.length_drop]; omega)]
   simp [yKU,blk,bl]
theorem yM9 {lt : Nat → Nat → Bool} {xs : List Nat} {a q s : Nat} (hs : 1 ≤ s) (ha : a = q * (2 * s)) (h1 : a ≤ xs.length) (h2 : xs.length ≤ a + s) : yLw lt s xs a = blk lt (2 * s) xs:=by
 unfold yLw
 conv=>rhs; rw [← List.take_append_drop a xs]
 rw [yLm (by omega) q _ _ (by rw [List.length_take]; omega) (by rw [List.length_drop]; omega),yLR hs (by rw [List.length_drop]; omega)]
theorem yM1 (h : SWO (yKO cmp) S) (hf : ∃ fn,Try.prog.funcs[f]? = some fn ∧ fn.body.isSome = true ∧ (fn.name != "runtime.NumGoroutine") = true)
 (hc : ∀ x y : Nat,S x → S y → yB Try.prog f [.c (.i x),.c (.i y),.elt ca,.elt cb] (.c (.i (cmp x y)))) (xs : List Nat) (hS : ∀ x ∈ xs,S x) (hup : xs.Pairwise (·< ·)) (N : Nat) (hN : N = xs.length) (hn1 : 1 ≤ N) (hn2 : N ≤ 1048576) :
 InF Try.prog 39 (.c (cw 1 (xs.map yKP))) (.c (cw 1 ((sorted (yKO cmp) xs).map yKP))) [.c (.i N),.fn f [.elt ca,.elt cb]] (.tup []):=by
 have hpl : (sorted (yKO cmp) xs).length = xs.length:=sorted_perm.length_eq
 rw [yb4 (by simp; omega),yb4 (by rw [List.length_map,hpl]; omega)]
 refine ybO yK5 (by simp) (by simp) rfl fun hwf=>?_
 have i0 : yLt (yKO cmp) xs 0 = xs:=by simp [yLt,blk,bl]
 simp -dsimp -implicitDefEqProofs
 refine yg (ι:=Nat × Nat × Nat) (fun z=>z.1 = z.2.2 * 20 ∧ z.2.1 = z.1 + 20 ∧ z.1 ≤ N) (fun z=>yO [(0,.own 0 1 N),(1,.c (.i N)),(2,.fn f [.elt ca,.elt cb]),(6,.c (.i 20)),(7,.c (.i z.1)),(8,.c (.i z.2.1)),(1000000,.own 0 1 N)] [(0,.row 1 ((yLt (yKO cmp) xs z.1).map yKP))]) (fun z=>N - z.1) (0,20,0) ⟨rfl,rfl,Nat.zero_le _⟩ (by apply yj <;> simp [hN,i0]) ?_
 rintro ⟨a,b,q⟩ ⟨h1,h2,h3⟩
 simp only at h1 h2 h3
 have lA : (blk (yKO cmp) 20 (xs.take a)).length = a:=by rw [yLh (by omega) _ _ (Nat.le_refl _),List.length_take]; omega
 rcases Nat.lt_or_ge N b with hlt | hge
 ·have q1 : ((b : Int) ≤ (N : Int)) = False:=by simp; omega
  have q1' : (b ≤ N) = False:=by simp; omega
  obtain ⟨e1,e2⟩:=yNa (lt:=yKO cmp) (xs:=xs) h1 (by omega) (by omega)
  have hi:=yL7 cmp _ _ _ _ _ e1 e2 a N N lA.symm (by rw [List.length_drop]; omega) (by rw [yLv]; exact hN) hn1 hn2 f ca cb hf (fun x y hx hy=>hc x y (hS x (List.mem_of_mem_drop hx)) (hS y (List.mem_of_mem_drop hy)))
  have lb : (blk (yKO cmp) 20 xs).length = N:=by rw [yLh (by omega) _ _ (Nat.le_refl _)]; exact hN.symm
  have ls : (yLt (yKO cmp) xs a).length = N:=by rw [yLv]; exact hN.symm
  simp -dsimp -implicitDefEqProofs [q1,q1']
  refine ycW (up:=some (0,.row 1 ((blk (yKO cmp) 20 xs).map yKP))) hi (by simp) rfl rfl (ybY (rows:=(yLt (yKO cmp) xs a).map yKP) (by simp) rfl rfl (by simp [ls]) (by simp [ls,lb]) rfl rfl) ?_
  simp -dsimp -implicitDefEqProofs
  refine yg (ι:=Nat) (fun s=>20 ≤ s ∧ s ≤ 2 * N + 20) (fun s=>yO [(0,.own 0 1 N),(1,.c (.i N)),(2,.fn f [.elt ca,.elt cb]),(6,.c (.i s)),(1000000,.own 0 1 N)] [(0,.row 1 ((blk (yKO cmp) s xs).map yKP))]) (fun s=>N - s) 20 ⟨Nat.le_refl _,by omega⟩ (by apply yj <;> simp) ?_
  rintro s ⟨s1,s2⟩
  rcases Nat.lt_or_ge s N with slt | sge
  ·obtain ⟨t,ht⟩ : ∃ t,t = 2 * s:=⟨_,rfl⟩
   have et : 2 * (s : Int) = (t : Int):=by omega
   have et2 : (s : Int) * 2 = (t : Int):=by omega
   have i2 : yLw (yKO cmp) s xs 0 = blk (yKO cmp) s xs:=by simp [yLw,blk,bl]
   simp -dsimp -implicitDefEqProofs [yG slt,et]
   refine ⟨by unfold inI; omega,?_⟩
   refine yg (ι:=Nat × Nat × Nat) (fun z=>z.1 = z.2.2 * (2 * s) ∧ z.2.1 = z.1 + 2 * s ∧ z.1 ≤ N) (fun z=>yO [(0,.own 0 1 N),(1,.c (.i N)),(2,.fn f [.elt ca,.elt cb]),(6,.c (.i s)),(7,.c (.i z.1)),(8,.c (.i z.2.1)),(1000000,.own 0 1 N)] [(0,.row 1 ((yLw (yKO cmp) s xs z.1).map yKP))]) (fun z=>N - z.1) (0,t,0) ⟨by simp,by simp only; omega,Nat.zero_le _⟩ (by apply yj <;> simp [i2]) ?_
   rintro ⟨a,b,q⟩ ⟨h1,h2,h3⟩
   simp only at h1 h2 h3
   obtain ⟨m,hm⟩ : ∃ m,m = a + s:=⟨_,rfl⟩
   have em : ((a : Int) + s) = (m : Int):=by omega
   have ls : (yLw (yKO cmp) s xs a).length = N:=by rw [yL9 (by omega)]; exact hN.symm
   have lb : (blk (yKO cmp) t xs).length = N:=by rw [yLh (by omega) _ _ (Nat.le_refl _)]; exact hN.symm
   rcases Nat.lt_or_ge N b with blt | bge
   ·have q2 : ((b : Int) ≤ (N : Int)) = False:=by simp; omega
    have q2' : (b ≤ N) = False:=by simp; omega
    rcases Nat.lt_or_ge m N with mlt | mge
    ·have g:=yMk h hS hup (by omega) h1 (b:=N) (N:=N) (by rw [if_neg (by omega)]; exact hN) (by omega) hN hn2
     rw [if_neg (by omega),← hm,← ht] at g
     have hms:=yMF h hf hc _ _ _ _ _ _ _ _ _ _ _ (Nat.le_refl _) g
     simp -dsimp -implicitDefEqProofs [q2,q2',em,yG mlt]
     refine ⟨by unfold inI; omega,?_⟩
     refine ycW (up:=some (0,.row 1 ((blk (yKO cmp) t xs).map yKP))) hms (by simp) rfl rfl (ybY (rows:=(yLw (yKO cmp) s xs a).map yKP) (by simp) rfl rfl (by simp [ls]) (by simp [ls,lb]) rfl rfl) ?_
     simp -dsimp -implicitDefEqProofs [et2]
     refine ⟨by unfold inI; omega,t,⟨by omega,by omega⟩,by omega,?_⟩
     apply yj <;> simp
    ·have e:=yM9 (lt:=yKO cmp) (xs:=xs) (s:=s) (by omega) h1 (by omega) (by omega)
     rw [← ht] at e
     rw [e]
     simp -dsimp -implicitDefEqProofs [q2,q2',em,yaB mge,et2]
     refine ⟨by unfold inI; omega,by unfold inI; omega,t,⟨by omega,by omega⟩,by omega,?_⟩
     apply yj <;> simp
   ·have q2 : ((b : Int) ≤ (N : Int)) = True:=by simp; omega
    have q2' : (b ≤ N) = True:=by simp; omega
    have g:=yMk h hS hup (by omega) h1 (b:=b) (N:=N) (by rw [if_pos (by omega)]; exact h2) (by omega) hN hn2
    rw [if_pos (by omega),← hm,← h2] at g
    have hms:=yMF h hf hc _ _ _ _ _ _ _ _ _ _ _ (Nat.le_refl _) g
    have ls2 : (yLw (yKO cmp) s xs b).length = N:=by rw [yL9 (by omega)]; exact hN.symm
    obtain ⟨b2,hb2⟩ : ∃ b2,b2 = b + t:=⟨_,rfl⟩
    have eb2 : ((b : Int) + t) = (b2 : Int):=by omega
    simp -dsimp -implicitDefEqProofs [q2,q2',em]
    refine ⟨by unfold inI; omega,?_⟩
    refine ycW (up:=some (0,.row 1 ((yLw (yKO cmp) s xs b).map yKP))) hms (by simp) rfl rfl (ybY (rows:=(yLw (yKO cmp) s xs a).map yKP) (by simp) rfl rfl (by simp [ls]) (by simp [ls,ls2]) rfl rfl) ?_
    simp -dsimp -implicitDefEqProofs [et,eb2]
    refine ⟨by unfold inI; omega,by unfold inI; omega,b,b2,⟨⟨q + 1,by rw [Nat.succ_mul]; omega⟩,by omega,bge⟩,by omega,?_⟩
    apply yj <;> simp
  ·have e : blk (yKO cmp) s xs = sorted (yKO cmp) xs:=yLR (by omega) (by omega)
   rw [e]
   simp -dsimp -implicitDefEqProofs [yaB sge]
   exact ⟨by rw [List.take_of_length_le (by rw [List.length_map,hpl]; omega)],by simp [yml]⟩
 ·have q1 : ((b : Int) ≤ (N : Int)) = True:=by simp; omega
  have q1' : (b ≤ N) = True:=by simp; omega
  obtain ⟨e1,e2⟩:=yM3 (lt:=yKO cmp) (xs:=xs) h1 (by omega)
  rw [← h2] at e1 e2
  have hi:=yL7 cmp _ _ _ _ _ e1 e2 a b N lA.symm (by rw [List.length_take,List.length_drop]; omega) (by rw [yLv]; exact hN) hn1 hn2 f ca cb hf (fun x y hx hy=>hc x y (hS x (List.mem_of_mem_drop (List.mem_of_mem_take hx))) (hS y (List.mem_of_mem_drop (List.mem_of_mem_take hy))))
  have ls : (yLt (yKO cmp) xs a).length = N:=by rw [yLv]; exact hN.symm
  have lb : (yLt (yKO cmp) xs b).length = N:=by rw [yLv]; exact hN.symm
  obtain ⟨b2,hb2⟩ : ∃ b2,b2 = b + 20:=⟨_,rfl⟩
  have eb2 : ((b : Int) + 20) = (b2 : Int):=by omega
  simp -dsimp -implicitDefEqProofs [q1,q1']
  refine ycW (up:=some (0,.row 1 ((yLt (yKO cmp) xs b).map yKP))) hi (by simp) rfl rfl (ybY (rows:=(yLt (yKO cmp) xs a).map yKP) (by simp) rfl rfl (by simp [ls]) (by simp [ls,lb]) rfl rfl) ?_
  simp -dsimp -implicitDefEqProofs [eb2]
  refine ⟨by unfold inI; omega,b,b2,⟨⟨q + 1,by rw [Nat.succ_mul]; omega⟩,by omega,hge⟩,by omega,?_⟩
  apply yj <;> simp
theorem yNk (h : SWO (yKO cmp) S) (hf : ∃ fn,Try.prog.funcs[f]? = some fn ∧ fn.body.isSome = true ∧ (fn.name != "runtime.NumGoroutine") = true)
 (hc : ∀ x y : Nat,S x → S y → yB Try.prog f [.c (.i x),.c (.i y),.elt ca,.elt cb] (.c (.i (cmp x y)))) (xs : List Nat) (hS : ∀ x ∈ xs,S x) (hup : xs.Pairwise (·< ·)) (hn1 : 1 ≤ xs.length) (hn2 : xs.length ≤ 1048576) :
 InF Try.prog 25 (.c (cw 1 (xs.map yKP))) (.c (cw 1 ((sorted (yKO cmp) xs).map yKP))) [.fn f [.elt ca,.elt cb]] (.tup []):=by
 have hpl : (sorted (yKO cmp) xs).length = xs.length:=sorted_perm.length_eq
 have hi:=yM1 h hf hc xs hS hup xs.length rfl hn1 hn2
 have hcw : cw 1 ((sorted (yKO cmp) xs).map yKP) = .ow 1 ((sorted (yKO cmp) xs).map yKP):=yb4 (by rw [List.length_map,hpl]; omega)
 have hcw0 : cw 1 (xs.map yKP) = .ow 1 (xs.map yKP):=yb4 (by simp; omega)
 rw [hcw,hcw0]
 refine ybO yK1 (by simp) (by simp) rfl fun hwf=>?_
 simp -dsimp -implicitDefEqProofs
 intro _
 refine ycW (up:=some (0,.row 1 ((sorted (yKO cmp) xs).map yKP))) hi (by simp) rfl rfl (ybY (rows:=xs.map yKP) (by simp) rfl rfl (by simp) (by simp [hpl]) rfl rfl) ?_
 simp -dsimp -implicitDefEqProofs
 exact ⟨by rw [List.take_of_length_le (by rw [List.length_map,hpl]; exact Nat.le_refl _)],by simp [yml]⟩
end
theorem yM0 {list : List CallT} {now : Int} : (yLb list now).length ≤ list.length:=by
 unfold yLb; rw [sorted_perm.length_eq]; exact yLG
def yMx (a1 a2 a3 a4 b1 b2 b3 b4 : Int) : Prop:=a1 < b1 ∨ (a1 = b1 ∧ (a2 < b2 ∨ (a2 = b2 ∧ (a3 < b3 ∨ (a3 = b3 ∧ a4 < b4)))))
def bkey (a : CallT) (now : Int) : Int:=if yKQ a now = -1 then a.Booked else 0
theorem yK7 {a b : CallT} {now : Int} (ha : yKQ a now ≠ 3) (hb : yKQ b now ≠ 3) :
 before a b now = true ↔ yMx (yKQ a now) (bkey a now) a.Since ((yaY a.Train)[0]?.getD 0) (yKQ b now) (bkey b now) b.Since ((yaY b.Train)[0]?.getD 0):=by
 unfold before yMx bkey
 rw [if_neg (by simp [ha,hb])]
 generalize yKQ a now = r at *
 generalize yKQ b now = r' at *
 generalize (yaY a.Train)[0]?.getD 0 = i
 generalize (yaY b.Train)[0]?.getD 0 = i'
 by_cases h1 : r = r'
 ·subst h1
  rw [if_neg (by simp)]
  by_cases h2 : r = -1
  ·rw [if_pos h2,if_pos h2]
   by_cases h3 : a.Booked = b.Booked
   ·rw [if_neg (by simp [h3])]
    split <;> simp only [decide_eq_true_eq,true_and] <;> constructor <;> intro h <;> (refine Classical.byContradiction fun hn=>?_) <;> omega
   ·rw [if_pos ⟨h2,h3⟩]; simp only [decide_eq_true_eq,true_and]; constructor <;> intro h <;> (refine Classical.byContradiction fun hn=>?_) <;> omega
  ·rw [if_neg h2,if_neg h2,if_neg (by simp [h2])]
   split <;> simp only [decide_eq_true_eq,true_and] <;> constructor <;> intro h <;> (refine Classical.byContradiction fun hn=>?_) <;> omega
 ·rw [if_pos h1]; simp only [decide_eq_true_eq,true_and]; constructor <;> intro h <;> (refine Classical.byContradiction fun hn=>?_) <;> omega
def yNm (list : List CallT) (now : Int) (x : Nat) : Prop:=∃ c,list[x]? = some c ∧ yKQ c now ≠ 3
theorem yKY {list : List CallT} {now : Int} {x y : Nat} {a b : CallT} (ha : list[x]? = some a) (hb : list[y]? = some b) : yKO (yLX list now) x y = before a b now:=by
 unfold yKO yLX
 rw [ha,hb]
 simp only
 by_cases h1 : before a b now = true
 ·simp [h1]
 ·by_cases h2 : before b a now = true <;> simp [h1,h2]
theorem yMI (list : List CallT) (now : Int) : SWO (yKO (yLX list now)) (yNm list now):=by
 refine ⟨?_,?_,?_⟩
 ·rintro x y ⟨a,ha,ra⟩ ⟨b,hb,rb⟩ h
  rw [yKY ha hb,yK7 ra rb] at h
  rw [yKY hb ha,← Bool.not_eq_true,yK7 rb ra]
  unfold yMx at *; omega
 ·rintro x y z ⟨a,ha,ra⟩ ⟨b,hb,rb⟩ ⟨c,hc,rc⟩ h h'
  rw [yKY ha hb,yK7 ra rb] at h
  rw [yKY hb hc,yK7 rb rc] at h'
  rw [yKY ha hc,yK7 ra rc]
  unfold yMx at *; omega
 ·rintro x y z ⟨a,ha,ra⟩ ⟨b,hb,rb⟩ ⟨c,hc,rc⟩ h h'
  rw [yKY ha hb,← Bool.not_eq_true,yK7 ra rb] at h
  rw [yKY hb hc,← Bool.not_eq_true,yK7 rb rc] at h'
  rw [yKY ha hc,← Bool.not_eq_true,yK7 ra rc]
  unfold yMx at *; omega
theorem yM7 {list : List CallT} {now : Int} {k x : Nat} (hk : k ≤ list.length) (h : x ∈ yK2 list now k) : yNm list now x:=by
 unfold yK2 at h
 obtain ⟨h1,h2⟩:=List.mem_filter.1 h
 rw [List.mem_range] at h1
 have h3 : list[x]? = some (list[x]'(by omega)):=List.getElem?_eq_getElem (by omega)
 rw [h3] at h2
 exact ⟨_,h3,by simpa using h2⟩
theorem yMT {list : List CallT} {now : Int} {k : Nat} : (yK2 list now k).Pairwise (·< ·):=List.Pairwise.filter _ List.pairwise_lt_range
theorem yLS (list : List CallT) (now : Int) (hs : yfi list) :
 ybh Try.prog 12 [.c (.sl 4 (list.map CallT.enc)),.c (.i now)] (.c (.ow 1 ((yLb list now).map yKP))):=by
 have hl:=hs.1
 refine yan yLJ ?_
 simp -dsimp -implicitDefEqProofs
 intro hlen
 refine ymd (k0:=1) 5 1 (by simp) (by simp) (by decide) ?_
 refine yg (ι:=Nat) (fun k=>k ≤ list.length) (fun k=>yO [(2,.box 2 0),(3,.box 3 0),(5,.own 5 1 (yK2 list now k).length),(8,.c (.sl 4 (list.map CallT.enc))),(9,.c (.i list.length)),(10,.c (.i k))] [(2,.box [.c (.sl 4 (list.map CallT.enc))]),(3,.box [.c (.i now)]),(5,.row 1 ((yK2 list now k).map yKP))]) (fun k=>list.length - k) 0 (by simp) (by apply yj <;> simp [yK2]) ?_
 rintro k hk
 have hrl:=yLG (list:=list) (now:=now) (k:=k)
 rcases Nat.lt_or_ge k list.length with hlt | hge
 ·obtain ⟨c,hc⟩ : ∃ x,list[k]? = some x:=⟨_,List.getElem?_eq_getElem hlt⟩
  have g1:=(List.getElem?_eq_some_iff.1 hc).2
  have sc:=hs.2 c (List.mem_of_getElem? hc)
  have hrs:=yLV (now:=now) hc
  simp -dsimp -implicitDefEqProofs [hc,g1,yG hlt,hlt]
  refine yc (yKV c now sc) ?_
  by_cases h3 : yKQ c now = 3
  ·rw [if_pos h3] at hrs
   simp -dsimp -implicitDefEqProofs [h3]
   refine ⟨yw hlt hlen,k + 1,hlt,by omega,?_⟩
   apply yj <;> simp [hrs]
  ·rw [if_neg h3] at hrs
   simp -dsimp -implicitDefEqProofs [h3]
   refine ⟨by omega,yw hlt hlen,k + 1,hlt,by omega,?_⟩
   apply yj <;> simp [hrs,yKP]
 ·have hkn : k = list.length:=by omega
  subst hkn
  simp -dsimp -implicitDefEqProofs
  have ho : yLb list now = sorted (yKO (yLX list now)) (yK2 list now list.length):=rfl
  have hsort : InF Try.prog 25 (.c (cw 1 ((yK2 list now list.length).map yKP))) (.c (cw 1 ((yLb list now).map yKP))) [.fn 26 [.elt [.sl 4 (list.map CallT.enc)],.elt [.i now]]] (.tup []):=by
   rcases Nat.eq_zero_or_pos (yK2 list now list.length).length with e | e
   ·have e2:=List.length_eq_zero_iff.1 e
    rw [ho,e2]
    exact yMe _ _ _
   ·refine yNk (yMI list now) ⟨Try.f26,Try.func26,rfl,by decide⟩ (fun x y hx hy=>?_) _ (fun x hx=>yM7 (Nat.le_refl _) hx) yMT e (by omega)
    obtain ⟨a,ha,_⟩:=hx
    obtain ⟨b,hb,_⟩:=hy
    exact yMA list now hs x y (List.getElem?_eq_some_iff.1 ha).1 (List.getElem?_eq_some_iff.1 hb).1
  have hol : (yLb list now).length = (yK2 list now list.length).length:=by rw [ho]; exact sorted_perm.length_eq
  generalize yLb list now = o at *
  generalize yK2 list now list.length = r at *
  refine yMY (up:=some (5,.row 1 (o.map yKP))) hsort ⟨yNu ⟨yMz (by simp) (by simp [ydf]),yMz (by simp) (by simp [ydf]),trivial⟩,trivial⟩ (yMR o) rfl (ybY (rows:=r.map yKP) (by simp) rfl rfl (by simp) (by simp [hol]) rfl rfl) ?_
  simp -dsimp -implicitDefEqProofs
  rw [← hol,yt]
theorem yLu (c : CallT) (now : Int) (h : c.small) : yB Try.prog 22 [.agg (c.enc.map .c),.c (.i now)] (.c (.i (yKQ c now))):=by
 refine yh yMf ?_
 simp -dsimp -implicitDefEqProofs
 refine yc (yt9 c h) ?_
 cases h1 : yb9 c with
 | false=>simp -dsimp -implicitDefEqProofs; simp [yKQ,h1]
 | true =>
 have cf:=yLP h1
 have f1:=cf.cls; have f2:=cf.snc; have f3:=cf.bkd
 simp -dsimp -implicitDefEqProofs
 refine yc (yD now c.Since 1000000) ?_
 cases h2 : inRange now c.Since 1000000 with
 | false=>simp -dsimp -implicitDefEqProofs; simp [yKQ,h1,h2]
 | true =>
 have r2:=yF.1 h2
 have hq : 0 ≤ (now - c.Since).tdiv 20 ∧ (now - c.Since).tdiv 20 ≤ 50000:=by
  rw [Int.tdiv_eq_ediv_of_nonneg (by omega)]; omega
 have fin : ¬ (c.Booked ≠ -1 ∧ c.Booked ≤ now) → yKQ c now = if (now - c.Since).tdiv 20 < yK3 c.Train then yK3 c.Train - (now - c.Since).tdiv 20 else 0:=fun hn=>by
  unfold yKQ; rw [if_pos ⟨h1,h2⟩,if_neg hn]
 have fyes : (c.Booked ≠ -1 ∧ c.Booked ≤ now) → yKQ c now = -1:=fun hn=>by
  unfold yKQ; rw [if_pos ⟨h1,h2⟩,if_pos hn]
 simp -dsimp -implicitDefEqProofs
 refine yc (yD c.Booked 0 now) ?_
 cases h3 : inRange c.Booked 0 now with
 | true =>
  have r3:=yF.1 h3
  simp -dsimp -implicitDefEqProofs
  exact fyes ⟨by omega,by omega⟩
 | false =>
  have r3:=ycG.1 h3
  rw [fin (by omega)]
  simp -dsimp -implicitDefEqProofs
  refine yaC (yMm c.Train h) ?_
  simp -dsimp -implicitDefEqProofs
  exact ⟨by unfold inI; omega,by unfold inI; omega,by unfold inI; omega⟩
theorem yLT (a b : CallT) (now : Int) (ha : a.small) (hb : b.small) : yB Try.prog 23 [.agg (a.enc.map .c),.agg (b.enc.map .c),.c (.i now)] (.c (.b (before a b now))):=by
 refine yh yLF ?_
 simp -dsimp -implicitDefEqProofs
 refine yc (yLu a now ha) ?_
 simp -dsimp -implicitDefEqProofs
 refine yc (yLu b now hb) ?_
 by_cases h1 : yKQ a now = 3
 ·simp -dsimp -implicitDefEqProofs [h1]
  simp [before,h1]
 by_cases h2 : yKQ b now = 3
 ·simp -dsimp -implicitDefEqProofs [h1,h2]
  simp [before,h2]
 by_cases h3 : yKQ a now = yKQ b now
 rotate_left
 ·simp -dsimp -implicitDefEqProofs [h1,h2,h3]
  simp [before,h1,h2,h3]
 have last : a.Since = b.Since → ¬ (yKQ a now = -1 ∧ a.Booked ≠ b.Booked) → before a b now = decide ((yaY a.Train)[0]?.getD 0 < (yaY b.Train)[0]?.getD 0):=fun h5 h6=>by
  unfold before; rw [if_neg (by simp [h1,h2]),if_neg (by simp [h3]),if_neg h6,if_neg (by simp [h5])]
 have snc : a.Since ≠ b.Since → ¬ (yKQ a now = -1 ∧ a.Booked ≠ b.Booked) → before a b now = decide (a.Since < b.Since):=fun h5 h6=>by
  unfold before; rw [if_neg (by simp [h1,h2]),if_neg (by simp [h3]),if_neg h6,if_pos h5]
 have bkd : (yKQ a now = -1 ∧ a.Booked ≠ b.Booked) → before a b now = decide (a.Booked < b.Booked):=fun h6=>by
  unfold before; rw [if_neg (by simp [h1,h2]),if_neg (by simp [h3]),if_pos h6]
 obtain ⟨_,pa⟩:=yLz h1
 obtain ⟨_,pb⟩:=yLz h2
 obtain ⟨x,hx⟩ : ∃ x,(yaY a.Train)[0]? = some x:=⟨_,List.getElem?_eq_getElem pa⟩
 obtain ⟨y,hy⟩ : ∃ x,(yaY b.Train)[0]? = some x:=⟨_,List.getElem?_eq_getElem pb⟩
 have gx:=(List.getElem?_eq_some_iff.1 hx).2
 have gy:=(List.getElem?_eq_some_iff.1 hy).2
 by_cases h6 : yKQ a now = -1 ∧ a.Booked ≠ b.Booked
 ·have h3' : yKQ b now = -1:=by rw [← h3]; exact h6.1
  simp -dsimp -implicitDefEqProofs [h1,h2,h3,h6.1,h6.2,h3']
  rw [bkd h6]
 by_cases h5 : a.Since = b.Since
 rotate_left
 ·by_cases h7 : yKQ a now = -1
  ·have h8 : a.Booked = b.Booked:=by
    by_cases h : a.Booked = b.Booked
    ·exact h
    ·exact absurd ⟨h7,h⟩ h6
   have h3' : yKQ b now = -1:=by rw [← h3]; exact h7
   simp -dsimp -implicitDefEqProofs [h7,h8,h5,h3']
   rw [snc h5 h6]
  ·have h3' : ¬ yKQ b now = -1:=by rw [← h3]; exact h7
   simp -dsimp -implicitDefEqProofs [h1,h2,h3,h5,h3']
   rw [snc h5 h6]
 ·have hl:=last h5 h6
  rw [hx,hy] at hl
  simp only [Option.getD_some] at hl
  by_cases h7 : yKQ a now = -1
  ·have h8 : a.Booked = b.Booked:=by
    by_cases h : a.Booked = b.Booked
    ·exact h
    ·exact absurd ⟨h7,h⟩ h6
   have h3' : yKQ b now = -1:=by rw [← h3]; exact h7
   simp -dsimp -implicitDefEqProofs [h7,h8,h5,h3']
   refine yyA (yvW a.Train ha) ?_
   simp -dsimp -implicitDefEqProofs [pa,hx,gx]
   refine yyA (yvW b.Train hb) ?_
   simp -dsimp -implicitDefEqProofs [pb,hy,gy]
   rw [hl]
  ·have h3' : ¬ yKQ b now = -1:=by rw [← h3]; exact h7
   simp -dsimp -implicitDefEqProofs [h1,h2,h3,h5,h3']
   refine yyA (yvW a.Train ha) ?_
   simp -dsimp -implicitDefEqProofs [pa,hx,gx]
   refine yyA (yvW b.Train hb) ?_
   simp -dsimp -implicitDefEqProofs [pb,hy,gy]
   rw [hl]
theorem yMt {lt : Nat → Nat → Bool} {xs : List Nat} {x : Nat} : ∀ i : Nat,i ≤ xs.length → yLg lt (xs ++ [x]) i = yLg lt xs i
 | 0,_=>rfl
 | i + 1,h=>by
  have h1 : (xs ++ [x])[i]? = xs[i]?:=List.getElem?_append_left (by omega)
  have h2 : xs[i]? = some (xs[i]'(by omega)):=List.getElem?_eq_getElem (by omega)
  rw [yLe (h1.trans h2),yLe h2,yMt i (by omega)]
theorem yMr {lt : Nat → Nat → Bool} {xs : List Nat} {x : Nat} : sorted lt (xs ++ [x]) = yLY lt x (sorted lt xs):=by
 unfold sorted
 rw [List.length_append,List.length_singleton,yLe (x:=x) (by simp),yMt _ (Nat.le_refl _)]
def yK9 (list : List CallT) (now : Int) (k : Nat) : List Nat:=sorted (yKO (yLX list now)) (yK2 list now k)
theorem yNd {list : List CallT} {now : Int} {k x : Nat} (h : x ∈ yK9 list now k) : x < k:=yMV (sorted_perm.mem_iff.1 h)
theorem yMU {list : List CallT} {now : Int} {k : Nat} : (yK9 list now k).length ≤ k:=by unfold yK9; rw [sorted_perm.length_eq]; exact yLG
theorem yLN (list : List CallT) (now : Int) (hs : yfi list) :
 ybh Try.prog 11 [.c (.sl 4 (list.map CallT.enc)),.c (.i now)] (.c (.ow 1 ((yLb list now).map yKP))):=by
 have hl:=hs.1
 refine yan yLM ?_
 simp -dsimp -implicitDefEqProofs
 refine yg (ι:=Nat) (fun k=>k ≤ list.length) (fun k=>yO [(0,.c (.sl 4 (list.map CallT.enc))),(1,.c (.i now)),(5,.own 8 1 (yK9 list now k).length),(6,.c (.i k))] [(8,.row 1 ((yK9 list now k).map yKP))]) (fun k=>list.length - k) 0 (by simp) (by apply yj <;> simp [yK9,yK2,sorted,yLg]) ?_
 rintro k hk
 have hsl:=yMU (list:=list) (now:=now) (k:=k)
 rcases Nat.lt_or_ge k list.length with hlt | hge
 ·obtain ⟨c,hc⟩ : ∃ x,list[k]? = some x:=⟨_,List.getElem?_eq_getElem hlt⟩
  have g1:=(List.getElem?_eq_some_iff.1 hc).2
  have sc:=hs.2 c (List.mem_of_getElem? hc)
  have hrs:=yLV (now:=now) hc
  simp -dsimp -implicitDefEqProofs [hc,g1,yG hlt,hlt]
  intro hlen
  refine yc (yLu c now sc) ?_
  by_cases h3 : yKQ c now = 3
  ·rw [if_pos h3] at hrs
   have hs2 : yK9 list now (k + 1) = yK9 list now k:=by unfold yK9; rw [hrs]
   simp -dsimp -implicitDefEqProofs [h3]
   refine ⟨yw hlt hlen,k + 1,hlt,by omega,?_⟩
   apply yj <;> simp [hs2]
  ·rw [if_neg h3] at hrs
   have hs2 : yK9 list now (k + 1) = yLY (yKO (yLX list now)) k (yK9 list now k):=by unfold yK9; rw [hrs,yMr]
   have hPlt : ∀ y ∈ yK9 list now k,y < list.length:=fun y hy=>Nat.lt_trans (yNd hy) hlt
   simp -dsimp -implicitDefEqProofs [h3]
   intro hlen2
   generalize yK9 list now k = P at *
   refine yg (ι:=Nat × List Nat × List Nat) (fun p=>p.1 = p.2.1.length ∧ p.2.1 ++ p.2.2 = P ∧ ∀ y ∈ p.2.2,yKO (yLX list now) k y = true) (fun p=>yO [(0,.c (.sl 4 (list.map CallT.enc))),(1,.c (.i now)),(5,.own 8 1 P.length),(6,.c (.i k)),(7,.c (.i p.1))] [(8,.row 1 (P.map yKP))]) (fun p=>p.1) (P.length,P,[]) ⟨rfl,by simp,by simp⟩ (by apply yj <;> simp) ?_
   rintro ⟨j,l1,l2⟩ ⟨hj,he2,h2⟩
   simp only at hj he2 h2
   have fin : (∀ l y,l1 = l ++ [y] → yKO (yLX list now) k y = false) → yK9 list now (k + 1) = l1 ++ k :: l2:=fun h1=>by rw [hs2]; exact yMo he2 h2 h1
   rcases List.eq_nil_or_concat l1 with e0 | ⟨l,y,e0⟩
   ·have hfin:=fin (fun l y h=>by rw [e0] at h; simp at h)
    have hj0 : j = 0:=by rw [hj,e0]; rfl
    subst hj0
    have hP0 : l2 = P:=by rw [← he2,e0]; rfl
    have hrow : (yKP k :: P.map yKP) = (yK9 list now (k + 1)).map yKP:=by rw [hfin,e0,hP0]; rfl
    have hlen3 : 1 + P.length = (yK9 list now (k + 1)).length:=by rw [hfin,e0,hP0]; simp; omega
    simp -dsimp -implicitDefEqProofs
    refine ⟨by omega,yw hlt hlen,k + 1,hlt,by omega,?_⟩
    refine yNh 44 8 ?_
    apply yj <;> simp [AV.ren,AV.yMX,AV.yMl,Obj.ren,yK8,hrow,hlen3]
    rw [List.take_of_length_le (by simp)]; exact hrow
   ·rw [List.concat_eq_append] at e0
    subst e0
    obtain ⟨m,hm⟩ : ∃ m,m = l.length:=⟨_,rfl⟩
    have hj2 : j = m + 1:=by rw [hj,hm]; simp
    have ej : ((j : Int) - 1) = (m : Int):=by omega
    have j0 : 0 < j:=by omega
    have hyP : y ∈ P:=by rw [← he2]; simp
    have hy : P[m]? = some y:=by rw [← he2,hm]; simp
    have gy:=(List.getElem?_eq_some_iff.1 hy).2
    have my:=(List.getElem?_eq_some_iff.1 hy).1
    have hyl:=hPlt y hyP
    obtain ⟨d,hd⟩ : ∃ x,list[y]? = some x:=⟨_,List.getElem?_eq_getElem hyl⟩
    have gd:=(List.getElem?_eq_some_iff.1 hd).2
    have sd:=hs.2 d (List.mem_of_getElem? hd)
    have hlb:=yKY (now:=now) hc hd
    simp -dsimp -implicitDefEqProofs [j0,ej,hc,g1,hlt,hy,gy,my,hyl,hd,gd,yKP]
    refine ⟨by unfold inI; omega,?_⟩
    refine yaC (yLT c d now sc sd) ?_
    cases hb : before c d now with
    | true =>
     simp -dsimp -implicitDefEqProofs [ej]
     refine ⟨by unfold inI; omega,m,⟨l,hm,y :: l2,by rw [← he2]; simp,fun z hz=>?_⟩,by omega,?_⟩
     ·rcases List.mem_cons.1 hz with hz | hz
      ·subst hz; rw [hlb,hb]
      ·exact h2 z hz
     ·apply yj <;> simp [yKP]
    | false =>
     have hfin:=fin fun l' y' h=>by
      have:=(List.append_inj' h rfl).2
      simp at this; subst this; rw [hlb,hb]
     have hjl : j ≤ P.length:=by omega
     have htk : List.take j (List.map yKP P) = (l ++ [y]).map yKP:=by rw [← List.map_take,← he2,hj,List.take_left' rfl]
     have hdr : List.drop j (List.map yKP P) = l2.map yKP:=by rw [← List.map_drop,← he2,hj,List.drop_left' rfl]
     have hl2 : P.length = j + l2.length:=by rw [← he2,hj]; simp; omega
     have hlen3 : (yK9 list now (k + 1)).length = min j P.length + 1 + (P.length - j):=by rw [hfin]; simp at hj ⊢; omega
     simp -dsimp -implicitDefEqProofs
     refine ⟨hjl,by omega,by omega,hjl,by omega,yw hlt hlen,k + 1,hlt,by omega,?_⟩
     refine yNh 44 8 ?_
     apply yj <;> simp [AV.ren,AV.yMX,AV.yMl,Obj.ren,yK8,hlen3]
     rw [htk,hdr,hfin,List.take_of_length_le (by rw [List.length_map]; omega)]
     simp [yKP]
 ·have hkn : k = list.length:=by omega
  subst hkn
  simp -dsimp -implicitDefEqProofs [yaB hge]
  intro _
  exact (List.take_of_length_le (by simp [yK9,yLb])).symm
theorem yLW (list : List CallT) (now : Int) (hs : yfi list) : yB Try.prog 11 [.c (.sl 4 (list.map CallT.enc)),.c (.i now)] (.c (.sl 1 ((yLb list now).map yKP))):=(yLN list now hs).pure rfl
theorem yMG (o : List Nat) : o.map yKP = (o.map fun n : Nat=>(n : Int)).map yJ:=by
 rw [List.map_map]; rfl
def marked (mk : Int → List C) (c : Int) (rows : List (List C)) (k : Int) (i : Nat) : List (List C):=(List.range i).map (fun (j : Nat)=>mk (k + c * j)) ++ rows.drop i
theorem ydX {mk : Int → List C} {c : Int} {rows : List (List C)} {k : Int} : marked mk c rows k 0 = rows:=by simp [marked]
theorem yeV {mk : Int → List C} {c : Int} {rows : List (List C)} {k : Int} {i : Nat} (h : i ≤ rows.length) : (marked mk c rows k i).length = rows.length:=by simp [marked]; omega
theorem yeI {mk : Int → List C} {c : Int} {rows : List (List C)} {k : Int} {i : Nat} (h : i = rows.length) : marked mk c rows k i = marked mk c [] k rows.length:=by subst h; simp [marked]
theorem yeR {mk : Int → List C} {c : Int} {rows : List (List C)} {k : Int} {i : Nat} {r : List C} (h : rows[i]? = some r) : (marked mk c rows k i)[i]? = some r:=by
 unfold marked
 rw [List.getElem?_append_right (by simp)]
 simpa using h
theorem ye0 {mk : Int → List C} {c : Int} {rows : List (List C)} {k : Int} {i : Nat} (h : i < rows.length) : (marked mk c rows k i).set i (mk (k + c * i)) = marked mk c rows k (i + 1):=by
 unfold marked
 rw [List.set_append_right _ _ (by simp),List.length_map,List.length_range,Nat.sub_self,List.drop_eq_getElem_cons h,List.set_cons_zero,List.range_succ,List.map_append,List.append_assoc]
 rfl
theorem yfU {mk : Int → List C} {c : Int} {k : Int} {n i : Nat} (h : i < n) : (marked mk c [] k n)[i]? = some (mk (k + c * i)):=by
 unfold marked
 simp [h]
theorem yM {mk : Int → List C} {c : Int} {k : Int} {n : Nat} : (marked mk c [] k n).length = n:=by simp [marked]
theorem yd6 {mk : Int → List C} {c : Int} {k : Int} {n : Nat} : (marked mk c [] k n).take n = marked mk c [] k n:=List.take_of_length_le (by rw [yM]; exact Nat.le_refl _)
theorem ycr (xs : List Int) (k : Int) (h0 : 0 ≤ k) (h1 : k + xs.length ≤ 8000000000000000000) :
 InF Try.prog 15 (.c (cw 1 (xs.map yJ))) (.c (cw 1 (marked yJ 1 [] k xs.length))) [.c (.i k)] (.c (.i (k + xs.length))):=by
 rcases Nat.eq_zero_or_pos xs.length with hx | hx
 ·have : xs = []:=List.length_eq_zero_iff.1 hx
  subst this
  refine ybO yiA (by simp) (by simp) rfl fun hwf=>?_
  simp -dsimp -implicitDefEqProofs [yfw,marked]
  refine yg (ι:=Unit) (fun _=>True) (fun _=>yO [(0,.c (.sl 1 [])),(1,.c (.i k)),(5,.c (.i 0)),(1000000,.c (.sl 1 []))] []) (fun _=>0) () trivial (by apply yj <;> simp) ?_
  rintro _ _
  simp -dsimp -implicitDefEqProofs
 ·rw [yb4 (by simpa using hx),yb4 (by rw [yM]; exact hx)]
  refine ybO yiA (by simp) (by simp) rfl fun hwf=>?_
  simp -dsimp -implicitDefEqProofs [yfw]
  refine yg (ι:=Nat) (fun i=>i ≤ xs.length) (fun i=>yO [(0,.own 0 1 xs.length),(1,.c (.i (k + i))),(5,.c (.i i)),(1000000,.own 0 1 xs.length)] [(0,.row 1 (marked yJ 1 (xs.map yJ) k i))]) (fun i=>xs.length - i) 0 (by simp) (by apply yj <;> simp [ydX]) ?_
  rintro i hi
  rcases Nat.lt_or_ge i xs.length with hlt | hge
  ·obtain ⟨e,he⟩ : ∃ e,xs[i]? = some e:=⟨_,List.getElem?_eq_getElem hlt⟩
   have hg:=yeR (mk:=yJ) (c:=1) (k:=k) (rows:=xs.map yJ) (i:=i) (r:=[.i e]) (by simp [he])
   have hl:=yeV (mk:=yJ) (c:=1) (k:=k) (rows:=xs.map yJ) (i:=i) (by simpa using hi)
   have hs:=ye0 (mk:=yJ) (c:=1) (k:=k) (rows:=xs.map yJ) (i:=i) (by simpa using hlt)
   rw [List.length_map] at hl
   simp only [Int.one_mul,yJ] at hs
   simp -dsimp -implicitDefEqProofs [yG hlt,hg,hl]
   intro hlen
   refine ⟨hlt,by unfold inI; omega,by unfold inI; omega,i + 1,hlt,by omega,?_⟩
   apply yj <;> simp [hs] <;> omega
  ·have : i = xs.length:=by omega
   subst this
   simp -dsimp -implicitDefEqProofs
   intro _
   have e:=yeI (mk:=yJ) (c:=1) (rows:=xs.map yJ) (k:=k) (i:=xs.length) (by simp)
   rw [e,List.length_map,List.take_of_length_le (by rw [yM]; exact Nat.le_refl _)]
theorem yh1 (n : Nat) (k : Int) (h0 : 0 ≤ k) (h1 : k + n ≤ 8000000000000000000) : yB Try.prog 16 [.c (.sl 1 (marked yJ 1 [] k n)),.c (.i k)] (.c (.i (k + n))):=by
 refine yh yno ?_
 simp -dsimp -implicitDefEqProofs
 refine yg (ι:=Nat) (fun i=>i ≤ n) (fun i=>yO [(0,.c (.sl 1 (marked yJ 1 [] k n))),(1,.c (.i (k + i))),(5,.c (.i i))] []) (fun i=>n - i) 0 (by simp) (by apply yj <;> simp) ?_
 rintro i hi
 rcases Nat.lt_or_ge i n with hlt | hge
 ·have hg:=yfU (mk:=yJ) (c:=1) (k:=k) hlt
  simp only [Int.one_mul] at hg
  simp -dsimp -implicitDefEqProofs [yM,yG hlt,hg]
  intro hlen
  refine ⟨by unfold inI; omega,by unfold inI; omega,i + 1,hlt,by omega,?_⟩
  apply yj <;> simp <;> omega
 ·have : i = n:=by omega
  subst this
  simp -dsimp -implicitDefEqProofs [yM]
theorem yxA (xs : List Boat) (hl : ygC xs) : ybh Try.prog 52 [.c (.sl 6 (xs.map Boat.enc))] (.c (.ow 6 (xs.map Boat.enc))):=by
 refine yan yiM ?_
 simp -dsimp -implicitDefEqProofs
 intro hlen
 have hl1:=hl.1
 refine ⟨by omega,?_⟩
 refine yg (ι:=Nat) (fun k=>k ≤ xs.length) (fun k=>yO [(0,.c (.sl 6 (xs.map Boat.enc))),(3,.own 7 6 xs.length),(4,.c (.i k))] [(7,.row 6 (partly Boat.enc [.i 0,.i 0,.i 0,.i 0,.i 0,.i 0] xs k))]) (fun k=>xs.length - k) 0 (by simp) (by apply yj <;> simp [yab]) ?_
 rintro k hk
 rcases Nat.lt_or_ge k xs.length with hlt | hge
 ·obtain ⟨e,he⟩ : ∃ e,xs[k]? = some e:=⟨_,List.getElem?_eq_getElem hlt⟩
  have hs:=yaj (f:=Boat.enc) (z:=[.i 0,.i 0,.i 0,.i 0,.i 0,.i 0]) he
  have hd:=yav (f:=Boat.enc) (z:=[.i 0,.i 0,.i 0,.i 0,.i 0,.i 0]) (n:=6) rfl hlt
  simp only [Boat.enc] at hs
  simp -dsimp -implicitDefEqProofs [he,yG hlt]
  refine fun _=>yaP (yud e ) (by simp) rfl ?_
  simp -dsimp -implicitDefEqProofs [yG hlt,yak hk,hd,hs]
  exact ⟨hlt,yw hlt hlen,k + 1,hlt,by omega,by apply yj <;> simp⟩
 ·simp -dsimp -implicitDefEqProofs [yaB hge]
  intro _
  rw [yam hge,List.take_of_length_le (by simp)]
theorem yag {α : Type} {f g : α → List C} (h : ∀ x,ybQ (f x) = some (g x)) : ∀ (l : List α),ykv (l.map f) = some (l.map g)
 | []=>rfl
 | x :: l=>by simp [ykv,h x,yag h l]
theorem ydl {α : Type} {f g : α → List C} {k : Nat} (h : ∀ x,ybQ (f x) = some (g x)) (l : List α) : (C.ot k (l.map f)).shr = some (.sl k (l.map g)):=by simp [C.shr,yag h l]
def yT (xs : List Boat) : List C:=[.ow 6 (xs.map Boat.enc)]
theorem yeg (xs : List Boat) : ybQ (yT xs) = some (yai xs):=rfl
theorem yvU (xs : List (List Boat)) (hl : yej xs) : ybh Try.prog 43 [.c (.sl 1 (xs.map yai))] (.c (.ot 1 (xs.map yT))):=by
 refine yan yim ?_
 simp -dsimp -implicitDefEqProofs
 intro hlen
 have hl1:=hl.1
 refine ⟨by omega,?_⟩
 refine yg (ι:=Nat) (fun k=>k ≤ xs.length) (fun k=>yO [(0,.c (.sl 1 (xs.map yai))),(3,.own 7 1 xs.length),(4,.c (.i k))] [(7,.tr 1 0 (partly yT [.sl 6 []] xs k))]) (fun k=>xs.length - k) 0 (by simp) (by apply yj <;> simp [yab,Obj.leO]) ?_
 rintro k hk
 rcases Nat.lt_or_ge k xs.length with hlt | hge
 ·obtain ⟨e,he⟩ : ∃ e,xs[k]? = some e:=⟨_,List.getElem?_eq_getElem hlt⟩
  have hs:=yaj (f:=yT) (z:=[.sl 6 []]) he
  have hd : ((partly yT [.sl 6 []] xs k)[k]?.getD []).set 0 (.ow 6 (e.map Boat.enc)) = yT e:=by
   have:=ydK (f:=yT) (z:=[.sl 6 []]) (n:=1) rfl (fun _=>rfl) hlt
   obtain ⟨x,hx⟩:=List.length_eq_one_iff.1 this
   rw [hx]; rfl
  simp -dsimp -implicitDefEqProofs [he,yG hlt]
  intro _
  refine yQ (yxA e (hl.2 e (List.mem_of_getElem? he))) (by simp ) (by simp [AV.closed,AV.ya7,C.closed]) (by simp [yU]) ?_
  simp -dsimp -implicitDefEqProofs [yG hlt,yak hk,yt,setAt,hd,hs]
  exact ⟨hlt,yw hlt hlen,k + 1,hlt,by omega,by apply yj <;> simp [Obj.leO]⟩
 ·simp -dsimp -implicitDefEqProofs [yaB hge]
  intro _
  rw [yam hge,yt]
@[simp] def Train.yI (e : Train) : List C:=[.b e.Up,.ot 1 (e.Rows.map yT)]
theorem Train.yaa (e : Train) : ybQ e.yI = some e.enc:=by simp [Train.yI,ybQ,ydl yeg]
theorem yjE (e : Train) (hl : Train.small e) : ybh Try.prog 31 [.agg (e.enc.map .c)] (.agg (e.yI.map .c)):=by
 refine yan yiU ?_
 simp -dsimp -implicitDefEqProofs
 refine yQ (yvU e.Rows hl) (by simp) (by simp [AV.closed,AV.ya7,C.closed,yT]) (by simp [yU]) ?_
 simp -dsimp -implicitDefEqProofs [yt]
def yaA {α : Type} (f : Int → α → List C) (n : α → Nat) : Int → List α → List (List C)
 | _,[]=>[]
 | k,x :: l=>f k x :: yaA f n (k + n x) l
def cnt {α : Type} (n : α → Nat) (l : List α) : Nat:=(l.map n).sum
theorem yH {α : Type} {f : Int → α → List C} {n : α → Nat} : ∀ {l : List α} {k : Int},(yaA f n k l).length = l.length
 | [],_=>rfl
 | x :: l,k=>by simp [yaA,yH (l:=l)]
theorem yrw {α : Type} {f : Int → α → List C} {n : α → Nat} {x : α} : ∀ {l : List α} {k : Int},yaA f n k (l ++ [x]) = yaA f n k l ++ [f (k + cnt n l) x]
 | [],k=>by simp [yaA,cnt]
 | y :: l,k=>by
  simp only [List.cons_append,yaA,yrw (l:=l)]
  simp [cnt,Int.add_assoc]
def ycA {α : Type} (f : Int → α → List C) (g : α → List C) (n : α → Nat) (k : Int) (xs : List α) (i : Nat) : List (List C):=yaA f n k (xs.take i) ++ (xs.drop i).map g
def yaK {α : Type} (n : α → Nat) (xs : List α) (i : Nat) : Nat:=cnt n (xs.take i)
section
variable {α : Type} {f : Int → α → List C} {g : α → List C} {n : α → Nat} {k : Int} {xs : List α} {i : Nat} {x : α}
theorem ya0 : yaK n xs 0 = 0:=rfl
theorem ya1 (h : xs[i]? = some x) : yaK n xs (i + 1) = yaK n xs i + n x:=by
 unfold yaK cnt; rw [List.take_succ,h,List.map_append,List.sum_append]; simp
theorem ybl (h : xs.length ≤ i) : yaK n xs i = cnt n xs:=by unfold yaK; rw [List.take_of_length_le h]
theorem ybS : yaK n xs i ≤ cnt n xs:=by
 unfold yaK cnt
 conv=>rhs; rw [← List.take_append_drop i xs]
 rw [List.map_append,List.sum_append]; omega
theorem ydh : ycA f g n k xs 0 = xs.map g:=by simp [ycA,yaA]
theorem yd1 : (ycA f g n k xs i).length = xs.length:=by
 unfold ycA; rw [List.length_append,yH,List.length_map,← List.length_append,List.take_append_drop]
theorem yd9 (h : xs.length ≤ i) : ycA f g n k xs i = yaA f n k xs:=by
 unfold ycA; rw [List.take_of_length_le h,List.drop_of_length_le h]; simp
theorem yd5 (h : xs[i]? = some x) : (ycA f g n k xs i)[i]? = some (g x):=by
 have hlt:=(List.getElem?_eq_some_iff.1 h).1
 have e : (yaA f n k (xs.take i)).length = i:=by rw [yH,List.length_take]; omega
 unfold ycA
 rw [List.getElem?_append_right (by omega),e,Nat.sub_self,List.getElem?_map,List.getElem?_drop,Nat.add_zero,h]; rfl
theorem yd3 (h : xs[i]? = some x) : (ycA f g n k xs i).set i (f (k + yaK n xs i) x) = ycA f g n k xs (i + 1):=by
 have hlt:=(List.getElem?_eq_some_iff.1 h).1
 have e : (yaA f n k (xs.take i)).length = i:=by rw [yH,List.length_take]; omega
 unfold ycA yaK
 rw [List.set_append_right _ _ (by omega),e,Nat.sub_self,List.drop_eq_getElem_cons hlt,(List.getElem?_eq_some_iff.1 h).2,List.map_cons,List.set_cons_zero,List.take_succ,h]
 simp only [Option.toList_some]
 rw [yrw,List.append_assoc]; rfl
end
def mkB (k : Int) : List C:=[.i k,.i (k + 1),.i (k + 1 + 1),.i (k + 1 + 1 + 1),.i (k + 1 + 1 + 1 + 1),.i (k + 1 + 1 + 1 + 1 + 1)]
theorem yvd (xs : List Boat) (k : Int) (h0 : 0 ≤ k) (h1 : k + 6 * xs.length ≤ 8000000000000000000) :
 InF Try.prog 41 (.c (cw 6 (xs.map Boat.enc))) (.c (cw 6 (marked mkB 6 [] k xs.length))) [.c (.i k)] (.c (.i (k + 6 * xs.length))):=by
 rcases Nat.eq_zero_or_pos xs.length with hx | hx
 ·have : xs = []:=List.length_eq_zero_iff.1 hx
  subst this
  refine ybO yhb (by simp) (by simp) rfl fun hwf=>?_
  simp -dsimp -implicitDefEqProofs [yeO,marked]
  refine yg (ι:=Unit) (fun _=>True) (fun _=>yO [(0,.c (.sl 6 [])),(1,.c (.i k)),(5,.c (.i 0)),(1000000,.c (.sl 6 []))] []) (fun _=>0) () trivial (by apply yj <;> simp) ?_
  rintro _ _
  simp -dsimp -implicitDefEqProofs
 ·rw [yb4 (by simpa using hx),yb4 (by rw [yM]; exact hx)]
  refine ybO yhb (by simp) (by simp) rfl fun hwf=>?_
  simp -dsimp -implicitDefEqProofs [yeO]
  refine yg (ι:=Nat) (fun i=>i ≤ xs.length) (fun i=>yO [(0,.own 0 6 xs.length),(1,.c (.i (k + 6 * i))),(5,.c (.i i)),(1000000,.own 0 6 xs.length)] [(0,.row 6 (marked mkB 6 (xs.map Boat.enc) k i))]) (fun i=>xs.length - i) 0 (by simp) (by apply yj <;> simp [ydX]) ?_
  rintro i hi
  rcases Nat.lt_or_ge i xs.length with hlt | hge
  ·obtain ⟨e,he⟩ : ∃ e,xs[i]? = some e:=⟨_,List.getElem?_eq_getElem hlt⟩
   have hg:=yeR (mk:=mkB) (c:=6) (k:=k) (rows:=xs.map Boat.enc) (i:=i) (r:=e.enc) (by simp [he])
   have hl:=yeV (mk:=mkB) (c:=6) (k:=k) (rows:=xs.map Boat.enc) (i:=i) (by simpa using hi)
   have hs:=ye0 (mk:=mkB) (c:=6) (k:=k) (rows:=xs.map Boat.enc) (i:=i) (by simpa using hlt)
   rw [List.length_map] at hl
   generalize marked mkB 6 (xs.map Boat.enc) k i = M at *
   have hlt2 : i < M.length:=by omega
   have hself : ∀ a,(M.set i a)[i]? = some a:=fun a=>List.getElem?_set_self hlt2
   simp only [mkB] at hs
   simp only [Boat.enc] at hg
   simp -dsimp -implicitDefEqProofs [yG hlt,hg,hl,hlt2,hself]
   intro hlen
   refine ⟨hlt,by unfold inI; omega,hlt,by unfold inI; omega,hlt,by unfold inI; omega,hlt,by unfold inI; omega,hlt,by unfold inI; omega,hlt,by unfold inI; omega,by unfold inI; omega,i + 1,hlt,by omega,?_⟩
   apply yj <;> simp [hs,hself] <;> omega
  ·have : i = xs.length:=by omega
   subst this
   simp -dsimp -implicitDefEqProofs
   intro _
   have e:=yeI (mk:=mkB) (c:=6) (rows:=xs.map Boat.enc) (k:=k) (i:=xs.length) (by simp)
   rw [e,List.length_map,List.take_of_length_le (by rw [yM]; exact Nat.le_refl _)]
def nB (r : List Boat) : Nat:=6 * r.length
def fB (k : Int) (r : List Boat) : List C:=[.ow 6 (marked mkB 6 [] k r.length)]
theorem yfJ (xs : List (List Boat)) (k : Int) (h0 : 0 ≤ k) (h1 : k + cnt nB xs ≤ 8000000000000000000) :
 InF Try.prog 28 (.c (ct 1 (xs.map yT))) (.c (ct 1 (yaA fB nB k xs))) [.c (.i k)] (.c (.i (k + cnt nB xs))):=by
 rcases Nat.eq_zero_or_pos xs.length with hx | hx
 ·have : xs = []:=List.length_eq_zero_iff.1 hx
  subst this
  refine ybO ygG (by simp) (by simp) rfl fun hwf=>?_
  simp -dsimp -implicitDefEqProofs [yem,yaA,cnt]
  refine yg (ι:=Unit) (fun _=>True) (fun _=>yO [(0,.c (.sl 1 [])),(1,.c (.i k)),(5,.c (.i 0)),(1000000,.c (.sl 1 []))] []) (fun _=>0) () trivial (by apply yj <;> simp) ?_
  rintro _ _
  simp -dsimp -implicitDefEqProofs
 ·rw [ycP (by simpa using hx),ycP (by rw [yH]; exact hx)]
  refine ybO ygG (by simp) (by simp) rfl fun hwf=>?_
  simp -dsimp -implicitDefEqProofs [yem]
  refine yg (ι:=Nat) (fun i=>i ≤ xs.length) (fun i=>yO [(0,.own 0 1 xs.length),(1,.c (.i (k + yaK nB xs i))),(5,.c (.i i)),(1000000,.own 0 1 xs.length)] [(0,.tr 1 0 (ycA fB yT nB k xs i))]) (fun i=>xs.length - i) 0 (by simp) (by apply yj <;> simp [ydh,ya0,Obj.leO]) ?_
  rintro i hi
  rcases Nat.lt_or_ge i xs.length with hlt | hge
  ·obtain ⟨e,he⟩ : ∃ e,xs[i]? = some e:=⟨_,List.getElem?_eq_getElem hlt⟩
   have hg:=yd5 (f:=fB) (g:=yT) (n:=nB) (k:=k) he
   have hl:=yd1 (f:=fB) (g:=yT) (n:=nB) (k:=k) (xs:=xs) (i:=i)
   have hs:=yd3 (f:=fB) (g:=yT) (n:=nB) (k:=k) he
   have hc:=ya1 (n:=nB) he
   have hle:=ybS (n:=nB) (xs:=xs) (i:=i + 1)
   have hn : nB e = 6 * e.length:=rfl
   generalize hM : ycA fB yT nB k xs i = M at *
   have hlt2 : i < M.length:=by omega
   have g1 : M[i] = yT e:=(List.getElem?_eq_some_iff.1 hg).2
   have hself : ∀ a,(M.set i a)[i]? = some a:=fun a=>List.getElem?_set_self hlt2
   simp -dsimp -implicitDefEqProofs [yG hlt,hg,hl,hlt2,g1,yT]
   intro hlen
   refine ⟨hlt,yb3 (k0:=1) (ver:=0) (j:=0) (i:=(i : Int)) (rows:=M) (r:=yT e) (c:=.ow 6 (e.map Boat.enc)) (c':=.ow 6 (marked mkB 6 [] (k + yaK nB xs i) e.length)) (yvd e (k + yaK nB xs i) (by omega) (by omega)) (by simp) rfl rfl rfl (by simpa using hg) rfl ⟨_,by rw [yM]; simp,rfl,rfl,rfl⟩ (by simp [C.sz]) ?_⟩
   have e0 : (yT e).set 0 (.ow 6 (marked mkB 6 [] (k + yaK nB xs i) e.length)) = fB (k + yaK nB xs i) e:=rfl
   rw [e0]
   simp -dsimp -implicitDefEqProofs
   refine ⟨yw hlt hlen,i + 1,hlt,by omega,?_⟩
   apply yj <;> simp [Obj.leO,hs] <;> omega
  ·have : i = xs.length:=by omega
   subst this
   simp -dsimp -implicitDefEqProofs
   intro _
   rw [yd9 (Nat.le_refl _),ybl (Nat.le_refl _),List.take_of_length_le (by rw [yH]; exact Nat.le_refl _)]
   exact ⟨rfl,rfl⟩
def follows (a b : Point) : Bool:=decide (a.X < b.X) && decide (a.Y ≤ b.Y)
@[simp] def Mover.yI (e : Mover) : List C:=[.b e.Train.Up,.ot 1 (e.Train.Rows.map yT),.i e.Place]
theorem Mover.yaa (e : Mover) : ybQ e.yI = some e.enc:=by simp [Mover.yI,ybQ,ydl yeg]
@[simp] def Reach.yI (e : Reach) : List C:=[.ow 2 (e.Table.map Point.enc),.i e.Volume,.ow 1 (e.Pipe.map yJ)]
theorem Reach.yaa (e : Reach) : ybQ e.yI = some e.enc:=by simp [Reach.yI,ybQ,C.shr]
def ykU : List Entry → Prop:=ycs fun _=>True
def ycN : List Reach → Prop:=ycs Reach.small
def yhr : List Way → Prop:=ycs fun _=>True
def yc8 : List Work → Prop:=ycs Work.small
def yfK : List Mover → Prop:=ycs Mover.small
abbrev yZ (xs : List Mover) : List C:=[.sl 3 (xs.map Mover.enc)]
-- [][]Mover
def ye2 : List (List Mover) → Prop:=ycs yfK
structure Passing where
 Time : Int
 Work : Int
 Train : Train
 deriving DecidableEq,Inhabited
@[simp] def Passing.enc (e : Passing) : List C:=[.i e.Time,.i e.Work,.b e.Train.Up,.sl 1 (e.Train.Rows.map yai)]
-- Passing
def Passing.small (e : Passing) : Prop:=e.Train.small
def yeB : List Passing → Prop:=ycs Passing.small
structure Waterway where
 Time : Int
 Reaches : List Reach
 Ways : List Way
 Works : List Work
 Movers : List (List Mover)
 Arrived : List Train
 Entered : List Int
 Tariff : Tariff
 Book : List Entry
 Passings : List Passing
 Start : Int
 In : Int
 Out : Int
 deriving DecidableEq
@[simp] def Waterway.enc (e : Waterway) : List C:=[.i e.Time,.sl 3 (e.Reaches.map Reach.enc),.sl 2 (e.Ways.map Way.enc),.sl 22 (e.Works.map Work.enc),.sl 1 (e.Movers.map yZ),.sl 2 (e.Arrived.map Train.enc),.sl 1 (e.Entered.map yJ),.i e.Tariff.Base,.i e.Tariff.PerArea,.sl 1 (e.Tariff.PerClass.map yJ),.sl 1 (e.Tariff.Weights.map yJ),.sl 5 (e.Book.map Entry.enc),.sl 4 (e.Passings.map Passing.enc),.i e.Start,.i e.In,.i e.Out]
-- Waterway
def Waterway.small (e : Waterway) : Prop:=ycN e.Reaches ∧ yhr e.Ways ∧ yc8 e.Works ∧ ye2 e.Movers ∧ ybV e.Arrived ∧ ykx e.Entered ∧ e.Tariff.small ∧ ykU e.Book ∧ yeB e.Passings
@[simp] def Tariff.yI (e : Tariff) : List C:=[.i e.Base,.i e.PerArea,.ow 1 (e.PerClass.map yJ),.ow 1 (e.Weights.map yJ)]
theorem ybn {α : Type} {f : α → List C} (h : ∀ x,∀ c ∈ f x,c.closed) (k : Nat) (l : List α) : (C.ot k (l.map f)).closed:=by
 simp only [C.closed,List.mem_map]
 rintro r ⟨x,_,rfl⟩ c hc
 exact h x c hc
theorem yb5 {l : List C} (h : ∀ c ∈ l,c.closed) : (AV.agg (l.map .c)).closed:=by
 show ∀ c,c ∈ AV.cs (l.map AV.c) → c.closed
 rw [ylW]; exact h
theorem ybA {k : Int} (h : 0 ≤ k) : inI (k.tmod 3):=by
 have:=Int.tmod_nonneg 3 h
 have:=Int.tmod_lt_of_pos k (b:=3) (by omega)
 unfold inI; omega
theorem ygL (xs : List Boat) : ∀ c ∈ yT xs,c.closed:=by simp [yT,C.closed]
theorem Train.yad (e : Train) : ∀ c ∈ e.yI,c.closed:=by
 simp only [Train.yI,List.mem_cons,List.not_mem_nil,or_false,forall_eq_or_imp,forall_eq]
 exact ⟨by simp [C.closed],ybn ygL _ _⟩
theorem Mover.yad (e : Mover) : ∀ c ∈ e.yI,c.closed:=by
 simp only [Mover.yI,List.mem_cons,List.not_mem_nil,or_false,forall_eq_or_imp,forall_eq]
 exact ⟨by simp [C.closed],ybn ygL _ _,by simp [C.closed]⟩
theorem Reach.yad (e : Reach) : ∀ c ∈ e.yI,c.closed:=by
 simp only [Reach.yI,List.mem_cons,List.not_mem_nil,or_false,forall_eq_or_imp,forall_eq]
 exact ⟨by simp [C.closed],by simp [C.closed],by simp [C.closed]⟩
theorem Tariff.yad (e : Tariff) : ∀ c ∈ e.yI,c.closed:=by
 simp only [Tariff.yI,List.mem_cons,List.not_mem_nil,or_false,forall_eq_or_imp,forall_eq]
 exact ⟨by simp [C.closed],by simp [C.closed],by simp [C.closed],by simp [C.closed]⟩
@[simp] def CallT.yI (e : CallT) : List C:=[.b e.Train.Up,.ot 1 (e.Train.Rows.map yT),.i e.Since,.i e.Booked]
theorem CallT.yaa (e : CallT) : ybQ e.yI = some e.enc:=by simp [CallT.yI,ybQ,ydl yeg]
theorem CallT.yad (e : CallT) : ∀ c ∈ e.yI,c.closed:=by
 simp only [CallT.yI,List.mem_cons,List.not_mem_nil,or_false,forall_eq_or_imp,forall_eq]
 exact ⟨by simp [C.closed],ybn ygL _ _,by simp [C.closed],by simp [C.closed]⟩
theorem yyP (e : CallT) (hl : CallT.small e) : ybh Try.prog 19 [.agg (e.enc.map .c)] (.agg (e.yI.map .c)):=by
 refine yan yjU ?_
 simp -dsimp -implicitDefEqProofs
 refine yQ (yjE e.Train hl) (by simp) (yb5 (Train.yad _)) (by simp [yU]) ?_
 simp -dsimp -implicitDefEqProofs [yt]
theorem yyc (xs : List CallT) (hl : yfi xs) : ybh Try.prog 7 [.c (.sl 4 (xs.map CallT.enc))] (.c (.ot 4 (xs.map CallT.yI))):=by
 refine yan yiL ?_
 simp -dsimp -implicitDefEqProofs
 intro hlen
 have hl1:=hl.1
 refine ⟨by omega,?_⟩
 refine yg (ι:=Nat) (fun k=>k ≤ xs.length) (fun k=>yO [(0,.c (.sl 4 (xs.map CallT.enc))),(3,.own 7 4 xs.length),(4,.c (.i k))] [(7,.tr 4 0 (partly CallT.yI [.b false,.sl 1 [],.i 0,.i 0] xs k))]) (fun k=>xs.length - k) 0 (by simp) (by apply yj <;> simp [yab,Obj.leO]) ?_
 rintro k hk
 rcases Nat.lt_or_ge k xs.length with hlt | hge
 ·obtain ⟨e,he⟩ : ∃ e,xs[k]? = some e:=⟨_,List.getElem?_eq_getElem hlt⟩
  have hs:=yaj (f:=CallT.yI) (z:=[.b false,.sl 1 [],.i 0,.i 0]) he
  have hd:=yav (f:=CallT.yI) (z:=[.b false,.sl 1 [],.i 0,.i 0]) (n:=4) rfl hlt
  simp only [CallT.yI] at hs
  simp -dsimp -implicitDefEqProofs [he,yG hlt]
  intro _
  refine yQ (yyP e (hl.2 e (List.mem_of_getElem? he))) (by simp) (yb5 (CallT.yad _)) (by simp [yU]) ?_
  simp -dsimp -implicitDefEqProofs [yG hlt,yak hk,yt,hd,hs]
  exact ⟨hlt,yw hlt hlen,k + 1,hlt,by omega,by apply yj <;> simp [Obj.leO]⟩
 ·simp -dsimp -implicitDefEqProofs [yaB hge]
  intro _
  rw [yam hge,yt]
def yaI (e : CallT) : Nat:=1 + cnt nB e.Train.Rows + 1 + 1
def yeu (k : Int) (e : CallT) : List C:=[.b (decide (k.tmod 3 = 0)),.ot 1 (yaA fB nB (k + 1) e.Train.Rows),.i (k + 1 + (cnt nB e.Train.Rows : Int)),.i (k + 1 + (cnt nB e.Train.Rows : Int) + 1)]
theorem yve (xs : List CallT) (k : Int) (h0 : 0 ≤ k) (h1 : k + cnt yaI xs ≤ 8000000000000000000) :
 InF Try.prog 14 (.c (ct 4 (xs.map CallT.yI))) (.c (ct 4 (yaA yeu yaI k xs))) [.c (.i k)] (.c (.i (k + cnt yaI xs))):=by
 rcases Nat.eq_zero_or_pos xs.length with hx | hx
 ·have : xs = []:=List.length_eq_zero_iff.1 hx
  subst this
  refine ybO yhe (by simp) (by simp) rfl fun hwf=>?_
  simp -dsimp -implicitDefEqProofs [yeP,yaA,cnt]
  refine yg (ι:=Unit) (fun _=>True) (fun _=>yO [(0,.c (.sl 4 [])),(1,.c (.i k)),(5,.c (.i 0)),(1000000,.c (.sl 4 []))] []) (fun _=>0) () trivial (by apply yj <;> simp) ?_
  rintro _ _
  simp -dsimp -implicitDefEqProofs
 ·rw [ycP (by simpa using hx),ycP (by rw [yH]; exact hx)]
  refine ybO yhe (by simp) (by simp) rfl fun hwf=>?_
  simp -dsimp -implicitDefEqProofs [yeP]
  refine yg (ι:=Nat) (fun i=>i ≤ xs.length) (fun i=>yO [(0,.own 0 4 xs.length),(1,.c (.i (k + yaK yaI xs i))),(5,.c (.i i)),(1000000,.own 0 4 xs.length)] [(0,.tr 4 0 (ycA yeu CallT.yI yaI k xs i))]) (fun i=>xs.length - i) 0 (by simp) (by apply yj <;> simp [ydh,ya0,Obj.leO]) ?_
  rintro i hi
  rcases Nat.lt_or_ge i xs.length with hlt | hge
  ·obtain ⟨e,he⟩ : ∃ e,xs[i]? = some e:=⟨_,List.getElem?_eq_getElem hlt⟩
   have hg:=yd5 (f:=yeu) (g:=CallT.yI) (n:=yaI) (k:=k) he
   have hl:=yd1 (f:=yeu) (g:=CallT.yI) (n:=yaI) (k:=k) (xs:=xs) (i:=i)
   have hs:=yd3 (f:=yeu) (g:=CallT.yI) (n:=yaI) (k:=k) he
   have hc:=ya1 (n:=yaI) he
   have hle:=ybS (n:=yaI) (xs:=xs) (i:=i + 1)
   have hn : yaI e = 1 + cnt nB e.Train.Rows + 1 + 1:=rfl
   generalize hM : ycA yeu CallT.yI yaI k xs i = M at *
   generalize hK : (k + (yaK yaI xs i : Int)) = K at *
   have hlt2 : i < M.length:=by omega
   have g1 : M[i] = CallT.yI e:=(List.getElem?_eq_some_iff.1 hg).2
   have hself : ∀ a,(M.set i a)[i]? = some a:=fun a=>List.getElem?_set_self hlt2
   have hgetD : ∀ a,(M.set i a)[i]?.getD [] = a:=fun a=>by rw [hself]; rfl
   simp only [CallT.yI] at hg g1
   have hk : 0 ≤ K:=by omega
   simp -dsimp -implicitDefEqProofs [yG hlt,hg,hl,hlt2,g1,hself,setAt]
   intro hlen
   repeat (refine ⟨by first | exact hlt | (unfold inI; omega) | exact ybA (by omega),?_⟩)
   refine yb3 (k0:=4) (j:=1) (i:=(i : Int)) (r:=[.b (decide (K.tmod 3 = 0)),.ot 1 (e.Train.Rows.map yT),.i e.Since,.i e.Booked]) (c:=.ot 1 (e.Train.Rows.map yT)) (c':=.ot 1 (yaA fB nB (K + 1) e.Train.Rows)) (yfJ e.Train.Rows (K + 1) (by omega) (by omega)) (by simp) rfl rfl rfl (by first | exact hself _ | simpa using hg) rfl ⟨_,by rw [yH]; simp,rfl,rfl,rfl⟩ (by simp [C.sz]) ?_
   simp -dsimp -implicitDefEqProofs [setAt,hself,hlt2,hl]
   repeat (refine ⟨by first | exact hlt | (unfold inI; omega) | exact ybA (by omega) | exact yw hlt hlen,?_⟩)
   refine ⟨i + 1,hlt,by omega,?_⟩
   simp only [yeu] at hs
   apply yj <;> simp [Obj.leO,hs,hself] <;> omega
  ·have : i = xs.length:=by omega
   subst this
   simp -dsimp -implicitDefEqProofs
   intro _
   rw [yd9 (Nat.le_refl _),ybl (Nat.le_refl _),List.take_of_length_le (by rw [yH]; exact Nat.le_refl _)]
   exact ⟨rfl,rfl⟩
@[simp] def Lock.yI (e : Lock) : List C:=[.i e.Length,.i e.Width,.i e.SillAbove,.i e.SillBelow,.i e.Base,.i e.Area,.i e.Rate,.i e.Water,.i e.Gate,.ot 2 (e.Inside.map Train.yI)]
theorem Lock.yaa (e : Lock) : ybQ e.yI = some e.enc:=by simp [Lock.yI,ybQ,ydl Train.yaa]
theorem Lock.yad (e : Lock) : ∀ c ∈ e.yI,c.closed:=by
 simp only [Lock.yI,List.mem_cons,List.not_mem_nil,or_false,forall_eq_or_imp,forall_eq]
 exact ⟨by simp [C.closed],by simp [C.closed],by simp [C.closed],by simp [C.closed],by simp [C.closed],by simp [C.closed],by simp [C.closed],by simp [C.closed],by simp [C.closed],ybn Train.yad _ _⟩
@[simp] def Work.yI (e : Work) : List C:=[.i e.Lock.Length,.i e.Lock.Width,.i e.Lock.SillAbove,.i e.Lock.SillBelow,.i e.Lock.Base,.i e.Lock.Area,.i e.Lock.Rate,.i e.Lock.Water,.i e.Lock.Gate,.ot 2 (e.Lock.Inside.map Train.yI),.i e.Weir.Gates,.i e.Weir.Open,.i e.Weir.Step,.i e.Weir.Crest,.i e.Weir.Width,.i e.Rule.Low,.i e.Rule.High,.i e.Rule.Flood,.ow 2 (e.Pauses.map Pause.enc),.b e.Turn.Up,.i e.Turn.Count,.ot 4 (e.Calls.map CallT.yI)]
theorem Work.yaa (e : Work) : ybQ e.yI = some e.enc:=by simp [Work.yI,ybQ,ydl Train.yaa,ydl CallT.yaa]
theorem Work.yad (e : Work) : ∀ c ∈ e.yI,c.closed:=by
 simp only [Work.yI,List.mem_cons,List.not_mem_nil,or_false,forall_eq_or_imp,forall_eq]
 exact ⟨by simp [C.closed],by simp [C.closed],by simp [C.closed],by simp [C.closed],by simp [C.closed],by simp [C.closed],by simp [C.closed],by simp [C.closed],by simp [C.closed],ybn Train.yad _ _,by simp [C.closed],by simp [C.closed],by simp [C.closed],by simp [C.closed],by simp [C.closed],by simp [C.closed],by simp [C.closed],by simp [C.closed],by simp [C.closed],by simp [C.closed],by simp [C.closed],ybn CallT.yad _ _⟩
def yax (xs : List Mover) : List C:=[.ot 3 (xs.map Mover.yI)]
theorem ycu (xs : List Mover) : ybQ (yax xs) = some (yZ xs):=by simp [yax,ybQ,ydl Mover.yaa]
theorem yk2 (xs : List Mover) : ∀ c ∈ yax xs,c.closed:=by
 intro c hc
 simp only [yax,List.mem_singleton] at hc
 subst hc
 exact ybn Mover.yad _ _
@[simp] def Passing.yI (e : Passing) : List C:=[.i e.Time,.i e.Work,.b e.Train.Up,.ot 1 (e.Train.Rows.map yT)]
theorem Passing.yaa (e : Passing) : ybQ e.yI = some e.enc:=by simp [Passing.yI,ybQ,ydl yeg]
theorem Passing.yad (e : Passing) : ∀ c ∈ e.yI,c.closed:=by
 simp only [Passing.yI,List.mem_cons,List.not_mem_nil,or_false,forall_eq_or_imp,forall_eq]
 exact ⟨by simp [C.closed],by simp [C.closed],by simp [C.closed],ybn ygL _ _⟩
@[simp] def Waterway.yI (e : Waterway) : List C:=[.i e.Time,.ot 3 (e.Reaches.map Reach.yI),.ow 2 (e.Ways.map Way.enc),.ot 22 (e.Works.map Work.yI),.ot 1 (e.Movers.map yax),.ot 2 (e.Arrived.map Train.yI),.ow 1 (e.Entered.map yJ),.i e.Tariff.Base,.i e.Tariff.PerArea,.ow 1 (e.Tariff.PerClass.map yJ),.ow 1 (e.Tariff.Weights.map yJ),.ow 5 (e.Book.map Entry.enc),.ot 4 (e.Passings.map Passing.yI),.i e.Start,.i e.In,.i e.Out]
theorem Waterway.yaa (e : Waterway) : ybQ e.yI = some e.enc:=by simp [Waterway.yI,ybQ,ydl Reach.yaa,ydl Work.yaa,ydl ycu,ydl Train.yaa,ydl Passing.yaa]
theorem Waterway.yad (e : Waterway) : ∀ c ∈ e.yI,c.closed:=by
 simp only [Waterway.yI,List.mem_cons,List.not_mem_nil,or_false,forall_eq_or_imp,forall_eq]
 exact ⟨by simp [C.closed],ybn Reach.yad _ _,by simp [C.closed],ybn Work.yad _ _,ybn yk2 _ _,ybn Train.yad _ _,by simp [C.closed],by simp [C.closed],by simp [C.closed],by simp [C.closed],by simp [C.closed],by simp [C.closed],ybn Passing.yad _ _,by simp [C.closed],by simp [C.closed],by simp [C.closed]⟩
def yd0 {α : Type} (t : α → Nat) (xs : List α) : Nat:=xs.length + (xs.map t).sum
def ycz {α : Type} (f : α → Int → Int) (t : α → Nat) : Prop:=∀ x l,0 ≤ l → l ≤ 1048576 → 0 ≤ f x l → f x l + t x ≤ l
theorem yaV {a : Int} {f : Int → Int} (h : 0 ≤ ybm a f) : 0 ≤ a ∧ ybm a f = f a:=by
 rcases Int.lt_or_le a 0 with e | e
 ·rw [yK e] at h; omega
 ·exact ⟨e,yu e⟩
theorem yhx {α : Type} : ycz (fun (xs : List α) l=>szS xs.length l) (fun xs=>xs.length):=by
 intro xs l h0 h1 h
 simp only [szS] at h ⊢
 split at h
 ·omega
 ·rename_i h2; rw [if_neg h2]; omega
theorem yn7 {α : Type} {f : α → Int → Int} {t : α → Nat} (hf : ycz f t) : ∀ (xs : List α) (l : Int),0 ≤ l → l ≤ 1048576 → 0 ≤ yaw f xs l → yaw f xs l + ((xs.map t).sum : Nat) ≤ l
 | [],l,_,_,_=>by simp [yaw]
 | x :: xs,l,h0,h1,h=>by
  simp only [yaw] at h ⊢
  obtain ⟨p,e⟩:=yaV h
  rw [e] at h ⊢
  have h2:=hf x l h0 h1 p
  have h3:=yn7 hf xs (f x l) p (by omega) h
  simp only [List.map_cons,List.sum_cons,Int.natCast_add]; omega
theorem ye8 {α : Type} {f : α → Int → Int} {t : α → Nat} (hf : ycz f t) : ycz (yeE f) (yd0 t):=by
 intro xs l h0 h1 h
 unfold yeE at h ⊢
 obtain ⟨p,e⟩:=yaV h
 rw [e] at h ⊢
 have h2:=yhx xs l h0 h1 p
 have h3:=yn7 hf xs _ p (by simp only at h2 ⊢; omega) h
 unfold yd0
 simp only at h2
 omega
theorem ydt {α : Type} {n t : α → Nat} (h : ∀ x,n x ≤ 27 * (1 + t x)) : ∀ xs : List α,cnt n xs ≤ 27 * yd0 t xs
 | []=>by simp [cnt]
 | x :: xs=>by
  have h1:=ydt h xs
  have h2:=h x
  simp only [cnt,yd0,List.map_cons,List.sum_cons,List.length_cons] at h1 ⊢
  omega
def yju (xs : List Boat) : Nat:=xs.length
theorem ytl : ycz yex yju:=yhx
def yeT : List (List Boat) → Nat:=yd0 yju
theorem yqw : ycz yeb yeT:=ye8 ytl
theorem nB_le (r : List Boat) : nB r ≤ 27 * (1 + yju r):=by unfold nB yju; omega
def yci (e : Train) : Nat:=yeT e.Rows
theorem yfQ : ycz yb2 yci:=by
 intro e l h0 h1 h
 unfold yb2 at h ⊢
 obtain ⟨p0,e0⟩:=yaV h
 rw [e0] at h ⊢
 have t0:=yqw e.Rows _ h0 h1 p0
 unfold yci
 omega
def yiS (e : CallT) : Nat:=yci e.Train
theorem ytP : ycz ydJ yiS:=by
 intro e l h0 h1 h
 unfold ydJ at h ⊢
 obtain ⟨p0,e0⟩:=yaV h
 rw [e0] at h ⊢
 have t0:=yfQ e.Train _ h0 h1 p0
 unfold yiS
 omega
def yl4 : List CallT → Nat:=yd0 yiS
theorem ytn : ycz yfd yl4:=ye8 ytP
theorem ywA (e : CallT) : yaI e ≤ 27 * (1 + yiS e):=by
 have:=ydt nB_le e.Train.Rows
 simp only [yaI,yiS,yci,yeT]
 omega
theorem yLB (x0 : List CallT) (x1 : Int) : yB Try.prog 4 [.c (.sl 4 (x0.map CallT.enc)),.c (.i x1)] (.c (.b true)):=by
 refine yh yLj ?_
 simp -dsimp -implicitDefEqProofs
 refine yc (yvO x0 1048576 (by omega) (by omega)) ?_
 simp -dsimp -implicitDefEqProofs
 intro hsz0
 have hl0:=yzy yu4 (by omega) (by omega) hsz0
 have ht:=ytn x0 1048576 (by omega) (by omega) hsz0
 have hn:=ydt ywA x0
 have hol:=yM0 (list:=x0) (now:=x1)
 have hO:=yLS x0 x1 hl0
 have hS:=yLW x0 x1 hl0
 rw [yMG] at hO hS
 have hrl : ((yLb x0 x1).map fun n : Nat=>(n : Int)).length ≤ 1048576:=by rw [List.length_map]; have:=hl0.1; omega
 generalize ((yLb x0 x1).map fun n : Nat=>(n : Int)) = r at *
 have hP : yB Try.prog 12 [.c (.sl 4 (x0.map CallT.enc)),.c (.i x1)] (.c (.sl 1 (r.map yJ))):=hO.pure rfl
 refine yS (yxE x0 hl0) ?_
 simp -dsimp -implicitDefEqProofs
 refine yS hS ?_
 simp -dsimp -implicitDefEqProofs
 refine yQ (yyc x0 hl0) (by simp) (show AV.closed (.c (.ot 4 _)) from ybn CallT.yad 4 x0) (by simp [yU]) ?_
 simp -dsimp -implicitDefEqProofs
 refine yQ (hO) (by simp [yt,yag CallT.yaa]) (by simp [AV.closed,AV.ya7,C.closed]) (by simp [yU]) ?_
 simp -dsimp -implicitDefEqProofs
 refine yaQ (ykZ r r) (by simp [yt]) rfl ?_
 simp -dsimp -implicitDefEqProofs
 refine yS (yxE x0 hl0) ?_
 simp -dsimp -implicitDefEqProofs
 refine yaQ (yxI x0 x0) (by simp [yt,yag CallT.yaa]) rfl ?_
 simp -dsimp -implicitDefEqProofs
 refine ycW (up:=some (23,.tr 4 1 (yaA yeu yaI 1 x0))) (yve x0 1 (by omega) (by simp only [yl4] at ht; omega)) (by simp) rfl rfl (yf9 (rows:=x0.map CallT.yI) (by simp -dsimp -implicitDefEqProofs) rfl rfl rfl (by simp) (by simp [yH]) rfl rfl) ?_
 have n1 : (1 + (cnt yaI x0 : Int) < 0) = False:=by simp; omega
 simp -dsimp -implicitDefEqProofs [n1]
 refine yaQ (ykZ r r) (by simp [yt]) rfl ?_
 simp -dsimp -implicitDefEqProofs
 refine ycW (up:=some (26,.row 1 (marked yJ 1 [] 1 r.length))) (ycr r 1 (by omega) (by omega)) (by simp) rfl rfl (ybY (rows:=r.map yJ) (by simp) rfl rfl (by simp) (by simp [yM]) rfl rfl) ?_
 simp -dsimp -implicitDefEqProofs
 refine yaQ (yh1 r.length 1 (by omega) (by omega)) (by simp [yd6]) rfl ?_
 have n2 : (1 + (r.length : Int) < 0) = False:=by simp; omega
 simp -dsimp -implicitDefEqProofs [n2]
 refine yS (yxE x0 hl0) ?_
 simp -dsimp -implicitDefEqProofs
 refine yS hP ?_
 simp -dsimp -implicitDefEqProofs
 refine yc (ykZ r r) ?_
 simp -dsimp -implicitDefEqProofs
 refine yaQ (yh1 r.length 1 (by omega) (by omega)) (by simp [yd6]) rfl ?_
 simp -dsimp -implicitDefEqProofs [n2]
theorem yAu {xs : List C} (h : Fits [.i,.i,.i,.i,.i,.i] xs) : ∃ e : Boat,xs = e.enc:=by
 obtain ⟨c0,ys,rfl,h0,h⟩:=h.cons_inv
 obtain ⟨c1,ys,rfl,h1,h⟩:=h.cons_inv
 obtain ⟨c2,ys,rfl,h2,h⟩:=h.cons_inv
 obtain ⟨c3,ys,rfl,h3,h⟩:=h.cons_inv
 obtain ⟨c4,ys,rfl,h4,h⟩:=h.cons_inv
 obtain ⟨c5,ys,rfl,h5,h⟩:=h.cons_inv
 obtain rfl:=h.ycx
 obtain ⟨n0,rfl⟩:=h0.yaT
 obtain ⟨n1,rfl⟩:=h1.yaT
 obtain ⟨n2,rfl⟩:=h2.yaT
 obtain ⟨n3,rfl⟩:=h3.yaT
 obtain ⟨n4,rfl⟩:=h4.yaT
 obtain ⟨n5,rfl⟩:=h5.yaT
 exact ⟨⟨n0,n1,n2,n3,n4,n5⟩,rfl⟩
theorem yjF {xs : List C} (h : Fits [.sl [.i,.i,.i,.i,.i,.i]] xs) : ∃ e : List Boat,xs = yai e:=by
 obtain ⟨c0,ys,rfl,h0,h⟩:=h.cons_inv
 obtain rfl:=h.ycx
 obtain ⟨n0,rfl⟩:=h0.ycq Boat.enc fun _ h=>yAu h
 exact ⟨n0,rfl⟩
theorem yz8 {xs : List C} (h : Fits [.b,.sl [.sl [.i,.i,.i,.i,.i,.i]],.i,.i] xs) : ∃ e : CallT,xs = e.enc:=by
 obtain ⟨c0,ys,rfl,h0,h⟩:=h.cons_inv
 obtain ⟨c1,ys,rfl,h1,h⟩:=h.cons_inv
 obtain ⟨c2,ys,rfl,h2,h⟩:=h.cons_inv
 obtain ⟨c3,ys,rfl,h3,h⟩:=h.cons_inv
 obtain rfl:=h.ycx
 obtain ⟨n0,rfl⟩:=h0.b_inv
 obtain ⟨n1,rfl⟩:=h1.ycq yai fun _ h=>yjF h
 obtain ⟨n2,rfl⟩:=h2.yaT
 obtain ⟨n3,rfl⟩:=h3.yaT
 exact ⟨⟨⟨n0,n1⟩,n2,n3⟩,rfl⟩
theorem yLk : IsLaw Rows.fnExactOrderCallsSpec Try.f4.params.size:=by
 refine ⟨rfl,fun H ds h=>?_⟩
 match ds,h with
 | [d0,d1],_=>rfl
theorem yLf : LawFacts Try.prog Try.f4 (Try.f4.resultTypes.getD 0 0) [(false,[.sl [.b,.sl [.sl [.i,.i,.i,.i,.i,.i]],.i,.i]]),(false,[.i])] :=
 ⟨yrS,by kernel_rfl,by kernel_rfl,by kernel_rfl,by kernel_rfl⟩
set_option maxRecDepth 100000 in
theorem yLi (os : Os) (started : os.Started) (H : Type) (enc : TypeId × Value → H) :
 ReturnsInHanded {} Try.checked os 4 .any (Rows.fnExactOrderCallsSpec.pre6 enc Try.prog Try.f4 Rows.fnExactOrderCallsRow.domain false) (Rows.fnExactOrderCallsSpec.post enc Try.prog Try.f4 false true false false):=by
 refine law_lifted (C:=Try.checked) yt1 started (by kernel_rfl) Try.func4
  (ChangeSpec.witness6 (enc:=enc) (C:=Try.checked) false ⟨#[],#[.slice none 0 0,.int .i64 0],[]⟩ 8 (by kernel_rfl) (by kernel_rfl) (by kernel_rfl) (by kernel_rfl)) yLk yLf ?_
 rintro avs ⟨a,avs0,rfl,ha,b,avs1,rfl,hb,rfl⟩
 cases ha with
 | one h0 =>
  cases hb with
  | one h1 =>
   obtain ⟨x0,rfl⟩:=h0.ycq CallT.enc fun xs h=>yz8 h
   obtain ⟨x1,rfl⟩:=h1.yaT
   exact yLB x0 x1
theorem yLo : ypf Try.prog 4 Try.f4 Rows.fnExactOrderCallsSpec Rows.fnExactOrderCallsRow = true:=by kernel_rfl
theorem yLn : Try.pinned.checked.prog.funcNamed Rows.fnExactOrderCallsRow.func = some 4:=by kernel_rfl
theorem yLq : Try.f4.isInstance Try.pinned.checked.prog Rows.fnExactOrderCallsRow.origin Rows.fnExactOrderCallsRow.targs:=(of_decide_eq_true (by kernel_rfl))
theorem yLr : Try.f4.isWrapper Try.pinned.checked.prog Rows.fnExactOrderCallsRow.wrapper Rows.fnExactOrderCallsRow.mainSum:=by
 unfold Func.isWrapper; first | (rw [if_pos (by decide +kernel)]; kernel_rfl) | (rw [if_neg (by decide +kernel)]; exact ⟨rfl,rfl⟩)
theorem FnExactOrderCalls_holds : Rows.FnExactOrderCallsSaid :=
 OpenClaim.holds_of_wide (p:=Try.pinned) (s:=Rows.fnExactOrderCallsSpec) (c:=Rows.fnExactOrderCallsRow) 4 Try.f4 rfl rfl rfl rfl rfl rfl rfl ⟨rfl,rfl,rfl,rfl,rfl⟩ rfl rfl rfl rfl rfl yLn Try.func4
  (yyi yxx yLo ⟨rfl,rfl,rfl,rfl,rfl,rfl,rfl,rfl⟩) yLq yLr (fun os started H enc _=>yLi os started H enc)
end Go.Proofs.Ytefegahoniahkaa
