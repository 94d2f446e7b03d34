/- What the law FnOnceIn stands on: contracts of functions, what each answers as plain Lean, in short form (names, layout). -/
import Derived.Test.YtpiplmnecmkafaaGreatSOnceIn3
set_option linter.all false
namespace Go.Proofs.YtpiplmnecmkafaaGreat
open Go.RowKit
set_option maxRecDepth 20000 in
theorem yU7 (x : Waterway) (hs : x.small) (hB : (yUs x).length ≤ 1000000000) : ybh Tryz.prog 9 [.agg (x.enc.map .c)] (.c (.ow 1 ((yUs x).map yJ))):=by
 obtain ⟨s1,s2,s3,s4,s5,s6,s7,s8,s9⟩:=hs
 have hP : yUs x = x.Movers.flatMap yUt ++ x.Works.flatMap yUA ++ x.Arrived.flatMap yaY:=rfl
 rw [yUK] at hB
 refine yan yUX ?_
 simp -dsimp -implicitDefEqProofs
 intro hlen
 refine ymd (k0:=1) 3 1 (by simp) (by simp) (by decide) ?_
 refine yg (ι:=Nat) (fun k=>k ≤ x.Movers.length) (fun k=>yO [(1,.box 1 0),(3,.own 3 1 (fl yUt x.Movers k).length),(17,.c (.sl 1 (x.Movers.map yZ))),(18,.c (.i x.Movers.length)),(19,.c (.i k))] [(1,.box (x.enc.map .c)),(3,.row 1 ((fl yUt x.Movers k).map yJ))]) (fun k=>x.Movers.length - k) 0 (by simp) (by apply yj <;> simp [yUy]) ?_
 rintro k hk
 rcases Nat.lt_or_ge k x.Movers.length with klt | kge
 ·obtain ⟨l,hl⟩ : ∃ l,x.Movers[k]? = some l:=⟨_,List.getElem?_eq_getElem klt⟩
  have hls:=s4.2 l (List.mem_of_getElem? hl)
  have hb1:=yUC (f:=yUt) hl
  have e1:=yUx (f:=yUt) hl
  simp -dsimp -implicitDefEqProofs [hl,yG klt]
  intro hlen2
  generalize fl yUt x.Movers k = A at hb1 e1
  refine yg (ι:=Nat) (fun j=>j ≤ l.length) (fun j=>yO [(1,.box 1 0),(3,.own 3 1 (A ++ fl yUw l j).length),(17,.c (.sl 1 (x.Movers.map yZ))),(18,.c (.i x.Movers.length)),(19,.c (.i k)),(23,.c (.sl 3 (l.map Mover.enc))),(24,.c (.i l.length)),(25,.c (.i j))] [(1,.box (x.enc.map .c)),(3,.row 1 ((A ++ fl yUw l j).map yJ))]) (fun j=>l.length - j) 0 (by simp) (by apply yj <;> simp [yUy]) ?_
  rintro j hj
  rcases Nat.lt_or_ge j l.length with jlt | jge
  ·obtain ⟨m,hm⟩ : ∃ m,l[j]? = some m:=⟨_,List.getElem?_eq_getElem jlt⟩
   have hms:=hls.2 m (List.mem_of_getElem? hm)
   have hb2:=yUC (f:=yUw) hm
   have hb3 : (yUt l).length = (l.flatMap yUw).length:=rfl
   have hb4 : (yUw m).length = (yaY m.Train).length:=rfl
   simp -dsimp -implicitDefEqProofs [hl,hm,yG klt,yG jlt]
   refine yS (yuz m.Train hms) ?_
   simp -dsimp -implicitDefEqProofs
   refine ⟨by omega,yw jlt hlen2,j + 1,jlt,by omega,?_⟩
   apply yj <;> simp [yUx hm,yUw,Nat.add_assoc]
  ·simp -dsimp -implicitDefEqProofs [yaB jge,hl]
   rw [yUB jge]
   have e2 : A ++ l.flatMap yUw = fl yUt x.Movers (k + 1):=by rw [e1]; rfl
   have e3 : A.length + (l.flatMap yUw).length = (fl yUt x.Movers (k + 1)).length:=by rw [← e2]; simp only [List.length_append]
   refine ⟨yw klt hlen,k + 1,klt,by omega,?_⟩
   apply yj <;> simp [← e2]
 simp -dsimp -implicitDefEqProofs [yaB kge]
 rw [yUB kge]
 generalize x.Movers.flatMap yUt = B1 at hB hP
 intro hlen
 refine yg (ι:=Nat) (fun q=>q ≤ x.Works.length) (fun q=>yO [(1,.box 1 0),(3,.own 3 1 (B1 ++ fl yUA x.Works q).length),(37,.c (.sl 22 (x.Works.map Work.enc))),(38,.c (.i x.Works.length)),(39,.c (.i q))] [(1,.box (x.enc.map .c)),(3,.row 1 ((B1 ++ fl yUA x.Works q).map yJ))]) (fun q=>x.Works.length - q) 0 (by simp) (by apply yj <;> simp [yUy]) ?_
 rintro q hq
 rcases Nat.lt_or_ge q x.Works.length with qlt | qge
 ·obtain ⟨w,hl⟩ : ∃ w,x.Works[q]? = some w:=⟨_,List.getElem?_eq_getElem qlt⟩
  have hws:=s3.2 w (List.mem_of_getElem? hl)
  have hb1:=yUC (f:=yUA) hl
  have hb3 : (yUA w).length = (w.Calls.flatMap yUv).length + (w.Lock.Inside.flatMap yaY).length:=by simp only [yUA,List.length_append]
  have e1:=yUx (f:=yUA) hl
  have g1:=(List.getElem?_eq_some_iff.1 hl).2
  simp -dsimp -implicitDefEqProofs [hl,g1,qlt,yG qlt]
  intro hlen2
  generalize fl yUA x.Works q = A at hb1 e1
  refine yg (ι:=Nat) (fun j=>j ≤ w.Calls.length) (fun j=>yO [(1,.box 1 0),(3,.own 3 1 (B1 ++ A ++ fl yUv w.Calls j).length),(37,.c (.sl 22 (x.Works.map Work.enc))),(38,.c (.i x.Works.length)),(39,.c (.i q)),(9,.box 9 0),(44,.c (.sl 4 (w.Calls.map CallT.enc))),(45,.c (.i w.Calls.length)),(46,.c (.i j))] [(1,.box (x.enc.map .c)),(3,.row 1 ((B1 ++ A ++ fl yUv w.Calls j).map yJ)),(9,.box (w.enc.map .c))]) (fun j=>w.Calls.length - j) 0 (by simp) (by apply yj <;> simp [yUy]) ?_
  rintro j hj
  rcases Nat.lt_or_ge j w.Calls.length with jlt | jge
  ·obtain ⟨c,hm⟩ : ∃ c,w.Calls[j]? = some c:=⟨_,List.getElem?_eq_getElem jlt⟩
   have hms:=hws.2.2.2 c (List.mem_of_getElem? hm)
   have hb2:=yUC (f:=yUv) hm
   have hb4 : (yUv c).length = (yaY c.Train).length:=rfl
   simp -dsimp -implicitDefEqProofs [hl,hm,g1,qlt,yG qlt,yG jlt]
   refine yS (yuz c.Train hms) ?_
   simp -dsimp -implicitDefEqProofs
   refine ⟨by omega,yw jlt hlen2,j + 1,jlt,by omega,?_⟩
   apply yj <;> simp [yUx hm,yUv,Nat.add_assoc]
  simp -dsimp -implicitDefEqProofs [yaB jge,hl]
  rw [yUB jge]
  have hW : yUA w = w.Calls.flatMap yUv ++ w.Lock.Inside.flatMap yaY:=rfl
  generalize w.Calls.flatMap yUv = A2 at hb3 hW
  intro hlen2
  refine yg (ι:=Nat) (fun i=>i ≤ w.Lock.Inside.length) (fun i=>yO [(1,.box 1 0),(3,.own 3 1 (B1 ++ A ++ A2 ++ fl yaY w.Lock.Inside i).length),(37,.c (.sl 22 (x.Works.map Work.enc))),(38,.c (.i x.Works.length)),(39,.c (.i q)),(58,.c (.sl 2 (w.Lock.Inside.map Train.enc))),(59,.c (.i w.Lock.Inside.length)),(60,.c (.i i))] [(1,.box (x.enc.map .c)),(3,.row 1 ((B1 ++ A ++ A2 ++ fl yaY w.Lock.Inside i).map yJ))]) (fun i=>w.Lock.Inside.length - i) 0 (by simp) (by apply yj <;> simp [yUy]) ?_
  rintro i hi
  rcases Nat.lt_or_ge i w.Lock.Inside.length with ilt | ige
  ·obtain ⟨t,hm⟩ : ∃ t,w.Lock.Inside[i]? = some t:=⟨_,List.getElem?_eq_getElem ilt⟩
   have hms:=hws.1.2 t (List.mem_of_getElem? hm)
   have hb2:=yUC (f:=yaY) hm
   simp -dsimp -implicitDefEqProofs [hl,hm,g1,qlt,yG qlt,yG ilt]
   refine yS (yuz t hms) ?_
   simp -dsimp -implicitDefEqProofs
   refine ⟨by omega,yw ilt hlen2,i + 1,ilt,by omega,?_⟩
   apply yj <;> simp [yUx hm,Nat.add_assoc]
  ·simp -dsimp -implicitDefEqProofs [yaB ige,hl]
   rw [yUB ige]
   have e2 : A ++ A2 ++ w.Lock.Inside.flatMap yaY = fl yUA x.Works (q + 1):=by rw [e1,List.append_assoc]; exact congrArg _ hW.symm
   refine ⟨yw qlt hlen,q + 1,qlt,by omega,?_⟩
   apply yj <;> simp [← e2,Nat.add_assoc]
 simp -dsimp -implicitDefEqProofs [yaB qge]
 rw [yUB qge]
 generalize x.Works.flatMap yUA = B2 at hB hP
 intro hlen
 refine yg (ι:=Nat) (fun p=>p ≤ x.Arrived.length) (fun p=>yO [(1,.box 1 0),(3,.own 3 1 (B1 ++ B2 ++ fl yaY x.Arrived p).length),(71,.c (.sl 2 (x.Arrived.map Train.enc))),(72,.c (.i x.Arrived.length)),(73,.c (.i p))] [(1,.box (x.enc.map .c)),(3,.row 1 ((B1 ++ B2 ++ fl yaY x.Arrived p).map yJ))]) (fun p=>x.Arrived.length - p) 0 (by simp) (by apply yj <;> simp [yUy]) ?_
 rintro p hp
 rcases Nat.lt_or_ge p x.Arrived.length with plt | pge
 ·obtain ⟨t,hm⟩ : ∃ t,x.Arrived[p]? = some t:=⟨_,List.getElem?_eq_getElem plt⟩
  have hms:=s5.2 t (List.mem_of_getElem? hm)
  have hb2:=yUC (f:=yaY) hm
  simp -dsimp -implicitDefEqProofs [hm,yG plt]
  refine yS (yuz t hms) ?_
  simp -dsimp -implicitDefEqProofs
  refine ⟨by omega,yw plt hlen,p + 1,plt,by omega,?_⟩
  apply yj <;> simp [yUx hm,Nat.add_assoc]
 ·simp -dsimp -implicitDefEqProofs [yaB pge]
  rw [yUB pge,hP]
  exact cat3.symm
theorem yU2 (x : Waterway) (hs : x.small) (hB : (yUs x).length ≤ 1000000000) : yB Tryz.prog 9 [.agg (x.enc.map .c)] (.c (.sl 1 ((yUs x).map yJ))):=(yU7 x hs hB).pure rfl
theorem yU1 {n v : Int} : ∀ {l : List (Int × Int)} {j i : Nat} {v0 : Int},yUu n j l = some (i,v0) → ∀ m : Int,j ≤ i ∧ yUu m j (yUF l (i - j) v) = if m = n then some (i,v) else yUu m j l
 | [],j,i,v0,h,m=>by cases h
 | q :: l,j,i,v0,h,m=>by
  simp only [yUu] at h
  split at h
  ·rename_i e
   cases h
   refine ⟨Nat.le_refl _,?_⟩
   rw [Nat.sub_self]
   show yUu m j ((q.1,v) :: l) = _
   simp only [yUu]
   by_cases hm : m = q.1
   ·rw [if_pos hm,if_pos (by omega)]
   ·rw [if_neg hm,if_neg (by omega),if_neg hm]
  ·rename_i e
   obtain ⟨h1,h2⟩:=yU1 (v:=v) h m
   refine ⟨by omega,?_⟩
   rw [show i - j = (i - (j + 1)) + 1 by omega]
   show yUu m j (q :: yUF l (i - (j + 1)) v) = _
   simp only [yUu]
   by_cases hm : m = q.1
   ·rw [if_pos hm,if_pos hm,if_neg (by omega)]
   ·rw [if_neg hm,if_neg hm,h2]
theorem yU5 {n : Int} : ∀ {l : List (Int × Int)} {j : Nat},yUu n j l = none → ∀ m v : Int,yUu m j (l ++ [(n,v)]) = if m = n then some (j + l.length,v) else yUu m j l
 | [],j,_,m,v=>by simp [yUu]
 | q :: l,j,h,m,v=>by
  simp only [yUu] at h
  split at h
  ·cases h
  ·rename_i e
   have h2:=yU5 h m v
   simp only [List.cons_append,yUu,List.length_cons]
   by_cases hm : m = q.1
   ·rw [if_pos hm,if_pos hm,if_neg (by omega)]
   ·rw [if_neg hm,if_neg hm,h2,show j + 1 + l.length = j + (l.length + 1) by omega]
theorem yVh {n v m : Int} {l : List (Int × Int)} : yUz m (yUP n v l) = if m = n then v else yUz m l:=by
 unfold yUP
 cases h : yUu n 0 l with
 | some p =>
  have hq:=(yU1 (v:=v) (l:=l) (j:=0) (i:=p.1) (v0:=p.2) h m).2
  rw [Nat.sub_zero] at hq
  simp only
  unfold yUz
  rw [hq]
  by_cases hm : m = n
  ·rw [if_pos hm,if_pos hm]
  ·rw [if_neg hm,if_neg hm]
 | none =>
  simp only
  unfold yUz
  rw [yU5 h m v]
  by_cases hm : m = n
  ·rw [if_pos hm,if_pos hm]
  ·rw [if_neg hm,if_neg hm]
@[simp] theorem leO_mps {a b : List (Int × Int)} : (Obj.mp a).leO (.mp b) = (a = b):=by
 show (Obj.mp a = Obj.mp b) = _
 simp
def yVd (kvs : List (Int × Int)) (l : List Int) : Prop:=∀ n,yUz n kvs = (l.count n : Int)
theorem yVi : yVd [] []:=fun n=>by simp [yUz,yUu]
theorem yVk {kvs : List (Int × Int)} {l : List Int} {k : Nat} {a : Int} (h : yVd kvs (l.take k)) (ha : l[k]? = some a) : yVd (yUP a (yUz a kvs + 1) kvs) (l.take (k + 1)):=by
 intro n
 rw [yVh,h a,h n,List.take_succ,ha]
 simp only [Option.toList_some,List.count_append,List.count_singleton]
 by_cases e : n = a
 ·subst e; simp
 ·have e2 : ¬ a = n:=fun e3=>e e3.symm
  simp [e,e2]
def yUD (x : Waterway) : Bool:=decide ((yUs x).length = x.Entered.length) && x.Entered.all fun i=>decide ((yUs x).count i = 1)
theorem yVg {x : Waterway} {k : Nat} {i : Int} (h : x.Entered[k]? = some i) (hi : ¬ (yUs x).count i = 1) : yUD x = false:=by
 have:=all_false (p:=fun i=>decide ((yUs x).count i = 1)) h (by simp [hi])
 simp [yUD,this]
set_option maxRecDepth 20000 in
theorem yU0 (x : Waterway) (hs : x.small) (hB : (yUs x).length ≤ 1000000000) : yB Tryz.prog 27 [.agg (x.enc.map .c)] (.c (.b (yUD x))):=by
 have hP:=yU2 x hs hB
 obtain ⟨P,hPe⟩ : ∃ P,yUs x = P:=⟨_,rfl⟩
 have hno:=fun k i=>yVg (x:=x) (k:=k) (i:=i)
 have hyes : yUD x = (decide ((yUs x).length = x.Entered.length) && x.Entered.all fun i=>decide ((yUs x).count i = 1)):=rfl
 rw [hPe] at hP hB hno hyes
 refine yh yUU ?_
 simp -dsimp -implicitDefEqProofs
 refine yaP (hP) (by simp -dsimp -implicitDefEqProofs) rfl ?_
 simp -dsimp -implicitDefEqProofs
 intro hlen1 hlen2
 by_cases he : P.length = x.Entered.length
 case neg =>
  have z1 : ((P.length : Int) = (x.Entered.length : Int)) = False:=by simp; omega
  simp -dsimp -implicitDefEqProofs [z1,he]
  rw [hyes]
  simp [he]
 have z1 : ((P.length : Int) = (x.Entered.length : Int)) = True:=by simp [he]
 simp -dsimp -implicitDefEqProofs [z1,he]
 intro _
 refine yg (ι:=Nat × List (Int × Int)) (fun q=>q.1 ≤ P.length ∧ yVd q.2 (P.take q.1)) (fun q=>yO [(1,.box 1 0),(2,.c (.b false)),(4,.mpr 17),(18,.c (.sl 1 (P.map yJ))),(19,.c (.i x.Entered.length)),(20,.c (.i q.1))] [(1,.box (x.enc.map .c)),(17,.mp q.2)]) (fun q=>P.length - q.1) (0,[]) ⟨by simp,yVi⟩ (by apply yj <;> simp) ?_
 rintro ⟨k,kvs⟩ ⟨hk,ht⟩
 simp only at hk ht
 rcases Nat.lt_or_ge k P.length with klt | kge
 ·obtain ⟨a,ha⟩ : ∃ a,P[k]? = some a:=⟨_,List.getElem?_eq_getElem klt⟩
  have ga:=(List.getElem?_eq_some_iff.1 ha).2
  have hc : yUz a kvs ≤ 1000000000 ∧ 0 ≤ yUz a kvs:=by
   rw [ht a]
   have:=List.count_le_length (l:=P.take k) (a:=a)
   rw [List.length_take] at this
   omega
  have ht2:=yVk ht ha
  have klt2 : k < x.Entered.length:=by omega
  simp -dsimp -implicitDefEqProofs [ha,ga,klt,klt2,yG klt2]
  refine ⟨by unfold inI; omega,by unfold inI; omega,k + 1,_,⟨klt,ht2⟩,by omega,?_⟩
  apply yj <;> simp
 ·have kge2 : x.Entered.length ≤ k:=by omega
  rw [List.take_of_length_le kge] at ht
  simp -dsimp -implicitDefEqProofs [yaB kge2]
  intro _
  refine yg (ι:=Nat) (fun k=>k ≤ x.Entered.length ∧ ∀ i ∈ x.Entered.take k,decide (P.count i = 1) = true) (fun k=>yO [(1,.box 1 0),(2,.c (.b false)),(4,.mpr 17),(30,.c (.sl 1 (x.Entered.map yJ))),(31,.c (.i x.Entered.length)),(32,.c (.i k))] [(1,.box (x.enc.map .c)),(17,.mp kvs)]) (fun k=>x.Entered.length - k) 0 (by simp) (by apply yj <;> simp) ?_
  rintro j ⟨hj,hall⟩
  rcases Nat.lt_or_ge j x.Entered.length with jlt | jge
  ·obtain ⟨i,hi⟩ : ∃ i,x.Entered[j]? = some i:=⟨_,List.getElem?_eq_getElem jlt⟩
   have gi:=(List.getElem?_eq_some_iff.1 hi).2
   have hti:=ht i
   by_cases hone : P.count i = 1
   ·have z2 : yUz i kvs = 1:=by rw [hti,hone]; rfl
    have hall2:=yL (p:=fun i=>decide (P.count i = 1)) hi hall (by simp [hone])
    simp -dsimp -implicitDefEqProofs [hi,gi,jlt,yG jlt,z2]
    refine ⟨yw jlt hlen2,j + 1,⟨jlt,by simpa using hall2⟩,by omega,?_⟩
    apply yj <;> simp
   ·have z2 : (yUz i kvs = 1) = False:=by rw [hti]; simp; omega
    simp -dsimp -implicitDefEqProofs [hi,gi,jlt,yG jlt,z2]
    exact hno j i hi hone
  ·have hall2:=yX (p:=fun i=>decide (P.count i = 1)) jge hall
   simp -dsimp -implicitDefEqProofs [yaB jge]
   rw [hyes,hall2]
   simp [he]
def yVE (x : Waterway) : Bool:=yar x && yVD x && yUD x && ySn x
theorem yVU (x : Waterway) (hs : x.small) (hB : (yUs x).length ≤ 1000000000) : yB Tryz.prog 10 [.agg (x.enc.map .c)] (.c (.b (yVE x))):=by
 refine yh yVQ ?_
 simp -dsimp -implicitDefEqProofs
 refine yaQ (yns x hs) (by simp -dsimp -implicitDefEqProofs) rfl ?_
 cases h1 : yar x with
 | false=>simp -dsimp -implicitDefEqProofs; simp [yVE,h1]
 | true =>
  simp -dsimp -implicitDefEqProofs
  refine yaQ (yVT x hs) (by simp -dsimp -implicitDefEqProofs) rfl ?_
  cases h2 : yVD x with
  | false=>simp -dsimp -implicitDefEqProofs; simp [yVE,h2]
  | true =>
   simp -dsimp -implicitDefEqProofs
   refine yaQ (yU0 x hs hB) (by simp -dsimp -implicitDefEqProofs) rfl ?_
   cases h3 : yUD x with
   | false=>simp -dsimp -implicitDefEqProofs; simp [yVE,h3]
   | true =>
    simp -dsimp -implicitDefEqProofs
    refine yaQ (yTy x hs) (by simp -dsimp -implicitDefEqProofs) rfl ?_
    simp -dsimp -implicitDefEqProofs
    simp [yVE,h1,h2,h3]
def yacu (W : Int) (k : Nat) (a : Int × Int × Int) (t : Train) : Int × Int × Int :=
 if 0 < k ∧ a.2.1 + yR6 t ≤ W then (a.1,a.2.1 + yR6 t,if a.2.2 < yR1 t then yR1 t else a.2.2)
 else (a.1 + a.2.2,yR6 t,yR1 t)
def chTo (W : Int) (l : List Train) : Nat → Int × Int × Int
 | 0=>(0,0,0)
 | k + 1=>match l[k]? with
  | some t=>yacu W k (chTo W l k) t
  | none=>chTo W l k
def yaat (L W : Int) (l : List Train) : Bool:=Distinct l && l.all (fun t=>decide (yR6 t ≤ W)) && decide ((chTo W l l.length).1 + (chTo W l l.length).2.2 ≤ L)
theorem yacl {W : Int} {l : List Train} {k : Nat} {t : Train} (h : l[k]? = some t) : chTo W l (k + 1) = yacu W k (chTo W l k) t:=by
 simp only [chTo,h]
theorem yadv {W : Int} {l : List Train} : ∀ k : Nat,(0 ≤ (chTo W l k).1 ∧ (chTo W l k).1 ≤ 1200 * k) ∧ (0 ≤ (chTo W l k).2.1 ∧ (chTo W l k).2.1 ≤ 180 * k) ∧ (0 ≤ (chTo W l k).2.2 ∧ (chTo W l k).2.2 ≤ 1200)
 | 0=>by simp [chTo]
 | k + 1=>by
  have ih:=yadv (W:=W) (l:=l) k
  cases h : l[k]? with
  | none=>simp only [chTo,h]; omega
  | some t =>
   have h1:=yT5 t
   have h2:=yTV t
   rw [yacl h]
   unfold yacu
   split
   ·simp only
    refine ⟨by omega,by omega,?_⟩
    split <;> omega
   ·simp only; omega
theorem yadJ {L W : Int} {l : List Train} (h : Distinct l = false) : yaat L W l = false:=by simp [yaat,h]
theorem yacA {L W : Int} {l : List Train} {k : Nat} {t : Train} (h : l[k]? = some t) (hw : W < yR6 t) : yaat L W l = false:=by
 have : l.all (fun t=>decide (yR6 t ≤ W)) = false:=all_false (p:=fun t=>decide (yR6 t ≤ W)) h (by simp; omega)
 simp only [yaat,this,Bool.and_false,Bool.false_and]
theorem yaax (l : List Train) (e : Lock) (hs : ybV l) : yB Tryz.prog 68 [.agg (e.enc.map .c),.c (.sl 2 (l.map Train.enc))] (.c (.b (yaat e.Length e.Width l))):=by
 refine yh yaaU ?_
 simp -dsimp -implicitDefEqProofs
 refine yc (ymr l hs) ?_
 cases hd : Distinct l with
 | false=>simp -dsimp -implicitDefEqProofs; exact yadJ hd
 | true =>
 have h8 : l.length ≤ 8:=by simp only [Distinct,Bool.and_eq_true,decide_eq_true_eq] at hd; exact hd.1.1
 simp -dsimp -implicitDefEqProofs
 intro hlen
 refine yg (ι:=Nat) (fun k=>k ≤ l.length ∧ ∀ t ∈ l.take k,decide (yR6 t ≤ e.Width) = true) (fun k=>yO [(2,.box 2 0),(5,.c (.i (chTo e.Width l k).1)),(6,.c (.i (chTo e.Width l k).2.1)),(7,.c (.i (chTo e.Width l k).2.2)),(15,.c (.sl 2 (l.map Train.enc))),(16,.c (.i l.length)),(17,.c (.i k))] [(2,.box (e.enc.map .c))]) (fun k=>l.length - k) 0 (by simp) (by apply yj <;> simp [chTo]) ?_
 rintro k ⟨hk,hall⟩
 have hin:=yadv (W:=e.Width) (l:=l) k
 rcases Nat.lt_or_ge k l.length with hlt | hge
 ·obtain ⟨t,ht⟩ : ∃ t,l[k]? = some t:=⟨_,List.getElem?_eq_getElem hlt⟩
  have hts:=hs.2 t (List.mem_of_getElem? ht)
  have h1:=yT5 t
  have h2:=yTV t
  have e1:=yacl (W:=e.Width) ht
  simp -dsimp -implicitDefEqProofs [ht,yG hlt]
  refine yaC (yTU t hts) ?_
  simp -dsimp -implicitDefEqProofs
  refine yaC (yTJ t hts) ?_
  simp -dsimp -implicitDefEqProofs
  refine ⟨fun hw=>(yacA ht hw),fun hw=>?_⟩
  have hall':=yL (p:=fun t=>decide (yR6 t ≤ e.Width)) ht hall (by simpa using hw)
  unfold yacu at e1
  have hall2 : ∀ x ∈ l.take (k + 1),yR6 x ≤ e.Width:=by simpa using hall'
  refine ⟨fun hk0=>⟨by unfold inI; omega,fun hf=>?_,fun hf=>?_⟩,fun hk0=>?_⟩
  ·have e2:=e1.trans (if_pos ⟨hk0,hf⟩)
   refine ⟨by unfold inI; omega,yw hlt hlen,k + 1,⟨hlt,hall2⟩,by omega,?_⟩
   apply yj <;> simp [e2]
  ·have e2:=e1.trans (if_neg (fun h=>by omega))
   refine ⟨by unfold inI; omega,yw hlt hlen,k + 1,⟨hlt,hall2⟩,by omega,?_⟩
   apply yj <;> simp [e2]
  ·have e2:=e1.trans (if_neg (fun h=>by omega))
   refine ⟨by unfold inI; omega,yw hlt hlen,k + 1,⟨hlt,hall2⟩,by omega,?_⟩
   apply yj <;> simp [e2]
 ·have hall2:=yX (p:=fun t=>decide (yR6 t ≤ e.Width)) hge hall
  have : k = l.length:=by omega
  subst this
  simp -dsimp -implicitDefEqProofs
  refine ⟨by unfold inI; omega,?_⟩
  have ha : l.all (fun t=>decide (yR6 t ≤ e.Width)) = true:=hall2
  simp only [yaat,hd,ha,Bool.true_and]
def yacw (a b : Reach) (w : Work) (c : CallT) : Int:=if c.Train.Up then yal b - w.Lock.SillBelow else yal a - w.Lock.SillAbove
def yaaC (a b : Reach) (w : Work) (c : CallT) : Bool:=decide (yPe c.Train ≤ yacw a b w c) && yaat w.Lock.Length w.Lock.Width [c.Train]
def able (a b : Reach) (w : Work) : List CallT:=w.Calls.filter (yaaC a b w)
def yaas (a b : Reach) (w : Work) (k : Nat) : List CallT:=(w.Calls.take k).filter (yaaC a b w)
theorem yacH {a b : Reach} {w : Work} {k : Nat} {c : CallT} (h : w.Calls[k]? = some c) : yaas a b w (k + 1) = yaas a b w k ++ (if yaaC a b w c then [c] else []):=by
 unfold yaas
 rw [List.take_succ,h,List.filter_append]
 cases hc : yaaC a b w c <;> simp [hc]
theorem yada {a b : Reach} {w : Work} {k : Nat} (h : w.Calls.length ≤ k) : yaas a b w k = able a b w:=by
 unfold yaas able; rw [List.take_of_length_le h]
theorem yacW {a b : Reach} {w : Work} {k : Nat} : (yaas a b w k).length ≤ w.Calls.length:=by
 have:=List.length_filter_le (yaaC a b w) (w.Calls.take k)
 rw [List.length_take] at this
 unfold yaas; omega
structure SillOk (w : Work) : Prop where
 a : 0 ≤ w.Lock.SillAbove ∧ w.Lock.SillAbove ≤ 100000
 b : 0 ≤ w.Lock.SillBelow ∧ w.Lock.SillBelow ≤ 100000
theorem yaeE {w : Work} (h : ybd w = true) : SillOk w:=by
 simp only [ybd,ybg,Bool.and_eq_true] at h
 exact ⟨yF.1 h.1.1.1.1.1.1.1.1.1.1.1.1.1.2,yF.1 h.1.1.1.1.1.1.1.1.1.1.1.1.2⟩
theorem yaed {t : Train} (h : t.small) : ybV [t]:=⟨by simp,fun x hx=>by simp at hx; rw [hx]; exact h⟩
set_option maxRecDepth 20000 in
theorem yaex (x : Waterway) (k : Nat) (w : Work) (a b : Reach) (hs : Work.small w) (hw : x.Works[k]? = some w) (ha : x.Reaches[k]? = some a) (hb : x.Reaches[k + 1]? = some b) (hsill : SillOk w) (hrl : x.Reaches.length ≤ 1048576) :
 yB Tryz.prog 30 [.agg (x.enc.map .c),.c (.i k)] (.c (.sl 4 ((able a b w).map CallT.enc))):=by
 have kw:=(List.getElem?_eq_some_iff.1 hw).1
 have ka:=(List.getElem?_eq_some_iff.1 ha).1
 have kb:=(List.getElem?_eq_some_iff.1 hb).1
 have gw:=(List.getElem?_eq_some_iff.1 hw).2
 have ga:=(List.getElem?_eq_some_iff.1 ha).2
 have gb:=(List.getElem?_eq_some_iff.1 hb).2
 obtain ⟨q1,q2⟩:=hsill
 have la:=yQo a
 have lb:=yQo b
 have hc1:=hs.2.2.1
 refine yh yacO ?_
 simp -dsimp -implicitDefEqProofs [yabt,hw,gw,kw,yG kw]
 simp -dsimp -implicitDefEqProofs [ha,ga,ka,yG ka]
 refine yaC (yel a) ?_
 simp -dsimp -implicitDefEqProofs
 refine ⟨by unfold inI; omega,by unfold inI; omega,by omega,by omega,?_⟩
 simp -dsimp -implicitDefEqProofs [hb,gb]
 refine yaC (yel b) ?_
 simp -dsimp -implicitDefEqProofs
 refine ⟨by unfold inI; omega,fun hlen=>?_⟩
 refine ymd (k0:=4) 8 4 (by simp) (by simp) (by decide) ?_
 refine yg (ι:=Nat) (fun i=>i ≤ w.Calls.length) (fun i=>yO [(2,.box 2 0),(5,.box 5 0),(6,.c (.i (yal a - w.Lock.SillAbove))),(7,.c (.i (yal b - w.Lock.SillBelow))),(8,.own 8 4 (yaas a b w i).length),(39,.c (.sl 4 (w.Calls.map CallT.enc))),(40,.c (.i w.Calls.length)),(41,.c (.i i))] [(2,.box (x.enc.map .c)),(5,.box (w.enc.map .c)),(8,.row 4 ((yaas a b w i).map CallT.enc))]) (fun i=>w.Calls.length - i) 0 (by simp) (by apply yj <;> simp [yaas]) ?_
 rintro i hi
 have hil:=yacW (a:=a) (b:=b) (w:=w) (k:=i)
 rcases Nat.lt_or_ge i w.Calls.length with hlt | hge
 ·obtain ⟨c,hc⟩ : ∃ c,w.Calls[i]? = some c:=⟨_,List.getElem?_eq_getElem hlt⟩
  have g1:=(List.getElem?_eq_some_iff.1 hc).2
  have hcs:=hs.2.2.2 c (List.mem_of_getElem? hc)
  have e1:=yacH (a:=a) (b:=b) hc
  have hd:=yQf c.Train
  have fin : ∀ {z : Int},z = yacw a b w c → yaaC a b w c = (decide (yPe c.Train ≤ z) && yaat w.Lock.Length w.Lock.Width [c.Train]):=fun h=>by rw [h]; rfl
  cases hu : c.Train.Up with
  | true =>
   have fin:=fin (z:=yal b - w.Lock.SillBelow) (by unfold yacw; rw [if_pos hu])
   simp -dsimp -implicitDefEqProofs [hc,g1,hlt,yG hlt,hu]
   refine yaQ (yPU c.Train hcs) (by simp [hu]) rfl ?_
   simp -dsimp -implicitDefEqProofs
   refine ⟨fun hd1=>?_,fun hd1=>?_⟩
   ·have hff:=yaax [c.Train] w.Lock (yaed hcs)
    refine yaQ (hff) (by simp [hu]) rfl ?_
    cases hf : yaat w.Lock.Length w.Lock.Width [c.Train] with
    | true =>
     have e2 : yaaC a b w c = true:=by rw [fin]; simp [hd1,hf]
     rw [e2] at e1
     simp -dsimp -implicitDefEqProofs [hu]
     refine ⟨by omega,yw hlt hlen,i + 1,hlt,by omega,?_⟩
     apply yj <;> simp [e1,hu]
    | false =>
     have e2 : yaaC a b w c = false:=by rw [fin]; simp [hf]
     rw [e2] at e1
     simp -dsimp -implicitDefEqProofs
     refine ⟨yw hlt hlen,i + 1,hlt,by omega,?_⟩
     apply yj <;> simp [e1]
   ·have e2 : yaaC a b w c = false:=by
     have : ¬ yPe c.Train ≤ yal b - w.Lock.SillBelow:=by omega
     rw [fin]; simp [this]
    rw [e2] at e1
    refine ⟨yw hlt hlen,i + 1,hlt,by omega,?_⟩
    apply yj <;> simp [e1]
  | false =>
   have fin:=fin (z:=yal a - w.Lock.SillAbove) (by unfold yacw; rw [if_neg (by simp [hu])])
   simp -dsimp -implicitDefEqProofs [hc,g1,hlt,yG hlt,hu]
   refine yaQ (yPU c.Train hcs) (by simp [hu]) rfl ?_
   simp -dsimp -implicitDefEqProofs
   refine ⟨fun hd1=>?_,fun hd1=>?_⟩
   ·have hff:=yaax [c.Train] w.Lock (yaed hcs)
    refine yaQ (hff) (by simp [hu]) rfl ?_
    cases hf : yaat w.Lock.Length w.Lock.Width [c.Train] with
    | true =>
     have e2 : yaaC a b w c = true:=by rw [fin]; simp [hd1,hf]
     rw [e2] at e1
     simp -dsimp -implicitDefEqProofs [hu]
     refine ⟨by omega,yw hlt hlen,i + 1,hlt,by omega,?_⟩
     apply yj <;> simp [e1,hu]
    | false =>
     have e2 : yaaC a b w c = false:=by rw [fin]; simp [hf]
     rw [e2] at e1
     simp -dsimp -implicitDefEqProofs
     refine ⟨yw hlt hlen,i + 1,hlt,by omega,?_⟩
     apply yj <;> simp [e1]
   ·have e2 : yaaC a b w c = false:=by
     have : ¬ yPe c.Train ≤ yal a - w.Lock.SillAbove:=by omega
     rw [fin]; simp [this]
    rw [e2] at e1
    refine ⟨yw hlt hlen,i + 1,hlt,by omega,?_⟩
    apply yj <;> simp [e1]
 ·simp -dsimp -implicitDefEqProofs [yaB hge]
  rw [yada hge]
  exact yt.symm
def yZ8 (x : Waterway) (k : Int) : List CallT :=
 if yar x && decide (0 ≤ k) && decide (k < x.Works.length) then (match x.Works[k.toNat]?,x.Reaches[k.toNat]?,x.Reaches[k.toNat + 1]? with
  | some w,some a,some b=>able a b w
  | _,_,_=>[]) else []
structure WorkAt (x : Waterway) (k : Nat) (w : Work) (a b : Reach) : Prop where
 hw : x.Works[k]? = some w
 ha : x.Reaches[k]? = some a
 hb : x.Reaches[k + 1]? = some b
 ok : ybd w = true
 wl : x.Works.length + 1 = x.Reaches.length
theorem yaeC {x : Waterway} {k : Nat} (h : yar x = true) (hk : k < x.Works.length) : ∃ w a b,WorkAt x k w a b:=by
 simp only [yar,Bool.and_eq_true] at h
 obtain ⟨⟨⟨⟨⟨⟨⟨h1,h2⟩,h3⟩,h4⟩,h5⟩,h6⟩,h7⟩,h8⟩:=h
 simp only [ybi,Bool.and_eq_true,decide_eq_true_eq,List.all_eq_true] at h2
 obtain ⟨⟨⟨⟨⟨⟨p1,p2⟩,p3⟩,p4⟩,p5⟩,p6⟩,p7⟩:=h2
 have e1 : x.Works[k]? = some x.Works[k]:=List.getElem?_eq_getElem hk
 exact ⟨x.Works[k],x.Reaches[k]'(by omega),x.Reaches[k + 1]'(by omega),e1,List.getElem?_eq_getElem _,List.getElem?_eq_getElem _,p7 _ (List.mem_of_getElem? e1),p5⟩
theorem yadO {x : Waterway} {k : Int} (h : yar x = false) : yZ8 x k = []:=by simp [yZ8,h]
theorem yadU {x : Waterway} {k : Int} (h : k < 0) : yZ8 x k = []:=by
 have : ¬ 0 ≤ k:=by omega
 simp [yZ8,this]
theorem yaef {x : Waterway} {k : Int} (h : (x.Works.length : Int) ≤ k) : yZ8 x k = []:=by
 have : ¬ k < x.Works.length:=by omega
 simp [yZ8,this]
theorem yaeh {x : Waterway} {k : Nat} {w : Work} {a b : Reach} (h : yar x = true) (hw : WorkAt x k w a b) : yZ8 x k = able a b w:=by
 have hk:=(List.getElem?_eq_some_iff.1 hw.hw).1
 have h1 : ((k : Nat) : Int) < x.Works.length:=by omega
 simp [yZ8,h,h1,hw.hw,hw.ha,hw.hb]
set_option maxRecDepth 20000 in
theorem yabO (x : Waterway) (k : Int) (hl : x.small) : ybh Tryz.prog 11 [.agg (x.enc.map .c),.c (.i k)] (.c (.ot 4 ((yZ8 x k).map CallT.yI))):=by
 refine yan yabl ?_
 simp -dsimp -implicitDefEqProofs
 refine yc (yns x hl) ?_
 cases h : yar x with
 | false=>simp -dsimp -implicitDefEqProofs; simp [yadO h]
 | true =>
 simp -dsimp -implicitDefEqProofs
 refine ⟨fun h0=>?_,fun h0=>?_⟩
 rotate_left
 ·simp [yadU h0]
 intro hlen
 refine ⟨fun h1=>?_,fun h1=>?_⟩
 ·simp [yaef h1]
 obtain ⟨n,rfl⟩:=Int.eq_ofNat_of_zero_le h0
 obtain ⟨w,a,b,hw⟩:=yaeC (k:=n) h (by omega)
 have hws : Work.small w:=hl.2.2.1.2 w (List.mem_of_getElem? hw.hw)
 rw [yaeh h hw]
 refine yS (yaex x n w a b hws hw.hw hw.ha hw.hb (yaeE hw.ok) hl.1.1) ?_
 have hsm : yfi (able a b w):=⟨Nat.le_trans (List.length_filter_le _ _) hws.2.2.1,fun c hc=>hws.2.2.2 c (List.mem_filter.1 hc).1⟩
 generalize able a b w = r at *
 simp -dsimp -implicitDefEqProofs
 refine yQ (yuP r hsm) (by simp) (ybn CallT.yad _ _) (by simp [yU]) ?_
 simp -dsimp -implicitDefEqProofs [yt]
theorem yaaq {t : Train} (ht : yP t = true) : yaY t = t.yas.map yfy ∧ 1 ≤ (yaY t).length ∧ (yaY t).length ≤ 6 ∧ ∀ i ∈ yaY t,inRange i 1 9999 = true:=by
 have h:=ht
 simp only [yP,Bool.and_eq_true,inRange,decide_eq_true_eq] at h
 obtain ⟨⟨⟨h1,h2⟩,h3⟩,h4,h5⟩:=h
 have e : yaY t = t.yas.map yfy:=by unfold yaY; rw [if_pos ht]
 refine ⟨e,by rw [e,List.length_map]; omega,by rw [e,List.length_map]; omega,fun i hi=>?_⟩
 rw [e] at hi
 obtain ⟨b,hb,rfl⟩:=List.mem_map.1 hi
 have:=List.all_eq_true.1 h2 b hb
 simp only [ybr,Bool.and_eq_true] at this
 exact this.1.1.1.1.1
theorem yacC {ws : List Way} {ms : List (List Mover)} (hl : ws.length = ms.length) : (ws.zip ms).all yb8 = true ↔ ∀ (k : Nat) (w : Way) (l : List Mover),ws[k]? = some w → ms[k]? = some l → yb8 (w,l) = true:=by
 rw [List.all_eq_true]
 constructor
 ·intro h k w l hw hm
  refine h (w,l) (List.mem_iff_getElem?.2 ⟨k,?_⟩)
  rw [List.getElem?_zip_eq_some]
  exact ⟨hw,hm⟩
 ·rintro h ⟨w,l⟩ hp
  obtain ⟨k,hk⟩:=List.mem_iff_getElem?.1 hp
  rw [List.getElem?_zip_eq_some] at hk
  exact h k w l hk.1 hk.2
theorem yacB {x : Waterway} (h : yar x = true) : x.Ways.length = x.Reaches.length ∧ x.Movers.length = x.Reaches.length ∧ 2 ≤ x.Reaches.length ∧ x.Works.length + 1 = x.Reaches.length ∧ (x.Ways.zip x.Movers).all yb8 = true:=by
 simp only [yar,Bool.and_eq_true] at h
 obtain ⟨⟨⟨⟨⟨⟨⟨h1,h2⟩,h3⟩,h4⟩,h5⟩,h6⟩,h7⟩,h8⟩:=h
 simp only [ybi,Bool.and_eq_true,decide_eq_true_eq] at h2
 obtain ⟨⟨⟨⟨⟨⟨p1,p2⟩,p3⟩,p4⟩,p5⟩,p6⟩,p7⟩:=h2
 exact ⟨p3,p4,p2,p5,p6⟩
theorem yadA {x : Waterway} {t : Train} (h : yar x = true) (ht : yP t = true) (hroom : ∀ l ∈ x.Movers,l.length < 24) (hent : x.Entered.length ≤ 1900) : yar (yOl x t) = true:=by
 obtain ⟨b1,b2,b3,b4⟩:=yaaq ht
 obtain ⟨q1,q2,q3,q4,q5⟩:=yacB h
 have F:=yOO h ht
 have hh:=h
 simp only [yar,Bool.and_eq_true] at hh ⊢
 obtain ⟨⟨⟨⟨⟨⟨⟨h1,h2⟩,h3⟩,h4⟩,h5⟩,h6⟩,h7⟩,h8⟩:=hh
 refine ⟨⟨⟨⟨⟨⟨⟨h1,?_⟩,?_⟩,h4⟩,h5⟩,h6⟩,h7⟩,h8⟩
 ·simp only [ybi,Bool.and_eq_true,decide_eq_true_eq] at h2 ⊢
  obtain ⟨⟨⟨⟨⟨⟨p1,p2⟩,p3⟩,p4⟩,p5⟩,p6⟩,p7⟩:=h2
  refine ⟨⟨⟨⟨⟨⟨p1,p2⟩,p3⟩,by simp [yOl,yOq]; exact p4⟩,p5⟩,?_⟩,p7⟩
  have hl1 : x.Ways.length = x.Movers.length:=by omega
  have hl2 : (yOl x t).Ways.length = (yOl x t).Movers.length:=by simp [yOl,yOq]; omega
  rw [yacC hl1] at p6
  rw [yacC hl2]
  intro k w l hw hm
  have hw' : x.Ways[k]? = some w:=hw
  have hm' : (x.Movers.set (yOI x t) (x.Movers.getD (yOI x t) [] ++ [⟨t,yOM x t⟩]))[k]? = some l:=hm
  rw [List.getElem?_set] at hm'
  split at hm'
  ·rename_i e
   rw [if_pos F.kl] at hm'
   cases hm'
   obtain ⟨l0,hl0⟩ : ∃ l0,x.Movers[yOI x t]? = some l0:=⟨_,List.getElem?_eq_getElem F.kl⟩
   have hg : x.Movers.getD (yOI x t) [] = l0:=by rw [List.getD_eq_getElem?_getD,hl0]; rfl
   rw [hg]
   have hold:=p6 k w l0 hw' (by rw [← e]; exact hl0)
   have hr:=hroom l0 (List.mem_of_getElem? hl0)
   simp only [yb8,Bool.and_eq_true,decide_eq_true_eq] at hold ⊢
   obtain ⟨⟨o1,o2⟩,o3⟩:=hold
   refine ⟨⟨o1,by simp; omega⟩,?_⟩
   rw [List.all_append,o3]
   simp only [List.all_cons,List.all_nil,Bool.and_true,Bool.true_and,ybk,o1,ht]
   have o1':=o1
   simp only [yjg,inRange,Bool.and_eq_true,decide_eq_true_eq] at o1'
   unfold yOM
   split
   ·rename_i hu
    have hk : yOI x t = x.Reaches.length - 1:=by unfold yOI; rw [if_pos hu]
    rw [← hk,e,List.getD_eq_getElem?_getD,hw']
    simp only [Option.getD_some,inRange,Bool.and_eq_true,decide_eq_true_eq]
    omega
   ·simp only [inRange,Bool.and_eq_true,decide_eq_true_eq]
    omega
  ·exact p6 k w l hw' hm'
 ·simp only [ybW,Bool.and_eq_true,decide_eq_true_eq] at h3 ⊢
  obtain ⟨⟨⟨⟨⟨l1,l2⟩,l3⟩,l4⟩,l5⟩,l6⟩:=h3
  refine ⟨⟨⟨⟨⟨l1,by simp [yOl]; omega⟩,l3⟩,l4⟩,?_⟩,l6⟩
  simp only [yOl,List.all_append,l5,Bool.true_and]
  exact List.all_eq_true.2 b4
structure Went (x0 : Waterway) (ts : List Train) (x : Waterway) : Prop where
 ok : yar x = true
 same : x = { x0 with Movers:=x.Movers,Entered:=ts.flatMap yaY }
 room : ∀ l ∈ x.Movers,l.length ≤ ts.length
 perm : (x.Movers.flatMap yUt).Perm (ts.flatMap yaY)
theorem yadM {ms : List (List Mover)} {k : Nat} {l : List Mover} {m : Mover} (h : ms[k]? = some l) : ((ms.set k (l ++ [m])).flatMap yUt).Perm (ms.flatMap yUt ++ yUw m):=by
 induction ms generalizing k with
 | nil=>cases h
 | cons a ms ih =>
  cases k with
  | zero =>
   have e : a = l:=by simpa using h
   subst e
   simp only [List.set_cons_zero,List.flatMap_cons]
   have : yUt (a ++ [m]) = yUt a ++ yUw m:=by simp [yUt]
   rw [this,List.append_assoc,List.append_assoc]
   exact List.Perm.append_left _ List.perm_append_comm
  | succ k =>
   simp only [List.set_cons_succ,List.flatMap_cons,List.append_assoc]
   exact List.Perm.append_left _ (ih (by simpa using h))
theorem yadS {l : List Int} {i : Int} : l.Nodup → i ∈ l → l.count i = 1:=by
 induction l with
 | nil=>intro _ h; cases h
 | cons a l ih =>
  intro hn hi
  rw [List.nodup_cons] at hn
  rw [List.count_cons]
  by_cases e : a = i
  ·subst e
   rw [List.count_eq_zero.2 hn.1]; simp
  ·rcases List.mem_cons.1 hi with e2 | h
   ·exact absurd e2.symm e
   ·rw [ih hn.2 h]; simp [e]
structure Bare (x : Waterway) : Prop where
 ok : yar x = true
 mv : ∀ l ∈ x.Movers,l = []
 ent : x.Entered = []
 arr : x.Arrived = []
 book : x.Book = []
 pas : x.Passings = []
 wk : ∀ w ∈ x.Works,w.Calls = [] ∧ w.Lock.Inside = []
 kept : yNB x + x.Out = x.Start + x.In
theorem yaea {x : Waterway} (h : Bare x) : Went x [] x:=by
 refine ⟨h.ok,?_,fun l hl=>by rw [h.mv l hl]; simp,?_⟩
 ·have:=h.ent
  cases x
  simp only at this
  subst this
  rfl
 ·have : x.Movers.flatMap yUt = []:=by
   rw [List.flatMap_eq_nil_iff]
   intro l hl
   rw [h.mv l hl]; rfl
  rw [this]
  exact List.Perm.refl _
theorem yacg {x0 x : Waterway} {ts : List Train} {t : Train} (h : Went x0 ts x) (ht : yP t = true) (hts : ∀ t ∈ ts,yP t = true) (hn : ts.length < 20) : Went x0 (ts ++ [t]) (yOl x t):=by
 have hE : x.Entered = ts.flatMap yaY:=by rw [h.same]
 have hlen : (ts.flatMap yaY).length ≤ 6 * ts.length:=by
  clear h hE hn
  induction ts with
  | nil=>simp
  | cons a ts ih =>
   have:=(yaaq (hts a (by simp))).2.2.1
   have:=ih fun t h=>hts t (List.mem_cons_of_mem _ h)
   simp only [List.flatMap_cons,List.length_append,List.length_cons]
   omega
 have F:=yOO h.ok ht
 obtain ⟨l0,hl0⟩ : ∃ l0,x.Movers[yOI x t]? = some l0:=⟨_,List.getElem?_eq_getElem F.kl⟩
 have hg : x.Movers.getD (yOI x t) [] = l0:=by rw [List.getD_eq_getElem?_getD,hl0]; rfl
 refine ⟨yadA h.ok ht (fun l hl=>by have:=h.room l hl; omega) (by rw [hE]; omega),?_,fun l hl=>?_,?_⟩
 ·have e : (yOl x t).Entered = (ts ++ [t]).flatMap yaY:=by
   show x.Entered ++ yaY t = _
   rw [hE]; simp
  have h1 : yOl x t = { x with Movers:=(yOl x t).Movers,Entered:=(yOl x t).Entered }:=rfl
  rw [h1,e]
  have h2:=h.same
  generalize (yOl x t).Movers = M
  rw [h2]
 ·have hm : l ∈ x.Movers.set (yOI x t) (x.Movers.getD (yOI x t) [] ++ [⟨t,yOM x t⟩]):=hl
  simp only [List.length_append,List.length_cons,List.length_nil]
  rcases List.mem_or_eq_of_mem_set hm with e | e
  ·have:=h.room l e; omega
  ·rw [e,hg]
   have:=h.room l0 (List.mem_of_getElem? hl0)
   simp; omega
 ·show ((x.Movers.set (yOI x t) (x.Movers.getD (yOI x t) [] ++ [⟨t,yOM x t⟩])).flatMap yUt).Perm _
  rw [hg]
  refine (yadM hl0).trans ?_
  rw [List.flatMap_append]
  refine (List.Perm.append_right _ h.perm).trans ?_
  simp [yUw]
theorem yaaI {x0 x : Waterway} {ts : List Train} (hb : Bare x0) (h : Went x0 ts x) : (yUs x).Perm (ts.flatMap yaY) ∧ x.Entered = ts.flatMap yaY:=by
 have hE : x.Entered = ts.flatMap yaY:=by rw [h.same]
 have hA : x.Arrived = []:=by rw [h.same]; exact hb.arr
 have hW : x.Works = x0.Works:=by rw [h.same]
 refine ⟨?_,hE⟩
 unfold yUs
 have e1 : x.Works.flatMap yUA = []:=by
  rw [hW,List.flatMap_eq_nil_iff]
  intro w hw
  obtain ⟨c1,c2⟩:=hb.wk w hw
  simp [yUA,c1,c2]
 rw [e1,hA]
 simpa using h.perm
theorem yadG {x0 x : Waterway} {ts : List Train} {t : Train} (h : Went x0 ts x) (ht : yP t = true) (hts : ∀ t ∈ ts,yP t = true) (hn : ts.length < 20) (hnew : ∀ i ∈ yaY t,i ∉ ts.flatMap yaY) : yOk x t = (yOl x t,true):=by
 have hE : x.Entered = ts.flatMap yaY:=by rw [h.same]
 have h1:=(yacg h ht hts hn).ok
 have h2 : (yaY t).all (yOs x) = true:=List.all_eq_true.2 fun i hi=>by
  unfold yOs
  rw [hE]
  simpa using hnew i hi
 unfold yOk
 rw [h.ok,ht,h2,h1]
 rfl
theorem yacG {x : Waterway} {t : Train} (ht : yP t = true) : yOk (yOl x t) t = (yOl x t,false):=by
 obtain ⟨b1,b2,b3,b4⟩:=yaaq ht
 obtain ⟨i,hi⟩ : ∃ i,i ∈ yaY t:=⟨(yaY t)[0]'(by omega),List.getElem_mem _⟩
 have h2 : (yaY t).all (yOs (yOl x t)) = false:=by
  rw [List.all_eq_false]
  refine ⟨i,hi,?_⟩
  unfold yOs
  simp [yOl,hi]
 unfold yOk
 rw [h2]
 simp
theorem yacF {x0 x : Waterway} {ts : List Train} (hb : Bare x0) (h : Went x0 ts x) (hnd : (ts.flatMap yaY).Nodup) : yVE x = true:=by
 obtain ⟨p1,p2⟩:=yaaI hb h
 have hk : yVD x = true:=by
  unfold yVD
  have e : yNB x = yNB x0:=by
   unfold yNB
   rw [h.ok,hb.ok,h.same]
  have e1 : x.Out = x0.Out:=by rw [h.same]
  have e2 : x.Start = x0.Start:=by rw [h.same]
  have e3 : x.In = x0.In:=by rw [h.same]
  rw [h.ok,e,e1,e2,e3,hb.kept]
  simp
 have ho : yUD x = true:=by
  unfold yUD
  rw [p2]
  simp only [Bool.and_eq_true,decide_eq_true_eq,List.all_eq_true]
  refine ⟨p1.length_eq,fun i hi=>?_⟩
  rw [p1.count_eq]
  exact yadS hnd hi
 have ht : ySn x = true:=by
  have e1 : x.Passings = []:=by rw [h.same]; exact hb.pas
  have e2 : x.Book = []:=by rw [h.same]; exact hb.book
  unfold ySn
  rw [e1,e2]
  simp
 unfold yVE
 rw [h.ok,hk,ho,ht]
 rfl
theorem yadF {x0 x : Waterway} {ts : List Train} (hb : Bare x0) (h : Went x0 ts x) : yZ8 x 0 = []:=by
 unfold yZ8
 split
 ·split
  ·rename_i w a b h1 h2 h3
   have hW : x.Works = x0.Works:=by rw [h.same]
   rw [hW] at h1
   unfold able
   rw [(hb.wk w (List.mem_of_getElem? h1)).1]
   rfl
  ·rfl
 ·rfl
theorem yY4 {a m : Int} (h0 : 0 ≤ m) (h1 : m ≤ 9223372036854775807) : 0 ≤ yBs a m ∧ yBs a m ≤ m:=by
 unfold yBs
 have h2 : (BitVec.ofInt 64 m).toNat = m.toNat:=by
  rw [BitVec.toNat_ofInt,Int.emod_eq_of_lt h0 (by omega)]
 have h3 : (BitVec.ofInt 64 a &&& BitVec.ofInt 64 m).toNat ≤ m.toNat:=by rw [BitVec.toNat_and,h2]; exact Nat.and_le_right
 rw [yfr (yZW (by omega) (by omega))]
 omega
def yZn (n : Nat) : List C:=[.u n]
def hNext (h : Int) : Int:=IntKind.i64.wrap (IntKind.i64.wrap (h * 6364136223846793005) + 1442695040888963407)
def yZr (h : Int) : Int:=yBs (yA5 (ytW (hNext h) 33) (ytW (hNext h) 45)) 255
def yYK (code : List UInt8) (p : Nat × Int) : List C:=[.sl 1 (code.map yvZ),.i p.1,.i p.2]
def yYu (code : List UInt8) (p : Nat × Int) : Nat × Int:=(if p.1 < code.length then p.1 + 1 else p.1,hNext p.2)
def yYI (code : List UInt8) (p : Nat × Int) : Int :=
 match code[p.1]? with
 | some b=>yBs (yZr p.2 + b.toNat) 255
 | none=>yZr p.2
theorem yYz {code : List UInt8} {p : Nat × Int} (h : p.1 ≤ code.length) : (yYu code p).1 ≤ code.length:=by
 unfold yYu; dsimp only; split <;> omega
theorem yYA (code : List UInt8) (p : Nat × Int) : 0 ≤ yYI code p ∧ yYI code p ≤ 255:=by
 unfold yYI
 split
 ·exact yY4 (by omega) (by omega)
 ·exact yY4 (by omega) (by omega)
theorem yZH (h : Int) : 0 ≤ yZr h ∧ yZr h ≤ 255:=yY4 (by omega) (by omega)
theorem yZQ (b : UInt8) : b.toNat ≤ 255:=by have:=b.toNat_lt; omega
theorem yYH (code : List UInt8) (p : Nat × Int) (hp : p.1 ≤ code.length) : yZB Tryz.prog 43 (yYK code p) (yYK code (yYu code p)) [] (.c (.i (yYI code p))):=by
 refine yZh yZb (by simp) fun hwf hwf2=>?_
 cases hb : code[p.1]? with
 | none =>
  have hge : code.length ≤ p.1:=by simpa using hb
  have hnl : (p.1 < code.length) = False:=by simp; omega
  simp -dsimp -implicitDefEqProofs [yYE,yYK,hnl]
  intro _
  simp [yYu,yYI,hNext,yZr,hb,hnl]
 | some b =>
  have hlt : p.1 < code.length:=(List.getElem?_eq_some_iff.1 hb).1
  have hr:=yZH p.2
  have g1:=(List.getElem?_eq_some_iff.1 hb).2
  have h8:=yZQ b
  simp only [yZr,hNext] at hr
  simp -dsimp -implicitDefEqProofs [yYE,yYK,hb,g1,hlt,yvZ]
  refine fun hl=>⟨by unfold inI; omega,by unfold maxLen at hl; unfold inI; omega,?_⟩
  simp [yYu,yYI,hNext,yZr,hb,g1,hlt]
def yYs (code : List UInt8) (n : Int) (p : Nat × Int) : Nat × Int :=
 if n ≤ 256 then yYu code p else yYu code (yYu code (yYu code (yYu code p)))
def yYv (code : List UInt8) (n : Int) (p : Nat × Int) : Int :=
 if n ≤ 256 then (yYI code p).tmod n
 else (yYI code p * 16777216 + yYI code (yYu code p) * 65536 + yYI code (yYu code (yYu code p)) * 256 + yYI code (yYu code (yYu code (yYu code p)))).tmod n
theorem yYt {code : List UInt8} {n : Int} {p : Nat × Int} (h : p.1 ≤ code.length) : (yYs code n p).1 ≤ code.length:=by
 unfold yYs
 split
 ·exact yYz h
 ·exact yYz (yYz (yYz (yYz h)))
theorem yYw {code : List UInt8} {n : Int} {p : Nat × Int} (hn : 1 ≤ n) : 0 ≤ yYv code n p ∧ yYv code n p < n:=by
 have h1:=yYA code p
 have h2:=yYA code (yYu code p)
 have h3:=yYA code (yYu code (yYu code p))
 have h4:=yYA code (yYu code (yYu code (yYu code p)))
 unfold yYv
 split
 ·rw [Int.tmod_eq_emod_of_nonneg (by omega)]
  exact ⟨Int.emod_nonneg _ (by omega),Int.emod_lt_of_pos _ (by omega)⟩
 ·rw [Int.tmod_eq_emod_of_nonneg (by omega)]
  exact ⟨Int.emod_nonneg _ (by omega),Int.emod_lt_of_pos _ (by omega)⟩
theorem yYB (code : List UInt8) (n : Int) (p : Nat × Int) (hp : p.1 ≤ code.length) (hn : 1 ≤ n) (hn2 : n ≤ 1000000) : yZB Tryz.prog 18 (yYK code p) (yYK code (yYs code n p)) [.c (.i n)] (.c (.i (yYv code n p))):=by
 refine yZh yY0 (by simp) fun hwf hwf2=>?_
 simp -dsimp -implicitDefEqProofs
 have n0 : (n ≤ 0) = False:=by simp; omega
 simp -dsimp -implicitDefEqProofs [n0]
 have hv:=yYw (code:=code) (p:=p) hn
 refine fun _=>⟨fun h=>?_,fun h=>?_⟩
 ·skip
  simp only [yYv,yYs,if_pos h] at hv ⊢
  refine yYx (yYH code p hp) (by simp ) (by simp) rfl (by simp [yU]) ?_
  simp -dsimp -implicitDefEqProofs
  refine ⟨by omega,by unfold inI; omega,?_⟩
  simp [h]; intros; omega
 ·skip
  have h' : ¬ n ≤ 256:=by omega
  simp only [yYv,yYs,if_neg h'] at hv ⊢
  have h1:=yYA code p
  have h2:=yYA code (yYu code p)
  have h3:=yYA code (yYu code (yYu code p))
  have h4:=yYA code (yYu code (yYu code (yYu code p)))
  refine yYx (yYH code p hp) (by simp ) (by simp) rfl (by simp [yU]) ?_
  simp -dsimp -implicitDefEqProofs
  refine yYx (yYH code (yYu code p) (yYz hp)) (by simp ) (by simp) rfl (by simp [yU]) ?_
  simp -dsimp -implicitDefEqProofs
  refine yYx (yYH code (yYu code (yYu code p)) (yYz (yYz hp))) (by simp ) (by simp) rfl (by simp [yU]) ?_
  simp -dsimp -implicitDefEqProofs
  refine yYx (yYH code (yYu code (yYu code (yYu code p))) (yYz (yYz (yYz hp)))) (by simp ) (by simp) rfl (by simp [yU]) ?_
  simp -dsimp -implicitDefEqProofs
  refine ⟨by unfold inI; omega,by unfold inI; omega,by unfold inI; omega,by unfold inI; omega,by unfold inI; omega,by unfold inI; omega,by omega,by unfold inI; omega,?_⟩
  simp [h']
def yZl (h : Int) (b : UInt8) : Int:=yBs (h * 131 + b.toNat + 7) 1073741823
def yYF (code : List UInt8) (k : Nat) : Int:=(code.take k).foldl yZl (33173 + code.length)
def hash (code : List UInt8) : Int:=yYF code (min code.length 4000)
theorem yYX {code : List UInt8} : yYF code 0 = 33173 + code.length:=rfl
theorem yYW {code : List UInt8} {k : Nat} {b : UInt8} (h : code[k]? = some b) : yYF code (k + 1) = yZl (yYF code k) b:=by
 unfold yYF; rw [List.take_succ,h,List.foldl_append]; rfl
theorem yZy (h : Int) (b : UInt8) : 0 ≤ yZl h b ∧ yZl h b ≤ 1073741823:=yY4 (by omega) (by omega)
theorem yY8 {code : List UInt8} (hl : code.length ≤ 1048576) : ∀ k : Nat,0 ≤ yYF code k ∧ yYF code k ≤ 1073741823
 | 0=>by rw [yYX]; omega
 | k + 1=>by
  cases h : code[k]? with
  | none =>
   have hk : code.length ≤ k:=by simpa using h
   have : yYF code (k + 1) = yYF code k:=by unfold yYF; rw [List.take_of_length_le (by omega),List.take_of_length_le hk]
   rw [this]; exact yY8 hl k
  | some b=>rw [yYW h]; exact yZy _ _
theorem yZD (code : List UInt8) (hl : code.length ≤ 1048576) : ybh Tryz.prog 16 [.c (.sl 1 (code.map yvZ))] (.c (.bx (yYK code (0,hash code)))):=by
 refine yan yZe ?_
 simp -dsimp -implicitDefEqProofs
 refine fun hlen=>⟨by unfold inI; omega,?_⟩
 refine yg (ι:=Nat) (fun k=>k ≤ min code.length 4000) (fun k=>yO [(0,.c (.sl 1 (code.map yvZ))),(3,.c (.i (yYF code k))),(4,.c (.i k))] []) (fun k=>min code.length 4000 - k) 0 (by simp) (by apply yj <;> simp [yYX]) ?_
 rintro k hk
 have hr:=yY8 hl k
 rcases Nat.lt_or_ge k code.length with hlt | hge
 ·obtain ⟨b,hb⟩ : ∃ b,code[k]? = some b:=⟨_,List.getElem?_eq_getElem hlt⟩
  have g1:=(List.getElem?_eq_some_iff.1 hb).2
  have h8:=yZQ b
  have hs:=yYW hb
  simp only [yZl] at hs
  simp -dsimp -implicitDefEqProofs [hb,g1,hlt,yvZ]
  refine fun _=>⟨fun h4=>⟨by unfold inI; omega,by unfold inI; omega,by unfold inI; omega,by unfold inI; omega,k + 1,by omega,by omega,?_⟩,fun h4=>?_⟩
  ·apply yj <;> simp [hs]
  ·have e : min code.length 4000 = k:=by omega
   simp [yYK,hash,e,C.plain]
 ·have hnl : (k < code.length) = False:=by simp; omega
  simp -dsimp -implicitDefEqProofs [hnl]
  intro _
  have e : min code.length 4000 = k:=by omega
  simp [yYK,hash,e,C.plain]
def yabv (code : List UInt8) (n : Int) (p : Nat × Int) : Bool:=decide (yYv code n p = 0)
theorem yacm (code : List UInt8) (n : Int) (p : Nat × Int) (hp : p.1 ≤ code.length) (hn : 1 ≤ n) (hn2 : n ≤ 1000000) : yZB Tryz.prog 44 (yYK code p) (yYK code (yYs code n p)) [.c (.i n)] (.c (.b (yabv code n p))):=by
 refine yZh yabQ (by simp) fun hwf hwf2=>?_
 simp -dsimp -implicitDefEqProofs
 refine yYx (yYB code n p hp hn hn2) (by simp ) (by simp) rfl (by simp [yU]) ?_
 simp -dsimp -implicitDefEqProofs
 simp [yabv]
def yZ6 (code : List UInt8) (l : List Int) (p : Nat × Int) : Int:=l[(yYv code l.length p).toNat]?.getD 0
def yaac (code : List UInt8) (l : List Int) (p : Nat × Int) : Nat × Int:=yYs code l.length p
theorem yaae {code : List UInt8} {l : List Int} {p : Nat × Int} (hl : 1 ≤ l.length) : yZ6 code l p ∈ l:=by
 have h:=yYw (code:=code) (n:=l.length) (p:=p) (by omega)
 have hlt : (yYv code l.length p).toNat < l.length:=by omega
 unfold yZ6
 rw [List.getElem?_eq_getElem hlt]
 exact List.getElem_mem hlt
theorem yZ5 (code : List UInt8) (l : List Int) (p : Nat × Int) (hp : p.1 ≤ code.length) (hl : 1 ≤ l.length) (hl2 : l.length ≤ 1000) : CurG Tryz.prog 38 (yYK code p) (yYK code (yaac code l p)) 1 (l.map yJ) (.c (.i (yZ6 code l p))):=by
 have h:=yYw (code:=code) (n:=l.length) (p:=p) (by omega)
 have hlt : (yYv code l.length p).toNat < l.length:=by omega
 obtain ⟨v,hv⟩ : ∃ v,l[(yYv code l.length p).toNat]? = some v:=⟨_,List.getElem?_eq_getElem hlt⟩
 have gv:=(List.getElem?_eq_some_iff.1 hv).2
 have hpv : yZ6 code l p = v:=by simp [yZ6,hv]
 refine yaeo yaba (by omega) rfl ?_
 simp -dsimp -implicitDefEqProofs
 intro hlen
 refine yYx (yYB code l.length p hp (by omega) (by omega)) (by simp ) (by simp) rfl (by simp [yU]) ?_
 simp -dsimp -implicitDefEqProofs [hv,gv,hlt,h.1,h.2]
 exact ⟨rfl,hpv⟩
theorem yaab {code : List UInt8} {l : List Int} {p : Nat × Int} (h : p.1 ≤ code.length) : (yaac code l p).1 ≤ code.length:=yYt h
def yaaM : List Int:=[5,12,30,80]
def yaaP (code : List UInt8) (p : Nat × Int) : Nat × Int:=yaac code yaaM p
def yaaN (code : List UInt8) (p : Nat × Int) : Nat × Int:=yYs code 9 (yaaP code p)
def yaaR (code : List UInt8) (p : Nat × Int) : Nat × Int:=yYs code 30 (yaaN code p)
def yaaQ (code : List UInt8) (p : Nat × Int) : Nat × Int:=yYs code 12 (yaaR code p)
def yaaJ (code : List UInt8) (p : Nat × Int) : Nat × Int:=yYs code 3 (yaaQ code p)
def yaaD (code : List UInt8) (id : Int) (p : Nat × Int) : Boat :=
 ⟨id,yZ6 code yaaM p,1 + yYv code 9 (yaaP code p),1 + yYv code 30 (yaaN code p),1 + yYv code 12 (yaaR code p),yYv code 3 (yaaQ code p)⟩
theorem yabT {code : List UInt8} {p : Nat × Int} (h : p.1 ≤ code.length) : (yaaJ code p).1 ≤ code.length:=yYt (yYt (yYt (yYt (yaab h))))
theorem yack (code : List UInt8) (id : Int) (p : Nat × Int) (hp : p.1 ≤ code.length) : yZB Tryz.prog 45 (yYK code p) (yYK code (yaaJ code p)) [.c (.i id)] (.agg ((yaaD code id p).enc.map .c)):=by
 have p1 : (yaaP code p).1 ≤ code.length:=yaab hp
 have p2 : (yaaN code p).1 ≤ code.length:=yYt p1
 have p3 : (yaaR code p).1 ≤ code.length:=yYt p2
 have p4 : (yaaQ code p).1 ≤ code.length:=yYt p3
 have h2:=yYw (code:=code) (n:=9) (p:=yaaP code p) (by omega)
 have h3:=yYw (code:=code) (n:=30) (p:=yaaN code p) (by omega)
 have h4:=yYw (code:=code) (n:=12) (p:=yaaR code p) (by omega)
 have h5:=yYw (code:=code) (n:=3) (p:=yaaQ code p) (by omega)
 have hpk:=yZ5 code yaaM p hp (by simp [yaaM]) (by simp [yaaM])
 have e4 : yaaM.map yJ = [[.i 5],[.i 12],[.i 30],[.i 80]]:=rfl
 refine yZh yabR (by simp) fun hwf hwf2=>?_
 simp -dsimp -implicitDefEqProofs
 refine yaaf (rows:=[[.i 5],[.i 12],[.i 30],[.i 80]]) (by simpa [e4] using hpk) (by simp) (by simp) rfl ?_
 simp -dsimp -implicitDefEqProofs
 refine yYx (yYB code 9 (yaaP code p) p1 (by omega) (by omega)) (by simp [yaaP]) (by simp) rfl (by simp [yU]) ?_
 simp -dsimp -implicitDefEqProofs
 refine ⟨by unfold inI; omega,?_⟩
 refine yYx (yYB code 30 (yaaN code p) p2 (by omega) (by omega)) (by simp [yaaN]) (by simp) rfl (by simp [yU]) ?_
 simp -dsimp -implicitDefEqProofs
 refine ⟨by unfold inI; omega,?_⟩
 refine yYx (yYB code 12 (yaaR code p) p3 (by omega) (by omega)) (by simp [yaaR]) (by simp) rfl (by simp [yU]) ?_
 simp -dsimp -implicitDefEqProofs
 refine ⟨by unfold inI; omega,?_⟩
 refine yYx (yYB code 3 (yaaQ code p) p4 (by omega) (by omega)) (by simp [yaaQ]) (by simp) rfl (by simp [yU]) ?_
 simp -dsimp -implicitDefEqProofs
 simp [yaaJ,yaaD]
def eoB (r : List Boat) : List C:=[.ow 6 (r.map Boat.enc)]
def addLast (rows : List (List Boat)) (b : Boat) : List (List Boat):=rows.set (rows.length - 1) (rows[rows.length - 1]?.getD [] ++ [b])
def yZ3 (code : List UInt8) (id : Int) (p : Nat × Int) : Nat → (Nat × Int) × List (List Boat)
 | 0=>(p,[])
 | k + 1 =>
  let q:=yZ3 code id p k
  if k = 0 then (yaaJ code q.1,q.2 ++ [[yaaD code (id + k) q.1]])
  else (yYs code 2 (yaaJ code q.1),if yabv code 2 (yaaJ code q.1) then addLast q.2 (yaaD code (id + k) q.1) else q.2 ++ [[yaaD code (id + k) q.1]])
theorem yaaT {code : List UInt8} {id : Int} {p : Nat × Int} (h : p.1 ≤ code.length) : ∀ k : Nat,(yZ3 code id p k).1.1 ≤ code.length
 | 0=>h
 | k + 1=>by
  have ih:=yaaT (id:=id) h k
  simp only [yZ3]
  split
  ·exact yabT ih
  ·exact yYt (yabT ih)
theorem yaar {code : List UInt8} {id : Int} {p : Nat × Int} : ∀ k : Nat,(yZ3 code id p k).2.length ≤ k ∧ (1 ≤ k → 1 ≤ (yZ3 code id p k).2.length)
 | 0=>by simp [yZ3]
 | k + 1=>by
  have ih:=yaar (code:=code) (id:=id) (p:=p) k
  simp only [yZ3]
  split
  ·simp; omega
  ·simp only []
   split
   ·simp [addLast]; omega
   ·simp; omega
theorem yaao {code : List UInt8} {id : Int} {p : Nat × Int} : ∀ k : Nat,∀ r ∈ (yZ3 code id p k).2,r.length ≤ k ∧ 1 ≤ r.length
 | 0,r,h=>by simp [yZ3] at h
 | k + 1,r,h=>by
  have ih:=yaao (code:=code) (id:=id) (p:=p) k
  simp only [yZ3] at h
  split at h
  ·rcases List.mem_append.1 h with h | h
   ·have:=ih r h; omega
   ·simp at h; subst h; simp
  ·simp only [] at h
   split at h
   ·unfold addLast at h
    rcases List.mem_or_eq_of_mem_set h with h | rfl
    ·have:=ih r h; omega
    ·cases hr : (yZ3 code id p k).2[(yZ3 code id p k).2.length - 1]? with
     | none=>simp
     | some r0=>have:=ih r0 (List.mem_of_getElem? hr); simp; omega
   ·rcases List.mem_append.1 h with h | h
    ·have:=ih r h; omega
    ·simp at h; subst h; simp
theorem yadh {rows : List (List Boat)} {z : Nat} {r0 : List Boat} {b : Boat} (h : rows[z]? = some r0) : setAt (setAt (rows.map eoB) z 0 .jk) z 0 (.ow 6 (r0.map Boat.enc ++ [b.enc])) = (rows.set z (r0 ++ [b])).map eoB:=by
 have hlt:=(List.getElem?_eq_some_iff.1 h).1
 have e1 : (rows.map eoB).getD z [] = eoB r0:=by simp [List.getD,h]
 have e2 : ((rows.map eoB).set z [C.jk]).getD z [] = [C.jk]:=by simp [List.getD,hlt]
 have e3 : setAt (rows.map eoB) z 0 .jk = (rows.map eoB).set z [C.jk]:=by unfold setAt; rw [e1]; rfl
 rw [e3]
 unfold setAt
 rw [e2,List.set_set,List.map_set]
 simp [eoB]
def yaag (code : List UInt8) (p : Nat × Int) : Nat:=(1 + yYv code 4 (yYs code 2 p)).toNat
def yabm (code : List UInt8) (id : Int) (p : Nat × Int) : Nat × Int:=(yZ3 code id (yYs code 4 (yYs code 2 p)) (yaag code p)).1
def yaad (code : List UInt8) (id : Int) (p : Nat × Int) : Train:=⟨yabv code 2 p,(yZ3 code id (yYs code 4 (yYs code 2 p)) (yaag code p)).2⟩
theorem yaaK (code : List UInt8) (p : Nat × Int) : (yaag code p : Int) = 1 + yYv code 4 (yYs code 2 p) ∧ 1 ≤ yaag code p ∧ yaag code p ≤ 4:=by
 have h:=yYw (code:=code) (n:=4) (p:=yYs code 2 p) (by omega)
 unfold yaag; omega
set_option maxRecDepth 4000 in
theorem yadb (code : List UInt8) (id : Int) (p : Nat × Int) (hp : p.1 ≤ code.length) (hid : 0 ≤ id ∧ id ≤ 1000000) : yZB Tryz.prog 19 (yYK code p) (yYK code (yabm code id p)) [.c (.i id)] (.agg [.c (.b (yaad code id p).Up),.c (.ot 1 ((yaad code id p).Rows.map eoB))]):=by
 refine yZh yabB (by simp) fun hwf hwf2=>?_
 have hK:=yaaK code p
 simp -dsimp -implicitDefEqProofs
 refine yYx (yacm code 2 p hp (by omega) (by omega)) (by simp ) (by simp) rfl (by simp [yU]) ?_
 simp -dsimp -implicitDefEqProofs
 refine yYx (yYB code 4 (yYs code 2 p) (yYt hp) (by omega) (by omega)) (by simp ) (by simp) rfl (by simp [yU]) ?_
 simp -dsimp -implicitDefEqProofs
 refine ⟨by unfold inI; omega,?_⟩
 have hp0 : (yYs code 4 (yYs code 2 p)).1 ≤ code.length:=yYt (yYt hp)
 rw [← hK.1]
 have eN : yabm code id p = (yZ3 code id (yYs code 4 (yYs code 2 p)) (yaag code p)).1:=rfl
 have eV : (yaad code id p).Rows = (yZ3 code id (yYs code 4 (yYs code 2 p)) (yaag code p)).2:=rfl
 have eU : (yaad code id p).Up = yabv code 2 p:=rfl
 rw [eN,eV,eU]
 generalize yaag code p = n at *
 generalize yYs code 4 (yYs code 2 p) = p0 at *
 generalize yabv code 2 p = up at *
 refine yg (ι:=Nat × Nat) (fun q=>q.1 ≤ n) (fun q=>if q.1 = 0 then yO [(0,.box 0 0),(1000000,.box 0 0),(1,.c (.i id)),(4,.box 4 0),(5,.box 5 0),(6,.c (.i n)),(7,.c (.i 0))] [(0,.box ((yYK code p0).map .c)),(4,.box [.c (.b false),.nil 1]),(5,.box [.c (.b up),.nil 1])]
  else yO [(0,.box 0 0),(1000000,.box 0 0),(1,.c (.i id)),(4,.box 4 0),(5,.box 5 0),(6,.c (.i n)),(7,.c (.i q.1))] [(0,.box ((yYK code (yZ3 code id p0 q.1).1).map .c)),(4,.box [.c (.b false),.nil 1]),(5,.box [.c (.b up),.own 54 1 (yZ3 code id p0 q.1).2.length]),(54,.tr 1 q.2 ((yZ3 code id p0 q.1).2.map eoB))]) (fun q=>n - q.1) (0,0) (by simp) (by rw [if_pos rfl]; apply yj <;> simp) ?_
 rintro ⟨k,ver⟩ hk
 simp only at hk
 rcases Nat.eq_zero_or_pos k with e | hk0
 ·subst e
  have hn0 : ((0 : Int) < (n : Int)) = True:=by simp; omega
  have hn0' : (0 < n) = True:=by simp; omega
  rw [if_pos rfl]
  have hs1 : yZ3 code id p0 1 = (yaaJ code p0,[[yaaD code id p0]]):=by simp [yZ3]
  simp -dsimp -implicitDefEqProofs [hn0,hn0']
  refine ⟨by unfold inI; omega,?_⟩
  refine yYx (yack code id p0 hp0) (by simp ) (by simp) rfl (by simp [yU]) ?_
  simp -dsimp -implicitDefEqProofs
  refine ⟨by unfold inI; omega,1,by omega,by omega,0,?_⟩
  rw [if_neg (by simp)]
  apply yj <;> simp [hs1,eoB]
 ·have hne : (k = 0) = False:=by simp; omega
  simp only [hne,if_false]
  have hq:=yaaT (id:=id) hp0 k
  have hln:=yaar (code:=code) (id:=id) (p:=p0) k
  have hrow:=yaao (code:=code) (id:=id) (p:=p0) k
  have hsuc : yZ3 code id p0 (k + 1) = (yYs code 2 (yaaJ code (yZ3 code id p0 k).1),if yabv code 2 (yaaJ code (yZ3 code id p0 k).1) then addLast (yZ3 code id p0 k).2 (yaaD code (id + k) (yZ3 code id p0 k).1) else (yZ3 code id p0 k).2 ++ [[yaaD code (id + k) (yZ3 code id p0 k).1]]):=by
   simp only [yZ3,hne,if_false]
  generalize hQ : yZ3 code id p0 k = Q at *
  obtain ⟨q,rows⟩:=Q
  simp only at hq hln hsuc hrow ⊢
  rcases Nat.lt_or_ge k n with hlt | hge
  ·simp -dsimp -implicitDefEqProofs [yG hlt,hlt]
   refine ⟨by unfold inI; omega,?_⟩
   refine yYx (yack code (id + k) q hq) (by simp ) (by simp) rfl (by simp [yU]) ?_
   simp -dsimp -implicitDefEqProofs
   refine ⟨fun _=>?_,fun h=>by omega⟩
   refine yYx (yacm code 2 (yaaJ code q) (yabT hq) (by omega) (by omega)) (by simp ) (by simp) rfl (by simp [yU]) ?_
   generalize yaaD code (id + k) q = b at *
   have hr1:=hln.2 (by omega)
   cases ho : yabv code 2 (yaaJ code q) with
   | false =>
    rw [ho] at hsuc
    simp -dsimp -implicitDefEqProofs
    have hl:=hln.1
    refine ⟨by omega,by unfold inI; omega,k + 1,hlt,by omega,0,?_⟩
    rw [if_neg (by omega)]
    apply yj <;> simp [hsuc,eoB]
   | true =>
    rw [ho] at hsuc
    obtain ⟨r0,hr0⟩ : ∃ r,rows[rows.length - 1]? = some r:=⟨_,List.getElem?_eq_getElem (by omega)⟩
    have g0:=(List.getElem?_eq_some_iff.1 hr0).2
    have hadd : addLast rows b = rows.set (rows.length - 1) (r0 ++ [b]):=by simp [addLast,hr0]
    have hl:=hln.1
    have ez : ((rows.length : Int) - 1) = ((rows.length - 1 : Nat) : Int):=by omega
    have m1 : rows.length - 1 < rows.length:=by omega
    obtain ⟨z,hz⟩ : ∃ z,z = rows.length - 1:=⟨_,rfl⟩
    rw [← hz] at hr0 hadd ez m1
    have hrl:=hrow r0 (List.mem_of_getElem? hr0)
    have g0:=(List.getElem?_eq_some_iff.1 hr0).2
    have hset:=yadh (b:=b) hr0
    have hjl : (setAt (rows.map eoB) z 0 C.jk).length = rows.length:=by simp [setAt]
    have htk : (r0.map Boat.enc ++ [b.enc]).take (r0.length + 1) = r0.map Boat.enc ++ [b.enc]:=List.take_of_length_le (by simp)
    simp only [Boat.enc] at htk hset
    simp -dsimp -implicitDefEqProofs [ez,hr0,m1,eoB,g0,hjl,htk]
    refine fun _=>⟨by unfold inI; omega,fun _=>⟨by unfold inI; omega,by omega,by unfold inI; omega,k + 1,hlt,by omega,ver + 2,?_⟩⟩
    rw [if_neg (by omega)]
    apply yj <;> simp [hsuc,hadd,g0,htk,hset]
  ·have : k = n:=by omega
   subst this
   simp -dsimp -implicitDefEqProofs
   rw [hQ,List.take_of_length_le (by simp)]
   exact ⟨rfl,rfl⟩
def gapL : List Int:=[0,3,30]
def pfrL : List Int:=[-1,0,500,1000000]
def yabu : List Int:=[0,500,600,1000000,1000001]
def paTo (code : List UInt8) (p : Nat × Int) (t : Int) : Nat → (Nat × Int) × Int × List Pause
 | 0=>(p,t,[])
 | k + 1 =>
  let q:=paTo code p t k
  (yaac code gapL (yYs code 20 q.1),q.2.1 + (1 + yYv code 20 q.1) + yZ6 code gapL (yYs code 20 q.1),q.2.2 ++ [⟨q.2.1,q.2.1 + (1 + yYv code 20 q.1)⟩])
theorem yadp {x : Int} (h : x ∈ gapL) : 0 ≤ x ∧ x ≤ 30:=by
 simp [gapL] at h; omega
theorem yaco {code : List UInt8} {p : Nat × Int} {t : Int} (h : p.1 ≤ code.length) : ∀ k : Nat,(paTo code p t k).1.1 ≤ code.length
 | 0=>h
 | k + 1=>yaab (yYt (yaco h k))
theorem yabZ {code : List UInt8} {p : Nat × Int} {t : Int} : ∀ k : Nat,(paTo code p t k).2.2.length = k
 | 0=>rfl
 | k + 1=>by simp [paTo,yabZ (code:=code) (p:=p) (t:=t) k]
theorem yacQ {code : List UInt8} {p : Nat × Int} {t : Int} (h : 0 ≤ t ∧ t ≤ 20) : ∀ k : Nat,0 ≤ (paTo code p t k).2.1 ∧ (paTo code p t k).2.1 ≤ 20 + 50 * k
 | 0=>by simp only [paTo]; omega
 | k + 1=>by
  have ih:=yacQ (code:=code) (p:=p) h k
  have h1:=yYw (code:=code) (n:=20) (p:=(paTo code p t k).1) (by omega)
  have h2:=yadp (yaae (code:=code) (l:=gapL) (p:=yYs code 20 (paTo code p t k).1) (by simp [gapL]))
  simp only [paTo]
  omega
def yaaH (code : List UInt8) : Nat → Nat × Int → List Pause → (Nat × Int) × List Pause
 | 0,p,l=>(p,l)
 | f + 1,p,l=>if (l.length : Int) < 8 + yYv code 2 p then yaaH code f (yYs code 2 p) (l ++ [⟨1000 + 10 * l.length,1005 + 10 * l.length⟩]) else (yYs code 2 p,l)
theorem yacM {code : List UInt8} : ∀ (f : Nat) {p : Nat × Int} {l : List Pause},p.1 ≤ code.length → (yaaH code f p l).1.1 ≤ code.length
 | 0,p,l,h=>h
 | f + 1,p,l,h=>by
  unfold yaaH
  split
  ·exact yacM f (yYt h)
  ·exact yYt h
theorem yaci {code : List UInt8} : ∀ (f : Nat) {p : Nat × Int} {l : List Pause},(yaaH code f p l).2.length ≤ l.length + f
 | 0,p,l=>Nat.le_refl _
 | f + 1,p,l=>by
  unfold yaaH
  split
  ·have:=yaci (code:=code) f (p:=yYs code 2 p) (l:=l ++ [⟨1000 + 10 * l.length,1005 + 10 * l.length⟩])
   simp only [List.length_append,List.length_cons,List.length_nil] at this
   omega
  ·simp only; omega
def paP (code : List UInt8) (p : Nat × Int) : Nat × Int:=yYs code 4 (yYs code 20 p)
def paK (code : List UInt8) (p : Nat × Int) : Nat:=(yYv code 4 (yYs code 20 p)).toNat
def paM (code : List UInt8) (p : Nat × Int) : (Nat × Int) × Int × List Pause:=paTo code (paP code p) (yYv code 20 p) (paK code p)
def paR (code : List UInt8) (d : Int) (q : Nat × Int) (l : List Pause) : (Nat × Int) × List Pause :=
 if d = 0 then (yaac code yabu (yaac code pfrL q),l ++ [⟨yZ6 code pfrL q,yZ6 code yabu (yaac code pfrL q)⟩])
 else if d = 1 then yaaH code (10 - l.length) q l else (q,l)
def yZ7 (code : List UInt8) (p : Nat × Int) : (Nat × Int) × List Pause:=paR code (yYv code 10 (paM code p).1) (yYs code 10 (paM code p).1) (paM code p).2.2
theorem yaeb (code : List UInt8) (p : Nat × Int) : (paK code p : Int) = yYv code 4 (yYs code 20 p) ∧ paK code p ≤ 3:=by
 have h:=yYw (code:=code) (n:=4) (p:=yYs code 20 p) (by omega)
 unfold paK; omega
theorem yaey {code : List UInt8} {p : Nat × Int} (h : p.1 ≤ code.length) : (paM code p).1.1 ≤ code.length:=yaco (yYt (yYt h)) _
theorem yaeG {code : List UInt8} {d : Int} {q : Nat × Int} {l : List Pause} (h : q.1 ≤ code.length) : (paR code d q l).1.1 ≤ code.length:=by
 unfold paR
 split
 ·exact yaab (yaab h)
 ·split
  ·exact yacM _ h
  ·exact h
theorem yade {code : List UInt8} {p : Nat × Int} (h : p.1 ≤ code.length) : (yZ7 code p).1.1 ≤ code.length:=yaeG (yYt (yaey h))
theorem yacE {code : List UInt8} {p : Nat × Int} : (yZ7 code p).2.length ≤ 13:=by
 have h1:=(yaeb code p).2
 have h2 : (paM code p).2.2.length = paK code p:=yabZ _
 unfold yZ7 paR
 split
 ·simp; omega
 ·split
  ·have:=yaci (code:=code) (10 - (paM code p).2.2.length) (p:=yYs code 10 (paM code p).1) (l:=(paM code p).2.2)
   omega
  ·simp only; omega
theorem yadc {code : List UInt8} {f : Nat} {p : Nat × Int} {l : List Pause} : yaaH code (f + 1) p l = if (l.length : Int) < 8 + yYv code 2 p then yaaH code f (yYs code 2 p) (l ++ [⟨1000 + 10 * l.length,1005 + 10 * l.length⟩]) else (yYs code 2 p,l):=rfl
theorem yadD {code : List UInt8} {p : Nat × Int} {t : Int} {k : Nat} : paTo code p t (k + 1) = (yaac code gapL (yYs code 20 (paTo code p t k).1),(paTo code p t k).2.1 + (1 + yYv code 20 (paTo code p t k).1) + yZ6 code gapL (yYs code 20 (paTo code p t k).1),(paTo code p t k).2.2 ++ [⟨(paTo code p t k).2.1,(paTo code p t k).2.1 + (1 + yYv code 20 (paTo code p t k).1)⟩]):=rfl
set_option maxRecDepth 4000 in
theorem yacI (code : List UInt8) (p : Nat × Int) (hp : p.1 ≤ code.length) : yZB Tryz.prog 39 (yYK code p) (yYK code (yZ7 code p).1) [] (.c (.ow 2 ((yZ7 code p).2.map Pause.enc))):=by
 have hK:=yaeb code p
 have hR:=yYw (code:=code) (n:=20) (p:=p) (by omega)
 have q0 : (paP code p).1 ≤ code.length:=yYt (yYt hp)
 have eD : yZ7 code p = paR code (yYv code 10 (paTo code (paP code p) (yYv code 20 p) (paK code p)).1) (yYs code 10 (paTo code (paP code p) (yYv code 20 p) (paK code p)).1) (paTo code (paP code p) (yYv code 20 p) (paK code p)).2.2:=rfl
 refine yZh yabq (by simp) fun hwf hwf2=>?_
 rw [eD]
 simp -dsimp -implicitDefEqProofs
 refine yYx (yYB code 20 p hp (by omega) (by omega)) (by simp ) (by simp) rfl (by simp [yU]) ?_
 simp -dsimp -implicitDefEqProofs
 refine yYx (yYB code 4 (yYs code 20 p) (yYt hp) (by omega) (by omega)) (by simp ) (by simp) rfl (by simp [yU]) ?_
 simp -dsimp -implicitDefEqProofs
 rw [← hK.1]
 have hP : yYs code 4 (yYs code 20 p) = paP code p:=rfl
 rw [hP]
 have hn3:=hK.2
 clear hK eD hP
 generalize paK code p = n at *
 generalize paP code p = qq at *
 generalize yYv code 20 p = t0 at *
 refine yg (ι:=Nat) (fun j=>j ≤ n) (fun j=>yO [(0,.box 0 0),(1000000,.box 0 0),(3,.own 7 2 j),(4,.c (.i (paTo code qq t0 j).2.1)),(5,.c (.i (n - j)))] [(0,.box ((yYK code (paTo code qq t0 j).1).map .c)),(7,.row 2 ((paTo code qq t0 j).2.2.map Pause.enc))]) (fun j=>n - j) 0 (by simp) (by apply yj <;> simp [paTo]) ?_
 rintro j hj
 have hq:=yaco (t:=t0) q0 j
 have hln:=yabZ (code:=code) (p:=qq) (t:=t0) j
 have hrg:=yacQ (code:=code) (p:=qq) (t:=t0) (by omega) j
 have hsuc:=yadD (code:=code) (p:=qq) (t:=t0) (k:=j)
 rcases Nat.lt_or_ge j n with hlt | hge
 ·have hgt : (0 < (n : Int) - (j : Int)) = True:=eq_true (by omega)
  generalize paTo code qq t0 j = Q at *
  obtain ⟨q,t,l⟩:=Q
  simp only at hq hln hrg hsuc ⊢
  have hv:=yYw (code:=code) (n:=20) (p:=q) (by omega)
  have hg:=yadp (yaae (code:=code) (l:=gapL) (p:=yYs code 20 q) (by simp [gapL]))
  have hpk:=yZ5 code gapL (yYs code 20 q) (yYt hq) (by simp [gapL]) (by simp [gapL])
  have eg : gapL.map yJ = [[.i 0],[.i 3],[.i 30]]:=rfl
  simp -dsimp -implicitDefEqProofs [hgt]
  refine ⟨fun _=>?_,fun h=>by omega⟩
  refine yYx (yYB code 20 q hq (by omega) (by omega)) (by simp ) (by simp) rfl (by simp [yU]) ?_
  simp -dsimp -implicitDefEqProofs
  refine ⟨by unfold inI; omega,by unfold inI; omega,by omega,by omega,by unfold inI; omega,?_⟩
  refine yaaf (rows:=[[.i 0],[.i 3],[.i 30]]) (by simpa [eg] using hpk) (by simp) (by simp) rfl ?_
  simp -dsimp -implicitDefEqProofs
  refine ⟨by unfold inI; omega,by unfold inI; omega,j + 1,hlt,by omega,?_⟩
  apply yj <;> simp [hsuc] <;> omega
 ·have hgt : (0 < (n : Int) - (j : Int)) = False:=eq_false (by omega)
  have : j = n:=by omega
  subst this
  generalize paTo code qq t0 j = Q at *
  obtain ⟨q,t,l⟩:=Q
  simp only at hq hln hrg hsuc ⊢
  have hv:=yYw (code:=code) (n:=10) (p:=q) (by omega)
  have q1 : (yYs code 10 q).1 ≤ code.length:=yYt hq
  simp -dsimp -implicitDefEqProofs [hgt]
  refine yYx (yYB code 10 q hq (by omega) (by omega)) (by simp ) (by simp) rfl (by simp [yU]) ?_
  generalize yYv code 10 q = d at *
  generalize yYs code 10 q = q' at *
  simp -dsimp -implicitDefEqProofs
  refine ⟨fun h0=>?_,fun h0=>⟨fun h1=>?_,fun h1=>?_⟩⟩
  ·have e : paR code d q' l = (yaac code yabu (yaac code pfrL q'),l ++ [⟨yZ6 code pfrL q',yZ6 code yabu (yaac code pfrL q')⟩]):=if_pos h0
   rw [e]
   have g1:=yZ5 code pfrL q' q1 (by simp [pfrL]) (by simp [pfrL])
   have g2:=yZ5 code yabu (yaac code pfrL q') (yaab q1) (by simp [yabu]) (by simp [yabu])
   have e1 : pfrL.map yJ = [[.i (-1)],[.i 0],[.i 500],[.i 1000000]]:=rfl
   have e2 : yabu.map yJ = [[.i 0],[.i 500],[.i 600],[.i 1000000],[.i 1000001]]:=rfl
   refine yaaf (rows:=[[.i (-1)],[.i 0],[.i 500],[.i 1000000]]) (by simpa [e1] using g1) (by simp) (by simp) rfl ?_
   simp -dsimp -implicitDefEqProofs
   refine yaaf (rows:=[[.i 0],[.i 500],[.i 600],[.i 1000000],[.i 1000001]]) (by simpa [e2] using g2) (by simp) (by simp) rfl ?_
   simp -dsimp -implicitDefEqProofs [yt]
   refine ⟨hln.symm,by omega,?_⟩
   rw [List.take_of_length_le (by simp)]
  ·have e : paR code d q' l = yaaH code (10 - l.length) q' l:=by unfold paR; rw [if_neg h0,if_pos h1]
   rw [e]
   have hf0 : 10 - l.length + l.length = 10:=by omega
   have hl9 : l.length ≤ 9:=by omega
   generalize hR : yaaH code (10 - l.length) q' l = R
   refine yg (ι:=Nat × (Nat × Int) × List Pause) (fun x=>x.2.1.1 ≤ code.length ∧ x.2.2.length ≤ 9 ∧ x.1 + x.2.2.length = 10 ∧ yaaH code x.1 x.2.1 x.2.2 = R) (fun x=>yO [(0,.box 0 0),(1000000,.box 0 0),(3,.own 7 2 x.2.2.length)] [(0,.box ((yYK code x.2.1).map .c)),(7,.row 2 (x.2.2.map Pause.enc))]) (fun x=>x.1) (10 - l.length,q',l) ⟨q1,hl9,hf0,hR⟩ (by apply yj <;> simp [hln]) ?_
   rintro ⟨f,p2,l2⟩ ⟨i1,i2,i3,i4⟩
   simp only at i1 i2 i3 i4
   obtain ⟨f,rfl⟩ : ∃ f',f = f' + 1:=⟨f - 1,by omega⟩
   rw [yadc] at i4
   have hv2:=yYw (code:=code) (n:=2) (p:=p2) (by omega)
   simp -dsimp -implicitDefEqProofs
   intro hm
   refine yYx (yYB code 2 p2 i1 (by omega) (by omega)) (by simp ) (by simp) rfl (by simp [yU]) ?_
   simp -dsimp -implicitDefEqProofs
   refine ⟨by unfold inI; omega,fun hlt hm2=>?_,fun hge=>?_⟩
   ·rw [if_pos hlt] at i4
    refine ⟨by unfold inI; omega,by unfold inI; omega,fun _=>⟨by unfold inI; omega,by unfold inI; omega,by omega,f,(yYs code 2 p2).1,(yYs code 2 p2).2,l2 ++ [⟨1000 + 10 * l2.length,1005 + 10 * l2.length⟩],⟨yYt i1,by simp; omega,by simp; omega,i4⟩,by omega,?_⟩⟩
    apply yj <;> simp
   ·rw [if_neg (by omega)] at i4
    rw [← i4]
    simp [yt]
  ·have e : paR code d q' l = (q',l):=by unfold paR; rw [if_neg h0,if_neg h1]
   rw [e]
   simp [yt]
   rw [List.take_of_length_le (by simp; omega)]
theorem yacP (code : List UInt8) (p : Nat × Int) (hp : p.1 ≤ code.length) : yZB Tryz.prog 39 (yYK code p) (yYK code (yZ7 code p).1) [] (.c (.sl 2 ((yZ7 code p).2.map Pause.enc))) :=
 (yacI code p hp).share (by simp [AV.shr,AV.ysI]) (fun l h=>by cases h)
set_option maxRecDepth 20000 in
theorem yN1 (rs : List Reach) (ws : List Way) (wk : List Work) (t : Tariff) (h1 : ycN rs) (h2 : yhr ws) (h3 : yc8 wk) (h4 : t.small) :
 yB Tryz.prog 41 [.c (.sl 3 (rs.map Reach.enc)),.c (.sl 2 (ws.map Way.enc)),.c (.sl 22 (wk.map Work.enc)),.agg (t.enc.map .c)] (.tup [.agg ((yNy rs ws wk t).1.enc.map .c),.c (.b (yNy rs ws wk t).2)]):=by
 have hr:=yN0 h1 h2 h3 h4
 have hn:=yN9 h1 h2 h3 h4
 have hl1:=h1.1
 have hrep : ∀ n : Nat,ykv (List.replicate n [C.sl 3 []]) = some (List.replicate n [C.sl 3 []]):=by
  intro n; induction n with
  | zero=>rfl
  | succ n ih=>rw [List.replicate_succ]; simp [ykv,ih,ybQ,C.shr]
 have hrm : (List.replicate rs.length ([] : List Mover)).map yZ = List.replicate rs.length [C.sl 3 []]:=by rw [List.map_replicate]; rfl
 have hco:=yxC (yNT rs ws wk t) hr
 have hW:=yOc (yNT rs ws wk t) hr
 have hV:=ym6 (yNS rs ws wk t) hn
 have hwr:=yN3 (yNT rs ws wk t)
 have he : (yNT rs ws wk t).enc = [.i 0,.sl 3 (rs.map Reach.enc),.sl 2 (ws.map Way.enc),.sl 22 (wk.map Work.enc),.sl 1 (List.replicate rs.length [C.sl 3 []]),.sl 2 [],.sl 1 [],.i t.Base,.i t.PerArea,.sl 1 (t.PerClass.map yJ),.sl 1 (t.Weights.map yJ),.sl 5 [],.sl 4 [],.i 0,.i 0,.i 0]:=by simp [yNT,Waterway.enc,hrm]
 have he2 : (yNS rs ws wk t).enc = [.i 0,.sl 3 (rs.map Reach.enc),.sl 2 (ws.map Way.enc),.sl 22 (wk.map Work.enc),.sl 1 (List.replicate rs.length [C.sl 3 []]),.sl 2 [],.sl 1 [],.i t.Base,.i t.PerArea,.sl 1 (t.PerClass.map yJ),.sl 1 (t.Weights.map yJ),.sl 5 [],.sl 4 [],.i (yNB (yNT rs ws wk t)),.i 0,.i 0]:=by simp [yNS,Waterway.enc,hrm]
 have hse : (yNT rs ws wk t).yAY = [.i 0,.ow 3 (rs.map Reach.enc),.ow 2 (ws.map Way.enc),.ow 22 (wk.map Work.enc),.ot 1 (List.replicate rs.length [C.ow 3 []]),.ow 2 [],.ow 1 [],.i t.Base,.i t.PerArea,.ow 1 (t.PerClass.map yJ),.ow 1 (t.Weights.map yJ),.ow 5 [],.ow 4 [],.i 0,.i 0,.i 0]:=by simp [yNT,Waterway.yAY,em,List.map_replicate]
 have hrep2 : ∀ n : Nat,ykv (List.replicate n [C.ow 3 []]) = some (List.replicate n [C.sl 3 []]):=by
  intro n; induction n with
  | zero=>rfl
  | succ n ih=>rw [List.replicate_succ,List.replicate_succ]; simp [ykv,ih,ybQ,C.shr]
 rw [he,hse] at hco
 rw [he] at hW
 rw [he2] at hV
 have hN1 : ∀ h : yar (yNS rs ws wk t) = true,wk.all yNA = true → yNy rs ws wk t = (yNS rs ws wk t,true):=fun h h'=>by simp [yNy,h,h']
 have hN2 : yar (yNS rs ws wk t) = false → yNy rs ws wk t = (yNE,false):=fun h=>yOi h
 have hN3 : wk.all yNA = false → yNy rs ws wk t = (yNE,false):=fun h=>yOg h
 have he3 : (yNS rs ws wk t).enc.map AV.c = _:=congrArg (List.map AV.c) he2
 generalize yNB (yNT rs ws wk t) = z at *
 generalize yNy rs ws wk t = R at *
 generalize yNS rs ws wk t = y at *
 generalize hok : yar y = ok at *
 refine yh yNV ?_
 simp -dsimp -implicitDefEqProofs
 intro hlen
 refine ⟨by omega,yQd ?_⟩
 simp -dsimp -implicitDefEqProofs
 refine yOf [18] hco (by simp -dsimp -implicitDefEqProofs [hrep,List.take_replicate]) rfl (by simp [yU]) ?_
 simp -dsimp -implicitDefEqProofs
 refine yaQ (hW) (by simp -dsimp -implicitDefEqProofs [yt,hrep2,List.take_replicate]) rfl ?_
 simp -dsimp -implicitDefEqProofs
 refine yg (ι:=Nat) (fun k=>k ≤ wk.length ∧ ∀ w ∈ wk.take k,yNA w = true) (fun k=>yO [(0,.c (.sl 3 (rs.map Reach.enc))),(1,.c (.sl 2 (ws.map Way.enc))),(2,.c (.sl 22 (wk.map Work.enc))),(8,.box 8 0),(9,.c (.b false)),(10,.box 10 0),(11,.c (.i k))] [(8,.box [.c (.i 0),.nil 3,.nil 2,.nil 22,.nil 1,.nil 2,.nil 1,.c (.i 0),.c (.i 0),.nil 1,.nil 1,.nil 5,.nil 4,.c (.i 0),.c (.i 0),.c (.i 0)]),(10,.box [.c (.i 0),.own 20021 3 rs.length,.own 30021 2 ws.length,.own 40021 22 wk.length,.own 50021 1 rs.length,.own 60021 2 0,.own 70021 1 0,.c (.i t.Base),.c (.i t.PerArea),.own 100021 1 t.PerClass.length,.own 110021 1 t.Weights.length,.own 120021 5 0,.own 130021 4 0,.c (.i z),.c (.i 0),.c (.i 0)]),(20021,.row 3 (rs.map Reach.enc)),(30021,.row 2 (ws.map Way.enc)),(40021,.row 22 (wk.map Work.enc)),(50021,.tr 1 0 (List.replicate rs.length [C.ow 3 []])),(60021,.row 2 []),(70021,.row 1 []),(100021,.row 1 (t.PerClass.map yJ)),(110021,.row 1 (t.Weights.map yJ)),(120021,.row 5 []),(130021,.row 4 [])]) (fun k=>wk.length - k) 0 (by simp) (by apply yj <;> simp) ?_
 rintro k ⟨hk,hall⟩
 rcases Nat.lt_or_ge k wk.length with klt | kge
 ·obtain ⟨w,hw⟩ : ∃ w,wk[k]? = some w:=⟨_,List.getElem?_eq_getElem klt⟩
  have g1:=(List.getElem?_eq_some_iff.1 hw).2
  simp -dsimp -implicitDefEqProofs [hw,g1,klt,yG klt]
  intro hlen2
  have bad : yNA w = false → R = (yNE,false):=fun h=>hN3 (all_false (p:=yNA) hw h)
  have badL : 0 < w.Lock.Inside.length → R = (yNE,false):=by
   intro h
   have h2 : ¬ w.Lock.Inside.length = 0:=by omega
   exact bad (by simp only [yNA,decide_eq_false h2,Bool.false_and])
  have badC : 0 < w.Calls.length → R = (yNE,false):=by
   intro h
   have h2 : ¬ w.Calls.length = 0:=by omega
   exact bad (by simp only [yNA,decide_eq_false h2,Bool.and_false])
  refine fun hlen3=>⟨fun hi hlen4=>⟨fun hc=>?_,fun hc=>?_⟩,fun hi=>?_⟩
  ·rw [badC hc]; simp [yNE]
  ·have hok : yNA w = true:=by
    have h1 : w.Lock.Inside.length = 0:=by rw [hi]; rfl
    have h3 : w.Calls.length = 0:=by rw [hc]; rfl
    simp [yNA,h1,h3]
   have hall':=yL (p:=yNA) hw hall hok
   refine ⟨yw klt hlen2,k + 1,⟨klt,hall'⟩,by omega,?_⟩
   apply yj <;> simp
  ·rw [badL hi]; simp [yNE]
 have hall2 : wk.all yNA = true:=yX (p:=yNA) kge hall
 simp -dsimp -implicitDefEqProofs [yaB kge]
 intro _
 refine yaQ (hV) (by simp -dsimp -implicitDefEqProofs [yt,hrep2,List.take_replicate]) rfl ?_
 cases ok with
 | false =>
  rw [hN2 rfl]
  simp -dsimp -implicitDefEqProofs
  simp [yNE]
 | true =>
  rw [hN1 rfl hall2]
  simp -dsimp -implicitDefEqProofs
  simp only [Waterway.enc,List.cons.injEq,C.i.injEq,C.sl.injEq,true_and,and_true] at he2
  obtain ⟨e0,e1,e2,e3,e4,e5,e6,e7,e8,e9,e10,e11,e12,e13,e14,e15⟩:=he2
  simp only [List.map_eq_nil_iff] at e5 e6 e11 e12
  simp only [e0,e1,e2,e3,e4,e5,e6,e7,e8,e9,e10,e11,e12,e13,e14,e15,hrep2,yt,yza]
  simp
def yaaa (t : List Point) (level : Int) (delay : Int) : Reach × Bool :=
 if inRange delay 0 12 then (if yR ⟨t,yac t level,List.replicate delay.toNat 0⟩ then (⟨t,yac t level,List.replicate delay.toNat 0⟩,true) else (⟨[],0,[]⟩,false)) else (⟨[],0,[]⟩,false)
set_option maxRecDepth 4000 in
theorem yacU (t : List Point) (level delay : Int) (hl : t.length ≤ 1048576) : ybh Tryz.prog 37 [.c (.sl 2 (t.map Point.enc)),.c (.i level),.c (.i delay)] (.tup [.agg ((yaaa t level delay).1.yI.map .c),.c (.b (yaaa t level delay).2)]):=by
 refine yan yabA ?_
 simp -dsimp -implicitDefEqProofs
 first
  | refine yaQ (yD delay 0 12) (by simp) rfl ?_
  | refine yaP (yD delay 0 12) (by simp) rfl ?_
  | refine ⟨_,_,yD delay 0 12,by simp,.inr rfl,?_⟩
  | refine ⟨_,_,yD delay 0 12,by simp,.inl rfl,?_⟩
  | refine ya2 (yD delay 0 12) (by simp) (.inr rfl) ?_
  | refine ya2 (yD delay 0 12) (by simp) (.inl rfl) ?_
 simp -dsimp -implicitDefEqProofs
 cases h1 : inRange delay 0 12 with
 | false =>
  simp -dsimp -implicitDefEqProofs
  have e : yaaa t level delay = (⟨[],0,[]⟩,false):=by simp [yaaa,h1]
  rw [e]
  refine yfg ?_
  simp
 | true =>
  have h2:=yF.1 h1
  simp -dsimp -implicitDefEqProofs
  refine ⟨by omega,?_⟩
  first
   | refine yaQ (yhS t level) (by simp) rfl ?_
   | refine yaP (yhS t level) (by simp) rfl ?_
   | refine ⟨_,_,yhS t level,by simp,.inr rfl,?_⟩
   | refine ⟨_,_,yhS t level,by simp,.inl rfl,?_⟩
   | refine ya2 (yhS t level) (by simp) (.inr rfl) ?_
   | refine ya2 (yhS t level) (by simp) (.inl rfl) ?_
  simp -dsimp -implicitDefEqProofs
  refine ⟨h2.1,by omega,?_⟩
  first
   | refine yaQ (ybX ⟨t,yac t level,List.replicate delay.toNat 0⟩) (by simp [yt,yJ]) rfl ?_
   | refine yaP (ybX ⟨t,yac t level,List.replicate delay.toNat 0⟩) (by simp [yt,yJ]) rfl ?_
   | refine ⟨_,_,ybX ⟨t,yac t level,List.replicate delay.toNat 0⟩,by simp [yt,yJ],.inr rfl,?_⟩
   | refine ⟨_,_,ybX ⟨t,yac t level,List.replicate delay.toNat 0⟩,by simp [yt,yJ],.inl rfl,?_⟩
   | refine ya2 (ybX ⟨t,yac t level,List.replicate delay.toNat 0⟩) (by simp [yt,yJ]) (.inr rfl) ?_
   | refine ya2 (ybX ⟨t,yac t level,List.replicate delay.toNat 0⟩) (by simp [yt,yJ]) (.inl rfl) ?_
  have e : yaaa t level delay = if yR ⟨t,yac t level,List.replicate delay.toNat 0⟩ then (⟨t,yac t level,List.replicate delay.toNat 0⟩,true) else (⟨[],0,[]⟩,false):=by simp [yaaa,h1]
  rw [e]
  cases hr : yR ⟨t,yac t level,List.replicate delay.toNat 0⟩ with
  | false =>
   simp -dsimp -implicitDefEqProofs
   refine yfg ?_
   simp
  | true =>
   simp -dsimp -implicitDefEqProofs
   refine yfg ?_
   simp [yt,yJ]
theorem yacK {k : Nat} {xs : List X} {s : St} : wOf (.bsl k xs) s = (xs.map s.ev).flatMap AV.ids:=rfl
def wgtL : List Int:=[1,2,3,7,0]
def yZ9 (code : List UInt8) (p : Nat × Int) : Nat → (Nat × Int) × List Int
 | 0=>(p,[])
 | k + 1=>(yaac code wgtL (yZ9 code p k).1,(yZ9 code p k).2 ++ [yZ6 code wgtL (yZ9 code p k).1])
theorem yabJ {code : List UInt8} {p : Nat × Int} (h : p.1 ≤ code.length) : ∀ k : Nat,(yZ9 code p k).1.1 ≤ code.length
 | 0=>h
 | k + 1=>yaab (yabJ h k)
theorem yabp {code : List UInt8} {p : Nat × Int} : ∀ k : Nat,(yZ9 code p k).2.length = k
 | 0=>rfl
 | k + 1=>by simp [yZ9,yabp (code:=code) (p:=p) k]
theorem yabo {code : List UInt8} {p : Nat × Int} : ∀ k : Nat,∀ w ∈ (yZ9 code p k).2,0 ≤ w ∧ w ≤ 7
 | 0,w,h=>by simp [yZ9] at h
 | k + 1,w,h=>by
  simp only [yZ9] at h
  rcases List.mem_append.1 h with h | h
  ·exact yabo k w h
  ·rw [List.mem_singleton] at h
   have h1:=yaae (code:=code) (l:=wgtL) (p:=(yZ9 code p k).1) (by simp [wgtL])
   rw [← h] at h1
   revert h1
   generalize w = v
   intro h1
   simp [wgtL] at h1; omega
def yabb (code : List UInt8) (p : Nat × Int) : Nat × Int:=yYs code 50 p
def yabf (code : List UInt8) (p : Nat × Int) : Nat × Int:=yYs code 20 (yabb code p)
def yaaZ (code : List UInt8) (p : Nat × Int) : Nat × Int:=yYs code 9 (yabf code p)
def yaaj (code : List UInt8) (p : Nat × Int) : Nat × Int:=yYs code 30 (yaaZ code p)
def tarK (code : List UInt8) (p : Nat × Int) : Nat:=(1 + yYv code 4 (yaaj code p)).toNat
def tarN (code : List UInt8) (p : Nat × Int) : Nat × Int:=(yZ9 code (yYs code 4 (yaaj code p)) (tarK code p)).1
def yabH : List Int → List Int
 | []=>[]
 | w :: l=>(w + 1) :: l
def tarV (code : List UInt8) (p : Nat × Int) : Tariff :=
 ⟨yYv code 50 p,yYv code 20 (yabb code p),[yYv code 9 (yabf code p),yYv code 30 (yaaZ code p),0],yabH (yZ9 code (yYs code 4 (yaaj code p)) (tarK code p)).2⟩
theorem yadr (code : List UInt8) (p : Nat × Int) : (tarK code p : Int) = 1 + yYv code 4 (yaaj code p) ∧ 1 ≤ tarK code p ∧ tarK code p ≤ 4:=by
 have h:=yYw (code:=code) (n:=4) (p:=yaaj code p) (by omega)
 unfold tarK; omega
set_option maxRecDepth 4000 in
theorem yacL (code : List UInt8) (p : Nat × Int) (hp : p.1 ≤ code.length) : yZB Tryz.prog 42 (yYK code p) (yYK code (tarN code p)) [] (.agg [.c (.i (tarV code p).Base),.c (.i (tarV code p).PerArea),.c (.ow 1 ((tarV code p).PerClass.map yJ)),.c (.ow 1 ((tarV code p).Weights.map yJ))]):=by
 have q1 : (yabb code p).1 ≤ code.length:=yYt hp
 have q2 : (yabf code p).1 ≤ code.length:=yYt q1
 have q3 : (yaaZ code p).1 ≤ code.length:=yYt q2
 have q4 : (yaaj code p).1 ≤ code.length:=yYt q3
 have hK:=yadr code p
 refine yZh yabj (by simp) fun hwf hwf2=>?_
 simp -dsimp -implicitDefEqProofs
 refine yYx (yYB code 50 p hp (by omega) (by omega)) (by simp ) (by simp) rfl (by simp [yU]) ?_
 simp -dsimp -implicitDefEqProofs
 refine yYx (yYB code 20 (yabb code p) q1 (by omega) (by omega)) (by simp [yabb]) (by simp) rfl (by simp [yU]) ?_
 simp -dsimp -implicitDefEqProofs
 refine yYx (yYB code 9 (yabf code p) q2 (by omega) (by omega)) (by simp [yabf]) (by simp) rfl (by simp [yU]) ?_
 simp -dsimp -implicitDefEqProofs
 refine yYx (yYB code 30 (yaaZ code p) q3 (by omega) (by omega)) (by simp [yaaZ]) (by simp) rfl (by simp [yU]) ?_
 simp -dsimp -implicitDefEqProofs
 refine yYx (yYB code 4 (yaaj code p) q4 (by omega) (by omega)) (by simp [yaaj]) (by simp) rfl (by simp [yU]) ?_
 simp -dsimp -implicitDefEqProofs
 have h4:=yYw (code:=code) (n:=4) (p:=yaaj code p) (by omega)
 refine ⟨by unfold inI; omega,?_⟩
 rw [← hK.1]
 have q5 : (yYs code 4 (yaaj code p)).1 ≤ code.length:=yYt q4
 have eN : tarN code p = (yZ9 code (yYs code 4 (yaaj code p)) (tarK code p)).1:=rfl
 have eW : (tarV code p).Weights = yabH (yZ9 code (yYs code 4 (yaaj code p)) (tarK code p)).2:=rfl
 have eB : (tarV code p).Base = yYv code 50 p:=rfl
 have eA : (tarV code p).PerArea = yYv code 20 (yabb code p):=rfl
 have eC : (tarV code p).PerClass = [yYv code 9 (yabf code p),yYv code 30 (yaaZ code p),0]:=rfl
 rw [eN,eW,eB,eA,eC]
 generalize tarK code p = n at *
 generalize yYs code 4 (yaaj code p) = q0 at *
 generalize yYv code 50 p = vb at *
 generalize yYv code 20 (yabb code p) = va at *
 generalize yYv code 9 (yabf code p) = c0 at *
 generalize yYv code 30 (yaaZ code p) = c1 at *
 refine yg (ι:=Nat) (fun k=>k ≤ n) (fun k=>if k = 0 then yO [(0,.box 0 0),(1000000,.box 0 0),(2,.box 2 0),(3,.box 3 0),(4,.c (.i n))] [(0,.box ((yYK code q0).map .c)),(2,.box [.c (.i 0),.c (.i 0),.nil 1,.nil 1]),(3,.box [.c (.i vb),.c (.i va),.own 13 1 3,.nil 1]),(13,.row 1 [[.i c0],[.i c1],[.i 0]])]
  else yO [(0,.box 0 0),(1000000,.box 0 0),(2,.box 2 0),(3,.box 3 0),(4,.c (.i (n - k)))] [(0,.box ((yYK code (yZ9 code q0 k).1).map .c)),(2,.box [.c (.i 0),.c (.i 0),.nil 1,.nil 1]),(3,.box [.c (.i vb),.c (.i va),.own 13 1 3,.own 28 1 k]),(13,.row 1 [[.i c0],[.i c1],[.i 0]]),(28,.row 1 ((yZ9 code q0 k).2.map yJ))]) (fun k=>n - k) 0 (by simp) (by rw [if_pos rfl]; apply yj <;> simp) ?_
 rintro k hk
 have e4 : wgtL.map yJ = [[.i 1],[.i 2],[.i 3],[.i 7],[.i 0]]:=rfl
 rcases Nat.eq_zero_or_pos k with e | hk0
 ·subst e
  rw [if_pos rfl]
  have hn0 : ((0 : Int) < (n : Int)) = True:=by simp; omega
  have hn0' : (0 < n) = True:=by simp; omega
  have hpk:=yZ5 code wgtL q0 q5 (by simp [wgtL]) (by simp [wgtL])
  have hs1 : yZ9 code q0 1 = (yaac code wgtL q0,[yZ6 code wgtL q0]):=by simp [yZ9]
  simp -dsimp -implicitDefEqProofs [hn0,hn0']
  have hg : CurG Tryz.prog 38 (yYK code q0) (yYK code (yaac code wgtL q0)) 1 ([[C.i 1],[C.i 2],[C.i 3],[C.i 7],[C.i 0]].take 5) (.c (.i (yZ6 code wgtL q0))):=hpk
  refine yabi (id:=0) (id1:=25) hg (by simp) (by simp) (by simp) (by simp) rfl ?_
  simp -dsimp -implicitDefEqProofs [yacK]
  refine ⟨by unfold inI; omega,1,by omega,by omega,?_⟩
  rw [if_neg (by omega)]
  apply yj <;> simp [hs1,yJ]
 ·have hne : (k = 0) = False:=by simp; omega
  simp only [hne,if_false]
  have hq:=yabJ (p:=q0) q5 k
  have hln:=yabp (code:=code) (p:=q0) k
  have hsuc : yZ9 code q0 (k + 1) = (yaac code wgtL (yZ9 code q0 k).1,(yZ9 code q0 k).2 ++ [yZ6 code wgtL (yZ9 code q0 k).1]):=rfl
  rcases Nat.lt_or_ge k n with hlt | hge
  ·have hgt : (0 < (n : Int) - (k : Int)) = True:=by simp; omega
   generalize yZ9 code q0 k = Q at *
   obtain ⟨q,ws⟩:=Q
   simp only at hq hln hsuc ⊢
   have hpk:=yZ5 code wgtL q hq (by simp [wgtL]) (by simp [wgtL])
   have hg : CurG Tryz.prog 38 (yYK code q) (yYK code (yaac code wgtL q)) 1 ([[C.i 1],[C.i 2],[C.i 3],[C.i 7],[C.i 0]].take 5) (.c (.i (yZ6 code wgtL q))):=hpk
   simp -dsimp -implicitDefEqProofs [hgt]
   refine ⟨fun _=>?_,fun h=>by omega⟩
   refine yabi (id:=0) (id1:=25) hg (by simp) (by simp) (by simp) (by simp) rfl ?_
   simp -dsimp -implicitDefEqProofs [hln,yacK]
   refine ⟨by omega,by unfold inI; omega,k + 1,hlt,by omega,?_⟩
   rw [if_neg (by omega)]
   apply yj <;> simp [hsuc,yJ]
   try omega
  ·have hgt : (0 < (n : Int) - (k : Int)) = False:=by simp; omega
   have : k = n:=by omega
   subst this
   obtain ⟨w0,wl,hws⟩ : ∃ w0 wl,(yZ9 code q0 k).2 = w0 :: wl:=by
    cases h : (yZ9 code q0 k).2 with
    | nil=>exfalso; rw [h] at hln; simp only [List.length_nil] at hln; omega
    | cons a l=>exact ⟨a,l,rfl⟩
   have hw7:=yabo (code:=code) (p:=q0) k w0 (by rw [hws]; simp)
   rw [hws]
   simp -dsimp -implicitDefEqProofs [hgt,yabH]
   rw [hws] at hln
   refine ⟨hk0,by unfold inI; omega,hk0,?_⟩
   rw [List.take_of_length_le (by simpa using Nat.le_of_eq hln)]
theorem yadL : ∀ (l : List Int),(∀ x ∈ l,0 ≤ x) → 0 ≤ l.sum
 | [],_=>by simp
 | a :: l,h=>by
  have h1:=h a (by simp)
  have h2:=yadL l fun x hx=>h x (by simp [hx])
  rw [List.sum_cons]; omega
theorem yadj (code : List UInt8) (p : Nat × Int) : ya9 (tarV code p) = true ∧ (tarV code p).small ∧ (tarV code p).Weights.length ≤ 4:=by
 have hK:=yadr code p
 have h1:=yYw (code:=code) (n:=50) (p:=p) (by omega)
 have h2:=yYw (code:=code) (n:=20) (p:=yabb code p) (by omega)
 have h3:=yYw (code:=code) (n:=9) (p:=yabf code p) (by omega)
 have h4:=yYw (code:=code) (n:=30) (p:=yaaZ code p) (by omega)
 have hl:=yabp (code:=code) (p:=yYs code 4 (yaaj code p)) (tarK code p)
 have hr:=yabo (code:=code) (p:=yYs code 4 (yaaj code p)) (tarK code p)
 have hw : ∃ w0 wl,(tarV code p).Weights = w0 :: wl ∧ (∀ w ∈ w0 :: wl,0 ≤ w ∧ w ≤ 8) ∧ 1 ≤ w0 ∧ wl.length ≤ 3:=by
  show ∃ w0 wl,yabH (yZ9 code (yYs code 4 (yaaj code p)) (tarK code p)).2 = w0 :: wl ∧ _
  generalize (yZ9 code (yYs code 4 (yaaj code p)) (tarK code p)).2 = l at *
  cases l with
  | nil=>simp at hl; omega
  | cons a l =>
   refine ⟨a + 1,l,rfl,fun w hw=>?_,by have:=hr a (by simp); omega,by simp at hl; omega⟩
   rcases List.mem_cons.1 hw with e | e
   ·have:=hr a (by simp); omega
   ·have:=hr w (by simp [e]); omega
 obtain ⟨w0,wl,e,hw,hw0,hwl⟩:=hw
 have hsum : 0 ≤ wl.sum:=by
  have:=yadL wl fun x hx=>(hw x (by simp [hx])).1
  omega
 have ec : (tarV code p).PerClass = [yYv code 9 (yabf code p),yYv code 30 (yaaZ code p),0]:=rfl
 refine ⟨?_,⟨?_,?_⟩,?_⟩
 ·have a1 : inRange (tarV code p).Base 0 10000 = true:=yF.2 ⟨h1.1,by have:=h1.2; show yYv code 50 p ≤ _; omega⟩
  have a2 : inRange (tarV code p).PerArea 0 100 = true:=yF.2 ⟨h2.1,by have:=h2.2; show yYv code 20 (yabb code p) ≤ _; omega⟩
  have a3 : (tarV code p).PerClass.all (fun n=>inRange n 0 10000) = true:=by
   rw [ec,List.all_eq_true]
   intro x hx
   simp only [List.mem_cons,List.not_mem_nil,or_false] at hx
   rcases hx with rfl | rfl | rfl
   ·exact yF.2 ⟨h3.1,by omega⟩
   ·exact yF.2 ⟨h4.1,by omega⟩
   ·decide
  have a4 : (tarV code p).Weights.all (fun n=>inRange n 0 1000) = true:=by
   rw [e,List.all_eq_true]
   exact fun x hx=>yF.2 ⟨(hw x hx).1,by have:=(hw x hx).2; omega⟩
  have a5 : inRange (tarV code p).Weights.length 1 11 = true:=by rw [e,List.length_cons]; exact yF.2 ⟨by omega,by omega⟩
  have a6 : (tarV code p).PerClass.length = 3:=by rw [ec]; rfl
  have a7 : 0 < (tarV code p).Weights.sum:=by rw [e,List.sum_cons]; omega
  simp only [ya9,a1,a2,a3,a4,a5,a6,a7,decide_true,Bool.and_self]
 ·rw [ec]; simp
 ·rw [e]; simp; omega
 ·rw [e]; simp; omega
def wayL : List Int:=[8,20,40]
def chlL : List Int:=[60,120]
def chwL : List Int:=[10,16]
def yaaE : List Int:=[60,300,2000]
def watL : List Int:=[10,30,70]
def rcP1 (code : List UInt8) (p : Nat × Int) : Nat × Int:=yYs code 9 p
def rcP2 (code : List UInt8) (p : Nat × Int) : Nat × Int:=yYs code 30 (rcP1 code p)
def rcP3 (code : List UInt8) (p : Nat × Int) : Nat × Int:=yYs code 3 (rcP2 code p)
def rcP4 (code : List UInt8) (p : Nat × Int) : Nat × Int:=yaac code wayL (rcP3 code p)
def wkP1 (code : List UInt8) (p : Nat × Int) : Nat × Int:=yaac code chlL (rcP4 code p)
def wkP2 (code : List UInt8) (p : Nat × Int) : Nat × Int:=yaac code chwL (wkP1 code p)
def wkP3 (code : List UInt8) (p : Nat × Int) : Nat × Int:=yYs code 8 (wkP2 code p)
def wkP4 (code : List UInt8) (p : Nat × Int) : Nat × Int:=yaac code yaaE (wkP3 code p)
def wkP5 (code : List UInt8) (p : Nat × Int) : Nat × Int:=yYs code 2 (wkP4 code p)
def wkP6 (code : List UInt8) (p : Nat × Int) : Nat × Int:=yaac code watL (wkP5 code p)
def wkP7 (code : List UInt8) (p : Nat × Int) : Nat × Int:=yYs code 9 (wkP6 code p)
def wkP8 (code : List UInt8) (p : Nat × Int) : Nat × Int:=yYs code 5 (wkP7 code p)
def wkP9 (code : List UInt8) (p : Nat × Int) : Nat × Int:=yYs code 20 (wkP8 code p)
def wkN (code : List UInt8) (p : Nat × Int) : Nat × Int:=(yZ7 code (wkP9 code p)).1
theorem yado {code : List UInt8} {p : Nat × Int} (h : p.1 ≤ code.length) : (rcP1 code p).1 ≤ code.length:=yYt h
theorem yadu {code : List UInt8} {p : Nat × Int} (h : p.1 ≤ code.length) : (rcP2 code p).1 ≤ code.length:=yYt (yado h)
theorem yadt {code : List UInt8} {p : Nat × Int} (h : p.1 ≤ code.length) : (rcP3 code p).1 ≤ code.length:=yYt (yadu h)
theorem yabG {code : List UInt8} {p : Nat × Int} (h : p.1 ≤ code.length) : (rcP4 code p).1 ≤ code.length:=yaab (yadt h)
theorem yadw {code : List UInt8} {p : Nat × Int} (h : p.1 ≤ code.length) : (wkP1 code p).1 ≤ code.length:=yaab (yabG h)
theorem yady {code : List UInt8} {p : Nat × Int} (h : p.1 ≤ code.length) : (wkP2 code p).1 ≤ code.length:=yaab (yadw h)
theorem yadn {code : List UInt8} {p : Nat × Int} (h : p.1 ≤ code.length) : (wkP3 code p).1 ≤ code.length:=yYt (yady h)
theorem yadx {code : List UInt8} {p : Nat × Int} (h : p.1 ≤ code.length) : (wkP4 code p).1 ≤ code.length:=yaab (yadn h)
theorem yadq {code : List UInt8} {p : Nat × Int} (h : p.1 ≤ code.length) : (wkP5 code p).1 ≤ code.length:=yYt (yadx h)
theorem yads {code : List UInt8} {p : Nat × Int} (h : p.1 ≤ code.length) : (wkP6 code p).1 ≤ code.length:=yaab (yadq h)
theorem yadm {code : List UInt8} {p : Nat × Int} (h : p.1 ≤ code.length) : (wkP7 code p).1 ≤ code.length:=yYt (yads h)
theorem yadk {code : List UInt8} {p : Nat × Int} (h : p.1 ≤ code.length) : (wkP8 code p).1 ≤ code.length:=yYt (yadm h)
theorem yadl {code : List UInt8} {p : Nat × Int} (h : p.1 ≤ code.length) : (wkP9 code p).1 ≤ code.length:=yYt (yadk h)
theorem yaeD {code : List UInt8} {p : Nat × Int} (h : p.1 ≤ code.length) : (wkN code p).1 ≤ code.length:=yade (yadl h)
def yaai (bed y : Int) : List Point:=[⟨bed,0⟩,⟨bed + 60,y⟩,⟨bed + 90,20000⟩]
def yaaB (code : List UInt8) (bed : Int) (p : Nat × Int) : Reach:=(yaaa (yaai bed (6000 + 600 * yYv code 9 p)) (bed + 25 + yYv code 30 (rcP1 code p)) (yYv code 3 (rcP2 code p))).1
def wayV (code : List UInt8) (bed : Int) (p : Nat × Int) : Way:=⟨yZ6 code wayL (rcP3 code p),bed⟩
def yaaA (code : List UInt8) (p : Nat × Int) : List Pause:=if ycD (yZ7 code p).2 then (yZ7 code p).2 else []
def yabU (code : List UInt8) (bed : Int) (p : Nat × Int) : Lock:=⟨yZ6 code chlL (rcP4 code p),yZ6 code chwL (wkP1 code p),bed,bed - 40,bed - 40,1 + yYv code 8 (wkP2 code p),yZ6 code yaaE (wkP3 code p),(1 + yYv code 8 (wkP2 code p)) * yZ6 code watL (wkP5 code p),0,[]⟩
def yacS (code : List UInt8) (bed : Int) (p : Nat × Int) : Weir:=⟨2,yYv code 9 (wkP6 code p),1 + yYv code 5 (wkP7 code p),bed + 10,1 + yYv code 20 (wkP8 code p)⟩
def yaam (code : List UInt8) (bed : Int) (p : Nat × Int) : Work:=⟨yabU code bed p,yacS code bed p,⟨bed + 20,bed + 45,bed + 70⟩,yaaA code (wkP9 code p),⟨false,0⟩,[]⟩
structure Drawn where
 p : Nat × Int
 R : List Reach
 W : List Way
 K : List Work
def yZ4 (code : List UInt8) (n : Nat) (p : Nat × Int) : Nat → Drawn
 | 0=>⟨p,[],[],[]⟩
 | k + 1 =>
  let q:=yZ4 code n p k
  if k + 1 = n then ⟨rcP4 code q.p,q.R ++ [yaaB code (40 * (n - k : Int)) q.p],q.W ++ [wayV code (40 * (n - k : Int)) q.p],q.K⟩
  else ⟨wkN code q.p,q.R ++ [yaaB code (40 * (n - k : Int)) q.p],q.W ++ [wayV code (40 * (n - k : Int)) q.p],q.K ++ [yaam code (40 * (n - k : Int)) q.p]⟩
theorem yabP {code : List UInt8} {n : Nat} {p : Nat × Int} (h : p.1 ≤ code.length) : ∀ k : Nat,(yZ4 code n p k).p.1 ≤ code.length
 | 0=>h
 | k + 1=>by
  have ih:=yabP (n:=n) h k
  unfold yZ4
  simp only
  split
  ·exact yabG ih
  ·exact yaeD ih
theorem yacf {code : List UInt8} {n : Nat} {p : Nat × Int} : ∀ k : Nat,k ≤ n → (yZ4 code n p k).R.length = k ∧ (yZ4 code n p k).W.length = k ∧ (k < n → (yZ4 code n p k).K.length = k) ∧ (k = n → (yZ4 code n p k).K.length = n - 1)
 | 0,_=>by simp [yZ4]; omega
 | k + 1,hk=>by
  have ih:=yacf (code:=code) (n:=n) (p:=p) k (by omega)
  unfold yZ4
  simp only
  split
  ·simp only [List.length_append,List.length_cons,List.length_nil]; omega
  ·simp only [List.length_append,List.length_cons,List.length_nil]; omega
def newK (code : List UInt8) (p : Nat × Int) : Nat:=(2 + yYv code 3 p).toNat
theorem yacs (code : List UInt8) (p : Nat × Int) : (newK code p : Int) = 2 + yYv code 3 p ∧ 2 ≤ newK code p ∧ newK code p ≤ 4:=by
 have h:=yYw (code:=code) (n:=3) (p:=p) (by omega)
 unfold newK; omega
def newD (code : List UInt8) (p : Nat × Int) : Drawn:=yZ4 code (newK code p) (yYs code 3 p) (newK code p)
theorem yaeq {code : List UInt8} {p : Nat × Int} (h : p.1 ≤ code.length) : (newD code p).p.1 ≤ code.length:=yabP (yYt h) _
def newV (code : List UInt8) (p : Nat × Int) : Waterway:=(yNy (newD code p).R (newD code p).W (newD code p).K (tarV code (newD code p).p)).1
def newN (code : List UInt8) (p : Nat × Int) : Nat × Int:=tarN code (newD code p).p
theorem yadH {bed y : Int} (hb : 0 ≤ bed ∧ bed ≤ 1000) (hy : 0 ≤ y ∧ y ≤ 20000) : yaM (yaai bed y) = true:=by
 simp [yaM,upTo,yhD,yaai,ygg,follows,inRange]
 omega
theorem yaev (n : Nat) : (List.replicate n (0 : Int)).sum = 0 ∧ ∀ x ∈ List.replicate n (0 : Int),amount x = true:=by
 refine ⟨?_,fun x hx=>by rw [(List.mem_replicate.1 hx).2]; decide⟩
 induction n with
 | zero=>rfl
 | succ n ih=>rw [List.replicate_succ,List.sum_cons,ih]; rfl
theorem yadB {code : List UInt8} {bed : Int} {p : Nat × Int} (hb : 0 ≤ bed ∧ bed ≤ 1000) : ∃ (t : List Point) (v : Int) (d : Nat),yaaB code bed p = ⟨t,v,List.replicate d 0⟩ ∧ t.length = 3 ∧ 0 ≤ v ∧ v ≤ 20000 ∧ d ≤ 2 ∧ yR ⟨t,v,List.replicate d 0⟩ = true:=by
 have h1:=yYw (code:=code) (n:=9) (p:=p) (by omega)
 have h2:=yYw (code:=code) (n:=30) (p:=rcP1 code p) (by omega)
 have h3:=yYw (code:=code) (n:=3) (p:=rcP2 code p) (by omega)
 unfold yaaB yaaa
 generalize yYv code 9 p = a at *
 generalize yYv code 30 (rcP1 code p) = b at *
 generalize yYv code 3 (rcP2 code p) = c at *
 have hT:=yadH (bed:=bed) (y:=6000 + 600 * a) hb (by omega)
 have p0 : ybq (yaai bed (6000 + 600 * a)) 0 = ⟨bed,0⟩:=rfl
 have p2 : ybq (yaai bed (6000 + 600 * a)) ((yaai bed (6000 + 600 * a)).length - 1) = ⟨bed + 90,20000⟩:=rfl
 have v0:=yh8 hT (x:=bed) (by rw [p0]; exact Int.le_refl _)
 have v1:=yhp hT (x:=bed + 90) (by rw [p2]; exact Int.le_refl _)
 have m0:=yk4 hT (x:=bed) (y:=bed + 25 + b) (by omega)
 have m1:=yk4 hT (x:=bed + 25 + b) (y:=bed + 90) (by omega)
 rw [v0,p0] at m0
 rw [v1,p2] at m1
 simp only at m0 m1
 have hin : inRange c 0 12 = true:=yF.2 ⟨by omega,by omega⟩
 have hok : yR ⟨yaai bed (6000 + 600 * a),yac (yaai bed (6000 + 600 * a)) (bed + 25 + b),List.replicate c.toNat 0⟩ = true:=by
  obtain ⟨z1,z2⟩:=yaev c.toNat
  simp only [yR,yda,hT,z1,Bool.and_eq_true,decide_eq_true_eq,List.all_eq_true,List.length_replicate,Bool.true_and]
  exact ⟨⟨⟨yF.2 ⟨by omega,by omega⟩,by omega⟩,z2⟩,by omega⟩
 rw [if_pos hin,if_pos hok]
 exact ⟨_,_,_,rfl,rfl,by omega,by omega,by omega,hok⟩
theorem yaet {code : List UInt8} {p : Nat × Int} : let x:=yZ6 code wayL p; x = 8 ∨ x = 20 ∨ x = 40:=by
 have:=yaae (code:=code) (l:=wayL) (p:=p) (by simp [wayL])
 simpa [wayL] using this
theorem yaew {code : List UInt8} {p : Nat × Int} : let x:=yZ6 code chlL p; x = 60 ∨ x = 120:=by
 have:=yaae (code:=code) (l:=chlL) (p:=p) (by simp [chlL])
 simpa [chlL] using this
theorem yaez {code : List UInt8} {p : Nat × Int} : let x:=yZ6 code chwL p; x = 10 ∨ x = 16:=by
 have:=yaae (code:=code) (l:=chwL) (p:=p) (by simp [chwL])
 simpa [chwL] using this
theorem yaeF {code : List UInt8} {p : Nat × Int} : let x:=yZ6 code yaaE p; x = 60 ∨ x = 300 ∨ x = 2000:=by
 have:=yaae (code:=code) (l:=yaaE) (p:=p) (by simp [yaaE])
 simpa [yaaE] using this
theorem yadN {code : List UInt8} {p : Nat × Int} : let x:=yZ6 code watL p; x = 10 ∨ x = 30 ∨ x = 70:=by
 have:=yaae (code:=code) (l:=watL) (p:=p) (by simp [watL])
 simpa [watL] using this
theorem yacj {a w : Int} (h : 1 ≤ a ∧ a ≤ 8) (hw : w = 10 ∨ w = 30 ∨ w = 70) : 0 ≤ a * w ∧ a * w ≤ 560:=by
 rcases hw with rfl | rfl | rfl <;> omega
theorem yaej {code : List UInt8} {bed : Int} {p : Nat × Int} (hb : 0 ≤ bed ∧ bed ≤ 1000) : yjg (wayV code bed p) = true:=by
 have h:=yaet (code:=code) (p:=rcP3 code p)
 simp only [yjg,wayV,Bool.and_eq_true]
 exact ⟨yF.2 ⟨by omega,by omega⟩,yF.2 ⟨by omega,by omega⟩⟩
theorem yacq : Distinct [] = true:=by decide
theorem yaeg {code : List UInt8} {bed : Int} {p : Nat × Int} (hb : 40 ≤ bed ∧ bed ≤ 1000) : ybd (yaam code bed p) = true ∧ yNA (yaam code bed p) = true ∧ (0 ≤ yNH (yaam code bed p) ∧ yNH (yaam code bed p) ≤ 560) ∧ (yaam code bed p).Calls = [] ∧ (yaam code bed p).Lock.Inside = [] ∧ (yaam code bed p).small:=by
 have e1:=yaew (code:=code) (p:=rcP4 code p)
 have e2:=yaez (code:=code) (p:=wkP1 code p)
 have e3:=yYw (code:=code) (n:=8) (p:=wkP2 code p) (by omega)
 have e4:=yaeF (code:=code) (p:=wkP3 code p)
 have e5:=yadN (code:=code) (p:=wkP5 code p)
 have e6:=yYw (code:=code) (n:=9) (p:=wkP6 code p) (by omega)
 have e7:=yYw (code:=code) (n:=5) (p:=wkP7 code p) (by omega)
 have e8:=yYw (code:=code) (n:=20) (p:=wkP8 code p) (by omega)
 have hw:=yacj (a:=1 + yYv code 8 (wkP2 code p)) (by omega) e5
 have hl : ybg (yabU code bed p) = true:=by
  simp only [ybg,yabU,yacq,Bool.and_true,Bool.and_eq_true]
  exact ⟨⟨⟨⟨⟨⟨⟨⟨yF.2 ⟨by omega,by omega⟩,yF.2 ⟨by omega,by omega⟩⟩,yF.2 ⟨by omega,by omega⟩⟩,yF.2 ⟨by omega,by omega⟩⟩,yF.2 ⟨by omega,by omega⟩⟩,yF.2 ⟨by omega,by omega⟩⟩,yF.2 ⟨by omega,by omega⟩⟩,yF.2 ⟨by omega,by omega⟩⟩,by decide⟩
 have hv : yaH (yacS code bed p) = true:=by
  simp only [yaH,yacS,Bool.and_eq_true]
  exact ⟨⟨⟨⟨by decide,yF.2 ⟨by omega,by omega⟩⟩,yF.2 ⟨by omega,by omega⟩⟩,yF.2 ⟨by omega,by omega⟩⟩,yF.2 ⟨by omega,by omega⟩⟩
 have hr : yca ⟨bed + 20,bed + 45,bed + 70⟩ = true:=by
  simp only [yca,Bool.and_eq_true,decide_eq_true_eq]
  exact ⟨⟨⟨⟨yF.2 ⟨by omega,by omega⟩,yF.2 ⟨by omega,by omega⟩⟩,yF.2 ⟨by omega,by omega⟩⟩,by omega⟩,by omega⟩
 have hp : ycD (yaaA code (wkP9 code p)) = true ∧ (yaaA code (wkP9 code p)).length ≤ 13:=by
  unfold yaaA
  split
  ·rename_i h; exact ⟨h,yacE⟩
  ·exact ⟨by decide,by simp⟩
 refine ⟨?_,rfl,hw,rfl,rfl,?_⟩
 ·have ht : ype ⟨false,0⟩ = true:=by decide
  simp only [ybd,yaam,hl,hv,hr,hp.1,ht,List.length_nil,List.all_nil]
  rfl
 ·exact ⟨⟨by simp [yaam,yabU],fun x hx=>by simp [yaam,yabU] at hx⟩,⟨by have:=hp.2; show (yaaA code (wkP9 code p)).length ≤ _; omega,fun _ _=>trivial⟩,⟨by simp [yaam],fun x hx=>by simp [yaam] at hx⟩⟩
structure SoundD (d : Drawn) (k j : Nat) : Prop where
 lr : d.R.length = k
 lw : d.W.length = k
 lk : d.K.length = j
 r : ∀ r ∈ d.R,yR r = true ∧ r.small ∧ 0 ≤ yda r ∧ yda r ≤ 20000
 w : ∀ w ∈ d.W,yjg w = true
 k : ∀ w ∈ d.K,ybd w = true ∧ yNA w = true ∧ (0 ≤ yNH w ∧ yNH w ≤ 560) ∧ w.Calls = [] ∧ w.Lock.Inside = [] ∧ w.small
theorem yabs {code : List UInt8} {n : Nat} {p : Nat × Int} (hn : n ≤ 4) : ∀ k : Nat,k ≤ n → SoundD (yZ4 code n p k) k (min k (n - 1))
 | 0,_=>⟨rfl,rfl,by simp [yZ4],fun r h=>by simp [yZ4] at h,fun r h=>by simp [yZ4] at h,fun r h=>by simp [yZ4] at h⟩
 | k + 1,hk=>by
  have ih:=yabs (code:=code) (p:=p) hn k (by omega)
  have hb : 40 ≤ (40 * (n - k : Int)) ∧ (40 * (n - k : Int)) ≤ 1000:=by omega
  obtain ⟨t,v,d,h1,h2,h3,h4,h5,h6⟩:=yadB (code:=code) (bed:=40 * (n - k : Int)) (p:=(yZ4 code n p k).p) (by omega)
  have hr : ∀ r ∈ (yZ4 code n p k).R ++ [yaaB code (40 * (n - k : Int)) (yZ4 code n p k).p],yR r = true ∧ r.small ∧ 0 ≤ yda r ∧ yda r ≤ 20000:=by
   intro r h
   rcases List.mem_append.1 h with h | h
   ·exact ih.r r h
   ·rw [List.mem_singleton,h1] at h
    subst h
    refine ⟨h6,⟨⟨by simp only; omega,fun _ _=>trivial⟩,⟨by simp only [List.length_replicate]; omega,fun _ _=>trivial⟩⟩,?_⟩
    simp only [yda,(yaev d).1]; omega
  have hw : ∀ w ∈ (yZ4 code n p k).W ++ [wayV code (40 * (n - k : Int)) (yZ4 code n p k).p],yjg w = true:=by
   intro w h
   rcases List.mem_append.1 h with h | h
   ·exact ih.w w h
   ·rw [List.mem_singleton] at h
    subst h
    exact yaej (by omega)
  have a1:=ih.lr
  have a2:=ih.lw
  have a3:=ih.lk
  unfold yZ4
  simp only
  split
  ·refine ⟨by simp; omega,by simp; omega,by simp only; omega,hr,hw,ih.k⟩
  ·refine ⟨by simp; omega,by simp; omega,by simp only [List.length_append,List.length_cons,List.length_nil]; omega,hr,hw,fun w h=>?_⟩
   rcases List.mem_append.1 h with h | h
   ·exact ih.k w h
   ·rw [List.mem_singleton] at h
    subst h
    exact yaeg hb
theorem yacr {α : Type} {f : α → Int} {m : Int} : ∀ (l : List α),(∀ x ∈ l,0 ≤ f x ∧ f x ≤ m) → 0 ≤ (l.map f).sum ∧ (l.map f).sum ≤ m * l.length
 | [],_=>by simp
 | a :: l,h=>by
  have ih:=yacr (f:=f) (m:=m) l fun x hx=>h x (by simp [hx])
  have h1:=h a (by simp)
  have h2 : m * ((a :: l).length : Int) = m * l.length + m:=by rw [List.length_cons]; push_cast; rw [Int.mul_add,Int.mul_one]
  simp only [List.map_cons,List.sum_cons]
  rw [h2]; omega
theorem yabM (code : List UInt8) (p : Nat × Int) : SoundD (newD code p) (newK code p) (newK code p - 1) ∧ ycN (newD code p).R ∧ yhr (newD code p).W ∧ yc8 (newD code p).K:=by
 obtain ⟨_,h2,h4⟩:=yacs code p
 have S : SoundD (newD code p) (newK code p) (newK code p - 1):=by
  have:=yabs (code:=code) (p:=yYs code 3 p) h4 (newK code p) (Nat.le_refl _)
  rw [show min (newK code p) (newK code p - 1) = newK code p - 1 by omega] at this
  exact this
 have a1:=S.lr
 have a2:=S.lw
 have a3:=S.lk
 exact ⟨S,⟨by omega,fun r h=>(S.r r h).2.1⟩,⟨by omega,fun _ _=>trivial⟩,⟨by omega,fun w h=>(S.k w h).2.2.2.2.2⟩⟩
theorem yadC (code : List UInt8) (p : Nat × Int) : Bare (newV code p) ∧ (newV code p).small:=by
 obtain ⟨S,s1,s2,s3⟩:=yabM code p
 obtain ⟨_,h2,h4⟩:=yacs code p
 obtain ⟨t1,t2,_⟩:=yadj code (newD code p).p
 have a1:=S.lr
 have a2:=S.lw
 have a3:=S.lk
 unfold newV
 generalize tarV code (newD code p).p = T at *
 generalize newD code p = d at *
 generalize newK code p = n at *
 have hno : d.K.all yNA = true:=List.all_eq_true.2 fun w h=>(S.k w h).2.1
 have hriv : ycM d.R = true:=by
  have:=yacr (f:=yda) (m:=20000) d.R fun r h=>(S.r r h).2.2
  simp only [ycM,river,Bool.and_eq_true,decide_eq_true_eq,List.all_eq_true]
  refine ⟨⟨⟨by omega,by omega⟩,fun r h=>(S.r r h).1⟩,decide_eq_true (by omega)⟩
 have hlan : (d.W.zip (List.replicate d.R.length [])).all yb8 = true:=by
  refine List.all_eq_true.2 fun q hq=>?_
  obtain ⟨w,l⟩:=q
  obtain ⟨m1,m2⟩:=List.of_mem_zip hq
  rw [(List.mem_replicate.1 m2).2]
  simp only [yb8,S.w w m1,List.length_nil,List.all_nil]
  rfl
 have hwk : d.K.all ybd = true:=List.all_eq_true.2 fun w h=>(S.k w h).1
 have hany : ∀ s : Int,0 ≤ s → s ≤ 1000000000 → yar ⟨0,d.R,d.W,d.K,List.replicate d.R.length [],[],[],T,[],[],s,0,0⟩ = true:=by
  intro s g1 g2
  have g3 : inRange s 0 1000000000 = true:=yF.2 ⟨g1,g2⟩
  have hp : ybi ⟨0,d.R,d.W,d.K,List.replicate d.R.length [],[],[],T,[],[],s,0,0⟩ = true:=by
   simp only [ybi,hriv,hlan,hwk,List.length_replicate,Bool.true_and,Bool.and_true,Bool.and_eq_true]
   exact ⟨⟨⟨decide_eq_true (by omega),decide_eq_true (by omega)⟩,decide_eq_true (by simp)⟩,decide_eq_true (by omega)⟩
  have hl : ybW ⟨0,d.R,d.W,d.K,List.replicate d.R.length [],[],[],T,[],[],s,0,0⟩ = true:=by
   simp [ybW]
  have hbk : yht [] = true:=by decide
  have h0 : inRange 0 0 1000000 = true:=by decide
  have h00 : inRange 0 0 1000000000 = true:=by decide
  simp only [yar,hp,hl,t1,hbk,g3,h0,h00,Bool.and_self]
 have hraw : yar (yNT d.R d.W d.K T) = true:=hany 0 (by omega) (by omega)
 have hwat : 0 ≤ yNB (yNT d.R d.W d.K T) ∧ yNB (yNT d.R d.W d.K T) ≤ 1000000000:=by
  have e1:=yacr (f:=yda) (m:=20000) d.R fun r h=>(S.r r h).2.2
  have e2:=yacr (f:=yNH) (m:=560) d.K fun w h=>(S.k w h).2.2.1
  unfold yNB yNz
  rw [if_pos hraw]
  show 0 ≤ (if ycM d.R then river d.R else 0) + (d.K.map yNH).sum ∧ (if ycM d.R then river d.R else 0) + (d.K.map yNH).sum ≤ 1000000000
  rw [if_pos hriv]
  unfold river
  omega
 have hnew : yar (yNS d.R d.W d.K T) = true:=hany _ hwat.1 hwat.2
 have e : yNy d.R d.W d.K T = (yNS d.R d.W d.K T,true):=by
  unfold yNy
  rw [hno,hnew]; rfl
 rw [e]
 refine ⟨⟨hnew,fun l hl=>(List.mem_replicate.1 hl).2,rfl,rfl,rfl,rfl,fun w hw=>⟨(S.k w hw).2.2.2.1,(S.k w hw).2.2.2.2.1⟩,?_⟩,yN9 s1 s2 s3 t2⟩
 show yNB (yNS d.R d.W d.K T) + 0 = yNB (yNT d.R d.W d.K T) + 0
 have : yNB (yNS d.R d.W d.K T) = yNB (yNT d.R d.W d.K T):=by
  unfold yNB
  rw [if_pos hnew,if_pos hraw]
  rfl
 rw [this]
theorem yacY (t : List Point) (level delay : Int) (hl : t.length ≤ 1048576) : yB Tryz.prog 37 [.c (.sl 2 (t.map Point.enc)),.c (.i level),.c (.i delay)] (.tup [.agg ((yaaa t level delay).1.enc.map .c),.c (.b (yaaa t level delay).2)]) :=
 (yacU t level delay hl).pure (by simp [AV.shr,AV.yAK,AV.ysI,ybQ,C.shr])
theorem yadg {code : List UInt8} {n : Nat} {p : Nat × Int} {k : Nat} (h : k + 1 = n) : yZ4 code n p (k + 1) = ⟨rcP4 code (yZ4 code n p k).p,(yZ4 code n p k).R ++ [yaaB code (40 * (n - k : Int)) (yZ4 code n p k).p],(yZ4 code n p k).W ++ [wayV code (40 * (n - k : Int)) (yZ4 code n p k).p],(yZ4 code n p k).K⟩:=by
 conv=>lhs; unfold yZ4
 rw [if_pos h]
theorem yadi {code : List UInt8} {n : Nat} {p : Nat × Int} {k : Nat} (h : ¬ k + 1 = n) : yZ4 code n p (k + 1) = ⟨wkN code (yZ4 code n p k).p,(yZ4 code n p k).R ++ [yaaB code (40 * (n - k : Int)) (yZ4 code n p k).p],(yZ4 code n p k).W ++ [wayV code (40 * (n - k : Int)) (yZ4 code n p k).p],(yZ4 code n p k).K ++ [yaam code (40 * (n - k : Int)) (yZ4 code n p k).p]⟩:=by
 conv=>lhs; unfold yZ4
 rw [if_neg h]
theorem yacN : ∀ {a b a' b' : List (List C)},ykv a = some a' → ykv b = some b' → ykv (a ++ b) = some (a' ++ b')
 | [],b,a',b',h1,h2=>by simp only [ykv] at h1; cases h1; exact h2
 | x :: a,b,a',b',h1,h2=>by
  simp only [List.cons_append,ykv] at h1 ⊢
  cases hx : ybQ x with
  | none=>rw [hx] at h1; cases h1
  | some y =>
   cases hl : ykv a with
   | none=>rw [hx,hl] at h1; cases h1
   | some r =>
    rw [hx,hl] at h1
    cases h1
    rw [yacN hl h2]
    rfl
theorem yach (K : List Work) : ykv (K.map Work.enc) = some (K.map Work.enc):=by
 have h:=yag (f:=Work.enc) (g:=Work.enc) (fun w=>by simp [ybQ,C.shr]) K
 exact h
set_option maxRecDepth 20000 in
theorem yadX (code : List UInt8) (p : Nat × Int) (hp : p.1 ≤ code.length) : yZB Tryz.prog 17 (yYK code p) (yYK code (newN code p)) [] (.agg ((newV code p).enc.map .c)):=by
 obtain ⟨hK,hn2,hn4⟩:=yacs code p
 have h3:=yYw (code:=code) (n:=3) (p:=p) (by omega)
 obtain ⟨_,s1,s2,s3⟩:=yabM code p
 have q0 : (yYs code 3 p).1 ≤ code.length:=yYt hp
 have eN : newN code p = tarN code (newD code p).p:=rfl
 have eV : newV code p = (yNy (newD code p).R (newD code p).W (newD code p).K (tarV code (newD code p).p)).1:=rfl
 have eD : newD code p = yZ4 code (newK code p) (yYs code 3 p) (newK code p):=rfl
 rw [eN,eV]
 refine yZh yacd (by simp) fun hwf hwf2=>?_
 simp -dsimp -implicitDefEqProofs
 refine yYx (yYB code 3 p hp (by omega) (by omega)) (by simp ) (by simp) rfl (by simp [yU]) ?_
 simp -dsimp -implicitDefEqProofs
 refine ⟨by unfold inI; omega,?_⟩
 rw [← hK]
 rw [eD] at s1 s2 s3 ⊢
 clear eN eV eD hK
 generalize newK code p = n at *
 generalize yYs code 3 p = qq at *
 refine yg (ι:=Nat) (fun k=>k < n) (fun k=>yO [(0,.box 0 0),(1000000,.box 0 0),(2,.box 2 0),(3,.c (.i n)),(4,.own 19 3 (yZ4 code n qq k).R.length),(5,.own 20 2 (yZ4 code n qq k).W.length),(6,.own 21 22 (yZ4 code n qq k).K.length),(7,.c (.i k))] [(0,.box ((yYK code (yZ4 code n qq k).p).map .c)),(2,.box [.c (.i 0),.nil 3,.nil 2,.nil 22,.nil 1,.nil 2,.nil 1,.c (.i 0),.c (.i 0),.nil 1,.nil 1,.nil 5,.nil 4,.c (.i 0),.c (.i 0),.c (.i 0)]),(19,.row 3 ((yZ4 code n qq k).R.map Reach.enc)),(20,.row 2 ((yZ4 code n qq k).W.map Way.enc)),(21,.tr 22 0 ((yZ4 code n qq k).K.map Work.enc))]) (fun k=>n - k) 0 (by show 0 < n; omega) (by apply yj <;> simp [yZ4]) ?_
 rintro k hk
 have hk' : k < n:=hk
 have hq:=yabP (n:=n) q0 k
 have hln:=yacf (code:=code) (n:=n) (p:=qq) k (by omega)
 have hlast:=yadg (code:=code) (n:=n) (p:=qq) (k:=k)
 have hnext:=yadi (code:=code) (n:=n) (p:=qq) (k:=k)
 generalize hQ : yZ4 code n qq k = Q at *
 obtain ⟨q,R,W,K⟩:=Q
 simp only at hq hln hlast hnext ⊢
 obtain ⟨l1,l2,l3,_⟩:=hln
 have l3:=l3 hk'
 obtain ⟨bed,hbed⟩ : ∃ b : Int,b = 40 * ((n : Int) - k):=⟨_,rfl⟩
 rw [← hbed] at hlast hnext
 have hb : 40 ≤ bed ∧ bed ≤ 160:=by omega
 have v1:=yYw (code:=code) (n:=9) (p:=q) (by omega)
 have v2:=yYw (code:=code) (n:=30) (p:=rcP1 code q) (by omega)
 have v3:=yYw (code:=code) (n:=3) (p:=rcP2 code q) (by omega)
 have v4:=yaet (code:=code) (p:=rcP3 code q)
 have w1:=yZ5 code wayL (rcP3 code q) (yadt hq) (by simp [wayL]) (by simp [wayL])
 have y1 : wayL.map yJ = [[.i 8],[.i 20],[.i 40]]:=rfl
 have hNR:=yacY (yaai bed (6000 + 600 * yYv code 9 q)) (bed + 25 + yYv code 30 (rcP1 code q)) (yYv code 3 (rcP2 code q)) (by simp [yaai])
 have hrT : (yaai bed (6000 + 600 * yYv code 9 q)).map Point.enc = [[.i bed,.i 0],[.i (bed + 60),.i (6000 + 600 * yYv code 9 q)],[.i (bed + 90),.i 20000]]:=rfl
 rw [hrT] at hNR
 have eR : yaaB code bed q = (yaaa (yaai bed (6000 + 600 * yYv code 9 q)) (bed + 25 + yYv code 30 (rcP1 code q)) (yYv code 3 (rcP2 code q))).1:=rfl
 have eW : wayV code bed q = ⟨yZ6 code wayL (rcP3 code q),bed⟩:=rfl
 simp -dsimp -implicitDefEqProofs [yG hk',hk',← hbed]
 refine ⟨by unfold inI; omega,by unfold inI; omega,by unfold inI; omega,?_⟩
 refine yYx (yYB code 9 q hq (by omega) (by omega)) (by simp ) (by simp) rfl (by simp [yU]) ?_
 simp -dsimp -implicitDefEqProofs
 refine ⟨by unfold inI; omega,by unfold inI; omega,by unfold inI; omega,by unfold inI; omega,?_⟩
 refine yYx (yYB code 30 (rcP1 code q) (yado hq) (by omega) (by omega)) (by simp [rcP1]) (by simp) rfl (by simp [yU]) ?_
 simp -dsimp -implicitDefEqProofs
 refine ⟨by unfold inI; omega,?_⟩
 refine yYx (yYB code 3 (rcP2 code q) (yadu hq) (by omega) (by omega)) (by simp [rcP2]) (by simp) rfl (by simp [yU]) ?_
 simp -dsimp -implicitDefEqProofs
 refine yUj [44] hNR (by simp -dsimp -implicitDefEqProofs) rfl ?_
 rw [← eR]
 generalize yaaB code bed q = r at *
 generalize (yaaa (yaai bed (6000 + 600 * yYv code 9 q)) (bed + 25 + yYv code 30 (rcP1 code q)) (yYv code 3 (rcP2 code q))).2 = rb at *
 simp -dsimp -implicitDefEqProofs
 refine ⟨by omega,?_⟩
 refine yaaf (rows:=[[.i 8],[.i 20],[.i 40]]) (by simpa [y1] using w1) (by simp [rcP3]) (by simp) rfl ?_
 simp -dsimp -implicitDefEqProofs
 refine ⟨by omega,by unfold inI; omega,fun hend=>?_,fun hgo=>?_⟩
 ·have hkn : k + 1 = n:=by omega
  have hL : yZ4 code n qq n = _:=(congrArg (yZ4 code n qq) hkn.symm).trans (hlast hkn)
  rw [hL] at s1 s2 s3 ⊢
  clear hlast hnext hL
  simp only at s1 s2 s3 ⊢
  refine yYx (yacL code (rcP4 code q) (yabG hq)) (by simp [rcP4]) (by simp) rfl (by simp [yU]) ?_
  simp -dsimp -implicitDefEqProofs
  have hNW:=yN1 (R ++ [r]) (W ++ [wayV code bed q]) K (tarV code (rcP4 code q)) s1 s2 s3 (yadj code (rcP4 code q)).2.1
  generalize yNy (R ++ [r]) (W ++ [wayV code bed q]) K (tarV code (rcP4 code q)) = X at *
  refine yUj [19,20,21,30137,40137] hNW (by simp -dsimp -implicitDefEqProofs [yt,eW,yach]; exact ⟨(List.take_of_length_le (by simp)).symm,(List.take_of_length_le (by simp)).symm⟩) rfl ?_
  simp -dsimp -implicitDefEqProofs
 ·have hnx:=hnext (by omega)
  have b1:=yZ5 code chlL (rcP4 code q) (yabG hq) (by simp [chlL]) (by simp [chlL])
  have b2:=yZ5 code chwL (wkP1 code q) (yadw hq) (by simp [chwL]) (by simp [chwL])
  have b4:=yZ5 code yaaE (wkP3 code q) (yadn hq) (by simp [yaaE]) (by simp [yaaE])
  have b6:=yZ5 code watL (wkP5 code q) (yadq hq) (by simp [watL]) (by simp [watL])
  have f1 : chlL.map yJ = [[.i 60],[.i 120]]:=rfl
  have f2 : chwL.map yJ = [[.i 10],[.i 16]]:=rfl
  have f4 : yaaE.map yJ = [[.i 60],[.i 300],[.i 2000]]:=rfl
  have f6 : watL.map yJ = [[.i 10],[.i 30],[.i 70]]:=rfl
  rw [f1] at b1
  rw [f2] at b2
  rw [f4] at b4
  rw [f6] at b6
  have r3:=yYw (code:=code) (n:=8) (p:=wkP2 code q) (by omega)
  have r5:=yYw (code:=code) (n:=2) (p:=wkP4 code q) (by omega)
  have r6:=yadN (code:=code) (p:=wkP5 code q)
  have r7:=yYw (code:=code) (n:=9) (p:=wkP6 code q) (by omega)
  have r8:=yYw (code:=code) (n:=5) (p:=wkP7 code q) (by omega)
  have r9:=yYw (code:=code) (n:=20) (p:=wkP8 code q) (by omega)
  have hwat:=yacj (a:=1 + yYv code 8 (wkP2 code q)) (by omega) r6
  refine yaaf (rows:=[[.i 60],[.i 120]]) (by simpa using b1) (by simp [rcP4]) (by simp) rfl ?_
  simp -dsimp -implicitDefEqProofs
  refine yaaf (rows:=[[.i 10],[.i 16]]) (by simpa using b2) (by simp [wkP1]) (by simp) rfl ?_
  simp -dsimp -implicitDefEqProofs
  refine ⟨by unfold inI; omega,?_⟩
  refine yYx (yYB code 8 (wkP2 code q) (yady hq) (by omega) (by omega)) (by simp [wkP2]) (by simp) rfl (by simp [yU]) ?_
  simp -dsimp -implicitDefEqProofs
  refine ⟨by unfold inI; omega,?_⟩
  refine yaaf (rows:=[[.i 60],[.i 300],[.i 2000]]) (by simpa using b4) (by simp [wkP3]) (by simp) rfl ?_
  simp -dsimp -implicitDefEqProofs
  refine yYx (yYB code 2 (wkP4 code q) (yadx hq) (by omega) (by omega)) (by simp [wkP4]) (by simp) rfl (by simp [yU]) ?_
  simp -dsimp -implicitDefEqProofs
  have hg : CurG Tryz.prog 38 (yYK code (wkP5 code q)) (yYK code (yaac code watL (wkP5 code q))) 1 ([[C.i 10],[C.i 30],[C.i 70]].take 3) (.c (.i (yZ6 code watL (wkP5 code q)))):=b6
  refine yabi (id:=0) (id1:=94) hg (by simp) (by simp) (by simp [wkP5]) (by simp) rfl ?_
  simp -dsimp -implicitDefEqProofs
  have hpz:=yacP code (wkP9 code q) (yadl hq)
  refine ⟨by unfold inI; omega,by unfold inI; omega,by unfold inI; omega,by unfold inI; omega,?_⟩
  refine yabg (id:=0) (yYB code 9 (wkP6 code q) (yads hq) (by omega) (by omega)) (by simp) (by simp [wkP6]) (fun _=>by simp) rfl rfl rfl ?_
  simp -dsimp -implicitDefEqProofs
  refine yabg (id:=0) (yYB code 5 (wkP7 code q) (yadm hq) (by omega) (by omega)) (by simp) (by simp [wkP7]) (fun _=>by simp) rfl rfl rfl ?_
  simp -dsimp -implicitDefEqProofs
  refine ⟨by unfold inI; omega,by unfold inI; omega,?_⟩
  refine yabg (id:=0) (yYB code 20 (wkP8 code q) (yadk hq) (by omega) (by omega)) (by simp) (by simp [wkP8]) (fun _=>by simp) rfl rfl rfl ?_
  simp -dsimp -implicitDefEqProofs
  refine ⟨by unfold inI; omega,?_⟩
  refine yabg (id:=0) hpz (by simp) (by simp [wkP9]) (fun _=>by simp) rfl rfl rfl ?_
  simp -dsimp -implicitDefEqProofs
  have eP : wkN code q = (yZ7 code (wkP9 code q)).1:=rfl
  have eV : yaaA code (wkP9 code q) = if ycD (yZ7 code (wkP9 code q)).2 then (yZ7 code (wkP9 code q)).2 else []:=rfl
  have eK : yaam code bed q = ⟨yabU code bed q,yacS code bed q,⟨bed + 20,bed + 45,bed + 70⟩,yaaA code (wkP9 code q),⟨false,0⟩,[]⟩:=rfl
  have eL : yabU code bed q = ⟨yZ6 code chlL (rcP4 code q),yZ6 code chwL (wkP1 code q),bed,bed - 40,bed - 40,1 + yYv code 8 (wkP2 code q),yZ6 code yaaE (wkP3 code q),(1 + yYv code 8 (wkP2 code q)) * yZ6 code watL (wkP5 code q),0,[]⟩:=rfl
  have eX : yacS code bed q = ⟨2,yYv code 9 (wkP6 code q),1 + yYv code 5 (wkP7 code q),bed + 10,1 + yYv code 20 (wkP8 code q)⟩:=rfl
  refine yaQ (yrd (yZ7 code (wkP9 code q)).2) (by simp -dsimp -implicitDefEqProofs) rfl ?_
  cases hpo : ycD (yZ7 code (wkP9 code q)).2 with
  | false =>
   rw [hpo] at eV
   simp -dsimp -implicitDefEqProofs
   refine ⟨by omega,by unfold inI; omega,k + 1,by omega,by omega,?_⟩
   have hgs : ykv (K.map Work.enc ++ [[.i (yZ6 code chlL (rcP4 code q)),.i (yZ6 code chwL (wkP1 code q)),.i bed,.i (bed - 40),.i (bed - 40),.i (1 + yYv code 8 (wkP2 code q)),.i (yZ6 code yaaE (wkP3 code q)),.i ((1 + yYv code 8 (wkP2 code q)) * yZ6 code watL (wkP5 code q)),.i 0,.sl 2 [],.i 2,.i (yYv code 9 (wkP6 code q)),.i (1 + yYv code 5 (wkP7 code q)),.i (bed + 10),.i (1 + yYv code 20 (wkP8 code q)),.i (bed + 20),.i (bed + 45),.i (bed + 70),.ow 2 [],.b false,.i 0,.sl 4 []]]) = some (K.map Work.enc ++ [(yaam code bed q).enc]) :=
    yacN (yach K) (by simp [ykv,ybQ,C.shr,eV,eK,eL,eX])
   refine yQa 21 (k:=22) (v:=0) (by simp) hgs ?_
   apply yj <;> simp [hnx,eP,eV,eK,eL,eX,eW]
  | true =>
   rw [hpo] at eV
   simp -dsimp -implicitDefEqProofs
   refine ⟨by omega,by unfold inI; omega,k + 1,by omega,by omega,?_⟩
   apply yj <;> simp [hnx,eP,eV,eK,eL,eX,eW]
theorem yacv {rows : List (List Boat)} {b : Boat} (h : 1 ≤ rows.length) : (addLast rows b).flatten = rows.flatten ++ [b]:=by
 rcases List.eq_nil_or_concat rows with e | ⟨l,r,e⟩
 ·subst e; simp at h
 ·rw [List.concat_eq_append] at e
  subst e
  simp [addLast]
theorem yabh {code : List UInt8} {id : Int} {p : Nat × Int} (k : Nat) : (yZ3 code id p (k + 1)).2.flatten = (yZ3 code id p k).2.flatten ++ [yaaD code (id + k) (yZ3 code id p k).1]:=by
 have ih:=yaar (code:=code) (id:=id) (p:=p) k
 simp only [yZ3]
 split
 ·simp
 ·simp only []
  split
  ·rw [yacv (by omega)]
  ·simp
theorem yaaG {code : List UInt8} {id : Int} {p : Nat × Int} : ∀ k : Nat,(yZ3 code id p k).2.flatten.map yfy = (List.range k).map fun i : Nat=>id + (i : Int)
 | 0=>rfl
 | k + 1=>by
  rw [yabh,List.map_append,yaaG k,List.range_succ,List.map_append]
  rfl
theorem yadI {x : Int} (h : x ∈ yaaM) : 1 ≤ x ∧ x ≤ 200:=by
 simp [yaaM] at h; omega
theorem yaee {code : List UInt8} {id : Int} {p : Nat × Int} (h : 1 ≤ id ∧ id ≤ 9999) : ybr (yaaD code id p) = true:=by
 have h1:=yadI (yaae (code:=code) (l:=yaaM) (p:=p) (by simp [yaaM]))
 have h2:=yYw (code:=code) (n:=9) (p:=yaaP code p) (by omega)
 have h3:=yYw (code:=code) (n:=30) (p:=yaaN code p) (by omega)
 have h4:=yYw (code:=code) (n:=12) (p:=yaaR code p) (by omega)
 have h5:=yYw (code:=code) (n:=3) (p:=yaaQ code p) (by omega)
 simp only [ybr,yaaD,Bool.and_eq_true]
 exact ⟨⟨⟨⟨⟨yF.2 h,yF.2 h1⟩,yF.2 ⟨by omega,by omega⟩⟩,yF.2 ⟨by omega,by omega⟩⟩,yF.2 ⟨by omega,by omega⟩⟩,yF.2 ⟨by omega,by omega⟩⟩
theorem yabw {code : List UInt8} {id : Int} {p : Nat × Int} : ∀ k : Nat,1 ≤ id → id + k ≤ 9999 → ∀ b ∈ (yZ3 code id p k).2.flatten,ybr b = true
 | 0,_,_,b,h=>by simp [yZ3] at h
 | k + 1,h1,h2,b,h=>by
  rw [yabh] at h
  rcases List.mem_append.1 h with h | h
  ·exact yabw k h1 (by omega) b h
  ·simp only [List.mem_singleton] at h
   subst h
   exact yaee ⟨by omega,by omega⟩
theorem yace {code : List UInt8} {id : Int} {p : Nat × Int} (h : 1 ≤ id ∧ id ≤ 9000) : yP (yaad code id p) = true:=by
 obtain ⟨_,k1,k4⟩:=yaaK code p
 have hb : (yaad code id p).yas = (yZ3 code id (yYs code 4 (yYs code 2 p)) (yaag code p)).2.flatten:=rfl
 have hr : (yaad code id p).Rows = (yZ3 code id (yYs code 4 (yYs code 2 p)) (yaag code p)).2:=rfl
 simp only [yP,Bool.and_eq_true,List.all_eq_true,decide_eq_true_eq]
 have hids:=yaaG (code:=code) (id:=id) (p:=yYs code 4 (yYs code 2 p)) (yaag code p)
 have hlen:=congrArg List.length hids
 simp only [List.length_map,List.length_range] at hlen
 rw [hb,hr]
 refine ⟨⟨⟨fun r hr=>ytQ.2 ?_,yabw _ (by omega) (by omega)⟩,?_⟩,yF.2 ?_⟩
 ·have:=yaao _ r hr; omega
 ·rw [hids]
  refine List.Pairwise.map _ ?_ List.nodup_range
  intro a b h e
  exact h (by omega)
 ·rw [hlen]; omega
theorem yacx {code : List UInt8} {id : Int} {p : Nat × Int} : (yaad code id p).small:=by
 obtain ⟨_,k1,k4⟩:=yaaK code p
 have h1:=yaar (code:=code) (id:=id) (p:=yYs code 4 (yYs code 2 p)) (yaag code p)
 refine ⟨by simp only [yaad]; omega,fun r hr=>⟨?_,fun _ _=>trivial⟩⟩
 have:=yaao _ r hr
 omega
theorem yacZ (code : List UInt8) (id : Int) (p : Nat × Int) (hp : p.1 ≤ code.length) (hid : 0 ≤ id ∧ id ≤ 1000000) : yZB Tryz.prog 19 (yYK code p) (yYK code (yabm code id p)) [.c (.i id)] (.agg ((yaad code id p).enc.map .c)):=by
 have hsh : ykv ((yaad code id p).Rows.map eoB) = some ((yaad code id p).Rows.map yai):=yag (fun r=>by simp [eoB,ybQ,C.shr,yai]) _
 exact (yadb code id p hp hid).share (by simp [AV.shr,AV.ysI,ybQ,C.shr,hsh]) (fun l h=>by cases h)
theorem yacX {code : List UInt8} {id : Int} {p : Nat × Int} (h : p.1 ≤ code.length) : (yabm code id p).1 ≤ code.length:=yaaT (yYt (yYt h)) _
def dtP (code : List UInt8) (n : Nat) (p : Nat × Int) : Nat → Nat × Int
 | 0=>p
 | j + 1=>yabm code (10 * (n - j : Nat)) (dtP code n p j)
def dtS (code : List UInt8) (n : Nat) (p : Nat × Int) : Nat → List Train
 | 0=>[]
 | j + 1=>dtS code n p j ++ [yaad code (10 * (n - j : Nat)) (dtP code n p j)]
theorem yaei {code : List UInt8} {n : Nat} {p : Nat × Int} (h : p.1 ≤ code.length) : ∀ j : Nat,(dtP code n p j).1 ≤ code.length
 | 0=>h
 | j + 1=>yacX (yaei h j)
theorem yabF {code : List UInt8} {n : Nat} {p : Nat × Int} : ∀ j : Nat,(dtS code n p j).length = j
 | 0=>rfl
 | j + 1=>by simp [dtS,yabF j]
theorem yadE {code : List UInt8} {id : Int} {p : Nat × Int} (h : 1 ≤ id ∧ id ≤ 9000) : ∃ k : Nat,k ≤ 4 ∧ yaY (yaad code id p) = (List.range k).map fun i : Nat=>id + (i : Int):=by
 obtain ⟨_,_,k4⟩:=yaaK code p
 refine ⟨yaag code p,k4,?_⟩
 rw [(yaaq (yace h)).1]
 exact yaaG (code:=code) (id:=id) (p:=yYs code 4 (yYs code 2 p)) (yaag code p)
structure DrawnTs (n : Nat) (ts : List Train) : Prop where
 ok : ∀ t ∈ ts,yP t = true ∧ t.small
 lo : ∀ i ∈ ts.flatMap yaY,10 * (n - ts.length : Nat) + 10 ≤ i
 nd : (ts.flatMap yaY).Nodup
theorem yadZ {code : List UInt8} {n : Nat} {p : Nat × Int} (hn : n ≤ 100) : ∀ j : Nat,j ≤ n → DrawnTs n (dtS code n p j)
 | 0,_=>⟨fun t h=>by simp [dtS] at h,fun i h=>by simp [dtS] at h,by simp [dtS]⟩
 | j + 1,hj=>by
  have ih:=yadZ (code:=code) (p:=p) hn j (by omega)
  have hid : 1 ≤ (10 * (n - j : Nat) : Int) ∧ (10 * (n - j : Nat) : Int) ≤ 9000:=by omega
  obtain ⟨k,k4,hk⟩:=yadE (code:=code) (id:=10 * (n - j : Nat)) (p:=dtP code n p j) hid
  have hl:=yabF (code:=code) (n:=n) (p:=p) j
  have hok:=yace (code:=code) (id:=10 * (n - j : Nat)) (p:=dtP code n p j) hid
  have hsm:=yacx (code:=code) (id:=10 * (n - j : Nat)) (p:=dtP code n p j)
  have hlo:=ih.lo
  rw [hl] at hlo
  have hnew : ∀ i ∈ yaY (yaad code (10 * (n - j : Nat)) (dtP code n p j)),10 * (n - j : Nat) ≤ i ∧ i ≤ 10 * (n - j : Nat) + 3:=by
   intro i hi
   rw [hk] at hi
   obtain ⟨a,ha,rfl⟩:=List.mem_map.1 hi
   have:=List.mem_range.1 ha
   omega
  unfold dtS
  refine ⟨fun t h=>?_,fun i h=>?_,?_⟩
  ·rcases List.mem_append.1 h with h | h
   ·exact ih.ok t h
   ·rw [List.mem_singleton] at h
    subst h
    exact ⟨hok,hsm⟩
  ·rw [List.length_append,hl]
   rw [List.flatMap_append] at h
   rcases List.mem_append.1 h with h | h
   ·have:=hlo i h
    simp only [List.length_cons,List.length_nil]
    omega
   ·simp only [List.flatMap_cons,List.flatMap_nil,List.append_nil] at h
    have:=hnew i h
    simp only [List.length_cons,List.length_nil]
    omega
  ·rw [List.flatMap_append,List.nodup_append]
   refine ⟨ih.nd,?_,fun a ha b hb=>?_⟩
   ·simp only [List.flatMap_cons,List.flatMap_nil,List.append_nil]
    rw [hk]
    refine List.Pairwise.map _ ?_ List.nodup_range
    intro a b h e
    exact h (by omega)
   ·simp only [List.flatMap_cons,List.flatMap_nil,List.append_nil] at hb
    have h1:=hlo a ha
    have h2:=hnew b hb
    omega
def dwX (code : List UInt8) : Waterway:=newV code (0,hash code)
def dwP (code : List UInt8) : Nat × Int:=newN code (0,hash code)
def dwK (code : List UInt8) : Nat:=(yYv code 9 (dwP code)).toNat
def dwT (code : List UInt8) : List Train:=dtS code (dwK code) (yYs code 9 (dwP code)) (dwK code)
theorem yadY (code : List UInt8) : (dwK code : Int) = yYv code 9 (dwP code) ∧ dwK code ≤ 8:=by
 have h:=yYw (code:=code) (n:=9) (p:=dwP code) (by omega)
 unfold dwK; omega
theorem yaek {code : List UInt8} {p : Nat × Int} (h : p.1 ≤ code.length) : (newN code p).1 ≤ code.length:=yabJ (yYt (yYt (yYt (yYt (yYt (yaeq h)))))) _
theorem yaeB (code : List UInt8) : DrawnTs (dwK code) (dwT code) ∧ (dwT code).length ≤ 8:=by
 have h:=(yadY code).2
 exact ⟨yadZ (by omega) _ (Nat.le_refl _),by unfold dwT; rw [yabF]; exact h⟩
set_option maxRecDepth 4000 in
theorem yabN (code : List UInt8) (hl : code.length ≤ 1048576) : yB Tryz.prog 6 [.c (.sl 1 (code.map yvZ))] (.tup [.agg ((dwX code).enc.map .c),.c (.sl 2 ((dwT code).map Train.enc))]):=by
 refine yh yaaL ?_
 have hpl : (∀ x,x ∈ yYK code (0,hash code) → x.plain = true) = True:=by simp [yYK,C.plain]
 have hK:=yadY code
 have hq0 : (dwP code).1 ≤ code.length:=yaek (by simp)
 have hnew:=yadX code (0,hash code) (by simp)
 have eX : newV code (0,hash code) = dwX code:=rfl
 have eP : newN code (0,hash code) = dwP code:=rfl
 have eT : dwT code = dtS code (dwK code) (yYs code 9 (dwP code)) (dwK code):=rfl
 rw [eX,eP] at hnew
 rw [eT]
 generalize dwX code = x at *
 simp -dsimp -implicitDefEqProofs
 refine yjo (yZD code hl) (by simp) rfl (by simp [yU,hpl]) ?_
 simp -dsimp -implicitDefEqProofs [hpl]
 refine yYx hnew (by simp [hpl]) (by simp) rfl (by simp [yU]) ?_
 simp -dsimp -implicitDefEqProofs [hpl]
 refine yYx (yYB code 9 (dwP code) hq0 (by omega) (by omega)) (by simp) (by simp) rfl (by simp [yU]) ?_
 simp -dsimp -implicitDefEqProofs
 rw [← hK.1]
 have q9 : (yYs code 9 (dwP code)).1 ≤ code.length:=yYt hq0
 have hn8:=hK.2
 clear hK eT eX eP hnew
 generalize dwK code = n at *
 generalize yYs code 9 (dwP code) = qq at *
 refine yg (ι:=Nat) (fun j=>j ≤ n) (fun j=>yO [(2,.box 2 0),(4,.box 9 0),(5,.box 5 0),(6,.own 12 2 j),(7,.c (.i (n - j)))] [(2,.box [.c (.i 0),.nil 3,.nil 2,.nil 22,.nil 1,.nil 2,.nil 1,.c (.i 0),.c (.i 0),.nil 1,.nil 1,.nil 5,.nil 4,.c (.i 0),.c (.i 0),.c (.i 0)]),(5,.box (x.enc.map .c)),(9,.box ((yYK code (dtP code n qq j)).map .c)),(12,.row 2 ((dtS code n qq j).map Train.enc))]) (fun j=>n - j) 0 (by simp) (by apply yj <;> simp [dtP,dtS,hpl]) ?_
 rintro j hj
 have hq:=yaei (n:=n) q9 j
 have hlen:=yabF (code:=code) (n:=n) (p:=qq) j
 have hp1 : dtP code n qq (j + 1) = yabm code (10 * (n - j : Nat)) (dtP code n qq j):=rfl
 have hs1 : dtS code n qq (j + 1) = dtS code n qq j ++ [yaad code (10 * (n - j : Nat)) (dtP code n qq j)]:=rfl
 rcases Nat.lt_or_ge j n with hlt | hge
 ·have hgt : (0 < (n : Int) - (j : Int)) = True:=eq_true (by omega)
  have hid : (10 : Int) * ((n : Int) - (j : Int)) = 10 * (n - j : Nat):=by omega
  have htr:=yacZ code (10 * (n - j : Nat)) (dtP code n qq j) hq (by omega)
  generalize dtP code n qq j = q at *
  generalize dtS code n qq j = ts at *
  generalize yaad code (10 * (n - j : Nat)) q = t at *
  simp -dsimp -implicitDefEqProofs [hgt]
  refine ⟨fun _=>?_,fun h=>by omega⟩
  rw [hid]
  refine ⟨by unfold inI; omega,?_⟩
  refine yYx htr (by simp) (by simp) rfl (by simp [yU]) ?_
  simp -dsimp -implicitDefEqProofs
  refine ⟨hlen.symm,by omega,by unfold inI; omega,j + 1,by omega,by omega,?_⟩
  apply yj <;> simp [hp1,hs1] <;> omega
 ·have hgt : (0 < (n : Int) - (j : Int)) = False:=eq_false (by omega)
  have : j = n:=by omega
  subst this
  generalize dtS code j qq j = ts at *
  simp -dsimp -implicitDefEqProofs [hgt]
  rw [List.take_of_length_le (by simp; omega)]
def bs (l : List UInt8) : ByteArray:=⟨l.toArray⟩
theorem yWi (l : List UInt8) : (bs l).size = l.length:=by simp [bs,ByteArray.size]
theorem yXb (a b : List UInt8) : bs a ++ bs b = bs (a ++ b):=by
 apply ByteArray.ext
 simp [bs]
def hd (q : List UInt8) : List (List UInt8) → List (List UInt8)
 | []=>[q]
 | p :: t=>(q ++ p) :: t
def jn : List (List UInt8) → List UInt8
 | []=>[]
 | p :: l=>match l with
  | []=>p
  | _ :: _=>p ++ 32 :: jn l
def yWH (n : Nat) : List UInt8:=if h : n = 0 then [] else yWH (n / 10) ++ [(48 + n % 10).toUInt8]
termination_by n
decreasing_by omega
theorem yWn : yWH 0 = []:=by unfold yWH; simp
theorem yWu {n : Nat} (h : n ≠ 0) : yWH n = yWH (n / 10) ++ [(48 + n % 10).toUInt8]:=by rw [yWH,dif_neg h]
def fmt (n : Nat) : List UInt8:=if n = 0 then [48] else yWH n
theorem yW2 (k : Nat) (h : k < 10) : ((48 + k).toUInt8).toNat = 48 + k:=by
 show (48 + k) % 256 = 48 + k
 omega
theorem yXe : ∀ (k n : Nat),n < 10 ^ k → (yWH n).length ≤ k
 | 0,n,h=>by
  have : n = 0:=by simpa using h
  subst this; rw [yWn]; simp
 | k + 1,n,h=>by
  by_cases h0 : n = 0
  ·subst h0; rw [yWn]; simp
  ·rw [yWu h0]
   have:=yXe k (n / 10) (by rw [Nat.pow_succ] at h; omega)
   simp; omega
theorem yXw {n : Nat} (h : n ≤ 1000000000) : (fmt n).length ≤ 10 ∧ 1 ≤ (fmt n).length:=by
 unfold fmt
 split
 ·simp
 ·rename_i h0
  refine ⟨yXe 10 n (by omega),?_⟩
  rw [yWu h0]; simp
def good (l : List UInt8) : Prop:=l ≠ [] ∧ ¬ (l.head? = some 48 ∧ 1 < l.length)
theorem yXl (d : Nat) (h : d < 10) : yB Tryz.prog 137 [.c (.i d)] (.c (.u (48 + d))):=by
 refine yh yWV ?_
 have t1 : ((d : Int) < 10) = True:=eq_true (by omega)
 simp -dsimp -implicitDefEqProofs [yWD,t1]
 exact ⟨by unfold inI; omega,by omega⟩
theorem yWy (n : Nat) (h : n ≤ 1000000000) : yB Tryz.prog 91 [.c (.i n)] (.c (.s (bs (fmt n)))):=by
 refine yh yWT ?_
 by_cases h0 : n = 0
 ·subst h0
  simp -dsimp -implicitDefEqProofs [yWr]
  rfl
 have t2 : ((n : Int) < 0) = False:=eq_false (by omega)
 have hf : fmt n = yWH n:=by unfold fmt; rw [if_neg h0]
 rw [hf]
 simp -dsimp -implicitDefEqProofs [yWr,t2,h0]
 refine yg (ι:=Nat × List UInt8) (fun q=>q.1 ≤ 1000000000 ∧ q.2.length ≤ 1000000000 - q.1 ∧ yWH n = yWH q.1 ++ q.2) (fun q=>yO [(0,.c (.i q.1)),(3,.c (.b false)),(4,.c (.s (bs q.2)))] []) (fun q=>q.1) (n,[]) ⟨h,by simp,by simp⟩ (by apply yj <;> simp; try rfl) ?_
 rintro ⟨m,s⟩ ⟨hm,hs,hd⟩
 simp only at hm hs hd
 by_cases m0 : m = 0
 ·subst m0
  rw [yWn] at hd
  simp -dsimp -implicitDefEqProofs [hd]
 ·obtain ⟨d,hmd⟩ : ∃ d,m % 10 = d:=⟨_,rfl⟩
  obtain ⟨q,hmq⟩ : ∃ q,m / 10 = q:=⟨_,rfl⟩
  have hd10 : d < 10:=by omega
  have hq : q < m:=by omega
  have u1 : (m : Int).tmod 10 = (d : Int):=by rw [Int.tmod_eq_emod_of_nonneg (by omega)]; omega
  have u2 : (m : Int).tdiv 10 = (q : Int):=by rw [Int.tdiv_eq_ediv_of_nonneg (by omega)]; omega
  have u3 : ((d : Int) < 0) = False:=eq_false (by omega)
  have hdg:=yWu m0
  rw [hmd,hmq] at hdg
  have u4 : (m : Int) / 10 = (q : Int):=by omega
  obtain ⟨c,hc⟩ : ∃ c : UInt8,(48 + d).toUInt8 = c:=⟨_,rfl⟩
  have hcn : c.toNat = 48 + d:=by rw [← hc]; exact yW2 d hd10
  have hcb : (⟨#[c]⟩ : ByteArray) = bs [c]:=rfl
  rw [hc] at hdg
  simp -dsimp -implicitDefEqProofs [m0,u1,u2,u3]
  refine ⟨by unfold inI; omega,?_⟩
  refine yaQ (yXl d hd10) (by simp -dsimp -implicitDefEqProofs) rfl ?_
  simp -dsimp -implicitDefEqProofs
  refine ⟨[c],by unfold yvZ; rw [List.map_cons,hcn]; rfl,?_⟩
  simp -dsimp -implicitDefEqProofs [u2,u4,hcb,yXb,yWi]
  refine ⟨by unfold maxLen; omega,by unfold inI; omega,q,c :: s,⟨by omega,by simp only [List.length_cons]; omega,by rw [hd,hdg]; simp⟩,hq,?_⟩
  apply yj <;> simp
def ni (n : Nat) : List C:=[.i n]
def jk (ns : List Nat) (k : Nat) : List UInt8:=jn ((ns.take k).map fmt)
end Go.Proofs.YtpiplmnecmkafaaGreat
