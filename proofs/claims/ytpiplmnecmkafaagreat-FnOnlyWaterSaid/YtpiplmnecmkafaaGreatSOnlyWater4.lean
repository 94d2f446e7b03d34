/- What the law FnOnlyWater stands on: contracts of functions, what each answers as plain Lean, in short form (names, layout). -/
import Derived.Test.YtpiplmnecmkafaaGreatSOnlyWater3
set_option linter.all false
namespace Go.Proofs.YtpiplmnecmkafaaGreat
open Go.RowKit
open Go.ChangeShapes Go.WideShapes
theorem yaeQ {x : Waterway} {q : Int} (h : Idle x) : Idle (yaah x q):=by
 unfold yaah
 split
 ·exact ⟨h.mv,h.wk⟩
 ·exact h
theorem yaeV {q : Int} {rs : List Reach} {ws : List Work} (h : ∀ w ∈ ws,w.Calls = [] ∧ w.Lock.Inside = [] ∧ w.Lock.Gate = 0) : ∀ k : Nat,k ≤ ws.length → ∀ w ∈ (yah q rs ws k).2,w.Calls = [] ∧ w.Lock.Inside = [] ∧ w.Lock.Gate = 0
 | 0,_=>h
 | k + 1,hk=>by
  intro w hw
  have ih:=yaeV (q:=q) (rs:=rs) h k (by omega)
  have l2:=(yeK (q:=q) (rs:=rs) (ws:=ws) k).2
  rcases List.mem_or_eq_of_mem_set hw with e | e
  ·exact ih w e
  ·rw [e]
   have t:=ih (dW (yah q rs ws k).2 k) (List.mem_of_getElem? (ytH (by omega)))
   exact t
theorem yaby {x : Waterway} {q : Int} (h : Idle x) : Idle (yaW x q):=by
 unfold yaW
 split
 ·exact ⟨h.mv,yaeV h.wk _ (Nat.le_refl _)⟩
 ·exact h
def yaaV (x : Waterway) (q : Int) : Bool:=yar x && !decide (x.Time = 1000000) && inRange q 0 1000000000
def yaaW (x : Waterway) (q : Int) : Waterway:=if yaaV x q then yaW (yaah x q) q else x
theorem yafo {x : Waterway} {q : Int} (h : yaaV x q = false) : yaaW x q = x:=by simp [yaaW,h]
theorem yafJ {x : Waterway} {q : Int} (h : x.small) : (yaaW x q).small:=by
 unfold yaaW
 split
 ·exact ytZ (yabC h)
 ·exact h
theorem yafZ {x : Waterway} {q : Int} (h : Idle x) : Idle (yaaW x q):=by
 unfold yaaW
 split
 ·exact yaby (yaeQ h)
 ·exact h
set_option maxRecDepth 20000 in
theorem yagq (x : Waterway) (q : Int) (hs : x.small) (hi : Idle x) : yB Tryz.prog 32 [.agg (x.enc.map .c),.c (.i q)] (.agg ((yaaW x q).enc.map .c)):=by
 have hp:=yagu x q hs
 have hst:=yBn (yaah x q) q (yabC hs)
 have hsl:=yagn (yaW (yaah x q) q) (ytZ (yabC hs)) (yaby (yaeQ hi))
 have ha:=fun k=>yagy (yaW (yaah x q) q) k (ytZ (yabC hs)) (yaby (yaeQ hi))
 refine yh yaft ?_
 simp -dsimp -implicitDefEqProofs
 refine yaQ (yns x hs) (by simp -dsimp -implicitDefEqProofs) rfl ?_
 cases h : yar x with
 | false=>simp -dsimp -implicitDefEqProofs; simp [yafo,yaaV,h]
 | true =>
 simp -dsimp -implicitDefEqProofs
 refine ⟨fun ht=>?_,fun ht=>?_⟩
 rotate_left
 ·simp [yafo,yaaV,ht]
 refine yaQ (yC q 0 1000000000) (by simp -dsimp -implicitDefEqProofs) rfl ?_
 cases hq : inRange q 0 1000000000 with
 | false=>simp -dsimp -implicitDefEqProofs; simp [yafo,yaaV,hq]
 | true =>
 have e : yaaW x q = yaW (yaah x q) q:=by simp [yaaW,yaaV,h,ht,hq]
 rw [e]
 generalize yaah x q = u at *
 generalize yaW u q = v at *
 simp -dsimp -implicitDefEqProofs
 refine yaP (hp) (by simp -dsimp -implicitDefEqProofs) rfl ?_
 simp -dsimp -implicitDefEqProofs
 refine yaP (hst) (by simp -dsimp -implicitDefEqProofs) rfl ?_
 simp -dsimp -implicitDefEqProofs
 refine yaP (hsl) (by simp -dsimp -implicitDefEqProofs) rfl ?_
 simp -dsimp -implicitDefEqProofs
 intro hlen
 refine yg (ι:=Nat) (fun k=>k ≤ x.Works.length) (fun k=>yO [(4,.box 4 0),(5,.box 5 0),(29,.c (.i x.Works.length)),(30,.c (.i k))] [(4,.box [.c (.i 0),.nil 3,.nil 2,.nil 22,.nil 1,.nil 2,.nil 1,.c (.i 0),.c (.i 0),.nil 1,.nil 1,.nil 5,.nil 4,.c (.i 0),.c (.i 0),.c (.i 0)]),(5,.box (v.enc.map .c))]) (fun k=>x.Works.length - k) 0 (by simp) (by apply yj <;> simp) ?_
 rintro k hk
 rcases Nat.lt_or_ge k x.Works.length with klt | kge
 ·simp -dsimp -implicitDefEqProofs [yG klt]
  refine yaP (ha k) (by simp -dsimp -implicitDefEqProofs) rfl ?_
  simp -dsimp -implicitDefEqProofs
  refine ⟨yw klt hlen,k + 1,klt,by omega,?_⟩
  apply yj <;> simp
 ·simp -dsimp -implicitDefEqProofs [yaB kge]
def RunW (x : Waterway) (q : Int) : Nat → Waterway
 | 0=>x
 | k + 1=>yaaW (RunW x q k) q
theorem yaeP {x : Waterway} {q : Int} (h : x.small) : ∀ k : Nat,(RunW x q k).small
 | 0=>h
 | k + 1=>yafJ (yaeP h k)
theorem yafC {x : Waterway} {q : Int} (h : Idle x) : ∀ k : Nat,Idle (RunW x q k)
 | 0=>h
 | k + 1=>yafZ (yafC h k)
theorem yagv (x : Waterway) (q : Int) (hs : x.small) (hi : Idle x) : yB Tryz.prog 13 [.agg (x.enc.map .c),.c (.i q),.c (.i 30)] (.agg ((RunW x q 30).enc.map .c)):=by
 refine ybh.pure (res:=.agg ((RunW x q 30).yI.map .c)) ?_ (by simp [AV.shr,AV.ysI,ybQ,C.shr,yag Reach.yaa,yag Work.yaa,yag ycu,yag Train.yaa,yag Passing.yaa])
 refine yan yacb ?_
 simp -dsimp -implicitDefEqProofs
 refine yaQ (yC 30 0 2000) (by simp -dsimp -implicitDefEqProofs) rfl ?_
 have hin : inRange 30 0 2000 = true:=by decide
 simp -dsimp -implicitDefEqProofs [hin]
 refine yg (ι:=Nat) (fun k=>k ≤ 30) (fun k=>yO [(1,.c (.i q)),(3,.box 3 0),(6,.box 6 0),(9,.c (.i 30)),(10,.c (.i k))] [(3,.box ((RunW x q k).enc.map .c)),(6,.box [.c (.i 0),.nil 3,.nil 2,.nil 22,.nil 1,.nil 2,.nil 1,.c (.i 0),.c (.i 0),.nil 1,.nil 1,.nil 5,.nil 4,.c (.i 0),.c (.i 0),.c (.i 0)])]) (fun k=>30 - k) 0 (by simp) (by apply yj <;> simp [RunW]) ?_
 rintro k hk
 have sk:=yaeP (q:=q) hs k
 rcases Nat.lt_or_ge k 30 with klt | kge
 ·have t1 : ((k : Int) < 30) = True:=eq_true (by omega)
  have hc:=yagq (RunW x q k) q sk (yafC hi k)
  have e : RunW x q (k + 1) = yaaW (RunW x q k) q:=rfl
  rw [← e] at hc
  generalize RunW x q (k + 1) = v at *
  simp -dsimp -implicitDefEqProofs [t1]
  refine yaP (hc) (by simp -dsimp -implicitDefEqProofs) rfl ?_
  simp -dsimp -implicitDefEqProofs
  refine ⟨by unfold inI; omega,k + 1,klt,by omega,?_⟩
  have e2 : RunW x q (k + 1) = v:=e.symm ▸ rfl
  apply yj <;> simp [e2]
 ·obtain rfl : k = 30:=by omega
  simp -dsimp -implicitDefEqProofs
  refine yQ (ypi _ sk) (by simp) (yb5 (Waterway.yad _)) (by simp [yU]) ?_
  simp -dsimp -implicitDefEqProofs [yt]
def yNT (rs : List Reach) (ws : List Way) (wk : List Work) (t : Tariff) : Waterway:=⟨0,rs,ws,wk,List.replicate rs.length [],[],[],t,[],[],0,0,0⟩
def yNS (rs : List Reach) (ws : List Way) (wk : List Work) (t : Tariff) : Waterway:=⟨0,rs,ws,wk,List.replicate rs.length [],[],[],t,[],[],yNB (yNT rs ws wk t),0,0⟩
def yNA (w : Work) : Bool:=decide (w.Lock.Inside.length = 0) && decide (w.Calls.length = 0)
def yNE : Waterway:=⟨0,[],[],[],[],[],[],⟨0,0,[],[]⟩,[],[],0,0,0⟩
def yNy (rs : List Reach) (ws : List Way) (wk : List Work) (t : Tariff) : Waterway × Bool :=
 if wk.all yNA && yar (yNS rs ws wk t) then (yNS rs ws wk t,true) else (yNE,false)
theorem yN0 {rs : List Reach} {ws : List Way} {wk : List Work} {t : Tariff} (h1 : ycN rs) (h2 : yhr ws) (h3 : yc8 wk) (h4 : t.small) : (yNT rs ws wk t).small:=by
 have e : ∀ {α : Type} {p : α → Prop},ycs p []:=fun {_ _}=>⟨by simp,fun x hx=>by simp at hx⟩
 exact ⟨h1,h2,h3,⟨by simpa [yNT] using h1.1,fun l hl=>by rw [(List.mem_replicate.1 hl).2]; exact e⟩,e,e,h4,e,e⟩
theorem yN9 {rs : List Reach} {ws : List Way} {wk : List Work} {t : Tariff} (h1 : ycN rs) (h2 : yhr ws) (h3 : yc8 wk) (h4 : t.small) : (yNS rs ws wk t).small:=yN0 h1 h2 h3 h4
theorem yOg {rs : List Reach} {ws : List Way} {wk : List Work} {t : Tariff} (h : wk.all yNA = false) : yNy rs ws wk t = (yNE,false):=by simp only [yNy,h,Bool.false_and]; rfl
theorem yOi {rs : List Reach} {ws : List Way} {wk : List Work} {t : Tariff} (h : yar (yNS rs ws wk t) = false) : yNy rs ws wk t = (yNE,false):=by simp only [yNy,h,Bool.and_false]; rfl
def vAt (l : List Int) (k : Nat) : Int:=l[k]?.getD 0
def yR4 (l : List Int) : Nat → Nat
 | 0=>0
 | k + 1=>if vAt l (yR4 l k) < vAt l k then k else yR4 l k
theorem ySk {l : List Int} {k : Nat} : yR4 l (k + 1) = if vAt l (yR4 l k) < vAt l k then k else yR4 l k:=rfl
theorem ySG {l : List Int} (h : 0 < l.length) : ∀ {k : Nat},k ≤ l.length → yR4 l k < l.length
 | 0,_=>h
 | k + 1,hk=>by
  rw [ySk]
  split
  ·omega
  ·exact ySG h (by omega)
def ySX : Nat → List Int → List Int → List Int
 | 0,out,_=>out
 | n + 1,out,rest=>ySX n (out.set (yR4 rest rest.length) (vAt out (yR4 rest rest.length) + 1)) (rest.set (yR4 rest rest.length) (-1))
def quota (t s w : Int) : Int:=(t * w).tdiv s
def remn (t s w : Int) : Int:=(t * w).tmod s
def yR8 (t : Int) (ws : List Int) : Bool:=inRange t 0 1000000000 && decide (1 ≤ ws.length) && decide (ws.length ≤ 12) && ws.all (fun w=>inRange w 0 1000000) && decide (ws.sum ≠ 0)
def ySb (t : Int) (ws : List Int) : Int:=t - (ws.map (quota t ws.sum)).sum
def yR3 (t : Int) (ws : List Int) : List Int:=if yR8 t ws then ySX (ySb t ws).toNat (ws.map (quota t ws.sum)) (ws.map (remn t ws.sum)) else []
structure Picks (t : Int) (ws : List Int) (m : Nat) (out rest : List Int) : Prop where
 lo : out.length = ws.length
 lr : rest.length = ws.length
 all : ySX m out rest = yR3 t ws
 few : m ≤ 12
 rng : ∀ x ∈ out,0 ≤ x ∧ x ≤ 1000000000000100 - m
theorem Picks.next {t : Int} {ws : List Int} {m : Nat} {out rest : List Int} (h : Picks t ws (m + 1) out rest) (hp : 1 ≤ ws.length) :
 Picks t ws m (out.set (yR4 rest ws.length) (vAt out (yR4 rest ws.length) + 1)) (rest.set (yR4 rest ws.length) (-1)):=by
 have hl:=h.lr
 refine ⟨by rw [List.length_set]; exact h.lo,by rw [List.length_set]; exact hl,?_,by have:=h.few; omega,fun x hx=>?_⟩
 ·rw [← h.all,ySX,hl]
 ·have e : ((m + 1 : Nat) : Int) = m + 1:=by simp
  have r:=h.rng
  rw [e] at r
  rcases List.mem_or_eq_of_mem_set hx with hx | rfl
  ·have:=r x hx; omega
  ·have hlt : yR4 rest ws.length < out.length:=by rw [h.lo,← hl]; exact ySG (by omega) (by omega)
   have:=r (vAt out (yR4 rest ws.length)) (by unfold vAt; rw [List.getElem?_eq_getElem hlt]; exact List.getElem_mem hlt)
   omega
def lens (a b : Nat) (k : Nat) : Int:=if k = 0 then 0 else if k = 1 then a else a + b
def fl {α : Type} (f : α → List Int) (l : List α) (k : Nat) : List Int:=(l.take k).flatMap f
theorem yUy {α : Type} {f : α → List Int} {l : List α} : fl f l 0 = []:=rfl
theorem yUx {α : Type} {f : α → List Int} {l : List α} {k : Nat} {x : α} (h : l[k]? = some x) : fl f l (k + 1) = fl f l k ++ f x:=by
 unfold fl; rw [List.take_succ,h,List.flatMap_append]; simp
theorem yUB {α : Type} {f : α → List Int} {l : List α} {k : Nat} (h : l.length ≤ k) : fl f l k = l.flatMap f:=by
 unfold fl; rw [List.take_of_length_le h]
theorem yUC {α : Type} {f : α → List Int} {l : List α} {k : Nat} {x : α} (h : l[k]? = some x) : (fl f l k).length + (f x).length ≤ (l.flatMap f).length:=by
 have : l.flatMap f = fl f l (k + 1) ++ (l.drop (k + 1)).flatMap f:=by
  unfold fl; rw [← List.flatMap_append,List.take_append_drop]
 rw [this,yUx h]; simp only [List.length_append]; omega
def yUw (m : Mover) : List Int:=yaY m.Train
def yUv (c : CallT) : List Int:=yaY c.Train
def yUt (l : List Mover) : List Int:=l.flatMap yUw
def yUA (w : Work) : List Int:=w.Calls.flatMap yUv ++ w.Lock.Inside.flatMap yaY
def yUs (x : Waterway) : List Int:=x.Movers.flatMap yUt ++ x.Works.flatMap yUA ++ x.Arrived.flatMap yaY
theorem yUK (x : Waterway) : (yUs x).length = (x.Movers.flatMap yUt).length + (x.Works.flatMap yUA).length + (x.Arrived.flatMap yaY).length:=by
 simp only [yUs,List.length_append]
theorem cat3 {A B D : List Int} : List.take (A.length + (B.length + D.length)) (List.map yJ A ++ (List.map yJ B ++ List.map yJ D)) = List.map yJ (A ++ B ++ D):=by
 rw [List.take_of_length_le (by simp)]; simp
set_option maxRecDepth 20000 in
theorem yU7 (x : Waterway) (hs : x.small) (hB : (yUs x).length ≤ 1000000000) : ybh Tryz.prog 9 [.agg (x.enc.map .c)] (.c (.ow 1 ((yUs x).map yJ))):=by
 obtain ⟨s1,s2,s3,s4,s5,s6,s7,s8,s9⟩:=hs
 have hP : yUs x = x.Movers.flatMap yUt ++ x.Works.flatMap yUA ++ x.Arrived.flatMap yaY:=rfl
 rw [yUK] at hB
 refine yan yUX ?_
 simp -dsimp -implicitDefEqProofs
 intro hlen
 refine ymd (k0:=1) 3 1 (by simp) (by simp) (by decide) ?_
 refine yg (ι:=Nat) (fun k=>k ≤ x.Movers.length) (fun k=>yO [(1,.box 1 0),(3,.own 3 1 (fl yUt x.Movers k).length),(17,.c (.sl 1 (x.Movers.map yZ))),(18,.c (.i x.Movers.length)),(19,.c (.i k))] [(1,.box (x.enc.map .c)),(3,.row 1 ((fl yUt x.Movers k).map yJ))]) (fun k=>x.Movers.length - k) 0 (by simp) (by apply yj <;> simp [yUy]) ?_
 rintro k hk
 rcases Nat.lt_or_ge k x.Movers.length with klt | kge
 ·obtain ⟨l,hl⟩ : ∃ l,x.Movers[k]? = some l:=⟨_,List.getElem?_eq_getElem klt⟩
  have hls:=s4.2 l (List.mem_of_getElem? hl)
  have hb1:=yUC (f:=yUt) hl
  have e1:=yUx (f:=yUt) hl
  simp -dsimp -implicitDefEqProofs [hl,yG klt]
  intro hlen2
  generalize fl yUt x.Movers k = A at hb1 e1
  refine yg (ι:=Nat) (fun j=>j ≤ l.length) (fun j=>yO [(1,.box 1 0),(3,.own 3 1 (A ++ fl yUw l j).length),(17,.c (.sl 1 (x.Movers.map yZ))),(18,.c (.i x.Movers.length)),(19,.c (.i k)),(23,.c (.sl 3 (l.map Mover.enc))),(24,.c (.i l.length)),(25,.c (.i j))] [(1,.box (x.enc.map .c)),(3,.row 1 ((A ++ fl yUw l j).map yJ))]) (fun j=>l.length - j) 0 (by simp) (by apply yj <;> simp [yUy]) ?_
  rintro j hj
  rcases Nat.lt_or_ge j l.length with jlt | jge
  ·obtain ⟨m,hm⟩ : ∃ m,l[j]? = some m:=⟨_,List.getElem?_eq_getElem jlt⟩
   have hms:=hls.2 m (List.mem_of_getElem? hm)
   have hb2:=yUC (f:=yUw) hm
   have hb3 : (yUt l).length = (l.flatMap yUw).length:=rfl
   have hb4 : (yUw m).length = (yaY m.Train).length:=rfl
   simp -dsimp -implicitDefEqProofs [hl,hm,yG klt,yG jlt]
   refine yS (yuz m.Train hms) ?_
   simp -dsimp -implicitDefEqProofs
   refine ⟨by omega,yw jlt hlen2,j + 1,jlt,by omega,?_⟩
   apply yj <;> simp [yUx hm,yUw,Nat.add_assoc]
  ·simp -dsimp -implicitDefEqProofs [yaB jge,hl]
   rw [yUB jge]
   have e2 : A ++ l.flatMap yUw = fl yUt x.Movers (k + 1):=by rw [e1]; rfl
   have e3 : A.length + (l.flatMap yUw).length = (fl yUt x.Movers (k + 1)).length:=by rw [← e2]; simp only [List.length_append]
   refine ⟨yw klt hlen,k + 1,klt,by omega,?_⟩
   apply yj <;> simp [← e2]
 simp -dsimp -implicitDefEqProofs [yaB kge]
 rw [yUB kge]
 generalize x.Movers.flatMap yUt = B1 at hB hP
 intro hlen
 refine yg (ι:=Nat) (fun q=>q ≤ x.Works.length) (fun q=>yO [(1,.box 1 0),(3,.own 3 1 (B1 ++ fl yUA x.Works q).length),(37,.c (.sl 22 (x.Works.map Work.enc))),(38,.c (.i x.Works.length)),(39,.c (.i q))] [(1,.box (x.enc.map .c)),(3,.row 1 ((B1 ++ fl yUA x.Works q).map yJ))]) (fun q=>x.Works.length - q) 0 (by simp) (by apply yj <;> simp [yUy]) ?_
 rintro q hq
 rcases Nat.lt_or_ge q x.Works.length with qlt | qge
 ·obtain ⟨w,hl⟩ : ∃ w,x.Works[q]? = some w:=⟨_,List.getElem?_eq_getElem qlt⟩
  have hws:=s3.2 w (List.mem_of_getElem? hl)
  have hb1:=yUC (f:=yUA) hl
  have hb3 : (yUA w).length = (w.Calls.flatMap yUv).length + (w.Lock.Inside.flatMap yaY).length:=by simp only [yUA,List.length_append]
  have e1:=yUx (f:=yUA) hl
  have g1:=(List.getElem?_eq_some_iff.1 hl).2
  simp -dsimp -implicitDefEqProofs [hl,g1,qlt,yG qlt]
  intro hlen2
  generalize fl yUA x.Works q = A at hb1 e1
  refine yg (ι:=Nat) (fun j=>j ≤ w.Calls.length) (fun j=>yO [(1,.box 1 0),(3,.own 3 1 (B1 ++ A ++ fl yUv w.Calls j).length),(37,.c (.sl 22 (x.Works.map Work.enc))),(38,.c (.i x.Works.length)),(39,.c (.i q)),(9,.box 9 0),(44,.c (.sl 4 (w.Calls.map CallT.enc))),(45,.c (.i w.Calls.length)),(46,.c (.i j))] [(1,.box (x.enc.map .c)),(3,.row 1 ((B1 ++ A ++ fl yUv w.Calls j).map yJ)),(9,.box (w.enc.map .c))]) (fun j=>w.Calls.length - j) 0 (by simp) (by apply yj <;> simp [yUy]) ?_
  rintro j hj
  rcases Nat.lt_or_ge j w.Calls.length with jlt | jge
  ·obtain ⟨c,hm⟩ : ∃ c,w.Calls[j]? = some c:=⟨_,List.getElem?_eq_getElem jlt⟩
   have hms:=hws.2.2.2 c (List.mem_of_getElem? hm)
   have hb2:=yUC (f:=yUv) hm
   have hb4 : (yUv c).length = (yaY c.Train).length:=rfl
   simp -dsimp -implicitDefEqProofs [hl,hm,g1,qlt,yG qlt,yG jlt]
   refine yS (yuz c.Train hms) ?_
   simp -dsimp -implicitDefEqProofs
   refine ⟨by omega,yw jlt hlen2,j + 1,jlt,by omega,?_⟩
   apply yj <;> simp [yUx hm,yUv,Nat.add_assoc]
  simp -dsimp -implicitDefEqProofs [yaB jge,hl]
  rw [yUB jge]
  have hW : yUA w = w.Calls.flatMap yUv ++ w.Lock.Inside.flatMap yaY:=rfl
  generalize w.Calls.flatMap yUv = A2 at hb3 hW
  intro hlen2
  refine yg (ι:=Nat) (fun i=>i ≤ w.Lock.Inside.length) (fun i=>yO [(1,.box 1 0),(3,.own 3 1 (B1 ++ A ++ A2 ++ fl yaY w.Lock.Inside i).length),(37,.c (.sl 22 (x.Works.map Work.enc))),(38,.c (.i x.Works.length)),(39,.c (.i q)),(58,.c (.sl 2 (w.Lock.Inside.map Train.enc))),(59,.c (.i w.Lock.Inside.length)),(60,.c (.i i))] [(1,.box (x.enc.map .c)),(3,.row 1 ((B1 ++ A ++ A2 ++ fl yaY w.Lock.Inside i).map yJ))]) (fun i=>w.Lock.Inside.length - i) 0 (by simp) (by apply yj <;> simp [yUy]) ?_
  rintro i hi
  rcases Nat.lt_or_ge i w.Lock.Inside.length with ilt | ige
  ·obtain ⟨t,hm⟩ : ∃ t,w.Lock.Inside[i]? = some t:=⟨_,List.getElem?_eq_getElem ilt⟩
   have hms:=hws.1.2 t (List.mem_of_getElem? hm)
   have hb2:=yUC (f:=yaY) hm
   simp -dsimp -implicitDefEqProofs [hl,hm,g1,qlt,yG qlt,yG ilt]
   refine yS (yuz t hms) ?_
   simp -dsimp -implicitDefEqProofs
   refine ⟨by omega,yw ilt hlen2,i + 1,ilt,by omega,?_⟩
   apply yj <;> simp [yUx hm,Nat.add_assoc]
  ·simp -dsimp -implicitDefEqProofs [yaB ige,hl]
   rw [yUB ige]
   have e2 : A ++ A2 ++ w.Lock.Inside.flatMap yaY = fl yUA x.Works (q + 1):=by rw [e1,List.append_assoc]; exact congrArg _ hW.symm
   refine ⟨yw qlt hlen,q + 1,qlt,by omega,?_⟩
   apply yj <;> simp [← e2,Nat.add_assoc]
 simp -dsimp -implicitDefEqProofs [yaB qge]
 rw [yUB qge]
 generalize x.Works.flatMap yUA = B2 at hB hP
 intro hlen
 refine yg (ι:=Nat) (fun p=>p ≤ x.Arrived.length) (fun p=>yO [(1,.box 1 0),(3,.own 3 1 (B1 ++ B2 ++ fl yaY x.Arrived p).length),(71,.c (.sl 2 (x.Arrived.map Train.enc))),(72,.c (.i x.Arrived.length)),(73,.c (.i p))] [(1,.box (x.enc.map .c)),(3,.row 1 ((B1 ++ B2 ++ fl yaY x.Arrived p).map yJ))]) (fun p=>x.Arrived.length - p) 0 (by simp) (by apply yj <;> simp [yUy]) ?_
 rintro p hp
 rcases Nat.lt_or_ge p x.Arrived.length with plt | pge
 ·obtain ⟨t,hm⟩ : ∃ t,x.Arrived[p]? = some t:=⟨_,List.getElem?_eq_getElem plt⟩
  have hms:=s5.2 t (List.mem_of_getElem? hm)
  have hb2:=yUC (f:=yaY) hm
  simp -dsimp -implicitDefEqProofs [hm,yG plt]
  refine yS (yuz t hms) ?_
  simp -dsimp -implicitDefEqProofs
  refine ⟨by omega,yw plt hlen,p + 1,plt,by omega,?_⟩
  apply yj <;> simp [yUx hm,Nat.add_assoc]
 ·simp -dsimp -implicitDefEqProofs [yaB pge]
  rw [yUB pge,hP]
  exact cat3.symm
theorem yU2 (x : Waterway) (hs : x.small) (hB : (yUs x).length ≤ 1000000000) : yB Tryz.prog 9 [.agg (x.enc.map .c)] (.c (.sl 1 ((yUs x).map yJ))):=(yU7 x hs hB).pure rfl
@[simp] theorem leO_mps {a b : List (Int × Int)} : (Obj.mp a).leO (.mp b) = (a = b):=by
 show (Obj.mp a = Obj.mp b) = _
 simp
structure Bare (x : Waterway) : Prop where
 ok : yar x = true
 mv : ∀ l ∈ x.Movers,l = []
 ent : x.Entered = []
 arr : x.Arrived = []
 book : x.Book = []
 pas : x.Passings = []
 wk : ∀ w ∈ x.Works,w.Calls = [] ∧ w.Lock.Inside = []
 kept : yNB x + x.Out = x.Start + x.In
theorem yY4 {a m : Int} (h0 : 0 ≤ m) (h1 : m ≤ 9223372036854775807) : 0 ≤ yBs a m ∧ yBs a m ≤ m:=by
 unfold yBs
 have h2 : (BitVec.ofInt 64 m).toNat = m.toNat:=by
  rw [BitVec.toNat_ofInt,Int.emod_eq_of_lt h0 (by omega)]
 have h3 : (BitVec.ofInt 64 a &&& BitVec.ofInt 64 m).toNat ≤ m.toNat:=by rw [BitVec.toNat_and,h2]; exact Nat.and_le_right
 rw [yfr (yZW (by omega) (by omega))]
 omega
def yZn (n : Nat) : List C:=[.u n]
def hNext (h : Int) : Int:=IntKind.i64.wrap (IntKind.i64.wrap (h * 6364136223846793005) + 1442695040888963407)
def yZr (h : Int) : Int:=yBs (yA5 (ytW (hNext h) 33) (ytW (hNext h) 45)) 255
def yYK (code : List UInt8) (p : Nat × Int) : List C:=[.sl 1 (code.map yvZ),.i p.1,.i p.2]
def yYu (code : List UInt8) (p : Nat × Int) : Nat × Int:=(if p.1 < code.length then p.1 + 1 else p.1,hNext p.2)
def yYI (code : List UInt8) (p : Nat × Int) : Int :=
 match code[p.1]? with
 | some b=>yBs (yZr p.2 + b.toNat) 255
 | none=>yZr p.2
theorem yYz {code : List UInt8} {p : Nat × Int} (h : p.1 ≤ code.length) : (yYu code p).1 ≤ code.length:=by
 unfold yYu; dsimp only; split <;> omega
theorem yYA (code : List UInt8) (p : Nat × Int) : 0 ≤ yYI code p ∧ yYI code p ≤ 255:=by
 unfold yYI
 split
 ·exact yY4 (by omega) (by omega)
 ·exact yY4 (by omega) (by omega)
theorem yZH (h : Int) : 0 ≤ yZr h ∧ yZr h ≤ 255:=yY4 (by omega) (by omega)
theorem yZQ (b : UInt8) : b.toNat ≤ 255:=by have:=b.toNat_lt; omega
theorem yYH (code : List UInt8) (p : Nat × Int) (hp : p.1 ≤ code.length) : yZB Tryz.prog 43 (yYK code p) (yYK code (yYu code p)) [] (.c (.i (yYI code p))):=by
 refine yZh yZb (by simp) fun hwf hwf2=>?_
 cases hb : code[p.1]? with
 | none =>
  have hge : code.length ≤ p.1:=by simpa using hb
  have hnl : (p.1 < code.length) = False:=by simp; omega
  simp -dsimp -implicitDefEqProofs [yYE,yYK,hnl]
  intro _
  simp [yYu,yYI,hNext,yZr,hb,hnl]
 | some b =>
  have hlt : p.1 < code.length:=(List.getElem?_eq_some_iff.1 hb).1
  have hr:=yZH p.2
  have g1:=(List.getElem?_eq_some_iff.1 hb).2
  have h8:=yZQ b
  simp only [yZr,hNext] at hr
  simp -dsimp -implicitDefEqProofs [yYE,yYK,hb,g1,hlt,yvZ]
  refine fun hl=>⟨by unfold inI; omega,by unfold maxLen at hl; unfold inI; omega,?_⟩
  simp [yYu,yYI,hNext,yZr,hb,g1,hlt]
def yYs (code : List UInt8) (n : Int) (p : Nat × Int) : Nat × Int :=
 if n ≤ 256 then yYu code p else yYu code (yYu code (yYu code (yYu code p)))
def yYv (code : List UInt8) (n : Int) (p : Nat × Int) : Int :=
 if n ≤ 256 then (yYI code p).tmod n
 else (yYI code p * 16777216 + yYI code (yYu code p) * 65536 + yYI code (yYu code (yYu code p)) * 256 + yYI code (yYu code (yYu code (yYu code p)))).tmod n
theorem yYt {code : List UInt8} {n : Int} {p : Nat × Int} (h : p.1 ≤ code.length) : (yYs code n p).1 ≤ code.length:=by
 unfold yYs
 split
 ·exact yYz h
 ·exact yYz (yYz (yYz (yYz h)))
theorem yYw {code : List UInt8} {n : Int} {p : Nat × Int} (hn : 1 ≤ n) : 0 ≤ yYv code n p ∧ yYv code n p < n:=by
 have h1:=yYA code p
 have h2:=yYA code (yYu code p)
 have h3:=yYA code (yYu code (yYu code p))
 have h4:=yYA code (yYu code (yYu code (yYu code p)))
 unfold yYv
 split
 ·rw [Int.tmod_eq_emod_of_nonneg (by omega)]
  exact ⟨Int.emod_nonneg _ (by omega),Int.emod_lt_of_pos _ (by omega)⟩
 ·rw [Int.tmod_eq_emod_of_nonneg (by omega)]
  exact ⟨Int.emod_nonneg _ (by omega),Int.emod_lt_of_pos _ (by omega)⟩
theorem yYB (code : List UInt8) (n : Int) (p : Nat × Int) (hp : p.1 ≤ code.length) (hn : 1 ≤ n) (hn2 : n ≤ 1000000) : yZB Tryz.prog 18 (yYK code p) (yYK code (yYs code n p)) [.c (.i n)] (.c (.i (yYv code n p))):=by
 refine yZh yY0 (by simp) fun hwf hwf2=>?_
 simp -dsimp -implicitDefEqProofs
 have n0 : (n ≤ 0) = False:=by simp; omega
 simp -dsimp -implicitDefEqProofs [n0]
 have hv:=yYw (code:=code) (p:=p) hn
 refine fun _=>⟨fun h=>?_,fun h=>?_⟩
 ·skip
  simp only [yYv,yYs,if_pos h] at hv ⊢
  refine yYx (yYH code p hp) (by simp ) (by simp) rfl (by simp [yU]) ?_
  simp -dsimp -implicitDefEqProofs
  refine ⟨by omega,by unfold inI; omega,?_⟩
  simp [h]; intros; omega
 ·skip
  have h' : ¬ n ≤ 256:=by omega
  simp only [yYv,yYs,if_neg h'] at hv ⊢
  have h1:=yYA code p
  have h2:=yYA code (yYu code p)
  have h3:=yYA code (yYu code (yYu code p))
  have h4:=yYA code (yYu code (yYu code (yYu code p)))
  refine yYx (yYH code p hp) (by simp ) (by simp) rfl (by simp [yU]) ?_
  simp -dsimp -implicitDefEqProofs
  refine yYx (yYH code (yYu code p) (yYz hp)) (by simp ) (by simp) rfl (by simp [yU]) ?_
  simp -dsimp -implicitDefEqProofs
  refine yYx (yYH code (yYu code (yYu code p)) (yYz (yYz hp))) (by simp ) (by simp) rfl (by simp [yU]) ?_
  simp -dsimp -implicitDefEqProofs
  refine yYx (yYH code (yYu code (yYu code (yYu code p))) (yYz (yYz (yYz hp)))) (by simp ) (by simp) rfl (by simp [yU]) ?_
  simp -dsimp -implicitDefEqProofs
  refine ⟨by unfold inI; omega,by unfold inI; omega,by unfold inI; omega,by unfold inI; omega,by unfold inI; omega,by unfold inI; omega,by omega,by unfold inI; omega,?_⟩
  simp [h']
def yZl (h : Int) (b : UInt8) : Int:=yBs (h * 131 + b.toNat + 7) 1073741823
def yYF (code : List UInt8) (k : Nat) : Int:=(code.take k).foldl yZl (33173 + code.length)
def hash (code : List UInt8) : Int:=yYF code (min code.length 4000)
theorem yYX {code : List UInt8} : yYF code 0 = 33173 + code.length:=rfl
theorem yYW {code : List UInt8} {k : Nat} {b : UInt8} (h : code[k]? = some b) : yYF code (k + 1) = yZl (yYF code k) b:=by
 unfold yYF; rw [List.take_succ,h,List.foldl_append]; rfl
theorem yZy (h : Int) (b : UInt8) : 0 ≤ yZl h b ∧ yZl h b ≤ 1073741823:=yY4 (by omega) (by omega)
theorem yY8 {code : List UInt8} (hl : code.length ≤ 1048576) : ∀ k : Nat,0 ≤ yYF code k ∧ yYF code k ≤ 1073741823
 | 0=>by rw [yYX]; omega
 | k + 1=>by
  cases h : code[k]? with
  | none =>
   have hk : code.length ≤ k:=by simpa using h
   have : yYF code (k + 1) = yYF code k:=by unfold yYF; rw [List.take_of_length_le (by omega),List.take_of_length_le hk]
   rw [this]; exact yY8 hl k
  | some b=>rw [yYW h]; exact yZy _ _
theorem yZD (code : List UInt8) (hl : code.length ≤ 1048576) : ybh Tryz.prog 16 [.c (.sl 1 (code.map yvZ))] (.c (.bx (yYK code (0,hash code)))):=by
 refine yan yZe ?_
 simp -dsimp -implicitDefEqProofs
 refine fun hlen=>⟨by unfold inI; omega,?_⟩
 refine yg (ι:=Nat) (fun k=>k ≤ min code.length 4000) (fun k=>yO [(0,.c (.sl 1 (code.map yvZ))),(3,.c (.i (yYF code k))),(4,.c (.i k))] []) (fun k=>min code.length 4000 - k) 0 (by simp) (by apply yj <;> simp [yYX]) ?_
 rintro k hk
 have hr:=yY8 hl k
 rcases Nat.lt_or_ge k code.length with hlt | hge
 ·obtain ⟨b,hb⟩ : ∃ b,code[k]? = some b:=⟨_,List.getElem?_eq_getElem hlt⟩
  have g1:=(List.getElem?_eq_some_iff.1 hb).2
  have h8:=yZQ b
  have hs:=yYW hb
  simp only [yZl] at hs
  simp -dsimp -implicitDefEqProofs [hb,g1,hlt,yvZ]
  refine fun _=>⟨fun h4=>⟨by unfold inI; omega,by unfold inI; omega,by unfold inI; omega,by unfold inI; omega,k + 1,by omega,by omega,?_⟩,fun h4=>?_⟩
  ·apply yj <;> simp [hs]
  ·have e : min code.length 4000 = k:=by omega
   simp [yYK,hash,e,C.plain]
 ·have hnl : (k < code.length) = False:=by simp; omega
  simp -dsimp -implicitDefEqProofs [hnl]
  intro _
  have e : min code.length 4000 = k:=by omega
  simp [yYK,hash,e,C.plain]
def yabv (code : List UInt8) (n : Int) (p : Nat × Int) : Bool:=decide (yYv code n p = 0)
theorem yacm (code : List UInt8) (n : Int) (p : Nat × Int) (hp : p.1 ≤ code.length) (hn : 1 ≤ n) (hn2 : n ≤ 1000000) : yZB Tryz.prog 44 (yYK code p) (yYK code (yYs code n p)) [.c (.i n)] (.c (.b (yabv code n p))):=by
 refine yZh yabQ (by simp) fun hwf hwf2=>?_
 simp -dsimp -implicitDefEqProofs
 refine yYx (yYB code n p hp hn hn2) (by simp ) (by simp) rfl (by simp [yU]) ?_
 simp -dsimp -implicitDefEqProofs
 simp [yabv]
def yZ6 (code : List UInt8) (l : List Int) (p : Nat × Int) : Int:=l[(yYv code l.length p).toNat]?.getD 0
def yaac (code : List UInt8) (l : List Int) (p : Nat × Int) : Nat × Int:=yYs code l.length p
theorem yaae {code : List UInt8} {l : List Int} {p : Nat × Int} (hl : 1 ≤ l.length) : yZ6 code l p ∈ l:=by
 have h:=yYw (code:=code) (n:=l.length) (p:=p) (by omega)
 have hlt : (yYv code l.length p).toNat < l.length:=by omega
 unfold yZ6
 rw [List.getElem?_eq_getElem hlt]
 exact List.getElem_mem hlt
theorem yZ5 (code : List UInt8) (l : List Int) (p : Nat × Int) (hp : p.1 ≤ code.length) (hl : 1 ≤ l.length) (hl2 : l.length ≤ 1000) : CurG Tryz.prog 38 (yYK code p) (yYK code (yaac code l p)) 1 (l.map yJ) (.c (.i (yZ6 code l p))):=by
 have h:=yYw (code:=code) (n:=l.length) (p:=p) (by omega)
 have hlt : (yYv code l.length p).toNat < l.length:=by omega
 obtain ⟨v,hv⟩ : ∃ v,l[(yYv code l.length p).toNat]? = some v:=⟨_,List.getElem?_eq_getElem hlt⟩
 have gv:=(List.getElem?_eq_some_iff.1 hv).2
 have hpv : yZ6 code l p = v:=by simp [yZ6,hv]
 refine yaeo yaba (by omega) rfl ?_
 simp -dsimp -implicitDefEqProofs
 intro hlen
 refine yYx (yYB code l.length p hp (by omega) (by omega)) (by simp ) (by simp) rfl (by simp [yU]) ?_
 simp -dsimp -implicitDefEqProofs [hv,gv,hlt,h.1,h.2]
 exact ⟨rfl,hpv⟩
theorem yaab {code : List UInt8} {l : List Int} {p : Nat × Int} (h : p.1 ≤ code.length) : (yaac code l p).1 ≤ code.length:=yYt h
def yaaM : List Int:=[5,12,30,80]
def yaaP (code : List UInt8) (p : Nat × Int) : Nat × Int:=yaac code yaaM p
def yaaN (code : List UInt8) (p : Nat × Int) : Nat × Int:=yYs code 9 (yaaP code p)
def yaaR (code : List UInt8) (p : Nat × Int) : Nat × Int:=yYs code 30 (yaaN code p)
def yaaQ (code : List UInt8) (p : Nat × Int) : Nat × Int:=yYs code 12 (yaaR code p)
def yaaJ (code : List UInt8) (p : Nat × Int) : Nat × Int:=yYs code 3 (yaaQ code p)
def yaaD (code : List UInt8) (id : Int) (p : Nat × Int) : Boat :=
 ⟨id,yZ6 code yaaM p,1 + yYv code 9 (yaaP code p),1 + yYv code 30 (yaaN code p),1 + yYv code 12 (yaaR code p),yYv code 3 (yaaQ code p)⟩
theorem yabT {code : List UInt8} {p : Nat × Int} (h : p.1 ≤ code.length) : (yaaJ code p).1 ≤ code.length:=yYt (yYt (yYt (yYt (yaab h))))
theorem yack (code : List UInt8) (id : Int) (p : Nat × Int) (hp : p.1 ≤ code.length) : yZB Tryz.prog 45 (yYK code p) (yYK code (yaaJ code p)) [.c (.i id)] (.agg ((yaaD code id p).enc.map .c)):=by
 have p1 : (yaaP code p).1 ≤ code.length:=yaab hp
 have p2 : (yaaN code p).1 ≤ code.length:=yYt p1
 have p3 : (yaaR code p).1 ≤ code.length:=yYt p2
 have p4 : (yaaQ code p).1 ≤ code.length:=yYt p3
 have h2:=yYw (code:=code) (n:=9) (p:=yaaP code p) (by omega)
 have h3:=yYw (code:=code) (n:=30) (p:=yaaN code p) (by omega)
 have h4:=yYw (code:=code) (n:=12) (p:=yaaR code p) (by omega)
 have h5:=yYw (code:=code) (n:=3) (p:=yaaQ code p) (by omega)
 have hpk:=yZ5 code yaaM p hp (by simp [yaaM]) (by simp [yaaM])
 have e4 : yaaM.map yJ = [[.i 5],[.i 12],[.i 30],[.i 80]]:=rfl
 refine yZh yabR (by simp) fun hwf hwf2=>?_
 simp -dsimp -implicitDefEqProofs
 refine yaaf (rows:=[[.i 5],[.i 12],[.i 30],[.i 80]]) (by simpa [e4] using hpk) (by simp) (by simp) rfl ?_
 simp -dsimp -implicitDefEqProofs
 refine yYx (yYB code 9 (yaaP code p) p1 (by omega) (by omega)) (by simp [yaaP]) (by simp) rfl (by simp [yU]) ?_
 simp -dsimp -implicitDefEqProofs
 refine ⟨by unfold inI; omega,?_⟩
 refine yYx (yYB code 30 (yaaN code p) p2 (by omega) (by omega)) (by simp [yaaN]) (by simp) rfl (by simp [yU]) ?_
 simp -dsimp -implicitDefEqProofs
 refine ⟨by unfold inI; omega,?_⟩
 refine yYx (yYB code 12 (yaaR code p) p3 (by omega) (by omega)) (by simp [yaaR]) (by simp) rfl (by simp [yU]) ?_
 simp -dsimp -implicitDefEqProofs
 refine ⟨by unfold inI; omega,?_⟩
 refine yYx (yYB code 3 (yaaQ code p) p4 (by omega) (by omega)) (by simp [yaaQ]) (by simp) rfl (by simp [yU]) ?_
 simp -dsimp -implicitDefEqProofs
 simp [yaaJ,yaaD]
def eoB (r : List Boat) : List C:=[.ow 6 (r.map Boat.enc)]
def addLast (rows : List (List Boat)) (b : Boat) : List (List Boat):=rows.set (rows.length - 1) (rows[rows.length - 1]?.getD [] ++ [b])
def yZ3 (code : List UInt8) (id : Int) (p : Nat × Int) : Nat → (Nat × Int) × List (List Boat)
 | 0=>(p,[])
 | k + 1 =>
  let q:=yZ3 code id p k
  if k = 0 then (yaaJ code q.1,q.2 ++ [[yaaD code (id + k) q.1]])
  else (yYs code 2 (yaaJ code q.1),if yabv code 2 (yaaJ code q.1) then addLast q.2 (yaaD code (id + k) q.1) else q.2 ++ [[yaaD code (id + k) q.1]])
theorem yaaT {code : List UInt8} {id : Int} {p : Nat × Int} (h : p.1 ≤ code.length) : ∀ k : Nat,(yZ3 code id p k).1.1 ≤ code.length
 | 0=>h
 | k + 1=>by
  have ih:=yaaT (id:=id) h k
  simp only [yZ3]
  split
  ·exact yabT ih
  ·exact yYt (yabT ih)
theorem yaar {code : List UInt8} {id : Int} {p : Nat × Int} : ∀ k : Nat,(yZ3 code id p k).2.length ≤ k ∧ (1 ≤ k → 1 ≤ (yZ3 code id p k).2.length)
 | 0=>by simp [yZ3]
 | k + 1=>by
  have ih:=yaar (code:=code) (id:=id) (p:=p) k
  simp only [yZ3]
  split
  ·simp; omega
  ·simp only []
   split
   ·simp [addLast]; omega
   ·simp; omega
theorem yaao {code : List UInt8} {id : Int} {p : Nat × Int} : ∀ k : Nat,∀ r ∈ (yZ3 code id p k).2,r.length ≤ k ∧ 1 ≤ r.length
 | 0,r,h=>by simp [yZ3] at h
 | k + 1,r,h=>by
  have ih:=yaao (code:=code) (id:=id) (p:=p) k
  simp only [yZ3] at h
  split at h
  ·rcases List.mem_append.1 h with h | h
   ·have:=ih r h; omega
   ·simp at h; subst h; simp
  ·simp only [] at h
   split at h
   ·unfold addLast at h
    rcases List.mem_or_eq_of_mem_set h with h | rfl
    ·have:=ih r h; omega
    ·cases hr : (yZ3 code id p k).2[(yZ3 code id p k).2.length - 1]? with
     | none=>simp
     | some r0=>have:=ih r0 (List.mem_of_getElem? hr); simp; omega
   ·rcases List.mem_append.1 h with h | h
    ·have:=ih r h; omega
    ·simp at h; subst h; simp
theorem yadh {rows : List (List Boat)} {z : Nat} {r0 : List Boat} {b : Boat} (h : rows[z]? = some r0) : setAt (setAt (rows.map eoB) z 0 .jk) z 0 (.ow 6 (r0.map Boat.enc ++ [b.enc])) = (rows.set z (r0 ++ [b])).map eoB:=by
 have hlt:=(List.getElem?_eq_some_iff.1 h).1
 have e1 : (rows.map eoB).getD z [] = eoB r0:=by simp [List.getD,h]
 have e2 : ((rows.map eoB).set z [C.jk]).getD z [] = [C.jk]:=by simp [List.getD,hlt]
 have e3 : setAt (rows.map eoB) z 0 .jk = (rows.map eoB).set z [C.jk]:=by unfold setAt; rw [e1]; rfl
 rw [e3]
 unfold setAt
 rw [e2,List.set_set,List.map_set]
 simp [eoB]
def yaag (code : List UInt8) (p : Nat × Int) : Nat:=(1 + yYv code 4 (yYs code 2 p)).toNat
def yabm (code : List UInt8) (id : Int) (p : Nat × Int) : Nat × Int:=(yZ3 code id (yYs code 4 (yYs code 2 p)) (yaag code p)).1
def yaad (code : List UInt8) (id : Int) (p : Nat × Int) : Train:=⟨yabv code 2 p,(yZ3 code id (yYs code 4 (yYs code 2 p)) (yaag code p)).2⟩
theorem yaaK (code : List UInt8) (p : Nat × Int) : (yaag code p : Int) = 1 + yYv code 4 (yYs code 2 p) ∧ 1 ≤ yaag code p ∧ yaag code p ≤ 4:=by
 have h:=yYw (code:=code) (n:=4) (p:=yYs code 2 p) (by omega)
 unfold yaag; omega
set_option maxRecDepth 4000 in
theorem yadb (code : List UInt8) (id : Int) (p : Nat × Int) (hp : p.1 ≤ code.length) (hid : 0 ≤ id ∧ id ≤ 1000000) : yZB Tryz.prog 19 (yYK code p) (yYK code (yabm code id p)) [.c (.i id)] (.agg [.c (.b (yaad code id p).Up),.c (.ot 1 ((yaad code id p).Rows.map eoB))]):=by
 refine yZh yabB (by simp) fun hwf hwf2=>?_
 have hK:=yaaK code p
 simp -dsimp -implicitDefEqProofs
 refine yYx (yacm code 2 p hp (by omega) (by omega)) (by simp ) (by simp) rfl (by simp [yU]) ?_
 simp -dsimp -implicitDefEqProofs
 refine yYx (yYB code 4 (yYs code 2 p) (yYt hp) (by omega) (by omega)) (by simp ) (by simp) rfl (by simp [yU]) ?_
 simp -dsimp -implicitDefEqProofs
 refine ⟨by unfold inI; omega,?_⟩
 have hp0 : (yYs code 4 (yYs code 2 p)).1 ≤ code.length:=yYt (yYt hp)
 rw [← hK.1]
 have eN : yabm code id p = (yZ3 code id (yYs code 4 (yYs code 2 p)) (yaag code p)).1:=rfl
 have eV : (yaad code id p).Rows = (yZ3 code id (yYs code 4 (yYs code 2 p)) (yaag code p)).2:=rfl
 have eU : (yaad code id p).Up = yabv code 2 p:=rfl
 rw [eN,eV,eU]
 generalize yaag code p = n at *
 generalize yYs code 4 (yYs code 2 p) = p0 at *
 generalize yabv code 2 p = up at *
 refine yg (ι:=Nat × Nat) (fun q=>q.1 ≤ n) (fun q=>if q.1 = 0 then yO [(0,.box 0 0),(1000000,.box 0 0),(1,.c (.i id)),(4,.box 4 0),(5,.box 5 0),(6,.c (.i n)),(7,.c (.i 0))] [(0,.box ((yYK code p0).map .c)),(4,.box [.c (.b false),.nil 1]),(5,.box [.c (.b up),.nil 1])]
  else yO [(0,.box 0 0),(1000000,.box 0 0),(1,.c (.i id)),(4,.box 4 0),(5,.box 5 0),(6,.c (.i n)),(7,.c (.i q.1))] [(0,.box ((yYK code (yZ3 code id p0 q.1).1).map .c)),(4,.box [.c (.b false),.nil 1]),(5,.box [.c (.b up),.own 54 1 (yZ3 code id p0 q.1).2.length]),(54,.tr 1 q.2 ((yZ3 code id p0 q.1).2.map eoB))]) (fun q=>n - q.1) (0,0) (by simp) (by rw [if_pos rfl]; apply yj <;> simp) ?_
 rintro ⟨k,ver⟩ hk
 simp only at hk
 rcases Nat.eq_zero_or_pos k with e | hk0
 ·subst e
  have hn0 : ((0 : Int) < (n : Int)) = True:=by simp; omega
  have hn0' : (0 < n) = True:=by simp; omega
  rw [if_pos rfl]
  have hs1 : yZ3 code id p0 1 = (yaaJ code p0,[[yaaD code id p0]]):=by simp [yZ3]
  simp -dsimp -implicitDefEqProofs [hn0,hn0']
  refine ⟨by unfold inI; omega,?_⟩
  refine yYx (yack code id p0 hp0) (by simp ) (by simp) rfl (by simp [yU]) ?_
  simp -dsimp -implicitDefEqProofs
  refine ⟨by unfold inI; omega,1,by omega,by omega,0,?_⟩
  rw [if_neg (by simp)]
  apply yj <;> simp [hs1,eoB]
 ·have hne : (k = 0) = False:=by simp; omega
  simp only [hne,if_false]
  have hq:=yaaT (id:=id) hp0 k
  have hln:=yaar (code:=code) (id:=id) (p:=p0) k
  have hrow:=yaao (code:=code) (id:=id) (p:=p0) k
  have hsuc : yZ3 code id p0 (k + 1) = (yYs code 2 (yaaJ code (yZ3 code id p0 k).1),if yabv code 2 (yaaJ code (yZ3 code id p0 k).1) then addLast (yZ3 code id p0 k).2 (yaaD code (id + k) (yZ3 code id p0 k).1) else (yZ3 code id p0 k).2 ++ [[yaaD code (id + k) (yZ3 code id p0 k).1]]):=by
   simp only [yZ3,hne,if_false]
  generalize hQ : yZ3 code id p0 k = Q at *
  obtain ⟨q,rows⟩:=Q
  simp only at hq hln hsuc hrow ⊢
  rcases Nat.lt_or_ge k n with hlt | hge
  ·simp -dsimp -implicitDefEqProofs [yG hlt,hlt]
   refine ⟨by unfold inI; omega,?_⟩
   refine yYx (yack code (id + k) q hq) (by simp ) (by simp) rfl (by simp [yU]) ?_
   simp -dsimp -implicitDefEqProofs
   refine ⟨fun _=>?_,fun h=>by omega⟩
   refine yYx (yacm code 2 (yaaJ code q) (yabT hq) (by omega) (by omega)) (by simp ) (by simp) rfl (by simp [yU]) ?_
   generalize yaaD code (id + k) q = b at *
   have hr1:=hln.2 (by omega)
   cases ho : yabv code 2 (yaaJ code q) with
   | false =>
    rw [ho] at hsuc
    simp -dsimp -implicitDefEqProofs
    have hl:=hln.1
    refine ⟨by omega,by unfold inI; omega,k + 1,hlt,by omega,0,?_⟩
    rw [if_neg (by omega)]
    apply yj <;> simp [hsuc,eoB]
   | true =>
    rw [ho] at hsuc
    obtain ⟨r0,hr0⟩ : ∃ r,rows[rows.length - 1]? = some r:=⟨_,List.getElem?_eq_getElem (by omega)⟩
    have g0:=(List.getElem?_eq_some_iff.1 hr0).2
    have hadd : addLast rows b = rows.set (rows.length - 1) (r0 ++ [b]):=by simp [addLast,hr0]
    have hl:=hln.1
    have ez : ((rows.length : Int) - 1) = ((rows.length - 1 : Nat) : Int):=by omega
    have m1 : rows.length - 1 < rows.length:=by omega
    obtain ⟨z,hz⟩ : ∃ z,z = rows.length - 1:=⟨_,rfl⟩
    rw [← hz] at hr0 hadd ez m1
    have hrl:=hrow r0 (List.mem_of_getElem? hr0)
    have g0:=(List.getElem?_eq_some_iff.1 hr0).2
    have hset:=yadh (b:=b) hr0
    have hjl : (setAt (rows.map eoB) z 0 C.jk).length = rows.length:=by simp [setAt]
    have htk : (r0.map Boat.enc ++ [b.enc]).take (r0.length + 1) = r0.map Boat.enc ++ [b.enc]:=List.take_of_length_le (by simp)
    simp only [Boat.enc] at htk hset
    simp -dsimp -implicitDefEqProofs [ez,hr0,m1,eoB,g0,hjl,htk]
    refine fun _=>⟨by unfold inI; omega,fun _=>⟨by unfold inI; omega,by omega,by unfold inI; omega,k + 1,hlt,by omega,ver + 2,?_⟩⟩
    rw [if_neg (by omega)]
    apply yj <;> simp [hsuc,hadd,g0,htk,hset]
  ·have : k = n:=by omega
   subst this
   simp -dsimp -implicitDefEqProofs
   rw [hQ,List.take_of_length_le (by simp)]
   exact ⟨rfl,rfl⟩
def gapL : List Int:=[0,3,30]
def pfrL : List Int:=[-1,0,500,1000000]
def yabu : List Int:=[0,500,600,1000000,1000001]
def paTo (code : List UInt8) (p : Nat × Int) (t : Int) : Nat → (Nat × Int) × Int × List Pause
 | 0=>(p,t,[])
 | k + 1 =>
  let q:=paTo code p t k
  (yaac code gapL (yYs code 20 q.1),q.2.1 + (1 + yYv code 20 q.1) + yZ6 code gapL (yYs code 20 q.1),q.2.2 ++ [⟨q.2.1,q.2.1 + (1 + yYv code 20 q.1)⟩])
theorem yadp {x : Int} (h : x ∈ gapL) : 0 ≤ x ∧ x ≤ 30:=by
 simp [gapL] at h; omega
theorem yaco {code : List UInt8} {p : Nat × Int} {t : Int} (h : p.1 ≤ code.length) : ∀ k : Nat,(paTo code p t k).1.1 ≤ code.length
 | 0=>h
 | k + 1=>yaab (yYt (yaco h k))
theorem yabZ {code : List UInt8} {p : Nat × Int} {t : Int} : ∀ k : Nat,(paTo code p t k).2.2.length = k
 | 0=>rfl
 | k + 1=>by simp [paTo,yabZ (code:=code) (p:=p) (t:=t) k]
theorem yacQ {code : List UInt8} {p : Nat × Int} {t : Int} (h : 0 ≤ t ∧ t ≤ 20) : ∀ k : Nat,0 ≤ (paTo code p t k).2.1 ∧ (paTo code p t k).2.1 ≤ 20 + 50 * k
 | 0=>by simp only [paTo]; omega
 | k + 1=>by
  have ih:=yacQ (code:=code) (p:=p) h k
  have h1:=yYw (code:=code) (n:=20) (p:=(paTo code p t k).1) (by omega)
  have h2:=yadp (yaae (code:=code) (l:=gapL) (p:=yYs code 20 (paTo code p t k).1) (by simp [gapL]))
  simp only [paTo]
  omega
def yaaH (code : List UInt8) : Nat → Nat × Int → List Pause → (Nat × Int) × List Pause
 | 0,p,l=>(p,l)
 | f + 1,p,l=>if (l.length : Int) < 8 + yYv code 2 p then yaaH code f (yYs code 2 p) (l ++ [⟨1000 + 10 * l.length,1005 + 10 * l.length⟩]) else (yYs code 2 p,l)
theorem yacM {code : List UInt8} : ∀ (f : Nat) {p : Nat × Int} {l : List Pause},p.1 ≤ code.length → (yaaH code f p l).1.1 ≤ code.length
 | 0,p,l,h=>h
 | f + 1,p,l,h=>by
  unfold yaaH
  split
  ·exact yacM f (yYt h)
  ·exact yYt h
theorem yaci {code : List UInt8} : ∀ (f : Nat) {p : Nat × Int} {l : List Pause},(yaaH code f p l).2.length ≤ l.length + f
 | 0,p,l=>Nat.le_refl _
 | f + 1,p,l=>by
  unfold yaaH
  split
  ·have:=yaci (code:=code) f (p:=yYs code 2 p) (l:=l ++ [⟨1000 + 10 * l.length,1005 + 10 * l.length⟩])
   simp only [List.length_append,List.length_cons,List.length_nil] at this
   omega
  ·simp only; omega
def paP (code : List UInt8) (p : Nat × Int) : Nat × Int:=yYs code 4 (yYs code 20 p)
def paK (code : List UInt8) (p : Nat × Int) : Nat:=(yYv code 4 (yYs code 20 p)).toNat
def paM (code : List UInt8) (p : Nat × Int) : (Nat × Int) × Int × List Pause:=paTo code (paP code p) (yYv code 20 p) (paK code p)
def paR (code : List UInt8) (d : Int) (q : Nat × Int) (l : List Pause) : (Nat × Int) × List Pause :=
 if d = 0 then (yaac code yabu (yaac code pfrL q),l ++ [⟨yZ6 code pfrL q,yZ6 code yabu (yaac code pfrL q)⟩])
 else if d = 1 then yaaH code (10 - l.length) q l else (q,l)
def yZ7 (code : List UInt8) (p : Nat × Int) : (Nat × Int) × List Pause:=paR code (yYv code 10 (paM code p).1) (yYs code 10 (paM code p).1) (paM code p).2.2
theorem yaeb (code : List UInt8) (p : Nat × Int) : (paK code p : Int) = yYv code 4 (yYs code 20 p) ∧ paK code p ≤ 3:=by
 have h:=yYw (code:=code) (n:=4) (p:=yYs code 20 p) (by omega)
 unfold paK; omega
theorem yaey {code : List UInt8} {p : Nat × Int} (h : p.1 ≤ code.length) : (paM code p).1.1 ≤ code.length:=yaco (yYt (yYt h)) _
theorem yaeG {code : List UInt8} {d : Int} {q : Nat × Int} {l : List Pause} (h : q.1 ≤ code.length) : (paR code d q l).1.1 ≤ code.length:=by
 unfold paR
 split
 ·exact yaab (yaab h)
 ·split
  ·exact yacM _ h
  ·exact h
theorem yade {code : List UInt8} {p : Nat × Int} (h : p.1 ≤ code.length) : (yZ7 code p).1.1 ≤ code.length:=yaeG (yYt (yaey h))
theorem yacE {code : List UInt8} {p : Nat × Int} : (yZ7 code p).2.length ≤ 13:=by
 have h1:=(yaeb code p).2
 have h2 : (paM code p).2.2.length = paK code p:=yabZ _
 unfold yZ7 paR
 split
 ·simp; omega
 ·split
  ·have:=yaci (code:=code) (10 - (paM code p).2.2.length) (p:=yYs code 10 (paM code p).1) (l:=(paM code p).2.2)
   omega
  ·simp only; omega
theorem yadc {code : List UInt8} {f : Nat} {p : Nat × Int} {l : List Pause} : yaaH code (f + 1) p l = if (l.length : Int) < 8 + yYv code 2 p then yaaH code f (yYs code 2 p) (l ++ [⟨1000 + 10 * l.length,1005 + 10 * l.length⟩]) else (yYs code 2 p,l):=rfl
theorem yadD {code : List UInt8} {p : Nat × Int} {t : Int} {k : Nat} : paTo code p t (k + 1) = (yaac code gapL (yYs code 20 (paTo code p t k).1),(paTo code p t k).2.1 + (1 + yYv code 20 (paTo code p t k).1) + yZ6 code gapL (yYs code 20 (paTo code p t k).1),(paTo code p t k).2.2 ++ [⟨(paTo code p t k).2.1,(paTo code p t k).2.1 + (1 + yYv code 20 (paTo code p t k).1)⟩]):=rfl
set_option maxRecDepth 4000 in
theorem yacI (code : List UInt8) (p : Nat × Int) (hp : p.1 ≤ code.length) : yZB Tryz.prog 39 (yYK code p) (yYK code (yZ7 code p).1) [] (.c (.ow 2 ((yZ7 code p).2.map Pause.enc))):=by
 have hK:=yaeb code p
 have hR:=yYw (code:=code) (n:=20) (p:=p) (by omega)
 have q0 : (paP code p).1 ≤ code.length:=yYt (yYt hp)
 have eD : yZ7 code p = paR code (yYv code 10 (paTo code (paP code p) (yYv code 20 p) (paK code p)).1) (yYs code 10 (paTo code (paP code p) (yYv code 20 p) (paK code p)).1) (paTo code (paP code p) (yYv code 20 p) (paK code p)).2.2:=rfl
 refine yZh yabq (by simp) fun hwf hwf2=>?_
 rw [eD]
 simp -dsimp -implicitDefEqProofs
 refine yYx (yYB code 20 p hp (by omega) (by omega)) (by simp ) (by simp) rfl (by simp [yU]) ?_
 simp -dsimp -implicitDefEqProofs
 refine yYx (yYB code 4 (yYs code 20 p) (yYt hp) (by omega) (by omega)) (by simp ) (by simp) rfl (by simp [yU]) ?_
 simp -dsimp -implicitDefEqProofs
 rw [← hK.1]
 have hP : yYs code 4 (yYs code 20 p) = paP code p:=rfl
 rw [hP]
 have hn3:=hK.2
 clear hK eD hP
 generalize paK code p = n at *
 generalize paP code p = qq at *
 generalize yYv code 20 p = t0 at *
 refine yg (ι:=Nat) (fun j=>j ≤ n) (fun j=>yO [(0,.box 0 0),(1000000,.box 0 0),(3,.own 7 2 j),(4,.c (.i (paTo code qq t0 j).2.1)),(5,.c (.i (n - j)))] [(0,.box ((yYK code (paTo code qq t0 j).1).map .c)),(7,.row 2 ((paTo code qq t0 j).2.2.map Pause.enc))]) (fun j=>n - j) 0 (by simp) (by apply yj <;> simp [paTo]) ?_
 rintro j hj
 have hq:=yaco (t:=t0) q0 j
 have hln:=yabZ (code:=code) (p:=qq) (t:=t0) j
 have hrg:=yacQ (code:=code) (p:=qq) (t:=t0) (by omega) j
 have hsuc:=yadD (code:=code) (p:=qq) (t:=t0) (k:=j)
 rcases Nat.lt_or_ge j n with hlt | hge
 ·have hgt : (0 < (n : Int) - (j : Int)) = True:=eq_true (by omega)
  generalize paTo code qq t0 j = Q at *
  obtain ⟨q,t,l⟩:=Q
  simp only at hq hln hrg hsuc ⊢
  have hv:=yYw (code:=code) (n:=20) (p:=q) (by omega)
  have hg:=yadp (yaae (code:=code) (l:=gapL) (p:=yYs code 20 q) (by simp [gapL]))
  have hpk:=yZ5 code gapL (yYs code 20 q) (yYt hq) (by simp [gapL]) (by simp [gapL])
  have eg : gapL.map yJ = [[.i 0],[.i 3],[.i 30]]:=rfl
  simp -dsimp -implicitDefEqProofs [hgt]
  refine ⟨fun _=>?_,fun h=>by omega⟩
  refine yYx (yYB code 20 q hq (by omega) (by omega)) (by simp ) (by simp) rfl (by simp [yU]) ?_
  simp -dsimp -implicitDefEqProofs
  refine ⟨by unfold inI; omega,by unfold inI; omega,by omega,by omega,by unfold inI; omega,?_⟩
  refine yaaf (rows:=[[.i 0],[.i 3],[.i 30]]) (by simpa [eg] using hpk) (by simp) (by simp) rfl ?_
  simp -dsimp -implicitDefEqProofs
  refine ⟨by unfold inI; omega,by unfold inI; omega,j + 1,hlt,by omega,?_⟩
  apply yj <;> simp [hsuc] <;> omega
 ·have hgt : (0 < (n : Int) - (j : Int)) = False:=eq_false (by omega)
  have : j = n:=by omega
  subst this
  generalize paTo code qq t0 j = Q at *
  obtain ⟨q,t,l⟩:=Q
  simp only at hq hln hrg hsuc ⊢
  have hv:=yYw (code:=code) (n:=10) (p:=q) (by omega)
  have q1 : (yYs code 10 q).1 ≤ code.length:=yYt hq
  simp -dsimp -implicitDefEqProofs [hgt]
  refine yYx (yYB code 10 q hq (by omega) (by omega)) (by simp ) (by simp) rfl (by simp [yU]) ?_
  generalize yYv code 10 q = d at *
  generalize yYs code 10 q = q' at *
  simp -dsimp -implicitDefEqProofs
  refine ⟨fun h0=>?_,fun h0=>⟨fun h1=>?_,fun h1=>?_⟩⟩
  ·have e : paR code d q' l = (yaac code yabu (yaac code pfrL q'),l ++ [⟨yZ6 code pfrL q',yZ6 code yabu (yaac code pfrL q')⟩]):=if_pos h0
   rw [e]
   have g1:=yZ5 code pfrL q' q1 (by simp [pfrL]) (by simp [pfrL])
   have g2:=yZ5 code yabu (yaac code pfrL q') (yaab q1) (by simp [yabu]) (by simp [yabu])
   have e1 : pfrL.map yJ = [[.i (-1)],[.i 0],[.i 500],[.i 1000000]]:=rfl
   have e2 : yabu.map yJ = [[.i 0],[.i 500],[.i 600],[.i 1000000],[.i 1000001]]:=rfl
   refine yaaf (rows:=[[.i (-1)],[.i 0],[.i 500],[.i 1000000]]) (by simpa [e1] using g1) (by simp) (by simp) rfl ?_
   simp -dsimp -implicitDefEqProofs
   refine yaaf (rows:=[[.i 0],[.i 500],[.i 600],[.i 1000000],[.i 1000001]]) (by simpa [e2] using g2) (by simp) (by simp) rfl ?_
   simp -dsimp -implicitDefEqProofs [yt]
   refine ⟨hln.symm,by omega,?_⟩
   rw [List.take_of_length_le (by simp)]
  ·have e : paR code d q' l = yaaH code (10 - l.length) q' l:=by unfold paR; rw [if_neg h0,if_pos h1]
   rw [e]
   have hf0 : 10 - l.length + l.length = 10:=by omega
   have hl9 : l.length ≤ 9:=by omega
   generalize hR : yaaH code (10 - l.length) q' l = R
   refine yg (ι:=Nat × (Nat × Int) × List Pause) (fun x=>x.2.1.1 ≤ code.length ∧ x.2.2.length ≤ 9 ∧ x.1 + x.2.2.length = 10 ∧ yaaH code x.1 x.2.1 x.2.2 = R) (fun x=>yO [(0,.box 0 0),(1000000,.box 0 0),(3,.own 7 2 x.2.2.length)] [(0,.box ((yYK code x.2.1).map .c)),(7,.row 2 (x.2.2.map Pause.enc))]) (fun x=>x.1) (10 - l.length,q',l) ⟨q1,hl9,hf0,hR⟩ (by apply yj <;> simp [hln]) ?_
   rintro ⟨f,p2,l2⟩ ⟨i1,i2,i3,i4⟩
   simp only at i1 i2 i3 i4
   obtain ⟨f,rfl⟩ : ∃ f',f = f' + 1:=⟨f - 1,by omega⟩
   rw [yadc] at i4
   have hv2:=yYw (code:=code) (n:=2) (p:=p2) (by omega)
   simp -dsimp -implicitDefEqProofs
   intro hm
   refine yYx (yYB code 2 p2 i1 (by omega) (by omega)) (by simp ) (by simp) rfl (by simp [yU]) ?_
   simp -dsimp -implicitDefEqProofs
   refine ⟨by unfold inI; omega,fun hlt hm2=>?_,fun hge=>?_⟩
   ·rw [if_pos hlt] at i4
    refine ⟨by unfold inI; omega,by unfold inI; omega,fun _=>⟨by unfold inI; omega,by unfold inI; omega,by omega,f,(yYs code 2 p2).1,(yYs code 2 p2).2,l2 ++ [⟨1000 + 10 * l2.length,1005 + 10 * l2.length⟩],⟨yYt i1,by simp; omega,by simp; omega,i4⟩,by omega,?_⟩⟩
    apply yj <;> simp
   ·rw [if_neg (by omega)] at i4
    rw [← i4]
    simp [yt]
  ·have e : paR code d q' l = (q',l):=by unfold paR; rw [if_neg h0,if_neg h1]
   rw [e]
   simp [yt]
   rw [List.take_of_length_le (by simp; omega)]
theorem yacP (code : List UInt8) (p : Nat × Int) (hp : p.1 ≤ code.length) : yZB Tryz.prog 39 (yYK code p) (yYK code (yZ7 code p).1) [] (.c (.sl 2 ((yZ7 code p).2.map Pause.enc))) :=
 (yacI code p hp).share (by simp [AV.shr,AV.ysI]) (fun l h=>by cases h)
set_option maxRecDepth 20000 in
theorem yN1 (rs : List Reach) (ws : List Way) (wk : List Work) (t : Tariff) (h1 : ycN rs) (h2 : yhr ws) (h3 : yc8 wk) (h4 : t.small) :
 yB Tryz.prog 41 [.c (.sl 3 (rs.map Reach.enc)),.c (.sl 2 (ws.map Way.enc)),.c (.sl 22 (wk.map Work.enc)),.agg (t.enc.map .c)] (.tup [.agg ((yNy rs ws wk t).1.enc.map .c),.c (.b (yNy rs ws wk t).2)]):=by
 have hr:=yN0 h1 h2 h3 h4
 have hn:=yN9 h1 h2 h3 h4
 have hl1:=h1.1
 have hrep : ∀ n : Nat,ykv (List.replicate n [C.sl 3 []]) = some (List.replicate n [C.sl 3 []]):=by
  intro n; induction n with
  | zero=>rfl
  | succ n ih=>rw [List.replicate_succ]; simp [ykv,ih,ybQ,C.shr]
 have hrm : (List.replicate rs.length ([] : List Mover)).map yZ = List.replicate rs.length [C.sl 3 []]:=by rw [List.map_replicate]; rfl
 have hco:=yxC (yNT rs ws wk t) hr
 have hW:=yOc (yNT rs ws wk t) hr
 have hV:=ym6 (yNS rs ws wk t) hn
 have hwr:=yN3 (yNT rs ws wk t)
 have he : (yNT rs ws wk t).enc = [.i 0,.sl 3 (rs.map Reach.enc),.sl 2 (ws.map Way.enc),.sl 22 (wk.map Work.enc),.sl 1 (List.replicate rs.length [C.sl 3 []]),.sl 2 [],.sl 1 [],.i t.Base,.i t.PerArea,.sl 1 (t.PerClass.map yJ),.sl 1 (t.Weights.map yJ),.sl 5 [],.sl 4 [],.i 0,.i 0,.i 0]:=by simp [yNT,Waterway.enc,hrm]
 have he2 : (yNS rs ws wk t).enc = [.i 0,.sl 3 (rs.map Reach.enc),.sl 2 (ws.map Way.enc),.sl 22 (wk.map Work.enc),.sl 1 (List.replicate rs.length [C.sl 3 []]),.sl 2 [],.sl 1 [],.i t.Base,.i t.PerArea,.sl 1 (t.PerClass.map yJ),.sl 1 (t.Weights.map yJ),.sl 5 [],.sl 4 [],.i (yNB (yNT rs ws wk t)),.i 0,.i 0]:=by simp [yNS,Waterway.enc,hrm]
 have hse : (yNT rs ws wk t).yAY = [.i 0,.ow 3 (rs.map Reach.enc),.ow 2 (ws.map Way.enc),.ow 22 (wk.map Work.enc),.ot 1 (List.replicate rs.length [C.ow 3 []]),.ow 2 [],.ow 1 [],.i t.Base,.i t.PerArea,.ow 1 (t.PerClass.map yJ),.ow 1 (t.Weights.map yJ),.ow 5 [],.ow 4 [],.i 0,.i 0,.i 0]:=by simp [yNT,Waterway.yAY,em,List.map_replicate]
 have hrep2 : ∀ n : Nat,ykv (List.replicate n [C.ow 3 []]) = some (List.replicate n [C.sl 3 []]):=by
  intro n; induction n with
  | zero=>rfl
  | succ n ih=>rw [List.replicate_succ,List.replicate_succ]; simp [ykv,ih,ybQ,C.shr]
 rw [he,hse] at hco
 rw [he] at hW
 rw [he2] at hV
 have hN1 : ∀ h : yar (yNS rs ws wk t) = true,wk.all yNA = true → yNy rs ws wk t = (yNS rs ws wk t,true):=fun h h'=>by simp [yNy,h,h']
 have hN2 : yar (yNS rs ws wk t) = false → yNy rs ws wk t = (yNE,false):=fun h=>yOi h
 have hN3 : wk.all yNA = false → yNy rs ws wk t = (yNE,false):=fun h=>yOg h
 have he3 : (yNS rs ws wk t).enc.map AV.c = _:=congrArg (List.map AV.c) he2
 generalize yNB (yNT rs ws wk t) = z at *
 generalize yNy rs ws wk t = R at *
 generalize yNS rs ws wk t = y at *
 generalize hok : yar y = ok at *
 refine yh yNV ?_
 simp -dsimp -implicitDefEqProofs
 intro hlen
 refine ⟨by omega,yQd ?_⟩
 simp -dsimp -implicitDefEqProofs
 refine yOf [18] hco (by simp -dsimp -implicitDefEqProofs [hrep,List.take_replicate]) rfl (by simp [yU]) ?_
 simp -dsimp -implicitDefEqProofs
 refine yaQ (hW) (by simp -dsimp -implicitDefEqProofs [yt,hrep2,List.take_replicate]) rfl ?_
 simp -dsimp -implicitDefEqProofs
 refine yg (ι:=Nat) (fun k=>k ≤ wk.length ∧ ∀ w ∈ wk.take k,yNA w = true) (fun k=>yO [(0,.c (.sl 3 (rs.map Reach.enc))),(1,.c (.sl 2 (ws.map Way.enc))),(2,.c (.sl 22 (wk.map Work.enc))),(8,.box 8 0),(9,.c (.b false)),(10,.box 10 0),(11,.c (.i k))] [(8,.box [.c (.i 0),.nil 3,.nil 2,.nil 22,.nil 1,.nil 2,.nil 1,.c (.i 0),.c (.i 0),.nil 1,.nil 1,.nil 5,.nil 4,.c (.i 0),.c (.i 0),.c (.i 0)]),(10,.box [.c (.i 0),.own 20021 3 rs.length,.own 30021 2 ws.length,.own 40021 22 wk.length,.own 50021 1 rs.length,.own 60021 2 0,.own 70021 1 0,.c (.i t.Base),.c (.i t.PerArea),.own 100021 1 t.PerClass.length,.own 110021 1 t.Weights.length,.own 120021 5 0,.own 130021 4 0,.c (.i z),.c (.i 0),.c (.i 0)]),(20021,.row 3 (rs.map Reach.enc)),(30021,.row 2 (ws.map Way.enc)),(40021,.row 22 (wk.map Work.enc)),(50021,.tr 1 0 (List.replicate rs.length [C.ow 3 []])),(60021,.row 2 []),(70021,.row 1 []),(100021,.row 1 (t.PerClass.map yJ)),(110021,.row 1 (t.Weights.map yJ)),(120021,.row 5 []),(130021,.row 4 [])]) (fun k=>wk.length - k) 0 (by simp) (by apply yj <;> simp) ?_
 rintro k ⟨hk,hall⟩
 rcases Nat.lt_or_ge k wk.length with klt | kge
 ·obtain ⟨w,hw⟩ : ∃ w,wk[k]? = some w:=⟨_,List.getElem?_eq_getElem klt⟩
  have g1:=(List.getElem?_eq_some_iff.1 hw).2
  simp -dsimp -implicitDefEqProofs [hw,g1,klt,yG klt]
  intro hlen2
  have bad : yNA w = false → R = (yNE,false):=fun h=>hN3 (all_false (p:=yNA) hw h)
  have badL : 0 < w.Lock.Inside.length → R = (yNE,false):=by
   intro h
   have h2 : ¬ w.Lock.Inside.length = 0:=by omega
   exact bad (by simp only [yNA,decide_eq_false h2,Bool.false_and])
  have badC : 0 < w.Calls.length → R = (yNE,false):=by
   intro h
   have h2 : ¬ w.Calls.length = 0:=by omega
   exact bad (by simp only [yNA,decide_eq_false h2,Bool.and_false])
  refine fun hlen3=>⟨fun hi hlen4=>⟨fun hc=>?_,fun hc=>?_⟩,fun hi=>?_⟩
  ·rw [badC hc]; simp [yNE]
  ·have hok : yNA w = true:=by
    have h1 : w.Lock.Inside.length = 0:=by rw [hi]; rfl
    have h3 : w.Calls.length = 0:=by rw [hc]; rfl
    simp [yNA,h1,h3]
   have hall':=yL (p:=yNA) hw hall hok
   refine ⟨yw klt hlen2,k + 1,⟨klt,hall'⟩,by omega,?_⟩
   apply yj <;> simp
  ·rw [badL hi]; simp [yNE]
 have hall2 : wk.all yNA = true:=yX (p:=yNA) kge hall
 simp -dsimp -implicitDefEqProofs [yaB kge]
 intro _
 refine yaQ (hV) (by simp -dsimp -implicitDefEqProofs [yt,hrep2,List.take_replicate]) rfl ?_
 cases ok with
 | false =>
  rw [hN2 rfl]
  simp -dsimp -implicitDefEqProofs
  simp [yNE]
 | true =>
  rw [hN1 rfl hall2]
  simp -dsimp -implicitDefEqProofs
  simp only [Waterway.enc,List.cons.injEq,C.i.injEq,C.sl.injEq,true_and,and_true] at he2
  obtain ⟨e0,e1,e2,e3,e4,e5,e6,e7,e8,e9,e10,e11,e12,e13,e14,e15⟩:=he2
  simp only [List.map_eq_nil_iff] at e5 e6 e11 e12
  simp only [e0,e1,e2,e3,e4,e5,e6,e7,e8,e9,e10,e11,e12,e13,e14,e15,hrep2,yt,yza]
  simp
def yaaa (t : List Point) (level : Int) (delay : Int) : Reach × Bool :=
 if inRange delay 0 12 then (if yR ⟨t,yac t level,List.replicate delay.toNat 0⟩ then (⟨t,yac t level,List.replicate delay.toNat 0⟩,true) else (⟨[],0,[]⟩,false)) else (⟨[],0,[]⟩,false)
set_option maxRecDepth 4000 in
theorem yacU (t : List Point) (level delay : Int) (hl : t.length ≤ 1048576) : ybh Tryz.prog 37 [.c (.sl 2 (t.map Point.enc)),.c (.i level),.c (.i delay)] (.tup [.agg ((yaaa t level delay).1.yI.map .c),.c (.b (yaaa t level delay).2)]):=by
 refine yan yabA ?_
 simp -dsimp -implicitDefEqProofs
 first
  | refine yaQ (yD delay 0 12) (by simp) rfl ?_
  | refine yaP (yD delay 0 12) (by simp) rfl ?_
  | refine ⟨_,_,yD delay 0 12,by simp,.inr rfl,?_⟩
  | refine ⟨_,_,yD delay 0 12,by simp,.inl rfl,?_⟩
  | refine ya2 (yD delay 0 12) (by simp) (.inr rfl) ?_
  | refine ya2 (yD delay 0 12) (by simp) (.inl rfl) ?_
 simp -dsimp -implicitDefEqProofs
 cases h1 : inRange delay 0 12 with
 | false =>
  simp -dsimp -implicitDefEqProofs
  have e : yaaa t level delay = (⟨[],0,[]⟩,false):=by simp [yaaa,h1]
  rw [e]
  refine yfg ?_
  simp
 | true =>
  have h2:=yF.1 h1
  simp -dsimp -implicitDefEqProofs
  refine ⟨by omega,?_⟩
  first
   | refine yaQ (yhS t level) (by simp) rfl ?_
   | refine yaP (yhS t level) (by simp) rfl ?_
   | refine ⟨_,_,yhS t level,by simp,.inr rfl,?_⟩
   | refine ⟨_,_,yhS t level,by simp,.inl rfl,?_⟩
   | refine ya2 (yhS t level) (by simp) (.inr rfl) ?_
   | refine ya2 (yhS t level) (by simp) (.inl rfl) ?_
  simp -dsimp -implicitDefEqProofs
  refine ⟨h2.1,by omega,?_⟩
  first
   | refine yaQ (ybX ⟨t,yac t level,List.replicate delay.toNat 0⟩) (by simp [yt,yJ]) rfl ?_
   | refine yaP (ybX ⟨t,yac t level,List.replicate delay.toNat 0⟩) (by simp [yt,yJ]) rfl ?_
   | refine ⟨_,_,ybX ⟨t,yac t level,List.replicate delay.toNat 0⟩,by simp [yt,yJ],.inr rfl,?_⟩
   | refine ⟨_,_,ybX ⟨t,yac t level,List.replicate delay.toNat 0⟩,by simp [yt,yJ],.inl rfl,?_⟩
   | refine ya2 (ybX ⟨t,yac t level,List.replicate delay.toNat 0⟩) (by simp [yt,yJ]) (.inr rfl) ?_
   | refine ya2 (ybX ⟨t,yac t level,List.replicate delay.toNat 0⟩) (by simp [yt,yJ]) (.inl rfl) ?_
  have e : yaaa t level delay = if yR ⟨t,yac t level,List.replicate delay.toNat 0⟩ then (⟨t,yac t level,List.replicate delay.toNat 0⟩,true) else (⟨[],0,[]⟩,false):=by simp [yaaa,h1]
  rw [e]
  cases hr : yR ⟨t,yac t level,List.replicate delay.toNat 0⟩ with
  | false =>
   simp -dsimp -implicitDefEqProofs
   refine yfg ?_
   simp
  | true =>
   simp -dsimp -implicitDefEqProofs
   refine yfg ?_
   simp [yt,yJ]
theorem yacK {k : Nat} {xs : List X} {s : St} : wOf (.bsl k xs) s = (xs.map s.ev).flatMap AV.ids:=rfl
def wgtL : List Int:=[1,2,3,7,0]
def yZ9 (code : List UInt8) (p : Nat × Int) : Nat → (Nat × Int) × List Int
 | 0=>(p,[])
 | k + 1=>(yaac code wgtL (yZ9 code p k).1,(yZ9 code p k).2 ++ [yZ6 code wgtL (yZ9 code p k).1])
theorem yabJ {code : List UInt8} {p : Nat × Int} (h : p.1 ≤ code.length) : ∀ k : Nat,(yZ9 code p k).1.1 ≤ code.length
 | 0=>h
 | k + 1=>yaab (yabJ h k)
theorem yabp {code : List UInt8} {p : Nat × Int} : ∀ k : Nat,(yZ9 code p k).2.length = k
 | 0=>rfl
 | k + 1=>by simp [yZ9,yabp (code:=code) (p:=p) k]
theorem yabo {code : List UInt8} {p : Nat × Int} : ∀ k : Nat,∀ w ∈ (yZ9 code p k).2,0 ≤ w ∧ w ≤ 7
 | 0,w,h=>by simp [yZ9] at h
 | k + 1,w,h=>by
  simp only [yZ9] at h
  rcases List.mem_append.1 h with h | h
  ·exact yabo k w h
  ·rw [List.mem_singleton] at h
   have h1:=yaae (code:=code) (l:=wgtL) (p:=(yZ9 code p k).1) (by simp [wgtL])
   rw [← h] at h1
   revert h1
   generalize w = v
   intro h1
   simp [wgtL] at h1; omega
def yabb (code : List UInt8) (p : Nat × Int) : Nat × Int:=yYs code 50 p
def yabf (code : List UInt8) (p : Nat × Int) : Nat × Int:=yYs code 20 (yabb code p)
def yaaZ (code : List UInt8) (p : Nat × Int) : Nat × Int:=yYs code 9 (yabf code p)
def yaaj (code : List UInt8) (p : Nat × Int) : Nat × Int:=yYs code 30 (yaaZ code p)
def tarK (code : List UInt8) (p : Nat × Int) : Nat:=(1 + yYv code 4 (yaaj code p)).toNat
def tarN (code : List UInt8) (p : Nat × Int) : Nat × Int:=(yZ9 code (yYs code 4 (yaaj code p)) (tarK code p)).1
def yabH : List Int → List Int
 | []=>[]
 | w :: l=>(w + 1) :: l
def tarV (code : List UInt8) (p : Nat × Int) : Tariff :=
 ⟨yYv code 50 p,yYv code 20 (yabb code p),[yYv code 9 (yabf code p),yYv code 30 (yaaZ code p),0],yabH (yZ9 code (yYs code 4 (yaaj code p)) (tarK code p)).2⟩
theorem yadr (code : List UInt8) (p : Nat × Int) : (tarK code p : Int) = 1 + yYv code 4 (yaaj code p) ∧ 1 ≤ tarK code p ∧ tarK code p ≤ 4:=by
 have h:=yYw (code:=code) (n:=4) (p:=yaaj code p) (by omega)
 unfold tarK; omega
set_option maxRecDepth 4000 in
theorem yacL (code : List UInt8) (p : Nat × Int) (hp : p.1 ≤ code.length) : yZB Tryz.prog 42 (yYK code p) (yYK code (tarN code p)) [] (.agg [.c (.i (tarV code p).Base),.c (.i (tarV code p).PerArea),.c (.ow 1 ((tarV code p).PerClass.map yJ)),.c (.ow 1 ((tarV code p).Weights.map yJ))]):=by
 have q1 : (yabb code p).1 ≤ code.length:=yYt hp
 have q2 : (yabf code p).1 ≤ code.length:=yYt q1
 have q3 : (yaaZ code p).1 ≤ code.length:=yYt q2
 have q4 : (yaaj code p).1 ≤ code.length:=yYt q3
 have hK:=yadr code p
 refine yZh yabj (by simp) fun hwf hwf2=>?_
 simp -dsimp -implicitDefEqProofs
 refine yYx (yYB code 50 p hp (by omega) (by omega)) (by simp ) (by simp) rfl (by simp [yU]) ?_
 simp -dsimp -implicitDefEqProofs
 refine yYx (yYB code 20 (yabb code p) q1 (by omega) (by omega)) (by simp [yabb]) (by simp) rfl (by simp [yU]) ?_
 simp -dsimp -implicitDefEqProofs
 refine yYx (yYB code 9 (yabf code p) q2 (by omega) (by omega)) (by simp [yabf]) (by simp) rfl (by simp [yU]) ?_
 simp -dsimp -implicitDefEqProofs
 refine yYx (yYB code 30 (yaaZ code p) q3 (by omega) (by omega)) (by simp [yaaZ]) (by simp) rfl (by simp [yU]) ?_
 simp -dsimp -implicitDefEqProofs
 refine yYx (yYB code 4 (yaaj code p) q4 (by omega) (by omega)) (by simp [yaaj]) (by simp) rfl (by simp [yU]) ?_
 simp -dsimp -implicitDefEqProofs
 have h4:=yYw (code:=code) (n:=4) (p:=yaaj code p) (by omega)
 refine ⟨by unfold inI; omega,?_⟩
 rw [← hK.1]
 have q5 : (yYs code 4 (yaaj code p)).1 ≤ code.length:=yYt q4
 have eN : tarN code p = (yZ9 code (yYs code 4 (yaaj code p)) (tarK code p)).1:=rfl
 have eW : (tarV code p).Weights = yabH (yZ9 code (yYs code 4 (yaaj code p)) (tarK code p)).2:=rfl
 have eB : (tarV code p).Base = yYv code 50 p:=rfl
 have eA : (tarV code p).PerArea = yYv code 20 (yabb code p):=rfl
 have eC : (tarV code p).PerClass = [yYv code 9 (yabf code p),yYv code 30 (yaaZ code p),0]:=rfl
 rw [eN,eW,eB,eA,eC]
 generalize tarK code p = n at *
 generalize yYs code 4 (yaaj code p) = q0 at *
 generalize yYv code 50 p = vb at *
 generalize yYv code 20 (yabb code p) = va at *
 generalize yYv code 9 (yabf code p) = c0 at *
 generalize yYv code 30 (yaaZ code p) = c1 at *
 refine yg (ι:=Nat) (fun k=>k ≤ n) (fun k=>if k = 0 then yO [(0,.box 0 0),(1000000,.box 0 0),(2,.box 2 0),(3,.box 3 0),(4,.c (.i n))] [(0,.box ((yYK code q0).map .c)),(2,.box [.c (.i 0),.c (.i 0),.nil 1,.nil 1]),(3,.box [.c (.i vb),.c (.i va),.own 13 1 3,.nil 1]),(13,.row 1 [[.i c0],[.i c1],[.i 0]])]
  else yO [(0,.box 0 0),(1000000,.box 0 0),(2,.box 2 0),(3,.box 3 0),(4,.c (.i (n - k)))] [(0,.box ((yYK code (yZ9 code q0 k).1).map .c)),(2,.box [.c (.i 0),.c (.i 0),.nil 1,.nil 1]),(3,.box [.c (.i vb),.c (.i va),.own 13 1 3,.own 28 1 k]),(13,.row 1 [[.i c0],[.i c1],[.i 0]]),(28,.row 1 ((yZ9 code q0 k).2.map yJ))]) (fun k=>n - k) 0 (by simp) (by rw [if_pos rfl]; apply yj <;> simp) ?_
 rintro k hk
 have e4 : wgtL.map yJ = [[.i 1],[.i 2],[.i 3],[.i 7],[.i 0]]:=rfl
 rcases Nat.eq_zero_or_pos k with e | hk0
 ·subst e
  rw [if_pos rfl]
  have hn0 : ((0 : Int) < (n : Int)) = True:=by simp; omega
  have hn0' : (0 < n) = True:=by simp; omega
  have hpk:=yZ5 code wgtL q0 q5 (by simp [wgtL]) (by simp [wgtL])
  have hs1 : yZ9 code q0 1 = (yaac code wgtL q0,[yZ6 code wgtL q0]):=by simp [yZ9]
  simp -dsimp -implicitDefEqProofs [hn0,hn0']
  have hg : CurG Tryz.prog 38 (yYK code q0) (yYK code (yaac code wgtL q0)) 1 ([[C.i 1],[C.i 2],[C.i 3],[C.i 7],[C.i 0]].take 5) (.c (.i (yZ6 code wgtL q0))):=hpk
  refine yabi (id:=0) (id1:=25) hg (by simp) (by simp) (by simp) (by simp) rfl ?_
  simp -dsimp -implicitDefEqProofs [yacK]
  refine ⟨by unfold inI; omega,1,by omega,by omega,?_⟩
  rw [if_neg (by omega)]
  apply yj <;> simp [hs1,yJ]
 ·have hne : (k = 0) = False:=by simp; omega
  simp only [hne,if_false]
  have hq:=yabJ (p:=q0) q5 k
  have hln:=yabp (code:=code) (p:=q0) k
  have hsuc : yZ9 code q0 (k + 1) = (yaac code wgtL (yZ9 code q0 k).1,(yZ9 code q0 k).2 ++ [yZ6 code wgtL (yZ9 code q0 k).1]):=rfl
  rcases Nat.lt_or_ge k n with hlt | hge
  ·have hgt : (0 < (n : Int) - (k : Int)) = True:=by simp; omega
   generalize yZ9 code q0 k = Q at *
   obtain ⟨q,ws⟩:=Q
   simp only at hq hln hsuc ⊢
   have hpk:=yZ5 code wgtL q hq (by simp [wgtL]) (by simp [wgtL])
   have hg : CurG Tryz.prog 38 (yYK code q) (yYK code (yaac code wgtL q)) 1 ([[C.i 1],[C.i 2],[C.i 3],[C.i 7],[C.i 0]].take 5) (.c (.i (yZ6 code wgtL q))):=hpk
   simp -dsimp -implicitDefEqProofs [hgt]
   refine ⟨fun _=>?_,fun h=>by omega⟩
   refine yabi (id:=0) (id1:=25) hg (by simp) (by simp) (by simp) (by simp) rfl ?_
   simp -dsimp -implicitDefEqProofs [hln,yacK]
   refine ⟨by omega,by unfold inI; omega,k + 1,hlt,by omega,?_⟩
   rw [if_neg (by omega)]
   apply yj <;> simp [hsuc,yJ]
   try omega
  ·have hgt : (0 < (n : Int) - (k : Int)) = False:=by simp; omega
   have : k = n:=by omega
   subst this
   obtain ⟨w0,wl,hws⟩ : ∃ w0 wl,(yZ9 code q0 k).2 = w0 :: wl:=by
    cases h : (yZ9 code q0 k).2 with
    | nil=>exfalso; rw [h] at hln; simp only [List.length_nil] at hln; omega
    | cons a l=>exact ⟨a,l,rfl⟩
   have hw7:=yabo (code:=code) (p:=q0) k w0 (by rw [hws]; simp)
   rw [hws]
   simp -dsimp -implicitDefEqProofs [hgt,yabH]
   rw [hws] at hln
   refine ⟨hk0,by unfold inI; omega,hk0,?_⟩
   rw [List.take_of_length_le (by simpa using Nat.le_of_eq hln)]
theorem yadL : ∀ (l : List Int),(∀ x ∈ l,0 ≤ x) → 0 ≤ l.sum
 | [],_=>by simp
 | a :: l,h=>by
  have h1:=h a (by simp)
  have h2:=yadL l fun x hx=>h x (by simp [hx])
  rw [List.sum_cons]; omega
theorem yadj (code : List UInt8) (p : Nat × Int) : ya9 (tarV code p) = true ∧ (tarV code p).small ∧ (tarV code p).Weights.length ≤ 4:=by
 have hK:=yadr code p
 have h1:=yYw (code:=code) (n:=50) (p:=p) (by omega)
 have h2:=yYw (code:=code) (n:=20) (p:=yabb code p) (by omega)
 have h3:=yYw (code:=code) (n:=9) (p:=yabf code p) (by omega)
 have h4:=yYw (code:=code) (n:=30) (p:=yaaZ code p) (by omega)
 have hl:=yabp (code:=code) (p:=yYs code 4 (yaaj code p)) (tarK code p)
 have hr:=yabo (code:=code) (p:=yYs code 4 (yaaj code p)) (tarK code p)
 have hw : ∃ w0 wl,(tarV code p).Weights = w0 :: wl ∧ (∀ w ∈ w0 :: wl,0 ≤ w ∧ w ≤ 8) ∧ 1 ≤ w0 ∧ wl.length ≤ 3:=by
  show ∃ w0 wl,yabH (yZ9 code (yYs code 4 (yaaj code p)) (tarK code p)).2 = w0 :: wl ∧ _
  generalize (yZ9 code (yYs code 4 (yaaj code p)) (tarK code p)).2 = l at *
  cases l with
  | nil=>simp at hl; omega
  | cons a l =>
   refine ⟨a + 1,l,rfl,fun w hw=>?_,by have:=hr a (by simp); omega,by simp at hl; omega⟩
   rcases List.mem_cons.1 hw with e | e
   ·have:=hr a (by simp); omega
   ·have:=hr w (by simp [e]); omega
 obtain ⟨w0,wl,e,hw,hw0,hwl⟩:=hw
 have hsum : 0 ≤ wl.sum:=by
  have:=yadL wl fun x hx=>(hw x (by simp [hx])).1
  omega
 have ec : (tarV code p).PerClass = [yYv code 9 (yabf code p),yYv code 30 (yaaZ code p),0]:=rfl
 refine ⟨?_,⟨?_,?_⟩,?_⟩
 ·have a1 : inRange (tarV code p).Base 0 10000 = true:=yF.2 ⟨h1.1,by have:=h1.2; show yYv code 50 p ≤ _; omega⟩
  have a2 : inRange (tarV code p).PerArea 0 100 = true:=yF.2 ⟨h2.1,by have:=h2.2; show yYv code 20 (yabb code p) ≤ _; omega⟩
  have a3 : (tarV code p).PerClass.all (fun n=>inRange n 0 10000) = true:=by
   rw [ec,List.all_eq_true]
   intro x hx
   simp only [List.mem_cons,List.not_mem_nil,or_false] at hx
   rcases hx with rfl | rfl | rfl
   ·exact yF.2 ⟨h3.1,by omega⟩
   ·exact yF.2 ⟨h4.1,by omega⟩
   ·decide
  have a4 : (tarV code p).Weights.all (fun n=>inRange n 0 1000) = true:=by
   rw [e,List.all_eq_true]
   exact fun x hx=>yF.2 ⟨(hw x hx).1,by have:=(hw x hx).2; omega⟩
  have a5 : inRange (tarV code p).Weights.length 1 11 = true:=by rw [e,List.length_cons]; exact yF.2 ⟨by omega,by omega⟩
  have a6 : (tarV code p).PerClass.length = 3:=by rw [ec]; rfl
  have a7 : 0 < (tarV code p).Weights.sum:=by rw [e,List.sum_cons]; omega
  simp only [ya9,a1,a2,a3,a4,a5,a6,a7,decide_true,Bool.and_self]
 ·rw [ec]; simp
 ·rw [e]; simp; omega
 ·rw [e]; simp; omega
def wayL : List Int:=[8,20,40]
def chlL : List Int:=[60,120]
def chwL : List Int:=[10,16]
def yaaE : List Int:=[60,300,2000]
def watL : List Int:=[10,30,70]
def rcP1 (code : List UInt8) (p : Nat × Int) : Nat × Int:=yYs code 9 p
def rcP2 (code : List UInt8) (p : Nat × Int) : Nat × Int:=yYs code 30 (rcP1 code p)
def rcP3 (code : List UInt8) (p : Nat × Int) : Nat × Int:=yYs code 3 (rcP2 code p)
def rcP4 (code : List UInt8) (p : Nat × Int) : Nat × Int:=yaac code wayL (rcP3 code p)
def wkP1 (code : List UInt8) (p : Nat × Int) : Nat × Int:=yaac code chlL (rcP4 code p)
def wkP2 (code : List UInt8) (p : Nat × Int) : Nat × Int:=yaac code chwL (wkP1 code p)
def wkP3 (code : List UInt8) (p : Nat × Int) : Nat × Int:=yYs code 8 (wkP2 code p)
def wkP4 (code : List UInt8) (p : Nat × Int) : Nat × Int:=yaac code yaaE (wkP3 code p)
def wkP5 (code : List UInt8) (p : Nat × Int) : Nat × Int:=yYs code 2 (wkP4 code p)
def wkP6 (code : List UInt8) (p : Nat × Int) : Nat × Int:=yaac code watL (wkP5 code p)
def wkP7 (code : List UInt8) (p : Nat × Int) : Nat × Int:=yYs code 9 (wkP6 code p)
def wkP8 (code : List UInt8) (p : Nat × Int) : Nat × Int:=yYs code 5 (wkP7 code p)
def wkP9 (code : List UInt8) (p : Nat × Int) : Nat × Int:=yYs code 20 (wkP8 code p)
def wkN (code : List UInt8) (p : Nat × Int) : Nat × Int:=(yZ7 code (wkP9 code p)).1
theorem yado {code : List UInt8} {p : Nat × Int} (h : p.1 ≤ code.length) : (rcP1 code p).1 ≤ code.length:=yYt h
theorem yadu {code : List UInt8} {p : Nat × Int} (h : p.1 ≤ code.length) : (rcP2 code p).1 ≤ code.length:=yYt (yado h)
theorem yadt {code : List UInt8} {p : Nat × Int} (h : p.1 ≤ code.length) : (rcP3 code p).1 ≤ code.length:=yYt (yadu h)
theorem yabG {code : List UInt8} {p : Nat × Int} (h : p.1 ≤ code.length) : (rcP4 code p).1 ≤ code.length:=yaab (yadt h)
theorem yadw {code : List UInt8} {p : Nat × Int} (h : p.1 ≤ code.length) : (wkP1 code p).1 ≤ code.length:=yaab (yabG h)
theorem yady {code : List UInt8} {p : Nat × Int} (h : p.1 ≤ code.length) : (wkP2 code p).1 ≤ code.length:=yaab (yadw h)
theorem yadn {code : List UInt8} {p : Nat × Int} (h : p.1 ≤ code.length) : (wkP3 code p).1 ≤ code.length:=yYt (yady h)
theorem yadx {code : List UInt8} {p : Nat × Int} (h : p.1 ≤ code.length) : (wkP4 code p).1 ≤ code.length:=yaab (yadn h)
theorem yadq {code : List UInt8} {p : Nat × Int} (h : p.1 ≤ code.length) : (wkP5 code p).1 ≤ code.length:=yYt (yadx h)
theorem yads {code : List UInt8} {p : Nat × Int} (h : p.1 ≤ code.length) : (wkP6 code p).1 ≤ code.length:=yaab (yadq h)
theorem yadm {code : List UInt8} {p : Nat × Int} (h : p.1 ≤ code.length) : (wkP7 code p).1 ≤ code.length:=yYt (yads h)
theorem yadk {code : List UInt8} {p : Nat × Int} (h : p.1 ≤ code.length) : (wkP8 code p).1 ≤ code.length:=yYt (yadm h)
theorem yadl {code : List UInt8} {p : Nat × Int} (h : p.1 ≤ code.length) : (wkP9 code p).1 ≤ code.length:=yYt (yadk h)
theorem yaeD {code : List UInt8} {p : Nat × Int} (h : p.1 ≤ code.length) : (wkN code p).1 ≤ code.length:=yade (yadl h)
def yaai (bed y : Int) : List Point:=[⟨bed,0⟩,⟨bed + 60,y⟩,⟨bed + 90,20000⟩]
def yaaB (code : List UInt8) (bed : Int) (p : Nat × Int) : Reach:=(yaaa (yaai bed (6000 + 600 * yYv code 9 p)) (bed + 25 + yYv code 30 (rcP1 code p)) (yYv code 3 (rcP2 code p))).1
def wayV (code : List UInt8) (bed : Int) (p : Nat × Int) : Way:=⟨yZ6 code wayL (rcP3 code p),bed⟩
def yaaA (code : List UInt8) (p : Nat × Int) : List Pause:=if ycD (yZ7 code p).2 then (yZ7 code p).2 else []
def yabU (code : List UInt8) (bed : Int) (p : Nat × Int) : Lock:=⟨yZ6 code chlL (rcP4 code p),yZ6 code chwL (wkP1 code p),bed,bed - 40,bed - 40,1 + yYv code 8 (wkP2 code p),yZ6 code yaaE (wkP3 code p),(1 + yYv code 8 (wkP2 code p)) * yZ6 code watL (wkP5 code p),0,[]⟩
def yacS (code : List UInt8) (bed : Int) (p : Nat × Int) : Weir:=⟨2,yYv code 9 (wkP6 code p),1 + yYv code 5 (wkP7 code p),bed + 10,1 + yYv code 20 (wkP8 code p)⟩
def yaam (code : List UInt8) (bed : Int) (p : Nat × Int) : Work:=⟨yabU code bed p,yacS code bed p,⟨bed + 20,bed + 45,bed + 70⟩,yaaA code (wkP9 code p),⟨false,0⟩,[]⟩
structure Drawn where
 p : Nat × Int
 R : List Reach
 W : List Way
 K : List Work
def yZ4 (code : List UInt8) (n : Nat) (p : Nat × Int) : Nat → Drawn
 | 0=>⟨p,[],[],[]⟩
 | k + 1 =>
  let q:=yZ4 code n p k
  if k + 1 = n then ⟨rcP4 code q.p,q.R ++ [yaaB code (40 * (n - k : Int)) q.p],q.W ++ [wayV code (40 * (n - k : Int)) q.p],q.K⟩
  else ⟨wkN code q.p,q.R ++ [yaaB code (40 * (n - k : Int)) q.p],q.W ++ [wayV code (40 * (n - k : Int)) q.p],q.K ++ [yaam code (40 * (n - k : Int)) q.p]⟩
theorem yabP {code : List UInt8} {n : Nat} {p : Nat × Int} (h : p.1 ≤ code.length) : ∀ k : Nat,(yZ4 code n p k).p.1 ≤ code.length
 | 0=>h
 | k + 1=>by
  have ih:=yabP (n:=n) h k
  unfold yZ4
  simp only
  split
  ·exact yabG ih
  ·exact yaeD ih
theorem yacf {code : List UInt8} {n : Nat} {p : Nat × Int} : ∀ k : Nat,k ≤ n → (yZ4 code n p k).R.length = k ∧ (yZ4 code n p k).W.length = k ∧ (k < n → (yZ4 code n p k).K.length = k) ∧ (k = n → (yZ4 code n p k).K.length = n - 1)
 | 0,_=>by simp [yZ4]; omega
 | k + 1,hk=>by
  have ih:=yacf (code:=code) (n:=n) (p:=p) k (by omega)
  unfold yZ4
  simp only
  split
  ·simp only [List.length_append,List.length_cons,List.length_nil]; omega
  ·simp only [List.length_append,List.length_cons,List.length_nil]; omega
def newK (code : List UInt8) (p : Nat × Int) : Nat:=(2 + yYv code 3 p).toNat
theorem yacs (code : List UInt8) (p : Nat × Int) : (newK code p : Int) = 2 + yYv code 3 p ∧ 2 ≤ newK code p ∧ newK code p ≤ 4:=by
 have h:=yYw (code:=code) (n:=3) (p:=p) (by omega)
 unfold newK; omega
def newD (code : List UInt8) (p : Nat × Int) : Drawn:=yZ4 code (newK code p) (yYs code 3 p) (newK code p)
theorem yaeq {code : List UInt8} {p : Nat × Int} (h : p.1 ≤ code.length) : (newD code p).p.1 ≤ code.length:=yabP (yYt h) _
def newV (code : List UInt8) (p : Nat × Int) : Waterway:=(yNy (newD code p).R (newD code p).W (newD code p).K (tarV code (newD code p).p)).1
def newN (code : List UInt8) (p : Nat × Int) : Nat × Int:=tarN code (newD code p).p
theorem yadH {bed y : Int} (hb : 0 ≤ bed ∧ bed ≤ 1000) (hy : 0 ≤ y ∧ y ≤ 20000) : yaM (yaai bed y) = true:=by
 simp [yaM,upTo,yhD,yaai,ygg,follows,inRange]
 omega
theorem yaev (n : Nat) : (List.replicate n (0 : Int)).sum = 0 ∧ ∀ x ∈ List.replicate n (0 : Int),amount x = true:=by
 refine ⟨?_,fun x hx=>by rw [(List.mem_replicate.1 hx).2]; decide⟩
 induction n with
 | zero=>rfl
 | succ n ih=>rw [List.replicate_succ,List.sum_cons,ih]; rfl
theorem yadB {code : List UInt8} {bed : Int} {p : Nat × Int} (hb : 0 ≤ bed ∧ bed ≤ 1000) : ∃ (t : List Point) (v : Int) (d : Nat),yaaB code bed p = ⟨t,v,List.replicate d 0⟩ ∧ t.length = 3 ∧ 0 ≤ v ∧ v ≤ 20000 ∧ d ≤ 2 ∧ yR ⟨t,v,List.replicate d 0⟩ = true:=by
 have h1:=yYw (code:=code) (n:=9) (p:=p) (by omega)
 have h2:=yYw (code:=code) (n:=30) (p:=rcP1 code p) (by omega)
 have h3:=yYw (code:=code) (n:=3) (p:=rcP2 code p) (by omega)
 unfold yaaB yaaa
 generalize yYv code 9 p = a at *
 generalize yYv code 30 (rcP1 code p) = b at *
 generalize yYv code 3 (rcP2 code p) = c at *
 have hT:=yadH (bed:=bed) (y:=6000 + 600 * a) hb (by omega)
 have p0 : ybq (yaai bed (6000 + 600 * a)) 0 = ⟨bed,0⟩:=rfl
 have p2 : ybq (yaai bed (6000 + 600 * a)) ((yaai bed (6000 + 600 * a)).length - 1) = ⟨bed + 90,20000⟩:=rfl
 have v0:=yh8 hT (x:=bed) (by rw [p0]; exact Int.le_refl _)
 have v1:=yhp hT (x:=bed + 90) (by rw [p2]; exact Int.le_refl _)
 have m0:=yk4 hT (x:=bed) (y:=bed + 25 + b) (by omega)
 have m1:=yk4 hT (x:=bed + 25 + b) (y:=bed + 90) (by omega)
 rw [v0,p0] at m0
 rw [v1,p2] at m1
 simp only at m0 m1
 have hin : inRange c 0 12 = true:=yF.2 ⟨by omega,by omega⟩
 have hok : yR ⟨yaai bed (6000 + 600 * a),yac (yaai bed (6000 + 600 * a)) (bed + 25 + b),List.replicate c.toNat 0⟩ = true:=by
  obtain ⟨z1,z2⟩:=yaev c.toNat
  simp only [yR,yda,hT,z1,Bool.and_eq_true,decide_eq_true_eq,List.all_eq_true,List.length_replicate,Bool.true_and]
  exact ⟨⟨⟨yF.2 ⟨by omega,by omega⟩,by omega⟩,z2⟩,by omega⟩
 rw [if_pos hin,if_pos hok]
 exact ⟨_,_,_,rfl,rfl,by omega,by omega,by omega,hok⟩
theorem yaet {code : List UInt8} {p : Nat × Int} : let x:=yZ6 code wayL p; x = 8 ∨ x = 20 ∨ x = 40:=by
 have:=yaae (code:=code) (l:=wayL) (p:=p) (by simp [wayL])
 simpa [wayL] using this
theorem yaew {code : List UInt8} {p : Nat × Int} : let x:=yZ6 code chlL p; x = 60 ∨ x = 120:=by
 have:=yaae (code:=code) (l:=chlL) (p:=p) (by simp [chlL])
 simpa [chlL] using this
theorem yaez {code : List UInt8} {p : Nat × Int} : let x:=yZ6 code chwL p; x = 10 ∨ x = 16:=by
 have:=yaae (code:=code) (l:=chwL) (p:=p) (by simp [chwL])
 simpa [chwL] using this
theorem yaeF {code : List UInt8} {p : Nat × Int} : let x:=yZ6 code yaaE p; x = 60 ∨ x = 300 ∨ x = 2000:=by
 have:=yaae (code:=code) (l:=yaaE) (p:=p) (by simp [yaaE])
 simpa [yaaE] using this
theorem yadN {code : List UInt8} {p : Nat × Int} : let x:=yZ6 code watL p; x = 10 ∨ x = 30 ∨ x = 70:=by
 have:=yaae (code:=code) (l:=watL) (p:=p) (by simp [watL])
 simpa [watL] using this
theorem yacj {a w : Int} (h : 1 ≤ a ∧ a ≤ 8) (hw : w = 10 ∨ w = 30 ∨ w = 70) : 0 ≤ a * w ∧ a * w ≤ 560:=by
 rcases hw with rfl | rfl | rfl <;> omega
theorem yaej {code : List UInt8} {bed : Int} {p : Nat × Int} (hb : 0 ≤ bed ∧ bed ≤ 1000) : yjg (wayV code bed p) = true:=by
 have h:=yaet (code:=code) (p:=rcP3 code p)
 simp only [yjg,wayV,Bool.and_eq_true]
 exact ⟨yF.2 ⟨by omega,by omega⟩,yF.2 ⟨by omega,by omega⟩⟩
theorem yacq : Distinct [] = true:=by decide
theorem yaeg {code : List UInt8} {bed : Int} {p : Nat × Int} (hb : 40 ≤ bed ∧ bed ≤ 1000) : ybd (yaam code bed p) = true ∧ yNA (yaam code bed p) = true ∧ (0 ≤ yNH (yaam code bed p) ∧ yNH (yaam code bed p) ≤ 560) ∧ (yaam code bed p).Calls = [] ∧ (yaam code bed p).Lock.Inside = [] ∧ (yaam code bed p).small ∧ (yaam code bed p).Lock.Gate = 0:=by
 have e1:=yaew (code:=code) (p:=rcP4 code p)
 have e2:=yaez (code:=code) (p:=wkP1 code p)
 have e3:=yYw (code:=code) (n:=8) (p:=wkP2 code p) (by omega)
 have e4:=yaeF (code:=code) (p:=wkP3 code p)
 have e5:=yadN (code:=code) (p:=wkP5 code p)
 have e6:=yYw (code:=code) (n:=9) (p:=wkP6 code p) (by omega)
 have e7:=yYw (code:=code) (n:=5) (p:=wkP7 code p) (by omega)
 have e8:=yYw (code:=code) (n:=20) (p:=wkP8 code p) (by omega)
 have hw:=yacj (a:=1 + yYv code 8 (wkP2 code p)) (by omega) e5
 have hl : ybg (yabU code bed p) = true:=by
  simp only [ybg,yabU,yacq,Bool.and_true,Bool.and_eq_true]
  exact ⟨⟨⟨⟨⟨⟨⟨⟨yF.2 ⟨by omega,by omega⟩,yF.2 ⟨by omega,by omega⟩⟩,yF.2 ⟨by omega,by omega⟩⟩,yF.2 ⟨by omega,by omega⟩⟩,yF.2 ⟨by omega,by omega⟩⟩,yF.2 ⟨by omega,by omega⟩⟩,yF.2 ⟨by omega,by omega⟩⟩,yF.2 ⟨by omega,by omega⟩⟩,by decide⟩
 have hv : yaH (yacS code bed p) = true:=by
  simp only [yaH,yacS,Bool.and_eq_true]
  exact ⟨⟨⟨⟨by decide,yF.2 ⟨by omega,by omega⟩⟩,yF.2 ⟨by omega,by omega⟩⟩,yF.2 ⟨by omega,by omega⟩⟩,yF.2 ⟨by omega,by omega⟩⟩
 have hr : yca ⟨bed + 20,bed + 45,bed + 70⟩ = true:=by
  simp only [yca,Bool.and_eq_true,decide_eq_true_eq]
  exact ⟨⟨⟨⟨yF.2 ⟨by omega,by omega⟩,yF.2 ⟨by omega,by omega⟩⟩,yF.2 ⟨by omega,by omega⟩⟩,by omega⟩,by omega⟩
 have hp : ycD (yaaA code (wkP9 code p)) = true ∧ (yaaA code (wkP9 code p)).length ≤ 13:=by
  unfold yaaA
  split
  ·rename_i h; exact ⟨h,yacE⟩
  ·exact ⟨by decide,by simp⟩
 refine ⟨?_,rfl,hw,rfl,rfl,?_,rfl⟩
 ·have ht : ype ⟨false,0⟩ = true:=by decide
  simp only [ybd,yaam,hl,hv,hr,hp.1,ht,List.length_nil,List.all_nil]
  rfl
 ·exact ⟨⟨by simp [yaam,yabU],fun x hx=>by simp [yaam,yabU] at hx⟩,⟨by have:=hp.2; show (yaaA code (wkP9 code p)).length ≤ _; omega,fun _ _=>trivial⟩,⟨by simp [yaam],fun x hx=>by simp [yaam] at hx⟩⟩
structure SoundD (d : Drawn) (k j : Nat) : Prop where
 lr : d.R.length = k
 lw : d.W.length = k
 lk : d.K.length = j
 r : ∀ r ∈ d.R,yR r = true ∧ r.small ∧ 0 ≤ yda r ∧ yda r ≤ 20000
 w : ∀ w ∈ d.W,yjg w = true
 k : ∀ w ∈ d.K,ybd w = true ∧ yNA w = true ∧ (0 ≤ yNH w ∧ yNH w ≤ 560) ∧ w.Calls = [] ∧ w.Lock.Inside = [] ∧ w.small ∧ w.Lock.Gate = 0
theorem yabs {code : List UInt8} {n : Nat} {p : Nat × Int} (hn : n ≤ 4) : ∀ k : Nat,k ≤ n → SoundD (yZ4 code n p k) k (min k (n - 1))
 | 0,_=>⟨rfl,rfl,by simp [yZ4],fun r h=>by simp [yZ4] at h,fun r h=>by simp [yZ4] at h,fun r h=>by simp [yZ4] at h⟩
 | k + 1,hk=>by
  have ih:=yabs (code:=code) (p:=p) hn k (by omega)
  have hb : 40 ≤ (40 * (n - k : Int)) ∧ (40 * (n - k : Int)) ≤ 1000:=by omega
  obtain ⟨t,v,d,h1,h2,h3,h4,h5,h6⟩:=yadB (code:=code) (bed:=40 * (n - k : Int)) (p:=(yZ4 code n p k).p) (by omega)
  have hr : ∀ r ∈ (yZ4 code n p k).R ++ [yaaB code (40 * (n - k : Int)) (yZ4 code n p k).p],yR r = true ∧ r.small ∧ 0 ≤ yda r ∧ yda r ≤ 20000:=by
   intro r h
   rcases List.mem_append.1 h with h | h
   ·exact ih.r r h
   ·rw [List.mem_singleton,h1] at h
    subst h
    refine ⟨h6,⟨⟨by simp only; omega,fun _ _=>trivial⟩,⟨by simp only [List.length_replicate]; omega,fun _ _=>trivial⟩⟩,?_⟩
    simp only [yda,(yaev d).1]; omega
  have hw : ∀ w ∈ (yZ4 code n p k).W ++ [wayV code (40 * (n - k : Int)) (yZ4 code n p k).p],yjg w = true:=by
   intro w h
   rcases List.mem_append.1 h with h | h
   ·exact ih.w w h
   ·rw [List.mem_singleton] at h
    subst h
    exact yaej (by omega)
  have a1:=ih.lr
  have a2:=ih.lw
  have a3:=ih.lk
  unfold yZ4
  simp only
  split
  ·refine ⟨by simp; omega,by simp; omega,by simp only; omega,hr,hw,ih.k⟩
  ·refine ⟨by simp; omega,by simp; omega,by simp only [List.length_append,List.length_cons,List.length_nil]; omega,hr,hw,fun w h=>?_⟩
   rcases List.mem_append.1 h with h | h
   ·exact ih.k w h
   ·rw [List.mem_singleton] at h
    subst h
    exact yaeg hb
theorem yacr {α : Type} {f : α → Int} {m : Int} : ∀ (l : List α),(∀ x ∈ l,0 ≤ f x ∧ f x ≤ m) → 0 ≤ (l.map f).sum ∧ (l.map f).sum ≤ m * l.length
 | [],_=>by simp
 | a :: l,h=>by
  have ih:=yacr (f:=f) (m:=m) l fun x hx=>h x (by simp [hx])
  have h1:=h a (by simp)
  have h2 : m * ((a :: l).length : Int) = m * l.length + m:=by rw [List.length_cons]; push_cast; rw [Int.mul_add,Int.mul_one]
  simp only [List.map_cons,List.sum_cons]
  rw [h2]; omega
theorem yabM (code : List UInt8) (p : Nat × Int) : SoundD (newD code p) (newK code p) (newK code p - 1) ∧ ycN (newD code p).R ∧ yhr (newD code p).W ∧ yc8 (newD code p).K:=by
 obtain ⟨_,h2,h4⟩:=yacs code p
 have S : SoundD (newD code p) (newK code p) (newK code p - 1):=by
  have:=yabs (code:=code) (p:=yYs code 3 p) h4 (newK code p) (Nat.le_refl _)
  rw [show min (newK code p) (newK code p - 1) = newK code p - 1 by omega] at this
  exact this
 have a1:=S.lr
 have a2:=S.lw
 have a3:=S.lk
 exact ⟨S,⟨by omega,fun r h=>(S.r r h).2.1⟩,⟨by omega,fun _ _=>trivial⟩,⟨by omega,fun w h=>(S.k w h).2.2.2.2.2.1⟩⟩
structure Fresh (x : Waterway) : Prop where
 gate : ∀ w ∈ x.Works,w.Lock.Gate = 0
 start : x.Start ≤ 1000000
 time : x.Time = 0
 inn : x.In = 0
theorem yadC (code : List UInt8) (p : Nat × Int) : Bare (newV code p) ∧ (newV code p).small ∧ Fresh (newV code p):=by
 obtain ⟨S,s1,s2,s3⟩:=yabM code p
 obtain ⟨_,h2,h4⟩:=yacs code p
 obtain ⟨t1,t2,_⟩:=yadj code (newD code p).p
 have a1:=S.lr
 have a2:=S.lw
 have a3:=S.lk
 unfold newV
 generalize tarV code (newD code p).p = T at *
 generalize newD code p = d at *
 generalize newK code p = n at *
 have hno : d.K.all yNA = true:=List.all_eq_true.2 fun w h=>(S.k w h).2.1
 have hriv : ycM d.R = true:=by
  have:=yacr (f:=yda) (m:=20000) d.R fun r h=>(S.r r h).2.2
  simp only [ycM,river,Bool.and_eq_true,decide_eq_true_eq,List.all_eq_true]
  refine ⟨⟨⟨by omega,by omega⟩,fun r h=>(S.r r h).1⟩,decide_eq_true (by omega)⟩
 have hlan : (d.W.zip (List.replicate d.R.length [])).all yb8 = true:=by
  refine List.all_eq_true.2 fun q hq=>?_
  obtain ⟨w,l⟩:=q
  obtain ⟨m1,m2⟩:=List.of_mem_zip hq
  rw [(List.mem_replicate.1 m2).2]
  simp only [yb8,S.w w m1,List.length_nil,List.all_nil]
  rfl
 have hwk : d.K.all ybd = true:=List.all_eq_true.2 fun w h=>(S.k w h).1
 have hany : ∀ s : Int,0 ≤ s → s ≤ 1000000000 → yar ⟨0,d.R,d.W,d.K,List.replicate d.R.length [],[],[],T,[],[],s,0,0⟩ = true:=by
  intro s g1 g2
  have g3 : inRange s 0 1000000000 = true:=yF.2 ⟨g1,g2⟩
  have hp : ybi ⟨0,d.R,d.W,d.K,List.replicate d.R.length [],[],[],T,[],[],s,0,0⟩ = true:=by
   simp only [ybi,hriv,hlan,hwk,List.length_replicate,Bool.true_and,Bool.and_true,Bool.and_eq_true]
   exact ⟨⟨⟨decide_eq_true (by omega),decide_eq_true (by omega)⟩,decide_eq_true (by simp)⟩,decide_eq_true (by omega)⟩
  have hl : ybW ⟨0,d.R,d.W,d.K,List.replicate d.R.length [],[],[],T,[],[],s,0,0⟩ = true:=by
   simp [ybW]
  have hbk : yht [] = true:=by decide
  have h0 : inRange 0 0 1000000 = true:=by decide
  have h00 : inRange 0 0 1000000000 = true:=by decide
  simp only [yar,hp,hl,t1,hbk,g3,h0,h00,Bool.and_self]
 have hraw : yar (yNT d.R d.W d.K T) = true:=hany 0 (by omega) (by omega)
 have hwat : 0 ≤ yNB (yNT d.R d.W d.K T) ∧ yNB (yNT d.R d.W d.K T) ≤ 1000000:=by
  have e1:=yacr (f:=yda) (m:=20000) d.R fun r h=>(S.r r h).2.2
  have e2:=yacr (f:=yNH) (m:=560) d.K fun w h=>(S.k w h).2.2.1
  unfold yNB yNz
  rw [if_pos hraw]
  show 0 ≤ (if ycM d.R then river d.R else 0) + (d.K.map yNH).sum ∧ (if ycM d.R then river d.R else 0) + (d.K.map yNH).sum ≤ 1000000
  rw [if_pos hriv]
  unfold river
  omega
 have hnew : yar (yNS d.R d.W d.K T) = true:=hany _ hwat.1 (by omega)
 have e : yNy d.R d.W d.K T = (yNS d.R d.W d.K T,true):=by
  unfold yNy
  rw [hno,hnew]; rfl
 rw [e]
 refine ⟨⟨hnew,fun l hl=>(List.mem_replicate.1 hl).2,rfl,rfl,rfl,rfl,fun w hw=>⟨(S.k w hw).2.2.2.1,(S.k w hw).2.2.2.2.1⟩,?_⟩,yN9 s1 s2 s3 t2,fun w hw=>(S.k w hw).2.2.2.2.2.2,hwat.2,rfl,rfl⟩
 show yNB (yNS d.R d.W d.K T) + 0 = yNB (yNT d.R d.W d.K T) + 0
 have : yNB (yNS d.R d.W d.K T) = yNB (yNT d.R d.W d.K T):=by
  unfold yNB
  rw [if_pos hnew,if_pos hraw]
  rfl
 rw [this]
theorem yO2 {α : Type} {f : α → Int} {b : α} : ∀ {l : List α} {k : Nat} {a : α},l[k]? = some a → ((l.set k b).map f).sum = (l.map f).sum - f a + f b
 | [],_,_,h=>by cases h
 | c :: l,0,a,h=>by
  obtain rfl : c = a:=by simpa using h
  simp only [List.set_cons_zero,List.map_cons,List.sum_cons]; omega
 | c :: l,k + 1,a,h=>by
  have:=yO2 (f:=f) (b:=b) (l:=l) (k:=k) (a:=a) (by simpa using h)
  simp only [List.set_cons_succ,List.map_cons,List.sum_cons]; omega
theorem yagp {b : Int} : ∀ {l : List Int} {k : Nat} {a : Int},l[k]? = some a → (l.set k b).sum = l.sum - a + b:=by
 intro l k a h
 have:=yO2 (f:=fun x : Int=>x) (b:=b) h
 simpa using this
def Reach.has (r : Reach) (n : Int) : Prop:=yR r = true ∧ yda r = n
theorem yaeK {t : List Point} {v : Int} {p : List Int} (ht : yaM t = true) (hv : 0 ≤ v) (hl : p.length ≤ 12) (hp : ∀ x ∈ p,0 ≤ x) (hs : v + p.sum ≤ 1000000000) : yR ⟨t,v,p⟩ = true:=by
 have hall : ∀ (p : List Int),(∀ x ∈ p,0 ≤ x) → 0 ≤ p.sum ∧ ∀ x ∈ p,x ≤ p.sum:=by
  intro p
  induction p with
  | nil=>intro _; exact ⟨by simp,fun x hx=>by cases hx⟩
  | cons a p ih =>
   intro h
   obtain ⟨h1,h2⟩:=ih fun x hx=>h x (by simp [hx])
   have h3:=h a (by simp)
   refine ⟨by simp only [List.sum_cons]; omega,fun x hx=>?_⟩
   rw [List.sum_cons]
   rcases List.mem_cons.1 hx with e | e
   ·omega
   ·have:=h2 x e; omega
 obtain ⟨h1,h2⟩:=hall p hp
 simp only [yR,yda,ht,Bool.and_eq_true,decide_eq_true_eq,List.all_eq_true,Bool.true_and]
 exact ⟨⟨⟨yF.2 ⟨hv,by omega⟩,hl⟩,fun x hx=>yF.2 ⟨hp x hx,by have:=h2 x hx; omega⟩⟩,decide_eq_true hs⟩
structure ReachF (r : Reach) : Prop where
 t : yaM r.Table = true
 v : 0 ≤ r.Volume
 l : r.Pipe.length ≤ 12
 p : ∀ x ∈ r.Pipe,0 ≤ x
 s : r.Volume + r.Pipe.sum ≤ 1000000000
 ps : 0 ≤ r.Pipe.sum
theorem yafE {r : Reach} (h : yR r = true) : ReachF r:=by
 have f:=ydd h
 simp only [yR,Bool.and_eq_true,decide_eq_true_eq] at h
 refine ⟨h.1.1.1.1,(yF.1 (show inRange r.Volume 0 1000000000 = true from f.vol)).1,f.len,fun x hx=>(yF.1 (show inRange x 0 1000000000 = true from f.amt x hx)).1,h.2,ykq f.amt⟩
theorem yafR {r : Reach} {q : Int} (h : yR r = true) (h0 : 0 ≤ q) (hq : q ≤ ybe r) : (ybp r q).has (yda r + q):=by
 have f:=yafE h
 have f1:=f.v; have f2:=f.s; have f3:=f.l; have f4:=f.ps
 have hsp : ybe r = 1000000000 - (r.Volume + r.Pipe.sum):=by unfold ybe; rw [if_pos h]; rfl
 have hc : yef r q = true:=by simp [yef,h,h0,hq]
 unfold ybp
 rw [if_pos hc]
 split
 ·refine ⟨yaeK f.t (by omega) f3 f.p (by omega),?_⟩
  simp only [yda]; omega
 ·rename_i hp
  obtain ⟨v,hv⟩ : ∃ v,r.Pipe[r.Pipe.length - 1]? = some v:=⟨_,List.getElem?_eq_getElem (by omega)⟩
  have hg : r.Pipe.getD (r.Pipe.length - 1) 0 = v:=by rw [List.getD_eq_getElem?_getD,hv]; rfl
  have hv0:=f.p v (List.mem_of_getElem? hv)
  have hs:=yagp (b:=v + q) hv
  rw [hg]
  refine ⟨yaeK f.t f1 (by simpa using f3) (fun x hx=>?_) (by omega),?_⟩
  ·rcases List.mem_or_eq_of_mem_set hx with e | e
   ·exact f.p x e
   ·omega
  ·simp only [yda]; omega
theorem yagm {r : Reach} (h : yR r = true) : (yaak r).has (yda r):=by
 have f:=yafE h
 have f1:=f.v; have f2:=f.s; have f3:=f.l; have f4:=f.ps; have f5:=f.p
 unfold yaak
 split
 ·obtain ⟨t,v,p⟩:=r
  cases p with
  | nil=>rename_i h2; simp at h2
  | cons a p =>
   have ha:=f5 a (by simp)
   have f1 : 0 ≤ v:=f1
   simp only [List.sum_cons] at f2
   have e : (List.tail (a :: p) ++ [0]).sum = p.sum:=by simp
   simp only [List.getD_eq_getElem?_getD,List.getElem?_cons_zero,Option.getD_some]
   refine ⟨yaeK f.t (by omega) (by simp at f3 ⊢; omega) (fun x hx=>?_) (by rw [e]; omega),?_⟩
   ·rcases List.mem_append.1 hx with e | e
    ·exact f5 x (by simp at e; simp [e])
    ·simp at e; omega
   ·simp only [yda,e,List.sum_cons]; omega
 ·exact ⟨h,rfl⟩
theorem yafL {r : Reach} {a k : Int} (h : yR r = true) : (yao r a k).1.has (yda r - (yao r a k).2) ∧ 0 ≤ (yao r a k).2:=by
 have f:=yafE h
 have f1:=f.v; have f2:=f.s; have f4:=f.ps
 unfold yao
 split
 ·rename_i hc
  simp only [ye1,Bool.and_eq_true,decide_eq_true_eq] at hc
  obtain ⟨n,hn⟩ : ∃ n,takeN r a k = n:=⟨_,rfl⟩
  have hn2 : 0 ≤ n ∧ n ≤ r.Volume:=by
   rw [← hn]; simp only [takeN]; (repeat' split) <;> omega
  rw [hn]
  refine ⟨⟨yaeK f.t (by omega) f.l f.p (by omega),?_⟩,hn2.1⟩
  simp only [yda]; omega
 ·exact ⟨⟨h,by simp⟩,by simp⟩
theorem yafY {r : Reach} {a k : Int} (h : 0 ≤ a) : (yao r a k).2 ≤ a:=by
 unfold yao
 split
 ·simp only [takeN]; (repeat' split) <;> omega
 ·exact h
theorem yags {a b : Reach} {q k : Int} (ha : yR a = true) (hb : yR b = true) : yR (ybK a b q k).1 = true ∧ yR (ybK a b q k).2.1 = true ∧ yda (ybK a b q k).1 + yda (ybK a b q k).2.1 = yda a + yda b:=by
 unfold ybK
 split
 ·rename_i hc
  simp only [ycL,Bool.and_eq_true,decide_eq_true_eq] at hc
  obtain ⟨t1,t2⟩:=yafL (a:=yg9 b q) (k:=k) ha
  have hsp:=yos b
  have hq : 0 ≤ yg9 b q ∧ yg9 b q ≤ ybe b:=by unfold yg9; split <;> omega
  have tm:=yafY (r:=a) (k:=k) hq.1
  have s1:=yafR hb t2 (by omega)
  refine ⟨t1.1,s1.1,?_⟩
  rw [t1.2,s1.2]; omega
 ·exact ⟨ha,hb,rfl⟩
theorem yagw {a b : Reach} {w : Weir} (ha : yR a = true) (hb : yR b = true) : yR (yau a b w).1 = true ∧ yR (yau a b w).2.1 = true ∧ yda (yau a b w).1 + yda (yau a b w).2.1 = yda a + yda b:=by
 unfold yau
 split
 ·exact yags ha hb
 ·exact ⟨ha,hb,rfl⟩
theorem yafQ {w : Weir} {o : Int} (h : yaH w = true) : yaH (ybU w o) = true:=by
 unfold ybU
 split
 ·rename_i hc
  simp only [Bool.and_eq_true] at hc
  have hr:=yF.1 hc.2
  have f:=ydY h
  have f2:=f.opn; have f3:=f.stp
  have hg : inRange (yn4 w o) 0 (10 * w.Gates) = true:=by
   refine yF.2 ?_
   simp only [yn4]; (repeat' split) <;> omega
  simp only [yaH,Bool.and_eq_true] at h ⊢
  exact ⟨⟨⟨⟨h.1.1.1.1,hg⟩,h.1.1.2⟩,h.1.2⟩,h.2⟩
 ·exact h
theorem yagi {w : Weir} {r : Rule} {u d q : Int} (h : yaH w = true) : yaH (ybb w r u d q) = true:=by
 unfold ybb
 split
 ·split
  ·exact yafQ h
  ·exact yafQ h
 ·exact h
theorem yagx {w : Work} {v : Weir} (h : ybd w = true) (hv : yaH v = true) : ybd (yhZ w v) = true:=by
 simp only [ybd,yhZ,Bool.and_eq_true] at h ⊢
 exact ⟨⟨⟨⟨⟨⟨h.1.1.1.1.1.1,hv⟩,h.1.1.1.1.2⟩,h.1.1.1.2⟩,h.1.1.2⟩,h.1.2⟩,h.2⟩
theorem yafb {α : Type} {p : α → Bool} {l : List α} {k : Nat} {b : α} (h : ∀ x ∈ l,p x = true) (hb : p b = true) : ∀ x ∈ l.set k b,p x = true:=by
 intro x hx
 rcases List.mem_or_eq_of_mem_set hx with e | e
 ·exact h x e
 ·rw [e]; exact hb
structure Steered (rs : List Reach) (ws : List Work) (s : List Reach × List Work) : Prop where
 r : ∀ r ∈ s.1,yR r = true
 w : ∀ w ∈ s.2,ybd w = true
 rs : river s.1 = river rs
 ws : (s.2.map yNH).sum = (ws.map yNH).sum
theorem yafP {q : Int} {rs : List Reach} {ws : List Work} (hr : ∀ r ∈ rs,yR r = true) (hw : ∀ w ∈ ws,ybd w = true) (hn : ws.length < rs.length) : ∀ k : Nat,k ≤ ws.length → Steered rs ws (yah q rs ws k)
 | 0,_=>⟨hr,hw,rfl,rfl⟩
 | k + 1,hk=>by
  obtain ⟨a,b,c,d⟩:=yafP (q:=q) hr hw hn k (by omega)
  obtain ⟨l1,l2⟩:=yeK (q:=q) (rs:=rs) (ws:=ws) k
  simp only [yah]
  generalize (yah q rs ws k).1 = rs' at *
  generalize (yah q rs ws k).2 = ws' at *
  have r1:=ykk (rs:=rs') (k:=k) (by omega)
  have r2:=ykk (rs:=rs') (k:=k + 1) (by omega)
  have w1:=ytH (ws:=ws') (k:=k) (by omega)
  have wk:=b _ (List.mem_of_getElem? w1)
  have wv:=wk
  simp only [ybd,Bool.and_eq_true] at wv
  obtain ⟨t1,t2,t3⟩:=yagw (w:=yc2 q rs' ws' k) (a _ (List.mem_of_getElem? r1)) (a _ (List.mem_of_getElem? r2))
  have h2 : (rs'.set k (through q rs' ws' k).1)[k + 1]? = some (dR rs' (k + 1)):=by rw [List.getElem?_set_ne (by omega)]; exact r2
  refine ⟨yafb (yafb a t1) t2,yafb b (yagx wk (yagi wv.1.1.1.1.1.2)),?_,?_⟩
  ·have e1:=yO2 (f:=yda) (b:=(through q rs' ws' k).1) r1
   have e2:=yO2 (f:=yda) (b:=(through q rs' ws' k).2.1) h2
   have t3 : yda (through q rs' ws' k).1 + yda (through q rs' ws' k).2.1 = yda (dR rs' k) + yda (dR rs' (k + 1)):=t3
   unfold river at c ⊢
   simp only
   omega
  ·have e1:=yO2 (f:=yNH) (b:=yhZ (dW ws' k) (yc2 q rs' ws' k)) w1
   have e3 : yNH (yhZ (dW ws' k) (yc2 q rs' ws' k)) = yNH (dW ws' k):=rfl
   simp only
   omega
structure Wet (x0 : Waterway) (q : Int) (k : Nat) (x : Waterway) : Prop where
 ok : yar x = true
 idle : Idle x
 kept : yNB x + x.Out = x.Start + x.In
 time : x.Time = k
 inn : x.In = k * q
 start : x.Start = x0.Start
 pas : x.Passings = []
 book : x.Book = []
 arr : x.Arrived = []
theorem yabL {x : Waterway} (h : yar x = true) : yNB x = river x.Reaches + (x.Works.map yNH).sum:=by
 unfold yNB yNz
 rw [if_pos h,if_pos (yqj h).river]
theorem yaeS {x : Waterway} (h : yar x = true) : 0 ≤ (x.Works.map yNH).sum:=by
 have hw:=(yqj h).rng
 have : ∀ l : List Work,(∀ w ∈ l,0 ≤ yNH w) → 0 ≤ (l.map yNH).sum:=by
  intro l
  induction l with
  | nil=>intro _; simp
  | cons a l ih =>
   intro h
   have h1:=h a (by simp)
   have h2:=ih fun w hw=>h w (by simp [hw])
   simp only [List.map_cons,List.sum_cons]; omega
 exact this _ fun w h=>(hw w h).1
theorem yafT {x : Waterway} {rs : List Reach} {ws : List Work} {t i o : Int} (h : yar x = true) (hl : rs.length = x.Reaches.length) (hl2 : ws.length = x.Works.length) (hr : ∀ r ∈ rs,yR r = true) (hrs : river rs ≤ 1000000000) (hw : ∀ w ∈ ws,ybd w = true) (ht : 0 ≤ t ∧ t ≤ 1000000) (hi : 0 ≤ i ∧ i ≤ 1000000000) (ho : 0 ≤ o ∧ o ≤ 1000000000) :
 yar ⟨t,rs,x.Ways,ws,x.Movers,x.Arrived,x.Entered,x.Tariff,x.Book,x.Passings,x.Start,i,o⟩ = true:=by
 simp only [yar,Bool.and_eq_true] at h ⊢
 obtain ⟨⟨⟨⟨⟨⟨⟨h1,h2⟩,h3⟩,h4⟩,h5⟩,h6⟩,h7⟩,h8⟩:=h
 refine ⟨⟨⟨⟨⟨⟨⟨yF.2 ht,?_⟩,?_⟩,h4⟩,h5⟩,h6⟩,yF.2 hi⟩,yF.2 ho⟩
 ·simp only [ybi,ycM,Bool.and_eq_true,decide_eq_true_eq,List.all_eq_true] at h2 ⊢
  rw [hl,hl2]
  obtain ⟨⟨⟨⟨⟨⟨⟨⟨⟨p0,p0'⟩,p1⟩,p1'⟩,p2⟩,p3⟩,p4⟩,p5⟩,p6⟩,p7⟩:=h2
  exact ⟨⟨⟨⟨⟨⟨⟨⟨⟨p0,p0'⟩,hr⟩,hrs⟩,p2⟩,p3⟩,p4⟩,p5⟩,p6⟩,hw⟩
 ·simp only [ybW] at h3 ⊢
  rw [hl2]
  exact h3
theorem yafm {rs : List Reach} (h : ∀ r ∈ rs,yR r = true) : 0 ≤ river rs:=by
 have:=(ygE (l:=rs) (k:=rs.length) (by rw [List.take_length]; exact h)).1
 rwa [yfa (Nat.le_refl _)] at this
theorem yafe : ∀ {rs : List Reach},(∀ r ∈ rs,yR r = true) → (∀ r ∈ rs.map yaak,yR r = true) ∧ river (rs.map yaak) = river rs
 | [],_=>⟨fun r h=>(by cases h),rfl⟩
 | r :: rs,h=>by
  obtain ⟨h1,h2⟩:=yafe (rs:=rs) fun r hr=>h r (by simp [hr])
  have h3:=yagm (h r (by simp))
  refine ⟨fun y hy=>?_,?_⟩
  ·rw [List.map_cons] at hy
   rcases List.mem_cons.1 hy with e | e
   ·rw [e]; exact h3.1
   ·exact h1 y e
  ·have h4:=h3.2
   unfold river at h2 ⊢
   simp only [List.map_cons,List.sum_cons]
   omega
theorem yage {x0 x : Waterway} {q : Int} {k : Nat} (h : Wet x0 q k x) (hs : x0.Start ≤ 1000000) (hq : 0 ≤ q ∧ q ≤ 320) (hk : k < 30) : Wet x0 q (k + 1) (yaah x q):=by
 have hok:=h.ok
 have wf:=yqj hok
 have rf:=ywm wf.river
 have we:=yabL hok
 have lp:=yaeS hok
 have h1:=h.kept; have h2:=h.time; have h3:=h.inn; have h4:=h.start
 have w1:=wf.out
 have hkq:=yl3 (a:=(k : Int)) (b:=q) (A:=30) (B:=320) (by omega) (by omega)
 have hin : yabS x q = true:=by simp [yabS]; omega
 have hc : yaaF x q = true:=by simp [yaaF,hok]; omega
 obtain ⟨r,l,hrl⟩:=yafx hok
 have hrv : river x.Reaches = yda r + river l:=by rw [hrl]; simp [river]
 have hlp:=yafm (rs:=l) fun r hr=>rf.ok r (by rw [hrl]; simp [hr])
 have hro:=rf.ok r (by rw [hrl]; simp)
 have hsp : ybe r = 1000000000 - yda r:=by unfold ybe; rw [if_pos hro]
 have hsend:=yafR hro hq.1 (by omega)
 have hall : ∀ y ∈ ybp r q :: l,yR y = true:=by
  intro y hy
  rcases List.mem_cons.1 hy with e | e
  ·rw [e]; exact hsend.1
  ·exact rf.ok y (by rw [hrl]; simp [e])
 obtain ⟨f1,f2⟩:=yafe hall
 have f3 : river (ybp r q :: l) = river x.Reaches + q:=by
  have:=hsend.2
  rw [hrv]; unfold river; simp only [List.map_cons,List.sum_cons]; omega
 have e : yaah x q = ⟨x.Time + 1,(ybp r q :: l).map yaak,x.Ways,x.Works,x.Movers,x.Arrived,x.Entered,x.Tariff,x.Book,x.Passings,x.Start,x.In + q,x.Out⟩:=by
  unfold yaah
  rw [if_pos hc,if_pos hin]
  simp [yaau,hin,hrl,sent]
 have hnew:=yafT (t:=x.Time + 1) (i:=x.In + q) (o:=x.Out) hok (rs:=(ybp r q :: l).map yaak) (ws:=x.Works) (by rw [hrl]; simp) rfl f1 (by omega) (fun w hw=>by
  have hh:=hok
  simp only [yar,ybi,Bool.and_eq_true,List.all_eq_true] at hh
  exact hh.1.1.1.1.1.1.2.2 w hw) (by omega) (by omega) w1
 rw [e]
 refine ⟨hnew,⟨h.idle.mv,h.idle.wk⟩,?_,?_,?_,h4,h.pas,h.book,h.arr⟩
 ·rw [yabL hnew]
  simp only
  omega
 ·simp only; omega
 ·have : ((k + 1 : Nat) : Int) * q = k * q + q:=by push_cast; rw [Int.add_mul,Int.one_mul]
  simp only; omega
theorem yafV {x0 x : Waterway} {q : Int} {k : Nat} (h : Wet x0 q k x) (hs : x0.Start ≤ 1000000) (hq : 0 ≤ q ∧ q ≤ 320) (hk : k ≤ 30) : Wet x0 q k (yaW x q):=by
 have hok:=h.ok
 have wf:=yqj hok
 have rf:=ywm wf.river
 have we:=yabL hok
 have lp:=yaeS hok
 have pl:=yln hok
 have p1:=pl.two; have p2:=pl.wks
 have h1:=h.kept; have h2:=h.time; have h3:=h.inn; have h4:=h.start
 have w1:=wf.out; have w2:=wf.inn; have w3:=wf.start
 have hkq:=yl3 (a:=(k : Int)) (b:=q) (A:=30) (B:=320) (by omega) (by omega)
 have hc : ycg x q = true:=by
  simp only [ycg,hok,Bool.true_and]
  exact yF.2 (by omega)
 have hwk : ∀ w ∈ x.Works,ybd w = true:=by
  have hh:=hok
  simp only [yar,ybi,Bool.and_eq_true,List.all_eq_true] at hh
  exact hh.1.1.1.1.1.1.2.2
 have S:=yafP (q:=q) rf.ok hwk (by omega) _ (Nat.le_refl _)
 obtain ⟨l1,l2⟩:=yeK (q:=q) (rs:=x.Reaches) (ws:=x.Works) x.Works.length
 have S : Steered x.Reaches x.Works (stR x q,stW x q):=S
 have l1 : (stR x q).length = x.Reaches.length:=l1
 have l2 : (stW x q).length = x.Works.length:=l2
 have I:=yaby (q:=q) h.idle
 have e : yaW x q = ⟨x.Time,(stR x q).set (x.Reaches.length - 1) (ysP (stR x q) (stW x q) x.Ways (x.Reaches.length - 1)).1,x.Ways,stW x q,x.Movers,x.Arrived,x.Entered,x.Tariff,x.Book,x.Passings,x.Start,x.In,x.Out + (ysP (stR x q) (stW x q) x.Ways (x.Reaches.length - 1)).2⟩:=by simp [yaW,hc]
 rw [e] at I ⊢
 generalize stR x q = rs at *
 generalize stW x q = ws at *
 have d1:=ykk (rs:=rs) (k:=x.Reaches.length - 1) (by omega)
 have hto : (ysP rs ws x.Ways (x.Reaches.length - 1)).1.has (yda (dR rs (x.Reaches.length - 1)) - (ysP rs ws x.Ways (x.Reaches.length - 1)).2) ∧ 0 ≤ (ysP rs ws x.Ways (x.Reaches.length - 1)).2:=yafL (S.r _ (List.mem_of_getElem? d1))
 have hsum:=yO2 (f:=yda) (b:=(ysP rs ws x.Ways (x.Reaches.length - 1)).1) d1
 generalize ysP rs ws x.Ways (x.Reaches.length - 1) = z at *
 obtain ⟨⟨z1,z2⟩,z3⟩:=hto
 have S3:=S.rs
 have S4:=S.ws
 have ha:=yafb (k:=x.Reaches.length - 1) S.r z1
 have hp:=yafm ha
 have hriv : river (rs.set (x.Reaches.length - 1) z.1) = river x.Reaches - z.2:=by
  simp only at S3
  unfold river at S3 ⊢
  omega
 simp only at S4 hp
 have hnew:=yafT (t:=x.Time) (i:=x.In) (o:=x.Out + z.2) hok (rs:=rs.set (x.Reaches.length - 1) z.1) (ws:=ws) (by simpa using l1) l2 ha (by omega) S.w (by omega) w2 (by omega)
 refine ⟨hnew,I,?_,h2,h3,h4,h.pas,h.book,h.arr⟩
 rw [yabL hnew]
 simp only
 omega
theorem yagg {x0 x : Waterway} {q : Int} {k : Nat} (h : Wet x0 q k x) (hs : x0.Start ≤ 1000000) (hq : 0 ≤ q ∧ q ≤ 320) (hk : k < 30) : Wet x0 q (k + 1) (yaaW x q):=by
 have h2:=h.time
 have hc : yaaV x q = true:=by
  have t : inRange q 0 1000000000 = true:=yF.2 (by omega)
  simp [yaaV,h.ok,t]; omega
 unfold yaaW
 rw [if_pos hc]
 exact yafV (yage h hs hq hk) hs hq hk
theorem yafN {x0 : Waterway} {q : Int} (h : Wet x0 q 0 x0) (hs : x0.Start ≤ 1000000) (hq : 0 ≤ q ∧ q ≤ 320) : ∀ k : Nat,k ≤ 30 → Wet x0 q k (RunW x0 q k)
 | 0,_=>h
 | k + 1,hk=>yagg (yafN h hs hq k (by omega)) hs hq (by omega)
theorem yafd {x0 x : Waterway} {q : Int} {k : Nat} (h : Wet x0 q k x) : yUs x = []:=by
 have e1 : x.Movers.flatMap yUt = []:=by
  rw [List.flatMap_eq_nil_iff]
  intro l hl
  rw [h.idle.mv l hl]; rfl
 have e2 : x.Works.flatMap yUA = []:=by
  rw [List.flatMap_eq_nil_iff]
  intro w hw
  obtain ⟨c1,c2,_⟩:=h.idle.wk w hw
  simp [yUA,c1,c2]
 unfold yUs
 rw [e1,e2,h.arr]; rfl
theorem yagc {x0 x : Waterway} {q : Int} {k : Nat} (h : Wet x0 q k x) : yVD x = true ∧ x.Out ≤ x.Start + x.In:=by
 have h1:=h.kept
 have we:=yabL h.ok
 have lp:=yaeS h.ok
 have rp:=(ywm (yqj h.ok).river).rng
 refine ⟨?_,by omega⟩
 unfold yVD
 rw [h.ok]; simp [h1]
theorem yacY (t : List Point) (level delay : Int) (hl : t.length ≤ 1048576) : yB Tryz.prog 37 [.c (.sl 2 (t.map Point.enc)),.c (.i level),.c (.i delay)] (.tup [.agg ((yaaa t level delay).1.enc.map .c),.c (.b (yaaa t level delay).2)]) :=
 (yacU t level delay hl).pure (by simp [AV.shr,AV.yAK,AV.ysI,ybQ,C.shr])
theorem yadg {code : List UInt8} {n : Nat} {p : Nat × Int} {k : Nat} (h : k + 1 = n) : yZ4 code n p (k + 1) = ⟨rcP4 code (yZ4 code n p k).p,(yZ4 code n p k).R ++ [yaaB code (40 * (n - k : Int)) (yZ4 code n p k).p],(yZ4 code n p k).W ++ [wayV code (40 * (n - k : Int)) (yZ4 code n p k).p],(yZ4 code n p k).K⟩:=by
 conv=>lhs; unfold yZ4
 rw [if_pos h]
theorem yadi {code : List UInt8} {n : Nat} {p : Nat × Int} {k : Nat} (h : ¬ k + 1 = n) : yZ4 code n p (k + 1) = ⟨wkN code (yZ4 code n p k).p,(yZ4 code n p k).R ++ [yaaB code (40 * (n - k : Int)) (yZ4 code n p k).p],(yZ4 code n p k).W ++ [wayV code (40 * (n - k : Int)) (yZ4 code n p k).p],(yZ4 code n p k).K ++ [yaam code (40 * (n - k : Int)) (yZ4 code n p k).p]⟩:=by
 conv=>lhs; unfold yZ4
 rw [if_neg h]
theorem yacN : ∀ {a b a' b' : List (List C)},ykv a = some a' → ykv b = some b' → ykv (a ++ b) = some (a' ++ b')
 | [],b,a',b',h1,h2=>by simp only [ykv] at h1; cases h1; exact h2
 | x :: a,b,a',b',h1,h2=>by
  simp only [List.cons_append,ykv] at h1 ⊢
  cases hx : ybQ x with
  | none=>rw [hx] at h1; cases h1
  | some y =>
   cases hl : ykv a with
   | none=>rw [hx,hl] at h1; cases h1
   | some r =>
    rw [hx,hl] at h1
    cases h1
    rw [yacN hl h2]
    rfl
theorem yach (K : List Work) : ykv (K.map Work.enc) = some (K.map Work.enc):=by
 have h:=yag (f:=Work.enc) (g:=Work.enc) (fun w=>by simp [ybQ,C.shr]) K
 exact h
set_option maxRecDepth 20000 in
theorem yadX (code : List UInt8) (p : Nat × Int) (hp : p.1 ≤ code.length) : yZB Tryz.prog 17 (yYK code p) (yYK code (newN code p)) [] (.agg ((newV code p).enc.map .c)):=by
 obtain ⟨hK,hn2,hn4⟩:=yacs code p
 have h3:=yYw (code:=code) (n:=3) (p:=p) (by omega)
 obtain ⟨_,s1,s2,s3⟩:=yabM code p
 have q0 : (yYs code 3 p).1 ≤ code.length:=yYt hp
 have eN : newN code p = tarN code (newD code p).p:=rfl
 have eV : newV code p = (yNy (newD code p).R (newD code p).W (newD code p).K (tarV code (newD code p).p)).1:=rfl
 have eD : newD code p = yZ4 code (newK code p) (yYs code 3 p) (newK code p):=rfl
 rw [eN,eV]
 refine yZh yacd (by simp) fun hwf hwf2=>?_
 simp -dsimp -implicitDefEqProofs
 refine yYx (yYB code 3 p hp (by omega) (by omega)) (by simp ) (by simp) rfl (by simp [yU]) ?_
 simp -dsimp -implicitDefEqProofs
 refine ⟨by unfold inI; omega,?_⟩
 rw [← hK]
 rw [eD] at s1 s2 s3 ⊢
 clear eN eV eD hK
 generalize newK code p = n at *
 generalize yYs code 3 p = qq at *
 refine yg (ι:=Nat) (fun k=>k < n) (fun k=>yO [(0,.box 0 0),(1000000,.box 0 0),(2,.box 2 0),(3,.c (.i n)),(4,.own 19 3 (yZ4 code n qq k).R.length),(5,.own 20 2 (yZ4 code n qq k).W.length),(6,.own 21 22 (yZ4 code n qq k).K.length),(7,.c (.i k))] [(0,.box ((yYK code (yZ4 code n qq k).p).map .c)),(2,.box [.c (.i 0),.nil 3,.nil 2,.nil 22,.nil 1,.nil 2,.nil 1,.c (.i 0),.c (.i 0),.nil 1,.nil 1,.nil 5,.nil 4,.c (.i 0),.c (.i 0),.c (.i 0)]),(19,.row 3 ((yZ4 code n qq k).R.map Reach.enc)),(20,.row 2 ((yZ4 code n qq k).W.map Way.enc)),(21,.tr 22 0 ((yZ4 code n qq k).K.map Work.enc))]) (fun k=>n - k) 0 (by show 0 < n; omega) (by apply yj <;> simp [yZ4]) ?_
 rintro k hk
 have hk' : k < n:=hk
 have hq:=yabP (n:=n) q0 k
 have hln:=yacf (code:=code) (n:=n) (p:=qq) k (by omega)
 have hlast:=yadg (code:=code) (n:=n) (p:=qq) (k:=k)
 have hnext:=yadi (code:=code) (n:=n) (p:=qq) (k:=k)
 generalize hQ : yZ4 code n qq k = Q at *
 obtain ⟨q,R,W,K⟩:=Q
 simp only at hq hln hlast hnext ⊢
 obtain ⟨l1,l2,l3,_⟩:=hln
 have l3:=l3 hk'
 obtain ⟨bed,hbed⟩ : ∃ b : Int,b = 40 * ((n : Int) - k):=⟨_,rfl⟩
 rw [← hbed] at hlast hnext
 have hb : 40 ≤ bed ∧ bed ≤ 160:=by omega
 have v1:=yYw (code:=code) (n:=9) (p:=q) (by omega)
 have v2:=yYw (code:=code) (n:=30) (p:=rcP1 code q) (by omega)
 have v3:=yYw (code:=code) (n:=3) (p:=rcP2 code q) (by omega)
 have v4:=yaet (code:=code) (p:=rcP3 code q)
 have w1:=yZ5 code wayL (rcP3 code q) (yadt hq) (by simp [wayL]) (by simp [wayL])
 have y1 : wayL.map yJ = [[.i 8],[.i 20],[.i 40]]:=rfl
 have hNR:=yacY (yaai bed (6000 + 600 * yYv code 9 q)) (bed + 25 + yYv code 30 (rcP1 code q)) (yYv code 3 (rcP2 code q)) (by simp [yaai])
 have hrT : (yaai bed (6000 + 600 * yYv code 9 q)).map Point.enc = [[.i bed,.i 0],[.i (bed + 60),.i (6000 + 600 * yYv code 9 q)],[.i (bed + 90),.i 20000]]:=rfl
 rw [hrT] at hNR
 have eR : yaaB code bed q = (yaaa (yaai bed (6000 + 600 * yYv code 9 q)) (bed + 25 + yYv code 30 (rcP1 code q)) (yYv code 3 (rcP2 code q))).1:=rfl
 have eW : wayV code bed q = ⟨yZ6 code wayL (rcP3 code q),bed⟩:=rfl
 simp -dsimp -implicitDefEqProofs [yG hk',hk',← hbed]
 refine ⟨by unfold inI; omega,by unfold inI; omega,by unfold inI; omega,?_⟩
 refine yYx (yYB code 9 q hq (by omega) (by omega)) (by simp ) (by simp) rfl (by simp [yU]) ?_
 simp -dsimp -implicitDefEqProofs
 refine ⟨by unfold inI; omega,by unfold inI; omega,by unfold inI; omega,by unfold inI; omega,?_⟩
 refine yYx (yYB code 30 (rcP1 code q) (yado hq) (by omega) (by omega)) (by simp [rcP1]) (by simp) rfl (by simp [yU]) ?_
 simp -dsimp -implicitDefEqProofs
 refine ⟨by unfold inI; omega,?_⟩
 refine yYx (yYB code 3 (rcP2 code q) (yadu hq) (by omega) (by omega)) (by simp [rcP2]) (by simp) rfl (by simp [yU]) ?_
 simp -dsimp -implicitDefEqProofs
 refine yUj [44] hNR (by simp -dsimp -implicitDefEqProofs) rfl ?_
 rw [← eR]
 generalize yaaB code bed q = r at *
 generalize (yaaa (yaai bed (6000 + 600 * yYv code 9 q)) (bed + 25 + yYv code 30 (rcP1 code q)) (yYv code 3 (rcP2 code q))).2 = rb at *
 simp -dsimp -implicitDefEqProofs
 refine ⟨by omega,?_⟩
 refine yaaf (rows:=[[.i 8],[.i 20],[.i 40]]) (by simpa [y1] using w1) (by simp [rcP3]) (by simp) rfl ?_
 simp -dsimp -implicitDefEqProofs
 refine ⟨by omega,by unfold inI; omega,fun hend=>?_,fun hgo=>?_⟩
 ·have hkn : k + 1 = n:=by omega
  have hL : yZ4 code n qq n = _:=(congrArg (yZ4 code n qq) hkn.symm).trans (hlast hkn)
  rw [hL] at s1 s2 s3 ⊢
  clear hlast hnext hL
  simp only at s1 s2 s3 ⊢
  refine yYx (yacL code (rcP4 code q) (yabG hq)) (by simp [rcP4]) (by simp) rfl (by simp [yU]) ?_
  simp -dsimp -implicitDefEqProofs
  have hNW:=yN1 (R ++ [r]) (W ++ [wayV code bed q]) K (tarV code (rcP4 code q)) s1 s2 s3 (yadj code (rcP4 code q)).2.1
  generalize yNy (R ++ [r]) (W ++ [wayV code bed q]) K (tarV code (rcP4 code q)) = X at *
  refine yUj [19,20,21,30137,40137] hNW (by simp -dsimp -implicitDefEqProofs [yt,eW,yach]; exact ⟨(List.take_of_length_le (by simp)).symm,(List.take_of_length_le (by simp)).symm⟩) rfl ?_
  simp -dsimp -implicitDefEqProofs
 ·have hnx:=hnext (by omega)
  have b1:=yZ5 code chlL (rcP4 code q) (yabG hq) (by simp [chlL]) (by simp [chlL])
  have b2:=yZ5 code chwL (wkP1 code q) (yadw hq) (by simp [chwL]) (by simp [chwL])
  have b4:=yZ5 code yaaE (wkP3 code q) (yadn hq) (by simp [yaaE]) (by simp [yaaE])
  have b6:=yZ5 code watL (wkP5 code q) (yadq hq) (by simp [watL]) (by simp [watL])
  have f1 : chlL.map yJ = [[.i 60],[.i 120]]:=rfl
  have f2 : chwL.map yJ = [[.i 10],[.i 16]]:=rfl
  have f4 : yaaE.map yJ = [[.i 60],[.i 300],[.i 2000]]:=rfl
  have f6 : watL.map yJ = [[.i 10],[.i 30],[.i 70]]:=rfl
  rw [f1] at b1
  rw [f2] at b2
  rw [f4] at b4
  rw [f6] at b6
  have r3:=yYw (code:=code) (n:=8) (p:=wkP2 code q) (by omega)
  have r5:=yYw (code:=code) (n:=2) (p:=wkP4 code q) (by omega)
  have r6:=yadN (code:=code) (p:=wkP5 code q)
  have r7:=yYw (code:=code) (n:=9) (p:=wkP6 code q) (by omega)
  have r8:=yYw (code:=code) (n:=5) (p:=wkP7 code q) (by omega)
  have r9:=yYw (code:=code) (n:=20) (p:=wkP8 code q) (by omega)
  have hwat:=yacj (a:=1 + yYv code 8 (wkP2 code q)) (by omega) r6
  refine yaaf (rows:=[[.i 60],[.i 120]]) (by simpa using b1) (by simp [rcP4]) (by simp) rfl ?_
  simp -dsimp -implicitDefEqProofs
  refine yaaf (rows:=[[.i 10],[.i 16]]) (by simpa using b2) (by simp [wkP1]) (by simp) rfl ?_
  simp -dsimp -implicitDefEqProofs
  refine ⟨by unfold inI; omega,?_⟩
  refine yYx (yYB code 8 (wkP2 code q) (yady hq) (by omega) (by omega)) (by simp [wkP2]) (by simp) rfl (by simp [yU]) ?_
  simp -dsimp -implicitDefEqProofs
  refine ⟨by unfold inI; omega,?_⟩
  refine yaaf (rows:=[[.i 60],[.i 300],[.i 2000]]) (by simpa using b4) (by simp [wkP3]) (by simp) rfl ?_
  simp -dsimp -implicitDefEqProofs
  refine yYx (yYB code 2 (wkP4 code q) (yadx hq) (by omega) (by omega)) (by simp [wkP4]) (by simp) rfl (by simp [yU]) ?_
  simp -dsimp -implicitDefEqProofs
  have hg : CurG Tryz.prog 38 (yYK code (wkP5 code q)) (yYK code (yaac code watL (wkP5 code q))) 1 ([[C.i 10],[C.i 30],[C.i 70]].take 3) (.c (.i (yZ6 code watL (wkP5 code q)))):=b6
  refine yabi (id:=0) (id1:=94) hg (by simp) (by simp) (by simp [wkP5]) (by simp) rfl ?_
  simp -dsimp -implicitDefEqProofs
  have hpz:=yacP code (wkP9 code q) (yadl hq)
  refine ⟨by unfold inI; omega,by unfold inI; omega,by unfold inI; omega,by unfold inI; omega,?_⟩
  refine yabg (id:=0) (yYB code 9 (wkP6 code q) (yads hq) (by omega) (by omega)) (by simp) (by simp [wkP6]) (fun _=>by simp) rfl rfl rfl ?_
  simp -dsimp -implicitDefEqProofs
  refine yabg (id:=0) (yYB code 5 (wkP7 code q) (yadm hq) (by omega) (by omega)) (by simp) (by simp [wkP7]) (fun _=>by simp) rfl rfl rfl ?_
  simp -dsimp -implicitDefEqProofs
  refine ⟨by unfold inI; omega,by unfold inI; omega,?_⟩
  refine yabg (id:=0) (yYB code 20 (wkP8 code q) (yadk hq) (by omega) (by omega)) (by simp) (by simp [wkP8]) (fun _=>by simp) rfl rfl rfl ?_
  simp -dsimp -implicitDefEqProofs
  refine ⟨by unfold inI; omega,?_⟩
  refine yabg (id:=0) hpz (by simp) (by simp [wkP9]) (fun _=>by simp) rfl rfl rfl ?_
  simp -dsimp -implicitDefEqProofs
  have eP : wkN code q = (yZ7 code (wkP9 code q)).1:=rfl
  have eV : yaaA code (wkP9 code q) = if ycD (yZ7 code (wkP9 code q)).2 then (yZ7 code (wkP9 code q)).2 else []:=rfl
  have eK : yaam code bed q = ⟨yabU code bed q,yacS code bed q,⟨bed + 20,bed + 45,bed + 70⟩,yaaA code (wkP9 code q),⟨false,0⟩,[]⟩:=rfl
  have eL : yabU code bed q = ⟨yZ6 code chlL (rcP4 code q),yZ6 code chwL (wkP1 code q),bed,bed - 40,bed - 40,1 + yYv code 8 (wkP2 code q),yZ6 code yaaE (wkP3 code q),(1 + yYv code 8 (wkP2 code q)) * yZ6 code watL (wkP5 code q),0,[]⟩:=rfl
  have eX : yacS code bed q = ⟨2,yYv code 9 (wkP6 code q),1 + yYv code 5 (wkP7 code q),bed + 10,1 + yYv code 20 (wkP8 code q)⟩:=rfl
  refine yaQ (yrd (yZ7 code (wkP9 code q)).2) (by simp -dsimp -implicitDefEqProofs) rfl ?_
  cases hpo : ycD (yZ7 code (wkP9 code q)).2 with
  | false =>
   rw [hpo] at eV
   simp -dsimp -implicitDefEqProofs
   refine ⟨by omega,by unfold inI; omega,k + 1,by omega,by omega,?_⟩
   have hgs : ykv (K.map Work.enc ++ [[.i (yZ6 code chlL (rcP4 code q)),.i (yZ6 code chwL (wkP1 code q)),.i bed,.i (bed - 40),.i (bed - 40),.i (1 + yYv code 8 (wkP2 code q)),.i (yZ6 code yaaE (wkP3 code q)),.i ((1 + yYv code 8 (wkP2 code q)) * yZ6 code watL (wkP5 code q)),.i 0,.sl 2 [],.i 2,.i (yYv code 9 (wkP6 code q)),.i (1 + yYv code 5 (wkP7 code q)),.i (bed + 10),.i (1 + yYv code 20 (wkP8 code q)),.i (bed + 20),.i (bed + 45),.i (bed + 70),.ow 2 [],.b false,.i 0,.sl 4 []]]) = some (K.map Work.enc ++ [(yaam code bed q).enc]) :=
    yacN (yach K) (by simp [ykv,ybQ,C.shr,eV,eK,eL,eX])
   refine yQa 21 (k:=22) (v:=0) (by simp) hgs ?_
   apply yj <;> simp [hnx,eP,eV,eK,eL,eX,eW]
  | true =>
   rw [hpo] at eV
   simp -dsimp -implicitDefEqProofs
   refine ⟨by omega,by unfold inI; omega,k + 1,by omega,by omega,?_⟩
   apply yj <;> simp [hnx,eP,eV,eK,eL,eX,eW]
theorem yacZ (code : List UInt8) (id : Int) (p : Nat × Int) (hp : p.1 ≤ code.length) (hid : 0 ≤ id ∧ id ≤ 1000000) : yZB Tryz.prog 19 (yYK code p) (yYK code (yabm code id p)) [.c (.i id)] (.agg ((yaad code id p).enc.map .c)):=by
 have hsh : ykv ((yaad code id p).Rows.map eoB) = some ((yaad code id p).Rows.map yai):=yag (fun r=>by simp [eoB,ybQ,C.shr,yai]) _
 exact (yadb code id p hp hid).share (by simp [AV.shr,AV.ysI,ybQ,C.shr,hsh]) (fun l h=>by cases h)
theorem yacX {code : List UInt8} {id : Int} {p : Nat × Int} (h : p.1 ≤ code.length) : (yabm code id p).1 ≤ code.length:=yaaT (yYt (yYt h)) _
def dtP (code : List UInt8) (n : Nat) (p : Nat × Int) : Nat → Nat × Int
 | 0=>p
 | j + 1=>yabm code (10 * (n - j : Nat)) (dtP code n p j)
def dtS (code : List UInt8) (n : Nat) (p : Nat × Int) : Nat → List Train
 | 0=>[]
 | j + 1=>dtS code n p j ++ [yaad code (10 * (n - j : Nat)) (dtP code n p j)]
theorem yaei {code : List UInt8} {n : Nat} {p : Nat × Int} (h : p.1 ≤ code.length) : ∀ j : Nat,(dtP code n p j).1 ≤ code.length
 | 0=>h
 | j + 1=>yacX (yaei h j)
theorem yabF {code : List UInt8} {n : Nat} {p : Nat × Int} : ∀ j : Nat,(dtS code n p j).length = j
 | 0=>rfl
 | j + 1=>by simp [dtS,yabF j]
def dwX (code : List UInt8) : Waterway:=newV code (0,hash code)
def dwP (code : List UInt8) : Nat × Int:=newN code (0,hash code)
def dwK (code : List UInt8) : Nat:=(yYv code 9 (dwP code)).toNat
def dwT (code : List UInt8) : List Train:=dtS code (dwK code) (yYs code 9 (dwP code)) (dwK code)
theorem yadY (code : List UInt8) : (dwK code : Int) = yYv code 9 (dwP code) ∧ dwK code ≤ 8:=by
 have h:=yYw (code:=code) (n:=9) (p:=dwP code) (by omega)
 unfold dwK; omega
theorem yaek {code : List UInt8} {p : Nat × Int} (h : p.1 ≤ code.length) : (newN code p).1 ≤ code.length:=yabJ (yYt (yYt (yYt (yYt (yYt (yaeq h)))))) _
set_option maxRecDepth 4000 in
theorem yabN (code : List UInt8) (hl : code.length ≤ 1048576) : yB Tryz.prog 6 [.c (.sl 1 (code.map yvZ))] (.tup [.agg ((dwX code).enc.map .c),.c (.sl 2 ((dwT code).map Train.enc))]):=by
 refine yh yaaL ?_
 have hpl : (∀ x,x ∈ yYK code (0,hash code) → x.plain = true) = True:=by simp [yYK,C.plain]
 have hK:=yadY code
 have hq0 : (dwP code).1 ≤ code.length:=yaek (by simp)
 have hnew:=yadX code (0,hash code) (by simp)
 have eX : newV code (0,hash code) = dwX code:=rfl
 have eP : newN code (0,hash code) = dwP code:=rfl
 have eT : dwT code = dtS code (dwK code) (yYs code 9 (dwP code)) (dwK code):=rfl
 rw [eX,eP] at hnew
 rw [eT]
 generalize dwX code = x at *
 simp -dsimp -implicitDefEqProofs
 refine yjo (yZD code hl) (by simp) rfl (by simp [yU,hpl]) ?_
 simp -dsimp -implicitDefEqProofs [hpl]
 refine yYx hnew (by simp [hpl]) (by simp) rfl (by simp [yU]) ?_
 simp -dsimp -implicitDefEqProofs [hpl]
 refine yYx (yYB code 9 (dwP code) hq0 (by omega) (by omega)) (by simp) (by simp) rfl (by simp [yU]) ?_
 simp -dsimp -implicitDefEqProofs
 rw [← hK.1]
 have q9 : (yYs code 9 (dwP code)).1 ≤ code.length:=yYt hq0
 have hn8:=hK.2
 clear hK eT eX eP hnew
 generalize dwK code = n at *
 generalize yYs code 9 (dwP code) = qq at *
 refine yg (ι:=Nat) (fun j=>j ≤ n) (fun j=>yO [(2,.box 2 0),(4,.box 9 0),(5,.box 5 0),(6,.own 12 2 j),(7,.c (.i (n - j)))] [(2,.box [.c (.i 0),.nil 3,.nil 2,.nil 22,.nil 1,.nil 2,.nil 1,.c (.i 0),.c (.i 0),.nil 1,.nil 1,.nil 5,.nil 4,.c (.i 0),.c (.i 0),.c (.i 0)]),(5,.box (x.enc.map .c)),(9,.box ((yYK code (dtP code n qq j)).map .c)),(12,.row 2 ((dtS code n qq j).map Train.enc))]) (fun j=>n - j) 0 (by simp) (by apply yj <;> simp [dtP,dtS,hpl]) ?_
 rintro j hj
 have hq:=yaei (n:=n) q9 j
 have hlen:=yabF (code:=code) (n:=n) (p:=qq) j
 have hp1 : dtP code n qq (j + 1) = yabm code (10 * (n - j : Nat)) (dtP code n qq j):=rfl
 have hs1 : dtS code n qq (j + 1) = dtS code n qq j ++ [yaad code (10 * (n - j : Nat)) (dtP code n qq j)]:=rfl
 rcases Nat.lt_or_ge j n with hlt | hge
 ·have hgt : (0 < (n : Int) - (j : Int)) = True:=eq_true (by omega)
  have hid : (10 : Int) * ((n : Int) - (j : Int)) = 10 * (n - j : Nat):=by omega
  have htr:=yacZ code (10 * (n - j : Nat)) (dtP code n qq j) hq (by omega)
  generalize dtP code n qq j = q at *
  generalize dtS code n qq j = ts at *
  generalize yaad code (10 * (n - j : Nat)) q = t at *
  simp -dsimp -implicitDefEqProofs [hgt]
  refine ⟨fun _=>?_,fun h=>by omega⟩
  rw [hid]
  refine ⟨by unfold inI; omega,?_⟩
  refine yYx htr (by simp) (by simp) rfl (by simp [yU]) ?_
  simp -dsimp -implicitDefEqProofs
  refine ⟨hlen.symm,by omega,by unfold inI; omega,j + 1,by omega,by omega,?_⟩
  apply yj <;> simp [hp1,hs1] <;> omega
 ·have hgt : (0 < (n : Int) - (j : Int)) = False:=eq_false (by omega)
  have : j = n:=by omega
  subst this
  generalize dtS code j qq j = ts at *
  simp -dsimp -implicitDefEqProofs [hgt]
  rw [List.take_of_length_le (by simp; omega)]
theorem yZI {x : List Nat} (h : (C.sl 1 (x.map yZn)).WF) : ∃ code : List UInt8,x.map yZn = code.map yvZ:=by
 simp only [C.WF] at h
 refine ⟨x.map fun n=>UInt8.ofNat n,?_⟩
 rw [List.map_map]
 apply List.map_congr_left
 intro n hn
 have h1:=(h.2 _ (List.mem_map_of_mem hn)).2 (.u n) (by simp [yZn])
 simp only [C.WF] at h1
 simp [yZn,yvZ,Nat.mod_eq_of_lt h1]
theorem big_c (code : List UInt8) : yB Tryz.prog 5 [.c (.sl 1 (code.map yvZ))] (.c (.b (decide (1048576 < code.length)))):=by
 refine yh yZq ?_
 simp -dsimp -implicitDefEqProofs
 intro _
 omega
def atV (code : List UInt8) (i : Nat) : Int:=if code.length = 0 then 0 else (code[(i * 5 + 1) % code.length]?.map fun b=>(b.toNat : Int)).getD 0
theorem yago (code : List UInt8) (i : Nat) : 0 ≤ atV code i ∧ atV code i ≤ 255:=by
 unfold atV
 split
 ·omega
 ·cases h : code[(i * 5 + 1) % code.length]? with
  | none=>simp
  | some b=>have:=yZQ b; simp; omega
theorem at_c (code : List UInt8) (i : Nat) (hi : i ≤ 1000) : yB Tryz.prog 12 [.c (.sl 1 (code.map yvZ)),.c (.i i)] (.c (.i (atV code i))):=by
 refine yh yafW ?_
 cases code with
 | nil=>simp -dsimp -implicitDefEqProofs [yaeT]; simp [atV]
 | cons b0 l =>
  obtain ⟨cs,hcs⟩ : ∃ cs,cs = b0 :: l:=⟨_,rfl⟩
  have hl : 0 < cs.length:=by rw [hcs]; simp
  rw [← hcs]
  obtain ⟨j,hj⟩ : ∃ j,j = (i * 5 + 1) % cs.length:=⟨_,rfl⟩
  have hjl : j < cs.length:=by rw [hj]; exact Nat.mod_lt _ hl
  obtain ⟨b,hb⟩ : ∃ b,cs[j]? = some b:=⟨_,List.getElem?_eq_getElem hjl⟩
  have gb:=(List.getElem?_eq_some_iff.1 hb).2
  have h8:=yZQ b
  have hv : atV cs i = b.toNat:=by unfold atV; rw [if_neg (by omega),← hj,hb]; rfl
  have hji : ((i : Int) * 5 + 1).tmod cs.length = (j : Int):=by
   rw [hj,Int.tmod_eq_emod_of_nonneg (by omega),Int.natCast_emod]; simp
  have hne : (cs = []) = False:=by simp only [eq_iff_iff,iff_false]; intro h; rw [h] at hl; simp at hl
  have hne0 : (cs.length = 0) = False:=by simp only [eq_iff_iff,iff_false]; omega
  rw [hv]
  simp -dsimp -implicitDefEqProofs [yaeT,hne,hne0,hji,hb,gb,hjl,yvZ]
  refine fun hml=>⟨by unfold inI; omega,by unfold inI; omega,fun _=>?_⟩
  unfold maxLen at hml
  unfold inI; omega
theorem yafM {x : Waterway} {q : Int} (h : Bare x) (f : Fresh x) : Wet x q 0 x :=
 ⟨h.ok,⟨h.mv,fun w hw=>⟨(h.wk w hw).1,(h.wk w hw).2,f.gate w hw⟩⟩,h.kept,f.time,by rw [f.inn]; simp,rfl,h.pas,h.book,h.arr⟩
set_option maxRecDepth 20000 in
theorem yafj (x0 : List Nat) : yB Tryz.prog 4 [.c (.sl 1 (x0.map yZn))] (.c (.b true)):=by
 refine yJu yacD fun hwf=>?_
 obtain ⟨code,hcode⟩:=yZI (x:=x0) hwf.1
 rw [hcode]
 clear hwf
 simp -dsimp -implicitDefEqProofs
 refine yc (big_c code) ?_
 by_cases hbig : 1048576 < code.length
 ·have t1 : (1048576 < code.length) = True:=eq_true hbig
  simp -dsimp -implicitDefEqProofs [t1]
 ·have t1 : (1048576 < code.length) = False:=eq_false hbig
  simp -dsimp -implicitDefEqProofs [t1]
  have hD:=yabN code (by omega)
  obtain ⟨hB,hBs,hF⟩:=yadC code (0,hash code)
  have hB : Bare (dwX code):=hB
  have hBs : (dwX code).small:=hBs
  have hF : Fresh (dwX code):=hF
  generalize dwX code = x at *
  generalize dwT code = ts at *
  have ha:=yago code 0
  have hq : 0 ≤ 40 * (atV code 0).tmod 9 ∧ 40 * (atV code 0).tmod 9 ≤ 320:=by
   rw [Int.tmod_eq_emod_of_nonneg ha.1]; omega
  refine yaP (hD) (by simp -dsimp -implicitDefEqProofs) rfl ?_
  simp -dsimp -implicitDefEqProofs
  refine yaQ (at_c code 0 (by omega)) (by simp -dsimp -implicitDefEqProofs) rfl ?_
  generalize atV code 0 = a at *
  simp -dsimp -implicitDefEqProofs
  have hR:=yagv x (40 * a.tmod 9) hBs (yafM (q:=0) hB hF).idle
  have hW:=yafN (yafM (q:=40 * a.tmod 9) hB hF) hF.start hq 30 (Nat.le_refl _)
  have hS:=yaeP (q:=40 * a.tmod 9) hBs 30
  generalize RunW x (40 * a.tmod 9) 30 = y at *
  obtain ⟨f,hf⟩ : ∃ f,40 * a.tmod 9 = f:=⟨_,rfl⟩
  have ha9 : inI (a.tmod 9):=by unfold inI; omega
  rw [hf] at hR hW hq
  have hI : y.In = 30 * f:=hW.inn
  have hT : y.Time = 30:=hW.time
  obtain ⟨hK,hO⟩:=yagc hW
  have hP:=yU2 y hS (by rw [yafd hW]; simp)
  rw [yafd hW] at hP
  have wf:=yqj hW.ok
  have w1:=wf.start; have w2:=wf.inn; have w3:=wf.out
  have hKc:=yVT y hS
  rw [hK] at hKc
  have hOk:=yns y hS
  rw [hW.ok] at hOk
  have hps:=hW.pas; have hbk:=hW.book
  simp -dsimp -implicitDefEqProofs [hf]
  refine ⟨ha9,by unfold inI; omega,?_⟩
  refine yaP (hR) (by simp -dsimp -implicitDefEqProofs) rfl ?_
  have i1 : (y.In = 30 * f) = True:=eq_true hI
  have i2 : (y.Out ≤ y.Start + y.In) = True:=eq_true hO
  have i3 : (y.Passings = []) = True:=eq_true hps
  have i4 : (y.Book = []) = True:=eq_true hbk
  have i5 : (y.Time = 30) = True:=eq_true hT
  simp -dsimp -implicitDefEqProofs [i1]
  refine ⟨by unfold inI; omega,?_⟩
  refine yaQ (hKc) (by simp -dsimp -implicitDefEqProofs) rfl ?_
  simp -dsimp -implicitDefEqProofs [i2,i3,i4]
  refine ⟨by unfold inI; omega,?_⟩
  intro _ _
  refine yaP (hP) (by simp -dsimp -implicitDefEqProofs) rfl ?_
  simp -dsimp -implicitDefEqProofs [i5]
  refine yaQ (hOk) (by simp -dsimp -implicitDefEqProofs) rfl ?_
  simp -dsimp -implicitDefEqProofs
theorem yZF {xs : List C} (h : Fits [.u] xs) : ∃ n : Nat,xs = yZn n:=by
 obtain ⟨c0,ys,rfl,h0,h⟩:=h.cons_inv
 obtain rfl:=h.ycx
 obtain ⟨n0,rfl⟩:=h0.u_inv
 exact ⟨n0,rfl⟩
theorem yacV : IsLaw Rows.fnOnlyWaterSpec Tryz.f4.params.size:=by
 refine ⟨rfl,fun H ds h=>?_⟩
 match ds,h with
 | [d0],_=>rfl
theorem yabW : LawFacts Tryz.prog Tryz.f4 (Tryz.f4.resultTypes.getD 0 0) [(false,[.sl [.u]])] :=
 ⟨yrS,by kernel_rfl,by kernel_rfl,by kernel_rfl,by kernel_rfl⟩
set_option maxRecDepth 100000 in
theorem yacz (os : Os) (started : os.Started) (H : Type) (enc : TypeId × Value → H) :
 ReturnsInHanded {} Tryz.checked os 4 .any (Rows.fnOnlyWaterSpec.pre6 enc Tryz.prog Tryz.f4 Rows.fnOnlyWaterRow.domain false) (Rows.fnOnlyWaterSpec.post enc Tryz.prog Tryz.f4 false true false false):=by
 refine law_lifted (C:=Tryz.checked) yt1 started (by kernel_rfl) Tryz.func4
  (ChangeSpec.witness6 (enc:=enc) (C:=Tryz.checked) false ⟨#[],#[.slice none 0 0],[]⟩ 8 (by kernel_rfl) (by kernel_rfl) (by kernel_rfl) (by kernel_rfl)) yacV yabW ?_
 rintro avs ⟨a,avs0,rfl,ha,rfl⟩
 cases ha with
 | one h0 =>
  obtain ⟨x0,rfl⟩:=h0.ycq yZn fun xs h=>yZF h
  exact yafj x0
theorem yacT : ypf Tryz.prog 4 Tryz.f4 Rows.fnOnlyWaterSpec Rows.fnOnlyWaterRow = true:=by kernel_rfl
theorem yael : Tryz.pinned.checked.prog.funcNamed Rows.fnOnlyWaterRow.func = some 4:=by kernel_rfl
theorem yaeU : Tryz.f4.isInstance Tryz.pinned.checked.prog Rows.fnOnlyWaterRow.origin Rows.fnOnlyWaterRow.targs:=(of_decide_eq_true (by kernel_rfl))
theorem yaeO : Tryz.f4.isWrapper Tryz.pinned.checked.prog Rows.fnOnlyWaterRow.wrapper Rows.fnOnlyWaterRow.mainSum:=by
 unfold Func.isWrapper; first | (rw [if_pos (by decide +kernel)]; kernel_rfl) | (rw [if_neg (by decide +kernel)]; exact ⟨rfl,rfl⟩)
theorem FnOnlyWater_holds : Rows.FnOnlyWaterSaid :=
 OpenClaim.holds_of_wide (p:=Tryz.pinned) (s:=Rows.fnOnlyWaterSpec) (c:=Rows.fnOnlyWaterRow) 4 Tryz.f4 rfl rfl rfl rfl rfl rfl rfl ⟨rfl,rfl,rfl,rfl,rfl⟩ rfl rfl rfl rfl rfl yael Tryz.func4
  (yyi yxx yacT ⟨rfl,rfl,rfl,rfl,rfl,rfl,rfl,rfl⟩) yaeU yaeO (fun os started H enc _=>yacz os started H enc)
end Go.Proofs.YtpiplmnecmkafaaGreat
