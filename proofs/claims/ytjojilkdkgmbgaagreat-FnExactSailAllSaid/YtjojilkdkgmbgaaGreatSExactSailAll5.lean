/- What the law FnExactSailAll stands on: contracts of functions, what each answers as plain Lean, in short form (names, layout). -/
import Derived.Test.YtjojilkdkgmbgaaGreatSExactSailAll4
set_option linter.all false
namespace Go.Proofs.YtjojilkdkgmbgaaGreat
open Go.RowKit
open Go.ChangeShapes Go.WideShapes
theorem yQ9 (es : List CallT) : yB Tryz.prog 140 [.c (.sl 4 (es.map CallT.enc))] (.clip 4 (es.map CallT.enc)):=by
 refine yh yPt ?_
 simp -dsimp -implicitDefEqProofs [yPh,yt]
structure SailFacts (x : Waterway) : Prop where
 two : 2 ≤ x.Reaches.length
 six : x.Reaches.length ≤ 6
 ways : x.Ways.length = x.Reaches.length
 mvs : x.Movers.length = x.Reaches.length
 wks : x.Works.length + 1 = x.Reaches.length
 few : ∀ (k : Nat) (l : List Mover),x.Movers[k]? = some l → l.length ≤ 24
 arr : x.Arrived.length ≤ 500
theorem yPK {x : Waterway} (h : yar x = true) : SailFacts x:=by
 simp only [yar,Bool.and_eq_true] at h
 obtain ⟨⟨⟨⟨⟨⟨⟨h1,h2⟩,h3⟩,h4⟩,h5⟩,h6⟩,h7⟩,h8⟩:=h
 simp only [ybi,Bool.and_eq_true,decide_eq_true_eq] at h2
 obtain ⟨⟨⟨⟨⟨⟨p1,p2⟩,p3⟩,p4⟩,p5⟩,p6⟩,p7⟩:=h2
 have rf:=(ywm p1).len
 refine ⟨p2,rf.2,p3,p4,p5,fun k l hk=>?_,?_⟩
 ·have kl:=(List.getElem?_eq_some_iff.1 hk).1
  have gl:=(List.getElem?_eq_some_iff.1 hk).2
  have:=List.all_eq_true.1 p6 (x.Ways[k]'(by omega),l) (List.mem_iff_getElem.2 ⟨k,by simp; omega,by simp [gl]⟩)
  simp only [yb8,Bool.and_eq_true,decide_eq_true_eq] at this
  exact this.1.2
 ·simp only [ybW,Bool.and_eq_true,decide_eq_true_eq] at h3
  omega
structure SailSm (n a : Nat) (s : yPL) : Prop where
 rest : s.1.length ≤ n ∧ ∀ m ∈ s.1,m.small
 works : yc8 s.2.1
 arr : s.2.2.length ≤ a + n ∧ ∀ t ∈ s.2.2,t.small
theorem yQL {W : List Work} {j : Nat} {c : CallT} (h : yc8 W) (hc : c.small) (hr : noRoom W j = false) : yc8 (yPp W j c):=by
 refine ⟨by rw [yPw]; exact h.1,fun w hw=>?_⟩
 unfold yPp at hw
 unfold noRoom at hr
 cases hw0 : W[j]? with
 | none=>rw [hw0] at hr; cases hr
 | some w0 =>
  rw [hw0] at hr hw
  simp only [decide_eq_false_iff_not] at hr
  rcases List.mem_or_eq_of_mem_set hw with e | e
  ·exact h.2 w e
  ·subst e
   obtain ⟨a,b,c1⟩:=h.2 w0 (List.mem_of_getElem? hw0)
   refine ⟨a,b,by simp; omega,fun y hy=>?_⟩
   rcases List.mem_append.1 hy with e | e
   ·exact c1.2 y e
   ·rw [List.mem_singleton.1 e]; exact hc
theorem yQF {α : Type} {p : α → Prop} {l : List α} {a : α} (h : ∀ x ∈ l,p x) (ha : p a) : ∀ x ∈ l ++ [a],p x:=by
 intro x hx
 rcases List.mem_append.1 hx with e | e
 ·exact h x e
 ·rw [List.mem_singleton.1 e]; exact ha
theorem yQO {x : Waterway} {k : Nat} {w : Way} {n a : Nat} {s : yPL} {m : Mover} (h : SailSm n a s) (hm : m.small) : SailSm (n + 1) a (yPb x k w s m):=by
 obtain ⟨r,wk,ar⟩:=h
 have r1 : s.1.length ≤ n + 1:=Nat.le_succ_of_le r.1
 have a1 : s.2.2.length ≤ a + (n + 1):=Nat.le_trans ar.1 (by omega)
 have ar1:=ar.1
 have rr1:=r.1
 unfold yPb
 split
 ·split
  ·exact ⟨⟨r1,r.2⟩,wk,by simp; omega,yQF ar.2 hm⟩
  ·split
   ·exact ⟨⟨by simp; omega,yQF r.2 hm⟩,wk,a1,ar.2⟩
   ·rename_i hr
    exact ⟨⟨r1,r.2⟩,yQL wk hm (by simpa using hr),a1,ar.2⟩
 ·exact ⟨⟨by simp; omega,yQF r.2 hm⟩,wk,a1,ar.2⟩
theorem yPD {m : Mover} {w : Way} {r : Reach} (h : m.small) : (yPd m w r).small:=by
 show (yPd m w r).Train.small
 rw [yP4]; exact h
theorem yPV {x : Waterway} {k : Nat} {w : Way} {r : Reach} {a : Nat} : ∀ (ms : List Mover),(∀ m ∈ ms,m.small) → ∀ (s : yPL) (n : Nat),SailSm n a s → SailSm (n + ms.length) a (ms.foldl (fun q m=>yPb x k w q (yPd m w r)) s)
 | [],_,s,n,h=>h
 | m :: ms,hm,s,n,h=>by
  have:=yPV (x:=x) (k:=k) (w:=w) (r:=r) (a:=a) ms (fun y hy=>hm y (List.mem_cons_of_mem _ hy)) _ (n + 1) (yQO (x:=x) (k:=k) (w:=w) h (yPD (w:=w) (r:=r) (hm m List.mem_cons_self)))
  rw [List.length_cons,show n + (ms.length + 1) = n + 1 + ms.length by omega]
  exact this
theorem yPC {x : Waterway} {k : Nat} {w : Way} {r : Reach} {ms : List Mover} (h1 : x.Ways[k]? = some w) (h2 : x.Reaches[k]? = some r) (h3 : x.Movers[k]? = some ms) : yPa x (k + 1) = ((yPa x k).1 ++ [(yPc x k w r (yPa x k).2 ms).1],(yPc x k w r (yPa x k).2 ms).2):=by
 simp [yPa,h1,h2,h3]
theorem yP5 {x : Waterway} {k : Nat} {w : Way} {r : Reach} {s : List Work × List Train} {ms : List Mover} {i : Nat} {m : Mover} (h : ms[i]? = some m) : yPc x k w r s (ms.take (i + 1)) = yPb x k w (yPc x k w r s (ms.take i)) (yPd m w r):=by
 unfold yPc
 rw [List.take_succ,h]
 simp
structure SailToSm (x : Waterway) (k : Nat) : Prop where
 len : (yPa x k).1.length = k
 rest : ∀ l ∈ (yPa x k).1,l.length ≤ 24 ∧ ∀ m ∈ l,m.small
 works : yc8 (yPa x k).2.1
 wlen : (yPa x k).2.1.length = x.Works.length
 arr : (yPa x k).2.2.length ≤ 500 + 24 * k ∧ ∀ t ∈ (yPa x k).2.2,t.small
theorem yP8 {x : Waterway} {k : Nat} {w : Way} {r : Reach} (hs : x.small) (h : SailToSm x k) {ms : List Mover} (hm : ∀ m ∈ ms,m.small) : SailSm ms.length (500 + 24 * k) (yPc x k w r (yPa x k).2 ms) ∧ (yPc x k w r (yPa x k).2 ms).2.1.length = x.Works.length:=by
 refine ⟨?_,?_⟩
 ·have:=yPV (x:=x) (k:=k) (w:=w) (r:=r) (a:=500 + 24 * k) ms hm ([],(yPa x k).2) 0 ⟨⟨by simp,by simp⟩,h.works,by have:=h.arr.1; show (yPa x k).2.2.length ≤ _; omega,h.arr.2⟩
  rw [Nat.zero_add] at this
  exact this
 ·have:=(yQZ (x:=x) (k:=k) (w:=w) (r:=r) ms ([],(yPa x k).2)).2.1
  unfold yPc
  rw [this]
  exact h.wlen
theorem yPy {x : Waterway} (F : SailFacts x) (hs : x.small) : ∀ k : Nat,k ≤ x.Movers.length → SailToSm x k
 | 0,_=>⟨rfl,fun l hl=>(by cases hl),hs.2.2.1,rfl,by have:=F.arr; show x.Arrived.length ≤ _; omega,hs.2.2.2.2.1.2⟩
 | k + 1,hk=>by
  have ih:=yPy F hs k (by omega)
  have f1:=F.ways; have f2:=F.mvs
  obtain ⟨w,hw⟩ : ∃ w,x.Ways[k]? = some w:=⟨_,List.getElem?_eq_getElem (by omega)⟩
  obtain ⟨r,hr⟩ : ∃ r,x.Reaches[k]? = some r:=⟨_,List.getElem?_eq_getElem (by omega)⟩
  obtain ⟨ms,hms⟩ : ∃ ms,x.Movers[k]? = some ms:=⟨_,List.getElem?_eq_getElem (by omega)⟩
  have hm:=F.few k ms hms
  obtain ⟨⟨a1,a2,a3⟩,a4⟩:=yP8 (w:=w) (r:=r) hs ih (ms:=ms) (fun m h=>(hs.2.2.2.1.2 ms (List.mem_of_getElem? hms)).2 m h)
  have e:=yPC hw hr hms
  refine ⟨by rw [e]; simp [ih.len],fun l hl=>?_,by rw [e]; exact a2,by rw [e]; exact a4,by rw [e]; show (yPc x k w r (yPa x k).2 ms).2.2.length ≤ _; omega,by rw [e]; exact a3.2⟩
  rw [e] at hl
  rcases List.mem_append.1 hl with h | h
  ·exact ih.rest l h
  ·rw [List.mem_singleton.1 h]; exact ⟨by omega,a1.2⟩
theorem yPH {x : Waterway} (F : SailFacts x) (hs : x.small) : (yPv x).small:=by
 have h:=yPy F hs x.Movers.length (Nat.le_refl _)
 have f6:=F.six; have f2:=F.mvs
 refine ⟨hs.1,hs.2.1,h.works,⟨by show (yPa x x.Movers.length).1.length ≤ _; rw [h.len]; omega,fun l hl=>⟨by have:=(h.rest l hl).1; omega,(h.rest l hl).2⟩⟩,⟨by have:=h.arr.1; show (yPa x x.Movers.length).2.2.length ≤ _; omega,h.arr.2⟩,hs.2.2.2.2.2⟩
theorem yQI (x : Waterway) : (yPv x).enc = [.i x.Time,.sl 3 (x.Reaches.map Reach.enc),.sl 2 (x.Ways.map Way.enc),.sl 22 ((yPa x x.Movers.length).2.1.map Work.enc),.sl 1 ((yPa x x.Movers.length).1.map yZ),.sl 2 ((yPa x x.Movers.length).2.2.map Train.enc),.sl 1 (x.Entered.map yJ),.i x.Tariff.Base,.i x.Tariff.PerArea,.sl 1 (x.Tariff.PerClass.map yJ),.sl 1 (x.Tariff.Weights.map yJ),.sl 5 (x.Book.map Entry.enc),.sl 4 (x.Passings.map Passing.enc),.i x.Start,.i x.In,.i x.Out]:=rfl
def wkR (W : List Work) : List (List C):=W.map Work.enc
theorem yPI {W : List Work} : (wkR W).length = W.length:=by simp [wkR]
theorem yRi {W : List Work} {k : Nat} {w : Work} (h : W[k]? = some w) : (wkR W)[k]? = some w.enc:=by unfold wkR; rw [List.getElem?_map,h]; rfl
theorem yQT : ∀ W : List Work,ykv (wkR W) = some (wkR W)
 | []=>rfl
 | a :: W=>by
  show ykv (Work.enc a :: wkR W) = some (Work.enc a :: wkR W)
  simp only [ykv,yQT W]; rfl
def yPA (D : List (List Mover)) (L : List Mover) (n : Nat) : List (List C):=D.map em ++ em L :: List.replicate (n - D.length - 1) (em [])
def yPN (D : List (List Mover)) (n : Nat) : List (List C):=D.map em ++ List.replicate (n - D.length) (em [])
theorem yRJ {D : List (List Mover)} {n : Nat} (h : D.length < n) : yPN D n = yPA D [] n:=by
 unfold yPN yPA
 rw [show n - D.length = (n - D.length - 1) + 1 by omega,List.replicate_succ]
 rfl
theorem yRF {D : List (List Mover)} {L : List Mover} {n : Nat} : yPA D L n = yPN (D ++ [L]) n:=by
 unfold yPN yPA
 rw [List.map_append,List.length_append,List.append_assoc,List.length_singleton,Nat.sub_sub]
 rfl
theorem yRs {D : List (List Mover)} {L : List Mover} {n : Nat} (h : D.length < n) : (yPA D L n).length = n:=by
 simp [yPA]; omega
theorem yQ5 {D : List (List Mover)} {L : List Mover} {n k : Nat} (h : D.length = k) : (yPA D L n)[k]? = some (em L):=by
 subst h
 unfold yPA
 rw [List.getElem?_append_right (by simp)]; simp
theorem yRt {D : List (List Mover)} {L : List Mover} {n k : Nat} {m : Mover} (h : D.length = k) : setAt (setAt (yPA D L n) k 0 C.jk) k 0 (.ow 3 (L.map Mover.enc ++ [m.enc])) = yPA D (L ++ [m]) n:=by
 have hk:=yQ5 (L:=L) (n:=n) h
 have e2 : ∀ c : C,setAt (setAt (yPA D L n) k 0 C.jk) k 0 c = (yPA D L n).set k [c]:=by
  intro c
  have kl:=(List.getElem?_eq_some_iff.1 hk).1
  have gl:=(List.getElem?_eq_some_iff.1 hk).2
  simp [setAt,hk,gl,kl,em]
 rw [e2]
 subst h
 unfold yPA
 rw [List.set_append_right _ _ (by simp)]
 simp [em,List.map_append]
theorem yRq (D : List (List Mover)) : ykv (yPN D D.length) = some (D.map yZ):=by
 unfold yPN
 rw [Nat.sub_self]
 simp only [List.replicate_zero,List.append_nil]
 exact yag ywd D
theorem yQl {W : List Work} {j : Nat} {w : Work} {c : CallT} (h : W[j]? = some w) : ykv (setAt (wkR W) j 21 (.ow 4 (w.Calls.map CallT.enc ++ [c.enc]))) = some (wkR (yPp W j c)):=by
 have hk:=yRi h
 have kl:=(List.getElem?_eq_some_iff.1 hk).1
 have gl:=(List.getElem?_eq_some_iff.1 hk).2
 have e : setAt (wkR W) j 21 (.ow 4 (w.Calls.map CallT.enc ++ [c.enc])) = (wkR W).set j (w.enc.set 21 (.ow 4 (w.Calls.map CallT.enc ++ [c.enc]))):=by
  simp [setAt,gl,kl]
 rw [e,yO1 (yQT W) (s:=({ w with Calls:=w.Calls ++ [c] } : Work).enc) (by simp only [Work.enc,List.set_cons_succ,List.set_cons_zero,List.map_append]; rfl) j]
 unfold yPp wkR
 rw [h]
 simp only [List.map_set]
def yP0 (B A : List Train) : AV:=match A with
 | []=>.clip 2 (B.map Train.enc)
 | t :: A=>.own 102 2 (B.length + (A.length + 1))
def yP2 (B A : List Train) : Obj:=match A with
 | []=>.none
 | t :: A=>.row 2 ((B ++ t :: A).map Train.enc)
theorem yRp {a b : List Train} {y : List C} : List.take (a.length + (b.length + 1)) (a.map Train.enc ++ y :: b.map Train.enc) = a.map Train.enc ++ y :: b.map Train.enc:=List.take_of_length_le (by simp)
def yPx (x : Waterway) (c : AV) : List AV:=[.c (.i x.Time),.c (.sl 3 (x.Reaches.map Reach.enc)),.c (.sl 2 (x.Ways.map Way.enc)),.own 18 22 x.Works.length,.own 23 1 x.Movers.length,c,.c (.sl 1 (x.Entered.map yJ)),.c (.i x.Tariff.Base),.c (.i x.Tariff.PerArea),.c (.sl 1 (x.Tariff.PerClass.map yJ)),.c (.sl 1 (x.Tariff.Weights.map yJ)),.c (.sl 5 (x.Book.map Entry.enc)),.c (.sl 4 (x.Passings.map Passing.enc)),.c (.i x.Start),.c (.i x.In),.c (.i x.Out)]
set_option maxHeartbeats 4000000 in
set_option maxRecDepth 40000 in
theorem yRv (x : Waterway) (hs : x.small) : yB Tryz.prog 59 [.agg (x.enc.map .c)] (.agg ((yPf x).enc.map .c)):=by
 have hW:=yns x hs
 have s41:=hs.2.2.2.1.1
 have s31:=hs.2.2.1.1
 refine yh yQ8 ?_
 simp -dsimp -implicitDefEqProofs
 refine yaQ (hW) (by simp -dsimp -implicitDefEqProofs) rfl ?_
 cases hok : yar x with
 | false =>
  have e : yPf x = x:=by simp [yPf,hok]
  rw [e]
  simp -dsimp -implicitDefEqProofs
 | true =>
 have F:=yPK hok
 have f1:=F.two; have f2:=F.six; have f3:=F.ways; have f4:=F.mvs; have f5:=F.wks
 obtain ⟨res,hres⟩ : ∃ r,yPf x = r:=⟨_,rfl⟩
 rw [hres]
 simp -dsimp -implicitDefEqProofs
 refine yjo (yRx x.Works s31) (by simp) rfl (by simp [yU]) ?_
 simp -dsimp -implicitDefEqProofs [yt]
 refine fun hlen=>⟨by omega,yRT ?_⟩
 simp -dsimp -implicitDefEqProofs
 refine yaP (yRA x.Arrived) (by simp -dsimp -implicitDefEqProofs) rfl ?_
 simp -dsimp -implicitDefEqProofs
 refine fun hlen2=>⟨by unfold inI; omega,fun hlen3=>?_⟩
 refine yg (ι:=Nat × List Train) (fun p=>p.1 ≤ x.Movers.length ∧ (yPa x p.1).2.2 = x.Arrived ++ p.2) (fun p=>yO [(1,.box 1 0),(2,.box 2 0),(3,.box 3 0),(4,.c (.i ((x.Reaches.length : Int) - 1))),(34,.c (.sl 1 (x.Movers.map yZ))),(35,.c (.i x.Movers.length)),(36,.c (.i p.1))] [(1,.box (x.enc.map .c)),(2,.box [.c (.i 0),.nil 3,.nil 2,.nil 22,.nil 1,.nil 2,.nil 1,.c (.i 0),.c (.i 0),.nil 1,.nil 1,.nil 5,.nil 4,.c (.i 0),.c (.i 0),.c (.i 0)]),(3,.box (yPx x (yP0 x.Arrived p.2))),(18,.tr 22 0 (wkR (yPa x p.1).2.1)),(23,.tr 1 0 (yPN (yPa x p.1).1 x.Movers.length)),(102,yP2 x.Arrived p.2)]) (fun p=>x.Movers.length - p.1) (0,[]) (by simp [yPa]) (by apply yj <;> simp [Obj.leO,yPa,wkR,yPN,em,yP0,yP2,yPx]) ?_
 rintro ⟨k,A⟩ ⟨hk,hA⟩
 simp only at hk hA
 have T:=yPy F hs k hk
 rcases Nat.lt_or_ge k x.Movers.length with klt | kge
 ·obtain ⟨w,hw⟩ : ∃ w,x.Ways[k]? = some w:=⟨_,List.getElem?_eq_getElem (by omega)⟩
  obtain ⟨r,hr⟩ : ∃ r,x.Reaches[k]? = some r:=⟨_,List.getElem?_eq_getElem (by omega)⟩
  obtain ⟨ms,hms⟩ : ∃ ms,x.Movers[k]? = some ms:=⟨_,List.getElem?_eq_getElem (by omega)⟩
  have gw:=(List.getElem?_eq_some_iff.1 hw).2
  have gr:=(List.getElem?_eq_some_iff.1 hr).2
  have gms:=(List.getElem?_eq_some_iff.1 hms).2
  have klw : k < x.Ways.length:=by omega
  have klr : k < x.Reaches.length:=by omega
  have hro : yPN (yPa x k).1 x.Movers.length = yPA (yPa x k).1 [] x.Movers.length:=yRJ (by rw [T.len]; exact klt)
  have hsm : ∀ m ∈ ms,m.small:=(hs.2.2.2.1.2 ms (List.mem_of_getElem? hms)).2
  have h24:=F.few k ms hms
  have hA0 : (yPc x k w r (yPa x k).2 []).2.2 = x.Arrived ++ A:=hA
  simp -dsimp -implicitDefEqProofs [hms,gms,klt,yG klt,hro]
  intro hlen4
  refine yg (ι:=Nat × List Train) (fun p=>p.1 ≤ ms.length ∧ (yPc x k w r (yPa x k).2 (ms.take p.1)).2.2 = x.Arrived ++ p.2) (fun p=>yO [(1,.box 1 0),(2,.box 2 0),(3,.box 3 0),(4,.c (.i ((x.Reaches.length : Int) - 1))),(34,.c (.sl 1 (x.Movers.map yZ))),(35,.c (.i x.Movers.length)),(36,.c (.i k)),(5,.c (.i k)),(41,.c (.sl 3 (ms.map Mover.enc))),(42,.c (.i ms.length)),(43,.c (.i p.1))] [(1,.box (x.enc.map .c)),(2,.box [.c (.i 0),.nil 3,.nil 2,.nil 22,.nil 1,.nil 2,.nil 1,.c (.i 0),.c (.i 0),.nil 1,.nil 1,.nil 5,.nil 4,.c (.i 0),.c (.i 0),.c (.i 0)]),(3,.box (yPx x (yP0 x.Arrived p.2))),(18,.tr 22 0 (wkR (yPc x k w r (yPa x k).2 (ms.take p.1)).2.1)),(23,.tr 1 0 (yPA (yPa x k).1 (yPc x k w r (yPa x k).2 (ms.take p.1)).1 x.Movers.length)),(102,yP2 x.Arrived p.2)]) (fun p=>ms.length - p.1) (0,A) (by simpa using hA0) (by rcases A with _ | ⟨t0,A⟩ <;> apply yj <;> simp [Obj.leO,yPc,yP0,yP2,yPx]) ?_
  rintro ⟨i,A2⟩ ⟨hi,hA2⟩
  simp only at hi hA2
  obtain ⟨LS,LL⟩:=yP8 (w:=w) (r:=r) hs T (ms:=ms.take i) (fun m h=>hsm m (List.mem_of_mem_take h))
  obtain ⟨q,hq⟩ : ∃ q,yPc x k w r (yPa x k).2 (ms.take i) = q:=⟨_,rfl⟩
  rw [hq] at LS LL hA2
  have hrl:=yRs (D:=(yPa x k).1) (L:=q.1) (n:=x.Movers.length) (by rw [T.len]; exact klt)
  have hge:=yQ5 (L:=q.1) (n:=x.Movers.length) T.len
  have gge:=(List.getElem?_eq_some_iff.1 hge).2
  rcases Nat.lt_or_ge i ms.length with ilt | ige
  ·obtain ⟨m,hm⟩ : ∃ m,ms[i]? = some m:=⟨_,List.getElem?_eq_getElem ilt⟩
   have gm:=(List.getElem?_eq_some_iff.1 hm).2
   have hsuc:=yP5 (x:=x) (k:=k) (w:=w) (r:=r) (s:=(yPa x k).2) hm
   have hcall:=yRG m w r (hsm m (List.mem_of_getElem? hm))
   have hsm' : (yPd m w r).small:=yPD (hsm m (List.mem_of_getElem? hm))
   obtain ⟨m',hm'⟩ : ∃ m',yPd m w r = m':=⟨_,rfl⟩
   rw [hm'] at hsuc hcall hsm'
   rw [hq] at hsuc
   have hat:=yRj m' w hsm'
   have hput:=yRt (L:=q.1) (n:=x.Movers.length) (m:=m') T.len
   simp only [Mover.enc] at hput
   have htk : List.take (q.1.length + 1) (q.1.map Mover.enc ++ [[.b m'.Train.Up,.sl 1 (m'.Train.Rows.map yai),.i m'.Place]]) = q.1.map Mover.enc ++ [[.b m'.Train.Up,.sl 1 (m'.Train.Rows.map yai),.i m'.Place]]:=List.take_of_length_le (by simp)
   have hal : q.2.2.length ≤ 2000:=by
    have e1:=LS.arr.1
    have e2 : (ms.take i).length ≤ 24:=by simp; omega
    omega
   rw [hA2] at hal
   simp only [List.length_append] at hal
   have hl1 : q.1.length ≤ 24:=Nat.le_trans LS.rest.1 (by simp; omega)
   rcases A2 with _ | ⟨t0,A2⟩
   all_goals
    try simp only [List.length_cons] at hal
    simp -dsimp -implicitDefEqProofs [hm,gm,ilt,yG ilt,hw,gw,hr,gr,klt,klw,klr,hq,yPx,yP0,yP2]
    refine ya2 (hcall) (by simp -dsimp -implicitDefEqProofs) (.inl rfl) ?_
    simp -dsimp -implicitDefEqProofs [hw,gw,klw]
    refine ⟨_,_,hat,by simp -dsimp -implicitDefEqProofs,.inr rfl,?_⟩
    cases hae : AtEnd m' w with
    | false =>
     have hs1 : yPb x k w q m' = (q.1 ++ [m'],q.2):=by simp [yPb,hae]
     rw [hs1] at hsuc
     simp -dsimp -implicitDefEqProofs [hge,gge,hrl,klt,em,hput,hq,yPx,yP0,yP2]
     refine ⟨by omega,by simp [setAt,hrl,klt],yw ilt hlen4,i + 1,_,⟨ilt,by rw [hsuc]; exact hA2⟩,by omega,?_⟩
     apply yj <;> simp [Obj.leO,hsuc,htk,hput,hq,hrl]
    | true =>
     cases hu : m'.Train.Up with
     | true =>
      by_cases k0 : k = 0
      ·have hs1 : yPb x k w q m' = (q.1,q.2.1,q.2.2 ++ [m'.Train]):=by simp [yPb,hae,yPj,hu,k0]
       have z1 : ((k : Int) = 0) = True:=by simp [k0]
       have z2 : (k = 0) = True:=by simp [k0]
       rw [hs1] at hsuc
       simp -dsimp -implicitDefEqProofs [hu,z1,z2,hq,yPx,yP0,yP2]
       first
        | (have hA3 : q.2.2 = x.Arrived ++ []:=hA2; refine ⟨by omega,yw ilt hlen4,i + 1,[m'.Train],⟨ilt,by rw [hsuc]; simp [hA3]⟩,by omega,?_⟩)
        | (have hA3 : q.2.2 = x.Arrived ++ t0 :: A2:=hA2; refine ⟨by omega,yw ilt hlen4,i + 1,t0 :: (A2 ++ [m'.Train]),⟨ilt,by rw [hsuc]; simp [hA3]⟩,by omega,?_⟩)
       apply yj <;> simp [Obj.leO,hsuc,hq,hrl,hu,Nat.add_assoc]
      ·obtain ⟨j,hj⟩ : ∃ j,j = k - 1:=⟨_,rfl⟩
       have z1 : ((k : Int) = 0) = False:=by simp; omega
       have z2 : (k = 0) = False:=by simp [k0]
       have ej : ((k : Int) - 1) = (j : Int):=by omega
       have hlj : yPz k m'.Train = j:=by simp [yPz,hu,hj]
       have hle : yPj x k m'.Train = false:=by simp [yPj,hu,k0]
       obtain ⟨wj,hwj⟩ : ∃ wj,q.2.1[j]? = some wj:=⟨_,List.getElem?_eq_getElem (by omega)⟩
       have aw:=yRi hwj
       simp only [Work.enc] at aw
       have gaw:=(List.getElem?_eq_some_iff.1 aw).2
       have jlt : j < x.Works.length:=by omega
       have hcs:=(LS.works.2 wj (List.mem_of_getElem? hwj)).2.2.1
       have hgs:=@yQl q.2.1 j wj ⟨m'.Train,x.Time,-1⟩ hwj
       simp only [CallT.enc,hu] at hgs
       have htk2 : List.take (wj.Calls.length + 1) (wj.Calls.map CallT.enc ++ [[.b true,.sl 1 (m'.Train.Rows.map yai),.i x.Time,.i (-1)]]) = wj.Calls.map CallT.enc ++ [[.b true,.sl 1 (m'.Train.Rows.map yai),.i x.Time,.i (-1)]]:=List.take_of_length_le (by simp)
       have hput2:=hput
       have htk3:=htk
       simp only [hu] at hput2 htk3
       by_cases hroom : 24 ≤ wj.Calls.length
       ·have z3 : ((24 : Int) ≤ (wj.Calls.length : Int)) = True:=by simp; omega
        have hs1 : yPb x k w q m' = (q.1 ++ [m'],q.2):=by simp [yPb,hae,hle,hlj,noRoom,hwj,hroom]
        rw [hs1] at hsuc
        simp -dsimp -implicitDefEqProofs [hu,z1,z2,z3,hq,yPx,yP0,yP2,ej,aw,gaw,yPI,LL,jlt,hge,gge,hrl,klt,em]
        refine ⟨by unfold inI; omega,fun hlc=>⟨by omega,by simp [setAt,hrl,klt],yw ilt hlen4,i + 1,_,⟨ilt,by rw [hsuc]; exact hA2⟩,by omega,?_⟩⟩
        apply yj <;> simp [Obj.leO,hsuc,htk3,hput2,hq,hrl]
       ·have z3 : ((24 : Int) ≤ (wj.Calls.length : Int)) = False:=by simp; omega
        have hs1 : yPb x k w q m' = (q.1,yPp q.2.1 j ⟨m'.Train,x.Time,-1⟩,q.2.2):=by simp [yPb,hae,hle,hlj,noRoom,hwj,hroom]
        rw [hs1] at hsuc
        simp -dsimp -implicitDefEqProofs [hu,z1,z2,z3,hq,yPx,yP0,yP2,ej,aw,gaw,yPI,LL,jlt]
        refine ⟨by unfold inI; omega,fun hlc=>?_⟩
        refine ya2 (yQ9 wj.Calls) (by simp -dsimp -implicitDefEqProofs) (.inl rfl) ?_
        simp -dsimp -implicitDefEqProofs [hq,aw,gaw,yPI,LL,jlt,ej]
        refine ⟨by omega,yw ilt hlen4,i + 1,_,⟨ilt,by rw [hsuc]; exact hA2⟩,by omega,?_⟩
        refine yQa 18 (k:=22) (v:=1) (by simp [htk2]) hgs ?_
        apply yj <;> simp [Obj.leO,hsuc,hq,hrl,yPx,yP0,yP2]
     | false =>
      by_cases k0 : k + 1 = x.Reaches.length
      ·have hs1 : yPb x k w q m' = (q.1,q.2.1,q.2.2 ++ [m'.Train]):=by simp [yPb,hae,yPj,hu,k0]
       have z1 : ((k : Int) = (x.Reaches.length : Int) - 1) = True:=by simp; omega
       have z2 : (k + 1 = x.Reaches.length) = True:=by simp [k0]
       rw [hs1] at hsuc
       simp -dsimp -implicitDefEqProofs [hu,z1,z2,hq,yPx,yP0,yP2]
       first
        | (have hA3 : q.2.2 = x.Arrived ++ []:=hA2; refine ⟨by omega,yw ilt hlen4,i + 1,[m'.Train],⟨ilt,by rw [hsuc]; simp [hA3]⟩,by omega,?_⟩)
        | (have hA3 : q.2.2 = x.Arrived ++ t0 :: A2:=hA2; refine ⟨by omega,yw ilt hlen4,i + 1,t0 :: (A2 ++ [m'.Train]),⟨ilt,by rw [hsuc]; simp [hA3]⟩,by omega,?_⟩)
       apply yj <;> simp [Obj.leO,hsuc,hq,hrl,hu,Nat.add_assoc]
      ·have z1 : ((k : Int) = (x.Reaches.length : Int) - 1) = False:=by simp; omega
       have z2 : (k + 1 = x.Reaches.length) = False:=by simp [k0]
       have hlj : yPz k m'.Train = k:=by simp [yPz,hu]
       have hle : yPj x k m'.Train = false:=by simp [yPj,hu,k0]
       obtain ⟨wj,hwj⟩ : ∃ wj,q.2.1[k]? = some wj:=⟨_,List.getElem?_eq_getElem (by omega)⟩
       have aw:=yRi hwj
       simp only [Work.enc] at aw
       have gaw:=(List.getElem?_eq_some_iff.1 aw).2
       have jlt : k < x.Works.length:=by omega
       have hcs:=(LS.works.2 wj (List.mem_of_getElem? hwj)).2.2.1
       have hgs:=@yQl q.2.1 k wj ⟨m'.Train,x.Time,-1⟩ hwj
       simp only [CallT.enc,hu] at hgs
       have htk2 : List.take (wj.Calls.length + 1) (wj.Calls.map CallT.enc ++ [[.b false,.sl 1 (m'.Train.Rows.map yai),.i x.Time,.i (-1)]]) = wj.Calls.map CallT.enc ++ [[.b false,.sl 1 (m'.Train.Rows.map yai),.i x.Time,.i (-1)]]:=List.take_of_length_le (by simp)
       have hput2:=hput
       have htk3:=htk
       simp only [hu] at hput2 htk3
       by_cases hroom : 24 ≤ wj.Calls.length
       ·have z3 : ((24 : Int) ≤ (wj.Calls.length : Int)) = True:=by simp; omega
        have hs1 : yPb x k w q m' = (q.1 ++ [m'],q.2):=by simp [yPb,hae,hle,hlj,noRoom,hwj,hroom]
        rw [hs1] at hsuc
        simp -dsimp -implicitDefEqProofs [hu,z1,z2,z3,hq,yPx,yP0,yP2,aw,gaw,yPI,LL,jlt,hge,gge,hrl,klt,em]
        refine fun hlc=>⟨by omega,by simp [setAt,hrl,klt],yw ilt hlen4,i + 1,_,⟨ilt,by rw [hsuc]; exact hA2⟩,by omega,?_⟩
        apply yj <;> simp [Obj.leO,hsuc,htk3,hput2,hq,hrl]
       ·have z3 : ((24 : Int) ≤ (wj.Calls.length : Int)) = False:=by simp; omega
        have hs1 : yPb x k w q m' = (q.1,yPp q.2.1 k ⟨m'.Train,x.Time,-1⟩,q.2.2):=by simp [yPb,hae,hle,hlj,noRoom,hwj,hroom]
        rw [hs1] at hsuc
        simp -dsimp -implicitDefEqProofs [hu,z1,z2,z3,hq,yPx,yP0,yP2,aw,gaw,yPI,LL,jlt]
        intro hlc
        refine ya2 (yQ9 wj.Calls) (by simp -dsimp -implicitDefEqProofs) (.inl rfl) ?_
        simp -dsimp -implicitDefEqProofs [hq,aw,gaw,yPI,LL,jlt]
        refine ⟨by omega,yw ilt hlen4,i + 1,_,⟨ilt,by rw [hsuc]; exact hA2⟩,by omega,?_⟩
        refine yQa 18 (k:=22) (v:=1) (by simp [htk2]) hgs ?_
        apply yj <;> simp [Obj.leO,hsuc,hq,hrl,yPx,yP0,yP2]
  ·have hts:=yPC hw hr hms
   rw [List.take_of_length_le ige] at hq
   rw [hq] at hts
   simp -dsimp -implicitDefEqProofs [yaB ige,hq,List.take_of_length_le ige]
   refine ⟨yw klt hlen3,k + 1,A2,⟨klt,by rw [hts]; exact hA2⟩,by omega,?_⟩
   rcases A2 with _ | ⟨t0,A2⟩ <;> apply yj <;> simp [Obj.leO,hts,yRF,hq,List.take_of_length_le ige,yPx,yP0,yP2]
 ·obtain rfl : k = x.Movers.length:=by omega
  have hes:=yPH F hs
  have hV:=yns (yPv x) hes
  rw [yQI,hA] at hV
  have htw : List.take x.Works.length (wkR (yPa x x.Movers.length).2.1) = wkR (yPa x x.Movers.length).2.1:=List.take_of_length_le (by rw [yPI,T.wlen]; omega)
  have hsw:=yQT (yPa x x.Movers.length).2.1
  have hsr:=yRq (yPa x x.Movers.length).1
  rw [T.len] at hsr
  have htr : List.take x.Movers.length (yPN (yPa x x.Movers.length).1 x.Movers.length) = yPN (yPa x x.Movers.length).1 x.Movers.length:=List.take_of_length_le (by simp [yPN]; have:=T.len; omega)
  have hwk : (yPa x x.Movers.length).2.1.map Work.enc = wkR (yPa x x.Movers.length).2.1:=rfl
  rw [hwk] at hV
  rcases A with _ | ⟨t0,A⟩
  all_goals
   simp -dsimp -implicitDefEqProofs [yaB kge,yPx,yP0,yP2]
   refine yaQ (hV) (by simp -dsimp -implicitDefEqProofs [yt,htw,hsw,hsr,htr,yRp]) rfl ?_
   cases hv : yar (yPv x) with
   | false =>
    have e : res = x:=by rw [← hres]; simp [yPf,hv]
    rw [e]
    simp -dsimp -implicitDefEqProofs
   | true =>
    have e : res = yPv x:=by rw [← hres]; simp [yPf,hok,hv]
    rw [e]
    simp -dsimp -implicitDefEqProofs [yPv,hA,hwk,htw,hsw,hsr,htr,yRp,yt]
def wE (w : Work) : List C:=[.i w.Lock.Length,.i w.Lock.Width,.i w.Lock.SillAbove,.i w.Lock.SillBelow,.i w.Lock.Base,.i w.Lock.Area,.i w.Lock.Rate,.i w.Lock.Water,.i w.Lock.Gate,.sl 2 (w.Lock.Inside.map Train.enc),.i w.Weir.Gates,.i w.Weir.Open,.i w.Weir.Step,.i w.Weir.Crest,.i w.Weir.Width,.i w.Rule.Low,.i w.Rule.High,.i w.Rule.Flood,.ow 2 (w.Pauses.map Pause.enc),.b w.Turn.Up,.i w.Turn.Count,.ow 4 (w.Calls.map CallT.enc)]
theorem yRm (w : Work) : ybQ (wE w) = some w.enc:=rfl
set_option maxRecDepth 20000 in
theorem yQN (w : Work) (hl : Work.small w) : ybh Tryz.prog 118 [.agg (w.enc.map .c)] (.agg ((wE w).map .c)):=by
 obtain ⟨s1,s2,s3⟩:=hl
 have hl1:=s3.1
 have hp1:=s2.1
 have hsm:=s3.2
 refine yan ykE ?_
 simp -dsimp -implicitDefEqProofs
 refine yS (yxT w.Lock s1) ?_
 simp -dsimp -implicitDefEqProofs [yt]
 refine ⟨by omega,?_⟩
 refine yg (ι:=Nat) (fun k=>k ≤ w.Calls.length) (fun k=>yO [(1,.box 1 0),(2,.box 2 0),(3,.box 3 0),(4,.c (.i k))] [(1,.box (w.enc.map .c)),(2,.box [.c (.i 0),.c (.i 0),.c (.i 0),.c (.i 0),.c (.i 0),.c (.i 0),.c (.i 0),.c (.i 0),.c (.i 0),.nil 2,.c (.i 0),.c (.i 0),.c (.i 0),.c (.i 0),.c (.i 0),.c (.i 0),.c (.i 0),.c (.i 0),.nil 2,.c (.b false),.c (.i 0),.nil 4]),(3,.box ((w.enc.map .c).set 18 (.own 11 2 w.Pauses.length) |>.set 21 (.own 16 4 k))),(11,.row 2 (w.Pauses.map Pause.enc)),(16,.row 4 ((w.Calls.take k).map CallT.enc))]) (fun k=>w.Calls.length - k) 0 (by simp) (by apply yj <;> simp [Obj.leO]) ?_
 rintro k hk
 rcases Nat.lt_or_ge k w.Calls.length with klt | kge
 ·obtain ⟨e1,he⟩ : ∃ e1,w.Calls[k]? = some e1:=⟨_,List.getElem?_eq_getElem klt⟩
  have he2:=hsm e1 (List.mem_of_getElem? he)
  have g1:=(List.getElem?_eq_some_iff.1 he).2
  have hs2 : (w.Calls.map CallT.enc).take (k + 1) = (w.Calls.map CallT.enc).take k ++ [CallT.enc e1]:=by rw [List.take_succ,List.getElem?_map,he]; rfl
  simp -dsimp -implicitDefEqProofs [he,g1,klt,yG klt]
  intro hlen
  refine yS (ygX e1.Train he2) ?_
  simp -dsimp -implicitDefEqProofs [he,g1,klt,yG klt,yt,Nat.min_eq_left hk]
  refine ⟨by omega,yw klt hlen,k + 1,klt,by omega,?_⟩
  apply yj <;> simp [Obj.leO,hs2]
 have ek : k = w.Calls.length:=by omega
 subst ek
 simp -dsimp -implicitDefEqProofs [yt,wE]
def Waterway.yRI (e : Waterway) : List C:=[.i e.Time,.ow 3 (e.Reaches.map Reach.enc),.ow 2 (e.Ways.map Way.enc),.ot 22 (e.Works.map wE),.ot 1 (e.Movers.map em),.ow 2 (e.Arrived.map Train.enc),.ow 1 (e.Entered.map yJ),.i e.Tariff.Base,.i e.Tariff.PerArea,.ow 1 (e.Tariff.PerClass.map yJ),.ow 1 (e.Tariff.Weights.map yJ),.ow 5 (e.Book.map Entry.enc),.ow 4 (e.Passings.map Passing.enc),.i e.Start,.i e.In,.i e.Out]
set_option maxRecDepth 20000 in
theorem yRr (x : Waterway) (hl : x.small) : ybh Tryz.prog 53 [.agg (x.enc.map .c)] (.agg (x.yRI.map .c)):=by
 obtain ⟨s1,s2,s3,s4,s5,s6,s7,s8,s9⟩:=hl
 have t1:=s1.1; have t2:=s2.1; have t3:=s3.1; have t4:=s4.1; have t5:=s5.1; have t6:=s6.1; have t8:=s8.1; have t9:=s9.1
 have t71:=s7.1; have t72:=s7.2
 refine yan ynX ?_
 simp -dsimp -implicitDefEqProofs
 refine yg (ι:=Nat) (fun k=>k ≤ x.Reaches.length) (fun k=>yO [(1,.box 1 0),(2,.box 2 0),(3,.box 3 0),(4,.c (.i k))] [(1,.box [.c (.i x.Time),.c (.sl 3 (x.Reaches.map Reach.enc)),.c (.sl 2 (x.Ways.map Way.enc)),.c (.sl 22 (x.Works.map Work.enc)),.c (.sl 1 (x.Movers.map yZ)),.c (.sl 2 (x.Arrived.map Train.enc)),.c (.sl 1 (x.Entered.map yJ)),.c (.i x.Tariff.Base),.c (.i x.Tariff.PerArea),.c (.sl 1 (x.Tariff.PerClass.map yJ)),.c (.sl 1 (x.Tariff.Weights.map yJ)),.c (.sl 5 (x.Book.map Entry.enc)),.c (.sl 4 (x.Passings.map Passing.enc)),.c (.i x.Start),.c (.i x.In),.c (.i x.Out)]),(2,.box [.c (.i 0),.nil 3,.nil 2,.nil 22,.nil 1,.nil 2,.nil 1,.c (.i 0),.c (.i 0),.nil 1,.nil 1,.nil 5,.nil 4,.c (.i 0),.c (.i 0),.c (.i 0)]),(3,.box [.c (.i x.Time),.own 13 3 k,.c (.sl 2 (x.Ways.map Way.enc)),.c (.sl 22 (x.Works.map Work.enc)),.c (.sl 1 (x.Movers.map yZ)),.c (.sl 2 (x.Arrived.map Train.enc)),.c (.sl 1 (x.Entered.map yJ)),.c (.i x.Tariff.Base),.c (.i x.Tariff.PerArea),.c (.sl 1 (x.Tariff.PerClass.map yJ)),.c (.sl 1 (x.Tariff.Weights.map yJ)),.c (.sl 5 (x.Book.map Entry.enc)),.c (.sl 4 (x.Passings.map Passing.enc)),.c (.i x.Start),.c (.i x.In),.c (.i x.Out)]),(13,.row 3 ((x.Reaches.take k).map Reach.enc))]) (fun k=>x.Reaches.length - k) 0 (by simp) (by apply yj <;> simp [Obj.leO]) ?_
 rintro k hk
 rcases Nat.lt_or_ge k x.Reaches.length with klt | kge
 ·obtain ⟨e1,he⟩ : ∃ e1,x.Reaches[k]? = some e1:=⟨_,List.getElem?_eq_getElem klt⟩
  have he2:=s1.2 e1 (List.mem_of_getElem? he)
  have g1:=(List.getElem?_eq_some_iff.1 he).2
  have hs2 : (x.Reaches.map Reach.enc).take (k + 1) = (x.Reaches.map Reach.enc).take k ++ [Reach.enc e1]:=by rw [List.take_succ,List.getElem?_map,he]; rfl
  simp -dsimp -implicitDefEqProofs [he,g1,klt,yG klt]
  intro hlen
  refine yY (ybo e1 he2) ?_
  simp -dsimp -implicitDefEqProofs [he,g1,klt,yG klt,yt,Nat.min_eq_left hk,yeh]
  refine ⟨by omega,yw klt hlen,k + 1,klt,by omega,?_⟩
  apply yj <;> simp [Obj.leO,hs2]
 have ek : k = x.Reaches.length:=by omega
 subst ek
 simp -dsimp -implicitDefEqProofs [yt]
 intro _
 refine ⟨by omega,?_⟩
 refine yg (ι:=Nat) (fun k=>k ≤ x.Works.length) (fun k=>yO [(1,.box 1 0),(2,.box 2 0),(3,.box 3 0),(5,.c (.i k))] [(1,.box [.c (.i x.Time),.c (.sl 3 (x.Reaches.map Reach.enc)),.c (.sl 2 (x.Ways.map Way.enc)),.c (.sl 22 (x.Works.map Work.enc)),.c (.sl 1 (x.Movers.map yZ)),.c (.sl 2 (x.Arrived.map Train.enc)),.c (.sl 1 (x.Entered.map yJ)),.c (.i x.Tariff.Base),.c (.i x.Tariff.PerArea),.c (.sl 1 (x.Tariff.PerClass.map yJ)),.c (.sl 1 (x.Tariff.Weights.map yJ)),.c (.sl 5 (x.Book.map Entry.enc)),.c (.sl 4 (x.Passings.map Passing.enc)),.c (.i x.Start),.c (.i x.In),.c (.i x.Out)]),(2,.box [.c (.i 0),.nil 3,.nil 2,.nil 22,.nil 1,.nil 2,.nil 1,.c (.i 0),.c (.i 0),.nil 1,.nil 1,.nil 5,.nil 4,.c (.i 0),.c (.i 0),.c (.i 0)]),(3,.box [.c (.i x.Time),.own 13 3 x.Reaches.length,.own 33 2 x.Ways.length,.own 38 22 k,.c (.sl 1 (x.Movers.map yZ)),.c (.sl 2 (x.Arrived.map Train.enc)),.c (.sl 1 (x.Entered.map yJ)),.c (.i x.Tariff.Base),.c (.i x.Tariff.PerArea),.c (.sl 1 (x.Tariff.PerClass.map yJ)),.c (.sl 1 (x.Tariff.Weights.map yJ)),.c (.sl 5 (x.Book.map Entry.enc)),.c (.sl 4 (x.Passings.map Passing.enc)),.c (.i x.Start),.c (.i x.In),.c (.i x.Out)]),(13,.row 3 (x.Reaches.map Reach.enc)),(33,.row 2 (x.Ways.map Way.enc)),(38,.tr 22 0 ((x.Works.map wE).take k))]) (fun k=>x.Works.length - k) 0 (by simp) (by apply yj <;> simp [Obj.leO]) ?_
 rintro k hk
 rcases Nat.lt_or_ge k x.Works.length with klt | kge
 ·obtain ⟨e1,he⟩ : ∃ e1,x.Works[k]? = some e1:=⟨_,List.getElem?_eq_getElem klt⟩
  have he2:=s3.2 e1 (List.mem_of_getElem? he)
  have g1:=(List.getElem?_eq_some_iff.1 he).2
  have hs2 : (x.Works.map wE).take (k + 1) = (x.Works.map wE).take k ++ [wE e1]:=by rw [List.take_succ,List.getElem?_map,he]; rfl
  simp -dsimp -implicitDefEqProofs [he,g1,klt,yG klt]
  intro hlen
  refine yRh (yQN e1 he2) (by simp) rfl (by simp [yU,wE]) ?_
  simp -dsimp -implicitDefEqProofs [he,g1,klt,yG klt,yt,Nat.min_eq_left hk,yeh,wE]
  refine ⟨by omega,yw klt hlen,k + 1,klt,by omega,?_⟩
  apply yj <;> simp [Obj.leO,hs2,wE]
 have ek : k = x.Works.length:=by omega
 subst ek
 simp -dsimp -implicitDefEqProofs [yt]
 intro _
 refine yg (ι:=Nat) (fun k=>k ≤ x.Movers.length) (fun k=>yO [(1,.box 1 0),(2,.box 2 0),(3,.box 3 0),(6,.c (.i k))] [(1,.box [.c (.i x.Time),.c (.sl 3 (x.Reaches.map Reach.enc)),.c (.sl 2 (x.Ways.map Way.enc)),.c (.sl 22 (x.Works.map Work.enc)),.c (.sl 1 (x.Movers.map yZ)),.c (.sl 2 (x.Arrived.map Train.enc)),.c (.sl 1 (x.Entered.map yJ)),.c (.i x.Tariff.Base),.c (.i x.Tariff.PerArea),.c (.sl 1 (x.Tariff.PerClass.map yJ)),.c (.sl 1 (x.Tariff.Weights.map yJ)),.c (.sl 5 (x.Book.map Entry.enc)),.c (.sl 4 (x.Passings.map Passing.enc)),.c (.i x.Start),.c (.i x.In),.c (.i x.Out)]),(2,.box [.c (.i 0),.nil 3,.nil 2,.nil 22,.nil 1,.nil 2,.nil 1,.c (.i 0),.c (.i 0),.nil 1,.nil 1,.nil 5,.nil 4,.c (.i 0),.c (.i 0),.c (.i 0)]),(3,.box [.c (.i x.Time),.own 13 3 x.Reaches.length,.own 33 2 x.Ways.length,.own 38 22 x.Works.length,.own 58 1 k,.c (.sl 2 (x.Arrived.map Train.enc)),.c (.sl 1 (x.Entered.map yJ)),.c (.i x.Tariff.Base),.c (.i x.Tariff.PerArea),.c (.sl 1 (x.Tariff.PerClass.map yJ)),.c (.sl 1 (x.Tariff.Weights.map yJ)),.c (.sl 5 (x.Book.map Entry.enc)),.c (.sl 4 (x.Passings.map Passing.enc)),.c (.i x.Start),.c (.i x.In),.c (.i x.Out)]),(13,.row 3 (x.Reaches.map Reach.enc)),(33,.row 2 (x.Ways.map Way.enc)),(38,.tr 22 0 (x.Works.map wE)),(58,if k = 0 then .row 1 [] else .tr 1 0 ((x.Movers.take k).map em))]) (fun k=>x.Movers.length - k) 0 (by simp) (by apply yj <;> simp [Obj.leO]) ?_
 rintro k hk
 rcases Nat.lt_or_ge k x.Movers.length with klt | kge
 ·obtain ⟨l,hl⟩ : ∃ l,x.Movers[k]? = some l:=⟨_,List.getElem?_eq_getElem klt⟩
  have hls:=s4.2 l (List.mem_of_getElem? hl)
  have hll:=hls.1
  have g1:=(List.getElem?_eq_some_iff.1 hl).2
  have hs2 : (x.Movers.map em).take (k + 1) = (x.Movers.map em).take k ++ [em l]:=by rw [List.take_succ,List.getElem?_map,hl]; rfl
  simp -dsimp -implicitDefEqProofs [hl,g1,klt,yG klt]
  intro hlen
  generalize hZ : (if k = 0 then Obj.row 1 [] else .tr 1 0 ((x.Movers.map em).take k)) = Z
  have hz1 : Z.leO Z:=by rw [← hZ]; split <;> first | rfl | exact ⟨rfl,rfl⟩
  have hz2 : ∀ i,Z.kill i = Z:=by intro i; rw [← hZ]; split <;> rfl
  have hz3 : ∀ L,Z.ygy L = true:=by intro L; rw [← hZ]; split <;> rfl
  simp only [Obj.leO] at hz1
  simp only [Obj.ygy] at hz3
  refine yg (ι:=Nat) (fun i=>i ≤ l.length) (fun i=>yO [(1,.box 1 0),(2,.box 2 0),(3,.box 3 0),(6,.c (.i k)),(7,.own 67 3 i),(8,.c (.i i))] [(1,.box [.c (.i x.Time),.c (.sl 3 (x.Reaches.map Reach.enc)),.c (.sl 2 (x.Ways.map Way.enc)),.c (.sl 22 (x.Works.map Work.enc)),.c (.sl 1 (x.Movers.map yZ)),.c (.sl 2 (x.Arrived.map Train.enc)),.c (.sl 1 (x.Entered.map yJ)),.c (.i x.Tariff.Base),.c (.i x.Tariff.PerArea),.c (.sl 1 (x.Tariff.PerClass.map yJ)),.c (.sl 1 (x.Tariff.Weights.map yJ)),.c (.sl 5 (x.Book.map Entry.enc)),.c (.sl 4 (x.Passings.map Passing.enc)),.c (.i x.Start),.c (.i x.In),.c (.i x.Out)]),(2,.box [.c (.i 0),.nil 3,.nil 2,.nil 22,.nil 1,.nil 2,.nil 1,.c (.i 0),.c (.i 0),.nil 1,.nil 1,.nil 5,.nil 4,.c (.i 0),.c (.i 0),.c (.i 0)]),(3,.box [.c (.i x.Time),.own 13 3 x.Reaches.length,.own 33 2 x.Ways.length,.own 38 22 x.Works.length,.own 58 1 k,.c (.sl 2 (x.Arrived.map Train.enc)),.c (.sl 1 (x.Entered.map yJ)),.c (.i x.Tariff.Base),.c (.i x.Tariff.PerArea),.c (.sl 1 (x.Tariff.PerClass.map yJ)),.c (.sl 1 (x.Tariff.Weights.map yJ)),.c (.sl 5 (x.Book.map Entry.enc)),.c (.sl 4 (x.Passings.map Passing.enc)),.c (.i x.Start),.c (.i x.In),.c (.i x.Out)]),(13,.row 3 (x.Reaches.map Reach.enc)),(33,.row 2 (x.Ways.map Way.enc)),(38,.tr 22 0 (x.Works.map wE)),(58,Z),(67,.row 3 ((l.take i).map Mover.enc))]) (fun i=>l.length - i) 0 (by simp) (by apply yj <;> simp [Obj.leO,hz1,hz2,hz3]) ?_
  rintro i hi
  rcases Nat.lt_or_ge i l.length with ilt | ige
  ·obtain ⟨m,hm⟩ : ∃ m,l[i]? = some m:=⟨_,List.getElem?_eq_getElem ilt⟩
   have hms:=hls.2 m (List.mem_of_getElem? hm)
   have g2:=(List.getElem?_eq_some_iff.1 hm).2
   have hs3 : (l.map Mover.enc).take (i + 1) = (l.map Mover.enc).take i ++ [Mover.enc m]:=by rw [List.take_succ,List.getElem?_map,hm]; rfl
   simp -dsimp -implicitDefEqProofs [hl,hm,g1,g2,klt,yG klt,ilt,yG ilt]
   intro hlen2
   refine yS (yxF m hms) ?_
   simp -dsimp -implicitDefEqProofs [yt,Nat.min_eq_left hi]
   refine ⟨by omega,yw ilt hlen2,i + 1,ilt,by omega,?_⟩
   apply yj <;> simp [Obj.leO,hs3,hz1,hz2,hz3]
  have ei : i = l.length:=by omega
  subst ei
  simp -dsimp -implicitDefEqProofs [hl,g1,klt,yG klt,yt,hz2]
  intro _
  subst hZ
  rcases Nat.eq_zero_or_pos k with e0 | e0
  ·subst e0
   have hs3 : (x.Movers.map em).take 1 = [em l]:=by simpa using hs2
   simp -dsimp -implicitDefEqProofs [yt]
   refine ⟨by unfold inI; omega,1,klt,by omega,?_⟩
   apply yj <;> simp [Obj.leO,hs3,em]
  ·have hne : (k = 0) = False:=by simp; omega
   simp -dsimp -implicitDefEqProofs [hne,yt,Nat.min_eq_left hk]
   refine ⟨by omega,yw klt hlen,k + 1,klt,by omega,?_⟩
   apply yj <;> simp [Obj.leO,hs2,em]
 have ek : k = x.Movers.length:=by omega
 subst ek
 simp -dsimp -implicitDefEqProofs [yt]
 intro _
 have hif : (if x.Movers = [] then Obj.row 1 [] else .tr 1 0 (x.Movers.map em)) = (if x.Movers.length = 0 then Obj.row 1 [] else .tr 1 0 (x.Movers.map em)):=by cases x.Movers <;> simp
 generalize hZ : (if x.Movers.length = 0 then Obj.row 1 [] else .tr 1 0 (x.Movers.map em)) = Z at hif
 have hz1 : Z.leO Z:=by rw [← hZ]; split <;> first | rfl | exact ⟨rfl,rfl⟩
 have hz2 : ∀ i,Z.kill i = Z:=by intro i; rw [← hZ]; split <;> rfl
 have hz3 : ∀ L,Z.ygy L = true:=by intro L; rw [← hZ]; split <;> rfl
 simp only [Obj.leO] at hz1
 simp only [Obj.ygy] at hz3
 refine yg (ι:=Nat) (fun k=>k ≤ x.Arrived.length) (fun k=>yO [(1,.box 1 0),(2,.box 2 0),(3,.box 3 0),(9,.c (.i k))] [(1,.box [.c (.i x.Time),.c (.sl 3 (x.Reaches.map Reach.enc)),.c (.sl 2 (x.Ways.map Way.enc)),.c (.sl 22 (x.Works.map Work.enc)),.c (.sl 1 (x.Movers.map yZ)),.c (.sl 2 (x.Arrived.map Train.enc)),.c (.sl 1 (x.Entered.map yJ)),.c (.i x.Tariff.Base),.c (.i x.Tariff.PerArea),.c (.sl 1 (x.Tariff.PerClass.map yJ)),.c (.sl 1 (x.Tariff.Weights.map yJ)),.c (.sl 5 (x.Book.map Entry.enc)),.c (.sl 4 (x.Passings.map Passing.enc)),.c (.i x.Start),.c (.i x.In),.c (.i x.Out)]),(2,.box [.c (.i 0),.nil 3,.nil 2,.nil 22,.nil 1,.nil 2,.nil 1,.c (.i 0),.c (.i 0),.nil 1,.nil 1,.nil 5,.nil 4,.c (.i 0),.c (.i 0),.c (.i 0)]),(3,.box [.c (.i x.Time),.own 13 3 x.Reaches.length,.own 33 2 x.Ways.length,.own 38 22 x.Works.length,.own 58 1 x.Movers.length,.own 96 2 k,.c (.sl 1 (x.Entered.map yJ)),.c (.i x.Tariff.Base),.c (.i x.Tariff.PerArea),.c (.sl 1 (x.Tariff.PerClass.map yJ)),.c (.sl 1 (x.Tariff.Weights.map yJ)),.c (.sl 5 (x.Book.map Entry.enc)),.c (.sl 4 (x.Passings.map Passing.enc)),.c (.i x.Start),.c (.i x.In),.c (.i x.Out)]),(13,.row 3 (x.Reaches.map Reach.enc)),(33,.row 2 (x.Ways.map Way.enc)),(38,.tr 22 0 (x.Works.map wE)),(58,Z),(96,.row 2 ((x.Arrived.take k).map Train.enc))]) (fun k=>x.Arrived.length - k) 0 (by simp) (by apply yj <;> simp [Obj.leO,hif,hz1,hz2,hz3]) ?_
 rintro k hk
 rcases Nat.lt_or_ge k x.Arrived.length with klt | kge
 ·obtain ⟨e1,he⟩ : ∃ e1,x.Arrived[k]? = some e1:=⟨_,List.getElem?_eq_getElem klt⟩
  have he2:=s5.2 e1 (List.mem_of_getElem? he)
  have g1:=(List.getElem?_eq_some_iff.1 he).2
  have hs2 : (x.Arrived.map Train.enc).take (k + 1) = (x.Arrived.map Train.enc).take k ++ [Train.enc e1]:=by rw [List.take_succ,List.getElem?_map,he]; rfl
  simp -dsimp -implicitDefEqProofs [he,g1,klt,yG klt]
  intro hlen
  refine yY (ygX e1 he2) ?_
  simp -dsimp -implicitDefEqProofs [he,g1,klt,yG klt,yt,Nat.min_eq_left hk,yeh]
  refine ⟨by omega,yw klt hlen,k + 1,klt,by omega,?_⟩
  apply yj <;> simp [Obj.leO,hif,hz1,hz2,hz3,hs2]
 have ek : k = x.Arrived.length:=by omega
 subst ek
 simp -dsimp -implicitDefEqProofs [yt]
 intro _
 refine ⟨by omega,by omega,by omega,by omega,?_⟩
 refine yg (ι:=Nat) (fun k=>k ≤ x.Passings.length) (fun k=>yO [(1,.box 1 0),(2,.box 2 0),(3,.box 3 0),(10,.c (.i k))] [(1,.box [.c (.i x.Time),.c (.sl 3 (x.Reaches.map Reach.enc)),.c (.sl 2 (x.Ways.map Way.enc)),.c (.sl 22 (x.Works.map Work.enc)),.c (.sl 1 (x.Movers.map yZ)),.c (.sl 2 (x.Arrived.map Train.enc)),.c (.sl 1 (x.Entered.map yJ)),.c (.i x.Tariff.Base),.c (.i x.Tariff.PerArea),.c (.sl 1 (x.Tariff.PerClass.map yJ)),.c (.sl 1 (x.Tariff.Weights.map yJ)),.c (.sl 5 (x.Book.map Entry.enc)),.c (.sl 4 (x.Passings.map Passing.enc)),.c (.i x.Start),.c (.i x.In),.c (.i x.Out)]),(2,.box [.c (.i 0),.nil 3,.nil 2,.nil 22,.nil 1,.nil 2,.nil 1,.c (.i 0),.c (.i 0),.nil 1,.nil 1,.nil 5,.nil 4,.c (.i 0),.c (.i 0),.c (.i 0)]),(3,.box [.c (.i x.Time),.own 13 3 x.Reaches.length,.own 33 2 x.Ways.length,.own 38 22 x.Works.length,.own 58 1 x.Movers.length,.own 96 2 x.Arrived.length,.own 116 1 x.Entered.length,.c (.i x.Tariff.Base),.c (.i x.Tariff.PerArea),.own 121 1 x.Tariff.PerClass.length,.own 128 1 x.Tariff.Weights.length,.own 135 5 x.Book.length,.own 140 4 k,.c (.i x.Start),.c (.i x.In),.c (.i x.Out)]),(13,.row 3 (x.Reaches.map Reach.enc)),(33,.row 2 (x.Ways.map Way.enc)),(38,.tr 22 0 (x.Works.map wE)),(58,Z),(96,.row 2 (x.Arrived.map Train.enc)),(116,.row 1 (x.Entered.map yJ)),(121,.row 1 (x.Tariff.PerClass.map yJ)),(128,.row 1 (x.Tariff.Weights.map yJ)),(135,.row 5 (x.Book.map Entry.enc)),(140,.row 4 ((x.Passings.take k).map Passing.enc))]) (fun k=>x.Passings.length - k) 0 (by simp) (by apply yj <;> simp [Obj.leO,hif,hz1,hz2,hz3]) ?_
 rintro k hk
 rcases Nat.lt_or_ge k x.Passings.length with klt | kge
 ·obtain ⟨e1,he⟩ : ∃ e1,x.Passings[k]? = some e1:=⟨_,List.getElem?_eq_getElem klt⟩
  have he2:=s9.2 e1 (List.mem_of_getElem? he)
  have g1:=(List.getElem?_eq_some_iff.1 he).2
  have hs2 : (x.Passings.map Passing.enc).take (k + 1) = (x.Passings.map Passing.enc).take k ++ [Passing.enc e1]:=by rw [List.take_succ,List.getElem?_map,he]; rfl
  simp -dsimp -implicitDefEqProofs [he,g1,klt,yG klt]
  intro hlen
  refine yS (ygX e1.Train he2) ?_
  simp -dsimp -implicitDefEqProofs [he,g1,klt,yG klt,yt,Nat.min_eq_left hk,yeh]
  refine ⟨by omega,yw klt hlen,k + 1,klt,by omega,?_⟩
  apply yj <;> simp [Obj.leO,hif,hz1,hz2,hz3,hs2]
 have ek : k = x.Passings.length:=by omega
 subst ek
 simp -dsimp -implicitDefEqProofs [yt]
 intro _
 subst hZ
 by_cases e : x.Movers.length = 0
 ·have e2 : x.Movers = []:=List.length_eq_zero_iff.1 e
  simp [Waterway.yRI,e2,yt]
 ·simp [Waterway.yRI,e,yt]
def yPu (x : Waterway) (W mr : List (List C)) (A : List Train) : List C:=[.i x.Time,.ow 3 (x.Reaches.map Reach.enc),.ow 2 (x.Ways.map Way.enc),.ot 22 W,.ot 1 mr,.ow 2 (A.map Train.enc),.ow 1 (x.Entered.map yJ),.i x.Tariff.Base,.i x.Tariff.PerArea,.ow 1 (x.Tariff.PerClass.map yJ),.ow 1 (x.Tariff.Weights.map yJ),.ow 5 (x.Book.map Entry.enc),.ow 4 (x.Passings.map Passing.enc),.i x.Start,.i x.In,.i x.Out]
def wkE (W : List Work) : List (List C):=W.map wE
theorem yPi {W : List Work} : (wkE W).length = W.length:=by simp [wkE]
theorem yRl {W : List Work} {k : Nat} {w : Work} (h : W[k]? = some w) : (wkE W)[k]? = some (wE w):=by unfold wkE; rw [List.getElem?_map,h]; rfl
theorem yRK (W : List Work) : ykv (wkE W) = some (W.map Work.enc):=yag yRm W
theorem yRo {W : List Work} {j : Nat} {w : Work} {c : CallT} (h : W[j]? = some w) : setAt (setAt (wkE W) j 21 C.jk) j 21 (.ow 4 (w.Calls.map CallT.enc ++ [c.enc])) = wkE (yPp W j c):=by
 have hk:=yRl h
 have kl:=(List.getElem?_eq_some_iff.1 hk).1
 have gl:=(List.getElem?_eq_some_iff.1 hk).2
 have e : setAt (setAt (wkE W) j 21 C.jk) j 21 (.ow 4 (w.Calls.map CallT.enc ++ [c.enc])) = (wkE W).set j (wE ({ w with Calls:=w.Calls ++ [c] } : Work)):=by
  simp [setAt,gl,kl,wE,hk]
 rw [e]
 unfold yPp wkE
 rw [h]
 simp only [List.map_set]
def yPM (x : Waterway) (k : Nat) (t : Train) (W : List Work) : List Work:=if yPj x k t then W else if noRoom W (yPz k t) then W else yPp W (yPz k t) ⟨t,x.Time,-1⟩
def yP6 (x : Waterway) (k : Nat) (t : Train) (A : List Train) : List Train:=if yPj x k t then A ++ [t] else A
def yP3 (x : Waterway) (k : Nat) (t : Train) (W : List Work) : Bool:=yPj x k t || !noRoom W (yPz k t)
def yPo (x : Waterway) (w m a : Nat) : List AV:=[.c (.i x.Time),.own 20000 3 x.Reaches.length,.own 30000 2 x.Ways.length,.own 40000 22 w,.own 50000 1 m,.own 60000 2 a,.own 70000 1 x.Entered.length,.c (.i x.Tariff.Base),.c (.i x.Tariff.PerArea),.own 100000 1 x.Tariff.PerClass.length,.own 110000 1 x.Tariff.Weights.length,.own 120000 5 x.Book.length,.own 130000 4 x.Passings.length,.c (.i x.Start),.c (.i x.In),.c (.i x.Out)]
set_option maxHeartbeats 4000000 in
set_option maxRecDepth 20000 in
theorem yRu (x : Waterway) (hF : SailFacts x) (k : Nat) (t : Train) (W : List Work) (mr : List (List C)) (A : List Train) (hk : k < x.Reaches.length) (hWl : W.length = x.Works.length) (hW : yc8 W) (hA : A.length ≤ 1000000) :
 InF Tryz.prog 57 (.c (.bx (yPu x (wkE W) mr A))) (.c (.bx (yPu x (wkE (yPM x k t W)) mr (yP6 x k t A)))) [.c (.i k),.agg (t.enc.map .c)] (.c (.b (yP3 x k t W))):=by
 have htw : List.take W.length (wkE W) = wkE W:=List.take_of_length_le (by rw [yPi]; omega)
 have hta : List.take A.length (A.map Train.enc) = A.map Train.enc:=List.take_of_length_le (by simp)
 have f1:=hF.two; have f2:=hF.six; have f3:=hF.wks
 refine yRR yQH (by simp) (by simp [yPu]) rfl fun hwf=>?_
 cases hu : t.Up with
 | true =>
  by_cases k0 : k = 0
  ·have z1 : ((k : Int) = 0) = True:=by simp [k0]
   have z2 : (k = 0) = True:=by simp [k0]
   have hle : yPj x k t = true:=by simp [yPj,hu,k0]
   simp only [yPM,yP6,yP3,hle,if_true,Bool.true_or]
   simp -dsimp -implicitDefEqProofs [yPk,yPu,hu,z1,z2]
   refine ⟨by omega,by simp -dsimp -implicitDefEqProofs,⟨yPo x (wkE W).length mr.length (A.length + 1),[20000,30000,40000,50000,60000,70000,100000,110000,120000,130000],by simp -dsimp -implicitDefEqProofs [yPo],?_,by decide⟩,by simp -dsimp -implicitDefEqProofs⟩
   simp -dsimp -implicitDefEqProofs [yPo,yt]
   exact List.take_of_length_le (by simp)
  ·have z1 : ((k : Int) = 0) = False:=by simp; omega
   have z2 : (k = 0) = False:=by simp [k0]
   have hle : yPj x k t = false:=by simp [yPj,hu,k0]
   obtain ⟨j,hj⟩ : ∃ j,j = k - 1:=⟨_,rfl⟩
   have ej : ((k : Int) - 1) = (j : Int):=by omega
   have hlj : yPz k t = j:=by simp [yPz,hu,hj]
   obtain ⟨wj,hwj⟩ : ∃ wj,W[j]? = some wj:=⟨_,List.getElem?_eq_getElem (by omega)⟩
   have aw:=yRl hwj
   simp only [wE] at aw
   have gaw:=(List.getElem?_eq_some_iff.1 aw).2
   have jlt : j < x.Works.length:=by omega
   have hcs:=(hW.2 wj (List.mem_of_getElem? hwj)).2.2.1
   by_cases hroom : 24 ≤ wj.Calls.length
   ·have z3 : ((24 : Int) ≤ (wj.Calls.length : Int)) = True:=by simp; omega
    have hnr : noRoom W j = true:=by simp [noRoom,hwj,hroom]
    simp only [yPM,yP6,yP3,hle,hlj,hnr,if_true,Bool.false_eq_true,if_false,Bool.not_true,Bool.or_false]
    simp -dsimp -implicitDefEqProofs [yPk,yPu,hu,z1,z2,z3,aw,gaw,yPi,hWl,jlt,ej]
    refine ⟨by unfold inI; omega,fun _=>⟨by simp -dsimp -implicitDefEqProofs,⟨yPo x W.length mr.length A.length,[20000,30000,40000,50000,60000,70000,100000,110000,120000,130000],by simp -dsimp -implicitDefEqProofs [yPo,hWl,yPi],?_,by decide⟩,by simp -dsimp -implicitDefEqProofs⟩⟩
    simp -dsimp -implicitDefEqProofs [yPo,yt,htw,hta]
   ·have z3 : ((24 : Int) ≤ (wj.Calls.length : Int)) = False:=by simp; omega
    have hnr : noRoom W j = false:=by simp [noRoom,hwj,hroom]
    have htk : List.take (wj.Calls.length + 1) (wj.Calls.map CallT.enc ++ [[.b true,.sl 1 (t.Rows.map yai),.i x.Time,.i (-1)]]) = wj.Calls.map CallT.enc ++ [[.b true,.sl 1 (t.Rows.map yai),.i x.Time,.i (-1)]]:=List.take_of_length_le (by simp)
    simp only [yPM,yP6,yP3,hle,hlj,hnr,Bool.false_eq_true,if_false,Bool.not_false,Bool.or_true]
    simp -dsimp -implicitDefEqProofs [yPk,yPu,hu,z1,z2,z3,aw,gaw,yPi,hWl,jlt,ej]
    have hput:=@yRo W j wj ⟨t,x.Time,-1⟩ hwj
    simp only [CallT.enc,hu] at hput
    refine ⟨by unfold inI; omega,fun _=>⟨by omega,by simp [setAt,yPi,hWl,jlt],by simp -dsimp -implicitDefEqProofs,⟨yPo x W.length mr.length A.length,[20000,30000,40000,50000,60000,70000,100000,110000,120000,130000],by simp -dsimp -implicitDefEqProofs [yPo,hWl,yPi],?_,by decide⟩,by simp -dsimp -implicitDefEqProofs⟩⟩
    simp -dsimp -implicitDefEqProofs [yPo,yt,htk,hput,hta]
    exact List.take_of_length_le (by rw [yPi,yPw]; omega)
 | false =>
  by_cases k0 : k + 1 = x.Reaches.length
  ·have z1 : ((k : Int) = (x.Reaches.length : Int) - 1) = True:=by simp; omega
   have z2 : (k + 1 = x.Reaches.length) = True:=by simp [k0]
   have hle : yPj x k t = true:=by simp [yPj,hu,k0]
   simp only [yPM,yP6,yP3,hle,if_true,Bool.true_or]
   simp -dsimp -implicitDefEqProofs [yPk,yPu,hu,z1,z2]
   refine fun _=>⟨by unfold inI; omega,by omega,by simp -dsimp -implicitDefEqProofs,⟨yPo x (wkE W).length mr.length (A.length + 1),[20000,30000,40000,50000,60000,70000,100000,110000,120000,130000],by simp -dsimp -implicitDefEqProofs [yPo],?_,by decide⟩,by simp -dsimp -implicitDefEqProofs⟩
   simp -dsimp -implicitDefEqProofs [yPo,yt]
   exact List.take_of_length_le (by simp)
  ·have z1 : ((k : Int) = (x.Reaches.length : Int) - 1) = False:=by simp; omega
   have z2 : (k + 1 = x.Reaches.length) = False:=by simp [k0]
   have hle : yPj x k t = false:=by simp [yPj,hu,k0]
   have hlj : yPz k t = k:=by simp [yPz,hu]
   obtain ⟨wj,hwj⟩ : ∃ wj,W[k]? = some wj:=⟨_,List.getElem?_eq_getElem (by omega)⟩
   have aw:=yRl hwj
   simp only [wE] at aw
   have gaw:=(List.getElem?_eq_some_iff.1 aw).2
   have jlt : k < x.Works.length:=by omega
   have hcs:=(hW.2 wj (List.mem_of_getElem? hwj)).2.2.1
   by_cases hroom : 24 ≤ wj.Calls.length
   ·have z3 : ((24 : Int) ≤ (wj.Calls.length : Int)) = True:=by simp; omega
    have hnr : noRoom W k = true:=by simp [noRoom,hwj,hroom]
    simp only [yPM,yP6,yP3,hle,hlj,hnr,if_true,Bool.false_eq_true,if_false,Bool.not_true,Bool.or_false]
    simp -dsimp -implicitDefEqProofs [yPk,yPu,hu,z1,z2,z3,aw,gaw,yPi,hWl,jlt]
    refine fun _=>⟨by unfold inI; omega,fun _=>⟨by simp -dsimp -implicitDefEqProofs,⟨yPo x W.length mr.length A.length,[20000,30000,40000,50000,60000,70000,100000,110000,120000,130000],by simp -dsimp -implicitDefEqProofs [yPo,hWl,yPi],?_,by decide⟩,by simp -dsimp -implicitDefEqProofs⟩⟩
    simp -dsimp -implicitDefEqProofs [yPo,yt,htw,hta]
   ·have z3 : ((24 : Int) ≤ (wj.Calls.length : Int)) = False:=by simp; omega
    have hnr : noRoom W k = false:=by simp [noRoom,hwj,hroom]
    have htk : List.take (wj.Calls.length + 1) (wj.Calls.map CallT.enc ++ [[.b false,.sl 1 (t.Rows.map yai),.i x.Time,.i (-1)]]) = wj.Calls.map CallT.enc ++ [[.b false,.sl 1 (t.Rows.map yai),.i x.Time,.i (-1)]]:=List.take_of_length_le (by simp)
    simp only [yPM,yP6,yP3,hle,hlj,hnr,Bool.false_eq_true,if_false,Bool.not_false,Bool.or_true]
    simp -dsimp -implicitDefEqProofs [yPk,yPu,hu,z1,z2,z3,aw,gaw,yPi,hWl,jlt]
    have hput:=@yRo W k wj ⟨t,x.Time,-1⟩ hwj
    simp only [CallT.enc,hu] at hput
    refine fun _=>⟨by unfold inI; omega,fun _=>⟨by omega,by simp [setAt,yPi,hWl,jlt],by simp -dsimp -implicitDefEqProofs,⟨yPo x W.length mr.length A.length,[20000,30000,40000,50000,60000,70000,100000,110000,120000,130000],by simp -dsimp -implicitDefEqProofs [yPo,hWl,yPi],?_,by decide⟩,by simp -dsimp -implicitDefEqProofs⟩⟩
    simp -dsimp -implicitDefEqProofs [yPo,yt,htk,hput,hta]
    exact List.take_of_length_le (by rw [yPi,yPw]; omega)
theorem yQ2 (m : Mover) (w : Way) (r : Reach) (hm : m.small) : yB Tryz.prog 55 [.agg (m.enc.map .c),.agg (w.enc.map .c),.agg (r.enc.map .c)] (.agg ((yPd m w r).enc.map .c)):=by
 refine yh yQt ?_
 simp -dsimp -implicitDefEqProofs
 refine yS (yxF m hm) ?_
 simp -dsimp -implicitDefEqProofs
 refine yc (yk6 m w hm) ?_
 cases h1 : ybk m w with
 | false=>simp -dsimp -implicitDefEqProofs; simp [yPd,h1]
 | true =>
  simp -dsimp -implicitDefEqProofs
  refine yc (ybX r) ?_
  cases h2 : yR r with
  | false=>simp -dsimp -implicitDefEqProofs; simp [yPd,h2]
  | true =>
   simp -dsimp -implicitDefEqProofs
   refine yaC (yQ0 w r) ?_
   simp -dsimp -implicitDefEqProofs
   refine yaC (yRg m.Train (yPl w r) hm) ?_
   have hp:=yQq m.Train (yPl w r)
   have hf:=yQn h1
   cases hu : m.Train.Up with
   | true =>
    simp -dsimp -implicitDefEqProofs [hu]
    refine ⟨by unfold inI; omega,?_⟩
    simp [yPd,h1,h2,yPQ,hu]
   | false =>
    simp -dsimp -implicitDefEqProofs [hu]
    refine ⟨by unfold inI; omega,?_⟩
    simp [yPd,h1,h2,yPQ,hu]
def yPs (D M : List (List Mover)) : List (List C):=(D ++ M).map yZ
theorem yRb {D M : List (List Mover)} {k : Nat} {l : List Mover} (hd : D.length = k) (h : M[0]? = some l) : (yPs D M)[k]? = some [.sl 3 (l.map Mover.enc)]:=by
 subst hd
 unfold yPs
 rw [List.getElem?_map,List.getElem?_append_right (Nat.le_refl _),Nat.sub_self,h]; rfl
theorem yQR (D M : List (List Mover)) : ykv (yPs D M) = some (yPs D M):=yOT (D ++ M)
theorem yRw {D M : List (List Mover)} {k : Nat} {l L : List Mover} (hd : D.length = k) (h : M[0]? = some l) : ykv (setAt (yPs D M) k 0 (.ow 3 (L.map Mover.enc))) = some (yPs (D ++ [L]) (M.drop 1)):=by
 have hk:=yRb hd h
 have kl:=(List.getElem?_eq_some_iff.1 hk).1
 have gl:=(List.getElem?_eq_some_iff.1 hk).2
 have e : setAt (yPs D M) k 0 (.ow 3 (L.map Mover.enc)) = (yPs D M).set k [.ow 3 (L.map Mover.enc)]:=by simp [setAt,gl,kl,hk]
 rw [e,yO1 (yQR D M) (s:=yZ L) rfl k]
 subst hd
 cases M with
 | nil=>cases h
 | cons a M =>
  unfold yPs
  simp [List.map_append,List.set_append_right]
theorem yQV {x : Waterway} {k : Nat} {w : Way} {q : yPL} {m : Mover} (h : AtEnd m w = true) : yPb x k w q m = (if yP3 x k m.Train q.2.1 then q.1 else q.1 ++ [m],yPM x k m.Train q.2.1,yP6 x k m.Train q.2.2):=by
 unfold yPb yP3 yPM yP6
 rw [if_pos h]
 cases yPj x k m.Train with
 | true=>simp
 | false =>
  cases noRoom q.2.1 (yPz k m.Train) with
  | true=>simp
  | false=>simp
def xsS (x : Waterway) (a : Nat) : List AV:=[.c (.i x.Time),.own 20009 3 x.Reaches.length,.own 30009 2 x.Ways.length,.own 40009 22 x.Works.length,.own 50009 1 x.Movers.length,.own 60009 2 a,.own 70009 1 x.Entered.length,.c (.i x.Tariff.Base),.c (.i x.Tariff.PerArea),.own 100009 1 x.Tariff.PerClass.length,.own 110009 1 x.Tariff.Weights.length,.own 120009 5 x.Book.length,.own 130009 4 x.Passings.length,.c (.i x.Start),.c (.i x.In),.c (.i x.Out)]
set_option maxHeartbeats 4000000 in
set_option maxRecDepth 40000 in
theorem yQS (x : Waterway) (hs : x.small) : yB Tryz.prog 11 [.agg (x.enc.map .c)] (.agg ((yPf x).enc.map .c)):=by
 have hco:=yRr x hs
 simp only [Waterway.yRI] at hco
 have hW:=ym6 x hs
 refine yh yQA ?_
 simp -dsimp -implicitDefEqProofs
 refine yjo hco (by simp) rfl (by simp [yU,em]) ?_
 simp -dsimp -implicitDefEqProofs [yt]
 refine yaQ (hW) (by simp -dsimp -implicitDefEqProofs) rfl ?_
 cases hok : yar x with
 | false =>
  have e : yPf x = x:=by simp [yPf,hok]
  rw [e]
  simp -dsimp -implicitDefEqProofs [yt,yag ywd,yag yRm]
 | true =>
 have F:=yPK hok
 have f1:=F.two; have f2:=F.six; have f3:=F.ways; have f4:=F.mvs; have f5:=F.wks
 obtain ⟨res,hres⟩ : ∃ r,yPf x = r:=⟨_,rfl⟩
 rw [hres]
 simp -dsimp -implicitDefEqProofs
 have hro0 : yPs [] x.Movers = x.Movers.map yZ:=by simp [yPs]
 refine yg (ι:=Nat) (fun k=>k ≤ x.Movers.length) (fun k=>yO [(1,.box 1 0),(2,.box 2 0),(3,.box 3 0),(4,.c (.i k))] [(1,.box (x.enc.map .c)),(2,.box [.c (.i 0),.nil 3,.nil 2,.nil 22,.nil 1,.nil 2,.nil 1,.c (.i 0),.c (.i 0),.nil 1,.nil 1,.nil 5,.nil 4,.c (.i 0),.c (.i 0),.c (.i 0)]),(3,.box (xsS x ((yPa x k).2.2).length)),(20009,.row 3 (x.Reaches.map Reach.enc)),(30009,.row 2 (x.Ways.map Way.enc)),(40009,.tr 22 0 (wkE (yPa x k).2.1)),(50009,.tr 1 0 (yPs (yPa x k).1 (x.Movers.drop k))),(60009,.row 2 (((yPa x k).2.2).map Train.enc)),(70009,.row 1 (x.Entered.map yJ)),(100009,.row 1 (x.Tariff.PerClass.map yJ)),(110009,.row 1 (x.Tariff.Weights.map yJ)),(120009,.row 5 (x.Book.map Entry.enc)),(130009,.row 4 (x.Passings.map Passing.enc))]) (fun k=>x.Movers.length - k) 0 (by simp) (by refine yQa 50009 (k:=1) (v:=0) (rows:=x.Movers.map em) (by simp) (yag ywd x.Movers) ?_; apply yj <;> simp [Obj.leO,yPa,wkE,hro0,xsS]) ?_
 rintro k hk
 have T:=yPy F hs k hk
 have hls : (yPs (yPa x k).1 (x.Movers.drop k)).length = x.Movers.length:=by simp [yPs,T.len]; omega
 rcases Nat.lt_or_ge k x.Movers.length with klt | kge
 ·obtain ⟨w,hw⟩ : ∃ w,x.Ways[k]? = some w:=⟨_,List.getElem?_eq_getElem (by omega)⟩
  obtain ⟨r,hr⟩ : ∃ r,x.Reaches[k]? = some r:=⟨_,List.getElem?_eq_getElem (by omega)⟩
  obtain ⟨ms,hms⟩ : ∃ ms,x.Movers[k]? = some ms:=⟨_,List.getElem?_eq_getElem (by omega)⟩
  have gw:=(List.getElem?_eq_some_iff.1 hw).2
  have gr:=(List.getElem?_eq_some_iff.1 hr).2
  have klw : k < x.Ways.length:=by omega
  have klr : k < x.Reaches.length:=by omega
  have hm0 : (x.Movers.drop k)[0]? = some ms:=by rw [List.getElem?_drop]; simpa using hms
  have hmr:=yRb T.len hm0
  have gmr:=(List.getElem?_eq_some_iff.1 hmr).2
  have hsm : ∀ m ∈ ms,m.small:=(hs.2.2.2.1.2 ms (List.mem_of_getElem? hms)).2
  have h24:=F.few k ms hms
  have hll : ms.length ≤ maxLen:=by unfold maxLen; omega
  simp -dsimp -implicitDefEqProofs [yG klt,xsS]
  intro hlen
  refine yg (ι:=Nat) (fun i=>i ≤ ms.length) (fun i=>yO [(1,.box 1 0),(2,.box 2 0),(3,.box 3 0),(4,.c (.i k)),(5,.own 21 3 (yPc x k w r (yPa x k).2 (ms.take i)).1.length),(6,.c (.i i))] [(1,.box (x.enc.map .c)),(2,.box [.c (.i 0),.nil 3,.nil 2,.nil 22,.nil 1,.nil 2,.nil 1,.c (.i 0),.c (.i 0),.nil 1,.nil 1,.nil 5,.nil 4,.c (.i 0),.c (.i 0),.c (.i 0)]),(3,.box (xsS x ((yPc x k w r (yPa x k).2 (ms.take i)).2.2).length)),(20009,.row 3 (x.Reaches.map Reach.enc)),(30009,.row 2 (x.Ways.map Way.enc)),(40009,.tr 22 0 (wkE (yPc x k w r (yPa x k).2 (ms.take i)).2.1)),(50009,.tr 1 0 (yPs (yPa x k).1 (x.Movers.drop k))),(60009,.row 2 (((yPc x k w r (yPa x k).2 (ms.take i)).2.2).map Train.enc)),(70009,.row 1 (x.Entered.map yJ)),(100009,.row 1 (x.Tariff.PerClass.map yJ)),(110009,.row 1 (x.Tariff.Weights.map yJ)),(120009,.row 5 (x.Book.map Entry.enc)),(130009,.row 4 (x.Passings.map Passing.enc)),(21,.row 3 ((yPc x k w r (yPa x k).2 (ms.take i)).1.map Mover.enc))]) (fun i=>ms.length - i) 0 (by simp) (by apply yj <;> simp [Obj.leO,yPc,xsS]) ?_
  rintro i hi
  obtain ⟨LS,LL⟩:=yP8 (w:=w) (r:=r) hs T (ms:=ms.take i) (fun m h=>hsm m (List.mem_of_mem_take h))
  obtain ⟨q,hq⟩ : ∃ q,yPc x k w r (yPa x k).2 (ms.take i) = q:=⟨_,rfl⟩
  rw [hq] at LS LL
  have hal : q.2.2.length ≤ 2000:=by
   have e1:=LS.arr.1
   have e2 : (ms.take i).length ≤ 24:=by simp; omega
   omega
  have hl1 : q.1.length ≤ 24:=Nat.le_trans LS.rest.1 (by simp; omega)
  rcases Nat.lt_or_ge i ms.length with ilt | ige
  ·obtain ⟨m,hm⟩ : ∃ m,ms[i]? = some m:=⟨_,List.getElem?_eq_getElem ilt⟩
   have gm:=(List.getElem?_eq_some_iff.1 hm).2
   have hsuc:=yP5 (x:=x) (k:=k) (w:=w) (r:=r) (s:=(yPa x k).2) hm
   have hcall:=yQ2 m w r (hsm m (List.mem_of_getElem? hm))
   have hsm' : (yPd m w r).small:=yPD (hsm m (List.mem_of_getElem? hm))
   obtain ⟨m',hm'⟩ : ∃ m',yPd m w r = m':=⟨_,rfl⟩
   rw [hm'] at hsuc hcall hsm'
   rw [hq] at hsuc
   have hat:=yRk m' w hsm'
   have htw2 : List.take x.Works.length (wkE q.2.1) = wkE q.2.1:=List.take_of_length_le (by rw [yPi]; omega)
   have htm : List.take x.Movers.length (yPs (yPa x k).1 (x.Movers.drop k)) = yPs (yPa x k).1 (x.Movers.drop k):=List.take_of_length_le (by rw [hls]; exact Nat.le_refl _)
   simp -dsimp -implicitDefEqProofs [hq,hmr,gmr,hls,klt,yG ilt,hm,gm,ilt,hw,gw,hr,gr,klw,klr,xsS]
   intro hlen2
   refine ya2 (hcall) (by simp -dsimp -implicitDefEqProofs) (.inl rfl) ?_
   simp -dsimp -implicitDefEqProofs [hw,gw,klw,hls,klt,xsS,hq]
   refine ya2 (hat) (by simp -dsimp -implicitDefEqProofs) (.inr rfl) ?_
   cases hae : AtEnd m' w with
   | false =>
    have hs1 : yPb x k w q m' = (q.1 ++ [m'],q.2):=by simp [yPb,hae]
    rw [hs1] at hsuc
    simp -dsimp -implicitDefEqProofs
    refine yRn (by simp -dsimp -implicitDefEqProofs) ?_
    simp -dsimp -implicitDefEqProofs [xsS,hq]
    refine ⟨by omega,yw ilt hlen2,i + 1,ilt,by omega,?_⟩
    apply yj <;> simp [Obj.leO,hsuc,hq,xsS]
   | true =>
    have hs1:=yQV (x:=x) (k:=k) (q:=q) hae
    rw [hs1] at hsuc
    simp -dsimp -implicitDefEqProofs
    refine yRy (by simp -dsimp -implicitDefEqProofs) (fun K2 hK2=>yRC 9 (xs:=xsS x q.2.2.length) (ids:=[20009,30009,40009,50009,60009,70009,100009,110009,120009,130009]) (yRu x F k m'.Train q.2.1 (yPs (yPa x k).1 (x.Movers.drop k)) q.2.2 klr LL LS.works (by omega)) (by simp -dsimp -implicitDefEqProofs [xsS,hq]) (by simp -dsimp -implicitDefEqProofs [xsS,hq,yPu,yt,htw2,htm]) (by decide) (by simp -dsimp -implicitDefEqProofs) rfl rfl (by simp [yU,yPu]) hK2) ?_
    have hlw : (yPM x k m'.Train q.2.1).length = x.Works.length:=by unfold yPM; split; exact LL; split; exact LL; rw [yPw]; exact LL
    generalize yPM x k m'.Train q.2.1 = W' at *
    generalize yP6 x k m'.Train q.2.2 = A' at *
    generalize yP3 x k m'.Train q.2.1 = B' at *
    cases B' with
    | true =>
     simp only [if_true] at hsuc
     simp -dsimp -implicitDefEqProofs [yPu,xsS,hq,yPi,hlw,hls]
     refine ⟨yw ilt hlen2,i + 1,ilt,by omega,?_⟩
     apply yj <;> simp [Obj.leO,hsuc,hq,xsS,yPu,yPi,hlw,hls]
    | false =>
     simp only [Bool.false_eq_true,if_false] at hsuc
     simp -dsimp -implicitDefEqProofs [yPu,xsS,hq,yPi,hlw,hls]
     refine ⟨by omega,yw ilt hlen2,i + 1,ilt,by omega,?_⟩
     apply yj <;> simp [Obj.leO,hsuc,hq,xsS,yPu,yPi,hlw,hls]
  ·have hts:=yPC hw hr hms
   rw [List.take_of_length_le ige] at hq
   rw [hq] at hts
   have hpt:=yRw (L:=q.1) T.len hm0
   have htq : List.take q.1.length (q.1.map Mover.enc) = q.1.map Mover.enc:=List.take_of_length_le (by simp)
   simp -dsimp -implicitDefEqProofs [hq,hmr,gmr,hls,klt,yaB ige,List.take_of_length_le ige,xsS]
   refine fun _=>⟨yw klt hlen,k + 1,klt,by omega,?_⟩
   refine yQa 50009 (k:=1) (v:=1) (by simp [htq]) hpt ?_
   apply yj <;> simp [Obj.leO,hts,hq,xsS,List.take_of_length_le ige,List.drop_drop]
 ·obtain rfl : k = x.Movers.length:=by omega
  have hes:=yPH F hs
  have hV:=ym6 (yPv x) hes
  rw [yQI] at hV
  have hdr : x.Movers.drop x.Movers.length = []:=List.drop_eq_nil_of_le (Nat.le_refl _)
  have htw : List.take x.Works.length (wkE (yPa x x.Movers.length).2.1) = wkE (yPa x x.Movers.length).2.1:=List.take_of_length_le (by rw [yPi,T.wlen]; omega)
  have hsw:=yRK (yPa x x.Movers.length).2.1
  rw [hdr] at hls
  have hsr:=yQR (yPa x x.Movers.length).1 []
  have htr : List.take x.Movers.length (yPs (yPa x x.Movers.length).1 []) = yPs (yPa x x.Movers.length).1 []:=List.take_of_length_le (by rw [hls]; exact Nat.le_refl _)
  have hrm : yPs (yPa x x.Movers.length).1 [] = (yPa x x.Movers.length).1.map yZ:=by simp [yPs]
  simp -dsimp -implicitDefEqProofs [yaB kge,xsS,hdr]
  intro _
  rw [← hrm] at hV
  refine yaQ (hV) (by simp -dsimp -implicitDefEqProofs [yt,htw,hsw,hsr,htr]) rfl ?_
  cases hv : yar (yPv x) with
  | false =>
   have e : res = x:=by rw [← hres]; simp [yPf,hv]
   rw [e]
   simp -dsimp -implicitDefEqProofs
   refine yjo hco (by simp) rfl (by simp [yU,em]) ?_
   simp -dsimp -implicitDefEqProofs [yt,yag ywd,yag yRm]
  | true =>
   have e : res = yPv x:=by rw [← hres]; simp [yPf,hok,hv]
   rw [e]
   simp -dsimp -implicitDefEqProofs [yPv,← hrm,htw,hsw,hsr,htr,yt]
theorem yQK {x : Waterway} (hs : x.small) : (yPf x).small:=by
 unfold yPf
 split
 ·rename_i h
  simp only [Bool.and_eq_true] at h
  exact yPH (yPK h.1) hs
 ·exact hs
theorem yQX (x : Waterway) (hs : x.small) : ybh Tryz.prog 12 [.agg (x.enc.map .c)] (.agg ((yPf x).yI.map .c)):=by
 have hp:=yQK hs
 have hpc:=yRv x hs
 refine yan yQr ?_
 simp -dsimp -implicitDefEqProofs
 refine yS hpc ?_
 generalize yPf x = r at *
 simp -dsimp -implicitDefEqProofs
 refine yQ (ypi r hp) (by simp) (yb5 (Waterway.yad r)) (by simp [yU]) ?_
 simp -dsimp -implicitDefEqProofs [yt]
theorem yQ4 {α : Type} (f : α → Nat) (y w : α) : ∀ (xs : List α) (k : Nat),xs[k]? = some w → ((xs.set k y).map f).sum + f w = (xs.map f).sum + f y
 | [],k,h=>by simp at h
 | a :: l,0,h=>by simp at h; subst h; simp only [List.set_cons_zero,List.map_cons,List.sum_cons]; omega
 | a :: l,k + 1,h=>by have:=yQ4 f y w l k (by simpa using h); simp only [List.set_cons_succ,List.map_cons,List.sum_cons]; omega
theorem yPG {α : Type} (f : α → Nat) (l : List α) (a : α) : yd0 f (l ++ [a]) = yd0 f l + 1 + f a:=by
 simp only [yd0,List.map_append,List.sum_append,List.length_append,List.map_cons,List.map_nil,List.sum_cons,List.sum_nil,List.length_cons,List.length_nil]; omega
theorem yQ7 (W : List Work) (j : Nat) (c : CallT) : yeJ (yPp W j c) ≤ yeJ W + 1 + yiS c:=by
 unfold yPp
 cases h : W[j]? with
 | none=>simp only; omega
 | some w =>
  have e1:=yQ4 yg5 ({ w with Calls:=w.Calls ++ [c] } : Work) w W j h
  have e2 : yg5 ({ w with Calls:=w.Calls ++ [c] } : Work) = yg5 w + 1 + yiS c:=by
   have:=yPG yiS w.Calls c
   show ylq w.Lock + ykC w.Pauses + yl4 (w.Calls ++ [c]) = ylq w.Lock + ykC w.Pauses + yl4 w.Calls + 1 + yiS c
   unfold yl4
   omega
  simp only [yeJ,yd0,List.length_set]
  omega
def yPF (q : yPL) : Nat:=ygb q.1 + yeJ q.2.1 + yf0 q.2.2
theorem yRf (x : Waterway) (k : Nat) (w : Way) (q : yPL) (m : Mover) : yPF (yPb x k w q m) ≤ yPF q + 1 + yci m.Train:=by
 have a1:=yPG yhg q.1 m
 have a2:=yPG yci q.2.2 m.Train
 have a3:=yQ7 q.2.1 (yPz k m.Train) ⟨m.Train,x.Time,-1⟩
 have a4 : yhg m = yci m.Train:=rfl
 have a5 : yiS ⟨m.Train,x.Time,-1⟩ = yci m.Train:=rfl
 unfold yPb
 split
 ·split
  ·simp only [yPF,yf0,ygb]; omega
  ·split
   ·simp only [yPF,yf0,ygb]; omega
   ·simp only [yPF,yf0,ygb]; omega
 ·simp only [yPF,yf0,ygb]; omega
theorem yQe (x : Waterway) (k : Nat) (w : Way) (r : Reach) : ∀ (ms : List Mover) (q : yPL),yPF (ms.foldl (fun q m=>yPb x k w q (yPd m w r)) q) ≤ yPF q + ygb ms
 | [],q=>by simp [ygb,yd0]
 | m :: ms,q=>by
  have h1:=yQe x k w r ms (yPb x k w q (yPd m w r))
  have h2:=yRf x k w q (yPd m w r)
  rw [yP4] at h2
  have h3 : ygb (m :: ms) = ygb ms + 1 + yci m.Train:=by simp only [ygb,yd0,List.map_cons,List.sum_cons,List.length_cons,yhg]; omega
  rw [List.foldl_cons]
  omega
theorem yQu {x : Waterway} (F : SailFacts x) : ∀ k : Nat,k ≤ x.Movers.length → yiG (yPa x k).1 + yeJ (yPa x k).2.1 + yf0 (yPa x k).2.2 ≤ yiG (x.Movers.take k) + yeJ x.Works + yf0 x.Arrived
 | 0,_=>by simp [yPa]
 | k + 1,hk=>by
  have ih:=yQu F k (by omega)
  have f1:=F.ways; have f2:=F.mvs
  obtain ⟨w,hw⟩ : ∃ w,x.Ways[k]? = some w:=⟨_,List.getElem?_eq_getElem (by omega)⟩
  obtain ⟨r,hr⟩ : ∃ r,x.Reaches[k]? = some r:=⟨_,List.getElem?_eq_getElem (by omega)⟩
  obtain ⟨ms,hms⟩ : ∃ ms,x.Movers[k]? = some ms:=⟨_,List.getElem?_eq_getElem (by omega)⟩
  have e:=yPC hw hr hms
  have h1:=yQe x k w r ms ([],(yPa x k).2)
  have h2 : yPF ([],(yPa x k).2) = yeJ (yPa x k).2.1 + yf0 (yPa x k).2.2:=by simp [yPF,ygb,yd0]
  have h3 : x.Movers.take (k + 1) = x.Movers.take k ++ [ms]:=by rw [List.take_succ,hms]; rfl
  have h4:=yPG ygb (x.Movers.take k) ms
  have h5:=yPG ygb (yPa x k).1 (yPc x k w r (yPa x k).2 ms).1
  rw [e,h3]
  have h6 : yPF (yPc x k w r (yPa x k).2 ms) ≤ yPF ([],(yPa x k).2) + ygb ms:=h1
  generalize yPc x k w r (yPa x k).2 ms = q at *
  simp only [yPF,yiG] at *
  omega
theorem yQM (x : Waterway) (h : ycp x ≤ 1048576) : wm9 (yPf x) 1 ≤ 4000000000000000000:=by
 have h2 : ycp (yPf x) ≤ 1048576:=by
  unfold yPf
  split
  ·rename_i hc
   simp only [Bool.and_eq_true] at hc
   have:=yQu (yPK hc.1) x.Movers.length (Nat.le_refl _)
   rw [List.take_of_length_le (Nat.le_refl _)] at this
   have e1 : ycp (yPv x) = ydQ x.Reaches + yox x.Ways + yeJ (yPa x x.Movers.length).2.1 + yiG (yPa x x.Movers.length).1 + yf0 (yPa x x.Movers.length).2.2 + ydD x.Entered + yhC x.Tariff + ykt x.Book + yhy x.Passings:=rfl
   have e2 : ycp x = ydQ x.Reaches + yox x.Ways + yeJ x.Works + yiG x.Movers + yf0 x.Arrived + ydD x.Entered + yhC x.Tariff + ykt x.Book + yhy x.Passings:=rfl
   omega
  ·exact h
 have:=yAl (yPf x) 1
 omega
set_option maxRecDepth 40000 in
theorem yQi (x0 : Waterway) : yB Tryz.prog 4 [.agg (x0.enc.map .c)] (.c (.b true)):=by
 refine yh yPO ?_
 simp -dsimp -implicitDefEqProofs
 refine yc (yq5 x0 1048576 (by omega) (by omega)) ?_
 simp -dsimp -implicitDefEqProofs
 intro hsz0
 have hl0:=yzy yqh (by omega) (by omega) hsz0
 have ht:=ynf x0 1048576 (by omega) (by omega) hsz0
 have hwm:=yAl x0 1
 have hO:=yQX x0  hl0
 have hS:=yQS x0  hl0
 have hM:=yQM x0  (by omega)
 refine yS (yib x0 hl0) ?_
 simp -dsimp -implicitDefEqProofs
 refine yS hS ?_
 generalize yPf x0  = r at *
 simp -dsimp -implicitDefEqProofs
 refine yQ (ytB x0 hl0) (by simp) (yb5 (Waterway.yad x0)) (by simp [yU]) ?_
 simp -dsimp -implicitDefEqProofs
 have hP : yB Tryz.prog 12 [.agg (x0.enc.map .c)] (.agg (r.enc.map .c)):=hO.pure (by simp [AV.shr,AV.ysI,ybQ,C.shr,yag Reach.yaa,yag Work.yaa,yag ycu,yag Train.yaa,yag Passing.yaa])
 refine yQ hO (by simp -dsimp -implicitDefEqProofs [yt,yag Reach.yaa,yag Work.yaa,yag ycu,yag Train.yaa,yag Passing.yaa,yag CallT.yaa]) (yb5 (Waterway.yad r)) (by simp [yU]) ?_
 simp -dsimp -implicitDefEqProofs
 refine yaQ (yfL r r) (by simp -dsimp -implicitDefEqProofs [yt,yag Reach.yaa,yag Work.yaa,yag ycu,yag Train.yaa,yag Passing.yaa,yag CallT.yaa]) rfl ?_
 simp -dsimp -implicitDefEqProofs
 refine yyA (yib x0 hl0) ?_
 simp -dsimp -implicitDefEqProofs
 refine ⟨_,_,yfL x0 x0,by simp -dsimp -implicitDefEqProofs [yt,yag Reach.yaa,yag Work.yaa,yag ycu,yag Train.yaa,yag Passing.yaa,yag CallT.yaa],.inr rfl,?_⟩
 simp -dsimp -implicitDefEqProofs
 refine yg1 (ups:=[none,some (20020,.tr 3 1 (yaA ycQ yay 1 x0.Reaches)),some (30020,.row 2 (marked ydz 2 [] (wm1 x0 1) x0.Ways.length)),some (40020,.tr 22 1 (yaA ydH yaJ (wm2 x0 1) x0.Works)),some (50020,.tr 1 1 (yaA ycj yap (wm3 x0 1) x0.Movers)),some (60020,.tr 2 1 (yaA ybN yE (wm4 x0 1) x0.Arrived)),some (70020,.row 1 (marked yJ 1 [] (wm5 x0 1) x0.Entered.length)),none,none,some (100020,.row 1 (marked yJ 1 [] (wm6 x0 1) x0.Tariff.PerClass.length)),some (110020,.row 1 (marked yJ 1 [] (wm6 x0 1 + x0.Tariff.PerClass.length) x0.Tariff.Weights.length)),some (120020,.row 5 (marked yjL 5 [] (wm7 x0 1) x0.Book.length)),some (130020,.tr 4 1 (yaA ybL yae (wm8 x0 1) x0.Passings)),none,none,none]) (yi8 x0 1 (by omega) (by omega)) (by simp -dsimp -implicitDefEqProofs) rfl rfl
  ⟨yb6 rfl,yf9 (rows:=x0.Reaches.map Reach.yI) (by simp -dsimp -implicitDefEqProofs) rfl rfl rfl (by simp) (by simp [yH]) rfl rfl,ybY (rows:=x0.Ways.map Way.enc) (by simp -dsimp -implicitDefEqProofs) rfl rfl (by simp) (by simp [yM]) rfl rfl,yf9 (rows:=x0.Works.map Work.yI) (by simp -dsimp -implicitDefEqProofs) rfl rfl rfl (by simp) (by simp [yH]) rfl rfl,yf9 (rows:=x0.Movers.map yax) (by simp -dsimp -implicitDefEqProofs) rfl rfl rfl (by simp) (by simp [yH]) rfl rfl,yf9 (rows:=x0.Arrived.map Train.yI) (by simp -dsimp -implicitDefEqProofs) rfl rfl rfl (by simp) (by simp [yH]) rfl rfl,ybY (rows:=x0.Entered.map yJ) (by simp -dsimp -implicitDefEqProofs) rfl rfl (by simp) (by simp [yM]) rfl rfl,yb6 rfl,yb6 rfl,ybY (rows:=x0.Tariff.PerClass.map yJ) (by simp -dsimp -implicitDefEqProofs) rfl rfl (by simp) (by simp [yM]) rfl rfl,ybY (rows:=x0.Tariff.Weights.map yJ) (by simp -dsimp -implicitDefEqProofs) rfl rfl (by simp) (by simp [yM]) rfl rfl,ybY (rows:=x0.Book.map Entry.enc) (by simp -dsimp -implicitDefEqProofs) rfl rfl (by simp) (by simp [yM]) rfl rfl,yf9 (rows:=x0.Passings.map Passing.yI) (by simp -dsimp -implicitDefEqProofs) rfl rfl rfl (by simp) (by simp [yH]) rfl rfl,yb6 rfl,yb6 rfl,yb6 rfl,trivial⟩ (by simp [ydf]) ?_
 have w9 : 0 ≤ wm9 x0 1:=by have:=wkB x0 (k:=1) (by omega); obtain ⟨b0,b1,b2,b3,b4,b5,b6,b7,b8,b9⟩:=this; omega
 have n1 : (wm9 x0 1 < 0) = False:=by simp; omega
 simp -dsimp -implicitDefEqProofs [n1]
 refine yaQ (yfL r r) (by simp -dsimp -implicitDefEqProofs [yt,yag Reach.yaa,yag Work.yaa,yag ycu,yag Train.yaa,yag Passing.yaa,yag CallT.yaa]) rfl ?_
 simp -dsimp -implicitDefEqProofs
 refine yg1 (ups:=[none,some (20022,.tr 3 1 (yaA ycQ yay 1 r.Reaches)),some (30022,.row 2 (marked ydz 2 [] (wm1 r 1) r.Ways.length)),some (40022,.tr 22 1 (yaA ydH yaJ (wm2 r 1) r.Works)),some (50022,.tr 1 1 (yaA ycj yap (wm3 r 1) r.Movers)),some (60022,.tr 2 1 (yaA ybN yE (wm4 r 1) r.Arrived)),some (70022,.row 1 (marked yJ 1 [] (wm5 r 1) r.Entered.length)),none,none,some (100022,.row 1 (marked yJ 1 [] (wm6 r 1) r.Tariff.PerClass.length)),some (110022,.row 1 (marked yJ 1 [] (wm6 r 1 + r.Tariff.PerClass.length) r.Tariff.Weights.length)),some (120022,.row 5 (marked yjL 5 [] (wm7 r 1) r.Book.length)),some (130022,.tr 4 1 (yaA ybL yae (wm8 r 1) r.Passings)),none,none,none]) (yi8 r 1 (by omega) (by omega)) (by simp -dsimp -implicitDefEqProofs) rfl rfl
  ⟨yb6 rfl,yf9 (rows:=r.Reaches.map Reach.yI) (by simp -dsimp -implicitDefEqProofs) rfl rfl rfl (by simp) (by simp [yH]) rfl rfl,ybY (rows:=r.Ways.map Way.enc) (by simp -dsimp -implicitDefEqProofs) rfl rfl (by simp) (by simp [yM]) rfl rfl,yf9 (rows:=r.Works.map Work.yI) (by simp -dsimp -implicitDefEqProofs) rfl rfl rfl (by simp) (by simp [yH]) rfl rfl,yf9 (rows:=r.Movers.map yax) (by simp -dsimp -implicitDefEqProofs) rfl rfl rfl (by simp) (by simp [yH]) rfl rfl,yf9 (rows:=r.Arrived.map Train.yI) (by simp -dsimp -implicitDefEqProofs) rfl rfl rfl (by simp) (by simp [yH]) rfl rfl,ybY (rows:=r.Entered.map yJ) (by simp -dsimp -implicitDefEqProofs) rfl rfl (by simp) (by simp [yM]) rfl rfl,yb6 rfl,yb6 rfl,ybY (rows:=r.Tariff.PerClass.map yJ) (by simp -dsimp -implicitDefEqProofs) rfl rfl (by simp) (by simp [yM]) rfl rfl,ybY (rows:=r.Tariff.Weights.map yJ) (by simp -dsimp -implicitDefEqProofs) rfl rfl (by simp) (by simp [yM]) rfl rfl,ybY (rows:=r.Book.map Entry.enc) (by simp -dsimp -implicitDefEqProofs) rfl rfl (by simp) (by simp [yM]) rfl rfl,yf9 (rows:=r.Passings.map Passing.yI) (by simp -dsimp -implicitDefEqProofs) rfl rfl rfl (by simp) (by simp [yH]) rfl rfl,yb6 rfl,yb6 rfl,yb6 rfl,trivial⟩ (by simp [ydf]) ?_
 have v9 : 0 ≤ wm9 r 1:=by have:=wkB r (k:=1) (by omega); obtain ⟨b0,b1,b2,b3,b4,b5,b6,b7,b8,b9⟩:=this; omega
 have n2 : (wm9 r 1 < 0) = False:=by simp; omega
 simp -dsimp -implicitDefEqProofs
 have hH:=yp9 r 1 (by omega) (by omega)
 unfold yAe at hH
 refine yaQ (hH) (by simp -dsimp -implicitDefEqProofs [yd6,yrQ,yba ykO,yba ymN,yba ykc,yba yh9,yba yiO,yba yiY]) rfl ?_
 simp -dsimp -implicitDefEqProofs [n2]
 refine yS (yib x0 hl0) ?_
 simp -dsimp -implicitDefEqProofs
 refine yS hP ?_
 simp -dsimp -implicitDefEqProofs
 refine yaQ (yfL r r) (by simp -dsimp -implicitDefEqProofs [yt,yag Reach.yaa,yag Work.yaa,yag ycu,yag Train.yaa,yag Passing.yaa,yag CallT.yaa]) rfl ?_
 simp -dsimp -implicitDefEqProofs
 refine yaQ (hH) (by simp -dsimp -implicitDefEqProofs [yd6,yrQ,yba ykO,yba ymN,yba ykc,yba yh9,yba yiO,yba yiY]) rfl ?_
 simp -dsimp -implicitDefEqProofs [n2]
theorem yye {xs : List C} (h : Fits [.i,.i,.i,.i,.i] xs) : ∃ e : Entry,xs = e.enc:=by
 obtain ⟨c0,ys,rfl,h0,h⟩:=h.cons_inv
 obtain ⟨c1,ys,rfl,h1,h⟩:=h.cons_inv
 obtain ⟨c2,ys,rfl,h2,h⟩:=h.cons_inv
 obtain ⟨c3,ys,rfl,h3,h⟩:=h.cons_inv
 obtain ⟨c4,ys,rfl,h4,h⟩:=h.cons_inv
 obtain rfl:=h.ycx
 obtain ⟨n0,rfl⟩:=h0.yaT
 obtain ⟨n1,rfl⟩:=h1.yaT
 obtain ⟨n2,rfl⟩:=h2.yaT
 obtain ⟨n3,rfl⟩:=h3.yaT
 obtain ⟨n4,rfl⟩:=h4.yaT
 exact ⟨⟨n0,n1,n2,n3,n4⟩,rfl⟩
theorem ykL {xs : List C} (h : Fits [.i] xs) : ∃ n : Int,xs = yJ n:=by
 obtain ⟨c0,ys,rfl,h0,h⟩:=h.cons_inv
 obtain rfl:=h.ycx
 obtain ⟨n0,rfl⟩:=h0.yaT
 exact ⟨n0,rfl⟩
theorem yBG {xs : List C} (h : Fits [.i,.i] xs) : ∃ e : Way,xs = e.enc:=by
 obtain ⟨c0,ys,rfl,h0,h⟩:=h.cons_inv
 obtain ⟨c1,ys,rfl,h1,h⟩:=h.cons_inv
 obtain rfl:=h.ycx
 obtain ⟨n0,rfl⟩:=h0.yaT
 obtain ⟨n1,rfl⟩:=h1.yaT
 exact ⟨⟨n0,n1⟩,rfl⟩
theorem yAu {xs : List C} (h : Fits [.i,.i,.i,.i,.i,.i] xs) : ∃ e : Boat,xs = e.enc:=by
 obtain ⟨c0,ys,rfl,h0,h⟩:=h.cons_inv
 obtain ⟨c1,ys,rfl,h1,h⟩:=h.cons_inv
 obtain ⟨c2,ys,rfl,h2,h⟩:=h.cons_inv
 obtain ⟨c3,ys,rfl,h3,h⟩:=h.cons_inv
 obtain ⟨c4,ys,rfl,h4,h⟩:=h.cons_inv
 obtain ⟨c5,ys,rfl,h5,h⟩:=h.cons_inv
 obtain rfl:=h.ycx
 obtain ⟨n0,rfl⟩:=h0.yaT
 obtain ⟨n1,rfl⟩:=h1.yaT
 obtain ⟨n2,rfl⟩:=h2.yaT
 obtain ⟨n3,rfl⟩:=h3.yaT
 obtain ⟨n4,rfl⟩:=h4.yaT
 obtain ⟨n5,rfl⟩:=h5.yaT
 exact ⟨⟨n0,n1,n2,n3,n4,n5⟩,rfl⟩
theorem yjF {xs : List C} (h : Fits [.sl [.i,.i,.i,.i,.i,.i]] xs) : ∃ e : List Boat,xs = yai e:=by
 obtain ⟨c0,ys,rfl,h0,h⟩:=h.cons_inv
 obtain rfl:=h.ycx
 obtain ⟨n0,rfl⟩:=h0.ycq Boat.enc fun _ h=>yAu h
 exact ⟨n0,rfl⟩
theorem yrO {xs : List C} (h : Fits [.b,.sl [.sl [.i,.i,.i,.i,.i,.i]]] xs) : ∃ e : Train,xs = e.enc:=by
 obtain ⟨c0,ys,rfl,h0,h⟩:=h.cons_inv
 obtain ⟨c1,ys,rfl,h1,h⟩:=h.cons_inv
 obtain rfl:=h.ycx
 obtain ⟨n0,rfl⟩:=h0.yuo
 obtain ⟨n1,rfl⟩:=h1.ycq yai fun _ h=>yjF h
 exact ⟨⟨n0,n1⟩,rfl⟩
theorem yyj {xs : List C} (h : Fits [.b,.sl [.sl [.i,.i,.i,.i,.i,.i]],.i] xs) : ∃ e : Mover,xs = e.enc:=by
 obtain ⟨c0,ys,rfl,h0,h⟩:=h.cons_inv
 obtain ⟨c1,ys,rfl,h1,h⟩:=h.cons_inv
 obtain ⟨c2,ys,rfl,h2,h⟩:=h.cons_inv
 obtain rfl:=h.ycx
 obtain ⟨n0,rfl⟩:=h0.yuo
 obtain ⟨n1,rfl⟩:=h1.ycq yai fun _ h=>yjF h
 obtain ⟨n2,rfl⟩:=h2.yaT
 exact ⟨⟨⟨n0,n1⟩,n2⟩,rfl⟩
theorem yxJ {xs : List C} (h : Fits [.i,.i] xs) : ∃ e : Point,xs = e.enc:=by
 obtain ⟨c0,ys,rfl,h0,h⟩:=h.cons_inv
 obtain ⟨c1,ys,rfl,h1,h⟩:=h.cons_inv
 obtain rfl:=h.ycx
 obtain ⟨n0,rfl⟩:=h0.yaT
 obtain ⟨n1,rfl⟩:=h1.yaT
 exact ⟨⟨n0,n1⟩,rfl⟩
theorem yxz {xs : List C} (h : Fits [.sl [.i,.i],.i,.sl [.i]] xs) : ∃ e : Reach,xs = e.enc:=by
 obtain ⟨c0,ys,rfl,h0,h⟩:=h.cons_inv
 obtain ⟨c1,ys,rfl,h1,h⟩:=h.cons_inv
 obtain ⟨c2,ys,rfl,h2,h⟩:=h.cons_inv
 obtain rfl:=h.ycx
 obtain ⟨n0,rfl⟩:=h0.ycq Point.enc fun _ h=>yxJ h
 obtain ⟨n1,rfl⟩:=h1.yaT
 obtain ⟨n2,rfl⟩:=h2.ycq yJ fun _ h=>ykL h
 exact ⟨⟨n0,n1,n2⟩,rfl⟩
theorem yxt {xs : List C} (h : Fits [.i,.i] xs) : ∃ e : Pause,xs = e.enc:=by
 obtain ⟨c0,ys,rfl,h0,h⟩:=h.cons_inv
 obtain ⟨c1,ys,rfl,h1,h⟩:=h.cons_inv
 obtain rfl:=h.ycx
 obtain ⟨n0,rfl⟩:=h0.yaT
 obtain ⟨n1,rfl⟩:=h1.yaT
 exact ⟨⟨n0,n1⟩,rfl⟩
theorem yz8 {xs : List C} (h : Fits [.b,.sl [.sl [.i,.i,.i,.i,.i,.i]],.i,.i] xs) : ∃ e : CallT,xs = e.enc:=by
 obtain ⟨c0,ys,rfl,h0,h⟩:=h.cons_inv
 obtain ⟨c1,ys,rfl,h1,h⟩:=h.cons_inv
 obtain ⟨c2,ys,rfl,h2,h⟩:=h.cons_inv
 obtain ⟨c3,ys,rfl,h3,h⟩:=h.cons_inv
 obtain rfl:=h.ycx
 obtain ⟨n0,rfl⟩:=h0.yuo
 obtain ⟨n1,rfl⟩:=h1.ycq yai fun _ h=>yjF h
 obtain ⟨n2,rfl⟩:=h2.yaT
 obtain ⟨n3,rfl⟩:=h3.yaT
 exact ⟨⟨⟨n0,n1⟩,n2,n3⟩,rfl⟩
theorem yy3 {xs : List C} (h : Fits [.i,.i,.i,.i,.i,.i,.i,.i,.i,.sl [.b,.sl [.sl [.i,.i,.i,.i,.i,.i]]],.i,.i,.i,.i,.i,.i,.i,.i,.sl [.i,.i],.b,.i,.sl [.b,.sl [.sl [.i,.i,.i,.i,.i,.i]],.i,.i]] xs) : ∃ e : Work,xs = e.enc:=by
 obtain ⟨c0,ys,rfl,h0,h⟩:=h.cons_inv
 obtain ⟨c1,ys,rfl,h1,h⟩:=h.cons_inv
 obtain ⟨c2,ys,rfl,h2,h⟩:=h.cons_inv
 obtain ⟨c3,ys,rfl,h3,h⟩:=h.cons_inv
 obtain ⟨c4,ys,rfl,h4,h⟩:=h.cons_inv
 obtain ⟨c5,ys,rfl,h5,h⟩:=h.cons_inv
 obtain ⟨c6,ys,rfl,h6,h⟩:=h.cons_inv
 obtain ⟨c7,ys,rfl,h7,h⟩:=h.cons_inv
 obtain ⟨c8,ys,rfl,h8,h⟩:=h.cons_inv
 obtain ⟨c9,ys,rfl,h9,h⟩:=h.cons_inv
 obtain ⟨c10,ys,rfl,h10,h⟩:=h.cons_inv
 obtain ⟨c11,ys,rfl,h11,h⟩:=h.cons_inv
 obtain ⟨c12,ys,rfl,h12,h⟩:=h.cons_inv
 obtain ⟨c13,ys,rfl,h13,h⟩:=h.cons_inv
 obtain ⟨c14,ys,rfl,h14,h⟩:=h.cons_inv
 obtain ⟨c15,ys,rfl,h15,h⟩:=h.cons_inv
 obtain ⟨c16,ys,rfl,h16,h⟩:=h.cons_inv
 obtain ⟨c17,ys,rfl,h17,h⟩:=h.cons_inv
 obtain ⟨c18,ys,rfl,h18,h⟩:=h.cons_inv
 obtain ⟨c19,ys,rfl,h19,h⟩:=h.cons_inv
 obtain ⟨c20,ys,rfl,h20,h⟩:=h.cons_inv
 obtain ⟨c21,ys,rfl,h21,h⟩:=h.cons_inv
 obtain rfl:=h.ycx
 obtain ⟨n0,rfl⟩:=h0.yaT
 obtain ⟨n1,rfl⟩:=h1.yaT
 obtain ⟨n2,rfl⟩:=h2.yaT
 obtain ⟨n3,rfl⟩:=h3.yaT
 obtain ⟨n4,rfl⟩:=h4.yaT
 obtain ⟨n5,rfl⟩:=h5.yaT
 obtain ⟨n6,rfl⟩:=h6.yaT
 obtain ⟨n7,rfl⟩:=h7.yaT
 obtain ⟨n8,rfl⟩:=h8.yaT
 obtain ⟨n9,rfl⟩:=h9.ycq Train.enc fun _ h=>yrO h
 obtain ⟨n10,rfl⟩:=h10.yaT
 obtain ⟨n11,rfl⟩:=h11.yaT
 obtain ⟨n12,rfl⟩:=h12.yaT
 obtain ⟨n13,rfl⟩:=h13.yaT
 obtain ⟨n14,rfl⟩:=h14.yaT
 obtain ⟨n15,rfl⟩:=h15.yaT
 obtain ⟨n16,rfl⟩:=h16.yaT
 obtain ⟨n17,rfl⟩:=h17.yaT
 obtain ⟨n18,rfl⟩:=h18.ycq Pause.enc fun _ h=>yxt h
 obtain ⟨n19,rfl⟩:=h19.yuo
 obtain ⟨n20,rfl⟩:=h20.yaT
 obtain ⟨n21,rfl⟩:=h21.ycq CallT.enc fun _ h=>yz8 h
 exact ⟨⟨⟨n0,n1,n2,n3,n4,n5,n6,n7,n8,n9⟩,⟨n10,n11,n12,n13,n14⟩,⟨n15,n16,n17⟩,n18,⟨n19,n20⟩,n21⟩,rfl⟩
theorem ywg {xs : List C} (h : Fits [.sl [.b,.sl [.sl [.i,.i,.i,.i,.i,.i]],.i]] xs) : ∃ e : List Mover,xs = yZ e:=by
 obtain ⟨c0,ys,rfl,h0,h⟩:=h.cons_inv
 obtain rfl:=h.ycx
 obtain ⟨n0,rfl⟩:=h0.ycq Mover.enc fun _ h=>yyj h
 exact ⟨n0,rfl⟩
theorem yuj {xs : List C} (h : Fits [.i,.i,.b,.sl [.sl [.i,.i,.i,.i,.i,.i]]] xs) : ∃ e : Passing,xs = e.enc:=by
 obtain ⟨c0,ys,rfl,h0,h⟩:=h.cons_inv
 obtain ⟨c1,ys,rfl,h1,h⟩:=h.cons_inv
 obtain ⟨c2,ys,rfl,h2,h⟩:=h.cons_inv
 obtain ⟨c3,ys,rfl,h3,h⟩:=h.cons_inv
 obtain rfl:=h.ycx
 obtain ⟨n0,rfl⟩:=h0.yaT
 obtain ⟨n1,rfl⟩:=h1.yaT
 obtain ⟨n2,rfl⟩:=h2.yuo
 obtain ⟨n3,rfl⟩:=h3.ycq yai fun _ h=>yjF h
 exact ⟨⟨n0,n1,⟨n2,n3⟩⟩,rfl⟩
theorem ysY {xs : List C} (h : Fits [.i,.sl [.sl [.i,.i],.i,.sl [.i]],.sl [.i,.i],.sl [.i,.i,.i,.i,.i,.i,.i,.i,.i,.sl [.b,.sl [.sl [.i,.i,.i,.i,.i,.i]]],.i,.i,.i,.i,.i,.i,.i,.i,.sl [.i,.i],.b,.i,.sl [.b,.sl [.sl [.i,.i,.i,.i,.i,.i]],.i,.i]],.sl [.sl [.b,.sl [.sl [.i,.i,.i,.i,.i,.i]],.i]],.sl [.b,.sl [.sl [.i,.i,.i,.i,.i,.i]]],.sl [.i],.i,.i,.sl [.i],.sl [.i],.sl [.i,.i,.i,.i,.i],.sl [.i,.i,.b,.sl [.sl [.i,.i,.i,.i,.i,.i]]],.i,.i,.i] xs) : ∃ e : Waterway,xs = e.enc:=by
 obtain ⟨c0,ys,rfl,h0,h⟩:=h.cons_inv
 obtain ⟨c1,ys,rfl,h1,h⟩:=h.cons_inv
 obtain ⟨c2,ys,rfl,h2,h⟩:=h.cons_inv
 obtain ⟨c3,ys,rfl,h3,h⟩:=h.cons_inv
 obtain ⟨c4,ys,rfl,h4,h⟩:=h.cons_inv
 obtain ⟨c5,ys,rfl,h5,h⟩:=h.cons_inv
 obtain ⟨c6,ys,rfl,h6,h⟩:=h.cons_inv
 obtain ⟨c7,ys,rfl,h7,h⟩:=h.cons_inv
 obtain ⟨c8,ys,rfl,h8,h⟩:=h.cons_inv
 obtain ⟨c9,ys,rfl,h9,h⟩:=h.cons_inv
 obtain ⟨c10,ys,rfl,h10,h⟩:=h.cons_inv
 obtain ⟨c11,ys,rfl,h11,h⟩:=h.cons_inv
 obtain ⟨c12,ys,rfl,h12,h⟩:=h.cons_inv
 obtain ⟨c13,ys,rfl,h13,h⟩:=h.cons_inv
 obtain ⟨c14,ys,rfl,h14,h⟩:=h.cons_inv
 obtain ⟨c15,ys,rfl,h15,h⟩:=h.cons_inv
 obtain rfl:=h.ycx
 obtain ⟨n0,rfl⟩:=h0.yaT
 obtain ⟨n1,rfl⟩:=h1.ycq Reach.enc fun _ h=>yxz h
 obtain ⟨n2,rfl⟩:=h2.ycq Way.enc fun _ h=>yBG h
 obtain ⟨n3,rfl⟩:=h3.ycq Work.enc fun _ h=>yy3 h
 obtain ⟨n4,rfl⟩:=h4.ycq yZ fun _ h=>ywg h
 obtain ⟨n5,rfl⟩:=h5.ycq Train.enc fun _ h=>yrO h
 obtain ⟨n6,rfl⟩:=h6.ycq yJ fun _ h=>ykL h
 obtain ⟨n7,rfl⟩:=h7.yaT
 obtain ⟨n8,rfl⟩:=h8.yaT
 obtain ⟨n9,rfl⟩:=h9.ycq yJ fun _ h=>ykL h
 obtain ⟨n10,rfl⟩:=h10.ycq yJ fun _ h=>ykL h
 obtain ⟨n11,rfl⟩:=h11.ycq Entry.enc fun _ h=>yye h
 obtain ⟨n12,rfl⟩:=h12.ycq Passing.enc fun _ h=>yuj h
 obtain ⟨n13,rfl⟩:=h13.yaT
 obtain ⟨n14,rfl⟩:=h14.yaT
 obtain ⟨n15,rfl⟩:=h15.yaT
 exact ⟨⟨n0,n1,n2,n3,n4,n5,n6,⟨n7,n8,n9,n10⟩,n11,n12,n13,n14,n15⟩,rfl⟩
theorem yPT : IsLaw Rows.fnExactSailAllSpec Tryz.f4.params.size:=by
 refine ⟨rfl,fun H ds h=>?_⟩
 match ds,h with
 | [d0],_=>rfl
theorem yPE : LawFacts Tryz.prog Tryz.f4 (Tryz.f4.resultTypes.getD 0 0) [(true,[.i,.sl [.sl [.i,.i],.i,.sl [.i]],.sl [.i,.i],.sl [.i,.i,.i,.i,.i,.i,.i,.i,.i,.sl [.b,.sl [.sl [.i,.i,.i,.i,.i,.i]]],.i,.i,.i,.i,.i,.i,.i,.i,.sl [.i,.i],.b,.i,.sl [.b,.sl [.sl [.i,.i,.i,.i,.i,.i]],.i,.i]],.sl [.sl [.b,.sl [.sl [.i,.i,.i,.i,.i,.i]],.i]],.sl [.b,.sl [.sl [.i,.i,.i,.i,.i,.i]]],.sl [.i],.i,.i,.sl [.i],.sl [.i],.sl [.i,.i,.i,.i,.i],.sl [.i,.i,.b,.sl [.sl [.i,.i,.i,.i,.i,.i]]],.i,.i,.i])] :=
 ⟨yrS,by kernel_rfl,by kernel_rfl,by kernel_rfl,by kernel_rfl⟩
set_option maxRecDepth 100000 in
theorem yPP (os : Os) (started : os.Started) (H : Type) (enc : TypeId × Value → H) :
 ReturnsInHanded {} Tryz.checked os 4 .any (Rows.fnExactSailAllSpec.pre6 enc Tryz.prog Tryz.f4 Rows.fnExactSailAllRow.domain false) (Rows.fnExactSailAllSpec.post enc Tryz.prog Tryz.f4 false true false false):=by
 refine law_lifted (C:=Tryz.checked) yt1 started (by kernel_rfl) Tryz.func4
  (ChangeSpec.witness6 (enc:=enc) (C:=Tryz.checked) false ⟨#[],#[.agg #[.int .i64 0,.slice none 0 0,.slice none 0 0,.slice none 0 0,.slice none 0 0,.slice none 0 0,.slice none 0 0,.int .i64 0,.int .i64 0,.slice none 0 0,.slice none 0 0,.slice none 0 0,.slice none 0 0,.int .i64 0,.int .i64 0,.int .i64 0]],[]⟩ 8 (by kernel_rfl) (by kernel_rfl) (by kernel_rfl) (by kernel_rfl)) yPT yPE ?_
 rintro avs ⟨a,avs0,rfl,ha,rfl⟩
 cases ha with
 | st h0 =>
  obtain ⟨x0,rfl⟩:=ysY h0
  exact yQi x0
theorem yPS : ypf Tryz.prog 4 Tryz.f4 Rows.fnExactSailAllSpec Rows.fnExactSailAllRow = true:=by kernel_rfl
theorem yPW : Tryz.pinned.checked.prog.funcNamed Rows.fnExactSailAllRow.func = some 4:=by kernel_rfl
theorem yPY : Tryz.f4.isInstance Tryz.pinned.checked.prog Rows.fnExactSailAllRow.origin Rows.fnExactSailAllRow.targs:=(of_decide_eq_true (by kernel_rfl))
theorem yPZ : Tryz.f4.isWrapper Tryz.pinned.checked.prog Rows.fnExactSailAllRow.wrapper Rows.fnExactSailAllRow.mainSum:=by
 unfold Func.isWrapper; first | (rw [if_pos (by decide +kernel)]; kernel_rfl) | (rw [if_neg (by decide +kernel)]; exact ⟨rfl,rfl⟩)
theorem FnExactSailAll_holds : Rows.FnExactSailAllSaid :=
 OpenClaim.holds_of_wide (p:=Tryz.pinned) (s:=Rows.fnExactSailAllSpec) (c:=Rows.fnExactSailAllRow) 4 Tryz.f4 rfl rfl rfl rfl rfl rfl rfl ⟨rfl,rfl,rfl,rfl,rfl⟩ rfl rfl rfl rfl rfl yPW Tryz.func4
  (yyi yxx yPS ⟨rfl,rfl,rfl,rfl,rfl,rfl,rfl,rfl⟩) yPY yPZ (fun os started H enc _=>yPP os started H enc)
end Go.Proofs.YtjojilkdkgmbgaaGreat
