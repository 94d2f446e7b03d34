/- What the law FnExactTollsTrue stands on: contracts of functions, what each answers as plain Lean, in short form (names, layout). -/
import Derived.Test.YtjojilkdkgmbgaaGreatSExactTollsTrue1
set_option linter.all false
namespace Go.Proofs.YtjojilkdkgmbgaaGreat
open Go.RowKit
set_option maxRecDepth 4000 in
theorem yTI (t : Int) (ws : List Int) (hl : ws.length ≤ 1048576) : yB Tryz.prog 90 [.c (.i t),.c (.sl 1 (ws.map yJ))] (.c (.sl 1 ((yR3 t ws).map yJ))):=by
 refine yh yTr ?_
 simp -dsimp -implicitDefEqProofs
 refine yg (ι:=Nat) (fun k=>k ≤ ws.length ∧ (∀ x ∈ ws.take k,inRange x 0 1000000 = true) ∧ (k ≠ 0 → ws.length ≤ 12)) (fun k=>yO [(0,.c (.i t)),(1,.c (.sl 1 (ws.map yJ))),(5,.own 13 1 0),(6,.own 14 1 0),(7,.c (.i (sumTo ws k))),(8,.c (.i k))] [(13,.row 1 []),(14,.row 1 [])]) (fun k=>ws.length - k) 0 (by simp) (by apply yj <;> simp [yf6]) ?_
 rintro k ⟨hk,hall,h12'⟩
 rcases Nat.lt_or_ge k ws.length with hlt | hge
 ·obtain ⟨x,hx⟩ : ∃ x,ws[k]? = some x:=⟨_,List.getElem?_eq_getElem hlt⟩
  have g1:=(List.getElem?_eq_some_iff.1 hx).2
  simp -dsimp -implicitDefEqProofs [hx,yG hlt,g1,hlt]
  intro hlen
  refine yc (yD x 0 1000000) ?_
  cases h1 : inRange x 0 1000000 with
  | false=>simp -dsimp -implicitDefEqProofs; rw [ySa (by have:=all_false (p:=fun w=>inRange w 0 1000000) hx h1; simp [yR8,this])]
  | true =>
   simp -dsimp -implicitDefEqProofs [hx,yG hlt,g1,hlt]
   refine fun _=>⟨fun h12=>?_,fun h12=>?_⟩
   ·rw [ySa (by simp [yR8]; omega)]
   have h12 : ws.length ≤ 12:=by omega
   have hall':=yL (p:=fun n=>inRange n 0 1000000) hx hall h1
   have hs:=yTY h12 hall'
   rw [yia hx] at hs
   exact ⟨by unfold inI; omega,yw hlt hlen,k + 1,⟨hlt,hall',fun _=>h12⟩,by omega,by apply yj <;> simp [yia hx]⟩
 ·have hall2:=yX (p:=fun n=>inRange n 0 1000000) hge hall
  have h12 : ws.length ≤ 12:=by
   rcases Nat.eq_zero_or_pos k with e | e
   ·omega
   ·exact h12' (by omega)
  simp -dsimp -implicitDefEqProofs [yaB hge]
  rw [ymm hge]
  clear hall hk hge h12'
  refine fun hlen=>⟨fun h0=>?_,fun h0=>by rw [ySa (by simp [yR8,h0])]⟩
  refine yc (yD t 0 1000000000) ?_
  cases ht : inRange t 0 1000000000 with
  | false=>simp -dsimp -implicitDefEqProofs; rw [ySa (by simp [yR8,ht])]
  | true =>
  have h1 : 1 ≤ ws.length:=by
   rcases Nat.eq_zero_or_pos ws.length with e | e
   ·rw [List.length_eq_zero_iff.1 e] at h0; simp at h0
   ·exact e
  have hok : yR8 t ws = true:=by simp [yR8,ht,h12,h1,hall2,h0]
  have f:=ySN hok
  have hlft:=yTv f
  have ft:=f.tot; have fs:=f.sum; have frng:=f.rng
  have hSO : yR3 t ws = ySX (ySb t ws).toNat (ws.map (quota t ws.sum)) (ws.map (ySp t ws.sum)):=by rw [yR3,if_pos hok]
  obtain ⟨Q,hQd⟩ : ∃ Q,Q = ws.map (quota t ws.sum):=⟨_,rfl⟩
  obtain ⟨R,hRd⟩ : ∃ R,R = ws.map (ySp t ws.sum):=⟨_,rfl⟩
  have hQl : Q.length = ws.length:=by rw [hQd,List.length_map]
  have hRl : R.length = ws.length:=by rw [hRd,List.length_map]
  have hQr : ∀ q ∈ Q,0 ≤ q ∧ q ≤ 1000000000000000:=fun q hq=>by
   rw [hQd] at hq
   obtain ⟨w,hw,rfl⟩:=List.mem_map.1 hq
   have:=ySi ft fs.1 (frng w hw)
   omega
  have hrest : ySb t ws = t - Q.sum:=by rw [hQd]; rfl
  rw [← hQd,← hRd] at hSO
  simp -dsimp -implicitDefEqProofs
  refine yg (ι:=Nat) (fun k=>k ≤ ws.length) (fun k=>yO [(0,.c (.i t)),(1,.c (.sl 1 (ws.map yJ))),(5,.own 13 1 k),(6,.own 14 1 k),(7,.c (.i ws.sum)),(9,.c (.i (t - sumTo Q k))),(10,.c (.i k))]
   [(13,.row 1 ((pre Q k).map yJ)),(14,.row 1 ((pre R k).map yJ))]) (fun k=>ws.length - k) 0 (by simp) (by apply yj <;> simp [yf6,yUl]) ?_
  rintro k hk
  rcases Nat.lt_or_ge k ws.length with hlt | hge
  ·obtain ⟨w,hw⟩ : ∃ x,ws[k]? = some x:=⟨_,List.getElem?_eq_getElem hlt⟩
   have g1:=(List.getElem?_eq_some_iff.1 hw).2
   have hQ : Q[k]? = some (quota t ws.sum w):=by rw [hQd]; simp [hw]
   have hR : R[k]? = some (ySp t ws.sum w):=by rw [hRd]; simp [hw]
   have q1:=ySi ft fs.1 (frng w (List.mem_of_getElem? hw))
   have hsum:=yia hQ
   have hb1:=sum_bnd (l:=pre Q k) (m:=1000000000000000) fun x hx=>hQr x (List.mem_of_mem_take hx)
   have hbl : (pre Q k).length = k:=yT9 (by omega)
   have hbr : (pre R k).length = k:=yT9 (by omega)
   have hb1' : 0 ≤ sumTo Q k ∧ sumTo Q k ≤ 12000000000000000:=by
    have : sumTo Q k = (pre Q k).sum:=rfl
    omega
   have hqd : (t * w).tdiv ws.sum = quota t ws.sum w:=rfl
   have hrd : (t * w).tmod ws.sum = ySp t ws.sum w:=rfl
   have tQ:=yTW hQ
   have tR:=yTW hR
   generalize pre Q k = A at *
   generalize pre R k = B at *
   have hgk : (A.map yJ ++ [[C.i (quota t ws.sum w)]])[k]? = some [C.i (quota t ws.sum w)]:=by rw [List.getElem?_append_right (by simp [hbl])]; simp [hbl]
   have hkl : k < A.length + 1:=by omega
   simp -dsimp -implicitDefEqProofs [hw,g1,yG hlt,hlt,hqd,hrd,hbl,hbr,hgk]
   refine fun hlen=>⟨by unfold inI; omega,by omega,by unfold inI; omega,by omega,by unfold inI; omega,by omega,by unfold inI; omega,by omega,by omega,by unfold inI; omega,by unfold inI; omega,k + 1,hlt,by omega,?_⟩
   apply yj <;> simp [tQ,tR,hsum,hbl,hbr]
   omega
  ·have : k = ws.length:=by omega
   subst this
   simp -dsimp -implicitDefEqProofs [yT8 (l:=Q) (k:=ws.length) (by omega),yT8 (l:=R) (k:=ws.length) (by omega)]
   rw [ymm (by omega),← hrest]
   have hn0 : ((ySb t ws).toNat : Int) = ySb t ws:=Int.toNat_of_nonneg hlft.1
   have hnl : (ySb t ws).toNat < ws.length:=by omega
   have hP : Picks t ws (ySb t ws).toNat Q R:=⟨hQl,hRl,hSO.symm,by omega,fun x hx=>by have:=hQr x hx; omega⟩
   rw [← hn0]
   generalize (ySb t ws).toNat = n at *
   refine fun hlen=>yg (ι:=Nat × List Int × List Int) (fun p=>Picks t ws p.1 p.2.1 p.2.2) (fun p=>yO [(5,.own 13 1 ws.length),(6,.own 14 1 ws.length),(9,.c (.i p.1))] [(13,.row 1 (p.2.1.map yJ)),(14,.row 1 (p.2.2.map yJ))]) (fun p=>p.1) (n,Q,R) hP (by apply yj <;> simp) ?_
   rintro ⟨m,out,rest⟩ hM
   simp only at hM
   have hlo:=hM.lo; have hlr:=hM.lr
   rcases Nat.eq_zero_or_pos m with e | e
   ·subst e
    have hall:=hM.all
    rw [ySX] at hall
    simp -dsimp -implicitDefEqProofs
    rw [List.take_of_length_le (by rw [List.length_map,hlo]; exact Nat.le_refl _),hall]
   ·obtain ⟨m,rfl⟩ : ∃ j,m = j + 1:=⟨m - 1,by omega⟩
    have hN:=hM.next h1
    simp -dsimp -implicitDefEqProofs
    refine yg (ι:=Nat) (fun k=>1 ≤ k ∧ k ≤ ws.length) (fun k=>yO [(5,.own 13 1 ws.length),(6,.own 14 1 ws.length),(9,.c (.i ((m + 1 : Nat) : Int))),(11,.c (.i (yR4 rest k : Nat))),(12,.c (.i k))] [(13,.row 1 (out.map yJ)),(14,.row 1 (rest.map yJ))]) (fun k=>ws.length - k) 1 ⟨Nat.le_refl _,h1⟩ (by apply yj <;> simp [ySk,yT1]) ?_
    rintro k ⟨hk1,hk⟩
    rcases Nat.lt_or_ge k ws.length with hlt | hge
    ·obtain ⟨x,hx⟩ : ∃ x,rest[k]? = some x:=⟨_,List.getElem?_eq_getElem (by omega)⟩
     have i1:=ySG (l:=rest) (by omega) (k:=k) (by omega)
     obtain ⟨p,hp⟩ : ∃ p,rest[yR4 rest k]? = some p:=⟨_,List.getElem?_eq_getElem i1⟩
     have g1:=(List.getElem?_eq_some_iff.1 hx).2
     have g2:=(List.getElem?_eq_some_iff.1 hp).2
     have e1 : yR4 rest (k + 1) = if p < x then k else yR4 rest k:=by rw [ySk,ySA hx,ySA hp]
     generalize yR4 rest k = u at *
     have j1 : ((u : Nat) : Int) < (ws.length : Int):=by omega
     have hlt' : k < rest.length:=by omega
     simp -dsimp -implicitDefEqProofs [hx,hp,g1,g2,i1,hlt,hlt',j1,yG hlt]
     refine fun hl=>⟨fun c1=>?_,fun c1=>?_⟩
     all_goals
      refine ⟨yw hlt hl,k + 1,⟨by omega,hlt⟩,by omega,?_⟩
      apply yj <;> simp [e1] <;> (repeat' split) <;> omega
    ·have : k = ws.length:=by omega
     subst this
     have i1:=ySG (l:=rest) (by omega) (k:=ws.length) (by omega)
     have hN':=hN
     generalize yR4 rest ws.length = u at *
     obtain ⟨v,hv⟩ : ∃ p,out[u]? = some p:=⟨_,List.getElem?_eq_getElem (by omega)⟩
     obtain ⟨p,hp⟩ : ∃ p,rest[u]? = some p:=⟨_,List.getElem?_eq_getElem i1⟩
     have g1:=(List.getElem?_eq_some_iff.1 hv).2
     have g2:=(List.getElem?_eq_some_iff.1 hp).2
     rw [ySA hv] at hN
     have hb:=hM.rng v (List.mem_of_getElem? hv)
     have hfew:=hM.few
     have j1 : u < ws.length:=by omega
     have j2 : u < out.length:=by omega
     have s1 : (out.map yJ).set u [.i (v + 1)] = (out.set u (v + 1)).map yJ:=by rw [List.map_set]
     have s2 : (rest.map yJ).set u [.i (-1)] = (rest.set u (-1)).map yJ:=by rw [List.map_set]
     generalize out.set u (v + 1) = out' at *
     generalize rest.set u (-1) = rest' at *
     simp -dsimp -implicitDefEqProofs [hv,hp,g1,g2,j1,j2,i1,s1,s2,hlo,hlr]
     have hmm : ((m + 1 : Nat) : Int) = m + 1:=by simp
     rw [hmm] at hb
     refine fun _=>⟨by unfold inI; omega,by unfold inI; omega,m,out',rest',hN,by omega,?_⟩
     apply yj <;> simp
def ybm (a : Int) (f : Int → Int) : Int:=if a < 0 then -1 else f a
def yaw {α : Type} (f : α → Int → Int) : List α → Int → Int
 | [],l=>l
 | x :: xs,l=>ybm (f x l) (yaw f xs)
def yeE {α : Type} (f : α → Int → Int) (xs : List α) (l : Int) : Int:=ybm (szS xs.length l) (yaw f xs)
def yey {α : Type} (f : α → Int → Int) (sm : α → Prop) : Prop:=∀ x l,0 ≤ l → l ≤ 1048576 → f x l = -1 ∨ (0 ≤ f x l ∧ f x l ≤ l ∧ sm x)
def ycs {α : Type} (sm : α → Prop) (xs : List α) : Prop:=xs.length ≤ 1048576 ∧ ∀ x ∈ xs,sm x
theorem yK {a : Int} {f : Int → Int} (h : a < 0) : ybm a f = -1:=by simp [ybm,h]
theorem yu {a : Int} {f : Int → Int} (h : 0 ≤ a) : ybm a f = f a:=by simp [ybm,Int.not_lt.2 h]
theorem yhU {α : Type} : yey (fun (xs : List α) l=>szS xs.length l) (ycs fun _ : α=>True):=by
 intro xs l h0 h1
 simp only [szS]
 unfold ycs
 split
 ·exact .inl rfl
 ·exact .inr ⟨by omega,by omega,by omega,fun _ _=>trivial⟩
theorem yzy {α : Type} {f : α → Int → Int} {sm : α → Prop} (h : yey f sm) {x : α} {l : Int} (h0 : 0 ≤ l) (h1 : l ≤ 1048576) (hp : 0 ≤ f x l) : sm x:=by
 rcases h x l h0 h1 with e | ⟨_,_,e⟩
 ·omega
 ·exact e
theorem yin {α : Type} {f : α → Int → Int} {sm : α → Prop} (h : yey f sm) (x : α) {l : Int} (h0 : 0 ≤ l) (h1 : l ≤ 1048576) (hp : 0 ≤ f x l) : f x l ≤ 1048576:=by
 rcases h x l h0 h1 with e | ⟨_,e,_⟩
 ·omega
 ·omega
theorem yrK {α : Type} {f : α → Int → Int} {sm : α → Prop} (h : yey f sm) : ∀ (xs : List α) (l : Int),0 ≤ l → l ≤ 1048576 → yaw f xs l = -1 ∨ (0 ≤ yaw f xs l ∧ yaw f xs l ≤ l ∧ ∀ x ∈ xs,sm x)
 | [],l,h0,h1=>.inr ⟨h0,Int.le_refl _,by simp⟩
 | x :: xs,l,h0,h1=>by
  simp only [yaw]
  rcases h x l h0 h1 with e | ⟨e1,e2,e3⟩
  ·exact .inl (yK (by omega))
  ·rw [yu e1]
   rcases yrK h xs (f x l) e1 (by omega) with e | ⟨e4,e5,e6⟩
   ·exact .inl e
   ·exact .inr ⟨e4,by omega,by simp; exact ⟨e3,e6⟩⟩
theorem ygj {α : Type} {f : α → Int → Int} {sm : α → Prop} (h : yey f sm) : yey (yeE f) (ycs sm):=by
 intro xs l h0 h1
 unfold yeE
 rcases yhU xs l h0 h1 with e | ⟨e1,e2,e3⟩
 ·exact .inl (yK (by simp only at e; omega))
 ·simp only at e1 e2
  rw [yu e1]
  rcases yrK h xs _ e1 (by omega) with e | ⟨e4,e5,e6⟩
  ·exact .inl e
  ·exact .inr ⟨e4,by omega,e3.1,e6⟩
structure Boat where
 Id : Int
 Length : Int
 Width : Int
 Draught : Int
 Speed : Int
 Class : Int
 deriving DecidableEq,Inhabited
@[simp] def Boat.enc (e : Boat) : List C:=[.i e.Id,.i e.Length,.i e.Width,.i e.Draught,.i e.Speed,.i e.Class]
-- Boat
theorem yud (e : Boat) : yB Tryz.prog 303 [.agg (e.enc.map .c)] (.agg (e.enc.map .c)):=by
 refine yh yq9 ?_
 simp -dsimp -implicitDefEqProofs
theorem yyR (a b : Boat) : yB Tryz.prog 306 [.agg (a.enc.map .c),.agg (b.enc.map .c)] (.c (.b (decide (a = b)))):=by
 refine yh yq1 ?_
 obtain ⟨a0,a1,a2,a3,a4,a5⟩:=a
 obtain ⟨b0,b1,b2,b3,b4,b5⟩:=b
 simp -dsimp -implicitDefEqProofs [yj8,Boat.mk.injEq]
 refine ⟨fun h=>by simp_all,fun h0=>?_⟩
 refine ⟨fun h=>by simp_all,fun h1=>?_⟩
 refine ⟨fun h=>by simp_all,fun h2=>?_⟩
 refine ⟨fun h=>by simp_all,fun h3=>?_⟩
 refine ⟨fun h=>by simp_all,fun h4=>?_⟩
 refine ⟨fun h=>by simp_all,fun h5=>?_⟩
 simp_all
-- []Boat
def yex (xs : List Boat) (l : Int) : Int:=szS xs.length l
def ygC : List Boat → Prop:=ycs fun _=>True
theorem ymH : yey yex ygC:=yhU
theorem yvS (xs : List Boat) (l : Int) (h0 : 0 ≤ l) (h1 : l ≤ 1048576) : yB Tryz.prog 259 [.c (.sl 6 (xs.map Boat.enc)),.c (.i l)] (.c (.i (yex xs l))):=by
 refine yh yoU ?_
 simp -dsimp -implicitDefEqProofs [yi3,yex,szS]
 intro hl
 unfold maxLen at hl
 refine ⟨by unfold inI; omega,fun h=>?_,fun h=>?_⟩ <;> intros <;> omega
theorem yxQ (xs : List Boat) (hl : ygC xs) : yB Tryz.prog 263 [.c (.sl 6 (xs.map Boat.enc))] (.c (.sl 6 (xs.map Boat.enc))):=by
 refine yh yiM ?_
 simp -dsimp -implicitDefEqProofs
 intro hlen
 have hl1:=hl.1
 refine ⟨by omega,?_⟩
 refine yg (ι:=Nat) (fun k=>k ≤ xs.length) (fun k=>yO [(0,.c (.sl 6 (xs.map Boat.enc))),(3,.own 7 6 xs.length),(4,.c (.i k))] [(7,.row 6 (partly Boat.enc [.i 0,.i 0,.i 0,.i 0,.i 0,.i 0] xs k))]) (fun k=>xs.length - k) 0 (by simp) (by apply yj <;> simp [yab]) ?_
 rintro k hk
 rcases Nat.lt_or_ge k xs.length with hlt | hge
 ·obtain ⟨e,he⟩ : ∃ e,xs[k]? = some e:=⟨_,List.getElem?_eq_getElem hlt⟩
  have hs:=yaj (f:=Boat.enc) (z:=[.i 0,.i 0,.i 0,.i 0,.i 0,.i 0]) he
  have hd:=yav (f:=Boat.enc) (z:=[.i 0,.i 0,.i 0,.i 0,.i 0,.i 0]) (n:=6) rfl hlt
  simp only [Boat.enc] at hs
  simp -dsimp -implicitDefEqProofs [he,yG hlt]
  refine fun _=>yaP (yud e ) (by simp) rfl ?_
  simp -dsimp -implicitDefEqProofs [yG hlt,yak hk,hd,hs]
  exact ⟨hlt,yw hlt hlen,k + 1,hlt,by omega,by apply yj <;> simp⟩
 ·simp -dsimp -implicitDefEqProofs [yaB hge]
  intro _
  rw [yam hge,List.take_of_length_le (by simp)]
theorem yxD (es fs : List Boat) : yB Tryz.prog 268 [.c (.sl 6 (es.map Boat.enc)),.c (.sl 6 (fs.map Boat.enc))] (.c (.b (decide (es = fs)))):=by
 refine yh yoL ?_
 simp -dsimp -implicitDefEqProofs
 intro hl1 hl2
 refine ⟨fun h e=>h (by rw [e]),fun hlen=>?_⟩
 have hlen' : es.length = fs.length:=by omega
 refine yg (ι:=Nat) (fun k=>k ≤ es.length ∧ es.take k = fs.take k) (fun k=>yO [(0,.c (.sl 6 (es.map Boat.enc))),(1,.c (.sl 6 (fs.map Boat.enc))),(5,.c (.i k))] []) (fun k=>es.length - k) 0 (by simp) (by apply yj <;> simp) ?_
 rintro k ⟨hk,htk⟩
 rcases Nat.lt_or_ge k es.length with hlt | hge
 ·obtain ⟨e,he⟩ : ∃ e,es[k]? = some e:=⟨_,List.getElem?_eq_getElem hlt⟩
  obtain ⟨f,hf⟩ : ∃ f,fs[k]? = some f:=⟨_,List.getElem?_eq_getElem (by omega)⟩
  simp -dsimp -implicitDefEqProofs [he,hf,yG hlt,yG (hlen' ▸ hlt)]
  intro _
  refine yaC (yyR e f) ?_
  simp -dsimp -implicitDefEqProofs
  refine ⟨fun h=>ybG he hf h,fun h=>⟨yw hlt hl1,k + 1,⟨hlt,yaR he hf htk h⟩,by omega,by apply yj <;> simp⟩⟩
 ·simp -dsimp -implicitDefEqProofs [yaB hge]
  intro _
  exact ybf hge hlen' htk
abbrev yai (xs : List Boat) : List C:=[.sl 6 (xs.map Boat.enc)]
-- [][]Boat
def yeb : List (List Boat) → Int → Int:=yeE yex
def yej : List (List Boat) → Prop:=ycs ygC
theorem ysL : yey yeb yej:=ygj ymH
theorem yt7 (xs : List (List Boat)) (l : Int) (h0 : 0 ≤ l) (h1 : l ≤ 1048576) : yB Tryz.prog 171 [.c (.sl 1 (xs.map yai)),.c (.i l)] (.c (.i (yeb xs l))):=by
 refine yh ynp ?_
 simp -dsimp -implicitDefEqProofs
 intro hl
 have hs : szS xs.length l = if l - xs.length < 0 then -1 else l - xs.length:=rfl
 refine ⟨by unfold maxLen at hl; unfold inI; omega,fun h=>?_,fun h=>?_⟩
 ·simp [yeb,yeE,ybm,hs,h]
 have h' : 0 ≤ l - xs.length:=by omega
 have e0 : yeb xs l = yaw yex xs (l - xs.length):=by
  have : szS xs.length l = l - xs.length:=by rw [hs,if_neg (by omega)]
  simp only [yeb,yeE]
  rw [this,yu h']
 refine yg (ι:=Nat × Int) (fun p=>p.1 ≤ xs.length ∧ 0 ≤ p.2 ∧ p.2 ≤ 1048576 ∧ yaw yex (xs.drop p.1) p.2 = yeb xs l) (fun p=>yO [(0,.c (.sl 1 (xs.map yai))),(1,.c (.i p.2)),(5,.c (.i p.1))] []) (fun p=>xs.length - p.1) (0,l - xs.length) ⟨by simp,h',by simp only; omega,by simp [e0]⟩ (by apply yj <;> simp) ?_
 rintro ⟨k,q⟩ ⟨hk,hq0,hq1,hf⟩
 simp only at hk hq0 hq1 hf
 rcases Nat.lt_or_ge k xs.length with hlt | hge
 ·obtain ⟨e,he⟩ : ∃ e,xs[k]? = some e:=⟨_,List.getElem?_eq_getElem hlt⟩
  have hd : xs.drop k = e :: xs.drop (k + 1):=by
   rw [List.drop_eq_getElem_cons hlt,(List.getElem?_eq_some_iff.1 he).2]
  rw [hd,yaw] at hf
  simp -dsimp -implicitDefEqProofs [he,yG hlt]
  refine fun _=>yaQ (yvS e q hq0 hq1) (by simp) rfl ?_
  simp -dsimp -implicitDefEqProofs
  refine ⟨fun h=>by rw [← hf,yK h],fun h=>⟨yw hlt hl,k + 1,⟨yex e q,?_⟩⟩⟩
  rw [yu h] at hf
  have hle : yex e q ≤ 1048576:=by
   rcases ymH e q hq0 hq1 with e1 | e1
   ·omega
   ·omega
  exact ⟨⟨hlt,h,hle,hf⟩,by omega,by apply yj <;> simp⟩
 ·simp -dsimp -implicitDefEqProofs [yaB hge]
  rw [List.drop_of_length_le hge] at hf
  intro _
  first | simpa [yaw] using hf | simpa [yaw] using hf.symm
theorem ywr (xs : List (List Boat)) (hl : yej xs) : yB Tryz.prog 185 [.c (.sl 1 (xs.map yai))] (.c (.sl 1 (xs.map yai))):=by
 refine yh yim ?_
 simp -dsimp -implicitDefEqProofs
 intro hlen
 have hl1:=hl.1
 refine ⟨by omega,yQd ?_⟩
 simp -dsimp -implicitDefEqProofs
 refine yg (ι:=Nat) (fun k=>k ≤ xs.length) (fun k=>yO [(0,.c (.sl 1 (xs.map yai))),(3,.own 7 1 xs.length),(4,.c (.i k))] [(7,.row 1 (partly yai [.sl 6 []] xs k))]) (fun k=>xs.length - k) 0 (by simp) (by apply yj <;> simp [yab]) ?_
 rintro k hk
 rcases Nat.lt_or_ge k xs.length with hlt | hge
 ·obtain ⟨e,he⟩ : ∃ e,xs[k]? = some e:=⟨_,List.getElem?_eq_getElem hlt⟩
  have hs:=yaj (f:=yai) (z:=[.sl 6 []]) he
  have hd : ((partly yai [.sl 6 []] xs k)[k]?.getD []).set 0 (.sl 6 (e.map Boat.enc)) = [.sl 6 (e.map Boat.enc)]:=by
   have:=ydK (f:=yai) (z:=[.sl 6 []]) (n:=1) rfl (fun _=>rfl) hlt
   obtain ⟨x,hx⟩:=List.length_eq_one_iff.1 this
   rw [hx]; rfl
  have hs2 : (partly yai [.sl 6 []] xs k).set k [.sl 6 (e.map Boat.enc)] = partly yai [.sl 6 []] xs (k + 1):=hs
  simp -dsimp -implicitDefEqProofs [he,yG hlt]
  refine fun _=>yaP (yxQ e (hl.2 e (List.mem_of_getElem? he))) (by simp) rfl ?_
  simp -dsimp -implicitDefEqProofs [yG hlt,yak hk,hd,hs2]
  exact ⟨hlt,yw hlt hlen,k + 1,hlt,by omega,by apply yj <;> simp⟩
 ·simp -dsimp -implicitDefEqProofs [yaB hge]
  intro _
  rw [yam hge,List.take_of_length_le (by simp)]
theorem yvt (es fs : List (List Boat)) : yB Tryz.prog 202 [.c (.sl 1 (es.map yai)),.c (.sl 1 (fs.map yai))] (.c (.b (decide (es = fs)))):=by
 refine yh ync ?_
 simp -dsimp -implicitDefEqProofs
 intro hl1 hl2
 refine ⟨fun h e=>h (by rw [e]),fun hlen=>?_⟩
 have hlen' : es.length = fs.length:=by omega
 refine yg (ι:=Nat) (fun k=>k ≤ es.length ∧ es.take k = fs.take k) (fun k=>yO [(0,.c (.sl 1 (es.map yai))),(1,.c (.sl 1 (fs.map yai))),(5,.c (.i k))] []) (fun k=>es.length - k) 0 (by simp) (by apply yj <;> simp) ?_
 rintro k ⟨hk,htk⟩
 rcases Nat.lt_or_ge k es.length with hlt | hge
 ·obtain ⟨e,he⟩ : ∃ e,es[k]? = some e:=⟨_,List.getElem?_eq_getElem hlt⟩
  obtain ⟨f,hf⟩ : ∃ f,fs[k]? = some f:=⟨_,List.getElem?_eq_getElem (by omega)⟩
  simp -dsimp -implicitDefEqProofs [he,hf,yG hlt,yG (hlen' ▸ hlt)]
  intro _
  refine yaC (yxD e f) ?_
  simp -dsimp -implicitDefEqProofs
  refine ⟨fun h=>ybG he hf h,fun h=>⟨yw hlt hl1,k + 1,⟨hlt,yaR he hf htk h⟩,by omega,by apply yj <;> simp⟩⟩
 ·simp -dsimp -implicitDefEqProofs [yaB hge]
  intro _
  exact ybf hge hlen' htk
structure Train where
 Up : Bool
 Rows : List (List Boat)
 deriving DecidableEq,Inhabited
@[simp] def Train.enc (e : Train) : List C:=[.b e.Up,.sl 1 (e.Rows.map yai)]
-- Train
def yb2 (e : Train) (l : Int) : Int:=ybm (yeb e.Rows l) fun l=>l
def Train.small (e : Train) : Prop:=yej e.Rows
theorem ye7 : yey yb2 Train.small:=by
 intro e l h0 h1
 unfold yb2
 rcases ysL e.Rows _ h0 h1 with e0 | ⟨a0,b0,s0⟩
 ·exact .inl (yK (by omega))
 rw [yu a0]
 exact .inr ⟨a0,by omega,s0⟩
theorem yhF (e : Train) (l : Int) (h0 : 0 ≤ l) (h1 : l ≤ 1048576) : yB Tryz.prog 85 [.agg (e.enc.map .c),.c (.i l)] (.c (.i (yb2 e l))):=by
 refine yh ypX ?_
 simp -dsimp -implicitDefEqProofs
 refine yc (yt7 e.Rows _ h0 h1) ?_
 simp -dsimp -implicitDefEqProofs
 refine ⟨fun h=>by simp [yb2,yK h],fun p0=>?_⟩
 simp [yb2,yu p0]
theorem yjt (e : Train) (hl : Train.small e) : yB Tryz.prog 97 [.agg (e.enc.map .c)] (.agg (e.enc.map .c)):=by
 refine yh yiU ?_
 simp -dsimp -implicitDefEqProofs
 refine yS (ywr e.Rows hl) ?_
 simp -dsimp -implicitDefEqProofs
theorem yjG (a b : Train) : yB Tryz.prog 114 [.agg (a.enc.map .c),.agg (b.enc.map .c)] (.c (.b (decide (a = b)))):=by
 refine yh yoZ ?_
 obtain ⟨a0,a1⟩:=a
 obtain ⟨b0,b1⟩:=b
 simp -dsimp -implicitDefEqProofs [yiE,Train.mk.injEq]
 refine ⟨fun h=>by simp_all,fun h0=>?_⟩
 refine yc (yvt a1 b1) ?_
 simp -dsimp -implicitDefEqProofs
 refine ⟨fun h=>by simp_all,fun h1=>?_⟩
 simp_all
structure Mover where
 Train : Train
 Place : Int
 deriving DecidableEq,Inhabited
@[simp] def Mover.enc (e : Mover) : List C:=[.b e.Train.Up,.sl 1 (e.Train.Rows.map yai),.i e.Place]
-- Mover
def ycV (e : Mover) (l : Int) : Int:=ybm (yb2 e.Train l) fun l=>l
def Mover.small (e : Mover) : Prop:=e.Train.small
theorem ymQ : yey ycV Mover.small:=by
 intro e l h0 h1
 unfold ycV
 rcases ye7 e.Train _ h0 h1 with e0 | ⟨a0,b0,s0⟩
 ·exact .inl (yK (by omega))
 rw [yu a0]
 exact .inr ⟨a0,by omega,s0⟩
theorem yvT (e : Mover) (l : Int) (h0 : 0 ≤ l) (h1 : l ≤ 1048576) : yB Tryz.prog 170 [.agg (e.enc.map .c),.c (.i l)] (.c (.i (ycV e l))):=by
 refine yh ypW ?_
 simp -dsimp -implicitDefEqProofs
 refine yc (yhF e.Train _ h0 h1) ?_
 simp -dsimp -implicitDefEqProofs
 refine ⟨fun h=>by simp [ycV,yK h],fun p0=>?_⟩
 simp [ycV,yu p0]
theorem yyk (e : Mover) (hl : Mover.small e) : yB Tryz.prog 184 [.agg (e.enc.map .c)] (.agg (e.enc.map .c)):=by
 refine yh yiQ ?_
 simp -dsimp -implicitDefEqProofs
 refine yS (yjt e.Train hl) ?_
 simp -dsimp -implicitDefEqProofs
theorem yxY (a b : Mover) : yB Tryz.prog 201 [.agg (a.enc.map .c),.agg (b.enc.map .c)] (.c (.b (decide (a = b)))):=by
 refine yh yoz ?_
 obtain ⟨a0,a1⟩:=a
 obtain ⟨b0,b1⟩:=b
 simp -dsimp -implicitDefEqProofs [yiH,Mover.mk.injEq]
 refine yc (yjG a0 b0) ?_
 simp -dsimp -implicitDefEqProofs
 refine ⟨fun h=>by simp_all,fun h0=>?_⟩
 refine ⟨fun h=>by simp_all,fun h1=>?_⟩
 simp_all
theorem yvh {α : Type} {B : Nat} : ∀ {l : List (List α)},(∀ r ∈ l,r.length ≤ B) → l.flatten.length ≤ l.length * B
 | [],_=>by simp
 | r :: l,h=>by
  have h1:=yvh (l:=l) fun x hx=>h x (by simp [hx])
  have h2:=h r (by simp)
  simp only [List.flatten_cons,List.length_append,List.length_cons,Nat.add_mul,Nat.one_mul]
  omega
def heads {α : Type} (l : List (List α)) (k : Nat) : List α:=(l.take k).flatten
theorem yeU {α : Type} {l : List (List α)} : heads l 0 = []:=rfl
theorem yhH {α : Type} {l : List (List α)} {k : Nat} {r : List α} (h : l[k]? = some r) : heads l (k + 1) = heads l k ++ r:=by
 unfold heads; rw [List.take_succ,h]; simp
theorem yjI {α : Type} {l : List (List α)} {k : Nat} (h : l.length ≤ k) : heads l k = l.flatten:=by
 unfold heads; rw [List.take_of_length_le h]
theorem yi0 {α : Type} {l : List (List α)} (h : ycs (ycs fun _ : α=>True) l) (k : Nat) : (heads l k).length ≤ 1099511627776:=by
 have h1:=yvh (l:=l.take k) (B:=1048576) fun r hr=>(h.2 r (List.mem_of_mem_take hr)).1
 have h2:=h.1
 have h3 : (l.take k).length ≤ 1048576:=by simp; omega
 have h4:=Nat.mul_le_mul_right 1048576 h3
 unfold heads
 omega
def Train.yas (t : Train) : List Boat:=t.Rows.flatten
theorem yzj {t : Train} (h : t.small) : t.yas.length ≤ 1099511627776:=by
 have:=yi0 h t.Rows.length
 rwa [yjI (Nat.le_refl _)] at this
theorem yoX (t : Train) (h : t.small) : yB Tryz.prog 92 [.agg (t.enc.map .c)] (.c (.sl 6 (t.yas.map Boat.enc))):=by
 refine yh ynj ?_
 simp -dsimp -implicitDefEqProofs
 refine yg (ι:=Nat) (fun k=>k ≤ t.Rows.length) (fun k=>yO [(1,.box 1 0),(3,.own 5 6 (heads t.Rows k).length),(4,.c (.i k))] [(1,.box (t.enc.map .c)),(5,.row 6 ((heads t.Rows k).map Boat.enc))]) (fun k=>t.Rows.length - k) 0 (by simp) (by apply yj <;> simp [yeU]) ?_
 rintro k hk
 rcases Nat.lt_or_ge k t.Rows.length with hlt | hge
 ·obtain ⟨r,hr⟩ : ∃ r,t.Rows[k]? = some r:=⟨_,List.getElem?_eq_getElem hlt⟩
  have hb:=yi0 h (k + 1)
  have hf:=yhH hr
  rw [hf,List.length_append] at hb
  have hm:=h.1
  simp -dsimp -implicitDefEqProofs [hr,yG hlt]
  intro hlen
  refine ⟨by omega,yw hlt hlen,k + 1,hlt,by omega,?_⟩
  apply yj <;> simp [hf]
 ·simp -dsimp -implicitDefEqProofs [yaB hge]
  rw [yjI hge]
  intro _
  rw [List.take_of_length_le (by rw [List.length_map]; exact Nat.le_refl _)]; rfl
def ybr (b : Boat) : Bool:=inRange b.Id 1 9999 && inRange b.Length 1 200 && inRange b.Width 1 30 && inRange b.Draught 1 100 && inRange b.Speed 1 50 && inRange b.Class 0 2
theorem yvm (b : Boat) : yB Tryz.prog 173 [.agg (b.enc.map .c)] (.c (.b (ybr b))):=by
 refine yh yrf ?_
 simp -dsimp -implicitDefEqProofs
 refine yc (yD b.Id 1 9999) ?_
 simp -dsimp -implicitDefEqProofs
 refine ⟨fun h=>?_,fun h=>by simp [ybr,h]⟩
 refine yc (yD b.Length 1 200) ?_
 simp -dsimp -implicitDefEqProofs
 refine ⟨fun h1=>?_,fun h1=>by simp [ybr,h1]⟩
 refine yc (yD b.Width 1 30) ?_
 simp -dsimp -implicitDefEqProofs
 refine ⟨fun h2=>?_,fun h1=>by simp [ybr,h1]⟩
 refine yc (yD b.Draught 1 100) ?_
 simp -dsimp -implicitDefEqProofs
 refine ⟨fun h3=>?_,fun h1=>by simp [ybr,h1]⟩
 refine yc (yD b.Speed 1 50) ?_
 simp -dsimp -implicitDefEqProofs
 refine ⟨fun h4=>?_,fun h1=>by simp [ybr,h1]⟩
 refine yc (yD b.Class 0 2) ?_
 simp -dsimp -implicitDefEqProofs
 simp [ybr,h,h1,h2,h3,h4]
theorem yuc (b : Boat) : yB Tryz.prog 188 [.agg (b.enc.map .c)] (.c (.b (ybr b))):=by
 refine yh yqo ?_
 simp -dsimp -implicitDefEqProofs
 refine yc (yC b.Id 1 9999) ?_
 simp -dsimp -implicitDefEqProofs
 refine ⟨fun h=>?_,fun h=>by simp [ybr,h]⟩
 refine yc (yC b.Length 1 200) ?_
 simp -dsimp -implicitDefEqProofs
 refine ⟨fun h1=>?_,fun h1=>by simp [ybr,h1]⟩
 refine yc (yC b.Width 1 30) ?_
 simp -dsimp -implicitDefEqProofs
 refine ⟨fun h2=>?_,fun h1=>by simp [ybr,h1]⟩
 refine yc (yC b.Draught 1 100) ?_
 simp -dsimp -implicitDefEqProofs
 refine ⟨fun h3=>?_,fun h1=>by simp [ybr,h1]⟩
 refine yc (yC b.Speed 1 50) ?_
 simp -dsimp -implicitDefEqProofs
 refine ⟨fun h4=>?_,fun h1=>by simp [ybr,h1]⟩
 refine yc (yC b.Class 0 2) ?_
 simp -dsimp -implicitDefEqProofs
 simp [ybr,h,h1,h2,h3,h4]
def indexOf (l : List Int) (n : Int) : Int:=match l.findIdx? (fun x=>n == x) with | some i=>i | none=>-1
theorem yph {l : List Int} {n : Int} : (0 ≤ indexOf l n) = (n ∈ l):=by
 unfold indexOf
 cases h : l.findIdx? (fun x=>n == x) with
 | none =>
  rw [List.findIdx?_eq_none_iff] at h
  show (0 ≤ (-1 : Int)) = _
  simp only [eq_iff_iff]
  refine ⟨fun h1=>by omega,fun hm=>?_⟩
  have:=h n hm
  simp at this
 | some i =>
  rw [List.findIdx?_eq_some_iff_getElem] at h
  obtain ⟨hi,h1,_⟩:=h
  simp only [eq_iff_iff]
  refine ⟨fun _=>?_,fun _=>by omega⟩
  have : n = l[i]:=by simpa using h1
  rw [this]; exact List.getElem_mem _
theorem yww {l : List Int} {n : Int} {k : Nat} (h : l[k]? = some n) (hn : ∀ x ∈ l.take k,n ≠ x) : indexOf l n = k:=by
 unfold indexOf
 have : l.findIdx? (fun x=>n == x) = some k:=by
  rw [List.findIdx?_eq_some_iff_getElem]
  obtain ⟨hk1,hk2⟩:=List.getElem?_eq_some_iff.1 h
  refine ⟨hk1,by simp [hk2],fun j hj=>?_⟩
  have:=hn (l[j]'(by omega)) (List.mem_take_iff_getElem.2 ⟨j,by omega,rfl⟩)
  simpa using this
 rw [this]
theorem yv9 {l : List Int} {n : Int} {k : Nat} (hk : l.length ≤ k) (hn : ∀ x ∈ l.take k,n ≠ x) : indexOf l n = -1:=by
 rw [List.take_of_length_le hk] at hn
 unfold indexOf
 have : l.findIdx? (fun x=>n == x) = none:=by
  rw [List.findIdx?_eq_none_iff]
  intro x hx
  simpa using hn x hx
 rw [this]
theorem yzA {l : List Int} {n x : Int} {k : Nat} (h : l[k]? = some x) (hx : n ≠ x) (hn : ∀ x ∈ l.take k,n ≠ x) : ∀ x ∈ l.take (k + 1),n ≠ x:=by
 intro y hy
 rw [List.take_succ,h] at hy
 rcases List.mem_append.1 hy with h1 | h1
 ·exact hn y h1
 ·simp at h1; rw [h1]; exact hx
theorem yBu (l : List Int) (n : Int) : yB Tryz.prog 109 [.c (.sl 1 (l.map yJ)),.c (.i n)] (.c (.i (indexOf l n))):=by
 refine yh ygi ?_
 simp -dsimp -implicitDefEqProofs
 intro hlen
 refine yg (ι:=Nat) (fun k=>k ≤ l.length ∧ ∀ x ∈ l.take k,n ≠ x) (fun k=>yO [(0,.c (.sl 1 (l.map yJ))),(1,.c (.i n)),(7,.c (.i l.length)),(8,.c (.i k))] []) (fun k=>l.length - k) 0 (by simp) (by apply yj <;> simp) ?_
 rintro k ⟨hk,hn⟩
 rcases Nat.lt_or_ge k l.length with hlt | hge
 ·obtain ⟨x,hx⟩ : ∃ x,l[k]? = some x:=⟨_,List.getElem?_eq_getElem hlt⟩
  simp -dsimp -implicitDefEqProofs [hx,yG hlt]
  refine ⟨fun h=>?_,fun h=>⟨yw hlt hlen,k + 1,⟨hlt,yzA hx h hn⟩,by omega,by apply yj <;> simp⟩⟩
  exact yww (h ▸ hx) hn
 ·simp -dsimp -implicitDefEqProofs [yaB hge]
  exact yv9 hge hn
theorem ypJ (l : List Int) (n : Int) : yB Tryz.prog 42 [.c (.sl 1 (l.map yJ)),.c (.i n)] (.c (.b (decide (n ∈ l)))):=by
 refine yh yfu ?_
 simp -dsimp -implicitDefEqProofs
 refine yc (yBu l n) ?_
 simp -dsimp -implicitDefEqProofs [yph]
def yfy (b : Boat) : Int:=b.Id
def full (r : List Boat) : Bool:=decide (r.length ≠ 0)
theorem ytQ {r : List Boat} : full r = true ↔ r.length ≠ 0:=by simp [full]
def yP (t : Train) : Bool:=t.Rows.all full && t.yas.all ybr && decide ((t.yas.map yfy).Nodup) && inRange t.yas.length 1 6
theorem ykm {l : List Boat} {k : Nat} {b : Boat} (h : l[k]? = some b) : (((l.take (k + 1)).map yfy).Nodup ↔ ((l.take k).map yfy).Nodup ∧ b.Id ∉ (l.take k).map yfy):=by
 rw [List.take_succ,h,List.map_append]
 simp only [Option.toList_some,List.map_cons,List.map_nil,List.nodup_append,List.nodup_cons,List.not_mem_nil,not_false_eq_true,List.nodup_nil,and_self,true_and,List.mem_singleton,forall_eq,yfy]
 constructor
 ·rintro ⟨h1,h2⟩; exact ⟨h1,fun hm=>h2 _ hm rfl⟩
 ·rintro ⟨h1,h2⟩; exact ⟨h1,fun x hx e=>h2 (e ▸ hx)⟩
theorem yyf {l : List Boat} {k : Nat} (h : ¬ ((l.take k).map yfy).Nodup) : ¬ (l.map yfy).Nodup:=by
 intro hn
 refine h ?_
 rw [← List.take_append_drop k l,List.map_append] at hn
 exact (List.nodup_append.1 hn).1
def yry (l : List Boat) (k : Nat) : List Int:=(l.take k).map yfy
theorem yds (t : Train) (h : t.small) : yB Tryz.prog 89 [.agg (t.enc.map .c)] (.c (.b (yP t))):=by
 refine yh yoi ?_
 simp -dsimp -implicitDefEqProofs
 refine yS (yoX t h) ?_
 simp -dsimp -implicitDefEqProofs
 refine yg (ι:=Nat) (fun k=>k ≤ t.Rows.length ∧ ∀ r ∈ t.Rows.take k,full r = true) (fun k=>yO [(1,.box 1 0),(3,.c (.sl 6 (t.yas.map Boat.enc))),(4,.c (.i k))] [(1,.box (t.enc.map .c))]) (fun k=>t.Rows.length - k) 0 (by simp) (by apply yj <;> simp) ?_
 rintro k ⟨hk,hall⟩
 rcases Nat.lt_or_ge k t.Rows.length with hlt | hge
 ·obtain ⟨r,hr⟩ : ∃ r,t.Rows[k]? = some r:=⟨_,List.getElem?_eq_getElem hlt⟩
  simp -dsimp -implicitDefEqProofs [hr,yG hlt]
  intro hlen _
  refine ⟨fun h0=>?_,fun h0=>?_⟩
  ·have : t.Rows.all full = false:=all_false (p:=full) hr (by simp [full,h0])
   simp only [yP,this,Bool.false_and]
  ·exact ⟨yw hlt hlen,k + 1,⟨by omega,yL (p:=full) hr hall (by simp [full,h0])⟩,by omega,by apply yj <;> simp⟩
 ·have hrows:=yX (p:=full) hge hall
  simp -dsimp -implicitDefEqProofs [yaB hge]
  intro _
  have hbl:=yzj h
  refine yg (ι:=Nat) (fun k=>k ≤ t.yas.length ∧ (∀ b ∈ t.yas.take k,ybr b = true) ∧ (yry t.yas k).Nodup) (fun k=>yO [(3,.c (.sl 6 (t.yas.map Boat.enc))),(5,.c (.i k))] []) (fun k=>t.yas.length - k) 0 (by simp [yry]) (by apply yj <;> simp) ?_
  rintro k ⟨hk,hok,hnd⟩
  have fin : t.yas.length ≤ 6 → k = t.yas.length → yP t = inRange t.yas.length 1 6:=by
   intro h6 e
   have h1:=yX (p:=ybr) (by omega) hok
   rw [e,yry,List.take_length] at hnd
   simp [yP,hrows,h1,hnd]
  rcases Nat.lt_or_ge k t.yas.length with hlt | hge
  ·obtain ⟨b,hb⟩ : ∃ b,t.yas[k]? = some b:=⟨_,List.getElem?_eq_getElem hlt⟩
   by_cases h6 : t.yas.length ≤ 6
   ·have h6' : ((t.yas.length : Int) ≤ 6) = True:=by simp; omega
    simp -dsimp -implicitDefEqProofs [hb,yG hlt,h6']
    intro hlen
    refine yc (yvm b) ?_
    simp -dsimp -implicitDefEqProofs
    refine ⟨fun h1=>?_,fun h1=>?_⟩
    ·have : t.yas.all ybr = false:=all_false (p:=ybr) hb h1
     simp only [yP,this,Bool.false_and,Bool.and_false]
    have hok':=yL (p:=ybr) hb hok h1
    refine yg (ι:=Nat) (fun i=>i ≤ k ∧ b.Id ∉ yry t.yas i) (fun i=>yO [(3,.c (.sl 6 (t.yas.map Boat.enc))),(5,.c (.i k)),(6,.c (.i i))] []) (fun i=>k - i) 0 (by simp [yry]) (by apply yj <;> simp) ?_
    rintro i ⟨hi,hni⟩
    rcases Nat.lt_or_ge i k with hlt2 | hge2
    ·obtain ⟨c,hc⟩ : ∃ c,t.yas[i]? = some c:=⟨_,List.getElem?_eq_getElem (by omega)⟩
     have hi3 : (i : Int) < t.yas.length:=by omega
     simp -dsimp -implicitDefEqProofs [hb,hc,yG hlt,yG hlt2,hi3]
     refine ⟨fun h2=>?_,fun h2=>?_⟩
     ·have : ¬ (t.yas.map yfy).Nodup:=by
       refine yyf (k:=k + 1) fun hn=>?_
       refine ((ykm hb).1 hn).2 ?_
       rw [← h2]
       exact List.mem_map.2 ⟨c,List.mem_iff_getElem?.2 ⟨i,by rw [List.getElem?_take,if_pos hlt2]; exact hc⟩,rfl⟩
      simp [yP,this]
     ·refine ⟨by unfold inI; omega,i + 1,⟨hlt2,?_⟩,by omega,by apply yj <;> simp⟩
      rw [yry,List.take_succ,hc,List.map_append]
      simp only [List.mem_append,Option.toList_some,List.map_cons,List.map_nil,List.mem_singleton,yfy]
      rintro (h3 | h3)
      ·exact hni h3
      ·exact h2 h3.symm
    ·simp -dsimp -implicitDefEqProofs [yaB hge2]
     have e : i = k:=by omega
     rw [e] at hni
     exact ⟨by unfold inI; omega,k + 1,⟨hlt,hok',(ykm hb).2 ⟨hnd,hni⟩⟩,by omega,by apply yj <;> simp⟩
   ·have h6' : ((t.yas.length : Int) ≤ 6) = False:=by simp; omega
    simp -dsimp -implicitDefEqProofs [hb,yG hlt,h6']
    intro hlen
    refine yc (yD t.yas.length 1 6) ?_
    simp -dsimp -implicitDefEqProofs
    have h7 : inRange t.yas.length 1 6 = false:=ycG.2 (by omega)
    simp only [yP,h7,Bool.and_false]
  ·simp -dsimp -implicitDefEqProofs [yaB hge]
   intro hlen
   refine yc (yD t.yas.length 1 6) ?_
   simp -dsimp -implicitDefEqProofs
   by_cases h6 : t.yas.length ≤ 6
   ·rw [fin h6 (by omega)]
   ·have h7 : inRange t.yas.length 1 6 = false:=ycG.2 (by omega)
    simp only [yP,h7,Bool.and_false]
theorem yvl {t : Train} {k : Nat} {r : List Boat} (h : t.Rows[k]? = some r) : ∃ m,t.yas = heads t.Rows k ++ r ++ m:=by
 refine ⟨(t.Rows.drop (k + 1)).flatten,?_⟩
 unfold Train.yas
 conv=>lhs; rw [← List.take_append_drop (k + 1) t.Rows]
 rw [List.flatten_append,← yhH h]; rfl
theorem yBC {t : Train} {k : Nat} {r : List Boat} (h : t.Rows[k]? = some r) (h0 : r.length = 0) : yP t = false:=by
 have : t.Rows.all full = false:=all_false (p:=full) h (by simp [full,h0])
 simp only [yP,this,Bool.false_and]
theorem yD8 {t : Train} (h : 6 < t.yas.length) : yP t = false:=by
 have h7 : inRange t.yas.length 1 6 = false:=ycG.2 (by omega)
 simp only [yP,h7,Bool.and_false]
theorem yBq {t : Train} {b : Boat} (hb : b ∈ t.yas) (h : ybr b = false) : yP t = false:=by
 obtain ⟨i,hi⟩:=List.getElem?_of_mem hb
 have : t.yas.all ybr = false:=all_false (p:=ybr) hi h
 simp only [yP,this,Bool.false_and,Bool.and_false]
theorem yEq {t : Train} (h : ¬ (t.yas.map yfy).Nodup) : yP t = false:=by simp [yP,h]
def yfA (l : List Boat) : List (List C):=(l.map yfy).map yJ ++ List.replicate (6 - l.length) [.i 0]
theorem yzV {l : List Boat} (h : l.length ≤ 6) : (yfA l).length = 6:=by simp [yfA]; omega
theorem yyx {l : List Boat} {n : Nat} (h : n = l.length) : (yfA l).take n = (l.map yfy).map yJ:=by
 subst h; unfold yfA; rw [List.take_append_of_le_length (by simp),List.take_of_length_le (by simp)]
theorem yyK {l : List Boat} {b : Boat} (h : l.length < 6) : (yfA l).set l.length [.i b.Id] = yfA (l ++ [b]):=by
 unfold yfA
 rw [List.set_append_right _ _ (by simp)]
 have h1 : ((l.map yfy).map yJ).length = l.length:=by simp
 rw [h1,Nat.sub_self,show 6 - l.length = (6 - (l.length + 1)) + 1 by omega,List.replicate_succ,List.set_cons_zero]
 simp [yfy]
theorem yzC {l : List Boat} (h : l.length < 6) : (yfA l)[l.length]?.getD [] = [.i 0]:=by
 unfold yfA
 rw [List.getElem?_append_right (by simp)]
 have h1 : ((l.map yfy).map yJ).length = l.length:=by simp
 rw [h1,Nat.sub_self,List.getElem?_replicate,if_pos (by omega)]; rfl
theorem yzu : yfA [] = List.replicate 6 [.i 0]:=rfl
structure Met (l : List Boat) : Prop where
 ok : ∀ b ∈ l,ybr b = true
 nd : (l.map yfy).Nodup
 len : l.length ≤ 6
theorem Met.snoc {l : List Boat} {b : Boat} (h : Met l) (h1 : ybr b = true) (h2 : b.Id ∉ l.map yfy) (h3 : l.length < 6) : Met (l ++ [b]):=by
 refine ⟨?_,?_,by simp; omega⟩
 ·intro x hx
  rcases List.mem_append.1 hx with hx | hx
  ·exact h.ok x hx
  ·rw [List.mem_singleton.1 hx]; exact h1
 ·have:=@ykm (l ++ [b]) l.length b (by simp)
  rw [show l.length + 1 = (l ++ [b]).length by simp,List.take_length] at this
  rw [this,List.take_left']
  ·exact ⟨h.nd,h2⟩
  ·rfl
def yfe (t : Train) (k : Nat) (r : List Boat) (j : Nat) : List Boat:=heads t.Rows k ++ r.take j
theorem yoG {t : Train} {k : Nat} {r : List Boat} : yfe t k r 0 = heads t.Rows k:=by simp [yfe]
theorem yvY {t : Train} {k : Nat} {r : List Boat} {j : Nat} {b : Boat} (h : r[j]? = some b) : yfe t k r (j + 1) = yfe t k r j ++ [b]:=by
 unfold yfe; rw [List.take_succ,h]; simp
theorem yrL {t : Train} {k : Nat} {r : List Boat} {j : Nat} (hr : t.Rows[k]? = some r) (h : r.length ≤ j) : yfe t k r j = heads t.Rows (k + 1):=by
 unfold yfe; rw [List.take_of_length_le h,yhH hr]
theorem yxV {t : Train} {k : Nat} {r : List Boat} {j : Nat} (h : j ≤ r.length) : (yfe t k r j).length = (heads t.Rows k).length + j:=by
 unfold yfe; simp; omega
theorem ydp (t : Train) (h : t.small) : yB Tryz.prog 104 [.agg (t.enc.map .c)] (.c (.b (yP t))):=by
 refine yh yoE ?_
 simp -dsimp -implicitDefEqProofs
 intro hlen
 refine ⟨fun h0 _=>⟨fun h1=>?_,fun h1 _=>?_⟩,fun h0=>?_⟩
 ·by_cases h2 : yP t = false
  ·exact h2
  ·exfalso
   have h3 : yP t = true:=by simpa using h2
   simp only [yP,Bool.and_eq_true,List.all_eq_true] at h3
   obtain ⟨⟨⟨h4,_⟩,_⟩,h5⟩:=h3
   have h6:=yF.1 h5
   have : ∀ l : List (List Boat),(∀ r ∈ l,full r = true) → l.length ≤ l.flatten.length:=by
    intro l
    induction l with
    | nil=>simp
    | cons r l ih =>
     intro hl
     have e1:=ih fun x hx=>hl x (by simp [hx])
     have e2:=ytQ.1 (hl r (by simp))
     simp only [List.length_cons,List.flatten_cons,List.length_append]; omega
   have:=this t.Rows h4
   unfold Train.yas at h6
   omega
 ·refine yg (ι:=Nat) (fun k=>k ≤ t.Rows.length ∧ (∀ r ∈ t.Rows.take k,full r = true) ∧ Met (heads t.Rows k)) (fun k=>yO [(3,.row 3 1 0 0),(4,.c (.i (heads t.Rows k).length)),(20,.c (.sl 1 (t.Rows.map yai))),(21,.c (.i t.Rows.length)),(22,.c (.i k))] [(3,.row 1 (yfA (heads t.Rows k)))]) (fun k=>t.Rows.length - k) 0 ⟨by simp,by simp,by simp [yeU],by simp [yeU],by simp [yeU]⟩ (by apply yj <;> simp [yeU,yzu]) ?_
  rintro k ⟨hk,hall,hm⟩
  rcases Nat.lt_or_ge k t.Rows.length with hlt | hge
  ·obtain ⟨r,hr⟩ : ∃ r,t.Rows[k]? = some r:=⟨_,List.getElem?_eq_getElem hlt⟩
   have hml:=hm.len
   have hrs:=(h.2 r (List.mem_of_getElem? hr)).1
   obtain ⟨rest,hsp⟩:=yvl hr
   simp -dsimp -implicitDefEqProofs [hr,yG hlt]
   intro hrl
   refine ⟨fun hr0 _=>⟨by unfold inI; omega,fun h6=>?_,fun h6 _=>?_⟩,fun hr0=>?_⟩
   ·refine yD8 ?_
    rw [hsp]; simp only [List.length_append]; omega
   ·refine yg (ι:=Nat) (fun j=>j ≤ r.length ∧ Met (yfe t k r j)) (fun j=>yO [(3,.row 3 1 0 0),(4,.c (.i (yfe t k r j).length)),(20,.c (.sl 1 (t.Rows.map yai))),(21,.c (.i t.Rows.length)),(22,.c (.i k)),(36,.c (.sl 6 (r.map Boat.enc))),(37,.c (.i r.length)),(38,.c (.i j))] [(3,.row 1 (yfA (yfe t k r j)))]) (fun j=>r.length - j) 0 ⟨by simp,by rw [yoG]; exact hm⟩ (by apply yj <;> simp [yoG]) ?_
    rintro j ⟨hj,hmj⟩
    rcases Nat.lt_or_ge j r.length with hlt2 | hge2
    ·obtain ⟨b,hb⟩ : ∃ b,r[j]? = some b:=⟨_,List.getElem?_eq_getElem hlt2⟩
     have hsl:=yxV (t:=t) (k:=k) hj
     have hlt6 : (yfe t k r j).length < 6:=by omega
     have hmem : b ∈ t.yas:=by
      rw [hsp]; simp only [List.mem_append]; exact .inl (.inr (List.mem_of_getElem? hb))
     simp -dsimp -implicitDefEqProofs [hb,yG hlt2]
     refine yaC (yuc b) ?_
     simp -dsimp -implicitDefEqProofs
     refine ⟨fun h2=>?_,fun h2=>yBq hmem h2⟩
     have hsn:=yzV hmj.len
     refine ⟨by omega,hsn,?_⟩
     refine ⟨_,_,ypJ ((yfe t k r j).map yfy) b.Id,by simp [yyx],.inr rfl,?_⟩
     simp -dsimp -implicitDefEqProofs [yG hlt2,yzC hlt6,yyK hlt6]
     refine ⟨fun x hx he=>yEq fun hn=>?_,fun h3=>?_⟩
     ·have hsp2 : t.yas = yfe t k r j ++ (b :: (r.drop (j + 1) ++ rest)):=by
       rw [hsp]; unfold yfe
       have : r = r.take j ++ b :: r.drop (j + 1):=by
        conv=>lhs; rw [← List.take_append_drop j r]
        rw [List.drop_eq_getElem_cons hlt2,(List.getElem?_eq_some_iff.1 hb).2]
       conv=>lhs; rw [this]
       simp
      rw [hsp2,List.map_append,List.map_cons] at hn
      exact (List.nodup_append.1 hn).2.2 _ (List.mem_map_of_mem hx) _ (List.mem_cons_self) he
     ·have hni : b.Id ∉ (yfe t k r j).map yfy:=by
       intro hm'
       obtain ⟨x,hx,he⟩:=List.mem_map.1 hm'
       exact h3 x hx he
      have hs1:=yvY (t:=t) (k:=k) hb
      refine ⟨by omega,by omega,by unfold inI; omega,by unfold inI; omega,j + 1,⟨hlt2,by rw [hs1]; exact hmj.snoc h2 hni hlt6⟩,by omega,?_⟩
      apply yj <;> simp [hs1]
    ·simp -dsimp -implicitDefEqProofs [yaB hge2]
     rw [yrL hr hge2] at hmj
     refine ⟨by unfold inI; omega,k + 1,⟨hlt,yL (p:=full) hr hall (by simp [full,hr0]),hmj⟩,by omega,?_⟩
     apply yj <;> simp [yrL hr hge2]
   ·exact yBC hr (by simp [hr0])
  ·simp -dsimp -implicitDefEqProofs [yaB hge]
   rw [yjI hge] at hm
   have hr1:=yX (p:=full) hge hall
   have hb1 : t.yas.all ybr = true:=List.all_eq_true.2 hm.ok
   have hl1 : 0 < t.yas.length:=by
    obtain ⟨r,l,e⟩:=List.exists_cons_of_ne_nil h0
    have:=ytQ.1 (List.all_eq_true.1 hr1 r (by rw [e]; simp))
    unfold Train.yas
    rw [e]; simp only [List.flatten_cons,List.length_append]; omega
   have hl2 : t.yas.length ≤ 6:=hm.len
   have h7 : inRange t.yas.length 1 6 = true:=yF.2 (by omega)
   have hn1 : (t.yas.map yfy).Nodup:=hm.nd
   simp [yP,hr1,hb1,hn1,h7]
 ·have : t.yas = []:=by simp [Train.yas,h0]
  have h7 : inRange t.yas.length 1 6 = false:=by rw [this]; rfl
  simp only [yP,h7,Bool.and_false]
def maxOf (f : Boat → Int) (l : List Boat) (z : Int) : Int:=l.foldl (fun m b=>if m < f b then f b else m) z
def minOf (f : Boat → Int) (l : List Boat) (z : Int) : Int:=l.foldl (fun m b=>if f b < m then f b else m) z
def yP9 (f : Boat → Int) (l : List Boat) (z : Int) (k : Nat) : Int:=maxOf f (l.take k) z
def yLK (f : Boat → Int) (l : List Boat) (z : Int) (k : Nat) : Int:=minOf f (l.take k) z
theorem yPJ {f : Boat → Int} {l : List Boat} {z : Int} : yP9 f l z 0 = z:=rfl
theorem yL8 {f : Boat → Int} {l : List Boat} {z : Int} : yLK f l z 0 = z:=rfl
theorem yQw {f : Boat → Int} {l : List Boat} {z : Int} {k : Nat} {b : Boat} (h : l[k]? = some b) : yP9 f l z (k + 1) = if yP9 f l z k < f b then f b else yP9 f l z k:=by
 unfold yP9 maxOf; rw [List.take_succ,h,List.foldl_append]; rfl
theorem yL1 {f : Boat → Int} {l : List Boat} {z : Int} {k : Nat} {b : Boat} (h : l[k]? = some b) : yLK f l z (k + 1) = if f b < yLK f l z k then f b else yLK f l z k:=by
 unfold yLK minOf; rw [List.take_succ,h,List.foldl_append]; rfl
theorem yQQ {f : Boat → Int} {l : List Boat} {z : Int} {k : Nat} (h : l.length ≤ k) : yP9 f l z k = maxOf f l z:=by
 unfold yP9; rw [List.take_of_length_le h]
theorem yMj {f : Boat → Int} {l : List Boat} {z : Int} {k : Nat} (h : l.length ≤ k) : yLK f l z k = minOf f l z:=by
 unfold yLK; rw [List.take_of_length_le h]
theorem yRc {f : Boat → Int} {a b : Int} : ∀ {l : List Boat} {z : Int},(∀ x ∈ l,a ≤ f x ∧ f x ≤ b) → a ≤ z → z ≤ b → a ≤ maxOf f l z ∧ maxOf f l z ≤ b
 | [],z,_,h1,h2=>⟨h1,h2⟩
 | x :: l,z,h,h1,h2=>by
  have:=h x (by simp)
  unfold maxOf
  rw [List.foldl_cons]
  refine yRc (l:=l) (fun y hy=>h y (by simp [hy])) ?_ ?_ <;> split <;> omega
theorem yMv {f : Boat → Int} {a b : Int} : ∀ {l : List Boat} {z : Int},(∀ x ∈ l,a ≤ f x ∧ f x ≤ b) → a ≤ z → z ≤ b → a ≤ minOf f l z ∧ minOf f l z ≤ b
 | [],z,_,h1,h2=>⟨h1,h2⟩
 | x :: l,z,h,h1,h2=>by
  have:=h x (by simp)
  unfold minOf
  rw [List.foldl_cons]
  refine yMv (l:=l) (fun y hy=>h y (by simp [hy])) ?_ ?_ <;> split <;> omega
structure TrainFacts (t : Train) : Prop where
 rows : ∀ r ∈ t.Rows,full r = true
 ok : ∀ b ∈ t.yas,ybr b = true
 nd : (t.yas.map yfy).Nodup
 pos : 1 ≤ t.yas.length
 len : t.yas.length ≤ 6
theorem yhY {t : Train} (h : yP t = true) : TrainFacts t:=by
 simp only [yP,Bool.and_eq_true,List.all_eq_true,decide_eq_true_eq] at h
 obtain ⟨⟨⟨h1,h2⟩,h3⟩,h4⟩:=h
 have h5:=yF.1 h4
 exact ⟨h1,h2,h3,by omega,by omega⟩
theorem yMg {b : Boat} (h : ybr b = true) : (1 ≤ b.Id ∧ b.Id ≤ 9999) ∧ (1 ≤ b.Length ∧ b.Length ≤ 200) ∧ (1 ≤ b.Width ∧ b.Width ≤ 30) ∧ (1 ≤ b.Draught ∧ b.Draught ≤ 100) ∧ (1 ≤ b.Speed ∧ b.Speed ≤ 50) ∧ (0 ≤ b.Class ∧ b.Class ≤ 2):=by
 simp only [ybr,Bool.and_eq_true] at h
 obtain ⟨⟨⟨⟨⟨h1,h2⟩,h3⟩,h4⟩,h5⟩,h6⟩:=h
 exact ⟨yF.1 h1,yF.1 h2,yF.1 h3,yF.1 h4,yF.1 h5,yF.1 h6⟩
theorem yya (t : Train) (h : t.small) : yB Tryz.prog 108 [.agg (t.enc.map .c)] (.c (.sl 6 (t.yas.map Boat.enc))):=by
 refine yh yoM ?_
 simp -dsimp -implicitDefEqProofs
 intro hlen
 refine ymd (k0:=6) 3 6 (by simp) (by simp) (by decide) ?_
 refine yg (ι:=Nat) (fun k=>k ≤ t.Rows.length) (fun k=>yO [(3,.own 3 6 (heads t.Rows k).length),(7,.c (.sl 1 (t.Rows.map yai))),(8,.c (.i t.Rows.length)),(9,.c (.i k))] [(3,.row 6 ((heads t.Rows k).map Boat.enc))]) (fun k=>t.Rows.length - k) 0 (by simp) (by apply yj <;> simp [yeU]) ?_
 rintro k hk
 rcases Nat.lt_or_ge k t.Rows.length with hlt | hge
 ·obtain ⟨r,hr⟩ : ∃ r,t.Rows[k]? = some r:=⟨_,List.getElem?_eq_getElem hlt⟩
  have hb:=yi0 h (k + 1)
  have hf:=yhH hr
  rw [hf,List.length_append] at hb
  simp -dsimp -implicitDefEqProofs [hr,yG hlt]
  refine ⟨by omega,yw hlt hlen,k + 1,hlt,by omega,?_⟩
  apply yj <;> simp [hf]
 ·simp -dsimp -implicitDefEqProofs [yaB hge]
  rw [yjI hge]
  rw [List.take_of_length_le (by rw [List.length_map]; exact Nat.le_refl _)]; rfl
def yMM (f : Boat → Int) (l : List Boat) : Int:=match l with | b :: _=>f b | []=>0
theorem yNi {l : List Boat} {b : Boat} (h : l[0]? = some b) (f : Boat → Int) : yMM f l = f b:=by
 cases l with
 | nil=>simp at h
 | cons x l=>simp at h; rw [h]; rfl
theorem yLO {t : Train} (h : TrainFacts t) : ∃ r b,t.Rows[0]? = some r ∧ r[0]? = some b ∧ t.yas[0]? = some b:=by
 have h1:=h.pos
 cases hr : t.Rows with
 | nil=>unfold Train.yas at h1; rw [hr] at h1; simp at h1
 | cons r l =>
  have h2:=ytQ.1 (h.rows r (by rw [hr]; simp))
  cases r with
  | nil=>simp at h2
  | cons b r=>exact ⟨b :: r,b,rfl,rfl,by unfold Train.yas; rw [hr]; rfl⟩
def yhJ (xs : List Int) (l : Int) : Int:=szS xs.length l
def ykx : List Int → Prop:=ycs fun _=>True
theorem yeY : yey yhJ ykx:=yhU
theorem yjw (xs : List Int) (l : Int) (h0 : 0 ≤ l) (h1 : l ≤ 1048576) : yB Tryz.prog 22 [.c (.sl 1 (xs.map yJ)),.c (.i l)] (.c (.i (yhJ xs l))):=yz0 xs l h0 h1
structure Point where
 X : Int
 Y : Int
 deriving DecidableEq,Inhabited
@[simp] def Point.enc (e : Point) : List C:=[.i e.X,.i e.Y]
-- Point
theorem yrB (e : Point) : yB Tryz.prog 260 [.agg (e.enc.map .c)] (.agg (e.enc.map .c)):=by
 refine yh ypj ?_
 simp -dsimp -implicitDefEqProofs
theorem yyp (a b : Point) : yB Tryz.prog 265 [.agg (a.enc.map .c),.agg (b.enc.map .c)] (.c (.b (decide (a = b)))):=by
 refine yh yoo ?_
 obtain ⟨a0,a1⟩:=a
 obtain ⟨b0,b1⟩:=b
 simp -dsimp -implicitDefEqProofs [yiZ,Point.mk.injEq]
 refine ⟨fun h=>by simp_all,fun h0=>?_⟩
 refine ⟨fun h=>by simp_all,fun h1=>?_⟩
 simp_all
-- []Point
def yg2 (xs : List Point) (l : Int) : Int:=szS xs.length l
def yfO : List Point → Prop:=ycs fun _=>True
theorem ylh : yey yg2 yfO:=yhU
theorem yuC (xs : List Point) (l : Int) (h0 : 0 ≤ l) (h1 : l ≤ 1048576) : yB Tryz.prog 166 [.c (.sl 2 (xs.map Point.enc)),.c (.i l)] (.c (.i (yg2 xs l))):=by
 refine yh ynd ?_
 simp -dsimp -implicitDefEqProofs [yiq,yg2,szS]
 intro hl
 unfold maxLen at hl
 refine ⟨by unfold inI; omega,fun h=>?_,fun h=>?_⟩ <;> intros <;> omega
theorem yvM (xs : List Point) (hl : yfO xs) : yB Tryz.prog 177 [.c (.sl 2 (xs.map Point.enc))] (.c (.sl 2 (xs.map Point.enc))):=by
 refine yh yiu ?_
 simp -dsimp -implicitDefEqProofs
 intro hlen
 have hl1:=hl.1
 refine ⟨by omega,?_⟩
 refine yg (ι:=Nat) (fun k=>k ≤ xs.length) (fun k=>yO [(0,.c (.sl 2 (xs.map Point.enc))),(3,.own 7 2 xs.length),(4,.c (.i k))] [(7,.row 2 (partly Point.enc [.i 0,.i 0] xs k))]) (fun k=>xs.length - k) 0 (by simp) (by apply yj <;> simp [yab]) ?_
 rintro k hk
 rcases Nat.lt_or_ge k xs.length with hlt | hge
 ·obtain ⟨e,he⟩ : ∃ e,xs[k]? = some e:=⟨_,List.getElem?_eq_getElem hlt⟩
  have hs:=yaj (f:=Point.enc) (z:=[.i 0,.i 0]) he
  have hd:=yav (f:=Point.enc) (z:=[.i 0,.i 0]) (n:=2) rfl hlt
  simp only [Point.enc] at hs
  simp -dsimp -implicitDefEqProofs [he,yG hlt]
  refine fun _=>yaP (yrB e ) (by simp) rfl ?_
  simp -dsimp -implicitDefEqProofs [yG hlt,yak hk,hd,hs]
  exact ⟨hlt,yw hlt hlen,k + 1,hlt,by omega,by apply yj <;> simp⟩
 ·simp -dsimp -implicitDefEqProofs [yaB hge]
  intro _
  rw [yam hge,List.take_of_length_le (by simp)]
theorem yvv (es fs : List Point) : yB Tryz.prog 194 [.c (.sl 2 (es.map Point.enc)),.c (.sl 2 (fs.map Point.enc))] (.c (.b (decide (es = fs)))):=by
 refine yh ynO ?_
 simp -dsimp -implicitDefEqProofs
 intro hl1 hl2
 refine ⟨fun h e=>h (by rw [e]),fun hlen=>?_⟩
 have hlen' : es.length = fs.length:=by omega
 refine yg (ι:=Nat) (fun k=>k ≤ es.length ∧ es.take k = fs.take k) (fun k=>yO [(0,.c (.sl 2 (es.map Point.enc))),(1,.c (.sl 2 (fs.map Point.enc))),(5,.c (.i k))] []) (fun k=>es.length - k) 0 (by simp) (by apply yj <;> simp) ?_
 rintro k ⟨hk,htk⟩
 rcases Nat.lt_or_ge k es.length with hlt | hge
 ·obtain ⟨e,he⟩ : ∃ e,es[k]? = some e:=⟨_,List.getElem?_eq_getElem hlt⟩
  obtain ⟨f,hf⟩ : ∃ f,fs[k]? = some f:=⟨_,List.getElem?_eq_getElem (by omega)⟩
  simp -dsimp -implicitDefEqProofs [he,hf,yG hlt,yG (hlen' ▸ hlt)]
  intro _
  refine yaC (yyp e f) ?_
  simp -dsimp -implicitDefEqProofs
  refine ⟨fun h=>ybG he hf h,fun h=>⟨yw hlt hl1,k + 1,⟨hlt,yaR he hf htk h⟩,by omega,by apply yj <;> simp⟩⟩
 ·simp -dsimp -implicitDefEqProofs [yaB hge]
  intro _
  exact ybf hge hlen' htk
structure Reach where
 Table : List Point
 Volume : Int
 Pipe : List Int
 deriving DecidableEq,Inhabited
@[simp] def Reach.enc (e : Reach) : List C:=[.sl 2 (e.Table.map Point.enc),.i e.Volume,.sl 1 (e.Pipe.map yJ)]
-- Reach
def ycy (e : Reach) (l : Int) : Int:=ybm (yg2 e.Table l) fun l=>ybm (yhJ e.Pipe l) fun l=>l
def Reach.small (e : Reach) : Prop:=yfO e.Table ∧ ykx e.Pipe
theorem ymW : yey ycy Reach.small:=by
 intro e l h0 h1
 unfold ycy
 rcases ylh e.Table _ h0 h1 with e0 | ⟨a0,b0,s0⟩
 ·exact .inl (yK (by omega))
 rw [yu a0]
 rcases yeY e.Pipe _ a0 (by omega) with e1 | ⟨a1,b1,s1⟩
 ·exact .inl (yK (by omega))
 rw [yu a1]
 exact .inr ⟨a1,by omega,s0,s1⟩
theorem yvH (e : Reach) (l : Int) (h0 : 0 ≤ l) (h1 : l ≤ 1048576) : yB Tryz.prog 82 [.agg (e.enc.map .c),.c (.i l)] (.c (.i (ycy e l))):=by
 refine yh ypp ?_
 simp -dsimp -implicitDefEqProofs
 refine yc (yuC e.Table _ h0 h1) ?_
 simp -dsimp -implicitDefEqProofs
 refine ⟨fun h=>by simp [ycy,yK h],fun p0=>?_⟩
 have q0:=yin ylh e.Table h0 h1 p0
 refine yc (yjw e.Pipe _ p0 q0) ?_
 simp -dsimp -implicitDefEqProofs
 refine ⟨fun h=>by simp [ycy,yu p0,yK h],fun p1=>?_⟩
 simp [ycy,yu p0,yu p1]
theorem yxy (e : Reach) (hl : Reach.small e) : yB Tryz.prog 93 [.agg (e.enc.map .c)] (.agg (e.enc.map .c)):=by
 refine yh yiN ?_
 simp -dsimp -implicitDefEqProofs
 refine yS (yvM e.Table (hl.1)) ?_
 simp -dsimp -implicitDefEqProofs
 refine yS (ylC e.Pipe (hl.2.1)) ?_
 simp -dsimp -implicitDefEqProofs
theorem yx6 (a b : Reach) : yB Tryz.prog 110 [.agg (a.enc.map .c),.agg (b.enc.map .c)] (.c (.b (decide (a = b)))):=by
 refine yh yn6 ?_
 obtain ⟨a0,a1,a2⟩:=a
 obtain ⟨b0,b1,b2⟩:=b
 simp -dsimp -implicitDefEqProofs [yjl,Reach.mk.injEq]
 refine yc (yvv a0 b0) ?_
 simp -dsimp -implicitDefEqProofs
 refine ⟨fun h=>by simp_all,fun h0=>?_⟩
 refine ⟨fun h=>by simp_all,fun h1=>?_⟩
 refine yc (ykZ a2 b2) ?_
 simp -dsimp -implicitDefEqProofs
 refine ⟨fun h=>by simp_all,fun h2=>?_⟩
 simp_all
def follows (a b : Point) : Bool:=decide (a.X < b.X) && decide (a.Y ≤ b.Y)
theorem yUq {t : Train} (h : TrainFacts t) : t.Rows.length ≤ 6:=by
 have : ∀ l : List (List Boat),(∀ r ∈ l,full r = true) → l.length ≤ l.flatten.length:=by
  intro l
  induction l with
  | nil=>simp
  | cons r l ih =>
   intro hl
   have e1:=ih fun x hx=>hl x (by simp [hx])
   have e2:=ytQ.1 (hl r (by simp))
   simp only [List.length_cons,List.flatten_cons,List.length_append]; omega
 have h1:=this t.Rows h.rows
 have h2:=h.len
 unfold Train.yas at h2
 omega
theorem ySZ {t : Train} (h : TrainFacts t) {k : Nat} {r : List Boat} (hr : t.Rows[k]? = some r) : 1 ≤ r.length ∧ r.length ≤ 6 ∧ ∀ b ∈ r,ybr b = true:=by
 have h1:=ytQ.1 (h.rows r (List.mem_of_getElem? hr))
 obtain ⟨m,e⟩:=yvl hr
 have h2:=h.len
 rw [e] at h2
 simp only [List.length_append] at h2
 exact ⟨by omega,by omega,fun b hb=>h.ok b (by rw [e]; simp [hb])⟩
def sumF {α : Type} (f : α → Int) (l : List α) (k : Nat) : Int:=((l.take k).map f).sum
theorem ySm {α : Type} {f : α → Int} {l : List α} : sumF f l 0 = 0:=rfl
theorem ySD {α : Type} {f : α → Int} {l : List α} {k : Nat} {x : α} (h : l[k]? = some x) : sumF f l (k + 1) = sumF f l k + f x:=by
 unfold sumF; rw [List.take_succ,h,List.map_append,List.sum_append]; simp
theorem ySC {α : Type} {f : α → Int} {l : List α} {k : Nat} (h : l.length ≤ k) : sumF f l k = (l.map f).sum:=by
 unfold sumF; rw [List.take_of_length_le h]
theorem yTS {α : Type} {f : α → Int} {l : List α} {c : Int} (hc : 0 ≤ c) (h : ∀ x ∈ l,0 ≤ f x ∧ f x ≤ c) : ∀ k : Nat,0 ≤ sumF f l k ∧ sumF f l k ≤ c * k
 | 0=>by simp [ySm]
 | k + 1=>by
  have ih:=yTS hc h k
  have e : c * ((k + 1 : Nat) : Int) = c * k + c:=by rw [Int.natCast_add,Int.mul_add]; simp
  cases hk : l[k]? with
  | none =>
   have : l.length ≤ k:=by simpa using hk
   have e2 : sumF f l (k + 1) = sumF f l k:=by unfold sumF; rw [List.take_of_length_le (by omega),List.take_of_length_le this]
   rw [e2,e]; omega
  | some x =>
   have:=h x (List.mem_of_getElem? hk)
   rw [ySD hk,e]; omega
def rowLen (r : List Boat) : Int:=maxOf Boat.Length r 0
def yR1 (t : Train) : Int:=if yP t then (t.Rows.map rowLen).sum else 0
theorem yUi {r : List Boat} (h : ∀ b ∈ r,ybr b = true) : 0 ≤ rowLen r ∧ rowLen r ≤ 200 :=
 yRc (fun x hx=>by have:=yMg (h x hx); omega) (by omega) (by omega)
theorem yST {t : Train} (h : TrainFacts t) {k : Nat} (hk : k ≤ t.Rows.length) : 0 ≤ sumF rowLen t.Rows k ∧ sumF rowLen t.Rows k ≤ 1200:=by
 have h1:=yTS (f:=rowLen) (l:=t.Rows) (c:=200) (by omega) (fun r hr=>by
  obtain ⟨i,hi⟩:=List.getElem?_of_mem hr
  exact yUi (ySZ h hi).2.2) k
 have:=yUq h
 omega
theorem yTV (t : Train) : 0 ≤ yR1 t ∧ yR1 t ≤ 1200:=by
 unfold yR1
 split
 ·rename_i h
  have:=yST (yhY h) (Nat.le_refl _)
  rw [ySC (Nat.le_refl _)] at this; exact this
 ·omega
theorem yTJ (t : Train) (h : t.small) : yB Tryz.prog 191 [.agg (t.enc.map .c)] (.c (.i (yR1 t))):=by
 refine yh yTs ?_
 simp -dsimp -implicitDefEqProofs
 refine yc (ydp t h) ?_
 simp -dsimp -implicitDefEqProofs
 refine ⟨fun h1=>by simp [yR1,h1],fun h1 hlen=>?_⟩
 have tf:=yhY h1
 refine yg (ι:=Nat) (fun k=>k ≤ t.Rows.length) (fun k=>yO [(3,.c (.i (sumF rowLen t.Rows k))),(13,.c (.sl 1 (t.Rows.map yai))),(14,.c (.i t.Rows.length)),(15,.c (.i k))] []) (fun k=>t.Rows.length - k) 0 (by simp) (by apply yj <;> simp [ySm]) ?_
 rintro k hk
 rcases Nat.lt_or_ge k t.Rows.length with hlt | hge
 ·obtain ⟨r,hr⟩ : ∃ r,t.Rows[k]? = some r:=⟨_,List.getElem?_eq_getElem hlt⟩
  simp -dsimp -implicitDefEqProofs [hr,yG hlt]
  intro hrl
  refine yg (ι:=Nat) (fun j=>j ≤ r.length) (fun j=>yO [(3,.c (.i (sumF rowLen t.Rows k))),(13,.c (.sl 1 (t.Rows.map yai))),(14,.c (.i t.Rows.length)),(15,.c (.i k)),(6,.c (.i (yP9 Boat.Length r 0 j))),(19,.c (.sl 6 (r.map Boat.enc))),(20,.c (.i r.length)),(21,.c (.i j))] []) (fun j=>r.length - j) 0 (by simp) (by apply yj <;> simp [yPJ]) ?_
  rintro j hj
  rcases Nat.lt_or_ge j r.length with hlt2 | hge2
  ·obtain ⟨b,hb⟩ : ∃ b,r[j]? = some b:=⟨_,List.getElem?_eq_getElem hlt2⟩
   simp -dsimp -implicitDefEqProofs [hb,yG hlt2]
   refine ⟨yw hlt2 hrl,j + 1,hlt2,by omega,?_⟩
   apply yj <;> simp [yQw hb]
  ·simp -dsimp -implicitDefEqProofs [yaB hge2]
   have b1:=yST tf hk
   have b2:=yST tf (show k + 1 ≤ t.Rows.length from hlt)
   have e:=ySD (f:=rowLen) hr
   rw [yQQ hge2]
   have e' : sumF rowLen t.Rows (k + 1) = sumF rowLen t.Rows k + maxOf Boat.Length r 0:=e
   refine ⟨by unfold inI; omega,yw hlt hlen,k + 1,hlt,by omega,?_⟩
   apply yj <;> simp [e']
 ·simp -dsimp -implicitDefEqProofs [yaB hge]
  simp [yR1,h1,ySC hge]
theorem yTF (t : Train) (h : t.small) : yB Tryz.prog 174 [.agg (t.enc.map .c)] (.c (.i (yR1 t))):=by
 refine yh yTq ?_
 simp -dsimp -implicitDefEqProofs
 refine yg (ι:=Nat) (fun k=>k ≤ t.Rows.length ∧ (k ≠ 0 → yP t = true)) (fun k=>yO [(1,.box 1 0),(3,.c (.i (sumF rowLen t.Rows k))),(4,.c (.i k))] [(1,.box (t.enc.map .c))]) (fun k=>t.Rows.length - k) 0 (by simp) (by apply yj <;> simp [ySm]) ?_
 rintro k ⟨hk,hok⟩
 have fin : yP t = false → k = 0:=fun h1=>by
  rcases Nat.eq_zero_or_pos k with e | e
  ·exact e
  ·rw [hok (by omega)] at h1; cases h1
 rcases Nat.lt_or_ge k t.Rows.length with hlt | hge
 ·obtain ⟨r,hr⟩ : ∃ r,t.Rows[k]? = some r:=⟨_,List.getElem?_eq_getElem hlt⟩
  simp -dsimp -implicitDefEqProofs [hr,yG hlt]
  intro hlen
  refine yc (yds t h) ?_
  simp -dsimp -implicitDefEqProofs [hr,yG hlt]
  refine ⟨fun h1=>?_,fun h1=>?_⟩
  ·have tf:=yhY h1
   refine yg (ι:=Nat) (fun j=>j ≤ r.length) (fun j=>yO [(1,.box 1 0),(3,.c (.i (sumF rowLen t.Rows k))),(4,.c (.i k)),(5,.c (.i (yP9 Boat.Length r 0 j))),(6,.c (.i j))] [(1,.box (t.enc.map .c))]) (fun j=>r.length - j) 0 (by simp) (by apply yj <;> simp [yPJ]) ?_
   rintro j hj
   rcases Nat.lt_or_ge j r.length with hlt2 | hge2
   ·obtain ⟨b,hb⟩ : ∃ b,r[j]? = some b:=⟨_,List.getElem?_eq_getElem hlt2⟩
    simp -dsimp -implicitDefEqProofs [hr,yG hlt,hb,yG hlt2]
    intro hrl
    refine ⟨yw hlt2 hrl,j + 1,hlt2,by omega,?_⟩
    apply yj <;> simp [yQw hb]
   ·simp -dsimp -implicitDefEqProofs [hr,yG hlt,yaB hge2]
    have b1:=yST tf hk
    have b2:=yST tf (show k + 1 ≤ t.Rows.length from hlt)
    have e' : sumF rowLen t.Rows (k + 1) = sumF rowLen t.Rows k + maxOf Boat.Length r 0:=ySD (f:=rowLen) hr
    rw [yQQ hge2]
    refine fun _=>⟨by unfold inI; omega,yw hlt hlen,k + 1,⟨hlt,fun _=>h1⟩,by omega,?_⟩
    apply yj <;> simp [e']
  ·have:=fin h1
   subst this
   simp [yR1,h1,ySm]
 ·simp -dsimp -implicitDefEqProofs [yaB hge]
  intro _
  by_cases h1 : yP t = true
  ·simp [yR1,h1,ySC hge]
  ·have:=fin (by simpa using h1)
   subst this
   simp [yR1,h1,ySm]
def ySr (r : List Boat) : Int:=(r.map Boat.Width).sum
def yT4 (l : List (List Boat)) : Int:=l.foldl (fun m r=>if m < ySr r then ySr r else m) 0
def ySf (l : List (List Boat)) (k : Nat) : Int:=yT4 (l.take k)
theorem ySv {l : List (List Boat)} : ySf l 0 = 0:=rfl
theorem yTj {l : List (List Boat)} {k : Nat} {r : List Boat} (h : l[k]? = some r) : ySf l (k + 1) = if ySf l k < ySr r then ySr r else ySf l k:=by
 unfold ySf yT4; rw [List.take_succ,h,List.foldl_append]; rfl
theorem yTA {l : List (List Boat)} {k : Nat} (h : l.length ≤ k) : ySf l k = yT4 l:=by
 unfold ySf; rw [List.take_of_length_le h]
def yR6 (t : Train) : Int:=if yP t then yT4 t.Rows else 0
theorem yTB {r : List Boat} (h : ∀ b ∈ r,ybr b = true) (h6 : r.length ≤ 6) {k : Nat} (hk : k ≤ r.length) : 0 ≤ sumF Boat.Width r k ∧ sumF Boat.Width r k ≤ 180:=by
 have:=yTS (f:=Boat.Width) (l:=r) (c:=30) (by omega) (fun b hb=>by have:=yMg (h b hb); omega) k
 omega
theorem yUo {l : List (List Boat)} (h : ∀ r ∈ l,0 ≤ ySr r ∧ ySr r ≤ 180) : 0 ≤ yT4 l ∧ yT4 l ≤ 180:=by
 unfold yT4
 have : ∀ (l : List (List Boat)) (z : Int),(∀ r ∈ l,0 ≤ ySr r ∧ ySr r ≤ 180) → 0 ≤ z → z ≤ 180 → 0 ≤ l.foldl (fun m r=>if m < ySr r then ySr r else m) z ∧ l.foldl (fun m r=>if m < ySr r then ySr r else m) z ≤ 180:=by
  intro l
  induction l with
  | nil=>intro z _ h1 h2; exact ⟨h1,h2⟩
  | cons r l ih =>
   intro z h h1 h2
   have:=h r (by simp)
   rw [List.foldl_cons]
   refine ih _ (fun y hy=>h y (by simp [hy])) ?_ ?_ <;> split <;> omega
 exact this l 0 h (by omega) (by omega)
theorem yT5 (t : Train) : 0 ≤ yR6 t ∧ yR6 t ≤ 180:=by
 unfold yR6
 split
 ·rename_i h
  refine yUo fun r hr=>?_
  obtain ⟨i,hi⟩:=List.getElem?_of_mem hr
  obtain ⟨a1,a2,a3⟩:=ySZ (yhY h) hi
  have:=yTB a3 a2 (Nat.le_refl _)
  rw [ySC (Nat.le_refl _)] at this; exact this
 ·omega
theorem yTU (t : Train) (h : t.small) : yB Tryz.prog 192 [.agg (t.enc.map .c)] (.c (.i (yR6 t))):=by
 refine yh yTC ?_
 simp -dsimp -implicitDefEqProofs
 refine yc (ydp t h) ?_
 simp -dsimp -implicitDefEqProofs
 refine ⟨fun h1=>by simp [yR6,h1],fun h1 hlen=>?_⟩
 have tf:=yhY h1
 refine yg (ι:=Nat) (fun k=>k ≤ t.Rows.length) (fun k=>yO [(3,.c (.i (ySf t.Rows k))),(13,.c (.sl 1 (t.Rows.map yai))),(14,.c (.i t.Rows.length)),(15,.c (.i k))] []) (fun k=>t.Rows.length - k) 0 (by simp) (by apply yj <;> simp [ySv]) ?_
 rintro k hk
 rcases Nat.lt_or_ge k t.Rows.length with hlt | hge
 ·obtain ⟨r,hr⟩ : ∃ r,t.Rows[k]? = some r:=⟨_,List.getElem?_eq_getElem hlt⟩
  obtain ⟨a1,a2,a3⟩:=ySZ tf hr
  simp -dsimp -implicitDefEqProofs [hr,yG hlt]
  intro hrl
  refine yg (ι:=Nat) (fun j=>j ≤ r.length) (fun j=>yO [(3,.c (.i (ySf t.Rows k))),(13,.c (.sl 1 (t.Rows.map yai))),(14,.c (.i t.Rows.length)),(15,.c (.i k)),(6,.c (.i (sumF Boat.Width r j))),(19,.c (.sl 6 (r.map Boat.enc))),(20,.c (.i r.length)),(21,.c (.i j))] []) (fun j=>r.length - j) 0 (by simp) (by apply yj <;> simp [ySm]) ?_
  rintro j hj
  rcases Nat.lt_or_ge j r.length with hlt2 | hge2
  ·obtain ⟨b,hb⟩ : ∃ b,r[j]? = some b:=⟨_,List.getElem?_eq_getElem hlt2⟩
   have b1:=yTB a3 a2 (show j + 1 ≤ r.length from hlt2)
   have e:=ySD (f:=Boat.Width) hb
   simp -dsimp -implicitDefEqProofs [hb,yG hlt2]
   refine ⟨by unfold inI; omega,yw hlt2 hrl,j + 1,hlt2,by omega,?_⟩
   apply yj <;> simp [e]
  ·simp -dsimp -implicitDefEqProofs [yaB hge2]
   rw [ySC hge2]
   have e : ySf t.Rows (k + 1) = if ySf t.Rows k < (r.map Boat.Width).sum then (r.map Boat.Width).sum else ySf t.Rows k:=yTj hr
   refine ⟨yw hlt hlen,k + 1,hlt,by omega,?_⟩
   apply yj <;> simp [e]
 ·simp -dsimp -implicitDefEqProofs [yaB hge]
  simp [yR6,h1,yTA hge]
theorem yTR (t : Train) (h : t.small) : yB Tryz.prog 175 [.agg (t.enc.map .c)] (.c (.i (yR6 t))):=by
 refine yh yTz ?_
 simp -dsimp -implicitDefEqProofs
 refine yg (ι:=Nat) (fun k=>k ≤ t.Rows.length ∧ (k ≠ 0 → yP t = true)) (fun k=>yO [(1,.box 1 0),(3,.c (.i (ySf t.Rows k))),(4,.c (.i k))] [(1,.box (t.enc.map .c))]) (fun k=>t.Rows.length - k) 0 (by simp) (by apply yj <;> simp [ySv]) ?_
 rintro k ⟨hk,hok⟩
 have fin : yP t = false → k = 0:=fun h1=>by
  rcases Nat.eq_zero_or_pos k with e | e
  ·exact e
  ·rw [hok (by omega)] at h1; cases h1
 rcases Nat.lt_or_ge k t.Rows.length with hlt | hge
 ·obtain ⟨r,hr⟩ : ∃ r,t.Rows[k]? = some r:=⟨_,List.getElem?_eq_getElem hlt⟩
  simp -dsimp -implicitDefEqProofs [hr,yG hlt]
  intro hlen
  refine yc (yds t h) ?_
  simp -dsimp -implicitDefEqProofs [hr,yG hlt]
  refine ⟨fun h1=>?_,fun h1=>?_⟩
  ·have tf:=yhY h1
   obtain ⟨a1,a2,a3⟩:=ySZ tf hr
   refine yg (ι:=Nat) (fun j=>j ≤ r.length) (fun j=>yO [(1,.box 1 0),(3,.c (.i (ySf t.Rows k))),(4,.c (.i k)),(5,.c (.i (sumF Boat.Width r j))),(6,.c (.i j))] [(1,.box (t.enc.map .c))]) (fun j=>r.length - j) 0 (by simp) (by apply yj <;> simp [ySm]) ?_
   rintro j hj
   rcases Nat.lt_or_ge j r.length with hlt2 | hge2
   ·obtain ⟨b,hb⟩ : ∃ b,r[j]? = some b:=⟨_,List.getElem?_eq_getElem hlt2⟩
    have b1:=yTB a3 a2 (show j + 1 ≤ r.length from hlt2)
    have e:=ySD (f:=Boat.Width) hb
    simp -dsimp -implicitDefEqProofs [hr,yG hlt,hb,yG hlt2]
    intro hrl
    refine ⟨by unfold inI; omega,yw hlt2 hrl,j + 1,hlt2,by omega,?_⟩
    apply yj <;> simp [e]
   ·simp -dsimp -implicitDefEqProofs [hr,yG hlt,yaB hge2]
    have e : ySf t.Rows (k + 1) = if ySf t.Rows k < (r.map Boat.Width).sum then (r.map Boat.Width).sum else ySf t.Rows k:=yTj hr
    rw [ySC hge2]
    refine fun _=>⟨yw hlt hlen,k + 1,⟨hlt,fun _=>h1⟩,by omega,?_⟩
    apply yj <;> simp [e]
  ·have:=fin h1
   subst this
   simp [yR6,h1,ySv]
 ·simp -dsimp -implicitDefEqProofs [yaB hge]
  intro _
  by_cases h1 : yP t = true
  ·simp [yR6,h1,yTA hge]
  ·have:=fin (by simpa using h1)
   subst this
   simp [yR6,h1,ySv]
def yK3 (t : Train) : Int:=if yP t then minOf Boat.Class t.yas (yMM Boat.Class t.yas) else -1
theorem yMC {t : Train} (h : yP t = true) : 0 ≤ yK3 t ∧ yK3 t ≤ 2:=by
 unfold yK3
 rw [if_pos h]
 have hf:=yhY h
 obtain ⟨r,b0,e1,e2,e3⟩:=yLO hf
 have:=yMg (hf.ok b0 (List.mem_of_getElem? e3))
 exact yMv (fun x hx=>by have:=yMg (hf.ok x hx); omega) (by rw [yNi e3]; omega) (by rw [yNi e3]; omega)
theorem yKT (t : Train) (h : t.small) : yB Tryz.prog 193 [.agg (t.enc.map .c)] (.c (.i (yK3 t))):=by
 refine yh yMa ?_
 simp -dsimp -implicitDefEqProofs
 refine yc (ydp t h) ?_
 simp -dsimp -implicitDefEqProofs
 refine ⟨fun h1=>by simp [yK3,h1],fun h1=>?_⟩
 obtain ⟨r,b0,e1,e2,e3⟩:=yLO (yhY h1)
 have l1 : 0 < t.Rows.length:=(List.getElem?_eq_some_iff.1 e1).1
 have l2 : 0 < r.length:=(List.getElem?_eq_some_iff.1 e2).1
 have f1:=(List.getElem?_eq_some_iff.1 e1).2
 have f2:=(List.getElem?_eq_some_iff.1 e2).2
 simp -dsimp -implicitDefEqProofs [e1,e2,l1,l2,f1,f2]
 refine yS (yya t h) ?_
 simp -dsimp -implicitDefEqProofs
 intro hlen
 refine yg (ι:=Nat) (fun k=>k ≤ t.yas.length) (fun k=>yO [(3,.c (.i (yLK Boat.Class t.yas b0.Class k))),(17,.c (.sl 6 (t.yas.map Boat.enc))),(18,.c (.i t.yas.length)),(19,.c (.i k))] []) (fun k=>t.yas.length - k) 0 (by simp) (by apply yj <;> simp [yL8]) ?_
 rintro k hk
 rcases Nat.lt_or_ge k t.yas.length with hlt | hge
 ·obtain ⟨b,hb⟩ : ∃ b,t.yas[k]? = some b:=⟨_,List.getElem?_eq_getElem hlt⟩
  simp -dsimp -implicitDefEqProofs [hb,yG hlt]
  refine ⟨yw hlt hlen,k + 1,hlt,by omega,?_⟩
  apply yj <;> simp [yL1 hb]
 ·simp -dsimp -implicitDefEqProofs [yaB hge]
  simp [yK3,h1,yMj hge,yNi e3]
theorem yMm (t : Train) (h : t.small) : yB Tryz.prog 176 [.agg (t.enc.map .c)] (.c (.i (yK3 t))):=by
 refine yh yL3 ?_
 simp -dsimp -implicitDefEqProofs
 refine yS (yoX t h) ?_
 simp -dsimp -implicitDefEqProofs
 refine yc (yds t h) ?_
 simp -dsimp -implicitDefEqProofs
 refine ⟨fun h1=>by simp [yK3,h1],fun h1=>?_⟩
 obtain ⟨r,b0,e1,e2,e3⟩:=yLO (yhY h1)
 have l1 : 0 < t.yas.length:=(List.getElem?_eq_some_iff.1 e3).1
 have f3:=(List.getElem?_eq_some_iff.1 e3).2
 simp -dsimp -implicitDefEqProofs [e3,l1,f3]
 refine yg (ι:=Nat) (fun k=>k ≤ t.yas.length) (fun k=>yO [(3,.c (.sl 6 (t.yas.map Boat.enc))),(4,.c (.i (yLK Boat.Class t.yas b0.Class k))),(5,.c (.i k))] []) (fun k=>t.yas.length - k) 0 (by simp) (by apply yj <;> simp [yL8]) ?_
 rintro k hk
 rcases Nat.lt_or_ge k t.yas.length with hlt | hge
 ·obtain ⟨b,hb⟩ : ∃ b,t.yas[k]? = some b:=⟨_,List.getElem?_eq_getElem hlt⟩
  simp -dsimp -implicitDefEqProofs [hb,yG hlt]
  intro hlen
  refine ⟨yw hlt hlen,k + 1,hlt,by omega,?_⟩
  apply yj <;> simp [yL1 hb]
 ·simp -dsimp -implicitDefEqProofs [yaB hge]
  intro _
  simp [yK3,h1,yMj hge,yNi e3]
def ydq (e : Tariff) (l : Int) : Int:=ybm (yhJ e.PerClass l) fun l=>ybm (yhJ e.Weights l) fun l=>l
theorem ylo : yey ydq Tariff.small:=by
 intro e l h0 h1
 unfold ydq
 rcases yeY e.PerClass _ h0 h1 with e0 | ⟨a0,b0,s0⟩
 ·exact .inl (yK (by omega))
 rw [yu a0]
 rcases yeY e.Weights _ a0 (by omega) with e1 | ⟨a1,b1,s1⟩
 ·exact .inl (yK (by omega))
 rw [yu a1]
 exact .inr ⟨a1,by omega,s0.1,s1.1⟩
theorem yuv (e : Tariff) (l : Int) (h0 : 0 ≤ l) (h1 : l ≤ 1048576) : yB Tryz.prog 23 [.agg (e.enc.map .c),.c (.i l)] (.c (.i (ydq e l))):=by
 refine yh yng ?_
 simp -dsimp -implicitDefEqProofs
 refine yc (yjw e.PerClass _ h0 h1) ?_
 simp -dsimp -implicitDefEqProofs
 refine ⟨fun h=>by simp [ydq,yK h],fun p0=>?_⟩
 have q0:=yin yeY e.PerClass h0 h1 p0
 refine yc (yjw e.Weights _ p0 q0) ?_
 simp -dsimp -implicitDefEqProofs
 refine ⟨fun h=>by simp [ydq,yu p0,yK h],fun p1=>?_⟩
 simp [ydq,yu p0,yu p1]
structure TariffFacts (t : Tariff) : Prop where
 base : 0 ≤ t.Base ∧ t.Base ≤ 10000
 area : 0 ≤ t.PerArea ∧ t.PerArea ≤ 100
 three : t.PerClass.length = 3
 cls : ∀ x ∈ t.PerClass,0 ≤ x ∧ x ≤ 10000
 wlen : 1 ≤ t.Weights.length ∧ t.Weights.length ≤ 11
 wts : ∀ x ∈ t.Weights,0 ≤ x ∧ x ≤ 1000
 sum : 0 < t.Weights.sum
theorem yT0 {t : Tariff} (h : ya9 t = true) : TariffFacts t:=by
 simp only [ya9,Bool.and_eq_true,List.all_eq_true,decide_eq_true_eq] at h
 obtain ⟨⟨⟨⟨⟨⟨h1,h2⟩,h3⟩,h4⟩,h5⟩,h6⟩,h7⟩:=h
 have h4:=yF.1 h4
 exact ⟨yF.1 h1,yF.1 h2,h3,fun x hx=>yF.1 (h5 x hx),by omega,fun x hx=>yF.1 (h6 x hx),h7⟩
def yR9 (t : Tariff) (x : Train) : Int:=if ya9 t && yP x then t.Base + (t.PerArea * yR1 x * yR6 x).tdiv 100 + t.PerClass[(yK3 x).toNat]?.getD 0 else 0
theorem yTm {t : Tariff} {x : Train} (h1 : ya9 t = true) (h2 : yP x = true) :
 ∃ c,t.PerClass[(yK3 x).toNat]? = some c ∧ 0 ≤ yK3 x ∧ yK3 x < t.PerClass.length ∧ inI (t.PerArea * yR1 x) ∧ inI (t.PerArea * yR1 x * yR6 x) ∧ inI ((t.PerArea * yR1 x * yR6 x).tdiv 100) ∧
  inI (t.Base + (t.PerArea * yR1 x * yR6 x).tdiv 100) ∧ inI (t.Base + (t.PerArea * yR1 x * yR6 x).tdiv 100 + c) ∧ 0 ≤ t.Base + (t.PerArea * yR1 x * yR6 x).tdiv 100 + c ∧ t.Base + (t.PerArea * yR1 x * yR6 x).tdiv 100 + c ≤ 1000000:=by
 have tf:=yT0 h1
 have a1:=yTV x
 have a2:=yT5 x
 have a3:=yMC h2
 have b1:=tf.base; have b2:=tf.area; have b3:=tf.three
 obtain ⟨c,hc⟩ : ∃ c,t.PerClass[(yK3 x).toNat]? = some c:=⟨_,List.getElem?_eq_getElem (by omega)⟩
 have b4:=tf.cls c (List.mem_of_getElem? hc)
 have e1 : 0 ≤ t.PerArea * yR1 x:=Int.mul_nonneg b2.1 a1.1
 have e2 : t.PerArea * yR1 x ≤ 100 * 1200:=Int.mul_le_mul b2.2 a1.2 a1.1 (by omega)
 have e3 : 0 ≤ t.PerArea * yR1 x * yR6 x:=Int.mul_nonneg e1 a2.1
 have e4 : t.PerArea * yR1 x * yR6 x ≤ 120000 * 180:=Int.mul_le_mul (by omega) a2.2 a2.1 (by omega)
 have e5 : (t.PerArea * yR1 x * yR6 x).tdiv 100 = (t.PerArea * yR1 x * yR6 x) / 100:=Int.tdiv_eq_ediv_of_nonneg e3
 rw [e5]
 refine ⟨c,hc,a3.1,by omega,?_,?_,?_,?_,?_,by omega,by omega⟩ <;> unfold inI <;> omega
theorem yTZ (t : Tariff) (x : Train) (h : x.small) : yB Tryz.prog 107 [.agg (t.enc.map .c),.agg (x.enc.map .c)] (.c (.i (yR9 t x))):=by
 refine yh yTE ?_
 simp -dsimp -implicitDefEqProofs
 refine yc (yqB t) ?_
 cases h1 : ya9 t with
 | false=>simp -dsimp -implicitDefEqProofs; simp [yR9,h1]
 | true =>
  simp -dsimp -implicitDefEqProofs
  refine yc (ydp x h) ?_
  cases h2 : yP x with
  | false=>simp -dsimp -implicitDefEqProofs; simp [yR9,h2]
  | true =>
   obtain ⟨c,hc,c1,c2,c3,c4,c5,c6,c7,_,_⟩:=yTm h1 h2
   simp -dsimp -implicitDefEqProofs
   refine yaC (yTJ x h) ?_
   simp -dsimp -implicitDefEqProofs
   refine ⟨c3,?_⟩
   refine yaC (yTU x h) ?_
   simp -dsimp -implicitDefEqProofs
   refine ⟨c4,c5,c6,?_⟩
   refine yaC (yKT x h) ?_
   have hg:=(List.getElem?_eq_some_iff.1 hc).2
   simp -dsimp -implicitDefEqProofs [hc,c1,c2,hg]
   exact ⟨c7,by simp [yR9,h1,h2,hc]⟩
theorem yT2 (t : Tariff) (x : Train) (h : x.small) : yB Tryz.prog 91 [.agg (t.enc.map .c),.agg (x.enc.map .c)] (.c (.i (yR9 t x))):=by
 refine yh yTG ?_
 simp -dsimp -implicitDefEqProofs
 refine yc (yre t) ?_
 cases h1 : ya9 t with
 | false=>simp -dsimp -implicitDefEqProofs; simp [yR9,h1]
 | true =>
  simp -dsimp -implicitDefEqProofs
  refine yc (yds x h) ?_
  cases h2 : yP x with
  | false=>simp -dsimp -implicitDefEqProofs; simp [yR9,h2]
  | true =>
   obtain ⟨c,hc,c1,c2,c3,c4,c5,c6,c7,_,_⟩:=yTm h1 h2
   simp -dsimp -implicitDefEqProofs
   refine yaC (yTF x h) ?_
   simp -dsimp -implicitDefEqProofs
   refine ⟨c3,?_⟩
   refine yaC (yTR x h) ?_
   simp -dsimp -implicitDefEqProofs
   refine ⟨c4,c5,c6,?_⟩
   refine yaC (yMm x h) ?_
   have hg:=(List.getElem?_eq_some_iff.1 hc).2
   simp -dsimp -implicitDefEqProofs [hc,c1,c2,hg]
   exact ⟨c7,by simp [yR9,h1,h2,hc]⟩
theorem ymz {α β : Type} {f : α → β} {l : List α} : (l.map f).take l.length = l.map f:=List.take_of_length_le (by simp)
def yaY (t : Train) : List Int:=if yP t then t.yas.map yfy else []
def yfv (t : Train) (k : Nat) : List Int:=(t.yas.take k).map yfy
theorem ygs {t : Train} : yfv t 0 = []:=rfl
theorem ymO {t : Train} {k : Nat} {b : Boat} (h : t.yas[k]? = some b) : yfv t (k + 1) = yfv t k ++ [b.Id]:=by
 unfold yfv; rw [List.take_succ,h,List.map_append]; rfl
theorem yo4 {t : Train} {k : Nat} (h : t.yas.length ≤ k) : yfv t k = t.yas.map yfy:=by
 unfold yfv; rw [List.take_of_length_le h]
theorem yp8 {t : Train} {k : Nat} (h : k ≤ t.yas.length) : (yfv t k).length = k:=by
 unfold yfv; simp; omega
theorem yuz (t : Train) (h : t.small) : yB Tryz.prog 41 [.agg (t.enc.map .c)] (.c (.sl 1 ((yaY t).map yJ))):=by
 refine yh ysm ?_
 simp -dsimp -implicitDefEqProofs
 refine yc (ydp t h) ?_
 cases h1 : yP t with
 | false=>simp -dsimp -implicitDefEqProofs; simp [yaY,h1]
 | true =>
  have tf:=yhY h1
  have h6:=tf.len
  simp -dsimp -implicitDefEqProofs
  refine yS (yya t h) ?_
  simp -dsimp -implicitDefEqProofs
  intro hlen
  refine ymd (k0:=1) 3 1 (by simp) (by simp) (by decide) ?_
  refine yg (ι:=Nat) (fun k=>k ≤ t.yas.length) (fun k=>yO [(3,.own 3 1 (yfv t k).length),(10,.c (.sl 6 (t.yas.map Boat.enc))),(11,.c (.i t.yas.length)),(12,.c (.i k))] [(3,.row 1 ((yfv t k).map yJ))]) (fun k=>t.yas.length - k) 0 (by simp) (by apply yj <;> simp [ygs]) ?_
  rintro k hk
  have hkl:=yp8 hk
  rcases Nat.lt_or_ge k t.yas.length with hlt | hge
  ·obtain ⟨b,hb⟩ : ∃ b,t.yas[k]? = some b:=⟨_,List.getElem?_eq_getElem hlt⟩
   simp -dsimp -implicitDefEqProofs [hb,yG hlt]
   refine ⟨by omega,yw hlt hlen,k + 1,hlt,by omega,?_⟩
   apply yj <;> simp [ymO hb]
  ·simp -dsimp -implicitDefEqProofs [yaB hge]
   rw [ymz,yo4 hge]
   simp [yaY,h1]
theorem yvW (t : Train) (h : t.small) : yB Tryz.prog 28 [.agg (t.enc.map .c)] (.c (.sl 1 ((yaY t).map yJ))):=by
 refine yh ysG ?_
 simp -dsimp -implicitDefEqProofs
 refine yS (yoX t h) ?_
 simp -dsimp -implicitDefEqProofs
 refine yg (ι:=Nat) (fun k=>k ≤ t.yas.length ∧ (k ≠ 0 → yP t = true)) (fun k=>yO [(1,.box 1 0),(3,.own 6 1 (yfv t k).length),(4,.c (.sl 6 (t.yas.map Boat.enc))),(5,.c (.i k))] [(1,.box (t.enc.map .c)),(6,.row 1 ((yfv t k).map yJ))]) (fun k=>t.yas.length - k) 0 (by simp) (by apply yj <;> simp [ygs]) ?_
 rintro k ⟨hk,hok⟩
 have hkl:=yp8 hk
 have fin : yP t = false → k = 0:=fun h1=>by
  rcases Nat.eq_zero_or_pos k with e | e
  ·exact e
  ·rw [hok (by omega)] at h1; cases h1
 rcases Nat.lt_or_ge k t.yas.length with hlt | hge
 ·obtain ⟨b,hb⟩ : ∃ b,t.yas[k]? = some b:=⟨_,List.getElem?_eq_getElem hlt⟩
  simp -dsimp -implicitDefEqProofs [hb,yG hlt]
  intro hlen
  refine yc (yds t h) ?_
  cases h1 : yP t with
  | false =>
   have:=fin h1
   subst this
   simp -dsimp -implicitDefEqProofs
   simp [yaY,h1,ygs]
  | true =>
   have h6:=(yhY h1).len
   simp -dsimp -implicitDefEqProofs [hb,yG hlt]
   refine ⟨by omega,yw hlt hlen,k + 1,by first | exact ⟨hlt,fun _=>h1⟩ | exact hlt,by omega,?_⟩
   apply yj <;> simp [ymO hb]
 ·simp -dsimp -implicitDefEqProofs [yaB hge]
  intro _
  rw [ymz]
  by_cases h1 : yP t = true
  ·rw [yo4 hge]; simp [yaY,h1]
  ·have:=fin (by simpa using h1)
   subst this
   simp [yaY,h1,ygs]
def ySl (l : List Int) (t w : Int) : Nat → List Entry
 | 0=>[]
 | k + 1=>ySl l t w k ++ (if 0 < vAt l k then [⟨0,k + 1,vAt l k,t,w⟩] else [])
theorem yTn {l : List Int} {t w : Int} : ySl l t w 0 = []:=rfl
theorem ySV {l : List Int} {t w : Int} {k : Nat} : ySl l t w (k + 1) = ySl l t w k ++ (if 0 < vAt l k then [⟨0,k + 1,vAt l k,t,w⟩] else []):=rfl
theorem ySP {l : List Int} {t w : Int} : ∀ k : Nat,(ySl l t w k).length ≤ k
 | 0=>by simp [ySl]
 | k + 1=>by
  have:=ySP (l:=l) (t:=t) (w:=w) k
  rw [ySV,List.length_append]
  split <;> simp <;> omega
def ySq (t : Tariff) (x : Train) (n : Int) : Bool:=ya9 t && yP x && inRange n 0 1000000
def yR0 (t : Tariff) (x : Train) (n : Int) : List Entry:=if ySq t x n then ySl (yR3 (yR9 t x) t.Weights) n (vAt (yaY x) 0) (yR3 (yR9 t x) t.Weights).length else []
theorem yTh {t : Tariff} {x : Train} {n : Int} (h : ySq t x n = false) : yR0 t x n = []:=by simp [yR0,h]
theorem yTP {x : Train} (h : yP x = true) : ∃ w,(yaY x)[0]? = some w:=by
 have tf:=yhY h
 have h1:=tf.pos
 refine ⟨_,List.getElem?_eq_getElem (show 0 < (yaY x).length by rw [yaY,if_pos h,List.length_map]; omega)⟩
theorem yTf (t : Tariff) (x : Train) (n : Int) (hx : x.small) : ybh Tryz.prog 40 [.agg (t.enc.map .c),.agg (x.enc.map .c),.c (.i n)] (.c (.ow 5 ((yR0 t x n).map Entry.enc))):=by
 refine yan yS1 ?_
 simp -dsimp -implicitDefEqProofs
 refine yc (yqB t) ?_
 cases h1 : ya9 t with
 | false=>simp -dsimp -implicitDefEqProofs; rw [yTh (by simp [ySq,h1])]
 | true =>
 simp -dsimp -implicitDefEqProofs
 refine yc (ydp x hx) ?_
 cases h2 : yP x with
 | false=>simp -dsimp -implicitDefEqProofs; rw [yTh (by simp [ySq,h2])]
 | true =>
 simp -dsimp -implicitDefEqProofs
 refine yc (yC n 0 1000000) ?_
 cases h3 : inRange n 0 1000000 with
 | false=>simp -dsimp -implicitDefEqProofs; rw [yTh (by simp [ySq,h3])]
 | true =>
 simp -dsimp -implicitDefEqProofs
 have hok : ySq t x n = true:=by simp [ySq,h1,h2,h3]
 have he : yR0 t x n = ySl (yR3 (yR9 t x) t.Weights) n (vAt (yaY x) 0) (yR3 (yR9 t x) t.Weights).length:=by rw [yR0,if_pos hok]
 obtain ⟨w,hw⟩:=yTP h2
 rw [ySA hw] at he
 rw [he]
 refine yS (yuz x hx) ?_
 have gw:=(List.getElem?_eq_some_iff.1 hw).2
 have lw:=(List.getElem?_eq_some_iff.1 hw).1
 simp -dsimp -implicitDefEqProofs [hw,gw,lw]
 refine yaC (yTZ t x hx) ?_
 simp -dsimp -implicitDefEqProofs
 refine yyA (yTu (yR9 t x) t.Weights) ?_
 have hsl:=ySJ (yR9 t x) t.Weights
 generalize yR3 (yR9 t x) t.Weights = sh at *
 simp -dsimp -implicitDefEqProofs
 intro hlen
 refine ymd (k0:=5) 8 5 (by simp) (by simp) (by decide) ?_
 refine yg (ι:=Nat) (fun k=>k ≤ sh.length) (fun k=>yO [(2,.c (.i n)),(7,.c (.i w)),(8,.own 8 5 (ySl sh n w k).length),(33,.c (.sl 1 (sh.map yJ))),(34,.c (.i sh.length)),(35,.c (.i k))] [(8,.row 5 ((ySl sh n w k).map Entry.enc))]) (fun k=>sh.length - k) 0 (by simp) (by apply yj <;> simp [yTn]) ?_
 rintro k hk
 have htl:=ySP (l:=sh) (t:=n) (w:=w) k
 rcases Nat.lt_or_ge k sh.length with hlt | hge
 ·obtain ⟨v,hv⟩ : ∃ v,sh[k]? = some v:=⟨_,List.getElem?_eq_getElem hlt⟩
  have gv:=(List.getElem?_eq_some_iff.1 hv).2
  have hs:=ySV (l:=sh) (t:=n) (w:=w) (k:=k)
  rw [ySA hv] at hs
  simp -dsimp -implicitDefEqProofs [hv,gv,yG hlt,hlt]
  refine ⟨fun h0=>?_,fun h0=>?_⟩
  ·rw [if_pos (by omega)] at hs
   refine ⟨by unfold inI; omega,by omega,yw hlt hlen,k + 1,hlt,by omega,?_⟩
   apply yj <;> simp [hs]
  ·rw [if_neg (by omega),List.append_nil] at hs
   refine ⟨yw hlt hlen,k + 1,hlt,by omega,?_⟩
   apply yj <;> simp [hs]
 ·have : k = sh.length:=by omega
  subst this
  simp -dsimp -implicitDefEqProofs [yt]
theorem ySQ (t : Tariff) (x : Train) (n : Int) : (yR0 t x n).length ≤ 12:=by
 unfold yR0
 split
 ·have h1:=ySP (l:=yR3 (yR9 t x) t.Weights) (t:=n) (w:=vAt (yaY x) 0) (yR3 (yR9 t x) t.Weights).length
  have h2:=ySJ (yR9 t x) t.Weights
  omega
 ·simp
theorem ySz (t : Tariff) (x : Train) (n : Int) (hx : x.small) : yB Tryz.prog 40 [.agg (t.enc.map .c),.agg (x.enc.map .c),.c (.i n)] (.c (.sl 5 ((yR0 t x n).map Entry.enc))):=(yTf t x n hx).pure (by simp)
theorem ySB (t : Tariff) (x : Train) (n : Int) (ht : t.small) (hx : x.small) : yB Tryz.prog 27 [.agg (t.enc.map .c),.agg (x.enc.map .c),.c (.i n)] (.c (.sl 5 ((yR0 t x n).map Entry.enc))):=by
 refine yh yS4 ?_
 simp -dsimp -implicitDefEqProofs
 refine yc (yre t) ?_
 cases h1 : ya9 t with
 | false=>simp -dsimp -implicitDefEqProofs; rw [yTh (by simp [ySq,h1])]
 | true =>
 simp -dsimp -implicitDefEqProofs
 refine yc (yds x hx) ?_
 cases h2 : yP x with
 | false=>simp -dsimp -implicitDefEqProofs; rw [yTh (by simp [ySq,h2])]
 | true =>
 simp -dsimp -implicitDefEqProofs
 refine yc (yD n 0 1000000) ?_
 cases h3 : inRange n 0 1000000 with
 | false=>simp -dsimp -implicitDefEqProofs; rw [yTh (by simp [ySq,h3])]
 | true =>
 simp -dsimp -implicitDefEqProofs
 have hok : ySq t x n = true:=by simp [ySq,h1,h2,h3]
 have he : yR0 t x n = ySl (yR3 (yR9 t x) t.Weights) n (vAt (yaY x) 0) (yR3 (yR9 t x) t.Weights).length:=by rw [yR0,if_pos hok]
 obtain ⟨w,hw⟩:=yTP h2
 rw [ySA hw] at he
 rw [he]
 have gw:=(List.getElem?_eq_some_iff.1 hw).2
 have lw:=(List.getElem?_eq_some_iff.1 hw).1
 refine yaC (yT2 t x hx) ?_
 simp -dsimp -implicitDefEqProofs
 refine yyA (yTI (yR9 t x) t.Weights ht.2) ?_
 have hsl:=ySJ (yR9 t x) t.Weights
 generalize yR3 (yR9 t x) t.Weights = sh at *
 simp -dsimp -implicitDefEqProofs
 refine yg (ι:=Nat) (fun k=>k ≤ sh.length) (fun k=>yO [(2,.c (.i n)),(4,.box 4 0),(7,.own 10 5 (ySl sh n w k).length),(8,.c (.sl 1 (sh.map yJ))),(9,.c (.i k))] [(4,.box (x.enc.map .c)),(10,.row 5 ((ySl sh n w k).map Entry.enc))]) (fun k=>sh.length - k) 0 (by simp) (by apply yj <;> simp [yTn]) ?_
 rintro k hk
 have htl:=ySP (l:=sh) (t:=n) (w:=w) k
 rcases Nat.lt_or_ge k sh.length with hlt | hge
 ·obtain ⟨v,hv⟩ : ∃ v,sh[k]? = some v:=⟨_,List.getElem?_eq_getElem hlt⟩
  have gv:=(List.getElem?_eq_some_iff.1 hv).2
  have hs:=ySV (l:=sh) (t:=n) (w:=w) (k:=k)
  rw [ySA hv] at hs
  simp -dsimp -implicitDefEqProofs [hv,gv,yG hlt,hlt]
  refine fun hlen=>⟨fun h0=>?_,fun h0=>?_⟩
  ·rw [if_pos (by omega)] at hs
   refine ⟨by unfold inI; omega,?_⟩
   refine yY (yvW x hx) ?_
   simp -dsimp -implicitDefEqProofs [hw,gw,lw]
   refine ⟨by omega,yw hlt hlen,k + 1,hlt,by omega,?_⟩
   apply yj <;> simp [hs]
  ·rw [if_neg (by omega),List.append_nil] at hs
   refine ⟨yw hlt hlen,k + 1,hlt,by omega,?_⟩
   apply yj <;> simp [hs]
 ·have : k = sh.length:=by omega
  subst this
  simp -dsimp -implicitDefEqProofs [yt]
theorem yUr (m : Int) (h0 : 0 ≤ m) (h1 : m ≤ 2097152) : ybh Tryz.prog 187 [.nil 5,.c (.i m)] (.c (.ow 5 [])):=by
 refine yan ySg ?_
 simp -dsimp -implicitDefEqProofs
 exact ⟨h0,fun _=>⟨by unfold inI; omega,by unfold inI; omega,fun h=>⟨h0,by omega,by omega⟩⟩⟩
theorem yTd (es : List Entry) (hl : es.length ≤ 2097152) : ybh Tryz.prog 102 [.c (.sl 5 (es.map Entry.enc))] (.c (.ow 5 (es.map Entry.enc))):=by
 refine yan yc5 ?_
 simp -dsimp -implicitDefEqProofs [ybu,yt]
 omega
def lens (a b : Nat) (k : Nat) : Int:=if k = 0 then 0 else if k = 1 then a else a + b
def yTK (a b : List Entry) (k : Nat) : List Entry:=if k = 0 then [] else if k = 1 then a else a ++ b
theorem yT6 (a b : List Entry) (ha : a.length ≤ 1048576) (hb : b.length ≤ 1048576) :
 ybh Tryz.prog 101 [.c (.sl 1 [[.sl 5 (a.map Entry.enc)],[.sl 5 (b.map Entry.enc)]])] (.c (.ow 5 ((a ++ b).map Entry.enc))):=by
 refine yan ySd ?_
 simp -dsimp -implicitDefEqProofs
 refine fun _=>yg (ι:=Nat) (fun k=>k ≤ 2) (fun k=>yO [(0,.c (.sl 1 [[.sl 5 (a.map Entry.enc)],[.sl 5 (b.map Entry.enc)]])),(3,.c (.i (lens a.length b.length k))),(9,.c (.sl 1 [[.sl 5 (a.map Entry.enc)],[.sl 5 (b.map Entry.enc)]])),(10,.c (.i 2)),(11,.c (.i k))] []) (fun k=>2 - k) 0 (by simp) (by apply yj <;> simp [lens]) ?_
 intro k hk
 obtain rfl | rfl | rfl : k = 0 ∨ k = 1 ∨ k = 2:=by omega
 ·simp -dsimp -implicitDefEqProofs [lens]
  refine fun _=>⟨by unfold inI; omega,by unfold inI; omega,1,by omega,by omega,?_⟩
  apply yj <;> simp
 ·simp -dsimp -implicitDefEqProofs [lens]
  refine fun _=>⟨by unfold inI; omega,by omega,fun _=>⟨by unfold inI; omega,2,by omega,by omega,?_⟩⟩
  apply yj <;> simp
 ·simp -dsimp -implicitDefEqProofs [lens]
  refine yQ (yUr (a.length + b.length) (by omega) (by omega)) (by simp ) (by simp [AV.closed,AV.ya7,C.closed]) (by simp [yU]) ?_
  simp -dsimp -implicitDefEqProofs
  refine fun _=>yg (ι:=Nat) (fun k=>k ≤ 2) (fun k=>yO [(6,.own 24 5 (yTK a b k).length),(25,.c (.sl 1 [[.sl 5 (a.map Entry.enc)],[.sl 5 (b.map Entry.enc)]])),(26,.c (.i 2)),(27,.c (.i k))] [(24,.row 5 ((yTK a b k).map Entry.enc))]) (fun k=>2 - k) 0 (by simp) (by apply yj <;> simp [yTK]) ?_
  intro k hk
  obtain rfl | rfl | rfl : k = 0 ∨ k = 1 ∨ k = 2:=by omega
  ·simp -dsimp -implicitDefEqProofs [yTK]
   refine ⟨by omega,by unfold inI; omega,1,by omega,by omega,?_⟩
   apply yj <;> simp
  ·simp -dsimp -implicitDefEqProofs [yTK]
   refine ⟨by omega,by unfold inI; omega,2,by omega,by omega,?_⟩
   apply yj <;> simp
  ·simp -dsimp -implicitDefEqProofs [yTK]
   rw [List.take_of_length_le (by simp)]
def yR7 (book more : List Entry) : List Entry × Bool:=if yht book && yht (book ++ more) then (book ++ more,true) else (book,false)
theorem yTb (a b : List Entry) (ha : a.length ≤ 1048576) (hb : b.length ≤ 1048576) :
 ybh Tryz.prog 39 [.c (.sl 5 (a.map Entry.enc)),.c (.sl 5 (b.map Entry.enc))] (.tup [.c (.ow 5 ((yR7 a b).1.map Entry.enc)),.c (.b (yR7 a b).2)]):=by
 have hcat:=yT6 a b ha hb
 have hp : yR7 a b = if yht a && yht (a ++ b) then (a ++ b,true) else (a,false):=rfl
 have hn : 2000 < b.length → yht (a ++ b) = false:=fun h=>by simp [yht]; omega
 generalize a ++ b = c at hcat hp hn
 refine yan yS2 ?_
 simp -dsimp -implicitDefEqProofs
 refine yc (yvn a) ?_
 cases h : yht a with
 | false =>
  simp -dsimp -implicitDefEqProofs
  refine yQ (yTd a (by omega)) (by simp ) (by simp [AV.closed,AV.ya7,C.closed]) (by simp [yU]) ?_
  simp -dsimp -implicitDefEqProofs
  simp [hp,h,yt]
 | true =>
  simp -dsimp -implicitDefEqProofs
  refine fun _=>⟨fun h2=>?_,fun h2=>?_⟩
  ·skip
   refine yQ (hcat) (by simp ) (by simp [AV.closed,AV.ya7,C.closed]) (by simp [yU]) ?_
   simp -dsimp -implicitDefEqProofs
   refine yaQ (yvn c) (by simp [yt]) rfl ?_
   cases h3 : yht c with
   | false =>
    simp -dsimp -implicitDefEqProofs
    refine yQ (yTd a (by omega)) (by simp ) (by simp [AV.closed,AV.ya7,C.closed]) (by simp [yU]) ?_
    simp -dsimp -implicitDefEqProofs
    simp [hp,h,h3,yt]
   | true =>
    simp -dsimp -implicitDefEqProofs
    refine yQ (hcat) (by simp ) (by simp [AV.closed,AV.ya7,C.closed]) (by simp [yU]) ?_
    simp -dsimp -implicitDefEqProofs
    simp [hp,h,h3,yt]
  ·skip
   have h3:=hn (by omega)
   refine yQ (yTd a (by omega)) (by simp ) (by simp [AV.closed,AV.ya7,C.closed]) (by simp [yU]) ?_
   simp -dsimp -implicitDefEqProofs
   simp [hp,h,h3,yt]
theorem ySI (a b : List Entry) (ha : a.length ≤ 1048576) (hb : b.length ≤ 1048576) :
 yB Tryz.prog 26 [.c (.sl 5 (a.map Entry.enc)),.c (.sl 5 (b.map Entry.enc))] (.tup [.c (.sl 5 ((yR7 a b).1.map Entry.enc)),.c (.b (yR7 a b).2)]):=by
 have hp : yR7 a b = if yht a && yht (a ++ b) then (a ++ b,true) else (a,false):=rfl
 have e1 : a.map Entry.enc ++ b.map Entry.enc = (a ++ b).map Entry.enc:=List.map_append.symm
 have e2 : a.length + b.length = (a ++ b).length:=List.length_append.symm
 generalize a ++ b = c at hp e1 e2
 refine yh yS5 ?_
 simp -dsimp -implicitDefEqProofs
 refine ⟨by omega,by omega,?_⟩
 rw [e1,e2]
 refine yc (yuL a) ?_
 cases h : yht a with
 | false =>
  simp -dsimp -implicitDefEqProofs
  simp [hp,h,yt]; omega
 | true =>
  simp -dsimp -implicitDefEqProofs
  refine yaQ (yuL c) (by simp [yt]) rfl ?_
  cases h3 : yht c with
  | false =>
   simp -dsimp -implicitDefEqProofs
   simp [hp,h,h3,yt]; omega
  | true =>
   simp -dsimp -implicitDefEqProofs
   simp [hp,h,h3,yt]
theorem ySx (a b : List Entry) (ha : a.length ≤ 1048576) (hb : b.length ≤ 1048576) :
 yB Tryz.prog 39 [.c (.sl 5 (a.map Entry.enc)),.c (.sl 5 (b.map Entry.enc))] (.tup [.c (.sl 5 ((yR7 a b).1.map Entry.enc)),.c (.b (yR7 a b).2)]):=(yTb a b ha hb).pure (by simp [AV.shr,AV.yAK,AV.ysI,C.shr])
def ydk : List Train → Int → Int:=yeE yb2
def ybV : List Train → Prop:=ycs Train.small
theorem yhu : yey ydk ybV:=ygj ye7
theorem ym0 (xs : List Train) (l : Int) (h0 : 0 ≤ l) (h1 : l ≤ 1048576) : yB Tryz.prog 21 [.c (.sl 2 (xs.map Train.enc)),.c (.i l)] (.c (.i (ydk xs l))):=by
 refine yh ynN ?_
 simp -dsimp -implicitDefEqProofs
 intro hl
 have hs : szS xs.length l = if l - xs.length < 0 then -1 else l - xs.length:=rfl
 refine ⟨by unfold maxLen at hl; unfold inI; omega,fun h=>?_,fun h=>?_⟩
 ·simp [ydk,yeE,ybm,hs,h]
 have h' : 0 ≤ l - xs.length:=by omega
 have e0 : ydk xs l = yaw yb2 xs (l - xs.length):=by
  have : szS xs.length l = l - xs.length:=by rw [hs,if_neg (by omega)]
  simp only [ydk,yeE]
  rw [this,yu h']
 refine yg (ι:=Nat × Int) (fun p=>p.1 ≤ xs.length ∧ 0 ≤ p.2 ∧ p.2 ≤ 1048576 ∧ yaw yb2 (xs.drop p.1) p.2 = ydk xs l) (fun p=>yO [(0,.c (.sl 2 (xs.map Train.enc))),(1,.c (.i p.2)),(5,.c (.i p.1))] []) (fun p=>xs.length - p.1) (0,l - xs.length) ⟨by simp,h',by simp only; omega,by simp [e0]⟩ (by apply yj <;> simp) ?_
 rintro ⟨k,q⟩ ⟨hk,hq0,hq1,hf⟩
 simp only at hk hq0 hq1 hf
 rcases Nat.lt_or_ge k xs.length with hlt | hge
 ·obtain ⟨e,he⟩ : ∃ e,xs[k]? = some e:=⟨_,List.getElem?_eq_getElem hlt⟩
  have hd : xs.drop k = e :: xs.drop (k + 1):=by
   rw [List.drop_eq_getElem_cons hlt,(List.getElem?_eq_some_iff.1 he).2]
  rw [hd,yaw] at hf
  simp -dsimp -implicitDefEqProofs [he,yG hlt]
  refine fun _=>yaQ (yhF e q hq0 hq1) (by simp) rfl ?_
  simp -dsimp -implicitDefEqProofs
  refine ⟨fun h=>by rw [← hf,yK h],fun h=>⟨yw hlt hl,k + 1,⟨yb2 e q,?_⟩⟩⟩
  rw [yu h] at hf
  have hle : yb2 e q ≤ 1048576:=by
   rcases ye7 e q hq0 hq1 with e1 | e1
   ·omega
   ·omega
  exact ⟨⟨hlt,h,hle,hf⟩,by omega,by apply yj <;> simp⟩
 ·simp -dsimp -implicitDefEqProofs [yaB hge]
  rw [List.drop_of_length_le hge] at hf
  intro _
  first | simpa [yaw] using hf | simpa [yaw] using hf.symm
theorem ypD (xs : List Train) (hl : ybV xs) : yB Tryz.prog 34 [.c (.sl 2 (xs.map Train.enc))] (.c (.sl 2 (xs.map Train.enc))):=by
 refine yh yij ?_
 simp -dsimp -implicitDefEqProofs
 intro hlen
 have hl1:=hl.1
 refine ⟨by omega,?_⟩
 refine yg (ι:=Nat) (fun k=>k ≤ xs.length) (fun k=>yO [(0,.c (.sl 2 (xs.map Train.enc))),(3,.own 7 2 xs.length),(4,.c (.i k))] [(7,.row 2 (partly Train.enc [.b false,.sl 1 []] xs k))]) (fun k=>xs.length - k) 0 (by simp) (by apply yj <;> simp [yab]) ?_
 rintro k hk
 rcases Nat.lt_or_ge k xs.length with hlt | hge
 ·obtain ⟨e,he⟩ : ∃ e,xs[k]? = some e:=⟨_,List.getElem?_eq_getElem hlt⟩
  have hs:=yaj (f:=Train.enc) (z:=[.b false,.sl 1 []]) he
  have hd:=yav (f:=Train.enc) (z:=[.b false,.sl 1 []]) (n:=2) rfl hlt
  simp only [Train.enc] at hs
  simp -dsimp -implicitDefEqProofs [he,yG hlt]
  refine fun _=>yaP (yjt e (hl.2 e (List.mem_of_getElem? he))) (by simp) rfl ?_
  simp -dsimp -implicitDefEqProofs [yG hlt,yak hk,hd,hs]
  exact ⟨hlt,yw hlt hlen,k + 1,hlt,by omega,by apply yj <;> simp⟩
 ·simp -dsimp -implicitDefEqProofs [yaB hge]
  intro _
  rw [yam hge,List.take_of_length_le (by simp)]
theorem ypz (es fs : List Train) : yB Tryz.prog 48 [.c (.sl 2 (es.map Train.enc)),.c (.sl 2 (fs.map Train.enc))] (.c (.b (decide (es = fs)))):=by
 refine yh ynC ?_
 simp -dsimp -implicitDefEqProofs
 intro hl1 hl2
 refine ⟨fun h e=>h (by rw [e]),fun hlen=>?_⟩
 have hlen' : es.length = fs.length:=by omega
 refine yg (ι:=Nat) (fun k=>k ≤ es.length ∧ es.take k = fs.take k) (fun k=>yO [(0,.c (.sl 2 (es.map Train.enc))),(1,.c (.sl 2 (fs.map Train.enc))),(5,.c (.i k))] []) (fun k=>es.length - k) 0 (by simp) (by apply yj <;> simp) ?_
 rintro k ⟨hk,htk⟩
 rcases Nat.lt_or_ge k es.length with hlt | hge
 ·obtain ⟨e,he⟩ : ∃ e,es[k]? = some e:=⟨_,List.getElem?_eq_getElem hlt⟩
  obtain ⟨f,hf⟩ : ∃ f,fs[k]? = some f:=⟨_,List.getElem?_eq_getElem (by omega)⟩
  simp -dsimp -implicitDefEqProofs [he,hf,yG hlt,yG (hlen' ▸ hlt)]
  intro _
  refine yaC (yjG e f) ?_
  simp -dsimp -implicitDefEqProofs
  refine ⟨fun h=>ybG he hf h,fun h=>⟨yw hlt hl1,k + 1,⟨hlt,yaR he hf htk h⟩,by omega,by apply yj <;> simp⟩⟩
 ·simp -dsimp -implicitDefEqProofs [yaB hge]
  intro _
  exact ybf hge hlen' htk
structure Lock where
 Length : Int
 Width : Int
 SillAbove : Int
 SillBelow : Int
 Base : Int
 Area : Int
 Rate : Int
 Water : Int
 Gate : Int
 Inside : List Train
 deriving DecidableEq,Inhabited
@[simp] def Lock.enc (e : Lock) : List C:=[.i e.Length,.i e.Width,.i e.SillAbove,.i e.SillBelow,.i e.Base,.i e.Area,.i e.Rate,.i e.Water,.i e.Gate,.sl 2 (e.Inside.map Train.enc)]
-- Lock
def ygm (e : Lock) (l : Int) : Int:=ybm (ydk e.Inside l) fun l=>l
def Lock.small (e : Lock) : Prop:=ybV e.Inside
theorem yoa : yey ygm Lock.small:=by
 intro e l h0 h1
 unfold ygm
 rcases yhu e.Inside _ h0 h1 with e0 | ⟨a0,b0,s0⟩
 ·exact .inl (yK (by omega))
 rw [yu a0]
 exact .inr ⟨a0,by omega,s0⟩
theorem yxv (e : Lock) (l : Int) (h0 : 0 ≤ l) (h1 : l ≤ 1048576) : yB Tryz.prog 167 [.agg (e.enc.map .c),.c (.i l)] (.c (.i (ygm e l))):=by
 refine yh yqV ?_
 simp -dsimp -implicitDefEqProofs
 refine yc (ym0 e.Inside _ h0 h1) ?_
 simp -dsimp -implicitDefEqProofs
 refine ⟨fun h=>by simp [ygm,yK h],fun p0=>?_⟩
 simp [ygm,yu p0]
theorem yAz (e : Lock) (hl : Lock.small e) : yB Tryz.prog 178 [.agg (e.enc.map .c)] (.agg (e.enc.map .c)):=by
 refine yh ykg ?_
 simp -dsimp -implicitDefEqProofs
 refine yS (ypD e.Inside hl) ?_
 simp -dsimp -implicitDefEqProofs
theorem yy8 (a b : Lock) : yB Tryz.prog 195 [.agg (a.enc.map .c),.agg (b.enc.map .c)] (.c (.b (decide (a = b)))):=by
 refine yh yq4 ?_
 obtain ⟨a0,a1,a2,a3,a4,a5,a6,a7,a8,a9⟩:=a
 obtain ⟨b0,b1,b2,b3,b4,b5,b6,b7,b8,b9⟩:=b
 simp -dsimp -implicitDefEqProofs [ykf,Lock.mk.injEq]
 refine ⟨fun h=>by simp_all,fun h0=>?_⟩
 refine ⟨fun h=>by simp_all,fun h1=>?_⟩
 refine ⟨fun h=>by simp_all,fun h2=>?_⟩
 refine ⟨fun h=>by simp_all,fun h3=>?_⟩
 refine ⟨fun h=>by simp_all,fun h4=>?_⟩
 refine ⟨fun h=>by simp_all,fun h5=>?_⟩
 refine ⟨fun h=>by simp_all,fun h6=>?_⟩
 refine ⟨fun h=>by simp_all,fun h7=>?_⟩
 refine ⟨fun h=>by simp_all,fun h8=>?_⟩
 refine yc (ypz a9 b9) ?_
 simp -dsimp -implicitDefEqProofs
 refine ⟨fun h=>by simp_all,fun h9=>?_⟩
 simp_all
structure Weir where
 Gates : Int
 Open : Int
 Step : Int
 Crest : Int
 Width : Int
 deriving DecidableEq,Inhabited
@[simp] def Weir.enc (e : Weir) : List C:=[.i e.Gates,.i e.Open,.i e.Step,.i e.Crest,.i e.Width]
-- Weir
theorem yuN (e : Weir) : yB Tryz.prog 179 [.agg (e.enc.map .c)] (.agg (e.enc.map .c)):=by
 refine yh yq2 ?_
 simp -dsimp -implicitDefEqProofs
theorem yAt (a b : Weir) : yB Tryz.prog 196 [.agg (a.enc.map .c),.agg (b.enc.map .c)] (.c (.b (decide (a = b)))):=by
 refine yh yqK ?_
 obtain ⟨a0,a1,a2,a3,a4⟩:=a
 obtain ⟨b0,b1,b2,b3,b4⟩:=b
 simp -dsimp -implicitDefEqProofs [ykd,Weir.mk.injEq]
 refine ⟨fun h=>by simp_all,fun h0=>?_⟩
 refine ⟨fun h=>by simp_all,fun h1=>?_⟩
 refine ⟨fun h=>by simp_all,fun h2=>?_⟩
 refine ⟨fun h=>by simp_all,fun h3=>?_⟩
 refine ⟨fun h=>by simp_all,fun h4=>?_⟩
 simp_all
structure Rule where
 Low : Int
 High : Int
 Flood : Int
 deriving DecidableEq,Inhabited
@[simp] def Rule.enc (e : Rule) : List C:=[.i e.Low,.i e.High,.i e.Flood]
-- Rule
theorem yvb (e : Rule) : yB Tryz.prog 180 [.agg (e.enc.map .c)] (.agg (e.enc.map .c)):=by
 refine yh yqZ ?_
 simp -dsimp -implicitDefEqProofs
theorem yy7 (a b : Rule) : yB Tryz.prog 197 [.agg (a.enc.map .c),.agg (b.enc.map .c)] (.c (.b (decide (a = b)))):=by
 refine yh yqs ?_
 obtain ⟨a0,a1,a2⟩:=a
 obtain ⟨b0,b1,b2⟩:=b
 simp -dsimp -implicitDefEqProofs [yjW,Rule.mk.injEq]
 refine ⟨fun h=>by simp_all,fun h0=>?_⟩
 refine ⟨fun h=>by simp_all,fun h1=>?_⟩
 refine ⟨fun h=>by simp_all,fun h2=>?_⟩
 simp_all
structure Pause where
 From : Int
 Until : Int
 deriving DecidableEq,Inhabited
@[simp] def Pause.enc (e : Pause) : List C:=[.i e.From,.i e.Until]
-- Pause
theorem yr1 (e : Pause) : yB Tryz.prog 261 [.agg (e.enc.map .c)] (.agg (e.enc.map .c)):=by
 refine yh yqk ?_
 simp -dsimp -implicitDefEqProofs
theorem yx9 (a b : Pause) : yB Tryz.prog 266 [.agg (a.enc.map .c),.agg (b.enc.map .c)] (.c (.b (decide (a = b)))):=by
 refine yh ypk ?_
 obtain ⟨a0,a1⟩:=a
 obtain ⟨b0,b1⟩:=b
 simp -dsimp -implicitDefEqProofs [yiD,Pause.mk.injEq]
 refine ⟨fun h=>by simp_all,fun h0=>?_⟩
 refine ⟨fun h=>by simp_all,fun h1=>?_⟩
 simp_all
-- []Pause
def yhi (xs : List Pause) (l : Int) : Int:=szS xs.length l
def yfI : List Pause → Prop:=ycs fun _=>True
theorem ykI : yey yhi yfI:=yhU
theorem yt6 (xs : List Pause) (l : Int) (h0 : 0 ≤ l) (h1 : l ≤ 1048576) : yB Tryz.prog 168 [.c (.sl 2 (xs.map Pause.enc)),.c (.i l)] (.c (.i (yhi xs l))):=by
 refine yh ynK ?_
 simp -dsimp -implicitDefEqProofs [yir,yhi,szS]
 intro hl
 unfold maxLen at hl
 refine ⟨by unfold inI; omega,fun h=>?_,fun h=>?_⟩ <;> intros <;> omega
theorem ywj (xs : List Pause) (hl : yfI xs) : yB Tryz.prog 181 [.c (.sl 2 (xs.map Pause.enc))] (.c (.sl 2 (xs.map Pause.enc))):=by
 refine yh yis ?_
 simp -dsimp -implicitDefEqProofs
 intro hlen
 have hl1:=hl.1
 refine ⟨by omega,?_⟩
 refine yg (ι:=Nat) (fun k=>k ≤ xs.length) (fun k=>yO [(0,.c (.sl 2 (xs.map Pause.enc))),(3,.own 7 2 xs.length),(4,.c (.i k))] [(7,.row 2 (partly Pause.enc [.i 0,.i 0] xs k))]) (fun k=>xs.length - k) 0 (by simp) (by apply yj <;> simp [yab]) ?_
 rintro k hk
 rcases Nat.lt_or_ge k xs.length with hlt | hge
 ·obtain ⟨e,he⟩ : ∃ e,xs[k]? = some e:=⟨_,List.getElem?_eq_getElem hlt⟩
  have hs:=yaj (f:=Pause.enc) (z:=[.i 0,.i 0]) he
  have hd:=yav (f:=Pause.enc) (z:=[.i 0,.i 0]) (n:=2) rfl hlt
  simp only [Pause.enc] at hs
  simp -dsimp -implicitDefEqProofs [he,yG hlt]
  refine fun _=>yaP (yr1 e ) (by simp) rfl ?_
  simp -dsimp -implicitDefEqProofs [yG hlt,yak hk,hd,hs]
  exact ⟨hlt,yw hlt hlen,k + 1,hlt,by omega,by apply yj <;> simp⟩
 ·simp -dsimp -implicitDefEqProofs [yaB hge]
  intro _
  rw [yam hge,List.take_of_length_le (by simp)]
theorem yvs (es fs : List Pause) : yB Tryz.prog 198 [.c (.sl 2 (es.map Pause.enc)),.c (.sl 2 (fs.map Pause.enc))] (.c (.b (decide (es = fs)))):=by
 refine yh ynE ?_
 simp -dsimp -implicitDefEqProofs
 intro hl1 hl2
 refine ⟨fun h e=>h (by rw [e]),fun hlen=>?_⟩
 have hlen' : es.length = fs.length:=by omega
 refine yg (ι:=Nat) (fun k=>k ≤ es.length ∧ es.take k = fs.take k) (fun k=>yO [(0,.c (.sl 2 (es.map Pause.enc))),(1,.c (.sl 2 (fs.map Pause.enc))),(5,.c (.i k))] []) (fun k=>es.length - k) 0 (by simp) (by apply yj <;> simp) ?_
 rintro k ⟨hk,htk⟩
 rcases Nat.lt_or_ge k es.length with hlt | hge
 ·obtain ⟨e,he⟩ : ∃ e,es[k]? = some e:=⟨_,List.getElem?_eq_getElem hlt⟩
  obtain ⟨f,hf⟩ : ∃ f,fs[k]? = some f:=⟨_,List.getElem?_eq_getElem (by omega)⟩
  simp -dsimp -implicitDefEqProofs [he,hf,yG hlt,yG (hlen' ▸ hlt)]
  intro _
  refine yaC (yx9 e f) ?_
  simp -dsimp -implicitDefEqProofs
  refine ⟨fun h=>ybG he hf h,fun h=>⟨yw hlt hl1,k + 1,⟨hlt,yaR he hf htk h⟩,by omega,by apply yj <;> simp⟩⟩
 ·simp -dsimp -implicitDefEqProofs [yaB hge]
  intro _
  exact ybf hge hlen' htk
structure Turn where
 Up : Bool
 Count : Int
 deriving DecidableEq,Inhabited
@[simp] def Turn.enc (e : Turn) : List C:=[.b e.Up,.i e.Count]
-- Turn
theorem ytT (e : Turn) : yB Tryz.prog 182 [.agg (e.enc.map .c)] (.agg (e.enc.map .c)):=by
 refine yh yqv ?_
 simp -dsimp -implicitDefEqProofs
theorem yzT (a b : Turn) : yB Tryz.prog 199 [.agg (a.enc.map .c),.agg (b.enc.map .c)] (.c (.b (decide (a = b)))):=by
 refine yh yqu ?_
 obtain ⟨a0,a1⟩:=a
 obtain ⟨b0,b1⟩:=b
 simp -dsimp -implicitDefEqProofs [yj6,Turn.mk.injEq]
 refine ⟨fun h=>by simp_all,fun h0=>?_⟩
 refine ⟨fun h=>by simp_all,fun h1=>?_⟩
 simp_all
structure CallT where
 Train : Train
 Since : Int
 Booked : Int
 deriving DecidableEq,Inhabited
@[simp] def CallT.enc (e : CallT) : List C:=[.b e.Train.Up,.sl 1 (e.Train.Rows.map yai),.i e.Since,.i e.Booked]
-- Call
def ydJ (e : CallT) (l : Int) : Int:=ybm (yb2 e.Train l) fun l=>l
def CallT.small (e : CallT) : Prop:=e.Train.small
theorem yn9 : yey ydJ CallT.small:=by
 intro e l h0 h1
 unfold ydJ
 rcases ye7 e.Train _ h0 h1 with e0 | ⟨a0,b0,s0⟩
 ·exact .inl (yK (by omega))
 rw [yu a0]
 exact .inr ⟨a0,by omega,s0⟩
theorem yyC (e : CallT) (l : Int) (h0 : 0 ≤ l) (h1 : l ≤ 1048576) : yB Tryz.prog 258 [.agg (e.enc.map .c),.c (.i l)] (.c (.i (ydJ e l))):=by
 refine yh yrq ?_
 simp -dsimp -implicitDefEqProofs
 refine yc (yhF e.Train _ h0 h1) ?_
 simp -dsimp -implicitDefEqProofs
 refine ⟨fun h=>by simp [ydJ,yK h],fun p0=>?_⟩
 simp [ydJ,yu p0]
theorem yzv (e : CallT) (hl : CallT.small e) : yB Tryz.prog 262 [.agg (e.enc.map .c)] (.agg (e.enc.map .c)):=by
 refine yh yjU ?_
 simp -dsimp -implicitDefEqProofs
 refine yS (yjt e.Train hl) ?_
 simp -dsimp -implicitDefEqProofs
theorem yzt (a b : CallT) : yB Tryz.prog 267 [.agg (a.enc.map .c),.agg (b.enc.map .c)] (.c (.b (decide (a = b)))):=by
 refine yh yri ?_
 obtain ⟨a0,a1,a2⟩:=a
 obtain ⟨b0,b1,b2⟩:=b
 simp -dsimp -implicitDefEqProofs [ykh,CallT.mk.injEq]
 refine yc (yjG a0 b0) ?_
 simp -dsimp -implicitDefEqProofs
 refine ⟨fun h=>by simp_all,fun h0=>?_⟩
 refine ⟨fun h=>by simp_all,fun h1=>?_⟩
 refine ⟨fun h=>by simp_all,fun h2=>?_⟩
 simp_all
-- []Call
def yfd : List CallT → Int → Int:=yeE ydJ
def yfi : List CallT → Prop:=ycs CallT.small
theorem yu4 : yey yfd yfi:=ygj yn9
theorem yvO (xs : List CallT) (l : Int) (h0 : 0 ≤ l) (h1 : l ≤ 1048576) : yB Tryz.prog 169 [.c (.sl 4 (xs.map CallT.enc)),.c (.i l)] (.c (.i (yfd xs l))):=by
 refine yh ypT ?_
 simp -dsimp -implicitDefEqProofs
 intro hl
 have hs : szS xs.length l = if l - xs.length < 0 then -1 else l - xs.length:=rfl
 refine ⟨by unfold maxLen at hl; unfold inI; omega,fun h=>?_,fun h=>?_⟩
 ·simp [yfd,yeE,ybm,hs,h]
 have h' : 0 ≤ l - xs.length:=by omega
 have e0 : yfd xs l = yaw ydJ xs (l - xs.length):=by
  have : szS xs.length l = l - xs.length:=by rw [hs,if_neg (by omega)]
  simp only [yfd,yeE]
  rw [this,yu h']
 refine yg (ι:=Nat × Int) (fun p=>p.1 ≤ xs.length ∧ 0 ≤ p.2 ∧ p.2 ≤ 1048576 ∧ yaw ydJ (xs.drop p.1) p.2 = yfd xs l) (fun p=>yO [(0,.c (.sl 4 (xs.map CallT.enc))),(1,.c (.i p.2)),(5,.c (.i p.1))] []) (fun p=>xs.length - p.1) (0,l - xs.length) ⟨by simp,h',by simp only; omega,by simp [e0]⟩ (by apply yj <;> simp) ?_
 rintro ⟨k,q⟩ ⟨hk,hq0,hq1,hf⟩
 simp only at hk hq0 hq1 hf
 rcases Nat.lt_or_ge k xs.length with hlt | hge
 ·obtain ⟨e,he⟩ : ∃ e,xs[k]? = some e:=⟨_,List.getElem?_eq_getElem hlt⟩
  have hd : xs.drop k = e :: xs.drop (k + 1):=by
   rw [List.drop_eq_getElem_cons hlt,(List.getElem?_eq_some_iff.1 he).2]
  rw [hd,yaw] at hf
  simp -dsimp -implicitDefEqProofs [he,yG hlt]
  refine fun _=>yaQ (yyC e q hq0 hq1) (by simp) rfl ?_
  simp -dsimp -implicitDefEqProofs
  refine ⟨fun h=>by rw [← hf,yK h],fun h=>⟨yw hlt hl,k + 1,⟨ydJ e q,?_⟩⟩⟩
  rw [yu h] at hf
  have hle : ydJ e q ≤ 1048576:=by
   rcases yn9 e q hq0 hq1 with e1 | e1
   ·omega
   ·omega
  exact ⟨⟨hlt,h,hle,hf⟩,by omega,by apply yj <;> simp⟩
 ·simp -dsimp -implicitDefEqProofs [yaB hge]
  rw [List.drop_of_length_le hge] at hf
  intro _
  first | simpa [yaw] using hf | simpa [yaw] using hf.symm
theorem yxE (xs : List CallT) (hl : yfi xs) : yB Tryz.prog 183 [.c (.sl 4 (xs.map CallT.enc))] (.c (.sl 4 (xs.map CallT.enc))):=by
 refine yh yiL ?_
 simp -dsimp -implicitDefEqProofs
 intro hlen
 have hl1:=hl.1
 refine ⟨by omega,?_⟩
 refine yg (ι:=Nat) (fun k=>k ≤ xs.length) (fun k=>yO [(0,.c (.sl 4 (xs.map CallT.enc))),(3,.own 7 4 xs.length),(4,.c (.i k))] [(7,.row 4 (partly CallT.enc [.b false,.sl 1 [],.i 0,.i 0] xs k))]) (fun k=>xs.length - k) 0 (by simp) (by apply yj <;> simp [yab]) ?_
 rintro k hk
 rcases Nat.lt_or_ge k xs.length with hlt | hge
 ·obtain ⟨e,he⟩ : ∃ e,xs[k]? = some e:=⟨_,List.getElem?_eq_getElem hlt⟩
  have hs:=yaj (f:=CallT.enc) (z:=[.b false,.sl 1 [],.i 0,.i 0]) he
  have hd:=yav (f:=CallT.enc) (z:=[.b false,.sl 1 [],.i 0,.i 0]) (n:=4) rfl hlt
  simp only [CallT.enc,Train.enc] at hs
  simp -dsimp -implicitDefEqProofs [he,yG hlt]
  refine fun _=>yaP (yzv e (hl.2 e (List.mem_of_getElem? he))) (by simp) rfl ?_
  simp -dsimp -implicitDefEqProofs [yG hlt,yak hk,hd,hs]
  exact ⟨hlt,yw hlt hlen,k + 1,hlt,by omega,by apply yj <;> simp⟩
 ·simp -dsimp -implicitDefEqProofs [yaB hge]
  intro _
  rw [yam hge,List.take_of_length_le (by simp)]
theorem yxI (es fs : List CallT) : yB Tryz.prog 200 [.c (.sl 4 (es.map CallT.enc)),.c (.sl 4 (fs.map CallT.enc))] (.c (.b (decide (es = fs)))):=by
 refine yh yoS ?_
 simp -dsimp -implicitDefEqProofs
 intro hl1 hl2
 refine ⟨fun h e=>h (by rw [e]),fun hlen=>?_⟩
 have hlen' : es.length = fs.length:=by omega
 refine yg (ι:=Nat) (fun k=>k ≤ es.length ∧ es.take k = fs.take k) (fun k=>yO [(0,.c (.sl 4 (es.map CallT.enc))),(1,.c (.sl 4 (fs.map CallT.enc))),(5,.c (.i k))] []) (fun k=>es.length - k) 0 (by simp) (by apply yj <;> simp) ?_
 rintro k ⟨hk,htk⟩
 rcases Nat.lt_or_ge k es.length with hlt | hge
 ·obtain ⟨e,he⟩ : ∃ e,es[k]? = some e:=⟨_,List.getElem?_eq_getElem hlt⟩
  obtain ⟨f,hf⟩ : ∃ f,fs[k]? = some f:=⟨_,List.getElem?_eq_getElem (by omega)⟩
  simp -dsimp -implicitDefEqProofs [he,hf,yG hlt,yG (hlen' ▸ hlt)]
  intro _
  refine yaC (yzt e f) ?_
  simp -dsimp -implicitDefEqProofs
  refine ⟨fun h=>ybG he hf h,fun h=>⟨yw hlt hl1,k + 1,⟨hlt,yaR he hf htk h⟩,by omega,by apply yj <;> simp⟩⟩
 ·simp -dsimp -implicitDefEqProofs [yaB hge]
  intro _
  exact ybf hge hlen' htk
structure Work where
 Lock : Lock
 Weir : Weir
 Rule : Rule
 Pauses : List Pause
 Turn : Turn
 Calls : List CallT
 deriving DecidableEq,Inhabited
@[simp] def Work.enc (e : Work) : List C:=[.i e.Lock.Length,.i e.Lock.Width,.i e.Lock.SillAbove,.i e.Lock.SillBelow,.i e.Lock.Base,.i e.Lock.Area,.i e.Lock.Rate,.i e.Lock.Water,.i e.Lock.Gate,.sl 2 (e.Lock.Inside.map Train.enc),.i e.Weir.Gates,.i e.Weir.Open,.i e.Weir.Step,.i e.Weir.Crest,.i e.Weir.Width,.i e.Rule.Low,.i e.Rule.High,.i e.Rule.Flood,.sl 2 (e.Pauses.map Pause.enc),.b e.Turn.Up,.i e.Turn.Count,.sl 4 (e.Calls.map CallT.enc)]
-- Work
def ycY (e : Work) (l : Int) : Int:=ybm (ygm e.Lock l) fun l=>ybm (yhi e.Pauses l) fun l=>ybm (yfd e.Calls l) fun l=>l
def Work.small (e : Work) : Prop:=e.Lock.small ∧ yfI e.Pauses ∧ yfi e.Calls
theorem yn3 : yey ycY Work.small:=by
 intro e l h0 h1
 unfold ycY
 rcases yoa e.Lock _ h0 h1 with e0 | ⟨a0,b0,s0⟩
 ·exact .inl (yK (by omega))
 rw [yu a0]
 rcases ykI e.Pauses _ a0 (by omega) with e1 | ⟨a1,b1,s1⟩
 ·exact .inl (yK (by omega))
 rw [yu a1]
 rcases yu4 e.Calls _ a1 (by omega) with e2 | ⟨a2,b2,s2⟩
 ·exact .inl (yK (by omega))
 rw [yu a2]
 exact .inr ⟨a2,by omega,s0,s1,s2⟩
theorem yym (e : Work) (l : Int) (h0 : 0 ≤ l) (h1 : l ≤ 1048576) : yB Tryz.prog 83 [.agg (e.enc.map .c),.c (.i l)] (.c (.i (ycY e l))):=by
 refine yh yqH ?_
 simp -dsimp -implicitDefEqProofs
 refine yc (yxv e.Lock _ h0 h1) ?_
 simp -dsimp -implicitDefEqProofs
 refine ⟨fun h=>by simp [ycY,yK h],fun p0=>?_⟩
 have q0:=yin yoa e.Lock h0 h1 p0
 refine yc (yt6 e.Pauses _ p0 q0) ?_
 simp -dsimp -implicitDefEqProofs
 refine ⟨fun h=>by simp [ycY,yu p0,yK h],fun p1=>?_⟩
 have q1:=yin ykI e.Pauses p0 q0 p1
 refine yc (yvO e.Calls _ p1 q1) ?_
 simp -dsimp -implicitDefEqProofs
 refine ⟨fun h=>by simp [ycY,yu p0,yu p1,yK h],fun p2=>?_⟩
 simp [ycY,yu p0,yu p1,yu p2]
theorem yzs (e : Work) (hl : Work.small e) : yB Tryz.prog 95 [.agg (e.enc.map .c)] (.agg (e.enc.map .c)):=by
 refine yh yka ?_
 simp -dsimp -implicitDefEqProofs
 refine yS (yAz e.Lock (hl.1)) ?_
 simp -dsimp -implicitDefEqProofs
 refine yS (yuN e.Weir) ?_
 simp -dsimp -implicitDefEqProofs
 refine yS (yvb e.Rule) ?_
 simp -dsimp -implicitDefEqProofs
 refine yS (ywj e.Pauses (hl.2.1)) ?_
 simp -dsimp -implicitDefEqProofs
 refine yS (ytT e.Turn) ?_
 simp -dsimp -implicitDefEqProofs
 refine yS (yxE e.Calls (hl.2.2)) ?_
 simp -dsimp -implicitDefEqProofs
theorem yy2 (a b : Work) : yB Tryz.prog 112 [.agg (a.enc.map .c),.agg (b.enc.map .c)] (.c (.b (decide (a = b)))):=by
 refine yh yqq ?_
 obtain ⟨a0,a1,a2,a3,a4,a5⟩:=a
 obtain ⟨b0,b1,b2,b3,b4,b5⟩:=b
 simp -dsimp -implicitDefEqProofs [yj1,Work.mk.injEq]
 refine yc (yy8 a0 b0) ?_
 simp -dsimp -implicitDefEqProofs
 refine ⟨fun h=>by simp_all,fun h0=>?_⟩
 refine yc (yAt a1 b1) ?_
 simp -dsimp -implicitDefEqProofs
 refine ⟨fun h=>by simp_all,fun h1=>?_⟩
 refine yc (yy7 a2 b2) ?_
 simp -dsimp -implicitDefEqProofs
 refine ⟨fun h=>by simp_all,fun h2=>?_⟩
 refine yc (yvs a3 b3) ?_
 simp -dsimp -implicitDefEqProofs
 refine ⟨fun h=>by simp_all,fun h3=>?_⟩
 refine yc (yzT a4 b4) ?_
 simp -dsimp -implicitDefEqProofs
 refine ⟨fun h=>by simp_all,fun h4=>?_⟩
 refine yc (yxI a5 b5) ?_
 simp -dsimp -implicitDefEqProofs
 refine ⟨fun h=>by simp_all,fun h5=>?_⟩
 simp_all
def ygY (xs : List Entry) (l : Int) : Int:=szS xs.length l
def ykU : List Entry → Prop:=ycs fun _=>True
theorem ykP : yey ygY ykU:=yhU
theorem yuw (xs : List Entry) (l : Int) (h0 : 0 ≤ l) (h1 : l ≤ 1048576) : yB Tryz.prog 24 [.c (.sl 5 (xs.map Entry.enc)),.c (.i l)] (.c (.i (ygY xs l))):=by
 refine yh ynm ?_
 simp -dsimp -implicitDefEqProofs [yix,ygY,szS]
 intro hl
 unfold maxLen at hl
 refine ⟨by unfold inI; omega,fun h=>?_,fun h=>?_⟩ <;> intros <;> omega
theorem yBf (a b : Way) : yB Tryz.prog 111 [.agg (a.enc.map .c),.agg (b.enc.map .c)] (.c (.b (decide (a = b)))):=by
 refine yh ysB ?_
 obtain ⟨a0,a1⟩:=a
 obtain ⟨b0,b1⟩:=b
 simp -dsimp -implicitDefEqProofs [ykN,Way.mk.injEq]
 refine ⟨fun h=>by simp_all,fun h0=>?_⟩
 refine ⟨fun h=>by simp_all,fun h1=>?_⟩
 simp_all
-- []Reach
def yd8 : List Reach → Int → Int:=yeE ycy
def ycN : List Reach → Prop:=ycs Reach.small
theorem ykV : yey yd8 ycN:=ygj ymW
theorem yuf (xs : List Reach) (l : Int) (h0 : 0 ≤ l) (h1 : l ≤ 1048576) : yB Tryz.prog 17 [.c (.sl 3 (xs.map Reach.enc)),.c (.i l)] (.c (.i (yd8 xs l))):=by
 refine yh ynv ?_
 simp -dsimp -implicitDefEqProofs
 intro hl
 have hs : szS xs.length l = if l - xs.length < 0 then -1 else l - xs.length:=rfl
 refine ⟨by unfold maxLen at hl; unfold inI; omega,fun h=>?_,fun h=>?_⟩
 ·simp [yd8,yeE,ybm,hs,h]
 have h' : 0 ≤ l - xs.length:=by omega
 have e0 : yd8 xs l = yaw ycy xs (l - xs.length):=by
  have : szS xs.length l = l - xs.length:=by rw [hs,if_neg (by omega)]
  simp only [yd8,yeE]
  rw [this,yu h']
 refine yg (ι:=Nat × Int) (fun p=>p.1 ≤ xs.length ∧ 0 ≤ p.2 ∧ p.2 ≤ 1048576 ∧ yaw ycy (xs.drop p.1) p.2 = yd8 xs l) (fun p=>yO [(0,.c (.sl 3 (xs.map Reach.enc))),(1,.c (.i p.2)),(5,.c (.i p.1))] []) (fun p=>xs.length - p.1) (0,l - xs.length) ⟨by simp,h',by simp only; omega,by simp [e0]⟩ (by apply yj <;> simp) ?_
 rintro ⟨k,q⟩ ⟨hk,hq0,hq1,hf⟩
 simp only at hk hq0 hq1 hf
 rcases Nat.lt_or_ge k xs.length with hlt | hge
 ·obtain ⟨e,he⟩ : ∃ e,xs[k]? = some e:=⟨_,List.getElem?_eq_getElem hlt⟩
  have hd : xs.drop k = e :: xs.drop (k + 1):=by
   rw [List.drop_eq_getElem_cons hlt,(List.getElem?_eq_some_iff.1 he).2]
  rw [hd,yaw] at hf
  simp -dsimp -implicitDefEqProofs [he,yG hlt]
  refine fun _=>yaQ (yvH e q hq0 hq1) (by simp) rfl ?_
  simp -dsimp -implicitDefEqProofs
  refine ⟨fun h=>by rw [← hf,yK h],fun h=>⟨yw hlt hl,k + 1,⟨ycy e q,?_⟩⟩⟩
  rw [yu h] at hf
  have hle : ycy e q ≤ 1048576:=by
   rcases ymW e q hq0 hq1 with e1 | e1
   ·omega
   ·omega
  exact ⟨⟨hlt,h,hle,hf⟩,by omega,by apply yj <;> simp⟩
 ·simp -dsimp -implicitDefEqProofs [yaB hge]
  rw [List.drop_of_length_le hge] at hf
  intro _
  first | simpa [yaw] using hf | simpa [yaw] using hf.symm
theorem ywf (xs : List Reach) (hl : ycN xs) : yB Tryz.prog 30 [.c (.sl 3 (xs.map Reach.enc))] (.c (.sl 3 (xs.map Reach.enc))):=by
 refine yh yii ?_
 simp -dsimp -implicitDefEqProofs
 intro hlen
 have hl1:=hl.1
 refine ⟨by omega,?_⟩
 refine yg (ι:=Nat) (fun k=>k ≤ xs.length) (fun k=>yO [(0,.c (.sl 3 (xs.map Reach.enc))),(3,.own 7 3 xs.length),(4,.c (.i k))] [(7,.row 3 (partly Reach.enc [.sl 2 [],.i 0,.sl 1 []] xs k))]) (fun k=>xs.length - k) 0 (by simp) (by apply yj <;> simp [yab]) ?_
 rintro k hk
 rcases Nat.lt_or_ge k xs.length with hlt | hge
 ·obtain ⟨e,he⟩ : ∃ e,xs[k]? = some e:=⟨_,List.getElem?_eq_getElem hlt⟩
  have hs:=yaj (f:=Reach.enc) (z:=[.sl 2 [],.i 0,.sl 1 []]) he
  have hd:=yav (f:=Reach.enc) (z:=[.sl 2 [],.i 0,.sl 1 []]) (n:=3) rfl hlt
  simp only [Reach.enc] at hs
  simp -dsimp -implicitDefEqProofs [he,yG hlt]
  refine fun _=>yaP (yxy e (hl.2 e (List.mem_of_getElem? he))) (by simp) rfl ?_
  simp -dsimp -implicitDefEqProofs [yG hlt,yak hk,hd,hs]
  exact ⟨hlt,yw hlt hlen,k + 1,hlt,by omega,by apply yj <;> simp⟩
 ·simp -dsimp -implicitDefEqProofs [yaB hge]
  intro _
  rw [yam hge,List.take_of_length_le (by simp)]
theorem ywC (es fs : List Reach) : yB Tryz.prog 44 [.c (.sl 3 (es.map Reach.enc)),.c (.sl 3 (fs.map Reach.enc))] (.c (.b (decide (es = fs)))):=by
 refine yh ynu ?_
 simp -dsimp -implicitDefEqProofs
 intro hl1 hl2
 refine ⟨fun h e=>h (by rw [e]),fun hlen=>?_⟩
 have hlen' : es.length = fs.length:=by omega
 refine yg (ι:=Nat) (fun k=>k ≤ es.length ∧ es.take k = fs.take k) (fun k=>yO [(0,.c (.sl 3 (es.map Reach.enc))),(1,.c (.sl 3 (fs.map Reach.enc))),(5,.c (.i k))] []) (fun k=>es.length - k) 0 (by simp) (by apply yj <;> simp) ?_
 rintro k ⟨hk,htk⟩
 rcases Nat.lt_or_ge k es.length with hlt | hge
 ·obtain ⟨e,he⟩ : ∃ e,es[k]? = some e:=⟨_,List.getElem?_eq_getElem hlt⟩
  obtain ⟨f,hf⟩ : ∃ f,fs[k]? = some f:=⟨_,List.getElem?_eq_getElem (by omega)⟩
  simp -dsimp -implicitDefEqProofs [he,hf,yG hlt,yG (hlen' ▸ hlt)]
  intro _
  refine yaC (yx6 e f) ?_
  simp -dsimp -implicitDefEqProofs
  refine ⟨fun h=>ybG he hf h,fun h=>⟨yw hlt hl1,k + 1,⟨hlt,yaR he hf htk h⟩,by omega,by apply yj <;> simp⟩⟩
 ·simp -dsimp -implicitDefEqProofs [yaB hge]
  intro _
  exact ybf hge hlen' htk
-- []Way
def yk3 (xs : List Way) (l : Int) : Int:=szS xs.length l
def yhr : List Way → Prop:=ycs fun _=>True
theorem ypU : yey yk3 yhr:=yhU
theorem yxL (xs : List Way) (l : Int) (h0 : 0 ≤ l) (h1 : l ≤ 1048576) : yB Tryz.prog 18 [.c (.sl 2 (xs.map Way.enc)),.c (.i l)] (.c (.i (yk3 xs l))):=by
 refine yh yqz ?_
 simp -dsimp -implicitDefEqProofs [yj9,yk3,szS]
 intro hl
 unfold maxLen at hl
 refine ⟨by unfold inI; omega,fun h=>?_,fun h=>?_⟩ <;> intros <;> omega
theorem yzL (xs : List Way) (hl : yhr xs) : yB Tryz.prog 31 [.c (.sl 2 (xs.map Way.enc))] (.c (.sl 2 (xs.map Way.enc))):=by
 refine yh yj5 ?_
 simp -dsimp -implicitDefEqProofs
 intro hlen
 have hl1:=hl.1
 refine ⟨by omega,?_⟩
 refine yg (ι:=Nat) (fun k=>k ≤ xs.length) (fun k=>yO [(0,.c (.sl 2 (xs.map Way.enc))),(3,.own 7 2 xs.length),(4,.c (.i k))] [(7,.row 2 (partly Way.enc [.i 0,.i 0] xs k))]) (fun k=>xs.length - k) 0 (by simp) (by apply yj <;> simp [yab]) ?_
 rintro k hk
 rcases Nat.lt_or_ge k xs.length with hlt | hge
 ·obtain ⟨e,he⟩ : ∃ e,xs[k]? = some e:=⟨_,List.getElem?_eq_getElem hlt⟩
  have hs:=yaj (f:=Way.enc) (z:=[.i 0,.i 0]) he
  have hd:=yav (f:=Way.enc) (z:=[.i 0,.i 0]) (n:=2) rfl hlt
  simp only [Way.enc] at hs
  simp -dsimp -implicitDefEqProofs [he,yG hlt]
  refine fun _=>yaP (yxc e ) (by simp) rfl ?_
  simp -dsimp -implicitDefEqProofs [yG hlt,yak hk,hd,hs]
  exact ⟨hlt,yw hlt hlen,k + 1,hlt,by omega,by apply yj <;> simp⟩
 ·simp -dsimp -implicitDefEqProofs [yaB hge]
  intro _
  rw [yam hge,List.take_of_length_le (by simp)]
theorem yzd (es fs : List Way) : yB Tryz.prog 45 [.c (.sl 2 (es.map Way.enc)),.c (.sl 2 (fs.map Way.enc))] (.c (.b (decide (es = fs)))):=by
 refine yh yqr ?_
 simp -dsimp -implicitDefEqProofs
 intro hl1 hl2
 refine ⟨fun h e=>h (by rw [e]),fun hlen=>?_⟩
 have hlen' : es.length = fs.length:=by omega
 refine yg (ι:=Nat) (fun k=>k ≤ es.length ∧ es.take k = fs.take k) (fun k=>yO [(0,.c (.sl 2 (es.map Way.enc))),(1,.c (.sl 2 (fs.map Way.enc))),(5,.c (.i k))] []) (fun k=>es.length - k) 0 (by simp) (by apply yj <;> simp) ?_
 rintro k ⟨hk,htk⟩
 rcases Nat.lt_or_ge k es.length with hlt | hge
 ·obtain ⟨e,he⟩ : ∃ e,es[k]? = some e:=⟨_,List.getElem?_eq_getElem hlt⟩
  obtain ⟨f,hf⟩ : ∃ f,fs[k]? = some f:=⟨_,List.getElem?_eq_getElem (by omega)⟩
  simp -dsimp -implicitDefEqProofs [he,hf,yG hlt,yG (hlen' ▸ hlt)]
  intro _
  refine yaC (yBf e f) ?_
  simp -dsimp -implicitDefEqProofs
  refine ⟨fun h=>ybG he hf h,fun h=>⟨yw hlt hl1,k + 1,⟨hlt,yaR he hf htk h⟩,by omega,by apply yj <;> simp⟩⟩
 ·simp -dsimp -implicitDefEqProofs [yaB hge]
  intro _
  exact ybf hge hlen' htk
-- []Work
def yfc : List Work → Int → Int:=yeE ycY
def yc8 : List Work → Prop:=ycs Work.small
theorem ym4 : yey yfc yc8:=ygj yn3
theorem yv0 (xs : List Work) (l : Int) (h0 : 0 ≤ l) (h1 : l ≤ 1048576) : yB Tryz.prog 19 [.c (.sl 22 (xs.map Work.enc)),.c (.i l)] (.c (.i (yfc xs l))):=by
 refine yh ypK ?_
 simp -dsimp -implicitDefEqProofs
 intro hl
 have hs : szS xs.length l = if l - xs.length < 0 then -1 else l - xs.length:=rfl
 refine ⟨by unfold maxLen at hl; unfold inI; omega,fun h=>?_,fun h=>?_⟩
 ·simp [yfc,yeE,ybm,hs,h]
 have h' : 0 ≤ l - xs.length:=by omega
 have e0 : yfc xs l = yaw ycY xs (l - xs.length):=by
  have : szS xs.length l = l - xs.length:=by rw [hs,if_neg (by omega)]
  simp only [yfc,yeE]
  rw [this,yu h']
 refine yg (ι:=Nat × Int) (fun p=>p.1 ≤ xs.length ∧ 0 ≤ p.2 ∧ p.2 ≤ 1048576 ∧ yaw ycY (xs.drop p.1) p.2 = yfc xs l) (fun p=>yO [(0,.c (.sl 22 (xs.map Work.enc))),(1,.c (.i p.2)),(5,.c (.i p.1))] []) (fun p=>xs.length - p.1) (0,l - xs.length) ⟨by simp,h',by simp only; omega,by simp [e0]⟩ (by apply yj <;> simp) ?_
 rintro ⟨k,q⟩ ⟨hk,hq0,hq1,hf⟩
 simp only at hk hq0 hq1 hf
 rcases Nat.lt_or_ge k xs.length with hlt | hge
 ·obtain ⟨e,he⟩ : ∃ e,xs[k]? = some e:=⟨_,List.getElem?_eq_getElem hlt⟩
  have hd : xs.drop k = e :: xs.drop (k + 1):=by
   rw [List.drop_eq_getElem_cons hlt,(List.getElem?_eq_some_iff.1 he).2]
  rw [hd,yaw] at hf
  simp -dsimp -implicitDefEqProofs [he,yG hlt]
  refine fun _=>yaQ (yym e q hq0 hq1) (by simp) rfl ?_
  simp -dsimp -implicitDefEqProofs
  refine ⟨fun h=>by rw [← hf,yK h],fun h=>⟨yw hlt hl,k + 1,⟨ycY e q,?_⟩⟩⟩
  rw [yu h] at hf
  have hle : ycY e q ≤ 1048576:=by
   rcases yn3 e q hq0 hq1 with e1 | e1
   ·omega
   ·omega
  exact ⟨⟨hlt,h,hle,hf⟩,by omega,by apply yj <;> simp⟩
 ·simp -dsimp -implicitDefEqProofs [yaB hge]
  rw [List.drop_of_length_le hge] at hf
  intro _
  first | simpa [yaw] using hf | simpa [yaw] using hf.symm
theorem yyh (xs : List Work) (hl : yc8 xs) : yB Tryz.prog 32 [.c (.sl 22 (xs.map Work.enc))] (.c (.sl 22 (xs.map Work.enc))):=by
 refine yh yjm ?_
 simp -dsimp -implicitDefEqProofs
 intro hlen
 have hl1:=hl.1
 refine ⟨by omega,?_⟩
 refine yg (ι:=Nat) (fun k=>k ≤ xs.length) (fun k=>yO [(0,.c (.sl 22 (xs.map Work.enc))),(3,.own 7 22 xs.length),(4,.c (.i k))] [(7,.row 22 (partly Work.enc [.i 0,.i 0,.i 0,.i 0,.i 0,.i 0,.i 0,.i 0,.i 0,.sl 2 [],.i 0,.i 0,.i 0,.i 0,.i 0,.i 0,.i 0,.i 0,.sl 2 [],.b false,.i 0,.sl 4 []] xs k))]) (fun k=>xs.length - k) 0 (by simp) (by apply yj <;> simp [yab]) ?_
 rintro k hk
 rcases Nat.lt_or_ge k xs.length with hlt | hge
 ·obtain ⟨e,he⟩ : ∃ e,xs[k]? = some e:=⟨_,List.getElem?_eq_getElem hlt⟩
  have hs:=yaj (f:=Work.enc) (z:=[.i 0,.i 0,.i 0,.i 0,.i 0,.i 0,.i 0,.i 0,.i 0,.sl 2 [],.i 0,.i 0,.i 0,.i 0,.i 0,.i 0,.i 0,.i 0,.sl 2 [],.b false,.i 0,.sl 4 []]) he
  have hd:=yav (f:=Work.enc) (z:=[.i 0,.i 0,.i 0,.i 0,.i 0,.i 0,.i 0,.i 0,.i 0,.sl 2 [],.i 0,.i 0,.i 0,.i 0,.i 0,.i 0,.i 0,.i 0,.sl 2 [],.b false,.i 0,.sl 4 []]) (n:=22) rfl hlt
  simp only [Work.enc,Lock.enc,Weir.enc,Rule.enc,Turn.enc] at hs
  simp -dsimp -implicitDefEqProofs [he,yG hlt]
  refine fun _=>yaP (yzs e (hl.2 e (List.mem_of_getElem? he))) (by simp) rfl ?_
  simp -dsimp -implicitDefEqProofs [yG hlt,yak hk,hd,hs]
  exact ⟨hlt,yw hlt hlen,k + 1,hlt,by omega,by apply yj <;> simp⟩
 ·simp -dsimp -implicitDefEqProofs [yaB hge]
  intro _
  rw [yam hge,List.take_of_length_le (by simp)]
theorem yyy (es fs : List Work) : yB Tryz.prog 46 [.c (.sl 22 (es.map Work.enc)),.c (.sl 22 (fs.map Work.enc))] (.c (.b (decide (es = fs)))):=by
 refine yh yo1 ?_
 simp -dsimp -implicitDefEqProofs
 intro hl1 hl2
 refine ⟨fun h e=>h (by rw [e]),fun hlen=>?_⟩
 have hlen' : es.length = fs.length:=by omega
 refine yg (ι:=Nat) (fun k=>k ≤ es.length ∧ es.take k = fs.take k) (fun k=>yO [(0,.c (.sl 22 (es.map Work.enc))),(1,.c (.sl 22 (fs.map Work.enc))),(5,.c (.i k))] []) (fun k=>es.length - k) 0 (by simp) (by apply yj <;> simp) ?_
 rintro k ⟨hk,htk⟩
 rcases Nat.lt_or_ge k es.length with hlt | hge
 ·obtain ⟨e,he⟩ : ∃ e,es[k]? = some e:=⟨_,List.getElem?_eq_getElem hlt⟩
  obtain ⟨f,hf⟩ : ∃ f,fs[k]? = some f:=⟨_,List.getElem?_eq_getElem (by omega)⟩
  simp -dsimp -implicitDefEqProofs [he,hf,yG hlt,yG (hlen' ▸ hlt)]
  intro _
  refine yaC (yy2 e f) ?_
  simp -dsimp -implicitDefEqProofs
  refine ⟨fun h=>ybG he hf h,fun h=>⟨yw hlt hl1,k + 1,⟨hlt,yaR he hf htk h⟩,by omega,by apply yj <;> simp⟩⟩
 ·simp -dsimp -implicitDefEqProofs [yaB hge]
  intro _
  exact ybf hge hlen' htk
-- []Mover
def ycf : List Mover → Int → Int:=yeE ycV
def yfK : List Mover → Prop:=ycs Mover.small
theorem ylJ : yey ycf yfK:=ygj ymQ
theorem yuF (xs : List Mover) (l : Int) (h0 : 0 ≤ l) (h1 : l ≤ 1048576) : yB Tryz.prog 84 [.c (.sl 3 (xs.map Mover.enc)),.c (.i l)] (.c (.i (ycf xs l))):=by
 refine yh ynH ?_
 simp -dsimp -implicitDefEqProofs
 intro hl
 have hs : szS xs.length l = if l - xs.length < 0 then -1 else l - xs.length:=rfl
 refine ⟨by unfold maxLen at hl; unfold inI; omega,fun h=>?_,fun h=>?_⟩
 ·simp [ycf,yeE,ybm,hs,h]
 have h' : 0 ≤ l - xs.length:=by omega
 have e0 : ycf xs l = yaw ycV xs (l - xs.length):=by
  have : szS xs.length l = l - xs.length:=by rw [hs,if_neg (by omega)]
  simp only [ycf,yeE]
  rw [this,yu h']
 refine yg (ι:=Nat × Int) (fun p=>p.1 ≤ xs.length ∧ 0 ≤ p.2 ∧ p.2 ≤ 1048576 ∧ yaw ycV (xs.drop p.1) p.2 = ycf xs l) (fun p=>yO [(0,.c (.sl 3 (xs.map Mover.enc))),(1,.c (.i p.2)),(5,.c (.i p.1))] []) (fun p=>xs.length - p.1) (0,l - xs.length) ⟨by simp,h',by simp only; omega,by simp [e0]⟩ (by apply yj <;> simp) ?_
 rintro ⟨k,q⟩ ⟨hk,hq0,hq1,hf⟩
 simp only at hk hq0 hq1 hf
 rcases Nat.lt_or_ge k xs.length with hlt | hge
 ·obtain ⟨e,he⟩ : ∃ e,xs[k]? = some e:=⟨_,List.getElem?_eq_getElem hlt⟩
  have hd : xs.drop k = e :: xs.drop (k + 1):=by
   rw [List.drop_eq_getElem_cons hlt,(List.getElem?_eq_some_iff.1 he).2]
  rw [hd,yaw] at hf
  simp -dsimp -implicitDefEqProofs [he,yG hlt]
  refine fun _=>yaQ (yvT e q hq0 hq1) (by simp) rfl ?_
  simp -dsimp -implicitDefEqProofs
  refine ⟨fun h=>by rw [← hf,yK h],fun h=>⟨yw hlt hl,k + 1,⟨ycV e q,?_⟩⟩⟩
  rw [yu h] at hf
  have hle : ycV e q ≤ 1048576:=by
   rcases ymQ e q hq0 hq1 with e1 | e1
   ·omega
   ·omega
  exact ⟨⟨hlt,h,hle,hf⟩,by omega,by apply yj <;> simp⟩
 ·simp -dsimp -implicitDefEqProofs [yaB hge]
  rw [List.drop_of_length_le hge] at hf
  intro _
  first | simpa [yaw] using hf | simpa [yaw] using hf.symm
theorem ywy (xs : List Mover) (hl : yfK xs) : yB Tryz.prog 96 [.c (.sl 3 (xs.map Mover.enc))] (.c (.sl 3 (xs.map Mover.enc))):=by
 refine yh yiz ?_
 simp -dsimp -implicitDefEqProofs
 intro hlen
 have hl1:=hl.1
 refine ⟨by omega,?_⟩
 refine yg (ι:=Nat) (fun k=>k ≤ xs.length) (fun k=>yO [(0,.c (.sl 3 (xs.map Mover.enc))),(3,.own 7 3 xs.length),(4,.c (.i k))] [(7,.row 3 (partly Mover.enc [.b false,.sl 1 [],.i 0] xs k))]) (fun k=>xs.length - k) 0 (by simp) (by apply yj <;> simp [yab]) ?_
 rintro k hk
 rcases Nat.lt_or_ge k xs.length with hlt | hge
 ·obtain ⟨e,he⟩ : ∃ e,xs[k]? = some e:=⟨_,List.getElem?_eq_getElem hlt⟩
  have hs:=yaj (f:=Mover.enc) (z:=[.b false,.sl 1 [],.i 0]) he
  have hd:=yav (f:=Mover.enc) (z:=[.b false,.sl 1 [],.i 0]) (n:=3) rfl hlt
  simp only [Mover.enc,Train.enc] at hs
  simp -dsimp -implicitDefEqProofs [he,yG hlt]
  refine fun _=>yaP (yyk e (hl.2 e (List.mem_of_getElem? he))) (by simp) rfl ?_
  simp -dsimp -implicitDefEqProofs [yG hlt,yak hk,hd,hs]
  exact ⟨hlt,yw hlt hlen,k + 1,hlt,by omega,by apply yj <;> simp⟩
 ·simp -dsimp -implicitDefEqProofs [yaB hge]
  intro _
  rw [yam hge,List.take_of_length_le (by simp)]
theorem ywq (es fs : List Mover) : yB Tryz.prog 113 [.c (.sl 3 (es.map Mover.enc)),.c (.sl 3 (fs.map Mover.enc))] (.c (.b (decide (es = fs)))):=by
 refine yh ynq ?_
 simp -dsimp -implicitDefEqProofs
 intro hl1 hl2
 refine ⟨fun h e=>h (by rw [e]),fun hlen=>?_⟩
 have hlen' : es.length = fs.length:=by omega
 refine yg (ι:=Nat) (fun k=>k ≤ es.length ∧ es.take k = fs.take k) (fun k=>yO [(0,.c (.sl 3 (es.map Mover.enc))),(1,.c (.sl 3 (fs.map Mover.enc))),(5,.c (.i k))] []) (fun k=>es.length - k) 0 (by simp) (by apply yj <;> simp) ?_
 rintro k ⟨hk,htk⟩
 rcases Nat.lt_or_ge k es.length with hlt | hge
 ·obtain ⟨e,he⟩ : ∃ e,es[k]? = some e:=⟨_,List.getElem?_eq_getElem hlt⟩
  obtain ⟨f,hf⟩ : ∃ f,fs[k]? = some f:=⟨_,List.getElem?_eq_getElem (by omega)⟩
  simp -dsimp -implicitDefEqProofs [he,hf,yG hlt,yG (hlen' ▸ hlt)]
  intro _
  refine yaC (yxY e f) ?_
  simp -dsimp -implicitDefEqProofs
  refine ⟨fun h=>ybG he hf h,fun h=>⟨yw hlt hl1,k + 1,⟨hlt,yaR he hf htk h⟩,by omega,by apply yj <;> simp⟩⟩
 ·simp -dsimp -implicitDefEqProofs [yaB hge]
  intro _
  exact ybf hge hlen' htk
abbrev yZ (xs : List Mover) : List C:=[.sl 3 (xs.map Mover.enc)]
-- [][]Mover
def ydg : List (List Mover) → Int → Int:=yeE ycf
def ye2 : List (List Mover) → Prop:=ycs yfK
theorem yjX : yey ydg ye2:=ygj ylJ
end Go.Proofs.YtjojilkdkgmbgaaGreat
