/- What the law FnExactEnterTrain stands on: contracts of functions, what each answers as plain Lean, in short form (names, layout). -/
import Derived.Test.YtefegahoniahkaaGreatSExactEnterTrain1
set_option linter.all false
namespace Go.Proofs.YtefegahoniahkaaGreat
open Go.RowKit
theorem yqB (t : Tariff) : yB Tryz.prog 132 [.agg (t.enc.map .c)] (.c (.b (ya9 t))):=by
 refine yh ynP ?_
 simp -dsimp -implicitDefEqProofs
 refine yc (yC t.Base 0 10000) ?_
 simp -dsimp -implicitDefEqProofs
 refine ⟨fun h1=>?_,fun h1=>by simp [ya9,h1]⟩
 refine yc (yC t.PerArea 0 100) ?_
 simp -dsimp -implicitDefEqProofs
 refine ⟨fun h2=>?_,fun h2=>by simp [ya9,h2]⟩
 intro hc
 refine ⟨fun h3 hw=>⟨fun h4 _=>⟨fun h5=>?_,fun h5 _=>?_⟩,fun h4=>?_⟩,fun h3=>?_⟩
 ·have : inRange t.Weights.length 1 11 = false:=ycG.2 (by omega)
  simp [ya9,this]
 ·have h3' : t.PerClass.length = 3:=by omega
  have h6 : inRange t.Weights.length 1 11 = true:=yF.2 (by omega)
  refine yg (ι:=Nat) (fun k=>k ≤ t.PerClass.length ∧ ∀ n ∈ t.PerClass.take k,inRange n 0 10000 = true) (fun k=>yO [(1,.box 1 0),(37,.c (.sl 1 (t.PerClass.map yJ))),(38,.c (.i t.PerClass.length)),(39,.c (.i k))] [(1,.box (t.enc.map .c))]) (fun k=>t.PerClass.length - k) 0 (by simp) (by apply yj <;> simp) ?_
  rintro k ⟨hk,hall⟩
  rcases Nat.lt_or_ge k t.PerClass.length with hlt | hge
  ·obtain ⟨e,he⟩ : ∃ e,t.PerClass[k]? = some e:=⟨_,List.getElem?_eq_getElem hlt⟩
   simp -dsimp -implicitDefEqProofs [he,yG hlt]
   refine yc (yC e 0 10000) ?_
   simp -dsimp -implicitDefEqProofs
   refine ⟨fun h1=>by simp [ya9,all_false (p:=fun n=>inRange n 0 10000) he h1],fun h1=>?_⟩
   exact ⟨yw hlt hc,k + 1,⟨by omega,yL (p:=fun n=>inRange n 0 10000) he hall h1⟩,by omega,by apply yj <;> simp⟩
  ·have h7:=yX (p:=fun n=>inRange n 0 10000) hge hall
   simp -dsimp -implicitDefEqProofs [yaB hge]
   intro _
   refine yg (ι:=Nat) (fun k=>k ≤ t.Weights.length ∧ ∀ n ∈ t.Weights.take k,inRange n 0 1000 = true) (fun k=>yO [(5,.c (.i (t.Weights.take k).sum)),(48,.c (.sl 1 (t.Weights.map yJ))),(49,.c (.i t.Weights.length)),(50,.c (.i k))] []) (fun k=>t.Weights.length - k) 0 (by simp) (by apply yj <;> simp) ?_
   rintro k ⟨hk,hall⟩
   rcases Nat.lt_or_ge k t.Weights.length with hlt | hge
   ·obtain ⟨e,he⟩ : ∃ e,t.Weights[k]? = some e:=⟨_,List.getElem?_eq_getElem hlt⟩
    simp -dsimp -implicitDefEqProofs [he,yG hlt]
    refine yc (yC e 0 1000) ?_
    simp -dsimp -implicitDefEqProofs [he,yG hlt]
    refine ⟨fun h1=>by simp [ya9,all_false (p:=fun n=>inRange n 0 1000) he h1],fun h1=>?_⟩
    have hs:=yjC hall
    have hx:=yF.1 h1
    have hl : (t.Weights.take k).length ≤ 11:=by simp; omega
    exact ⟨by unfold inI; omega,yw hlt hw,k + 1,⟨by omega,yL (p:=fun n=>inRange n 0 1000) he hall h1⟩,by omega,by apply yj <;> simp [ypy he]⟩
   ·have h8:=yX (p:=fun n=>inRange n 0 1000) hge hall
    simp -dsimp -implicitDefEqProofs [yaB hge]
    rw [List.take_of_length_le hge]
    simp [ya9,h1,h2,h3',h6,h7,h8]
 ·have : inRange t.Weights.length 1 11 = false:=ycG.2 (by omega)
  simp [ya9,this]
 ·have : ¬ t.PerClass.length = 3:=by omega
  simp [ya9,this]
theorem yre (t : Tariff) : yB Tryz.prog 120 [.agg (t.enc.map .c)] (.c (.b (ya9 t))):=by
 refine yh ynI ?_
 simp -dsimp -implicitDefEqProofs
 refine yc (yD t.Base 0 10000) ?_
 simp -dsimp -implicitDefEqProofs
 refine ⟨fun h1=>?_,fun h1=>by simp [ya9,h1]⟩
 refine yc (yD t.PerArea 0 100) ?_
 simp -dsimp -implicitDefEqProofs
 refine ⟨fun h2=>?_,fun h2=>by simp [ya9,h2]⟩
 intro hc
 refine ⟨fun h3 hw=>?_,fun h3=>?_⟩
 ·have h3' : t.PerClass.length = 3:=by omega
  refine yc (yD t.Weights.length 1 11) ?_
  simp -dsimp -implicitDefEqProofs
  refine ⟨fun h6=>?_,fun h6=>?_⟩
  ·simp [ya9,h6]
  have h6':=yF.1 h6
  refine yg (ι:=Nat) (fun k=>k ≤ t.PerClass.length ∧ ∀ n ∈ t.PerClass.take k,inRange n 0 10000 = true) (fun k=>yO [(1,.box 1 0),(3,.c (.i k))] [(1,.box (t.enc.map .c))]) (fun k=>t.PerClass.length - k) 0 (by simp) (by apply yj <;> simp) ?_
  rintro k ⟨hk,hall⟩
  rcases Nat.lt_or_ge k t.PerClass.length with hlt | hge
  ·obtain ⟨e,he⟩ : ∃ e,t.PerClass[k]? = some e:=⟨_,List.getElem?_eq_getElem hlt⟩
   have hlt3 : ((k : Int) < 3) = True:=by simp; omega
   simp -dsimp -implicitDefEqProofs [he,hlt3,yG hlt]
   refine yc (yD e 0 10000) ?_
   simp -dsimp -implicitDefEqProofs
   refine ⟨fun h1=>by simp [ya9,all_false (p:=fun n=>inRange n 0 10000) he h1],fun h1=>?_⟩
   exact ⟨yw hlt hc,k + 1,⟨by omega,yL (p:=fun n=>inRange n 0 10000) he hall h1⟩,by omega,by apply yj <;> simp⟩
  ·have h7:=yX (p:=fun n=>inRange n 0 10000) hge hall
   have hge3 : ((k : Int) < 3) = False:=by simp; omega
   simp -dsimp -implicitDefEqProofs [hge3]
   refine yg (ι:=Nat) (fun k=>k ≤ t.Weights.length ∧ ∀ n ∈ t.Weights.take k,inRange n 0 1000 = true) (fun k=>yO [(1,.box 1 0),(4,.c (.i (t.Weights.take k).sum)),(5,.c (.i k))] [(1,.box (t.enc.map .c))]) (fun k=>t.Weights.length - k) 0 (by simp) (by apply yj <;> simp) ?_
   rintro k ⟨hk,hall⟩
   rcases Nat.lt_or_ge k t.Weights.length with hlt | hge
   ·obtain ⟨e,he⟩ : ∃ e,t.Weights[k]? = some e:=⟨_,List.getElem?_eq_getElem hlt⟩
    simp -dsimp -implicitDefEqProofs [he,yG hlt]
    intro _
    refine yc (yD e 0 1000) ?_
    simp -dsimp -implicitDefEqProofs [he,yG hlt]
    refine ⟨fun h1=>by simp [ya9,all_false (p:=fun n=>inRange n 0 1000) he h1],fun h1=>?_⟩
    have hs:=yjC hall
    have hx:=yF.1 h1
    have hl : (t.Weights.take k).length ≤ 11:=by simp; omega
    exact ⟨by unfold inI; omega,yw hlt hw,k + 1,⟨by omega,yL (p:=fun n=>inRange n 0 1000) he hall h1⟩,by omega,by apply yj <;> simp [ypy he]⟩
   ·have h8:=yX (p:=fun n=>inRange n 0 1000) hge hall
    simp -dsimp -implicitDefEqProofs [yaB hge]
    rw [List.take_of_length_le hge]
    simp [ya9,h1,h2,h3',h6,h7,h8]
 ·have : ¬ t.PerClass.length = 3:=by omega
  simp [ya9,this]
def marked (mk : Int → List C) (c : Int) (rows : List (List C)) (k : Int) (i : Nat) : List (List C):=(List.range i).map (fun (j : Nat)=>mk (k + c * j)) ++ rows.drop i
theorem ydX {mk : Int → List C} {c : Int} {rows : List (List C)} {k : Int} : marked mk c rows k 0 = rows:=by simp [marked]
theorem yeV {mk : Int → List C} {c : Int} {rows : List (List C)} {k : Int} {i : Nat} (h : i ≤ rows.length) : (marked mk c rows k i).length = rows.length:=by simp [marked]; omega
theorem yeI {mk : Int → List C} {c : Int} {rows : List (List C)} {k : Int} {i : Nat} (h : i = rows.length) : marked mk c rows k i = marked mk c [] k rows.length:=by subst h; simp [marked]
theorem yeR {mk : Int → List C} {c : Int} {rows : List (List C)} {k : Int} {i : Nat} {r : List C} (h : rows[i]? = some r) : (marked mk c rows k i)[i]? = some r:=by
 unfold marked
 rw [List.getElem?_append_right (by simp)]
 simpa using h
theorem ye0 {mk : Int → List C} {c : Int} {rows : List (List C)} {k : Int} {i : Nat} (h : i < rows.length) : (marked mk c rows k i).set i (mk (k + c * i)) = marked mk c rows k (i + 1):=by
 unfold marked
 rw [List.set_append_right _ _ (by simp),List.length_map,List.length_range,Nat.sub_self,List.drop_eq_getElem_cons h,List.set_cons_zero,List.range_succ,List.map_append,List.append_assoc]
 rfl
theorem yfU {mk : Int → List C} {c : Int} {k : Int} {n i : Nat} (h : i < n) : (marked mk c [] k n)[i]? = some (mk (k + c * i)):=by
 unfold marked
 simp [h]
theorem yM {mk : Int → List C} {c : Int} {k : Int} {n : Nat} : (marked mk c [] k n).length = n:=by simp [marked]
theorem yd6 {mk : Int → List C} {c : Int} {k : Int} {n : Nat} : (marked mk c [] k n).take n = marked mk c [] k n:=List.take_of_length_le (by rw [yM]; exact Nat.le_refl _)
theorem ylr (es : List Int) (hl : es.length ≤ 1048576) : ybh Tryz.prog 49 [.c (.sl 1 (es.map yJ))] (.c (.ow 1 (es.map yJ))):=by
 refine yan yjT ?_
 simp -dsimp -implicitDefEqProofs
 intro hlen
 refine ⟨by omega,?_⟩
 refine yg (ι:=Nat) (fun k=>k ≤ es.length) (fun k=>yO [(0,.c (.sl 1 (es.map yJ))),(3,.own 7 1 es.length),(4,.c (.i k))] [(7,.row 1 (partly yJ [.i 0] es k))]) (fun k=>es.length - k) 0 (by simp) (by apply yj <;> simp [yab]) ?_
 rintro k hk
 rcases Nat.lt_or_ge k es.length with hlt | hge
 ·obtain ⟨e,he⟩ : ∃ e,es[k]? = some e:=⟨_,List.getElem?_eq_getElem hlt⟩
  have hs:=yaj (f:=yJ) (z:=[.i 0]) he
  have hd : ((partly yJ [.i 0] es k)[k]?.getD []).set 0 (.i e) = [.i e]:=by
   have:=ydK (f:=yJ) (z:=[.i 0]) (n:=1) rfl (fun _=>rfl) hlt
   obtain ⟨x,hx⟩:=List.length_eq_one_iff.1 this
   rw [hx]; rfl
  simp -dsimp -implicitDefEqProofs [he,yG hlt]
  intro _
  rw [hd,show (partly yJ [.i 0] es k).set k [.i e] = partly yJ [.i 0] es (k + 1) from hs]
  exact ⟨by rw [yak hk]; exact hlt,yw hlt hlen,k + 1,hlt,by omega,by apply yj <;> simp⟩
 ·simp -dsimp -implicitDefEqProofs [yaB hge]
  intro _
  rw [yam hge,List.take_of_length_le (by simp)]
theorem ycr (xs : List Int) (k : Int) (h0 : 0 ≤ k) (h1 : k + xs.length ≤ 8000000000000000000) :
 InF Tryz.prog 62 (.c (cw 1 (xs.map yJ))) (.c (cw 1 (marked yJ 1 [] k xs.length))) [.c (.i k)] (.c (.i (k + xs.length))):=by
 rcases Nat.eq_zero_or_pos xs.length with hx | hx
 ·have : xs = []:=List.length_eq_zero_iff.1 hx
  subst this
  refine ybO yiA (by simp) (by simp) rfl fun hwf=>?_
  simp -dsimp -implicitDefEqProofs [yfw,marked]
  refine yg (ι:=Unit) (fun _=>True) (fun _=>yO [(0,.c (.sl 1 [])),(1,.c (.i k)),(5,.c (.i 0)),(1000000,.c (.sl 1 []))] []) (fun _=>0) () trivial (by apply yj <;> simp) ?_
  rintro _ _
  simp -dsimp -implicitDefEqProofs
 ·rw [yb4 (by simpa using hx),yb4 (by rw [yM]; exact hx)]
  refine ybO yiA (by simp) (by simp) rfl fun hwf=>?_
  simp -dsimp -implicitDefEqProofs [yfw]
  refine yg (ι:=Nat) (fun i=>i ≤ xs.length) (fun i=>yO [(0,.own 0 1 xs.length),(1,.c (.i (k + i))),(5,.c (.i i)),(1000000,.own 0 1 xs.length)] [(0,.row 1 (marked yJ 1 (xs.map yJ) k i))]) (fun i=>xs.length - i) 0 (by simp) (by apply yj <;> simp [ydX]) ?_
  rintro i hi
  rcases Nat.lt_or_ge i xs.length with hlt | hge
  ·obtain ⟨e,he⟩ : ∃ e,xs[i]? = some e:=⟨_,List.getElem?_eq_getElem hlt⟩
   have hg:=yeR (mk:=yJ) (c:=1) (k:=k) (rows:=xs.map yJ) (i:=i) (r:=[.i e]) (by simp [he])
   have hl:=yeV (mk:=yJ) (c:=1) (k:=k) (rows:=xs.map yJ) (i:=i) (by simpa using hi)
   have hs:=ye0 (mk:=yJ) (c:=1) (k:=k) (rows:=xs.map yJ) (i:=i) (by simpa using hlt)
   rw [List.length_map] at hl
   simp only [Int.one_mul,yJ] at hs
   simp -dsimp -implicitDefEqProofs [yG hlt,hg,hl]
   intro hlen
   refine ⟨hlt,by unfold inI; omega,by unfold inI; omega,i + 1,hlt,by omega,?_⟩
   apply yj <;> simp [hs] <;> omega
  ·have : i = xs.length:=by omega
   subst this
   simp -dsimp -implicitDefEqProofs
   intro _
   have e:=yeI (mk:=yJ) (c:=1) (rows:=xs.map yJ) (k:=k) (i:=xs.length) (by simp)
   rw [e,List.length_map,List.take_of_length_le (by rw [yM]; exact Nat.le_refl _)]
theorem yh1 (n : Nat) (k : Int) (h0 : 0 ≤ k) (h1 : k + n ≤ 8000000000000000000) : yB Tryz.prog 74 [.c (.sl 1 (marked yJ 1 [] k n)),.c (.i k)] (.c (.i (k + n))):=by
 refine yh yno ?_
 simp -dsimp -implicitDefEqProofs
 refine yg (ι:=Nat) (fun i=>i ≤ n) (fun i=>yO [(0,.c (.sl 1 (marked yJ 1 [] k n))),(1,.c (.i (k + i))),(5,.c (.i i))] []) (fun i=>n - i) 0 (by simp) (by apply yj <;> simp) ?_
 rintro i hi
 rcases Nat.lt_or_ge i n with hlt | hge
 ·have hg:=yfU (mk:=yJ) (c:=1) (k:=k) hlt
  simp only [Int.one_mul] at hg
  simp -dsimp -implicitDefEqProofs [yM,yG hlt,hg]
  intro hlen
  refine ⟨by unfold inI; omega,by unfold inI; omega,i + 1,hlt,by omega,?_⟩
  apply yj <;> simp <;> omega
 ·have : i = n:=by omega
  subst this
  simp -dsimp -implicitDefEqProofs [yM]
def ybm (a : Int) (f : Int → Int) : Int:=if a < 0 then -1 else f a
def yaw {α : Type} (f : α → Int → Int) : List α → Int → Int
 | [],l=>l
 | x :: xs,l=>ybm (f x l) (yaw f xs)
def yeE {α : Type} (f : α → Int → Int) (xs : List α) (l : Int) : Int:=ybm (szS xs.length l) (yaw f xs)
def yey {α : Type} (f : α → Int → Int) (sm : α → Prop) : Prop:=∀ x l,0 ≤ l → l ≤ 1048576 → f x l = -1 ∨ (0 ≤ f x l ∧ f x l ≤ l ∧ sm x)
def ycs {α : Type} (sm : α → Prop) (xs : List α) : Prop:=xs.length ≤ 1048576 ∧ ∀ x ∈ xs,sm x
theorem yK {a : Int} {f : Int → Int} (h : a < 0) : ybm a f = -1:=by simp [ybm,h]
theorem yu {a : Int} {f : Int → Int} (h : 0 ≤ a) : ybm a f = f a:=by simp [ybm,Int.not_lt.2 h]
theorem yhU {α : Type} : yey (fun (xs : List α) l=>szS xs.length l) (ycs fun _ : α=>True):=by
 intro xs l h0 h1
 simp only [szS]
 unfold ycs
 split
 ·exact .inl rfl
 ·exact .inr ⟨by omega,by omega,by omega,fun _ _=>trivial⟩
theorem yzy {α : Type} {f : α → Int → Int} {sm : α → Prop} (h : yey f sm) {x : α} {l : Int} (h0 : 0 ≤ l) (h1 : l ≤ 1048576) (hp : 0 ≤ f x l) : sm x:=by
 rcases h x l h0 h1 with e | ⟨_,_,e⟩
 ·omega
 ·exact e
theorem yin {α : Type} {f : α → Int → Int} {sm : α → Prop} (h : yey f sm) (x : α) {l : Int} (h0 : 0 ≤ l) (h1 : l ≤ 1048576) (hp : 0 ≤ f x l) : f x l ≤ 1048576:=by
 rcases h x l h0 h1 with e | ⟨_,e,_⟩
 ·omega
 ·omega
theorem yrK {α : Type} {f : α → Int → Int} {sm : α → Prop} (h : yey f sm) : ∀ (xs : List α) (l : Int),0 ≤ l → l ≤ 1048576 → yaw f xs l = -1 ∨ (0 ≤ yaw f xs l ∧ yaw f xs l ≤ l ∧ ∀ x ∈ xs,sm x)
 | [],l,h0,h1=>.inr ⟨h0,Int.le_refl _,by simp⟩
 | x :: xs,l,h0,h1=>by
  simp only [yaw]
  rcases h x l h0 h1 with e | ⟨e1,e2,e3⟩
  ·exact .inl (yK (by omega))
  ·rw [yu e1]
   rcases yrK h xs (f x l) e1 (by omega) with e | ⟨e4,e5,e6⟩
   ·exact .inl e
   ·exact .inr ⟨e4,by omega,by simp; exact ⟨e3,e6⟩⟩
theorem ygj {α : Type} {f : α → Int → Int} {sm : α → Prop} (h : yey f sm) : yey (yeE f) (ycs sm):=by
 intro xs l h0 h1
 unfold yeE
 rcases yhU xs l h0 h1 with e | ⟨e1,e2,e3⟩
 ·exact .inl (yK (by simp only at e; omega))
 ·simp only at e1 e2
  rw [yu e1]
  rcases yrK h xs _ e1 (by omega) with e | ⟨e4,e5,e6⟩
  ·exact .inl e
  ·exact .inr ⟨e4,by omega,e3.1,e6⟩
structure Boat where
 Id : Int
 Length : Int
 Width : Int
 Draught : Int
 Speed : Int
 Class : Int
 deriving DecidableEq,Inhabited
@[simp] def Boat.enc (e : Boat) : List C:=[.i e.Id,.i e.Length,.i e.Width,.i e.Draught,.i e.Speed,.i e.Class]
-- Boat
theorem yud (e : Boat) : yB Tryz.prog 230 [.agg (e.enc.map .c)] (.agg (e.enc.map .c)):=by
 refine yh yq9 ?_
 simp -dsimp -implicitDefEqProofs
theorem yyR (a b : Boat) : yB Tryz.prog 231 [.agg (a.enc.map .c),.agg (b.enc.map .c)] (.c (.b (decide (a = b)))):=by
 refine yh yq1 ?_
 obtain ⟨a0,a1,a2,a3,a4,a5⟩:=a
 obtain ⟨b0,b1,b2,b3,b4,b5⟩:=b
 simp -dsimp -implicitDefEqProofs [yj8,Boat.mk.injEq]
 refine ⟨fun h=>by simp_all,fun h0=>?_⟩
 refine ⟨fun h=>by simp_all,fun h1=>?_⟩
 refine ⟨fun h=>by simp_all,fun h2=>?_⟩
 refine ⟨fun h=>by simp_all,fun h3=>?_⟩
 refine ⟨fun h=>by simp_all,fun h4=>?_⟩
 refine ⟨fun h=>by simp_all,fun h5=>?_⟩
 simp_all
-- []Boat
def yex (xs : List Boat) (l : Int) : Int:=szS xs.length l
def ygC : List Boat → Prop:=ycs fun _=>True
theorem ymH : yey yex ygC:=yhU
theorem yvS (xs : List Boat) (l : Int) (h0 : 0 ≤ l) (h1 : l ≤ 1048576) : yB Tryz.prog 161 [.c (.sl 6 (xs.map Boat.enc)),.c (.i l)] (.c (.i (yex xs l))):=by
 refine yh yoU ?_
 simp -dsimp -implicitDefEqProofs [yi3,yex,szS]
 intro hl
 unfold maxLen at hl
 refine ⟨by unfold inI; omega,fun h=>?_,fun h=>?_⟩ <;> intros <;> omega
theorem yxQ (xs : List Boat) (hl : ygC xs) : yB Tryz.prog 167 [.c (.sl 6 (xs.map Boat.enc))] (.c (.sl 6 (xs.map Boat.enc))):=by
 refine yh yiM ?_
 simp -dsimp -implicitDefEqProofs
 intro hlen
 have hl1:=hl.1
 refine ⟨by omega,?_⟩
 refine yg (ι:=Nat) (fun k=>k ≤ xs.length) (fun k=>yO [(0,.c (.sl 6 (xs.map Boat.enc))),(3,.own 7 6 xs.length),(4,.c (.i k))] [(7,.row 6 (partly Boat.enc [.i 0,.i 0,.i 0,.i 0,.i 0,.i 0] xs k))]) (fun k=>xs.length - k) 0 (by simp) (by apply yj <;> simp [yab]) ?_
 rintro k hk
 rcases Nat.lt_or_ge k xs.length with hlt | hge
 ·obtain ⟨e,he⟩ : ∃ e,xs[k]? = some e:=⟨_,List.getElem?_eq_getElem hlt⟩
  have hs:=yaj (f:=Boat.enc) (z:=[.i 0,.i 0,.i 0,.i 0,.i 0,.i 0]) he
  have hd:=yav (f:=Boat.enc) (z:=[.i 0,.i 0,.i 0,.i 0,.i 0,.i 0]) (n:=6) rfl hlt
  simp only [Boat.enc] at hs
  simp -dsimp -implicitDefEqProofs [he,yG hlt]
  refine fun _=>yaP (yud e ) (by simp) rfl ?_
  simp -dsimp -implicitDefEqProofs [yG hlt,yak hk,hd,hs]
  exact ⟨hlt,yw hlt hlen,k + 1,hlt,by omega,by apply yj <;> simp⟩
 ·simp -dsimp -implicitDefEqProofs [yaB hge]
  intro _
  rw [yam hge,List.take_of_length_le (by simp)]
theorem yxD (es fs : List Boat) : yB Tryz.prog 174 [.c (.sl 6 (es.map Boat.enc)),.c (.sl 6 (fs.map Boat.enc))] (.c (.b (decide (es = fs)))):=by
 refine yh yoL ?_
 simp -dsimp -implicitDefEqProofs
 intro hl1 hl2
 refine ⟨fun h e=>h (by rw [e]),fun hlen=>?_⟩
 have hlen' : es.length = fs.length:=by omega
 refine yg (ι:=Nat) (fun k=>k ≤ es.length ∧ es.take k = fs.take k) (fun k=>yO [(0,.c (.sl 6 (es.map Boat.enc))),(1,.c (.sl 6 (fs.map Boat.enc))),(5,.c (.i k))] []) (fun k=>es.length - k) 0 (by simp) (by apply yj <;> simp) ?_
 rintro k ⟨hk,htk⟩
 rcases Nat.lt_or_ge k es.length with hlt | hge
 ·obtain ⟨e,he⟩ : ∃ e,es[k]? = some e:=⟨_,List.getElem?_eq_getElem hlt⟩
  obtain ⟨f,hf⟩ : ∃ f,fs[k]? = some f:=⟨_,List.getElem?_eq_getElem (by omega)⟩
  simp -dsimp -implicitDefEqProofs [he,hf,yG hlt,yG (hlen' ▸ hlt)]
  intro _
  refine yaC (yyR e f) ?_
  simp -dsimp -implicitDefEqProofs
  refine ⟨fun h=>ybG he hf h,fun h=>⟨yw hlt hl1,k + 1,⟨hlt,yaR he hf htk h⟩,by omega,by apply yj <;> simp⟩⟩
 ·simp -dsimp -implicitDefEqProofs [yaB hge]
  intro _
  exact ybf hge hlen' htk
abbrev yai (xs : List Boat) : List C:=[.sl 6 (xs.map Boat.enc)]
-- [][]Boat
def yeb : List (List Boat) → Int → Int:=yeE yex
def yej : List (List Boat) → Prop:=ycs ygC
theorem ysL : yey yeb yej:=ygj ymH
theorem yt7 (xs : List (List Boat)) (l : Int) (h0 : 0 ≤ l) (h1 : l ≤ 1048576) : yB Tryz.prog 82 [.c (.sl 1 (xs.map yai)),.c (.i l)] (.c (.i (yeb xs l))):=by
 refine yh ynp ?_
 simp -dsimp -implicitDefEqProofs
 intro hl
 have hs : szS xs.length l = if l - xs.length < 0 then -1 else l - xs.length:=rfl
 refine ⟨by unfold maxLen at hl; unfold inI; omega,fun h=>?_,fun h=>?_⟩
 ·simp [yeb,yeE,ybm,hs,h]
 have h' : 0 ≤ l - xs.length:=by omega
 have e0 : yeb xs l = yaw yex xs (l - xs.length):=by
  have : szS xs.length l = l - xs.length:=by rw [hs,if_neg (by omega)]
  simp only [yeb,yeE]
  rw [this,yu h']
 refine yg (ι:=Nat × Int) (fun p=>p.1 ≤ xs.length ∧ 0 ≤ p.2 ∧ p.2 ≤ 1048576 ∧ yaw yex (xs.drop p.1) p.2 = yeb xs l) (fun p=>yO [(0,.c (.sl 1 (xs.map yai))),(1,.c (.i p.2)),(5,.c (.i p.1))] []) (fun p=>xs.length - p.1) (0,l - xs.length) ⟨by simp,h',by simp only; omega,by simp [e0]⟩ (by apply yj <;> simp) ?_
 rintro ⟨k,q⟩ ⟨hk,hq0,hq1,hf⟩
 simp only at hk hq0 hq1 hf
 rcases Nat.lt_or_ge k xs.length with hlt | hge
 ·obtain ⟨e,he⟩ : ∃ e,xs[k]? = some e:=⟨_,List.getElem?_eq_getElem hlt⟩
  have hd : xs.drop k = e :: xs.drop (k + 1):=by
   rw [List.drop_eq_getElem_cons hlt,(List.getElem?_eq_some_iff.1 he).2]
  rw [hd,yaw] at hf
  simp -dsimp -implicitDefEqProofs [he,yG hlt]
  refine fun _=>yaQ (yvS e q hq0 hq1) (by simp) rfl ?_
  simp -dsimp -implicitDefEqProofs
  refine ⟨fun h=>by rw [← hf,yK h],fun h=>⟨yw hlt hl,k + 1,⟨yex e q,?_⟩⟩⟩
  rw [yu h] at hf
  have hle : yex e q ≤ 1048576:=by
   rcases ymH e q hq0 hq1 with e1 | e1
   ·omega
   ·omega
  exact ⟨⟨hlt,h,hle,hf⟩,by omega,by apply yj <;> simp⟩
 ·simp -dsimp -implicitDefEqProofs [yaB hge]
  rw [List.drop_of_length_le hge] at hf
  intro _
  first | simpa [yaw] using hf | simpa [yaw] using hf.symm
theorem ywr (xs : List (List Boat)) (hl : yej xs) : yB Tryz.prog 90 [.c (.sl 1 (xs.map yai))] (.c (.sl 1 (xs.map yai))):=by
 refine yh yim ?_
 simp -dsimp -implicitDefEqProofs
 intro hlen
 have hl1:=hl.1
 refine ⟨by omega,?_⟩
 refine yg (ι:=Nat) (fun k=>k ≤ xs.length) (fun k=>yO [(0,.c (.sl 1 (xs.map yai))),(3,.own 7 1 xs.length),(4,.c (.i k))] [(7,.row 1 (partly yai [.sl 6 []] xs k))]) (fun k=>xs.length - k) 0 (by simp) (by apply yj <;> simp [yab]) ?_
 rintro k hk
 rcases Nat.lt_or_ge k xs.length with hlt | hge
 ·obtain ⟨e,he⟩ : ∃ e,xs[k]? = some e:=⟨_,List.getElem?_eq_getElem hlt⟩
  have hs:=yaj (f:=yai) (z:=[.sl 6 []]) he
  have hd : ((partly yai [.sl 6 []] xs k)[k]?.getD []).set 0 (.sl 6 (e.map Boat.enc)) = [.sl 6 (e.map Boat.enc)]:=by
   have:=ydK (f:=yai) (z:=[.sl 6 []]) (n:=1) rfl (fun _=>rfl) hlt
   obtain ⟨x,hx⟩:=List.length_eq_one_iff.1 this
   rw [hx]; rfl
  have hs2 : (partly yai [.sl 6 []] xs k).set k [.sl 6 (e.map Boat.enc)] = partly yai [.sl 6 []] xs (k + 1):=hs
  simp -dsimp -implicitDefEqProofs [he,yG hlt]
  refine fun _=>yaP (yxQ e (hl.2 e (List.mem_of_getElem? he))) (by simp) rfl ?_
  simp -dsimp -implicitDefEqProofs [yG hlt,yak hk,hd,hs2]
  exact ⟨hlt,yw hlt hlen,k + 1,hlt,by omega,by apply yj <;> simp⟩
 ·simp -dsimp -implicitDefEqProofs [yaB hge]
  intro _
  rw [yam hge,List.take_of_length_le (by simp)]
theorem yvt (es fs : List (List Boat)) : yB Tryz.prog 96 [.c (.sl 1 (es.map yai)),.c (.sl 1 (fs.map yai))] (.c (.b (decide (es = fs)))):=by
 refine yh ync ?_
 simp -dsimp -implicitDefEqProofs
 intro hl1 hl2
 refine ⟨fun h e=>h (by rw [e]),fun hlen=>?_⟩
 have hlen' : es.length = fs.length:=by omega
 refine yg (ι:=Nat) (fun k=>k ≤ es.length ∧ es.take k = fs.take k) (fun k=>yO [(0,.c (.sl 1 (es.map yai))),(1,.c (.sl 1 (fs.map yai))),(5,.c (.i k))] []) (fun k=>es.length - k) 0 (by simp) (by apply yj <;> simp) ?_
 rintro k ⟨hk,htk⟩
 rcases Nat.lt_or_ge k es.length with hlt | hge
 ·obtain ⟨e,he⟩ : ∃ e,es[k]? = some e:=⟨_,List.getElem?_eq_getElem hlt⟩
  obtain ⟨f,hf⟩ : ∃ f,fs[k]? = some f:=⟨_,List.getElem?_eq_getElem (by omega)⟩
  simp -dsimp -implicitDefEqProofs [he,hf,yG hlt,yG (hlen' ▸ hlt)]
  intro _
  refine yaC (yxD e f) ?_
  simp -dsimp -implicitDefEqProofs
  refine ⟨fun h=>ybG he hf h,fun h=>⟨yw hlt hl1,k + 1,⟨hlt,yaR he hf htk h⟩,by omega,by apply yj <;> simp⟩⟩
 ·simp -dsimp -implicitDefEqProofs [yaB hge]
  intro _
  exact ybf hge hlen' htk
structure Train where
 Up : Bool
 Rows : List (List Boat)
 deriving DecidableEq,Inhabited
@[simp] def Train.enc (e : Train) : List C:=[.b e.Up,.sl 1 (e.Rows.map yai)]
-- Train
def yb2 (e : Train) (l : Int) : Int:=ybm (yeb e.Rows l) fun l=>l
def Train.small (e : Train) : Prop:=yej e.Rows
theorem ye7 : yey yb2 Train.small:=by
 intro e l h0 h1
 unfold yb2
 rcases ysL e.Rows _ h0 h1 with e0 | ⟨a0,b0,s0⟩
 ·exact .inl (yK (by omega))
 rw [yu a0]
 exact .inr ⟨a0,by omega,s0⟩
theorem yhF (e : Train) (l : Int) (h0 : 0 ≤ l) (h1 : l ≤ 1048576) : yB Tryz.prog 29 [.agg (e.enc.map .c),.c (.i l)] (.c (.i (yb2 e l))):=by
 refine yh ypX ?_
 simp -dsimp -implicitDefEqProofs
 refine yc (yt7 e.Rows _ h0 h1) ?_
 simp -dsimp -implicitDefEqProofs
 refine ⟨fun h=>by simp [yb2,yK h],fun p0=>?_⟩
 simp [yb2,yu p0]
theorem yjt (e : Train) (hl : Train.small e) : yB Tryz.prog 32 [.agg (e.enc.map .c)] (.agg (e.enc.map .c)):=by
 refine yh yiU ?_
 simp -dsimp -implicitDefEqProofs
 refine yS (ywr e.Rows hl) ?_
 simp -dsimp -implicitDefEqProofs
theorem yjG (a b : Train) : yB Tryz.prog 34 [.agg (a.enc.map .c),.agg (b.enc.map .c)] (.c (.b (decide (a = b)))):=by
 refine yh yoZ ?_
 obtain ⟨a0,a1⟩:=a
 obtain ⟨b0,b1⟩:=b
 simp -dsimp -implicitDefEqProofs [yiE,Train.mk.injEq]
 refine ⟨fun h=>by simp_all,fun h0=>?_⟩
 refine yc (yvt a1 b1) ?_
 simp -dsimp -implicitDefEqProofs
 refine ⟨fun h=>by simp_all,fun h1=>?_⟩
 simp_all
structure Mover where
 Train : Train
 Place : Int
 deriving DecidableEq,Inhabited
@[simp] def Mover.enc (e : Mover) : List C:=[.b e.Train.Up,.sl 1 (e.Train.Rows.map yai),.i e.Place]
-- Mover
def ycV (e : Mover) (l : Int) : Int:=ybm (yb2 e.Train l) fun l=>l
def Mover.small (e : Mover) : Prop:=e.Train.small
theorem ymQ : yey ycV Mover.small:=by
 intro e l h0 h1
 unfold ycV
 rcases ye7 e.Train _ h0 h1 with e0 | ⟨a0,b0,s0⟩
 ·exact .inl (yK (by omega))
 rw [yu a0]
 exact .inr ⟨a0,by omega,s0⟩
theorem yvT (e : Mover) (l : Int) (h0 : 0 ≤ l) (h1 : l ≤ 1048576) : yB Tryz.prog 228 [.agg (e.enc.map .c),.c (.i l)] (.c (.i (ycV e l))):=by
 refine yh ypW ?_
 simp -dsimp -implicitDefEqProofs
 refine yc (yhF e.Train _ h0 h1) ?_
 simp -dsimp -implicitDefEqProofs
 refine ⟨fun h=>by simp [ycV,yK h],fun p0=>?_⟩
 simp [ycV,yu p0]
theorem yyk (e : Mover) (hl : Mover.small e) : yB Tryz.prog 229 [.agg (e.enc.map .c)] (.agg (e.enc.map .c)):=by
 refine yh yiQ ?_
 simp -dsimp -implicitDefEqProofs
 refine yS (yjt e.Train hl) ?_
 simp -dsimp -implicitDefEqProofs
theorem yxY (a b : Mover) : yB Tryz.prog 223 [.agg (a.enc.map .c),.agg (b.enc.map .c)] (.c (.b (decide (a = b)))):=by
 refine yh yoz ?_
 obtain ⟨a0,a1⟩:=a
 obtain ⟨b0,b1⟩:=b
 simp -dsimp -implicitDefEqProofs [yiH,Mover.mk.injEq]
 refine yc (yjG a0 b0) ?_
 simp -dsimp -implicitDefEqProofs
 refine ⟨fun h=>by simp_all,fun h0=>?_⟩
 refine ⟨fun h=>by simp_all,fun h1=>?_⟩
 simp_all
theorem yxA (xs : List Boat) (hl : ygC xs) : ybh Tryz.prog 167 [.c (.sl 6 (xs.map Boat.enc))] (.c (.ow 6 (xs.map Boat.enc))):=by
 refine yan yiM ?_
 simp -dsimp -implicitDefEqProofs
 intro hlen
 have hl1:=hl.1
 refine ⟨by omega,?_⟩
 refine yg (ι:=Nat) (fun k=>k ≤ xs.length) (fun k=>yO [(0,.c (.sl 6 (xs.map Boat.enc))),(3,.own 7 6 xs.length),(4,.c (.i k))] [(7,.row 6 (partly Boat.enc [.i 0,.i 0,.i 0,.i 0,.i 0,.i 0] xs k))]) (fun k=>xs.length - k) 0 (by simp) (by apply yj <;> simp [yab]) ?_
 rintro k hk
 rcases Nat.lt_or_ge k xs.length with hlt | hge
 ·obtain ⟨e,he⟩ : ∃ e,xs[k]? = some e:=⟨_,List.getElem?_eq_getElem hlt⟩
  have hs:=yaj (f:=Boat.enc) (z:=[.i 0,.i 0,.i 0,.i 0,.i 0,.i 0]) he
  have hd:=yav (f:=Boat.enc) (z:=[.i 0,.i 0,.i 0,.i 0,.i 0,.i 0]) (n:=6) rfl hlt
  simp only [Boat.enc] at hs
  simp -dsimp -implicitDefEqProofs [he,yG hlt]
  refine fun _=>yaP (yud e ) (by simp) rfl ?_
  simp -dsimp -implicitDefEqProofs [yG hlt,yak hk,hd,hs]
  exact ⟨hlt,yw hlt hlen,k + 1,hlt,by omega,by apply yj <;> simp⟩
 ·simp -dsimp -implicitDefEqProofs [yaB hge]
  intro _
  rw [yam hge,List.take_of_length_le (by simp)]
theorem yag {α : Type} {f g : α → List C} (h : ∀ x,ybQ (f x) = some (g x)) : ∀ (l : List α),ykv (l.map f) = some (l.map g)
 | []=>rfl
 | x :: l=>by simp [ykv,h x,yag h l]
theorem ydl {α : Type} {f g : α → List C} {k : Nat} (h : ∀ x,ybQ (f x) = some (g x)) (l : List α) : (C.ot k (l.map f)).shr = some (.sl k (l.map g)):=by simp [C.shr,yag h l]
def yT (xs : List Boat) : List C:=[.ow 6 (xs.map Boat.enc)]
theorem yeg (xs : List Boat) : ybQ (yT xs) = some (yai xs):=rfl
theorem yvU (xs : List (List Boat)) (hl : yej xs) : ybh Tryz.prog 90 [.c (.sl 1 (xs.map yai))] (.c (.ot 1 (xs.map yT))):=by
 refine yan yim ?_
 simp -dsimp -implicitDefEqProofs
 intro hlen
 have hl1:=hl.1
 refine ⟨by omega,?_⟩
 refine yg (ι:=Nat) (fun k=>k ≤ xs.length) (fun k=>yO [(0,.c (.sl 1 (xs.map yai))),(3,.own 7 1 xs.length),(4,.c (.i k))] [(7,.tr 1 0 (partly yT [.sl 6 []] xs k))]) (fun k=>xs.length - k) 0 (by simp) (by apply yj <;> simp [yab,Obj.leO]) ?_
 rintro k hk
 rcases Nat.lt_or_ge k xs.length with hlt | hge
 ·obtain ⟨e,he⟩ : ∃ e,xs[k]? = some e:=⟨_,List.getElem?_eq_getElem hlt⟩
  have hs:=yaj (f:=yT) (z:=[.sl 6 []]) he
  have hd : ((partly yT [.sl 6 []] xs k)[k]?.getD []).set 0 (.ow 6 (e.map Boat.enc)) = yT e:=by
   have:=ydK (f:=yT) (z:=[.sl 6 []]) (n:=1) rfl (fun _=>rfl) hlt
   obtain ⟨x,hx⟩:=List.length_eq_one_iff.1 this
   rw [hx]; rfl
  simp -dsimp -implicitDefEqProofs [he,yG hlt]
  intro _
  refine yQ (yxA e (hl.2 e (List.mem_of_getElem? he))) (by simp ) (by simp [AV.closed,AV.ya7,C.closed]) (by simp [yU]) ?_
  simp -dsimp -implicitDefEqProofs [yG hlt,yak hk,yt,setAt,hd,hs]
  exact ⟨hlt,yw hlt hlen,k + 1,hlt,by omega,by apply yj <;> simp [Obj.leO]⟩
 ·simp -dsimp -implicitDefEqProofs [yaB hge]
  intro _
  rw [yam hge,yt]
@[simp] def Train.yI (e : Train) : List C:=[.b e.Up,.ot 1 (e.Rows.map yT)]
theorem Train.yaa (e : Train) : ybQ e.yI = some e.enc:=by simp [Train.yI,ybQ,ydl yeg]
theorem yjE (e : Train) (hl : Train.small e) : ybh Tryz.prog 32 [.agg (e.enc.map .c)] (.agg (e.yI.map .c)):=by
 refine yan yiU ?_
 simp -dsimp -implicitDefEqProofs
 refine yQ (yvU e.Rows hl) (by simp) (by simp [AV.closed,AV.ya7,C.closed,yT]) (by simp [yU]) ?_
 simp -dsimp -implicitDefEqProofs [yt]
def yaA {α : Type} (f : Int → α → List C) (n : α → Nat) : Int → List α → List (List C)
 | _,[]=>[]
 | k,x :: l=>f k x :: yaA f n (k + n x) l
def cnt {α : Type} (n : α → Nat) (l : List α) : Nat:=(l.map n).sum
theorem yH {α : Type} {f : Int → α → List C} {n : α → Nat} : ∀ {l : List α} {k : Int},(yaA f n k l).length = l.length
 | [],_=>rfl
 | x :: l,k=>by simp [yaA,yH (l:=l)]
theorem yrw {α : Type} {f : Int → α → List C} {n : α → Nat} {x : α} : ∀ {l : List α} {k : Int},yaA f n k (l ++ [x]) = yaA f n k l ++ [f (k + cnt n l) x]
 | [],k=>by simp [yaA,cnt]
 | y :: l,k=>by
  simp only [List.cons_append,yaA,yrw (l:=l)]
  simp [cnt,Int.add_assoc]
def ycA {α : Type} (f : Int → α → List C) (g : α → List C) (n : α → Nat) (k : Int) (xs : List α) (i : Nat) : List (List C):=yaA f n k (xs.take i) ++ (xs.drop i).map g
def yaK {α : Type} (n : α → Nat) (xs : List α) (i : Nat) : Nat:=cnt n (xs.take i)
section
variable {α : Type} {f : Int → α → List C} {g : α → List C} {n : α → Nat} {k : Int} {xs : List α} {i : Nat} {x : α}
theorem ya0 : yaK n xs 0 = 0:=rfl
theorem ya1 (h : xs[i]? = some x) : yaK n xs (i + 1) = yaK n xs i + n x:=by
 unfold yaK cnt; rw [List.take_succ,h,List.map_append,List.sum_append]; simp
theorem ybl (h : xs.length ≤ i) : yaK n xs i = cnt n xs:=by unfold yaK; rw [List.take_of_length_le h]
theorem ybS : yaK n xs i ≤ cnt n xs:=by
 unfold yaK cnt
 conv=>rhs; rw [← List.take_append_drop i xs]
 rw [List.map_append,List.sum_append]; omega
theorem ydh : ycA f g n k xs 0 = xs.map g:=by simp [ycA,yaA]
theorem yd1 : (ycA f g n k xs i).length = xs.length:=by
 unfold ycA; rw [List.length_append,yH,List.length_map,← List.length_append,List.take_append_drop]
theorem yd9 (h : xs.length ≤ i) : ycA f g n k xs i = yaA f n k xs:=by
 unfold ycA; rw [List.take_of_length_le h,List.drop_of_length_le h]; simp
theorem yd5 (h : xs[i]? = some x) : (ycA f g n k xs i)[i]? = some (g x):=by
 have hlt:=(List.getElem?_eq_some_iff.1 h).1
 have e : (yaA f n k (xs.take i)).length = i:=by rw [yH,List.length_take]; omega
 unfold ycA
 rw [List.getElem?_append_right (by omega),e,Nat.sub_self,List.getElem?_map,List.getElem?_drop,Nat.add_zero,h]; rfl
theorem yd3 (h : xs[i]? = some x) : (ycA f g n k xs i).set i (f (k + yaK n xs i) x) = ycA f g n k xs (i + 1):=by
 have hlt:=(List.getElem?_eq_some_iff.1 h).1
 have e : (yaA f n k (xs.take i)).length = i:=by rw [yH,List.length_take]; omega
 unfold ycA yaK
 rw [List.set_append_right _ _ (by omega),e,Nat.sub_self,List.drop_eq_getElem_cons hlt,(List.getElem?_eq_some_iff.1 h).2,List.map_cons,List.set_cons_zero,List.take_succ,h]
 simp only [Option.toList_some]
 rw [yrw,List.append_assoc]; rfl
end
theorem yfH {α : Type} {f : Int → α → List C} {n : α → Nat} : ∀ {xs : List α} {k : Int} {i : Nat} {x : α},xs[i]? = some x → (yaA f n k xs)[i]? = some (f (k + yaK n xs i) x)
 | y :: l,k,0,x,h=>by simp at h; subst h; simp [yaA,yaK,cnt]
 | y :: l,k,i + 1,x,h=>by
  simp only [yaA,List.getElem?_cons_succ]
  rw [yfH (xs:=l) (k:=k + n y) (i:=i) (x:=x) (by simpa using h)]
  congr 2
  unfold yaK cnt
  simp only [List.take_succ_cons,List.map_cons,List.sum_cons,Int.natCast_add]; omega
def mkB (k : Int) : List C:=[.i k,.i (k + 1),.i (k + 1 + 1),.i (k + 1 + 1 + 1),.i (k + 1 + 1 + 1 + 1),.i (k + 1 + 1 + 1 + 1 + 1)]
theorem yvd (xs : List Boat) (k : Int) (h0 : 0 ≤ k) (h1 : k + 6 * xs.length ≤ 8000000000000000000) :
 InF Tryz.prog 175 (.c (cw 6 (xs.map Boat.enc))) (.c (cw 6 (marked mkB 6 [] k xs.length))) [.c (.i k)] (.c (.i (k + 6 * xs.length))):=by
 rcases Nat.eq_zero_or_pos xs.length with hx | hx
 ·have : xs = []:=List.length_eq_zero_iff.1 hx
  subst this
  refine ybO yhb (by simp) (by simp) rfl fun hwf=>?_
  simp -dsimp -implicitDefEqProofs [yeO,marked]
  refine yg (ι:=Unit) (fun _=>True) (fun _=>yO [(0,.c (.sl 6 [])),(1,.c (.i k)),(5,.c (.i 0)),(1000000,.c (.sl 6 []))] []) (fun _=>0) () trivial (by apply yj <;> simp) ?_
  rintro _ _
  simp -dsimp -implicitDefEqProofs
 ·rw [yb4 (by simpa using hx),yb4 (by rw [yM]; exact hx)]
  refine ybO yhb (by simp) (by simp) rfl fun hwf=>?_
  simp -dsimp -implicitDefEqProofs [yeO]
  refine yg (ι:=Nat) (fun i=>i ≤ xs.length) (fun i=>yO [(0,.own 0 6 xs.length),(1,.c (.i (k + 6 * i))),(5,.c (.i i)),(1000000,.own 0 6 xs.length)] [(0,.row 6 (marked mkB 6 (xs.map Boat.enc) k i))]) (fun i=>xs.length - i) 0 (by simp) (by apply yj <;> simp [ydX]) ?_
  rintro i hi
  rcases Nat.lt_or_ge i xs.length with hlt | hge
  ·obtain ⟨e,he⟩ : ∃ e,xs[i]? = some e:=⟨_,List.getElem?_eq_getElem hlt⟩
   have hg:=yeR (mk:=mkB) (c:=6) (k:=k) (rows:=xs.map Boat.enc) (i:=i) (r:=e.enc) (by simp [he])
   have hl:=yeV (mk:=mkB) (c:=6) (k:=k) (rows:=xs.map Boat.enc) (i:=i) (by simpa using hi)
   have hs:=ye0 (mk:=mkB) (c:=6) (k:=k) (rows:=xs.map Boat.enc) (i:=i) (by simpa using hlt)
   rw [List.length_map] at hl
   generalize marked mkB 6 (xs.map Boat.enc) k i = M at *
   have hlt2 : i < M.length:=by omega
   have hself : ∀ a,(M.set i a)[i]? = some a:=fun a=>List.getElem?_set_self hlt2
   simp only [mkB] at hs
   simp only [Boat.enc] at hg
   simp -dsimp -implicitDefEqProofs [yG hlt,hg,hl,hlt2,hself]
   intro hlen
   refine ⟨hlt,by unfold inI; omega,hlt,by unfold inI; omega,hlt,by unfold inI; omega,hlt,by unfold inI; omega,hlt,by unfold inI; omega,hlt,by unfold inI; omega,by unfold inI; omega,i + 1,hlt,by omega,?_⟩
   apply yj <;> simp [hs,hself] <;> omega
  ·have : i = xs.length:=by omega
   subst this
   simp -dsimp -implicitDefEqProofs
   intro _
   have e:=yeI (mk:=mkB) (c:=6) (rows:=xs.map Boat.enc) (k:=k) (i:=xs.length) (by simp)
   rw [e,List.length_map,List.take_of_length_le (by rw [yM]; exact Nat.le_refl _)]
def nB (r : List Boat) : Nat:=6 * r.length
def fB (k : Int) (r : List Boat) : List C:=[.ow 6 (marked mkB 6 [] k r.length)]
theorem yfJ (xs : List (List Boat)) (k : Int) (h0 : 0 ≤ k) (h1 : k + cnt nB xs ≤ 8000000000000000000) :
 InF Tryz.prog 97 (.c (ct 1 (xs.map yT))) (.c (ct 1 (yaA fB nB k xs))) [.c (.i k)] (.c (.i (k + cnt nB xs))):=by
 rcases Nat.eq_zero_or_pos xs.length with hx | hx
 ·have : xs = []:=List.length_eq_zero_iff.1 hx
  subst this
  refine ybO ygG (by simp) (by simp) rfl fun hwf=>?_
  simp -dsimp -implicitDefEqProofs [yem,yaA,cnt]
  refine yg (ι:=Unit) (fun _=>True) (fun _=>yO [(0,.c (.sl 1 [])),(1,.c (.i k)),(5,.c (.i 0)),(1000000,.c (.sl 1 []))] []) (fun _=>0) () trivial (by apply yj <;> simp) ?_
  rintro _ _
  simp -dsimp -implicitDefEqProofs
 ·rw [ycP (by simpa using hx),ycP (by rw [yH]; exact hx)]
  refine ybO ygG (by simp) (by simp) rfl fun hwf=>?_
  simp -dsimp -implicitDefEqProofs [yem]
  refine yg (ι:=Nat) (fun i=>i ≤ xs.length) (fun i=>yO [(0,.own 0 1 xs.length),(1,.c (.i (k + yaK nB xs i))),(5,.c (.i i)),(1000000,.own 0 1 xs.length)] [(0,.tr 1 0 (ycA fB yT nB k xs i))]) (fun i=>xs.length - i) 0 (by simp) (by apply yj <;> simp [ydh,ya0,Obj.leO]) ?_
  rintro i hi
  rcases Nat.lt_or_ge i xs.length with hlt | hge
  ·obtain ⟨e,he⟩ : ∃ e,xs[i]? = some e:=⟨_,List.getElem?_eq_getElem hlt⟩
   have hg:=yd5 (f:=fB) (g:=yT) (n:=nB) (k:=k) he
   have hl:=yd1 (f:=fB) (g:=yT) (n:=nB) (k:=k) (xs:=xs) (i:=i)
   have hs:=yd3 (f:=fB) (g:=yT) (n:=nB) (k:=k) he
   have hc:=ya1 (n:=nB) he
   have hle:=ybS (n:=nB) (xs:=xs) (i:=i + 1)
   have hn : nB e = 6 * e.length:=rfl
   generalize hM : ycA fB yT nB k xs i = M at *
   have hlt2 : i < M.length:=by omega
   have g1 : M[i] = yT e:=(List.getElem?_eq_some_iff.1 hg).2
   have hself : ∀ a,(M.set i a)[i]? = some a:=fun a=>List.getElem?_set_self hlt2
   simp -dsimp -implicitDefEqProofs [yG hlt,hg,hl,hlt2,g1,yT]
   intro hlen
   refine ⟨hlt,yb3 (k0:=1) (ver:=0) (j:=0) (i:=(i : Int)) (rows:=M) (r:=yT e) (c:=.ow 6 (e.map Boat.enc)) (c':=.ow 6 (marked mkB 6 [] (k + yaK nB xs i) e.length)) (yvd e (k + yaK nB xs i) (by omega) (by omega)) (by simp) rfl rfl rfl (by simpa using hg) rfl ⟨_,by rw [yM]; simp,rfl,rfl,rfl⟩ (by simp [C.sz]) ?_⟩
   have e0 : (yT e).set 0 (.ow 6 (marked mkB 6 [] (k + yaK nB xs i) e.length)) = fB (k + yaK nB xs i) e:=rfl
   rw [e0]
   simp -dsimp -implicitDefEqProofs
   refine ⟨yw hlt hlen,i + 1,hlt,by omega,?_⟩
   apply yj <;> simp [Obj.leO,hs] <;> omega
  ·have : i = xs.length:=by omega
   subst this
   simp -dsimp -implicitDefEqProofs
   intro _
   rw [yd9 (Nat.le_refl _),ybl (Nat.le_refl _),List.take_of_length_le (by rw [yH]; exact Nat.le_refl _)]
   exact ⟨rfl,rfl⟩
theorem yvh {α : Type} {B : Nat} : ∀ {l : List (List α)},(∀ r ∈ l,r.length ≤ B) → l.flatten.length ≤ l.length * B
 | [],_=>by simp
 | r :: l,h=>by
  have h1:=yvh (l:=l) fun x hx=>h x (by simp [hx])
  have h2:=h r (by simp)
  simp only [List.flatten_cons,List.length_append,List.length_cons,Nat.add_mul,Nat.one_mul]
  omega
def heads {α : Type} (l : List (List α)) (k : Nat) : List α:=(l.take k).flatten
theorem yeU {α : Type} {l : List (List α)} : heads l 0 = []:=rfl
theorem yhH {α : Type} {l : List (List α)} {k : Nat} {r : List α} (h : l[k]? = some r) : heads l (k + 1) = heads l k ++ r:=by
 unfold heads; rw [List.take_succ,h]; simp
theorem yjI {α : Type} {l : List (List α)} {k : Nat} (h : l.length ≤ k) : heads l k = l.flatten:=by
 unfold heads; rw [List.take_of_length_le h]
theorem yi0 {α : Type} {l : List (List α)} (h : ycs (ycs fun _ : α=>True) l) (k : Nat) : (heads l k).length ≤ 1099511627776:=by
 have h1:=yvh (l:=l.take k) (B:=1048576) fun r hr=>(h.2 r (List.mem_of_mem_take hr)).1
 have h2:=h.1
 have h3 : (l.take k).length ≤ 1048576:=by simp; omega
 have h4:=Nat.mul_le_mul_right 1048576 h3
 unfold heads
 omega
def Train.yas (t : Train) : List Boat:=t.Rows.flatten
theorem yzj {t : Train} (h : t.small) : t.yas.length ≤ 1099511627776:=by
 have:=yi0 h t.Rows.length
 rwa [yjI (Nat.le_refl _)] at this
theorem yoX (t : Train) (h : t.small) : yB Tryz.prog 162 [.agg (t.enc.map .c)] (.c (.sl 6 (t.yas.map Boat.enc))):=by
 refine yh ynj ?_
 simp -dsimp -implicitDefEqProofs
 refine yg (ι:=Nat) (fun k=>k ≤ t.Rows.length) (fun k=>yO [(1,.box 1 0),(3,.own 5 6 (heads t.Rows k).length),(4,.c (.i k))] [(1,.box (t.enc.map .c)),(5,.row 6 ((heads t.Rows k).map Boat.enc))]) (fun k=>t.Rows.length - k) 0 (by simp) (by apply yj <;> simp [yeU]) ?_
 rintro k hk
 rcases Nat.lt_or_ge k t.Rows.length with hlt | hge
 ·obtain ⟨r,hr⟩ : ∃ r,t.Rows[k]? = some r:=⟨_,List.getElem?_eq_getElem hlt⟩
  have hb:=yi0 h (k + 1)
  have hf:=yhH hr
  rw [hf,List.length_append] at hb
  have hm:=h.1
  simp -dsimp -implicitDefEqProofs [hr,yG hlt]
  intro hlen
  refine ⟨by omega,yw hlt hlen,k + 1,hlt,by omega,?_⟩
  apply yj <;> simp [hf]
 ·simp -dsimp -implicitDefEqProofs [yaB hge]
  rw [yjI hge]
  intro _
  rw [List.take_of_length_le (by rw [List.length_map]; exact Nat.le_refl _)]; rfl
def ybr (b : Boat) : Bool:=inRange b.Id 1 9999 && inRange b.Length 1 200 && inRange b.Width 1 30 && inRange b.Draught 1 100 && inRange b.Speed 1 50 && inRange b.Class 0 2
theorem yvm (b : Boat) : yB Tryz.prog 163 [.agg (b.enc.map .c)] (.c (.b (ybr b))):=by
 refine yh yrf ?_
 simp -dsimp -implicitDefEqProofs
 refine yc (yD b.Id 1 9999) ?_
 simp -dsimp -implicitDefEqProofs
 refine ⟨fun h=>?_,fun h=>by simp [ybr,h]⟩
 refine yc (yD b.Length 1 200) ?_
 simp -dsimp -implicitDefEqProofs
 refine ⟨fun h1=>?_,fun h1=>by simp [ybr,h1]⟩
 refine yc (yD b.Width 1 30) ?_
 simp -dsimp -implicitDefEqProofs
 refine ⟨fun h2=>?_,fun h1=>by simp [ybr,h1]⟩
 refine yc (yD b.Draught 1 100) ?_
 simp -dsimp -implicitDefEqProofs
 refine ⟨fun h3=>?_,fun h1=>by simp [ybr,h1]⟩
 refine yc (yD b.Speed 1 50) ?_
 simp -dsimp -implicitDefEqProofs
 refine ⟨fun h4=>?_,fun h1=>by simp [ybr,h1]⟩
 refine yc (yD b.Class 0 2) ?_
 simp -dsimp -implicitDefEqProofs
 simp [ybr,h,h1,h2,h3,h4]
theorem yuc (b : Boat) : yB Tryz.prog 168 [.agg (b.enc.map .c)] (.c (.b (ybr b))):=by
 refine yh yqo ?_
 simp -dsimp -implicitDefEqProofs
 refine yc (yC b.Id 1 9999) ?_
 simp -dsimp -implicitDefEqProofs
 refine ⟨fun h=>?_,fun h=>by simp [ybr,h]⟩
 refine yc (yC b.Length 1 200) ?_
 simp -dsimp -implicitDefEqProofs
 refine ⟨fun h1=>?_,fun h1=>by simp [ybr,h1]⟩
 refine yc (yC b.Width 1 30) ?_
 simp -dsimp -implicitDefEqProofs
 refine ⟨fun h2=>?_,fun h1=>by simp [ybr,h1]⟩
 refine yc (yC b.Draught 1 100) ?_
 simp -dsimp -implicitDefEqProofs
 refine ⟨fun h3=>?_,fun h1=>by simp [ybr,h1]⟩
 refine yc (yC b.Speed 1 50) ?_
 simp -dsimp -implicitDefEqProofs
 refine ⟨fun h4=>?_,fun h1=>by simp [ybr,h1]⟩
 refine yc (yC b.Class 0 2) ?_
 simp -dsimp -implicitDefEqProofs
 simp [ybr,h,h1,h2,h3,h4]
def indexOf (l : List Int) (n : Int) : Int:=match l.findIdx? (fun x=>n == x) with | some i=>i | none=>-1
theorem yph {l : List Int} {n : Int} : (0 ≤ indexOf l n) = (n ∈ l):=by
 unfold indexOf
 cases h : l.findIdx? (fun x=>n == x) with
 | none =>
  rw [List.findIdx?_eq_none_iff] at h
  show (0 ≤ (-1 : Int)) = _
  simp only [eq_iff_iff]
  refine ⟨fun h1=>by omega,fun hm=>?_⟩
  have:=h n hm
  simp at this
 | some i =>
  rw [List.findIdx?_eq_some_iff_getElem] at h
  obtain ⟨hi,h1,_⟩:=h
  simp only [eq_iff_iff]
  refine ⟨fun _=>?_,fun _=>by omega⟩
  have : n = l[i]:=by simpa using h1
  rw [this]; exact List.getElem_mem _
theorem yww {l : List Int} {n : Int} {k : Nat} (h : l[k]? = some n) (hn : ∀ x ∈ l.take k,n ≠ x) : indexOf l n = k:=by
 unfold indexOf
 have : l.findIdx? (fun x=>n == x) = some k:=by
  rw [List.findIdx?_eq_some_iff_getElem]
  obtain ⟨hk1,hk2⟩:=List.getElem?_eq_some_iff.1 h
  refine ⟨hk1,by simp [hk2],fun j hj=>?_⟩
  have:=hn (l[j]'(by omega)) (List.mem_take_iff_getElem.2 ⟨j,by omega,rfl⟩)
  simpa using this
 rw [this]
theorem yv9 {l : List Int} {n : Int} {k : Nat} (hk : l.length ≤ k) (hn : ∀ x ∈ l.take k,n ≠ x) : indexOf l n = -1:=by
 rw [List.take_of_length_le hk] at hn
 unfold indexOf
 have : l.findIdx? (fun x=>n == x) = none:=by
  rw [List.findIdx?_eq_none_iff]
  intro x hx
  simpa using hn x hx
 rw [this]
theorem yzA {l : List Int} {n x : Int} {k : Nat} (h : l[k]? = some x) (hx : n ≠ x) (hn : ∀ x ∈ l.take k,n ≠ x) : ∀ x ∈ l.take (k + 1),n ≠ x:=by
 intro y hy
 rw [List.take_succ,h] at hy
 rcases List.mem_append.1 hy with h1 | h1
 ·exact hn y h1
 ·simp at h1; rw [h1]; exact hx
theorem yBu (l : List Int) (n : Int) : yB Tryz.prog 170 [.c (.sl 1 (l.map yJ)),.c (.i n)] (.c (.i (indexOf l n))):=by
 refine yh ygi ?_
 simp -dsimp -implicitDefEqProofs
 intro hlen
 refine yg (ι:=Nat) (fun k=>k ≤ l.length ∧ ∀ x ∈ l.take k,n ≠ x) (fun k=>yO [(0,.c (.sl 1 (l.map yJ))),(1,.c (.i n)),(7,.c (.i l.length)),(8,.c (.i k))] []) (fun k=>l.length - k) 0 (by simp) (by apply yj <;> simp) ?_
 rintro k ⟨hk,hn⟩
 rcases Nat.lt_or_ge k l.length with hlt | hge
 ·obtain ⟨x,hx⟩ : ∃ x,l[k]? = some x:=⟨_,List.getElem?_eq_getElem hlt⟩
  simp -dsimp -implicitDefEqProofs [hx,yG hlt]
  refine ⟨fun h=>?_,fun h=>⟨yw hlt hlen,k + 1,⟨hlt,yzA hx h hn⟩,by omega,by apply yj <;> simp⟩⟩
  exact yww (h ▸ hx) hn
 ·simp -dsimp -implicitDefEqProofs [yaB hge]
  exact yv9 hge hn
theorem ypJ (l : List Int) (n : Int) : yB Tryz.prog 93 [.c (.sl 1 (l.map yJ)),.c (.i n)] (.c (.b (decide (n ∈ l)))):=by
 refine yh yfu ?_
 simp -dsimp -implicitDefEqProofs
 refine yc (yBu l n) ?_
 simp -dsimp -implicitDefEqProofs [yph]
def yfy (b : Boat) : Int:=b.Id
def full (r : List Boat) : Bool:=decide (r.length ≠ 0)
theorem ytQ {r : List Boat} : full r = true ↔ r.length ≠ 0:=by simp [full]
def yP (t : Train) : Bool:=t.Rows.all full && t.yas.all ybr && decide ((t.yas.map yfy).Nodup) && inRange t.yas.length 1 6
theorem ykm {l : List Boat} {k : Nat} {b : Boat} (h : l[k]? = some b) : (((l.take (k + 1)).map yfy).Nodup ↔ ((l.take k).map yfy).Nodup ∧ b.Id ∉ (l.take k).map yfy):=by
 rw [List.take_succ,h,List.map_append]
 simp only [Option.toList_some,List.map_cons,List.map_nil,List.nodup_append,List.nodup_cons,List.not_mem_nil,not_false_eq_true,List.nodup_nil,and_self,true_and,List.mem_singleton,forall_eq,yfy]
 constructor
 ·rintro ⟨h1,h2⟩; exact ⟨h1,fun hm=>h2 _ hm rfl⟩
 ·rintro ⟨h1,h2⟩; exact ⟨h1,fun x hx e=>h2 (e ▸ hx)⟩
theorem yyf {l : List Boat} {k : Nat} (h : ¬ ((l.take k).map yfy).Nodup) : ¬ (l.map yfy).Nodup:=by
 intro hn
 refine h ?_
 rw [← List.take_append_drop k l,List.map_append] at hn
 exact (List.nodup_append.1 hn).1
def yry (l : List Boat) (k : Nat) : List Int:=(l.take k).map yfy
theorem yds (t : Train) (h : t.small) : yB Tryz.prog 83 [.agg (t.enc.map .c)] (.c (.b (yP t))):=by
 refine yh yoi ?_
 simp -dsimp -implicitDefEqProofs
 refine yS (yoX t h) ?_
 simp -dsimp -implicitDefEqProofs
 refine yg (ι:=Nat) (fun k=>k ≤ t.Rows.length ∧ ∀ r ∈ t.Rows.take k,full r = true) (fun k=>yO [(1,.box 1 0),(3,.c (.sl 6 (t.yas.map Boat.enc))),(4,.c (.i k))] [(1,.box (t.enc.map .c))]) (fun k=>t.Rows.length - k) 0 (by simp) (by apply yj <;> simp) ?_
 rintro k ⟨hk,hall⟩
 rcases Nat.lt_or_ge k t.Rows.length with hlt | hge
 ·obtain ⟨r,hr⟩ : ∃ r,t.Rows[k]? = some r:=⟨_,List.getElem?_eq_getElem hlt⟩
  simp -dsimp -implicitDefEqProofs [hr,yG hlt]
  intro hlen _
  refine ⟨fun h0=>?_,fun h0=>?_⟩
  ·have : t.Rows.all full = false:=all_false (p:=full) hr (by simp [full,h0])
   simp only [yP,this,Bool.false_and]
  ·exact ⟨yw hlt hlen,k + 1,⟨by omega,yL (p:=full) hr hall (by simp [full,h0])⟩,by omega,by apply yj <;> simp⟩
 ·have hrows:=yX (p:=full) hge hall
  simp -dsimp -implicitDefEqProofs [yaB hge]
  intro _
  have hbl:=yzj h
  refine yg (ι:=Nat) (fun k=>k ≤ t.yas.length ∧ (∀ b ∈ t.yas.take k,ybr b = true) ∧ (yry t.yas k).Nodup) (fun k=>yO [(3,.c (.sl 6 (t.yas.map Boat.enc))),(5,.c (.i k))] []) (fun k=>t.yas.length - k) 0 (by simp [yry]) (by apply yj <;> simp) ?_
  rintro k ⟨hk,hok,hnd⟩
  have fin : t.yas.length ≤ 6 → k = t.yas.length → yP t = inRange t.yas.length 1 6:=by
   intro h6 e
   have h1:=yX (p:=ybr) (by omega) hok
   rw [e,yry,List.take_length] at hnd
   simp [yP,hrows,h1,hnd]
  rcases Nat.lt_or_ge k t.yas.length with hlt | hge
  ·obtain ⟨b,hb⟩ : ∃ b,t.yas[k]? = some b:=⟨_,List.getElem?_eq_getElem hlt⟩
   by_cases h6 : t.yas.length ≤ 6
   ·have h6' : ((t.yas.length : Int) ≤ 6) = True:=by simp; omega
    simp -dsimp -implicitDefEqProofs [hb,yG hlt,h6']
    intro hlen
    refine yc (yvm b) ?_
    simp -dsimp -implicitDefEqProofs
    refine ⟨fun h1=>?_,fun h1=>?_⟩
    ·have : t.yas.all ybr = false:=all_false (p:=ybr) hb h1
     simp only [yP,this,Bool.false_and,Bool.and_false]
    have hok':=yL (p:=ybr) hb hok h1
    refine yg (ι:=Nat) (fun i=>i ≤ k ∧ b.Id ∉ yry t.yas i) (fun i=>yO [(3,.c (.sl 6 (t.yas.map Boat.enc))),(5,.c (.i k)),(6,.c (.i i))] []) (fun i=>k - i) 0 (by simp [yry]) (by apply yj <;> simp) ?_
    rintro i ⟨hi,hni⟩
    rcases Nat.lt_or_ge i k with hlt2 | hge2
    ·obtain ⟨c,hc⟩ : ∃ c,t.yas[i]? = some c:=⟨_,List.getElem?_eq_getElem (by omega)⟩
     have hi3 : (i : Int) < t.yas.length:=by omega
     simp -dsimp -implicitDefEqProofs [hb,hc,yG hlt,yG hlt2,hi3]
     refine ⟨fun h2=>?_,fun h2=>?_⟩
     ·have : ¬ (t.yas.map yfy).Nodup:=by
       refine yyf (k:=k + 1) fun hn=>?_
       refine ((ykm hb).1 hn).2 ?_
       rw [← h2]
       exact List.mem_map.2 ⟨c,List.mem_iff_getElem?.2 ⟨i,by rw [List.getElem?_take,if_pos hlt2]; exact hc⟩,rfl⟩
      simp [yP,this]
     ·refine ⟨by unfold inI; omega,i + 1,⟨hlt2,?_⟩,by omega,by apply yj <;> simp⟩
      rw [yry,List.take_succ,hc,List.map_append]
      simp only [List.mem_append,Option.toList_some,List.map_cons,List.map_nil,List.mem_singleton,yfy]
      rintro (h3 | h3)
      ·exact hni h3
      ·exact h2 h3.symm
    ·simp -dsimp -implicitDefEqProofs [yaB hge2]
     have e : i = k:=by omega
     rw [e] at hni
     exact ⟨by unfold inI; omega,k + 1,⟨hlt,hok',(ykm hb).2 ⟨hnd,hni⟩⟩,by omega,by apply yj <;> simp⟩
   ·have h6' : ((t.yas.length : Int) ≤ 6) = False:=by simp; omega
    simp -dsimp -implicitDefEqProofs [hb,yG hlt,h6']
    intro hlen
    refine yc (yD t.yas.length 1 6) ?_
    simp -dsimp -implicitDefEqProofs
    have h7 : inRange t.yas.length 1 6 = false:=ycG.2 (by omega)
    simp only [yP,h7,Bool.and_false]
  ·simp -dsimp -implicitDefEqProofs [yaB hge]
   intro hlen
   refine yc (yD t.yas.length 1 6) ?_
   simp -dsimp -implicitDefEqProofs
   by_cases h6 : t.yas.length ≤ 6
   ·rw [fin h6 (by omega)]
   ·have h7 : inRange t.yas.length 1 6 = false:=ycG.2 (by omega)
    simp only [yP,h7,Bool.and_false]
theorem yvl {t : Train} {k : Nat} {r : List Boat} (h : t.Rows[k]? = some r) : ∃ m,t.yas = heads t.Rows k ++ r ++ m:=by
 refine ⟨(t.Rows.drop (k + 1)).flatten,?_⟩
 unfold Train.yas
 conv=>lhs; rw [← List.take_append_drop (k + 1) t.Rows]
 rw [List.flatten_append,← yhH h]; rfl
theorem yBC {t : Train} {k : Nat} {r : List Boat} (h : t.Rows[k]? = some r) (h0 : r.length = 0) : yP t = false:=by
 have : t.Rows.all full = false:=all_false (p:=full) h (by simp [full,h0])
 simp only [yP,this,Bool.false_and]
theorem yD8 {t : Train} (h : 6 < t.yas.length) : yP t = false:=by
 have h7 : inRange t.yas.length 1 6 = false:=ycG.2 (by omega)
 simp only [yP,h7,Bool.and_false]
theorem yBq {t : Train} {b : Boat} (hb : b ∈ t.yas) (h : ybr b = false) : yP t = false:=by
 obtain ⟨i,hi⟩:=List.getElem?_of_mem hb
 have : t.yas.all ybr = false:=all_false (p:=ybr) hi h
 simp only [yP,this,Bool.false_and,Bool.and_false]
theorem yEq {t : Train} (h : ¬ (t.yas.map yfy).Nodup) : yP t = false:=by simp [yP,h]
def yfA (l : List Boat) : List (List C):=(l.map yfy).map yJ ++ List.replicate (6 - l.length) [.i 0]
theorem yzV {l : List Boat} (h : l.length ≤ 6) : (yfA l).length = 6:=by simp [yfA]; omega
theorem yyx {l : List Boat} {n : Nat} (h : n = l.length) : (yfA l).take n = (l.map yfy).map yJ:=by
 subst h; unfold yfA; rw [List.take_append_of_le_length (by simp),List.take_of_length_le (by simp)]
theorem yyK {l : List Boat} {b : Boat} (h : l.length < 6) : (yfA l).set l.length [.i b.Id] = yfA (l ++ [b]):=by
 unfold yfA
 rw [List.set_append_right _ _ (by simp)]
 have h1 : ((l.map yfy).map yJ).length = l.length:=by simp
 rw [h1,Nat.sub_self,show 6 - l.length = (6 - (l.length + 1)) + 1 by omega,List.replicate_succ,List.set_cons_zero]
 simp [yfy]
theorem yzC {l : List Boat} (h : l.length < 6) : (yfA l)[l.length]?.getD [] = [.i 0]:=by
 unfold yfA
 rw [List.getElem?_append_right (by simp)]
 have h1 : ((l.map yfy).map yJ).length = l.length:=by simp
 rw [h1,Nat.sub_self,List.getElem?_replicate,if_pos (by omega)]; rfl
theorem yzu : yfA [] = List.replicate 6 [.i 0]:=rfl
structure Met (l : List Boat) : Prop where
 ok : ∀ b ∈ l,ybr b = true
 nd : (l.map yfy).Nodup
 len : l.length ≤ 6
theorem Met.snoc {l : List Boat} {b : Boat} (h : Met l) (h1 : ybr b = true) (h2 : b.Id ∉ l.map yfy) (h3 : l.length < 6) : Met (l ++ [b]):=by
 refine ⟨?_,?_,by simp; omega⟩
 ·intro x hx
  rcases List.mem_append.1 hx with hx | hx
  ·exact h.ok x hx
  ·rw [List.mem_singleton.1 hx]; exact h1
 ·have:=@ykm (l ++ [b]) l.length b (by simp)
  rw [show l.length + 1 = (l ++ [b]).length by simp,List.take_length] at this
  rw [this,List.take_left']
  ·exact ⟨h.nd,h2⟩
  ·rfl
def yfe (t : Train) (k : Nat) (r : List Boat) (j : Nat) : List Boat:=heads t.Rows k ++ r.take j
theorem yoG {t : Train} {k : Nat} {r : List Boat} : yfe t k r 0 = heads t.Rows k:=by simp [yfe]
theorem yvY {t : Train} {k : Nat} {r : List Boat} {j : Nat} {b : Boat} (h : r[j]? = some b) : yfe t k r (j + 1) = yfe t k r j ++ [b]:=by
 unfold yfe; rw [List.take_succ,h]; simp
theorem yrL {t : Train} {k : Nat} {r : List Boat} {j : Nat} (hr : t.Rows[k]? = some r) (h : r.length ≤ j) : yfe t k r j = heads t.Rows (k + 1):=by
 unfold yfe; rw [List.take_of_length_le h,yhH hr]
theorem yxV {t : Train} {k : Nat} {r : List Boat} {j : Nat} (h : j ≤ r.length) : (yfe t k r j).length = (heads t.Rows k).length + j:=by
 unfold yfe; simp; omega
theorem ydp (t : Train) (h : t.small) : yB Tryz.prog 91 [.agg (t.enc.map .c)] (.c (.b (yP t))):=by
 refine yh yoE ?_
 simp -dsimp -implicitDefEqProofs
 intro hlen
 refine ⟨fun h0 _=>⟨fun h1=>?_,fun h1 _=>?_⟩,fun h0=>?_⟩
 ·by_cases h2 : yP t = false
  ·exact h2
  ·exfalso
   have h3 : yP t = true:=by simpa using h2
   simp only [yP,Bool.and_eq_true,List.all_eq_true] at h3
   obtain ⟨⟨⟨h4,_⟩,_⟩,h5⟩:=h3
   have h6:=yF.1 h5
   have : ∀ l : List (List Boat),(∀ r ∈ l,full r = true) → l.length ≤ l.flatten.length:=by
    intro l
    induction l with
    | nil=>simp
    | cons r l ih =>
     intro hl
     have e1:=ih fun x hx=>hl x (by simp [hx])
     have e2:=ytQ.1 (hl r (by simp))
     simp only [List.length_cons,List.flatten_cons,List.length_append]; omega
   have:=this t.Rows h4
   unfold Train.yas at h6
   omega
 ·refine yg (ι:=Nat) (fun k=>k ≤ t.Rows.length ∧ (∀ r ∈ t.Rows.take k,full r = true) ∧ Met (heads t.Rows k)) (fun k=>yO [(3,.row 3 1 0 0),(4,.c (.i (heads t.Rows k).length)),(20,.c (.sl 1 (t.Rows.map yai))),(21,.c (.i t.Rows.length)),(22,.c (.i k))] [(3,.row 1 (yfA (heads t.Rows k)))]) (fun k=>t.Rows.length - k) 0 ⟨by simp,by simp,by simp [yeU],by simp [yeU],by simp [yeU]⟩ (by apply yj <;> simp [yeU,yzu]) ?_
  rintro k ⟨hk,hall,hm⟩
  rcases Nat.lt_or_ge k t.Rows.length with hlt | hge
  ·obtain ⟨r,hr⟩ : ∃ r,t.Rows[k]? = some r:=⟨_,List.getElem?_eq_getElem hlt⟩
   have hml:=hm.len
   have hrs:=(h.2 r (List.mem_of_getElem? hr)).1
   obtain ⟨rest,hsp⟩:=yvl hr
   simp -dsimp -implicitDefEqProofs [hr,yG hlt]
   intro hrl
   refine ⟨fun hr0 _=>⟨by unfold inI; omega,fun h6=>?_,fun h6 _=>?_⟩,fun hr0=>?_⟩
   ·refine yD8 ?_
    rw [hsp]; simp only [List.length_append]; omega
   ·refine yg (ι:=Nat) (fun j=>j ≤ r.length ∧ Met (yfe t k r j)) (fun j=>yO [(3,.row 3 1 0 0),(4,.c (.i (yfe t k r j).length)),(20,.c (.sl 1 (t.Rows.map yai))),(21,.c (.i t.Rows.length)),(22,.c (.i k)),(36,.c (.sl 6 (r.map Boat.enc))),(37,.c (.i r.length)),(38,.c (.i j))] [(3,.row 1 (yfA (yfe t k r j)))]) (fun j=>r.length - j) 0 ⟨by simp,by rw [yoG]; exact hm⟩ (by apply yj <;> simp [yoG]) ?_
    rintro j ⟨hj,hmj⟩
    rcases Nat.lt_or_ge j r.length with hlt2 | hge2
    ·obtain ⟨b,hb⟩ : ∃ b,r[j]? = some b:=⟨_,List.getElem?_eq_getElem hlt2⟩
     have hsl:=yxV (t:=t) (k:=k) hj
     have hlt6 : (yfe t k r j).length < 6:=by omega
     have hmem : b ∈ t.yas:=by
      rw [hsp]; simp only [List.mem_append]; exact .inl (.inr (List.mem_of_getElem? hb))
     simp -dsimp -implicitDefEqProofs [hb,yG hlt2]
     refine yaC (yuc b) ?_
     simp -dsimp -implicitDefEqProofs
     refine ⟨fun h2=>?_,fun h2=>yBq hmem h2⟩
     have hsn:=yzV hmj.len
     refine ⟨by omega,hsn,?_⟩
     refine ⟨_,_,ypJ ((yfe t k r j).map yfy) b.Id,by simp [yyx],.inr rfl,?_⟩
     simp -dsimp -implicitDefEqProofs [yG hlt2,yzC hlt6,yyK hlt6]
     refine ⟨fun x hx he=>yEq fun hn=>?_,fun h3=>?_⟩
     ·have hsp2 : t.yas = yfe t k r j ++ (b :: (r.drop (j + 1) ++ rest)):=by
       rw [hsp]; unfold yfe
       have : r = r.take j ++ b :: r.drop (j + 1):=by
        conv=>lhs; rw [← List.take_append_drop j r]
        rw [List.drop_eq_getElem_cons hlt2,(List.getElem?_eq_some_iff.1 hb).2]
       conv=>lhs; rw [this]
       simp
      rw [hsp2,List.map_append,List.map_cons] at hn
      exact (List.nodup_append.1 hn).2.2 _ (List.mem_map_of_mem hx) _ (List.mem_cons_self) he
     ·have hni : b.Id ∉ (yfe t k r j).map yfy:=by
       intro hm'
       obtain ⟨x,hx,he⟩:=List.mem_map.1 hm'
       exact h3 x hx he
      have hs1:=yvY (t:=t) (k:=k) hb
      refine ⟨by omega,by omega,by unfold inI; omega,by unfold inI; omega,j + 1,⟨hlt2,by rw [hs1]; exact hmj.snoc h2 hni hlt6⟩,by omega,?_⟩
      apply yj <;> simp [hs1]
    ·simp -dsimp -implicitDefEqProofs [yaB hge2]
     rw [yrL hr hge2] at hmj
     refine ⟨by unfold inI; omega,k + 1,⟨hlt,yL (p:=full) hr hall (by simp [full,hr0]),hmj⟩,by omega,?_⟩
     apply yj <;> simp [yrL hr hge2]
   ·exact yBC hr (by simp [hr0])
  ·simp -dsimp -implicitDefEqProofs [yaB hge]
   rw [yjI hge] at hm
   have hr1:=yX (p:=full) hge hall
   have hb1 : t.yas.all ybr = true:=List.all_eq_true.2 hm.ok
   have hl1 : 0 < t.yas.length:=by
    obtain ⟨r,l,e⟩:=List.exists_cons_of_ne_nil h0
    have:=ytQ.1 (List.all_eq_true.1 hr1 r (by rw [e]; simp))
    unfold Train.yas
    rw [e]; simp only [List.flatten_cons,List.length_append]; omega
   have hl2 : t.yas.length ≤ 6:=hm.len
   have h7 : inRange t.yas.length 1 6 = true:=yF.2 (by omega)
   have hn1 : (t.yas.map yfy).Nodup:=hm.nd
   simp [yP,hr1,hb1,hn1,h7]
 ·have : t.yas = []:=by simp [Train.yas,h0]
  have h7 : inRange t.yas.length 1 6 = false:=by rw [this]; rfl
  simp only [yP,h7,Bool.and_false]
def ybk (m : Mover) (w : Way) : Bool:=yjg w && yP m.Train && inRange m.Place 0 w.Long
theorem yr9 (m : Mover) (w : Way) (h : m.small) : yB Tryz.prog 215 [.agg (m.enc.map .c),.agg (w.enc.map .c)] (.c (.b (ybk m w))):=by
 refine yh ypL ?_
 simp -dsimp -implicitDefEqProofs
 refine yc (ypN w) ?_
 simp -dsimp -implicitDefEqProofs
 refine ⟨fun h1=>?_,fun h1=>by simp [ybk,h1]⟩
 refine yc (ydp m.Train h) ?_
 simp -dsimp -implicitDefEqProofs
 refine ⟨fun h2=>?_,fun h2=>by simp [ybk,h2]⟩
 refine yc (yC m.Place 0 w.Long) ?_
 simp -dsimp -implicitDefEqProofs
 simp [ybk,h1,h2]
theorem yk6 (m : Mover) (w : Way) (h : m.small) : yB Tryz.prog 176 [.agg (m.enc.map .c),.agg (w.enc.map .c)] (.c (.b (ybk m w))):=by
 refine yh ypB ?_
 simp -dsimp -implicitDefEqProofs
 refine yc (ynZ w) ?_
 simp -dsimp -implicitDefEqProofs
 refine ⟨fun h1=>?_,fun h1=>by simp [ybk,h1]⟩
 refine yc (yds m.Train h) ?_
 simp -dsimp -implicitDefEqProofs
 refine ⟨fun h2=>?_,fun h2=>by simp [ybk,h2]⟩
 refine yc (yD m.Place 0 w.Long) ?_
 simp -dsimp -implicitDefEqProofs
 simp [ybk,h1,h2]
structure TrainFacts (t : Train) : Prop where
 rows : ∀ r ∈ t.Rows,full r = true
 ok : ∀ b ∈ t.yas,ybr b = true
 nd : (t.yas.map yfy).Nodup
 pos : 1 ≤ t.yas.length
 len : t.yas.length ≤ 6
theorem yhY {t : Train} (h : yP t = true) : TrainFacts t:=by
 simp only [yP,Bool.and_eq_true,List.all_eq_true,decide_eq_true_eq] at h
 obtain ⟨⟨⟨h1,h2⟩,h3⟩,h4⟩:=h
 have h5:=yF.1 h4
 exact ⟨h1,h2,h3,by omega,by omega⟩
theorem yya (t : Train) (h : t.small) : yB Tryz.prog 169 [.agg (t.enc.map .c)] (.c (.sl 6 (t.yas.map Boat.enc))):=by
 refine yh yoM ?_
 simp -dsimp -implicitDefEqProofs
 intro hlen
 refine ymd (k0:=6) 3 6 (by simp) (by simp) (by decide) ?_
 refine yg (ι:=Nat) (fun k=>k ≤ t.Rows.length) (fun k=>yO [(3,.own 3 6 (heads t.Rows k).length),(7,.c (.sl 1 (t.Rows.map yai))),(8,.c (.i t.Rows.length)),(9,.c (.i k))] [(3,.row 6 ((heads t.Rows k).map Boat.enc))]) (fun k=>t.Rows.length - k) 0 (by simp) (by apply yj <;> simp [yeU]) ?_
 rintro k hk
 rcases Nat.lt_or_ge k t.Rows.length with hlt | hge
 ·obtain ⟨r,hr⟩ : ∃ r,t.Rows[k]? = some r:=⟨_,List.getElem?_eq_getElem hlt⟩
  have hb:=yi0 h (k + 1)
  have hf:=yhH hr
  rw [hf,List.length_append] at hb
  simp -dsimp -implicitDefEqProofs [hr,yG hlt]
  refine ⟨by omega,yw hlt hlen,k + 1,hlt,by omega,?_⟩
  apply yj <;> simp [hf]
 ·simp -dsimp -implicitDefEqProofs [yaB hge]
  rw [yjI hge]
  rw [List.take_of_length_le (by rw [List.length_map]; exact Nat.le_refl _)]; rfl
def yhJ (xs : List Int) (l : Int) : Int:=szS xs.length l
def ykx : List Int → Prop:=ycs fun _=>True
theorem yeY : yey yhJ ykx:=yhU
theorem yjw (xs : List Int) (l : Int) (h0 : 0 ≤ l) (h1 : l ≤ 1048576) : yB Tryz.prog 42 [.c (.sl 1 (xs.map yJ)),.c (.i l)] (.c (.i (yhJ xs l))):=yz0 xs l h0 h1
structure Point where
 X : Int
 Y : Int
 deriving DecidableEq,Inhabited
@[simp] def Point.enc (e : Point) : List C:=[.i e.X,.i e.Y]
-- Point
theorem yrB (e : Point) : yB Tryz.prog 209 [.agg (e.enc.map .c)] (.agg (e.enc.map .c)):=by
 refine yh ypj ?_
 simp -dsimp -implicitDefEqProofs
theorem yyp (a b : Point) : yB Tryz.prog 224 [.agg (a.enc.map .c),.agg (b.enc.map .c)] (.c (.b (decide (a = b)))):=by
 refine yh yoo ?_
 obtain ⟨a0,a1⟩:=a
 obtain ⟨b0,b1⟩:=b
 simp -dsimp -implicitDefEqProofs [yiZ,Point.mk.injEq]
 refine ⟨fun h=>by simp_all,fun h0=>?_⟩
 refine ⟨fun h=>by simp_all,fun h1=>?_⟩
 simp_all
-- []Point
def yg2 (xs : List Point) (l : Int) : Int:=szS xs.length l
def yfO : List Point → Prop:=ycs fun _=>True
theorem ylh : yey yg2 yfO:=yhU
theorem yuC (xs : List Point) (l : Int) (h0 : 0 ≤ l) (h1 : l ≤ 1048576) : yB Tryz.prog 110 [.c (.sl 2 (xs.map Point.enc)),.c (.i l)] (.c (.i (yg2 xs l))):=by
 refine yh ynd ?_
 simp -dsimp -implicitDefEqProofs [yiq,yg2,szS]
 intro hl
 unfold maxLen at hl
 refine ⟨by unfold inI; omega,fun h=>?_,fun h=>?_⟩ <;> intros <;> omega
theorem yvM (xs : List Point) (hl : yfO xs) : yB Tryz.prog 122 [.c (.sl 2 (xs.map Point.enc))] (.c (.sl 2 (xs.map Point.enc))):=by
 refine yh yiu ?_
 simp -dsimp -implicitDefEqProofs
 intro hlen
 have hl1:=hl.1
 refine ⟨by omega,?_⟩
 refine yg (ι:=Nat) (fun k=>k ≤ xs.length) (fun k=>yO [(0,.c (.sl 2 (xs.map Point.enc))),(3,.own 7 2 xs.length),(4,.c (.i k))] [(7,.row 2 (partly Point.enc [.i 0,.i 0] xs k))]) (fun k=>xs.length - k) 0 (by simp) (by apply yj <;> simp [yab]) ?_
 rintro k hk
 rcases Nat.lt_or_ge k xs.length with hlt | hge
 ·obtain ⟨e,he⟩ : ∃ e,xs[k]? = some e:=⟨_,List.getElem?_eq_getElem hlt⟩
  have hs:=yaj (f:=Point.enc) (z:=[.i 0,.i 0]) he
  have hd:=yav (f:=Point.enc) (z:=[.i 0,.i 0]) (n:=2) rfl hlt
  simp only [Point.enc] at hs
  simp -dsimp -implicitDefEqProofs [he,yG hlt]
  refine fun _=>yaP (yrB e ) (by simp) rfl ?_
  simp -dsimp -implicitDefEqProofs [yG hlt,yak hk,hd,hs]
  exact ⟨hlt,yw hlt hlen,k + 1,hlt,by omega,by apply yj <;> simp⟩
 ·simp -dsimp -implicitDefEqProofs [yaB hge]
  intro _
  rw [yam hge,List.take_of_length_le (by simp)]
theorem yvv (es fs : List Point) : yB Tryz.prog 146 [.c (.sl 2 (es.map Point.enc)),.c (.sl 2 (fs.map Point.enc))] (.c (.b (decide (es = fs)))):=by
 refine yh ynO ?_
 simp -dsimp -implicitDefEqProofs
 intro hl1 hl2
 refine ⟨fun h e=>h (by rw [e]),fun hlen=>?_⟩
 have hlen' : es.length = fs.length:=by omega
 refine yg (ι:=Nat) (fun k=>k ≤ es.length ∧ es.take k = fs.take k) (fun k=>yO [(0,.c (.sl 2 (es.map Point.enc))),(1,.c (.sl 2 (fs.map Point.enc))),(5,.c (.i k))] []) (fun k=>es.length - k) 0 (by simp) (by apply yj <;> simp) ?_
 rintro k ⟨hk,htk⟩
 rcases Nat.lt_or_ge k es.length with hlt | hge
 ·obtain ⟨e,he⟩ : ∃ e,es[k]? = some e:=⟨_,List.getElem?_eq_getElem hlt⟩
  obtain ⟨f,hf⟩ : ∃ f,fs[k]? = some f:=⟨_,List.getElem?_eq_getElem (by omega)⟩
  simp -dsimp -implicitDefEqProofs [he,hf,yG hlt,yG (hlen' ▸ hlt)]
  intro _
  refine yaC (yyp e f) ?_
  simp -dsimp -implicitDefEqProofs
  refine ⟨fun h=>ybG he hf h,fun h=>⟨yw hlt hl1,k + 1,⟨hlt,yaR he hf htk h⟩,by omega,by apply yj <;> simp⟩⟩
 ·simp -dsimp -implicitDefEqProofs [yaB hge]
  intro _
  exact ybf hge hlen' htk
structure Reach where
 Table : List Point
 Volume : Int
 Pipe : List Int
 deriving DecidableEq,Inhabited
@[simp] def Reach.enc (e : Reach) : List C:=[.sl 2 (e.Table.map Point.enc),.i e.Volume,.sl 1 (e.Pipe.map yJ)]
-- Reach
def ycy (e : Reach) (l : Int) : Int:=ybm (yg2 e.Table l) fun l=>ybm (yhJ e.Pipe l) fun l=>l
def Reach.small (e : Reach) : Prop:=yfO e.Table ∧ ykx e.Pipe
theorem ymW : yey ycy Reach.small:=by
 intro e l h0 h1
 unfold ycy
 rcases ylh e.Table _ h0 h1 with e0 | ⟨a0,b0,s0⟩
 ·exact .inl (yK (by omega))
 rw [yu a0]
 rcases yeY e.Pipe _ a0 (by omega) with e1 | ⟨a1,b1,s1⟩
 ·exact .inl (yK (by omega))
 rw [yu a1]
 exact .inr ⟨a1,by omega,s0,s1⟩
theorem yvH (e : Reach) (l : Int) (h0 : 0 ≤ l) (h1 : l ≤ 1048576) : yB Tryz.prog 40 [.agg (e.enc.map .c),.c (.i l)] (.c (.i (ycy e l))):=by
 refine yh ypp ?_
 simp -dsimp -implicitDefEqProofs
 refine yc (yuC e.Table _ h0 h1) ?_
 simp -dsimp -implicitDefEqProofs
 refine ⟨fun h=>by simp [ycy,yK h],fun p0=>?_⟩
 have q0:=yin ylh e.Table h0 h1 p0
 refine yc (yjw e.Pipe _ p0 q0) ?_
 simp -dsimp -implicitDefEqProofs
 refine ⟨fun h=>by simp [ycy,yu p0,yK h],fun p1=>?_⟩
 simp [ycy,yu p0,yu p1]
theorem yxy (e : Reach) (hl : Reach.small e) : yB Tryz.prog 46 [.agg (e.enc.map .c)] (.agg (e.enc.map .c)):=by
 refine yh yiN ?_
 simp -dsimp -implicitDefEqProofs
 refine yS (yvM e.Table (hl.1)) ?_
 simp -dsimp -implicitDefEqProofs
 refine yS (ylC e.Pipe (hl.2.1)) ?_
 simp -dsimp -implicitDefEqProofs
theorem yx6 (a b : Reach) : yB Tryz.prog 58 [.agg (a.enc.map .c),.agg (b.enc.map .c)] (.c (.b (decide (a = b)))):=by
 refine yh yn6 ?_
 obtain ⟨a0,a1,a2⟩:=a
 obtain ⟨b0,b1,b2⟩:=b
 simp -dsimp -implicitDefEqProofs [yjl,Reach.mk.injEq]
 refine yc (yvv a0 b0) ?_
 simp -dsimp -implicitDefEqProofs
 refine ⟨fun h=>by simp_all,fun h0=>?_⟩
 refine ⟨fun h=>by simp_all,fun h1=>?_⟩
 refine yc (ykZ a2 b2) ?_
 simp -dsimp -implicitDefEqProofs
 refine ⟨fun h=>by simp_all,fun h2=>?_⟩
 simp_all
def ygg (p : Point) : Bool:=inRange p.X 0 1000000000 && inRange p.Y 0 1000000000
def follows (a b : Point) : Bool:=decide (a.X < b.X) && decide (a.Y ≤ b.Y)
def yhD (l : List Point) (k : Nat) : Bool :=
 match l[k]? with
 | some p=>ygg p && (match k with
  | 0=>true
  | j + 1=>match l[j]? with
   | some q=>follows q p
   | none=>false)
 | none=>true
def upTo (l : List Point) : Nat → Bool
 | 0=>true
 | k + 1=>upTo l k && yhD l k
def yaM (l : List Point) : Bool:=upTo l l.length && inRange l.length 2 20
theorem yhk {l : List Point} {p : Point} (h : l[0]? = some p) : yhD l 0 = ygg p:=by simp [yhD,h]
theorem yea {l : List Point} {k : Nat} {p q : Point} (h : l[k + 1]? = some p) (hq : l[k]? = some q) : yhD l (k + 1) = (ygg p && follows q p):=by simp [yhD,h,hq]
theorem yoy {l : List Point} : ∀ {k n : Nat},k < n → yhD l k = false → upTo l n = false
 | k,0,h,_=>by omega
 | k,n + 1,h,hs=>by
  simp only [upTo]
  rcases Nat.lt_or_ge k n with h1 | h1
  ·rw [yoy h1 hs]; rfl
  ·have : k = n:=by omega
   subst this
   rw [hs,Bool.and_false]
theorem yjy {l : List Point} {k : Nat} (h : upTo l k = true) (hs : yhD l k = true) : upTo l (k + 1) = true:=by simp [upTo,h,hs]
theorem ynS {l : List Point} {k : Nat} (h : k < l.length) (hs : yhD l k = false) : yaM l = false:=by simp [yaM,yoy h hs]
theorem yzH {l : List Point} (h : inRange l.length 2 20 = false) : yaM l = false:=by simp [yaM,h]
theorem yh0 (l : List Point) : yB Tryz.prog 248 [.c (.sl 2 (l.map Point.enc))] (.c (.b (yaM l))):=by
 refine yh ypw ?_
 simp -dsimp -implicitDefEqProofs
 intro hlen
 refine ⟨fun h0 _=>⟨fun h1=>?_,fun h1 _=>?_⟩,fun h0=>?_⟩
 ·exact yzH (ycG.2 (by omega))
 ·refine yg (ι:=Nat) (fun k=>k ≤ l.length ∧ upTo l k = true) (fun k=>yO [(0,.c (.sl 2 (l.map Point.enc))),(13,.c (.sl 2 (l.map Point.enc))),(14,.c (.i l.length)),(15,.c (.i k))] []) (fun k=>l.length - k) 0 ⟨by simp,rfl⟩ (by apply yj <;> simp) ?_
  rintro k ⟨hk,hup⟩
  rcases Nat.lt_or_ge k l.length with hlt | hge
  ·obtain ⟨p,hp⟩ : ∃ p,l[k]? = some p:=⟨_,List.getElem?_eq_getElem hlt⟩
   have hbad : ygg p = false → yaM l = false:=fun e=>ynS hlt (by
    cases k with
    | zero=>rw [yhk hp,e]
    | succ j=>rw [yea hp (List.getElem?_eq_getElem (by omega)),e,Bool.false_and])
   cases k with
   | zero =>
    have f1:=(List.getElem?_eq_some_iff.1 hp).2
    simp -dsimp -implicitDefEqProofs [hp,hlt,f1]
    refine yc (yC p.X 0 1000000000) ?_
    simp -dsimp -implicitDefEqProofs
    refine ⟨fun h2=>?_,fun h2=>hbad (by simp [ygg,h2])⟩
    refine yc (yC p.Y 0 1000000000) ?_
    simp -dsimp -implicitDefEqProofs
    refine ⟨fun h3=>hbad (by simp [ygg,h3]),fun h3=>?_⟩
    have hpt : ygg p = true:=by simp [ygg,h2,h3]
    exact ⟨by unfold inI; omega,1,⟨hlt,yjy hup (by rw [yhk hp,hpt])⟩,by omega,by apply yj <;> simp⟩
   | succ j =>
    obtain ⟨q,hq⟩ : ∃ q,l[j]? = some q:=⟨_,List.getElem?_eq_getElem (by omega)⟩
    have hj : (j : Int) + 1 < l.length:=by omega
    have hj2 : (j : Int) < l.length:=by omega
    have hj3 : (0 : Int) < j + 1:=by omega
    have hj4 : (0 : Int) ≤ j + 1:=by omega
    have hj5 : ((j : Int) + 1).toNat = j + 1:=by omega
    simp -dsimp -implicitDefEqProofs [hp,hq,hj,hj2,hj3,hj4,hj5]
    refine yc (yC p.X 0 1000000000) ?_
    simp -dsimp -implicitDefEqProofs
    refine ⟨fun h2=>?_,fun h2=>hbad (by simp [ygg,h2])⟩
    refine yc (yC p.Y 0 1000000000) ?_
    simp -dsimp -implicitDefEqProofs [hp,hq,hj,hj2,hj3,hj4,hj5]
    refine ⟨fun h3=>hbad (by simp [ygg,h3]),fun h3=>?_⟩
    have hpt : ygg p = true:=by simp [ygg,h2,h3]
    have hbad2 : follows q p = false → yaM l = false:=fun e=>ynS hlt (by rw [yea hp hq,e,Bool.and_false])
    refine ⟨by unfold inI; omega,fun h4=>⟨by unfold inI; omega,fun h5=>?_,fun h5=>?_⟩,fun h4=>?_⟩
    ·exact hbad2 (by simp [follows]; omega)
    ·have hf : follows q p = true:=by simp [follows,h4,h5]
     exact ⟨by unfold inI; omega,j + 2,⟨hlt,yjy hup (by rw [yea hp hq,hpt,hf]; rfl)⟩,by omega,by apply yj <;> simp; omega⟩
    ·exact hbad2 (by simp [follows]; omega)
  ·simp -dsimp -implicitDefEqProofs [yaB hge]
   have e : k = l.length:=by omega
   subst e
   have h7 : inRange l.length 2 20 = true:=yF.2 (by omega)
   simp [yaM,hup,h7]
 ·exact yzH (ycG.2 (by omega))
theorem yh7 (l : List Point) : yB Tryz.prog 194 [.c (.sl 2 (l.map Point.enc))] (.c (.b (yaM l))):=by
 refine yh yp7 ?_
 simp -dsimp -implicitDefEqProofs
 refine yg (ι:=Nat) (fun k=>k ≤ l.length ∧ upTo l k = true) (fun k=>yO [(0,.c (.sl 2 (l.map Point.enc))),(3,.c (.i k))] []) (fun k=>l.length - k) 0 ⟨by simp,rfl⟩ (by apply yj <;> simp) ?_
 rintro k ⟨hk,hup⟩
 rcases Nat.lt_or_ge k l.length with hlt | hge
 ·obtain ⟨p,hp⟩ : ∃ p,l[k]? = some p:=⟨_,List.getElem?_eq_getElem hlt⟩
  have hbad : ygg p = false → yaM l = false:=fun e=>ynS hlt (by
   cases k with
   | zero=>rw [yhk hp,e]
   | succ j=>rw [yea hp (List.getElem?_eq_getElem (by omega)),e,Bool.false_and])
  cases k with
  | zero =>
   have f1:=(List.getElem?_eq_some_iff.1 hp).2
   simp -dsimp -implicitDefEqProofs [hp,hlt,f1]
   intro hlen
   refine yaC (yD p.X 0 1000000000) ?_
   simp -dsimp -implicitDefEqProofs [hp,hlt,f1]
   refine ⟨fun h2=>?_,fun h2=>hbad (by simp [ygg,h2])⟩
   refine yaC (yD p.Y 0 1000000000) ?_
   simp -dsimp -implicitDefEqProofs [hp,hlt,f1]
   refine ⟨fun h3=>?_,fun h3=>hbad (by simp [ygg,h3])⟩
   have hpt : ygg p = true:=by simp [ygg,h2,h3]
   exact ⟨by unfold inI; omega,1,⟨hlt,yjy hup (by rw [yhk hp,hpt])⟩,by omega,by apply yj <;> simp⟩
  | succ j =>
   obtain ⟨q,hq⟩ : ∃ q,l[j]? = some q:=⟨_,List.getElem?_eq_getElem (by omega)⟩
   have hj : (j : Int) + 1 < l.length:=by omega
   have hj2 : (j : Int) < l.length:=by omega
   have hj3 : (0 : Int) < j + 1:=by omega
   have hj4 : (0 : Int) ≤ j + 1:=by omega
   have hj5 : ((j : Int) + 1).toNat = j + 1:=by omega
   simp -dsimp -implicitDefEqProofs [hp,hq,hj,hj2,hj3,hj4,hj5]
   intro hlen
   refine yaC (yD p.X 0 1000000000) ?_
   simp -dsimp -implicitDefEqProofs [hp,hq,hj,hj2,hj3,hj4,hj5]
   refine ⟨fun h2=>?_,fun h2=>hbad (by simp [ygg,h2])⟩
   refine yaC (yD p.Y 0 1000000000) ?_
   simp -dsimp -implicitDefEqProofs [hp,hq,hj,hj2,hj3,hj4,hj5]
   refine ⟨fun h3=>?_,fun h3=>hbad (by simp [ygg,h3])⟩
   have hpt : ygg p = true:=by simp [ygg,h2,h3]
   unfold maxLen at hlen
   have hbad2 : follows q p = false → yaM l = false:=fun e=>ynS hlt (by rw [yea hp hq,e,Bool.and_false])
   refine ⟨by unfold inI; omega,fun h4=>⟨by unfold inI; omega,fun h5=>?_,fun h5=>?_⟩,fun h4=>?_⟩
   ·exact hbad2 (by simp [follows]; omega)
   ·have hf : follows q p = true:=by simp [follows,h4,h5]
    exact ⟨by unfold inI; omega,j + 2,⟨hlt,yjy hup (by rw [yea hp hq,hpt,hf]; rfl)⟩,by omega,by apply yj <;> simp; omega⟩
   ·exact hbad2 (by simp [follows]; omega)
 ·simp -dsimp -implicitDefEqProofs [yaB hge]
  intro hlen
  refine yc (yD l.length 2 20) ?_
  simp -dsimp -implicitDefEqProofs
  have e : k = l.length:=by omega
  subst e
  simp [yaM,hup]
def amount (n : Int) : Bool:=inRange n 0 1000000000
def yda (r : Reach) : Int:=r.Volume + r.Pipe.sum
def yR (r : Reach) : Bool:=yaM r.Table && amount r.Volume && decide (r.Pipe.length ≤ 12) && r.Pipe.all amount && decide (yda r ≤ 1000000000)
theorem ykq : ∀ {l : List Int},(∀ x ∈ l,amount x = true) → 0 ≤ l.sum
 | [],_=>by simp
 | x :: l,h=>by
  have h1:=ykq (l:=l) fun y hy=>h y (by simp [hy])
  have h2:=yF.1 (show inRange x 0 1000000000 = true from h x (by simp))
  simp only [List.sum_cons]; omega
theorem yx8 {l : List Int} (k : Nat) : l.sum = sumTo l k + (l.drop k).sum:=by
 unfold sumTo
 conv=>lhs; rw [← List.take_append_drop k l]
 rw [List.sum_append]
theorem yEn {r : Reach} {k : Nat} {x : Int} (hx : r.Pipe[k]? = some x) (h : 1000000000 < r.Volume + sumTo r.Pipe k + x) : yR r = false:=by
 cases hr : yR r with
 | false=>rfl
 | true =>
  exfalso
  simp only [yR,Bool.and_eq_true,List.all_eq_true,decide_eq_true_eq] at hr
  obtain ⟨⟨_,h1⟩,h2⟩:=hr
  have h3:=ykq (l:=r.Pipe.drop (k + 1)) fun y hy=>h1 y (List.mem_of_mem_drop hy)
  have h4:=yx8 (l:=r.Pipe) (k + 1)
  rw [yia hx] at h4
  unfold yda at h2
  omega
theorem yrR {r : Reach} {k : Nat} {x : Int} (hx : r.Pipe[k]? = some x) (h : amount x = false) : yR r = false:=by
 have : r.Pipe.all amount = false:=all_false (p:=amount) hx h
 simp [yR,this]
theorem yby (r : Reach) : yB Tryz.prog 234 [.agg (r.enc.map .c)] (.c (.b (yR r))):=by
 refine yh yo5 ?_
 simp -dsimp -implicitDefEqProofs
 refine yc (yh0 r.Table) ?_
 simp -dsimp -implicitDefEqProofs
 refine ⟨fun h1=>?_,fun h1=>by simp [yR,h1]⟩
 refine yc (yC r.Volume 0 1000000000) ?_
 simp -dsimp -implicitDefEqProofs
 refine ⟨fun h2 hlen=>⟨fun h3=>?_,fun h3=>⟨?_,fun _=>?_⟩⟩,fun h2=>by simp [yR,amount,h2]⟩
 ·have : ¬ r.Pipe.length ≤ 12:=by omega
  simp [yR,this]
 ·have:=yF.1 h2
  unfold inI; omega
 have h2':=yF.1 h2
 refine yg (ι:=Nat) (fun k=>k ≤ r.Pipe.length ∧ (∀ n ∈ r.Pipe.take k,amount n = true) ∧ 0 ≤ sumTo r.Pipe k ∧ r.Volume + sumTo r.Pipe k ≤ 1000000000) (fun k=>yO [(3,.c (.i (1000000000 - r.Volume - sumTo r.Pipe k))),(26,.c (.sl 1 (r.Pipe.map yJ))),(27,.c (.i r.Pipe.length)),(28,.c (.i k))] []) (fun k=>r.Pipe.length - k) 0 ⟨by simp,by simp,by simp [yf6],by simp only [yf6]; omega⟩ (by apply yj <;> simp [yf6]) ?_
 rintro k ⟨hk,hall,hs0,hs⟩
 rcases Nat.lt_or_ge k r.Pipe.length with hlt | hge
 ·obtain ⟨x,hx⟩ : ∃ x,r.Pipe[k]? = some x:=⟨_,List.getElem?_eq_getElem hlt⟩
  simp -dsimp -implicitDefEqProofs [hx,yG hlt]
  refine ⟨fun h4=>⟨fun h5=>?_,fun h5=>?_⟩,fun h4=>?_⟩
  ·exact yEn hx (by omega)
  ·have ha : amount x = true:=yF.2 (by omega)
   have e1:=yia hx
   refine ⟨by unfold inI; omega,yw hlt hlen,k + 1,⟨hlt,yL (p:=amount) hx hall ha,by rw [e1]; omega,by rw [e1]; omega⟩,by omega,?_⟩
   apply yj <;> simp [e1]; omega
  ·exact yrR hx (ycG.2 (by omega))
 ·simp -dsimp -implicitDefEqProofs [yaB hge]
  have h6:=yX (p:=amount) hge hall
  rw [ymm hge] at hs
  simp [yR,h1,show amount r.Volume = true from h2,h6,yda,hs]
  omega
theorem ymX {l : List Int} (h : ∀ n ∈ l,amount n = true) (hl : l.length ≤ 12) (k : Nat) : 0 ≤ sumTo l k ∧ sumTo l k ≤ 12000000000:=by
 have h1:=yjC (l:=l.take k) (b:=1000000000) fun x hx=>h x (List.mem_of_mem_take hx)
 have h2 : (l.take k).length ≤ 12:=by simp; omega
 unfold sumTo
 omega
theorem yoR (r : Reach) (hv : amount r.Volume = true) (hl : r.Pipe.length ≤ 12) (hp : ∀ n ∈ r.Pipe,amount n = true) : yB Tryz.prog 205 [.agg (r.enc.map .c)] (.c (.i (yda r))):=by
 refine yh yrp ?_
 have hv':=yF.1 (show inRange r.Volume 0 1000000000 = true from hv)
 simp -dsimp -implicitDefEqProofs
 refine yg (ι:=Nat) (fun k=>k ≤ r.Pipe.length) (fun k=>yO [(1,.box 1 0),(3,.c (.i (r.Volume + sumTo r.Pipe k))),(4,.c (.i k))] [(1,.box (r.enc.map .c))]) (fun k=>r.Pipe.length - k) 0 (by simp) (by apply yj <;> simp [yf6]) ?_
 rintro k hk
 rcases Nat.lt_or_ge k r.Pipe.length with hlt | hge
 ·obtain ⟨x,hx⟩ : ∃ x,r.Pipe[k]? = some x:=⟨_,List.getElem?_eq_getElem hlt⟩
  have e1:=yia hx
  have b1:=ymX hp hl (k + 1)
  rw [e1] at b1
  simp -dsimp -implicitDefEqProofs [hx,yG hlt]
  intro hlen
  refine ⟨by unfold inI; omega,yw hlt hlen,k + 1,hlt,by omega,?_⟩
  apply yj <;> simp [e1]; omega
 ·simp -dsimp -implicitDefEqProofs [yaB hge]
  intro _
  rw [ymm hge]; rfl
theorem ybX (r : Reach) : yB Tryz.prog 177 [.agg (r.enc.map .c)] (.c (.b (yR r))):=by
 refine yh ynW ?_
 simp -dsimp -implicitDefEqProofs
 refine yc (yh7 r.Table) ?_
 simp -dsimp -implicitDefEqProofs
 refine ⟨fun h1=>?_,fun h1=>by simp [yR,h1]⟩
 refine yc (yD r.Volume 0 1000000000) ?_
 simp -dsimp -implicitDefEqProofs
 refine ⟨fun h2 hlen=>⟨fun h3=>?_,fun h3=>?_⟩,fun h2=>by simp [yR,amount,h2]⟩
 ·have : ¬ r.Pipe.length ≤ 12:=by omega
  simp [yR,this]
 refine yg (ι:=Nat) (fun k=>k ≤ r.Pipe.length ∧ (∀ n ∈ r.Pipe.take k,amount n = true)) (fun k=>yO [(1,.box 1 0),(3,.c (.i k))] [(1,.box (r.enc.map .c))]) (fun k=>r.Pipe.length - k) 0 ⟨by simp,by simp⟩ (by apply yj <;> simp) ?_
 rintro k ⟨hk,hall⟩
 rcases Nat.lt_or_ge k r.Pipe.length with hlt | hge
 ·obtain ⟨x,hx⟩ : ∃ x,r.Pipe[k]? = some x:=⟨_,List.getElem?_eq_getElem hlt⟩
  simp -dsimp -implicitDefEqProofs [hx,yG hlt]
  intro _
  refine yc (yD x 0 1000000000) ?_
  simp -dsimp -implicitDefEqProofs
  refine ⟨fun h4=>yrR hx h4,fun h4=>?_⟩
  exact ⟨yw hlt hlen,k + 1,⟨hlt,yL (p:=amount) hx hall h4⟩,by omega,by apply yj <;> simp⟩
 ·simp -dsimp -implicitDefEqProofs [yaB hge]
  intro _
  have h6:=yX (p:=amount) hge hall
  refine yc (yoR r h2 (by omega) (List.all_eq_true.1 h6)) ?_
  simp -dsimp -implicitDefEqProofs
  have h3' : r.Pipe.length ≤ 12:=by omega
  simp [yR,h1,show amount r.Volume = true from h2,h6,h3']
theorem yvB (xs : List Point) (hl : yfO xs) : ybh Tryz.prog 122 [.c (.sl 2 (xs.map Point.enc))] (.c (.ow 2 (xs.map Point.enc))):=by
 refine yan yiu ?_
 simp -dsimp -implicitDefEqProofs
 intro hlen
 have hl1:=hl.1
 refine ⟨by omega,?_⟩
 refine yg (ι:=Nat) (fun k=>k ≤ xs.length) (fun k=>yO [(0,.c (.sl 2 (xs.map Point.enc))),(3,.own 7 2 xs.length),(4,.c (.i k))] [(7,.row 2 (partly Point.enc [.i 0,.i 0] xs k))]) (fun k=>xs.length - k) 0 (by simp) (by apply yj <;> simp [yab]) ?_
 rintro k hk
 rcases Nat.lt_or_ge k xs.length with hlt | hge
 ·obtain ⟨e,he⟩ : ∃ e,xs[k]? = some e:=⟨_,List.getElem?_eq_getElem hlt⟩
  have hs:=yaj (f:=Point.enc) (z:=[.i 0,.i 0]) he
  have hd:=yav (f:=Point.enc) (z:=[.i 0,.i 0]) (n:=2) rfl hlt
  simp only [Point.enc] at hs
  simp -dsimp -implicitDefEqProofs [he,yG hlt]
  refine fun _=>yaP (yrB e ) (by simp) rfl ?_
  simp -dsimp -implicitDefEqProofs [yG hlt,yak hk,hd,hs]
  exact ⟨hlt,yw hlt hlen,k + 1,hlt,by omega,by apply yj <;> simp⟩
 ·simp -dsimp -implicitDefEqProofs [yaB hge]
  intro _
  rw [yam hge,List.take_of_length_le (by simp)]
@[simp] def Mover.yI (e : Mover) : List C:=[.b e.Train.Up,.ot 1 (e.Train.Rows.map yT),.i e.Place]
theorem Mover.yaa (e : Mover) : ybQ e.yI = some e.enc:=by simp [Mover.yI,ybQ,ydl yeg]
theorem yx5 (e : Mover) (hl : Mover.small e) : ybh Tryz.prog 229 [.agg (e.enc.map .c)] (.agg (e.yI.map .c)):=by
 refine yan yiQ ?_
 simp -dsimp -implicitDefEqProofs
 refine yQ (yjE e.Train hl) (by simp) (by simp [AV.closed,AV.ya7,C.closed,yT]) (by simp [yU]) ?_
 simp -dsimp -implicitDefEqProofs [yt]
theorem yvD (xs : List Mover) (hl : xs.length ≤ 1048576 ∧ ∀ x ∈ xs,x.small) : ybh Tryz.prog 164 [.c (.sl 3 (xs.map Mover.enc))] (.c (.ot 3 (xs.map Mover.yI))):=by
 refine yan yiz ?_
 simp -dsimp -implicitDefEqProofs
 intro hlen
 have hl1:=hl.1
 refine ⟨by omega,?_⟩
 refine yg (ι:=Nat) (fun k=>k ≤ xs.length) (fun k=>yO [(0,.c (.sl 3 (xs.map Mover.enc))),(3,.own 7 3 xs.length),(4,.c (.i k))] [(7,.tr 3 0 (partly Mover.yI [.b false,.sl 1 [],.i 0] xs k))]) (fun k=>xs.length - k) 0 (by simp) (by apply yj <;> simp [yab,Obj.leO]) ?_
 rintro k hk
 rcases Nat.lt_or_ge k xs.length with hlt | hge
 ·obtain ⟨e,he⟩ : ∃ e,xs[k]? = some e:=⟨_,List.getElem?_eq_getElem hlt⟩
  have hs:=yaj (f:=Mover.yI) (z:=[.b false,.sl 1 [],.i 0]) he
  have hd:=yav (f:=Mover.yI) (z:=[.b false,.sl 1 [],.i 0]) (n:=3) rfl hlt
  simp only [Mover.yI] at hs
  simp -dsimp -implicitDefEqProofs [he,yG hlt]
  intro _
  refine yQ (yx5 e (hl.2 e (List.mem_of_getElem? he))) (by simp) (by simp [AV.closed,AV.ya7,C.closed,yT]) (by simp [yU]) ?_
  simp -dsimp -implicitDefEqProofs [yG hlt,yak hk,yt,hd,hs]
  exact ⟨hlt,yw hlt hlen,k + 1,hlt,by omega,by apply yj <;> simp [Obj.leO]⟩
 ·simp -dsimp -implicitDefEqProofs [yaB hge]
  intro _
  rw [yam hge,yt]
def mkP (k : Int) : List C:=[.i k,.i (k + 1)]
theorem ytg (xs : List Point) (k : Int) (h0 : 0 ≤ k) (h1 : k + 2 * xs.length ≤ 8000000000000000000) :
 InF Tryz.prog 61 (.c (cw 2 (xs.map Point.enc))) (.c (cw 2 (marked mkP 2 [] k xs.length))) [.c (.i k)] (.c (.i (k + 2 * xs.length))):=by
 rcases Nat.eq_zero_or_pos xs.length with hx | hx
 ·have : xs = []:=List.length_eq_zero_iff.1 hx
  subst this
  refine ybO ygu (by simp) (by simp) rfl fun hwf=>?_
  simp -dsimp -implicitDefEqProofs [yee,marked]
  refine yg (ι:=Unit) (fun _=>True) (fun _=>yO [(0,.c (.sl 2 [])),(1,.c (.i k)),(5,.c (.i 0)),(1000000,.c (.sl 2 []))] []) (fun _=>0) () trivial (by apply yj <;> simp) ?_
  rintro _ _
  simp -dsimp -implicitDefEqProofs
 ·rw [yb4 (by simpa using hx),yb4 (by rw [yM]; exact hx)]
  refine ybO ygu (by simp) (by simp) rfl fun hwf=>?_
  simp -dsimp -implicitDefEqProofs [yee]
  refine yg (ι:=Nat) (fun i=>i ≤ xs.length) (fun i=>yO [(0,.own 0 2 xs.length),(1,.c (.i (k + 2 * i))),(5,.c (.i i)),(1000000,.own 0 2 xs.length)] [(0,.row 2 (marked mkP 2 (xs.map Point.enc) k i))]) (fun i=>xs.length - i) 0 (by simp) (by apply yj <;> simp [ydX]) ?_
  rintro i hi
  rcases Nat.lt_or_ge i xs.length with hlt | hge
  ·obtain ⟨e,he⟩ : ∃ e,xs[i]? = some e:=⟨_,List.getElem?_eq_getElem hlt⟩
   have hg:=yeR (mk:=mkP) (c:=2) (k:=k) (rows:=xs.map Point.enc) (i:=i) (r:=e.enc) (by simp [he])
   have hl:=yeV (mk:=mkP) (c:=2) (k:=k) (rows:=xs.map Point.enc) (i:=i) (by simpa using hi)
   have hs:=ye0 (mk:=mkP) (c:=2) (k:=k) (rows:=xs.map Point.enc) (i:=i) (by simpa using hlt)
   rw [List.length_map] at hl
   generalize marked mkP 2 (xs.map Point.enc) k i = M at *
   have hlt2 : i < M.length:=by omega
   have hself : ∀ a,(M.set i a)[i]? = some a:=fun a=>List.getElem?_set_self hlt2
   simp only [mkP] at hs
   simp only [Point.enc] at hg
   simp -dsimp -implicitDefEqProofs [yG hlt,hg,hl,hlt2,hself]
   intro hlen
   refine ⟨hlt,by unfold inI; omega,hlt,by unfold inI; omega,by unfold inI; omega,i + 1,hlt,by omega,?_⟩
   apply yj <;> simp [hs,hself] <;> omega
  ·have : i = xs.length:=by omega
   subst this
   simp -dsimp -implicitDefEqProofs
   intro _
   have e:=yeI (mk:=mkP) (c:=2) (rows:=xs.map Point.enc) (k:=k) (i:=xs.length) (by simp)
   rw [e,List.length_map,List.take_of_length_le (by rw [yM]; exact Nat.le_refl _)]
@[simp] def Reach.yI (e : Reach) : List C:=[.ow 2 (e.Table.map Point.enc),.i e.Volume,.ow 1 (e.Pipe.map yJ)]
theorem Reach.yaa (e : Reach) : ybQ e.yI = some e.enc:=by simp [Reach.yI,ybQ,C.shr]
theorem yyz (e : Reach) (hl : Reach.small e) : ybh Tryz.prog 46 [.agg (e.enc.map .c)] (.agg (e.yI.map .c)):=by
 refine yan yiN ?_
 simp -dsimp -implicitDefEqProofs
 refine yQ (yvB e.Table hl.1) (by simp ) (by simp [AV.closed,AV.ya7,C.closed]) (by simp [yU]) ?_
 simp -dsimp -implicitDefEqProofs [yt]
 refine yQ (ylr e.Pipe hl.2.1) (by simp ) (by simp [AV.closed,AV.ya7,C.closed]) (by simp [yU]) ?_
 simp -dsimp -implicitDefEqProofs [yt]
def Reach.yrk (e : Reach) : List C:=[cw 2 (e.Table.map Point.enc),.i e.Volume,cw 1 (e.Pipe.map yJ)]
def fM (k : Int) (e : Mover) : List C:=[.b (decide (k.tmod 3 = 0)),.ot 1 (yaA fB nB (k + 1) e.Train.Rows),.i (k + 1 + cnt nB e.Train.Rows)]
def nM (e : Mover) : Nat:=1 + cnt nB e.Train.Rows + 1
theorem ytw (xs : List Mover) (k : Int) (h0 : 0 ≤ k) (h1 : k + cnt nM xs ≤ 8000000000000000000) :
 InF Tryz.prog 153 (.c (ct 3 (xs.map Mover.yI))) (.c (ct 3 (yaA fM nM k xs))) [.c (.i k)] (.c (.i (k + cnt nM xs))):=by
 rcases Nat.eq_zero_or_pos xs.length with hx | hx
 ·have : xs = []:=List.length_eq_zero_iff.1 hx
  subst this
  refine ybO ygK (by simp) (by simp) rfl fun hwf=>?_
  simp -dsimp -implicitDefEqProofs [yev,yaA,cnt]
  refine yg (ι:=Unit) (fun _=>True) (fun _=>yO [(0,.c (.sl 3 [])),(1,.c (.i k)),(5,.c (.i 0)),(1000000,.c (.sl 3 []))] []) (fun _=>0) () trivial (by apply yj <;> simp) ?_
  rintro _ _
  simp -dsimp -implicitDefEqProofs
 ·rw [ycP (by simpa using hx),ycP (by rw [yH]; exact hx)]
  refine ybO ygK (by simp) (by simp) rfl fun hwf=>?_
  simp -dsimp -implicitDefEqProofs [yev]
  refine yg (ι:=Nat) (fun i=>i ≤ xs.length) (fun i=>yO [(0,.own 0 3 xs.length),(1,.c (.i (k + yaK nM xs i))),(5,.c (.i i)),(1000000,.own 0 3 xs.length)] [(0,.tr 3 0 (ycA fM Mover.yI nM k xs i))]) (fun i=>xs.length - i) 0 (by simp) (by apply yj <;> simp [ydh,ya0,Obj.leO]) ?_
  rintro i hi
  rcases Nat.lt_or_ge i xs.length with hlt | hge
  ·obtain ⟨e,he⟩ : ∃ e,xs[i]? = some e:=⟨_,List.getElem?_eq_getElem hlt⟩
   have hg:=yd5 (f:=fM) (g:=Mover.yI) (n:=nM) (k:=k) he
   have hl:=yd1 (f:=fM) (g:=Mover.yI) (n:=nM) (k:=k) (xs:=xs) (i:=i)
   have hs:=yd3 (f:=fM) (g:=Mover.yI) (n:=nM) (k:=k) he
   have hc:=ya1 (n:=nM) he
   have hle:=ybS (n:=nM) (xs:=xs) (i:=i + 1)
   have hn : nM e = 1 + cnt nB e.Train.Rows + 1:=rfl
   generalize hM : ycA fM Mover.yI nM k xs i = M at *
   have hlt2 : i < M.length:=by omega
   have g1 : M[i] = e.yI:=(List.getElem?_eq_some_iff.1 hg).2
   have hself : ∀ a,(M.set i a)[i]? = some a:=fun a=>List.getElem?_set_self hlt2
   simp only [Mover.yI] at hg g1
   simp -dsimp -implicitDefEqProofs [yG hlt,hg,hl,hlt2,g1,hself,setAt]
   intro hlen
   have hk : 0 ≤ k + yaK nM xs i:=by omega
   have c1 : C.ot 1 (e.Train.Rows.map yT) = C.ot 1 (e.Train.Rows.map yT):=rfl
   refine ⟨by have:=Int.tmod_nonneg 3 hk; have:=Int.tmod_lt_of_pos (k + yaK nM xs i) (b:=3) (by omega); unfold inI; omega,hlt,by unfold inI; omega,hlt,?_⟩
   refine yb3 (k0:=3) (ver:=1) (j:=1) (i:=(i : Int)) (r:=[.b (decide ((k + yaK nM xs i).tmod 3 = 0)),.ot 1 (e.Train.Rows.map yT),.i e.Place]) (c:=.ot 1 (e.Train.Rows.map yT)) (c':=.ot 1 (yaA fB nB (k + yaK nM xs i + 1) e.Train.Rows)) (yfJ e.Train.Rows (k + yaK nM xs i + 1) (by omega) (by omega)) (by simp) rfl rfl rfl (by simpa using hself _) rfl ⟨_,by rw [yH]; simp,rfl,rfl,rfl⟩ (by simp [C.sz]) ?_
   simp -dsimp -implicitDefEqProofs [setAt,hself,hlt2,hl]
   refine ⟨hlt,by unfold inI; omega,yw hlt hlen,i + 1,hlt,by omega,?_⟩
   simp only [fM] at hs
   apply yj <;> simp [Obj.leO,hs] <;> omega
  ·have : i = xs.length:=by omega
   subst this
   simp -dsimp -implicitDefEqProofs
   intro _
   rw [yd9 (Nat.le_refl _),ybl (Nat.le_refl _),List.take_of_length_le (by rw [yH]; exact Nat.le_refl _)]
   exact ⟨rfl,rfl⟩
def ydq (e : Tariff) (l : Int) : Int:=ybm (yhJ e.PerClass l) fun l=>ybm (yhJ e.Weights l) fun l=>l
theorem ylo : yey ydq Tariff.small:=by
 intro e l h0 h1
 unfold ydq
 rcases yeY e.PerClass _ h0 h1 with e0 | ⟨a0,b0,s0⟩
 ·exact .inl (yK (by omega))
 rw [yu a0]
 rcases yeY e.Weights _ a0 (by omega) with e1 | ⟨a1,b1,s1⟩
 ·exact .inl (yK (by omega))
 rw [yu a1]
 exact .inr ⟨a1,by omega,s0.1,s1.1⟩
theorem yuv (e : Tariff) (l : Int) (h0 : 0 ≤ l) (h1 : l ≤ 1048576) : yB Tryz.prog 10 [.agg (e.enc.map .c),.c (.i l)] (.c (.i (ydq e l))):=by
 refine yh yng ?_
 simp -dsimp -implicitDefEqProofs
 refine yc (yjw e.PerClass _ h0 h1) ?_
 simp -dsimp -implicitDefEqProofs
 refine ⟨fun h=>by simp [ydq,yK h],fun p0=>?_⟩
 have q0:=yin yeY e.PerClass h0 h1 p0
 refine yc (yjw e.Weights _ p0 q0) ?_
 simp -dsimp -implicitDefEqProofs
 refine ⟨fun h=>by simp [ydq,yu p0,yK h],fun p1=>?_⟩
 simp [ydq,yu p0,yu p1]
theorem ymz {α β : Type} {f : α → β} {l : List α} : (l.map f).take l.length = l.map f:=List.take_of_length_le (by simp)
def yaY (t : Train) : List Int:=if yP t then t.yas.map yfy else []
def yfv (t : Train) (k : Nat) : List Int:=(t.yas.take k).map yfy
theorem ygs {t : Train} : yfv t 0 = []:=rfl
theorem ymO {t : Train} {k : Nat} {b : Boat} (h : t.yas[k]? = some b) : yfv t (k + 1) = yfv t k ++ [b.Id]:=by
 unfold yfv; rw [List.take_succ,h,List.map_append]; rfl
theorem yo4 {t : Train} {k : Nat} (h : t.yas.length ≤ k) : yfv t k = t.yas.map yfy:=by
 unfold yfv; rw [List.take_of_length_le h]
theorem yp8 {t : Train} {k : Nat} (h : k ≤ t.yas.length) : (yfv t k).length = k:=by
 unfold yfv; simp; omega
theorem yuz (t : Train) (h : t.small) : yB Tryz.prog 92 [.agg (t.enc.map .c)] (.c (.sl 1 ((yaY t).map yJ))):=by
 refine yh ysm ?_
 simp -dsimp -implicitDefEqProofs
 refine yc (ydp t h) ?_
 cases h1 : yP t with
 | false=>simp -dsimp -implicitDefEqProofs; simp [yaY,h1]
 | true =>
  have tf:=yhY h1
  have h6:=tf.len
  simp -dsimp -implicitDefEqProofs
  refine yS (yya t h) ?_
  simp -dsimp -implicitDefEqProofs
  intro hlen
  refine ymd (k0:=1) 3 1 (by simp) (by simp) (by decide) ?_
  refine yg (ι:=Nat) (fun k=>k ≤ t.yas.length) (fun k=>yO [(3,.own 3 1 (yfv t k).length),(10,.c (.sl 6 (t.yas.map Boat.enc))),(11,.c (.i t.yas.length)),(12,.c (.i k))] [(3,.row 1 ((yfv t k).map yJ))]) (fun k=>t.yas.length - k) 0 (by simp) (by apply yj <;> simp [ygs]) ?_
  rintro k hk
  have hkl:=yp8 hk
  rcases Nat.lt_or_ge k t.yas.length with hlt | hge
  ·obtain ⟨b,hb⟩ : ∃ b,t.yas[k]? = some b:=⟨_,List.getElem?_eq_getElem hlt⟩
   simp -dsimp -implicitDefEqProofs [hb,yG hlt]
   refine ⟨by omega,yw hlt hlen,k + 1,hlt,by omega,?_⟩
   apply yj <;> simp [ymO hb]
  ·simp -dsimp -implicitDefEqProofs [yaB hge]
   rw [ymz,yo4 hge]
   simp [yaY,h1]
theorem yvW (t : Train) (h : t.small) : yB Tryz.prog 84 [.agg (t.enc.map .c)] (.c (.sl 1 ((yaY t).map yJ))):=by
 refine yh ysG ?_
 simp -dsimp -implicitDefEqProofs
 refine yS (yoX t h) ?_
 simp -dsimp -implicitDefEqProofs
 refine yg (ι:=Nat) (fun k=>k ≤ t.yas.length ∧ (k ≠ 0 → yP t = true)) (fun k=>yO [(1,.box 1 0),(3,.own 6 1 (yfv t k).length),(4,.c (.sl 6 (t.yas.map Boat.enc))),(5,.c (.i k))] [(1,.box (t.enc.map .c)),(6,.row 1 ((yfv t k).map yJ))]) (fun k=>t.yas.length - k) 0 (by simp) (by apply yj <;> simp [ygs]) ?_
 rintro k ⟨hk,hok⟩
 have hkl:=yp8 hk
 have fin : yP t = false → k = 0:=fun h1=>by
  rcases Nat.eq_zero_or_pos k with e | e
  ·exact e
  ·rw [hok (by omega)] at h1; cases h1
 rcases Nat.lt_or_ge k t.yas.length with hlt | hge
 ·obtain ⟨b,hb⟩ : ∃ b,t.yas[k]? = some b:=⟨_,List.getElem?_eq_getElem hlt⟩
  simp -dsimp -implicitDefEqProofs [hb,yG hlt]
  intro hlen
  refine yc (yds t h) ?_
  cases h1 : yP t with
  | false =>
   have:=fin h1
   subst this
   simp -dsimp -implicitDefEqProofs
   simp [yaY,h1,ygs]
  | true =>
   have h6:=(yhY h1).len
   simp -dsimp -implicitDefEqProofs [hb,yG hlt]
   refine ⟨by omega,yw hlt hlen,k + 1,by first | exact ⟨hlt,fun _=>h1⟩ | exact hlt,by omega,?_⟩
   apply yj <;> simp [ymO hb]
 ·simp -dsimp -implicitDefEqProofs [yaB hge]
  intro _
  rw [ymz]
  by_cases h1 : yP t = true
  ·rw [yo4 hge]; simp [yaY,h1]
  ·have:=fin (by simpa using h1)
   subst this
   simp [yaY,h1,ygs]
theorem ytb {t : Train} (h : yP t = true) : (yaY t).length ≤ 6:=by
 have:=(yhY h).len
 simp [yaY,h]; omega
theorem yEL {t : Train} (h : yP t = true) : (yaY t).Nodup:=by
 have:=(yhY h).nd
 simp only [yaY,h,if_true]; exact this
def ydk : List Train → Int → Int:=yeE yb2
def ybV : List Train → Prop:=ycs Train.small
theorem yhu : yey ydk ybV:=ygj ye7
theorem ym0 (xs : List Train) (l : Int) (h0 : 0 ≤ l) (h1 : l ≤ 1048576) : yB Tryz.prog 79 [.c (.sl 2 (xs.map Train.enc)),.c (.i l)] (.c (.i (ydk xs l))):=by
 refine yh ynN ?_
 simp -dsimp -implicitDefEqProofs
 intro hl
 have hs : szS xs.length l = if l - xs.length < 0 then -1 else l - xs.length:=rfl
 refine ⟨by unfold maxLen at hl; unfold inI; omega,fun h=>?_,fun h=>?_⟩
 ·simp [ydk,yeE,ybm,hs,h]
 have h' : 0 ≤ l - xs.length:=by omega
 have e0 : ydk xs l = yaw yb2 xs (l - xs.length):=by
  have : szS xs.length l = l - xs.length:=by rw [hs,if_neg (by omega)]
  simp only [ydk,yeE]
  rw [this,yu h']
 refine yg (ι:=Nat × Int) (fun p=>p.1 ≤ xs.length ∧ 0 ≤ p.2 ∧ p.2 ≤ 1048576 ∧ yaw yb2 (xs.drop p.1) p.2 = ydk xs l) (fun p=>yO [(0,.c (.sl 2 (xs.map Train.enc))),(1,.c (.i p.2)),(5,.c (.i p.1))] []) (fun p=>xs.length - p.1) (0,l - xs.length) ⟨by simp,h',by simp only; omega,by simp [e0]⟩ (by apply yj <;> simp) ?_
 rintro ⟨k,q⟩ ⟨hk,hq0,hq1,hf⟩
 simp only at hk hq0 hq1 hf
 rcases Nat.lt_or_ge k xs.length with hlt | hge
 ·obtain ⟨e,he⟩ : ∃ e,xs[k]? = some e:=⟨_,List.getElem?_eq_getElem hlt⟩
  have hd : xs.drop k = e :: xs.drop (k + 1):=by
   rw [List.drop_eq_getElem_cons hlt,(List.getElem?_eq_some_iff.1 he).2]
  rw [hd,yaw] at hf
  simp -dsimp -implicitDefEqProofs [he,yG hlt]
  refine fun _=>yaQ (yhF e q hq0 hq1) (by simp) rfl ?_
  simp -dsimp -implicitDefEqProofs
  refine ⟨fun h=>by rw [← hf,yK h],fun h=>⟨yw hlt hl,k + 1,⟨yb2 e q,?_⟩⟩⟩
  rw [yu h] at hf
  have hle : yb2 e q ≤ 1048576:=by
   rcases ye7 e q hq0 hq1 with e1 | e1
   ·omega
   ·omega
  exact ⟨⟨hlt,h,hle,hf⟩,by omega,by apply yj <;> simp⟩
 ·simp -dsimp -implicitDefEqProofs [yaB hge]
  rw [List.drop_of_length_le hge] at hf
  intro _
  first | simpa [yaw] using hf | simpa [yaw] using hf.symm
theorem ypD (xs : List Train) (hl : ybV xs) : yB Tryz.prog 87 [.c (.sl 2 (xs.map Train.enc))] (.c (.sl 2 (xs.map Train.enc))):=by
 refine yh yij ?_
 simp -dsimp -implicitDefEqProofs
 intro hlen
 have hl1:=hl.1
 refine ⟨by omega,?_⟩
 refine yg (ι:=Nat) (fun k=>k ≤ xs.length) (fun k=>yO [(0,.c (.sl 2 (xs.map Train.enc))),(3,.own 7 2 xs.length),(4,.c (.i k))] [(7,.row 2 (partly Train.enc [.b false,.sl 1 []] xs k))]) (fun k=>xs.length - k) 0 (by simp) (by apply yj <;> simp [yab]) ?_
 rintro k hk
 rcases Nat.lt_or_ge k xs.length with hlt | hge
 ·obtain ⟨e,he⟩ : ∃ e,xs[k]? = some e:=⟨_,List.getElem?_eq_getElem hlt⟩
  have hs:=yaj (f:=Train.enc) (z:=[.b false,.sl 1 []]) he
  have hd:=yav (f:=Train.enc) (z:=[.b false,.sl 1 []]) (n:=2) rfl hlt
  simp only [Train.enc] at hs
  simp -dsimp -implicitDefEqProofs [he,yG hlt]
  refine fun _=>yaP (yjt e (hl.2 e (List.mem_of_getElem? he))) (by simp) rfl ?_
  simp -dsimp -implicitDefEqProofs [yG hlt,yak hk,hd,hs]
  exact ⟨hlt,yw hlt hlen,k + 1,hlt,by omega,by apply yj <;> simp⟩
 ·simp -dsimp -implicitDefEqProofs [yaB hge]
  intro _
  rw [yam hge,List.take_of_length_le (by simp)]
theorem ypz (es fs : List Train) : yB Tryz.prog 54 [.c (.sl 2 (es.map Train.enc)),.c (.sl 2 (fs.map Train.enc))] (.c (.b (decide (es = fs)))):=by
 refine yh ynC ?_
 simp -dsimp -implicitDefEqProofs
 intro hl1 hl2
 refine ⟨fun h e=>h (by rw [e]),fun hlen=>?_⟩
 have hlen' : es.length = fs.length:=by omega
 refine yg (ι:=Nat) (fun k=>k ≤ es.length ∧ es.take k = fs.take k) (fun k=>yO [(0,.c (.sl 2 (es.map Train.enc))),(1,.c (.sl 2 (fs.map Train.enc))),(5,.c (.i k))] []) (fun k=>es.length - k) 0 (by simp) (by apply yj <;> simp) ?_
 rintro k ⟨hk,htk⟩
 rcases Nat.lt_or_ge k es.length with hlt | hge
 ·obtain ⟨e,he⟩ : ∃ e,es[k]? = some e:=⟨_,List.getElem?_eq_getElem hlt⟩
  obtain ⟨f,hf⟩ : ∃ f,fs[k]? = some f:=⟨_,List.getElem?_eq_getElem (by omega)⟩
  simp -dsimp -implicitDefEqProofs [he,hf,yG hlt,yG (hlen' ▸ hlt)]
  intro _
  refine yaC (yjG e f) ?_
  simp -dsimp -implicitDefEqProofs
  refine ⟨fun h=>ybG he hf h,fun h=>⟨yw hlt hl1,k + 1,⟨hlt,yaR he hf htk h⟩,by omega,by apply yj <;> simp⟩⟩
 ·simp -dsimp -implicitDefEqProofs [yaB hge]
  intro _
  exact ybf hge hlen' htk
structure Lock where
 Length : Int
 Width : Int
 SillAbove : Int
 SillBelow : Int
 Base : Int
 Area : Int
 Rate : Int
 Water : Int
 Gate : Int
 Inside : List Train
 deriving DecidableEq,Inhabited
@[simp] def Lock.enc (e : Lock) : List C:=[.i e.Length,.i e.Width,.i e.SillAbove,.i e.SillBelow,.i e.Base,.i e.Area,.i e.Rate,.i e.Water,.i e.Gate,.sl 2 (e.Inside.map Train.enc)]
-- Lock
def ygm (e : Lock) (l : Int) : Int:=ybm (ydk e.Inside l) fun l=>l
def Lock.small (e : Lock) : Prop:=ybV e.Inside
theorem yoa : yey ygm Lock.small:=by
 intro e l h0 h1
 unfold ygm
 rcases yhu e.Inside _ h0 h1 with e0 | ⟨a0,b0,s0⟩
 ·exact .inl (yK (by omega))
 rw [yu a0]
 exact .inr ⟨a0,by omega,s0⟩
theorem yxv (e : Lock) (l : Int) (h0 : 0 ≤ l) (h1 : l ≤ 1048576) : yB Tryz.prog 111 [.agg (e.enc.map .c),.c (.i l)] (.c (.i (ygm e l))):=by
 refine yh yqV ?_
 simp -dsimp -implicitDefEqProofs
 refine yc (ym0 e.Inside _ h0 h1) ?_
 simp -dsimp -implicitDefEqProofs
 refine ⟨fun h=>by simp [ygm,yK h],fun p0=>?_⟩
 simp [ygm,yu p0]
theorem yAz (e : Lock) (hl : Lock.small e) : yB Tryz.prog 123 [.agg (e.enc.map .c)] (.agg (e.enc.map .c)):=by
 refine yh ykg ?_
 simp -dsimp -implicitDefEqProofs
 refine yS (ypD e.Inside hl) ?_
 simp -dsimp -implicitDefEqProofs
theorem yy8 (a b : Lock) : yB Tryz.prog 147 [.agg (a.enc.map .c),.agg (b.enc.map .c)] (.c (.b (decide (a = b)))):=by
 refine yh yq4 ?_
 obtain ⟨a0,a1,a2,a3,a4,a5,a6,a7,a8,a9⟩:=a
 obtain ⟨b0,b1,b2,b3,b4,b5,b6,b7,b8,b9⟩:=b
 simp -dsimp -implicitDefEqProofs [ykf,Lock.mk.injEq]
 refine ⟨fun h=>by simp_all,fun h0=>?_⟩
 refine ⟨fun h=>by simp_all,fun h1=>?_⟩
 refine ⟨fun h=>by simp_all,fun h2=>?_⟩
 refine ⟨fun h=>by simp_all,fun h3=>?_⟩
 refine ⟨fun h=>by simp_all,fun h4=>?_⟩
 refine ⟨fun h=>by simp_all,fun h5=>?_⟩
 refine ⟨fun h=>by simp_all,fun h6=>?_⟩
 refine ⟨fun h=>by simp_all,fun h7=>?_⟩
 refine ⟨fun h=>by simp_all,fun h8=>?_⟩
 refine yc (ypz a9 b9) ?_
 simp -dsimp -implicitDefEqProofs
 refine ⟨fun h=>by simp_all,fun h9=>?_⟩
 simp_all
structure Weir where
 Gates : Int
 Open : Int
 Step : Int
 Crest : Int
 Width : Int
 deriving DecidableEq,Inhabited
@[simp] def Weir.enc (e : Weir) : List C:=[.i e.Gates,.i e.Open,.i e.Step,.i e.Crest,.i e.Width]
-- Weir
theorem yuN (e : Weir) : yB Tryz.prog 124 [.agg (e.enc.map .c)] (.agg (e.enc.map .c)):=by
 refine yh yq2 ?_
 simp -dsimp -implicitDefEqProofs
theorem yAt (a b : Weir) : yB Tryz.prog 148 [.agg (a.enc.map .c),.agg (b.enc.map .c)] (.c (.b (decide (a = b)))):=by
 refine yh yqK ?_
 obtain ⟨a0,a1,a2,a3,a4⟩:=a
 obtain ⟨b0,b1,b2,b3,b4⟩:=b
 simp -dsimp -implicitDefEqProofs [ykd,Weir.mk.injEq]
 refine ⟨fun h=>by simp_all,fun h0=>?_⟩
 refine ⟨fun h=>by simp_all,fun h1=>?_⟩
 refine ⟨fun h=>by simp_all,fun h2=>?_⟩
 refine ⟨fun h=>by simp_all,fun h3=>?_⟩
 refine ⟨fun h=>by simp_all,fun h4=>?_⟩
 simp_all
structure Rule where
 Low : Int
 High : Int
 Flood : Int
 deriving DecidableEq,Inhabited
@[simp] def Rule.enc (e : Rule) : List C:=[.i e.Low,.i e.High,.i e.Flood]
-- Rule
theorem yvb (e : Rule) : yB Tryz.prog 125 [.agg (e.enc.map .c)] (.agg (e.enc.map .c)):=by
 refine yh yqZ ?_
 simp -dsimp -implicitDefEqProofs
theorem yy7 (a b : Rule) : yB Tryz.prog 149 [.agg (a.enc.map .c),.agg (b.enc.map .c)] (.c (.b (decide (a = b)))):=by
 refine yh yqs ?_
 obtain ⟨a0,a1,a2⟩:=a
 obtain ⟨b0,b1,b2⟩:=b
 simp -dsimp -implicitDefEqProofs [yjW,Rule.mk.injEq]
 refine ⟨fun h=>by simp_all,fun h0=>?_⟩
 refine ⟨fun h=>by simp_all,fun h1=>?_⟩
 refine ⟨fun h=>by simp_all,fun h2=>?_⟩
 simp_all
structure Pause where
 From : Int
 Until : Int
 deriving DecidableEq,Inhabited
@[simp] def Pause.enc (e : Pause) : List C:=[.i e.From,.i e.Until]
-- Pause
theorem yr1 (e : Pause) : yB Tryz.prog 210 [.agg (e.enc.map .c)] (.agg (e.enc.map .c)):=by
 refine yh yqk ?_
 simp -dsimp -implicitDefEqProofs
theorem yx9 (a b : Pause) : yB Tryz.prog 225 [.agg (a.enc.map .c),.agg (b.enc.map .c)] (.c (.b (decide (a = b)))):=by
 refine yh ypk ?_
 obtain ⟨a0,a1⟩:=a
 obtain ⟨b0,b1⟩:=b
 simp -dsimp -implicitDefEqProofs [yiD,Pause.mk.injEq]
 refine ⟨fun h=>by simp_all,fun h0=>?_⟩
 refine ⟨fun h=>by simp_all,fun h1=>?_⟩
 simp_all
-- []Pause
def yhi (xs : List Pause) (l : Int) : Int:=szS xs.length l
def yfI : List Pause → Prop:=ycs fun _=>True
theorem ykI : yey yhi yfI:=yhU
theorem yt6 (xs : List Pause) (l : Int) (h0 : 0 ≤ l) (h1 : l ≤ 1048576) : yB Tryz.prog 112 [.c (.sl 2 (xs.map Pause.enc)),.c (.i l)] (.c (.i (yhi xs l))):=by
 refine yh ynK ?_
 simp -dsimp -implicitDefEqProofs [yir,yhi,szS]
 intro hl
 unfold maxLen at hl
 refine ⟨by unfold inI; omega,fun h=>?_,fun h=>?_⟩ <;> intros <;> omega
theorem ywj (xs : List Pause) (hl : yfI xs) : yB Tryz.prog 126 [.c (.sl 2 (xs.map Pause.enc))] (.c (.sl 2 (xs.map Pause.enc))):=by
 refine yh yis ?_
 simp -dsimp -implicitDefEqProofs
 intro hlen
 have hl1:=hl.1
 refine ⟨by omega,?_⟩
 refine yg (ι:=Nat) (fun k=>k ≤ xs.length) (fun k=>yO [(0,.c (.sl 2 (xs.map Pause.enc))),(3,.own 7 2 xs.length),(4,.c (.i k))] [(7,.row 2 (partly Pause.enc [.i 0,.i 0] xs k))]) (fun k=>xs.length - k) 0 (by simp) (by apply yj <;> simp [yab]) ?_
 rintro k hk
 rcases Nat.lt_or_ge k xs.length with hlt | hge
 ·obtain ⟨e,he⟩ : ∃ e,xs[k]? = some e:=⟨_,List.getElem?_eq_getElem hlt⟩
  have hs:=yaj (f:=Pause.enc) (z:=[.i 0,.i 0]) he
  have hd:=yav (f:=Pause.enc) (z:=[.i 0,.i 0]) (n:=2) rfl hlt
  simp only [Pause.enc] at hs
  simp -dsimp -implicitDefEqProofs [he,yG hlt]
  refine fun _=>yaP (yr1 e ) (by simp) rfl ?_
  simp -dsimp -implicitDefEqProofs [yG hlt,yak hk,hd,hs]
  exact ⟨hlt,yw hlt hlen,k + 1,hlt,by omega,by apply yj <;> simp⟩
 ·simp -dsimp -implicitDefEqProofs [yaB hge]
  intro _
  rw [yam hge,List.take_of_length_le (by simp)]
theorem yvs (es fs : List Pause) : yB Tryz.prog 150 [.c (.sl 2 (es.map Pause.enc)),.c (.sl 2 (fs.map Pause.enc))] (.c (.b (decide (es = fs)))):=by
 refine yh ynE ?_
 simp -dsimp -implicitDefEqProofs
 intro hl1 hl2
 refine ⟨fun h e=>h (by rw [e]),fun hlen=>?_⟩
 have hlen' : es.length = fs.length:=by omega
 refine yg (ι:=Nat) (fun k=>k ≤ es.length ∧ es.take k = fs.take k) (fun k=>yO [(0,.c (.sl 2 (es.map Pause.enc))),(1,.c (.sl 2 (fs.map Pause.enc))),(5,.c (.i k))] []) (fun k=>es.length - k) 0 (by simp) (by apply yj <;> simp) ?_
 rintro k ⟨hk,htk⟩
 rcases Nat.lt_or_ge k es.length with hlt | hge
 ·obtain ⟨e,he⟩ : ∃ e,es[k]? = some e:=⟨_,List.getElem?_eq_getElem hlt⟩
  obtain ⟨f,hf⟩ : ∃ f,fs[k]? = some f:=⟨_,List.getElem?_eq_getElem (by omega)⟩
  simp -dsimp -implicitDefEqProofs [he,hf,yG hlt,yG (hlen' ▸ hlt)]
  intro _
  refine yaC (yx9 e f) ?_
  simp -dsimp -implicitDefEqProofs
  refine ⟨fun h=>ybG he hf h,fun h=>⟨yw hlt hl1,k + 1,⟨hlt,yaR he hf htk h⟩,by omega,by apply yj <;> simp⟩⟩
 ·simp -dsimp -implicitDefEqProofs [yaB hge]
  intro _
  exact ybf hge hlen' htk
structure Turn where
 Up : Bool
 Count : Int
 deriving DecidableEq,Inhabited
@[simp] def Turn.enc (e : Turn) : List C:=[.b e.Up,.i e.Count]
-- Turn
theorem ytT (e : Turn) : yB Tryz.prog 127 [.agg (e.enc.map .c)] (.agg (e.enc.map .c)):=by
 refine yh yqv ?_
 simp -dsimp -implicitDefEqProofs
theorem yzT (a b : Turn) : yB Tryz.prog 151 [.agg (a.enc.map .c),.agg (b.enc.map .c)] (.c (.b (decide (a = b)))):=by
 refine yh yqu ?_
 obtain ⟨a0,a1⟩:=a
 obtain ⟨b0,b1⟩:=b
 simp -dsimp -implicitDefEqProofs [yj6,Turn.mk.injEq]
 refine ⟨fun h=>by simp_all,fun h0=>?_⟩
 refine ⟨fun h=>by simp_all,fun h1=>?_⟩
 simp_all
structure CallT where
 Train : Train
 Since : Int
 Booked : Int
 deriving DecidableEq,Inhabited
@[simp] def CallT.enc (e : CallT) : List C:=[.b e.Train.Up,.sl 1 (e.Train.Rows.map yai),.i e.Since,.i e.Booked]
-- Call
def ydJ (e : CallT) (l : Int) : Int:=ybm (yb2 e.Train l) fun l=>l
def CallT.small (e : CallT) : Prop:=e.Train.small
theorem yn9 : yey ydJ CallT.small:=by
 intro e l h0 h1
 unfold ydJ
 rcases ye7 e.Train _ h0 h1 with e0 | ⟨a0,b0,s0⟩
 ·exact .inl (yK (by omega))
 rw [yu a0]
 exact .inr ⟨a0,by omega,s0⟩
theorem yyC (e : CallT) (l : Int) (h0 : 0 ≤ l) (h1 : l ≤ 1048576) : yB Tryz.prog 202 [.agg (e.enc.map .c),.c (.i l)] (.c (.i (ydJ e l))):=by
 refine yh yrq ?_
 simp -dsimp -implicitDefEqProofs
 refine yc (yhF e.Train _ h0 h1) ?_
 simp -dsimp -implicitDefEqProofs
 refine ⟨fun h=>by simp [ydJ,yK h],fun p0=>?_⟩
 simp [ydJ,yu p0]
theorem yzv (e : CallT) (hl : CallT.small e) : yB Tryz.prog 211 [.agg (e.enc.map .c)] (.agg (e.enc.map .c)):=by
 refine yh yjU ?_
 simp -dsimp -implicitDefEqProofs
 refine yS (yjt e.Train hl) ?_
 simp -dsimp -implicitDefEqProofs
theorem yzt (a b : CallT) : yB Tryz.prog 226 [.agg (a.enc.map .c),.agg (b.enc.map .c)] (.c (.b (decide (a = b)))):=by
 refine yh yri ?_
 obtain ⟨a0,a1,a2⟩:=a
 obtain ⟨b0,b1,b2⟩:=b
 simp -dsimp -implicitDefEqProofs [ykh,CallT.mk.injEq]
 refine yc (yjG a0 b0) ?_
 simp -dsimp -implicitDefEqProofs
 refine ⟨fun h=>by simp_all,fun h0=>?_⟩
 refine ⟨fun h=>by simp_all,fun h1=>?_⟩
 refine ⟨fun h=>by simp_all,fun h2=>?_⟩
 simp_all
-- []Call
def yfd : List CallT → Int → Int:=yeE ydJ
def yfi : List CallT → Prop:=ycs CallT.small
theorem yu4 : yey yfd yfi:=ygj yn9
theorem yvO (xs : List CallT) (l : Int) (h0 : 0 ≤ l) (h1 : l ≤ 1048576) : yB Tryz.prog 113 [.c (.sl 4 (xs.map CallT.enc)),.c (.i l)] (.c (.i (yfd xs l))):=by
 refine yh ypT ?_
 simp -dsimp -implicitDefEqProofs
 intro hl
 have hs : szS xs.length l = if l - xs.length < 0 then -1 else l - xs.length:=rfl
 refine ⟨by unfold maxLen at hl; unfold inI; omega,fun h=>?_,fun h=>?_⟩
 ·simp [yfd,yeE,ybm,hs,h]
 have h' : 0 ≤ l - xs.length:=by omega
 have e0 : yfd xs l = yaw ydJ xs (l - xs.length):=by
  have : szS xs.length l = l - xs.length:=by rw [hs,if_neg (by omega)]
  simp only [yfd,yeE]
  rw [this,yu h']
 refine yg (ι:=Nat × Int) (fun p=>p.1 ≤ xs.length ∧ 0 ≤ p.2 ∧ p.2 ≤ 1048576 ∧ yaw ydJ (xs.drop p.1) p.2 = yfd xs l) (fun p=>yO [(0,.c (.sl 4 (xs.map CallT.enc))),(1,.c (.i p.2)),(5,.c (.i p.1))] []) (fun p=>xs.length - p.1) (0,l - xs.length) ⟨by simp,h',by simp only; omega,by simp [e0]⟩ (by apply yj <;> simp) ?_
 rintro ⟨k,q⟩ ⟨hk,hq0,hq1,hf⟩
 simp only at hk hq0 hq1 hf
 rcases Nat.lt_or_ge k xs.length with hlt | hge
 ·obtain ⟨e,he⟩ : ∃ e,xs[k]? = some e:=⟨_,List.getElem?_eq_getElem hlt⟩
  have hd : xs.drop k = e :: xs.drop (k + 1):=by
   rw [List.drop_eq_getElem_cons hlt,(List.getElem?_eq_some_iff.1 he).2]
  rw [hd,yaw] at hf
  simp -dsimp -implicitDefEqProofs [he,yG hlt]
  refine fun _=>yaQ (yyC e q hq0 hq1) (by simp) rfl ?_
  simp -dsimp -implicitDefEqProofs
  refine ⟨fun h=>by rw [← hf,yK h],fun h=>⟨yw hlt hl,k + 1,⟨ydJ e q,?_⟩⟩⟩
  rw [yu h] at hf
  have hle : ydJ e q ≤ 1048576:=by
   rcases yn9 e q hq0 hq1 with e1 | e1
   ·omega
   ·omega
  exact ⟨⟨hlt,h,hle,hf⟩,by omega,by apply yj <;> simp⟩
 ·simp -dsimp -implicitDefEqProofs [yaB hge]
  rw [List.drop_of_length_le hge] at hf
  intro _
  first | simpa [yaw] using hf | simpa [yaw] using hf.symm
theorem yxE (xs : List CallT) (hl : yfi xs) : yB Tryz.prog 128 [.c (.sl 4 (xs.map CallT.enc))] (.c (.sl 4 (xs.map CallT.enc))):=by
 refine yh yiL ?_
 simp -dsimp -implicitDefEqProofs
 intro hlen
 have hl1:=hl.1
 refine ⟨by omega,?_⟩
 refine yg (ι:=Nat) (fun k=>k ≤ xs.length) (fun k=>yO [(0,.c (.sl 4 (xs.map CallT.enc))),(3,.own 7 4 xs.length),(4,.c (.i k))] [(7,.row 4 (partly CallT.enc [.b false,.sl 1 [],.i 0,.i 0] xs k))]) (fun k=>xs.length - k) 0 (by simp) (by apply yj <;> simp [yab]) ?_
 rintro k hk
 rcases Nat.lt_or_ge k xs.length with hlt | hge
 ·obtain ⟨e,he⟩ : ∃ e,xs[k]? = some e:=⟨_,List.getElem?_eq_getElem hlt⟩
  have hs:=yaj (f:=CallT.enc) (z:=[.b false,.sl 1 [],.i 0,.i 0]) he
  have hd:=yav (f:=CallT.enc) (z:=[.b false,.sl 1 [],.i 0,.i 0]) (n:=4) rfl hlt
  simp only [CallT.enc,Train.enc] at hs
  simp -dsimp -implicitDefEqProofs [he,yG hlt]
  refine fun _=>yaP (yzv e (hl.2 e (List.mem_of_getElem? he))) (by simp) rfl ?_
  simp -dsimp -implicitDefEqProofs [yG hlt,yak hk,hd,hs]
  exact ⟨hlt,yw hlt hlen,k + 1,hlt,by omega,by apply yj <;> simp⟩
 ·simp -dsimp -implicitDefEqProofs [yaB hge]
  intro _
  rw [yam hge,List.take_of_length_le (by simp)]
theorem yxI (es fs : List CallT) : yB Tryz.prog 152 [.c (.sl 4 (es.map CallT.enc)),.c (.sl 4 (fs.map CallT.enc))] (.c (.b (decide (es = fs)))):=by
 refine yh yoS ?_
 simp -dsimp -implicitDefEqProofs
 intro hl1 hl2
 refine ⟨fun h e=>h (by rw [e]),fun hlen=>?_⟩
 have hlen' : es.length = fs.length:=by omega
 refine yg (ι:=Nat) (fun k=>k ≤ es.length ∧ es.take k = fs.take k) (fun k=>yO [(0,.c (.sl 4 (es.map CallT.enc))),(1,.c (.sl 4 (fs.map CallT.enc))),(5,.c (.i k))] []) (fun k=>es.length - k) 0 (by simp) (by apply yj <;> simp) ?_
 rintro k ⟨hk,htk⟩
 rcases Nat.lt_or_ge k es.length with hlt | hge
 ·obtain ⟨e,he⟩ : ∃ e,es[k]? = some e:=⟨_,List.getElem?_eq_getElem hlt⟩
  obtain ⟨f,hf⟩ : ∃ f,fs[k]? = some f:=⟨_,List.getElem?_eq_getElem (by omega)⟩
  simp -dsimp -implicitDefEqProofs [he,hf,yG hlt,yG (hlen' ▸ hlt)]
  intro _
  refine yaC (yzt e f) ?_
  simp -dsimp -implicitDefEqProofs
  refine ⟨fun h=>ybG he hf h,fun h=>⟨yw hlt hl1,k + 1,⟨hlt,yaR he hf htk h⟩,by omega,by apply yj <;> simp⟩⟩
 ·simp -dsimp -implicitDefEqProofs [yaB hge]
  intro _
  exact ybf hge hlen' htk
structure Work where
 Lock : Lock
 Weir : Weir
 Rule : Rule
 Pauses : List Pause
 Turn : Turn
 Calls : List CallT
 deriving DecidableEq,Inhabited
@[simp] def Work.enc (e : Work) : List C:=[.i e.Lock.Length,.i e.Lock.Width,.i e.Lock.SillAbove,.i e.Lock.SillBelow,.i e.Lock.Base,.i e.Lock.Area,.i e.Lock.Rate,.i e.Lock.Water,.i e.Lock.Gate,.sl 2 (e.Lock.Inside.map Train.enc),.i e.Weir.Gates,.i e.Weir.Open,.i e.Weir.Step,.i e.Weir.Crest,.i e.Weir.Width,.i e.Rule.Low,.i e.Rule.High,.i e.Rule.Flood,.sl 2 (e.Pauses.map Pause.enc),.b e.Turn.Up,.i e.Turn.Count,.sl 4 (e.Calls.map CallT.enc)]
-- Work
def ycY (e : Work) (l : Int) : Int:=ybm (ygm e.Lock l) fun l=>ybm (yhi e.Pauses l) fun l=>ybm (yfd e.Calls l) fun l=>l
def Work.small (e : Work) : Prop:=e.Lock.small ∧ yfI e.Pauses ∧ yfi e.Calls
theorem yn3 : yey ycY Work.small:=by
 intro e l h0 h1
 unfold ycY
 rcases yoa e.Lock _ h0 h1 with e0 | ⟨a0,b0,s0⟩
 ·exact .inl (yK (by omega))
 rw [yu a0]
 rcases ykI e.Pauses _ a0 (by omega) with e1 | ⟨a1,b1,s1⟩
 ·exact .inl (yK (by omega))
 rw [yu a1]
 rcases yu4 e.Calls _ a1 (by omega) with e2 | ⟨a2,b2,s2⟩
 ·exact .inl (yK (by omega))
 rw [yu a2]
 exact .inr ⟨a2,by omega,s0,s1,s2⟩
theorem yym (e : Work) (l : Int) (h0 : 0 ≤ l) (h1 : l ≤ 1048576) : yB Tryz.prog 41 [.agg (e.enc.map .c),.c (.i l)] (.c (.i (ycY e l))):=by
 refine yh yqH ?_
 simp -dsimp -implicitDefEqProofs
 refine yc (yxv e.Lock _ h0 h1) ?_
 simp -dsimp -implicitDefEqProofs
 refine ⟨fun h=>by simp [ycY,yK h],fun p0=>?_⟩
 have q0:=yin yoa e.Lock h0 h1 p0
 refine yc (yt6 e.Pauses _ p0 q0) ?_
 simp -dsimp -implicitDefEqProofs
 refine ⟨fun h=>by simp [ycY,yu p0,yK h],fun p1=>?_⟩
 have q1:=yin ykI e.Pauses p0 q0 p1
 refine yc (yvO e.Calls _ p1 q1) ?_
 simp -dsimp -implicitDefEqProofs
 refine ⟨fun h=>by simp [ycY,yu p0,yu p1,yK h],fun p2=>?_⟩
 simp [ycY,yu p0,yu p1,yu p2]
theorem yzs (e : Work) (hl : Work.small e) : yB Tryz.prog 48 [.agg (e.enc.map .c)] (.agg (e.enc.map .c)):=by
 refine yh yka ?_
 simp -dsimp -implicitDefEqProofs
 refine yS (yAz e.Lock (hl.1)) ?_
 simp -dsimp -implicitDefEqProofs
 refine yS (yuN e.Weir) ?_
 simp -dsimp -implicitDefEqProofs
 refine yS (yvb e.Rule) ?_
 simp -dsimp -implicitDefEqProofs
 refine yS (ywj e.Pauses (hl.2.1)) ?_
 simp -dsimp -implicitDefEqProofs
 refine yS (ytT e.Turn) ?_
 simp -dsimp -implicitDefEqProofs
 refine yS (yxE e.Calls (hl.2.2)) ?_
 simp -dsimp -implicitDefEqProofs
theorem yy2 (a b : Work) : yB Tryz.prog 60 [.agg (a.enc.map .c),.agg (b.enc.map .c)] (.c (.b (decide (a = b)))):=by
 refine yh yqq ?_
 obtain ⟨a0,a1,a2,a3,a4,a5⟩:=a
 obtain ⟨b0,b1,b2,b3,b4,b5⟩:=b
 simp -dsimp -implicitDefEqProofs [yj1,Work.mk.injEq]
 refine yc (yy8 a0 b0) ?_
 simp -dsimp -implicitDefEqProofs
 refine ⟨fun h=>by simp_all,fun h0=>?_⟩
 refine yc (yAt a1 b1) ?_
 simp -dsimp -implicitDefEqProofs
 refine ⟨fun h=>by simp_all,fun h1=>?_⟩
 refine yc (yy7 a2 b2) ?_
 simp -dsimp -implicitDefEqProofs
 refine ⟨fun h=>by simp_all,fun h2=>?_⟩
 refine yc (yvs a3 b3) ?_
 simp -dsimp -implicitDefEqProofs
 refine ⟨fun h=>by simp_all,fun h3=>?_⟩
 refine yc (yzT a4 b4) ?_
 simp -dsimp -implicitDefEqProofs
 refine ⟨fun h=>by simp_all,fun h4=>?_⟩
 refine yc (yxI a5 b5) ?_
 simp -dsimp -implicitDefEqProofs
 refine ⟨fun h=>by simp_all,fun h5=>?_⟩
 simp_all
def yaH (w : Weir) : Bool:=inRange w.Gates 1 8 && inRange w.Open 0 (10 * w.Gates) && inRange w.Step 1 80 && inRange w.Crest 0 100000 && inRange w.Width 1 1000
theorem ydW (w : Weir) : yB Tryz.prog 240 [.agg (w.enc.map .c)] (.c (.b (yaH w))):=by
 refine yh yqY ?_
 simp -dsimp -implicitDefEqProofs
 refine yc (yC w.Gates 1 8) ?_
 cases h0 : inRange w.Gates 1 8 with
 | false=>simp -dsimp -implicitDefEqProofs; simp [yaH,h0]
 | true =>
 simp -dsimp -implicitDefEqProofs
 refine ⟨by have:=yF.1 h0; unfold inI; omega,?_⟩
 refine yc (yC w.Open 0 (10 * w.Gates)) ?_
 cases h1 : inRange w.Open 0 (10 * w.Gates) with
 | false=>simp -dsimp -implicitDefEqProofs; simp [yaH,h0,h1]
 | true =>
 simp -dsimp -implicitDefEqProofs
 refine yc (yC w.Step 1 80) ?_
 cases h2 : inRange w.Step 1 80 with
 | false=>simp -dsimp -implicitDefEqProofs; simp [yaH,h0,h1,h2]
 | true =>
 simp -dsimp -implicitDefEqProofs
 refine yc (yC w.Crest 0 100000) ?_
 cases h3 : inRange w.Crest 0 100000 with
 | false=>simp -dsimp -implicitDefEqProofs; simp [yaH,h0,h1,h2,h3]
 | true =>
 simp -dsimp -implicitDefEqProofs
 refine yc (yC w.Width 1 1000) ?_
 cases h4 : inRange w.Width 1 1000 with
 | false=>simp -dsimp -implicitDefEqProofs; simp [yaH,h0,h1,h2,h3,h4]
 | true =>
  simp -dsimp -implicitDefEqProofs; simp [yaH,h0,h1,h2,h3,h4]
theorem yd2 (w : Weir) : yB Tryz.prog 185 [.agg (w.enc.map .c)] (.c (.b (yaH w))):=by
 refine yh yq7 ?_
 simp -dsimp -implicitDefEqProofs
 refine yc (yD w.Gates 1 8) ?_
 cases h0 : inRange w.Gates 1 8 with
 | false=>simp -dsimp -implicitDefEqProofs; simp [yaH,h0]
 | true =>
 simp -dsimp -implicitDefEqProofs
 refine ⟨by have:=yF.1 h0; unfold inI; omega,?_⟩
 refine yc (yD w.Open 0 (10 * w.Gates)) ?_
 cases h1 : inRange w.Open 0 (10 * w.Gates) with
 | false=>simp -dsimp -implicitDefEqProofs; simp [yaH,h0,h1]
 | true =>
 simp -dsimp -implicitDefEqProofs
 refine yc (yD w.Step 1 80) ?_
 cases h2 : inRange w.Step 1 80 with
 | false=>simp -dsimp -implicitDefEqProofs; simp [yaH,h0,h1,h2]
 | true =>
 simp -dsimp -implicitDefEqProofs
 refine yc (yD w.Crest 0 100000) ?_
 cases h3 : inRange w.Crest 0 100000 with
 | false=>simp -dsimp -implicitDefEqProofs; simp [yaH,h0,h1,h2,h3]
 | true =>
 simp -dsimp -implicitDefEqProofs
 refine yc (yD w.Width 1 1000) ?_
 cases h4 : inRange w.Width 1 1000 with
 | false=>simp -dsimp -implicitDefEqProofs; simp [yaH,h0,h1,h2,h3,h4]
 | true =>
  simp -dsimp -implicitDefEqProofs; simp [yaH,h0,h1,h2,h3,h4]
def yca (r : Rule) : Bool:=inRange r.Low 0 100000 && inRange r.High 0 100000 && inRange r.Flood 0 100000 && decide (r.Low < r.High) && decide (r.High ≤ r.Flood)
theorem yji (r : Rule) : yB Tryz.prog 241 [.agg (r.enc.map .c)] (.c (.b (yca r))):=by
 refine yh yqW ?_
 simp -dsimp -implicitDefEqProofs
 refine yc (yC r.Low 0 100000) ?_
 cases h0 : inRange r.Low 0 100000 with
 | false=>simp -dsimp -implicitDefEqProofs; simp [yca,h0]
 | true =>
 simp -dsimp -implicitDefEqProofs
 refine yc (yC r.High 0 100000) ?_
 cases h1 : inRange r.High 0 100000 with
 | false=>simp -dsimp -implicitDefEqProofs; simp [yca,h0,h1]
 | true =>
 simp -dsimp -implicitDefEqProofs
 refine yc (yC r.Flood 0 100000) ?_
 cases h2 : inRange r.Flood 0 100000 with
 | false=>simp -dsimp -implicitDefEqProofs; simp [yca,h0,h1,h2]
 | true =>
 simp -dsimp -implicitDefEqProofs
 simp [yca,h0,h1,h2]
 exact ⟨fun h _=>h,fun a b=>by omega⟩
theorem yiX (r : Rule) : yB Tryz.prog 186 [.agg (r.enc.map .c)] (.c (.b (yca r))):=by
 refine yh yq6 ?_
 simp -dsimp -implicitDefEqProofs
 refine yc (ybj r.Low) ?_
 cases h0 : inRange r.Low 0 100000 with
 | false=>simp -dsimp -implicitDefEqProofs; simp [yca,h0]
 | true =>
 simp -dsimp -implicitDefEqProofs
 refine yc (ybj r.High) ?_
 cases h1 : inRange r.High 0 100000 with
 | false=>simp -dsimp -implicitDefEqProofs; simp [yca,h0,h1]
 | true =>
 simp -dsimp -implicitDefEqProofs
 refine yc (ybj r.Flood) ?_
 cases h2 : inRange r.Flood 0 100000 with
 | false=>simp -dsimp -implicitDefEqProofs; simp [yca,h0,h1,h2]
 | true =>
 simp -dsimp -implicitDefEqProofs
 simp [yca,h0,h1,h2]
 exact ⟨fun h _=>h,fun a b=>by omega⟩
def ype (t : Turn) : Bool:=inRange t.Count 0 1000000
theorem ytY (t : Turn) : yB Tryz.prog 255 [.agg (t.enc.map .c)] (.c (.b (ype t))):=by
 refine yh yqP ?_
 simp -dsimp -implicitDefEqProofs
 refine yc (yC t.Count 0 1000000) ?_
 simp -dsimp -implicitDefEqProofs
 try rfl
theorem yuW (t : Turn) : yB Tryz.prog 252 [.agg (t.enc.map .c)] (.c (.b (ype t))):=by
 refine yh yrl ?_
 simp -dsimp -implicitDefEqProofs
 refine yc (yD t.Count 0 1000000) ?_
 simp -dsimp -implicitDefEqProofs
 try rfl
def yb9 (c : CallT) : Bool:=yP c.Train && inRange c.Since 0 1000000 && inRange c.Booked (-1) 1000000
theorem ytF (c : CallT) (h : c.small) : yB Tryz.prog 256 [.agg (c.enc.map .c)] (.c (.b (yb9 c))):=by
 refine yh yqU ?_
 simp -dsimp -implicitDefEqProofs
 refine yc (ydp c.Train h) ?_
 cases h0 : yP c.Train with
 | false=>simp -dsimp -implicitDefEqProofs; simp [yb9,h0]
 | true =>
 simp -dsimp -implicitDefEqProofs
 refine yc (yC c.Since 0 1000000) ?_
 cases h1 : inRange c.Since 0 1000000 with
 | false=>simp -dsimp -implicitDefEqProofs; simp [yb9,h0,h1]
 | true =>
 simp -dsimp -implicitDefEqProofs
 refine yc (yC c.Booked (-1) 1000000) ?_
 cases h2 : inRange c.Booked (-1) 1000000 with
 | false=>simp -dsimp -implicitDefEqProofs; simp [yb9,h0,h1,h2]
 | true =>
  simp -dsimp -implicitDefEqProofs; simp [yb9,h0,h1,h2]
theorem yt9 (c : CallT) (h : c.small) : yB Tryz.prog 249 [.agg (c.enc.map .c)] (.c (.b (yb9 c))):=by
 refine yh yqt ?_
 simp -dsimp -implicitDefEqProofs
 refine yc (yds c.Train h) ?_
 cases h0 : yP c.Train with
 | false=>simp -dsimp -implicitDefEqProofs; simp [yb9,h0]
 | true =>
 simp -dsimp -implicitDefEqProofs
 refine yc (yD c.Since 0 1000000) ?_
 cases h1 : inRange c.Since 0 1000000 with
 | false=>simp -dsimp -implicitDefEqProofs; simp [yb9,h0,h1]
 | true =>
 simp -dsimp -implicitDefEqProofs
 refine yc (yD c.Booked (-1) 1000000) ?_
 cases h2 : inRange c.Booked (-1) 1000000 with
 | false=>simp -dsimp -implicitDefEqProofs; simp [yb9,h0,h1,h2]
 | true =>
  simp -dsimp -implicitDefEqProofs; simp [yb9,h0,h1,h2]
def yc1 (b : Int) (p : Pause) : Bool:=!decide (p.From < b) && !decide (p.Until ≤ p.From) && !decide (1000000 < p.Until)
def yct : Int → List Pause → Bool
 | _,[]=>true
 | b,p :: l=>yc1 b p && yct p.Until l
def ycD (l : List Pause) : Bool:=decide (l.length ≤ 8) && yct 0 l
theorem ymZ {l : List Pause} {k : Nat} {p : Pause} {b : Int} (h : l[k]? = some p) : yct b (l.drop k) = (yc1 b p && yct p.Until (l.drop (k + 1))):=by
 have hlt:=(List.getElem?_eq_some_iff.1 h).1
 rw [List.drop_eq_getElem_cons hlt,(List.getElem?_eq_some_iff.1 h).2]; rfl
theorem yqL (l : List Pause) : yB Tryz.prog 254 [.c (.sl 2 (l.map Pause.enc))] (.c (.b (ycD l))):=by
 refine yh ynJ ?_
 simp -dsimp -implicitDefEqProofs
 intro hlen
 refine ⟨fun h8=>(by simp [ycD]; omega),fun h8=>?_⟩
 refine fun _=>yg (ι:=Nat × Int) (fun q=>q.1 ≤ l.length ∧ yct q.2 (l.drop q.1) = yct 0 l) (fun q=>yO [(3,.c (.i q.2)),(9,.c (.sl 2 (l.map Pause.enc))),(10,.c (.i l.length)),(11,.c (.i q.1))] []) (fun q=>l.length - q.1) (0,0) (by simp) (by apply yj <;> simp) ?_
 rintro ⟨k,b⟩ ⟨hk,hf⟩
 simp only at hk hf
 rcases Nat.lt_or_ge k l.length with hlt | hge
 ·obtain ⟨p,hp⟩ : ∃ p,l[k]? = some p:=⟨_,List.getElem?_eq_getElem hlt⟩
  rw [ymZ hp] at hf
  have bad : yc1 b p = false → ycD l = false:=fun e=>by rw [e,Bool.false_and] at hf; simp [ycD,← hf]
  simp -dsimp -implicitDefEqProofs [hp,yG hlt]
  refine ⟨fun h1=>?_,fun h1=>(bad (by simp [yc1]; omega))⟩
  refine ⟨fun h2=>?_,fun h2=>(bad (by simp [yc1]; omega))⟩
  refine ⟨fun h3=>(bad (by simp [yc1]; omega)),fun h3=>?_⟩
  have hok : yc1 b p = true:=by simp [yc1]; omega
  rw [hok,Bool.true_and] at hf
  exact ⟨yw hlt hlen,k + 1,p.Until,⟨hlt,hf⟩,by omega,by apply yj <;> simp⟩
 ·simp -dsimp -implicitDefEqProofs [yaB hge]
  rw [List.drop_of_length_le hge] at hf
  have h8' : l.length ≤ 8:=by omega
  simp [ycD,h8',← hf,yct]
theorem yrd (l : List Pause) : yB Tryz.prog 251 [.c (.sl 2 (l.map Pause.enc))] (.c (.b (ycD l))):=by
 refine yh yny ?_
 simp -dsimp -implicitDefEqProofs
 refine yg (ι:=Nat × Int) (fun q=>q.1 ≤ l.length ∧ yct q.2 (l.drop q.1) = yct 0 l) (fun q=>yO [(0,.c (.sl 2 (l.map Pause.enc))),(3,.c (.i q.2)),(4,.c (.i q.1))] []) (fun q=>l.length - q.1) (0,0) (by simp) (by apply yj <;> simp) ?_
 rintro ⟨k,b⟩ ⟨hk,hf⟩
 simp only at hk hf
 rcases Nat.lt_or_ge k l.length with hlt | hge
 ·obtain ⟨p,hp⟩ : ∃ p,l[k]? = some p:=⟨_,List.getElem?_eq_getElem hlt⟩
  rw [ymZ hp] at hf
  have bad : yc1 b p = false → ycD l = false:=fun e=>by rw [e,Bool.false_and] at hf; simp [ycD,← hf]
  simp -dsimp -implicitDefEqProofs [hp,yG hlt]
  intro hlen
  refine ⟨fun h1=>?_,fun h1=>(bad (by simp [yc1]; omega))⟩
  refine ⟨fun h2=>?_,fun h2=>(bad (by simp [yc1]; omega))⟩
  refine ⟨fun h3=>(bad (by simp [yc1]; omega)),fun h3=>?_⟩
  have hok : yc1 b p = true:=by simp [yc1]; omega
  rw [hok,Bool.true_and] at hf
  exact ⟨yw hlt hlen,k + 1,p.Until,⟨hlt,hf⟩,by omega,by apply yj <;> simp⟩
 ·simp -dsimp -implicitDefEqProofs [yaB hge]
  rw [List.drop_of_length_le hge] at hf
  simp [ycD,← hf,yct]
  try omega
def yaN (l : List Train) (k : Nat) : List Int:=(l.take k).flatMap yaY
def seenAt (l : List Train) (k : Nat) (t : Train) (j : Nat) : List Int:=yaN l k ++ (yaY t).take j
def Distinct (l : List Train) : Bool:=decide (l.length ≤ 8) && l.all yP && decide ((l.flatMap yaY).Nodup)
theorem yfN {l : List Train} : yaN l 0 = []:=rfl
theorem yfP {l : List Train} {k : Nat} {t : Train} (h : l[k]? = some t) : yaN l (k + 1) = yaN l k ++ yaY t:=by
 unfold yaN; rw [List.take_succ,h,List.flatMap_append]; simp
theorem ymM {l : List Train} {k : Nat} (h : l.length ≤ k) : yaN l k = l.flatMap yaY:=by
 unfold yaN; rw [List.take_of_length_le h]
theorem yrr {l : List Train} {k : Nat} {t : Train} (h : l[k]? = some t) : ∃ m,l.flatMap yaY = yaN l k ++ yaY t ++ m:=by
 refine ⟨(l.drop (k + 1)).flatMap yaY,?_⟩
 rw [← yfP h]
 unfold yaN
 rw [← List.flatMap_append,List.take_append_drop]
theorem ymU {l : List Train} {k : Nat} {t : Train} : seenAt l k t 0 = yaN l k:=by simp [seenAt]
theorem ym2 {l : List Train} {k j : Nat} {t : Train} {x : Int} (h : (yaY t)[j]? = some x) : seenAt l k t (j + 1) = seenAt l k t j ++ [x]:=by
 unfold seenAt; rw [List.take_succ,h]; simp
theorem ypH {l : List Train} {k j : Nat} {t : Train} (ht : l[k]? = some t) (h : (yaY t).length ≤ j) : seenAt l k t j = yaN l (k + 1):=by
 unfold seenAt; rw [List.take_of_length_le h,yfP ht]
theorem ymJ {l : List Train} (k : Nat) (h : ∀ t ∈ l.take k,yP t = true) : (yaN l k).length ≤ 6 * k:=by
 have key : ∀ (m : List Train),(∀ t ∈ m,yP t = true) → (m.flatMap yaY).length ≤ 6 * m.length:=by
  intro m
  induction m with
  | nil=>simp
  | cons t m ih =>
   intro hm
   have h1:=ytb (hm t (by simp))
   have h2:=ih fun x hx=>hm x (by simp [hx])
   simp only [List.flatMap_cons,List.length_append,List.length_cons]; omega
 have:=key (l.take k) h
 have h2 : (l.take k).length ≤ k:=by rw [List.length_take]; omega
 unfold yaN; omega
theorem twice {l : List Train} {k j : Nat} {t : Train} {x : Int} (ht : l[k]? = some t) (hx : (yaY t)[j]? = some x) (hm : x ∈ seenAt l k t j) : Distinct l = false:=by
 have : ¬ (l.flatMap yaY).Nodup:=by
  intro hn
  obtain ⟨m,e⟩:=yrr ht
  have hlt:=(List.getElem?_eq_some_iff.1 hx).1
  have e2 : yaY t = (yaY t).take j ++ x :: (yaY t).drop (j + 1):=by
   conv=>lhs; rw [← List.take_append_drop j (yaY t)]
   rw [List.drop_eq_getElem_cons hlt,(List.getElem?_eq_some_iff.1 hx).2]
  have e3 : l.flatMap yaY = seenAt l k t j ++ x :: ((yaY t).drop (j + 1) ++ m):=by
   rw [e]; unfold seenAt; conv=>lhs; rw [e2]
   simp
  rw [e3] at hn
  exact (List.nodup_append.1 hn).2.2 x hm x (by simp) rfl
 simp [Distinct,this]
theorem yrv {l : List Train} {k : Nat} {t : Train} (ht : l[k]? = some t) (h : yP t = false) : Distinct l = false:=by
 have : l.all yP = false:=all_false (p:=yP) ht h
 simp only [Distinct,this,Bool.and_false,Bool.false_and]
theorem ymr (l : List Train) (hs : ybV l) : yB Tryz.prog 265 [.c (.sl 2 (l.map Train.enc))] (.c (.b (Distinct l))):=by
 refine yh yiB ?_
 simp -dsimp -implicitDefEqProofs
 intro hlen
 refine ⟨fun h8=>(by simp [Distinct]; omega),fun h8=>?_⟩
 intro _
 refine ymd (k0:=1) 3 1 (by simp) (by simp) (by decide) ?_
 refine yg (ι:=Nat) (fun k=>k ≤ l.length ∧ (∀ t ∈ l.take k,yP t = true) ∧ (yaN l k).Nodup) (fun k=>yO [(3,.own 3 1 (yaN l k).length),(11,.c (.sl 2 (l.map Train.enc))),(12,.c (.i l.length)),(13,.c (.i k))] [(3,.row 1 ((yaN l k).map yJ))]) (fun k=>l.length - k) 0 (by simp [yfN]) (by apply yj <;> simp [yfN]) ?_
 rintro k ⟨hk,hall,hnd⟩
 rcases Nat.lt_or_ge k l.length with hlt | hge
 ·obtain ⟨t,ht⟩ : ∃ t,l[k]? = some t:=⟨_,List.getElem?_eq_getElem hlt⟩
  have hts:=hs.2 t (List.mem_of_getElem? ht)
  simp -dsimp -implicitDefEqProofs [ht,yG hlt]
  refine yc (ydp t hts) ?_
  cases h1 : yP t with
  | false=>simp -dsimp -implicitDefEqProofs; exact yrv ht h1
  | true =>
   have hall':=yL (p:=yP) ht hall h1
   have hil:=ytb h1
   have hul:=ymJ k hall
   simp -dsimp -implicitDefEqProofs
   refine yS (yuz t hts) ?_
   simp -dsimp -implicitDefEqProofs
   intro _
   refine yg (ι:=Nat) (fun j=>j ≤ (yaY t).length ∧ (seenAt l k t j).Nodup) (fun j=>yO [(3,.own 3 1 (seenAt l k t j).length),(11,.c (.sl 2 (l.map Train.enc))),(12,.c (.i l.length)),(13,.c (.i k)),(21,.c (.sl 1 ((yaY t).map yJ))),(22,.c (.i (yaY t).length)),(23,.c (.i j))] [(3,.row 1 ((seenAt l k t j).map yJ))]) (fun j=>(yaY t).length - j) 0 ⟨by simp,by rw [ymU]; exact hnd⟩ (by apply yj <;> simp [ymU]) ?_
   rintro j ⟨hj,hnj⟩
   have hsl : (seenAt l k t j).length ≤ 60:=by unfold seenAt; rw [List.length_append,List.length_take]; omega
   rcases Nat.lt_or_ge j (yaY t).length with hlt2 | hge2
   ·obtain ⟨x,hx⟩ : ∃ x,(yaY t)[j]? = some x:=⟨_,List.getElem?_eq_getElem hlt2⟩
    simp -dsimp -implicitDefEqProofs [hx,yG hlt2]
    refine yaQ (ypJ (seenAt l k t j) x) (by simp [ymz]) rfl ?_
    simp -dsimp -implicitDefEqProofs
    refine ⟨fun h2=>(twice ht hx h2),fun h2=>?_⟩
    have hn2 : (seenAt l k t (j + 1)).Nodup:=by
     rw [ym2 hx]
     exact List.nodup_append.2 ⟨hnj,by simp,fun a ha b hb e=>by simp at hb; subst hb; subst e; exact h2 ha⟩
    refine ⟨by omega,by unfold inI; omega,j + 1,⟨hlt2,hn2⟩,by omega,?_⟩
    apply yj <;> simp [ym2 hx]
   ·simp -dsimp -implicitDefEqProofs [yaB hge2]
    rw [ypH ht hge2] at hnj
    refine ⟨by unfold inI; omega,k + 1,⟨hlt,hall',hnj⟩,by omega,?_⟩
    apply yj <;> simp [ypH ht hge2]
 ·simp -dsimp -implicitDefEqProofs [yaB hge]
  rw [ymM hge] at hnd
  have h1:=yX (p:=yP) hge hall
  have h8' : l.length ≤ 8:=by omega
  simp [Distinct,h1,hnd,h8']
end Go.Proofs.YtefegahoniahkaaGreat
