/- What the law FnOnlyWater stands on: contracts of functions, what each answers as plain Lean, in short form (names, layout). -/
import Derived.Test.YtpiplmnecmkafaaGreatSOnlyWater1
set_option linter.all false
namespace Go.Proofs.YtpiplmnecmkafaaGreat
open Go.RowKit
structure Met (l : List Boat) : Prop where
 ok : ∀ b ∈ l,ybr b = true
 nd : (l.map yfy).Nodup
 len : l.length ≤ 6
theorem Met.snoc {l : List Boat} {b : Boat} (h : Met l) (h1 : ybr b = true) (h2 : b.Id ∉ l.map yfy) (h3 : l.length < 6) : Met (l ++ [b]):=by
 refine ⟨?_,?_,by simp; omega⟩
 ·intro x hx
  rcases List.mem_append.1 hx with hx | hx
  ·exact h.ok x hx
  ·rw [List.mem_singleton.1 hx]; exact h1
 ·have:=@ykm (l ++ [b]) l.length b (by simp)
  rw [show l.length + 1 = (l ++ [b]).length by simp,List.take_length] at this
  rw [this,List.take_left']
  ·exact ⟨h.nd,h2⟩
  ·rfl
def yfe (t : Train) (k : Nat) (r : List Boat) (j : Nat) : List Boat:=heads t.Rows k ++ r.take j
theorem yoG {t : Train} {k : Nat} {r : List Boat} : yfe t k r 0 = heads t.Rows k:=by simp [yfe]
theorem yvY {t : Train} {k : Nat} {r : List Boat} {j : Nat} {b : Boat} (h : r[j]? = some b) : yfe t k r (j + 1) = yfe t k r j ++ [b]:=by
 unfold yfe; rw [List.take_succ,h]; simp
theorem yrL {t : Train} {k : Nat} {r : List Boat} {j : Nat} (hr : t.Rows[k]? = some r) (h : r.length ≤ j) : yfe t k r j = heads t.Rows (k + 1):=by
 unfold yfe; rw [List.take_of_length_le h,yhH hr]
theorem yxV {t : Train} {k : Nat} {r : List Boat} {j : Nat} (h : j ≤ r.length) : (yfe t k r j).length = (heads t.Rows k).length + j:=by
 unfold yfe; simp; omega
theorem ydp (t : Train) (h : t.small) : yB Tryz.prog 20 [.agg (t.enc.map .c)] (.c (.b (yP t))):=by
 refine yh yoE ?_
 simp -dsimp -implicitDefEqProofs
 intro hlen
 refine ⟨fun h0 _=>⟨fun h1=>?_,fun h1 _=>?_⟩,fun h0=>?_⟩
 ·by_cases h2 : yP t = false
  ·exact h2
  ·exfalso
   have h3 : yP t = true:=by simpa using h2
   simp only [yP,Bool.and_eq_true,List.all_eq_true] at h3
   obtain ⟨⟨⟨h4,_⟩,_⟩,h5⟩:=h3
   have h6:=yF.1 h5
   have : ∀ l : List (List Boat),(∀ r ∈ l,full r = true) → l.length ≤ l.flatten.length:=by
    intro l
    induction l with
    | nil=>simp
    | cons r l ih =>
     intro hl
     have e1:=ih fun x hx=>hl x (by simp [hx])
     have e2:=ytQ.1 (hl r (by simp))
     simp only [List.length_cons,List.flatten_cons,List.length_append]; omega
   have:=this t.Rows h4
   unfold Train.yas at h6
   omega
 ·refine yg (ι:=Nat) (fun k=>k ≤ t.Rows.length ∧ (∀ r ∈ t.Rows.take k,full r = true) ∧ Met (heads t.Rows k)) (fun k=>yO [(3,.row 3 1 0 0),(4,.c (.i (heads t.Rows k).length)),(20,.c (.sl 1 (t.Rows.map yai))),(21,.c (.i t.Rows.length)),(22,.c (.i k))] [(3,.row 1 (yfA (heads t.Rows k)))]) (fun k=>t.Rows.length - k) 0 ⟨by simp,by simp,by simp [yeU],by simp [yeU],by simp [yeU]⟩ (by apply yj <;> simp [yeU,yzu]) ?_
  rintro k ⟨hk,hall,hm⟩
  rcases Nat.lt_or_ge k t.Rows.length with hlt | hge
  ·obtain ⟨r,hr⟩ : ∃ r,t.Rows[k]? = some r:=⟨_,List.getElem?_eq_getElem hlt⟩
   have hml:=hm.len
   have hrs:=(h.2 r (List.mem_of_getElem? hr)).1
   obtain ⟨rest,hsp⟩:=yvl hr
   simp -dsimp -implicitDefEqProofs [hr,yG hlt]
   intro hrl
   refine ⟨fun hr0 _=>⟨by unfold inI; omega,fun h6=>?_,fun h6 _=>?_⟩,fun hr0=>?_⟩
   ·refine yD8 ?_
    rw [hsp]; simp only [List.length_append]; omega
   ·refine yg (ι:=Nat) (fun j=>j ≤ r.length ∧ Met (yfe t k r j)) (fun j=>yO [(3,.row 3 1 0 0),(4,.c (.i (yfe t k r j).length)),(20,.c (.sl 1 (t.Rows.map yai))),(21,.c (.i t.Rows.length)),(22,.c (.i k)),(36,.c (.sl 6 (r.map Boat.enc))),(37,.c (.i r.length)),(38,.c (.i j))] [(3,.row 1 (yfA (yfe t k r j)))]) (fun j=>r.length - j) 0 ⟨by simp,by rw [yoG]; exact hm⟩ (by apply yj <;> simp [yoG]) ?_
    rintro j ⟨hj,hmj⟩
    rcases Nat.lt_or_ge j r.length with hlt2 | hge2
    ·obtain ⟨b,hb⟩ : ∃ b,r[j]? = some b:=⟨_,List.getElem?_eq_getElem hlt2⟩
     have hsl:=yxV (t:=t) (k:=k) hj
     have hlt6 : (yfe t k r j).length < 6:=by omega
     have hmem : b ∈ t.yas:=by
      rw [hsp]; simp only [List.mem_append]; exact .inl (.inr (List.mem_of_getElem? hb))
     simp -dsimp -implicitDefEqProofs [hb,yG hlt2]
     refine yaC (yuc b) ?_
     simp -dsimp -implicitDefEqProofs
     refine ⟨fun h2=>?_,fun h2=>yBq hmem h2⟩
     have hsn:=yzV hmj.len
     refine ⟨by omega,hsn,?_⟩
     refine ⟨_,_,ypJ ((yfe t k r j).map yfy) b.Id,by simp [yyx],.inr rfl,?_⟩
     simp -dsimp -implicitDefEqProofs [yG hlt2,yzC hlt6,yyK hlt6]
     refine ⟨fun x hx he=>yEq fun hn=>?_,fun h3=>?_⟩
     ·have hsp2 : t.yas = yfe t k r j ++ (b :: (r.drop (j + 1) ++ rest)):=by
       rw [hsp]; unfold yfe
       have : r = r.take j ++ b :: r.drop (j + 1):=by
        conv=>lhs; rw [← List.take_append_drop j r]
        rw [List.drop_eq_getElem_cons hlt2,(List.getElem?_eq_some_iff.1 hb).2]
       conv=>lhs; rw [this]
       simp
      rw [hsp2,List.map_append,List.map_cons] at hn
      exact (List.nodup_append.1 hn).2.2 _ (List.mem_map_of_mem hx) _ (List.mem_cons_self) he
     ·have hni : b.Id ∉ (yfe t k r j).map yfy:=by
       intro hm'
       obtain ⟨x,hx,he⟩:=List.mem_map.1 hm'
       exact h3 x hx he
      have hs1:=yvY (t:=t) (k:=k) hb
      refine ⟨by omega,by omega,by unfold inI; omega,by unfold inI; omega,j + 1,⟨hlt2,by rw [hs1]; exact hmj.snoc h2 hni hlt6⟩,by omega,?_⟩
      apply yj <;> simp [hs1]
    ·simp -dsimp -implicitDefEqProofs [yaB hge2]
     rw [yrL hr hge2] at hmj
     refine ⟨by unfold inI; omega,k + 1,⟨hlt,yL (p:=full) hr hall (by simp [full,hr0]),hmj⟩,by omega,?_⟩
     apply yj <;> simp [yrL hr hge2]
   ·exact yBC hr (by simp [hr0])
  ·simp -dsimp -implicitDefEqProofs [yaB hge]
   rw [yjI hge] at hm
   have hr1:=yX (p:=full) hge hall
   have hb1 : t.yas.all ybr = true:=List.all_eq_true.2 hm.ok
   have hl1 : 0 < t.yas.length:=by
    obtain ⟨r,l,e⟩:=List.exists_cons_of_ne_nil h0
    have:=ytQ.1 (List.all_eq_true.1 hr1 r (by rw [e]; simp))
    unfold Train.yas
    rw [e]; simp only [List.flatten_cons,List.length_append]; omega
   have hl2 : t.yas.length ≤ 6:=hm.len
   have h7 : inRange t.yas.length 1 6 = true:=yF.2 (by omega)
   have hn1 : (t.yas.map yfy).Nodup:=hm.nd
   simp [yP,hr1,hb1,hn1,h7]
 ·have : t.yas = []:=by simp [Train.yas,h0]
  have h7 : inRange t.yas.length 1 6 = false:=by rw [this]; rfl
  simp only [yP,h7,Bool.and_false]
def ybk (m : Mover) (w : Way) : Bool:=yjg w && yP m.Train && inRange m.Place 0 w.Long
theorem yr9 (m : Mover) (w : Way) (h : m.small) : yB Tryz.prog 76 [.agg (m.enc.map .c),.agg (w.enc.map .c)] (.c (.b (ybk m w))):=by
 refine yh ypL ?_
 simp -dsimp -implicitDefEqProofs
 refine yc (ypN w) ?_
 simp -dsimp -implicitDefEqProofs
 refine ⟨fun h1=>?_,fun h1=>by simp [ybk,h1]⟩
 refine yc (ydp m.Train h) ?_
 simp -dsimp -implicitDefEqProofs
 refine ⟨fun h2=>?_,fun h2=>by simp [ybk,h2]⟩
 refine yc (yC m.Place 0 w.Long) ?_
 simp -dsimp -implicitDefEqProofs
 simp [ybk,h1,h2]
theorem yk6 (m : Mover) (w : Way) (h : m.small) : yB Tryz.prog 172 [.agg (m.enc.map .c),.agg (w.enc.map .c)] (.c (.b (ybk m w))):=by
 refine yh ypB ?_
 simp -dsimp -implicitDefEqProofs
 refine yc (ynZ w) ?_
 simp -dsimp -implicitDefEqProofs
 refine ⟨fun h1=>?_,fun h1=>by simp [ybk,h1]⟩
 refine yc (yds m.Train h) ?_
 simp -dsimp -implicitDefEqProofs
 refine ⟨fun h2=>?_,fun h2=>by simp [ybk,h2]⟩
 refine yc (yD m.Place 0 w.Long) ?_
 simp -dsimp -implicitDefEqProofs
 simp [ybk,h1,h2]
def maxOf (f : Boat → Int) (l : List Boat) (z : Int) : Int:=l.foldl (fun m b=>if m < f b then f b else m) z
def yP9 (f : Boat → Int) (l : List Boat) (z : Int) (k : Nat) : Int:=maxOf f (l.take k) z
theorem yPJ {f : Boat → Int} {l : List Boat} {z : Int} : yP9 f l z 0 = z:=rfl
theorem yQw {f : Boat → Int} {l : List Boat} {z : Int} {k : Nat} {b : Boat} (h : l[k]? = some b) : yP9 f l z (k + 1) = if yP9 f l z k < f b then f b else yP9 f l z k:=by
 unfold yP9 maxOf; rw [List.take_succ,h,List.foldl_append]; rfl
theorem yQQ {f : Boat → Int} {l : List Boat} {z : Int} {k : Nat} (h : l.length ≤ k) : yP9 f l z k = maxOf f l z:=by
 unfold yP9; rw [List.take_of_length_le h]
theorem yRc {f : Boat → Int} {a b : Int} : ∀ {l : List Boat} {z : Int},(∀ x ∈ l,a ≤ f x ∧ f x ≤ b) → a ≤ z → z ≤ b → a ≤ maxOf f l z ∧ maxOf f l z ≤ b
 | [],z,_,h1,h2=>⟨h1,h2⟩
 | x :: l,z,h,h1,h2=>by
  have:=h x (by simp)
  unfold maxOf
  rw [List.foldl_cons]
  refine yRc (l:=l) (fun y hy=>h y (by simp [hy])) ?_ ?_ <;> split <;> omega
structure TrainFacts (t : Train) : Prop where
 rows : ∀ r ∈ t.Rows,full r = true
 ok : ∀ b ∈ t.yas,ybr b = true
 nd : (t.yas.map yfy).Nodup
 pos : 1 ≤ t.yas.length
 len : t.yas.length ≤ 6
theorem yhY {t : Train} (h : yP t = true) : TrainFacts t:=by
 simp only [yP,Bool.and_eq_true,List.all_eq_true,decide_eq_true_eq] at h
 obtain ⟨⟨⟨h1,h2⟩,h3⟩,h4⟩:=h
 have h5:=yF.1 h4
 exact ⟨h1,h2,h3,by omega,by omega⟩
theorem yMg {b : Boat} (h : ybr b = true) : (1 ≤ b.Id ∧ b.Id ≤ 9999) ∧ (1 ≤ b.Length ∧ b.Length ≤ 200) ∧ (1 ≤ b.Width ∧ b.Width ≤ 30) ∧ (1 ≤ b.Draught ∧ b.Draught ≤ 100) ∧ (1 ≤ b.Speed ∧ b.Speed ≤ 50) ∧ (0 ≤ b.Class ∧ b.Class ≤ 2):=by
 simp only [ybr,Bool.and_eq_true] at h
 obtain ⟨⟨⟨⟨⟨h1,h2⟩,h3⟩,h4⟩,h5⟩,h6⟩:=h
 exact ⟨yF.1 h1,yF.1 h2,yF.1 h3,yF.1 h4,yF.1 h5,yF.1 h6⟩
theorem yya (t : Train) (h : t.small) : yB Tryz.prog 56 [.agg (t.enc.map .c)] (.c (.sl 6 (t.yas.map Boat.enc))):=by
 refine yh yoM ?_
 simp -dsimp -implicitDefEqProofs
 intro hlen
 refine ymd (k0:=6) 3 6 (by simp) (by simp) (by decide) ?_
 refine yg (ι:=Nat) (fun k=>k ≤ t.Rows.length) (fun k=>yO [(3,.own 3 6 (heads t.Rows k).length),(7,.c (.sl 1 (t.Rows.map yai))),(8,.c (.i t.Rows.length)),(9,.c (.i k))] [(3,.row 6 ((heads t.Rows k).map Boat.enc))]) (fun k=>t.Rows.length - k) 0 (by simp) (by apply yj <;> simp [yeU]) ?_
 rintro k hk
 rcases Nat.lt_or_ge k t.Rows.length with hlt | hge
 ·obtain ⟨r,hr⟩ : ∃ r,t.Rows[k]? = some r:=⟨_,List.getElem?_eq_getElem hlt⟩
  have hb:=yi0 h (k + 1)
  have hf:=yhH hr
  rw [hf,List.length_append] at hb
  simp -dsimp -implicitDefEqProofs [hr,yG hlt]
  refine ⟨by omega,yw hlt hlen,k + 1,hlt,by omega,?_⟩
  apply yj <;> simp [hf]
 ·simp -dsimp -implicitDefEqProofs [yaB hge]
  rw [yjI hge]
  rw [List.take_of_length_le (by rw [List.length_map]; exact Nat.le_refl _)]; rfl
def yPe (t : Train) : Int:=if yP t then maxOf Boat.Draught t.yas 0 else 0
theorem yPU (t : Train) (h : t.small) : yB Tryz.prog 67 [.agg (t.enc.map .c)] (.c (.i (yPe t))):=by
 refine yh yQk ?_
 simp -dsimp -implicitDefEqProofs
 refine yc (ydp t h) ?_
 simp -dsimp -implicitDefEqProofs
 refine ⟨fun h1=>by simp [yPe,h1],fun h1=>?_⟩
 refine yS (yya t h) ?_
 simp -dsimp -implicitDefEqProofs
 intro hlen
 refine yg (ι:=Nat) (fun k=>k ≤ t.yas.length) (fun k=>yO [(3,.c (.i (yP9 Boat.Draught t.yas 0 k))),(10,.c (.sl 6 (t.yas.map Boat.enc))),(11,.c (.i t.yas.length)),(12,.c (.i k))] []) (fun k=>t.yas.length - k) 0 (by simp) (by apply yj <;> simp [yPJ]) ?_
 rintro k hk
 rcases Nat.lt_or_ge k t.yas.length with hlt | hge
 ·obtain ⟨b,hb⟩ : ∃ b,t.yas[k]? = some b:=⟨_,List.getElem?_eq_getElem hlt⟩
  simp -dsimp -implicitDefEqProofs [hb,yG hlt]
  refine ⟨yw hlt hlen,k + 1,hlt,by omega,?_⟩
  apply yj <;> simp [yQw hb]
 ·simp -dsimp -implicitDefEqProofs [yaB hge]
  simp [yPe,h1,yQQ hge]
theorem yQf (t : Train) : 0 ≤ yPe t ∧ yPe t ≤ 100:=by
 unfold yPe
 split
 ·rename_i h
  have hf:=yhY h
  exact yRc (fun x hx=>by have:=yMg (hf.ok x hx); omega) (by omega) (by omega)
 ·omega
def ykx : List Int → Prop:=ycs fun _=>True
structure Point where
 X : Int
 Y : Int
 deriving DecidableEq,Inhabited
@[simp] def Point.enc (e : Point) : List C:=[.i e.X,.i e.Y]
-- Point
def yfO : List Point → Prop:=ycs fun _=>True
structure Reach where
 Table : List Point
 Volume : Int
 Pipe : List Int
 deriving DecidableEq,Inhabited
@[simp] def Reach.enc (e : Reach) : List C:=[.sl 2 (e.Table.map Point.enc),.i e.Volume,.sl 1 (e.Pipe.map yJ)]
-- Reach
def Reach.small (e : Reach) : Prop:=yfO e.Table ∧ ykx e.Pipe
def ygg (p : Point) : Bool:=inRange p.X 0 1000000000 && inRange p.Y 0 1000000000
def follows (a b : Point) : Bool:=decide (a.X < b.X) && decide (a.Y ≤ b.Y)
def yhD (l : List Point) (k : Nat) : Bool :=
 match l[k]? with
 | some p=>ygg p && (match k with
  | 0=>true
  | j + 1=>match l[j]? with
   | some q=>follows q p
   | none=>false)
 | none=>true
def upTo (l : List Point) : Nat → Bool
 | 0=>true
 | k + 1=>upTo l k && yhD l k
def yaM (l : List Point) : Bool:=upTo l l.length && inRange l.length 2 20
theorem yhk {l : List Point} {p : Point} (h : l[0]? = some p) : yhD l 0 = ygg p:=by simp [yhD,h]
theorem yea {l : List Point} {k : Nat} {p q : Point} (h : l[k + 1]? = some p) (hq : l[k]? = some q) : yhD l (k + 1) = (ygg p && follows q p):=by simp [yhD,h,hq]
theorem yoy {l : List Point} : ∀ {k n : Nat},k < n → yhD l k = false → upTo l n = false
 | k,0,h,_=>by omega
 | k,n + 1,h,hs=>by
  simp only [upTo]
  rcases Nat.lt_or_ge k n with h1 | h1
  ·rw [yoy h1 hs]; rfl
  ·have : k = n:=by omega
   subst this
   rw [hs,Bool.and_false]
theorem yjy {l : List Point} {k : Nat} (h : upTo l k = true) (hs : yhD l k = true) : upTo l (k + 1) = true:=by simp [upTo,h,hs]
theorem ynS {l : List Point} {k : Nat} (h : k < l.length) (hs : yhD l k = false) : yaM l = false:=by simp [yaM,yoy h hs]
theorem yzH {l : List Point} (h : inRange l.length 2 20 = false) : yaM l = false:=by simp [yaM,h]
theorem yh0 (l : List Point) : yB Tryz.prog 142 [.c (.sl 2 (l.map Point.enc))] (.c (.b (yaM l))):=by
 refine yh ypw ?_
 simp -dsimp -implicitDefEqProofs
 intro hlen
 refine ⟨fun h0 _=>⟨fun h1=>?_,fun h1 _=>?_⟩,fun h0=>?_⟩
 ·exact yzH (ycG.2 (by omega))
 ·refine yg (ι:=Nat) (fun k=>k ≤ l.length ∧ upTo l k = true) (fun k=>yO [(0,.c (.sl 2 (l.map Point.enc))),(13,.c (.sl 2 (l.map Point.enc))),(14,.c (.i l.length)),(15,.c (.i k))] []) (fun k=>l.length - k) 0 ⟨by simp,rfl⟩ (by apply yj <;> simp) ?_
  rintro k ⟨hk,hup⟩
  rcases Nat.lt_or_ge k l.length with hlt | hge
  ·obtain ⟨p,hp⟩ : ∃ p,l[k]? = some p:=⟨_,List.getElem?_eq_getElem hlt⟩
   have hbad : ygg p = false → yaM l = false:=fun e=>ynS hlt (by
    cases k with
    | zero=>rw [yhk hp,e]
    | succ j=>rw [yea hp (List.getElem?_eq_getElem (by omega)),e,Bool.false_and])
   cases k with
   | zero =>
    have f1:=(List.getElem?_eq_some_iff.1 hp).2
    simp -dsimp -implicitDefEqProofs [hp,hlt,f1]
    refine yc (yC p.X 0 1000000000) ?_
    simp -dsimp -implicitDefEqProofs
    refine ⟨fun h2=>?_,fun h2=>hbad (by simp [ygg,h2])⟩
    refine yc (yC p.Y 0 1000000000) ?_
    simp -dsimp -implicitDefEqProofs
    refine ⟨fun h3=>hbad (by simp [ygg,h3]),fun h3=>?_⟩
    have hpt : ygg p = true:=by simp [ygg,h2,h3]
    exact ⟨by unfold inI; omega,1,⟨hlt,yjy hup (by rw [yhk hp,hpt])⟩,by omega,by apply yj <;> simp⟩
   | succ j =>
    obtain ⟨q,hq⟩ : ∃ q,l[j]? = some q:=⟨_,List.getElem?_eq_getElem (by omega)⟩
    have hj : (j : Int) + 1 < l.length:=by omega
    have hj2 : (j : Int) < l.length:=by omega
    have hj3 : (0 : Int) < j + 1:=by omega
    have hj4 : (0 : Int) ≤ j + 1:=by omega
    have hj5 : ((j : Int) + 1).toNat = j + 1:=by omega
    simp -dsimp -implicitDefEqProofs [hp,hq,hj,hj2,hj3,hj4,hj5]
    refine yc (yC p.X 0 1000000000) ?_
    simp -dsimp -implicitDefEqProofs
    refine ⟨fun h2=>?_,fun h2=>hbad (by simp [ygg,h2])⟩
    refine yc (yC p.Y 0 1000000000) ?_
    simp -dsimp -implicitDefEqProofs [hp,hq,hj,hj2,hj3,hj4,hj5]
    refine ⟨fun h3=>hbad (by simp [ygg,h3]),fun h3=>?_⟩
    have hpt : ygg p = true:=by simp [ygg,h2,h3]
    have hbad2 : follows q p = false → yaM l = false:=fun e=>ynS hlt (by rw [yea hp hq,e,Bool.and_false])
    refine ⟨by unfold inI; omega,fun h4=>⟨by unfold inI; omega,fun h5=>?_,fun h5=>?_⟩,fun h4=>?_⟩
    ·exact hbad2 (by simp [follows]; omega)
    ·have hf : follows q p = true:=by simp [follows,h4,h5]
     exact ⟨by unfold inI; omega,j + 2,⟨hlt,yjy hup (by rw [yea hp hq,hpt,hf]; rfl)⟩,by omega,by apply yj <;> simp; omega⟩
    ·exact hbad2 (by simp [follows]; omega)
  ·simp -dsimp -implicitDefEqProofs [yaB hge]
   have e : k = l.length:=by omega
   subst e
   have h7 : inRange l.length 2 20 = true:=yF.2 (by omega)
   simp [yaM,hup,h7]
 ·exact yzH (ycG.2 (by omega))
theorem yh7 (l : List Point) : yB Tryz.prog 124 [.c (.sl 2 (l.map Point.enc))] (.c (.b (yaM l))):=by
 refine yh yp7 ?_
 simp -dsimp -implicitDefEqProofs
 refine yg (ι:=Nat) (fun k=>k ≤ l.length ∧ upTo l k = true) (fun k=>yO [(0,.c (.sl 2 (l.map Point.enc))),(3,.c (.i k))] []) (fun k=>l.length - k) 0 ⟨by simp,rfl⟩ (by apply yj <;> simp) ?_
 rintro k ⟨hk,hup⟩
 rcases Nat.lt_or_ge k l.length with hlt | hge
 ·obtain ⟨p,hp⟩ : ∃ p,l[k]? = some p:=⟨_,List.getElem?_eq_getElem hlt⟩
  have hbad : ygg p = false → yaM l = false:=fun e=>ynS hlt (by
   cases k with
   | zero=>rw [yhk hp,e]
   | succ j=>rw [yea hp (List.getElem?_eq_getElem (by omega)),e,Bool.false_and])
  cases k with
  | zero =>
   have f1:=(List.getElem?_eq_some_iff.1 hp).2
   simp -dsimp -implicitDefEqProofs [hp,hlt,f1]
   intro hlen
   refine yaC (yD p.X 0 1000000000) ?_
   simp -dsimp -implicitDefEqProofs [hp,hlt,f1]
   refine ⟨fun h2=>?_,fun h2=>hbad (by simp [ygg,h2])⟩
   refine yaC (yD p.Y 0 1000000000) ?_
   simp -dsimp -implicitDefEqProofs [hp,hlt,f1]
   refine ⟨fun h3=>?_,fun h3=>hbad (by simp [ygg,h3])⟩
   have hpt : ygg p = true:=by simp [ygg,h2,h3]
   exact ⟨by unfold inI; omega,1,⟨hlt,yjy hup (by rw [yhk hp,hpt])⟩,by omega,by apply yj <;> simp⟩
  | succ j =>
   obtain ⟨q,hq⟩ : ∃ q,l[j]? = some q:=⟨_,List.getElem?_eq_getElem (by omega)⟩
   have hj : (j : Int) + 1 < l.length:=by omega
   have hj2 : (j : Int) < l.length:=by omega
   have hj3 : (0 : Int) < j + 1:=by omega
   have hj4 : (0 : Int) ≤ j + 1:=by omega
   have hj5 : ((j : Int) + 1).toNat = j + 1:=by omega
   simp -dsimp -implicitDefEqProofs [hp,hq,hj,hj2,hj3,hj4,hj5]
   intro hlen
   refine yaC (yD p.X 0 1000000000) ?_
   simp -dsimp -implicitDefEqProofs [hp,hq,hj,hj2,hj3,hj4,hj5]
   refine ⟨fun h2=>?_,fun h2=>hbad (by simp [ygg,h2])⟩
   refine yaC (yD p.Y 0 1000000000) ?_
   simp -dsimp -implicitDefEqProofs [hp,hq,hj,hj2,hj3,hj4,hj5]
   refine ⟨fun h3=>?_,fun h3=>hbad (by simp [ygg,h3])⟩
   have hpt : ygg p = true:=by simp [ygg,h2,h3]
   unfold maxLen at hlen
   have hbad2 : follows q p = false → yaM l = false:=fun e=>ynS hlt (by rw [yea hp hq,e,Bool.and_false])
   refine ⟨by unfold inI; omega,fun h4=>⟨by unfold inI; omega,fun h5=>?_,fun h5=>?_⟩,fun h4=>?_⟩
   ·exact hbad2 (by simp [follows]; omega)
   ·have hf : follows q p = true:=by simp [follows,h4,h5]
    exact ⟨by unfold inI; omega,j + 2,⟨hlt,yjy hup (by rw [yea hp hq,hpt,hf]; rfl)⟩,by omega,by apply yj <;> simp; omega⟩
   ·exact hbad2 (by simp [follows]; omega)
 ·simp -dsimp -implicitDefEqProofs [yaB hge]
  intro hlen
  refine yc (yD l.length 2 20) ?_
  simp -dsimp -implicitDefEqProofs
  have e : k = l.length:=by omega
  subst e
  simp [yaM,hup]
def amount (n : Int) : Bool:=inRange n 0 1000000000
def yda (r : Reach) : Int:=r.Volume + r.Pipe.sum
def yR (r : Reach) : Bool:=yaM r.Table && amount r.Volume && decide (r.Pipe.length ≤ 12) && r.Pipe.all amount && decide (yda r ≤ 1000000000)
theorem ykq : ∀ {l : List Int},(∀ x ∈ l,amount x = true) → 0 ≤ l.sum
 | [],_=>by simp
 | x :: l,h=>by
  have h1:=ykq (l:=l) fun y hy=>h y (by simp [hy])
  have h2:=yF.1 (show inRange x 0 1000000000 = true from h x (by simp))
  simp only [List.sum_cons]; omega
theorem yx8 {l : List Int} (k : Nat) : l.sum = sumTo l k + (l.drop k).sum:=by
 unfold sumTo
 conv=>lhs; rw [← List.take_append_drop k l]
 rw [List.sum_append]
theorem yEn {r : Reach} {k : Nat} {x : Int} (hx : r.Pipe[k]? = some x) (h : 1000000000 < r.Volume + sumTo r.Pipe k + x) : yR r = false:=by
 cases hr : yR r with
 | false=>rfl
 | true =>
  exfalso
  simp only [yR,Bool.and_eq_true,List.all_eq_true,decide_eq_true_eq] at hr
  obtain ⟨⟨_,h1⟩,h2⟩:=hr
  have h3:=ykq (l:=r.Pipe.drop (k + 1)) fun y hy=>h1 y (List.mem_of_mem_drop hy)
  have h4:=yx8 (l:=r.Pipe) (k + 1)
  rw [yia hx] at h4
  unfold yda at h2
  omega
theorem yrR {r : Reach} {k : Nat} {x : Int} (hx : r.Pipe[k]? = some x) (h : amount x = false) : yR r = false:=by
 have : r.Pipe.all amount = false:=all_false (p:=amount) hx h
 simp [yR,this]
theorem yby (r : Reach) : yB Tryz.prog 95 [.agg (r.enc.map .c)] (.c (.b (yR r))):=by
 refine yh yo5 ?_
 simp -dsimp -implicitDefEqProofs
 refine yc (yh0 r.Table) ?_
 simp -dsimp -implicitDefEqProofs
 refine ⟨fun h1=>?_,fun h1=>by simp [yR,h1]⟩
 refine yc (yC r.Volume 0 1000000000) ?_
 simp -dsimp -implicitDefEqProofs
 refine ⟨fun h2 hlen=>⟨fun h3=>?_,fun h3=>⟨?_,fun _=>?_⟩⟩,fun h2=>by simp [yR,amount,h2]⟩
 ·have : ¬ r.Pipe.length ≤ 12:=by omega
  simp [yR,this]
 ·have:=yF.1 h2
  unfold inI; omega
 have h2':=yF.1 h2
 refine yg (ι:=Nat) (fun k=>k ≤ r.Pipe.length ∧ (∀ n ∈ r.Pipe.take k,amount n = true) ∧ 0 ≤ sumTo r.Pipe k ∧ r.Volume + sumTo r.Pipe k ≤ 1000000000) (fun k=>yO [(3,.c (.i (1000000000 - r.Volume - sumTo r.Pipe k))),(26,.c (.sl 1 (r.Pipe.map yJ))),(27,.c (.i r.Pipe.length)),(28,.c (.i k))] []) (fun k=>r.Pipe.length - k) 0 ⟨by simp,by simp,by simp [yf6],by simp only [yf6]; omega⟩ (by apply yj <;> simp [yf6]) ?_
 rintro k ⟨hk,hall,hs0,hs⟩
 rcases Nat.lt_or_ge k r.Pipe.length with hlt | hge
 ·obtain ⟨x,hx⟩ : ∃ x,r.Pipe[k]? = some x:=⟨_,List.getElem?_eq_getElem hlt⟩
  simp -dsimp -implicitDefEqProofs [hx,yG hlt]
  refine ⟨fun h4=>⟨fun h5=>?_,fun h5=>?_⟩,fun h4=>?_⟩
  ·exact yEn hx (by omega)
  ·have ha : amount x = true:=yF.2 (by omega)
   have e1:=yia hx
   refine ⟨by unfold inI; omega,yw hlt hlen,k + 1,⟨hlt,yL (p:=amount) hx hall ha,by rw [e1]; omega,by rw [e1]; omega⟩,by omega,?_⟩
   apply yj <;> simp [e1]; omega
  ·exact yrR hx (ycG.2 (by omega))
 ·simp -dsimp -implicitDefEqProofs [yaB hge]
  have h6:=yX (p:=amount) hge hall
  rw [ymm hge] at hs
  simp [yR,h1,show amount r.Volume = true from h2,h6,yda,hs]
  omega
theorem ymX {l : List Int} (h : ∀ n ∈ l,amount n = true) (hl : l.length ≤ 12) (k : Nat) : 0 ≤ sumTo l k ∧ sumTo l k ≤ 12000000000:=by
 have h1:=yjC (l:=l.take k) (b:=1000000000) fun x hx=>h x (List.mem_of_mem_take hx)
 have h2 : (l.take k).length ≤ 12:=by simp; omega
 unfold sumTo
 omega
theorem yoR (r : Reach) (hv : amount r.Volume = true) (hl : r.Pipe.length ≤ 12) (hp : ∀ n ∈ r.Pipe,amount n = true) : yB Tryz.prog 125 [.agg (r.enc.map .c)] (.c (.i (yda r))):=by
 refine yh yrp ?_
 have hv':=yF.1 (show inRange r.Volume 0 1000000000 = true from hv)
 simp -dsimp -implicitDefEqProofs
 refine yg (ι:=Nat) (fun k=>k ≤ r.Pipe.length) (fun k=>yO [(1,.box 1 0),(3,.c (.i (r.Volume + sumTo r.Pipe k))),(4,.c (.i k))] [(1,.box (r.enc.map .c))]) (fun k=>r.Pipe.length - k) 0 (by simp) (by apply yj <;> simp [yf6]) ?_
 rintro k hk
 rcases Nat.lt_or_ge k r.Pipe.length with hlt | hge
 ·obtain ⟨x,hx⟩ : ∃ x,r.Pipe[k]? = some x:=⟨_,List.getElem?_eq_getElem hlt⟩
  have e1:=yia hx
  have b1:=ymX hp hl (k + 1)
  rw [e1] at b1
  simp -dsimp -implicitDefEqProofs [hx,yG hlt]
  intro hlen
  refine ⟨by unfold inI; omega,yw hlt hlen,k + 1,hlt,by omega,?_⟩
  apply yj <;> simp [e1]; omega
 ·simp -dsimp -implicitDefEqProofs [yaB hge]
  intro _
  rw [ymm hge]; rfl
theorem ybX (r : Reach) : yB Tryz.prog 81 [.agg (r.enc.map .c)] (.c (.b (yR r))):=by
 refine yh ynW ?_
 simp -dsimp -implicitDefEqProofs
 refine yc (yh7 r.Table) ?_
 simp -dsimp -implicitDefEqProofs
 refine ⟨fun h1=>?_,fun h1=>by simp [yR,h1]⟩
 refine yc (yD r.Volume 0 1000000000) ?_
 simp -dsimp -implicitDefEqProofs
 refine ⟨fun h2 hlen=>⟨fun h3=>?_,fun h3=>?_⟩,fun h2=>by simp [yR,amount,h2]⟩
 ·have : ¬ r.Pipe.length ≤ 12:=by omega
  simp [yR,this]
 refine yg (ι:=Nat) (fun k=>k ≤ r.Pipe.length ∧ (∀ n ∈ r.Pipe.take k,amount n = true)) (fun k=>yO [(1,.box 1 0),(3,.c (.i k))] [(1,.box (r.enc.map .c))]) (fun k=>r.Pipe.length - k) 0 ⟨by simp,by simp⟩ (by apply yj <;> simp) ?_
 rintro k ⟨hk,hall⟩
 rcases Nat.lt_or_ge k r.Pipe.length with hlt | hge
 ·obtain ⟨x,hx⟩ : ∃ x,r.Pipe[k]? = some x:=⟨_,List.getElem?_eq_getElem hlt⟩
  simp -dsimp -implicitDefEqProofs [hx,yG hlt]
  intro _
  refine yc (yD x 0 1000000000) ?_
  simp -dsimp -implicitDefEqProofs
  refine ⟨fun h4=>yrR hx h4,fun h4=>?_⟩
  exact ⟨yw hlt hlen,k + 1,⟨hlt,yL (p:=amount) hx hall h4⟩,by omega,by apply yj <;> simp⟩
 ·simp -dsimp -implicitDefEqProofs [yaB hge]
  intro _
  have h6:=yX (p:=amount) hge hall
  refine yc (yoR r h2 (by omega) (List.all_eq_true.1 h6)) ?_
  simp -dsimp -implicitDefEqProofs
  have h3' : r.Pipe.length ≤ 12:=by omega
  simp [yR,h1,show amount r.Volume = true from h2,h6,h3']
theorem yw7 {α : Type} {p : α → Bool} : ∀ {l : List α} {k : Nat} {q : α},k ≤ (l.takeWhile p).length → l[k]? = some q → p q = true → k + 1 ≤ (l.takeWhile p).length
 | [],k,q,_,h,_=>by simp at h
 | x :: l,0,q,_,h,hq=>by
  simp at h; subst h
  simp [List.takeWhile_cons,hq]
 | x :: l,k + 1,q,hk,h,hq=>by
  rw [List.takeWhile_cons] at hk ⊢
  split at hk
  ·rename_i hx
   rw [if_pos hx]
   have:=yw7 (l:=l) (k:=k) (by simpa using hk) (by simpa using h) hq
   simp only [List.length_cons]; omega
  ·simp at hk
theorem yxb {α : Type} {p : α → Bool} : ∀ {l : List α} {k : Nat} {q : α},k ≤ (l.takeWhile p).length → l[k]? = some q → p q = false → (l.takeWhile p).length = k
 | [],k,q,_,h,_=>by simp at h
 | x :: l,0,q,_,h,hq=>by
  simp at h; subst h
  simp [List.takeWhile_cons,hq]
 | x :: l,k + 1,q,hk,h,hq=>by
  rw [List.takeWhile_cons] at hk ⊢
  split at hk
  ·rename_i hx
   rw [if_pos hx]
   have:=yxb (l:=l) (k:=k) (by simpa using hk) (by simpa using h) hq
   simp only [List.length_cons]; omega
  ·simp at hk
def seg (l : List Point) (x : Int) : Nat:=(l.tail.takeWhile fun q=>decide (q.X ≤ x)).length
theorem seg_next {l : List Point} {x : Int} {k : Nat} {q : Point} (hk : k ≤ seg l x) (hq : l[k + 1]? = some q) (h : q.X ≤ x) : k + 1 ≤ seg l x :=
 yw7 hk (by rw [List.getElem?_tail]; exact hq) (by simp [h])
theorem yu5 {l : List Point} {x : Int} {k : Nat} {q : Point} (hk : k ≤ seg l x) (hq : l[k + 1]? = some q) (h : x < q.X) : seg l x = k :=
 yxb hk (by rw [List.getElem?_tail]; exact hq) (by simp; omega)
theorem yop {l : List Point} : ∀ {n k : Nat},upTo l n = true → k < n → yhD l k = true
 | 0,k,_,h=>by omega
 | n + 1,k,h,hk=>by
  simp only [upTo,Bool.and_eq_true] at h
  rcases Nat.lt_or_ge k n with h1 | h1
  ·exact yop h.1 h1
  ·have : k = n:=by omega
   subst this; exact h.2
structure TableFacts (l : List Point) : Prop where
 len : 2 ≤ l.length ∧ l.length ≤ 20
 pt : ∀ (k : Nat) (p : Point),l[k]? = some p → (0 ≤ p.X ∧ p.X ≤ 1000000000) ∧ (0 ≤ p.Y ∧ p.Y ≤ 1000000000)
 up : ∀ (k : Nat) (p q : Point),l[k]? = some p → l[k + 1]? = some q → p.X < q.X ∧ p.Y ≤ q.Y
theorem yeM {l : List Point} (h : yaM l = true) : TableFacts l:=by
 simp only [yaM,Bool.and_eq_true] at h
 obtain ⟨h1,h2⟩:=h
 have h3:=yF.1 h2
 refine ⟨by omega,fun k p hp=>?_,fun k p q hp hq=>?_⟩
 ·have hk:=(List.getElem?_eq_some_iff.1 hp).1
  have hs:=yop h1 hk
  have : ygg p = true:=by
   cases k with
   | zero=>rw [yhk hp] at hs; exact hs
   | succ j =>
    rw [yea hp (List.getElem?_eq_getElem (by omega)),Bool.and_eq_true] at hs
    exact hs.1
  simp only [ygg,Bool.and_eq_true] at this
  exact ⟨yF.1 this.1,yF.1 this.2⟩
 ·have hk:=(List.getElem?_eq_some_iff.1 hq).1
  have hs:=yop h1 hk
  rw [yea hq hp,Bool.and_eq_true] at hs
  have:=hs.2
  simpa [follows] using this
def yi6 (p q : Point) (x : Int) : Int:=p.Y + ((x - p.X) * (q.Y - p.Y)).tdiv (q.X - p.X)
def ybq (l : List Point) (k : Nat) : Point:=l[k]?.getD default
theorem ybc {l : List Point} {k : Nat} {p : Point} (h : l[k]? = some p) : ybq l k = p:=by simp [ybq,h]
def yac (l : List Point) (x : Int) : Int :=
 if yaM l then if x ≤ (ybq l 0).X then (ybq l 0).Y else if (ybq l (l.length - 1)).X ≤ x then (ybq l (l.length - 1)).Y else yi6 (ybq l (seg l x)) (ybq l (seg l x + 1)) x
 else 0
theorem ytV {l : List Point} (tf : TableFacts l) {k : Nat} {p q : Point} (hp : l[k]? = some p) (hq : l[k + 1]? = some q) {x v : Int} (hx : p.X ≤ x) (h4 : x < q.X) (hv : v = p.Y + ((x - p.X) * (q.Y - p.Y)).tdiv (q.X - p.X)) :
 inI (x - p.X) ∧ inI (q.Y - p.Y) ∧ inI ((x - p.X) * (q.Y - p.Y)) ∧ inI (q.X - p.X) ∧ ¬q.X - p.X = 0 ∧ inI (((x - p.X) * (q.Y - p.Y)).tdiv (q.X - p.X)) ∧ inI (p.Y + ((x - p.X) * (q.Y - p.Y)).tdiv (q.X - p.X)) ∧ v = p.Y + ((x - p.X) * (q.Y - p.Y)).tdiv (q.X - p.X):=by
 have b1:=tf.pt k p hp
 have b2:=tf.pt (k + 1) q hq
 have b3:=tf.up k p q hp hq
 have c1 : 0 ≤ (x - p.X) * (q.Y - p.Y):=Int.mul_nonneg (by omega) (by omega)
 have c2 : (x - p.X) * (q.Y - p.Y) ≤ 1000000000 * 1000000000:=Int.mul_le_mul (by omega) (by omega) (by omega) (by omega)
 have c3 : ((x - p.X) * (q.Y - p.Y)).tdiv (q.X - p.X) = ((x - p.X) * (q.Y - p.Y)) / (q.X - p.X):=Int.tdiv_eq_ediv_of_nonneg c1
 have c4 : 0 ≤ ((x - p.X) * (q.Y - p.Y)) / (q.X - p.X):=Int.ediv_nonneg c1 (by omega)
 have c5 : ((x - p.X) * (q.Y - p.Y)) / (q.X - p.X) ≤ (x - p.X) * (q.Y - p.Y):=Int.ediv_le_self _ c1
 refine ⟨by unfold inI; omega,by unfold inI; omega,by unfold inI; omega,by unfold inI; omega,by omega,?_,?_,hv⟩
 ·rw [c3]; unfold inI; omega
 ·rw [c3]; unfold inI; omega
theorem yh5 (l : List Point) (x : Int) : yB Tryz.prog 110 [.c (.sl 2 (l.map Point.enc)),.c (.i x)] (.c (.i (yac l x))):=by
 refine yh yom ?_
 simp -dsimp -implicitDefEqProofs
 refine yc (yh0 l) ?_
 cases h1 : yaM l with
 | false =>
  simp -dsimp -implicitDefEqProofs
  simp [yac,h1]
 | true =>
  have tf:=yeM h1
  obtain ⟨hl1,hl2⟩:=tf.len
  obtain ⟨p0,e0⟩ : ∃ p,l[0]? = some p:=⟨_,List.getElem?_eq_getElem (by omega)⟩
  obtain ⟨pe,ee⟩ : ∃ p,l[l.length - 1]? = some p:=⟨_,List.getElem?_eq_getElem (by omega)⟩
  have f0:=(List.getElem?_eq_some_iff.1 e0).2
  have l0 : 0 < l.length:=by omega
  have l1 : (1 : Int) ≤ l.length:=by omega
  have l2 : (l.length : Int) - 1 < l.length:=by omega
  have l3 : inI ((l.length : Int) - 1):=by unfold inI; omega
  simp -dsimp -implicitDefEqProofs [e0,ee,f0,l0,l1,l2,l3]
  have a0 : ybq l 0 = p0:=ybc e0
  have ae : ybq l (l.length - 1) = pe:=ybc ee
  refine fun _=>⟨fun h2=>by simp [yac,h1,a0,h2],fun h2=>⟨fun h3=>?_,fun h3=>?_⟩⟩
  ·have : ¬ x ≤ p0.X:=by omega
   simp [yac,h1,a0,ae,this,h3]
  have hv : yac l x = yi6 (ybq l (seg l x)) (ybq l (seg l x + 1)) x:=by
   have g1 : ¬ x ≤ p0.X:=by omega
   have g2 : ¬ pe.X ≤ x:=by omega
   simp [yac,h1,a0,ae,g1,g2]
  refine yg (ι:=Nat) (fun k=>k + 2 ≤ l.length ∧ k ≤ seg l x ∧ (ybq l k).X ≤ x) (fun k=>yO [(0,.c (.sl 2 (l.map Point.enc))),(1,.c (.i x)),(6,.c (.i k))] []) (fun k=>l.length - k) 0 ⟨hl1,Nat.zero_le _,by rw [a0]; omega⟩ (by apply yj <;> simp) ?_
  rintro k ⟨hk,hs,hx⟩
  obtain ⟨p,hp⟩ : ∃ p,l[k]? = some p:=⟨_,List.getElem?_eq_getElem (by omega)⟩
  obtain ⟨q,hq⟩ : ∃ p,l[k + 1]? = some p:=⟨_,List.getElem?_eq_getElem (by omega)⟩
  rw [ybc hp] at hx
  have i1 : (k : Int) + 1 < l.length:=by omega
  have i2 : (k : Int) < l.length:=by omega
  have i3 : (0 : Int) ≤ k + 1:=by omega
  have i4 : ((k : Int) + 1).toNat = k + 1:=by omega
  have i5 : inI ((k : Int) + 1):=by unfold inI; omega
  simp -dsimp -implicitDefEqProofs [hp,hq,i1,i2,i3,i4,i5]
  refine ⟨fun h4=>⟨k + 1,⟨?_,seg_next hs hq h4,by rw [ybc hq]; exact h4⟩,by omega,by apply yj <;> simp⟩,fun h4=>?_⟩
  ·rcases Nat.lt_or_ge (k + 2) l.length with g | g
   ·omega
   ·have e : l.length - 1 = k + 1:=by omega
    rw [e,hq] at ee
    cases ee
    omega
  ·exact ytV tf hp hq hx h4 (by rw [hv,yu5 hs hq h4,ybc hp,ybc hq]; rfl)
theorem yhS (l : List Point) (x : Int) : yB Tryz.prog 80 [.c (.sl 2 (l.map Point.enc)),.c (.i x)] (.c (.i (yac l x))):=by
 refine yh yoq ?_
 simp -dsimp -implicitDefEqProofs
 refine yc (yh7 l) ?_
 cases h1 : yaM l with
 | false =>
  simp -dsimp -implicitDefEqProofs
  simp [yac,h1]
 | true =>
  have tf:=yeM h1
  obtain ⟨hl1,hl2⟩:=tf.len
  obtain ⟨p0,e0⟩ : ∃ p,l[0]? = some p:=⟨_,List.getElem?_eq_getElem (by omega)⟩
  obtain ⟨pe,ee⟩ : ∃ p,l[l.length - 1]? = some p:=⟨_,List.getElem?_eq_getElem (by omega)⟩
  have f0:=(List.getElem?_eq_some_iff.1 e0).2
  have l0 : 0 < l.length:=by omega
  have l1 : (1 : Int) ≤ l.length:=by omega
  have l2 : (l.length : Int) - 1 < l.length:=by omega
  have l3 : inI ((l.length : Int) - 1):=by unfold inI; omega
  simp -dsimp -implicitDefEqProofs [e0,ee,f0,l0,l1,l2,l3]
  have a0 : ybq l 0 = p0:=ybc e0
  have ae : ybq l (l.length - 1) = pe:=ybc ee
  refine fun _=>⟨fun h2=>by simp [yac,h1,a0,h2],fun h2=>⟨fun h3=>?_,fun h3=>?_⟩⟩
  ·have : ¬ x ≤ p0.X:=by omega
   simp [yac,h1,a0,ae,this,h3]
  have hv : yac l x = yi6 (ybq l (seg l x)) (ybq l (seg l x + 1)) x:=by
   have g1 : ¬ x ≤ p0.X:=by omega
   have g2 : ¬ pe.X ≤ x:=by omega
   simp [yac,h1,a0,ae,g1,g2]
  refine yg (ι:=Nat) (fun k=>k + 2 ≤ l.length ∧ k ≤ seg l x ∧ (ybq l k).X ≤ x) (fun k=>yO [(0,.c (.sl 2 (l.map Point.enc))),(1,.c (.i x)),(6,.c (.i k))] []) (fun k=>l.length - k) 0 ⟨hl1,Nat.zero_le _,by rw [a0]; omega⟩ (by apply yj <;> simp) ?_
  rintro k ⟨hk,hs,hx⟩
  obtain ⟨p,hp⟩ : ∃ p,l[k]? = some p:=⟨_,List.getElem?_eq_getElem (by omega)⟩
  obtain ⟨q,hq⟩ : ∃ p,l[k + 1]? = some p:=⟨_,List.getElem?_eq_getElem (by omega)⟩
  rw [ybc hp] at hx
  have i1 : (k : Int) + 1 < l.length:=by omega
  have i2 : (k : Int) < l.length:=by omega
  have i3 : (0 : Int) ≤ k + 1:=by omega
  have i4 : ((k : Int) + 1).toNat = k + 1:=by omega
  have i5 : inI ((k : Int) + 1):=by unfold inI; omega
  simp -dsimp -implicitDefEqProofs [hp,hq,i1,i2,i3,i4,i5]
  refine ⟨fun h4=>⟨k + 1,⟨?_,seg_next hs hq h4,by rw [ybc hq]; exact h4⟩,by omega,by apply yj <;> simp⟩,fun h4=>?_⟩
  ·rcases Nat.lt_or_ge (k + 2) l.length with g | g
   ·omega
   ·have e : l.length - 1 = k + 1:=by omega
    rw [e,hq] at ee
    cases ee
    omega
  ·exact ytV tf hp hq hx h4 (by rw [hv,yu5 hs hq h4,ybc hp,ybc hq]; rfl)
def least (f : Int → Bool) (lo : Int) : Nat → Int
 | 0=>lo
 | n + 1=>if f lo then lo else least f (lo + 1) n
theorem yuK {f : Int → Bool} : ∀ {n : Nat} {lo p : Int},lo ≤ p → p ≤ lo + n → f p = true → (∀ z,lo ≤ z → z < p → f z = false) → least f lo n = p
 | 0,lo,p,h1,h2,h3,h4=>by simp only [least]; omega
 | n + 1,lo,p,h1,h2,h3,h4=>by
  simp only [least]
  by_cases e : lo = p
  ·subst e; rw [if_pos h3]
  ·rw [if_neg (by rw [h4 lo (Int.le_refl _) (by omega)]; simp)]
   exact yuK (by omega) (by omega) h3 fun z hz1 hz2=>h4 z (by omega) hz2
theorem yyt {a b d : Int} (ha : 0 ≤ a) (hab : a ≤ b) (hd : 0 < d) : a.tdiv d ≤ b.tdiv d:=by
 rw [Int.tdiv_eq_ediv_of_nonneg ha,Int.tdiv_eq_ediv_of_nonneg (by omega)]
 exact Int.ediv_le_ediv hd hab
theorem ykl {l : List Point} (tf : TableFacts l) {k : Nat} {p q : Point} (hp : l[k]? = some p) (hq : l[k + 1]? = some q) {x y : Int} (hx : p.X ≤ x) (hxy : x ≤ y) : yi6 p q x ≤ yi6 p q y:=by
 have b3:=tf.up k p q hp hq
 unfold yi6
 have c1 : 0 ≤ (x - p.X) * (q.Y - p.Y):=Int.mul_nonneg (by omega) (by omega)
 have c2 : (x - p.X) * (q.Y - p.Y) ≤ (y - p.X) * (q.Y - p.Y):=Int.mul_le_mul_of_nonneg_right (by omega) (by omega)
 have:=yyt c1 c2 (show 0 < q.X - p.X by omega)
 omega
theorem yvy {l : List Point} (tf : TableFacts l) {k : Nat} {p q : Point} (hp : l[k]? = some p) (hq : l[k + 1]? = some q) : yi6 p q p.X = p.Y ∧ yi6 p q q.X = q.Y:=by
 have b3:=tf.up k p q hp hq
 unfold yi6
 refine ⟨by simp,?_⟩
 rw [Int.mul_tdiv_cancel_left _ (by omega)]
 omega
theorem yzF {α : Type} {p : α → Bool} : ∀ {l : List α} {i : Nat} {q : α},i < (l.takeWhile p).length → l[i]? = some q → p q = true
 | [],i,q,h,_=>by simp at h
 | x :: l,i,q,h,hq=>by
  rw [List.takeWhile_cons] at h
  split at h
  ·rename_i hx
   cases i with
   | zero=>simp at hq; subst hq; exact hx
   | succ i=>exact yzF (l:=l) (i:=i) (by simpa using h) (by simpa using hq)
  ·simp at h
theorem yzc {α : Type} {p : α → Bool} : ∀ {l : List α} {q : α},l[(l.takeWhile p).length]? = some q → p q = false
 | [],q,h=>by simp at h
 | x :: l,q,h=>by
  rw [List.takeWhile_cons] at h
  split at h
  ·exact yzc (l:=l) (by simpa using h)
  ·rename_i hx
   simp at h; subst h; simpa using hx
theorem yfb {l : List Point} (tf : TableFacts l) : ∀ {j i : Nat} {p q : Point},i ≤ j → l[i]? = some p → l[j]? = some q → p.X ≤ q.X ∧ p.Y ≤ q.Y
 | 0,i,p,q,h,hp,hq=>by
  have : i = 0:=by omega
  subst this; rw [hp] at hq; cases hq; omega
 | j + 1,i,p,q,h,hp,hq=>by
  rcases Nat.lt_or_ge j i with h1 | h1
  ·have : i = j + 1:=by omega
   subst this; rw [hp] at hq; cases hq; omega
  ·have hj:=(List.getElem?_eq_some_iff.1 hq).1
   obtain ⟨r,hr⟩ : ∃ r,l[j]? = some r:=⟨_,List.getElem?_eq_getElem (by omega)⟩
   have e1:=yfb tf h1 hp hr
   have e2:=tf.up j r q hr hq
   omega
theorem yD2 {l : List Point} (tf : TableFacts l) {x : Int} (h0 : (ybq l 0).X ≤ x) (h1 : x < (ybq l (l.length - 1)).X) : ∃ p q,l[seg l x]? = some p ∧ l[seg l x + 1]? = some q ∧ p.X ≤ x ∧ x < q.X:=by
 obtain ⟨hl1,hl2⟩:=tf.len
 have hlen : seg l x ≤ l.length - 1:=by
  unfold seg
  have:=(List.takeWhile_sublist (fun q : Point=>decide (q.X ≤ x)) (l:=l.tail)).length_le
  simpa using this
 obtain ⟨e,he⟩ : ∃ e,l[l.length - 1]? = some e:=⟨_,List.getElem?_eq_getElem (by omega)⟩
 rw [ybc he] at h1
 have hp : ∀ p,l[seg l x]? = some p → p.X ≤ x:=by
  intro p hp
  cases hs : seg l x with
  | zero=>rw [hs] at hp; rw [ybc hp] at h0; exact h0
  | succ j =>
   rw [hs] at hp
   have:=yzF (p:=fun q : Point=>decide (q.X ≤ x)) (l:=l.tail) (i:=j) (q:=p) (by show j < seg l x; omega) (by rw [List.getElem?_tail]; exact hp)
   simpa using this
 have hlt : seg l x < l.length - 1:=by
  rcases Nat.lt_or_ge (seg l x) (l.length - 1) with h | h
  ·exact h
  ·have e1 : seg l x = l.length - 1:=by omega
   have:=hp e (by rw [e1]; exact he)
   omega
 obtain ⟨p,hp'⟩ : ∃ p,l[seg l x]? = some p:=⟨_,List.getElem?_eq_getElem (by omega)⟩
 obtain ⟨q,hq'⟩ : ∃ p,l[seg l x + 1]? = some p:=⟨_,List.getElem?_eq_getElem (by omega)⟩
 refine ⟨p,q,hp',hq',hp p hp',?_⟩
 have:=yzc (p:=fun q : Point=>decide (q.X ≤ x)) (l:=l.tail) (q:=q) (by rw [List.getElem?_tail]; exact hq')
 simp at this
 omega
theorem yul {l : List Point} (h : yaM l = true) {x : Int} (h0 : (ybq l 0).X < x) (h1 : x < (ybq l (l.length - 1)).X) : yac l x = yi6 (ybq l (seg l x)) (ybq l (seg l x + 1)) x:=by
 have g1 : ¬ x ≤ (ybq l 0).X:=by omega
 have g2 : ¬ (ybq l (l.length - 1)).X ≤ x:=by omega
 simp [yac,h,g1,g2]
theorem yh8 {l : List Point} (h : yaM l = true) {x : Int} (h0 : x ≤ (ybq l 0).X) : yac l x = (ybq l 0).Y:=by simp [yac,h,h0]
theorem yhp {l : List Point} (h : yaM l = true) {x : Int} (h1 : (ybq l (l.length - 1)).X ≤ x) : yac l x = (ybq l (l.length - 1)).Y:=by
 have tf:=yeM h
 obtain ⟨hl1,hl2⟩:=tf.len
 obtain ⟨e,he⟩ : ∃ e,l[l.length - 1]? = some e:=⟨_,List.getElem?_eq_getElem (by omega)⟩
 obtain ⟨p,hp⟩ : ∃ e,l[0]? = some e:=⟨_,List.getElem?_eq_getElem (by omega)⟩
 obtain ⟨q,hq⟩ : ∃ e,l[1]? = some e:=⟨_,List.getElem?_eq_getElem (by omega)⟩
 have e1:=tf.up 0 p q hp hq
 have e2:=yfb tf (show 1 ≤ l.length - 1 by omega) hq he
 have g1 : ¬ x ≤ (ybq l 0).X:=by rw [ybc hp]; rw [ybc he] at h1; omega
 simp [yac,h,g1,h1]
theorem yjh {l : List Point} (h : yaM l = true) {x : Int} (h0 : (ybq l 0).X < x) (h1 : x < (ybq l (l.length - 1)).X) :
 ∃ p q,l[seg l x]? = some p ∧ l[seg l x + 1]? = some q ∧ p.X ≤ x ∧ x < q.X ∧ yac l x = yi6 p q x ∧ p.Y ≤ yac l x ∧ yac l x ≤ q.Y:=by
 have tf:=yeM h
 obtain ⟨p,q,e1,e2,e3,e4⟩:=yD2 tf (Int.le_of_lt h0) h1
 have hv:=yul h h0 h1
 rw [ybc e1,ybc e2] at hv
 have hen:=yvy tf e1 e2
 have m1:=ykl tf e1 e2 (Int.le_refl _) e3
 have m2:=ykl tf e1 e2 e3 (Int.le_of_lt e4)
 exact ⟨p,q,e1,e2,e3,e4,hv,by rw [hv]; omega,by rw [hv]; omega⟩
theorem yzK {l : List Point} (tf : TableFacts l) {x y : Int} (hxy : x ≤ y) {p q : Point} (hp : l[seg l x]? = some p) (hx : p.X ≤ x) (hq : l[seg l y + 1]? = some q) (hy : y < q.X) : seg l x ≤ seg l y:=by
 rcases Nat.lt_or_ge (seg l y) (seg l x) with h | h
 ·have:=yfb tf (show seg l y + 1 ≤ seg l x by omega) hq hp
  omega
 ·exact h
theorem yk4 {l : List Point} (h : yaM l = true) {x y : Int} (hxy : x ≤ y) : yac l x ≤ yac l y:=by
 have tf:=yeM h
 obtain ⟨hl1,hl2⟩:=tf.len
 obtain ⟨e,he⟩ : ∃ e,l[l.length - 1]? = some e:=⟨_,List.getElem?_eq_getElem (by omega)⟩
 obtain ⟨f,hf⟩ : ∃ e,l[0]? = some e:=⟨_,List.getElem?_eq_getElem (by omega)⟩
 have hfe:=yfb tf (Nat.zero_le _) hf he
 rcases Int.lt_or_le (ybq l 0).X y with hy | hy
 ·rcases Int.lt_or_le y (ybq l (l.length - 1)).X with hy2 | hy2
  ·obtain ⟨p',q',a1,a2,a3,a4,a5,a6,a7⟩:=yjh h hy hy2
   rcases Int.lt_or_le (ybq l 0).X x with hx | hx
   ·obtain ⟨p,q,b1,b2,b3,b4,b5,b6,b7⟩:=yjh h hx (by omega)
    have hs:=yzK tf hxy b1 b3 a2 a4
    rcases Nat.lt_or_ge (seg l x) (seg l y) with hlt | hge
    ·have:=yfb tf (show seg l x + 1 ≤ seg l y by omega) b2 a1
     omega
    ·have e1 : seg l x = seg l y:=by omega
     rw [e1] at b1 b2
     rw [b1] at a1; cases a1
     rw [b2] at a2; cases a2
     rw [a5,b5]
     exact ykl tf b1 b2 b3 hxy
   ·rw [yh8 h hx,ybc hf]
    have:=yfb tf (Nat.zero_le _) hf a1
    omega
  ·rw [yhp h hy2,ybc he]
   rcases Int.lt_or_le (ybq l 0).X x with hx | hx
   ·rcases Int.lt_or_le x (ybq l (l.length - 1)).X with hx2 | hx2
    ·obtain ⟨p,q,b1,b2,b3,b4,b5,b6,b7⟩:=yjh h hx hx2
     have hk:=(List.getElem?_eq_some_iff.1 b2).1
     have:=yfb tf (show seg l x + 1 ≤ l.length - 1 by omega) b2 he
     omega
    ·rw [yhp h hx2,ybc he]; omega
   ·rw [yh8 h hx,ybc hf]; omega
 ·rw [yh8 h hy,yh8 h (by omega)]; omega
def yc0 (l : List Point) (y : Int) : Int × Bool :=
 if yaM l = true ∧ y ≤ (ybq l (l.length - 1)).Y then (least (fun z=>decide (y ≤ yac l z)) (ybq l 0).X ((ybq l (l.length - 1)).X - (ybq l 0).X).toNat,true) else (0,false)
theorem yo8 {l : List Point} {y : Int} (h : yaM l = false) : yc0 l y = (0,false):=by simp [yc0,h]
theorem ymR {l : List Point} {y : Int} (h : (ybq l (l.length - 1)).Y < y) : yc0 l y = (0,false):=by
 have : ¬ y ≤ (ybq l (l.length - 1)).Y:=by omega
 simp [yc0,this]
theorem yoQ {l : List Point} {y p : Int} (h : yaM l = true) (hy : y ≤ (ybq l (l.length - 1)).Y) (h0 : (ybq l 0).X ≤ p) (h1 : p ≤ (ybq l (l.length - 1)).X) (hp : y ≤ yac l p) (hz : ∀ z,(ybq l 0).X ≤ z → z < p → yac l z < y) : yc0 l y = (p,true):=by
 simp only [yc0,h,hy,and_self,if_true]
 rw [yuK (p:=p) h0 (by omega) (by simp [hp]) fun z z1 z2=>by have:=hz z z1 z2; simp; omega]
theorem yhB {l : List Point} (h1 : yaM l = true) : ∃ p0 pe,l[0]? = some p0 ∧ l[l.length - 1]? = some pe ∧ ybq l 0 = p0 ∧ ybq l (l.length - 1) = pe ∧ 0 ≤ p0.X ∧ p0.X ≤ pe.X ∧ pe.X ≤ 1000000000 ∧ 2 ≤ l.length ∧ l.length ≤ 20 ∧ 0 ≤ pe.Y ∧ pe.Y ≤ 1000000000:=by
 have tf:=yeM h1
 obtain ⟨hl1,hl2⟩:=tf.len
 obtain ⟨p0,e0⟩ : ∃ p,l[0]? = some p:=⟨_,List.getElem?_eq_getElem (by omega)⟩
 obtain ⟨pe,ee⟩ : ∃ p,l[l.length - 1]? = some p:=⟨_,List.getElem?_eq_getElem (by omega)⟩
 have b1:=tf.pt _ _ e0
 have b2:=tf.pt _ _ ee
 have b3:=yfb tf (Nat.zero_le _) e0 ee
 exact ⟨p0,pe,e0,ee,ybc e0,ybc ee,b1.1.1,b3.1,b2.1.2,hl1,hl2,b2.2.1,b2.2.2⟩
theorem ysM (l : List Point) (y : Int) : yB Tryz.prog 96 [.c (.sl 2 (l.map Point.enc)),.c (.i y)] (.tup [.c (.i (yc0 l y).1),.c (.b (yc0 l y).2)]):=by
 refine yh ypO ?_
 simp -dsimp -implicitDefEqProofs
 refine yc (yh0 l) ?_
 cases h1 : yaM l with
 | false =>
  simp -dsimp -implicitDefEqProofs
  simp [yo8 h1]
 | true =>
  obtain ⟨p0,pe,e0,ee,a0,ae,b1,b2,b3,hl1,hl2,b4,b5⟩:=yhB h1
  have f0:=(List.getElem?_eq_some_iff.1 e0).2
  have l0 : 0 < l.length:=by omega
  have l1 : (1 : Int) ≤ l.length:=by omega
  have l2 : (l.length : Int) - 1 < l.length:=by omega
  have l3 : inI ((l.length : Int) - 1):=by unfold inI; omega
  simp -dsimp -implicitDefEqProofs [e0,ee,f0,l0,l1,l2,l3]
  refine fun _=>⟨fun h2=>?_,fun h2 _=>?_⟩
  ·simp [ymR (show (ybq l (l.length - 1)).Y < y by rw [ae]; exact h2)]
  have hy : y ≤ (ybq l (l.length - 1)).Y:=by rw [ae]; omega
  have he : y ≤ yac l pe.X:=by rw [yhp h1 (by rw [ae]; exact Int.le_refl _),ae]; rw [ae] at hy; exact hy
  have hz : ∀ z,p0.X ≤ z → z < p0.X → yac l z < y:=fun z z1 z2=>absurd z2 (by omega)
  have hz' : ∀ z,p0.X ≤ z → z ≤ p0.X - 1 → yac l z < y:=fun z z1 z2=>absurd z2 (by omega)
  refine yg (ι:=Int × Int) (fun p=>p0.X ≤ p.1 ∧ p.1 ≤ p.2 ∧ p.2 ≤ pe.X ∧ y ≤ yac l p.2 ∧ ∀ z,p0.X ≤ z → z < p.1 → yac l z < y) (fun p=>yO [(0,.c (.sl 2 (l.map Point.enc))),(1,.c (.i y)),(6,.c (.i p.1)),(7,.c (.i p.2))] []) (fun p=>(p.2 - p.1).toNat) (p0.X,pe.X) ⟨Int.le_refl _,b2,Int.le_refl _,he,hz⟩ (by apply yj <;> simp) ?_
  rintro ⟨lo,hi⟩ ⟨c1,c2,c3,c4,c5⟩
  simp only at c1 c2 c3 c4 c5
  have hq : (lo + hi).tdiv 2 = (lo + hi) / 2:=Int.tdiv_eq_ediv_of_nonneg (by omega)
  simp -dsimp -implicitDefEqProofs
  refine ⟨fun h4=>⟨by unfold inI; omega,by rw [hq]; unfold inI; omega,?_⟩,fun h4=>?_⟩
  ·refine yaQ (yh5 l ((lo + hi).tdiv 2)) (by simp) rfl ?_
   simp -dsimp -implicitDefEqProofs
   rw [hq]
   refine ⟨fun h5=>?_,fun h5=>?_⟩
   ·exact ⟨lo,(lo + hi) / 2,⟨c1,by omega,by omega,h5,c5⟩,by omega,by apply yj <;> simp⟩
   ·refine ⟨by unfold inI; omega,(lo + hi) / 2 + 1,hi,⟨by omega,by omega,c3,c4,fun z z1 z2=>?_⟩,by omega,by apply yj <;> simp⟩
    have:=yk4 h1 (show z ≤ (lo + hi) / 2 by omega)
    omega
  ·have e : hi = lo:=by omega
   subst e
   rw [yoQ h1 hy (by rw [a0]; exact c1) (by rw [ae]; exact c3) c4 (by rw [a0]; exact c5)]
   simp
theorem yRd {l : List Point} {y : Int} (h : (yc0 l y).2 = true) : yaM l = true ∧ 0 ≤ (yc0 l y).1 ∧ (yc0 l y).1 ≤ 1000000000:=by
 unfold yc0 at h ⊢
 split at h
 ·rename_i hh
  obtain ⟨p0,pe,e0,ee,a0,ae,b1,b2,b3,hl1,hl2,b4,b5⟩:=yhB hh.1
  rw [if_pos hh]
  have : ∀ (f : Int → Bool) (n : Nat) (lo : Int),lo ≤ least f lo n ∧ least f lo n ≤ lo + n:=by
   intro f n
   induction n with
   | zero=>intro lo; simp [least]
   | succ n ih =>
    intro lo
    simp only [least]
    have:=ih (lo + 1)
    split <;> omega
  have:=this (fun z=>decide (y ≤ yac l z)) ((ybq l (l.length - 1)).X - (ybq l 0).X).toNat (ybq l 0).X
  rw [a0,ae] at this
  simp only [a0,ae]
  exact ⟨hh.1,by omega,by omega⟩
 ·simp at h
def yal (r : Reach) : Int:=if yR r then (if (yc0 r.Table r.Volume).2 then (yc0 r.Table r.Volume).1 else (ybq r.Table (r.Table.length - 1)).X) else 0
theorem yQo (r : Reach) : 0 ≤ yal r ∧ yal r ≤ 1000000000:=by
 unfold yal
 split
 ·rename_i h
  have ht : yaM r.Table = true:=by simp [yR] at h; exact h.1.1.1.1
  obtain ⟨p0,pe,e0,ee,a0,ae,b1,b2,b3,hl1,hl2,b4,b5⟩:=yhB ht
  split
  ·rename_i hp; have:=yRd hp; omega
  ·rw [ae]; omega
 ·omega
theorem yel (r : Reach) : yB Tryz.prog 66 [.agg (r.enc.map .c)] (.c (.i (yal r))):=by
 refine yh yqa ?_
 simp -dsimp -implicitDefEqProofs
 refine yc (yby r) ?_
 cases h : yR r with
 | false=>simp -dsimp -implicitDefEqProofs; simp [yal,h]
 | true =>
  have ht : yaM r.Table = true:=by simp [yR] at h; exact h.1.1.1.1
  obtain ⟨p0,pe,e0,ee,a0,ae,b1,b2,b3,hl1,hl2,b4,b5⟩:=yhB ht
  simp -dsimp -implicitDefEqProofs
  refine yc (ysM r.Table r.Volume) ?_
  cases hp : (yc0 r.Table r.Volume).2 with
  | false =>
   have l2 : (r.Table.length : Int) - 1 < r.Table.length:=by omega
   have l3 : inI ((r.Table.length : Int) - 1):=by unfold inI; omega
   have l1 : (1 : Int) ≤ r.Table.length:=by omega
   simp -dsimp -implicitDefEqProofs [hp,ee,l1,l2,l3]
   intro _
   simp [yal,h,hp,ae]
  | true=>simp -dsimp -implicitDefEqProofs [hp]; simp [yal,h,hp]
@[simp] def Mover.yI (e : Mover) : List C:=[.b e.Train.Up,.ot 1 (e.Train.Rows.map yT),.i e.Place]
theorem Mover.yaa (e : Mover) : ybQ e.yI = some e.enc:=by simp [Mover.yI,ybQ,ydl yeg]
def mkPt (k : Int) : List C:=[.i k,.i (k + 1)]
@[simp] def Reach.yI (e : Reach) : List C:=[.ow 2 (e.Table.map Point.enc),.i e.Volume,.ow 1 (e.Pipe.map yJ)]
theorem Reach.yaa (e : Reach) : ybQ e.yI = some e.enc:=by simp [Reach.yI,ybQ,C.shr]
def fM (k : Int) (e : Mover) : List C:=[.b (decide (k.tmod 3 = 0)),.ot 1 (yaA fB nB (k + 1) e.Train.Rows),.i (k + 1 + cnt nB e.Train.Rows)]
def nM (e : Mover) : Nat:=1 + cnt nB e.Train.Rows + 1
theorem yUq {t : Train} (h : TrainFacts t) : t.Rows.length ≤ 6:=by
 have : ∀ l : List (List Boat),(∀ r ∈ l,full r = true) → l.length ≤ l.flatten.length:=by
  intro l
  induction l with
  | nil=>simp
  | cons r l ih =>
   intro hl
   have e1:=ih fun x hx=>hl x (by simp [hx])
   have e2:=ytQ.1 (hl r (by simp))
   simp only [List.length_cons,List.flatten_cons,List.length_append]; omega
 have h1:=this t.Rows h.rows
 have h2:=h.len
 unfold Train.yas at h2
 omega
theorem ySZ {t : Train} (h : TrainFacts t) {k : Nat} {r : List Boat} (hr : t.Rows[k]? = some r) : 1 ≤ r.length ∧ r.length ≤ 6 ∧ ∀ b ∈ r,ybr b = true:=by
 have h1:=ytQ.1 (h.rows r (List.mem_of_getElem? hr))
 obtain ⟨m,e⟩:=yvl hr
 have h2:=h.len
 rw [e] at h2
 simp only [List.length_append] at h2
 exact ⟨by omega,by omega,fun b hb=>h.ok b (by rw [e]; simp [hb])⟩
def sumF {α : Type} (f : α → Int) (l : List α) (k : Nat) : Int:=((l.take k).map f).sum
theorem ySm {α : Type} {f : α → Int} {l : List α} : sumF f l 0 = 0:=rfl
theorem ySD {α : Type} {f : α → Int} {l : List α} {k : Nat} {x : α} (h : l[k]? = some x) : sumF f l (k + 1) = sumF f l k + f x:=by
 unfold sumF; rw [List.take_succ,h,List.map_append,List.sum_append]; simp
theorem ySC {α : Type} {f : α → Int} {l : List α} {k : Nat} (h : l.length ≤ k) : sumF f l k = (l.map f).sum:=by
 unfold sumF; rw [List.take_of_length_le h]
theorem yTS {α : Type} {f : α → Int} {l : List α} {c : Int} (hc : 0 ≤ c) (h : ∀ x ∈ l,0 ≤ f x ∧ f x ≤ c) : ∀ k : Nat,0 ≤ sumF f l k ∧ sumF f l k ≤ c * k
 | 0=>by simp [ySm]
 | k + 1=>by
  have ih:=yTS hc h k
  have e : c * ((k + 1 : Nat) : Int) = c * k + c:=by rw [Int.natCast_add,Int.mul_add]; simp
  cases hk : l[k]? with
  | none =>
   have : l.length ≤ k:=by simpa using hk
   have e2 : sumF f l (k + 1) = sumF f l k:=by unfold sumF; rw [List.take_of_length_le (by omega),List.take_of_length_le this]
   rw [e2,e]; omega
  | some x =>
   have:=h x (List.mem_of_getElem? hk)
   rw [ySD hk,e]; omega
def rowLen (r : List Boat) : Int:=maxOf Boat.Length r 0
def yR1 (t : Train) : Int:=if yP t then (t.Rows.map rowLen).sum else 0
theorem yUi {r : List Boat} (h : ∀ b ∈ r,ybr b = true) : 0 ≤ rowLen r ∧ rowLen r ≤ 200 :=
 yRc (fun x hx=>by have:=yMg (h x hx); omega) (by omega) (by omega)
theorem yST {t : Train} (h : TrainFacts t) {k : Nat} (hk : k ≤ t.Rows.length) : 0 ≤ sumF rowLen t.Rows k ∧ sumF rowLen t.Rows k ≤ 1200:=by
 have h1:=yTS (f:=rowLen) (l:=t.Rows) (c:=200) (by omega) (fun r hr=>by
  obtain ⟨i,hi⟩:=List.getElem?_of_mem hr
  exact yUi (ySZ h hi).2.2) k
 have:=yUq h
 omega
theorem yTV (t : Train) : 0 ≤ yR1 t ∧ yR1 t ≤ 1200:=by
 unfold yR1
 split
 ·rename_i h
  have:=yST (yhY h) (Nat.le_refl _)
  rw [ySC (Nat.le_refl _)] at this; exact this
 ·omega
theorem yTJ (t : Train) (h : t.small) : yB Tryz.prog 99 [.agg (t.enc.map .c)] (.c (.i (yR1 t))):=by
 refine yh yTs ?_
 simp -dsimp -implicitDefEqProofs
 refine yc (ydp t h) ?_
 simp -dsimp -implicitDefEqProofs
 refine ⟨fun h1=>by simp [yR1,h1],fun h1 hlen=>?_⟩
 have tf:=yhY h1
 refine yg (ι:=Nat) (fun k=>k ≤ t.Rows.length) (fun k=>yO [(3,.c (.i (sumF rowLen t.Rows k))),(13,.c (.sl 1 (t.Rows.map yai))),(14,.c (.i t.Rows.length)),(15,.c (.i k))] []) (fun k=>t.Rows.length - k) 0 (by simp) (by apply yj <;> simp [ySm]) ?_
 rintro k hk
 rcases Nat.lt_or_ge k t.Rows.length with hlt | hge
 ·obtain ⟨r,hr⟩ : ∃ r,t.Rows[k]? = some r:=⟨_,List.getElem?_eq_getElem hlt⟩
  simp -dsimp -implicitDefEqProofs [hr,yG hlt]
  intro hrl
  refine yg (ι:=Nat) (fun j=>j ≤ r.length) (fun j=>yO [(3,.c (.i (sumF rowLen t.Rows k))),(13,.c (.sl 1 (t.Rows.map yai))),(14,.c (.i t.Rows.length)),(15,.c (.i k)),(6,.c (.i (yP9 Boat.Length r 0 j))),(19,.c (.sl 6 (r.map Boat.enc))),(20,.c (.i r.length)),(21,.c (.i j))] []) (fun j=>r.length - j) 0 (by simp) (by apply yj <;> simp [yPJ]) ?_
  rintro j hj
  rcases Nat.lt_or_ge j r.length with hlt2 | hge2
  ·obtain ⟨b,hb⟩ : ∃ b,r[j]? = some b:=⟨_,List.getElem?_eq_getElem hlt2⟩
   simp -dsimp -implicitDefEqProofs [hb,yG hlt2]
   refine ⟨yw hlt2 hrl,j + 1,hlt2,by omega,?_⟩
   apply yj <;> simp [yQw hb]
  ·simp -dsimp -implicitDefEqProofs [yaB hge2]
   have b1:=yST tf hk
   have b2:=yST tf (show k + 1 ≤ t.Rows.length from hlt)
   have e:=ySD (f:=rowLen) hr
   rw [yQQ hge2]
   have e' : sumF rowLen t.Rows (k + 1) = sumF rowLen t.Rows k + maxOf Boat.Length r 0:=e
   refine ⟨by unfold inI; omega,yw hlt hlen,k + 1,hlt,by omega,?_⟩
   apply yj <;> simp [e']
 ·simp -dsimp -implicitDefEqProofs [yaB hge]
  simp [yR1,h1,ySC hge]
def ySr (r : List Boat) : Int:=(r.map Boat.Width).sum
def yT4 (l : List (List Boat)) : Int:=l.foldl (fun m r=>if m < ySr r then ySr r else m) 0
def ySf (l : List (List Boat)) (k : Nat) : Int:=yT4 (l.take k)
theorem ySv {l : List (List Boat)} : ySf l 0 = 0:=rfl
theorem yTj {l : List (List Boat)} {k : Nat} {r : List Boat} (h : l[k]? = some r) : ySf l (k + 1) = if ySf l k < ySr r then ySr r else ySf l k:=by
 unfold ySf yT4; rw [List.take_succ,h,List.foldl_append]; rfl
theorem yTA {l : List (List Boat)} {k : Nat} (h : l.length ≤ k) : ySf l k = yT4 l:=by
 unfold ySf; rw [List.take_of_length_le h]
def yR6 (t : Train) : Int:=if yP t then yT4 t.Rows else 0
theorem yTB {r : List Boat} (h : ∀ b ∈ r,ybr b = true) (h6 : r.length ≤ 6) {k : Nat} (hk : k ≤ r.length) : 0 ≤ sumF Boat.Width r k ∧ sumF Boat.Width r k ≤ 180:=by
 have:=yTS (f:=Boat.Width) (l:=r) (c:=30) (by omega) (fun b hb=>by have:=yMg (h b hb); omega) k
 omega
theorem yUo {l : List (List Boat)} (h : ∀ r ∈ l,0 ≤ ySr r ∧ ySr r ≤ 180) : 0 ≤ yT4 l ∧ yT4 l ≤ 180:=by
 unfold yT4
 have : ∀ (l : List (List Boat)) (z : Int),(∀ r ∈ l,0 ≤ ySr r ∧ ySr r ≤ 180) → 0 ≤ z → z ≤ 180 → 0 ≤ l.foldl (fun m r=>if m < ySr r then ySr r else m) z ∧ l.foldl (fun m r=>if m < ySr r then ySr r else m) z ≤ 180:=by
  intro l
  induction l with
  | nil=>intro z _ h1 h2; exact ⟨h1,h2⟩
  | cons r l ih =>
   intro z h h1 h2
   have:=h r (by simp)
   rw [List.foldl_cons]
   refine ih _ (fun y hy=>h y (by simp [hy])) ?_ ?_ <;> split <;> omega
 exact this l 0 h (by omega) (by omega)
theorem yT5 (t : Train) : 0 ≤ yR6 t ∧ yR6 t ≤ 180:=by
 unfold yR6
 split
 ·rename_i h
  refine yUo fun r hr=>?_
  obtain ⟨i,hi⟩:=List.getElem?_of_mem hr
  obtain ⟨a1,a2,a3⟩:=ySZ (yhY h) hi
  have:=yTB a3 a2 (Nat.le_refl _)
  rw [ySC (Nat.le_refl _)] at this; exact this
 ·omega
theorem yTU (t : Train) (h : t.small) : yB Tryz.prog 98 [.agg (t.enc.map .c)] (.c (.i (yR6 t))):=by
 refine yh yTC ?_
 simp -dsimp -implicitDefEqProofs
 refine yc (ydp t h) ?_
 simp -dsimp -implicitDefEqProofs
 refine ⟨fun h1=>by simp [yR6,h1],fun h1 hlen=>?_⟩
 have tf:=yhY h1
 refine yg (ι:=Nat) (fun k=>k ≤ t.Rows.length) (fun k=>yO [(3,.c (.i (ySf t.Rows k))),(13,.c (.sl 1 (t.Rows.map yai))),(14,.c (.i t.Rows.length)),(15,.c (.i k))] []) (fun k=>t.Rows.length - k) 0 (by simp) (by apply yj <;> simp [ySv]) ?_
 rintro k hk
 rcases Nat.lt_or_ge k t.Rows.length with hlt | hge
 ·obtain ⟨r,hr⟩ : ∃ r,t.Rows[k]? = some r:=⟨_,List.getElem?_eq_getElem hlt⟩
  obtain ⟨a1,a2,a3⟩:=ySZ tf hr
  simp -dsimp -implicitDefEqProofs [hr,yG hlt]
  intro hrl
  refine yg (ι:=Nat) (fun j=>j ≤ r.length) (fun j=>yO [(3,.c (.i (ySf t.Rows k))),(13,.c (.sl 1 (t.Rows.map yai))),(14,.c (.i t.Rows.length)),(15,.c (.i k)),(6,.c (.i (sumF Boat.Width r j))),(19,.c (.sl 6 (r.map Boat.enc))),(20,.c (.i r.length)),(21,.c (.i j))] []) (fun j=>r.length - j) 0 (by simp) (by apply yj <;> simp [ySm]) ?_
  rintro j hj
  rcases Nat.lt_or_ge j r.length with hlt2 | hge2
  ·obtain ⟨b,hb⟩ : ∃ b,r[j]? = some b:=⟨_,List.getElem?_eq_getElem hlt2⟩
   have b1:=yTB a3 a2 (show j + 1 ≤ r.length from hlt2)
   have e:=ySD (f:=Boat.Width) hb
   simp -dsimp -implicitDefEqProofs [hb,yG hlt2]
   refine ⟨by unfold inI; omega,yw hlt2 hrl,j + 1,hlt2,by omega,?_⟩
   apply yj <;> simp [e]
  ·simp -dsimp -implicitDefEqProofs [yaB hge2]
   rw [ySC hge2]
   have e : ySf t.Rows (k + 1) = if ySf t.Rows k < (r.map Boat.Width).sum then (r.map Boat.Width).sum else ySf t.Rows k:=yTj hr
   refine ⟨yw hlt hlen,k + 1,hlt,by omega,?_⟩
   apply yj <;> simp [e]
 ·simp -dsimp -implicitDefEqProofs [yaB hge]
  simp [yR6,h1,yTA hge]
theorem ymz {α β : Type} {f : α → β} {l : List α} : (l.map f).take l.length = l.map f:=List.take_of_length_le (by simp)
def yaY (t : Train) : List Int:=if yP t then t.yas.map yfy else []
def yfv (t : Train) (k : Nat) : List Int:=(t.yas.take k).map yfy
theorem ygs {t : Train} : yfv t 0 = []:=rfl
theorem ymO {t : Train} {k : Nat} {b : Boat} (h : t.yas[k]? = some b) : yfv t (k + 1) = yfv t k ++ [b.Id]:=by
 unfold yfv; rw [List.take_succ,h,List.map_append]; rfl
theorem yo4 {t : Train} {k : Nat} (h : t.yas.length ≤ k) : yfv t k = t.yas.map yfy:=by
 unfold yfv; rw [List.take_of_length_le h]
theorem yp8 {t : Train} {k : Nat} (h : k ≤ t.yas.length) : (yfv t k).length = k:=by
 unfold yfv; simp; omega
theorem yuz (t : Train) (h : t.small) : yB Tryz.prog 22 [.agg (t.enc.map .c)] (.c (.sl 1 ((yaY t).map yJ))):=by
 refine yh ysm ?_
 simp -dsimp -implicitDefEqProofs
 refine yc (ydp t h) ?_
 cases h1 : yP t with
 | false=>simp -dsimp -implicitDefEqProofs; simp [yaY,h1]
 | true =>
  have tf:=yhY h1
  have h6:=tf.len
  simp -dsimp -implicitDefEqProofs
  refine yS (yya t h) ?_
  simp -dsimp -implicitDefEqProofs
  intro hlen
  refine ymd (k0:=1) 3 1 (by simp) (by simp) (by decide) ?_
  refine yg (ι:=Nat) (fun k=>k ≤ t.yas.length) (fun k=>yO [(3,.own 3 1 (yfv t k).length),(10,.c (.sl 6 (t.yas.map Boat.enc))),(11,.c (.i t.yas.length)),(12,.c (.i k))] [(3,.row 1 ((yfv t k).map yJ))]) (fun k=>t.yas.length - k) 0 (by simp) (by apply yj <;> simp [ygs]) ?_
  rintro k hk
  have hkl:=yp8 hk
  rcases Nat.lt_or_ge k t.yas.length with hlt | hge
  ·obtain ⟨b,hb⟩ : ∃ b,t.yas[k]? = some b:=⟨_,List.getElem?_eq_getElem hlt⟩
   simp -dsimp -implicitDefEqProofs [hb,yG hlt]
   refine ⟨by omega,yw hlt hlen,k + 1,hlt,by omega,?_⟩
   apply yj <;> simp [ymO hb]
  ·simp -dsimp -implicitDefEqProofs [yaB hge]
   rw [ymz,yo4 hge]
   simp [yaY,h1]
theorem yvW (t : Train) (h : t.small) : yB Tryz.prog 195 [.agg (t.enc.map .c)] (.c (.sl 1 ((yaY t).map yJ))):=by
 refine yh ysG ?_
 simp -dsimp -implicitDefEqProofs
 refine yS (yoX t h) ?_
 simp -dsimp -implicitDefEqProofs
 refine yg (ι:=Nat) (fun k=>k ≤ t.yas.length ∧ (k ≠ 0 → yP t = true)) (fun k=>yO [(1,.box 1 0),(3,.own 6 1 (yfv t k).length),(4,.c (.sl 6 (t.yas.map Boat.enc))),(5,.c (.i k))] [(1,.box (t.enc.map .c)),(6,.row 1 ((yfv t k).map yJ))]) (fun k=>t.yas.length - k) 0 (by simp) (by apply yj <;> simp [ygs]) ?_
 rintro k ⟨hk,hok⟩
 have hkl:=yp8 hk
 have fin : yP t = false → k = 0:=fun h1=>by
  rcases Nat.eq_zero_or_pos k with e | e
  ·exact e
  ·rw [hok (by omega)] at h1; cases h1
 rcases Nat.lt_or_ge k t.yas.length with hlt | hge
 ·obtain ⟨b,hb⟩ : ∃ b,t.yas[k]? = some b:=⟨_,List.getElem?_eq_getElem hlt⟩
  simp -dsimp -implicitDefEqProofs [hb,yG hlt]
  intro hlen
  refine yc (yds t h) ?_
  cases h1 : yP t with
  | false =>
   have:=fin h1
   subst this
   simp -dsimp -implicitDefEqProofs
   simp [yaY,h1,ygs]
  | true =>
   have h6:=(yhY h1).len
   simp -dsimp -implicitDefEqProofs [hb,yG hlt]
   refine ⟨by omega,yw hlt hlen,k + 1,by first | exact ⟨hlt,fun _=>h1⟩ | exact hlt,by omega,?_⟩
   apply yj <;> simp [ymO hb]
 ·simp -dsimp -implicitDefEqProofs [yaB hge]
  intro _
  rw [ymz]
  by_cases h1 : yP t = true
  ·rw [yo4 hge]; simp [yaY,h1]
  ·have:=fin (by simpa using h1)
   subst this
   simp [yaY,h1,ygs]
theorem ytb {t : Train} (h : yP t = true) : (yaY t).length ≤ 6:=by
 have:=(yhY h).len
 simp [yaY,h]; omega
theorem yEL {t : Train} (h : yP t = true) : (yaY t).Nodup:=by
 have:=(yhY h).nd
 simp only [yaY,h,if_true]; exact this
def ybV : List Train → Prop:=ycs Train.small
structure Lock where
 Length : Int
 Width : Int
 SillAbove : Int
 SillBelow : Int
 Base : Int
 Area : Int
 Rate : Int
 Water : Int
 Gate : Int
 Inside : List Train
 deriving DecidableEq,Inhabited
@[simp] def Lock.enc (e : Lock) : List C:=[.i e.Length,.i e.Width,.i e.SillAbove,.i e.SillBelow,.i e.Base,.i e.Area,.i e.Rate,.i e.Water,.i e.Gate,.sl 2 (e.Inside.map Train.enc)]
-- Lock
def Lock.small (e : Lock) : Prop:=ybV e.Inside
structure Weir where
 Gates : Int
 Open : Int
 Step : Int
 Crest : Int
 Width : Int
 deriving DecidableEq,Inhabited
@[simp] def Weir.enc (e : Weir) : List C:=[.i e.Gates,.i e.Open,.i e.Step,.i e.Crest,.i e.Width]
-- Weir
structure Rule where
 Low : Int
 High : Int
 Flood : Int
 deriving DecidableEq,Inhabited
@[simp] def Rule.enc (e : Rule) : List C:=[.i e.Low,.i e.High,.i e.Flood]
-- Rule
structure Pause where
 From : Int
 Until : Int
 deriving DecidableEq,Inhabited
@[simp] def Pause.enc (e : Pause) : List C:=[.i e.From,.i e.Until]
-- Pause
def yfI : List Pause → Prop:=ycs fun _=>True
structure Turn where
 Up : Bool
 Count : Int
 deriving DecidableEq,Inhabited
@[simp] def Turn.enc (e : Turn) : List C:=[.b e.Up,.i e.Count]
-- Turn
structure CallT where
 Train : Train
 Since : Int
 Booked : Int
 deriving DecidableEq,Inhabited
@[simp] def CallT.enc (e : CallT) : List C:=[.b e.Train.Up,.sl 1 (e.Train.Rows.map yai),.i e.Since,.i e.Booked]
-- Call
def CallT.small (e : CallT) : Prop:=e.Train.small
def yfi : List CallT → Prop:=ycs CallT.small
structure Work where
 Lock : Lock
 Weir : Weir
 Rule : Rule
 Pauses : List Pause
 Turn : Turn
 Calls : List CallT
 deriving DecidableEq,Inhabited
@[simp] def Work.enc (e : Work) : List C:=[.i e.Lock.Length,.i e.Lock.Width,.i e.Lock.SillAbove,.i e.Lock.SillBelow,.i e.Lock.Base,.i e.Lock.Area,.i e.Lock.Rate,.i e.Lock.Water,.i e.Lock.Gate,.sl 2 (e.Lock.Inside.map Train.enc),.i e.Weir.Gates,.i e.Weir.Open,.i e.Weir.Step,.i e.Weir.Crest,.i e.Weir.Width,.i e.Rule.Low,.i e.Rule.High,.i e.Rule.Flood,.sl 2 (e.Pauses.map Pause.enc),.b e.Turn.Up,.i e.Turn.Count,.sl 4 (e.Calls.map CallT.enc)]
-- Work
def Work.small (e : Work) : Prop:=e.Lock.small ∧ yfI e.Pauses ∧ yfi e.Calls
def yaH (w : Weir) : Bool:=inRange w.Gates 1 8 && inRange w.Open 0 (10 * w.Gates) && inRange w.Step 1 80 && inRange w.Crest 0 100000 && inRange w.Width 1 1000
theorem ydW (w : Weir) : yB Tryz.prog 119 [.agg (w.enc.map .c)] (.c (.b (yaH w))):=by
 refine yh yqY ?_
 simp -dsimp -implicitDefEqProofs
 refine yc (yC w.Gates 1 8) ?_
 cases h0 : inRange w.Gates 1 8 with
 | false=>simp -dsimp -implicitDefEqProofs; simp [yaH,h0]
 | true =>
 simp -dsimp -implicitDefEqProofs
 refine ⟨by have:=yF.1 h0; unfold inI; omega,?_⟩
 refine yc (yC w.Open 0 (10 * w.Gates)) ?_
 cases h1 : inRange w.Open 0 (10 * w.Gates) with
 | false=>simp -dsimp -implicitDefEqProofs; simp [yaH,h0,h1]
 | true =>
 simp -dsimp -implicitDefEqProofs
 refine yc (yC w.Step 1 80) ?_
 cases h2 : inRange w.Step 1 80 with
 | false=>simp -dsimp -implicitDefEqProofs; simp [yaH,h0,h1,h2]
 | true =>
 simp -dsimp -implicitDefEqProofs
 refine yc (yC w.Crest 0 100000) ?_
 cases h3 : inRange w.Crest 0 100000 with
 | false=>simp -dsimp -implicitDefEqProofs; simp [yaH,h0,h1,h2,h3]
 | true =>
 simp -dsimp -implicitDefEqProofs
 refine yc (yC w.Width 1 1000) ?_
 cases h4 : inRange w.Width 1 1000 with
 | false=>simp -dsimp -implicitDefEqProofs; simp [yaH,h0,h1,h2,h3,h4]
 | true =>
  simp -dsimp -implicitDefEqProofs; simp [yaH,h0,h1,h2,h3,h4]
theorem yd2 (w : Weir) : yB Tryz.prog 186 [.agg (w.enc.map .c)] (.c (.b (yaH w))):=by
 refine yh yq7 ?_
 simp -dsimp -implicitDefEqProofs
 refine yc (yD w.Gates 1 8) ?_
 cases h0 : inRange w.Gates 1 8 with
 | false=>simp -dsimp -implicitDefEqProofs; simp [yaH,h0]
 | true =>
 simp -dsimp -implicitDefEqProofs
 refine ⟨by have:=yF.1 h0; unfold inI; omega,?_⟩
 refine yc (yD w.Open 0 (10 * w.Gates)) ?_
 cases h1 : inRange w.Open 0 (10 * w.Gates) with
 | false=>simp -dsimp -implicitDefEqProofs; simp [yaH,h0,h1]
 | true =>
 simp -dsimp -implicitDefEqProofs
 refine yc (yD w.Step 1 80) ?_
 cases h2 : inRange w.Step 1 80 with
 | false=>simp -dsimp -implicitDefEqProofs; simp [yaH,h0,h1,h2]
 | true =>
 simp -dsimp -implicitDefEqProofs
 refine yc (yD w.Crest 0 100000) ?_
 cases h3 : inRange w.Crest 0 100000 with
 | false=>simp -dsimp -implicitDefEqProofs; simp [yaH,h0,h1,h2,h3]
 | true =>
 simp -dsimp -implicitDefEqProofs
 refine yc (yD w.Width 1 1000) ?_
 cases h4 : inRange w.Width 1 1000 with
 | false=>simp -dsimp -implicitDefEqProofs; simp [yaH,h0,h1,h2,h3,h4]
 | true =>
  simp -dsimp -implicitDefEqProofs; simp [yaH,h0,h1,h2,h3,h4]
def yca (r : Rule) : Bool:=inRange r.Low 0 100000 && inRange r.High 0 100000 && inRange r.Flood 0 100000 && decide (r.Low < r.High) && decide (r.High ≤ r.Flood)
theorem yji (r : Rule) : yB Tryz.prog 120 [.agg (r.enc.map .c)] (.c (.b (yca r))):=by
 refine yh yqW ?_
 simp -dsimp -implicitDefEqProofs
 refine yc (yC r.Low 0 100000) ?_
 cases h0 : inRange r.Low 0 100000 with
 | false=>simp -dsimp -implicitDefEqProofs; simp [yca,h0]
 | true =>
 simp -dsimp -implicitDefEqProofs
 refine yc (yC r.High 0 100000) ?_
 cases h1 : inRange r.High 0 100000 with
 | false=>simp -dsimp -implicitDefEqProofs; simp [yca,h0,h1]
 | true =>
 simp -dsimp -implicitDefEqProofs
 refine yc (yC r.Flood 0 100000) ?_
 cases h2 : inRange r.Flood 0 100000 with
 | false=>simp -dsimp -implicitDefEqProofs; simp [yca,h0,h1,h2]
 | true =>
 simp -dsimp -implicitDefEqProofs
 simp [yca,h0,h1,h2]
 exact ⟨fun h _=>h,fun a b=>by omega⟩
theorem yiX (r : Rule) : yB Tryz.prog 187 [.agg (r.enc.map .c)] (.c (.b (yca r))):=by
 refine yh yq6 ?_
 simp -dsimp -implicitDefEqProofs
 refine yc (ybj r.Low) ?_
 cases h0 : inRange r.Low 0 100000 with
 | false=>simp -dsimp -implicitDefEqProofs; simp [yca,h0]
 | true =>
 simp -dsimp -implicitDefEqProofs
 refine yc (ybj r.High) ?_
 cases h1 : inRange r.High 0 100000 with
 | false=>simp -dsimp -implicitDefEqProofs; simp [yca,h0,h1]
 | true =>
 simp -dsimp -implicitDefEqProofs
 refine yc (ybj r.Flood) ?_
 cases h2 : inRange r.Flood 0 100000 with
 | false=>simp -dsimp -implicitDefEqProofs; simp [yca,h0,h1,h2]
 | true =>
 simp -dsimp -implicitDefEqProofs
 simp [yca,h0,h1,h2]
 exact ⟨fun h _=>h,fun a b=>by omega⟩
def ype (t : Turn) : Bool:=inRange t.Count 0 1000000
theorem ytY (t : Turn) : yB Tryz.prog 122 [.agg (t.enc.map .c)] (.c (.b (ype t))):=by
 refine yh yqP ?_
 simp -dsimp -implicitDefEqProofs
 refine yc (yC t.Count 0 1000000) ?_
 simp -dsimp -implicitDefEqProofs
 try rfl
theorem yuW (t : Turn) : yB Tryz.prog 188 [.agg (t.enc.map .c)] (.c (.b (ype t))):=by
 refine yh yrl ?_
 simp -dsimp -implicitDefEqProofs
 refine yc (yD t.Count 0 1000000) ?_
 simp -dsimp -implicitDefEqProofs
 try rfl
def yb9 (c : CallT) : Bool:=yP c.Train && inRange c.Since 0 1000000 && inRange c.Booked (-1) 1000000
theorem ytF (c : CallT) (h : c.small) : yB Tryz.prog 123 [.agg (c.enc.map .c)] (.c (.b (yb9 c))):=by
 refine yh yqU ?_
 simp -dsimp -implicitDefEqProofs
 refine yc (ydp c.Train h) ?_
 cases h0 : yP c.Train with
 | false=>simp -dsimp -implicitDefEqProofs; simp [yb9,h0]
 | true =>
 simp -dsimp -implicitDefEqProofs
 refine yc (yC c.Since 0 1000000) ?_
 cases h1 : inRange c.Since 0 1000000 with
 | false=>simp -dsimp -implicitDefEqProofs; simp [yb9,h0,h1]
 | true =>
 simp -dsimp -implicitDefEqProofs
 refine yc (yC c.Booked (-1) 1000000) ?_
 cases h2 : inRange c.Booked (-1) 1000000 with
 | false=>simp -dsimp -implicitDefEqProofs; simp [yb9,h0,h1,h2]
 | true =>
  simp -dsimp -implicitDefEqProofs; simp [yb9,h0,h1,h2]
theorem yt9 (c : CallT) (h : c.small) : yB Tryz.prog 184 [.agg (c.enc.map .c)] (.c (.b (yb9 c))):=by
 refine yh yqt ?_
 simp -dsimp -implicitDefEqProofs
 refine yc (yds c.Train h) ?_
 cases h0 : yP c.Train with
 | false=>simp -dsimp -implicitDefEqProofs; simp [yb9,h0]
 | true =>
 simp -dsimp -implicitDefEqProofs
 refine yc (yD c.Since 0 1000000) ?_
 cases h1 : inRange c.Since 0 1000000 with
 | false=>simp -dsimp -implicitDefEqProofs; simp [yb9,h0,h1]
 | true =>
 simp -dsimp -implicitDefEqProofs
 refine yc (yD c.Booked (-1) 1000000) ?_
 cases h2 : inRange c.Booked (-1) 1000000 with
 | false=>simp -dsimp -implicitDefEqProofs; simp [yb9,h0,h1,h2]
 | true =>
  simp -dsimp -implicitDefEqProofs; simp [yb9,h0,h1,h2]
def yc1 (b : Int) (p : Pause) : Bool:=!decide (p.From < b) && !decide (p.Until ≤ p.From) && !decide (1000000 < p.Until)
def yct : Int → List Pause → Bool
 | _,[]=>true
 | b,p :: l=>yc1 b p && yct p.Until l
def ycD (l : List Pause) : Bool:=decide (l.length ≤ 8) && yct 0 l
theorem ymZ {l : List Pause} {k : Nat} {p : Pause} {b : Int} (h : l[k]? = some p) : yct b (l.drop k) = (yc1 b p && yct p.Until (l.drop (k + 1))):=by
 have hlt:=(List.getElem?_eq_some_iff.1 h).1
 rw [List.drop_eq_getElem_cons hlt,(List.getElem?_eq_some_iff.1 h).2]; rfl
theorem yqL (l : List Pause) : yB Tryz.prog 121 [.c (.sl 2 (l.map Pause.enc))] (.c (.b (ycD l))):=by
 refine yh ynJ ?_
 simp -dsimp -implicitDefEqProofs
 intro hlen
 refine ⟨fun h8=>(by simp [ycD]; omega),fun h8=>?_⟩
 refine fun _=>yg (ι:=Nat × Int) (fun q=>q.1 ≤ l.length ∧ yct q.2 (l.drop q.1) = yct 0 l) (fun q=>yO [(3,.c (.i q.2)),(9,.c (.sl 2 (l.map Pause.enc))),(10,.c (.i l.length)),(11,.c (.i q.1))] []) (fun q=>l.length - q.1) (0,0) (by simp) (by apply yj <;> simp) ?_
 rintro ⟨k,b⟩ ⟨hk,hf⟩
 simp only at hk hf
 rcases Nat.lt_or_ge k l.length with hlt | hge
 ·obtain ⟨p,hp⟩ : ∃ p,l[k]? = some p:=⟨_,List.getElem?_eq_getElem hlt⟩
  rw [ymZ hp] at hf
  have bad : yc1 b p = false → ycD l = false:=fun e=>by rw [e,Bool.false_and] at hf; simp [ycD,← hf]
  simp -dsimp -implicitDefEqProofs [hp,yG hlt]
  refine ⟨fun h1=>?_,fun h1=>(bad (by simp [yc1]; omega))⟩
  refine ⟨fun h2=>?_,fun h2=>(bad (by simp [yc1]; omega))⟩
  refine ⟨fun h3=>(bad (by simp [yc1]; omega)),fun h3=>?_⟩
  have hok : yc1 b p = true:=by simp [yc1]; omega
  rw [hok,Bool.true_and] at hf
  exact ⟨yw hlt hlen,k + 1,p.Until,⟨hlt,hf⟩,by omega,by apply yj <;> simp⟩
 ·simp -dsimp -implicitDefEqProofs [yaB hge]
  rw [List.drop_of_length_le hge] at hf
  have h8' : l.length ≤ 8:=by omega
  simp [ycD,h8',← hf,yct]
theorem yrd (l : List Pause) : yB Tryz.prog 40 [.c (.sl 2 (l.map Pause.enc))] (.c (.b (ycD l))):=by
 refine yh yny ?_
 simp -dsimp -implicitDefEqProofs
 refine yg (ι:=Nat × Int) (fun q=>q.1 ≤ l.length ∧ yct q.2 (l.drop q.1) = yct 0 l) (fun q=>yO [(0,.c (.sl 2 (l.map Pause.enc))),(3,.c (.i q.2)),(4,.c (.i q.1))] []) (fun q=>l.length - q.1) (0,0) (by simp) (by apply yj <;> simp) ?_
 rintro ⟨k,b⟩ ⟨hk,hf⟩
 simp only at hk hf
 rcases Nat.lt_or_ge k l.length with hlt | hge
 ·obtain ⟨p,hp⟩ : ∃ p,l[k]? = some p:=⟨_,List.getElem?_eq_getElem hlt⟩
  rw [ymZ hp] at hf
  have bad : yc1 b p = false → ycD l = false:=fun e=>by rw [e,Bool.false_and] at hf; simp [ycD,← hf]
  simp -dsimp -implicitDefEqProofs [hp,yG hlt]
  intro hlen
  refine ⟨fun h1=>?_,fun h1=>(bad (by simp [yc1]; omega))⟩
  refine ⟨fun h2=>?_,fun h2=>(bad (by simp [yc1]; omega))⟩
  refine ⟨fun h3=>(bad (by simp [yc1]; omega)),fun h3=>?_⟩
  have hok : yc1 b p = true:=by simp [yc1]; omega
  rw [hok,Bool.true_and] at hf
  exact ⟨yw hlt hlen,k + 1,p.Until,⟨hlt,hf⟩,by omega,by apply yj <;> simp⟩
 ·simp -dsimp -implicitDefEqProofs [yaB hge]
  rw [List.drop_of_length_le hge] at hf
  simp [ycD,← hf,yct]
  try omega
def yaN (l : List Train) (k : Nat) : List Int:=(l.take k).flatMap yaY
def seenAt (l : List Train) (k : Nat) (t : Train) (j : Nat) : List Int:=yaN l k ++ (yaY t).take j
def Distinct (l : List Train) : Bool:=decide (l.length ≤ 8) && l.all yP && decide ((l.flatMap yaY).Nodup)
theorem yfN {l : List Train} : yaN l 0 = []:=rfl
theorem yfP {l : List Train} {k : Nat} {t : Train} (h : l[k]? = some t) : yaN l (k + 1) = yaN l k ++ yaY t:=by
 unfold yaN; rw [List.take_succ,h,List.flatMap_append]; simp
theorem ymM {l : List Train} {k : Nat} (h : l.length ≤ k) : yaN l k = l.flatMap yaY:=by
 unfold yaN; rw [List.take_of_length_le h]
theorem yrr {l : List Train} {k : Nat} {t : Train} (h : l[k]? = some t) : ∃ m,l.flatMap yaY = yaN l k ++ yaY t ++ m:=by
 refine ⟨(l.drop (k + 1)).flatMap yaY,?_⟩
 rw [← yfP h]
 unfold yaN
 rw [← List.flatMap_append,List.take_append_drop]
theorem ymU {l : List Train} {k : Nat} {t : Train} : seenAt l k t 0 = yaN l k:=by simp [seenAt]
theorem ym2 {l : List Train} {k j : Nat} {t : Train} {x : Int} (h : (yaY t)[j]? = some x) : seenAt l k t (j + 1) = seenAt l k t j ++ [x]:=by
 unfold seenAt; rw [List.take_succ,h]; simp
theorem ypH {l : List Train} {k j : Nat} {t : Train} (ht : l[k]? = some t) (h : (yaY t).length ≤ j) : seenAt l k t j = yaN l (k + 1):=by
 unfold seenAt; rw [List.take_of_length_le h,yfP ht]
theorem ymJ {l : List Train} (k : Nat) (h : ∀ t ∈ l.take k,yP t = true) : (yaN l k).length ≤ 6 * k:=by
 have key : ∀ (m : List Train),(∀ t ∈ m,yP t = true) → (m.flatMap yaY).length ≤ 6 * m.length:=by
  intro m
  induction m with
  | nil=>simp
  | cons t m ih =>
   intro hm
   have h1:=ytb (hm t (by simp))
   have h2:=ih fun x hx=>hm x (by simp [hx])
   simp only [List.flatMap_cons,List.length_append,List.length_cons]; omega
 have:=key (l.take k) h
 have h2 : (l.take k).length ≤ k:=by rw [List.length_take]; omega
 unfold yaN; omega
theorem twice {l : List Train} {k j : Nat} {t : Train} {x : Int} (ht : l[k]? = some t) (hx : (yaY t)[j]? = some x) (hm : x ∈ seenAt l k t j) : Distinct l = false:=by
 have : ¬ (l.flatMap yaY).Nodup:=by
  intro hn
  obtain ⟨m,e⟩:=yrr ht
  have hlt:=(List.getElem?_eq_some_iff.1 hx).1
  have e2 : yaY t = (yaY t).take j ++ x :: (yaY t).drop (j + 1):=by
   conv=>lhs; rw [← List.take_append_drop j (yaY t)]
   rw [List.drop_eq_getElem_cons hlt,(List.getElem?_eq_some_iff.1 hx).2]
  have e3 : l.flatMap yaY = seenAt l k t j ++ x :: ((yaY t).drop (j + 1) ++ m):=by
   rw [e]; unfold seenAt; conv=>lhs; rw [e2]
   simp
  rw [e3] at hn
  exact (List.nodup_append.1 hn).2.2 x hm x (by simp) rfl
 simp [Distinct,this]
theorem yrv {l : List Train} {k : Nat} {t : Train} (ht : l[k]? = some t) (h : yP t = false) : Distinct l = false:=by
 have : l.all yP = false:=all_false (p:=yP) ht h
 simp only [Distinct,this,Bool.and_false,Bool.false_and]
theorem ymr (l : List Train) (hs : ybV l) : yB Tryz.prog 97 [.c (.sl 2 (l.map Train.enc))] (.c (.b (Distinct l))):=by
 refine yh yiB ?_
 simp -dsimp -implicitDefEqProofs
 intro hlen
 refine ⟨fun h8=>(by simp [Distinct]; omega),fun h8=>?_⟩
 intro _
 refine ymd (k0:=1) 3 1 (by simp) (by simp) (by decide) ?_
 refine yg (ι:=Nat) (fun k=>k ≤ l.length ∧ (∀ t ∈ l.take k,yP t = true) ∧ (yaN l k).Nodup) (fun k=>yO [(3,.own 3 1 (yaN l k).length),(11,.c (.sl 2 (l.map Train.enc))),(12,.c (.i l.length)),(13,.c (.i k))] [(3,.row 1 ((yaN l k).map yJ))]) (fun k=>l.length - k) 0 (by simp [yfN]) (by apply yj <;> simp [yfN]) ?_
 rintro k ⟨hk,hall,hnd⟩
 rcases Nat.lt_or_ge k l.length with hlt | hge
 ·obtain ⟨t,ht⟩ : ∃ t,l[k]? = some t:=⟨_,List.getElem?_eq_getElem hlt⟩
  have hts:=hs.2 t (List.mem_of_getElem? ht)
  simp -dsimp -implicitDefEqProofs [ht,yG hlt]
  refine yc (ydp t hts) ?_
  cases h1 : yP t with
  | false=>simp -dsimp -implicitDefEqProofs; exact yrv ht h1
  | true =>
   have hall':=yL (p:=yP) ht hall h1
   have hil:=ytb h1
   have hul:=ymJ k hall
   simp -dsimp -implicitDefEqProofs
   refine yS (yuz t hts) ?_
   simp -dsimp -implicitDefEqProofs
   intro _
   refine yg (ι:=Nat) (fun j=>j ≤ (yaY t).length ∧ (seenAt l k t j).Nodup) (fun j=>yO [(3,.own 3 1 (seenAt l k t j).length),(11,.c (.sl 2 (l.map Train.enc))),(12,.c (.i l.length)),(13,.c (.i k)),(21,.c (.sl 1 ((yaY t).map yJ))),(22,.c (.i (yaY t).length)),(23,.c (.i j))] [(3,.row 1 ((seenAt l k t j).map yJ))]) (fun j=>(yaY t).length - j) 0 ⟨by simp,by rw [ymU]; exact hnd⟩ (by apply yj <;> simp [ymU]) ?_
   rintro j ⟨hj,hnj⟩
   have hsl : (seenAt l k t j).length ≤ 60:=by unfold seenAt; rw [List.length_append,List.length_take]; omega
   rcases Nat.lt_or_ge j (yaY t).length with hlt2 | hge2
   ·obtain ⟨x,hx⟩ : ∃ x,(yaY t)[j]? = some x:=⟨_,List.getElem?_eq_getElem hlt2⟩
    simp -dsimp -implicitDefEqProofs [hx,yG hlt2]
    refine yaQ (ypJ (seenAt l k t j) x) (by simp [ymz]) rfl ?_
    simp -dsimp -implicitDefEqProofs
    refine ⟨fun h2=>(twice ht hx h2),fun h2=>?_⟩
    have hn2 : (seenAt l k t (j + 1)).Nodup:=by
     rw [ym2 hx]
     exact List.nodup_append.2 ⟨hnj,by simp,fun a ha b hb e=>by simp at hb; subst hb; subst e; exact h2 ha⟩
    refine ⟨by omega,by unfold inI; omega,j + 1,⟨hlt2,hn2⟩,by omega,?_⟩
    apply yj <;> simp [ym2 hx]
   ·simp -dsimp -implicitDefEqProofs [yaB hge2]
    rw [ypH ht hge2] at hnj
    refine ⟨by unfold inI; omega,k + 1,⟨hlt,hall',hnj⟩,by omega,?_⟩
    apply yj <;> simp [ypH ht hge2]
 ·simp -dsimp -implicitDefEqProofs [yaB hge]
  rw [ymM hge] at hnd
  have h1:=yX (p:=yP) hge hall
  have h8' : l.length ≤ 8:=by omega
  simp [Distinct,h1,hnd,h8']
theorem yoh (l : List Train) (hs : ybV l) (h8 : l.length ≤ 8) (hok : ∀ t ∈ l,yP t = true) : yB Tryz.prog 193 [.c (.sl 2 (l.map Train.enc))] (.c (.b (decide ((l.flatMap yaY).Nodup)))):=by
 refine yh yjO ?_
 have fin : Distinct l = false → decide ((l.flatMap yaY).Nodup) = false:=by
  intro h
  have h1 : l.all yP = true:=List.all_eq_true.2 hok
  simpa [Distinct,h1,h8] using h
 simp -dsimp -implicitDefEqProofs
 refine yg (ι:=Nat) (fun k=>k ≤ l.length ∧ (yaN l k).Nodup) (fun k=>yO [(0,.c (.sl 2 (l.map Train.enc))),(3,.own 8 1 (yaN l k).length),(4,.c (.i k))] [(8,.row 1 ((yaN l k).map yJ))]) (fun k=>l.length - k) 0 (by simp [yfN]) (by apply yj <;> simp [yfN]) ?_
 rintro k ⟨hk,hnd⟩
 rcases Nat.lt_or_ge k l.length with hlt | hge
 ·obtain ⟨t,ht⟩ : ∃ t,l[k]? = some t:=⟨_,List.getElem?_eq_getElem hlt⟩
  have hts:=hs.2 t (List.mem_of_getElem? ht)
  have h1:=hok t (List.mem_of_getElem? ht)
  have hil:=ytb h1
  have hul:=ymJ (l:=l) k (fun t ht=>hok t (List.mem_of_mem_take ht))
  simp -dsimp -implicitDefEqProofs [ht,yG hlt]
  intro hlen
  refine yS (yvW t hts) ?_
  simp -dsimp -implicitDefEqProofs
  refine yg (ι:=Nat) (fun i=>i ≤ (yaY t).length ∧ ∀ x ∈ (yaY t).take i,x ∉ yaN l k) (fun i=>yO [(0,.c (.sl 2 (l.map Train.enc))),(3,.own 8 1 (yaN l k).length),(4,.c (.i k)),(5,.c (.sl 1 ((yaY t).map yJ))),(6,.c (.i i))] [(8,.row 1 ((yaN l k).map yJ))]) (fun i=>(yaY t).length - i) 0 (by simp) (by apply yj <;> simp) ?_
  rintro i ⟨hi,hni⟩
  rcases Nat.lt_or_ge i (yaY t).length with hlt2 | hge2
  ·obtain ⟨x,hx⟩ : ∃ x,(yaY t)[i]? = some x:=⟨_,List.getElem?_eq_getElem hlt2⟩
   simp -dsimp -implicitDefEqProofs [yG hlt2]
   intro _
   refine yg (ι:=Nat) (fun j=>j ≤ (yaN l k).length ∧ ∀ y ∈ (yaN l k).take j,y ≠ x) (fun j=>yO [(0,.c (.sl 2 (l.map Train.enc))),(3,.own 8 1 (yaN l k).length),(4,.c (.i k)),(5,.c (.sl 1 ((yaY t).map yJ))),(6,.c (.i i)),(7,.c (.i j))] [(8,.row 1 ((yaN l k).map yJ))]) (fun j=>(yaN l k).length - j) 0 (by simp) (by apply yj <;> simp) ?_
   rintro j ⟨hj,hnj⟩
   rcases Nat.lt_or_ge j (yaN l k).length with hlt3 | hge3
   ·obtain ⟨y,hy⟩ : ∃ y,(yaN l k)[j]? = some y:=⟨_,List.getElem?_eq_getElem hlt3⟩
    have bad : y = x → ¬ (l.flatMap yaY).Nodup:=fun e=>by
     have:=fin (twice ht hx (by unfold seenAt; rw [← e]; exact List.mem_append_left _ (List.mem_of_getElem? hy)))
     simpa using this
    generalize yaN l k = u at *
    have g1:=(List.getElem?_eq_some_iff.1 hy).2
    simp -dsimp -implicitDefEqProofs [hx,yG hlt2,hy,g1,yG hlt3,hlt3]
    intro _
    refine ⟨fun h2=>(bad h2),fun h2=>?_⟩
    refine ⟨by unfold inI; omega,j + 1,⟨hlt3,?_⟩,by omega,?_⟩
    ·rw [List.take_succ,hy]
     intro z hz
     rcases List.mem_append.1 hz with hz | hz
     ·exact hnj z hz
     ·simp at hz; subst hz; exact h2
    ·apply yj <;> simp
   ·rw [List.take_of_length_le hge3] at hnj
    simp -dsimp -implicitDefEqProofs [yaB hge3]
    intro _
    refine ⟨by unfold inI; omega,i + 1,⟨hlt2,?_⟩,by omega,by apply yj <;> simp⟩
    rw [List.take_succ,hx]
    intro z hz
    rcases List.mem_append.1 hz with hz | hz
    ·exact hni z hz
    ·simp at hz; subst hz; exact fun hm=>hnj _ hm rfl
  ·rw [List.take_of_length_le hge2] at hni
   simp -dsimp -implicitDefEqProofs [yaB hge2]
   have hnd2 : (yaN l (k + 1)).Nodup:=by
    rw [yfP ht]
    exact List.nodup_append.2 ⟨hnd,yEL h1,fun a ha b hb e=>hni b hb (e ▸ ha)⟩
   refine fun _=>⟨by omega,by unfold inI; omega,k + 1,⟨hlt,hnd2⟩,by omega,?_⟩
   apply yj <;> simp [yfP ht]
 ·simp -dsimp -implicitDefEqProofs [yaB hge]
  rw [ymM hge] at hnd
  simp [hnd]
theorem yua (l : List Train) (hs : ybV l) : yB Tryz.prog 191 [.c (.sl 2 (l.map Train.enc))] (.c (.b (Distinct l))):=by
 refine yh ylX ?_
 simp -dsimp -implicitDefEqProofs
 refine yg (ι:=Nat) (fun k=>k ≤ l.length ∧ (∀ t ∈ l.take k,yP t = true) ∧ (k ≠ 0 → l.length ≤ 8)) (fun k=>yO [(0,.c (.sl 2 (l.map Train.enc))),(3,.c (.i k))] []) (fun k=>l.length - k) 0 (by simp) (by apply yj <;> simp) ?_
 rintro k ⟨hk,hall,h8⟩
 rcases Nat.lt_or_ge k l.length with hlt | hge
 ·obtain ⟨t,ht⟩ : ∃ t,l[k]? = some t:=⟨_,List.getElem?_eq_getElem hlt⟩
  have hts:=hs.2 t (List.mem_of_getElem? ht)
  simp -dsimp -implicitDefEqProofs [ht,yG hlt]
  intro hlen
  refine yc (yds t hts) ?_
  cases h1 : yP t with
  | false=>simp -dsimp -implicitDefEqProofs; exact yrv ht h1
  | true =>
   have hall':=yL (p:=yP) ht hall h1
   simp -dsimp -implicitDefEqProofs
   intro _
   refine ⟨fun h9=>(by simp [Distinct]; omega),fun h9=>?_⟩
   have h9' : l.length ≤ 8:=by omega
   exact ⟨yw hlt hlen,k + 1,⟨hlt,hall',fun _=>h9'⟩,by omega,by apply yj <;> simp⟩
 ·have h1:=yX (p:=yP) hge hall
  have h8' : l.length ≤ 8:=by
   rcases Nat.eq_zero_or_pos k with e | e
   ·omega
   ·exact h8 (by omega)
  simp -dsimp -implicitDefEqProofs [yaB hge]
  intro _
  refine yc (yoh l hs h8' (List.all_eq_true.1 h1)) ?_
  simp -dsimp -implicitDefEqProofs
  simp [Distinct,h1,h8']
def ybg (k : Lock) : Bool:=inRange k.Length 1 1000 && inRange k.Width 1 100 && inRange k.SillAbove 0 100000 && inRange k.SillBelow 0 100000 && inRange k.Base 0 100000 && inRange k.Area 1 10000 && inRange k.Rate 1 100000 && inRange k.Water 0 1000000000 && inRange k.Gate 0 2 && Distinct k.Inside
theorem yvo (k : Lock) (h : k.small) : yB Tryz.prog 118 [.agg (k.enc.map .c)] (.c (.b (ybg k))):=by
 refine yh yrj ?_
 simp -dsimp -implicitDefEqProofs
 refine yc (yC k.Length 1 1000) ?_
 cases h0 : inRange k.Length 1 1000 with
 | false=>simp -dsimp -implicitDefEqProofs; simp [ybg,h0]
 | true =>
 simp -dsimp -implicitDefEqProofs
 refine yc (yC k.Width 1 100) ?_
 cases h1 : inRange k.Width 1 100 with
 | false=>simp -dsimp -implicitDefEqProofs; simp [ybg,h0,h1]
 | true =>
 simp -dsimp -implicitDefEqProofs
 refine yc (yC k.SillAbove 0 100000) ?_
 cases h2 : inRange k.SillAbove 0 100000 with
 | false=>simp -dsimp -implicitDefEqProofs; simp [ybg,h0,h1,h2]
 | true =>
 simp -dsimp -implicitDefEqProofs
 refine yc (yC k.SillBelow 0 100000) ?_
 cases h3 : inRange k.SillBelow 0 100000 with
 | false=>simp -dsimp -implicitDefEqProofs; simp [ybg,h0,h1,h2,h3]
 | true =>
 simp -dsimp -implicitDefEqProofs
 refine yc (yC k.Base 0 100000) ?_
 cases h4 : inRange k.Base 0 100000 with
 | false=>simp -dsimp -implicitDefEqProofs; simp [ybg,h0,h1,h2,h3,h4]
 | true =>
 simp -dsimp -implicitDefEqProofs
 refine yc (yC k.Area 1 10000) ?_
 cases h5 : inRange k.Area 1 10000 with
 | false=>simp -dsimp -implicitDefEqProofs; simp [ybg,h0,h1,h2,h3,h4,h5]
 | true =>
 simp -dsimp -implicitDefEqProofs
 refine yc (yC k.Rate 1 100000) ?_
 cases h6 : inRange k.Rate 1 100000 with
 | false=>simp -dsimp -implicitDefEqProofs; simp [ybg,h0,h1,h2,h3,h4,h5,h6]
 | true =>
 simp -dsimp -implicitDefEqProofs
 refine yc (yC k.Water 0 1000000000) ?_
 cases h7 : inRange k.Water 0 1000000000 with
 | false=>simp -dsimp -implicitDefEqProofs; simp [ybg,h0,h1,h2,h3,h4,h5,h6,h7]
 | true =>
 simp -dsimp -implicitDefEqProofs
 refine yc (yC k.Gate 0 2) ?_
 cases h8 : inRange k.Gate 0 2 with
 | false=>simp -dsimp -implicitDefEqProofs; simp [ybg,h0,h1,h2,h3,h4,h5,h6,h7,h8]
 | true =>
 simp -dsimp -implicitDefEqProofs
 refine yc (ymr k.Inside h) ?_
 cases h9 : Distinct k.Inside with
 | false=>simp -dsimp -implicitDefEqProofs; simp [ybg,h0,h1,h2,h3,h4,h5,h6,h7,h8,h9]
 | true =>
  simp -dsimp -implicitDefEqProofs; simp [ybg,h0,h1,h2,h3,h4,h5,h6,h7,h8,h9]
theorem ytO (k : Lock) (h : k.small) : yB Tryz.prog 185 [.agg (k.enc.map .c)] (.c (.b (ybg k))):=by
 refine yh yra ?_
 simp -dsimp -implicitDefEqProofs
 refine yc (yD k.Length 1 1000) ?_
 cases h0 : inRange k.Length 1 1000 with
 | false=>simp -dsimp -implicitDefEqProofs; simp [ybg,h0]
 | true =>
 simp -dsimp -implicitDefEqProofs
 refine yc (yD k.Width 1 100) ?_
 cases h1 : inRange k.Width 1 100 with
 | false=>simp -dsimp -implicitDefEqProofs; simp [ybg,h0,h1]
 | true =>
 simp -dsimp -implicitDefEqProofs
 refine yc (ybj k.SillAbove) ?_
 cases h2 : inRange k.SillAbove 0 100000 with
 | false=>simp -dsimp -implicitDefEqProofs; simp [ybg,h0,h1,h2]
 | true =>
 simp -dsimp -implicitDefEqProofs
 refine yc (ybj k.SillBelow) ?_
 cases h3 : inRange k.SillBelow 0 100000 with
 | false=>simp -dsimp -implicitDefEqProofs; simp [ybg,h0,h1,h2,h3]
 | true =>
 simp -dsimp -implicitDefEqProofs
 refine yc (ybj k.Base) ?_
 cases h4 : inRange k.Base 0 100000 with
 | false=>simp -dsimp -implicitDefEqProofs; simp [ybg,h0,h1,h2,h3,h4]
 | true =>
 simp -dsimp -implicitDefEqProofs
 refine yc (yD k.Area 1 10000) ?_
 cases h5 : inRange k.Area 1 10000 with
 | false=>simp -dsimp -implicitDefEqProofs; simp [ybg,h0,h1,h2,h3,h4,h5]
 | true =>
 simp -dsimp -implicitDefEqProofs
 refine yc (yD k.Rate 1 100000) ?_
 cases h6 : inRange k.Rate 1 100000 with
 | false=>simp -dsimp -implicitDefEqProofs; simp [ybg,h0,h1,h2,h3,h4,h5,h6]
 | true =>
 simp -dsimp -implicitDefEqProofs
 refine yc (yD k.Water 0 1000000000) ?_
 cases h7 : inRange k.Water 0 1000000000 with
 | false=>simp -dsimp -implicitDefEqProofs; simp [ybg,h0,h1,h2,h3,h4,h5,h6,h7]
 | true =>
 simp -dsimp -implicitDefEqProofs
 refine yc (yD k.Gate 0 2) ?_
 cases h8 : inRange k.Gate 0 2 with
 | false=>simp -dsimp -implicitDefEqProofs; simp [ybg,h0,h1,h2,h3,h4,h5,h6,h7,h8]
 | true =>
 simp -dsimp -implicitDefEqProofs
 refine yc (yua k.Inside h) ?_
 cases h9 : Distinct k.Inside with
 | false=>simp -dsimp -implicitDefEqProofs; simp [ybg,h0,h1,h2,h3,h4,h5,h6,h7,h8,h9]
 | true =>
  simp -dsimp -implicitDefEqProofs; simp [ybg,h0,h1,h2,h3,h4,h5,h6,h7,h8,h9]
def ybd (w : Work) : Bool:=ybg w.Lock && yaH w.Weir && yca w.Rule && ycD w.Pauses && ype w.Turn && decide (w.Calls.length ≤ 24) && w.Calls.all yb9
theorem wk1 {w : Work} (h : ybg w.Lock = false) : ybd w = false:=by simp [ybd,h]
theorem wk2 {w : Work} (h : yaH w.Weir = false) : ybd w = false:=by simp [ybd,h]
theorem wk3 {w : Work} (h : yca w.Rule = false) : ybd w = false:=by simp [ybd,h]
theorem wk4 {w : Work} (h : ycD w.Pauses = false) : ybd w = false:=by simp [ybd,h]
theorem wk5 {w : Work} (h : ype w.Turn = false) : ybd w = false:=by simp [ybd,h]
theorem wk6 {w : Work} (h : 24 < w.Calls.length) : ybd w = false:=by
 have : ¬ w.Calls.length ≤ 24:=by omega
 simp [ybd,this]
theorem wk7 {w : Work} {k : Nat} {c : CallT} (hc : w.Calls[k]? = some c) (h : yb9 c = false) : ybd w = false:=by
 have : w.Calls.all yb9 = false:=all_false (p:=yb9) hc h
 simp only [ybd,this,Bool.and_false]
theorem yu3 (w : Work) (hs : w.small) : yB Tryz.prog 77 [.agg (w.enc.map .c)] (.c (.b (ybd w))):=by
 refine yh yqA ?_
 simp -dsimp -implicitDefEqProofs
 refine yc (yvo w.Lock hs.1) ?_
 cases h1 : ybg w.Lock with
 | false=>simp -dsimp -implicitDefEqProofs; exact wk1 h1
 | true =>
 simp -dsimp -implicitDefEqProofs
 refine yc (ydW w.Weir) ?_
 cases h2 : yaH w.Weir with
 | false=>simp -dsimp -implicitDefEqProofs; exact wk2 h2
 | true =>
 simp -dsimp -implicitDefEqProofs
 refine yc (yji w.Rule) ?_
 cases h3 : yca w.Rule with
 | false=>simp -dsimp -implicitDefEqProofs; exact wk3 h3
 | true =>
 simp -dsimp -implicitDefEqProofs
 refine yc (yqL w.Pauses) ?_
 cases h4 : ycD w.Pauses with
 | false=>simp -dsimp -implicitDefEqProofs; exact wk4 h4
 | true =>
 simp -dsimp -implicitDefEqProofs
 refine yc (ytY w.Turn) ?_
 cases h5 : ype w.Turn with
 | false=>simp -dsimp -implicitDefEqProofs; exact wk5 h5
 | true =>
 simp -dsimp -implicitDefEqProofs
 intro hlen
 refine ⟨fun h6=>(wk6 (by omega)),fun h6=>?_⟩
 refine fun _=>yg (ι:=Nat) (fun k=>k ≤ w.Calls.length ∧ ∀ c ∈ w.Calls.take k,yb9 c = true) (fun k=>yO [(38,.c (.sl 4 (w.Calls.map CallT.enc))),(39,.c (.i w.Calls.length)),(40,.c (.i k))] []) (fun k=>w.Calls.length - k) 0 (by simp) (by apply yj <;> simp) ?_
 rintro k ⟨hk,hall⟩
 rcases Nat.lt_or_ge k w.Calls.length with hlt | hge
 ·obtain ⟨c,hc⟩ : ∃ c,w.Calls[k]? = some c:=⟨_,List.getElem?_eq_getElem hlt⟩
  simp -dsimp -implicitDefEqProofs [hc,yG hlt]
  refine yc (ytF c (hs.2.2.2 c (List.mem_of_getElem? hc))) ?_
  cases h7 : yb9 c with
  | false=>simp -dsimp -implicitDefEqProofs; exact wk7 hc h7
  | true =>
   simp -dsimp -implicitDefEqProofs
   exact ⟨yw hlt hlen,k + 1,⟨hlt,yL (p:=yb9) hc hall h7⟩,by omega,by apply yj <;> simp⟩
 ·simp -dsimp -implicitDefEqProofs [yaB hge]
  have h7:=yX (p:=yb9) hge hall
  have h6' : w.Calls.length ≤ 24:=by omega
  simp [ybd,h1,h2,h3,h4,h5,h6',h7]
theorem yuI (w : Work) (hs : w.small) : yB Tryz.prog 171 [.agg (w.enc.map .c)] (.c (.b (ybd w))):=by
 refine yh yqn ?_
 simp -dsimp -implicitDefEqProofs
 refine yg (ι:=Nat) (fun k=>k ≤ w.Calls.length ∧ ∀ c ∈ w.Calls.take k,yb9 c = true) (fun k=>yO [(1,.box 1 0),(3,.c (.i k))] [(1,.box (w.enc.map .c))]) (fun k=>w.Calls.length - k) 0 (by simp) (by apply yj <;> simp) ?_
 rintro k ⟨hk,hall⟩
 rcases Nat.lt_or_ge k w.Calls.length with hlt | hge
 ·obtain ⟨c,hc⟩ : ∃ c,w.Calls[k]? = some c:=⟨_,List.getElem?_eq_getElem hlt⟩
  simp -dsimp -implicitDefEqProofs [hc,yG hlt]
  intro hlen
  refine yc (yt9 c (hs.2.2.2 c (List.mem_of_getElem? hc))) ?_
  cases h7 : yb9 c with
  | false=>simp -dsimp -implicitDefEqProofs; exact wk7 hc h7
  | true =>
   simp -dsimp -implicitDefEqProofs
   exact ⟨yw hlt hlen,k + 1,⟨hlt,yL (p:=yb9) hc hall h7⟩,by omega,by apply yj <;> simp⟩
 ·simp -dsimp -implicitDefEqProofs [yaB hge]
  have h7:=yX (p:=yb9) hge hall
  intro _
  refine ⟨fun h6=>?_,fun h6=>(wk6 (by omega))⟩
  have h6' : w.Calls.length ≤ 24:=by omega
  refine yc (ytO w.Lock hs.1) ?_
  cases h1 : ybg w.Lock with
  | false=>simp -dsimp -implicitDefEqProofs; exact wk1 h1
  | true =>
  simp -dsimp -implicitDefEqProofs
  refine yc (yd2 w.Weir) ?_
  cases h2 : yaH w.Weir with
  | false=>simp -dsimp -implicitDefEqProofs; exact wk2 h2
  | true =>
  simp -dsimp -implicitDefEqProofs
  refine yc (yiX w.Rule) ?_
  cases h3 : yca w.Rule with
  | false=>simp -dsimp -implicitDefEqProofs; exact wk3 h3
  | true =>
  simp -dsimp -implicitDefEqProofs
  refine yc (yrd w.Pauses) ?_
  cases h4 : ycD w.Pauses with
  | false=>simp -dsimp -implicitDefEqProofs; exact wk4 h4
  | true =>
  simp -dsimp -implicitDefEqProofs
  refine yc (yuW w.Turn) ?_
  simp -dsimp -implicitDefEqProofs
  simp [ybd,h1,h2,h3,h4,h6',h7]
def ykU : List Entry → Prop:=ycs fun _=>True
def ycN : List Reach → Prop:=ycs Reach.small
def yhr : List Way → Prop:=ycs fun _=>True
def yc8 : List Work → Prop:=ycs Work.small
def yfK : List Mover → Prop:=ycs Mover.small
abbrev yZ (xs : List Mover) : List C:=[.sl 3 (xs.map Mover.enc)]
-- [][]Mover
def ye2 : List (List Mover) → Prop:=ycs yfK
structure Passing where
 Time : Int
 Work : Int
 Train : Train
 deriving DecidableEq,Inhabited
@[simp] def Passing.enc (e : Passing) : List C:=[.i e.Time,.i e.Work,.b e.Train.Up,.sl 1 (e.Train.Rows.map yai)]
-- Passing
def Passing.small (e : Passing) : Prop:=e.Train.small
def yeB : List Passing → Prop:=ycs Passing.small
structure Waterway where
 Time : Int
 Reaches : List Reach
 Ways : List Way
 Works : List Work
 Movers : List (List Mover)
 Arrived : List Train
 Entered : List Int
 Tariff : Tariff
 Book : List Entry
 Passings : List Passing
 Start : Int
 In : Int
 Out : Int
 deriving DecidableEq
@[simp] def Waterway.enc (e : Waterway) : List C:=[.i e.Time,.sl 3 (e.Reaches.map Reach.enc),.sl 2 (e.Ways.map Way.enc),.sl 22 (e.Works.map Work.enc),.sl 1 (e.Movers.map yZ),.sl 2 (e.Arrived.map Train.enc),.sl 1 (e.Entered.map yJ),.i e.Tariff.Base,.i e.Tariff.PerArea,.sl 1 (e.Tariff.PerClass.map yJ),.sl 1 (e.Tariff.Weights.map yJ),.sl 5 (e.Book.map Entry.enc),.sl 4 (e.Passings.map Passing.enc),.i e.Start,.i e.In,.i e.Out]
-- Waterway
def Waterway.small (e : Waterway) : Prop:=ycN e.Reaches ∧ yhr e.Ways ∧ yc8 e.Works ∧ ye2 e.Movers ∧ ybV e.Arrived ∧ ykx e.Entered ∧ e.Tariff.small ∧ ykU e.Book ∧ yeB e.Passings
theorem yyF (es : List Boat) (hl : es.length ≤ 1048576) : ybh Tryz.prog 136 [.c (.sl 6 (es.map Boat.enc))] (.c (.ow 6 (es.map Boat.enc))):=by
 refine yan ydo ?_
 simp -dsimp -implicitDefEqProofs [ybH,yt]
 omega
theorem yvV (xs : List (List Boat)) (hl : yej xs) : ybh Tryz.prog 88 [.c (.sl 1 (xs.map yai))] (.c (.ot 1 (xs.map yT))):=by
 refine yan yna ?_
 simp -dsimp -implicitDefEqProofs
 intro hlen
 have hl1:=hl.1
 refine yfV (k0:=1) 3 1 (by simp) (by simp) (by decide) ?_
 refine yg (ι:=Nat) (fun k=>k ≤ xs.length) (fun k=>yO [(3,.own 3 1 k),(6,.c (.sl 1 (xs.map yai))),(7,.c (.i xs.length)),(8,.c (.i k))] [(3,.tr 1 0 ((xs.take k).map yT))]) (fun k=>xs.length - k) 0 (by simp) (by apply yj <;> simp [Obj.leO]) ?_
 rintro k hk
 rcases Nat.lt_or_ge k xs.length with hlt | hge
 ·obtain ⟨e,he⟩ : ∃ e,xs[k]? = some e:=⟨_,List.getElem?_eq_getElem hlt⟩
  have hs : xs.take (k + 1) = xs.take k ++ [e]:=by rw [List.take_succ,he]; rfl
  simp -dsimp -implicitDefEqProofs [he,yG hlt]
  refine yQ (yyF e (hl.2 e (List.mem_of_getElem? he)).1) (by simp ) (by simp [AV.closed,AV.ya7,C.closed]) (by simp [yU]) ?_
  simp -dsimp -implicitDefEqProofs [yt,Nat.min_eq_left hk]
  refine ⟨by omega,yw hlt hlen,k + 1,hlt,by omega,?_⟩
  have hs2 : (xs.map yT).take (k + 1) = (xs.map yT).take k ++ [[.ow 6 (e.map Boat.enc)]]:=by rw [← List.map_take,← List.map_take,hs,List.map_append]; rfl
  apply yj <;> simp [Obj.leO,hs2]
 ·have : k = xs.length:=by omega
  subst this
  simp -dsimp -implicitDefEqProofs [yt]
  try simp
theorem ygJ (e : Train) (hl : Train.small e) : ybh Tryz.prog 55 [.agg (e.enc.map .c)] (.agg (e.yI.map .c)):=by
 refine yan yl6 ?_
 simp -dsimp -implicitDefEqProofs
 refine yfW (yvV e.Rows hl) (by simp) (by simp [AV.closed,AV.ya7,C.closed,yT]) (by simp [yU]) ?_
 simp -dsimp -implicitDefEqProofs [yt]
theorem yeh {k : Nat} {xs : List X} {s : St} : wOf (.bsl k xs) s = (xs.map s.ev).flatMap AV.ids:=rfl
theorem ygX (e : Train) (hl : Train.small e) : yB Tryz.prog 129 [.agg (e.enc.map .c)] (.agg (e.enc.map .c)):=by
 refine yh ypE ?_
 simp -dsimp -implicitDefEqProofs
 have hl1:=hl.1
 refine yg (ι:=Nat) (fun k=>k ≤ e.Rows.length) (fun k=>match k with
  | 0=>yO [(1,.box 1 0),(2,.box 2 0),(3,.box 3 0),(4,.c (.i 0))] [(1,.box [.c (.b e.Up),.c (.sl 1 (e.Rows.map yai))]),(2,.box [.c (.b false),.nil 1]),(3,.box [.c (.b e.Up),.nil 1])]
  | k + 1=>yO [(1,.box 1 0),(2,.box 2 0),(3,.box 3 0),(4,.c (.i (k + 1)))] [(1,.box [.c (.b e.Up),.c (.sl 1 (e.Rows.map yai))]),(2,.box [.c (.b false),.nil 1]),(3,.box [.c (.b e.Up),.own 25 1 (k + 1)]),(25,.tr 1 0 ((e.Rows.map yT).take (k + 1)))]) (fun k=>e.Rows.length - k) 0 (by simp) (by apply yj <;> simp [Obj.leO]) ?_
 rintro k hk
 rcases k with _ | k
 ·rcases Nat.lt_or_ge 0 e.Rows.length with hlt | hge
  ·obtain ⟨r,he⟩ : ∃ r,e.Rows[0]? = some r:=⟨_,List.getElem?_eq_getElem hlt⟩
   have h0 : (0 < e.Rows.length) = True:=by simpa using hlt
   have hgr : e.Rows[0] = r:=(List.getElem?_eq_some_iff.1 he).2
   have hrl:=(hl.2 r (List.mem_of_getElem? he)).1
   simp -dsimp -implicitDefEqProofs [he,h0,hgr,yt,yeh]
   intro hlen
   refine ⟨by omega,by unfold inI; omega,1,hlt,by omega,?_⟩
   have hs2 : (e.Rows.map yT).take 1 = [[.ow 6 (r.map Boat.enc)]]:=by
    obtain ⟨y,l,hy⟩ : ∃ y l,e.Rows = y :: l:=by cases hr : e.Rows with | nil=>rw [hr] at hlt; simp at hlt | cons y l=>exact ⟨y,l,rfl⟩
    rw [hy] at he ⊢; simp at he; subst he; rfl
   apply yj <;> simp [Obj.leO,hs2]
  ·have hx : e.Rows = []:=List.length_eq_zero_iff.1 (by omega)
   have h0 : (0 < e.Rows.length) = False:=by simp [hx]
   simp -dsimp -implicitDefEqProofs [h0]
   simp [hx]
 ·rcases Nat.lt_or_ge (k + 1) e.Rows.length with hlt | hge
  ·obtain ⟨r,he⟩ : ∃ r,e.Rows[k + 1]? = some r:=⟨_,List.getElem?_eq_getElem hlt⟩
   have h0 : ((k : Int) + 1 < e.Rows.length) = True:=by simp; omega
   have h1 : (0 ≤ (k : Int) + 1) = True:=by simp; omega
   have h2 : ((k : Int) + 1).toNat = k + 1:=by omega
   have hrl:=(hl.2 r (List.mem_of_getElem? he)).1
   simp -dsimp -implicitDefEqProofs [he,h0,h1,h2,yt,yeh]
   intro hlen
   refine ⟨by omega,by omega,by omega,by unfold inI; omega,k + 2,hlt,by omega,?_⟩
   have hs2 : (e.Rows.map yT).take (k + 2) = (e.Rows.map yT).take (k + 1) ++ [[.ow 6 (r.map Boat.enc)]]:=by
    rw [List.take_succ,List.getElem?_map,he]; rfl
   apply yj <;> simp [Obj.leO,hs2] <;> omega
  ·have h0 : ((k : Int) + 1 < e.Rows.length) = False:=by simp; omega
   have hx : e.Rows.length = k + 1:=by omega
   simp -dsimp -implicitDefEqProofs [h0]
   intro _
   have e1 : (e.Rows.map yT).take (k + 1) = e.Rows.map yT:=List.take_of_length_le (by simp; omega)
   rw [e1,e1,yag yeg]
   simp
def mkEn (k : Int) : List C:=[.i k,.i (k + 1),.i (k + 1 + 1),.i (k + 1 + 1 + 1),.i (k + 1 + 1 + 1 + 1)]
@[simp] def Tariff.yI (e : Tariff) : List C:=[.i e.Base,.i e.PerArea,.ow 1 (e.PerClass.map yJ),.ow 1 (e.Weights.map yJ)]
def nT (e : Tariff) : Int:=e.PerClass.length + e.Weights.length
def ygn (r : Reach) : Int:=if yR r then yda r else 0
def river (l : List Reach) : Int:=(l.map yda).sum
def ycM (l : List Reach) : Bool:=decide (1 ≤ l.length) && decide (l.length ≤ 6) && l.all yR && decide (river l ≤ 1000000000)
def yNz (l : List Reach) : Int:=if ycM l then river l else 0
def ydI (l : List Reach) (k : Nat) : Int:=river (l.take k)
theorem yhT {l : List Reach} : ydI l 0 = 0:=rfl
theorem yh3 {l : List Reach} {k : Nat} {r : Reach} (h : l[k]? = some r) : ydI l (k + 1) = ydI l k + yda r:=by
 unfold ydI river
 rw [List.take_succ,h]; simp
theorem yfa {l : List Reach} {k : Nat} (h : l.length ≤ k) : ydI l k = river l:=by unfold ydI; rw [List.take_of_length_le h]
structure SumFacts (r : Reach) : Prop where
 vol : amount r.Volume = true
 len : r.Pipe.length ≤ 12
 amt : ∀ n ∈ r.Pipe,amount n = true
 rng : 0 ≤ yda r ∧ yda r ≤ 1000000000
theorem ydd {r : Reach} (h : yR r = true) : SumFacts r:=by
 simp only [yR,Bool.and_eq_true,decide_eq_true_eq,List.all_eq_true] at h
 obtain ⟨⟨⟨⟨h1,h2⟩,h3⟩,h4⟩,h5⟩:=h
 refine ⟨h2,h3,h4,?_,h5⟩
 have a1:=yF.1 (show inRange r.Volume 0 1000000000 = true from h2)
 have a2:=ykq (l:=r.Pipe) h4
 unfold yda; omega
theorem ygE {l : List Reach} : ∀ {k : Nat},(∀ r ∈ l.take k,yR r = true) → 0 ≤ ydI l k ∧ ydI l k ≤ 1000000000 * k
 | 0,_=>by rw [yhT]; omega
 | k + 1,h=>by
  have ih:=ygE (k:=k) fun r hr=>h r (by rw [List.take_succ]; exact List.mem_append_left _ hr)
  have e2 : ((k + 1 : Nat) : Int) = k + 1:=by simp
  cases hk : l[k]? with
  | none =>
   have hl : l.length ≤ k:=by simpa using hk
   rw [yfa (by omega),← yfa hl]; omega
  | some r =>
   have:=(ydd (h r (by rw [List.take_succ,hk]; exact List.mem_append_right _ (by simp)))).rng
   rw [yh3 hk]; omega
theorem yN6 {l : List Reach} (h : ycM l = false) : yNz l = 0:=by simp [yNz,h]
theorem yob {l : List Reach} {k : Nat} {r : Reach} (h : l[k]? = some r) (hr : yR r = false) : ycM l = false:=by
 have:=all_false (p:=yR) h hr
 simp [ycM,this]
theorem ykM (r : Reach) : yB Tryz.prog 117 [.agg (r.enc.map .c)] (.c (.i (ygn r))):=by
 refine yh yo0 ?_
 simp -dsimp -implicitDefEqProofs
 refine yc (yby r) ?_
 cases h : yR r with
 | false=>simp -dsimp -implicitDefEqProofs; simp [ygn,h]
 | true =>
 have f:=ydd h
 have hl:=f.len
 have hv:=yF.1 (show inRange r.Volume 0 1000000000 = true from f.vol)
 have ht : ygn r = yda r:=by simp [ygn,h]
 simp -dsimp -implicitDefEqProofs [ht]
 intro hlen
 refine yg (ι:=Nat) (fun k=>k ≤ r.Pipe.length) (fun k=>yO [(3,.c (.i (r.Volume + sumTo r.Pipe k))),(12,.c (.sl 1 (r.Pipe.map yJ))),(13,.c (.i r.Pipe.length)),(14,.c (.i k))] []) (fun k=>r.Pipe.length - k) 0 (by simp) (by apply yj <;> simp [yf6]) ?_
 rintro k hk
 rcases Nat.lt_or_ge k r.Pipe.length with hlt | hge
 ·obtain ⟨x,hx⟩ : ∃ x,r.Pipe[k]? = some x:=⟨_,List.getElem?_eq_getElem hlt⟩
  have e1:=yia hx
  have b1:=ymX f.amt hl (k + 1)
  rw [e1] at b1
  simp -dsimp -implicitDefEqProofs [hx,yG hlt]
  refine ⟨by unfold inI; omega,yw hlt hlen,k + 1,hlt,by omega,?_⟩
  apply yj <;> simp [e1]; omega
 ·simp -dsimp -implicitDefEqProofs [yaB hge]
  rw [ymm hge,ht]; rfl
theorem ysy (l : List Reach) : yB Tryz.prog 74 [.c (.sl 3 (l.map Reach.enc))] (.c (.b (ycM l))):=by
 refine yh yp0 ?_
 simp -dsimp -implicitDefEqProofs
 refine fun hlen=>⟨fun h1=>?_,fun h1=>?_⟩
 rotate_left
 ·simp [ycM]; omega
 refine fun _=>⟨fun h6=>by simp [ycM]; omega,fun h6=>?_⟩
 refine fun _=>yg (ι:=Nat) (fun k=>k ≤ l.length ∧ ∀ r ∈ l.take k,yR r = true) (fun k=>yO [(3,.c (.i (ydI l k))),(14,.c (.sl 3 (l.map Reach.enc))),(15,.c (.i l.length)),(16,.c (.i k))] []) (fun k=>l.length - k) 0 (by simp) (by apply yj <;> simp [yhT]) ?_
 rintro k ⟨hk,hall⟩
 rcases Nat.lt_or_ge k l.length with hlt | hge
 ·obtain ⟨r,hr⟩ : ∃ r,l[k]? = some r:=⟨_,List.getElem?_eq_getElem hlt⟩
  simp -dsimp -implicitDefEqProofs [hr,yG hlt]
  refine yc (yby r) ?_
  cases h : yR r with
  | false=>simp -dsimp -implicitDefEqProofs; exact yob hr h
  | true =>
   have ht : ygn r = yda r:=by simp [ygn,h]
   have hall':=yL (p:=yR) hr hall h
   have hb:=ygE hall'
   have e1:=yh3 hr
   simp -dsimp -implicitDefEqProofs
   refine yc (ykM r) ?_
   simp -dsimp -implicitDefEqProofs [ht]
   refine ⟨by rw [e1] at hb; unfold inI; omega,yw hlt hlen,k + 1,⟨hlt,hall'⟩,by omega,?_⟩
   apply yj <;> simp [e1]
 ·have hall2:=yX (p:=yR) hge hall
  simp -dsimp -implicitDefEqProofs [yaB hge]
  rw [yfa hge]
  have a1 : 1 ≤ l.length:=by omega
  have a2 : l.length ≤ 6:=by omega
  simp [ycM,a1,a2,hall2]
structure RiverFacts (l : List Reach) : Prop where
 len : 1 ≤ l.length ∧ l.length ≤ 6
 ok : ∀ r ∈ l,yR r = true
 rng : 0 ≤ river l ∧ river l ≤ 1000000000
theorem ywm {l : List Reach} (h : ycM l = true) : RiverFacts l:=by
 simp only [ycM,Bool.and_eq_true,decide_eq_true_eq,List.all_eq_true] at h
 obtain ⟨⟨⟨h1,h2⟩,h3⟩,h4⟩:=h
 have:=ygE (l:=l) (k:=l.length) (by rw [List.take_length]; exact h3)
 rw [yfa (Nat.le_refl _)] at this
 exact ⟨⟨h1,h2⟩,h3,this.1,h4⟩
theorem yN5 (l : List Reach) : yB Tryz.prog 73 [.c (.sl 3 (l.map Reach.enc))] (.c (.i (yNz l))):=by
 refine yh yNZ ?_
 simp -dsimp -implicitDefEqProofs
 refine yc (ysy l) ?_
 cases h : ycM l with
 | false=>simp -dsimp -implicitDefEqProofs; rw [yN6 h]
 | true =>
 have f:=ywm h
 have ht : yNz l = river l:=by simp [yNz,h]
 simp -dsimp -implicitDefEqProofs [ht]
 intro hlen
 refine yg (ι:=Nat) (fun k=>k ≤ l.length) (fun k=>yO [(3,.c (.i (ydI l k))),(9,.c (.sl 3 (l.map Reach.enc))),(10,.c (.i l.length)),(11,.c (.i k))] []) (fun k=>l.length - k) 0 (by simp) (by apply yj <;> simp [yhT]) ?_
 rintro k hk
 rcases Nat.lt_or_ge k l.length with hlt | hge
 ·obtain ⟨r,hr⟩ : ∃ r,l[k]? = some r:=⟨_,List.getElem?_eq_getElem hlt⟩
  have h2 : ygn r = yda r:=by simp [ygn,f.ok r (List.mem_of_getElem? hr)]
  have hb:=ygE (l:=l) (k:=k + 1) fun x hx=>f.ok x (List.mem_of_mem_take hx)
  have e1:=yh3 hr
  have hl6:=f.len
  simp -dsimp -implicitDefEqProofs [hr,yG hlt]
  refine yc (ykM r) ?_
  simp -dsimp -implicitDefEqProofs [h2]
  refine ⟨by rw [e1] at hb; unfold inI; omega,yw hlt hlen,k + 1,hlt,by omega,?_⟩
  apply yj <;> simp [e1]
 ·simp -dsimp -implicitDefEqProofs [yaB hge]
  rw [yfa hge,ht]
def yio (l : List Reach) (k : Nat) : Int:=if 1000000001 < ydI l k then 1000000001 else ydI l k
theorem yv5 {l : List Reach} : yio l 0 = 0:=by simp [yio,yhT]
theorem ywi {l : List Reach} {k : Nat} {r : Reach} (h : l[k]? = some r) (hr : 0 ≤ yda r) : (if 1000000001 < yio l k + yda r then 1000000001 else yio l k + yda r) = yio l (k + 1):=by
 unfold yio
 rw [yh3 h]
 (repeat' split) <;> omega
theorem yxR {l : List Reach} {k : Nat} (h : ∀ r ∈ l.take k,yR r = true) : 0 ≤ yio l k ∧ yio l k ≤ 1000000001:=by
 have:=ygE h
 unfold yio
 split <;> omega
theorem ysQ (l : List Reach) : yB Tryz.prog 169 [.c (.sl 3 (l.map Reach.enc))] (.c (.b (ycM l))):=by
 refine yh yog ?_
 simp -dsimp -implicitDefEqProofs
 refine yg (ι:=Nat) (fun k=>k ≤ l.length ∧ ∀ r ∈ l.take k,yR r = true) (fun k=>yO [(0,.c (.sl 3 (l.map Reach.enc))),(3,.c (.i (yio l k))),(4,.c (.i k))] []) (fun k=>l.length - k) 0 (by simp) (by apply yj <;> simp [yv5]) ?_
 rintro k ⟨hk,hall⟩
 rcases Nat.lt_or_ge k l.length with hlt | hge
 ·obtain ⟨r,hr⟩ : ∃ r,l[k]? = some r:=⟨_,List.getElem?_eq_getElem hlt⟩
  simp -dsimp -implicitDefEqProofs [hr,yG hlt]
  intro hlen
  refine yc (ybX r) ?_
  cases h : yR r with
  | false=>simp -dsimp -implicitDefEqProofs; exact yob hr h
  | true =>
   have f:=ydd h
   have hall':=yL (p:=yR) hr hall h
   have hb:=yxR hall
   have hs:=f.rng
   have e1:=ywi hr hs.1
   simp -dsimp -implicitDefEqProofs [hr,yG hlt]
   refine yc (yoR r f.vol f.len f.amt) ?_
   simp -dsimp -implicitDefEqProofs [e1]
   refine ⟨by unfold inI; omega,yw hlt hlen,k + 1,⟨hlt,hall'⟩,by omega,?_⟩
   apply yj <;> simp [e1]
 ·have hall2:=yX (p:=yR) hge hall
  simp -dsimp -implicitDefEqProofs [yaB hge]
  intro hlen
  refine yc (yD l.length 1 6) ?_
  have hr : ydI l k = river l:=yfa hge
  have hc : (yio l k ≤ 1000000000) = (river l ≤ 1000000000):=by
   unfold yio; rw [hr]; apply propext; split <;> omega
  have hrng : inRange (l.length : Int) 1 6 = (decide (1 ≤ l.length) && decide (l.length ≤ 6)):=by
   rw [Bool.eq_iff_iff,yF]; simp only [Bool.and_eq_true,decide_eq_true_eq]; omega
  cases h1 : inRange (l.length : Int) 1 6 with
  | false=>simp -dsimp -implicitDefEqProofs; rw [ycM,← hrng,h1]; simp
  | true =>
   simp -dsimp -implicitDefEqProofs
   rw [ycM,← hrng,h1]
   simp [hall2,hc]
theorem yN4 (l : List Reach) : yB Tryz.prog 130 [.c (.sl 3 (l.map Reach.enc))] (.c (.i (yNz l))):=by
 refine yh yNX ?_
 simp -dsimp -implicitDefEqProofs
 refine yg (ι:=Nat) (fun k=>k ≤ l.length ∧ (k ≠ 0 → ycM l = true)) (fun k=>yO [(0,.c (.sl 3 (l.map Reach.enc))),(3,.c (.i (ydI l k))),(4,.c (.i k))] []) (fun k=>l.length - k) 0 (by simp) (by apply yj <;> simp [yhT]) ?_
 rintro k ⟨hk,hok⟩
 rcases Nat.lt_or_ge k l.length with hlt | hge
 ·obtain ⟨r,hr⟩ : ∃ r,l[k]? = some r:=⟨_,List.getElem?_eq_getElem hlt⟩
  simp -dsimp -implicitDefEqProofs [hr,yG hlt]
  intro hlen
  refine yc (ysQ l) ?_
  cases h : ycM l with
  | false =>
   have : k = 0:=by
    rcases Nat.eq_zero_or_pos k with e | e
    ·exact e
    ·have:=hok (by omega); rw [h] at this; cases this
   subst this
   simp -dsimp -implicitDefEqProofs; rw [yN6 h,yhT]
  | true =>
   have f:=ywm h
   have sf:=ydd (f.ok r (List.mem_of_getElem? hr))
   have hb:=ygE (l:=l) (k:=k + 1) fun x hx=>f.ok x (List.mem_of_mem_take hx)
   have e1:=yh3 hr
   have hl6:=f.len
   simp -dsimp -implicitDefEqProofs [hr,yG hlt]
   refine yc (yoR r sf.vol sf.len sf.amt) ?_
   simp -dsimp -implicitDefEqProofs
   refine ⟨by rw [e1] at hb; unfold inI; omega,yw hlt hlen,k + 1,by first | exact ⟨hlt,fun _=>h⟩ | exact hlt,by omega,?_⟩
   apply yj <;> simp [e1]
 ·simp -dsimp -implicitDefEqProofs [yaB hge]
  intro _
  cases h : ycM l with
  | true=>rw [yfa hge]; simp [yNz,h]
  | false =>
   have : k = 0:=by
    rcases Nat.eq_zero_or_pos k with e | e
    ·exact e
    ·have:=hok (by omega); rw [h] at this; cases this
   subst this
   rw [yN6 h,yhT]
def yb8 (p : Way × List Mover) : Bool:=yjg p.1 && decide (p.2.length ≤ 24) && p.2.all fun m=>ybk m p.1
def ybi (x : Waterway) : Bool:=ycM x.Reaches && decide (2 ≤ x.Reaches.length) && decide (x.Ways.length = x.Reaches.length) && decide (x.Movers.length = x.Reaches.length) && decide (x.Works.length + 1 = x.Reaches.length) &&
 (x.Ways.zip x.Movers).all yb8 && x.Works.all ybd
theorem yBL {w : Way} {ms : List Mover} (h : yjg w = false) : yb8 (w,ms) = false:=by simp [yb8,h]
theorem yCv {w : Way} {ms : List Mover} (h : 24 < ms.length) : yb8 (w,ms) = false:=by simp [yb8]; omega
theorem yyL {w : Way} {ms : List Mover} {k : Nat} {m : Mover} (h : ms[k]? = some m) (hm : ybk m w = false) : yb8 (w,ms) = false:=by
 have:=all_false (p:=fun m=>ybk m w) h hm
 simp [yb8,this]
theorem ydV {x : Waterway} {k : Nat} {w : Way} {ms : List Mover} (h1 : x.Ways[k]? = some w) (h2 : x.Movers[k]? = some ms) (h : yb8 (w,ms) = false) : ybi x = false:=by
 have:=all_false (p:=yb8) (l:=x.Ways.zip x.Movers) (k:=k) (List.getElem?_zip_eq_some.2 ⟨h1,h2⟩) h
 simp [ybi,this]
theorem yo6 {x : Waterway} {k : Nat} {w : Work} (h1 : x.Works[k]? = some w) (h : ybd w = false) : ybi x = false:=by
 have:=all_false (p:=ybd) h1 h
 simp [ybi,this]
theorem pno2 {x : Waterway} (h : ¬ 2 ≤ x.Reaches.length) : ybi x = false:=by simp [ybi,h]
theorem pno3 {x : Waterway} (h : ¬ x.Ways.length = x.Reaches.length) : ybi x = false:=by simp [ybi,h]
theorem pno4 {x : Waterway} (h : ¬ x.Movers.length = x.Reaches.length) : ybi x = false:=by simp [ybi,h]
theorem pno5 {x : Waterway} (h : ¬ x.Works.length + 1 = x.Reaches.length) : ybi x = false:=by simp [ybi,h]
theorem ysC (x : Waterway) (hs : x.small) : yB Tryz.prog 34 [.agg (x.enc.map .c)] (.c (.b (ybi x))):=by
 have hsM:=hs.2.2.2.1
 have hsW:=hs.2.2.1
 refine yh ypQ ?_
 simp -dsimp -implicitDefEqProofs
 intro hlen
 refine yc (ysy x.Reaches) ?_
 cases h1 : ycM x.Reaches with
 | false=>simp -dsimp -implicitDefEqProofs; simp [ybi,h1]
 | true =>
 simp -dsimp -implicitDefEqProofs
 refine ⟨fun h2=>?_,fun h2=>(pno2 (by omega))⟩
 intro _
 refine ⟨fun h3=>?_,fun h3=>(pno3 (by omega))⟩
 intro _
 refine ⟨fun h4=>?_,fun h4=>(pno4 (by omega))⟩
 refine fun _=>⟨by unfold maxLen at hlen; unfold inI; omega,?_⟩
 refine ⟨fun h5=>(pno5 (by omega)),fun h5=>?_⟩
 have h3' : x.Ways.length = x.Reaches.length:=by omega
 have h4' : x.Movers.length = x.Reaches.length:=by omega
 have hz : (x.Ways.zip x.Movers).length = x.Ways.length:=by rw [List.length_zip]; omega
 refine fun hlw=>yg (ι:=Nat) (fun k=>k ≤ x.Ways.length ∧ ∀ p ∈ (x.Ways.zip x.Movers).take k,yb8 p = true) (fun k=>yO [(1,.box 1 0),(44,.c (.sl 2 (x.Ways.map Way.enc))),(45,.c (.i x.Ways.length)),(46,.c (.i k))] [(1,.box (x.enc.map .c))]) (fun k=>x.Ways.length - k) 0 (by simp) (by apply yj <;> simp) ?_
 rintro k ⟨hk,hall⟩
 rcases Nat.lt_or_ge k x.Ways.length with hlt | hge
 ·obtain ⟨w,hw⟩ : ∃ w,x.Ways[k]? = some w:=⟨_,List.getElem?_eq_getElem hlt⟩
  obtain ⟨ms,hm⟩ : ∃ w,x.Movers[k]? = some w:=⟨_,List.getElem?_eq_getElem (by omega)⟩
  have hkm : k < x.Movers.length:=by omega
  have gm:=(List.getElem?_eq_some_iff.1 hm).2
  have gw:=(List.getElem?_eq_some_iff.1 hw).2
  have hp : (x.Ways.zip x.Movers)[k]? = some (w,ms):=List.getElem?_zip_eq_some.2 ⟨hw,hm⟩
  have hsm:=hsM.2 ms (List.mem_of_getElem? hm)
  simp -dsimp -implicitDefEqProofs [hw,gw,yG hlt,hlt]
  refine yc (ypN w) ?_
  cases h6 : yjg w with
  | false=>simp -dsimp -implicitDefEqProofs; exact ydV hw hm (yBL h6)
  | true =>
  simp -dsimp -implicitDefEqProofs [hm,gm,hkm,yG hkm]
  intro hlm
  refine ⟨fun h7=>(ydV hw hm (yCv (by omega))),fun h7=>?_⟩
  refine fun _=>yg (ι:=Nat) (fun i=>i ≤ ms.length ∧ ∀ m ∈ ms.take i,ybk m w = true) (fun i=>yO [(1,.box 1 0),(5,.box 5 0),(44,.c (.sl 2 (x.Ways.map Way.enc))),(45,.c (.i x.Ways.length)),(46,.c (.i k)),(67,.c (.sl 3 (ms.map Mover.enc))),(68,.c (.i ms.length)),(69,.c (.i i))] [(1,.box (x.enc.map .c)),(5,.box (w.enc.map .c))]) (fun i=>ms.length - i) 0 (by simp) (by apply yj <;> simp) ?_
  rintro i ⟨hi,hall2⟩
  rcases Nat.lt_or_ge i ms.length with hlt2 | hge2
  ·obtain ⟨m,hmm⟩ : ∃ w,ms[i]? = some w:=⟨_,List.getElem?_eq_getElem hlt2⟩
   have g2:=(List.getElem?_eq_some_iff.1 hmm).2
   simp -dsimp -implicitDefEqProofs [hmm,g2,yG hlt2,hlt2]
   refine yc (yr9 m w (hsm.2 m (List.mem_of_getElem? hmm))) ?_
   cases h8 : ybk m w with
   | false=>simp -dsimp -implicitDefEqProofs; exact ydV hw hm (yyL hmm h8)
   | true =>
    simp -dsimp -implicitDefEqProofs
    refine ⟨yw hlt2 hlm,i + 1,⟨hlt2,yL (p:=fun m=>ybk m w) hmm hall2 h8⟩,by omega,?_⟩
    apply yj <;> simp
  ·have h9:=yX (p:=fun m=>ybk m w) hge2 hall2
   have hlane : yb8 (w,ms) = true:=by
    have : ms.length ≤ 24:=by omega
    simp [yb8,h6,this,h9]
   simp -dsimp -implicitDefEqProofs [yaB hge2]
   refine ⟨yw hlt hlw,k + 1,⟨hlt,fun a b hab=>yL (p:=yb8) hp hall hlane (a,b) hab⟩,by omega,?_⟩
   apply yj <;> simp
 ·have hl:=yX (p:=yb8) (by rw [hz]; exact hge) hall
  simp -dsimp -implicitDefEqProofs [yaB hge]
  refine fun hlk=>yg (ι:=Nat) (fun i=>i ≤ x.Works.length ∧ ∀ w ∈ x.Works.take i,ybd w = true) (fun i=>yO [(1,.box 1 0),(80,.c (.sl 22 (x.Works.map Work.enc))),(81,.c (.i x.Works.length)),(82,.c (.i i))] [(1,.box (x.enc.map .c))]) (fun i=>x.Works.length - i) 0 (by simp) (by apply yj <;> simp) ?_
  rintro i ⟨hi,hall2⟩
  rcases Nat.lt_or_ge i x.Works.length with hlt2 | hge2
  ·obtain ⟨w,hw⟩ : ∃ w,x.Works[i]? = some w:=⟨_,List.getElem?_eq_getElem hlt2⟩
   have g2:=(List.getElem?_eq_some_iff.1 hw).2
   simp -dsimp -implicitDefEqProofs [hw,g2,yG hlt2,hlt2]
   refine yc (yu3 w (hsW.2 w (List.mem_of_getElem? hw))) ?_
   cases h8 : ybd w with
   | false=>simp -dsimp -implicitDefEqProofs; exact yo6 hw h8
   | true =>
    simp -dsimp -implicitDefEqProofs
    refine ⟨yw hlt2 hlk,i + 1,⟨hlt2,yL (p:=ybd) hw hall2 h8⟩,by omega,?_⟩
    apply yj <;> simp
  ·have h9:=yX (p:=ybd) hge2 hall2
   simp -dsimp -implicitDefEqProofs [yaB hge2]
   have h2' : 2 ≤ x.Reaches.length:=by omega
   have h5' : x.Works.length + 1 = x.Reaches.length:=by omega
   simp [ybi,h1,h2',h3',h4',h5',hl,h9]
def yc9 (n : Nat) (p : Passing) : Bool:=inRange p.Time 0 1000000 && inRange p.Work 0 (n - 1) && yP p.Train
def ybW (x : Waterway) : Bool:=decide (x.Arrived.length ≤ 500) && decide (x.Entered.length ≤ 2000) && decide (x.Passings.length ≤ 500) && x.Arrived.all yP && x.Entered.all (fun n=>inRange n 1 9999) && x.Passings.all (yc9 x.Works.length)
def yar (x : Waterway) : Bool:=inRange x.Time 0 1000000 && ybi x && ybW x && ya9 x.Tariff && yht x.Book && inRange x.Start 0 1000000000 && inRange x.In 0 1000000000 && inRange x.Out 0 1000000000
theorem lno1 {x : Waterway} (h : ¬ x.Arrived.length ≤ 500) : ybW x = false:=by simp [ybW,h]
theorem lno2 {x : Waterway} (h : ¬ x.Entered.length ≤ 2000) : ybW x = false:=by simp [ybW,h]
theorem lno3 {x : Waterway} (h : ¬ x.Passings.length ≤ 500) : ybW x = false:=by simp [ybW,h]
theorem lno4 {x : Waterway} {k : Nat} {t : Train} (h1 : x.Arrived[k]? = some t) (h : yP t = false) : ybW x = false:=by
 have:=all_false (p:=yP) h1 h
 simp [ybW,this]
theorem lno5 {x : Waterway} {k : Nat} {t : Int} (h1 : x.Entered[k]? = some t) (h : inRange t 1 9999 = false) : ybW x = false:=by
 have:=all_false (p:=fun n=>inRange n 1 9999) h1 h
 simp [ybW,this]
theorem yxw {x : Waterway} {k : Nat} {t : Passing} (h1 : x.Passings[k]? = some t) (h : yc9 x.Works.length t = false) : ybW x = false:=by
 have:=all_false (p:=yc9 x.Works.length) h1 h
 simp [ybW,this]
theorem wno {x : Waterway} (h : ybW x = false) : yar x = false:=by simp [yar,h]
theorem yns (x : Waterway) (hs : x.small) : yB Tryz.prog 15 [.agg (x.enc.map .c)] (.c (.b (yar x))):=by
 have hsA:=hs.2.2.2.2.1
 have hsP:=hs.2.2.2.2.2.2.2.2
 refine yh ylp ?_
 simp -dsimp -implicitDefEqProofs
 refine yc (yC x.Time 0 1000000) ?_
 cases h1 : inRange x.Time 0 1000000 with
 | false=>simp -dsimp -implicitDefEqProofs; simp [yar,h1]
 | true =>
 simp -dsimp -implicitDefEqProofs
 refine yc (ysC x hs) ?_
 cases h2 : ybi x with
 | false=>simp -dsimp -implicitDefEqProofs; simp [yar,h2]
 | true =>
 simp -dsimp -implicitDefEqProofs
 intro hlA
 refine ⟨fun h3=>?_,fun h3=>(wno (lno1 (by omega)))⟩
 intro hlE
 refine ⟨fun h4=>?_,fun h4=>(wno (lno2 (by omega)))⟩
 intro hlP
 refine ⟨fun h5=>(wno (lno3 (by omega))),fun h5=>?_⟩
 refine fun _=>yg (ι:=Nat) (fun k=>k ≤ x.Arrived.length ∧ ∀ t ∈ x.Arrived.take k,yP t = true) (fun k=>yO [(1,.box 1 0),(37,.c (.sl 2 (x.Arrived.map Train.enc))),(38,.c (.i x.Arrived.length)),(39,.c (.i k))] [(1,.box (x.enc.map .c))]) (fun k=>x.Arrived.length - k) 0 (by simp) (by apply yj <;> simp) ?_
 rintro k ⟨hk,hall⟩
 rcases Nat.lt_or_ge k x.Arrived.length with hlt | hge
 ·obtain ⟨t,ht⟩ : ∃ w,x.Arrived[k]? = some w:=⟨_,List.getElem?_eq_getElem hlt⟩
  simp -dsimp -implicitDefEqProofs [ht,yG hlt]
  refine yc (ydp t (hsA.2 t (List.mem_of_getElem? ht))) ?_
  cases h6 : yP t with
  | false=>simp -dsimp -implicitDefEqProofs; exact wno (lno4 ht h6)
  | true =>
   simp -dsimp -implicitDefEqProofs
   refine ⟨yw hlt hlA,k + 1,⟨hlt,yL (p:=yP) ht hall h6⟩,by omega,?_⟩
   apply yj <;> simp
 have hA:=yX (p:=yP) hge hall
 simp -dsimp -implicitDefEqProofs [yaB hge]
 refine fun _=>yg (ι:=Nat) (fun k=>k ≤ x.Entered.length ∧ ∀ t ∈ x.Entered.take k,inRange t 1 9999 = true) (fun k=>yO [(1,.box 1 0),(48,.c (.sl 1 (x.Entered.map yJ))),(49,.c (.i x.Entered.length)),(50,.c (.i k))] [(1,.box (x.enc.map .c))]) (fun k=>x.Entered.length - k) 0 (by simp) (by apply yj <;> simp) ?_
 clear hall hk hge k
 rintro k ⟨hk,hall⟩
 rcases Nat.lt_or_ge k x.Entered.length with hlt | hge
 ·obtain ⟨t,ht⟩ : ∃ w,x.Entered[k]? = some w:=⟨_,List.getElem?_eq_getElem hlt⟩
  simp -dsimp -implicitDefEqProofs [ht,yG hlt]
  refine yc (yC t 1 9999) ?_
  cases h6 : inRange t 1 9999 with
  | false=>simp -dsimp -implicitDefEqProofs; exact wno (lno5 ht h6)
  | true =>
   simp -dsimp -implicitDefEqProofs
   refine ⟨yw hlt hlE,k + 1,⟨hlt,yL (p:=fun n=>inRange n 1 9999) ht hall h6⟩,by omega,?_⟩
   apply yj <;> simp
 have hE:=yX (p:=fun n=>inRange n 1 9999) hge hall
 simp -dsimp -implicitDefEqProofs [yaB hge]
 refine fun _=>yg (ι:=Nat) (fun k=>k ≤ x.Passings.length ∧ ∀ t ∈ x.Passings.take k,yc9 x.Works.length t = true) (fun k=>yO [(1,.box 1 0),(59,.c (.sl 4 (x.Passings.map Passing.enc))),(60,.c (.i x.Passings.length)),(61,.c (.i k))] [(1,.box (x.enc.map .c))]) (fun k=>x.Passings.length - k) 0 (by simp) (by apply yj <;> simp) ?_
 clear hall hk hge k
 rintro k ⟨hk,hall⟩
 rcases Nat.lt_or_ge k x.Passings.length with hlt | hge
 ·obtain ⟨t,ht⟩ : ∃ w,x.Passings[k]? = some w:=⟨_,List.getElem?_eq_getElem hlt⟩
  simp -dsimp -implicitDefEqProofs [ht,yG hlt]
  refine yc (yC t.Time 0 1000000) ?_
  cases h6 : inRange t.Time 0 1000000 with
  | false=>simp -dsimp -implicitDefEqProofs; exact wno (yxw ht (by simp [yc9,h6]))
  | true =>
  simp -dsimp -implicitDefEqProofs
  refine fun hlW=>⟨by unfold maxLen at hlW; unfold inI; omega,?_⟩
  refine yc (yC t.Work 0 (x.Works.length - 1)) ?_
  cases h7 : inRange t.Work 0 (x.Works.length - 1) with
  | false=>simp -dsimp -implicitDefEqProofs; exact wno (yxw ht (by simp [yc9,h7]))
  | true =>
  simp -dsimp -implicitDefEqProofs
  refine yc (ydp t.Train (hsP.2 t (List.mem_of_getElem? ht))) ?_
  cases h8 : yP t.Train with
  | false=>simp -dsimp -implicitDefEqProofs; exact wno (yxw ht (by simp [yc9,h8]))
  | true =>
  simp -dsimp -implicitDefEqProofs
  refine ⟨yw hlt hlP,k + 1,⟨hlt,yL (p:=yc9 x.Works.length) ht hall (by simp [yc9,h6,h7,h8])⟩,by omega,?_⟩
  apply yj <;> simp
 have hP:=yX (p:=yc9 x.Works.length) hge hall
 simp -dsimp -implicitDefEqProofs [yaB hge]
 refine yc (yqB x.Tariff) ?_
 cases h7 : ya9 x.Tariff with
 | false=>simp -dsimp -implicitDefEqProofs; simp [yar,h7]
 | true =>
 simp -dsimp -implicitDefEqProofs
 refine yc (yvn x.Book) ?_
 cases h8 : yht x.Book with
 | false=>simp -dsimp -implicitDefEqProofs; simp [yar,h8]
 | true =>
 simp -dsimp -implicitDefEqProofs
 refine yc (yC x.Start 0 1000000000) ?_
 cases h9 : inRange x.Start 0 1000000000 with
 | false=>simp -dsimp -implicitDefEqProofs; simp [yar,h9]
 | true =>
 simp -dsimp -implicitDefEqProofs
 refine yc (yC x.In 0 1000000000) ?_
 cases h10 : inRange x.In 0 1000000000 with
 | false=>simp -dsimp -implicitDefEqProofs; simp [yar,h10]
 | true =>
 simp -dsimp -implicitDefEqProofs
 refine yc (yC x.Out 0 1000000000) ?_
 simp -dsimp -implicitDefEqProofs
 have a3 : x.Arrived.length ≤ 500:=by omega
 have a4 : x.Entered.length ≤ 2000:=by omega
 have a5 : x.Passings.length ≤ 500:=by omega
 have hl : ybW x = true:=by simp only [ybW,a3,a4,a5,hA,hE,hP]; simp
 simp [yar,h1,h2,h7,h8,h9,h10,hl]
theorem yv2 (x : Waterway) (hs : x.small) : yB Tryz.prog 131 [.agg (x.enc.map .c)] (.c (.b (ybi x))):=by
 have hsM:=hs.2.2.2.1
 have hsW:=hs.2.2.1
 refine yh ynn ?_
 simp -dsimp -implicitDefEqProofs
 intro hlen
 refine yc (ysQ x.Reaches) ?_
 cases h1 : ycM x.Reaches with
 | false=>simp -dsimp -implicitDefEqProofs; simp [ybi,h1]
 | true =>
 simp -dsimp -implicitDefEqProofs
 refine ⟨fun h2=>?_,fun h2=>(pno2 (by omega))⟩
 intro _
 refine ⟨fun h3=>?_,fun h3=>(pno3 (by omega))⟩
 intro _
 refine ⟨fun h4=>?_,fun h4=>(pno4 (by omega))⟩
 refine fun _=>⟨by unfold maxLen at hlen; unfold inI; omega,?_⟩
 refine ⟨fun h5=>(pno5 (by omega)),fun h5=>?_⟩
 have h3' : x.Ways.length = x.Reaches.length:=by omega
 have h4' : x.Movers.length = x.Reaches.length:=by omega
 have h5' : x.Works.length + 1 = x.Reaches.length:=by omega
 have hz : (x.Ways.zip x.Movers).length = x.Ways.length:=by rw [List.length_zip]; omega
 refine yg (ι:=Nat) (fun k=>k ≤ x.Ways.length ∧ (∀ p ∈ (x.Ways.zip x.Movers).take k,yb8 p = true) ∧ ∀ w ∈ x.Works.take k,ybd w = true) (fun k=>yO [(1,.box 1 0),(3,.c (.i x.Reaches.length)),(4,.c (.i k))] [(1,.box (x.enc.map .c))]) (fun k=>x.Ways.length - k) 0 (by simp) (by apply yj <;> simp) ?_
 rintro k ⟨hk,hall,hallw⟩
 rcases Nat.lt_or_ge k x.Ways.length with hlt | hge
 ·obtain ⟨w,hw⟩ : ∃ w,x.Ways[k]? = some w:=⟨_,List.getElem?_eq_getElem hlt⟩
  obtain ⟨ms,hm⟩ : ∃ w,x.Movers[k]? = some w:=⟨_,List.getElem?_eq_getElem (by omega)⟩
  have hkm : k < x.Movers.length:=by omega
  have hkr : k < x.Reaches.length:=by omega
  have gm:=(List.getElem?_eq_some_iff.1 hm).2
  have gw:=(List.getElem?_eq_some_iff.1 hw).2
  have hp : (x.Ways.zip x.Movers)[k]? = some (w,ms):=List.getElem?_zip_eq_some.2 ⟨hw,hm⟩
  have hsm:=hsM.2 ms (List.mem_of_getElem? hm)
  simp -dsimp -implicitDefEqProofs [hw,gw,yG hlt,hlt,hkr,yG hkr]
  refine yc (ynZ w) ?_
  cases h6 : yjg w with
  | false=>simp -dsimp -implicitDefEqProofs; exact ydV hw hm (yBL h6)
  | true =>
  simp -dsimp -implicitDefEqProofs [hm,gm,hkm,yG hkm]
  intro hlm
  refine ⟨fun h7=>?_,fun h7=>(ydV hw hm (yCv (by omega)))⟩
  refine ⟨by unfold maxLen at hlen; unfold inI; omega,fun hc=>?_,fun hc=>?_⟩
  ·obtain ⟨wk,hwk⟩ : ∃ w,x.Works[k]? = some w:=⟨_,List.getElem?_eq_getElem (by omega)⟩
   have gk:=(List.getElem?_eq_some_iff.1 hwk).2
   have hkw : k < x.Works.length:=by omega
   refine ⟨hkw,?_⟩
   simp -dsimp -implicitDefEqProofs [hwk]
   refine yc (yuI wk (hsW.2 wk (List.mem_of_getElem? hwk))) ?_
   cases h10 : ybd wk with
   | false=>simp -dsimp -implicitDefEqProofs; exact yo6 hwk h10
   | true =>
   simp -dsimp -implicitDefEqProofs
   refine yg (ι:=Nat) (fun i=>i ≤ ms.length ∧ ∀ m ∈ ms.take i,ybk m w = true) (fun i=>yO [(1,.box 1 0),(3,.c (.i x.Reaches.length)),(4,.c (.i k)),(5,.c (.i i))] [(1,.box (x.enc.map .c))]) (fun i=>ms.length - i) 0 (by simp) (by apply yj <;> simp) ?_
   rintro i ⟨hi,hall2⟩
   rcases Nat.lt_or_ge i ms.length with hlt2 | hge2
   ·obtain ⟨m,hmm⟩ : ∃ w,ms[i]? = some w:=⟨_,List.getElem?_eq_getElem hlt2⟩
    have g2:=(List.getElem?_eq_some_iff.1 hmm).2
    simp -dsimp -implicitDefEqProofs [hw,gw,hlt,yG hlt,hm,gm,hkm,yG hkm,hmm,g2,yG hlt2,hlt2]
    intro _
    refine yaC (yk6 m w (hsm.2 m (List.mem_of_getElem? hmm))) ?_
    cases h8 : ybk m w with
    | false=>simp -dsimp -implicitDefEqProofs; exact ydV hw hm (yyL hmm h8)
    | true =>
     simp -dsimp -implicitDefEqProofs
     refine ⟨yw hlt2 hlm,i + 1,⟨hlt2,yL (p:=fun m=>ybk m w) hmm hall2 h8⟩,by omega,?_⟩
     apply yj <;> simp
   ·have h9:=yX (p:=fun m=>ybk m w) hge2 hall2
    have hlane : yb8 (w,ms) = true:=by
     have : ms.length ≤ 24:=by omega
     simp [yb8,h6,this,h9]
    simp -dsimp -implicitDefEqProofs [hm,gm,hkm,yG hkm,yaB hge2]
    refine fun _=>⟨by unfold maxLen at hlen; unfold inI; omega,k + 1,⟨hlt,fun a b hab=>yL (p:=yb8) hp hall hlane (a,b) hab,yL (p:=ybd) hwk hallw h10⟩,by omega,?_⟩
    apply yj <;> simp
  ·have hwa : x.Works.take (k + 1) = x.Works.take k:=by rw [List.take_of_length_le (by omega),List.take_of_length_le (by omega)]
   refine yg (ι:=Nat) (fun i=>i ≤ ms.length ∧ ∀ m ∈ ms.take i,ybk m w = true) (fun i=>yO [(1,.box 1 0),(3,.c (.i x.Reaches.length)),(4,.c (.i k)),(5,.c (.i i))] [(1,.box (x.enc.map .c))]) (fun i=>ms.length - i) 0 (by simp) (by apply yj <;> simp) ?_
   rintro i ⟨hi,hall2⟩
   rcases Nat.lt_or_ge i ms.length with hlt2 | hge2
   ·obtain ⟨m,hmm⟩ : ∃ w,ms[i]? = some w:=⟨_,List.getElem?_eq_getElem hlt2⟩
    have g2:=(List.getElem?_eq_some_iff.1 hmm).2
    simp -dsimp -implicitDefEqProofs [hw,gw,hlt,yG hlt,hm,gm,hkm,yG hkm,hmm,g2,yG hlt2,hlt2]
    intro _
    refine yaC (yk6 m w (hsm.2 m (List.mem_of_getElem? hmm))) ?_
    cases h8 : ybk m w with
    | false=>simp -dsimp -implicitDefEqProofs; exact ydV hw hm (yyL hmm h8)
    | true =>
     simp -dsimp -implicitDefEqProofs
     refine ⟨yw hlt2 hlm,i + 1,⟨hlt2,yL (p:=fun m=>ybk m w) hmm hall2 h8⟩,by omega,?_⟩
     apply yj <;> simp
   ·have h9:=yX (p:=fun m=>ybk m w) hge2 hall2
    have hlane : yb8 (w,ms) = true:=by
     have : ms.length ≤ 24:=by omega
     simp [yb8,h6,this,h9]
    simp -dsimp -implicitDefEqProofs [hm,gm,hkm,yG hkm,yaB hge2]
    refine fun _=>⟨by unfold maxLen at hlen; unfold inI; omega,k + 1,⟨hlt,fun a b hab=>yL (p:=yb8) hp hall hlane (a,b) hab,by rw [hwa]; exact hallw⟩,by omega,?_⟩
    apply yj <;> simp
 ·simp -dsimp -implicitDefEqProofs [yaB hge]
  refine ⟨by omega,fun _=>?_⟩
  have hl:=yX (p:=yb8) (by rw [hz]; exact hge) hall
  have h9:=yX (p:=ybd) (l:=x.Works) (k:=k) (by omega) hallw
  have h2' : 2 ≤ x.Reaches.length:=by omega
  simp [ybi,h1,h2',h3',h4',h5',hl,h9]
end Go.Proofs.YtpiplmnecmkafaaGreat
