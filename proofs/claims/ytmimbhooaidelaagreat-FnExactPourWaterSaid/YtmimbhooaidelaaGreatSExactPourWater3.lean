/- What the law FnExactPourWater stands on: contracts of functions, what each answers as plain Lean, in short form (names, layout). -/
import Derived.Test.YtmimbhooaidelaaGreatSExactPourWater2
set_option linter.all false
namespace Go.Proofs.YtmimbhooaidelaaGreat
open Go.RowKit
theorem ydF (t : Train) (h : t.small) : yE Tryz.prog ybr [.agg (t.enc.map .c)] (.c (.b (yR t))):=by
 refine yu ytP (by simp) fun hwf=>?_
 simp -dsimp -implicitDefEqProofs [ymt]
 refine yL (ysA t h) (by simp) rfl ?_
 simp -dsimp -implicitDefEqProofs
 refine yh (ι:=Nat) (fun k=>k ≤ t.Rows.length ∧ ∀ r ∈ t.Rows.take k,full r = true) (fun k=>yT [(1,.box 1 0),(3,.c (.sl 6 (t.yao.map Boat.enc))),(4,.c (.i k))] [(1,.box (t.enc.map .c))]) (fun k=>t.Rows.length - k) 0 (by simp) (by apply yj <;> simp [AV.yc,AV.yB,Obj.yc]) ?_
 rintro k ⟨hk,hall⟩
 rcases Nat.lt_or_ge k t.Rows.length with hlt | hge
 ·obtain ⟨r,hr⟩ : ∃ r,t.Rows[k]? = some r:=⟨_,List.getElem?_eq_getElem hlt⟩
  simp -dsimp -implicitDefEqProofs [hr,yI hlt]
  intro hlen _
  refine ⟨fun h0=>?_,fun h0=>?_⟩
  ·have : t.Rows.all full = false:=all_false (p:=full) hr (by simp [full,h0])
   simp only [yR,this,Bool.false_and]
  ·exact ⟨yA hlt hlen,k + 1,⟨by omega,yO (p:=full) hr hall (by simp [full,h0])⟩,by omega,by apply yj <;> simp [AV.yc,AV.yB,Obj.yc]⟩
 ·have hrows:=yaa (p:=full) hge hall
  simp -dsimp -implicitDefEqProofs [yau hge]
  intro _
  have hbl:=yC0 h
  refine yh (ι:=Nat) (fun k=>k ≤ t.yao.length ∧ (∀ b ∈ t.yao.take k,ybj b = true) ∧ (yv0 t.yao k).Nodup) (fun k=>yT [(3,.c (.sl 6 (t.yao.map Boat.enc))),(5,.c (.i k))] []) (fun k=>t.yao.length - k) 0 (by simp [yv0]) (by apply yj <;> simp [AV.yc,AV.yB,Obj.yc]) ?_
  rintro k ⟨hk,hok,hnd⟩
  have fin : t.yao.length ≤ 6 → k = t.yao.length → yR t = inRange t.yao.length 1 6:=by
   intro h6 e
   have h1:=yaa (p:=ybj) (by omega) hok
   rw [e,yv0,List.take_length] at hnd
   simp [yR,hrows,h1,hnd]
  rcases Nat.lt_or_ge k t.yao.length with hlt | hge
  ·obtain ⟨b,hb⟩ : ∃ b,t.yao[k]? = some b:=⟨_,List.getElem?_eq_getElem hlt⟩
   by_cases h6 : t.yao.length ≤ 6
   ·have h6' : ((t.yao.length : Int) ≤ 6) = True:=by simp; omega
    simp -dsimp -implicitDefEqProofs [hb,yI hlt,h6']
    intro hlen
    refine yg (yza b) (by simp) rfl ?_
    simp -dsimp -implicitDefEqProofs
    refine ⟨fun h1=>?_,fun h1=>?_⟩
    ·have : t.yao.all ybj = false:=all_false (p:=ybj) hb h1
     simp only [yR,this,Bool.false_and,Bool.and_false]
    have hok':=yO (p:=ybj) hb hok h1
    refine yh (ι:=Nat) (fun i=>i ≤ k ∧ b.Id ∉ yv0 t.yao i) (fun i=>yT [(3,.c (.sl 6 (t.yao.map Boat.enc))),(5,.c (.i k)),(6,.c (.i i))] []) (fun i=>k - i) 0 (by simp [yv0]) (by apply yj <;> simp [AV.yc,AV.yB,Obj.yc]) ?_
    rintro i ⟨hi,hni⟩
    rcases Nat.lt_or_ge i k with hlt2 | hge2
    ·obtain ⟨c,hc⟩ : ∃ c,t.yao[i]? = some c:=⟨_,List.getElem?_eq_getElem (by omega)⟩
     have hi3 : (i : Int) < t.yao.length:=by omega
     simp -dsimp -implicitDefEqProofs [hb,hc,yI hlt,yI hlt2,hi3]
     refine ⟨fun h2=>?_,fun h2=>?_⟩
     ·have : ¬ (t.yao.map ygW).Nodup:=by
       refine yBC (k:=k + 1) fun hn=>?_
       refine ((yo3 hb).1 hn).2 ?_
       rw [← h2]
       exact List.mem_map.2 ⟨c,List.mem_iff_getElem?.2 ⟨i,by rw [List.getElem?_take,if_pos hlt2]; exact hc⟩,rfl⟩
      simp [yR,this]
     ·refine ⟨by unfold inI; omega,i + 1,⟨hlt2,?_⟩,by omega,by apply yj <;> simp [AV.yc,AV.yB,Obj.yc]⟩
      rw [yv0,List.take_succ,hc,List.map_append]
      simp only [List.mem_append,Option.toList_some,List.map_cons,List.map_nil,List.mem_singleton,ygW]
      rintro (h3 | h3)
      ·exact hni h3
      ·exact h2 h3.symm
    ·simp -dsimp -implicitDefEqProofs [yau hge2]
     have e : i = k:=by omega
     rw [e] at hni
     exact ⟨by unfold inI; omega,k + 1,⟨hlt,hok',(yo3 hb).2 ⟨hnd,hni⟩⟩,by omega,by apply yj <;> simp [AV.yc,AV.yB,Obj.yc]⟩
   ·have h6' : ((t.yao.length : Int) ≤ 6) = False:=by simp; omega
    simp -dsimp -implicitDefEqProofs [hb,yI hlt,h6']
    intro hlen
    refine yg (yF t.yao.length 1 6) (by simp) rfl ?_
    simp -dsimp -implicitDefEqProofs
    have h7 : inRange t.yao.length 1 6 = false:=ycK.2 (by omega)
    simp only [yR,h7,Bool.and_false]
  ·simp -dsimp -implicitDefEqProofs [yau hge]
   intro hlen
   refine yg (yF t.yao.length 1 6) (by simp) rfl ?_
   simp -dsimp -implicitDefEqProofs
   by_cases h6 : t.yao.length ≤ 6
   ·rw [fin h6 (by omega)]
   ·have h7 : inRange t.yao.length 1 6 = false:=ycK.2 (by omega)
    simp only [yR,h7,Bool.and_false]
theorem yy6 {t : Train} {k : Nat} {r : List Boat} (h : t.Rows[k]? = some r) : ∃ m,t.yao = heads t.Rows k ++ r ++ m:=by
 refine ⟨(t.Rows.drop (k + 1)).flatten,?_⟩
 unfold Train.yao
 conv=>lhs; rw [← List.take_append_drop (k + 1) t.Rows]
 rw [List.flatten_append,← ykW h]; rfl
theorem yEP {t : Train} {k : Nat} {r : List Boat} (h : t.Rows[k]? = some r) (h0 : r.length = 0) : yR t = false:=by
 have : t.Rows.all full = false:=all_false (p:=full) h (by simp [full,h0])
 simp only [yR,this,Bool.false_and]
theorem yGr {t : Train} (h : 6 < t.yao.length) : yR t = false:=by
 have h7 : inRange t.yao.length 1 6 = false:=ycK.2 (by omega)
 simp only [yR,h7,Bool.and_false]
theorem yE7 {t : Train} {b : Boat} (hb : b ∈ t.yao) (h : ybj b = false) : yR t = false:=by
 obtain ⟨i,hi⟩:=List.getElem?_of_mem hb
 have : t.yao.all ybj = false:=all_false (p:=ybj) hi h
 simp only [yR,this,Bool.false_and,Bool.and_false]
theorem yIh {t : Train} (h : ¬ (t.yao.map ygW).Nodup) : yR t = false:=by simp [yR,h]
def yg9 (l : List Boat) : List (List C):=(l.map ygW).map yJ ++ List.replicate (6 - l.length) [.i 0]
theorem yD5 {l : List Boat} (h : l.length ≤ 6) : (yg9 l).length = 6:=by simp [yg9]; omega
theorem yBS {l : List Boat} {n : Nat} (h : n = l.length) : (yg9 l).take n = (l.map ygW).map yJ:=by
 subst h; unfold yg9; rw [List.take_append_of_le_length (by simp),List.take_of_length_le (by simp)]
theorem yDL {l : List Boat} {b : Boat} (h : l.length < 6) : (yg9 l).set l.length [.i b.Id] = yg9 (l ++ [b]):=by
 unfold yg9
 rw [List.set_append_right _ _ (by simp)]
 have h1 : ((l.map ygW).map yJ).length = l.length:=by simp
 rw [h1,Nat.sub_self,show 6 - l.length = (6 - (l.length + 1)) + 1 by omega,List.replicate_succ,List.set_cons_zero]
 simp [ygW]
theorem yCA {l : List Boat} (h : l.length < 6) : (yg9 l)[l.length]?.getD [] = [.i 0]:=by
 unfold yg9
 rw [List.getElem?_append_right (by simp)]
 have h1 : ((l.map ygW).map yJ).length = l.length:=by simp
 rw [h1,Nat.sub_self,List.getElem?_replicate,if_pos (by omega)]; rfl
theorem yDr : yg9 [] = List.replicate 6 [.i 0]:=rfl
structure Met (l : List Boat) : Prop where
 ok : ∀ b ∈ l,ybj b = true
 nd : (l.map ygW).Nodup
 len : l.length ≤ 6
theorem Met.snoc {l : List Boat} {b : Boat} (h : Met l) (h1 : ybj b = true) (h2 : b.Id ∉ l.map ygW) (h3 : l.length < 6) : Met (l ++ [b]):=by
 refine ⟨?_,?_,by simp; omega⟩
 ·intro x hx
  rcases List.mem_append.1 hx with hx | hx
  ·exact h.ok x hx
  ·rw [List.mem_singleton.1 hx]; exact h1
 ·have:=@yo3 (l ++ [b]) l.length b (by simp)
  rw [show l.length + 1 = (l ++ [b]).length by simp,List.take_length] at this
  rw [this,List.take_left']
  ·exact ⟨h.nd,h2⟩
  ·rfl
def ygj (t : Train) (k : Nat) (r : List Boat) (j : Nat) : List Boat:=heads t.Rows k ++ r.take j
theorem ysH {t : Train} {k : Nat} {r : List Boat} : ygj t k r 0 = heads t.Rows k:=by simp [ygj]
theorem yAu {t : Train} {k : Nat} {r : List Boat} {j : Nat} {b : Boat} (h : r[j]? = some b) : ygj t k r (j + 1) = ygj t k r j ++ [b]:=by
 unfold ygj; rw [List.take_succ,h]; simp
theorem yvM {t : Train} {k : Nat} {r : List Boat} {j : Nat} (hr : t.Rows[k]? = some r) (h : r.length ≤ j) : ygj t k r j = heads t.Rows (k + 1):=by
 unfold ygj; rw [List.take_of_length_le h,ykW hr]
theorem yB8 {t : Train} {k : Nat} {r : List Boat} {j : Nat} (h : j ≤ r.length) : (ygj t k r j).length = (heads t.Rows k).length + j:=by
 unfold ygj; simp; omega
theorem ydE (t : Train) (h : t.small) : yE Tryz.prog ybu [.agg (t.enc.map .c)] (.c (.b (yR t))):=by
 refine yu ysx (by simp) fun hwf=>?_
 simp -dsimp -implicitDefEqProofs [ynq]
 intro hlen
 refine ⟨fun h0 _=>⟨fun h1=>?_,fun h1 _=>?_⟩,fun h0=>?_⟩
 ·by_cases h2 : yR t = false
  ·exact h2
  ·exfalso
   have h3 : yR t = true:=by simpa using h2
   simp only [yR,Bool.and_eq_true,List.all_eq_true] at h3
   obtain ⟨⟨⟨h4,_⟩,_⟩,h5⟩:=h3
   have h6:=yU.1 h5
   have : ∀ l : List (List Boat),(∀ r ∈ l,full r = true) → l.length ≤ l.flatten.length:=by
    intro l
    induction l with
    | nil=>simp
    | cons r l ih =>
     intro hl
     have e1:=ih fun x hx=>hl x (by simp [hx])
     have e2:=yxG.1 (hl r (by simp))
     simp only [List.length_cons,List.flatten_cons,List.length_append]; omega
   have:=this t.Rows h4
   unfold Train.yao at h6
   omega
 ·refine yh (ι:=Nat) (fun k=>k ≤ t.Rows.length ∧ (∀ r ∈ t.Rows.take k,full r = true) ∧ Met (heads t.Rows k)) (fun k=>yT [(3,.row 3 1 0 0),(4,.c (.i (heads t.Rows k).length)),(20,.c (.sl 1 (t.Rows.map yah))),(21,.c (.i t.Rows.length)),(22,.c (.i k))] [(3,.row 1 (yg9 (heads t.Rows k)))]) (fun k=>t.Rows.length - k) 0 ⟨by simp,by simp,by simp [yf3],by simp [yf3],by simp [yf3]⟩ (by apply yj <;> simp [AV.yc,AV.yB,Obj.yc,yf3,yDr]) ?_
  rintro k ⟨hk,hall,hm⟩
  rcases Nat.lt_or_ge k t.Rows.length with hlt | hge
  ·obtain ⟨r,hr⟩ : ∃ r,t.Rows[k]? = some r:=⟨_,List.getElem?_eq_getElem hlt⟩
   have hml:=hm.len
   have hrs:=(h.2 r (List.mem_of_getElem? hr)).1
   obtain ⟨rest,hsp⟩:=yy6 hr
   simp -dsimp -implicitDefEqProofs [hr,yI hlt]
   intro hrl
   refine ⟨fun hr0 _=>⟨by unfold inI; omega,fun h6=>?_,fun h6 _=>?_⟩,fun hr0=>?_⟩
   ·refine yGr ?_
    rw [hsp]; simp only [List.length_append]; omega
   ·refine yh (ι:=Nat) (fun j=>j ≤ r.length ∧ Met (ygj t k r j)) (fun j=>yT [(3,.row 3 1 0 0),(4,.c (.i (ygj t k r j).length)),(20,.c (.sl 1 (t.Rows.map yah))),(21,.c (.i t.Rows.length)),(22,.c (.i k)),(36,.c (.sl 6 (r.map Boat.enc))),(37,.c (.i r.length)),(38,.c (.i j))] [(3,.row 1 (yg9 (ygj t k r j)))]) (fun j=>r.length - j) 0 ⟨by simp,by rw [ysH]; exact hm⟩ (by apply yj <;> simp [AV.yc,AV.yB,Obj.yc,ysH]) ?_
    rintro j ⟨hj,hmj⟩
    rcases Nat.lt_or_ge j r.length with hlt2 | hge2
    ·obtain ⟨b,hb⟩ : ∃ b,r[j]? = some b:=⟨_,List.getElem?_eq_getElem hlt2⟩
     have hsl:=yB8 (t:=t) (k:=k) hj
     have hlt6 : (ygj t k r j).length < 6:=by omega
     have hmem : b ∈ t.yao:=by
      rw [hsp]; simp only [List.mem_append]; exact .inl (.inr (List.mem_of_getElem? hb))
     simp -dsimp -implicitDefEqProofs [hb,yI hlt2]
     refine ⟨_,_,yyB b,by simp,.inr rfl,?_⟩
     simp -dsimp -implicitDefEqProofs
     refine ⟨fun h2=>?_,fun h2=>yE7 hmem h2⟩
     have hsn:=yD5 hmj.len
     refine ⟨by omega,hsn,?_⟩
     refine ⟨_,_,yuu ((ygj t k r j).map ygW) b.Id,by simp [yBS],.inr rfl,?_⟩
     simp -dsimp -implicitDefEqProofs [yI hlt2,yCA hlt6,yDL hlt6]
     refine ⟨fun x hx he=>yIh fun hn=>?_,fun h3=>?_⟩
     ·have hsp2 : t.yao = ygj t k r j ++ (b :: (r.drop (j + 1) ++ rest)):=by
       rw [hsp]; unfold ygj
       have : r = r.take j ++ b :: r.drop (j + 1):=by
        conv=>lhs; rw [← List.take_append_drop j r]
        rw [List.drop_eq_getElem_cons hlt2,(List.getElem?_eq_some_iff.1 hb).2]
       conv=>lhs; rw [this]
       simp
      rw [hsp2,List.map_append,List.map_cons] at hn
      exact (List.nodup_append.1 hn).2.2 _ (List.mem_map_of_mem hx) _ (List.mem_cons_self) he
     ·have hni : b.Id ∉ (ygj t k r j).map ygW:=by
       intro hm'
       obtain ⟨x,hx,he⟩:=List.mem_map.1 hm'
       exact h3 x hx he
      have hs1:=yAu (t:=t) (k:=k) hb
      refine ⟨by omega,by omega,by unfold inI; omega,by unfold inI; omega,j + 1,⟨hlt2,by rw [hs1]; exact hmj.snoc h2 hni hlt6⟩,by omega,?_⟩
      apply yj <;> simp [AV.yc,AV.yB,Obj.yc,hs1]
    ·simp -dsimp -implicitDefEqProofs [yau hge2]
     rw [yvM hr hge2] at hmj
     refine ⟨by unfold inI; omega,k + 1,⟨hlt,yO (p:=full) hr hall (by simp [full,hr0]),hmj⟩,by omega,?_⟩
     apply yj <;> simp [AV.yc,AV.yB,Obj.yc,yvM hr hge2]
   ·exact yEP hr (by simp [hr0])
  ·simp -dsimp -implicitDefEqProofs [yau hge]
   rw [ynY hge] at hm
   have hr1:=yaa (p:=full) hge hall
   have hb1 : t.yao.all ybj = true:=List.all_eq_true.2 hm.ok
   have hl1 : 0 < t.yao.length:=by
    obtain ⟨r,l,e⟩:=List.exists_cons_of_ne_nil h0
    have:=yxG.1 (List.all_eq_true.1 hr1 r (by rw [e]; simp))
    unfold Train.yao
    rw [e]; simp only [List.flatten_cons,List.length_append]; omega
   have hl2 : t.yao.length ≤ 6:=hm.len
   have h7 : inRange t.yao.length 1 6 = true:=yU.2 (by omega)
   have hn1 : (t.yao.map ygW).Nodup:=hm.nd
   simp [yR,hr1,hb1,hn1,h7]
 ·have : t.yao = []:=by simp [Train.yao,h0]
  have h7 : inRange t.yao.length 1 6 = false:=by rw [this]; rfl
  simp only [yR,h7,Bool.and_false]
def yba (m : Mover) (w : Way) : Bool:=ymA w && yR m.Train && inRange m.Place 0 w.Long
theorem ywZ (m : Mover) (w : Way) (h : m.small) : yE Tryz.prog yiF [.agg (m.enc.map .c),.agg (w.enc.map .c)] (.c (.b (yba m w))):=by
 refine yu ysB (by simp) fun hwf=>?_
 simp -dsimp -implicitDefEqProofs [ymR]
 refine yg (yt1 w) (by simp) rfl ?_
 simp -dsimp -implicitDefEqProofs
 refine ⟨fun h1=>?_,fun h1=>by simp [yba,h1]⟩
 refine yg (ydE m.Train h) (by simp) rfl ?_
 simp -dsimp -implicitDefEqProofs
 refine ⟨fun h2=>?_,fun h2=>by simp [yba,h2]⟩
 refine yg (yH m.Place 0 w.Long) (by simp) rfl ?_
 simp -dsimp -implicitDefEqProofs
 simp [yba,h1,h2]
theorem yqv (m : Mover) (w : Way) (h : m.small) : yE Tryz.prog yh0 [.agg (m.enc.map .c),.agg (w.enc.map .c)] (.c (.b (yba m w))):=by
 refine yu ytf (by simp) fun hwf=>?_
 simp -dsimp -implicitDefEqProofs [ymV]
 refine yg (yt8 w) (by simp) rfl ?_
 simp -dsimp -implicitDefEqProofs
 refine ⟨fun h1=>?_,fun h1=>by simp [yba,h1]⟩
 refine yg (ydF m.Train h) (by simp) rfl ?_
 simp -dsimp -implicitDefEqProofs
 refine ⟨fun h2=>?_,fun h2=>by simp [yba,h2]⟩
 refine yg (yF m.Place 0 w.Long) (by simp) rfl ?_
 simp -dsimp -implicitDefEqProofs
 simp [yba,h1,h2]
structure TrainFacts (t : Train) : Prop where
 rows : ∀ r ∈ t.Rows,full r = true
 ok : ∀ b ∈ t.yao,ybj b = true
 nd : (t.yao.map ygW).Nodup
 pos : 1 ≤ t.yao.length
 len : t.yao.length ≤ 6
theorem ylB {t : Train} (h : yR t = true) : TrainFacts t:=by
 simp only [yR,Bool.and_eq_true,List.all_eq_true,decide_eq_true_eq] at h
 obtain ⟨⟨⟨h1,h2⟩,h3⟩,h4⟩:=h
 have h5:=yU.1 h4
 exact ⟨h1,h2,h3,by omega,by omega⟩
theorem yCi (t : Train) (h : t.small) : yE Tryz.prog yip [.agg (t.enc.map .c)] (.c (.sl 6 (t.yao.map Boat.enc))):=by
 refine yu yss (by simp) fun hwf=>?_
 simp -dsimp -implicitDefEqProofs [ync]
 intro hlen
 refine yqL (k0:=6) 3 6 (by simp) (by simp) (by decide) ?_
 refine yh (ι:=Nat) (fun k=>k ≤ t.Rows.length) (fun k=>yT [(3,.own 3 6 (heads t.Rows k).length),(7,.c (.sl 1 (t.Rows.map yah))),(8,.c (.i t.Rows.length)),(9,.c (.i k))] [(3,.row 6 ((heads t.Rows k).map Boat.enc))]) (fun k=>t.Rows.length - k) 0 (by simp) (by apply yj <;> simp [AV.yc,AV.yB,Obj.yc,yf3]) ?_
 rintro k hk
 rcases Nat.lt_or_ge k t.Rows.length with hlt | hge
 ·obtain ⟨r,hr⟩ : ∃ r,t.Rows[k]? = some r:=⟨_,List.getElem?_eq_getElem hlt⟩
  have hb:=ymT h (k + 1)
  have hf:=ykW hr
  rw [hf,List.length_append] at hb
  simp -dsimp -implicitDefEqProofs [hr,yI hlt]
  refine ⟨by omega,yA hlt hlen,k + 1,hlt,by omega,?_⟩
  apply yj <;> simp [AV.yc,AV.yB,Obj.yc,hf]
 ·simp -dsimp -implicitDefEqProofs [yau hge]
  rw [ynY hge]
  rw [List.take_of_length_le (by rw [List.length_map]; exact Nat.le_refl _)]; rfl
def ylx (xs : List Int) (l : Int) : Int:=szS xs.length l
def yo4 : List Int → Prop:=ycP fun _=>True
theorem yfE : yeV ylx yo4:=ykM
theorem ynP (xs : List Int) (l : Int) (h0 : 0 ≤ l) (h1 : l ≤ 1048576) : yE Tryz.prog ycq [.c (.sl 1 (xs.map yJ)),.c (.i l)] (.c (.i (ylx xs l))):=yEi xs l h0 h1
structure Point where
 X : Int
 Y : Int
 deriving DecidableEq,Inhabited
@[simp] def Point.enc (e : Point) : List C:=[.i e.X,.i e.Y]
-- Point
theorem yv5 (e : Point) : yE Tryz.prog yhV [.agg (e.enc.map .c)] (.agg (e.enc.map .c)):=by
 refine yu yub (by simp) fun hwf=>?_
 simp -dsimp -implicitDefEqProofs [ymU]
theorem yBW (a b : Point) : yE Tryz.prog yh7 [.agg (a.enc.map .c),.agg (b.enc.map .c)] (.c (.b (decide (a = b)))):=by
 refine yu yts (by simp) fun hwf=>?_
 obtain ⟨a0,a1⟩:=a
 obtain ⟨b0,b1⟩:=b
 simp -dsimp -implicitDefEqProofs [ynA,Point.mk.injEq]
 refine ⟨fun h=>by simp_all,fun h0=>?_⟩
 refine ⟨fun h=>by simp_all,fun h1=>?_⟩
 simp_all
-- []Point
def ykp (xs : List Point) (l : Int) : Int:=szS xs.length l
def yhs : List Point → Prop:=ycP fun _=>True
theorem yp1 : yeV ykp yhs:=ykM
theorem yyF (xs : List Point) (l : Int) (h0 : 0 ≤ l) (h1 : l ≤ 1048576) : yE Tryz.prog ygH [.c (.sl 2 (xs.map Point.enc)),.c (.i l)] (.c (.i (ykp xs l))):=by
 refine yu yr6 (by simp) fun hwf=>?_
 simp -dsimp -implicitDefEqProofs [yma,ykp,szS]
 intro hl
 unfold maxLen at hl
 refine ⟨by unfold inI; omega,fun h=>?_,fun h=>?_⟩ <;> intros <;> omega
theorem yzY (xs : List Point) (hl : yhs xs) : yE Tryz.prog yd0 [.c (.sl 2 (xs.map Point.enc))] (.c (.sl 2 (xs.map Point.enc))):=by
 refine yu ylC (by simp) fun hwf=>?_
 simp -dsimp -implicitDefEqProofs [yg7]
 intro hlen
 have hl1:=hl.1
 refine ⟨by omega,?_⟩
 refine yh (ι:=Nat) (fun k=>k ≤ xs.length) (fun k=>yT [(0,.c (.sl 2 (xs.map Point.enc))),(3,.own 7 2 xs.length),(4,.c (.i k))] [(7,.row 2 (partly Point.enc [.i 0,.i 0] xs k))]) (fun k=>xs.length - k) 0 (by simp) (by apply yj <;> simp [AV.yc,AV.yB,Obj.yc,yac]) ?_
 rintro k hk
 rcases Nat.lt_or_ge k xs.length with hlt | hge
 ·obtain ⟨e,he⟩ : ∃ e,xs[k]? = some e:=⟨_,List.getElem?_eq_getElem hlt⟩
  have hs:=yai (f:=Point.enc) (z:=[.i 0,.i 0]) he
  have hd:=yar (f:=Point.enc) (z:=[.i 0,.i 0]) (n:=2) rfl hlt
  simp only [Point.enc] at hs
  simp -dsimp -implicitDefEqProofs [he,yI hlt]
  refine fun _=>yL (yv5 e ) (by simp) rfl ?_
  simp -dsimp -implicitDefEqProofs [yI hlt,yaj hk,hd,hs]
  exact ⟨hlt,yA hlt hlen,k + 1,hlt,by omega,by apply yj <;> simp [AV.yc,AV.yB,Obj.yc]⟩
 ·simp -dsimp -implicitDefEqProofs [yau hge]
  intro _
  rw [yak hge,List.take_of_length_le (by simp)]
theorem yz1 (es fs : List Point) : yE Tryz.prog yg6 [.c (.sl 2 (es.map Point.enc)),.c (.sl 2 (fs.map Point.enc))] (.c (.b (decide (es = fs)))):=by
 refine yu yrY (by simp) fun hwf=>?_
 simp -dsimp -implicitDefEqProofs [ylD]
 intro hl1 hl2
 refine ⟨fun h e=>h (by rw [e]),fun hlen=>?_⟩
 have hlen' : es.length = fs.length:=by omega
 refine yh (ι:=Nat) (fun k=>k ≤ es.length ∧ es.take k = fs.take k) (fun k=>yT [(0,.c (.sl 2 (es.map Point.enc))),(1,.c (.sl 2 (fs.map Point.enc))),(5,.c (.i k))] []) (fun k=>es.length - k) 0 (by simp) (by apply yj <;> simp [AV.yc,AV.yB,Obj.yc]) ?_
 rintro k ⟨hk,htk⟩
 rcases Nat.lt_or_ge k es.length with hlt | hge
 ·obtain ⟨e,he⟩ : ∃ e,es[k]? = some e:=⟨_,List.getElem?_eq_getElem hlt⟩
  obtain ⟨f,hf⟩ : ∃ f,fs[k]? = some f:=⟨_,List.getElem?_eq_getElem (by omega)⟩
  simp -dsimp -implicitDefEqProofs [he,hf,yI hlt,yI (hlen' ▸ hlt)]
  intro _
  refine ⟨_,_,yBW e f,by simp,.inr rfl,?_⟩
  simp -dsimp -implicitDefEqProofs
  refine ⟨fun h=>yby he hf h,fun h=>⟨yA hlt hl1,k + 1,⟨hlt,yaL he hf htk h⟩,by omega,by apply yj <;> simp [AV.yc,AV.yB,Obj.yc]⟩⟩
 ·simp -dsimp -implicitDefEqProofs [yau hge]
  intro _
  exact ya9 hge hlen' htk
structure Reach where
 Table : List Point
 Volume : Int
 Pipe : List Int
 deriving DecidableEq,Inhabited
@[simp] def Reach.enc (e : Reach) : List C:=[.sl 2 (e.Table.map Point.enc),.i e.Volume,.sl 1 (e.Pipe.map yJ)]
-- Reach
def ycD (e : Reach) (l : Int) : Int:=ybh (ykp e.Table l) fun l=>ybh (ylx e.Pipe l) fun l=>l
def Reach.small (e : Reach) : Prop:=yhs e.Table ∧ yo4 e.Pipe
theorem yrt : yeV ycD Reach.small:=by
 intro e l h0 h1
 unfold ycD
 rcases yp1 e.Table _ h0 h1 with e0 | ⟨a0,b0,s0⟩
 ·exact .inl (yN (by omega))
 rw [yw a0]
 rcases yfE e.Pipe _ a0 (by omega) with e1 | ⟨a1,b1,s1⟩
 ·exact .inl (yN (by omega))
 rw [yw a1]
 exact .inr ⟨a1,by omega,s0,s1⟩
theorem yAk (e : Reach) (l : Int) (h0 : 0 ≤ l) (h1 : l ≤ 1048576) : yE Tryz.prog yih [.agg (e.enc.map .c),.c (.i l)] (.c (.i (ycD e l))):=by
 refine yu ytW (by simp) fun hwf=>?_
 simp -dsimp -implicitDefEqProofs [ynn]
 refine yg (yyF e.Table _ h0 h1) (by simp) rfl ?_
 simp -dsimp -implicitDefEqProofs
 refine ⟨fun h=>by simp [ycD,yN h],fun p0=>?_⟩
 have q0:=ylI yp1 e.Table h0 h1 p0
 refine yg (ynP e.Pipe _ p0 q0) (by simp) rfl ?_
 simp -dsimp -implicitDefEqProofs
 refine ⟨fun h=>by simp [ycD,yw p0,yN h],fun p1=>?_⟩
 simp [ycD,yw p0,yw p1]
theorem yBs (e : Reach) (hl : Reach.small e) : yE Tryz.prog ye7 [.agg (e.enc.map .c)] (.agg (e.enc.map .c)):=by
 refine yu ymI (by simp) fun hwf=>?_
 simp -dsimp -implicitDefEqProofs [yh6]
 refine yL (yzY e.Table (hl.1)) (by simp) rfl ?_
 simp -dsimp -implicitDefEqProofs
 refine yL (ypU e.Pipe (hl.2.1)) (by simp) rfl ?_
 simp -dsimp -implicitDefEqProofs
theorem yB3 (a b : Reach) : yE Tryz.prog yiv [.agg (a.enc.map .c),.agg (b.enc.map .c)] (.c (.b (decide (a = b)))):=by
 refine yu ytC (by simp) fun hwf=>?_
 obtain ⟨a0,a1,a2⟩:=a
 obtain ⟨b0,b1,b2⟩:=b
 simp -dsimp -implicitDefEqProofs [ymp,Reach.mk.injEq]
 refine yg (yz1 a0 b0) (by simp) rfl ?_
 simp -dsimp -implicitDefEqProofs
 refine ⟨fun h=>by simp_all,fun h0=>?_⟩
 refine ⟨fun h=>by simp_all,fun h1=>?_⟩
 refine yg (yqb a2 b2) (by simp) rfl ?_
 simp -dsimp -implicitDefEqProofs
 refine ⟨fun h=>by simp_all,fun h2=>?_⟩
 simp_all
def yjv (p : Point) : Bool:=inRange p.X 0 1000000000 && inRange p.Y 0 1000000000
def follows (a b : Point) : Bool:=decide (a.X < b.X) && decide (a.Y ≤ b.Y)
def ynB (l : List Point) (k : Nat) : Bool :=
 match l[k]? with
 | some p=>yjv p && (match k with
  | 0=>true
  | j + 1=>match l[j]? with
   | some q=>follows q p
   | none=>false)
 | none=>true
def upTo (l : List Point) : Nat → Bool
 | 0=>true
 | k + 1=>upTo l k && ynB l k
def ydC (l : List Point) : Bool:=upTo l l.length && inRange l.length 2 20
theorem ynU {l : List Point} {p : Point} (h : l[0]? = some p) : ynB l 0 = yjv p:=by simp [ynB,h]
theorem yhH {l : List Point} {k : Nat} {p q : Point} (h : l[k + 1]? = some p) (hq : l[k]? = some q) : ynB l (k + 1) = (yjv p && follows q p):=by simp [ynB,h,hq]
theorem yux {l : List Point} : ∀ {k n : Nat},k < n → ynB l k = false → upTo l n = false
 | k,0,h,_=>by omega
 | k,n + 1,h,hs=>by
  simp only [upTo]
  rcases Nat.lt_or_ge k n with h1 | h1
  ·rw [yux h1 hs]; rfl
  ·have : k = n:=by omega
   subst this
   rw [hs,Bool.and_false]
theorem ynJ {l : List Point} {k : Nat} (h : upTo l k = true) (hs : ynB l k = true) : upTo l (k + 1) = true:=by simp [upTo,h,hs]
theorem ysg {l : List Point} {k : Nat} (h : k < l.length) (hs : ynB l k = false) : ydC l = false:=by simp [ydC,yux h hs]
theorem yEg {l : List Point} (h : inRange l.length 2 20 = false) : ydC l = false:=by simp [ydC,h]
theorem yw6 (l : List Point) : yE Tryz.prog yhR [.c (.sl 2 (l.map Point.enc))] (.c (.b (ydC l))):=by
 refine yu ysM (by simp) fun hwf=>?_
 simp -dsimp -implicitDefEqProofs [ynv]
 intro hlen
 refine ⟨fun h0 _=>⟨fun h1=>?_,fun h1 _=>?_⟩,fun h0=>?_⟩
 ·exact yEg (ycK.2 (by omega))
 ·refine yh (ι:=Nat) (fun k=>k ≤ l.length ∧ upTo l k = true) (fun k=>yT [(0,.c (.sl 2 (l.map Point.enc))),(13,.c (.sl 2 (l.map Point.enc))),(14,.c (.i l.length)),(15,.c (.i k))] []) (fun k=>l.length - k) 0 ⟨by simp,rfl⟩ (by apply yj <;> simp [AV.yc,AV.yB,Obj.yc]) ?_
  rintro k ⟨hk,hup⟩
  rcases Nat.lt_or_ge k l.length with hlt | hge
  ·obtain ⟨p,hp⟩ : ∃ p,l[k]? = some p:=⟨_,List.getElem?_eq_getElem hlt⟩
   have hbad : yjv p = false → ydC l = false:=fun e=>ysg hlt (by
    cases k with
    | zero=>rw [ynU hp,e]
    | succ j=>rw [yhH hp (List.getElem?_eq_getElem (by omega)),e,Bool.false_and])
   cases k with
   | zero =>
    have f1:=(List.getElem?_eq_some_iff.1 hp).2
    simp -dsimp -implicitDefEqProofs [hp,hlt,f1]
    refine yg (yH p.X 0 1000000000) (by simp) rfl ?_
    simp -dsimp -implicitDefEqProofs
    refine ⟨fun h2=>?_,fun h2=>hbad (by simp [yjv,h2])⟩
    refine yg (yH p.Y 0 1000000000) (by simp) rfl ?_
    simp -dsimp -implicitDefEqProofs
    refine ⟨fun h3=>hbad (by simp [yjv,h3]),fun h3=>?_⟩
    have hpt : yjv p = true:=by simp [yjv,h2,h3]
    exact ⟨by unfold inI; omega,1,⟨hlt,ynJ hup (by rw [ynU hp,hpt])⟩,by omega,by apply yj <;> simp [AV.yc,AV.yB,Obj.yc]⟩
   | succ j =>
    obtain ⟨q,hq⟩ : ∃ q,l[j]? = some q:=⟨_,List.getElem?_eq_getElem (by omega)⟩
    have hj : (j : Int) + 1 < l.length:=by omega
    have hj2 : (j : Int) < l.length:=by omega
    have hj3 : (0 : Int) < j + 1:=by omega
    have hj4 : (0 : Int) ≤ j + 1:=by omega
    have hj5 : ((j : Int) + 1).toNat = j + 1:=by omega
    simp -dsimp -implicitDefEqProofs [hp,hq,hj,hj2,hj3,hj4,hj5]
    refine yg (yH p.X 0 1000000000) (by simp) rfl ?_
    simp -dsimp -implicitDefEqProofs
    refine ⟨fun h2=>?_,fun h2=>hbad (by simp [yjv,h2])⟩
    refine yg (yH p.Y 0 1000000000) (by simp) rfl ?_
    simp -dsimp -implicitDefEqProofs [hp,hq,hj,hj2,hj3,hj4,hj5]
    refine ⟨fun h3=>hbad (by simp [yjv,h3]),fun h3=>?_⟩
    have hpt : yjv p = true:=by simp [yjv,h2,h3]
    have hbad2 : follows q p = false → ydC l = false:=fun e=>ysg hlt (by rw [yhH hp hq,e,Bool.and_false])
    refine ⟨by unfold inI; omega,fun h4=>⟨by unfold inI; omega,fun h5=>?_,fun h5=>?_⟩,fun h4=>?_⟩
    ·exact hbad2 (by simp [follows]; omega)
    ·have hf : follows q p = true:=by simp [follows,h4,h5]
     exact ⟨by unfold inI; omega,j + 2,⟨hlt,ynJ hup (by rw [yhH hp hq,hpt,hf]; rfl)⟩,by omega,by apply yj <;> simp [AV.yc,AV.yB,Obj.yc]; omega⟩
    ·exact hbad2 (by simp [follows]; omega)
  ·simp -dsimp -implicitDefEqProofs [yau hge]
   have e : k = l.length:=by omega
   subst e
   have h7 : inRange l.length 2 20 = true:=yU.2 (by omega)
   simp [ydC,hup,h7]
 ·exact yEg (ycK.2 (by omega))
theorem ywT (l : List Point) : yE Tryz.prog yiE [.c (.sl 2 (l.map Point.enc))] (.c (.b (ydC l))):=by
 refine yu ysU (by simp) fun hwf=>?_
 simp -dsimp -implicitDefEqProofs [ymM]
 refine yh (ι:=Nat) (fun k=>k ≤ l.length ∧ upTo l k = true) (fun k=>yT [(0,.c (.sl 2 (l.map Point.enc))),(3,.c (.i k))] []) (fun k=>l.length - k) 0 ⟨by simp,rfl⟩ (by apply yj <;> simp [AV.yc,AV.yB,Obj.yc]) ?_
 rintro k ⟨hk,hup⟩
 rcases Nat.lt_or_ge k l.length with hlt | hge
 ·obtain ⟨p,hp⟩ : ∃ p,l[k]? = some p:=⟨_,List.getElem?_eq_getElem hlt⟩
  have hbad : yjv p = false → ydC l = false:=fun e=>ysg hlt (by
   cases k with
   | zero=>rw [ynU hp,e]
   | succ j=>rw [yhH hp (List.getElem?_eq_getElem (by omega)),e,Bool.false_and])
  cases k with
  | zero =>
   have f1:=(List.getElem?_eq_some_iff.1 hp).2
   simp -dsimp -implicitDefEqProofs [hp,hlt,f1]
   intro hlen
   refine ⟨_,_,yF p.X 0 1000000000,by simp,.inr rfl,?_⟩
   simp -dsimp -implicitDefEqProofs [hp,hlt,f1]
   refine ⟨fun h2=>?_,fun h2=>hbad (by simp [yjv,h2])⟩
   refine ⟨_,_,yF p.Y 0 1000000000,by simp,.inr rfl,?_⟩
   simp -dsimp -implicitDefEqProofs [hp,hlt,f1]
   refine ⟨fun h3=>?_,fun h3=>hbad (by simp [yjv,h3])⟩
   have hpt : yjv p = true:=by simp [yjv,h2,h3]
   exact ⟨by unfold inI; omega,1,⟨hlt,ynJ hup (by rw [ynU hp,hpt])⟩,by omega,by apply yj <;> simp [AV.yc,AV.yB,Obj.yc]⟩
  | succ j =>
   obtain ⟨q,hq⟩ : ∃ q,l[j]? = some q:=⟨_,List.getElem?_eq_getElem (by omega)⟩
   have hj : (j : Int) + 1 < l.length:=by omega
   have hj2 : (j : Int) < l.length:=by omega
   have hj3 : (0 : Int) < j + 1:=by omega
   have hj4 : (0 : Int) ≤ j + 1:=by omega
   have hj5 : ((j : Int) + 1).toNat = j + 1:=by omega
   simp -dsimp -implicitDefEqProofs [hp,hq,hj,hj2,hj3,hj4,hj5]
   intro hlen
   refine ⟨_,_,yF p.X 0 1000000000,by simp,.inr rfl,?_⟩
   simp -dsimp -implicitDefEqProofs [hp,hq,hj,hj2,hj3,hj4,hj5]
   refine ⟨fun h2=>?_,fun h2=>hbad (by simp [yjv,h2])⟩
   refine ⟨_,_,yF p.Y 0 1000000000,by simp,.inr rfl,?_⟩
   simp -dsimp -implicitDefEqProofs [hp,hq,hj,hj2,hj3,hj4,hj5]
   refine ⟨fun h3=>?_,fun h3=>hbad (by simp [yjv,h3])⟩
   have hpt : yjv p = true:=by simp [yjv,h2,h3]
   unfold maxLen at hlen
   have hbad2 : follows q p = false → ydC l = false:=fun e=>ysg hlt (by rw [yhH hp hq,e,Bool.and_false])
   refine ⟨by unfold inI; omega,fun h4=>⟨by unfold inI; omega,fun h5=>?_,fun h5=>?_⟩,fun h4=>?_⟩
   ·exact hbad2 (by simp [follows]; omega)
   ·have hf : follows q p = true:=by simp [follows,h4,h5]
    exact ⟨by unfold inI; omega,j + 2,⟨hlt,ynJ hup (by rw [yhH hp hq,hpt,hf]; rfl)⟩,by omega,by apply yj <;> simp [AV.yc,AV.yB,Obj.yc]; omega⟩
   ·exact hbad2 (by simp [follows]; omega)
 ·simp -dsimp -implicitDefEqProofs [yau hge]
  intro hlen
  refine yg (yF l.length 2 20) (by simp) rfl ?_
  simp -dsimp -implicitDefEqProofs
  have e : k = l.length:=by omega
  subst e
  simp [ydC,hup]
def amount (n : Int) : Bool:=inRange n 0 1000000000
def ydp (r : Reach) : Int:=r.Volume + r.Pipe.sum
def yap (r : Reach) : Bool:=ydC r.Table && amount r.Volume && decide (r.Pipe.length ≤ 12) && r.Pipe.all amount && decide (ydp r ≤ 1000000000)
theorem ype : ∀ {l : List Int},(∀ x ∈ l,amount x = true) → 0 ≤ l.sum
 | [],_=>by simp
 | x :: l,h=>by
  have h1:=ype (l:=l) fun y hy=>h y (by simp [hy])
  have h2:=yU.1 (show inRange x 0 1000000000 = true from h x (by simp))
  simp only [List.sum_cons]; omega
theorem yCe {l : List Int} (k : Nat) : l.sum = sumTo l k + (l.drop k).sum:=by
 unfold sumTo
 conv=>lhs; rw [← List.take_append_drop k l]
 rw [List.sum_append]
theorem yIy {r : Reach} {k : Nat} {x : Int} (hx : r.Pipe[k]? = some x) (h : 1000000000 < r.Volume + sumTo r.Pipe k + x) : yap r = false:=by
 cases hr : yap r with
 | false=>rfl
 | true =>
  exfalso
  simp only [yap,Bool.and_eq_true,List.all_eq_true,decide_eq_true_eq] at hr
  obtain ⟨⟨_,h1⟩,h2⟩:=hr
  have h3:=ype (l:=r.Pipe.drop (k + 1)) fun y hy=>h1 y (List.mem_of_mem_drop hy)
  have h4:=yCe (l:=r.Pipe) (k + 1)
  rw [yk9 hx] at h4
  unfold ydp at h2
  omega
theorem yv3 {r : Reach} {k : Nat} {x : Int} (hx : r.Pipe[k]? = some x) (h : amount x = false) : yap r = false:=by
 have : r.Pipe.all amount = false:=all_false (p:=amount) hx h
 simp [yap,this]
theorem yeT (r : Reach) : yE Tryz.prog ybS [.agg (r.enc.map .c)] (.c (.b (yap r))):=by
 refine yu yum (by simp) fun hwf=>?_
 simp -dsimp -implicitDefEqProofs [ymY]
 refine yg (yw6 r.Table) (by simp) rfl ?_
 simp -dsimp -implicitDefEqProofs
 refine ⟨fun h1=>?_,fun h1=>by simp [yap,h1]⟩
 refine yg (yH r.Volume 0 1000000000) (by simp) rfl ?_
 simp -dsimp -implicitDefEqProofs
 refine ⟨fun h2 hlen=>⟨fun h3=>?_,fun h3=>⟨?_,fun _=>?_⟩⟩,fun h2=>by simp [yap,amount,h2]⟩
 ·have : ¬ r.Pipe.length ≤ 12:=by omega
  simp [yap,this]
 ·have:=yU.1 h2
  unfold inI; omega
 have h2':=yU.1 h2
 refine yh (ι:=Nat) (fun k=>k ≤ r.Pipe.length ∧ (∀ n ∈ r.Pipe.take k,amount n = true) ∧ 0 ≤ sumTo r.Pipe k ∧ r.Volume + sumTo r.Pipe k ≤ 1000000000) (fun k=>yT [(3,.c (.i (1000000000 - r.Volume - sumTo r.Pipe k))),(26,.c (.sl 1 (r.Pipe.map yJ))),(27,.c (.i r.Pipe.length)),(28,.c (.i k))] []) (fun k=>r.Pipe.length - k) 0 ⟨by simp,by simp,by simp [yiz],by simp only [yiz]; omega⟩ (by apply yj <;> simp [AV.yc,AV.yB,Obj.yc,yiz]) ?_
 rintro k ⟨hk,hall,hs0,hs⟩
 rcases Nat.lt_or_ge k r.Pipe.length with hlt | hge
 ·obtain ⟨x,hx⟩ : ∃ x,r.Pipe[k]? = some x:=⟨_,List.getElem?_eq_getElem hlt⟩
  simp -dsimp -implicitDefEqProofs [hx,yI hlt]
  refine ⟨fun h4=>⟨fun h5=>?_,fun h5=>?_⟩,fun h4=>?_⟩
  ·exact yIy hx (by omega)
  ·have ha : amount x = true:=yU.2 (by omega)
   have e1:=yk9 hx
   refine ⟨by unfold inI; omega,yA hlt hlen,k + 1,⟨hlt,yO (p:=amount) hx hall ha,by rw [e1]; omega,by rw [e1]; omega⟩,by omega,?_⟩
   apply yj <;> simp [AV.yc,AV.yB,Obj.yc,e1]; omega
  ·exact yv3 hx (ycK.2 (by omega))
 ·simp -dsimp -implicitDefEqProofs [yau hge]
  have h6:=yaa (p:=amount) hge hall
  rw [yqA hge] at hs
  simp [yap,h1,show amount r.Volume = true from h2,h6,ydp,hs]
  omega
theorem yrn {l : List Int} (h : ∀ n ∈ l,amount n = true) (hl : l.length ≤ 12) (k : Nat) : 0 ≤ sumTo l k ∧ sumTo l k ≤ 12000000000:=by
 have h1:=ynK (l:=l.take k) (b:=1000000000) fun x hx=>h x (List.mem_of_mem_take hx)
 have h2 : (l.take k).length ≤ 12:=by simp; omega
 unfold sumTo
 omega
theorem ytV (r : Reach) (hv : amount r.Volume = true) (hl : r.Pipe.length ≤ 12) (hp : ∀ n ∈ r.Pipe,amount n = true) : yE Tryz.prog ydS [.agg (r.enc.map .c)] (.c (.i (ydp r))):=by
 refine yu yvf (by simp) fun hwf=>?_
 have hv':=yU.1 (show inRange r.Volume 0 1000000000 = true from hv)
 simp -dsimp -implicitDefEqProofs [yol]
 refine yh (ι:=Nat) (fun k=>k ≤ r.Pipe.length) (fun k=>yT [(1,.box 1 0),(3,.c (.i (r.Volume + sumTo r.Pipe k))),(4,.c (.i k))] [(1,.box (r.enc.map .c))]) (fun k=>r.Pipe.length - k) 0 (by simp) (by apply yj <;> simp [AV.yc,AV.yB,Obj.yc,yiz]) ?_
 rintro k hk
 rcases Nat.lt_or_ge k r.Pipe.length with hlt | hge
 ·obtain ⟨x,hx⟩ : ∃ x,r.Pipe[k]? = some x:=⟨_,List.getElem?_eq_getElem hlt⟩
  have e1:=yk9 hx
  have b1:=yrn hp hl (k + 1)
  rw [e1] at b1
  simp -dsimp -implicitDefEqProofs [hx,yI hlt]
  intro hlen
  refine ⟨by unfold inI; omega,yA hlt hlen,k + 1,hlt,by omega,?_⟩
  apply yj <;> simp [AV.yc,AV.yB,Obj.yc,e1]; omega
 ·simp -dsimp -implicitDefEqProofs [yau hge]
  intro _
  rw [yqA hge]; rfl
theorem yhz (r : Reach) : yE Tryz.prog ycy [.agg (r.enc.map .c)] (.c (.b (yap r))):=by
 refine yu ytn (by simp) fun hwf=>?_
 simp -dsimp -implicitDefEqProofs [ymr]
 refine yg (ywT r.Table) (by simp) rfl ?_
 simp -dsimp -implicitDefEqProofs
 refine ⟨fun h1=>?_,fun h1=>by simp [yap,h1]⟩
 refine yg (yF r.Volume 0 1000000000) (by simp) rfl ?_
 simp -dsimp -implicitDefEqProofs
 refine ⟨fun h2 hlen=>⟨fun h3=>?_,fun h3=>?_⟩,fun h2=>by simp [yap,amount,h2]⟩
 ·have : ¬ r.Pipe.length ≤ 12:=by omega
  simp [yap,this]
 refine yh (ι:=Nat) (fun k=>k ≤ r.Pipe.length ∧ (∀ n ∈ r.Pipe.take k,amount n = true)) (fun k=>yT [(1,.box 1 0),(3,.c (.i k))] [(1,.box (r.enc.map .c))]) (fun k=>r.Pipe.length - k) 0 ⟨by simp,by simp⟩ (by apply yj <;> simp [AV.yc,AV.yB,Obj.yc]) ?_
 rintro k ⟨hk,hall⟩
 rcases Nat.lt_or_ge k r.Pipe.length with hlt | hge
 ·obtain ⟨x,hx⟩ : ∃ x,r.Pipe[k]? = some x:=⟨_,List.getElem?_eq_getElem hlt⟩
  simp -dsimp -implicitDefEqProofs [hx,yI hlt]
  intro _
  refine yg (yF x 0 1000000000) (by simp) rfl ?_
  simp -dsimp -implicitDefEqProofs
  refine ⟨fun h4=>yv3 hx h4,fun h4=>?_⟩
  exact ⟨yA hlt hlen,k + 1,⟨hlt,yO (p:=amount) hx hall h4⟩,by omega,by apply yj <;> simp [AV.yc,AV.yB,Obj.yc]⟩
 ·simp -dsimp -implicitDefEqProofs [yau hge]
  intro _
  have h6:=yaa (p:=amount) hge hall
  refine yg (ytV r h2 (by omega) (List.all_eq_true.1 h6)) (by simp) rfl ?_
  simp -dsimp -implicitDefEqProofs
  have h3' : r.Pipe.length ≤ 12:=by omega
  simp [yap,h1,show amount r.Volume = true from h2,h6,h3']
theorem yAm (xs : List Point) (hl : yhs xs) : ybg Tryz.prog yd0 [.c (.sl 2 (xs.map Point.enc))] (.c (.ow 2 (xs.map Point.enc))):=by
 refine yaw ylC (by simp) fun hwf=>?_
 simp -dsimp -implicitDefEqProofs [yg7]
 intro hlen
 have hl1:=hl.1
 refine ⟨by omega,?_⟩
 refine yh (ι:=Nat) (fun k=>k ≤ xs.length) (fun k=>yT [(0,.c (.sl 2 (xs.map Point.enc))),(3,.own 7 2 xs.length),(4,.c (.i k))] [(7,.row 2 (partly Point.enc [.i 0,.i 0] xs k))]) (fun k=>xs.length - k) 0 (by simp) (by apply yj <;> simp [AV.yc,AV.yB,Obj.yc,yac]) ?_
 rintro k hk
 rcases Nat.lt_or_ge k xs.length with hlt | hge
 ·obtain ⟨e,he⟩ : ∃ e,xs[k]? = some e:=⟨_,List.getElem?_eq_getElem hlt⟩
  have hs:=yai (f:=Point.enc) (z:=[.i 0,.i 0]) he
  have hd:=yar (f:=Point.enc) (z:=[.i 0,.i 0]) (n:=2) rfl hlt
  simp only [Point.enc] at hs
  simp -dsimp -implicitDefEqProofs [he,yI hlt]
  refine fun _=>yL (yv5 e ) (by simp) rfl ?_
  simp -dsimp -implicitDefEqProofs [yI hlt,yaj hk,hd,hs]
  exact ⟨hlt,yA hlt hlen,k + 1,hlt,by omega,by apply yj <;> simp [AV.yc,AV.yB,Obj.yc]⟩
 ·simp -dsimp -implicitDefEqProofs [yau hge]
  intro _
  rw [yak hge,List.take_of_length_le (by simp)]
@[simp] def Mover.yM (e : Mover) : List C:=[.b e.Train.Up,.ot 1 (e.Train.Rows.map yX),.i e.Place]
theorem Mover.yab (e : Mover) : ybR e.yM = some e.enc:=by simp [Mover.yM,ybR,ydu yeZ]
theorem yBm (e : Mover) (hl : Mover.small e) : ybg Tryz.prog yeX [.agg (e.enc.map .c)] (.agg (e.yM.map .c)):=by
 refine yaw ymv (by simp) fun hwf=>?_
 simp -dsimp -implicitDefEqProofs [yh9]
 refine yS (yn1 e.Train hl) (by simp) (by simp [AV.closed,AV.ya3,C.closed,yX]) (by simp [yZ]) ?_
 simp -dsimp -implicitDefEqProofs [yt]
theorem yzG (xs : List Mover) (hl : xs.length ≤ 1048576 ∧ ∀ x ∈ xs,x.small) : ybg Tryz.prog ydZ [.c (.sl 3 (xs.map Mover.enc))] (.c (.ot 3 (xs.map Mover.yM))):=by
 refine yaw ylF (by simp) fun hwf=>?_
 simp -dsimp -implicitDefEqProofs [ygP]
 intro hlen
 have hl1:=hl.1
 refine ⟨by omega,?_⟩
 refine yh (ι:=Nat) (fun k=>k ≤ xs.length) (fun k=>yT [(0,.c (.sl 3 (xs.map Mover.enc))),(3,.own 7 3 xs.length),(4,.c (.i k))] [(7,.tr 3 0 (partly Mover.yM [.b false,.sl 1 [],.i 0] xs k))]) (fun k=>xs.length - k) 0 (by simp) (by apply yj <;> simp [AV.yc,AV.yB,Obj.yc,yac,Obj.leO]) ?_
 rintro k hk
 rcases Nat.lt_or_ge k xs.length with hlt | hge
 ·obtain ⟨e,he⟩ : ∃ e,xs[k]? = some e:=⟨_,List.getElem?_eq_getElem hlt⟩
  have hs:=yai (f:=Mover.yM) (z:=[.b false,.sl 1 [],.i 0]) he
  have hd:=yar (f:=Mover.yM) (z:=[.b false,.sl 1 [],.i 0]) (n:=3) rfl hlt
  simp only [Mover.yM] at hs
  simp -dsimp -implicitDefEqProofs [he,yI hlt]
  intro _
  refine yS (yBm e (hl.2 e (List.mem_of_getElem? he))) (by simp) (by simp [AV.closed,AV.ya3,C.closed,yX]) (by simp [yZ]) ?_
  simp -dsimp -implicitDefEqProofs [yI hlt,yaj hk,yt,hd,hs]
  exact ⟨hlt,yA hlt hlen,k + 1,hlt,by omega,by apply yj <;> simp [AV.yc,AV.yB,Obj.yc,Obj.leO]⟩
 ·simp -dsimp -implicitDefEqProofs [yau hge]
  intro _
  rw [yak hge,yt]
def mkP (k : Int) : List C:=[.i k,.i (k + 1)]
theorem ywJ (xs : List Point) (k : Int) (h0 : 0 ≤ k) (h1 : k + 2 * xs.length ≤ 8000000000000000000) :
 InF Tryz.prog yft (.c (cw 2 (xs.map Point.enc))) (.c (cw 2 (marked mkP 2 [] k xs.length))) [.c (.i k)] (.c (.i (k + 2 * xs.length))):=by
 rcases Nat.eq_zero_or_pos xs.length with hx | hx
 ·have : xs = []:=List.length_eq_zero_iff.1 hx
  subst this
  refine ybG yiZ (by simp) (by simp) rfl fun hwf=>?_
  simp -dsimp -implicitDefEqProofs [yfk,marked]
  refine yh (ι:=Unit) (fun _=>True) (fun _=>yT [(0,.c (.sl 2 [])),(1,.c (.i k)),(5,.c (.i 0)),(1000000,.c (.sl 2 []))] []) (fun _=>0) () trivial (by apply yj <;> simp [AV.yc,AV.yB,Obj.yc]) ?_
  rintro _ _
  simp -dsimp -implicitDefEqProofs
 ·rw [ybW (by simpa using hx),ybW (by rw [yP]; exact hx)]
  refine ybG yiZ (by simp) (by simp) rfl fun hwf=>?_
  simp -dsimp -implicitDefEqProofs [yfk]
  refine yh (ι:=Nat) (fun i=>i ≤ xs.length) (fun i=>yT [(0,.own 0 2 xs.length),(1,.c (.i (k + 2 * i))),(5,.c (.i i)),(1000000,.own 0 2 xs.length)] [(0,.row 2 (marked mkP 2 (xs.map Point.enc) k i))]) (fun i=>xs.length - i) 0 (by simp) (by apply yj <;> simp [AV.yc,AV.yB,Obj.yc,yex]) ?_
  rintro i hi
  rcases Nat.lt_or_ge i xs.length with hlt | hge
  ·obtain ⟨e,he⟩ : ∃ e,xs[i]? = some e:=⟨_,List.getElem?_eq_getElem hlt⟩
   have hg:=yfS (mk:=mkP) (c:=2) (k:=k) (rows:=xs.map Point.enc) (i:=i) (r:=e.enc) (by simp [he])
   have hl:=yfI (mk:=mkP) (c:=2) (k:=k) (rows:=xs.map Point.enc) (i:=i) (by simpa using hi)
   have hs:=yfW (mk:=mkP) (c:=2) (k:=k) (rows:=xs.map Point.enc) (i:=i) (by simpa using hlt)
   rw [List.length_map] at hl
   generalize marked mkP 2 (xs.map Point.enc) k i = M at *
   have hlt2 : i < M.length:=by omega
   have hself : ∀ a,(M.set i a)[i]? = some a:=fun a=>List.getElem?_set_self hlt2
   simp only [mkP] at hs
   simp only [Point.enc] at hg
   simp -dsimp -implicitDefEqProofs [yI hlt,hg,hl,hlt2,hself]
   intro hlen
   refine ⟨hlt,by unfold inI; omega,hlt,by unfold inI; omega,by unfold inI; omega,i + 1,hlt,by omega,?_⟩
   apply yj <;> simp [AV.yc,AV.yB,Obj.yc,hs,hself] <;> omega
  ·have : i = xs.length:=by omega
   subst this
   simp -dsimp -implicitDefEqProofs
   intro _
   have e:=yfK (mk:=mkP) (c:=2) (rows:=xs.map Point.enc) (k:=k) (i:=xs.length) (by simp)
   rw [e,List.length_map,List.take_of_length_le (by rw [yP]; exact Nat.le_refl _)]
@[simp] def Reach.yM (e : Reach) : List C:=[.ow 2 (e.Table.map Point.enc),.i e.Volume,.ow 1 (e.Pipe.map yJ)]
theorem Reach.yab (e : Reach) : ybR e.yM = some e.enc:=by simp [Reach.yM,ybR,C.shr]
theorem yB0 (e : Reach) (hl : Reach.small e) : ybg Tryz.prog ye7 [.agg (e.enc.map .c)] (.agg (e.yM.map .c)):=by
 refine yaw ymI (by simp) fun hwf=>?_
 simp -dsimp -implicitDefEqProofs [yh6]
 refine yS (yAm e.Table hl.1) (by simp ) (by simp [AV.closed,AV.ya3,C.closed]) (by simp [yZ]) ?_
 simp -dsimp -implicitDefEqProofs [yt]
 refine yS (yp5 e.Pipe hl.2.1) (by simp ) (by simp [AV.closed,AV.ya3,C.closed]) (by simp [yZ]) ?_
 simp -dsimp -implicitDefEqProofs [yt]
def Reach.yvl (e : Reach) : List C:=[cw 2 (e.Table.map Point.enc),.i e.Volume,cw 1 (e.Pipe.map yJ)]
def fM (k : Int) (e : Mover) : List C:=[.b (decide (k.tmod 3 = 0)),.ot 1 (yay fB nB (k + 1) e.Train.Rows),.i (k + 1 + cnt nB e.Train.Rows)]
def nM (e : Mover) : Nat:=1 + cnt nB e.Train.Rows + 1
theorem yxw (xs : List Mover) (k : Int) (h0 : 0 ≤ k) (h1 : k + cnt nM xs ≤ 8000000000000000000) :
 InF Tryz.prog yfg (.c (ct 3 (xs.map Mover.yM))) (.c (ct 3 (yay fM nM k xs))) [.c (.i k)] (.c (.i (k + cnt nM xs))):=by
 rcases Nat.eq_zero_or_pos xs.length with hx | hx
 ·have : xs = []:=List.length_eq_zero_iff.1 hx
  subst this
  refine ybG yje (by simp) (by simp) rfl fun hwf=>?_
  simp -dsimp -implicitDefEqProofs [yfh,yay,cnt]
  refine yh (ι:=Unit) (fun _=>True) (fun _=>yT [(0,.c (.sl 3 [])),(1,.c (.i k)),(5,.c (.i 0)),(1000000,.c (.sl 3 []))] []) (fun _=>0) () trivial (by apply yj <;> simp [AV.yc,AV.yB,Obj.yc]) ?_
  rintro _ _
  simp -dsimp -implicitDefEqProofs
 ·rw [ycQ (by simpa using hx),ycQ (by rw [yK]; exact hx)]
  refine ybG yje (by simp) (by simp) rfl fun hwf=>?_
  simp -dsimp -implicitDefEqProofs [yfh]
  refine yh (ι:=Nat) (fun i=>i ≤ xs.length) (fun i=>yT [(0,.own 0 3 xs.length),(1,.c (.i (k + yaE nM xs i))),(5,.c (.i i)),(1000000,.own 0 3 xs.length)] [(0,.tr 3 0 (ycC fM Mover.yM nM k xs i))]) (fun i=>xs.length - i) 0 (by simp) (by apply yj <;> simp [AV.yc,AV.yB,Obj.yc,ydq,yaV,Obj.leO]) ?_
  rintro i hi
  rcases Nat.lt_or_ge i xs.length with hlt | hge
  ·obtain ⟨e,he⟩ : ∃ e,xs[i]? = some e:=⟨_,List.getElem?_eq_getElem hlt⟩
   have hg:=yez (f:=fM) (g:=Mover.yM) (n:=nM) (k:=k) he
   have hl:=yeE (f:=fM) (g:=Mover.yM) (n:=nM) (k:=k) (xs:=xs) (i:=i)
   have hs:=yeC (f:=fM) (g:=Mover.yM) (n:=nM) (k:=k) he
   have hc:=yaW (n:=nM) he
   have hle:=ybF (n:=nM) (xs:=xs) (i:=i + 1)
   have hn : nM e = 1 + cnt nB e.Train.Rows + 1:=rfl
   generalize hM : ycC fM Mover.yM nM k xs i = M at *
   have hlt2 : i < M.length:=by omega
   have g1 : M[i] = e.yM:=(List.getElem?_eq_some_iff.1 hg).2
   have hself : ∀ a,(M.set i a)[i]? = some a:=fun a=>List.getElem?_set_self hlt2
   simp only [Mover.yM] at hg g1
   simp -dsimp -implicitDefEqProofs [yI hlt,hg,hl,hlt2,g1,hself,setAt]
   intro hlen
   have hk : 0 ≤ k + yaE nM xs i:=by omega
   have c1 : C.ot 1 (e.Train.Rows.map yX) = C.ot 1 (e.Train.Rows.map yX):=rfl
   refine ⟨by have:=Int.tmod_nonneg 3 hk; have:=Int.tmod_lt_of_pos (k + yaE nM xs i) (b:=3) (by omega); unfold inI; omega,hlt,by unfold inI; omega,hlt,?_⟩
   refine ybX (k0:=3) (ver:=1) (j:=1) (i:=(i : Int)) (r:=[.b (decide ((k + yaE nM xs i).tmod 3 = 0)),.ot 1 (e.Train.Rows.map yX),.i e.Place]) (c:=.ot 1 (e.Train.Rows.map yX)) (c':=.ot 1 (yay fB nB (k + yaE nM xs i + 1) e.Train.Rows)) (yhE e.Train.Rows (k + yaE nM xs i + 1) (by omega) (by omega)) (by simp) rfl rfl rfl (by simpa using hself _) rfl ⟨_,by rw [yK]; simp,rfl,rfl,rfl⟩ (by simp [C.sz]) ?_
   simp -dsimp -implicitDefEqProofs [setAt,hself,hlt2,hl]
   refine ⟨hlt,by unfold inI; omega,yA hlt hlen,i + 1,hlt,by omega,?_⟩
   simp only [fM] at hs
   apply yj <;> simp [AV.yc,AV.yB,Obj.yc,Obj.leO,hs] <;> omega
  ·have : i = xs.length:=by omega
   subst this
   simp -dsimp -implicitDefEqProofs
   intro _
   rw [yew (Nat.le_refl _),ybf (Nat.le_refl _),List.take_of_length_le (by rw [yK]; exact Nat.le_refl _)]
   exact ⟨rfl,rfl⟩
def ydx (e : Tariff) (l : Int) : Int:=ybh (ylx e.PerClass l) fun l=>ybh (ylx e.Weights l) fun l=>l
theorem ypu : yeV ydx Tariff.small:=by
 intro e l h0 h1
 unfold ydx
 rcases yfE e.PerClass _ h0 h1 with e0 | ⟨a0,b0,s0⟩
 ·exact .inl (yN (by omega))
 rw [yw a0]
 rcases yfE e.Weights _ a0 (by omega) with e1 | ⟨a1,b1,s1⟩
 ·exact .inl (yN (by omega))
 rw [yw a1]
 exact .inr ⟨a1,by omega,s0.1,s1.1⟩
theorem yyv (e : Tariff) (l : Int) (h0 : 0 ≤ l) (h1 : l ≤ 1048576) : yE Tryz.prog ygY [.agg (e.enc.map .c),.c (.i l)] (.c (.i (ydx e l))):=by
 refine yu ysa (by simp) fun hwf=>?_
 simp -dsimp -implicitDefEqProofs [ylO]
 refine yg (ynP e.PerClass _ h0 h1) (by simp) rfl ?_
 simp -dsimp -implicitDefEqProofs
 refine ⟨fun h=>by simp [ydx,yN h],fun p0=>?_⟩
 have q0:=ylI yfE e.PerClass h0 h1 p0
 refine yg (ynP e.Weights _ p0 q0) (by simp) rfl ?_
 simp -dsimp -implicitDefEqProofs
 refine ⟨fun h=>by simp [ydx,yw p0,yN h],fun p1=>?_⟩
 simp [ydx,yw p0,yw p1]
theorem yq5 {α β : Type} {f : α → β} {l : List α} : (l.map f).take l.length = l.map f:=List.take_of_length_le (by simp)
def yaT (t : Train) : List Int:=if yR t then t.yao.map ygW else []
def ygM (t : Train) (k : Nat) : List Int:=(t.yao.take k).map ygW
theorem yiO {t : Train} : ygM t 0 = []:=rfl
theorem yro {t : Train} {k : Nat} {b : Boat} (h : t.yao[k]? = some b) : ygM t (k + 1) = ygM t k ++ [b.Id]:=by
 unfold ygM; rw [List.take_succ,h,List.map_append]; rfl
theorem yug {t : Train} {k : Nat} (h : t.yao.length ≤ k) : ygM t k = t.yao.map ygW:=by
 unfold ygM; rw [List.take_of_length_le h]
theorem ysz {t : Train} {k : Nat} (h : k ≤ t.yao.length) : (ygM t k).length = k:=by
 unfold ygM; simp; omega
theorem yy4 (t : Train) (h : t.small) : yE Tryz.prog ylb [.agg (t.enc.map .c)] (.c (.sl 1 ((yaT t).map yJ))):=by
 refine yu ywM (by simp) fun hwf=>?_
 simp -dsimp -implicitDefEqProofs [ypw]
 refine yg (ydE t h) (by simp) rfl ?_
 cases h1 : yR t with
 | false=>simp -dsimp -implicitDefEqProofs; simp [yaT,h1]
 | true =>
  have tf:=ylB h1
  have h6:=tf.len
  simp -dsimp -implicitDefEqProofs
  refine yL (yCi t h) (by simp) rfl ?_
  simp -dsimp -implicitDefEqProofs
  intro hlen
  refine yqL (k0:=1) 3 1 (by simp) (by simp) (by decide) ?_
  refine yh (ι:=Nat) (fun k=>k ≤ t.yao.length) (fun k=>yT [(3,.own 3 1 (ygM t k).length),(10,.c (.sl 6 (t.yao.map Boat.enc))),(11,.c (.i t.yao.length)),(12,.c (.i k))] [(3,.row 1 ((ygM t k).map yJ))]) (fun k=>t.yao.length - k) 0 (by simp) (by apply yj <;> simp [AV.yc,AV.yB,Obj.yc,yiO]) ?_
  rintro k hk
  have hkl:=ysz hk
  rcases Nat.lt_or_ge k t.yao.length with hlt | hge
  ·obtain ⟨b,hb⟩ : ∃ b,t.yao[k]? = some b:=⟨_,List.getElem?_eq_getElem hlt⟩
   simp -dsimp -implicitDefEqProofs [hb,yI hlt]
   refine ⟨by omega,yA hlt hlen,k + 1,hlt,by omega,?_⟩
   apply yj <;> simp [AV.yc,AV.yB,Obj.yc,yro hb]
  ·simp -dsimp -implicitDefEqProofs [yau hge]
   rw [yq5,yug hge]
   simp [yaT,h1]
theorem yzw (t : Train) (h : t.small) : yE Tryz.prog yk2 [.agg (t.enc.map .c)] (.c (.sl 1 ((yaT t).map yJ))):=by
 refine yu yxA (by simp) fun hwf=>?_
 simp -dsimp -implicitDefEqProofs [ypJ]
 refine yL (ysA t h) (by simp) rfl ?_
 simp -dsimp -implicitDefEqProofs
 refine yh (ι:=Nat) (fun k=>k ≤ t.yao.length ∧ (k ≠ 0 → yR t = true)) (fun k=>yT [(1,.box 1 0),(3,.own 6 1 (ygM t k).length),(4,.c (.sl 6 (t.yao.map Boat.enc))),(5,.c (.i k))] [(1,.box (t.enc.map .c)),(6,.row 1 ((ygM t k).map yJ))]) (fun k=>t.yao.length - k) 0 (by simp) (by apply yj <;> simp [AV.yc,AV.yB,Obj.yc,yiO]) ?_
 rintro k ⟨hk,hok⟩
 have hkl:=ysz hk
 have fin : yR t = false → k = 0:=fun h1=>by
  rcases Nat.eq_zero_or_pos k with e | e
  ·exact e
  ·rw [hok (by omega)] at h1; cases h1
 rcases Nat.lt_or_ge k t.yao.length with hlt | hge
 ·obtain ⟨b,hb⟩ : ∃ b,t.yao[k]? = some b:=⟨_,List.getElem?_eq_getElem hlt⟩
  simp -dsimp -implicitDefEqProofs [hb,yI hlt]
  intro hlen
  refine yg (ydF t h) (by simp) rfl ?_
  cases h1 : yR t with
  | false =>
   have:=fin h1
   subst this
   simp -dsimp -implicitDefEqProofs
   simp [yaT,h1,yiO]
  | true =>
   have h6:=(ylB h1).len
   simp -dsimp -implicitDefEqProofs [hb,yI hlt]
   refine ⟨by omega,yA hlt hlen,k + 1,by first | exact ⟨hlt,fun _=>h1⟩ | exact hlt,by omega,?_⟩
   apply yj <;> simp [AV.yc,AV.yB,Obj.yc,yro hb]
 ·simp -dsimp -implicitDefEqProofs [yau hge]
  intro _
  rw [yq5]
  by_cases h1 : yR t = true
  ·rw [yug hge]; simp [yaT,h1]
  ·have:=fin (by simpa using h1)
   subst this
   simp [yaT,h1,yiO]
theorem ywG {t : Train} (h : yR t = true) : (yaT t).length ≤ 6:=by
 have:=(ylB h).len
 simp [yaT,h]; omega
theorem yIf {t : Train} (h : yR t = true) : (yaT t).Nodup:=by
 have:=(ylB h).nd
 simp only [yaT,h,if_true]; exact this
def yds : List Train → Int → Int:=yfw ybY
def ybM : List Train → Prop:=ycP Train.small
theorem ylv : yeV yds ybM:=yjl ygp
theorem yri (xs : List Train) (l : Int) (h0 : 0 ≤ l) (h1 : l ≤ 1048576) : yE Tryz.prog yd4 [.c (.sl 2 (xs.map Train.enc)),.c (.i l)] (.c (.i (yds xs l))):=by
 refine yu yr2 (by simp) fun hwf=>?_
 simp -dsimp -implicitDefEqProofs [ylN]
 intro hl
 have hs : szS xs.length l = if l - xs.length < 0 then -1 else l - xs.length:=rfl
 refine ⟨by unfold maxLen at hl; unfold inI; omega,fun h=>?_,fun h=>?_⟩
 ·simp [yds,yfw,ybh,hs,h]
 have h' : 0 ≤ l - xs.length:=by omega
 have e0 : yds xs l = yas ybY xs (l - xs.length):=by
  have : szS xs.length l = l - xs.length:=by rw [hs,if_neg (by omega)]
  simp only [yds,yfw]
  rw [this,yw h']
 refine yh (ι:=Nat × Int) (fun p=>p.1 ≤ xs.length ∧ 0 ≤ p.2 ∧ p.2 ≤ 1048576 ∧ yas ybY (xs.drop p.1) p.2 = yds xs l) (fun p=>yT [(0,.c (.sl 2 (xs.map Train.enc))),(1,.c (.i p.2)),(5,.c (.i p.1))] []) (fun p=>xs.length - p.1) (0,l - xs.length) ⟨by simp,h',by simp only; omega,by simp [e0]⟩ (by apply yj <;> simp [AV.yc,AV.yB,Obj.yc]) ?_
 rintro ⟨k,q⟩ ⟨hk,hq0,hq1,hf⟩
 simp only at hk hq0 hq1 hf
 rcases Nat.lt_or_ge k xs.length with hlt | hge
 ·obtain ⟨e,he⟩ : ∃ e,xs[k]? = some e:=⟨_,List.getElem?_eq_getElem hlt⟩
  have hd : xs.drop k = e :: xs.drop (k + 1):=by
   rw [List.drop_eq_getElem_cons hlt,(List.getElem?_eq_some_iff.1 he).2]
  rw [hd,yas] at hf
  simp -dsimp -implicitDefEqProofs [he,yI hlt]
  refine fun _=>yg (ylw e q hq0 hq1) (by simp) rfl ?_
  simp -dsimp -implicitDefEqProofs
  refine ⟨fun h=>by rw [← hf,yN h],fun h=>⟨yA hlt hl,k + 1,⟨ybY e q,?_⟩⟩⟩
  rw [yw h] at hf
  have hle : ybY e q ≤ 1048576:=by
   rcases ygp e q hq0 hq1 with e1 | e1
   ·omega
   ·omega
  exact ⟨⟨hlt,h,hle,hf⟩,by omega,by apply yj <;> simp [AV.yc,AV.yB,Obj.yc]⟩
 ·simp -dsimp -implicitDefEqProofs [yau hge]
  rw [List.drop_of_length_le hge] at hf
  intro _
  first | simpa [yas] using hf | simpa [yas] using hf.symm
theorem ysP (xs : List Train) (hl : ybM xs) : yE Tryz.prog ycU [.c (.sl 2 (xs.map Train.enc))] (.c (.sl 2 (xs.map Train.enc))):=by
 refine yu ylK (by simp) fun hwf=>?_
 simp -dsimp -implicitDefEqProofs [ygX]
 intro hlen
 have hl1:=hl.1
 refine ⟨by omega,?_⟩
 refine yh (ι:=Nat) (fun k=>k ≤ xs.length) (fun k=>yT [(0,.c (.sl 2 (xs.map Train.enc))),(3,.own 7 2 xs.length),(4,.c (.i k))] [(7,.row 2 (partly Train.enc [.b false,.sl 1 []] xs k))]) (fun k=>xs.length - k) 0 (by simp) (by apply yj <;> simp [AV.yc,AV.yB,Obj.yc,yac]) ?_
 rintro k hk
 rcases Nat.lt_or_ge k xs.length with hlt | hge
 ·obtain ⟨e,he⟩ : ∃ e,xs[k]? = some e:=⟨_,List.getElem?_eq_getElem hlt⟩
  have hs:=yai (f:=Train.enc) (z:=[.b false,.sl 1 []]) he
  have hd:=yar (f:=Train.enc) (z:=[.b false,.sl 1 []]) (n:=2) rfl hlt
  simp only [Train.enc] at hs
  simp -dsimp -implicitDefEqProofs [he,yI hlt]
  refine fun _=>yL (ynG e (hl.2 e (List.mem_of_getElem? he))) (by simp) rfl ?_
  simp -dsimp -implicitDefEqProofs [yI hlt,yaj hk,hd,hs]
  exact ⟨hlt,yA hlt hlen,k + 1,hlt,by omega,by apply yj <;> simp [AV.yc,AV.yB,Obj.yc]⟩
 ·simp -dsimp -implicitDefEqProofs [yau hge]
  intro _
  rw [yak hge,List.take_of_length_le (by simp)]
theorem ytR (es fs : List Train) : yE Tryz.prog yd7 [.c (.sl 2 (es.map Train.enc)),.c (.sl 2 (fs.map Train.enc))] (.c (.b (decide (es = fs)))):=by
 refine yu yrT (by simp) fun hwf=>?_
 simp -dsimp -implicitDefEqProofs [ylP]
 intro hl1 hl2
 refine ⟨fun h e=>h (by rw [e]),fun hlen=>?_⟩
 have hlen' : es.length = fs.length:=by omega
 refine yh (ι:=Nat) (fun k=>k ≤ es.length ∧ es.take k = fs.take k) (fun k=>yT [(0,.c (.sl 2 (es.map Train.enc))),(1,.c (.sl 2 (fs.map Train.enc))),(5,.c (.i k))] []) (fun k=>es.length - k) 0 (by simp) (by apply yj <;> simp [AV.yc,AV.yB,Obj.yc]) ?_
 rintro k ⟨hk,htk⟩
 rcases Nat.lt_or_ge k es.length with hlt | hge
 ·obtain ⟨e,he⟩ : ∃ e,es[k]? = some e:=⟨_,List.getElem?_eq_getElem hlt⟩
  obtain ⟨f,hf⟩ : ∃ f,fs[k]? = some f:=⟨_,List.getElem?_eq_getElem (by omega)⟩
  simp -dsimp -implicitDefEqProofs [he,hf,yI hlt,yI (hlen' ▸ hlt)]
  intro _
  refine ⟨_,_,ynT e f,by simp,.inr rfl,?_⟩
  simp -dsimp -implicitDefEqProofs
  refine ⟨fun h=>yby he hf h,fun h=>⟨yA hlt hl1,k + 1,⟨hlt,yaL he hf htk h⟩,by omega,by apply yj <;> simp [AV.yc,AV.yB,Obj.yc]⟩⟩
 ·simp -dsimp -implicitDefEqProofs [yau hge]
  intro _
  exact ya9 hge hlen' htk
structure Lock where
 Length : Int
 Width : Int
 SillAbove : Int
 SillBelow : Int
 Base : Int
 Area : Int
 Rate : Int
 Water : Int
 Gate : Int
 Inside : List Train
 deriving DecidableEq,Inhabited
@[simp] def Lock.enc (e : Lock) : List C:=[.i e.Length,.i e.Width,.i e.SillAbove,.i e.SillBelow,.i e.Base,.i e.Area,.i e.Rate,.i e.Water,.i e.Gate,.sl 2 (e.Inside.map Train.enc)]
-- Lock
def yi3 (e : Lock) (l : Int) : Int:=ybh (yds e.Inside l) fun l=>l
def Lock.small (e : Lock) : Prop:=ybM e.Inside
theorem yti : yeV yi3 Lock.small:=by
 intro e l h0 h1
 unfold yi3
 rcases ylv e.Inside _ h0 h1 with e0 | ⟨a0,b0,s0⟩
 ·exact .inl (yN (by omega))
 rw [yw a0]
 exact .inr ⟨a0,by omega,s0⟩
theorem yBb (e : Lock) (l : Int) (h0 : 0 ≤ l) (h1 : l ≤ 1048576) : yE Tryz.prog yj0 [.agg (e.enc.map .c),.c (.i l)] (.c (.i (yi3 e l))):=by
 refine yu yu7 (by simp) fun hwf=>?_
 simp -dsimp -implicitDefEqProofs [yot]
 refine yg (yri e.Inside _ h0 h1) (by simp) rfl ?_
 simp -dsimp -implicitDefEqProofs
 refine ⟨fun h=>by simp [yi3,yN h],fun p0=>?_⟩
 simp [yi3,yw p0]
theorem yC6 (e : Lock) (hl : Lock.small e) : yE Tryz.prog yf8 [.agg (e.enc.map .c)] (.agg (e.enc.map .c)):=by
 refine yu yoI (by simp) fun hwf=>?_
 simp -dsimp -implicitDefEqProofs [yjV]
 refine yL (ysP e.Inside hl) (by simp) rfl ?_
 simp -dsimp -implicitDefEqProofs
theorem yCK (a b : Lock) : yE Tryz.prog yjK [.agg (a.enc.map .c),.agg (b.enc.map .c)] (.c (.b (decide (a = b)))):=by
 refine yu yuM (by simp) fun hwf=>?_
 obtain ⟨a0,a1,a2,a3,a4,a5,a6,a7,a8,a9⟩:=a
 obtain ⟨b0,b1,b2,b3,b4,b5,b6,b7,b8,b9⟩:=b
 simp -dsimp -implicitDefEqProofs [yoa,Lock.mk.injEq]
 refine ⟨fun h=>by simp_all,fun h0=>?_⟩
 refine ⟨fun h=>by simp_all,fun h1=>?_⟩
 refine ⟨fun h=>by simp_all,fun h2=>?_⟩
 refine ⟨fun h=>by simp_all,fun h3=>?_⟩
 refine ⟨fun h=>by simp_all,fun h4=>?_⟩
 refine ⟨fun h=>by simp_all,fun h5=>?_⟩
 refine ⟨fun h=>by simp_all,fun h6=>?_⟩
 refine ⟨fun h=>by simp_all,fun h7=>?_⟩
 refine ⟨fun h=>by simp_all,fun h8=>?_⟩
 refine yg (ytR a9 b9) (by simp) rfl ?_
 simp -dsimp -implicitDefEqProofs
 refine ⟨fun h=>by simp_all,fun h9=>?_⟩
 simp_all
structure Weir where
 Gates : Int
 Open : Int
 Step : Int
 Crest : Int
 Width : Int
 deriving DecidableEq,Inhabited
@[simp] def Weir.enc (e : Weir) : List C:=[.i e.Gates,.i e.Open,.i e.Step,.i e.Crest,.i e.Width]
-- Weir
theorem yyq (e : Weir) : yE Tryz.prog yjy [.agg (e.enc.map .c)] (.agg (e.enc.map .c)):=by
 refine yu yuT (by simp) fun hwf=>?_
 simp -dsimp -implicitDefEqProofs [yop]
theorem yEw (a b : Weir) : yE Tryz.prog yjS [.agg (a.enc.map .c),.agg (b.enc.map .c)] (.c (.b (decide (a = b)))):=by
 refine yu yve (by simp) fun hwf=>?_
 obtain ⟨a0,a1,a2,a3,a4⟩:=a
 obtain ⟨b0,b1,b2,b3,b4⟩:=b
 simp -dsimp -implicitDefEqProofs [yoq,Weir.mk.injEq]
 refine ⟨fun h=>by simp_all,fun h0=>?_⟩
 refine ⟨fun h=>by simp_all,fun h1=>?_⟩
 refine ⟨fun h=>by simp_all,fun h2=>?_⟩
 refine ⟨fun h=>by simp_all,fun h3=>?_⟩
 refine ⟨fun h=>by simp_all,fun h4=>?_⟩
 simp_all
structure Rule where
 Low : Int
 High : Int
 Flood : Int
 deriving DecidableEq,Inhabited
@[simp] def Rule.enc (e : Rule) : List C:=[.i e.Low,.i e.High,.i e.Flood]
-- Rule
theorem yzh (e : Rule) : yE Tryz.prog yjN [.agg (e.enc.map .c)] (.agg (e.enc.map .c)):=by
 refine yu yu2 (by simp) fun hwf=>?_
 simp -dsimp -implicitDefEqProofs [yoj]
theorem yDU (a b : Rule) : yE Tryz.prog yj3 [.agg (a.enc.map .c),.agg (b.enc.map .c)] (.c (.b (decide (a = b)))):=by
 refine yu yuF (by simp) fun hwf=>?_
 obtain ⟨a0,a1,a2⟩:=a
 obtain ⟨b0,b1,b2⟩:=b
 simp -dsimp -implicitDefEqProofs [yoc,Rule.mk.injEq]
 refine ⟨fun h=>by simp_all,fun h0=>?_⟩
 refine ⟨fun h=>by simp_all,fun h1=>?_⟩
 refine ⟨fun h=>by simp_all,fun h2=>?_⟩
 simp_all
structure Pause where
 From : Int
 Until : Int
 deriving DecidableEq,Inhabited
@[simp] def Pause.enc (e : Pause) : List C:=[.i e.From,.i e.Until]
-- Pause
theorem yvK (e : Pause) : yE Tryz.prog yid [.agg (e.enc.map .c)] (.agg (e.enc.map .c)):=by
 refine yu ytX (by simp) fun hwf=>?_
 simp -dsimp -implicitDefEqProofs [ym1]
theorem yBo (a b : Pause) : yE Tryz.prog yiy [.agg (a.enc.map .c),.agg (b.enc.map .c)] (.c (.b (decide (a = b)))):=by
 refine yu ytq (by simp) fun hwf=>?_
 obtain ⟨a0,a1⟩:=a
 obtain ⟨b0,b1⟩:=b
 simp -dsimp -implicitDefEqProofs [yna,Pause.mk.injEq]
 refine ⟨fun h=>by simp_all,fun h0=>?_⟩
 refine ⟨fun h=>by simp_all,fun h1=>?_⟩
 simp_all
-- []Pause
def ykC (xs : List Pause) (l : Int) : Int:=szS xs.length l
def yhx : List Pause → Prop:=ycP fun _=>True
theorem ypr : yeV ykC yhx:=ykM
theorem yy2 (xs : List Pause) (l : Int) (h0 : 0 ≤ l) (h1 : l ≤ 1048576) : yE Tryz.prog ygO [.c (.sl 2 (xs.map Pause.enc)),.c (.i l)] (.c (.i (ykC xs l))):=by
 refine yu yrX (by simp) fun hwf=>?_
 simp -dsimp -implicitDefEqProofs [yl2,ykC,szS]
 intro hl
 unfold maxLen at hl
 refine ⟨by unfold inI; omega,fun h=>?_,fun h=>?_⟩ <;> intros <;> omega
theorem yzZ (xs : List Pause) (hl : yhx xs) : yE Tryz.prog yd9 [.c (.sl 2 (xs.map Pause.enc))] (.c (.sl 2 (xs.map Pause.enc))):=by
 refine yu ylG (by simp) fun hwf=>?_
 simp -dsimp -implicitDefEqProofs [yg8]
 intro hlen
 have hl1:=hl.1
 refine ⟨by omega,?_⟩
 refine yh (ι:=Nat) (fun k=>k ≤ xs.length) (fun k=>yT [(0,.c (.sl 2 (xs.map Pause.enc))),(3,.own 7 2 xs.length),(4,.c (.i k))] [(7,.row 2 (partly Pause.enc [.i 0,.i 0] xs k))]) (fun k=>xs.length - k) 0 (by simp) (by apply yj <;> simp [AV.yc,AV.yB,Obj.yc,yac]) ?_
 rintro k hk
 rcases Nat.lt_or_ge k xs.length with hlt | hge
 ·obtain ⟨e,he⟩ : ∃ e,xs[k]? = some e:=⟨_,List.getElem?_eq_getElem hlt⟩
  have hs:=yai (f:=Pause.enc) (z:=[.i 0,.i 0]) he
  have hd:=yar (f:=Pause.enc) (z:=[.i 0,.i 0]) (n:=2) rfl hlt
  simp only [Pause.enc] at hs
  simp -dsimp -implicitDefEqProofs [he,yI hlt]
  refine fun _=>yL (yvK e ) (by simp) rfl ?_
  simp -dsimp -implicitDefEqProofs [yI hlt,yaj hk,hd,hs]
  exact ⟨hlt,yA hlt hlen,k + 1,hlt,by omega,by apply yj <;> simp [AV.yc,AV.yB,Obj.yc]⟩
 ·simp -dsimp -implicitDefEqProofs [yau hge]
  intro _
  rw [yak hge,List.take_of_length_le (by simp)]
theorem yzQ (es fs : List Pause) : yE Tryz.prog ygZ [.c (.sl 2 (es.map Pause.enc)),.c (.sl 2 (fs.map Pause.enc))] (.c (.b (decide (es = fs)))):=by
 refine yu yrJ (by simp) fun hwf=>?_
 simp -dsimp -implicitDefEqProofs [ylW]
 intro hl1 hl2
 refine ⟨fun h e=>h (by rw [e]),fun hlen=>?_⟩
 have hlen' : es.length = fs.length:=by omega
 refine yh (ι:=Nat) (fun k=>k ≤ es.length ∧ es.take k = fs.take k) (fun k=>yT [(0,.c (.sl 2 (es.map Pause.enc))),(1,.c (.sl 2 (fs.map Pause.enc))),(5,.c (.i k))] []) (fun k=>es.length - k) 0 (by simp) (by apply yj <;> simp [AV.yc,AV.yB,Obj.yc]) ?_
 rintro k ⟨hk,htk⟩
 rcases Nat.lt_or_ge k es.length with hlt | hge
 ·obtain ⟨e,he⟩ : ∃ e,es[k]? = some e:=⟨_,List.getElem?_eq_getElem hlt⟩
  obtain ⟨f,hf⟩ : ∃ f,fs[k]? = some f:=⟨_,List.getElem?_eq_getElem (by omega)⟩
  simp -dsimp -implicitDefEqProofs [he,hf,yI hlt,yI (hlen' ▸ hlt)]
  intro _
  refine ⟨_,_,yBo e f,by simp,.inr rfl,?_⟩
  simp -dsimp -implicitDefEqProofs
  refine ⟨fun h=>yby he hf h,fun h=>⟨yA hlt hl1,k + 1,⟨hlt,yaL he hf htk h⟩,by omega,by apply yj <;> simp [AV.yc,AV.yB,Obj.yc]⟩⟩
 ·simp -dsimp -implicitDefEqProofs [yau hge]
  intro _
  exact ya9 hge hlen' htk
structure Turn where
 Up : Bool
 Count : Int
 deriving DecidableEq,Inhabited
@[simp] def Turn.enc (e : Turn) : List C:=[.b e.Up,.i e.Count]
-- Turn
theorem yyi (e : Turn) : yE Tryz.prog yjX [.agg (e.enc.map .c)] (.agg (e.enc.map .c)):=by
 refine yu yuz (by simp) fun hwf=>?_
 simp -dsimp -implicitDefEqProofs [yoK]
theorem yC9 (a b : Turn) : yE Tryz.prog yjO [.agg (a.enc.map .c),.agg (b.enc.map .c)] (.c (.b (decide (a = b)))):=by
 refine yu yu5 (by simp) fun hwf=>?_
 obtain ⟨a0,a1⟩:=a
 obtain ⟨b0,b1⟩:=b
 simp -dsimp -implicitDefEqProofs [yod,Turn.mk.injEq]
 refine ⟨fun h=>by simp_all,fun h0=>?_⟩
 refine ⟨fun h=>by simp_all,fun h1=>?_⟩
 simp_all
structure CallT where
 Train : Train
 Since : Int
 Booked : Int
 deriving DecidableEq,Inhabited
@[simp] def CallT.enc (e : CallT) : List C:=[.b e.Train.Up,.sl 1 (e.Train.Rows.map yah),.i e.Since,.i e.Booked]
-- Call
def yd8 (e : CallT) (l : Int) : Int:=ybh (ybY e.Train l) fun l=>l
def CallT.small (e : CallT) : Prop:=e.Train.small
theorem ytE : yeV yd8 CallT.small:=by
 intro e l h0 h1
 unfold yd8
 rcases ygp e.Train _ h0 h1 with e0 | ⟨a0,b0,s0⟩
 ·exact .inl (yN (by omega))
 rw [yw a0]
 exact .inr ⟨a0,by omega,s0⟩
theorem yBz (e : CallT) (l : Int) (h0 : 0 ≤ l) (h1 : l ≤ 1048576) : yE Tryz.prog yjZ [.agg (e.enc.map .c),.c (.i l)] (.c (.i (yd8 e l))):=by
 refine yu yuR (by simp) fun hwf=>?_
 simp -dsimp -implicitDefEqProofs [yoG]
 refine yg (ylw e.Train _ h0 h1) (by simp) rfl ?_
 simp -dsimp -implicitDefEqProofs
 refine ⟨fun h=>by simp [yd8,yN h],fun p0=>?_⟩
 simp [yd8,yw p0]
theorem yEn (e : CallT) (hl : CallT.small e) : yE Tryz.prog ygh [.agg (e.enc.map .c)] (.agg (e.enc.map .c)):=by
 refine yu yow (by simp) fun hwf=>?_
 simp -dsimp -implicitDefEqProofs [yjY]
 refine yL (ynG e.Train hl) (by simp) rfl ?_
 simp -dsimp -implicitDefEqProofs
theorem yEl (a b : CallT) : yE Tryz.prog yjQ [.agg (a.enc.map .c),.agg (b.enc.map .c)] (.c (.b (decide (a = b)))):=by
 refine yu yuG (by simp) fun hwf=>?_
 obtain ⟨a0,a1,a2⟩:=a
 obtain ⟨b0,b1,b2⟩:=b
 simp -dsimp -implicitDefEqProofs [yoF,CallT.mk.injEq]
 refine yg (ynT a0 b0) (by simp) rfl ?_
 simp -dsimp -implicitDefEqProofs
 refine ⟨fun h=>by simp_all,fun h0=>?_⟩
 refine ⟨fun h=>by simp_all,fun h1=>?_⟩
 refine ⟨fun h=>by simp_all,fun h2=>?_⟩
 simp_all
-- []Call
def ygl : List CallT → Int → Int:=yfw yd8
def ygk : List CallT → Prop:=ycP CallT.small
theorem yzc : yeV ygl ygk:=yjl ytE
theorem yzJ (xs : List CallT) (l : Int) (h0 : 0 ≤ l) (h1 : l ≤ 1048576) : yE Tryz.prog yh3 [.c (.sl 4 (xs.map CallT.enc)),.c (.i l)] (.c (.i (ygl xs l))):=by
 refine yu yt7 (by simp) fun hwf=>?_
 simp -dsimp -implicitDefEqProofs [ymL]
 intro hl
 have hs : szS xs.length l = if l - xs.length < 0 then -1 else l - xs.length:=rfl
 refine ⟨by unfold maxLen at hl; unfold inI; omega,fun h=>?_,fun h=>?_⟩
 ·simp [ygl,yfw,ybh,hs,h]
 have h' : 0 ≤ l - xs.length:=by omega
 have e0 : ygl xs l = yas yd8 xs (l - xs.length):=by
  have : szS xs.length l = l - xs.length:=by rw [hs,if_neg (by omega)]
  simp only [ygl,yfw]
  rw [this,yw h']
 refine yh (ι:=Nat × Int) (fun p=>p.1 ≤ xs.length ∧ 0 ≤ p.2 ∧ p.2 ≤ 1048576 ∧ yas yd8 (xs.drop p.1) p.2 = ygl xs l) (fun p=>yT [(0,.c (.sl 4 (xs.map CallT.enc))),(1,.c (.i p.2)),(5,.c (.i p.1))] []) (fun p=>xs.length - p.1) (0,l - xs.length) ⟨by simp,h',by simp only; omega,by simp [e0]⟩ (by apply yj <;> simp [AV.yc,AV.yB,Obj.yc]) ?_
 rintro ⟨k,q⟩ ⟨hk,hq0,hq1,hf⟩
 simp only at hk hq0 hq1 hf
 rcases Nat.lt_or_ge k xs.length with hlt | hge
 ·obtain ⟨e,he⟩ : ∃ e,xs[k]? = some e:=⟨_,List.getElem?_eq_getElem hlt⟩
  have hd : xs.drop k = e :: xs.drop (k + 1):=by
   rw [List.drop_eq_getElem_cons hlt,(List.getElem?_eq_some_iff.1 he).2]
  rw [hd,yas] at hf
  simp -dsimp -implicitDefEqProofs [he,yI hlt]
  refine fun _=>yg (yBz e q hq0 hq1) (by simp) rfl ?_
  simp -dsimp -implicitDefEqProofs
  refine ⟨fun h=>by rw [← hf,yN h],fun h=>⟨yA hlt hl,k + 1,⟨yd8 e q,?_⟩⟩⟩
  rw [yw h] at hf
  have hle : yd8 e q ≤ 1048576:=by
   rcases ytE e q hq0 hq1 with e1 | e1
   ·omega
   ·omega
  exact ⟨⟨hlt,h,hle,hf⟩,by omega,by apply yj <;> simp [AV.yc,AV.yB,Obj.yc]⟩
 ·simp -dsimp -implicitDefEqProofs [yau hge]
  rw [List.drop_of_length_le hge] at hf
  intro _
  first | simpa [yas] using hf | simpa [yas] using hf.symm
theorem yBU (xs : List CallT) (hl : ygk xs) : yE Tryz.prog yeJ [.c (.sl 4 (xs.map CallT.enc))] (.c (.sl 4 (xs.map CallT.enc))):=by
 refine yu ym4 (by simp) fun hwf=>?_
 simp -dsimp -implicitDefEqProofs [yiC]
 intro hlen
 have hl1:=hl.1
 refine ⟨by omega,?_⟩
 refine yh (ι:=Nat) (fun k=>k ≤ xs.length) (fun k=>yT [(0,.c (.sl 4 (xs.map CallT.enc))),(3,.own 7 4 xs.length),(4,.c (.i k))] [(7,.row 4 (partly CallT.enc [.b false,.sl 1 [],.i 0,.i 0] xs k))]) (fun k=>xs.length - k) 0 (by simp) (by apply yj <;> simp [AV.yc,AV.yB,Obj.yc,yac]) ?_
 rintro k hk
 rcases Nat.lt_or_ge k xs.length with hlt | hge
 ·obtain ⟨e,he⟩ : ∃ e,xs[k]? = some e:=⟨_,List.getElem?_eq_getElem hlt⟩
  have hs:=yai (f:=CallT.enc) (z:=[.b false,.sl 1 [],.i 0,.i 0]) he
  have hd:=yar (f:=CallT.enc) (z:=[.b false,.sl 1 [],.i 0,.i 0]) (n:=4) rfl hlt
  simp only [CallT.enc,Train.enc] at hs
  simp -dsimp -implicitDefEqProofs [he,yI hlt]
  refine fun _=>yL (yEn e (hl.2 e (List.mem_of_getElem? he))) (by simp) rfl ?_
  simp -dsimp -implicitDefEqProofs [yI hlt,yaj hk,hd,hs]
  exact ⟨hlt,yA hlt hlen,k + 1,hlt,by omega,by apply yj <;> simp [AV.yc,AV.yB,Obj.yc]⟩
 ·simp -dsimp -implicitDefEqProofs [yau hge]
  intro _
  rw [yak hge,List.take_of_length_le (by simp)]
theorem yBc (es fs : List CallT) : yE Tryz.prog yia [.c (.sl 4 (es.map CallT.enc)),.c (.sl 4 (fs.map CallT.enc))] (.c (.b (decide (es = fs)))):=by
 refine yu ytm (by simp) fun hwf=>?_
 simp -dsimp -implicitDefEqProofs [ynD]
 intro hl1 hl2
 refine ⟨fun h e=>h (by rw [e]),fun hlen=>?_⟩
 have hlen' : es.length = fs.length:=by omega
 refine yh (ι:=Nat) (fun k=>k ≤ es.length ∧ es.take k = fs.take k) (fun k=>yT [(0,.c (.sl 4 (es.map CallT.enc))),(1,.c (.sl 4 (fs.map CallT.enc))),(5,.c (.i k))] []) (fun k=>es.length - k) 0 (by simp) (by apply yj <;> simp [AV.yc,AV.yB,Obj.yc]) ?_
 rintro k ⟨hk,htk⟩
 rcases Nat.lt_or_ge k es.length with hlt | hge
 ·obtain ⟨e,he⟩ : ∃ e,es[k]? = some e:=⟨_,List.getElem?_eq_getElem hlt⟩
  obtain ⟨f,hf⟩ : ∃ f,fs[k]? = some f:=⟨_,List.getElem?_eq_getElem (by omega)⟩
  simp -dsimp -implicitDefEqProofs [he,hf,yI hlt,yI (hlen' ▸ hlt)]
  intro _
  refine ⟨_,_,yEl e f,by simp,.inr rfl,?_⟩
  simp -dsimp -implicitDefEqProofs
  refine ⟨fun h=>yby he hf h,fun h=>⟨yA hlt hl1,k + 1,⟨hlt,yaL he hf htk h⟩,by omega,by apply yj <;> simp [AV.yc,AV.yB,Obj.yc]⟩⟩
 ·simp -dsimp -implicitDefEqProofs [yau hge]
  intro _
  exact ya9 hge hlen' htk
structure Work where
 Lock : Lock
 Weir : Weir
 Rule : Rule
 Pauses : List Pause
 Turn : Turn
 Calls : List CallT
 deriving DecidableEq,Inhabited
@[simp] def Work.enc (e : Work) : List C:=[.i e.Lock.Length,.i e.Lock.Width,.i e.Lock.SillAbove,.i e.Lock.SillBelow,.i e.Lock.Base,.i e.Lock.Area,.i e.Lock.Rate,.i e.Lock.Water,.i e.Lock.Gate,.sl 2 (e.Lock.Inside.map Train.enc),.i e.Weir.Gates,.i e.Weir.Open,.i e.Weir.Step,.i e.Weir.Crest,.i e.Weir.Width,.i e.Rule.Low,.i e.Rule.High,.i e.Rule.Flood,.sl 2 (e.Pauses.map Pause.enc),.b e.Turn.Up,.i e.Turn.Count,.sl 4 (e.Calls.map CallT.enc)]
-- Work
def yc6 (e : Work) (l : Int) : Int:=ybh (yi3 e.Lock l) fun l=>ybh (ykC e.Pauses l) fun l=>ybh (ygl e.Calls l) fun l=>l
def Work.small (e : Work) : Prop:=e.Lock.small ∧ yhx e.Pauses ∧ ygk e.Calls
theorem yt3 : yeV yc6 Work.small:=by
 intro e l h0 h1
 unfold yc6
 rcases yti e.Lock _ h0 h1 with e0 | ⟨a0,b0,s0⟩
 ·exact .inl (yN (by omega))
 rw [yw a0]
 rcases ypr e.Pauses _ a0 (by omega) with e1 | ⟨a1,b1,s1⟩
 ·exact .inl (yN (by omega))
 rw [yw a1]
 rcases yzc e.Calls _ a1 (by omega) with e2 | ⟨a2,b2,s2⟩
 ·exact .inl (yN (by omega))
 rw [yw a2]
 exact .inr ⟨a2,by omega,s0,s1,s2⟩
theorem yBM (e : Work) (l : Int) (h0 : 0 ≤ l) (h1 : l ≤ 1048576) : yE Tryz.prog yjw [.agg (e.enc.map .c),.c (.i l)] (.c (.i (yc6 e l))):=by
 refine yu yvz (by simp) fun hwf=>?_
 simp -dsimp -implicitDefEqProofs [yoi]
 refine yg (yBb e.Lock _ h0 h1) (by simp) rfl ?_
 simp -dsimp -implicitDefEqProofs
 refine ⟨fun h=>by simp [yc6,yN h],fun p0=>?_⟩
 have q0:=ylI yti e.Lock h0 h1 p0
 refine yg (yy2 e.Pauses _ p0 q0) (by simp) rfl ?_
 simp -dsimp -implicitDefEqProofs
 refine ⟨fun h=>by simp [yc6,yw p0,yN h],fun p1=>?_⟩
 have q1:=ylI ypr e.Pauses p0 q0 p1
 refine yg (yzJ e.Calls _ p1 q1) (by simp) rfl ?_
 simp -dsimp -implicitDefEqProofs
 refine ⟨fun h=>by simp [yc6,yw p0,yw p1,yN h],fun p2=>?_⟩
 simp [yc6,yw p0,yw p1,yw p2]
theorem yCF (e : Work) (hl : Work.small e) : yE Tryz.prog ygf [.agg (e.enc.map .c)] (.agg (e.enc.map .c)):=by
 refine yu yoJ (by simp) fun hwf=>?_
 simp -dsimp -implicitDefEqProofs [yjB]
 refine yL (yC6 e.Lock (hl.1)) (by simp) rfl ?_
 simp -dsimp -implicitDefEqProofs
 refine yL (yyq e.Weir) (by simp) rfl ?_
 simp -dsimp -implicitDefEqProofs
 refine yL (yzh e.Rule) (by simp) rfl ?_
 simp -dsimp -implicitDefEqProofs
 refine yL (yzZ e.Pauses (hl.2.1)) (by simp) rfl ?_
 simp -dsimp -implicitDefEqProofs
 refine yL (yyi e.Turn) (by simp) rfl ?_
 simp -dsimp -implicitDefEqProofs
 refine yL (yBU e.Calls (hl.2.2)) (by simp) rfl ?_
 simp -dsimp -implicitDefEqProofs
theorem yDC (a b : Work) : yE Tryz.prog yjA [.agg (a.enc.map .c),.agg (b.enc.map .c)] (.c (.b (decide (a = b)))):=by
 refine yu yuI (by simp) fun hwf=>?_
 obtain ⟨a0,a1,a2,a3,a4,a5⟩:=a
 obtain ⟨b0,b1,b2,b3,b4,b5⟩:=b
 simp -dsimp -implicitDefEqProofs [yov,Work.mk.injEq]
 refine yg (yCK a0 b0) (by simp) rfl ?_
 simp -dsimp -implicitDefEqProofs
 refine ⟨fun h=>by simp_all,fun h0=>?_⟩
 refine yg (yEw a1 b1) (by simp) rfl ?_
 simp -dsimp -implicitDefEqProofs
 refine ⟨fun h=>by simp_all,fun h1=>?_⟩
 refine yg (yDU a2 b2) (by simp) rfl ?_
 simp -dsimp -implicitDefEqProofs
 refine ⟨fun h=>by simp_all,fun h2=>?_⟩
 refine yg (yzQ a3 b3) (by simp) rfl ?_
 simp -dsimp -implicitDefEqProofs
 refine ⟨fun h=>by simp_all,fun h3=>?_⟩
 refine yg (yC9 a4 b4) (by simp) rfl ?_
 simp -dsimp -implicitDefEqProofs
 refine ⟨fun h=>by simp_all,fun h4=>?_⟩
 refine yg (yBc a5 b5) (by simp) rfl ?_
 simp -dsimp -implicitDefEqProofs
 refine ⟨fun h=>by simp_all,fun h5=>?_⟩
 simp_all
def yc2 (w : Weir) : Bool:=inRange w.Gates 1 8 && inRange w.Open 0 (10 * w.Gates) && inRange w.Step 1 80 && inRange w.Crest 0 100000 && inRange w.Width 1 1000
theorem yx7 (w : Weir) : yE Tryz.prog yj1 [.agg (w.enc.map .c)] (.c (.b (yc2 w))):=by
 refine yu yuC (by simp) fun hwf=>?_
 simp -dsimp -implicitDefEqProofs [yoM]
 refine yg (yH w.Gates 1 8) (by simp) rfl ?_
 cases h0 : inRange w.Gates 1 8 with
 | false=>simp -dsimp -implicitDefEqProofs; simp [yc2,h0]
 | true =>
 simp -dsimp -implicitDefEqProofs
 refine ⟨by have:=yU.1 h0; unfold inI; omega,?_⟩
 refine yg (yH w.Open 0 (10 * w.Gates)) (by simp) rfl ?_
 cases h1 : inRange w.Open 0 (10 * w.Gates) with
 | false=>simp -dsimp -implicitDefEqProofs; simp [yc2,h0,h1]
 | true =>
 simp -dsimp -implicitDefEqProofs
 refine yg (yH w.Step 1 80) (by simp) rfl ?_
 cases h2 : inRange w.Step 1 80 with
 | false=>simp -dsimp -implicitDefEqProofs; simp [yc2,h0,h1,h2]
 | true =>
 simp -dsimp -implicitDefEqProofs
 refine yg (yH w.Crest 0 100000) (by simp) rfl ?_
 cases h3 : inRange w.Crest 0 100000 with
 | false=>simp -dsimp -implicitDefEqProofs; simp [yc2,h0,h1,h2,h3]
 | true =>
 simp -dsimp -implicitDefEqProofs
 refine yg (yH w.Width 1 1000) (by simp) rfl ?_
 cases h4 : inRange w.Width 1 1000 with
 | false=>simp -dsimp -implicitDefEqProofs; simp [yc2,h0,h1,h2,h3,h4]
 | true =>
  simp -dsimp -implicitDefEqProofs; simp [yc2,h0,h1,h2,h3,h4]
theorem yx4 (w : Weir) : yE Tryz.prog yjD [.agg (w.enc.map .c)] (.c (.b (yc2 w))):=by
 refine yu yu3 (by simp) fun hwf=>?_
 simp -dsimp -implicitDefEqProofs [yos]
 refine yg (yF w.Gates 1 8) (by simp) rfl ?_
 cases h0 : inRange w.Gates 1 8 with
 | false=>simp -dsimp -implicitDefEqProofs; simp [yc2,h0]
 | true =>
 simp -dsimp -implicitDefEqProofs
 refine ⟨by have:=yU.1 h0; unfold inI; omega,?_⟩
 refine yg (yF w.Open 0 (10 * w.Gates)) (by simp) rfl ?_
 cases h1 : inRange w.Open 0 (10 * w.Gates) with
 | false=>simp -dsimp -implicitDefEqProofs; simp [yc2,h0,h1]
 | true =>
 simp -dsimp -implicitDefEqProofs
 refine yg (yF w.Step 1 80) (by simp) rfl ?_
 cases h2 : inRange w.Step 1 80 with
 | false=>simp -dsimp -implicitDefEqProofs; simp [yc2,h0,h1,h2]
 | true =>
 simp -dsimp -implicitDefEqProofs
 refine yg (yF w.Crest 0 100000) (by simp) rfl ?_
 cases h3 : inRange w.Crest 0 100000 with
 | false=>simp -dsimp -implicitDefEqProofs; simp [yc2,h0,h1,h2,h3]
 | true =>
 simp -dsimp -implicitDefEqProofs
 refine yg (yF w.Width 1 1000) (by simp) rfl ?_
 cases h4 : inRange w.Width 1 1000 with
 | false=>simp -dsimp -implicitDefEqProofs; simp [yc2,h0,h1,h2,h3,h4]
 | true =>
  simp -dsimp -implicitDefEqProofs; simp [yc2,h0,h1,h2,h3,h4]
def yfr (r : Rule) : Bool:=inRange r.Low 0 100000 && inRange r.High 0 100000 && inRange r.Flood 0 100000 && decide (r.Low < r.High) && decide (r.High ≤ r.Flood)
theorem yyo (r : Rule) : yE Tryz.prog yj2 [.agg (r.enc.map .c)] (.c (.b (yfr r))):=by
 refine yu yuJ (by simp) fun hwf=>?_
 simp -dsimp -implicitDefEqProofs [yoD]
 refine yg (yH r.Low 0 100000) (by simp) rfl ?_
 cases h0 : inRange r.Low 0 100000 with
 | false=>simp -dsimp -implicitDefEqProofs; simp [yfr,h0]
 | true =>
 simp -dsimp -implicitDefEqProofs
 refine yg (yH r.High 0 100000) (by simp) rfl ?_
 cases h1 : inRange r.High 0 100000 with
 | false=>simp -dsimp -implicitDefEqProofs; simp [yfr,h0,h1]
 | true =>
 simp -dsimp -implicitDefEqProofs
 refine yg (yH r.Flood 0 100000) (by simp) rfl ?_
 cases h2 : inRange r.Flood 0 100000 with
 | false=>simp -dsimp -implicitDefEqProofs; simp [yfr,h0,h1,h2]
 | true =>
 simp -dsimp -implicitDefEqProofs
 simp [yfr,h0,h1,h2]
 exact ⟨fun h _=>h,fun a b=>by omega⟩
theorem yx6 (r : Rule) : yE Tryz.prog yjF [.agg (r.enc.map .c)] (.c (.b (yfr r))):=by
 refine yu yu4 (by simp) fun hwf=>?_
 simp -dsimp -implicitDefEqProofs [yoz]
 refine yg (yeq r.Low) (by simp) rfl ?_
 cases h0 : inRange r.Low 0 100000 with
 | false=>simp -dsimp -implicitDefEqProofs; simp [yfr,h0]
 | true =>
 simp -dsimp -implicitDefEqProofs
 refine yg (yeq r.High) (by simp) rfl ?_
 cases h1 : inRange r.High 0 100000 with
 | false=>simp -dsimp -implicitDefEqProofs; simp [yfr,h0,h1]
 | true =>
 simp -dsimp -implicitDefEqProofs
 refine yg (yeq r.Flood) (by simp) rfl ?_
 cases h2 : inRange r.Flood 0 100000 with
 | false=>simp -dsimp -implicitDefEqProofs; simp [yfr,h0,h1,h2]
 | true =>
 simp -dsimp -implicitDefEqProofs
 simp [yfr,h0,h1,h2]
 exact ⟨fun h _=>h,fun a b=>by omega⟩
def ysQ (t : Turn) : Bool:=inRange t.Count 0 1000000
theorem yx5 (t : Turn) : yE Tryz.prog yjz [.agg (t.enc.map .c)] (.c (.b (ysQ t))):=by
 refine yu yvs (by simp) fun hwf=>?_
 simp -dsimp -implicitDefEqProofs [yo1]
 refine yg (yH t.Count 0 1000000) (by simp) rfl ?_
 simp -dsimp -implicitDefEqProofs
 try rfl
theorem yyX (t : Turn) : yE Tryz.prog yjP [.agg (t.enc.map .c)] (.c (.b (ysQ t))):=by
 refine yu yuQ (by simp) fun hwf=>?_
 simp -dsimp -implicitDefEqProofs [yoQ]
 refine yg (yF t.Count 0 1000000) (by simp) rfl ?_
 simp -dsimp -implicitDefEqProofs
 try rfl
def yb0 (c : CallT) : Bool:=yR c.Train && inRange c.Since 0 1000000 && inRange c.Booked (-1) 1000000
theorem yy1 (c : CallT) (h : c.small) : yE Tryz.prog yjU [.agg (c.enc.map .c)] (.c (.b (yb0 c))):=by
 refine yu yvr (by simp) fun hwf=>?_
 simp -dsimp -implicitDefEqProofs [yof]
 refine yg (ydE c.Train h) (by simp) rfl ?_
 cases h0 : yR c.Train with
 | false=>simp -dsimp -implicitDefEqProofs; simp [yb0,h0]
 | true =>
 simp -dsimp -implicitDefEqProofs
 refine yg (yH c.Since 0 1000000) (by simp) rfl ?_
 cases h1 : inRange c.Since 0 1000000 with
 | false=>simp -dsimp -implicitDefEqProofs; simp [yb0,h0,h1]
 | true =>
 simp -dsimp -implicitDefEqProofs
 refine yg (yH c.Booked (-1) 1000000) (by simp) rfl ?_
 cases h2 : inRange c.Booked (-1) 1000000 with
 | false=>simp -dsimp -implicitDefEqProofs; simp [yb0,h0,h1,h2]
 | true =>
  simp -dsimp -implicitDefEqProofs; simp [yb0,h0,h1,h2]
theorem yze (c : CallT) (h : c.small) : yE Tryz.prog yjC [.agg (c.enc.map .c)] (.c (.b (yb0 c))):=by
 refine yu yvi (by simp) fun hwf=>?_
 simp -dsimp -implicitDefEqProofs [yog]
 refine yg (ydF c.Train h) (by simp) rfl ?_
 cases h0 : yR c.Train with
 | false=>simp -dsimp -implicitDefEqProofs; simp [yb0,h0]
 | true =>
 simp -dsimp -implicitDefEqProofs
 refine yg (yF c.Since 0 1000000) (by simp) rfl ?_
 cases h1 : inRange c.Since 0 1000000 with
 | false=>simp -dsimp -implicitDefEqProofs; simp [yb0,h0,h1]
 | true =>
 simp -dsimp -implicitDefEqProofs
 refine yg (yF c.Booked (-1) 1000000) (by simp) rfl ?_
 cases h2 : inRange c.Booked (-1) 1000000 with
 | false=>simp -dsimp -implicitDefEqProofs; simp [yb0,h0,h1,h2]
 | true =>
  simp -dsimp -implicitDefEqProofs; simp [yb0,h0,h1,h2]
def yc8 (b : Int) (p : Pause) : Bool:=!decide (p.From < b) && !decide (p.Until ≤ p.From) && !decide (1000000 < p.Until)
def ycr : Int → List Pause → Bool
 | _,[]=>true
 | b,p :: l=>yc8 b p && ycr p.Until l
def ycF (l : List Pause) : Bool:=decide (l.length ≤ 8) && ycr 0 l
theorem yrs {l : List Pause} {k : Nat} {p : Pause} {b : Int} (h : l[k]? = some p) : ycr b (l.drop k) = (yc8 b p && ycr p.Until (l.drop (k + 1))):=by
 have hlt:=(List.getElem?_eq_some_iff.1 h).1
 rw [List.drop_eq_getElem_cons hlt,(List.getElem?_eq_some_iff.1 h).2]; rfl
theorem yvy (l : List Pause) : yE Tryz.prog ygE [.c (.sl 2 (l.map Pause.enc))] (.c (.b (ycF l))):=by
 refine yu yrI (by simp) fun hwf=>?_
 simp -dsimp -implicitDefEqProofs [ylS]
 intro hlen
 refine ⟨fun h8=>(by simp [ycF]; omega),fun h8=>?_⟩
 refine fun _=>yh (ι:=Nat × Int) (fun q=>q.1 ≤ l.length ∧ ycr q.2 (l.drop q.1) = ycr 0 l) (fun q=>yT [(3,.c (.i q.2)),(9,.c (.sl 2 (l.map Pause.enc))),(10,.c (.i l.length)),(11,.c (.i q.1))] []) (fun q=>l.length - q.1) (0,0) (by simp) (by apply yj <;> simp [AV.yc,AV.yB,Obj.yc]) ?_
 rintro ⟨k,b⟩ ⟨hk,hf⟩
 simp only at hk hf
 rcases Nat.lt_or_ge k l.length with hlt | hge
 ·obtain ⟨p,hp⟩ : ∃ p,l[k]? = some p:=⟨_,List.getElem?_eq_getElem hlt⟩
  rw [yrs hp] at hf
  have bad : yc8 b p = false → ycF l = false:=fun e=>by rw [e,Bool.false_and] at hf; simp [ycF,← hf]
  simp -dsimp -implicitDefEqProofs [hp,yI hlt]
  refine ⟨fun h1=>?_,fun h1=>(bad (by simp [yc8]; omega))⟩
  refine ⟨fun h2=>?_,fun h2=>(bad (by simp [yc8]; omega))⟩
  refine ⟨fun h3=>(bad (by simp [yc8]; omega)),fun h3=>?_⟩
  have hok : yc8 b p = true:=by simp [yc8]; omega
  rw [hok,Bool.true_and] at hf
  exact ⟨yA hlt hlen,k + 1,p.Until,⟨hlt,hf⟩,by omega,by apply yj <;> simp [AV.yc,AV.yB,Obj.yc]⟩
 ·simp -dsimp -implicitDefEqProofs [yau hge]
  rw [List.drop_of_length_le hge] at hf
  have h8' : l.length ≤ 8:=by omega
  simp [ycF,h8',← hf,ycr]
theorem yuY (l : List Pause) : yE Tryz.prog ygK [.c (.sl 2 (l.map Pause.enc))] (.c (.b (ycF l))):=by
 refine yu ysc (by simp) fun hwf=>?_
 simp -dsimp -implicitDefEqProofs [yl3]
 refine yh (ι:=Nat × Int) (fun q=>q.1 ≤ l.length ∧ ycr q.2 (l.drop q.1) = ycr 0 l) (fun q=>yT [(0,.c (.sl 2 (l.map Pause.enc))),(3,.c (.i q.2)),(4,.c (.i q.1))] []) (fun q=>l.length - q.1) (0,0) (by simp) (by apply yj <;> simp [AV.yc,AV.yB,Obj.yc]) ?_
 rintro ⟨k,b⟩ ⟨hk,hf⟩
 simp only at hk hf
 rcases Nat.lt_or_ge k l.length with hlt | hge
 ·obtain ⟨p,hp⟩ : ∃ p,l[k]? = some p:=⟨_,List.getElem?_eq_getElem hlt⟩
  rw [yrs hp] at hf
  have bad : yc8 b p = false → ycF l = false:=fun e=>by rw [e,Bool.false_and] at hf; simp [ycF,← hf]
  simp -dsimp -implicitDefEqProofs [hp,yI hlt]
  intro hlen
  refine ⟨fun h1=>?_,fun h1=>(bad (by simp [yc8]; omega))⟩
  refine ⟨fun h2=>?_,fun h2=>(bad (by simp [yc8]; omega))⟩
  refine ⟨fun h3=>(bad (by simp [yc8]; omega)),fun h3=>?_⟩
  have hok : yc8 b p = true:=by simp [yc8]; omega
  rw [hok,Bool.true_and] at hf
  exact ⟨yA hlt hlen,k + 1,p.Until,⟨hlt,hf⟩,by omega,by apply yj <;> simp [AV.yc,AV.yB,Obj.yc]⟩
 ·simp -dsimp -implicitDefEqProofs [yau hge]
  rw [List.drop_of_length_le hge] at hf
  simp [ycF,← hf,ycr]
  try omega
def yaG (l : List Train) (k : Nat) : List Int:=(l.take k).flatMap yaT
def seenAt (l : List Train) (k : Nat) (t : Train) (j : Nat) : List Int:=yaG l k ++ (yaT t).take j
def Distinct (l : List Train) : Bool:=decide (l.length ≤ 8) && l.all yR && decide ((l.flatMap yaT).Nodup)
theorem yhC {l : List Train} : yaG l 0 = []:=rfl
theorem yht {l : List Train} {k : Nat} {t : Train} (h : l[k]? = some t) : yaG l (k + 1) = yaG l k ++ yaT t:=by
 unfold yaG; rw [List.take_succ,h,List.flatMap_append]; simp
theorem yry {l : List Train} {k : Nat} (h : l.length ≤ k) : yaG l k = l.flatMap yaT:=by
 unfold yaG; rw [List.take_of_length_le h]
theorem yvp {l : List Train} {k : Nat} {t : Train} (h : l[k]? = some t) : ∃ m,l.flatMap yaT = yaG l k ++ yaT t ++ m:=by
 refine ⟨(l.drop (k + 1)).flatMap yaT,?_⟩
 rw [← yht h]
 unfold yaG
 rw [← List.flatMap_append,List.take_append_drop]
theorem yrf {l : List Train} {k : Nat} {t : Train} : seenAt l k t 0 = yaG l k:=by simp [seenAt]
theorem yrr {l : List Train} {k j : Nat} {t : Train} {x : Int} (h : (yaT t)[j]? = some x) : seenAt l k t (j + 1) = seenAt l k t j ++ [x]:=by
 unfold seenAt; rw [List.take_succ,h]; simp
theorem ysW {l : List Train} {k j : Nat} {t : Train} (ht : l[k]? = some t) (h : (yaT t).length ≤ j) : seenAt l k t j = yaG l (k + 1):=by
 unfold seenAt; rw [List.take_of_length_le h,yht ht]
theorem yrg {l : List Train} (k : Nat) (h : ∀ t ∈ l.take k,yR t = true) : (yaG l k).length ≤ 6 * k:=by
 have key : ∀ (m : List Train),(∀ t ∈ m,yR t = true) → (m.flatMap yaT).length ≤ 6 * m.length:=by
  intro m
  induction m with
  | nil=>simp
  | cons t m ih =>
   intro hm
   have h1:=ywG (hm t (by simp))
   have h2:=ih fun x hx=>hm x (by simp [hx])
   simp only [List.flatMap_cons,List.length_append,List.length_cons]; omega
 have:=key (l.take k) h
 have h2 : (l.take k).length ≤ k:=by rw [List.length_take]; omega
 unfold yaG; omega
theorem twice {l : List Train} {k j : Nat} {t : Train} {x : Int} (ht : l[k]? = some t) (hx : (yaT t)[j]? = some x) (hm : x ∈ seenAt l k t j) : Distinct l = false:=by
 have : ¬ (l.flatMap yaT).Nodup:=by
  intro hn
  obtain ⟨m,e⟩:=yvp ht
  have hlt:=(List.getElem?_eq_some_iff.1 hx).1
  have e2 : yaT t = (yaT t).take j ++ x :: (yaT t).drop (j + 1):=by
   conv=>lhs; rw [← List.take_append_drop j (yaT t)]
   rw [List.drop_eq_getElem_cons hlt,(List.getElem?_eq_some_iff.1 hx).2]
  have e3 : l.flatMap yaT = seenAt l k t j ++ x :: ((yaT t).drop (j + 1) ++ m):=by
   rw [e]; unfold seenAt; conv=>lhs; rw [e2]
   simp
  rw [e3] at hn
  exact (List.nodup_append.1 hn).2.2 x hm x (by simp) rfl
 simp [Distinct,this]
theorem yvO {l : List Train} {k : Nat} {t : Train} (ht : l[k]? = some t) (h : yR t = false) : Distinct l = false:=by
 have : l.all yR = false:=all_false (p:=yR) ht h
 simp only [Distinct,this,Bool.and_false,Bool.false_and]
theorem yqY (l : List Train) (hs : ybM l) : yE Tryz.prog yc3 [.c (.sl 2 (l.map Train.enc))] (.c (.b (Distinct l))):=by
 refine yu ymm (by simp) fun hwf=>?_
 simp -dsimp -implicitDefEqProofs [yfB]
 intro hlen
 refine ⟨fun h8=>(by simp [Distinct]; omega),fun h8=>?_⟩
 intro _
 refine yqL (k0:=1) 3 1 (by simp) (by simp) (by decide) ?_
 refine yh (ι:=Nat) (fun k=>k ≤ l.length ∧ (∀ t ∈ l.take k,yR t = true) ∧ (yaG l k).Nodup) (fun k=>yT [(3,.own 3 1 (yaG l k).length),(11,.c (.sl 2 (l.map Train.enc))),(12,.c (.i l.length)),(13,.c (.i k))] [(3,.row 1 ((yaG l k).map yJ))]) (fun k=>l.length - k) 0 (by simp [yhC]) (by apply yj <;> simp [AV.yc,AV.yB,Obj.yc,yhC]) ?_
 rintro k ⟨hk,hall,hnd⟩
 rcases Nat.lt_or_ge k l.length with hlt | hge
 ·obtain ⟨t,ht⟩ : ∃ t,l[k]? = some t:=⟨_,List.getElem?_eq_getElem hlt⟩
  have hts:=hs.2 t (List.mem_of_getElem? ht)
  simp -dsimp -implicitDefEqProofs [ht,yI hlt]
  refine yg (ydE t hts) (by simp) rfl ?_
  cases h1 : yR t with
  | false=>simp -dsimp -implicitDefEqProofs; exact yvO ht h1
  | true =>
   have hall':=yO (p:=yR) ht hall h1
   have hil:=ywG h1
   have hul:=yrg k hall
   simp -dsimp -implicitDefEqProofs
   refine yL (yy4 t hts) (by simp) rfl ?_
   simp -dsimp -implicitDefEqProofs
   intro _
   refine yh (ι:=Nat) (fun j=>j ≤ (yaT t).length ∧ (seenAt l k t j).Nodup) (fun j=>yT [(3,.own 3 1 (seenAt l k t j).length),(11,.c (.sl 2 (l.map Train.enc))),(12,.c (.i l.length)),(13,.c (.i k)),(21,.c (.sl 1 ((yaT t).map yJ))),(22,.c (.i (yaT t).length)),(23,.c (.i j))] [(3,.row 1 ((seenAt l k t j).map yJ))]) (fun j=>(yaT t).length - j) 0 ⟨by simp,by rw [yrf]; exact hnd⟩ (by apply yj <;> simp [AV.yc,AV.yB,Obj.yc,yrf]) ?_
   rintro j ⟨hj,hnj⟩
   have hsl : (seenAt l k t j).length ≤ 60:=by unfold seenAt; rw [List.length_append,List.length_take]; omega
   rcases Nat.lt_or_ge j (yaT t).length with hlt2 | hge2
   ·obtain ⟨x,hx⟩ : ∃ x,(yaT t)[j]? = some x:=⟨_,List.getElem?_eq_getElem hlt2⟩
    simp -dsimp -implicitDefEqProofs [hx,yI hlt2]
    refine yg (yuu (seenAt l k t j) x) (by simp [yq5]) rfl ?_
    simp -dsimp -implicitDefEqProofs
    refine ⟨fun h2=>(twice ht hx h2),fun h2=>?_⟩
    have hn2 : (seenAt l k t (j + 1)).Nodup:=by
     rw [yrr hx]
     exact List.nodup_append.2 ⟨hnj,by simp,fun a ha b hb e=>by simp at hb; subst hb; subst e; exact h2 ha⟩
    refine ⟨by omega,by unfold inI; omega,j + 1,⟨hlt2,hn2⟩,by omega,?_⟩
    apply yj <;> simp [AV.yc,AV.yB,Obj.yc,yrr hx]
   ·simp -dsimp -implicitDefEqProofs [yau hge2]
    rw [ysW ht hge2] at hnj
    refine ⟨by unfold inI; omega,k + 1,⟨hlt,hall',hnj⟩,by omega,?_⟩
    apply yj <;> simp [AV.yc,AV.yB,Obj.yc,ysW ht hge2]
 ·simp -dsimp -implicitDefEqProofs [yau hge]
  rw [yry hge] at hnd
  have h1:=yaa (p:=yR) hge hall
  have h8' : l.length ≤ 8:=by omega
  simp [Distinct,h1,hnd,h8']
theorem ys1 (l : List Train) (hs : ybM l) (h8 : l.length ≤ 8) (hok : ∀ t ∈ l,yR t = true) : yE Tryz.prog ydK [.c (.sl 2 (l.map Train.enc))] (.c (.b (decide ((l.flatMap yaT).Nodup)))):=by
 refine yu yn6 (by simp) fun hwf=>?_
 have fin : Distinct l = false → decide ((l.flatMap yaT).Nodup) = false:=by
  intro h
  have h1 : l.all yR = true:=List.all_eq_true.2 hok
  simpa [Distinct,h1,h8] using h
 simp -dsimp -implicitDefEqProofs [yhr]
 refine yh (ι:=Nat) (fun k=>k ≤ l.length ∧ (yaG l k).Nodup) (fun k=>yT [(0,.c (.sl 2 (l.map Train.enc))),(3,.own 8 1 (yaG l k).length),(4,.c (.i k))] [(8,.row 1 ((yaG l k).map yJ))]) (fun k=>l.length - k) 0 (by simp [yhC]) (by apply yj <;> simp [AV.yc,AV.yB,Obj.yc,yhC]) ?_
 rintro k ⟨hk,hnd⟩
 rcases Nat.lt_or_ge k l.length with hlt | hge
 ·obtain ⟨t,ht⟩ : ∃ t,l[k]? = some t:=⟨_,List.getElem?_eq_getElem hlt⟩
  have hts:=hs.2 t (List.mem_of_getElem? ht)
  have h1:=hok t (List.mem_of_getElem? ht)
  have hil:=ywG h1
  have hul:=yrg (l:=l) k (fun t ht=>hok t (List.mem_of_mem_take ht))
  simp -dsimp -implicitDefEqProofs [ht,yI hlt]
  intro hlen
  refine yL (yzw t hts) (by simp) rfl ?_
  simp -dsimp -implicitDefEqProofs
  refine yh (ι:=Nat) (fun i=>i ≤ (yaT t).length ∧ ∀ x ∈ (yaT t).take i,x ∉ yaG l k) (fun i=>yT [(0,.c (.sl 2 (l.map Train.enc))),(3,.own 8 1 (yaG l k).length),(4,.c (.i k)),(5,.c (.sl 1 ((yaT t).map yJ))),(6,.c (.i i))] [(8,.row 1 ((yaG l k).map yJ))]) (fun i=>(yaT t).length - i) 0 (by simp) (by apply yj <;> simp [AV.yc,AV.yB,Obj.yc]) ?_
  rintro i ⟨hi,hni⟩
  rcases Nat.lt_or_ge i (yaT t).length with hlt2 | hge2
  ·obtain ⟨x,hx⟩ : ∃ x,(yaT t)[i]? = some x:=⟨_,List.getElem?_eq_getElem hlt2⟩
   simp -dsimp -implicitDefEqProofs [yI hlt2]
   intro _
   refine yh (ι:=Nat) (fun j=>j ≤ (yaG l k).length ∧ ∀ y ∈ (yaG l k).take j,y ≠ x) (fun j=>yT [(0,.c (.sl 2 (l.map Train.enc))),(3,.own 8 1 (yaG l k).length),(4,.c (.i k)),(5,.c (.sl 1 ((yaT t).map yJ))),(6,.c (.i i)),(7,.c (.i j))] [(8,.row 1 ((yaG l k).map yJ))]) (fun j=>(yaG l k).length - j) 0 (by simp) (by apply yj <;> simp [AV.yc,AV.yB,Obj.yc]) ?_
   rintro j ⟨hj,hnj⟩
   rcases Nat.lt_or_ge j (yaG l k).length with hlt3 | hge3
   ·obtain ⟨y,hy⟩ : ∃ y,(yaG l k)[j]? = some y:=⟨_,List.getElem?_eq_getElem hlt3⟩
    have bad : y = x → ¬ (l.flatMap yaT).Nodup:=fun e=>by
     have:=fin (twice ht hx (by unfold seenAt; rw [← e]; exact List.mem_append_left _ (List.mem_of_getElem? hy)))
     simpa using this
    generalize yaG l k = u at *
    have g1:=(List.getElem?_eq_some_iff.1 hy).2
    simp -dsimp -implicitDefEqProofs [hx,yI hlt2,hy,g1,yI hlt3,hlt3]
    intro _
    refine ⟨fun h2=>(bad h2),fun h2=>?_⟩
    refine ⟨by unfold inI; omega,j + 1,⟨hlt3,?_⟩,by omega,?_⟩
    ·rw [List.take_succ,hy]
     intro z hz
     rcases List.mem_append.1 hz with hz | hz
     ·exact hnj z hz
     ·simp at hz; subst hz; exact h2
    ·apply yj <;> simp [AV.yc,AV.yB,Obj.yc]
   ·rw [List.take_of_length_le hge3] at hnj
    simp -dsimp -implicitDefEqProofs [yau hge3]
    intro _
    refine ⟨by unfold inI; omega,i + 1,⟨hlt2,?_⟩,by omega,by apply yj <;> simp [AV.yc,AV.yB,Obj.yc]⟩
    rw [List.take_succ,hx]
    intro z hz
    rcases List.mem_append.1 hz with hz | hz
    ·exact hni z hz
    ·simp at hz; subst hz; exact fun hm=>hnj _ hm rfl
  ·rw [List.take_of_length_le hge2] at hni
   simp -dsimp -implicitDefEqProofs [yau hge2]
   have hnd2 : (yaG l (k + 1)).Nodup:=by
    rw [yht ht]
    exact List.nodup_append.2 ⟨hnd,yIf h1,fun a ha b hb e=>hni b hb (e ▸ ha)⟩
   refine fun _=>⟨by omega,by unfold inI; omega,k + 1,⟨hlt,hnd2⟩,by omega,?_⟩
   apply yj <;> simp [AV.yc,AV.yB,Obj.yc,yht ht]
 ·simp -dsimp -implicitDefEqProofs [yau hge]
  rw [yry hge] at hnd
  simp [hnd]
theorem yyz (l : List Train) (hs : ybM l) : yE Tryz.prog yfR [.c (.sl 2 (l.map Train.enc))] (.c (.b (Distinct l))):=by
 refine yu yqz (by simp) fun hwf=>?_
 simp -dsimp -implicitDefEqProofs [ykh]
 refine yh (ι:=Nat) (fun k=>k ≤ l.length ∧ (∀ t ∈ l.take k,yR t = true) ∧ (k ≠ 0 → l.length ≤ 8)) (fun k=>yT [(0,.c (.sl 2 (l.map Train.enc))),(3,.c (.i k))] []) (fun k=>l.length - k) 0 (by simp) (by apply yj <;> simp [AV.yc,AV.yB,Obj.yc]) ?_
 rintro k ⟨hk,hall,h8⟩
 rcases Nat.lt_or_ge k l.length with hlt | hge
 ·obtain ⟨t,ht⟩ : ∃ t,l[k]? = some t:=⟨_,List.getElem?_eq_getElem hlt⟩
  have hts:=hs.2 t (List.mem_of_getElem? ht)
  simp -dsimp -implicitDefEqProofs [ht,yI hlt]
  intro hlen
  refine yg (ydF t hts) (by simp) rfl ?_
  cases h1 : yR t with
  | false=>simp -dsimp -implicitDefEqProofs; exact yvO ht h1
  | true =>
   have hall':=yO (p:=yR) ht hall h1
   simp -dsimp -implicitDefEqProofs
   intro _
   refine ⟨fun h9=>(by simp [Distinct]; omega),fun h9=>?_⟩
   have h9' : l.length ≤ 8:=by omega
   exact ⟨yA hlt hlen,k + 1,⟨hlt,hall',fun _=>h9'⟩,by omega,by apply yj <;> simp [AV.yc,AV.yB,Obj.yc]⟩
 ·have h1:=yaa (p:=yR) hge hall
  have h8' : l.length ≤ 8:=by
   rcases Nat.eq_zero_or_pos k with e | e
   ·omega
   ·exact h8 (by omega)
  simp -dsimp -implicitDefEqProofs [yau hge]
  intro _
  refine yg (ys1 l hs h8' (List.all_eq_true.1 h1)) (by simp) rfl ?_
  simp -dsimp -implicitDefEqProofs
  simp [Distinct,h1,h8']
def ybc (k : Lock) : Bool:=inRange k.Length 1 1000 && inRange k.Width 1 100 && inRange k.SillAbove 0 100000 && inRange k.SillBelow 0 100000 && inRange k.Base 0 100000 && inRange k.Area 1 10000 && inRange k.Rate 1 100000 && inRange k.Water 0 1000000000 && inRange k.Gate 0 2 && Distinct k.Inside
theorem yyH (k : Lock) (h : k.small) : yE Tryz.prog yj7 [.agg (k.enc.map .c)] (.c (.b (ybc k))):=by
 refine yu yvn (by simp) fun hwf=>?_
 simp -dsimp -implicitDefEqProofs [yoB]
 refine yg (yH k.Length 1 1000) (by simp) rfl ?_
 cases h0 : inRange k.Length 1 1000 with
 | false=>simp -dsimp -implicitDefEqProofs; simp [ybc,h0]
 | true =>
 simp -dsimp -implicitDefEqProofs
 refine yg (yH k.Width 1 100) (by simp) rfl ?_
 cases h1 : inRange k.Width 1 100 with
 | false=>simp -dsimp -implicitDefEqProofs; simp [ybc,h0,h1]
 | true =>
 simp -dsimp -implicitDefEqProofs
 refine yg (yH k.SillAbove 0 100000) (by simp) rfl ?_
 cases h2 : inRange k.SillAbove 0 100000 with
 | false=>simp -dsimp -implicitDefEqProofs; simp [ybc,h0,h1,h2]
 | true =>
 simp -dsimp -implicitDefEqProofs
 refine yg (yH k.SillBelow 0 100000) (by simp) rfl ?_
 cases h3 : inRange k.SillBelow 0 100000 with
 | false=>simp -dsimp -implicitDefEqProofs; simp [ybc,h0,h1,h2,h3]
 | true =>
 simp -dsimp -implicitDefEqProofs
 refine yg (yH k.Base 0 100000) (by simp) rfl ?_
 cases h4 : inRange k.Base 0 100000 with
 | false=>simp -dsimp -implicitDefEqProofs; simp [ybc,h0,h1,h2,h3,h4]
 | true =>
 simp -dsimp -implicitDefEqProofs
 refine yg (yH k.Area 1 10000) (by simp) rfl ?_
 cases h5 : inRange k.Area 1 10000 with
 | false=>simp -dsimp -implicitDefEqProofs; simp [ybc,h0,h1,h2,h3,h4,h5]
 | true =>
 simp -dsimp -implicitDefEqProofs
 refine yg (yH k.Rate 1 100000) (by simp) rfl ?_
 cases h6 : inRange k.Rate 1 100000 with
 | false=>simp -dsimp -implicitDefEqProofs; simp [ybc,h0,h1,h2,h3,h4,h5,h6]
 | true =>
 simp -dsimp -implicitDefEqProofs
 refine yg (yH k.Water 0 1000000000) (by simp) rfl ?_
 cases h7 : inRange k.Water 0 1000000000 with
 | false=>simp -dsimp -implicitDefEqProofs; simp [ybc,h0,h1,h2,h3,h4,h5,h6,h7]
 | true =>
 simp -dsimp -implicitDefEqProofs
 refine yg (yH k.Gate 0 2) (by simp) rfl ?_
 cases h8 : inRange k.Gate 0 2 with
 | false=>simp -dsimp -implicitDefEqProofs; simp [ybc,h0,h1,h2,h3,h4,h5,h6,h7,h8]
 | true =>
 simp -dsimp -implicitDefEqProofs
 refine yg (yqY k.Inside h) (by simp) rfl ?_
 cases h9 : Distinct k.Inside with
 | false=>simp -dsimp -implicitDefEqProofs; simp [ybc,h0,h1,h2,h3,h4,h5,h6,h7,h8,h9]
 | true =>
  simp -dsimp -implicitDefEqProofs; simp [ybc,h0,h1,h2,h3,h4,h5,h6,h7,h8,h9]
theorem yxY (k : Lock) (h : k.small) : yE Tryz.prog yj5 [.agg (k.enc.map .c)] (.c (.b (ybc k))):=by
 refine yu yvq (by simp) fun hwf=>?_
 simp -dsimp -implicitDefEqProofs [yok]
 refine yg (yF k.Length 1 1000) (by simp) rfl ?_
 cases h0 : inRange k.Length 1 1000 with
 | false=>simp -dsimp -implicitDefEqProofs; simp [ybc,h0]
 | true =>
 simp -dsimp -implicitDefEqProofs
 refine yg (yF k.Width 1 100) (by simp) rfl ?_
 cases h1 : inRange k.Width 1 100 with
 | false=>simp -dsimp -implicitDefEqProofs; simp [ybc,h0,h1]
 | true =>
 simp -dsimp -implicitDefEqProofs
 refine yg (yeq k.SillAbove) (by simp) rfl ?_
 cases h2 : inRange k.SillAbove 0 100000 with
 | false=>simp -dsimp -implicitDefEqProofs; simp [ybc,h0,h1,h2]
 | true =>
 simp -dsimp -implicitDefEqProofs
 refine yg (yeq k.SillBelow) (by simp) rfl ?_
 cases h3 : inRange k.SillBelow 0 100000 with
 | false=>simp -dsimp -implicitDefEqProofs; simp [ybc,h0,h1,h2,h3]
 | true =>
 simp -dsimp -implicitDefEqProofs
 refine yg (yeq k.Base) (by simp) rfl ?_
 cases h4 : inRange k.Base 0 100000 with
 | false=>simp -dsimp -implicitDefEqProofs; simp [ybc,h0,h1,h2,h3,h4]
 | true =>
 simp -dsimp -implicitDefEqProofs
 refine yg (yF k.Area 1 10000) (by simp) rfl ?_
 cases h5 : inRange k.Area 1 10000 with
 | false=>simp -dsimp -implicitDefEqProofs; simp [ybc,h0,h1,h2,h3,h4,h5]
 | true =>
 simp -dsimp -implicitDefEqProofs
 refine yg (yF k.Rate 1 100000) (by simp) rfl ?_
 cases h6 : inRange k.Rate 1 100000 with
 | false=>simp -dsimp -implicitDefEqProofs; simp [ybc,h0,h1,h2,h3,h4,h5,h6]
 | true =>
 simp -dsimp -implicitDefEqProofs
 refine yg (yF k.Water 0 1000000000) (by simp) rfl ?_
 cases h7 : inRange k.Water 0 1000000000 with
 | false=>simp -dsimp -implicitDefEqProofs; simp [ybc,h0,h1,h2,h3,h4,h5,h6,h7]
 | true =>
 simp -dsimp -implicitDefEqProofs
 refine yg (yF k.Gate 0 2) (by simp) rfl ?_
 cases h8 : inRange k.Gate 0 2 with
 | false=>simp -dsimp -implicitDefEqProofs; simp [ybc,h0,h1,h2,h3,h4,h5,h6,h7,h8]
 | true =>
 simp -dsimp -implicitDefEqProofs
 refine yg (yyz k.Inside h) (by simp) rfl ?_
 cases h9 : Distinct k.Inside with
 | false=>simp -dsimp -implicitDefEqProofs; simp [ybc,h0,h1,h2,h3,h4,h5,h6,h7,h8,h9]
 | true =>
  simp -dsimp -implicitDefEqProofs; simp [ybc,h0,h1,h2,h3,h4,h5,h6,h7,h8,h9]
def ya8 (w : Work) : Bool:=ybc w.Lock && yc2 w.Weir && yfr w.Rule && ycF w.Pauses && ysQ w.Turn && decide (w.Calls.length ≤ 24) && w.Calls.all yb0
theorem wk1 {w : Work} (h : ybc w.Lock = false) : ya8 w = false:=by simp [ya8,h]
theorem wk2 {w : Work} (h : yc2 w.Weir = false) : ya8 w = false:=by simp [ya8,h]
theorem wk3 {w : Work} (h : yfr w.Rule = false) : ya8 w = false:=by simp [ya8,h]
theorem wk4 {w : Work} (h : ycF w.Pauses = false) : ya8 w = false:=by simp [ya8,h]
theorem wk5 {w : Work} (h : ysQ w.Turn = false) : ya8 w = false:=by simp [ya8,h]
theorem wk6 {w : Work} (h : 24 < w.Calls.length) : ya8 w = false:=by
 have : ¬ w.Calls.length ≤ 24:=by omega
 simp [ya8,this]
theorem wk7 {w : Work} {k : Nat} {c : CallT} (hc : w.Calls[k]? = some c) (h : yb0 c = false) : ya8 w = false:=by
 have : w.Calls.all yb0 = false:=all_false (p:=yb0) hc h
 simp only [ya8,this,Bool.and_false]
theorem yyl (w : Work) (hs : w.small) : yE Tryz.prog yjs [.agg (w.enc.map .c)] (.c (.b (ya8 w))):=by
 refine yu yuB (by simp) fun hwf=>?_
 simp -dsimp -implicitDefEqProofs [yoU]
 refine yg (yyH w.Lock hs.1) (by simp) rfl ?_
 cases h1 : ybc w.Lock with
 | false=>simp -dsimp -implicitDefEqProofs; exact wk1 h1
 | true =>
 simp -dsimp -implicitDefEqProofs
 refine yg (yx7 w.Weir) (by simp) rfl ?_
 cases h2 : yc2 w.Weir with
 | false=>simp -dsimp -implicitDefEqProofs; exact wk2 h2
 | true =>
 simp -dsimp -implicitDefEqProofs
 refine yg (yyo w.Rule) (by simp) rfl ?_
 cases h3 : yfr w.Rule with
 | false=>simp -dsimp -implicitDefEqProofs; exact wk3 h3
 | true =>
 simp -dsimp -implicitDefEqProofs
 refine yg (yvy w.Pauses) (by simp) rfl ?_
 cases h4 : ycF w.Pauses with
 | false=>simp -dsimp -implicitDefEqProofs; exact wk4 h4
 | true =>
 simp -dsimp -implicitDefEqProofs
 refine yg (yx5 w.Turn) (by simp) rfl ?_
 cases h5 : ysQ w.Turn with
 | false=>simp -dsimp -implicitDefEqProofs; exact wk5 h5
 | true =>
 simp -dsimp -implicitDefEqProofs
 intro hlen
 refine ⟨fun h6=>(wk6 (by omega)),fun h6=>?_⟩
 refine fun _=>yh (ι:=Nat) (fun k=>k ≤ w.Calls.length ∧ ∀ c ∈ w.Calls.take k,yb0 c = true) (fun k=>yT [(38,.c (.sl 4 (w.Calls.map CallT.enc))),(39,.c (.i w.Calls.length)),(40,.c (.i k))] []) (fun k=>w.Calls.length - k) 0 (by simp) (by apply yj <;> simp [AV.yc,AV.yB,Obj.yc]) ?_
 rintro k ⟨hk,hall⟩
 rcases Nat.lt_or_ge k w.Calls.length with hlt | hge
 ·obtain ⟨c,hc⟩ : ∃ c,w.Calls[k]? = some c:=⟨_,List.getElem?_eq_getElem hlt⟩
  simp -dsimp -implicitDefEqProofs [hc,yI hlt]
  refine yg (yy1 c (hs.2.2.2 c (List.mem_of_getElem? hc))) (by simp) rfl ?_
  cases h7 : yb0 c with
  | false=>simp -dsimp -implicitDefEqProofs; exact wk7 hc h7
  | true =>
   simp -dsimp -implicitDefEqProofs
   exact ⟨yA hlt hlen,k + 1,⟨hlt,yO (p:=yb0) hc hall h7⟩,by omega,by apply yj <;> simp [AV.yc,AV.yB,Obj.yc]⟩
 ·simp -dsimp -implicitDefEqProofs [yau hge]
  have h7:=yaa (p:=yb0) hge hall
  have h6' : w.Calls.length ≤ 24:=by omega
  simp [ya8,h1,h2,h3,h4,h5,h6',h7]
theorem yx3 (w : Work) (hs : w.small) : yE Tryz.prog yjW [.agg (w.enc.map .c)] (.c (.b (ya8 w))):=by
 refine yu yuZ (by simp) fun hwf=>?_
 simp -dsimp -implicitDefEqProofs [yoE]
 refine yh (ι:=Nat) (fun k=>k ≤ w.Calls.length ∧ ∀ c ∈ w.Calls.take k,yb0 c = true) (fun k=>yT [(1,.box 1 0),(3,.c (.i k))] [(1,.box (w.enc.map .c))]) (fun k=>w.Calls.length - k) 0 (by simp) (by apply yj <;> simp [AV.yc,AV.yB,Obj.yc]) ?_
 rintro k ⟨hk,hall⟩
 rcases Nat.lt_or_ge k w.Calls.length with hlt | hge
 ·obtain ⟨c,hc⟩ : ∃ c,w.Calls[k]? = some c:=⟨_,List.getElem?_eq_getElem hlt⟩
  simp -dsimp -implicitDefEqProofs [hc,yI hlt]
  intro hlen
  refine yg (yze c (hs.2.2.2 c (List.mem_of_getElem? hc))) (by simp) rfl ?_
  cases h7 : yb0 c with
  | false=>simp -dsimp -implicitDefEqProofs; exact wk7 hc h7
  | true =>
   simp -dsimp -implicitDefEqProofs
   exact ⟨yA hlt hlen,k + 1,⟨hlt,yO (p:=yb0) hc hall h7⟩,by omega,by apply yj <;> simp [AV.yc,AV.yB,Obj.yc]⟩
 ·simp -dsimp -implicitDefEqProofs [yau hge]
  have h7:=yaa (p:=yb0) hge hall
  intro _
  refine ⟨fun h6=>?_,fun h6=>(wk6 (by omega))⟩
  have h6' : w.Calls.length ≤ 24:=by omega
  refine yg (yxY w.Lock hs.1) (by simp) rfl ?_
  cases h1 : ybc w.Lock with
  | false=>simp -dsimp -implicitDefEqProofs; exact wk1 h1
  | true =>
  simp -dsimp -implicitDefEqProofs
  refine yg (yx4 w.Weir) (by simp) rfl ?_
  cases h2 : yc2 w.Weir with
  | false=>simp -dsimp -implicitDefEqProofs; exact wk2 h2
  | true =>
  simp -dsimp -implicitDefEqProofs
  refine yg (yx6 w.Rule) (by simp) rfl ?_
  cases h3 : yfr w.Rule with
  | false=>simp -dsimp -implicitDefEqProofs; exact wk3 h3
  | true =>
  simp -dsimp -implicitDefEqProofs
  refine yg (yuY w.Pauses) (by simp) rfl ?_
  cases h4 : ycF w.Pauses with
  | false=>simp -dsimp -implicitDefEqProofs; exact wk4 h4
  | true =>
  simp -dsimp -implicitDefEqProofs
  refine yg (yyX w.Turn) (by simp) rfl ?_
  simp -dsimp -implicitDefEqProofs
  simp [ya8,h1,h2,h3,h4,h6',h7]
def ykv (xs : List Entry) (l : Int) : Int:=szS xs.length l
def ypK : List Entry → Prop:=ycP fun _=>True
theorem ypT : yeV ykv ypK:=ykM
theorem yxP (xs : List Entry) (l : Int) (h0 : 0 ≤ l) (h1 : l ≤ 1048576) : yE Tryz.prog ygN [.c (.sl 5 (xs.map Entry.enc)),.c (.i l)] (.c (.i (ykv xs l))):=by
 refine yu yrS (by simp) fun hwf=>?_
 simp -dsimp -implicitDefEqProofs [ymh,ykv,szS]
 intro hl
 unfold maxLen at hl
 refine ⟨by unfold inI; omega,fun h=>?_,fun h=>?_⟩ <;> intros <;> omega
theorem yFp (a b : Way) : yE Tryz.prog yk6 [.agg (a.enc.map .c),.agg (b.enc.map .c)] (.c (.b (decide (a = b)))):=by
 refine yu ywX (by simp) fun hwf=>?_
 obtain ⟨a0,a1⟩:=a
 obtain ⟨b0,b1⟩:=b
 simp -dsimp -implicitDefEqProofs [ypq,Way.mk.injEq]
 refine ⟨fun h=>by simp_all,fun h0=>?_⟩
 refine ⟨fun h=>by simp_all,fun h1=>?_⟩
 simp_all
-- []Reach
def yey : List Reach → Int → Int:=yfw ycD
def ycR : List Reach → Prop:=ycP Reach.small
theorem yqt : yeV yey ycR:=yjl yrt
theorem yxV (xs : List Reach) (l : Int) (h0 : 0 ≤ l) (h1 : l ≤ 1048576) : yE Tryz.prog ygI [.c (.sl 3 (xs.map Reach.enc)),.c (.i l)] (.c (.i (yey xs l))):=by
 refine yu yrR (by simp) fun hwf=>?_
 simp -dsimp -implicitDefEqProofs [ylX]
 intro hl
 have hs : szS xs.length l = if l - xs.length < 0 then -1 else l - xs.length:=rfl
 refine ⟨by unfold maxLen at hl; unfold inI; omega,fun h=>?_,fun h=>?_⟩
 ·simp [yey,yfw,ybh,hs,h]
 have h' : 0 ≤ l - xs.length:=by omega
 have e0 : yey xs l = yas ycD xs (l - xs.length):=by
  have : szS xs.length l = l - xs.length:=by rw [hs,if_neg (by omega)]
  simp only [yey,yfw]
  rw [this,yw h']
 refine yh (ι:=Nat × Int) (fun p=>p.1 ≤ xs.length ∧ 0 ≤ p.2 ∧ p.2 ≤ 1048576 ∧ yas ycD (xs.drop p.1) p.2 = yey xs l) (fun p=>yT [(0,.c (.sl 3 (xs.map Reach.enc))),(1,.c (.i p.2)),(5,.c (.i p.1))] []) (fun p=>xs.length - p.1) (0,l - xs.length) ⟨by simp,h',by simp only; omega,by simp [e0]⟩ (by apply yj <;> simp [AV.yc,AV.yB,Obj.yc]) ?_
 rintro ⟨k,q⟩ ⟨hk,hq0,hq1,hf⟩
 simp only at hk hq0 hq1 hf
 rcases Nat.lt_or_ge k xs.length with hlt | hge
 ·obtain ⟨e,he⟩ : ∃ e,xs[k]? = some e:=⟨_,List.getElem?_eq_getElem hlt⟩
  have hd : xs.drop k = e :: xs.drop (k + 1):=by
   rw [List.drop_eq_getElem_cons hlt,(List.getElem?_eq_some_iff.1 he).2]
  rw [hd,yas] at hf
  simp -dsimp -implicitDefEqProofs [he,yI hlt]
  refine fun _=>yg (yAk e q hq0 hq1) (by simp) rfl ?_
  simp -dsimp -implicitDefEqProofs
  refine ⟨fun h=>by rw [← hf,yN h],fun h=>⟨yA hlt hl,k + 1,⟨ycD e q,?_⟩⟩⟩
  rw [yw h] at hf
  have hle : ycD e q ≤ 1048576:=by
   rcases yrt e q hq0 hq1 with e1 | e1
   ·omega
   ·omega
  exact ⟨⟨hlt,h,hle,hf⟩,by omega,by apply yj <;> simp [AV.yc,AV.yB,Obj.yc]⟩
 ·simp -dsimp -implicitDefEqProofs [yau hge]
  rw [List.drop_of_length_le hge] at hf
  intro _
  first | simpa [yas] using hf | simpa [yas] using hf.symm
theorem yAp (xs : List Reach) (hl : ycR xs) : yE Tryz.prog yd6 [.c (.sl 3 (xs.map Reach.enc))] (.c (.sl 3 (xs.map Reach.enc))):=by
 refine yu ylQ (by simp) fun hwf=>?_
 simp -dsimp -implicitDefEqProofs [yhe]
 intro hlen
 have hl1:=hl.1
 refine ⟨by omega,?_⟩
 refine yh (ι:=Nat) (fun k=>k ≤ xs.length) (fun k=>yT [(0,.c (.sl 3 (xs.map Reach.enc))),(3,.own 7 3 xs.length),(4,.c (.i k))] [(7,.row 3 (partly Reach.enc [.sl 2 [],.i 0,.sl 1 []] xs k))]) (fun k=>xs.length - k) 0 (by simp) (by apply yj <;> simp [AV.yc,AV.yB,Obj.yc,yac]) ?_
 rintro k hk
 rcases Nat.lt_or_ge k xs.length with hlt | hge
 ·obtain ⟨e,he⟩ : ∃ e,xs[k]? = some e:=⟨_,List.getElem?_eq_getElem hlt⟩
  have hs:=yai (f:=Reach.enc) (z:=[.sl 2 [],.i 0,.sl 1 []]) he
  have hd:=yar (f:=Reach.enc) (z:=[.sl 2 [],.i 0,.sl 1 []]) (n:=3) rfl hlt
  simp only [Reach.enc] at hs
  simp -dsimp -implicitDefEqProofs [he,yI hlt]
  refine fun _=>yL (yBs e (hl.2 e (List.mem_of_getElem? he))) (by simp) rfl ?_
  simp -dsimp -implicitDefEqProofs [yI hlt,yaj hk,hd,hs]
  exact ⟨hlt,yA hlt hlen,k + 1,hlt,by omega,by apply yj <;> simp [AV.yc,AV.yB,Obj.yc]⟩
 ·simp -dsimp -implicitDefEqProofs [yau hge]
  intro _
  rw [yak hge,List.take_of_length_le (by simp)]
theorem yzK (es fs : List Reach) : yE Tryz.prog yha [.c (.sl 3 (es.map Reach.enc)),.c (.sl 3 (fs.map Reach.enc))] (.c (.b (decide (es = fs)))):=by
 refine yu yr4 (by simp) fun hwf=>?_
 simp -dsimp -implicitDefEqProofs [yl8]
 intro hl1 hl2
 refine ⟨fun h e=>h (by rw [e]),fun hlen=>?_⟩
 have hlen' : es.length = fs.length:=by omega
 refine yh (ι:=Nat) (fun k=>k ≤ es.length ∧ es.take k = fs.take k) (fun k=>yT [(0,.c (.sl 3 (es.map Reach.enc))),(1,.c (.sl 3 (fs.map Reach.enc))),(5,.c (.i k))] []) (fun k=>es.length - k) 0 (by simp) (by apply yj <;> simp [AV.yc,AV.yB,Obj.yc]) ?_
 rintro k ⟨hk,htk⟩
 rcases Nat.lt_or_ge k es.length with hlt | hge
 ·obtain ⟨e,he⟩ : ∃ e,es[k]? = some e:=⟨_,List.getElem?_eq_getElem hlt⟩
  obtain ⟨f,hf⟩ : ∃ f,fs[k]? = some f:=⟨_,List.getElem?_eq_getElem (by omega)⟩
  simp -dsimp -implicitDefEqProofs [he,hf,yI hlt,yI (hlen' ▸ hlt)]
  intro _
  refine ⟨_,_,yB3 e f,by simp,.inr rfl,?_⟩
  simp -dsimp -implicitDefEqProofs
  refine ⟨fun h=>yby he hf h,fun h=>⟨yA hlt hl1,k + 1,⟨hlt,yaL he hf htk h⟩,by omega,by apply yj <;> simp [AV.yc,AV.yB,Obj.yc]⟩⟩
 ·simp -dsimp -implicitDefEqProofs [yau hge]
  intro _
  exact ya9 hge hlen' htk
-- []Way
def yqq (xs : List Way) (l : Int) : Int:=szS xs.length l
def ylj : List Way → Prop:=ycP fun _=>True
theorem ysp : yeV yqq ylj:=ykM
theorem yB4 (xs : List Way) (l : Int) (h0 : 0 ≤ l) (h1 : l ≤ 1048576) : yE Tryz.prog yjR [.c (.sl 2 (xs.map Way.enc)),.c (.i l)] (.c (.i (yqq xs l))):=by
 refine yu yuA (by simp) fun hwf=>?_
 simp -dsimp -implicitDefEqProofs [yoh,yqq,szS]
 intro hl
 unfold maxLen at hl
 refine ⟨by unfold inI; omega,fun h=>?_,fun h=>?_⟩ <;> intros <;> omega
theorem yEe (xs : List Way) (hl : ylj xs) : yE Tryz.prog yf9 [.c (.sl 2 (xs.map Way.enc))] (.c (.sl 2 (xs.map Way.enc))):=by
 refine yu yoO (by simp) fun hwf=>?_
 simp -dsimp -implicitDefEqProofs [yj6]
 intro hlen
 have hl1:=hl.1
 refine ⟨by omega,?_⟩
 refine yh (ι:=Nat) (fun k=>k ≤ xs.length) (fun k=>yT [(0,.c (.sl 2 (xs.map Way.enc))),(3,.own 7 2 xs.length),(4,.c (.i k))] [(7,.row 2 (partly Way.enc [.i 0,.i 0] xs k))]) (fun k=>xs.length - k) 0 (by simp) (by apply yj <;> simp [AV.yc,AV.yB,Obj.yc,yac]) ?_
 rintro k hk
 rcases Nat.lt_or_ge k xs.length with hlt | hge
 ·obtain ⟨e,he⟩ : ∃ e,xs[k]? = some e:=⟨_,List.getElem?_eq_getElem hlt⟩
  have hs:=yai (f:=Way.enc) (z:=[.i 0,.i 0]) he
  have hd:=yar (f:=Way.enc) (z:=[.i 0,.i 0]) (n:=2) rfl hlt
  simp only [Way.enc] at hs
  simp -dsimp -implicitDefEqProofs [he,yI hlt]
  refine fun _=>yL (yBa e ) (by simp) rfl ?_
  simp -dsimp -implicitDefEqProofs [yI hlt,yaj hk,hd,hs]
  exact ⟨hlt,yA hlt hlen,k + 1,hlt,by omega,by apply yj <;> simp [AV.yc,AV.yB,Obj.yc]⟩
 ·simp -dsimp -implicitDefEqProofs [yau hge]
  intro _
  rw [yak hge,List.take_of_length_le (by simp)]
theorem yCv (es fs : List Way) : yE Tryz.prog yju [.c (.sl 2 (es.map Way.enc)),.c (.sl 2 (fs.map Way.enc))] (.c (.b (decide (es = fs)))):=by
 refine yu yu6 (by simp) fun hwf=>?_
 simp -dsimp -implicitDefEqProofs [yoR]
 intro hl1 hl2
 refine ⟨fun h e=>h (by rw [e]),fun hlen=>?_⟩
 have hlen' : es.length = fs.length:=by omega
 refine yh (ι:=Nat) (fun k=>k ≤ es.length ∧ es.take k = fs.take k) (fun k=>yT [(0,.c (.sl 2 (es.map Way.enc))),(1,.c (.sl 2 (fs.map Way.enc))),(5,.c (.i k))] []) (fun k=>es.length - k) 0 (by simp) (by apply yj <;> simp [AV.yc,AV.yB,Obj.yc]) ?_
 rintro k ⟨hk,htk⟩
 rcases Nat.lt_or_ge k es.length with hlt | hge
 ·obtain ⟨e,he⟩ : ∃ e,es[k]? = some e:=⟨_,List.getElem?_eq_getElem hlt⟩
  obtain ⟨f,hf⟩ : ∃ f,fs[k]? = some f:=⟨_,List.getElem?_eq_getElem (by omega)⟩
  simp -dsimp -implicitDefEqProofs [he,hf,yI hlt,yI (hlen' ▸ hlt)]
  intro _
  refine ⟨_,_,yFp e f,by simp,.inr rfl,?_⟩
  simp -dsimp -implicitDefEqProofs
  refine ⟨fun h=>yby he hf h,fun h=>⟨yA hlt hl1,k + 1,⟨hlt,yaL he hf htk h⟩,by omega,by apply yj <;> simp [AV.yc,AV.yB,Obj.yc]⟩⟩
 ·simp -dsimp -implicitDefEqProofs [yau hge]
  intro _
  exact ya9 hge hlen' htk
-- []Work
def ygz : List Work → Int → Int:=yfw yc6
def ygD : List Work → Prop:=ycP Work.small
theorem yrw : yeV ygz ygD:=yjl yt3
theorem yzp (xs : List Work) (l : Int) (h0 : 0 ≤ l) (h1 : l ≤ 1048576) : yE Tryz.prog yhZ [.c (.sl 22 (xs.map Work.enc)),.c (.i l)] (.c (.i (ygz xs l))):=by
 refine yu ytS (by simp) fun hwf=>?_
 simp -dsimp -implicitDefEqProofs [ymN]
 intro hl
 have hs : szS xs.length l = if l - xs.length < 0 then -1 else l - xs.length:=rfl
 refine ⟨by unfold maxLen at hl; unfold inI; omega,fun h=>?_,fun h=>?_⟩
 ·simp [ygz,yfw,ybh,hs,h]
 have h' : 0 ≤ l - xs.length:=by omega
 have e0 : ygz xs l = yas yc6 xs (l - xs.length):=by
  have : szS xs.length l = l - xs.length:=by rw [hs,if_neg (by omega)]
  simp only [ygz,yfw]
  rw [this,yw h']
 refine yh (ι:=Nat × Int) (fun p=>p.1 ≤ xs.length ∧ 0 ≤ p.2 ∧ p.2 ≤ 1048576 ∧ yas yc6 (xs.drop p.1) p.2 = ygz xs l) (fun p=>yT [(0,.c (.sl 22 (xs.map Work.enc))),(1,.c (.i p.2)),(5,.c (.i p.1))] []) (fun p=>xs.length - p.1) (0,l - xs.length) ⟨by simp,h',by simp only; omega,by simp [e0]⟩ (by apply yj <;> simp [AV.yc,AV.yB,Obj.yc]) ?_
 rintro ⟨k,q⟩ ⟨hk,hq0,hq1,hf⟩
 simp only at hk hq0 hq1 hf
 rcases Nat.lt_or_ge k xs.length with hlt | hge
 ·obtain ⟨e,he⟩ : ∃ e,xs[k]? = some e:=⟨_,List.getElem?_eq_getElem hlt⟩
  have hd : xs.drop k = e :: xs.drop (k + 1):=by
   rw [List.drop_eq_getElem_cons hlt,(List.getElem?_eq_some_iff.1 he).2]
  rw [hd,yas] at hf
  simp -dsimp -implicitDefEqProofs [he,yI hlt]
  refine fun _=>yg (yBM e q hq0 hq1) (by simp) rfl ?_
  simp -dsimp -implicitDefEqProofs
  refine ⟨fun h=>by rw [← hf,yN h],fun h=>⟨yA hlt hl,k + 1,⟨yc6 e q,?_⟩⟩⟩
  rw [yw h] at hf
  have hle : yc6 e q ≤ 1048576:=by
   rcases yt3 e q hq0 hq1 with e1 | e1
   ·omega
   ·omega
  exact ⟨⟨hlt,h,hle,hf⟩,by omega,by apply yj <;> simp [AV.yc,AV.yB,Obj.yc]⟩
 ·simp -dsimp -implicitDefEqProofs [yau hge]
  rw [List.drop_of_length_le hge] at hf
  intro _
  first | simpa [yas] using hf | simpa [yas] using hf.symm
theorem yB7 (xs : List Work) (hl : ygD xs) : yE Tryz.prog yff [.c (.sl 22 (xs.map Work.enc))] (.c (.sl 22 (xs.map Work.enc))):=by
 refine yu ymB (by simp) fun hwf=>?_
 simp -dsimp -implicitDefEqProofs [yiq]
 intro hlen
 have hl1:=hl.1
 refine ⟨by omega,?_⟩
 refine yh (ι:=Nat) (fun k=>k ≤ xs.length) (fun k=>yT [(0,.c (.sl 22 (xs.map Work.enc))),(3,.own 7 22 xs.length),(4,.c (.i k))] [(7,.row 22 (partly Work.enc [.i 0,.i 0,.i 0,.i 0,.i 0,.i 0,.i 0,.i 0,.i 0,.sl 2 [],.i 0,.i 0,.i 0,.i 0,.i 0,.i 0,.i 0,.i 0,.sl 2 [],.b false,.i 0,.sl 4 []] xs k))]) (fun k=>xs.length - k) 0 (by simp) (by apply yj <;> simp [AV.yc,AV.yB,Obj.yc,yac]) ?_
 rintro k hk
 rcases Nat.lt_or_ge k xs.length with hlt | hge
 ·obtain ⟨e,he⟩ : ∃ e,xs[k]? = some e:=⟨_,List.getElem?_eq_getElem hlt⟩
  have hs:=yai (f:=Work.enc) (z:=[.i 0,.i 0,.i 0,.i 0,.i 0,.i 0,.i 0,.i 0,.i 0,.sl 2 [],.i 0,.i 0,.i 0,.i 0,.i 0,.i 0,.i 0,.i 0,.sl 2 [],.b false,.i 0,.sl 4 []]) he
  have hd:=yar (f:=Work.enc) (z:=[.i 0,.i 0,.i 0,.i 0,.i 0,.i 0,.i 0,.i 0,.i 0,.sl 2 [],.i 0,.i 0,.i 0,.i 0,.i 0,.i 0,.i 0,.i 0,.sl 2 [],.b false,.i 0,.sl 4 []]) (n:=22) rfl hlt
  simp only [Work.enc,Lock.enc,Weir.enc,Rule.enc,Turn.enc] at hs
  simp -dsimp -implicitDefEqProofs [he,yI hlt]
  refine fun _=>yL (yCF e (hl.2 e (List.mem_of_getElem? he))) (by simp) rfl ?_
  simp -dsimp -implicitDefEqProofs [yI hlt,yaj hk,hd,hs]
  exact ⟨hlt,yA hlt hlen,k + 1,hlt,by omega,by apply yj <;> simp [AV.yc,AV.yB,Obj.yc]⟩
 ·simp -dsimp -implicitDefEqProofs [yau hge]
  intro _
  rw [yak hge,List.take_of_length_le (by simp)]
theorem yBA (es fs : List Work) : yE Tryz.prog yh1 [.c (.sl 22 (es.map Work.enc)),.c (.sl 22 (fs.map Work.enc))] (.c (.b (decide (es = fs)))):=by
 refine yu ysN (by simp) fun hwf=>?_
 simp -dsimp -implicitDefEqProofs [ynw]
 intro hl1 hl2
 refine ⟨fun h e=>h (by rw [e]),fun hlen=>?_⟩
 have hlen' : es.length = fs.length:=by omega
 refine yh (ι:=Nat) (fun k=>k ≤ es.length ∧ es.take k = fs.take k) (fun k=>yT [(0,.c (.sl 22 (es.map Work.enc))),(1,.c (.sl 22 (fs.map Work.enc))),(5,.c (.i k))] []) (fun k=>es.length - k) 0 (by simp) (by apply yj <;> simp [AV.yc,AV.yB,Obj.yc]) ?_
 rintro k ⟨hk,htk⟩
 rcases Nat.lt_or_ge k es.length with hlt | hge
 ·obtain ⟨e,he⟩ : ∃ e,es[k]? = some e:=⟨_,List.getElem?_eq_getElem hlt⟩
  obtain ⟨f,hf⟩ : ∃ f,fs[k]? = some f:=⟨_,List.getElem?_eq_getElem (by omega)⟩
  simp -dsimp -implicitDefEqProofs [he,hf,yI hlt,yI (hlen' ▸ hlt)]
  intro _
  refine ⟨_,_,yDC e f,by simp,.inr rfl,?_⟩
  simp -dsimp -implicitDefEqProofs
  refine ⟨fun h=>yby he hf h,fun h=>⟨yA hlt hl1,k + 1,⟨hlt,yaL he hf htk h⟩,by omega,by apply yj <;> simp [AV.yc,AV.yB,Obj.yc]⟩⟩
 ·simp -dsimp -implicitDefEqProofs [yau hge]
  intro _
  exact ya9 hge hlen' htk
-- []Mover
def yb9 : List Mover → Int → Int:=yfw ycV
def yhF : List Mover → Prop:=ycP Mover.small
theorem ypv : yeV yb9 yhF:=yjl yrA
theorem yzg (xs : List Mover) (l : Int) (h0 : 0 ≤ l) (h1 : l ≤ 1048576) : yE Tryz.prog ygQ [.c (.sl 3 (xs.map Mover.enc)),.c (.i l)] (.c (.i (yb9 xs l))):=by
 refine yu yrL (by simp) fun hwf=>?_
 simp -dsimp -implicitDefEqProofs [ylL]
 intro hl
 have hs : szS xs.length l = if l - xs.length < 0 then -1 else l - xs.length:=rfl
 refine ⟨by unfold maxLen at hl; unfold inI; omega,fun h=>?_,fun h=>?_⟩
 ·simp [yb9,yfw,ybh,hs,h]
 have h' : 0 ≤ l - xs.length:=by omega
 have e0 : yb9 xs l = yas ycV xs (l - xs.length):=by
  have : szS xs.length l = l - xs.length:=by rw [hs,if_neg (by omega)]
  simp only [yb9,yfw]
  rw [this,yw h']
 refine yh (ι:=Nat × Int) (fun p=>p.1 ≤ xs.length ∧ 0 ≤ p.2 ∧ p.2 ≤ 1048576 ∧ yas ycV (xs.drop p.1) p.2 = yb9 xs l) (fun p=>yT [(0,.c (.sl 3 (xs.map Mover.enc))),(1,.c (.i p.2)),(5,.c (.i p.1))] []) (fun p=>xs.length - p.1) (0,l - xs.length) ⟨by simp,h',by simp only; omega,by simp [e0]⟩ (by apply yj <;> simp [AV.yc,AV.yB,Obj.yc]) ?_
 rintro ⟨k,q⟩ ⟨hk,hq0,hq1,hf⟩
 simp only at hk hq0 hq1 hf
 rcases Nat.lt_or_ge k xs.length with hlt | hge
 ·obtain ⟨e,he⟩ : ∃ e,xs[k]? = some e:=⟨_,List.getElem?_eq_getElem hlt⟩
  have hd : xs.drop k = e :: xs.drop (k + 1):=by
   rw [List.drop_eq_getElem_cons hlt,(List.getElem?_eq_some_iff.1 he).2]
  rw [hd,yas] at hf
  simp -dsimp -implicitDefEqProofs [he,yI hlt]
  refine fun _=>yg (yzC e q hq0 hq1) (by simp) rfl ?_
  simp -dsimp -implicitDefEqProofs
  refine ⟨fun h=>by rw [← hf,yN h],fun h=>⟨yA hlt hl,k + 1,⟨ycV e q,?_⟩⟩⟩
  rw [yw h] at hf
  have hle : ycV e q ≤ 1048576:=by
   rcases yrA e q hq0 hq1 with e1 | e1
   ·omega
   ·omega
  exact ⟨⟨hlt,h,hle,hf⟩,by omega,by apply yj <;> simp [AV.yc,AV.yB,Obj.yc]⟩
 ·simp -dsimp -implicitDefEqProofs [yau hge]
  rw [List.drop_of_length_le hge] at hf
  intro _
  first | simpa [yas] using hf | simpa [yas] using hf.symm
theorem yAd (xs : List Mover) (hl : yhF xs) : yE Tryz.prog ydZ [.c (.sl 3 (xs.map Mover.enc))] (.c (.sl 3 (xs.map Mover.enc))):=by
 refine yu ylF (by simp) fun hwf=>?_
 simp -dsimp -implicitDefEqProofs [ygP]
 intro hlen
 have hl1:=hl.1
 refine ⟨by omega,?_⟩
 refine yh (ι:=Nat) (fun k=>k ≤ xs.length) (fun k=>yT [(0,.c (.sl 3 (xs.map Mover.enc))),(3,.own 7 3 xs.length),(4,.c (.i k))] [(7,.row 3 (partly Mover.enc [.b false,.sl 1 [],.i 0] xs k))]) (fun k=>xs.length - k) 0 (by simp) (by apply yj <;> simp [AV.yc,AV.yB,Obj.yc,yac]) ?_
 rintro k hk
 rcases Nat.lt_or_ge k xs.length with hlt | hge
 ·obtain ⟨e,he⟩ : ∃ e,xs[k]? = some e:=⟨_,List.getElem?_eq_getElem hlt⟩
  have hs:=yai (f:=Mover.enc) (z:=[.b false,.sl 1 [],.i 0]) he
  have hd:=yar (f:=Mover.enc) (z:=[.b false,.sl 1 [],.i 0]) (n:=3) rfl hlt
  simp only [Mover.enc,Train.enc] at hs
  simp -dsimp -implicitDefEqProofs [he,yI hlt]
  refine fun _=>yL (yBy e (hl.2 e (List.mem_of_getElem? he))) (by simp) rfl ?_
  simp -dsimp -implicitDefEqProofs [yI hlt,yaj hk,hd,hs]
  exact ⟨hlt,yA hlt hlen,k + 1,hlt,by omega,by apply yj <;> simp [AV.yc,AV.yB,Obj.yc]⟩
 ·simp -dsimp -implicitDefEqProofs [yau hge]
  intro _
  rw [yak hge,List.take_of_length_le (by simp)]
theorem yAf (es fs : List Mover) : yE Tryz.prog yg2 [.c (.sl 3 (es.map Mover.enc)),.c (.sl 3 (fs.map Mover.enc))] (.c (.b (decide (es = fs)))):=by
 refine yu yrU (by simp) fun hwf=>?_
 simp -dsimp -implicitDefEqProofs [ymb]
 intro hl1 hl2
 refine ⟨fun h e=>h (by rw [e]),fun hlen=>?_⟩
 have hlen' : es.length = fs.length:=by omega
 refine yh (ι:=Nat) (fun k=>k ≤ es.length ∧ es.take k = fs.take k) (fun k=>yT [(0,.c (.sl 3 (es.map Mover.enc))),(1,.c (.sl 3 (fs.map Mover.enc))),(5,.c (.i k))] []) (fun k=>es.length - k) 0 (by simp) (by apply yj <;> simp [AV.yc,AV.yB,Obj.yc]) ?_
 rintro k ⟨hk,htk⟩
 rcases Nat.lt_or_ge k es.length with hlt | hge
 ·obtain ⟨e,he⟩ : ∃ e,es[k]? = some e:=⟨_,List.getElem?_eq_getElem hlt⟩
  obtain ⟨f,hf⟩ : ∃ f,fs[k]? = some f:=⟨_,List.getElem?_eq_getElem (by omega)⟩
  simp -dsimp -implicitDefEqProofs [he,hf,yI hlt,yI (hlen' ▸ hlt)]
  intro _
  refine ⟨_,_,yBX e f,by simp,.inr rfl,?_⟩
  simp -dsimp -implicitDefEqProofs
  refine ⟨fun h=>yby he hf h,fun h=>⟨yA hlt hl1,k + 1,⟨hlt,yaL he hf htk h⟩,by omega,by apply yj <;> simp [AV.yc,AV.yB,Obj.yc]⟩⟩
 ·simp -dsimp -implicitDefEqProofs [yau hge]
  intro _
  exact ya9 hge hlen' htk
abbrev yV (xs : List Mover) : List C:=[.sl 3 (xs.map Mover.enc)]
-- [][]Mover
def ydn : List (List Mover) → Int → Int:=yfw yb9
def ygc : List (List Mover) → Prop:=ycP yhF
theorem yor : yeV ydn ygc:=yjl ypv
theorem yxu (xs : List (List Mover)) (l : Int) (h0 : 0 ≤ l) (h1 : l ≤ 1048576) : yE Tryz.prog yfT [.c (.sl 1 (xs.map yV)),.c (.i l)] (.c (.i (ydn xs l))):=by
 refine yu yq8 (by simp) fun hwf=>?_
 simp -dsimp -implicitDefEqProofs [ykw]
 intro hl
 have hs : szS xs.length l = if l - xs.length < 0 then -1 else l - xs.length:=rfl
 refine ⟨by unfold maxLen at hl; unfold inI; omega,fun h=>?_,fun h=>?_⟩
 ·simp [ydn,yfw,ybh,hs,h]
 have h' : 0 ≤ l - xs.length:=by omega
 have e0 : ydn xs l = yas yb9 xs (l - xs.length):=by
  have : szS xs.length l = l - xs.length:=by rw [hs,if_neg (by omega)]
  simp only [ydn,yfw]
  rw [this,yw h']
 refine yh (ι:=Nat × Int) (fun p=>p.1 ≤ xs.length ∧ 0 ≤ p.2 ∧ p.2 ≤ 1048576 ∧ yas yb9 (xs.drop p.1) p.2 = ydn xs l) (fun p=>yT [(0,.c (.sl 1 (xs.map yV))),(1,.c (.i p.2)),(5,.c (.i p.1))] []) (fun p=>xs.length - p.1) (0,l - xs.length) ⟨by simp,h',by simp only; omega,by simp [e0]⟩ (by apply yj <;> simp [AV.yc,AV.yB,Obj.yc]) ?_
 rintro ⟨k,q⟩ ⟨hk,hq0,hq1,hf⟩
 simp only at hk hq0 hq1 hf
 rcases Nat.lt_or_ge k xs.length with hlt | hge
 ·obtain ⟨e,he⟩ : ∃ e,xs[k]? = some e:=⟨_,List.getElem?_eq_getElem hlt⟩
  have hd : xs.drop k = e :: xs.drop (k + 1):=by
   rw [List.drop_eq_getElem_cons hlt,(List.getElem?_eq_some_iff.1 he).2]
  rw [hd,yas] at hf
  simp -dsimp -implicitDefEqProofs [he,yI hlt]
  refine fun _=>yg (yzg e q hq0 hq1) (by simp) rfl ?_
  simp -dsimp -implicitDefEqProofs
  refine ⟨fun h=>by rw [← hf,yN h],fun h=>⟨yA hlt hl,k + 1,⟨yb9 e q,?_⟩⟩⟩
  rw [yw h] at hf
  have hle : yb9 e q ≤ 1048576:=by
   rcases ypv e q hq0 hq1 with e1 | e1
   ·omega
   ·omega
  exact ⟨⟨hlt,h,hle,hf⟩,by omega,by apply yj <;> simp [AV.yc,AV.yB,Obj.yc]⟩
 ·simp -dsimp -implicitDefEqProofs [yau hge]
  rw [List.drop_of_length_le hge] at hf
  intro _
  first | simpa [yas] using hf | simpa [yas] using hf.symm
theorem yyM (xs : List (List Mover)) (hl : ygc xs) : yE Tryz.prog ydD [.c (.sl 1 (xs.map yV))] (.c (.sl 1 (xs.map yV))):=by
 refine yu ykb (by simp) fun hwf=>?_
 simp -dsimp -implicitDefEqProofs [yf1]
 intro hlen
 have hl1:=hl.1
 refine ⟨by omega,?_⟩
 refine yh (ι:=Nat) (fun k=>k ≤ xs.length) (fun k=>yT [(0,.c (.sl 1 (xs.map yV))),(3,.own 7 1 xs.length),(4,.c (.i k))] [(7,.row 1 (partly yV [.sl 3 []] xs k))]) (fun k=>xs.length - k) 0 (by simp) (by apply yj <;> simp [AV.yc,AV.yB,Obj.yc,yac]) ?_
 rintro k hk
 rcases Nat.lt_or_ge k xs.length with hlt | hge
 ·obtain ⟨e,he⟩ : ∃ e,xs[k]? = some e:=⟨_,List.getElem?_eq_getElem hlt⟩
  have hs:=yai (f:=yV) (z:=[.sl 3 []]) he
  have hd : ((partly yV [.sl 3 []] xs k)[k]?.getD []).set 0 (.sl 3 (e.map Mover.enc)) = [.sl 3 (e.map Mover.enc)]:=by
   have:=yef (f:=yV) (z:=[.sl 3 []]) (n:=1) rfl (fun _=>rfl) hlt
   obtain ⟨x,hx⟩:=List.length_eq_one_iff.1 this
   rw [hx]; rfl
  have hs2 : (partly yV [.sl 3 []] xs k).set k [.sl 3 (e.map Mover.enc)] = partly yV [.sl 3 []] xs (k + 1):=hs
  simp -dsimp -implicitDefEqProofs [he,yI hlt]
  refine fun _=>yL (yAd e (hl.2 e (List.mem_of_getElem? he))) (by simp) rfl ?_
  simp -dsimp -implicitDefEqProofs [yI hlt,yaj hk,hd,hs2]
  exact ⟨hlt,yA hlt hlen,k + 1,hlt,by omega,by apply yj <;> simp [AV.yc,AV.yB,Obj.yc]⟩
 ·simp -dsimp -implicitDefEqProofs [yau hge]
  intro _
  rw [yak hge,List.take_of_length_le (by simp)]
theorem yxE (es fs : List (List Mover)) : yE Tryz.prog yfJ [.c (.sl 1 (es.map yV)),.c (.sl 1 (fs.map yV))] (.c (.b (decide (es = fs)))):=by
 refine yu yqK (by simp) fun hwf=>?_
 simp -dsimp -implicitDefEqProofs [ykc]
 intro hl1 hl2
 refine ⟨fun h e=>h (by rw [e]),fun hlen=>?_⟩
 have hlen' : es.length = fs.length:=by omega
 refine yh (ι:=Nat) (fun k=>k ≤ es.length ∧ es.take k = fs.take k) (fun k=>yT [(0,.c (.sl 1 (es.map yV))),(1,.c (.sl 1 (fs.map yV))),(5,.c (.i k))] []) (fun k=>es.length - k) 0 (by simp) (by apply yj <;> simp [AV.yc,AV.yB,Obj.yc]) ?_
 rintro k ⟨hk,htk⟩
 rcases Nat.lt_or_ge k es.length with hlt | hge
 ·obtain ⟨e,he⟩ : ∃ e,es[k]? = some e:=⟨_,List.getElem?_eq_getElem hlt⟩
  obtain ⟨f,hf⟩ : ∃ f,fs[k]? = some f:=⟨_,List.getElem?_eq_getElem (by omega)⟩
  simp -dsimp -implicitDefEqProofs [he,hf,yI hlt,yI (hlen' ▸ hlt)]
  intro _
  refine ⟨_,_,yAf e f,by simp,.inr rfl,?_⟩
  simp -dsimp -implicitDefEqProofs
  refine ⟨fun h=>yby he hf h,fun h=>⟨yA hlt hl1,k + 1,⟨hlt,yaL he hf htk h⟩,by omega,by apply yj <;> simp [AV.yc,AV.yB,Obj.yc]⟩⟩
 ·simp -dsimp -implicitDefEqProofs [yau hge]
  intro _
  exact ya9 hge hlen' htk
structure Passing where
 Time : Int
 Work : Int
 Train : Train
 deriving DecidableEq,Inhabited
@[simp] def Passing.enc (e : Passing) : List C:=[.i e.Time,.i e.Work,.b e.Train.Up,.sl 1 (e.Train.Rows.map yah)]
-- Passing
def ybD (e : Passing) (l : Int) : Int:=ybh (ybY e.Train l) fun l=>l
def Passing.small (e : Passing) : Prop:=e.Train.small
theorem yoo : yeV ybD Passing.small:=by
 intro e l h0 h1
 unfold ybD
 rcases ygp e.Train _ h0 h1 with e0 | ⟨a0,b0,s0⟩
 ·exact .inl (yN (by omega))
 rw [yw a0]
 exact .inr ⟨a0,by omega,s0⟩
theorem ywY (e : Passing) (l : Int) (h0 : 0 ≤ l) (h1 : l ≤ 1048576) : yE Tryz.prog yf4 [.agg (e.enc.map .c),.c (.i l)] (.c (.i (ybD e l))):=by
 refine yu yrc (by simp) fun hwf=>?_
 simp -dsimp -implicitDefEqProofs [ykq]
 refine yg (ylw e.Train _ h0 h1) (by simp) rfl ?_
 simp -dsimp -implicitDefEqProofs
 refine ⟨fun h=>by simp [ybD,yN h],fun p0=>?_⟩
 simp [ybD,yw p0]
theorem yyr (e : Passing) (hl : Passing.small e) : yE Tryz.prog ydw [.agg (e.enc.map .c)] (.agg (e.enc.map .c)):=by
 refine yu yki (by simp) fun hwf=>?_
 simp -dsimp -implicitDefEqProofs [yf7]
 refine yL (ynG e.Train hl) (by simp) rfl ?_
 simp -dsimp -implicitDefEqProofs
theorem yyp (a b : Passing) : yE Tryz.prog yfQ [.agg (a.enc.map .c),.agg (b.enc.map .c)] (.c (.b (decide (a = b)))):=by
 refine yu yqB (by simp) fun hwf=>?_
 obtain ⟨a0,a1,a2⟩:=a
 obtain ⟨b0,b1,b2⟩:=b
 simp -dsimp -implicitDefEqProofs [yky,Passing.mk.injEq]
 refine ⟨fun h=>by simp_all,fun h0=>?_⟩
 refine ⟨fun h=>by simp_all,fun h1=>?_⟩
 refine yg (ynT a2 b2) (by simp) rfl ?_
 simp -dsimp -implicitDefEqProofs
 refine ⟨fun h=>by simp_all,fun h2=>?_⟩
 simp_all
-- []Passing
def ycL : List Passing → Int → Int:=yfw ybD
end Go.Proofs.YtmimbhooaidelaaGreat
