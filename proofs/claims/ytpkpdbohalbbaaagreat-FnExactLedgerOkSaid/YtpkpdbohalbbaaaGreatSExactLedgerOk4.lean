/- What the law FnExactLedgerOk stands on: contracts of functions, what each answers as plain Lean, in short form (names, layout). -/
import Derived.Test.YtpkpdbohalbbaaaGreatSExactLedgerOk3
set_option linter.all false
namespace Go.Proofs.YtpkpdbohalbbaaaGreat
open Go.RowKit
open Go.ChangeShapes Go.WideShapes
theorem yv2 (x : Waterway) (hs : x.small) : yB Tryz.prog 70 [.agg (x.enc.map .c)] (.c (.b (ybi x))):=by
 have hsM:=hs.2.2.2.1
 have hsW:=hs.2.2.1
 refine yh ynn ?_
 simp -dsimp -implicitDefEqProofs
 intro hlen
 refine yc (ysQ x.Reaches) ?_
 cases h1 : ycM x.Reaches with
 | false=>simp -dsimp -implicitDefEqProofs; simp [ybi,h1]
 | true =>
 simp -dsimp -implicitDefEqProofs
 refine ⟨fun h2=>?_,fun h2=>(pno2 (by omega))⟩
 intro _
 refine ⟨fun h3=>?_,fun h3=>(pno3 (by omega))⟩
 intro _
 refine ⟨fun h4=>?_,fun h4=>(pno4 (by omega))⟩
 refine fun _=>⟨by unfold maxLen at hlen; unfold inI; omega,?_⟩
 refine ⟨fun h5=>(pno5 (by omega)),fun h5=>?_⟩
 have h3' : x.Ways.length = x.Reaches.length:=by omega
 have h4' : x.Movers.length = x.Reaches.length:=by omega
 have h5' : x.Works.length + 1 = x.Reaches.length:=by omega
 have hz : (x.Ways.zip x.Movers).length = x.Ways.length:=by rw [List.length_zip]; omega
 refine yg (ι:=Nat) (fun k=>k ≤ x.Ways.length ∧ (∀ p ∈ (x.Ways.zip x.Movers).take k,yb8 p = true) ∧ ∀ w ∈ x.Works.take k,ybd w = true) (fun k=>yO [(1,.box 1 0),(3,.c (.i x.Reaches.length)),(4,.c (.i k))] [(1,.box (x.enc.map .c))]) (fun k=>x.Ways.length - k) 0 (by simp) (by apply yj <;> simp) ?_
 rintro k ⟨hk,hall,hallw⟩
 rcases Nat.lt_or_ge k x.Ways.length with hlt | hge
 ·obtain ⟨w,hw⟩ : ∃ w,x.Ways[k]? = some w:=⟨_,List.getElem?_eq_getElem hlt⟩
  obtain ⟨ms,hm⟩ : ∃ w,x.Movers[k]? = some w:=⟨_,List.getElem?_eq_getElem (by omega)⟩
  have hkm : k < x.Movers.length:=by omega
  have hkr : k < x.Reaches.length:=by omega
  have gm:=(List.getElem?_eq_some_iff.1 hm).2
  have gw:=(List.getElem?_eq_some_iff.1 hw).2
  have hp : (x.Ways.zip x.Movers)[k]? = some (w,ms):=List.getElem?_zip_eq_some.2 ⟨hw,hm⟩
  have hsm:=hsM.2 ms (List.mem_of_getElem? hm)
  simp -dsimp -implicitDefEqProofs [hw,gw,yG hlt,hlt,hkr,yG hkr]
  refine yc (ynZ w) ?_
  cases h6 : yjg w with
  | false=>simp -dsimp -implicitDefEqProofs; exact ydV hw hm (yBL h6)
  | true =>
  simp -dsimp -implicitDefEqProofs [hm,gm,hkm,yG hkm]
  intro hlm
  refine ⟨fun h7=>?_,fun h7=>(ydV hw hm (yCv (by omega)))⟩
  refine ⟨by unfold maxLen at hlen; unfold inI; omega,fun hc=>?_,fun hc=>?_⟩
  ·obtain ⟨wk,hwk⟩ : ∃ w,x.Works[k]? = some w:=⟨_,List.getElem?_eq_getElem (by omega)⟩
   have gk:=(List.getElem?_eq_some_iff.1 hwk).2
   have hkw : k < x.Works.length:=by omega
   refine ⟨hkw,?_⟩
   simp -dsimp -implicitDefEqProofs [hwk]
   refine yc (yuI wk (hsW.2 wk (List.mem_of_getElem? hwk))) ?_
   cases h10 : ybd wk with
   | false=>simp -dsimp -implicitDefEqProofs; exact yo6 hwk h10
   | true =>
   simp -dsimp -implicitDefEqProofs
   refine yg (ι:=Nat) (fun i=>i ≤ ms.length ∧ ∀ m ∈ ms.take i,ybk m w = true) (fun i=>yO [(1,.box 1 0),(3,.c (.i x.Reaches.length)),(4,.c (.i k)),(5,.c (.i i))] [(1,.box (x.enc.map .c))]) (fun i=>ms.length - i) 0 (by simp) (by apply yj <;> simp) ?_
   rintro i ⟨hi,hall2⟩
   rcases Nat.lt_or_ge i ms.length with hlt2 | hge2
   ·obtain ⟨m,hmm⟩ : ∃ w,ms[i]? = some w:=⟨_,List.getElem?_eq_getElem hlt2⟩
    have g2:=(List.getElem?_eq_some_iff.1 hmm).2
    simp -dsimp -implicitDefEqProofs [hw,gw,hlt,yG hlt,hm,gm,hkm,yG hkm,hmm,g2,yG hlt2,hlt2]
    intro _
    refine yaC (yk6 m w (hsm.2 m (List.mem_of_getElem? hmm))) ?_
    cases h8 : ybk m w with
    | false=>simp -dsimp -implicitDefEqProofs; exact ydV hw hm (yyL hmm h8)
    | true =>
     simp -dsimp -implicitDefEqProofs
     refine ⟨yw hlt2 hlm,i + 1,⟨hlt2,yL (p:=fun m=>ybk m w) hmm hall2 h8⟩,by omega,?_⟩
     apply yj <;> simp
   ·have h9:=yX (p:=fun m=>ybk m w) hge2 hall2
    have hlane : yb8 (w,ms) = true:=by
     have : ms.length ≤ 24:=by omega
     simp [yb8,h6,this,h9]
    simp -dsimp -implicitDefEqProofs [hm,gm,hkm,yG hkm,yaB hge2]
    refine fun _=>⟨by unfold maxLen at hlen; unfold inI; omega,k + 1,⟨hlt,fun a b hab=>yL (p:=yb8) hp hall hlane (a,b) hab,yL (p:=ybd) hwk hallw h10⟩,by omega,?_⟩
    apply yj <;> simp
  ·have hwa : x.Works.take (k + 1) = x.Works.take k:=by rw [List.take_of_length_le (by omega),List.take_of_length_le (by omega)]
   refine yg (ι:=Nat) (fun i=>i ≤ ms.length ∧ ∀ m ∈ ms.take i,ybk m w = true) (fun i=>yO [(1,.box 1 0),(3,.c (.i x.Reaches.length)),(4,.c (.i k)),(5,.c (.i i))] [(1,.box (x.enc.map .c))]) (fun i=>ms.length - i) 0 (by simp) (by apply yj <;> simp) ?_
   rintro i ⟨hi,hall2⟩
   rcases Nat.lt_or_ge i ms.length with hlt2 | hge2
   ·obtain ⟨m,hmm⟩ : ∃ w,ms[i]? = some w:=⟨_,List.getElem?_eq_getElem hlt2⟩
    have g2:=(List.getElem?_eq_some_iff.1 hmm).2
    simp -dsimp -implicitDefEqProofs [hw,gw,hlt,yG hlt,hm,gm,hkm,yG hkm,hmm,g2,yG hlt2,hlt2]
    intro _
    refine yaC (yk6 m w (hsm.2 m (List.mem_of_getElem? hmm))) ?_
    cases h8 : ybk m w with
    | false=>simp -dsimp -implicitDefEqProofs; exact ydV hw hm (yyL hmm h8)
    | true =>
     simp -dsimp -implicitDefEqProofs
     refine ⟨yw hlt2 hlm,i + 1,⟨hlt2,yL (p:=fun m=>ybk m w) hmm hall2 h8⟩,by omega,?_⟩
     apply yj <;> simp
   ·have h9:=yX (p:=fun m=>ybk m w) hge2 hall2
    have hlane : yb8 (w,ms) = true:=by
     have : ms.length ≤ 24:=by omega
     simp [yb8,h6,this,h9]
    simp -dsimp -implicitDefEqProofs [hm,gm,hkm,yG hkm,yaB hge2]
    refine fun _=>⟨by unfold maxLen at hlen; unfold inI; omega,k + 1,⟨hlt,fun a b hab=>yL (p:=yb8) hp hall hlane (a,b) hab,by rw [hwa]; exact hallw⟩,by omega,?_⟩
    apply yj <;> simp
 ·simp -dsimp -implicitDefEqProofs [yaB hge]
  refine ⟨by omega,fun _=>?_⟩
  have hl:=yX (p:=yb8) (by rw [hz]; exact hge) hall
  have h9:=yX (p:=ybd) (l:=x.Works) (k:=k) (by omega) hallw
  have h2' : 2 ≤ x.Reaches.length:=by omega
  simp [ybi,h1,h2',h3',h4',h5',hl,h9]
theorem ywh (x : Waterway) (hs : x.small) : yB Tryz.prog 71 [.agg (x.enc.map .c)] (.c (.b (ybW x))):=by
 have hsA:=hs.2.2.2.2.1
 have hsP:=hs.2.2.2.2.2.2.2.2
 refine yh ynw ?_
 simp -dsimp -implicitDefEqProofs
 intro hlA
 refine ⟨fun h3=>?_,fun h3=>(lno1 (by omega))⟩
 intro hlE
 refine ⟨fun h4=>?_,fun h4=>(lno2 (by omega))⟩
 intro hlP
 refine ⟨fun h5=>(lno3 (by omega)),fun h5=>?_⟩
 refine yg (ι:=Nat) (fun k=>k ≤ x.Arrived.length ∧ ∀ t ∈ x.Arrived.take k,yP t = true) (fun k=>yO [(1,.box 1 0),(3,.c (.i k))] [(1,.box (x.enc.map .c))]) (fun k=>x.Arrived.length - k) 0 (by simp) (by apply yj <;> simp) ?_
 rintro k ⟨hk,hall⟩
 rcases Nat.lt_or_ge k x.Arrived.length with hlt | hge
 ·obtain ⟨t,ht⟩ : ∃ w,x.Arrived[k]? = some w:=⟨_,List.getElem?_eq_getElem hlt⟩
  have g1:=(List.getElem?_eq_some_iff.1 ht).2
  simp -dsimp -implicitDefEqProofs [ht,g1,hlt,yG hlt]
  intro _
  refine yc (yds t (hsA.2 t (List.mem_of_getElem? ht))) ?_
  cases h6 : yP t with
  | false=>simp -dsimp -implicitDefEqProofs; exact lno4 ht h6
  | true =>
   simp -dsimp -implicitDefEqProofs
   refine ⟨yw hlt hlA,k + 1,⟨hlt,yL (p:=yP) ht hall h6⟩,by omega,?_⟩
   apply yj <;> simp
 have hA:=yX (p:=yP) hge hall
 simp -dsimp -implicitDefEqProofs [yaB hge]
 refine fun _=>yg (ι:=Nat) (fun k=>k ≤ x.Entered.length ∧ ∀ t ∈ x.Entered.take k,inRange t 1 9999 = true) (fun k=>yO [(1,.box 1 0),(4,.c (.i k))] [(1,.box (x.enc.map .c))]) (fun k=>x.Entered.length - k) 0 (by simp) (by apply yj <;> simp) ?_
 clear hall hk hge k
 rintro k ⟨hk,hall⟩
 rcases Nat.lt_or_ge k x.Entered.length with hlt | hge
 ·obtain ⟨t,ht⟩ : ∃ w,x.Entered[k]? = some w:=⟨_,List.getElem?_eq_getElem hlt⟩
  have g1:=(List.getElem?_eq_some_iff.1 ht).2
  simp -dsimp -implicitDefEqProofs [ht,g1,hlt,yG hlt]
  intro _
  refine yc (yD t 1 9999) ?_
  cases h6 : inRange t 1 9999 with
  | false=>simp -dsimp -implicitDefEqProofs; exact lno5 ht h6
  | true =>
   simp -dsimp -implicitDefEqProofs
   refine ⟨yw hlt hlE,k + 1,⟨hlt,yL (p:=fun n=>inRange n 1 9999) ht hall h6⟩,by omega,?_⟩
   apply yj <;> simp
 have hE:=yX (p:=fun n=>inRange n 1 9999) hge hall
 simp -dsimp -implicitDefEqProofs [yaB hge]
 refine fun _=>yg (ι:=Nat) (fun k=>k ≤ x.Passings.length ∧ ∀ t ∈ x.Passings.take k,yc9 x.Works.length t = true) (fun k=>yO [(1,.box 1 0),(5,.c (.i k))] [(1,.box (x.enc.map .c))]) (fun k=>x.Passings.length - k) 0 (by simp) (by apply yj <;> simp) ?_
 clear hall hk hge k
 rintro k ⟨hk,hall⟩
 rcases Nat.lt_or_ge k x.Passings.length with hlt | hge
 ·obtain ⟨t,ht⟩ : ∃ w,x.Passings[k]? = some w:=⟨_,List.getElem?_eq_getElem hlt⟩
  have g1:=(List.getElem?_eq_some_iff.1 ht).2
  simp -dsimp -implicitDefEqProofs [ht,g1,hlt,yG hlt]
  intro _
  refine yc (yD t.Time 0 1000000) ?_
  cases h6 : inRange t.Time 0 1000000 with
  | false=>simp -dsimp -implicitDefEqProofs; exact yxw ht (by simp [yc9,h6])
  | true =>
  simp -dsimp -implicitDefEqProofs
  refine fun hlW=>⟨by unfold maxLen at hlW; unfold inI; omega,?_⟩
  refine yc (yD t.Work 0 (x.Works.length - 1)) ?_
  cases h7 : inRange t.Work 0 (x.Works.length - 1) with
  | false=>simp -dsimp -implicitDefEqProofs; exact yxw ht (by simp [yc9,h7])
  | true =>
  simp -dsimp -implicitDefEqProofs
  refine yc (yds t.Train (hsP.2 t (List.mem_of_getElem? ht))) ?_
  cases h8 : yP t.Train with
  | false=>simp -dsimp -implicitDefEqProofs; exact yxw ht (by simp [yc9,h8])
  | true =>
  simp -dsimp -implicitDefEqProofs
  refine ⟨yw hlt hlP,k + 1,⟨hlt,yL (p:=yc9 x.Works.length) ht hall (by simp [yc9,h6,h7,h8])⟩,by omega,?_⟩
  apply yj <;> simp
 have hP:=yX (p:=yc9 x.Works.length) hge hall
 simp -dsimp -implicitDefEqProofs [yaB hge]
 intro _
 have a3 : x.Arrived.length ≤ 500:=by omega
 have a4 : x.Entered.length ≤ 2000:=by omega
 have a5 : x.Passings.length ≤ 500:=by omega
 simp only [ybW,a3,a4,a5,hA,hE,hP]; simp
theorem ym6 (x : Waterway) (hs : x.small) : yB Tryz.prog 42 [.agg (x.enc.map .c)] (.c (.b (yar x))):=by
 refine yh yk1 ?_
 simp -dsimp -implicitDefEqProofs
 refine yc (yD x.Time 0 1000000) ?_
 cases h1 : inRange x.Time 0 1000000 with
 | false=>simp -dsimp -implicitDefEqProofs; simp [yar,h1]
 | true =>
 simp -dsimp -implicitDefEqProofs
 refine yc (yD x.Start 0 1000000000) ?_
 cases h2 : inRange x.Start 0 1000000000 with
 | false=>simp -dsimp -implicitDefEqProofs; simp [yar,h2]
 | true =>
 simp -dsimp -implicitDefEqProofs
 refine yc (yD x.In 0 1000000000) ?_
 cases h3 : inRange x.In 0 1000000000 with
 | false=>simp -dsimp -implicitDefEqProofs; simp [yar,h3]
 | true =>
 simp -dsimp -implicitDefEqProofs
 refine yc (yD x.Out 0 1000000000) ?_
 cases h4 : inRange x.Out 0 1000000000 with
 | false=>simp -dsimp -implicitDefEqProofs; simp [yar,h4]
 | true =>
 simp -dsimp -implicitDefEqProofs
 refine yc (yv2 x hs) ?_
 cases h5 : ybi x with
 | false=>simp -dsimp -implicitDefEqProofs; simp [yar,h5]
 | true =>
 simp -dsimp -implicitDefEqProofs
 refine yc (ywh x hs) ?_
 cases h6 : ybW x with
 | false=>simp -dsimp -implicitDefEqProofs; simp [yar,h6]
 | true =>
 simp -dsimp -implicitDefEqProofs
 refine yc (yre x.Tariff) ?_
 cases h7 : ya9 x.Tariff with
 | false=>simp -dsimp -implicitDefEqProofs; simp [yar,h7]
 | true =>
 simp -dsimp -implicitDefEqProofs
 refine yc (yuL x.Book) ?_
 simp -dsimp -implicitDefEqProofs
 simp [yar,h1,h2,h3,h4,h5,h6,h7]
def yNH (w : Work) : Int:=w.Lock.Water
def yNB (x : Waterway) : Int:=if yar x then yNz x.Reaches + (x.Works.map yNH).sum else 0
def yND (x : Waterway) (k : Nat) : Int:=((x.Works.take k).map yNH).sum
theorem yNR {x : Waterway} : yND x 0 = 0:=rfl
theorem yNQ {x : Waterway} {k : Nat} {w : Work} (h : x.Works[k]? = some w) : yND x (k + 1) = yND x k + w.Lock.Water:=by
 unfold yND; rw [List.take_succ,h]; simp [yNH]
theorem yNF {x : Waterway} {k : Nat} (h : x.Works.length ≤ k) : yND x k = (x.Works.map yNH).sum:=by unfold yND; rw [List.take_of_length_le h]
structure WaterFacts (x : Waterway) : Prop where
 river : ycM x.Reaches = true
 few : x.Works.length ≤ 5
 rng : ∀ w ∈ x.Works,0 ≤ w.Lock.Water ∧ w.Lock.Water ≤ 1000000000
 start : 0 ≤ x.Start ∧ x.Start ≤ 1000000000
 inn : 0 ≤ x.In ∧ x.In ≤ 1000000000
 out : 0 ≤ x.Out ∧ x.Out ≤ 1000000000
theorem yqj {x : Waterway} (h : yar x = true) : WaterFacts x:=by
 simp only [yar,Bool.and_eq_true] at h
 obtain ⟨⟨⟨⟨⟨⟨⟨h1,h2⟩,h3⟩,h4⟩,h5⟩,h6⟩,h7⟩,h8⟩:=h
 simp only [ybi,Bool.and_eq_true,decide_eq_true_eq,List.all_eq_true] at h2
 obtain ⟨⟨⟨⟨⟨⟨p1,p2⟩,p3⟩,p4⟩,p5⟩,p6⟩,p7⟩:=h2
 have rf:=(ywm p1).len
 refine ⟨p1,by omega,fun w hw=>?_,yF.1 h6,yF.1 h7,yF.1 h8⟩
 have:=p7 w hw
 simp only [ybd,ybg,Bool.and_eq_true] at this
 exact yF.1 this.1.1.1.1.1.1.1.1.2
theorem yNC {x : Waterway} (h : WaterFacts x) : ∀ k : Nat,0 ≤ yND x k ∧ yND x k ≤ 1000000000 * k
 | 0=>by rw [yNR]; omega
 | k + 1=>by
  have ih:=yNC h k
  have e2 : ((k + 1 : Nat) : Int) = k + 1:=by simp
  cases hk : x.Works[k]? with
  | none =>
   have hl : x.Works.length ≤ k:=by simpa using hk
   rw [yNF (by omega),← yNF hl]; omega
  | some w =>
   have:=h.rng w (List.mem_of_getElem? hk)
   rw [yNQ hk]; omega
theorem yNI {l : List Reach} (h : ycM l = true) : 0 ≤ yNz l ∧ yNz l ≤ 1000000000:=by
 have:=(ywm h).rng
 simp [yNz,h]; omega
theorem yN3 (x : Waterway) : 0 ≤ yNB x ∧ yNB x ≤ 6000000000:=by
 unfold yNB
 split
 ·rename_i h
  have f:=yqj h
  have h1:=yNI f.river
  have h2:=yNC f x.Works.length
  have h3:=f.few
  rw [yNF (Nat.le_refl _)] at h2
  omega
 ·omega
theorem yOa (x : Waterway) (hs : x.small) : yB Tryz.prog 82 [.agg (x.enc.map .c)] (.c (.i (yNB x))):=by
 refine yh yN8 ?_
 simp -dsimp -implicitDefEqProofs
 refine yc (yns x hs) ?_
 cases h : yar x with
 | false=>simp -dsimp -implicitDefEqProofs; simp [yNB,h]
 | true =>
 have f:=yqj h
 have hr:=yNI f.river
 have hfew:=f.few
 have hW : yNB x = yNz x.Reaches + (x.Works.map yNH).sum:=by simp [yNB,h]
 simp -dsimp -implicitDefEqProofs
 refine yc (yN5 x.Reaches) ?_
 simp -dsimp -implicitDefEqProofs
 intro hlen
 refine yg (ι:=Nat) (fun k=>k ≤ x.Works.length) (fun k=>yO [(3,.c (.i (yNz x.Reaches + yND x k))),(13,.c (.sl 22 (x.Works.map Work.enc))),(14,.c (.i x.Works.length)),(15,.c (.i k))] []) (fun k=>x.Works.length - k) 0 (by simp) (by apply yj <;> simp [yNR]) ?_
 rintro k hk
 rcases Nat.lt_or_ge k x.Works.length with hlt | hge
 ·obtain ⟨w,hw⟩ : ∃ w,x.Works[k]? = some w:=⟨_,List.getElem?_eq_getElem hlt⟩
  have g1:=(List.getElem?_eq_some_iff.1 hw).2
  have e1:=yNQ hw
  have hb:=yNC f (k + 1)
  have hb0:=yNC f k
  rw [e1] at hb
  simp -dsimp -implicitDefEqProofs [hw,g1,yG hlt,hlt]
  refine ⟨by unfold inI; omega,yw hlt hlen,k + 1,hlt,by omega,?_⟩
  apply yj <;> simp [e1]
  omega
 ·simp -dsimp -implicitDefEqProofs [yaB hge]
  rw [yNF hge,hW]
theorem yOc (x : Waterway) (hs : x.small) : yB Tryz.prog 74 [.agg (x.enc.map .c)] (.c (.i (yNB x))):=by
 refine yh yN7 ?_
 simp -dsimp -implicitDefEqProofs
 refine yc (ym6 x hs) ?_
 cases h : yar x with
 | false=>simp -dsimp -implicitDefEqProofs; simp [yNB,h]
 | true =>
 have f:=yqj h
 have hr:=yNI f.river
 have hfew:=f.few
 have hW : yNB x = yNz x.Reaches + (x.Works.map yNH).sum:=by simp [yNB,h]
 simp -dsimp -implicitDefEqProofs
 refine yc (yN4 x.Reaches) ?_
 simp -dsimp -implicitDefEqProofs
 refine yg (ι:=Nat) (fun k=>k ≤ x.Works.length) (fun k=>yO [(1,.box 1 0),(3,.c (.i (yNz x.Reaches + yND x k))),(4,.c (.i k))] [(1,.box (x.enc.map .c))]) (fun k=>x.Works.length - k) 0 (by simp) (by apply yj <;> simp [yNR]) ?_
 rintro k hk
 rcases Nat.lt_or_ge k x.Works.length with hlt | hge
 ·obtain ⟨w,hw⟩ : ∃ w,x.Works[k]? = some w:=⟨_,List.getElem?_eq_getElem hlt⟩
  have g1:=(List.getElem?_eq_some_iff.1 hw).2
  have e1:=yNQ hw
  have hb:=yNC f (k + 1)
  have hb0:=yNC f k
  rw [e1] at hb
  simp -dsimp -implicitDefEqProofs [hw,g1,yG hlt,hlt]
  refine fun hlen=>⟨by unfold inI; omega,yw hlt hlen,k + 1,hlt,by omega,?_⟩
  apply yj <;> simp [e1]
  omega
 ·simp -dsimp -implicitDefEqProofs [yaB hge]
  intro _
  rw [yNF hge,hW]
def yVD (x : Waterway) : Bool:=yar x && decide (yNB x + x.Out = x.Start + x.In)
theorem yVT (x : Waterway) (hs : x.small) : yB Tryz.prog 46 [.agg (x.enc.map .c)] (.c (.b (yVD x))):=by
 refine yh yVP ?_
 simp -dsimp -implicitDefEqProofs
 refine yaC (yns x hs) ?_
 cases h : yar x with
 | false=>simp -dsimp -implicitDefEqProofs; simp [yVD,h]
 | true =>
 have f:=yqj h
 have f1:=f.start; have f2:=f.inn; have f3:=f.out
 have hw:=yN3 x
 simp -dsimp -implicitDefEqProofs
 refine yaC (yOa x hs) ?_
 simp -dsimp -implicitDefEqProofs
 refine ⟨by unfold inI; omega,by unfold inI; omega,?_⟩
 simp [yVD,h]
theorem yVS (x : Waterway) (hs : x.small) : yB Tryz.prog 43 [.agg (x.enc.map .c)] (.c (.b (yVD x))):=by
 refine yh yVO ?_
 simp -dsimp -implicitDefEqProofs
 first
  | refine yaQ (ym6 x hs) (by simp) rfl ?_
  | refine yaP (ym6 x hs) (by simp) rfl ?_
  | refine ⟨_,_,ym6 x hs,by simp,.inr rfl,?_⟩
  | refine ⟨_,_,ym6 x hs,by simp,.inl rfl,?_⟩
  | refine ya2 (ym6 x hs) (by simp) (.inr rfl) ?_
  | refine ya2 (ym6 x hs) (by simp) (.inl rfl) ?_
 cases h : yar x with
 | false=>simp -dsimp -implicitDefEqProofs; simp [yVD,h]
 | true =>
 have f:=yqj h
 have f1:=f.start; have f2:=f.inn; have f3:=f.out
 have hw:=yN3 x
 simp -dsimp -implicitDefEqProofs
 first
  | refine yaQ (yOc x hs) (by simp) rfl ?_
  | refine yaP (yOc x hs) (by simp) rfl ?_
  | refine ⟨_,_,yOc x hs,by simp,.inr rfl,?_⟩
  | refine ⟨_,_,yOc x hs,by simp,.inl rfl,?_⟩
  | refine ya2 (yOc x hs) (by simp) (.inr rfl) ?_
  | refine ya2 (yOc x hs) (by simp) (.inl rfl) ?_
 simp -dsimp -implicitDefEqProofs
 refine ⟨by unfold inI; omega,by unfold inI; omega,?_⟩
 simp [yVD,h]
def yay (e : Reach) : Nat:=2 * e.Table.length + 1 + e.Pipe.length
def ycQ (k : Int) (e : Reach) : List C:=[.ow 2 (marked mkPt 2 [] k e.Table.length),.i (k + 2 * (e.Table.length : Int)),.ow 1 (marked yJ 1 [] (k + 2 * (e.Table.length : Int) + 1) e.Pipe.length)]
def ydz (k : Int) : List C:=[.i k,.i (k + 1)]
def ybT (k : Int) : List C:=[.i k,.i (k + 1)]
def yE (e : Train) : Nat:=1 + cnt nB e.Rows
def ybN (k : Int) (e : Train) : List C:=[.b (decide (k.tmod 3 = 0)),.ot 1 (yaA fB nB (k + 1) e.Rows)]
@[simp] def CallT.yI (e : CallT) : List C:=[.b e.Train.Up,.ot 1 (e.Train.Rows.map yT),.i e.Since,.i e.Booked]
def yaI (e : CallT) : Nat:=1 + cnt nB e.Train.Rows + 1 + 1
def yeu (k : Int) (e : CallT) : List C:=[.b (decide (k.tmod 3 = 0)),.ot 1 (yaA fB nB (k + 1) e.Train.Rows),.i (k + 1 + (cnt nB e.Train.Rows : Int)),.i (k + 1 + (cnt nB e.Train.Rows : Int) + 1)]
@[simp] def Lock.yI (e : Lock) : List C:=[.i e.Length,.i e.Width,.i e.SillAbove,.i e.SillBelow,.i e.Base,.i e.Area,.i e.Rate,.i e.Water,.i e.Gate,.ot 2 (e.Inside.map Train.yI)]
@[simp] def Work.yI (e : Work) : List C:=[.i e.Lock.Length,.i e.Lock.Width,.i e.Lock.SillAbove,.i e.Lock.SillBelow,.i e.Lock.Base,.i e.Lock.Area,.i e.Lock.Rate,.i e.Lock.Water,.i e.Lock.Gate,.ot 2 (e.Lock.Inside.map Train.yI),.i e.Weir.Gates,.i e.Weir.Open,.i e.Weir.Step,.i e.Weir.Crest,.i e.Weir.Width,.i e.Rule.Low,.i e.Rule.High,.i e.Rule.Flood,.ow 2 (e.Pauses.map Pause.enc),.b e.Turn.Up,.i e.Turn.Count,.ot 4 (e.Calls.map CallT.yI)]
def yaJ (e : Work) : Nat:=1 + 1 + 1 + 1 + 1 + 1 + 1 + 1 + 1 + cnt yE e.Lock.Inside + 1 + 1 + 1 + 1 + 1 + 1 + 1 + 1 + 2 * e.Pauses.length + 1 + 1 + cnt yaI e.Calls
def ydH (k : Int) (e : Work) : List C:=[.i k,.i (k + 1),.i (k + 1 + 1),.i (k + 1 + 1 + 1),.i (k + 1 + 1 + 1 + 1),.i (k + 1 + 1 + 1 + 1 + 1),.i (k + 1 + 1 + 1 + 1 + 1 + 1),.i (k + 1 + 1 + 1 + 1 + 1 + 1 + 1),.i (k + 1 + 1 + 1 + 1 + 1 + 1 + 1 + 1),.ot 2 (yaA ybN yE (k + 1 + 1 + 1 + 1 + 1 + 1 + 1 + 1 + 1) e.Lock.Inside),.i (k + 1 + 1 + 1 + 1 + 1 + 1 + 1 + 1 + 1 + (cnt yE e.Lock.Inside : Int)),.i (k + 1 + 1 + 1 + 1 + 1 + 1 + 1 + 1 + 1 + (cnt yE e.Lock.Inside : Int) + 1),.i (k + 1 + 1 + 1 + 1 + 1 + 1 + 1 + 1 + 1 + (cnt yE e.Lock.Inside : Int) + 1 + 1),.i (k + 1 + 1 + 1 + 1 + 1 + 1 + 1 + 1 + 1 + (cnt yE e.Lock.Inside : Int) + 1 + 1 + 1),.i (k + 1 + 1 + 1 + 1 + 1 + 1 + 1 + 1 + 1 + (cnt yE e.Lock.Inside : Int) + 1 + 1 + 1 + 1),.i (k + 1 + 1 + 1 + 1 + 1 + 1 + 1 + 1 + 1 + (cnt yE e.Lock.Inside : Int) + 1 + 1 + 1 + 1 + 1),.i (k + 1 + 1 + 1 + 1 + 1 + 1 + 1 + 1 + 1 + (cnt yE e.Lock.Inside : Int) + 1 + 1 + 1 + 1 + 1 + 1),.i (k + 1 + 1 + 1 + 1 + 1 + 1 + 1 + 1 + 1 + (cnt yE e.Lock.Inside : Int) + 1 + 1 + 1 + 1 + 1 + 1 + 1),.ow 2 (marked ybT 2 [] (k + 1 + 1 + 1 + 1 + 1 + 1 + 1 + 1 + 1 + (cnt yE e.Lock.Inside : Int) + 1 + 1 + 1 + 1 + 1 + 1 + 1 + 1) e.Pauses.length),.b (decide ((k + 1 + 1 + 1 + 1 + 1 + 1 + 1 + 1 + 1 + (cnt yE e.Lock.Inside : Int) + 1 + 1 + 1 + 1 + 1 + 1 + 1 + 1 + 2 * (e.Pauses.length : Int)).tmod 3 = 0)),.i (k + 1 + 1 + 1 + 1 + 1 + 1 + 1 + 1 + 1 + (cnt yE e.Lock.Inside : Int) + 1 + 1 + 1 + 1 + 1 + 1 + 1 + 1 + 2 * (e.Pauses.length : Int) + 1),.ot 4 (yaA yeu yaI (k + 1 + 1 + 1 + 1 + 1 + 1 + 1 + 1 + 1 + (cnt yE e.Lock.Inside : Int) + 1 + 1 + 1 + 1 + 1 + 1 + 1 + 1 + 2 * (e.Pauses.length : Int) + 1 + 1) e.Calls)]
def yax (xs : List Mover) : List C:=[.ot 3 (xs.map Mover.yI)]
def yap (r : List Mover) : Nat:=cnt nM r
def ycj (k : Int) (r : List Mover) : List C:=[.ot 3 (yaA fM nM k r)]
@[simp] def Passing.yI (e : Passing) : List C:=[.i e.Time,.i e.Work,.b e.Train.Up,.ot 1 (e.Train.Rows.map yT)]
def yae (e : Passing) : Nat:=1 + 1 + 1 + cnt nB e.Train.Rows
def ybL (k : Int) (e : Passing) : List C:=[.i k,.i (k + 1),.b (decide ((k + 1 + 1).tmod 3 = 0)),.ot 1 (yaA fB nB (k + 1 + 1 + 1) e.Train.Rows)]
@[simp] def Waterway.yI (e : Waterway) : List C:=[.i e.Time,.ot 3 (e.Reaches.map Reach.yI),.ow 2 (e.Ways.map Way.enc),.ot 22 (e.Works.map Work.yI),.ot 1 (e.Movers.map yax),.ot 2 (e.Arrived.map Train.yI),.ow 1 (e.Entered.map yJ),.i e.Tariff.Base,.i e.Tariff.PerArea,.ow 1 (e.Tariff.PerClass.map yJ),.ow 1 (e.Tariff.Weights.map yJ),.ow 5 (e.Book.map Entry.enc),.ot 4 (e.Passings.map Passing.yI),.i e.Start,.i e.In,.i e.Out]
def yd0 {α : Type} (t : α → Nat) (xs : List α) : Nat:=xs.length + (xs.map t).sum
def ycz {α : Type} (f : α → Int → Int) (t : α → Nat) : Prop:=∀ x l,0 ≤ l → l ≤ 1048576 → 0 ≤ f x l → f x l + t x ≤ l
theorem yaV {a : Int} {f : Int → Int} (h : 0 ≤ ybm a f) : 0 ≤ a ∧ ybm a f = f a:=by
 rcases Int.lt_or_le a 0 with e | e
 ·rw [yK e] at h; omega
 ·exact ⟨e,yu e⟩
theorem yhx {α : Type} : ycz (fun (xs : List α) l=>szS xs.length l) (fun xs=>xs.length):=by
 intro xs l h0 h1 h
 simp only [szS] at h ⊢
 split at h
 ·omega
 ·rename_i h2; rw [if_neg h2]; omega
theorem yn7 {α : Type} {f : α → Int → Int} {t : α → Nat} (hf : ycz f t) : ∀ (xs : List α) (l : Int),0 ≤ l → l ≤ 1048576 → 0 ≤ yaw f xs l → yaw f xs l + ((xs.map t).sum : Nat) ≤ l
 | [],l,_,_,_=>by simp [yaw]
 | x :: xs,l,h0,h1,h=>by
  simp only [yaw] at h ⊢
  obtain ⟨p,e⟩:=yaV h
  rw [e] at h ⊢
  have h2:=hf x l h0 h1 p
  have h3:=yn7 hf xs (f x l) p (by omega) h
  simp only [List.map_cons,List.sum_cons,Int.natCast_add]; omega
theorem ye8 {α : Type} {f : α → Int → Int} {t : α → Nat} (hf : ycz f t) : ycz (yeE f) (yd0 t):=by
 intro xs l h0 h1 h
 unfold yeE at h ⊢
 obtain ⟨p,e⟩:=yaV h
 rw [e] at h ⊢
 have h2:=yhx xs l h0 h1 p
 have h3:=yn7 hf xs _ p (by simp only at h2 ⊢; omega) h
 unfold yd0
 simp only at h2
 omega
def ydD (xs : List Int) : Nat:=xs.length
theorem ygx : ycz yhJ ydD:=yhx
def ykt (xs : List Entry) : Nat:=xs.length
theorem yqX : ycz ygY ykt:=yhx
def yju (xs : List Boat) : Nat:=xs.length
theorem ytl : ycz yex yju:=yhx
def yeT : List (List Boat) → Nat:=yd0 yju
theorem yqw : ycz yeb yeT:=ye8 ytl
def yci (e : Train) : Nat:=yeT e.Rows
theorem yfQ : ycz yb2 yci:=by
 intro e l h0 h1 h
 unfold yb2 at h ⊢
 obtain ⟨p0,e0⟩:=yaV h
 rw [e0] at h ⊢
 have t0:=yqw e.Rows _ h0 h1 p0
 unfold yci
 omega
def yhw (xs : List Point) : Nat:=xs.length
theorem yrs : ycz yg2 yhw:=yhx
def yaZ (e : Reach) : Nat:=yhw e.Table + ydD e.Pipe
theorem ys5 : ycz ycy yaZ:=by
 intro e l h0 h1 h
 unfold ycy at h ⊢
 obtain ⟨p0,e0⟩:=yaV h
 rw [e0] at h ⊢
 have t0:=yrs e.Table _ h0 h1 p0
 obtain ⟨p1,e1⟩:=yaV h
 rw [e1] at h ⊢
 have t1:=ygx e.Pipe _ p0 (by omega) p1
 unfold yaZ
 omega
def ydQ : List Reach → Nat:=yd0 yaZ
theorem yqR : ycz yd8 ydQ:=ye8 ys5
def yox (xs : List Way) : Nat:=xs.length
theorem yu8 : ycz yk3 yox:=yhx
def ykC (xs : List Pause) : Nat:=xs.length
theorem yqQ : ycz yhi ykC:=yhx
def yf0 : List Train → Nat:=yd0 yci
theorem yke : ycz ydk yf0:=ye8 yfQ
def ylq (e : Lock) : Nat:=yf0 e.Inside
theorem yuX : ycz ygm ylq:=by
 intro e l h0 h1 h
 unfold ygm at h ⊢
 obtain ⟨p0,e0⟩:=yaV h
 rw [e0] at h ⊢
 have t0:=yke e.Inside _ h0 h1 p0
 unfold ylq
 omega
def yiS (e : CallT) : Nat:=yci e.Train
theorem ytP : ycz ydJ yiS:=by
 intro e l h0 h1 h
 unfold ydJ at h ⊢
 obtain ⟨p0,e0⟩:=yaV h
 rw [e0] at h ⊢
 have t0:=yfQ e.Train _ h0 h1 p0
 unfold yiS
 omega
def yl4 : List CallT → Nat:=yd0 yiS
theorem ytn : ycz yfd yl4:=ye8 ytP
def yg5 (e : Work) : Nat:=ylq e.Lock + ykC e.Pauses + yl4 e.Calls
theorem yus : ycz ycY yg5:=by
 intro e l h0 h1 h
 unfold ycY at h ⊢
 obtain ⟨p0,e0⟩:=yaV h
 rw [e0] at h ⊢
 have t0:=yuX e.Lock _ h0 h1 p0
 obtain ⟨p1,e1⟩:=yaV h
 rw [e1] at h ⊢
 have t1:=yqQ e.Pauses _ p0 (by omega) p1
 obtain ⟨p2,e2⟩:=yaV h
 rw [e2] at h ⊢
 have t2:=ytn e.Calls _ p1 (by omega) p2
 unfold yg5
 omega
def yeJ : List Work → Nat:=yd0 yg5
theorem ytv : ycz yfc yeJ:=ye8 yus
def yhg (e : Mover) : Nat:=yci e.Train
theorem ysK : ycz ycV yhg:=by
 intro e l h0 h1 h
 unfold ycV at h ⊢
 obtain ⟨p0,e0⟩:=yaV h
 rw [e0] at h ⊢
 have t0:=yfQ e.Train _ h0 h1 p0
 unfold yhg
 omega
def ygb : List Mover → Nat:=yd0 yhg
theorem yq0 : ycz ycf ygb:=ye8 ysK
def yiG : List (List Mover) → Nat:=yd0 ygb
theorem yow : ycz ydg yiG:=ye8 yq0
def yhC (e : Tariff) : Nat:=ydD e.PerClass + ydD e.Weights
theorem yqO : ycz ydq yhC:=by
 intro e l h0 h1 h
 unfold ydq at h ⊢
 obtain ⟨p0,e0⟩:=yaV h
 rw [e0] at h ⊢
 have t0:=ygx e.PerClass _ h0 h1 p0
 obtain ⟨p1,e1⟩:=yaV h
 rw [e1] at h ⊢
 have t1:=ygx e.Weights _ p0 (by omega) p1
 unfold yhC
 omega
def ydZ (e : Passing) : Nat:=yci e.Train
theorem yoT : ycz ybM ydZ:=by
 intro e l h0 h1 h
 unfold ybM at h ⊢
 obtain ⟨p0,e0⟩:=yaV h
 rw [e0] at h ⊢
 have t0:=yfQ e.Train _ h0 h1 p0
 unfold ydZ
 omega
def yhy : List Passing → Nat:=yd0 ydZ
theorem ym7 : ycz ycH yhy:=ye8 yoT
def ycp (e : Waterway) : Nat:=ydQ e.Reaches + yox e.Ways + yeJ e.Works + yiG e.Movers + yf0 e.Arrived + ydD e.Entered + yhC e.Tariff + ykt e.Book + yhy e.Passings
theorem ynf : ycz yaX ycp:=by
 intro e l h0 h1 h
 unfold yaX at h ⊢
 obtain ⟨p0,e0⟩:=yaV h
 rw [e0] at h ⊢
 have t0:=yqR e.Reaches _ h0 h1 p0
 obtain ⟨p1,e1⟩:=yaV h
 rw [e1] at h ⊢
 have t1:=yu8 e.Ways _ p0 (by omega) p1
 obtain ⟨p2,e2⟩:=yaV h
 rw [e2] at h ⊢
 have t2:=ytv e.Works _ p1 (by omega) p2
 obtain ⟨p3,e3⟩:=yaV h
 rw [e3] at h ⊢
 have t3:=yow e.Movers _ p2 (by omega) p3
 obtain ⟨p4,e4⟩:=yaV h
 rw [e4] at h ⊢
 have t4:=yke e.Arrived _ p3 (by omega) p4
 obtain ⟨p5,e5⟩:=yaV h
 rw [e5] at h ⊢
 have t5:=ygx e.Entered _ p4 (by omega) p5
 obtain ⟨p6,e6⟩:=yaV h
 rw [e6] at h ⊢
 have t6:=yqO e.Tariff _ p5 (by omega) p6
 obtain ⟨p7,e7⟩:=yaV h
 rw [e7] at h ⊢
 have t7:=yqX e.Book _ p6 (by omega) p7
 obtain ⟨p8,e8⟩:=yaV h
 rw [e8] at h ⊢
 have t8:=ym7 e.Passings _ p7 (by omega) p8
 unfold ycp
 omega
def hsW (x : Waterway) : List H:=[.p (.i x.Time),.t 3 (x.Reaches.map Reach.yI),.w 2 (x.Ways.map Way.enc),.t 22 (x.Works.map Work.yI),.t 1 (x.Movers.map yax),.t 2 (x.Arrived.map Train.yI),.w 1 (x.Entered.map yJ),
 .p (.i x.Tariff.Base),.p (.i x.Tariff.PerArea),.w 1 (x.Tariff.PerClass.map yJ),.w 1 (x.Tariff.Weights.map yJ),.w 5 (x.Book.map Entry.enc),.t 4 (x.Passings.map Passing.yI),.p (.i x.Start),.p (.i x.In),.p (.i x.Out)]
def wm1 (x : Waterway) (k : Int) : Int:=k + cnt yay x.Reaches
def wm2 (x : Waterway) (k : Int) : Int:=wm1 x k + 2 * x.Ways.length
def wm3 (x : Waterway) (k : Int) : Int:=wm2 x k + cnt yaJ x.Works
def wm4 (x : Waterway) (k : Int) : Int:=wm3 x k + cnt yap x.Movers
def wm5 (x : Waterway) (k : Int) : Int:=wm4 x k + cnt yE x.Arrived
def wm6 (x : Waterway) (k : Int) : Int:=wm5 x k + x.Entered.length
def wm7 (x : Waterway) (k : Int) : Int:=wm6 x k + nT x.Tariff
def wm8 (x : Waterway) (k : Int) : Int:=wm7 x k + 5 * x.Book.length
def hsM (x : Waterway) (k : Int) : List H:=[.p (.i x.Time),.t 3 (yaA ycQ yay k x.Reaches),.w 2 (marked ydz 2 [] (wm1 x k) x.Ways.length),.t 22 (yaA ydH yaJ (wm2 x k) x.Works),.t 1 (yaA ycj yap (wm3 x k) x.Movers),.t 2 (yaA ybN yE (wm4 x k) x.Arrived),.w 1 (marked yJ 1 [] (wm5 x k) x.Entered.length),
 .p (.i x.Tariff.Base),.p (.i x.Tariff.PerArea),.w 1 (marked yJ 1 [] (wm6 x k) x.Tariff.PerClass.length),.w 1 (marked yJ 1 [] (wm6 x k + x.Tariff.PerClass.length) x.Tariff.Weights.length),.w 5 (marked mkEn 5 [] (wm7 x k) x.Book.length),.t 4 (yaA ybL yae (wm8 x k) x.Passings),.p (.i x.Start),.p (.i x.In),.p (.i x.Out)]
def fl {α : Type} (f : α → List Int) (l : List α) (k : Nat) : List Int:=(l.take k).flatMap f
theorem yUy {α : Type} {f : α → List Int} {l : List α} : fl f l 0 = []:=rfl
theorem yUx {α : Type} {f : α → List Int} {l : List α} {k : Nat} {x : α} (h : l[k]? = some x) : fl f l (k + 1) = fl f l k ++ f x:=by
 unfold fl; rw [List.take_succ,h,List.flatMap_append]; simp
theorem yUB {α : Type} {f : α → List Int} {l : List α} {k : Nat} (h : l.length ≤ k) : fl f l k = l.flatMap f:=by
 unfold fl; rw [List.take_of_length_le h]
theorem yUC {α : Type} {f : α → List Int} {l : List α} {k : Nat} {x : α} (h : l[k]? = some x) : (fl f l k).length + (f x).length ≤ (l.flatMap f).length:=by
 have : l.flatMap f = fl f l (k + 1) ++ (l.drop (k + 1)).flatMap f:=by
  unfold fl; rw [← List.flatMap_append,List.take_append_drop]
 rw [this,yUx h]; simp only [List.length_append]; omega
def yUw (m : Mover) : List Int:=yaY m.Train
def yUv (c : CallT) : List Int:=yaY c.Train
def yUt (l : List Mover) : List Int:=l.flatMap yUw
def yUA (w : Work) : List Int:=w.Calls.flatMap yUv ++ w.Lock.Inside.flatMap yaY
def yUs (x : Waterway) : List Int:=x.Movers.flatMap yUt ++ x.Works.flatMap yUA ++ x.Arrived.flatMap yaY
theorem yUK (x : Waterway) : (yUs x).length = (x.Movers.flatMap yUt).length + (x.Works.flatMap yUA).length + (x.Arrived.flatMap yaY).length:=by
 simp only [yUs,List.length_append]
theorem cat3 {A B D : List Int} : List.take (A.length + (B.length + D.length)) (List.map yJ A ++ (List.map yJ B ++ List.map yJ D)) = List.map yJ (A ++ B ++ D):=by
 rw [List.take_of_length_le (by simp)]; simp
set_option maxRecDepth 20000 in
theorem yU6 (x : Waterway) (hs : x.small) (hB : (yUs x).length ≤ 1000000000) : yB Tryz.prog 21 [.agg (x.enc.map .c)] (.c (.sl 1 ((yUs x).map yJ))):=by
 obtain ⟨s1,s2,s3,s4,s5,s6,s7,s8,s9⟩:=hs
 have hP : yUs x = x.Movers.flatMap yUt ++ x.Works.flatMap yUA ++ x.Arrived.flatMap yaY:=rfl
 rw [yUK] at hB
 refine yh yUW ?_
 simp -dsimp -implicitDefEqProofs
 refine yg (ι:=Nat) (fun k=>k ≤ x.Movers.length) (fun k=>yO [(1,.box 1 0),(3,.own 10 1 (fl yUt x.Movers k).length),(4,.c (.i k))] [(1,.box (x.enc.map .c)),(10,.row 1 ((fl yUt x.Movers k).map yJ))]) (fun k=>x.Movers.length - k) 0 (by simp) (by apply yj <;> simp [yUy]) ?_
 rintro k hk
 rcases Nat.lt_or_ge k x.Movers.length with klt | kge
 ·obtain ⟨l,hl⟩ : ∃ l,x.Movers[k]? = some l:=⟨_,List.getElem?_eq_getElem klt⟩
  have hls:=s4.2 l (List.mem_of_getElem? hl)
  have hb1:=yUC (f:=yUt) hl
  have e1:=yUx (f:=yUt) hl
  simp -dsimp -implicitDefEqProofs [hl,yG klt]
  intro hlen
  generalize fl yUt x.Movers k = A at hb1 e1
  refine yg (ι:=Nat) (fun j=>j ≤ l.length) (fun j=>yO [(1,.box 1 0),(3,.own 10 1 (A ++ fl yUw l j).length),(4,.c (.i k)),(5,.c (.i j))] [(1,.box (x.enc.map .c)),(10,.row 1 ((A ++ fl yUw l j).map yJ))]) (fun j=>l.length - j) 0 (by simp) (by apply yj <;> simp [yUy]) ?_
  rintro j hj
  rcases Nat.lt_or_ge j l.length with jlt | jge
  ·obtain ⟨m,hm⟩ : ∃ m,l[j]? = some m:=⟨_,List.getElem?_eq_getElem jlt⟩
   have hms:=hls.2 m (List.mem_of_getElem? hm)
   have hb2:=yUC (f:=yUw) hm
   have hb3 : (yUt l).length = (l.flatMap yUw).length:=rfl
   have hb4 : (yUw m).length = (yaY m.Train).length:=rfl
   simp -dsimp -implicitDefEqProofs [hl,hm,yG klt,yG jlt]
   intro hlen2
   refine yS (yvW m.Train hms) ?_
   simp -dsimp -implicitDefEqProofs
   refine ⟨by omega,yw jlt hlen2,j + 1,jlt,by omega,?_⟩
   apply yj <;> simp [yUx hm,yUw,Nat.add_assoc]
  ·simp -dsimp -implicitDefEqProofs [yaB jge,hl,yG klt]
   intro _
   rw [yUB jge]
   have e2 : A ++ l.flatMap yUw = fl yUt x.Movers (k + 1):=by rw [e1]; rfl
   have e3 : A.length + (l.flatMap yUw).length = (fl yUt x.Movers (k + 1)).length:=by rw [← e2]; simp only [List.length_append]
   refine ⟨yw klt hlen,k + 1,klt,by omega,?_⟩
   apply yj <;> simp [← e2]
 simp -dsimp -implicitDefEqProofs [yaB kge]
 intro _
 rw [yUB kge]
 generalize x.Movers.flatMap yUt = B1 at hB hP
 refine yg (ι:=Nat) (fun q=>q ≤ x.Works.length) (fun q=>yO [(1,.box 1 0),(3,.own 10 1 (B1 ++ fl yUA x.Works q).length),(6,.c (.i q))] [(1,.box (x.enc.map .c)),(10,.row 1 ((B1 ++ fl yUA x.Works q).map yJ))]) (fun q=>x.Works.length - q) 0 (by simp) (by apply yj <;> simp [yUy]) ?_
 rintro q hq
 rcases Nat.lt_or_ge q x.Works.length with qlt | qge
 ·obtain ⟨w,hl⟩ : ∃ w,x.Works[q]? = some w:=⟨_,List.getElem?_eq_getElem qlt⟩
  have hws:=s3.2 w (List.mem_of_getElem? hl)
  have hb1:=yUC (f:=yUA) hl
  have hb3 : (yUA w).length = (w.Calls.flatMap yUv).length + (w.Lock.Inside.flatMap yaY).length:=by simp only [yUA,List.length_append]
  have e1:=yUx (f:=yUA) hl
  have g1:=(List.getElem?_eq_some_iff.1 hl).2
  simp -dsimp -implicitDefEqProofs [hl,g1,qlt,yG qlt]
  intro hlen
  generalize fl yUA x.Works q = A at hb1 e1
  refine yg (ι:=Nat) (fun j=>j ≤ w.Calls.length) (fun j=>yO [(1,.box 1 0),(3,.own 10 1 (B1 ++ A ++ fl yUv w.Calls j).length),(6,.c (.i q)),(7,.c (.i j))] [(1,.box (x.enc.map .c)),(10,.row 1 ((B1 ++ A ++ fl yUv w.Calls j).map yJ))]) (fun j=>w.Calls.length - j) 0 (by simp) (by apply yj <;> simp [yUy]) ?_
  rintro j hj
  rcases Nat.lt_or_ge j w.Calls.length with jlt | jge
  ·obtain ⟨c,hm⟩ : ∃ c,w.Calls[j]? = some c:=⟨_,List.getElem?_eq_getElem jlt⟩
   have hms:=hws.2.2.2 c (List.mem_of_getElem? hm)
   have hb2:=yUC (f:=yUv) hm
   have hb4 : (yUv c).length = (yaY c.Train).length:=rfl
   simp -dsimp -implicitDefEqProofs [hl,hm,g1,qlt,yG qlt,yG jlt]
   intro hlen2
   refine yS (yvW c.Train hms) ?_
   simp -dsimp -implicitDefEqProofs
   refine ⟨by omega,yw jlt hlen2,j + 1,jlt,by omega,?_⟩
   apply yj <;> simp [yUx hm,yUv,Nat.add_assoc]
  simp -dsimp -implicitDefEqProofs [yaB jge,hl,yG qlt,g1,qlt]
  intro _
  rw [yUB jge]
  have hW : yUA w = w.Calls.flatMap yUv ++ w.Lock.Inside.flatMap yaY:=rfl
  generalize w.Calls.flatMap yUv = A2 at hb3 hW
  refine yg (ι:=Nat) (fun i=>i ≤ w.Lock.Inside.length) (fun i=>yO [(1,.box 1 0),(3,.own 10 1 (B1 ++ A ++ A2 ++ fl yaY w.Lock.Inside i).length),(6,.c (.i q)),(8,.c (.i i))] [(1,.box (x.enc.map .c)),(10,.row 1 ((B1 ++ A ++ A2 ++ fl yaY w.Lock.Inside i).map yJ))]) (fun i=>w.Lock.Inside.length - i) 0 (by simp) (by apply yj <;> simp [yUy]) ?_
  rintro i hi
  rcases Nat.lt_or_ge i w.Lock.Inside.length with ilt | ige
  ·obtain ⟨t,hm⟩ : ∃ t,w.Lock.Inside[i]? = some t:=⟨_,List.getElem?_eq_getElem ilt⟩
   have hms:=hws.1.2 t (List.mem_of_getElem? hm)
   have hb2:=yUC (f:=yaY) hm
   simp -dsimp -implicitDefEqProofs [hl,hm,g1,qlt,yG qlt,yG ilt]
   intro hlen2
   refine yS (yvW t hms) ?_
   simp -dsimp -implicitDefEqProofs
   refine ⟨by omega,yw ilt hlen2,i + 1,ilt,by omega,?_⟩
   apply yj <;> simp [yUx hm,Nat.add_assoc]
  ·simp -dsimp -implicitDefEqProofs [yaB ige,hl,yG qlt,g1,qlt]
   intro _
   rw [yUB ige]
   have e2 : A ++ A2 ++ w.Lock.Inside.flatMap yaY = fl yUA x.Works (q + 1):=by rw [e1,List.append_assoc]; exact congrArg _ hW.symm
   refine ⟨yw qlt hlen,q + 1,qlt,by omega,?_⟩
   apply yj <;> simp [← e2,Nat.add_assoc]
 simp -dsimp -implicitDefEqProofs [yaB qge]
 intro _
 rw [yUB qge]
 generalize x.Works.flatMap yUA = B2 at hB hP
 refine yg (ι:=Nat) (fun p=>p ≤ x.Arrived.length) (fun p=>yO [(1,.box 1 0),(3,.own 10 1 (B1 ++ B2 ++ fl yaY x.Arrived p).length),(9,.c (.i p))] [(1,.box (x.enc.map .c)),(10,.row 1 ((B1 ++ B2 ++ fl yaY x.Arrived p).map yJ))]) (fun p=>x.Arrived.length - p) 0 (by simp) (by apply yj <;> simp [yUy]) ?_
 rintro p hp
 rcases Nat.lt_or_ge p x.Arrived.length with plt | pge
 ·obtain ⟨t,hm⟩ : ∃ t,x.Arrived[p]? = some t:=⟨_,List.getElem?_eq_getElem plt⟩
  have hms:=s5.2 t (List.mem_of_getElem? hm)
  have hb2:=yUC (f:=yaY) hm
  simp -dsimp -implicitDefEqProofs [hm,yG plt]
  intro hlen
  refine yS (yvW t hms) ?_
  simp -dsimp -implicitDefEqProofs
  refine ⟨by omega,yw plt hlen,p + 1,plt,by omega,?_⟩
  apply yj <;> simp [yUx hm,Nat.add_assoc]
 ·simp -dsimp -implicitDefEqProofs [yaB pge]
  intro _
  rw [yUB pge,hP]
  exact cat3.symm
set_option maxRecDepth 20000 in
theorem yU7 (x : Waterway) (hs : x.small) (hB : (yUs x).length ≤ 1000000000) : ybh Tryz.prog 32 [.agg (x.enc.map .c)] (.c (.ow 1 ((yUs x).map yJ))):=by
 obtain ⟨s1,s2,s3,s4,s5,s6,s7,s8,s9⟩:=hs
 have hP : yUs x = x.Movers.flatMap yUt ++ x.Works.flatMap yUA ++ x.Arrived.flatMap yaY:=rfl
 rw [yUK] at hB
 refine yan yUX ?_
 simp -dsimp -implicitDefEqProofs
 intro hlen
 refine ymd (k0:=1) 3 1 (by simp) (by simp) (by decide) ?_
 refine yg (ι:=Nat) (fun k=>k ≤ x.Movers.length) (fun k=>yO [(1,.box 1 0),(3,.own 3 1 (fl yUt x.Movers k).length),(17,.c (.sl 1 (x.Movers.map yZ))),(18,.c (.i x.Movers.length)),(19,.c (.i k))] [(1,.box (x.enc.map .c)),(3,.row 1 ((fl yUt x.Movers k).map yJ))]) (fun k=>x.Movers.length - k) 0 (by simp) (by apply yj <;> simp [yUy]) ?_
 rintro k hk
 rcases Nat.lt_or_ge k x.Movers.length with klt | kge
 ·obtain ⟨l,hl⟩ : ∃ l,x.Movers[k]? = some l:=⟨_,List.getElem?_eq_getElem klt⟩
  have hls:=s4.2 l (List.mem_of_getElem? hl)
  have hb1:=yUC (f:=yUt) hl
  have e1:=yUx (f:=yUt) hl
  simp -dsimp -implicitDefEqProofs [hl,yG klt]
  intro hlen2
  generalize fl yUt x.Movers k = A at hb1 e1
  refine yg (ι:=Nat) (fun j=>j ≤ l.length) (fun j=>yO [(1,.box 1 0),(3,.own 3 1 (A ++ fl yUw l j).length),(17,.c (.sl 1 (x.Movers.map yZ))),(18,.c (.i x.Movers.length)),(19,.c (.i k)),(23,.c (.sl 3 (l.map Mover.enc))),(24,.c (.i l.length)),(25,.c (.i j))] [(1,.box (x.enc.map .c)),(3,.row 1 ((A ++ fl yUw l j).map yJ))]) (fun j=>l.length - j) 0 (by simp) (by apply yj <;> simp [yUy]) ?_
  rintro j hj
  rcases Nat.lt_or_ge j l.length with jlt | jge
  ·obtain ⟨m,hm⟩ : ∃ m,l[j]? = some m:=⟨_,List.getElem?_eq_getElem jlt⟩
   have hms:=hls.2 m (List.mem_of_getElem? hm)
   have hb2:=yUC (f:=yUw) hm
   have hb3 : (yUt l).length = (l.flatMap yUw).length:=rfl
   have hb4 : (yUw m).length = (yaY m.Train).length:=rfl
   simp -dsimp -implicitDefEqProofs [hl,hm,yG klt,yG jlt]
   refine yS (yuz m.Train hms) ?_
   simp -dsimp -implicitDefEqProofs
   refine ⟨by omega,yw jlt hlen2,j + 1,jlt,by omega,?_⟩
   apply yj <;> simp [yUx hm,yUw,Nat.add_assoc]
  ·simp -dsimp -implicitDefEqProofs [yaB jge,hl]
   rw [yUB jge]
   have e2 : A ++ l.flatMap yUw = fl yUt x.Movers (k + 1):=by rw [e1]; rfl
   have e3 : A.length + (l.flatMap yUw).length = (fl yUt x.Movers (k + 1)).length:=by rw [← e2]; simp only [List.length_append]
   refine ⟨yw klt hlen,k + 1,klt,by omega,?_⟩
   apply yj <;> simp [← e2]
 simp -dsimp -implicitDefEqProofs [yaB kge]
 rw [yUB kge]
 generalize x.Movers.flatMap yUt = B1 at hB hP
 intro hlen
 refine yg (ι:=Nat) (fun q=>q ≤ x.Works.length) (fun q=>yO [(1,.box 1 0),(3,.own 3 1 (B1 ++ fl yUA x.Works q).length),(37,.c (.sl 22 (x.Works.map Work.enc))),(38,.c (.i x.Works.length)),(39,.c (.i q))] [(1,.box (x.enc.map .c)),(3,.row 1 ((B1 ++ fl yUA x.Works q).map yJ))]) (fun q=>x.Works.length - q) 0 (by simp) (by apply yj <;> simp [yUy]) ?_
 rintro q hq
 rcases Nat.lt_or_ge q x.Works.length with qlt | qge
 ·obtain ⟨w,hl⟩ : ∃ w,x.Works[q]? = some w:=⟨_,List.getElem?_eq_getElem qlt⟩
  have hws:=s3.2 w (List.mem_of_getElem? hl)
  have hb1:=yUC (f:=yUA) hl
  have hb3 : (yUA w).length = (w.Calls.flatMap yUv).length + (w.Lock.Inside.flatMap yaY).length:=by simp only [yUA,List.length_append]
  have e1:=yUx (f:=yUA) hl
  have g1:=(List.getElem?_eq_some_iff.1 hl).2
  simp -dsimp -implicitDefEqProofs [hl,g1,qlt,yG qlt]
  intro hlen2
  generalize fl yUA x.Works q = A at hb1 e1
  refine yg (ι:=Nat) (fun j=>j ≤ w.Calls.length) (fun j=>yO [(1,.box 1 0),(3,.own 3 1 (B1 ++ A ++ fl yUv w.Calls j).length),(37,.c (.sl 22 (x.Works.map Work.enc))),(38,.c (.i x.Works.length)),(39,.c (.i q)),(9,.box 9 0),(44,.c (.sl 4 (w.Calls.map CallT.enc))),(45,.c (.i w.Calls.length)),(46,.c (.i j))] [(1,.box (x.enc.map .c)),(3,.row 1 ((B1 ++ A ++ fl yUv w.Calls j).map yJ)),(9,.box (w.enc.map .c))]) (fun j=>w.Calls.length - j) 0 (by simp) (by apply yj <;> simp [yUy]) ?_
  rintro j hj
  rcases Nat.lt_or_ge j w.Calls.length with jlt | jge
  ·obtain ⟨c,hm⟩ : ∃ c,w.Calls[j]? = some c:=⟨_,List.getElem?_eq_getElem jlt⟩
   have hms:=hws.2.2.2 c (List.mem_of_getElem? hm)
   have hb2:=yUC (f:=yUv) hm
   have hb4 : (yUv c).length = (yaY c.Train).length:=rfl
   simp -dsimp -implicitDefEqProofs [hl,hm,g1,qlt,yG qlt,yG jlt]
   refine yS (yuz c.Train hms) ?_
   simp -dsimp -implicitDefEqProofs
   refine ⟨by omega,yw jlt hlen2,j + 1,jlt,by omega,?_⟩
   apply yj <;> simp [yUx hm,yUv,Nat.add_assoc]
  simp -dsimp -implicitDefEqProofs [yaB jge,hl]
  rw [yUB jge]
  have hW : yUA w = w.Calls.flatMap yUv ++ w.Lock.Inside.flatMap yaY:=rfl
  generalize w.Calls.flatMap yUv = A2 at hb3 hW
  intro hlen2
  refine yg (ι:=Nat) (fun i=>i ≤ w.Lock.Inside.length) (fun i=>yO [(1,.box 1 0),(3,.own 3 1 (B1 ++ A ++ A2 ++ fl yaY w.Lock.Inside i).length),(37,.c (.sl 22 (x.Works.map Work.enc))),(38,.c (.i x.Works.length)),(39,.c (.i q)),(58,.c (.sl 2 (w.Lock.Inside.map Train.enc))),(59,.c (.i w.Lock.Inside.length)),(60,.c (.i i))] [(1,.box (x.enc.map .c)),(3,.row 1 ((B1 ++ A ++ A2 ++ fl yaY w.Lock.Inside i).map yJ))]) (fun i=>w.Lock.Inside.length - i) 0 (by simp) (by apply yj <;> simp [yUy]) ?_
  rintro i hi
  rcases Nat.lt_or_ge i w.Lock.Inside.length with ilt | ige
  ·obtain ⟨t,hm⟩ : ∃ t,w.Lock.Inside[i]? = some t:=⟨_,List.getElem?_eq_getElem ilt⟩
   have hms:=hws.1.2 t (List.mem_of_getElem? hm)
   have hb2:=yUC (f:=yaY) hm
   simp -dsimp -implicitDefEqProofs [hl,hm,g1,qlt,yG qlt,yG ilt]
   refine yS (yuz t hms) ?_
   simp -dsimp -implicitDefEqProofs
   refine ⟨by omega,yw ilt hlen2,i + 1,ilt,by omega,?_⟩
   apply yj <;> simp [yUx hm,Nat.add_assoc]
  ·simp -dsimp -implicitDefEqProofs [yaB ige,hl]
   rw [yUB ige]
   have e2 : A ++ A2 ++ w.Lock.Inside.flatMap yaY = fl yUA x.Works (q + 1):=by rw [e1,List.append_assoc]; exact congrArg _ hW.symm
   refine ⟨yw qlt hlen,q + 1,qlt,by omega,?_⟩
   apply yj <;> simp [← e2,Nat.add_assoc]
 simp -dsimp -implicitDefEqProofs [yaB qge]
 rw [yUB qge]
 generalize x.Works.flatMap yUA = B2 at hB hP
 intro hlen
 refine yg (ι:=Nat) (fun p=>p ≤ x.Arrived.length) (fun p=>yO [(1,.box 1 0),(3,.own 3 1 (B1 ++ B2 ++ fl yaY x.Arrived p).length),(71,.c (.sl 2 (x.Arrived.map Train.enc))),(72,.c (.i x.Arrived.length)),(73,.c (.i p))] [(1,.box (x.enc.map .c)),(3,.row 1 ((B1 ++ B2 ++ fl yaY x.Arrived p).map yJ))]) (fun p=>x.Arrived.length - p) 0 (by simp) (by apply yj <;> simp [yUy]) ?_
 rintro p hp
 rcases Nat.lt_or_ge p x.Arrived.length with plt | pge
 ·obtain ⟨t,hm⟩ : ∃ t,x.Arrived[p]? = some t:=⟨_,List.getElem?_eq_getElem plt⟩
  have hms:=s5.2 t (List.mem_of_getElem? hm)
  have hb2:=yUC (f:=yaY) hm
  simp -dsimp -implicitDefEqProofs [hm,yG plt]
  refine yS (yuz t hms) ?_
  simp -dsimp -implicitDefEqProofs
  refine ⟨by omega,yw plt hlen,p + 1,plt,by omega,?_⟩
  apply yj <;> simp [yUx hm,Nat.add_assoc]
 ·simp -dsimp -implicitDefEqProofs [yaB pge]
  rw [yUB pge,hP]
  exact cat3.symm
theorem yVj (xs : List (List Boat)) : (xs.map List.length).sum ≤ yd0 yju xs:=by
 have : xs.map yju = xs.map List.length:=rfl
 unfold yd0; rw [this]; omega
theorem yUY (t : Train) : (yaY t).length ≤ yci t:=by
 have h : t.yas = t.Rows.flatten:=rfl
 unfold yaY
 split
 ·rw [List.length_map,h,List.length_flatten]; exact yVj t.Rows
 ·simp
theorem yUS {α : Type} {f : α → List Int} {t : α → Nat} (h : ∀ x,(f x).length ≤ t x) : ∀ l : List α,(l.flatMap f).length ≤ yd0 t l
 | []=>by simp
 | x :: l=>by
  have h1:=h x
  have h2:=yUS h l
  unfold yd0 at h2 ⊢
  simp only [List.flatMap_cons,List.length_append,List.length_cons,List.map_cons,List.sum_cons]; omega
theorem yU9 (l : List Mover) : (yUt l).length ≤ ygb l:=yUS (f:=yUw) (t:=yhg) (fun m=>yUY m.Train) l
theorem yVl (w : Work) : (yUA w).length ≤ yg5 w:=by
 have h1 : (w.Calls.flatMap yUv).length ≤ yl4 w.Calls:=yUS (f:=yUv) (t:=yiS) (fun m=>yUY m.Train) w.Calls
 have h2 : (w.Lock.Inside.flatMap yaY).length ≤ yf0 w.Lock.Inside:=yUS yUY w.Lock.Inside
 unfold yUA yg5 ylq
 rw [List.length_append]; omega
theorem yU8 (x : Waterway) : (yUs x).length ≤ ycp x:=by
 have h1 : (x.Movers.flatMap yUt).length ≤ yiG x.Movers:=yUS yU9 x.Movers
 have h2 : (x.Works.flatMap yUA).length ≤ yeJ x.Works:=yUS yVl x.Works
 have h3 : (x.Arrived.flatMap yaY).length ≤ yf0 x.Arrived:=yUS yUY x.Arrived
 rw [yUK]
 unfold ycp
 omega
theorem yU2 (x : Waterway) (hs : x.small) (hB : (yUs x).length ≤ 1000000000) : yB Tryz.prog 32 [.agg (x.enc.map .c)] (.c (.sl 1 ((yUs x).map yJ))):=(yU7 x hs hB).pure rfl
theorem yU1 {n v : Int} : ∀ {l : List (Int × Int)} {j i : Nat} {v0 : Int},yUu n j l = some (i,v0) → ∀ m : Int,j ≤ i ∧ yUu m j (yUF l (i - j) v) = if m = n then some (i,v) else yUu m j l
 | [],j,i,v0,h,m=>by cases h
 | q :: l,j,i,v0,h,m=>by
  simp only [yUu] at h
  split at h
  ·rename_i e
   cases h
   refine ⟨Nat.le_refl _,?_⟩
   rw [Nat.sub_self]
   show yUu m j ((q.1,v) :: l) = _
   simp only [yUu]
   by_cases hm : m = q.1
   ·rw [if_pos hm,if_pos (by omega)]
   ·rw [if_neg hm,if_neg (by omega),if_neg hm]
  ·rename_i e
   obtain ⟨h1,h2⟩:=yU1 (v:=v) h m
   refine ⟨by omega,?_⟩
   rw [show i - j = (i - (j + 1)) + 1 by omega]
   show yUu m j (q :: yUF l (i - (j + 1)) v) = _
   simp only [yUu]
   by_cases hm : m = q.1
   ·rw [if_pos hm,if_pos hm,if_neg (by omega)]
   ·rw [if_neg hm,if_neg hm,h2]
theorem yU5 {n : Int} : ∀ {l : List (Int × Int)} {j : Nat},yUu n j l = none → ∀ m v : Int,yUu m j (l ++ [(n,v)]) = if m = n then some (j + l.length,v) else yUu m j l
 | [],j,_,m,v=>by simp [yUu]
 | q :: l,j,h,m,v=>by
  simp only [yUu] at h
  split at h
  ·cases h
  ·rename_i e
   have h2:=yU5 h m v
   simp only [List.cons_append,yUu,List.length_cons]
   by_cases hm : m = q.1
   ·rw [if_pos hm,if_pos hm,if_neg (by omega)]
   ·rw [if_neg hm,if_neg hm,h2,show j + 1 + l.length = j + (l.length + 1) by omega]
theorem yVh {n v m : Int} {l : List (Int × Int)} : yUz m (yUP n v l) = if m = n then v else yUz m l:=by
 unfold yUP
 cases h : yUu n 0 l with
 | some p =>
  have hq:=(yU1 (v:=v) (l:=l) (j:=0) (i:=p.1) (v0:=p.2) h m).2
  rw [Nat.sub_zero] at hq
  simp only
  unfold yUz
  rw [hq]
  by_cases hm : m = n
  ·rw [if_pos hm,if_pos hm]
  ·rw [if_neg hm,if_neg hm]
 | none =>
  simp only
  unfold yUz
  rw [yU5 h m v]
  by_cases hm : m = n
  ·rw [if_pos hm,if_pos hm]
  ·rw [if_neg hm,if_neg hm]
@[simp] theorem leO_mps {a b : List (Int × Int)} : (Obj.mp a).leO (.mp b) = (a = b):=by
 show (Obj.mp a = Obj.mp b) = _
 simp
def yVd (kvs : List (Int × Int)) (l : List Int) : Prop:=∀ n,yUz n kvs = (l.count n : Int)
theorem yVi : yVd [] []:=fun n=>by simp [yUz,yUu]
theorem yVk {kvs : List (Int × Int)} {l : List Int} {k : Nat} {a : Int} (h : yVd kvs (l.take k)) (ha : l[k]? = some a) : yVd (yUP a (yUz a kvs + 1) kvs) (l.take (k + 1)):=by
 intro n
 rw [yVh,h a,h n,List.take_succ,ha]
 simp only [Option.toList_some,List.count_append,List.count_singleton]
 by_cases e : n = a
 ·subst e; simp
 ·have e2 : ¬ a = n:=fun e3=>e e3.symm
  simp [e,e2]
def yUD (x : Waterway) : Bool:=decide ((yUs x).length = x.Entered.length) && x.Entered.all fun i=>decide ((yUs x).count i = 1)
theorem yVg {x : Waterway} {k : Nat} {i : Int} (h : x.Entered[k]? = some i) (hi : ¬ (yUs x).count i = 1) : yUD x = false:=by
 have:=all_false (p:=fun i=>decide ((yUs x).count i = 1)) h (by simp [hi])
 simp [yUD,this]
set_option maxRecDepth 20000 in
theorem yU0 (x : Waterway) (hs : x.small) (hB : (yUs x).length ≤ 1000000000) : yB Tryz.prog 8 [.agg (x.enc.map .c)] (.c (.b (yUD x))):=by
 have hP:=yU2 x hs hB
 obtain ⟨P,hPe⟩ : ∃ P,yUs x = P:=⟨_,rfl⟩
 have hno:=fun k i=>yVg (x:=x) (k:=k) (i:=i)
 have hyes : yUD x = (decide ((yUs x).length = x.Entered.length) && x.Entered.all fun i=>decide ((yUs x).count i = 1)):=rfl
 rw [hPe] at hP hB hno hyes
 refine yh yUU ?_
 simp -dsimp -implicitDefEqProofs
 refine yaP (hP) (by simp -dsimp -implicitDefEqProofs) rfl ?_
 simp -dsimp -implicitDefEqProofs
 intro hlen1 hlen2
 by_cases he : P.length = x.Entered.length
 case neg =>
  have z1 : ((P.length : Int) = (x.Entered.length : Int)) = False:=by simp; omega
  simp -dsimp -implicitDefEqProofs [z1,he]
  rw [hyes]
  simp [he]
 have z1 : ((P.length : Int) = (x.Entered.length : Int)) = True:=by simp [he]
 simp -dsimp -implicitDefEqProofs [z1,he]
 intro _
 refine yg (ι:=Nat × List (Int × Int)) (fun q=>q.1 ≤ P.length ∧ yVd q.2 (P.take q.1)) (fun q=>yO [(1,.box 1 0),(2,.c (.b false)),(4,.mpr 17),(18,.c (.sl 1 (P.map yJ))),(19,.c (.i x.Entered.length)),(20,.c (.i q.1))] [(1,.box (x.enc.map .c)),(17,.mp q.2)]) (fun q=>P.length - q.1) (0,[]) ⟨by simp,yVi⟩ (by apply yj <;> simp) ?_
 rintro ⟨k,kvs⟩ ⟨hk,ht⟩
 simp only at hk ht
 rcases Nat.lt_or_ge k P.length with klt | kge
 ·obtain ⟨a,ha⟩ : ∃ a,P[k]? = some a:=⟨_,List.getElem?_eq_getElem klt⟩
  have ga:=(List.getElem?_eq_some_iff.1 ha).2
  have hc : yUz a kvs ≤ 1000000000 ∧ 0 ≤ yUz a kvs:=by
   rw [ht a]
   have:=List.count_le_length (l:=P.take k) (a:=a)
   rw [List.length_take] at this
   omega
  have ht2:=yVk ht ha
  have klt2 : k < x.Entered.length:=by omega
  simp -dsimp -implicitDefEqProofs [ha,ga,klt,klt2,yG klt2]
  refine ⟨by unfold inI; omega,by unfold inI; omega,k + 1,_,⟨klt,ht2⟩,by omega,?_⟩
  apply yj <;> simp
 ·have kge2 : x.Entered.length ≤ k:=by omega
  rw [List.take_of_length_le kge] at ht
  simp -dsimp -implicitDefEqProofs [yaB kge2]
  intro _
  refine yg (ι:=Nat) (fun k=>k ≤ x.Entered.length ∧ ∀ i ∈ x.Entered.take k,decide (P.count i = 1) = true) (fun k=>yO [(1,.box 1 0),(2,.c (.b false)),(4,.mpr 17),(30,.c (.sl 1 (x.Entered.map yJ))),(31,.c (.i x.Entered.length)),(32,.c (.i k))] [(1,.box (x.enc.map .c)),(17,.mp kvs)]) (fun k=>x.Entered.length - k) 0 (by simp) (by apply yj <;> simp) ?_
  rintro j ⟨hj,hall⟩
  rcases Nat.lt_or_ge j x.Entered.length with jlt | jge
  ·obtain ⟨i,hi⟩ : ∃ i,x.Entered[j]? = some i:=⟨_,List.getElem?_eq_getElem jlt⟩
   have gi:=(List.getElem?_eq_some_iff.1 hi).2
   have hti:=ht i
   by_cases hone : P.count i = 1
   ·have z2 : yUz i kvs = 1:=by rw [hti,hone]; rfl
    have hall2:=yL (p:=fun i=>decide (P.count i = 1)) hi hall (by simp [hone])
    simp -dsimp -implicitDefEqProofs [hi,gi,jlt,yG jlt,z2]
    refine ⟨yw jlt hlen2,j + 1,⟨jlt,by simpa using hall2⟩,by omega,?_⟩
    apply yj <;> simp
   ·have z2 : (yUz i kvs = 1) = False:=by rw [hti]; simp; omega
    simp -dsimp -implicitDefEqProofs [hi,gi,jlt,yG jlt,z2]
    exact hno j i hi hone
  ·have hall2:=yX (p:=fun i=>decide (P.count i = 1)) jge hall
   simp -dsimp -implicitDefEqProofs [yaB jge]
   rw [hyes,hall2]
   simp [he]
set_option maxRecDepth 20000 in
theorem yU3 (x : Waterway) (hs : x.small) (hB : (yUs x).length ≤ 1000000000) : yB Tryz.prog 6 [.agg (x.enc.map .c)] (.c (.b (yUD x))):=by
 have hP:=yU6 x hs hB
 obtain ⟨P,hPe⟩ : ∃ P,yUs x = P:=⟨_,rfl⟩
 have hno:=fun k i=>yVg (x:=x) (k:=k) (i:=i)
 have hyes : yUD x = (decide ((yUs x).length = x.Entered.length) && x.Entered.all fun i=>decide ((yUs x).count i = 1)):=rfl
 rw [hPe] at hP hB hno hyes
 refine yh yUT ?_
 simp -dsimp -implicitDefEqProofs
 refine yaP (hP) (by simp -dsimp -implicitDefEqProofs) rfl ?_
 simp -dsimp -implicitDefEqProofs
 refine yg (ι:=Nat) (fun k=>k ≤ x.Entered.length ∧ ∀ i ∈ x.Entered.take k,decide (P.count i = 1) = true) (fun k=>yO [(1,.box 1 0),(2,.c (.b false)),(3,.c (.sl 1 (P.map yJ))),(4,.c (.i k))] [(1,.box (x.enc.map .c))]) (fun k=>x.Entered.length - k) 0 (by simp) (by apply yj <;> simp) ?_
 rintro j ⟨hj,hall⟩
 rcases Nat.lt_or_ge j x.Entered.length with jlt | jge
 ·obtain ⟨i,hi⟩ : ∃ i,x.Entered[j]? = some i:=⟨_,List.getElem?_eq_getElem jlt⟩
  have gi:=(List.getElem?_eq_some_iff.1 hi).2
  simp -dsimp -implicitDefEqProofs [hi,gi,jlt,yG jlt]
  intro hlen2
  refine yaQ (yTD P i) (by simp -dsimp -implicitDefEqProofs) rfl ?_
  by_cases hone : P.count i = 1
  ·have z2 : ((P.count i : Int) = 1) = True:=by simp; omega
   have hall2:=yL (p:=fun i=>decide (P.count i = 1)) hi hall (by simp [hone])
   simp -dsimp -implicitDefEqProofs [z2,hone]
   refine ⟨yw jlt hlen2,j + 1,⟨jlt,by simpa using hall2⟩,by omega,?_⟩
   apply yj <;> simp
  ·have z2 : ((P.count i : Int) = 1) = False:=by simp; omega
   simp -dsimp -implicitDefEqProofs [z2,hone]
   exact hno j i hi hone
 ·have hall2:=yX (p:=fun i=>decide (P.count i = 1)) jge hall
  simp -dsimp -implicitDefEqProofs [yaB jge]
  intro hlen1 hlen2
  rw [hyes,hall2]
  by_cases he : P.length = x.Entered.length
  ·simp [he]
  ·simp [he]; omega
def yVE (x : Waterway) : Bool:=yar x && yVD x && yUD x && ySn x
theorem yVU (x : Waterway) (hs : x.small) (hB : (yUs x).length ≤ 1000000000) : yB Tryz.prog 11 [.agg (x.enc.map .c)] (.c (.b (yVE x))):=by
 refine yh yVQ ?_
 simp -dsimp -implicitDefEqProofs
 refine yaQ (yns x hs) (by simp -dsimp -implicitDefEqProofs) rfl ?_
 cases h1 : yar x with
 | false=>simp -dsimp -implicitDefEqProofs; simp [yVE,h1]
 | true =>
  simp -dsimp -implicitDefEqProofs
  refine yaQ (yVT x hs) (by simp -dsimp -implicitDefEqProofs) rfl ?_
  cases h2 : yVD x with
  | false=>simp -dsimp -implicitDefEqProofs; simp [yVE,h2]
  | true =>
   simp -dsimp -implicitDefEqProofs
   refine yaQ (yU0 x hs hB) (by simp -dsimp -implicitDefEqProofs) rfl ?_
   cases h3 : yUD x with
   | false=>simp -dsimp -implicitDefEqProofs; simp [yVE,h3]
   | true =>
    simp -dsimp -implicitDefEqProofs
    refine yaQ (yTy x hs) (by simp -dsimp -implicitDefEqProofs) rfl ?_
    simp -dsimp -implicitDefEqProofs
    simp [yVE,h1,h2,h3]
theorem yVV (x : Waterway) (hs : x.small) (hB : (yUs x).length ≤ 1000000000) : yB Tryz.prog 10 [.agg (x.enc.map .c)] (.c (.b (yVE x))):=by
 refine yh yVR ?_
 simp -dsimp -implicitDefEqProofs
 refine yaQ (ym6 x hs) (by simp -dsimp -implicitDefEqProofs) rfl ?_
 cases h1 : yar x with
 | false=>simp -dsimp -implicitDefEqProofs; simp [yVE,h1]
 | true =>
  simp -dsimp -implicitDefEqProofs
  refine yaQ (yVS x hs) (by simp -dsimp -implicitDefEqProofs) rfl ?_
  cases h2 : yVD x with
  | false=>simp -dsimp -implicitDefEqProofs; simp [yVE,h2]
  | true =>
   simp -dsimp -implicitDefEqProofs
   refine yaQ (yU3 x hs hB) (by simp -dsimp -implicitDefEqProofs) rfl ?_
   cases h3 : yUD x with
   | false=>simp -dsimp -implicitDefEqProofs; simp [yVE,h3]
   | true =>
    simp -dsimp -implicitDefEqProofs
    refine yaQ (yTt x hs) (by simp -dsimp -implicitDefEqProofs) rfl ?_
    simp -dsimp -implicitDefEqProofs
    simp [yVE,h1,h2,h3]
theorem yVN (x0 : Waterway) : yB Tryz.prog 4 [.agg (x0.enc.map .c)] (.c (.b true)):=by
 refine yh yVH ?_
 simp -dsimp -implicitDefEqProofs
 refine yc (yq5 x0 1048576 (by omega) (by omega)) ?_
 simp -dsimp -implicitDefEqProofs
 intro hsz0
 have hl0:=yzy yqh (by omega) (by omega) hsz0
 have ht:=ynf x0 1048576 (by omega) (by omega) hsz0
 have hpt:=yU8 x0
 have hB : (yUs x0).length ≤ 1000000000:=by omega
 refine yS (yib x0 hl0) ?_
 simp -dsimp -implicitDefEqProofs
 refine yc (yVV x0 hl0 hB) ?_
 simp -dsimp -implicitDefEqProofs
 refine yS (yib x0 hl0) ?_
 simp -dsimp -implicitDefEqProofs
 refine yc (yVU x0 hl0 hB) ?_
 simp -dsimp -implicitDefEqProofs
 refine yyA (yib x0 hl0) ?_
 simp -dsimp -implicitDefEqProofs
 refine yaC (yfL x0 x0) ?_
 simp -dsimp -implicitDefEqProofs
theorem yye {xs : List C} (h : Fits [.i,.i,.i,.i,.i] xs) : ∃ e : Entry,xs = e.enc:=by
 obtain ⟨c0,ys,rfl,h0,h⟩:=h.cons_inv
 obtain ⟨c1,ys,rfl,h1,h⟩:=h.cons_inv
 obtain ⟨c2,ys,rfl,h2,h⟩:=h.cons_inv
 obtain ⟨c3,ys,rfl,h3,h⟩:=h.cons_inv
 obtain ⟨c4,ys,rfl,h4,h⟩:=h.cons_inv
 obtain rfl:=h.ycx
 obtain ⟨n0,rfl⟩:=h0.yaT
 obtain ⟨n1,rfl⟩:=h1.yaT
 obtain ⟨n2,rfl⟩:=h2.yaT
 obtain ⟨n3,rfl⟩:=h3.yaT
 obtain ⟨n4,rfl⟩:=h4.yaT
 exact ⟨⟨n0,n1,n2,n3,n4⟩,rfl⟩
theorem ykL {xs : List C} (h : Fits [.i] xs) : ∃ n : Int,xs = yJ n:=by
 obtain ⟨c0,ys,rfl,h0,h⟩:=h.cons_inv
 obtain rfl:=h.ycx
 obtain ⟨n0,rfl⟩:=h0.yaT
 exact ⟨n0,rfl⟩
theorem yBG {xs : List C} (h : Fits [.i,.i] xs) : ∃ e : Way,xs = e.enc:=by
 obtain ⟨c0,ys,rfl,h0,h⟩:=h.cons_inv
 obtain ⟨c1,ys,rfl,h1,h⟩:=h.cons_inv
 obtain rfl:=h.ycx
 obtain ⟨n0,rfl⟩:=h0.yaT
 obtain ⟨n1,rfl⟩:=h1.yaT
 exact ⟨⟨n0,n1⟩,rfl⟩
theorem yAu {xs : List C} (h : Fits [.i,.i,.i,.i,.i,.i] xs) : ∃ e : Boat,xs = e.enc:=by
 obtain ⟨c0,ys,rfl,h0,h⟩:=h.cons_inv
 obtain ⟨c1,ys,rfl,h1,h⟩:=h.cons_inv
 obtain ⟨c2,ys,rfl,h2,h⟩:=h.cons_inv
 obtain ⟨c3,ys,rfl,h3,h⟩:=h.cons_inv
 obtain ⟨c4,ys,rfl,h4,h⟩:=h.cons_inv
 obtain ⟨c5,ys,rfl,h5,h⟩:=h.cons_inv
 obtain rfl:=h.ycx
 obtain ⟨n0,rfl⟩:=h0.yaT
 obtain ⟨n1,rfl⟩:=h1.yaT
 obtain ⟨n2,rfl⟩:=h2.yaT
 obtain ⟨n3,rfl⟩:=h3.yaT
 obtain ⟨n4,rfl⟩:=h4.yaT
 obtain ⟨n5,rfl⟩:=h5.yaT
 exact ⟨⟨n0,n1,n2,n3,n4,n5⟩,rfl⟩
theorem yjF {xs : List C} (h : Fits [.sl [.i,.i,.i,.i,.i,.i]] xs) : ∃ e : List Boat,xs = yai e:=by
 obtain ⟨c0,ys,rfl,h0,h⟩:=h.cons_inv
 obtain rfl:=h.ycx
 obtain ⟨n0,rfl⟩:=h0.ycq Boat.enc fun _ h=>yAu h
 exact ⟨n0,rfl⟩
theorem yrO {xs : List C} (h : Fits [.b,.sl [.sl [.i,.i,.i,.i,.i,.i]]] xs) : ∃ e : Train,xs = e.enc:=by
 obtain ⟨c0,ys,rfl,h0,h⟩:=h.cons_inv
 obtain ⟨c1,ys,rfl,h1,h⟩:=h.cons_inv
 obtain rfl:=h.ycx
 obtain ⟨n0,rfl⟩:=h0.yuo
 obtain ⟨n1,rfl⟩:=h1.ycq yai fun _ h=>yjF h
 exact ⟨⟨n0,n1⟩,rfl⟩
theorem yyj {xs : List C} (h : Fits [.b,.sl [.sl [.i,.i,.i,.i,.i,.i]],.i] xs) : ∃ e : Mover,xs = e.enc:=by
 obtain ⟨c0,ys,rfl,h0,h⟩:=h.cons_inv
 obtain ⟨c1,ys,rfl,h1,h⟩:=h.cons_inv
 obtain ⟨c2,ys,rfl,h2,h⟩:=h.cons_inv
 obtain rfl:=h.ycx
 obtain ⟨n0,rfl⟩:=h0.yuo
 obtain ⟨n1,rfl⟩:=h1.ycq yai fun _ h=>yjF h
 obtain ⟨n2,rfl⟩:=h2.yaT
 exact ⟨⟨⟨n0,n1⟩,n2⟩,rfl⟩
theorem yxJ {xs : List C} (h : Fits [.i,.i] xs) : ∃ e : Point,xs = e.enc:=by
 obtain ⟨c0,ys,rfl,h0,h⟩:=h.cons_inv
 obtain ⟨c1,ys,rfl,h1,h⟩:=h.cons_inv
 obtain rfl:=h.ycx
 obtain ⟨n0,rfl⟩:=h0.yaT
 obtain ⟨n1,rfl⟩:=h1.yaT
 exact ⟨⟨n0,n1⟩,rfl⟩
theorem yxz {xs : List C} (h : Fits [.sl [.i,.i],.i,.sl [.i]] xs) : ∃ e : Reach,xs = e.enc:=by
 obtain ⟨c0,ys,rfl,h0,h⟩:=h.cons_inv
 obtain ⟨c1,ys,rfl,h1,h⟩:=h.cons_inv
 obtain ⟨c2,ys,rfl,h2,h⟩:=h.cons_inv
 obtain rfl:=h.ycx
 obtain ⟨n0,rfl⟩:=h0.ycq Point.enc fun _ h=>yxJ h
 obtain ⟨n1,rfl⟩:=h1.yaT
 obtain ⟨n2,rfl⟩:=h2.ycq yJ fun _ h=>ykL h
 exact ⟨⟨n0,n1,n2⟩,rfl⟩
theorem yxt {xs : List C} (h : Fits [.i,.i] xs) : ∃ e : Pause,xs = e.enc:=by
 obtain ⟨c0,ys,rfl,h0,h⟩:=h.cons_inv
 obtain ⟨c1,ys,rfl,h1,h⟩:=h.cons_inv
 obtain rfl:=h.ycx
 obtain ⟨n0,rfl⟩:=h0.yaT
 obtain ⟨n1,rfl⟩:=h1.yaT
 exact ⟨⟨n0,n1⟩,rfl⟩
theorem yz8 {xs : List C} (h : Fits [.b,.sl [.sl [.i,.i,.i,.i,.i,.i]],.i,.i] xs) : ∃ e : CallT,xs = e.enc:=by
 obtain ⟨c0,ys,rfl,h0,h⟩:=h.cons_inv
 obtain ⟨c1,ys,rfl,h1,h⟩:=h.cons_inv
 obtain ⟨c2,ys,rfl,h2,h⟩:=h.cons_inv
 obtain ⟨c3,ys,rfl,h3,h⟩:=h.cons_inv
 obtain rfl:=h.ycx
 obtain ⟨n0,rfl⟩:=h0.yuo
 obtain ⟨n1,rfl⟩:=h1.ycq yai fun _ h=>yjF h
 obtain ⟨n2,rfl⟩:=h2.yaT
 obtain ⟨n3,rfl⟩:=h3.yaT
 exact ⟨⟨⟨n0,n1⟩,n2,n3⟩,rfl⟩
theorem yy3 {xs : List C} (h : Fits [.i,.i,.i,.i,.i,.i,.i,.i,.i,.sl [.b,.sl [.sl [.i,.i,.i,.i,.i,.i]]],.i,.i,.i,.i,.i,.i,.i,.i,.sl [.i,.i],.b,.i,.sl [.b,.sl [.sl [.i,.i,.i,.i,.i,.i]],.i,.i]] xs) : ∃ e : Work,xs = e.enc:=by
 obtain ⟨c0,ys,rfl,h0,h⟩:=h.cons_inv
 obtain ⟨c1,ys,rfl,h1,h⟩:=h.cons_inv
 obtain ⟨c2,ys,rfl,h2,h⟩:=h.cons_inv
 obtain ⟨c3,ys,rfl,h3,h⟩:=h.cons_inv
 obtain ⟨c4,ys,rfl,h4,h⟩:=h.cons_inv
 obtain ⟨c5,ys,rfl,h5,h⟩:=h.cons_inv
 obtain ⟨c6,ys,rfl,h6,h⟩:=h.cons_inv
 obtain ⟨c7,ys,rfl,h7,h⟩:=h.cons_inv
 obtain ⟨c8,ys,rfl,h8,h⟩:=h.cons_inv
 obtain ⟨c9,ys,rfl,h9,h⟩:=h.cons_inv
 obtain ⟨c10,ys,rfl,h10,h⟩:=h.cons_inv
 obtain ⟨c11,ys,rfl,h11,h⟩:=h.cons_inv
 obtain ⟨c12,ys,rfl,h12,h⟩:=h.cons_inv
 obtain ⟨c13,ys,rfl,h13,h⟩:=h.cons_inv
 obtain ⟨c14,ys,rfl,h14,h⟩:=h.cons_inv
 obtain ⟨c15,ys,rfl,h15,h⟩:=h.cons_inv
 obtain ⟨c16,ys,rfl,h16,h⟩:=h.cons_inv
 obtain ⟨c17,ys,rfl,h17,h⟩:=h.cons_inv
 obtain ⟨c18,ys,rfl,h18,h⟩:=h.cons_inv
 obtain ⟨c19,ys,rfl,h19,h⟩:=h.cons_inv
 obtain ⟨c20,ys,rfl,h20,h⟩:=h.cons_inv
 obtain ⟨c21,ys,rfl,h21,h⟩:=h.cons_inv
 obtain rfl:=h.ycx
 obtain ⟨n0,rfl⟩:=h0.yaT
 obtain ⟨n1,rfl⟩:=h1.yaT
 obtain ⟨n2,rfl⟩:=h2.yaT
 obtain ⟨n3,rfl⟩:=h3.yaT
 obtain ⟨n4,rfl⟩:=h4.yaT
 obtain ⟨n5,rfl⟩:=h5.yaT
 obtain ⟨n6,rfl⟩:=h6.yaT
 obtain ⟨n7,rfl⟩:=h7.yaT
 obtain ⟨n8,rfl⟩:=h8.yaT
 obtain ⟨n9,rfl⟩:=h9.ycq Train.enc fun _ h=>yrO h
 obtain ⟨n10,rfl⟩:=h10.yaT
 obtain ⟨n11,rfl⟩:=h11.yaT
 obtain ⟨n12,rfl⟩:=h12.yaT
 obtain ⟨n13,rfl⟩:=h13.yaT
 obtain ⟨n14,rfl⟩:=h14.yaT
 obtain ⟨n15,rfl⟩:=h15.yaT
 obtain ⟨n16,rfl⟩:=h16.yaT
 obtain ⟨n17,rfl⟩:=h17.yaT
 obtain ⟨n18,rfl⟩:=h18.ycq Pause.enc fun _ h=>yxt h
 obtain ⟨n19,rfl⟩:=h19.yuo
 obtain ⟨n20,rfl⟩:=h20.yaT
 obtain ⟨n21,rfl⟩:=h21.ycq CallT.enc fun _ h=>yz8 h
 exact ⟨⟨⟨n0,n1,n2,n3,n4,n5,n6,n7,n8,n9⟩,⟨n10,n11,n12,n13,n14⟩,⟨n15,n16,n17⟩,n18,⟨n19,n20⟩,n21⟩,rfl⟩
theorem ywg {xs : List C} (h : Fits [.sl [.b,.sl [.sl [.i,.i,.i,.i,.i,.i]],.i]] xs) : ∃ e : List Mover,xs = yZ e:=by
 obtain ⟨c0,ys,rfl,h0,h⟩:=h.cons_inv
 obtain rfl:=h.ycx
 obtain ⟨n0,rfl⟩:=h0.ycq Mover.enc fun _ h=>yyj h
 exact ⟨n0,rfl⟩
theorem yuj {xs : List C} (h : Fits [.i,.i,.b,.sl [.sl [.i,.i,.i,.i,.i,.i]]] xs) : ∃ e : Passing,xs = e.enc:=by
 obtain ⟨c0,ys,rfl,h0,h⟩:=h.cons_inv
 obtain ⟨c1,ys,rfl,h1,h⟩:=h.cons_inv
 obtain ⟨c2,ys,rfl,h2,h⟩:=h.cons_inv
 obtain ⟨c3,ys,rfl,h3,h⟩:=h.cons_inv
 obtain rfl:=h.ycx
 obtain ⟨n0,rfl⟩:=h0.yaT
 obtain ⟨n1,rfl⟩:=h1.yaT
 obtain ⟨n2,rfl⟩:=h2.yuo
 obtain ⟨n3,rfl⟩:=h3.ycq yai fun _ h=>yjF h
 exact ⟨⟨n0,n1,⟨n2,n3⟩⟩,rfl⟩
theorem ysY {xs : List C} (h : Fits [.i,.sl [.sl [.i,.i],.i,.sl [.i]],.sl [.i,.i],.sl [.i,.i,.i,.i,.i,.i,.i,.i,.i,.sl [.b,.sl [.sl [.i,.i,.i,.i,.i,.i]]],.i,.i,.i,.i,.i,.i,.i,.i,.sl [.i,.i],.b,.i,.sl [.b,.sl [.sl [.i,.i,.i,.i,.i,.i]],.i,.i]],.sl [.sl [.b,.sl [.sl [.i,.i,.i,.i,.i,.i]],.i]],.sl [.b,.sl [.sl [.i,.i,.i,.i,.i,.i]]],.sl [.i],.i,.i,.sl [.i],.sl [.i],.sl [.i,.i,.i,.i,.i],.sl [.i,.i,.b,.sl [.sl [.i,.i,.i,.i,.i,.i]]],.i,.i,.i] xs) : ∃ e : Waterway,xs = e.enc:=by
 obtain ⟨c0,ys,rfl,h0,h⟩:=h.cons_inv
 obtain ⟨c1,ys,rfl,h1,h⟩:=h.cons_inv
 obtain ⟨c2,ys,rfl,h2,h⟩:=h.cons_inv
 obtain ⟨c3,ys,rfl,h3,h⟩:=h.cons_inv
 obtain ⟨c4,ys,rfl,h4,h⟩:=h.cons_inv
 obtain ⟨c5,ys,rfl,h5,h⟩:=h.cons_inv
 obtain ⟨c6,ys,rfl,h6,h⟩:=h.cons_inv
 obtain ⟨c7,ys,rfl,h7,h⟩:=h.cons_inv
 obtain ⟨c8,ys,rfl,h8,h⟩:=h.cons_inv
 obtain ⟨c9,ys,rfl,h9,h⟩:=h.cons_inv
 obtain ⟨c10,ys,rfl,h10,h⟩:=h.cons_inv
 obtain ⟨c11,ys,rfl,h11,h⟩:=h.cons_inv
 obtain ⟨c12,ys,rfl,h12,h⟩:=h.cons_inv
 obtain ⟨c13,ys,rfl,h13,h⟩:=h.cons_inv
 obtain ⟨c14,ys,rfl,h14,h⟩:=h.cons_inv
 obtain ⟨c15,ys,rfl,h15,h⟩:=h.cons_inv
 obtain rfl:=h.ycx
 obtain ⟨n0,rfl⟩:=h0.yaT
 obtain ⟨n1,rfl⟩:=h1.ycq Reach.enc fun _ h=>yxz h
 obtain ⟨n2,rfl⟩:=h2.ycq Way.enc fun _ h=>yBG h
 obtain ⟨n3,rfl⟩:=h3.ycq Work.enc fun _ h=>yy3 h
 obtain ⟨n4,rfl⟩:=h4.ycq yZ fun _ h=>ywg h
 obtain ⟨n5,rfl⟩:=h5.ycq Train.enc fun _ h=>yrO h
 obtain ⟨n6,rfl⟩:=h6.ycq yJ fun _ h=>ykL h
 obtain ⟨n7,rfl⟩:=h7.yaT
 obtain ⟨n8,rfl⟩:=h8.yaT
 obtain ⟨n9,rfl⟩:=h9.ycq yJ fun _ h=>ykL h
 obtain ⟨n10,rfl⟩:=h10.ycq yJ fun _ h=>ykL h
 obtain ⟨n11,rfl⟩:=h11.ycq Entry.enc fun _ h=>yye h
 obtain ⟨n12,rfl⟩:=h12.ycq Passing.enc fun _ h=>yuj h
 obtain ⟨n13,rfl⟩:=h13.yaT
 obtain ⟨n14,rfl⟩:=h14.yaT
 obtain ⟨n15,rfl⟩:=h15.yaT
 exact ⟨⟨n0,n1,n2,n3,n4,n5,n6,⟨n7,n8,n9,n10⟩,n11,n12,n13,n14,n15⟩,rfl⟩
theorem yVK : IsLaw Rows.fnExactLedgerOkSpec Tryz.f4.params.size:=by
 refine ⟨rfl,fun H ds h=>?_⟩
 match ds,h with
 | [d0],_=>rfl
theorem yVF : LawFacts Tryz.prog Tryz.f4 (Tryz.f4.resultTypes.getD 0 0) [(true,[.i,.sl [.sl [.i,.i],.i,.sl [.i]],.sl [.i,.i],.sl [.i,.i,.i,.i,.i,.i,.i,.i,.i,.sl [.b,.sl [.sl [.i,.i,.i,.i,.i,.i]]],.i,.i,.i,.i,.i,.i,.i,.i,.sl [.i,.i],.b,.i,.sl [.b,.sl [.sl [.i,.i,.i,.i,.i,.i]],.i,.i]],.sl [.sl [.b,.sl [.sl [.i,.i,.i,.i,.i,.i]],.i]],.sl [.b,.sl [.sl [.i,.i,.i,.i,.i,.i]]],.sl [.i],.i,.i,.sl [.i],.sl [.i],.sl [.i,.i,.i,.i,.i],.sl [.i,.i,.b,.sl [.sl [.i,.i,.i,.i,.i,.i]]],.i,.i,.i])] :=
 ⟨yrS,by kernel_rfl,by kernel_rfl,by kernel_rfl,by kernel_rfl⟩
set_option maxRecDepth 100000 in
theorem yVG (os : Os) (started : os.Started) (H : Type) (enc : TypeId × Value → H) :
 ReturnsInHanded {} Tryz.checked os 4 .any (Rows.fnExactLedgerOkSpec.pre6 enc Tryz.prog Tryz.f4 Rows.fnExactLedgerOkRow.domain false) (Rows.fnExactLedgerOkSpec.post enc Tryz.prog Tryz.f4 false true false false):=by
 refine law_lifted (C:=Tryz.checked) yt1 started (by kernel_rfl) Tryz.func4
  (ChangeSpec.witness6 (enc:=enc) (C:=Tryz.checked) false ⟨#[],#[.agg #[.int .i64 0,.slice none 0 0,.slice none 0 0,.slice none 0 0,.slice none 0 0,.slice none 0 0,.slice none 0 0,.int .i64 0,.int .i64 0,.slice none 0 0,.slice none 0 0,.slice none 0 0,.slice none 0 0,.int .i64 0,.int .i64 0,.int .i64 0]],[]⟩ 8 (by kernel_rfl) (by kernel_rfl) (by kernel_rfl) (by kernel_rfl)) yVK yVF ?_
 rintro avs ⟨a,avs0,rfl,ha,rfl⟩
 cases ha with
 | st h0 =>
  obtain ⟨x0,rfl⟩:=ysY h0
  exact yVN x0
theorem yVI : ypf Tryz.prog 4 Tryz.f4 Rows.fnExactLedgerOkSpec Rows.fnExactLedgerOkRow = true:=by kernel_rfl
theorem yVJ : Tryz.pinned.checked.prog.funcNamed Rows.fnExactLedgerOkRow.func = some 4:=by kernel_rfl
theorem yVM : Tryz.f4.isInstance Tryz.pinned.checked.prog Rows.fnExactLedgerOkRow.origin Rows.fnExactLedgerOkRow.targs:=(of_decide_eq_true (by kernel_rfl))
theorem yVL : Tryz.f4.isWrapper Tryz.pinned.checked.prog Rows.fnExactLedgerOkRow.wrapper Rows.fnExactLedgerOkRow.mainSum:=by
 unfold Func.isWrapper; first | (rw [if_pos (by decide +kernel)]; kernel_rfl) | (rw [if_neg (by decide +kernel)]; exact ⟨rfl,rfl⟩)
theorem FnExactLedgerOk_holds : Rows.FnExactLedgerOkSaid :=
 OpenClaim.holds_of_wide (p:=Tryz.pinned) (s:=Rows.fnExactLedgerOkSpec) (c:=Rows.fnExactLedgerOkRow) 4 Tryz.f4 rfl rfl rfl rfl rfl rfl rfl ⟨rfl,rfl,rfl,rfl,rfl⟩ rfl rfl rfl rfl rfl yVJ Tryz.func4
  (yyi yxx yVI ⟨rfl,rfl,rfl,rfl,rfl,rfl,rfl,rfl⟩) yVM yVL (fun os started H enc _=>yVG os started H enc)
end Go.Proofs.YtpkpdbohalbbaaaGreat
