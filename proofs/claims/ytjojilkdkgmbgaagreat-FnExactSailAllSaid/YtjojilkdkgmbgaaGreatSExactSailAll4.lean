/- What the law FnExactSailAll stands on: contracts of functions, what each answers as plain Lean, in short form (names, layout). -/
import Derived.Test.YtjojilkdkgmbgaaGreatSExactSailAll3
set_option linter.all false
namespace Go.Proofs.YtjojilkdkgmbgaaGreat
open Go.RowKit
theorem ysC (x : Waterway) (hs : x.small) : yB Tryz.prog 216 [.agg (x.enc.map .c)] (.c (.b (ybi x))):=by
 have hsM:=hs.2.2.2.1
 have hsW:=hs.2.2.1
 refine yh ypQ ?_
 simp -dsimp -implicitDefEqProofs
 intro hlen
 refine yc (ysy x.Reaches) ?_
 cases h1 : ycM x.Reaches with
 | false=>simp -dsimp -implicitDefEqProofs; simp [ybi,h1]
 | true =>
 simp -dsimp -implicitDefEqProofs
 refine ⟨fun h2=>?_,fun h2=>(pno2 (by omega))⟩
 intro _
 refine ⟨fun h3=>?_,fun h3=>(pno3 (by omega))⟩
 intro _
 refine ⟨fun h4=>?_,fun h4=>(pno4 (by omega))⟩
 refine fun _=>⟨by unfold maxLen at hlen; unfold inI; omega,?_⟩
 refine ⟨fun h5=>(pno5 (by omega)),fun h5=>?_⟩
 have h3' : x.Ways.length = x.Reaches.length:=by omega
 have h4' : x.Movers.length = x.Reaches.length:=by omega
 have hz : (x.Ways.zip x.Movers).length = x.Ways.length:=by rw [List.length_zip]; omega
 refine fun hlw=>yg (ι:=Nat) (fun k=>k ≤ x.Ways.length ∧ ∀ p ∈ (x.Ways.zip x.Movers).take k,yb8 p = true) (fun k=>yO [(1,.box 1 0),(44,.c (.sl 2 (x.Ways.map Way.enc))),(45,.c (.i x.Ways.length)),(46,.c (.i k))] [(1,.box (x.enc.map .c))]) (fun k=>x.Ways.length - k) 0 (by simp) (by apply yj <;> simp) ?_
 rintro k ⟨hk,hall⟩
 rcases Nat.lt_or_ge k x.Ways.length with hlt | hge
 ·obtain ⟨w,hw⟩ : ∃ w,x.Ways[k]? = some w:=⟨_,List.getElem?_eq_getElem hlt⟩
  obtain ⟨ms,hm⟩ : ∃ w,x.Movers[k]? = some w:=⟨_,List.getElem?_eq_getElem (by omega)⟩
  have hkm : k < x.Movers.length:=by omega
  have gm:=(List.getElem?_eq_some_iff.1 hm).2
  have gw:=(List.getElem?_eq_some_iff.1 hw).2
  have hp : (x.Ways.zip x.Movers)[k]? = some (w,ms):=List.getElem?_zip_eq_some.2 ⟨hw,hm⟩
  have hsm:=hsM.2 ms (List.mem_of_getElem? hm)
  simp -dsimp -implicitDefEqProofs [hw,gw,yG hlt,hlt]
  refine yc (ypN w) ?_
  cases h6 : yjg w with
  | false=>simp -dsimp -implicitDefEqProofs; exact ydV hw hm (yBL h6)
  | true =>
  simp -dsimp -implicitDefEqProofs [hm,gm,hkm,yG hkm]
  intro hlm
  refine ⟨fun h7=>(ydV hw hm (yCv (by omega))),fun h7=>?_⟩
  refine fun _=>yg (ι:=Nat) (fun i=>i ≤ ms.length ∧ ∀ m ∈ ms.take i,ybk m w = true) (fun i=>yO [(1,.box 1 0),(5,.box 5 0),(44,.c (.sl 2 (x.Ways.map Way.enc))),(45,.c (.i x.Ways.length)),(46,.c (.i k)),(67,.c (.sl 3 (ms.map Mover.enc))),(68,.c (.i ms.length)),(69,.c (.i i))] [(1,.box (x.enc.map .c)),(5,.box (w.enc.map .c))]) (fun i=>ms.length - i) 0 (by simp) (by apply yj <;> simp) ?_
  rintro i ⟨hi,hall2⟩
  rcases Nat.lt_or_ge i ms.length with hlt2 | hge2
  ·obtain ⟨m,hmm⟩ : ∃ w,ms[i]? = some w:=⟨_,List.getElem?_eq_getElem hlt2⟩
   have g2:=(List.getElem?_eq_some_iff.1 hmm).2
   simp -dsimp -implicitDefEqProofs [hmm,g2,yG hlt2,hlt2]
   refine yc (yr9 m w (hsm.2 m (List.mem_of_getElem? hmm))) ?_
   cases h8 : ybk m w with
   | false=>simp -dsimp -implicitDefEqProofs; exact ydV hw hm (yyL hmm h8)
   | true =>
    simp -dsimp -implicitDefEqProofs
    refine ⟨yw hlt2 hlm,i + 1,⟨hlt2,yL (p:=fun m=>ybk m w) hmm hall2 h8⟩,by omega,?_⟩
    apply yj <;> simp
  ·have h9:=yX (p:=fun m=>ybk m w) hge2 hall2
   have hlane : yb8 (w,ms) = true:=by
    have : ms.length ≤ 24:=by omega
    simp [yb8,h6,this,h9]
   simp -dsimp -implicitDefEqProofs [yaB hge2]
   refine ⟨yw hlt hlw,k + 1,⟨hlt,fun a b hab=>yL (p:=yb8) hp hall hlane (a,b) hab⟩,by omega,?_⟩
   apply yj <;> simp
 ·have hl:=yX (p:=yb8) (by rw [hz]; exact hge) hall
  simp -dsimp -implicitDefEqProofs [yaB hge]
  refine fun hlk=>yg (ι:=Nat) (fun i=>i ≤ x.Works.length ∧ ∀ w ∈ x.Works.take i,ybd w = true) (fun i=>yO [(1,.box 1 0),(80,.c (.sl 22 (x.Works.map Work.enc))),(81,.c (.i x.Works.length)),(82,.c (.i i))] [(1,.box (x.enc.map .c))]) (fun i=>x.Works.length - i) 0 (by simp) (by apply yj <;> simp) ?_
  rintro i ⟨hi,hall2⟩
  rcases Nat.lt_or_ge i x.Works.length with hlt2 | hge2
  ·obtain ⟨w,hw⟩ : ∃ w,x.Works[i]? = some w:=⟨_,List.getElem?_eq_getElem hlt2⟩
   have g2:=(List.getElem?_eq_some_iff.1 hw).2
   simp -dsimp -implicitDefEqProofs [hw,g2,yG hlt2,hlt2]
   refine yc (yu3 w (hsW.2 w (List.mem_of_getElem? hw))) ?_
   cases h8 : ybd w with
   | false=>simp -dsimp -implicitDefEqProofs; exact yo6 hw h8
   | true =>
    simp -dsimp -implicitDefEqProofs
    refine ⟨yw hlt2 hlk,i + 1,⟨hlt2,yL (p:=ybd) hw hall2 h8⟩,by omega,?_⟩
    apply yj <;> simp
  ·have h9:=yX (p:=ybd) hge2 hall2
   simp -dsimp -implicitDefEqProofs [yaB hge2]
   have h2' : 2 ≤ x.Reaches.length:=by omega
   have h5' : x.Works.length + 1 = x.Reaches.length:=by omega
   simp [ybi,h1,h2',h3',h4',h5',hl,h9]
def yc9 (n : Nat) (p : Passing) : Bool:=inRange p.Time 0 1000000 && inRange p.Work 0 (n - 1) && yP p.Train
def ybW (x : Waterway) : Bool:=decide (x.Arrived.length ≤ 500) && decide (x.Entered.length ≤ 2000) && decide (x.Passings.length ≤ 500) && x.Arrived.all yP && x.Entered.all (fun n=>inRange n 1 9999) && x.Passings.all (yc9 x.Works.length)
def yar (x : Waterway) : Bool:=inRange x.Time 0 1000000 && ybi x && ybW x && ya9 x.Tariff && yht x.Book && inRange x.Start 0 1000000000 && inRange x.In 0 1000000000 && inRange x.Out 0 1000000000
theorem lno1 {x : Waterway} (h : ¬ x.Arrived.length ≤ 500) : ybW x = false:=by simp [ybW,h]
theorem lno2 {x : Waterway} (h : ¬ x.Entered.length ≤ 2000) : ybW x = false:=by simp [ybW,h]
theorem lno3 {x : Waterway} (h : ¬ x.Passings.length ≤ 500) : ybW x = false:=by simp [ybW,h]
theorem lno4 {x : Waterway} {k : Nat} {t : Train} (h1 : x.Arrived[k]? = some t) (h : yP t = false) : ybW x = false:=by
 have:=all_false (p:=yP) h1 h
 simp [ybW,this]
theorem lno5 {x : Waterway} {k : Nat} {t : Int} (h1 : x.Entered[k]? = some t) (h : inRange t 1 9999 = false) : ybW x = false:=by
 have:=all_false (p:=fun n=>inRange n 1 9999) h1 h
 simp [ybW,this]
theorem yxw {x : Waterway} {k : Nat} {t : Passing} (h1 : x.Passings[k]? = some t) (h : yc9 x.Works.length t = false) : ybW x = false:=by
 have:=all_false (p:=yc9 x.Works.length) h1 h
 simp [ybW,this]
theorem wno {x : Waterway} (h : ybW x = false) : yar x = false:=by simp [yar,h]
theorem yns (x : Waterway) (hs : x.small) : yB Tryz.prog 135 [.agg (x.enc.map .c)] (.c (.b (yar x))):=by
 have hsA:=hs.2.2.2.2.1
 have hsP:=hs.2.2.2.2.2.2.2.2
 refine yh ylp ?_
 simp -dsimp -implicitDefEqProofs
 refine yc (yC x.Time 0 1000000) ?_
 cases h1 : inRange x.Time 0 1000000 with
 | false=>simp -dsimp -implicitDefEqProofs; simp [yar,h1]
 | true =>
 simp -dsimp -implicitDefEqProofs
 refine yc (ysC x hs) ?_
 cases h2 : ybi x with
 | false=>simp -dsimp -implicitDefEqProofs; simp [yar,h2]
 | true =>
 simp -dsimp -implicitDefEqProofs
 intro hlA
 refine ⟨fun h3=>?_,fun h3=>(wno (lno1 (by omega)))⟩
 intro hlE
 refine ⟨fun h4=>?_,fun h4=>(wno (lno2 (by omega)))⟩
 intro hlP
 refine ⟨fun h5=>(wno (lno3 (by omega))),fun h5=>?_⟩
 refine fun _=>yg (ι:=Nat) (fun k=>k ≤ x.Arrived.length ∧ ∀ t ∈ x.Arrived.take k,yP t = true) (fun k=>yO [(1,.box 1 0),(37,.c (.sl 2 (x.Arrived.map Train.enc))),(38,.c (.i x.Arrived.length)),(39,.c (.i k))] [(1,.box (x.enc.map .c))]) (fun k=>x.Arrived.length - k) 0 (by simp) (by apply yj <;> simp) ?_
 rintro k ⟨hk,hall⟩
 rcases Nat.lt_or_ge k x.Arrived.length with hlt | hge
 ·obtain ⟨t,ht⟩ : ∃ w,x.Arrived[k]? = some w:=⟨_,List.getElem?_eq_getElem hlt⟩
  simp -dsimp -implicitDefEqProofs [ht,yG hlt]
  refine yc (ydp t (hsA.2 t (List.mem_of_getElem? ht))) ?_
  cases h6 : yP t with
  | false=>simp -dsimp -implicitDefEqProofs; exact wno (lno4 ht h6)
  | true =>
   simp -dsimp -implicitDefEqProofs
   refine ⟨yw hlt hlA,k + 1,⟨hlt,yL (p:=yP) ht hall h6⟩,by omega,?_⟩
   apply yj <;> simp
 have hA:=yX (p:=yP) hge hall
 simp -dsimp -implicitDefEqProofs [yaB hge]
 refine fun _=>yg (ι:=Nat) (fun k=>k ≤ x.Entered.length ∧ ∀ t ∈ x.Entered.take k,inRange t 1 9999 = true) (fun k=>yO [(1,.box 1 0),(48,.c (.sl 1 (x.Entered.map yJ))),(49,.c (.i x.Entered.length)),(50,.c (.i k))] [(1,.box (x.enc.map .c))]) (fun k=>x.Entered.length - k) 0 (by simp) (by apply yj <;> simp) ?_
 clear hall hk hge k
 rintro k ⟨hk,hall⟩
 rcases Nat.lt_or_ge k x.Entered.length with hlt | hge
 ·obtain ⟨t,ht⟩ : ∃ w,x.Entered[k]? = some w:=⟨_,List.getElem?_eq_getElem hlt⟩
  simp -dsimp -implicitDefEqProofs [ht,yG hlt]
  refine yc (yC t 1 9999) ?_
  cases h6 : inRange t 1 9999 with
  | false=>simp -dsimp -implicitDefEqProofs; exact wno (lno5 ht h6)
  | true =>
   simp -dsimp -implicitDefEqProofs
   refine ⟨yw hlt hlE,k + 1,⟨hlt,yL (p:=fun n=>inRange n 1 9999) ht hall h6⟩,by omega,?_⟩
   apply yj <;> simp
 have hE:=yX (p:=fun n=>inRange n 1 9999) hge hall
 simp -dsimp -implicitDefEqProofs [yaB hge]
 refine fun _=>yg (ι:=Nat) (fun k=>k ≤ x.Passings.length ∧ ∀ t ∈ x.Passings.take k,yc9 x.Works.length t = true) (fun k=>yO [(1,.box 1 0),(59,.c (.sl 4 (x.Passings.map Passing.enc))),(60,.c (.i x.Passings.length)),(61,.c (.i k))] [(1,.box (x.enc.map .c))]) (fun k=>x.Passings.length - k) 0 (by simp) (by apply yj <;> simp) ?_
 clear hall hk hge k
 rintro k ⟨hk,hall⟩
 rcases Nat.lt_or_ge k x.Passings.length with hlt | hge
 ·obtain ⟨t,ht⟩ : ∃ w,x.Passings[k]? = some w:=⟨_,List.getElem?_eq_getElem hlt⟩
  simp -dsimp -implicitDefEqProofs [ht,yG hlt]
  refine yc (yC t.Time 0 1000000) ?_
  cases h6 : inRange t.Time 0 1000000 with
  | false=>simp -dsimp -implicitDefEqProofs; exact wno (yxw ht (by simp [yc9,h6]))
  | true =>
  simp -dsimp -implicitDefEqProofs
  refine fun hlW=>⟨by unfold maxLen at hlW; unfold inI; omega,?_⟩
  refine yc (yC t.Work 0 (x.Works.length - 1)) ?_
  cases h7 : inRange t.Work 0 (x.Works.length - 1) with
  | false=>simp -dsimp -implicitDefEqProofs; exact wno (yxw ht (by simp [yc9,h7]))
  | true =>
  simp -dsimp -implicitDefEqProofs
  refine yc (ydp t.Train (hsP.2 t (List.mem_of_getElem? ht))) ?_
  cases h8 : yP t.Train with
  | false=>simp -dsimp -implicitDefEqProofs; exact wno (yxw ht (by simp [yc9,h8]))
  | true =>
  simp -dsimp -implicitDefEqProofs
  refine ⟨yw hlt hlP,k + 1,⟨hlt,yL (p:=yc9 x.Works.length) ht hall (by simp [yc9,h6,h7,h8])⟩,by omega,?_⟩
  apply yj <;> simp
 have hP:=yX (p:=yc9 x.Works.length) hge hall
 simp -dsimp -implicitDefEqProofs [yaB hge]
 refine yc (yqB x.Tariff) ?_
 cases h7 : ya9 x.Tariff with
 | false=>simp -dsimp -implicitDefEqProofs; simp [yar,h7]
 | true =>
 simp -dsimp -implicitDefEqProofs
 refine yc (yvn x.Book) ?_
 cases h8 : yht x.Book with
 | false=>simp -dsimp -implicitDefEqProofs; simp [yar,h8]
 | true =>
 simp -dsimp -implicitDefEqProofs
 refine yc (yC x.Start 0 1000000000) ?_
 cases h9 : inRange x.Start 0 1000000000 with
 | false=>simp -dsimp -implicitDefEqProofs; simp [yar,h9]
 | true =>
 simp -dsimp -implicitDefEqProofs
 refine yc (yC x.In 0 1000000000) ?_
 cases h10 : inRange x.In 0 1000000000 with
 | false=>simp -dsimp -implicitDefEqProofs; simp [yar,h10]
 | true =>
 simp -dsimp -implicitDefEqProofs
 refine yc (yC x.Out 0 1000000000) ?_
 simp -dsimp -implicitDefEqProofs
 have a3 : x.Arrived.length ≤ 500:=by omega
 have a4 : x.Entered.length ≤ 2000:=by omega
 have a5 : x.Passings.length ≤ 500:=by omega
 have hl : ybW x = true:=by simp only [ybW,a3,a4,a5,hA,hE,hP]; simp
 simp [yar,h1,h2,h7,h8,h9,h10,hl]
theorem yv2 (x : Waterway) (hs : x.small) : yB Tryz.prog 121 [.agg (x.enc.map .c)] (.c (.b (ybi x))):=by
 have hsM:=hs.2.2.2.1
 have hsW:=hs.2.2.1
 refine yh ynn ?_
 simp -dsimp -implicitDefEqProofs
 intro hlen
 refine yc (ysQ x.Reaches) ?_
 cases h1 : ycM x.Reaches with
 | false=>simp -dsimp -implicitDefEqProofs; simp [ybi,h1]
 | true =>
 simp -dsimp -implicitDefEqProofs
 refine ⟨fun h2=>?_,fun h2=>(pno2 (by omega))⟩
 intro _
 refine ⟨fun h3=>?_,fun h3=>(pno3 (by omega))⟩
 intro _
 refine ⟨fun h4=>?_,fun h4=>(pno4 (by omega))⟩
 refine fun _=>⟨by unfold maxLen at hlen; unfold inI; omega,?_⟩
 refine ⟨fun h5=>(pno5 (by omega)),fun h5=>?_⟩
 have h3' : x.Ways.length = x.Reaches.length:=by omega
 have h4' : x.Movers.length = x.Reaches.length:=by omega
 have h5' : x.Works.length + 1 = x.Reaches.length:=by omega
 have hz : (x.Ways.zip x.Movers).length = x.Ways.length:=by rw [List.length_zip]; omega
 refine yg (ι:=Nat) (fun k=>k ≤ x.Ways.length ∧ (∀ p ∈ (x.Ways.zip x.Movers).take k,yb8 p = true) ∧ ∀ w ∈ x.Works.take k,ybd w = true) (fun k=>yO [(1,.box 1 0),(3,.c (.i x.Reaches.length)),(4,.c (.i k))] [(1,.box (x.enc.map .c))]) (fun k=>x.Ways.length - k) 0 (by simp) (by apply yj <;> simp) ?_
 rintro k ⟨hk,hall,hallw⟩
 rcases Nat.lt_or_ge k x.Ways.length with hlt | hge
 ·obtain ⟨w,hw⟩ : ∃ w,x.Ways[k]? = some w:=⟨_,List.getElem?_eq_getElem hlt⟩
  obtain ⟨ms,hm⟩ : ∃ w,x.Movers[k]? = some w:=⟨_,List.getElem?_eq_getElem (by omega)⟩
  have hkm : k < x.Movers.length:=by omega
  have hkr : k < x.Reaches.length:=by omega
  have gm:=(List.getElem?_eq_some_iff.1 hm).2
  have gw:=(List.getElem?_eq_some_iff.1 hw).2
  have hp : (x.Ways.zip x.Movers)[k]? = some (w,ms):=List.getElem?_zip_eq_some.2 ⟨hw,hm⟩
  have hsm:=hsM.2 ms (List.mem_of_getElem? hm)
  simp -dsimp -implicitDefEqProofs [hw,gw,yG hlt,hlt,hkr,yG hkr]
  refine yc (ynZ w) ?_
  cases h6 : yjg w with
  | false=>simp -dsimp -implicitDefEqProofs; exact ydV hw hm (yBL h6)
  | true =>
  simp -dsimp -implicitDefEqProofs [hm,gm,hkm,yG hkm]
  intro hlm
  refine ⟨fun h7=>?_,fun h7=>(ydV hw hm (yCv (by omega)))⟩
  refine ⟨by unfold maxLen at hlen; unfold inI; omega,fun hc=>?_,fun hc=>?_⟩
  ·obtain ⟨wk,hwk⟩ : ∃ w,x.Works[k]? = some w:=⟨_,List.getElem?_eq_getElem (by omega)⟩
   have gk:=(List.getElem?_eq_some_iff.1 hwk).2
   have hkw : k < x.Works.length:=by omega
   refine ⟨hkw,?_⟩
   simp -dsimp -implicitDefEqProofs [hwk]
   refine yc (yuI wk (hsW.2 wk (List.mem_of_getElem? hwk))) ?_
   cases h10 : ybd wk with
   | false=>simp -dsimp -implicitDefEqProofs; exact yo6 hwk h10
   | true =>
   simp -dsimp -implicitDefEqProofs
   refine yg (ι:=Nat) (fun i=>i ≤ ms.length ∧ ∀ m ∈ ms.take i,ybk m w = true) (fun i=>yO [(1,.box 1 0),(3,.c (.i x.Reaches.length)),(4,.c (.i k)),(5,.c (.i i))] [(1,.box (x.enc.map .c))]) (fun i=>ms.length - i) 0 (by simp) (by apply yj <;> simp) ?_
   rintro i ⟨hi,hall2⟩
   rcases Nat.lt_or_ge i ms.length with hlt2 | hge2
   ·obtain ⟨m,hmm⟩ : ∃ w,ms[i]? = some w:=⟨_,List.getElem?_eq_getElem hlt2⟩
    have g2:=(List.getElem?_eq_some_iff.1 hmm).2
    simp -dsimp -implicitDefEqProofs [hw,gw,hlt,yG hlt,hm,gm,hkm,yG hkm,hmm,g2,yG hlt2,hlt2]
    intro _
    refine yaC (yk6 m w (hsm.2 m (List.mem_of_getElem? hmm))) ?_
    cases h8 : ybk m w with
    | false=>simp -dsimp -implicitDefEqProofs; exact ydV hw hm (yyL hmm h8)
    | true =>
     simp -dsimp -implicitDefEqProofs
     refine ⟨yw hlt2 hlm,i + 1,⟨hlt2,yL (p:=fun m=>ybk m w) hmm hall2 h8⟩,by omega,?_⟩
     apply yj <;> simp
   ·have h9:=yX (p:=fun m=>ybk m w) hge2 hall2
    have hlane : yb8 (w,ms) = true:=by
     have : ms.length ≤ 24:=by omega
     simp [yb8,h6,this,h9]
    simp -dsimp -implicitDefEqProofs [hm,gm,hkm,yG hkm,yaB hge2]
    refine fun _=>⟨by unfold maxLen at hlen; unfold inI; omega,k + 1,⟨hlt,fun a b hab=>yL (p:=yb8) hp hall hlane (a,b) hab,yL (p:=ybd) hwk hallw h10⟩,by omega,?_⟩
    apply yj <;> simp
  ·have hwa : x.Works.take (k + 1) = x.Works.take k:=by rw [List.take_of_length_le (by omega),List.take_of_length_le (by omega)]
   refine yg (ι:=Nat) (fun i=>i ≤ ms.length ∧ ∀ m ∈ ms.take i,ybk m w = true) (fun i=>yO [(1,.box 1 0),(3,.c (.i x.Reaches.length)),(4,.c (.i k)),(5,.c (.i i))] [(1,.box (x.enc.map .c))]) (fun i=>ms.length - i) 0 (by simp) (by apply yj <;> simp) ?_
   rintro i ⟨hi,hall2⟩
   rcases Nat.lt_or_ge i ms.length with hlt2 | hge2
   ·obtain ⟨m,hmm⟩ : ∃ w,ms[i]? = some w:=⟨_,List.getElem?_eq_getElem hlt2⟩
    have g2:=(List.getElem?_eq_some_iff.1 hmm).2
    simp -dsimp -implicitDefEqProofs [hw,gw,hlt,yG hlt,hm,gm,hkm,yG hkm,hmm,g2,yG hlt2,hlt2]
    intro _
    refine yaC (yk6 m w (hsm.2 m (List.mem_of_getElem? hmm))) ?_
    cases h8 : ybk m w with
    | false=>simp -dsimp -implicitDefEqProofs; exact ydV hw hm (yyL hmm h8)
    | true =>
     simp -dsimp -implicitDefEqProofs
     refine ⟨yw hlt2 hlm,i + 1,⟨hlt2,yL (p:=fun m=>ybk m w) hmm hall2 h8⟩,by omega,?_⟩
     apply yj <;> simp
   ·have h9:=yX (p:=fun m=>ybk m w) hge2 hall2
    have hlane : yb8 (w,ms) = true:=by
     have : ms.length ≤ 24:=by omega
     simp [yb8,h6,this,h9]
    simp -dsimp -implicitDefEqProofs [hm,gm,hkm,yG hkm,yaB hge2]
    refine fun _=>⟨by unfold maxLen at hlen; unfold inI; omega,k + 1,⟨hlt,fun a b hab=>yL (p:=yb8) hp hall hlane (a,b) hab,by rw [hwa]; exact hallw⟩,by omega,?_⟩
    apply yj <;> simp
 ·simp -dsimp -implicitDefEqProofs [yaB hge]
  refine ⟨by omega,fun _=>?_⟩
  have hl:=yX (p:=yb8) (by rw [hz]; exact hge) hall
  have h9:=yX (p:=ybd) (l:=x.Works) (k:=k) (by omega) hallw
  have h2' : 2 ≤ x.Reaches.length:=by omega
  simp [ybi,h1,h2',h3',h4',h5',hl,h9]
theorem ywh (x : Waterway) (hs : x.small) : yB Tryz.prog 122 [.agg (x.enc.map .c)] (.c (.b (ybW x))):=by
 have hsA:=hs.2.2.2.2.1
 have hsP:=hs.2.2.2.2.2.2.2.2
 refine yh ynw ?_
 simp -dsimp -implicitDefEqProofs
 intro hlA
 refine ⟨fun h3=>?_,fun h3=>(lno1 (by omega))⟩
 intro hlE
 refine ⟨fun h4=>?_,fun h4=>(lno2 (by omega))⟩
 intro hlP
 refine ⟨fun h5=>(lno3 (by omega)),fun h5=>?_⟩
 refine yg (ι:=Nat) (fun k=>k ≤ x.Arrived.length ∧ ∀ t ∈ x.Arrived.take k,yP t = true) (fun k=>yO [(1,.box 1 0),(3,.c (.i k))] [(1,.box (x.enc.map .c))]) (fun k=>x.Arrived.length - k) 0 (by simp) (by apply yj <;> simp) ?_
 rintro k ⟨hk,hall⟩
 rcases Nat.lt_or_ge k x.Arrived.length with hlt | hge
 ·obtain ⟨t,ht⟩ : ∃ w,x.Arrived[k]? = some w:=⟨_,List.getElem?_eq_getElem hlt⟩
  have g1:=(List.getElem?_eq_some_iff.1 ht).2
  simp -dsimp -implicitDefEqProofs [ht,g1,hlt,yG hlt]
  intro _
  refine yc (yds t (hsA.2 t (List.mem_of_getElem? ht))) ?_
  cases h6 : yP t with
  | false=>simp -dsimp -implicitDefEqProofs; exact lno4 ht h6
  | true =>
   simp -dsimp -implicitDefEqProofs
   refine ⟨yw hlt hlA,k + 1,⟨hlt,yL (p:=yP) ht hall h6⟩,by omega,?_⟩
   apply yj <;> simp
 have hA:=yX (p:=yP) hge hall
 simp -dsimp -implicitDefEqProofs [yaB hge]
 refine fun _=>yg (ι:=Nat) (fun k=>k ≤ x.Entered.length ∧ ∀ t ∈ x.Entered.take k,inRange t 1 9999 = true) (fun k=>yO [(1,.box 1 0),(4,.c (.i k))] [(1,.box (x.enc.map .c))]) (fun k=>x.Entered.length - k) 0 (by simp) (by apply yj <;> simp) ?_
 clear hall hk hge k
 rintro k ⟨hk,hall⟩
 rcases Nat.lt_or_ge k x.Entered.length with hlt | hge
 ·obtain ⟨t,ht⟩ : ∃ w,x.Entered[k]? = some w:=⟨_,List.getElem?_eq_getElem hlt⟩
  have g1:=(List.getElem?_eq_some_iff.1 ht).2
  simp -dsimp -implicitDefEqProofs [ht,g1,hlt,yG hlt]
  intro _
  refine yc (yD t 1 9999) ?_
  cases h6 : inRange t 1 9999 with
  | false=>simp -dsimp -implicitDefEqProofs; exact lno5 ht h6
  | true =>
   simp -dsimp -implicitDefEqProofs
   refine ⟨yw hlt hlE,k + 1,⟨hlt,yL (p:=fun n=>inRange n 1 9999) ht hall h6⟩,by omega,?_⟩
   apply yj <;> simp
 have hE:=yX (p:=fun n=>inRange n 1 9999) hge hall
 simp -dsimp -implicitDefEqProofs [yaB hge]
 refine fun _=>yg (ι:=Nat) (fun k=>k ≤ x.Passings.length ∧ ∀ t ∈ x.Passings.take k,yc9 x.Works.length t = true) (fun k=>yO [(1,.box 1 0),(5,.c (.i k))] [(1,.box (x.enc.map .c))]) (fun k=>x.Passings.length - k) 0 (by simp) (by apply yj <;> simp) ?_
 clear hall hk hge k
 rintro k ⟨hk,hall⟩
 rcases Nat.lt_or_ge k x.Passings.length with hlt | hge
 ·obtain ⟨t,ht⟩ : ∃ w,x.Passings[k]? = some w:=⟨_,List.getElem?_eq_getElem hlt⟩
  have g1:=(List.getElem?_eq_some_iff.1 ht).2
  simp -dsimp -implicitDefEqProofs [ht,g1,hlt,yG hlt]
  intro _
  refine yc (yD t.Time 0 1000000) ?_
  cases h6 : inRange t.Time 0 1000000 with
  | false=>simp -dsimp -implicitDefEqProofs; exact yxw ht (by simp [yc9,h6])
  | true =>
  simp -dsimp -implicitDefEqProofs
  refine fun hlW=>⟨by unfold maxLen at hlW; unfold inI; omega,?_⟩
  refine yc (yD t.Work 0 (x.Works.length - 1)) ?_
  cases h7 : inRange t.Work 0 (x.Works.length - 1) with
  | false=>simp -dsimp -implicitDefEqProofs; exact yxw ht (by simp [yc9,h7])
  | true =>
  simp -dsimp -implicitDefEqProofs
  refine yc (yds t.Train (hsP.2 t (List.mem_of_getElem? ht))) ?_
  cases h8 : yP t.Train with
  | false=>simp -dsimp -implicitDefEqProofs; exact yxw ht (by simp [yc9,h8])
  | true =>
  simp -dsimp -implicitDefEqProofs
  refine ⟨yw hlt hlP,k + 1,⟨hlt,yL (p:=yc9 x.Works.length) ht hall (by simp [yc9,h6,h7,h8])⟩,by omega,?_⟩
  apply yj <;> simp
 have hP:=yX (p:=yc9 x.Works.length) hge hall
 simp -dsimp -implicitDefEqProofs [yaB hge]
 intro _
 have a3 : x.Arrived.length ≤ 500:=by omega
 have a4 : x.Entered.length ≤ 2000:=by omega
 have a5 : x.Passings.length ≤ 500:=by omega
 simp only [ybW,a3,a4,a5,hA,hE,hP]; simp
theorem ym6 (x : Waterway) (hs : x.small) : yB Tryz.prog 54 [.agg (x.enc.map .c)] (.c (.b (yar x))):=by
 refine yh yk1 ?_
 simp -dsimp -implicitDefEqProofs
 refine yc (yD x.Time 0 1000000) ?_
 cases h1 : inRange x.Time 0 1000000 with
 | false=>simp -dsimp -implicitDefEqProofs; simp [yar,h1]
 | true =>
 simp -dsimp -implicitDefEqProofs
 refine yc (yD x.Start 0 1000000000) ?_
 cases h2 : inRange x.Start 0 1000000000 with
 | false=>simp -dsimp -implicitDefEqProofs; simp [yar,h2]
 | true =>
 simp -dsimp -implicitDefEqProofs
 refine yc (yD x.In 0 1000000000) ?_
 cases h3 : inRange x.In 0 1000000000 with
 | false=>simp -dsimp -implicitDefEqProofs; simp [yar,h3]
 | true =>
 simp -dsimp -implicitDefEqProofs
 refine yc (yD x.Out 0 1000000000) ?_
 cases h4 : inRange x.Out 0 1000000000 with
 | false=>simp -dsimp -implicitDefEqProofs; simp [yar,h4]
 | true =>
 simp -dsimp -implicitDefEqProofs
 refine yc (yv2 x hs) ?_
 cases h5 : ybi x with
 | false=>simp -dsimp -implicitDefEqProofs; simp [yar,h5]
 | true =>
 simp -dsimp -implicitDefEqProofs
 refine yc (ywh x hs) ?_
 cases h6 : ybW x with
 | false=>simp -dsimp -implicitDefEqProofs; simp [yar,h6]
 | true =>
 simp -dsimp -implicitDefEqProofs
 refine yc (yre x.Tariff) ?_
 cases h7 : ya9 x.Tariff with
 | false=>simp -dsimp -implicitDefEqProofs; simp [yar,h7]
 | true =>
 simp -dsimp -implicitDefEqProofs
 refine yc (yuL x.Book) ?_
 simp -dsimp -implicitDefEqProofs
 simp [yar,h1,h2,h3,h4,h5,h6,h7]
theorem ybn {α : Type} {f : α → List C} (h : ∀ x,∀ c ∈ f x,c.closed) (k : Nat) (l : List α) : (C.ot k (l.map f)).closed:=by
 simp only [C.closed,List.mem_map]
 rintro r ⟨x,_,rfl⟩ c hc
 exact h x c hc
theorem yb5 {l : List C} (h : ∀ c ∈ l,c.closed) : (AV.agg (l.map .c)).closed:=by
 show ∀ c,c ∈ AV.cs (l.map AV.c) → c.closed
 rw [ylW]; exact h
theorem ybA {k : Int} (h : 0 ≤ k) : inI (k.tmod 3):=by
 have:=Int.tmod_nonneg 3 h
 have:=Int.tmod_lt_of_pos k (b:=3) (by omega)
 unfold inI; omega
theorem ygL (xs : List Boat) : ∀ c ∈ yT xs,c.closed:=by simp [yT,C.closed]
theorem Train.yad (e : Train) : ∀ c ∈ e.yI,c.closed:=by
 simp only [Train.yI,List.mem_cons,List.not_mem_nil,or_false,forall_eq_or_imp,forall_eq]
 exact ⟨by simp [C.closed],ybn ygL _ _⟩
theorem Mover.yad (e : Mover) : ∀ c ∈ e.yI,c.closed:=by
 simp only [Mover.yI,List.mem_cons,List.not_mem_nil,or_false,forall_eq_or_imp,forall_eq]
 exact ⟨by simp [C.closed],ybn ygL _ _,by simp [C.closed]⟩
theorem Reach.yad (e : Reach) : ∀ c ∈ e.yI,c.closed:=by
 simp only [Reach.yI,List.mem_cons,List.not_mem_nil,or_false,forall_eq_or_imp,forall_eq]
 exact ⟨by simp [C.closed],by simp [C.closed],by simp [C.closed]⟩
theorem Tariff.yad (e : Tariff) : ∀ c ∈ e.yI,c.closed:=by
 simp only [Tariff.yI,List.mem_cons,List.not_mem_nil,or_false,forall_eq_or_imp,forall_eq]
 exact ⟨by simp [C.closed],by simp [C.closed],by simp [C.closed],by simp [C.closed]⟩
theorem ysN (n : Nat) (k : Int) (h0 : 0 ≤ k) (h1 : k + 2 * n ≤ 8000000000000000000) : yB Tryz.prog 146 [.c (.sl 2 (marked yP1 2 [] k n)),.c (.i k)] (.c (.i (k + 2 * n))):=by
 refine yh ylc ?_
 simp -dsimp -implicitDefEqProofs
 refine yg (ι:=Nat) (fun i=>i ≤ n) (fun i=>yO [(0,.c (.sl 2 (marked yP1 2 [] k n))),(1,.c (.i (k + 2 * i))),(5,.c (.i i))] []) (fun i=>n - i) 0 (by simp) (by apply yj <;> simp) ?_
 rintro i hi
 rcases Nat.lt_or_ge i n with hlt | hge
 ·have hg:=yfU (mk:=yP1) (c:=2) (k:=k) hlt
  simp only [yP1] at hg
  simp -dsimp -implicitDefEqProofs [yM,yG hlt,hg]
  intro hlen
  repeat (refine ⟨by first | exact hlt | (unfold inI; omega) | exact ybA (by omega),?_⟩)
  refine ⟨i + 1,hlt,by omega,?_⟩
  apply yj <;> simp <;> omega
 ·have : i = n:=by omega
  subst this
  simp -dsimp -implicitDefEqProofs [yM]
theorem ywx (xs : List Reach) (hl : ycN xs) : ybh Tryz.prog 30 [.c (.sl 3 (xs.map Reach.enc))] (.c (.ot 3 (xs.map Reach.yI))):=by
 refine yan yii ?_
 simp -dsimp -implicitDefEqProofs
 intro hlen
 have hl1:=hl.1
 refine ⟨by omega,?_⟩
 refine yg (ι:=Nat) (fun k=>k ≤ xs.length) (fun k=>yO [(0,.c (.sl 3 (xs.map Reach.enc))),(3,.own 7 3 xs.length),(4,.c (.i k))] [(7,.tr 3 0 (partly Reach.yI [.sl 2 [],.i 0,.sl 1 []] xs k))]) (fun k=>xs.length - k) 0 (by simp) (by apply yj <;> simp [yab,Obj.leO]) ?_
 rintro k hk
 rcases Nat.lt_or_ge k xs.length with hlt | hge
 ·obtain ⟨e,he⟩ : ∃ e,xs[k]? = some e:=⟨_,List.getElem?_eq_getElem hlt⟩
  have hs:=yaj (f:=Reach.yI) (z:=[.sl 2 [],.i 0,.sl 1 []]) he
  have hd:=yav (f:=Reach.yI) (z:=[.sl 2 [],.i 0,.sl 1 []]) (n:=3) rfl hlt
  simp only [Reach.yI] at hs
  simp -dsimp -implicitDefEqProofs [he,yG hlt]
  intro _
  refine yQ (yyz e (hl.2 e (List.mem_of_getElem? he))) (by simp) (yb5 (Reach.yad _)) (by simp [yU]) ?_
  simp -dsimp -implicitDefEqProofs [yG hlt,yak hk,yt,hd,hs]
  exact ⟨hlt,yw hlt hlen,k + 1,hlt,by omega,by apply yj <;> simp [Obj.leO]⟩
 ·simp -dsimp -implicitDefEqProofs [yaB hge]
  intro _
  rw [yam hge,yt]
def yay (e : Reach) : Nat:=2 * e.Table.length + 1 + e.Pipe.length
def ycQ (k : Int) (e : Reach) : List C:=[.ow 2 (marked yP1 2 [] k e.Table.length),.i (k + 2 * (e.Table.length : Int)),.ow 1 (marked yJ 1 [] (k + 2 * (e.Table.length : Int) + 1) e.Pipe.length)]
def yfZ (k : Int) (e : Reach) : List C:=[.sl 2 (marked yP1 2 [] k e.Table.length),.i (k + 2 * (e.Table.length : Int)),.sl 1 (marked yJ 1 [] (k + 2 * (e.Table.length : Int) + 1) e.Pipe.length)]
theorem ykO (k : Int) (e : Reach) : ybQ (ycQ k e) = some (yfZ k e):=by simp [ycQ,yfZ,ybQ,C.shr]
theorem yty (xs : List Reach) (k : Int) (h0 : 0 ≤ k) (h1 : k + cnt yay xs ≤ 8000000000000000000) :
 InF Tryz.prog 60 (.c (ct 3 (xs.map Reach.yI))) (.c (ct 3 (yaA ycQ yay k xs))) [.c (.i k)] (.c (.i (k + cnt yay xs))):=by
 rcases Nat.eq_zero_or_pos xs.length with hx | hx
 ·have : xs = []:=List.length_eq_zero_iff.1 hx
  subst this
  refine ybO ygF (by simp) (by simp) rfl fun hwf=>?_
  simp -dsimp -implicitDefEqProofs [yew,yaA,cnt]
  refine yg (ι:=Unit) (fun _=>True) (fun _=>yO [(0,.c (.sl 3 [])),(1,.c (.i k)),(5,.c (.i 0)),(1000000,.c (.sl 3 []))] []) (fun _=>0) () trivial (by apply yj <;> simp) ?_
  rintro _ _
  simp -dsimp -implicitDefEqProofs
 ·rw [ycP (by simpa using hx),ycP (by rw [yH]; exact hx)]
  refine ybO ygF (by simp) (by simp) rfl fun hwf=>?_
  simp -dsimp -implicitDefEqProofs [yew]
  refine yg (ι:=Nat) (fun i=>i ≤ xs.length) (fun i=>yO [(0,.own 0 3 xs.length),(1,.c (.i (k + yaK yay xs i))),(5,.c (.i i)),(1000000,.own 0 3 xs.length)] [(0,.tr 3 0 (ycA ycQ Reach.yI yay k xs i))]) (fun i=>xs.length - i) 0 (by simp) (by apply yj <;> simp [ydh,ya0,Obj.leO]) ?_
  rintro i hi
  rcases Nat.lt_or_ge i xs.length with hlt | hge
  ·obtain ⟨e,he⟩ : ∃ e,xs[i]? = some e:=⟨_,List.getElem?_eq_getElem hlt⟩
   have hg:=yd5 (f:=ycQ) (g:=Reach.yI) (n:=yay) (k:=k) he
   have hl:=yd1 (f:=ycQ) (g:=Reach.yI) (n:=yay) (k:=k) (xs:=xs) (i:=i)
   have hs:=yd3 (f:=ycQ) (g:=Reach.yI) (n:=yay) (k:=k) he
   have hc:=ya1 (n:=yay) he
   have hle:=ybS (n:=yay) (xs:=xs) (i:=i + 1)
   have hn : yay e = 2 * e.Table.length + 1 + e.Pipe.length:=rfl
   generalize hM : ycA ycQ Reach.yI yay k xs i = M at *
   generalize hK : (k + (yaK yay xs i : Int)) = K at *
   have hlt2 : i < M.length:=by omega
   have g1 : M[i] = Reach.yI e:=(List.getElem?_eq_some_iff.1 hg).2
   have hself : ∀ a,(M.set i a)[i]? = some a:=fun a=>List.getElem?_set_self hlt2
   have hgetD : ∀ a,(M.set i a)[i]?.getD [] = a:=fun a=>by rw [hself]; rfl
   simp only [Reach.yI] at hg g1
   have hk : 0 ≤ K:=by omega
   simp -dsimp -implicitDefEqProofs [yG hlt,hg,hl,hlt2,g1,hself,setAt]
   intro hlen
   repeat (refine ⟨by first | exact hlt | (unfold inI; omega) | exact ybA (by omega),?_⟩)
   refine yb3 (k0:=3) (j:=0) (i:=(i : Int)) (r:=[.ow 2 (e.Table.map Point.enc),.i e.Volume,.ow 1 (e.Pipe.map yJ)]) (c:=.ow 2 (e.Table.map Point.enc)) (c':=.ow 2 (marked yP1 2 [] K e.Table.length)) (ytg e.Table (K) (by omega) (by omega)) (by simp) rfl rfl rfl (by first | exact hself _ | simpa using hg) rfl ⟨_,by rw [yM]; simp,rfl,rfl,rfl⟩ (by simp [C.sz]) ?_
   simp -dsimp -implicitDefEqProofs [setAt,hself,hlt2,hl]
   repeat (refine ⟨by first | exact hlt | (unfold inI; omega) | exact ybA (by omega),?_⟩)
   refine yb3 (k0:=3) (j:=2) (i:=(i : Int)) (r:=[.ow 2 (marked yP1 2 [] K e.Table.length),.i (K + 2 * (e.Table.length : Int)),.ow 1 (e.Pipe.map yJ)]) (c:=.ow 1 (e.Pipe.map yJ)) (c':=.ow 1 (marked yJ 1 [] (K + 2 * (e.Table.length : Int) + 1) e.Pipe.length)) (ycr e.Pipe (K + 2 * (e.Table.length : Int) + 1) (by omega) (by omega)) (by simp) rfl rfl rfl (by first | exact hself _ | simpa using hg) rfl ⟨_,by rw [yM]; simp,rfl,rfl,rfl⟩ (by simp [C.sz]) ?_
   simp -dsimp -implicitDefEqProofs [setAt,hself,hlt2,hl]
   repeat (refine ⟨by first | exact hlt | (unfold inI; omega) | exact ybA (by omega) | exact yw hlt hlen,?_⟩)
   refine ⟨i + 1,hlt,by omega,?_⟩
   simp only [ycQ] at hs
   apply yj <;> simp [Obj.leO,hs,hself] <;> omega
  ·have : i = xs.length:=by omega
   subst this
   simp -dsimp -implicitDefEqProofs
   intro _
   rw [yd9 (Nat.le_refl _),ybl (Nat.le_refl _),List.take_of_length_le (by rw [yH]; exact Nat.le_refl _)]
   exact ⟨rfl,rfl⟩
theorem yr8 (xs : List Reach) (k : Int) (h0 : 0 ≤ k) (h1 : k + cnt yay xs ≤ 8000000000000000000) : yB Tryz.prog 69 [.c (.sl 3 (yaA yfZ yay k xs)),.c (.i k)] (.c (.i (k + cnt yay xs))):=by
 refine yh ylQ ?_
 simp -dsimp -implicitDefEqProofs
 refine yg (ι:=Nat) (fun i=>i ≤ xs.length) (fun i=>yO [(0,.c (.sl 3 (yaA yfZ yay k xs))),(1,.c (.i (k + yaK yay xs i))),(5,.c (.i i))] []) (fun i=>xs.length - i) 0 (by simp) (by apply yj <;> simp [ya0]) ?_
 rintro i hi
 rcases Nat.lt_or_ge i xs.length with hlt | hge
 ·obtain ⟨e,he⟩ : ∃ e,xs[i]? = some e:=⟨_,List.getElem?_eq_getElem hlt⟩
  have hg:=yfH (f:=yfZ) (n:=yay) (k:=k) he
  have hc:=ya1 (n:=yay) he
  have hle:=ybS (n:=yay) (xs:=xs) (i:=i + 1)
  have hn : yay e = 2 * e.Table.length + 1 + e.Pipe.length:=rfl
  simp only [yfZ] at hg
  generalize hK : (k + (yaK yay xs i : Int)) = K at *
  have hk : 0 ≤ K:=by omega
  simp -dsimp -implicitDefEqProofs [yH,yG hlt,hg]
  intro hlen
  repeat (refine ⟨by first | exact hlt | (unfold inI; omega) | exact ybA (by omega),?_⟩)
  refine yc (ysN e.Table.length (K) (by omega) (by omega)) ?_
  have n0 : (K + 2 * (e.Table.length : Int) < 0) = False:=by simp; omega
  simp -dsimp -implicitDefEqProofs [n0,yH,yG hlt,hg]
  repeat (refine ⟨by first | exact hlt | (unfold inI; omega) | exact ybA (by omega),?_⟩)
  refine yc (yh1 e.Pipe.length (K + 2 * (e.Table.length : Int) + 1) (by omega) (by omega)) ?_
  have n2 : (K + 2 * (e.Table.length : Int) + 1 + (e.Pipe.length : Int) < 0) = False:=by simp; omega
  simp -dsimp -implicitDefEqProofs [n2,yH,yG hlt,hg]
  repeat (refine ⟨by first | exact hlt | (unfold inI; omega) | exact ybA (by omega) | exact yw hlt hlen,?_⟩)
  refine ⟨i + 1,hlt,by omega,?_⟩
  apply yj <;> simp <;> omega
 ·have : i = xs.length:=by omega
  subst this
  simp -dsimp -implicitDefEqProofs [yH]
  rw [ybl (Nat.le_refl _)]
  intro _; rfl
theorem yzG (xs : List Way) (hl : yhr xs) : ybh Tryz.prog 31 [.c (.sl 2 (xs.map Way.enc))] (.c (.ow 2 (xs.map Way.enc))):=by
 refine yan yj5 ?_
 simp -dsimp -implicitDefEqProofs
 intro hlen
 have hl1:=hl.1
 refine ⟨by omega,?_⟩
 refine yg (ι:=Nat) (fun k=>k ≤ xs.length) (fun k=>yO [(0,.c (.sl 2 (xs.map Way.enc))),(3,.own 7 2 xs.length),(4,.c (.i k))] [(7,.row 2 (partly Way.enc [.i 0,.i 0] xs k))]) (fun k=>xs.length - k) 0 (by simp) (by apply yj <;> simp [yab]) ?_
 rintro k hk
 rcases Nat.lt_or_ge k xs.length with hlt | hge
 ·obtain ⟨e,he⟩ : ∃ e,xs[k]? = some e:=⟨_,List.getElem?_eq_getElem hlt⟩
  have hs:=yaj (f:=Way.enc) (z:=[.i 0,.i 0]) he
  have hd:=yav (f:=Way.enc) (z:=[.i 0,.i 0]) (n:=2) rfl hlt
  simp only [Way.enc] at hs
  simp -dsimp -implicitDefEqProofs [he,yG hlt]
  refine fun _=>yaP (yxc e) (by simp) rfl ?_
  simp -dsimp -implicitDefEqProofs [yG hlt,yak hk,hd,hs]
  exact ⟨hlt,yw hlt hlen,k + 1,hlt,by omega,by apply yj <;> simp⟩
 ·simp -dsimp -implicitDefEqProofs [yaB hge]
  intro _
  rw [yam hge,yt]
def ydz (k : Int) : List C:=[.i k,.i (k + 1)]
theorem yvz (xs : List Way) (k : Int) (h0 : 0 ≤ k) (h1 : k + 2 * xs.length ≤ 8000000000000000000) :
 InF Tryz.prog 61 (.c (cw 2 (xs.map Way.enc))) (.c (cw 2 (marked ydz 2 [] k xs.length))) [.c (.i k)] (.c (.i (k + 2 * xs.length))):=by
 rcases Nat.eq_zero_or_pos xs.length with hx | hx
 ·have : xs = []:=List.length_eq_zero_iff.1 hx
  subst this
  refine ybO yit (by simp) (by simp) rfl fun hwf=>?_
  simp -dsimp -implicitDefEqProofs [yfx,marked]
  refine yg (ι:=Unit) (fun _=>True) (fun _=>yO [(0,.c (.sl 2 [])),(1,.c (.i k)),(5,.c (.i 0)),(1000000,.c (.sl 2 []))] []) (fun _=>0) () trivial (by apply yj <;> simp) ?_
  rintro _ _
  simp -dsimp -implicitDefEqProofs
 ·rw [yb4 (by simpa using hx),yb4 (by rw [yM]; exact hx)]
  refine ybO yit (by simp) (by simp) rfl fun hwf=>?_
  simp -dsimp -implicitDefEqProofs [yfx]
  refine yg (ι:=Nat) (fun i=>i ≤ xs.length) (fun i=>yO [(0,.own 0 2 xs.length),(1,.c (.i (k + 2 * i))),(5,.c (.i i)),(1000000,.own 0 2 xs.length)] [(0,.row 2 (marked ydz 2 (xs.map Way.enc) k i))]) (fun i=>xs.length - i) 0 (by simp) (by apply yj <;> simp [ydX]) ?_
  rintro i hi
  rcases Nat.lt_or_ge i xs.length with hlt | hge
  ·obtain ⟨e,he⟩ : ∃ e,xs[i]? = some e:=⟨_,List.getElem?_eq_getElem hlt⟩
   have hg:=yeR (mk:=ydz) (c:=2) (k:=k) (rows:=xs.map Way.enc) (i:=i) (r:=e.enc) (by simp [he])
   have hl:=yeV (mk:=ydz) (c:=2) (k:=k) (rows:=xs.map Way.enc) (i:=i) (by simpa using hi)
   have hs:=ye0 (mk:=ydz) (c:=2) (k:=k) (rows:=xs.map Way.enc) (i:=i) (by simpa using hlt)
   rw [List.length_map] at hl
   generalize marked ydz 2 (xs.map Way.enc) k i = M at *
   have hlt2 : i < M.length:=by omega
   have hself : ∀ a,(M.set i a)[i]? = some a:=fun a=>List.getElem?_set_self hlt2
   simp only [ydz] at hs
   simp only [Way.enc] at hg
   simp -dsimp -implicitDefEqProofs [yG hlt,hg,hl,hlt2,hself]
   intro hlen
   repeat (refine ⟨by first | exact hlt | (unfold inI; omega) | (have:=Int.tmod_nonneg 3 (show 0 ≤ k + 2 * (i : Int) by omega); have:=Int.tmod_lt_of_pos (k + 2 * (i : Int)) (b:=3) (by omega); unfold inI; omega),?_⟩)
   refine ⟨i + 1,hlt,by omega,?_⟩
   apply yj <;> simp [hs,hself] <;> omega
  ·have : i = xs.length:=by omega
   subst this
   simp -dsimp -implicitDefEqProofs
   intro _
   have e:=yeI (mk:=ydz) (c:=2) (rows:=xs.map Way.enc) (k:=k) (i:=xs.length) (by simp)
   rw [e,List.length_map,List.take_of_length_le (by rw [yM]; exact Nat.le_refl _)]
theorem ywa (n : Nat) (k : Int) (h0 : 0 ≤ k) (h1 : k + 2 * n ≤ 8000000000000000000) : yB Tryz.prog 70 [.c (.sl 2 (marked ydz 2 [] k n)),.c (.i k)] (.c (.i (k + 2 * n))):=by
 refine yh ynz ?_
 simp -dsimp -implicitDefEqProofs
 refine yg (ι:=Nat) (fun i=>i ≤ n) (fun i=>yO [(0,.c (.sl 2 (marked ydz 2 [] k n))),(1,.c (.i (k + 2 * i))),(5,.c (.i i))] []) (fun i=>n - i) 0 (by simp) (by apply yj <;> simp) ?_
 rintro i hi
 rcases Nat.lt_or_ge i n with hlt | hge
 ·have hg:=yfU (mk:=ydz) (c:=2) (k:=k) hlt
  simp only [ydz] at hg
  simp -dsimp -implicitDefEqProofs [yM,yG hlt,hg]
  intro hlen
  repeat (refine ⟨by first | exact hlt | (unfold inI; omega) | exact ybA (by omega),?_⟩)
  refine ⟨i + 1,hlt,by omega,?_⟩
  apply yj <;> simp <;> omega
 ·have : i = n:=by omega
  subst this
  simp -dsimp -implicitDefEqProofs [yM]
theorem yvP (xs : List Pause) (hl : yfI xs) : ybh Tryz.prog 181 [.c (.sl 2 (xs.map Pause.enc))] (.c (.ow 2 (xs.map Pause.enc))):=by
 refine yan yis ?_
 simp -dsimp -implicitDefEqProofs
 intro hlen
 have hl1:=hl.1
 refine ⟨by omega,?_⟩
 refine yg (ι:=Nat) (fun k=>k ≤ xs.length) (fun k=>yO [(0,.c (.sl 2 (xs.map Pause.enc))),(3,.own 7 2 xs.length),(4,.c (.i k))] [(7,.row 2 (partly Pause.enc [.i 0,.i 0] xs k))]) (fun k=>xs.length - k) 0 (by simp) (by apply yj <;> simp [yab]) ?_
 rintro k hk
 rcases Nat.lt_or_ge k xs.length with hlt | hge
 ·obtain ⟨e,he⟩ : ∃ e,xs[k]? = some e:=⟨_,List.getElem?_eq_getElem hlt⟩
  have hs:=yaj (f:=Pause.enc) (z:=[.i 0,.i 0]) he
  have hd:=yav (f:=Pause.enc) (z:=[.i 0,.i 0]) (n:=2) rfl hlt
  simp only [Pause.enc] at hs
  simp -dsimp -implicitDefEqProofs [he,yG hlt]
  refine fun _=>yaP (yr1 e) (by simp) rfl ?_
  simp -dsimp -implicitDefEqProofs [yG hlt,yak hk,hd,hs]
  exact ⟨hlt,yw hlt hlen,k + 1,hlt,by omega,by apply yj <;> simp⟩
 ·simp -dsimp -implicitDefEqProofs [yaB hge]
  intro _
  rw [yam hge,yt]
def ybT (k : Int) : List C:=[.i k,.i (k + 1)]
theorem ys7 (xs : List Pause) (k : Int) (h0 : 0 ≤ k) (h1 : k + 2 * xs.length ≤ 8000000000000000000) :
 InF Tryz.prog 142 (.c (cw 2 (xs.map Pause.enc))) (.c (cw 2 (marked ybT 2 [] k xs.length))) [.c (.i k)] (.c (.i (k + 2 * xs.length))):=by
 rcases Nat.eq_zero_or_pos xs.length with hx | hx
 ·have : xs = []:=List.length_eq_zero_iff.1 hx
  subst this
  refine ybO ygq (by simp) (by simp) rfl fun hwf=>?_
  simp -dsimp -implicitDefEqProofs [yez,marked]
  refine yg (ι:=Unit) (fun _=>True) (fun _=>yO [(0,.c (.sl 2 [])),(1,.c (.i k)),(5,.c (.i 0)),(1000000,.c (.sl 2 []))] []) (fun _=>0) () trivial (by apply yj <;> simp) ?_
  rintro _ _
  simp -dsimp -implicitDefEqProofs
 ·rw [yb4 (by simpa using hx),yb4 (by rw [yM]; exact hx)]
  refine ybO ygq (by simp) (by simp) rfl fun hwf=>?_
  simp -dsimp -implicitDefEqProofs [yez]
  refine yg (ι:=Nat) (fun i=>i ≤ xs.length) (fun i=>yO [(0,.own 0 2 xs.length),(1,.c (.i (k + 2 * i))),(5,.c (.i i)),(1000000,.own 0 2 xs.length)] [(0,.row 2 (marked ybT 2 (xs.map Pause.enc) k i))]) (fun i=>xs.length - i) 0 (by simp) (by apply yj <;> simp [ydX]) ?_
  rintro i hi
  rcases Nat.lt_or_ge i xs.length with hlt | hge
  ·obtain ⟨e,he⟩ : ∃ e,xs[i]? = some e:=⟨_,List.getElem?_eq_getElem hlt⟩
   have hg:=yeR (mk:=ybT) (c:=2) (k:=k) (rows:=xs.map Pause.enc) (i:=i) (r:=e.enc) (by simp [he])
   have hl:=yeV (mk:=ybT) (c:=2) (k:=k) (rows:=xs.map Pause.enc) (i:=i) (by simpa using hi)
   have hs:=ye0 (mk:=ybT) (c:=2) (k:=k) (rows:=xs.map Pause.enc) (i:=i) (by simpa using hlt)
   rw [List.length_map] at hl
   generalize marked ybT 2 (xs.map Pause.enc) k i = M at *
   have hlt2 : i < M.length:=by omega
   have hself : ∀ a,(M.set i a)[i]? = some a:=fun a=>List.getElem?_set_self hlt2
   simp only [ybT] at hs
   simp only [Pause.enc] at hg
   simp -dsimp -implicitDefEqProofs [yG hlt,hg,hl,hlt2,hself]
   intro hlen
   repeat (refine ⟨by first | exact hlt | (unfold inI; omega) | (have:=Int.tmod_nonneg 3 (show 0 ≤ k + 2 * (i : Int) by omega); have:=Int.tmod_lt_of_pos (k + 2 * (i : Int)) (b:=3) (by omega); unfold inI; omega),?_⟩)
   refine ⟨i + 1,hlt,by omega,?_⟩
   apply yj <;> simp [hs,hself] <;> omega
  ·have : i = xs.length:=by omega
   subst this
   simp -dsimp -implicitDefEqProofs
   intro _
   have e:=yeI (mk:=ybT) (c:=2) (rows:=xs.map Pause.enc) (k:=k) (i:=xs.length) (by simp)
   rw [e,List.length_map,List.take_of_length_le (by rw [yM]; exact Nat.le_refl _)]
theorem ysU (n : Nat) (k : Int) (h0 : 0 ≤ k) (h1 : k + 2 * n ≤ 8000000000000000000) : yB Tryz.prog 147 [.c (.sl 2 (marked ybT 2 [] k n)),.c (.i k)] (.c (.i (k + 2 * n))):=by
 refine yh ylz ?_
 simp -dsimp -implicitDefEqProofs
 refine yg (ι:=Nat) (fun i=>i ≤ n) (fun i=>yO [(0,.c (.sl 2 (marked ybT 2 [] k n))),(1,.c (.i (k + 2 * i))),(5,.c (.i i))] []) (fun i=>n - i) 0 (by simp) (by apply yj <;> simp) ?_
 rintro i hi
 rcases Nat.lt_or_ge i n with hlt | hge
 ·have hg:=yfU (mk:=ybT) (c:=2) (k:=k) hlt
  simp only [ybT] at hg
  simp -dsimp -implicitDefEqProofs [yM,yG hlt,hg]
  intro hlen
  repeat (refine ⟨by first | exact hlt | (unfold inI; omega) | exact ybA (by omega),?_⟩)
  refine ⟨i + 1,hlt,by omega,?_⟩
  apply yj <;> simp <;> omega
 ·have : i = n:=by omega
  subst this
  simp -dsimp -implicitDefEqProofs [yM]
theorem ypF (xs : List Train) (hl : ybV xs) : ybh Tryz.prog 34 [.c (.sl 2 (xs.map Train.enc))] (.c (.ot 2 (xs.map Train.yI))):=by
 refine yan yij ?_
 simp -dsimp -implicitDefEqProofs
 intro hlen
 have hl1:=hl.1
 refine ⟨by omega,?_⟩
 refine yg (ι:=Nat) (fun k=>k ≤ xs.length) (fun k=>yO [(0,.c (.sl 2 (xs.map Train.enc))),(3,.own 7 2 xs.length),(4,.c (.i k))] [(7,.tr 2 0 (partly Train.yI [.b false,.sl 1 []] xs k))]) (fun k=>xs.length - k) 0 (by simp) (by apply yj <;> simp [yab,Obj.leO]) ?_
 rintro k hk
 rcases Nat.lt_or_ge k xs.length with hlt | hge
 ·obtain ⟨e,he⟩ : ∃ e,xs[k]? = some e:=⟨_,List.getElem?_eq_getElem hlt⟩
  have hs:=yaj (f:=Train.yI) (z:=[.b false,.sl 1 []]) he
  have hd:=yav (f:=Train.yI) (z:=[.b false,.sl 1 []]) (n:=2) rfl hlt
  simp only [Train.yI] at hs
  simp -dsimp -implicitDefEqProofs [he,yG hlt]
  intro _
  refine yQ (yjE e (hl.2 e (List.mem_of_getElem? he))) (by simp) (yb5 (Train.yad _)) (by simp [yU]) ?_
  simp -dsimp -implicitDefEqProofs [yG hlt,yak hk,yt,hd,hs]
  exact ⟨hlt,yw hlt hlen,k + 1,hlt,by omega,by apply yj <;> simp [Obj.leO]⟩
 ·simp -dsimp -implicitDefEqProofs [yaB hge]
  intro _
  rw [yam hge,yt]
def yE (e : Train) : Nat:=1 + cnt nB e.Rows
def ybN (k : Int) (e : Train) : List C:=[.b (decide (k.tmod 3 = 0)),.ot 1 (yaA fB nB (k + 1) e.Rows)]
def yfm (k : Int) (e : Train) : List C:=[.b (decide (k.tmod 3 = 0)),.sl 1 (yaA fBs nB (k + 1) e.Rows)]
theorem yh9 (k : Int) (e : Train) : ybQ (ybN k e) = some (yfm k e):=by simp [ybN,yfm,ybQ,C.shr,yba ysu]
theorem ylT (xs : List Train) (k : Int) (h0 : 0 ≤ k) (h1 : k + cnt yE xs ≤ 8000000000000000000) :
 InF Tryz.prog 64 (.c (ct 2 (xs.map Train.yI))) (.c (ct 2 (yaA ybN yE k xs))) [.c (.i k)] (.c (.i (k + cnt yE xs))):=by
 rcases Nat.eq_zero_or_pos xs.length with hx | hx
 ·have : xs = []:=List.length_eq_zero_iff.1 hx
  subst this
  refine ybO ygI (by simp) (by simp) rfl fun hwf=>?_
  simp -dsimp -implicitDefEqProofs [yei,yaA,cnt]
  refine yg (ι:=Unit) (fun _=>True) (fun _=>yO [(0,.c (.sl 2 [])),(1,.c (.i k)),(5,.c (.i 0)),(1000000,.c (.sl 2 []))] []) (fun _=>0) () trivial (by apply yj <;> simp) ?_
  rintro _ _
  simp -dsimp -implicitDefEqProofs
 ·rw [ycP (by simpa using hx),ycP (by rw [yH]; exact hx)]
  refine ybO ygI (by simp) (by simp) rfl fun hwf=>?_
  simp -dsimp -implicitDefEqProofs [yei]
  refine yg (ι:=Nat) (fun i=>i ≤ xs.length) (fun i=>yO [(0,.own 0 2 xs.length),(1,.c (.i (k + yaK yE xs i))),(5,.c (.i i)),(1000000,.own 0 2 xs.length)] [(0,.tr 2 0 (ycA ybN Train.yI yE k xs i))]) (fun i=>xs.length - i) 0 (by simp) (by apply yj <;> simp [ydh,ya0,Obj.leO]) ?_
  rintro i hi
  rcases Nat.lt_or_ge i xs.length with hlt | hge
  ·obtain ⟨e,he⟩ : ∃ e,xs[i]? = some e:=⟨_,List.getElem?_eq_getElem hlt⟩
   have hg:=yd5 (f:=ybN) (g:=Train.yI) (n:=yE) (k:=k) he
   have hl:=yd1 (f:=ybN) (g:=Train.yI) (n:=yE) (k:=k) (xs:=xs) (i:=i)
   have hs:=yd3 (f:=ybN) (g:=Train.yI) (n:=yE) (k:=k) he
   have hc:=ya1 (n:=yE) he
   have hle:=ybS (n:=yE) (xs:=xs) (i:=i + 1)
   have hn : yE e = 1 + cnt nB e.Rows:=rfl
   generalize hM : ycA ybN Train.yI yE k xs i = M at *
   generalize hK : (k + (yaK yE xs i : Int)) = K at *
   have hlt2 : i < M.length:=by omega
   have g1 : M[i] = Train.yI e:=(List.getElem?_eq_some_iff.1 hg).2
   have hself : ∀ a,(M.set i a)[i]? = some a:=fun a=>List.getElem?_set_self hlt2
   have hgetD : ∀ a,(M.set i a)[i]?.getD [] = a:=fun a=>by rw [hself]; rfl
   simp only [Train.yI] at hg g1
   have hk : 0 ≤ K:=by omega
   simp -dsimp -implicitDefEqProofs [yG hlt,hg,hl,hlt2,g1,hself,setAt]
   intro hlen
   repeat (refine ⟨by first | exact hlt | (unfold inI; omega) | exact ybA (by omega),?_⟩)
   refine yb3 (k0:=2) (j:=1) (i:=(i : Int)) (r:=[.b (decide (K.tmod 3 = 0)),.ot 1 (e.Rows.map yT)]) (c:=.ot 1 (e.Rows.map yT)) (c':=.ot 1 (yaA fB nB (K + 1) e.Rows)) (yfJ e.Rows (K + 1) (by omega) (by omega)) (by simp) rfl rfl rfl (by first | exact hself _ | simpa using hg) rfl ⟨_,by rw [yH]; simp,rfl,rfl,rfl⟩ (by simp [C.sz]) ?_
   simp -dsimp -implicitDefEqProofs [setAt,hself,hlt2,hl]
   repeat (refine ⟨by first | exact hlt | (unfold inI; omega) | exact ybA (by omega) | exact yw hlt hlen,?_⟩)
   refine ⟨i + 1,hlt,by omega,?_⟩
   simp only [ybN] at hs
   apply yj <;> simp [Obj.leO,hs,hself] <;> omega
  ·have : i = xs.length:=by omega
   subst this
   simp -dsimp -implicitDefEqProofs
   intro _
   rw [yd9 (Nat.le_refl _),ybl (Nat.le_refl _),List.take_of_length_le (by rw [yH]; exact Nat.le_refl _)]
   exact ⟨rfl,rfl⟩
theorem ylK (xs : List Train) (k : Int) (h0 : 0 ≤ k) (h1 : k + cnt yE xs ≤ 8000000000000000000) : yB Tryz.prog 73 [.c (.sl 2 (yaA yfm yE k xs)),.c (.i k)] (.c (.i (k + cnt yE xs))):=by
 refine yh ylS ?_
 simp -dsimp -implicitDefEqProofs
 refine yg (ι:=Nat) (fun i=>i ≤ xs.length) (fun i=>yO [(0,.c (.sl 2 (yaA yfm yE k xs))),(1,.c (.i (k + yaK yE xs i))),(5,.c (.i i))] []) (fun i=>xs.length - i) 0 (by simp) (by apply yj <;> simp [ya0]) ?_
 rintro i hi
 rcases Nat.lt_or_ge i xs.length with hlt | hge
 ·obtain ⟨e,he⟩ : ∃ e,xs[i]? = some e:=⟨_,List.getElem?_eq_getElem hlt⟩
  have hg:=yfH (f:=yfm) (n:=yE) (k:=k) he
  have hc:=ya1 (n:=yE) he
  have hle:=ybS (n:=yE) (xs:=xs) (i:=i + 1)
  have hn : yE e = 1 + cnt nB e.Rows:=rfl
  simp only [yfm] at hg
  generalize hK : (k + (yaK yE xs i : Int)) = K at *
  have hk : 0 ≤ K:=by omega
  simp -dsimp -implicitDefEqProofs [yH,yG hlt,hg]
  intro hlen
  repeat (refine ⟨by first | exact hlt | (unfold inI; omega) | exact ybA (by omega),?_⟩)
  refine yc (yfS e.Rows (K + 1) (by omega) (by omega)) ?_
  have n1 : (K + 1 + (cnt nB e.Rows : Int) < 0) = False:=by simp; omega
  simp -dsimp -implicitDefEqProofs [n1,yH,yG hlt,hg]
  repeat (refine ⟨by first | exact hlt | (unfold inI; omega) | exact ybA (by omega) | exact yw hlt hlen,?_⟩)
  refine ⟨i + 1,hlt,by omega,?_⟩
  apply yj <;> simp <;> omega
 ·have : i = xs.length:=by omega
  subst this
  simp -dsimp -implicitDefEqProofs [yH]
  rw [ybl (Nat.le_refl _)]
  intro _; rfl
@[simp] def CallT.yI (e : CallT) : List C:=[.b e.Train.Up,.ot 1 (e.Train.Rows.map yT),.i e.Since,.i e.Booked]
theorem CallT.yaa (e : CallT) : ybQ e.yI = some e.enc:=by simp [CallT.yI,ybQ,ydl yeg]
theorem CallT.yad (e : CallT) : ∀ c ∈ e.yI,c.closed:=by
 simp only [CallT.yI,List.mem_cons,List.not_mem_nil,or_false,forall_eq_or_imp,forall_eq]
 exact ⟨by simp [C.closed],ybn ygL _ _,by simp [C.closed],by simp [C.closed]⟩
theorem yyP (e : CallT) (hl : CallT.small e) : ybh Tryz.prog 262 [.agg (e.enc.map .c)] (.agg (e.yI.map .c)):=by
 refine yan yjU ?_
 simp -dsimp -implicitDefEqProofs
 refine yQ (yjE e.Train hl) (by simp) (yb5 (Train.yad _)) (by simp [yU]) ?_
 simp -dsimp -implicitDefEqProofs [yt]
theorem yyc (xs : List CallT) (hl : yfi xs) : ybh Tryz.prog 183 [.c (.sl 4 (xs.map CallT.enc))] (.c (.ot 4 (xs.map CallT.yI))):=by
 refine yan yiL ?_
 simp -dsimp -implicitDefEqProofs
 intro hlen
 have hl1:=hl.1
 refine ⟨by omega,?_⟩
 refine yg (ι:=Nat) (fun k=>k ≤ xs.length) (fun k=>yO [(0,.c (.sl 4 (xs.map CallT.enc))),(3,.own 7 4 xs.length),(4,.c (.i k))] [(7,.tr 4 0 (partly CallT.yI [.b false,.sl 1 [],.i 0,.i 0] xs k))]) (fun k=>xs.length - k) 0 (by simp) (by apply yj <;> simp [yab,Obj.leO]) ?_
 rintro k hk
 rcases Nat.lt_or_ge k xs.length with hlt | hge
 ·obtain ⟨e,he⟩ : ∃ e,xs[k]? = some e:=⟨_,List.getElem?_eq_getElem hlt⟩
  have hs:=yaj (f:=CallT.yI) (z:=[.b false,.sl 1 [],.i 0,.i 0]) he
  have hd:=yav (f:=CallT.yI) (z:=[.b false,.sl 1 [],.i 0,.i 0]) (n:=4) rfl hlt
  simp only [CallT.yI] at hs
  simp -dsimp -implicitDefEqProofs [he,yG hlt]
  intro _
  refine yQ (yyP e (hl.2 e (List.mem_of_getElem? he))) (by simp) (yb5 (CallT.yad _)) (by simp [yU]) ?_
  simp -dsimp -implicitDefEqProofs [yG hlt,yak hk,yt,hd,hs]
  exact ⟨hlt,yw hlt hlen,k + 1,hlt,by omega,by apply yj <;> simp [Obj.leO]⟩
 ·simp -dsimp -implicitDefEqProofs [yaB hge]
  intro _
  rw [yam hge,yt]
def yaI (e : CallT) : Nat:=1 + cnt nB e.Train.Rows + 1 + 1
def yeu (k : Int) (e : CallT) : List C:=[.b (decide (k.tmod 3 = 0)),.ot 1 (yaA fB nB (k + 1) e.Train.Rows),.i (k + 1 + (cnt nB e.Train.Rows : Int)),.i (k + 1 + (cnt nB e.Train.Rows : Int) + 1)]
def yie (k : Int) (e : CallT) : List C:=[.b (decide (k.tmod 3 = 0)),.sl 1 (yaA fBs nB (k + 1) e.Train.Rows),.i (k + 1 + (cnt nB e.Train.Rows : Int)),.i (k + 1 + (cnt nB e.Train.Rows : Int) + 1)]
theorem yiY (k : Int) (e : CallT) : ybQ (yeu k e) = some (yie k e):=by simp [yeu,yie,ybQ,C.shr,yba ysu]
theorem yve (xs : List CallT) (k : Int) (h0 : 0 ≤ k) (h1 : k + cnt yaI xs ≤ 8000000000000000000) :
 InF Tryz.prog 143 (.c (ct 4 (xs.map CallT.yI))) (.c (ct 4 (yaA yeu yaI k xs))) [.c (.i k)] (.c (.i (k + cnt yaI xs))):=by
 rcases Nat.eq_zero_or_pos xs.length with hx | hx
 ·have : xs = []:=List.length_eq_zero_iff.1 hx
  subst this
  refine ybO yhe (by simp) (by simp) rfl fun hwf=>?_
  simp -dsimp -implicitDefEqProofs [yeP,yaA,cnt]
  refine yg (ι:=Unit) (fun _=>True) (fun _=>yO [(0,.c (.sl 4 [])),(1,.c (.i k)),(5,.c (.i 0)),(1000000,.c (.sl 4 []))] []) (fun _=>0) () trivial (by apply yj <;> simp) ?_
  rintro _ _
  simp -dsimp -implicitDefEqProofs
 ·rw [ycP (by simpa using hx),ycP (by rw [yH]; exact hx)]
  refine ybO yhe (by simp) (by simp) rfl fun hwf=>?_
  simp -dsimp -implicitDefEqProofs [yeP]
  refine yg (ι:=Nat) (fun i=>i ≤ xs.length) (fun i=>yO [(0,.own 0 4 xs.length),(1,.c (.i (k + yaK yaI xs i))),(5,.c (.i i)),(1000000,.own 0 4 xs.length)] [(0,.tr 4 0 (ycA yeu CallT.yI yaI k xs i))]) (fun i=>xs.length - i) 0 (by simp) (by apply yj <;> simp [ydh,ya0,Obj.leO]) ?_
  rintro i hi
  rcases Nat.lt_or_ge i xs.length with hlt | hge
  ·obtain ⟨e,he⟩ : ∃ e,xs[i]? = some e:=⟨_,List.getElem?_eq_getElem hlt⟩
   have hg:=yd5 (f:=yeu) (g:=CallT.yI) (n:=yaI) (k:=k) he
   have hl:=yd1 (f:=yeu) (g:=CallT.yI) (n:=yaI) (k:=k) (xs:=xs) (i:=i)
   have hs:=yd3 (f:=yeu) (g:=CallT.yI) (n:=yaI) (k:=k) he
   have hc:=ya1 (n:=yaI) he
   have hle:=ybS (n:=yaI) (xs:=xs) (i:=i + 1)
   have hn : yaI e = 1 + cnt nB e.Train.Rows + 1 + 1:=rfl
   generalize hM : ycA yeu CallT.yI yaI k xs i = M at *
   generalize hK : (k + (yaK yaI xs i : Int)) = K at *
   have hlt2 : i < M.length:=by omega
   have g1 : M[i] = CallT.yI e:=(List.getElem?_eq_some_iff.1 hg).2
   have hself : ∀ a,(M.set i a)[i]? = some a:=fun a=>List.getElem?_set_self hlt2
   have hgetD : ∀ a,(M.set i a)[i]?.getD [] = a:=fun a=>by rw [hself]; rfl
   simp only [CallT.yI] at hg g1
   have hk : 0 ≤ K:=by omega
   simp -dsimp -implicitDefEqProofs [yG hlt,hg,hl,hlt2,g1,hself,setAt]
   intro hlen
   repeat (refine ⟨by first | exact hlt | (unfold inI; omega) | exact ybA (by omega),?_⟩)
   refine yb3 (k0:=4) (j:=1) (i:=(i : Int)) (r:=[.b (decide (K.tmod 3 = 0)),.ot 1 (e.Train.Rows.map yT),.i e.Since,.i e.Booked]) (c:=.ot 1 (e.Train.Rows.map yT)) (c':=.ot 1 (yaA fB nB (K + 1) e.Train.Rows)) (yfJ e.Train.Rows (K + 1) (by omega) (by omega)) (by simp) rfl rfl rfl (by first | exact hself _ | simpa using hg) rfl ⟨_,by rw [yH]; simp,rfl,rfl,rfl⟩ (by simp [C.sz]) ?_
   simp -dsimp -implicitDefEqProofs [setAt,hself,hlt2,hl]
   repeat (refine ⟨by first | exact hlt | (unfold inI; omega) | exact ybA (by omega) | exact yw hlt hlen,?_⟩)
   refine ⟨i + 1,hlt,by omega,?_⟩
   simp only [yeu] at hs
   apply yj <;> simp [Obj.leO,hs,hself] <;> omega
  ·have : i = xs.length:=by omega
   subst this
   simp -dsimp -implicitDefEqProofs
   intro _
   rw [yd9 (Nat.le_refl _),ybl (Nat.le_refl _),List.take_of_length_le (by rw [yH]; exact Nat.le_refl _)]
   exact ⟨rfl,rfl⟩
theorem yuE (xs : List CallT) (k : Int) (h0 : 0 ≤ k) (h1 : k + cnt yaI xs ≤ 8000000000000000000) : yB Tryz.prog 148 [.c (.sl 4 (yaA yie yaI k xs)),.c (.i k)] (.c (.i (k + cnt yaI xs))):=by
 refine yh ymg ?_
 simp -dsimp -implicitDefEqProofs
 refine yg (ι:=Nat) (fun i=>i ≤ xs.length) (fun i=>yO [(0,.c (.sl 4 (yaA yie yaI k xs))),(1,.c (.i (k + yaK yaI xs i))),(5,.c (.i i))] []) (fun i=>xs.length - i) 0 (by simp) (by apply yj <;> simp [ya0]) ?_
 rintro i hi
 rcases Nat.lt_or_ge i xs.length with hlt | hge
 ·obtain ⟨e,he⟩ : ∃ e,xs[i]? = some e:=⟨_,List.getElem?_eq_getElem hlt⟩
  have hg:=yfH (f:=yie) (n:=yaI) (k:=k) he
  have hc:=ya1 (n:=yaI) he
  have hle:=ybS (n:=yaI) (xs:=xs) (i:=i + 1)
  have hn : yaI e = 1 + cnt nB e.Train.Rows + 1 + 1:=rfl
  simp only [yie] at hg
  generalize hK : (k + (yaK yaI xs i : Int)) = K at *
  have hk : 0 ≤ K:=by omega
  simp -dsimp -implicitDefEqProofs [yH,yG hlt,hg]
  intro hlen
  repeat (refine ⟨by first | exact hlt | (unfold inI; omega) | exact ybA (by omega),?_⟩)
  refine yc (yfS e.Train.Rows (K + 1) (by omega) (by omega)) ?_
  have n1 : (K + 1 + (cnt nB e.Train.Rows : Int) < 0) = False:=by simp; omega
  simp -dsimp -implicitDefEqProofs [n1,yH,yG hlt,hg]
  repeat (refine ⟨by first | exact hlt | (unfold inI; omega) | exact ybA (by omega) | exact yw hlt hlen,?_⟩)
  refine ⟨i + 1,hlt,by omega,?_⟩
  apply yj <;> simp <;> omega
 ·have : i = xs.length:=by omega
  subst this
  simp -dsimp -implicitDefEqProofs [yH]
  rw [ybl (Nat.le_refl _)]
  intro _; rfl
@[simp] def Lock.yI (e : Lock) : List C:=[.i e.Length,.i e.Width,.i e.SillAbove,.i e.SillBelow,.i e.Base,.i e.Area,.i e.Rate,.i e.Water,.i e.Gate,.ot 2 (e.Inside.map Train.yI)]
theorem Lock.yaa (e : Lock) : ybQ e.yI = some e.enc:=by simp [Lock.yI,ybQ,ydl Train.yaa]
theorem Lock.yad (e : Lock) : ∀ c ∈ e.yI,c.closed:=by
 simp only [Lock.yI,List.mem_cons,List.not_mem_nil,or_false,forall_eq_or_imp,forall_eq]
 exact ⟨by simp [C.closed],by simp [C.closed],by simp [C.closed],by simp [C.closed],by simp [C.closed],by simp [C.closed],by simp [C.closed],by simp [C.closed],by simp [C.closed],ybn Train.yad _ _⟩
set_option maxRecDepth 20000 in
theorem yzM (e : Lock) (hl : Lock.small e) : ybh Tryz.prog 178 [.agg (e.enc.map .c)] (.agg (e.yI.map .c)):=by
 refine yan ykg ?_
 simp -dsimp -implicitDefEqProofs
 refine yQ (ypF e.Inside hl) (by simp) (ybn Train.yad _ _) (by simp [yU]) ?_
 simp -dsimp -implicitDefEqProofs [yt]
@[simp] def Work.yI (e : Work) : List C:=[.i e.Lock.Length,.i e.Lock.Width,.i e.Lock.SillAbove,.i e.Lock.SillBelow,.i e.Lock.Base,.i e.Lock.Area,.i e.Lock.Rate,.i e.Lock.Water,.i e.Lock.Gate,.ot 2 (e.Lock.Inside.map Train.yI),.i e.Weir.Gates,.i e.Weir.Open,.i e.Weir.Step,.i e.Weir.Crest,.i e.Weir.Width,.i e.Rule.Low,.i e.Rule.High,.i e.Rule.Flood,.ow 2 (e.Pauses.map Pause.enc),.b e.Turn.Up,.i e.Turn.Count,.ot 4 (e.Calls.map CallT.yI)]
theorem Work.yaa (e : Work) : ybQ e.yI = some e.enc:=by simp [Work.yI,ybQ,ydl Train.yaa,ydl CallT.yaa]
theorem Work.yad (e : Work) : ∀ c ∈ e.yI,c.closed:=by
 simp only [Work.yI,List.mem_cons,List.not_mem_nil,or_false,forall_eq_or_imp,forall_eq]
 exact ⟨by simp [C.closed],by simp [C.closed],by simp [C.closed],by simp [C.closed],by simp [C.closed],by simp [C.closed],by simp [C.closed],by simp [C.closed],by simp [C.closed],ybn Train.yad _ _,by simp [C.closed],by simp [C.closed],by simp [C.closed],by simp [C.closed],by simp [C.closed],by simp [C.closed],by simp [C.closed],by simp [C.closed],by simp [C.closed],by simp [C.closed],by simp [C.closed],ybn CallT.yad _ _⟩
set_option maxRecDepth 20000 in
theorem yAJ (e : Work) (hl : Work.small e) : ybh Tryz.prog 95 [.agg (e.enc.map .c)] (.agg (e.yI.map .c)):=by
 refine yan yka ?_
 simp -dsimp -implicitDefEqProofs
 refine yQ (yzM e.Lock hl.1) (by simp) (yb5 (Lock.yad _)) (by simp [yU]) ?_
 simp -dsimp -implicitDefEqProofs [yt]
 refine yc (yuN e.Weir) ?_
 simp -dsimp -implicitDefEqProofs
 refine yc (yvb e.Rule) ?_
 simp -dsimp -implicitDefEqProofs
 refine yQ (yvP e.Pauses hl.2.1) (by simp) (by simp [AV.closed,AV.ya7,C.closed]) (by simp [yU]) ?_
 simp -dsimp -implicitDefEqProofs [yt]
 refine yc (ytT e.Turn) ?_
 simp -dsimp -implicitDefEqProofs
 refine yQ (yyc e.Calls hl.2.2) (by simp) (ybn CallT.yad _ _) (by simp [yU]) ?_
 simp -dsimp -implicitDefEqProofs [yt]
set_option maxRecDepth 20000 in
theorem yyw (xs : List Work) (hl : yc8 xs) : ybh Tryz.prog 32 [.c (.sl 22 (xs.map Work.enc))] (.c (.ot 22 (xs.map Work.yI))):=by
 refine yan yjm ?_
 simp -dsimp -implicitDefEqProofs
 intro hlen
 have hl1:=hl.1
 refine ⟨by omega,?_⟩
 refine yg (ι:=Nat) (fun k=>k ≤ xs.length) (fun k=>yO [(0,.c (.sl 22 (xs.map Work.enc))),(3,.own 7 22 xs.length),(4,.c (.i k))] [(7,.tr 22 0 (partly Work.yI [.i 0,.i 0,.i 0,.i 0,.i 0,.i 0,.i 0,.i 0,.i 0,.sl 2 [],.i 0,.i 0,.i 0,.i 0,.i 0,.i 0,.i 0,.i 0,.sl 2 [],.b false,.i 0,.sl 4 []] xs k))]) (fun k=>xs.length - k) 0 (by simp) (by apply yj <;> simp [yab,Obj.leO]) ?_
 rintro k hk
 rcases Nat.lt_or_ge k xs.length with hlt | hge
 ·obtain ⟨e,he⟩ : ∃ e,xs[k]? = some e:=⟨_,List.getElem?_eq_getElem hlt⟩
  have hs:=yaj (f:=Work.yI) (z:=[.i 0,.i 0,.i 0,.i 0,.i 0,.i 0,.i 0,.i 0,.i 0,.sl 2 [],.i 0,.i 0,.i 0,.i 0,.i 0,.i 0,.i 0,.i 0,.sl 2 [],.b false,.i 0,.sl 4 []]) he
  have hd:=yav (f:=Work.yI) (z:=[.i 0,.i 0,.i 0,.i 0,.i 0,.i 0,.i 0,.i 0,.i 0,.sl 2 [],.i 0,.i 0,.i 0,.i 0,.i 0,.i 0,.i 0,.i 0,.sl 2 [],.b false,.i 0,.sl 4 []]) (n:=22) rfl hlt
  simp only [Work.yI] at hs
  simp -dsimp -implicitDefEqProofs [he,yG hlt]
  intro _
  refine yQ (yAJ e (hl.2 e (List.mem_of_getElem? he))) (by simp) (yb5 (Work.yad _)) (by simp [yU]) ?_
  simp -dsimp -implicitDefEqProofs [yG hlt,yak hk,yt,hd,hs]
  exact ⟨hlt,yw hlt hlen,k + 1,hlt,by omega,by apply yj <;> simp [Obj.leO]⟩
 ·simp -dsimp -implicitDefEqProofs [yaB hge]
  intro _
  rw [yam hge,yt]
def yaJ (e : Work) : Nat:=1 + 1 + 1 + 1 + 1 + 1 + 1 + 1 + 1 + cnt yE e.Lock.Inside + 1 + 1 + 1 + 1 + 1 + 1 + 1 + 1 + 2 * e.Pauses.length + 1 + 1 + cnt yaI e.Calls
def ydH (k : Int) (e : Work) : List C:=[.i k,.i (k + 1),.i (k + 1 + 1),.i (k + 1 + 1 + 1),.i (k + 1 + 1 + 1 + 1),.i (k + 1 + 1 + 1 + 1 + 1),.i (k + 1 + 1 + 1 + 1 + 1 + 1),.i (k + 1 + 1 + 1 + 1 + 1 + 1 + 1),.i (k + 1 + 1 + 1 + 1 + 1 + 1 + 1 + 1),.ot 2 (yaA ybN yE (k + 1 + 1 + 1 + 1 + 1 + 1 + 1 + 1 + 1) e.Lock.Inside),.i (k + 1 + 1 + 1 + 1 + 1 + 1 + 1 + 1 + 1 + (cnt yE e.Lock.Inside : Int)),.i (k + 1 + 1 + 1 + 1 + 1 + 1 + 1 + 1 + 1 + (cnt yE e.Lock.Inside : Int) + 1),.i (k + 1 + 1 + 1 + 1 + 1 + 1 + 1 + 1 + 1 + (cnt yE e.Lock.Inside : Int) + 1 + 1),.i (k + 1 + 1 + 1 + 1 + 1 + 1 + 1 + 1 + 1 + (cnt yE e.Lock.Inside : Int) + 1 + 1 + 1),.i (k + 1 + 1 + 1 + 1 + 1 + 1 + 1 + 1 + 1 + (cnt yE e.Lock.Inside : Int) + 1 + 1 + 1 + 1),.i (k + 1 + 1 + 1 + 1 + 1 + 1 + 1 + 1 + 1 + (cnt yE e.Lock.Inside : Int) + 1 + 1 + 1 + 1 + 1),.i (k + 1 + 1 + 1 + 1 + 1 + 1 + 1 + 1 + 1 + (cnt yE e.Lock.Inside : Int) + 1 + 1 + 1 + 1 + 1 + 1),.i (k + 1 + 1 + 1 + 1 + 1 + 1 + 1 + 1 + 1 + (cnt yE e.Lock.Inside : Int) + 1 + 1 + 1 + 1 + 1 + 1 + 1),.ow 2 (marked ybT 2 [] (k + 1 + 1 + 1 + 1 + 1 + 1 + 1 + 1 + 1 + (cnt yE e.Lock.Inside : Int) + 1 + 1 + 1 + 1 + 1 + 1 + 1 + 1) e.Pauses.length),.b (decide ((k + 1 + 1 + 1 + 1 + 1 + 1 + 1 + 1 + 1 + (cnt yE e.Lock.Inside : Int) + 1 + 1 + 1 + 1 + 1 + 1 + 1 + 1 + 2 * (e.Pauses.length : Int)).tmod 3 = 0)),.i (k + 1 + 1 + 1 + 1 + 1 + 1 + 1 + 1 + 1 + (cnt yE e.Lock.Inside : Int) + 1 + 1 + 1 + 1 + 1 + 1 + 1 + 1 + 2 * (e.Pauses.length : Int) + 1),.ot 4 (yaA yeu yaI (k + 1 + 1 + 1 + 1 + 1 + 1 + 1 + 1 + 1 + (cnt yE e.Lock.Inside : Int) + 1 + 1 + 1 + 1 + 1 + 1 + 1 + 1 + 2 * (e.Pauses.length : Int) + 1 + 1) e.Calls)]
def yhn (k : Int) (e : Work) : List C:=[.i k,.i (k + 1),.i (k + 1 + 1),.i (k + 1 + 1 + 1),.i (k + 1 + 1 + 1 + 1),.i (k + 1 + 1 + 1 + 1 + 1),.i (k + 1 + 1 + 1 + 1 + 1 + 1),.i (k + 1 + 1 + 1 + 1 + 1 + 1 + 1),.i (k + 1 + 1 + 1 + 1 + 1 + 1 + 1 + 1),.sl 2 (yaA yfm yE (k + 1 + 1 + 1 + 1 + 1 + 1 + 1 + 1 + 1) e.Lock.Inside),.i (k + 1 + 1 + 1 + 1 + 1 + 1 + 1 + 1 + 1 + (cnt yE e.Lock.Inside : Int)),.i (k + 1 + 1 + 1 + 1 + 1 + 1 + 1 + 1 + 1 + (cnt yE e.Lock.Inside : Int) + 1),.i (k + 1 + 1 + 1 + 1 + 1 + 1 + 1 + 1 + 1 + (cnt yE e.Lock.Inside : Int) + 1 + 1),.i (k + 1 + 1 + 1 + 1 + 1 + 1 + 1 + 1 + 1 + (cnt yE e.Lock.Inside : Int) + 1 + 1 + 1),.i (k + 1 + 1 + 1 + 1 + 1 + 1 + 1 + 1 + 1 + (cnt yE e.Lock.Inside : Int) + 1 + 1 + 1 + 1),.i (k + 1 + 1 + 1 + 1 + 1 + 1 + 1 + 1 + 1 + (cnt yE e.Lock.Inside : Int) + 1 + 1 + 1 + 1 + 1),.i (k + 1 + 1 + 1 + 1 + 1 + 1 + 1 + 1 + 1 + (cnt yE e.Lock.Inside : Int) + 1 + 1 + 1 + 1 + 1 + 1),.i (k + 1 + 1 + 1 + 1 + 1 + 1 + 1 + 1 + 1 + (cnt yE e.Lock.Inside : Int) + 1 + 1 + 1 + 1 + 1 + 1 + 1),.sl 2 (marked ybT 2 [] (k + 1 + 1 + 1 + 1 + 1 + 1 + 1 + 1 + 1 + (cnt yE e.Lock.Inside : Int) + 1 + 1 + 1 + 1 + 1 + 1 + 1 + 1) e.Pauses.length),.b (decide ((k + 1 + 1 + 1 + 1 + 1 + 1 + 1 + 1 + 1 + (cnt yE e.Lock.Inside : Int) + 1 + 1 + 1 + 1 + 1 + 1 + 1 + 1 + 2 * (e.Pauses.length : Int)).tmod 3 = 0)),.i (k + 1 + 1 + 1 + 1 + 1 + 1 + 1 + 1 + 1 + (cnt yE e.Lock.Inside : Int) + 1 + 1 + 1 + 1 + 1 + 1 + 1 + 1 + 2 * (e.Pauses.length : Int) + 1),.sl 4 (yaA yie yaI (k + 1 + 1 + 1 + 1 + 1 + 1 + 1 + 1 + 1 + (cnt yE e.Lock.Inside : Int) + 1 + 1 + 1 + 1 + 1 + 1 + 1 + 1 + 2 * (e.Pauses.length : Int) + 1 + 1) e.Calls)]
theorem ymN (k : Int) (e : Work) : ybQ (ydH k e) = some (yhn k e):=by simp [ydH,yhn,ybQ,C.shr,yba yiY,yba yh9]
set_option maxRecDepth 20000 in
theorem yvp (xs : List Work) (k : Int) (h0 : 0 ≤ k) (h1 : k + cnt yaJ xs ≤ 8000000000000000000) :
 InF Tryz.prog 62 (.c (ct 22 (xs.map Work.yI))) (.c (ct 22 (yaA ydH yaJ k xs))) [.c (.i k)] (.c (.i (k + cnt yaJ xs))):=by
 rcases Nat.eq_zero_or_pos xs.length with hx | hx
 ·have : xs = []:=List.length_eq_zero_iff.1 hx
  subst this
  refine ybO yg6 (by simp) (by simp) rfl fun hwf=>?_
  simp -dsimp -implicitDefEqProofs [yeZ,yaA,cnt]
  refine yg (ι:=Unit) (fun _=>True) (fun _=>yO [(0,.c (.sl 22 [])),(1,.c (.i k)),(5,.c (.i 0)),(1000000,.c (.sl 22 []))] []) (fun _=>0) () trivial (by apply yj <;> simp) ?_
  rintro _ _
  simp -dsimp -implicitDefEqProofs
 ·rw [ycP (by simpa using hx),ycP (by rw [yH]; exact hx)]
  refine ybO yg6 (by simp) (by simp) rfl fun hwf=>?_
  simp -dsimp -implicitDefEqProofs [yeZ]
  refine yg (ι:=Nat) (fun i=>i ≤ xs.length) (fun i=>yO [(0,.own 0 22 xs.length),(1,.c (.i (k + yaK yaJ xs i))),(5,.c (.i i)),(1000000,.own 0 22 xs.length)] [(0,.tr 22 0 (ycA ydH Work.yI yaJ k xs i))]) (fun i=>xs.length - i) 0 (by simp) (by apply yj <;> simp [ydh,ya0,Obj.leO]) ?_
  rintro i hi
  rcases Nat.lt_or_ge i xs.length with hlt | hge
  ·obtain ⟨e,he⟩ : ∃ e,xs[i]? = some e:=⟨_,List.getElem?_eq_getElem hlt⟩
   have hg:=yd5 (f:=ydH) (g:=Work.yI) (n:=yaJ) (k:=k) he
   have hl:=yd1 (f:=ydH) (g:=Work.yI) (n:=yaJ) (k:=k) (xs:=xs) (i:=i)
   have hs:=yd3 (f:=ydH) (g:=Work.yI) (n:=yaJ) (k:=k) he
   have hc:=ya1 (n:=yaJ) he
   have hle:=ybS (n:=yaJ) (xs:=xs) (i:=i + 1)
   have hn : yaJ e = 1 + 1 + 1 + 1 + 1 + 1 + 1 + 1 + 1 + cnt yE e.Lock.Inside + 1 + 1 + 1 + 1 + 1 + 1 + 1 + 1 + 2 * e.Pauses.length + 1 + 1 + cnt yaI e.Calls:=rfl
   generalize hM : ycA ydH Work.yI yaJ k xs i = M at *
   generalize hK : (k + (yaK yaJ xs i : Int)) = K at *
   have hlt2 : i < M.length:=by omega
   have g1 : M[i] = Work.yI e:=(List.getElem?_eq_some_iff.1 hg).2
   have hself : ∀ a,(M.set i a)[i]? = some a:=fun a=>List.getElem?_set_self hlt2
   have hgetD : ∀ a,(M.set i a)[i]?.getD [] = a:=fun a=>by rw [hself]; rfl
   simp only [Work.yI] at hg g1
   have hk : 0 ≤ K:=by omega
   simp -dsimp -implicitDefEqProofs [yG hlt,hg,hl,hlt2,g1,hself,setAt]
   intro hlen
   repeat (refine ⟨by first | exact hlt | (unfold inI; omega) | exact ybA (by omega),?_⟩)
   refine yb3 (k0:=22) (j:=9) (i:=(i : Int)) (r:=[.i K,.i (K + 1),.i (K + 1 + 1),.i (K + 1 + 1 + 1),.i (K + 1 + 1 + 1 + 1),.i (K + 1 + 1 + 1 + 1 + 1),.i (K + 1 + 1 + 1 + 1 + 1 + 1),.i (K + 1 + 1 + 1 + 1 + 1 + 1 + 1),.i (K + 1 + 1 + 1 + 1 + 1 + 1 + 1 + 1),.ot 2 (e.Lock.Inside.map Train.yI),.i e.Weir.Gates,.i e.Weir.Open,.i e.Weir.Step,.i e.Weir.Crest,.i e.Weir.Width,.i e.Rule.Low,.i e.Rule.High,.i e.Rule.Flood,.ow 2 (e.Pauses.map Pause.enc),.b e.Turn.Up,.i e.Turn.Count,.ot 4 (e.Calls.map CallT.yI)]) (c:=.ot 2 (e.Lock.Inside.map Train.yI)) (c':=.ot 2 (yaA ybN yE (K + 1 + 1 + 1 + 1 + 1 + 1 + 1 + 1 + 1) e.Lock.Inside)) (ylT e.Lock.Inside (K + 1 + 1 + 1 + 1 + 1 + 1 + 1 + 1 + 1) (by omega) (by omega)) (by simp) rfl rfl rfl (by first | exact hself _ | simpa using hg) rfl ⟨_,by rw [yH]; simp,rfl,rfl,rfl⟩ (by simp [C.sz]) ?_
   simp -dsimp -implicitDefEqProofs [setAt,hself,hlt2,hl]
   repeat (refine ⟨by first | exact hlt | (unfold inI; omega) | exact ybA (by omega),?_⟩)
   refine yb3 (k0:=22) (j:=18) (i:=(i : Int)) (r:=[.i K,.i (K + 1),.i (K + 1 + 1),.i (K + 1 + 1 + 1),.i (K + 1 + 1 + 1 + 1),.i (K + 1 + 1 + 1 + 1 + 1),.i (K + 1 + 1 + 1 + 1 + 1 + 1),.i (K + 1 + 1 + 1 + 1 + 1 + 1 + 1),.i (K + 1 + 1 + 1 + 1 + 1 + 1 + 1 + 1),.ot 2 (yaA ybN yE (K + 1 + 1 + 1 + 1 + 1 + 1 + 1 + 1 + 1) e.Lock.Inside),.i (K + 1 + 1 + 1 + 1 + 1 + 1 + 1 + 1 + 1 + (cnt yE e.Lock.Inside : Int)),.i (K + 1 + 1 + 1 + 1 + 1 + 1 + 1 + 1 + 1 + (cnt yE e.Lock.Inside : Int) + 1),.i (K + 1 + 1 + 1 + 1 + 1 + 1 + 1 + 1 + 1 + (cnt yE e.Lock.Inside : Int) + 1 + 1),.i (K + 1 + 1 + 1 + 1 + 1 + 1 + 1 + 1 + 1 + (cnt yE e.Lock.Inside : Int) + 1 + 1 + 1),.i (K + 1 + 1 + 1 + 1 + 1 + 1 + 1 + 1 + 1 + (cnt yE e.Lock.Inside : Int) + 1 + 1 + 1 + 1),.i (K + 1 + 1 + 1 + 1 + 1 + 1 + 1 + 1 + 1 + (cnt yE e.Lock.Inside : Int) + 1 + 1 + 1 + 1 + 1),.i (K + 1 + 1 + 1 + 1 + 1 + 1 + 1 + 1 + 1 + (cnt yE e.Lock.Inside : Int) + 1 + 1 + 1 + 1 + 1 + 1),.i (K + 1 + 1 + 1 + 1 + 1 + 1 + 1 + 1 + 1 + (cnt yE e.Lock.Inside : Int) + 1 + 1 + 1 + 1 + 1 + 1 + 1),.ow 2 (e.Pauses.map Pause.enc),.b e.Turn.Up,.i e.Turn.Count,.ot 4 (e.Calls.map CallT.yI)]) (c:=.ow 2 (e.Pauses.map Pause.enc)) (c':=.ow 2 (marked ybT 2 [] (K + 1 + 1 + 1 + 1 + 1 + 1 + 1 + 1 + 1 + (cnt yE e.Lock.Inside : Int) + 1 + 1 + 1 + 1 + 1 + 1 + 1 + 1) e.Pauses.length)) (ys7 e.Pauses (K + 1 + 1 + 1 + 1 + 1 + 1 + 1 + 1 + 1 + (cnt yE e.Lock.Inside : Int) + 1 + 1 + 1 + 1 + 1 + 1 + 1 + 1) (by omega) (by omega)) (by simp) rfl rfl rfl (by first | exact hself _ | simpa using hg) rfl ⟨_,by rw [yM]; simp,rfl,rfl,rfl⟩ (by simp [C.sz]) ?_
   simp -dsimp -implicitDefEqProofs [setAt,hself,hlt2,hl]
   repeat (refine ⟨by first | exact hlt | (unfold inI; omega) | exact ybA (by omega),?_⟩)
   refine yb3 (k0:=22) (j:=21) (i:=(i : Int)) (r:=[.i K,.i (K + 1),.i (K + 1 + 1),.i (K + 1 + 1 + 1),.i (K + 1 + 1 + 1 + 1),.i (K + 1 + 1 + 1 + 1 + 1),.i (K + 1 + 1 + 1 + 1 + 1 + 1),.i (K + 1 + 1 + 1 + 1 + 1 + 1 + 1),.i (K + 1 + 1 + 1 + 1 + 1 + 1 + 1 + 1),.ot 2 (yaA ybN yE (K + 1 + 1 + 1 + 1 + 1 + 1 + 1 + 1 + 1) e.Lock.Inside),.i (K + 1 + 1 + 1 + 1 + 1 + 1 + 1 + 1 + 1 + (cnt yE e.Lock.Inside : Int)),.i (K + 1 + 1 + 1 + 1 + 1 + 1 + 1 + 1 + 1 + (cnt yE e.Lock.Inside : Int) + 1),.i (K + 1 + 1 + 1 + 1 + 1 + 1 + 1 + 1 + 1 + (cnt yE e.Lock.Inside : Int) + 1 + 1),.i (K + 1 + 1 + 1 + 1 + 1 + 1 + 1 + 1 + 1 + (cnt yE e.Lock.Inside : Int) + 1 + 1 + 1),.i (K + 1 + 1 + 1 + 1 + 1 + 1 + 1 + 1 + 1 + (cnt yE e.Lock.Inside : Int) + 1 + 1 + 1 + 1),.i (K + 1 + 1 + 1 + 1 + 1 + 1 + 1 + 1 + 1 + (cnt yE e.Lock.Inside : Int) + 1 + 1 + 1 + 1 + 1),.i (K + 1 + 1 + 1 + 1 + 1 + 1 + 1 + 1 + 1 + (cnt yE e.Lock.Inside : Int) + 1 + 1 + 1 + 1 + 1 + 1),.i (K + 1 + 1 + 1 + 1 + 1 + 1 + 1 + 1 + 1 + (cnt yE e.Lock.Inside : Int) + 1 + 1 + 1 + 1 + 1 + 1 + 1),.ow 2 (marked ybT 2 [] (K + 1 + 1 + 1 + 1 + 1 + 1 + 1 + 1 + 1 + (cnt yE e.Lock.Inside : Int) + 1 + 1 + 1 + 1 + 1 + 1 + 1 + 1) e.Pauses.length),.b (decide ((K + 1 + 1 + 1 + 1 + 1 + 1 + 1 + 1 + 1 + (cnt yE e.Lock.Inside : Int) + 1 + 1 + 1 + 1 + 1 + 1 + 1 + 1 + 2 * (e.Pauses.length : Int)).tmod 3 = 0)),.i (K + 1 + 1 + 1 + 1 + 1 + 1 + 1 + 1 + 1 + (cnt yE e.Lock.Inside : Int) + 1 + 1 + 1 + 1 + 1 + 1 + 1 + 1 + 2 * (e.Pauses.length : Int) + 1),.ot 4 (e.Calls.map CallT.yI)]) (c:=.ot 4 (e.Calls.map CallT.yI)) (c':=.ot 4 (yaA yeu yaI (K + 1 + 1 + 1 + 1 + 1 + 1 + 1 + 1 + 1 + (cnt yE e.Lock.Inside : Int) + 1 + 1 + 1 + 1 + 1 + 1 + 1 + 1 + 2 * (e.Pauses.length : Int) + 1 + 1) e.Calls)) (yve e.Calls (K + 1 + 1 + 1 + 1 + 1 + 1 + 1 + 1 + 1 + (cnt yE e.Lock.Inside : Int) + 1 + 1 + 1 + 1 + 1 + 1 + 1 + 1 + 2 * (e.Pauses.length : Int) + 1 + 1) (by omega) (by omega)) (by simp) rfl rfl rfl (by first | exact hself _ | simpa using hg) rfl ⟨_,by rw [yH]; simp,rfl,rfl,rfl⟩ (by simp [C.sz]) ?_
   simp -dsimp -implicitDefEqProofs [setAt,hself,hlt2,hl]
   repeat (refine ⟨by first | exact hlt | (unfold inI; omega) | exact ybA (by omega) | exact yw hlt hlen,?_⟩)
   refine ⟨i + 1,hlt,by omega,?_⟩
   simp only [ydH] at hs
   apply yj <;> simp [Obj.leO,hs,hself] <;> omega
  ·have : i = xs.length:=by omega
   subst this
   simp -dsimp -implicitDefEqProofs
   intro _
   rw [yd9 (Nat.le_refl _),ybl (Nat.le_refl _),List.take_of_length_le (by rw [yH]; exact Nat.le_refl _)]
   exact ⟨rfl,rfl⟩
set_option maxRecDepth 20000 in
theorem ytK (xs : List Work) (k : Int) (h0 : 0 ≤ k) (h1 : k + cnt yaJ xs ≤ 8000000000000000000) : yB Tryz.prog 71 [.c (.sl 22 (yaA yhn yaJ k xs)),.c (.i k)] (.c (.i (k + cnt yaJ xs))):=by
 refine yh ymp ?_
 simp -dsimp -implicitDefEqProofs
 refine yg (ι:=Nat) (fun i=>i ≤ xs.length) (fun i=>yO [(0,.c (.sl 22 (yaA yhn yaJ k xs))),(1,.c (.i (k + yaK yaJ xs i))),(5,.c (.i i))] []) (fun i=>xs.length - i) 0 (by simp) (by apply yj <;> simp [ya0]) ?_
 rintro i hi
 rcases Nat.lt_or_ge i xs.length with hlt | hge
 ·obtain ⟨e,he⟩ : ∃ e,xs[i]? = some e:=⟨_,List.getElem?_eq_getElem hlt⟩
  have hg:=yfH (f:=yhn) (n:=yaJ) (k:=k) he
  have hc:=ya1 (n:=yaJ) he
  have hle:=ybS (n:=yaJ) (xs:=xs) (i:=i + 1)
  have hn : yaJ e = 1 + 1 + 1 + 1 + 1 + 1 + 1 + 1 + 1 + cnt yE e.Lock.Inside + 1 + 1 + 1 + 1 + 1 + 1 + 1 + 1 + 2 * e.Pauses.length + 1 + 1 + cnt yaI e.Calls:=rfl
  simp only [yhn] at hg
  generalize hK : (k + (yaK yaJ xs i : Int)) = K at *
  have hk : 0 ≤ K:=by omega
  simp -dsimp -implicitDefEqProofs [yH,yG hlt,hg]
  intro hlen
  repeat (refine ⟨by first | exact hlt | (unfold inI; omega) | exact ybA (by omega),?_⟩)
  refine yc (ylK e.Lock.Inside (K + 1 + 1 + 1 + 1 + 1 + 1 + 1 + 1 + 1) (by omega) (by omega)) ?_
  have n9 : (K + 1 + 1 + 1 + 1 + 1 + 1 + 1 + 1 + 1 + (cnt yE e.Lock.Inside : Int) < 0) = False:=by simp; omega
  simp -dsimp -implicitDefEqProofs [n9,yH,yG hlt,hg]
  repeat (refine ⟨by first | exact hlt | (unfold inI; omega) | exact ybA (by omega),?_⟩)
  refine yc (ysU e.Pauses.length (K + 1 + 1 + 1 + 1 + 1 + 1 + 1 + 1 + 1 + (cnt yE e.Lock.Inside : Int) + 1 + 1 + 1 + 1 + 1 + 1 + 1 + 1) (by omega) (by omega)) ?_
  have n18 : (K + 1 + 1 + 1 + 1 + 1 + 1 + 1 + 1 + 1 + (cnt yE e.Lock.Inside : Int) + 1 + 1 + 1 + 1 + 1 + 1 + 1 + 1 + 2 * (e.Pauses.length : Int) < 0) = False:=by simp; omega
  simp -dsimp -implicitDefEqProofs [n18,yH,yG hlt,hg]
  repeat (refine ⟨by first | exact hlt | (unfold inI; omega) | exact ybA (by omega),?_⟩)
  refine yc (yuE e.Calls (K + 1 + 1 + 1 + 1 + 1 + 1 + 1 + 1 + 1 + (cnt yE e.Lock.Inside : Int) + 1 + 1 + 1 + 1 + 1 + 1 + 1 + 1 + 2 * (e.Pauses.length : Int) + 1 + 1) (by omega) (by omega)) ?_
  have n21 : (K + 1 + 1 + 1 + 1 + 1 + 1 + 1 + 1 + 1 + (cnt yE e.Lock.Inside : Int) + 1 + 1 + 1 + 1 + 1 + 1 + 1 + 1 + 2 * (e.Pauses.length : Int) + 1 + 1 + (cnt yaI e.Calls : Int) < 0) = False:=by simp; omega
  simp -dsimp -implicitDefEqProofs [n21,yH,yG hlt,hg]
  repeat (refine ⟨by first | exact hlt | (unfold inI; omega) | exact ybA (by omega) | exact yw hlt hlen,?_⟩)
  refine ⟨i + 1,hlt,by omega,?_⟩
  apply yj <;> simp <;> omega
 ·have : i = xs.length:=by omega
  subst this
  simp -dsimp -implicitDefEqProofs [yH]
  rw [ybl (Nat.le_refl _)]
  intro _; rfl
def yax (xs : List Mover) : List C:=[.ot 3 (xs.map Mover.yI)]
theorem ycu (xs : List Mover) : ybQ (yax xs) = some (yZ xs):=by simp [yax,ybQ,ydl Mover.yaa]
theorem yk2 (xs : List Mover) : ∀ c ∈ yax xs,c.closed:=by
 intro c hc
 simp only [yax,List.mem_singleton] at hc
 subst hc
 exact ybn Mover.yad _ _
def fMs (k : Int) (e : Mover) : List C:=[.b (decide (k.tmod 3 = 0)),.sl 1 (yaA fBs nB (k + 1) e.Train.Rows),.i (k + 1 + (cnt nB e.Train.Rows : Int))]
theorem yCY (k : Int) (e : Mover) : ybQ (fM k e) = some (fMs k e):=by simp [fM,fMs,ybQ,C.shr,yba ysu]
theorem ytc (xs : List Mover) (k : Int) (h0 : 0 ≤ k) (h1 : k + cnt nM xs ≤ 8000000000000000000) : yB Tryz.prog 149 [.c (.sl 3 (yaA fMs nM k xs)),.c (.i k)] (.c (.i (k + cnt nM xs))):=by
 refine yh ykK ?_
 simp -dsimp -implicitDefEqProofs
 refine yg (ι:=Nat) (fun i=>i ≤ xs.length) (fun i=>yO [(0,.c (.sl 3 (yaA fMs nM k xs))),(1,.c (.i (k + yaK nM xs i))),(5,.c (.i i))] []) (fun i=>xs.length - i) 0 (by simp) (by apply yj <;> simp [ya0]) ?_
 rintro i hi
 rcases Nat.lt_or_ge i xs.length with hlt | hge
 ·obtain ⟨e,he⟩ : ∃ e,xs[i]? = some e:=⟨_,List.getElem?_eq_getElem hlt⟩
  have hg:=yfH (f:=fMs) (n:=nM) (k:=k) he
  have hc:=ya1 (n:=nM) he
  have hle:=ybS (n:=nM) (xs:=xs) (i:=i + 1)
  have hn : nM e = 1 + cnt nB e.Train.Rows + 1:=rfl
  simp only [fMs] at hg
  generalize hK : (k + (yaK nM xs i : Int)) = K at *
  have hk : 0 ≤ K:=by omega
  simp -dsimp -implicitDefEqProofs [yH,yG hlt,hg]
  intro hlen
  repeat (refine ⟨by first | exact hlt | (unfold inI; omega) | exact ybA (by omega),?_⟩)
  refine yc (yfS e.Train.Rows (K + 1) (by omega) (by omega)) ?_
  have n1 : (K + 1 + (cnt nB e.Train.Rows : Int) < 0) = False:=by simp; omega
  simp -dsimp -implicitDefEqProofs [n1,yH,yG hlt,hg]
  repeat (refine ⟨by first | exact hlt | (unfold inI; omega) | exact ybA (by omega) | exact yw hlt hlen,?_⟩)
  refine ⟨i + 1,hlt,by omega,?_⟩
  apply yj <;> simp <;> omega
 ·have : i = xs.length:=by omega
  subst this
  simp -dsimp -implicitDefEqProofs [yH]
  rw [ybl (Nat.le_refl _)]
  intro _; rfl
theorem ytU (xs : List (List Mover)) (hl : ye2 xs) : ybh Tryz.prog 33 [.c (.sl 1 (xs.map yZ))] (.c (.ot 1 (xs.map yax))):=by
 refine yan ygW ?_
 simp -dsimp -implicitDefEqProofs
 intro hlen
 have hl1:=hl.1
 refine ⟨by omega,yQd ?_⟩
 simp -dsimp -implicitDefEqProofs
 refine yg (ι:=Nat) (fun k=>k ≤ xs.length) (fun k=>yO [(0,.c (.sl 1 (xs.map yZ))),(3,.own 7 1 xs.length),(4,.c (.i k))] [(7,.tr 1 0 (partly yax [.sl 3 []] xs k))]) (fun k=>xs.length - k) 0 (by simp) (by apply yj <;> simp [yab,Obj.leO]) ?_
 rintro k hk
 rcases Nat.lt_or_ge k xs.length with hlt | hge
 ·obtain ⟨e,he⟩ : ∃ e,xs[k]? = some e:=⟨_,List.getElem?_eq_getElem hlt⟩
  have hs:=yaj (f:=yax) (z:=[.sl 3 []]) he
  have hd : ((partly yax [.sl 3 []] xs k)[k]?.getD []).set 0 (.ot 3 (e.map Mover.yI)) = yax e:=by
   have:=ydK (f:=yax) (z:=[.sl 3 []]) (n:=1) rfl (fun _=>rfl) hlt
   obtain ⟨x,hx⟩:=List.length_eq_one_iff.1 this
   rw [hx]; rfl
  simp -dsimp -implicitDefEqProofs [he,yG hlt]
  intro _
  refine yQ (yvD e (hl.2 e (List.mem_of_getElem? he))) (by simp) (ybn Mover.yad _ _) (by simp [yU]) ?_
  simp -dsimp -implicitDefEqProofs [yG hlt,yak hk,yt,setAt,hd,hs]
  exact ⟨hlt,yw hlt hlen,k + 1,hlt,by omega,by apply yj <;> simp [Obj.leO]⟩
 ·simp -dsimp -implicitDefEqProofs [yaB hge]
  intro _
  rw [yam hge,yt]
def yap (r : List Mover) : Nat:=cnt nM r
def ycj (k : Int) (r : List Mover) : List C:=[.ot 3 (yaA fM nM k r)]
def yeX (k : Int) (r : List Mover) : List C:=[.sl 3 (yaA fMs nM k r)]
theorem ykc (k : Int) (e : List Mover) : ybQ (ycj k e) = some (yeX k e):=by simp [ycj,yeX,ybQ,C.shr,yba yCY]
theorem yq3 (xs : List (List Mover)) (k : Int) (h0 : 0 ≤ k) (h1 : k + cnt yap xs ≤ 8000000000000000000) :
 InF Tryz.prog 63 (.c (ct 1 (xs.map yax))) (.c (ct 1 (yaA ycj yap k xs))) [.c (.i k)] (.c (.i (k + cnt yap xs))):=by
 rcases Nat.eq_zero_or_pos xs.length with hx | hx
 ·have : xs = []:=List.length_eq_zero_iff.1 hx
  subst this
  refine ybO yf8 (by simp) (by simp) rfl fun hwf=>?_
  simp -dsimp -implicitDefEqProofs [ydL,yaA,cnt]
  refine yg (ι:=Unit) (fun _=>True) (fun _=>yO [(0,.c (.sl 1 [])),(1,.c (.i k)),(5,.c (.i 0)),(1000000,.c (.sl 1 []))] []) (fun _=>0) () trivial (by apply yj <;> simp) ?_
  rintro _ _
  simp -dsimp -implicitDefEqProofs
 ·rw [ycP (by simpa using hx),ycP (by rw [yH]; exact hx)]
  refine ybO yf8 (by simp) (by simp) rfl fun hwf=>?_
  simp -dsimp -implicitDefEqProofs [ydL]
  refine yg (ι:=Nat) (fun i=>i ≤ xs.length) (fun i=>yO [(0,.own 0 1 xs.length),(1,.c (.i (k + yaK yap xs i))),(5,.c (.i i)),(1000000,.own 0 1 xs.length)] [(0,.tr 1 0 (ycA ycj yax yap k xs i))]) (fun i=>xs.length - i) 0 (by simp) (by apply yj <;> simp [ydh,ya0,Obj.leO]) ?_
  rintro i hi
  rcases Nat.lt_or_ge i xs.length with hlt | hge
  ·obtain ⟨e,he⟩ : ∃ e,xs[i]? = some e:=⟨_,List.getElem?_eq_getElem hlt⟩
   have hg:=yd5 (f:=ycj) (g:=yax) (n:=yap) (k:=k) he
   have hl:=yd1 (f:=ycj) (g:=yax) (n:=yap) (k:=k) (xs:=xs) (i:=i)
   have hs:=yd3 (f:=ycj) (g:=yax) (n:=yap) (k:=k) he
   have hc:=ya1 (n:=yap) he
   have hle:=ybS (n:=yap) (xs:=xs) (i:=i + 1)
   have hn : yap e = cnt nM e:=rfl
   generalize hM : ycA ycj yax yap k xs i = M at *
   generalize hK : (k + (yaK yap xs i : Int)) = K at *
   have hlt2 : i < M.length:=by omega
   have g1 : M[i] = yax e:=(List.getElem?_eq_some_iff.1 hg).2
   have hself : ∀ a,(M.set i a)[i]? = some a:=fun a=>List.getElem?_set_self hlt2
   have hgetD : ∀ a,(M.set i a)[i]?.getD [] = a:=fun a=>by rw [hself]; rfl
   simp only [yax] at hg g1
   have hk : 0 ≤ K:=by omega
   simp -dsimp -implicitDefEqProofs [yG hlt,hg,hl,hlt2,g1,hself,setAt]
   intro hlen
   repeat (refine ⟨by first | exact hlt | (unfold inI; omega) | exact ybA (by omega),?_⟩)
   refine yb3 (k0:=1) (j:=0) (i:=(i : Int)) (r:=[.ot 3 (e.map Mover.yI)]) (c:=.ot 3 (e.map Mover.yI)) (c':=.ot 3 (yaA fM nM K e)) (ytw e (K) (by omega) (by omega)) (by simp) rfl rfl rfl (by first | exact hself _ | simpa using hg) rfl ⟨_,by rw [yH]; simp,rfl,rfl,rfl⟩ (by simp [C.sz]) ?_
   simp -dsimp -implicitDefEqProofs [setAt,hself,hlt2,hl]
   repeat (refine ⟨by first | exact hlt | (unfold inI; omega) | exact ybA (by omega) | exact yw hlt hlen,?_⟩)
   refine ⟨i + 1,hlt,by omega,?_⟩
   simp only [ycj] at hs
   apply yj <;> simp [Obj.leO,hs,hself] <;> omega
  ·have : i = xs.length:=by omega
   subst this
   simp -dsimp -implicitDefEqProofs
   intro _
   rw [yd9 (Nat.le_refl _),ybl (Nat.le_refl _),List.take_of_length_le (by rw [yH]; exact Nat.le_refl _)]
   exact ⟨rfl,rfl⟩
theorem yqF (xs : List (List Mover)) (k : Int) (h0 : 0 ≤ k) (h1 : k + cnt yap xs ≤ 8000000000000000000) : yB Tryz.prog 72 [.c (.sl 1 (yaA yeX yap k xs)),.c (.i k)] (.c (.i (k + cnt yap xs))):=by
 refine yh ykA ?_
 simp -dsimp -implicitDefEqProofs
 refine yg (ι:=Nat) (fun i=>i ≤ xs.length) (fun i=>yO [(0,.c (.sl 1 (yaA yeX yap k xs))),(1,.c (.i (k + yaK yap xs i))),(5,.c (.i i))] []) (fun i=>xs.length - i) 0 (by simp) (by apply yj <;> simp [ya0]) ?_
 rintro i hi
 rcases Nat.lt_or_ge i xs.length with hlt | hge
 ·obtain ⟨e,he⟩ : ∃ e,xs[i]? = some e:=⟨_,List.getElem?_eq_getElem hlt⟩
  have hg:=yfH (f:=yeX) (n:=yap) (k:=k) he
  have hc:=ya1 (n:=yap) he
  have hle:=ybS (n:=yap) (xs:=xs) (i:=i + 1)
  have hn : yap e = cnt nM e:=rfl
  simp only [yeX] at hg
  generalize hK : (k + (yaK yap xs i : Int)) = K at *
  have hk : 0 ≤ K:=by omega
  simp -dsimp -implicitDefEqProofs [yH,yG hlt,hg]
  intro hlen
  repeat (refine ⟨by first | exact hlt | (unfold inI; omega) | exact ybA (by omega),?_⟩)
  refine yc (ytc e (K) (by omega) (by omega)) ?_
  have n0 : (K + (cnt nM e : Int) < 0) = False:=by simp; omega
  simp -dsimp -implicitDefEqProofs [n0,yH,yG hlt,hg]
  repeat (refine ⟨by first | exact hlt | (unfold inI; omega) | exact ybA (by omega) | exact yw hlt hlen,?_⟩)
  refine ⟨i + 1,hlt,by omega,?_⟩
  apply yj <;> simp <;> omega
 ·have : i = xs.length:=by omega
  subst this
  simp -dsimp -implicitDefEqProofs [yH]
  rw [ybl (Nat.le_refl _)]
  intro _; rfl
@[simp] def Passing.yI (e : Passing) : List C:=[.i e.Time,.i e.Work,.b e.Train.Up,.ot 1 (e.Train.Rows.map yT)]
theorem Passing.yaa (e : Passing) : ybQ e.yI = some e.enc:=by simp [Passing.yI,ybQ,ydl yeg]
theorem Passing.yad (e : Passing) : ∀ c ∈ e.yI,c.closed:=by
 simp only [Passing.yI,List.mem_cons,List.not_mem_nil,or_false,forall_eq_or_imp,forall_eq]
 exact ⟨by simp [C.closed],by simp [C.closed],by simp [C.closed],ybn ygL _ _⟩
theorem yuq (e : Passing) (hl : Passing.small e) : ybh Tryz.prog 99 [.agg (e.enc.map .c)] (.agg (e.yI.map .c)):=by
 refine yan yg7 ?_
 simp -dsimp -implicitDefEqProofs
 refine yQ (yjE e.Train hl) (by simp) (yb5 (Train.yad _)) (by simp [yU]) ?_
 simp -dsimp -implicitDefEqProofs [yt]
theorem ysg (xs : List Passing) (hl : yeB xs) : ybh Tryz.prog 38 [.c (.sl 4 (xs.map Passing.enc))] (.c (.ot 4 (xs.map Passing.yI))):=by
 refine yan ygz ?_
 simp -dsimp -implicitDefEqProofs
 intro hlen
 have hl1:=hl.1
 refine ⟨by omega,?_⟩
 refine yg (ι:=Nat) (fun k=>k ≤ xs.length) (fun k=>yO [(0,.c (.sl 4 (xs.map Passing.enc))),(3,.own 7 4 xs.length),(4,.c (.i k))] [(7,.tr 4 0 (partly Passing.yI [.i 0,.i 0,.b false,.sl 1 []] xs k))]) (fun k=>xs.length - k) 0 (by simp) (by apply yj <;> simp [yab,Obj.leO]) ?_
 rintro k hk
 rcases Nat.lt_or_ge k xs.length with hlt | hge
 ·obtain ⟨e,he⟩ : ∃ e,xs[k]? = some e:=⟨_,List.getElem?_eq_getElem hlt⟩
  have hs:=yaj (f:=Passing.yI) (z:=[.i 0,.i 0,.b false,.sl 1 []]) he
  have hd:=yav (f:=Passing.yI) (z:=[.i 0,.i 0,.b false,.sl 1 []]) (n:=4) rfl hlt
  simp only [Passing.yI] at hs
  simp -dsimp -implicitDefEqProofs [he,yG hlt]
  intro _
  refine yQ (yuq e (hl.2 e (List.mem_of_getElem? he))) (by simp) (yb5 (Passing.yad _)) (by simp [yU]) ?_
  simp -dsimp -implicitDefEqProofs [yG hlt,yak hk,yt,hd,hs]
  exact ⟨hlt,yw hlt hlen,k + 1,hlt,by omega,by apply yj <;> simp [Obj.leO]⟩
 ·simp -dsimp -implicitDefEqProofs [yaB hge]
  intro _
  rw [yam hge,yt]
def yae (e : Passing) : Nat:=1 + 1 + 1 + cnt nB e.Train.Rows
def ybL (k : Int) (e : Passing) : List C:=[.i k,.i (k + 1),.b (decide ((k + 1 + 1).tmod 3 = 0)),.ot 1 (yaA fB nB (k + 1 + 1 + 1) e.Train.Rows)]
def ydN (k : Int) (e : Passing) : List C:=[.i k,.i (k + 1),.b (decide ((k + 1 + 1).tmod 3 = 0)),.sl 1 (yaA fBs nB (k + 1 + 1 + 1) e.Train.Rows)]
theorem yiO (k : Int) (e : Passing) : ybQ (ybL k e) = some (ydN k e):=by simp [ybL,ydN,ybQ,C.shr,yba ysu]
theorem ypA (xs : List Passing) (k : Int) (h0 : 0 ≤ k) (h1 : k + cnt yae xs ≤ 8000000000000000000) :
 InF Tryz.prog 68 (.c (ct 4 (xs.map Passing.yI))) (.c (ct 4 (yaA ybL yae k xs))) [.c (.i k)] (.c (.i (k + cnt yae xs))):=by
 rcases Nat.eq_zero_or_pos xs.length with hx | hx
 ·have : xs = []:=List.length_eq_zero_iff.1 hx
  subst this
  refine ybO yfG (by simp) (by simp) rfl fun hwf=>?_
  simp -dsimp -implicitDefEqProofs [ydA,yaA,cnt]
  refine yg (ι:=Unit) (fun _=>True) (fun _=>yO [(0,.c (.sl 4 [])),(1,.c (.i k)),(5,.c (.i 0)),(1000000,.c (.sl 4 []))] []) (fun _=>0) () trivial (by apply yj <;> simp) ?_
  rintro _ _
  simp -dsimp -implicitDefEqProofs
 ·rw [ycP (by simpa using hx),ycP (by rw [yH]; exact hx)]
  refine ybO yfG (by simp) (by simp) rfl fun hwf=>?_
  simp -dsimp -implicitDefEqProofs [ydA]
  refine yg (ι:=Nat) (fun i=>i ≤ xs.length) (fun i=>yO [(0,.own 0 4 xs.length),(1,.c (.i (k + yaK yae xs i))),(5,.c (.i i)),(1000000,.own 0 4 xs.length)] [(0,.tr 4 0 (ycA ybL Passing.yI yae k xs i))]) (fun i=>xs.length - i) 0 (by simp) (by apply yj <;> simp [ydh,ya0,Obj.leO]) ?_
  rintro i hi
  rcases Nat.lt_or_ge i xs.length with hlt | hge
  ·obtain ⟨e,he⟩ : ∃ e,xs[i]? = some e:=⟨_,List.getElem?_eq_getElem hlt⟩
   have hg:=yd5 (f:=ybL) (g:=Passing.yI) (n:=yae) (k:=k) he
   have hl:=yd1 (f:=ybL) (g:=Passing.yI) (n:=yae) (k:=k) (xs:=xs) (i:=i)
   have hs:=yd3 (f:=ybL) (g:=Passing.yI) (n:=yae) (k:=k) he
   have hc:=ya1 (n:=yae) he
   have hle:=ybS (n:=yae) (xs:=xs) (i:=i + 1)
   have hn : yae e = 1 + 1 + 1 + cnt nB e.Train.Rows:=rfl
   generalize hM : ycA ybL Passing.yI yae k xs i = M at *
   generalize hK : (k + (yaK yae xs i : Int)) = K at *
   have hlt2 : i < M.length:=by omega
   have g1 : M[i] = Passing.yI e:=(List.getElem?_eq_some_iff.1 hg).2
   have hself : ∀ a,(M.set i a)[i]? = some a:=fun a=>List.getElem?_set_self hlt2
   have hgetD : ∀ a,(M.set i a)[i]?.getD [] = a:=fun a=>by rw [hself]; rfl
   simp only [Passing.yI] at hg g1
   have hk : 0 ≤ K:=by omega
   simp -dsimp -implicitDefEqProofs [yG hlt,hg,hl,hlt2,g1,hself,setAt]
   intro hlen
   repeat (refine ⟨by first | exact hlt | (unfold inI; omega) | exact ybA (by omega),?_⟩)
   refine yb3 (k0:=4) (j:=3) (i:=(i : Int)) (r:=[.i K,.i (K + 1),.b (decide ((K + 1 + 1).tmod 3 = 0)),.ot 1 (e.Train.Rows.map yT)]) (c:=.ot 1 (e.Train.Rows.map yT)) (c':=.ot 1 (yaA fB nB (K + 1 + 1 + 1) e.Train.Rows)) (yfJ e.Train.Rows (K + 1 + 1 + 1) (by omega) (by omega)) (by simp) rfl rfl rfl (by first | exact hself _ | simpa using hg) rfl ⟨_,by rw [yH]; simp,rfl,rfl,rfl⟩ (by simp [C.sz]) ?_
   simp -dsimp -implicitDefEqProofs [setAt,hself,hlt2,hl]
   repeat (refine ⟨by first | exact hlt | (unfold inI; omega) | exact ybA (by omega) | exact yw hlt hlen,?_⟩)
   refine ⟨i + 1,hlt,by omega,?_⟩
   simp only [ybL] at hs
   apply yj <;> simp [Obj.leO,hs,hself] <;> omega
  ·have : i = xs.length:=by omega
   subst this
   simp -dsimp -implicitDefEqProofs
   intro _
   rw [yd9 (Nat.le_refl _),ybl (Nat.le_refl _),List.take_of_length_le (by rw [yH]; exact Nat.le_refl _)]
   exact ⟨rfl,rfl⟩
theorem yol (xs : List Passing) (k : Int) (h0 : 0 ≤ k) (h1 : k + cnt yae xs ≤ 8000000000000000000) : yB Tryz.prog 77 [.c (.sl 4 (yaA ydN yae k xs)),.c (.i k)] (.c (.i (k + cnt yae xs))):=by
 refine yh yjK ?_
 simp -dsimp -implicitDefEqProofs
 refine yg (ι:=Nat) (fun i=>i ≤ xs.length) (fun i=>yO [(0,.c (.sl 4 (yaA ydN yae k xs))),(1,.c (.i (k + yaK yae xs i))),(5,.c (.i i))] []) (fun i=>xs.length - i) 0 (by simp) (by apply yj <;> simp [ya0]) ?_
 rintro i hi
 rcases Nat.lt_or_ge i xs.length with hlt | hge
 ·obtain ⟨e,he⟩ : ∃ e,xs[i]? = some e:=⟨_,List.getElem?_eq_getElem hlt⟩
  have hg:=yfH (f:=ydN) (n:=yae) (k:=k) he
  have hc:=ya1 (n:=yae) he
  have hle:=ybS (n:=yae) (xs:=xs) (i:=i + 1)
  have hn : yae e = 1 + 1 + 1 + cnt nB e.Train.Rows:=rfl
  simp only [ydN] at hg
  generalize hK : (k + (yaK yae xs i : Int)) = K at *
  have hk : 0 ≤ K:=by omega
  simp -dsimp -implicitDefEqProofs [yH,yG hlt,hg]
  intro hlen
  repeat (refine ⟨by first | exact hlt | (unfold inI; omega) | exact ybA (by omega),?_⟩)
  refine yc (yfS e.Train.Rows (K + 1 + 1 + 1) (by omega) (by omega)) ?_
  have n3 : (K + 1 + 1 + 1 + (cnt nB e.Train.Rows : Int) < 0) = False:=by simp; omega
  simp -dsimp -implicitDefEqProofs [n3,yH,yG hlt,hg]
  repeat (refine ⟨by first | exact hlt | (unfold inI; omega) | exact ybA (by omega) | exact yw hlt hlen,?_⟩)
  refine ⟨i + 1,hlt,by omega,?_⟩
  apply yj <;> simp <;> omega
 ·have : i = xs.length:=by omega
  subst this
  simp -dsimp -implicitDefEqProofs [yH]
  rw [ybl (Nat.le_refl _)]
  intro _; rfl
@[simp] def Waterway.yI (e : Waterway) : List C:=[.i e.Time,.ot 3 (e.Reaches.map Reach.yI),.ow 2 (e.Ways.map Way.enc),.ot 22 (e.Works.map Work.yI),.ot 1 (e.Movers.map yax),.ot 2 (e.Arrived.map Train.yI),.ow 1 (e.Entered.map yJ),.i e.Tariff.Base,.i e.Tariff.PerArea,.ow 1 (e.Tariff.PerClass.map yJ),.ow 1 (e.Tariff.Weights.map yJ),.ow 5 (e.Book.map Entry.enc),.ot 4 (e.Passings.map Passing.yI),.i e.Start,.i e.In,.i e.Out]
theorem Waterway.yaa (e : Waterway) : ybQ e.yI = some e.enc:=by simp [Waterway.yI,ybQ,ydl Reach.yaa,ydl Work.yaa,ydl ycu,ydl Train.yaa,ydl Passing.yaa]
theorem Waterway.yad (e : Waterway) : ∀ c ∈ e.yI,c.closed:=by
 simp only [Waterway.yI,List.mem_cons,List.not_mem_nil,or_false,forall_eq_or_imp,forall_eq]
 exact ⟨by simp [C.closed],ybn Reach.yad _ _,by simp [C.closed],ybn Work.yad _ _,ybn yk2 _ _,ybn Train.yad _ _,by simp [C.closed],by simp [C.closed],by simp [C.closed],by simp [C.closed],by simp [C.closed],by simp [C.closed],ybn Passing.yad _ _,by simp [C.closed],by simp [C.closed],by simp [C.closed]⟩
set_option maxRecDepth 20000 in
theorem ytB (e : Waterway) (hl : Waterway.small e) : ybh Tryz.prog 8 [.agg (e.enc.map .c)] (.agg (e.yI.map .c)):=by
 refine yan ygH ?_
 simp -dsimp -implicitDefEqProofs
 refine yQ (ywx e.Reaches hl.1) (by simp) (ybn Reach.yad _ _) (by simp [yU]) ?_
 simp -dsimp -implicitDefEqProofs [yt]
 refine yQ (yzG e.Ways hl.2.1) (by simp) (by simp [AV.closed,AV.ya7,C.closed]) (by simp [yU]) ?_
 simp -dsimp -implicitDefEqProofs [yt]
 refine yQ (yyw e.Works hl.2.2.1) (by simp) (ybn Work.yad _ _) (by simp [yU]) ?_
 simp -dsimp -implicitDefEqProofs [yt]
 refine yQ (ytU e.Movers hl.2.2.2.1) (by simp) (ybn yk2 _ _) (by simp [yU]) ?_
 simp -dsimp -implicitDefEqProofs [yt]
 refine yQ (ypF e.Arrived hl.2.2.2.2.1) (by simp) (ybn Train.yad _ _) (by simp [yU]) ?_
 simp -dsimp -implicitDefEqProofs [yt]
 refine yQ (ylr e.Entered hl.2.2.2.2.2.1.1) (by simp) (by simp [AV.closed,AV.ya7,C.closed]) (by simp [yU]) ?_
 simp -dsimp -implicitDefEqProofs [yt]
 refine yQ (yv6 e.Tariff hl.2.2.2.2.2.2.1) (by simp) (yb5 (Tariff.yad _)) (by simp [yU]) ?_
 simp -dsimp -implicitDefEqProofs [yt]
 refine yQ (yvX e.Book hl.2.2.2.2.2.2.2.1.1) (by simp) (by simp [AV.closed,AV.ya7,C.closed]) (by simp [yU]) ?_
 simp -dsimp -implicitDefEqProofs [yt]
 refine yQ (ysg e.Passings hl.2.2.2.2.2.2.2.2) (by simp) (ybn Passing.yad _ _) (by simp [yU]) ?_
 simp -dsimp -implicitDefEqProofs [yt]
theorem yAp (es : List Point) (hl : es.length ≤ 1048576) : ybh Tryz.prog 273 [.c (.sl 2 (es.map Point.enc))] (.c (.ow 2 (es.map Point.enc))):=by
 refine yan yc4 ?_
 simp -dsimp -implicitDefEqProofs [ybv,yt]
 omega
theorem yk9 (es : List Int) (hl : es.length ≤ 1048576) : ybh Tryz.prog 132 [.c (.sl 1 (es.map yJ))] (.c (.ow 1 (es.map yJ))):=by
 refine yan ygh ?_
 simp -dsimp -implicitDefEqProofs [ydx,yt]
 omega
theorem yx7 (es : List Pause) (hl : es.length ≤ 1048576) : ybh Tryz.prog 213 [.c (.sl 2 (es.map Pause.enc))] (.c (.ow 2 (es.map Pause.enc))):=by
 refine yan yc7 ?_
 simp -dsimp -implicitDefEqProofs [ybt,yt]
 omega
theorem yyE (es : List Way) (hl : es.length ≤ 1048576) : ybh Tryz.prog 128 [.c (.sl 2 (es.map Way.enc))] (.c (.ow 2 (es.map Way.enc))):=by
 refine yan ydE ?_
 simp -dsimp -implicitDefEqProofs [ybZ,yt]
 omega
theorem yz5 (es : List Entry) (hl : es.length ≤ 1048576) : ybh Tryz.prog 102 [.c (.sl 5 (es.map Entry.enc))] (.c (.ow 5 (es.map Entry.enc))):=by
 refine yan yc5 ?_
 simp -dsimp -implicitDefEqProofs [ybu,yt]
 omega
theorem ygB (e : Reach) (hl : Reach.small e) : ybh Tryz.prog 211 [.agg (e.enc.map .c)] (.agg (e.yI.map .c)):=by
 refine yan yms ?_
 simp -dsimp -implicitDefEqProofs
 refine yfW (yAp e.Table hl.1.1) (by simp ) (by simp [AV.closed,AV.ya7,C.closed]) (by simp [yU]) ?_
 simp -dsimp -implicitDefEqProofs [yt]
 refine yfW (yk9 e.Pipe hl.2.1) (by simp ) (by simp [AV.closed,AV.ya7,C.closed]) (by simp [yU]) ?_
 simp -dsimp -implicitDefEqProofs [yt]
theorem yrb (xs : List Reach) (hl : ycN xs) : ybh Tryz.prog 127 [.c (.sl 3 (xs.map Reach.enc))] (.c (.ot 3 (xs.map Reach.yI))):=by
 refine yan yku ?_
 simp -dsimp -implicitDefEqProofs
 intro hlen
 have hl1:=hl.1
 refine ⟨by omega,?_⟩
 intro _
 refine yg (ι:=Nat) (fun k=>k ≤ xs.length) (fun k=>yO [(3,.own 8 3 k),(9,.c (.sl 3 (xs.map Reach.enc))),(10,.c (.i xs.length)),(11,.c (.i k))] [(8,.tr 3 0 ((xs.take k).map Reach.yI))]) (fun k=>xs.length - k) 0 (by simp) (by apply yj <;> simp [Obj.leO]) ?_
 rintro k hk
 rcases Nat.lt_or_ge k xs.length with hlt | hge
 ·obtain ⟨e,he⟩ : ∃ e,xs[k]? = some e:=⟨_,List.getElem?_eq_getElem hlt⟩
  have hs : xs.take (k + 1) = xs.take k ++ [e]:=by rw [List.take_succ,he]; rfl
  have he2:=hl.2 e (List.mem_of_getElem? he)
  have g1:=(List.getElem?_eq_some_iff.1 he).2
  simp -dsimp -implicitDefEqProofs [he,g1,hlt,yG hlt]
  refine yQ (ygB e he2) (by simp) (yb5 (Reach.yad e)) (by simp [yU]) ?_
  simp -dsimp -implicitDefEqProofs [yt,Nat.min_eq_left hk,yeh]
  refine ⟨by omega,yw hlt hlen,k + 1,hlt,by omega,?_⟩
  have hs2 : (xs.map Reach.yI).take (k + 1) = (xs.map Reach.yI).take k ++ [Reach.yI e]:=by rw [← List.map_take,← List.map_take,hs,List.map_append]; rfl
  apply yj <;> simp [Obj.leO,hs2]
 ·have : k = xs.length:=by omega
  subst this
  simp -dsimp -implicitDefEqProofs [yt]
  try simp
theorem ykW (xs : List Train) (hl : ybV xs) : ybh Tryz.prog 131 [.c (.sl 2 (xs.map Train.enc))] (.c (.ot 2 (xs.map Train.yI))):=by
 refine yan ylm ?_
 simp -dsimp -implicitDefEqProofs
 intro hlen
 have hl1:=hl.1
 refine yfV (k0:=2) 3 2 (by simp) (by simp) (by decide) ?_
 refine yg (ι:=Nat) (fun k=>k ≤ xs.length) (fun k=>yO [(3,.own 3 2 k),(6,.c (.sl 2 (xs.map Train.enc))),(7,.c (.i xs.length)),(8,.c (.i k))] [(3,.tr 2 0 ((xs.take k).map Train.yI))]) (fun k=>xs.length - k) 0 (by simp) (by apply yj <;> simp [Obj.leO]) ?_
 rintro k hk
 rcases Nat.lt_or_ge k xs.length with hlt | hge
 ·obtain ⟨e,he⟩ : ∃ e,xs[k]? = some e:=⟨_,List.getElem?_eq_getElem hlt⟩
  have hs : xs.take (k + 1) = xs.take k ++ [e]:=by rw [List.take_succ,he]; rfl
  have he2:=hl.2 e (List.mem_of_getElem? he)
  have g1:=(List.getElem?_eq_some_iff.1 he).2
  simp -dsimp -implicitDefEqProofs [he,g1,hlt,yG hlt]
  refine yQ (ygJ e he2) (by simp) (yb5 (Train.yad e)) (by simp [yU]) ?_
  simp -dsimp -implicitDefEqProofs [yt,Nat.min_eq_left hk,yeh]
  refine ⟨by omega,yw hlt hlen,k + 1,hlt,by omega,?_⟩
  have hs2 : (xs.map Train.yI).take (k + 1) = (xs.map Train.yI).take k ++ [Train.yI e]:=by rw [← List.map_take,← List.map_take,hs,List.map_append]; rfl
  apply yj <;> simp [Obj.leO,hs2]
 ·have : k = xs.length:=by omega
  subst this
  simp -dsimp -implicitDefEqProofs [yt]
  try simp
theorem yuP (xs : List CallT) (hl : yfi xs) : ybh Tryz.prog 214 [.c (.sl 4 (xs.map CallT.enc))] (.c (.ot 4 (xs.map CallT.yI))):=by
 refine yan ymx ?_
 simp -dsimp -implicitDefEqProofs
 intro hlen
 have hl1:=hl.1
 refine yfV (k0:=4) 3 4 (by simp) (by simp) (by decide) ?_
 refine yg (ι:=Nat) (fun k=>k ≤ xs.length) (fun k=>yO [(3,.own 3 4 k),(6,.c (.sl 4 (xs.map CallT.enc))),(7,.c (.i xs.length)),(8,.c (.i k))] [(3,.tr 4 0 ((xs.take k).map CallT.yI))]) (fun k=>xs.length - k) 0 (by simp) (by apply yj <;> simp [Obj.leO]) ?_
 rintro k hk
 rcases Nat.lt_or_ge k xs.length with hlt | hge
 ·obtain ⟨e,he⟩ : ∃ e,xs[k]? = some e:=⟨_,List.getElem?_eq_getElem hlt⟩
  have hs : xs.take (k + 1) = xs.take k ++ [e]:=by rw [List.take_succ,he]; rfl
  have he2:=hl.2 e (List.mem_of_getElem? he)
  have g1:=(List.getElem?_eq_some_iff.1 he).2
  simp -dsimp -implicitDefEqProofs [he,g1,hlt,yG hlt]
  refine yfW (ygJ e.Train he2) (by simp) (yb5 (Train.yad e.Train)) (by simp [yU]) ?_
  simp -dsimp -implicitDefEqProofs [yt,Nat.min_eq_left hk,yeh]
  refine ⟨by omega,yw hlt hlen,k + 1,hlt,by omega,?_⟩
  have hs2 : (xs.map CallT.yI).take (k + 1) = (xs.map CallT.yI).take k ++ [CallT.yI e]:=by rw [← List.map_take,← List.map_take,hs,List.map_append]; rfl
  apply yj <;> simp [Obj.leO,hs2]
 ·have : k = xs.length:=by omega
  subst this
  simp -dsimp -implicitDefEqProofs [yt]
  try simp
theorem ysV (xs : List Mover) (hl : yfK xs) : ybh Tryz.prog 130 [.c (.sl 3 (xs.map Mover.enc))] (.c (.ot 3 (xs.map Mover.yI))):=by
 refine yan ylu ?_
 simp -dsimp -implicitDefEqProofs
 intro hlen
 have hl1:=hl.1
 refine yfV (k0:=3) 3 3 (by simp) (by simp) (by decide) ?_
 refine yg (ι:=Nat) (fun k=>k ≤ xs.length) (fun k=>yO [(3,.own 3 3 k),(6,.c (.sl 3 (xs.map Mover.enc))),(7,.c (.i xs.length)),(8,.c (.i k))] [(3,.tr 3 0 ((xs.take k).map Mover.yI))]) (fun k=>xs.length - k) 0 (by simp) (by apply yj <;> simp [Obj.leO]) ?_
 rintro k hk
 rcases Nat.lt_or_ge k xs.length with hlt | hge
 ·obtain ⟨e,he⟩ : ∃ e,xs[k]? = some e:=⟨_,List.getElem?_eq_getElem hlt⟩
  have hs : xs.take (k + 1) = xs.take k ++ [e]:=by rw [List.take_succ,he]; rfl
  have he2:=hl.2 e (List.mem_of_getElem? he)
  have g1:=(List.getElem?_eq_some_iff.1 he).2
  simp -dsimp -implicitDefEqProofs [he,g1,hlt,yG hlt]
  refine yfW (ygJ e.Train he2) (by simp) (yb5 (Train.yad e.Train)) (by simp [yU]) ?_
  simp -dsimp -implicitDefEqProofs [yt,Nat.min_eq_left hk,yeh]
  refine ⟨by omega,yw hlt hlen,k + 1,hlt,by omega,?_⟩
  have hs2 : (xs.map Mover.yI).take (k + 1) = (xs.map Mover.yI).take k ++ [Mover.yI e]:=by rw [← List.map_take,← List.map_take,hs,List.map_append]; rfl
  apply yj <;> simp [Obj.leO,hs2]
 ·have : k = xs.length:=by omega
  subst this
  simp -dsimp -implicitDefEqProofs [yt]
  try simp
theorem yws (e : Lock) (hl : Lock.small e) : ybh Tryz.prog 212 [.agg (e.enc.map .c)] (.agg (e.yI.map .c)):=by
 refine yan ym9 ?_
 simp -dsimp -implicitDefEqProofs
 refine yQ (ykW e.Inside hl) (by simp) (ybn Train.yad _ _) (by simp [yU]) ?_
 simp -dsimp -implicitDefEqProofs [yt]
theorem ysT (e : Tariff) (hl : Tariff.small e) : ybh Tryz.prog 133 [.agg (e.enc.map .c)] (.agg (e.yI.map .c)):=by
 refine yan ylf ?_
 simp -dsimp -implicitDefEqProofs
 refine yQ (yk9 e.PerClass hl.1) (by simp ) (by simp [AV.closed,AV.ya7,C.closed]) (by simp [yU]) ?_
 simp -dsimp -implicitDefEqProofs [yt]
 refine yQ (yk9 e.Weights hl.2) (by simp ) (by simp [AV.closed,AV.ya7,C.closed]) (by simp [yU]) ?_
 simp -dsimp -implicitDefEqProofs [yt]
theorem yuM (xs : List Work) (hl : yc8 xs) : ybh Tryz.prog 129 [.c (.sl 22 (xs.map Work.enc))] (.c (.ot 22 (xs.map Work.yI))):=by
 refine yan ymk ?_
 simp -dsimp -implicitDefEqProofs
 intro hlen
 have hl1:=hl.1
 refine yfV (k0:=22) 3 22 (by simp) (by simp) (by decide) ?_
 refine yg (ι:=Nat) (fun k=>k ≤ xs.length) (fun k=>yO [(3,.own 3 22 k),(6,.c (.sl 22 (xs.map Work.enc))),(7,.c (.i xs.length)),(8,.c (.i k))] [(3,.tr 22 0 ((xs.take k).map Work.yI))]) (fun k=>xs.length - k) 0 (by simp) (by apply yj <;> simp [Obj.leO]) ?_
 rintro k hk
 rcases Nat.lt_or_ge k xs.length with hlt | hge
 ·obtain ⟨e,he⟩ : ∃ e,xs[k]? = some e:=⟨_,List.getElem?_eq_getElem hlt⟩
  have hs : xs.take (k + 1) = xs.take k ++ [e]:=by rw [List.take_succ,he]; rfl
  have he2:=hl.2 e (List.mem_of_getElem? he)
  have g1:=(List.getElem?_eq_some_iff.1 he).2
  simp -dsimp -implicitDefEqProofs [he,g1,hlt,yG hlt]
  refine yQ (yws e.Lock he2.1) (by simp) (yb5 (Lock.yad _)) (by simp [yU]) ?_
  simp -dsimp -implicitDefEqProofs [yt]
  refine yQ (yx7 e.Pauses he2.2.1.1) (by simp ) (by simp [AV.closed,AV.ya7,C.closed]) (by simp [yU]) ?_
  simp -dsimp -implicitDefEqProofs [yt]
  refine yQ (yuP e.Calls he2.2.2) (by simp) (ybn CallT.yad _ _) (by simp [yU]) ?_
  simp -dsimp -implicitDefEqProofs [yt,Nat.min_eq_left hk]
  refine ⟨by omega,yw hlt hlen,k + 1,hlt,by omega,?_⟩
  have hs2 : (xs.map Work.yI).take (k + 1) = (xs.map Work.yI).take k ++ [Work.yI e]:=by rw [← List.map_take,← List.map_take,hs,List.map_append]; rfl
  apply yj <;> simp [Obj.leO,hs2]
 ·have : k = xs.length:=by omega
  subst this
  simp -dsimp -implicitDefEqProofs [yt]
  try simp
set_option maxRecDepth 20000 in
theorem ypi (x : Waterway) (hl : x.small) : ybh Tryz.prog 58 [.agg (x.enc.map .c)] (.agg (x.yI.map .c)):=by
 obtain ⟨s1,s2,s3,s4,s5,s6,s7,s8,s9⟩:=hl
 have s41:=s4.1
 have s91:=s9.1
 refine yan yjQ ?_
 simp -dsimp -implicitDefEqProofs
 refine yQ (yrb x.Reaches s1) (by simp) (ybn Reach.yad _ _) (by simp [yU]) ?_
 simp -dsimp -implicitDefEqProofs [yt]
 refine yQ (yyE x.Ways s2.1) (by simp ) (by simp [AV.closed,AV.ya7,C.closed]) (by simp [yU]) ?_
 simp -dsimp -implicitDefEqProofs [yt]
 refine yQ (yuM x.Works s3) (by simp) (ybn Work.yad _ _) (by simp [yU]) ?_
 simp -dsimp -implicitDefEqProofs [yt]
 intro hlen
 refine ⟨by omega,yQd ?_⟩
 simp -dsimp -implicitDefEqProofs
 intro _
 refine yg (ι:=Nat) (fun k=>k ≤ x.Movers.length) (fun k=>yO [(1,.box 1 0),(2,.box 2 0),(3,.own 24 1 x.Movers.length),(26,.c (.sl 1 (x.Movers.map yZ))),(27,.c (.i x.Movers.length)),(28,.c (.i k))] [(1,.box [.c (.i x.Time),.own 11 3 x.Reaches.length,.own 15 2 x.Ways.length,.own 19 22 x.Works.length,.c (.sl 1 (x.Movers.map yZ)),.c (.sl 2 (x.Arrived.map Train.enc)),.c (.sl 1 (x.Entered.map yJ)),.c (.i x.Tariff.Base),.c (.i x.Tariff.PerArea),.c (.sl 1 (x.Tariff.PerClass.map yJ)),.c (.sl 1 (x.Tariff.Weights.map yJ)),.c (.sl 5 (x.Book.map Entry.enc)),.c (.sl 4 (x.Passings.map Passing.enc)),.c (.i x.Start),.c (.i x.In),.c (.i x.Out)]),(2,.box [.c (.i 0),.nil 3,.nil 2,.nil 22,.nil 1,.nil 2,.nil 1,.c (.i 0),.c (.i 0),.nil 1,.nil 1,.nil 5,.nil 4,.c (.i 0),.c (.i 0),.c (.i 0)]),(11,.tr 3 0 (x.Reaches.map Reach.yI)),(15,.row 2 (x.Ways.map Way.enc)),(19,.tr 22 0 (x.Works.map Work.yI)),(24,.tr 1 0 (partly yax [.sl 3 []] x.Movers k))]) (fun k=>x.Movers.length - k) 0 (by simp) (by apply yj <;> simp [yab,Obj.leO]) ?_
 rintro k hk
 rcases Nat.lt_or_ge k x.Movers.length with hlt | hge
 ·obtain ⟨e,he⟩ : ∃ e,x.Movers[k]? = some e:=⟨_,List.getElem?_eq_getElem hlt⟩
  have hs:=yaj (f:=yax) (z:=[.sl 3 []]) he
  have hd : ((partly yax [.sl 3 []] x.Movers k)[k]?.getD []).set 0 (.ot 3 (e.map Mover.yI)) = yax e:=by
   have:=ydK (f:=yax) (z:=[.sl 3 []]) (n:=1) rfl (fun _=>rfl) hlt
   obtain ⟨y,hy⟩:=List.length_eq_one_iff.1 this
   rw [hy]; rfl
  simp -dsimp -implicitDefEqProofs [he,yG hlt]
  refine yQ (ysV e (s4.2 e (List.mem_of_getElem? he))) (by simp) (ybn Mover.yad _ _) (by simp [yU]) ?_
  simp -dsimp -implicitDefEqProofs [yG hlt,yak hk,yt,setAt,hd,hs]
  exact ⟨hlt,yw hlt hlen,k + 1,hlt,by omega,by apply yj <;> simp [Obj.leO]⟩
 have hke : k = x.Movers.length:=by omega
 subst hke
 simp -dsimp -implicitDefEqProofs [yam (Nat.le_refl _),yt]
 refine yQ (ykW x.Arrived s5) (by simp) (ybn Train.yad _ _) (by simp [yU]) ?_
 simp -dsimp -implicitDefEqProofs [yt]
 refine yQ (yk9 x.Entered s6.1) (by simp ) (by simp [AV.closed,AV.ya7,C.closed]) (by simp [yU]) ?_
 simp -dsimp -implicitDefEqProofs [yt]
 refine yQ (ysT x.Tariff s7) (by simp) (yb5 (Tariff.yad _)) (by simp [yU]) ?_
 simp -dsimp -implicitDefEqProofs [yt]
 refine yQ (yz5 x.Book s8.1) (by simp ) (by simp [AV.closed,AV.ya7,C.closed]) (by simp [yU]) ?_
 simp -dsimp -implicitDefEqProofs [yt]
 intro hlen2
 refine yfV (k0:=4) 6 4 (by simp) (by simp) (by decide) ?_
 refine yg (ι:=Nat) (fun k=>k ≤ x.Passings.length) (fun k=>yO [(1,.box 1 0),(2,.box 2 0),(6,.own 6 4 k),(58,.c (.sl 4 (x.Passings.map Passing.enc))),(59,.c (.i x.Passings.length)),(60,.c (.i k))] [(1,.box [.c (.i x.Time),.own 11 3 x.Reaches.length,.own 15 2 x.Ways.length,.own 19 22 x.Works.length,.own 24 1 x.Movers.length,.own 43 2 x.Arrived.length,.own 47 1 x.Entered.length,.c (.i x.Tariff.Base),.c (.i x.Tariff.PerArea),.own 30051 1 x.Tariff.PerClass.length,.own 40051 1 x.Tariff.Weights.length,.own 55 5 x.Book.length,.c (.sl 4 (x.Passings.map Passing.enc)),.c (.i x.Start),.c (.i x.In),.c (.i x.Out)]),(2,.box [.c (.i 0),.nil 3,.nil 2,.nil 22,.nil 1,.nil 2,.nil 1,.c (.i 0),.c (.i 0),.nil 1,.nil 1,.nil 5,.nil 4,.c (.i 0),.c (.i 0),.c (.i 0)]),(11,.tr 3 0 (x.Reaches.map Reach.yI)),(15,.row 2 (x.Ways.map Way.enc)),(19,.tr 22 0 (x.Works.map Work.yI)),(24,.tr 1 0 (x.Movers.map yax)),(43,.tr 2 0 (x.Arrived.map Train.yI)),(47,.row 1 (x.Entered.map yJ)),(30051,.row 1 (x.Tariff.PerClass.map yJ)),(40051,.row 1 (x.Tariff.Weights.map yJ)),(55,.row 5 (x.Book.map Entry.enc)),(6,.tr 4 0 ((x.Passings.take k).map Passing.yI))]) (fun k=>x.Passings.length - k) 0 (by simp) (by apply yj <;> simp [Obj.leO]) ?_
 rintro k hk2
 rcases Nat.lt_or_ge k x.Passings.length with hlt | hge2
 ·obtain ⟨e,he⟩ : ∃ e,x.Passings[k]? = some e:=⟨_,List.getElem?_eq_getElem hlt⟩
  have hs : x.Passings.take (k + 1) = x.Passings.take k ++ [e]:=by rw [List.take_succ,he]; rfl
  have he2:=s9.2 e (List.mem_of_getElem? he)
  have g1:=(List.getElem?_eq_some_iff.1 he).2
  simp -dsimp -implicitDefEqProofs [he,g1,hlt,yG hlt]
  refine yfW (ygJ e.Train he2) (by simp) (yb5 (Train.yad e.Train)) (by simp [yU]) ?_
  simp -dsimp -implicitDefEqProofs [yt,Nat.min_eq_left hk2,yeh]
  refine ⟨by omega,yw hlt hlen2,k + 1,hlt,by omega,?_⟩
  have hs2 : (x.Passings.map Passing.yI).take (k + 1) = (x.Passings.map Passing.yI).take k ++ [Passing.yI e]:=by rw [← List.map_take,← List.map_take,hs,List.map_append]; rfl
  apply yj <;> simp [Obj.leO,hs2]
 have hke2 : k = x.Passings.length:=by omega
 subst hke2
 simp -dsimp -implicitDefEqProofs [yt]
theorem ymv (e : Reach) (hl : Reach.small e) : ybh Tryz.prog 117 [.agg (e.enc.map .c)] (.agg (e.yI.map .c)):=by
 have h1:=hl.1.1
 have h2:=hl.2.1
 refine yan yoO ?_
 simp -dsimp -implicitDefEqProofs [yi7,yt]
 exact ⟨by omega,by omega⟩
theorem ybo (e : Reach) (hl : Reach.small e) : yB Tryz.prog 117 [.agg (e.enc.map .c)] (.agg (e.enc.map .c)):=(ymv e hl).pure (by simp [AV.shr,AV.ysI,ybQ,C.shr])
theorem yxF (e : Mover) (hl : Mover.small e) : yB Tryz.prog 119 [.agg (e.enc.map .c)] (.agg (e.enc.map .c)):=by
 refine yh yp1 ?_
 simp -dsimp -implicitDefEqProofs
 refine yY (ygX e.Train hl) ?_
 simp -dsimp -implicitDefEqProofs
set_option maxRecDepth 20000 in
theorem yxT (e : Lock) (hl : Lock.small e) : yB Tryz.prog 203 [.agg (e.enc.map .c)] (.agg (e.enc.map .c)):=by
 have hl1:=hl.1
 have hsm:=hl.2
 refine yh ypn ?_
 simp -dsimp -implicitDefEqProofs
 refine yg (ι:=Nat) (fun k=>k ≤ e.Inside.length) (fun k=>yO [(1,.box 1 0),(2,.box 2 0),(3,.own 5 2 k),(4,.c (.i k))] [(1,.box [.c (.i e.Length),.c (.i e.Width),.c (.i e.SillAbove),.c (.i e.SillBelow),.c (.i e.Base),.c (.i e.Area),.c (.i e.Rate),.c (.i e.Water),.c (.i e.Gate),.c (.sl 2 (e.Inside.map Train.enc))]),(2,.box [.c (.i 0),.c (.i 0),.c (.i 0),.c (.i 0),.c (.i 0),.c (.i 0),.c (.i 0),.c (.i 0),.c (.i 0),.nil 2]),(5,.row 2 ((e.Inside.take k).map Train.enc))]) (fun k=>e.Inside.length - k) 0 (by simp) (by apply yj <;> simp [Obj.leO]) ?_
 rintro k hk
 rcases Nat.lt_or_ge k e.Inside.length with klt | kge
 ·obtain ⟨e1,he⟩ : ∃ e1,e.Inside[k]? = some e1:=⟨_,List.getElem?_eq_getElem klt⟩
  have he2:=hsm e1 (List.mem_of_getElem? he)
  have g1:=(List.getElem?_eq_some_iff.1 he).2
  have hs2 : (e.Inside.map Train.enc).take (k + 1) = (e.Inside.map Train.enc).take k ++ [Train.enc e1]:=by rw [List.take_succ,List.getElem?_map,he]; rfl
  simp -dsimp -implicitDefEqProofs [he,g1,klt,yG klt]
  intro hlen
  refine yS (ygX e1 he2) ?_
  simp -dsimp -implicitDefEqProofs [he,g1,klt,yG klt,yt,Nat.min_eq_left hk]
  refine ⟨by omega,yw klt hlen,k + 1,klt,by omega,?_⟩
  apply yj <;> simp [Obj.leO,hs2]
 have ek : k = e.Inside.length:=by omega
 subst ek
 simp -dsimp -implicitDefEqProofs [yt]
def em (l : List Mover) : List C:=[.ow 3 (l.map Mover.enc)]
theorem ywd (l : List Mover) : ybQ (em l) = some (yZ l):=rfl
def yd0 {α : Type} (t : α → Nat) (xs : List α) : Nat:=xs.length + (xs.map t).sum
def ycz {α : Type} (f : α → Int → Int) (t : α → Nat) : Prop:=∀ x l,0 ≤ l → l ≤ 1048576 → 0 ≤ f x l → f x l + t x ≤ l
theorem yaV {a : Int} {f : Int → Int} (h : 0 ≤ ybm a f) : 0 ≤ a ∧ ybm a f = f a:=by
 rcases Int.lt_or_le a 0 with e | e
 ·rw [yK e] at h; omega
 ·exact ⟨e,yu e⟩
theorem yhx {α : Type} : ycz (fun (xs : List α) l=>szS xs.length l) (fun xs=>xs.length):=by
 intro xs l h0 h1 h
 simp only [szS] at h ⊢
 split at h
 ·omega
 ·rename_i h2; rw [if_neg h2]; omega
theorem yn7 {α : Type} {f : α → Int → Int} {t : α → Nat} (hf : ycz f t) : ∀ (xs : List α) (l : Int),0 ≤ l → l ≤ 1048576 → 0 ≤ yaw f xs l → yaw f xs l + ((xs.map t).sum : Nat) ≤ l
 | [],l,_,_,_=>by simp [yaw]
 | x :: xs,l,h0,h1,h=>by
  simp only [yaw] at h ⊢
  obtain ⟨p,e⟩:=yaV h
  rw [e] at h ⊢
  have h2:=hf x l h0 h1 p
  have h3:=yn7 hf xs (f x l) p (by omega) h
  simp only [List.map_cons,List.sum_cons,Int.natCast_add]; omega
theorem ye8 {α : Type} {f : α → Int → Int} {t : α → Nat} (hf : ycz f t) : ycz (yeE f) (yd0 t):=by
 intro xs l h0 h1 h
 unfold yeE at h ⊢
 obtain ⟨p,e⟩:=yaV h
 rw [e] at h ⊢
 have h2:=yhx xs l h0 h1 p
 have h3:=yn7 hf xs _ p (by simp only at h2 ⊢; omega) h
 unfold yd0
 simp only at h2
 omega
theorem ydt {α : Type} {n t : α → Nat} (h : ∀ x,n x ≤ 27 * (1 + t x)) : ∀ xs : List α,cnt n xs ≤ 27 * yd0 t xs
 | []=>by simp [cnt]
 | x :: xs=>by
  have h1:=ydt h xs
  have h2:=h x
  simp only [cnt,yd0,List.map_cons,List.sum_cons,List.length_cons] at h1 ⊢
  omega
def ydD (xs : List Int) : Nat:=xs.length
theorem ygx : ycz yhJ ydD:=yhx
def ykt (xs : List Entry) : Nat:=xs.length
theorem yqX : ycz ygY ykt:=yhx
def yju (xs : List Boat) : Nat:=xs.length
theorem ytl : ycz yex yju:=yhx
def yeT : List (List Boat) → Nat:=yd0 yju
theorem yqw : ycz yeb yeT:=ye8 ytl
theorem yxg (r : List Boat) : nB r ≤ 27 * (1 + yju r):=by unfold nB yju; omega
def yci (e : Train) : Nat:=yeT e.Rows
theorem yfQ : ycz yb2 yci:=by
 intro e l h0 h1 h
 unfold yb2 at h ⊢
 obtain ⟨p0,e0⟩:=yaV h
 rw [e0] at h ⊢
 have t0:=yqw e.Rows _ h0 h1 p0
 unfold yci
 omega
def yhw (xs : List Point) : Nat:=xs.length
theorem yrs : ycz yg2 yhw:=yhx
def yaZ (e : Reach) : Nat:=yhw e.Table + ydD e.Pipe
theorem ys5 : ycz ycy yaZ:=by
 intro e l h0 h1 h
 unfold ycy at h ⊢
 obtain ⟨p0,e0⟩:=yaV h
 rw [e0] at h ⊢
 have t0:=yrs e.Table _ h0 h1 p0
 obtain ⟨p1,e1⟩:=yaV h
 rw [e1] at h ⊢
 have t1:=ygx e.Pipe _ p0 (by omega) p1
 unfold yaZ
 omega
def ydQ : List Reach → Nat:=yd0 yaZ
theorem yqR : ycz yd8 ydQ:=ye8 ys5
theorem yum (e : Reach) : yay e ≤ 27 * (1 + yaZ e):=by
 have : yhw e.Table = e.Table.length:=rfl
 have : ydD e.Pipe = e.Pipe.length:=rfl
 simp only [yay,yaZ]
 omega
def yox (xs : List Way) : Nat:=xs.length
theorem yu8 : ycz yk3 yox:=yhx
def ykC (xs : List Pause) : Nat:=xs.length
theorem yqQ : ycz yhi ykC:=yhx
def yf0 : List Train → Nat:=yd0 yci
theorem yke : ycz ydk yf0:=ye8 yfQ
theorem ymK (e : Train) : yE e ≤ 27 * (1 + yci e):=by
 have:=ydt yxg e.Rows
 simp only [yE,yci,yeT]
 omega
def ylq (e : Lock) : Nat:=yf0 e.Inside
theorem yuX : ycz ygm ylq:=by
 intro e l h0 h1 h
 unfold ygm at h ⊢
 obtain ⟨p0,e0⟩:=yaV h
 rw [e0] at h ⊢
 have t0:=yke e.Inside _ h0 h1 p0
 unfold ylq
 omega
def yiS (e : CallT) : Nat:=yci e.Train
theorem ytP : ycz ydJ yiS:=by
 intro e l h0 h1 h
 unfold ydJ at h ⊢
 obtain ⟨p0,e0⟩:=yaV h
 rw [e0] at h ⊢
 have t0:=yfQ e.Train _ h0 h1 p0
 unfold yiS
 omega
def yl4 : List CallT → Nat:=yd0 yiS
theorem ytn : ycz yfd yl4:=ye8 ytP
theorem ywA (e : CallT) : yaI e ≤ 27 * (1 + yiS e):=by
 have:=ydt yxg e.Train.Rows
 simp only [yaI,yiS,yci,yeT]
 omega
def yg5 (e : Work) : Nat:=ylq e.Lock + ykC e.Pauses + yl4 e.Calls
theorem yus : ycz ycY yg5:=by
 intro e l h0 h1 h
 unfold ycY at h ⊢
 obtain ⟨p0,e0⟩:=yaV h
 rw [e0] at h ⊢
 have t0:=yuX e.Lock _ h0 h1 p0
 obtain ⟨p1,e1⟩:=yaV h
 rw [e1] at h ⊢
 have t1:=yqQ e.Pauses _ p0 (by omega) p1
 obtain ⟨p2,e2⟩:=yaV h
 rw [e2] at h ⊢
 have t2:=ytn e.Calls _ p1 (by omega) p2
 unfold yg5
 omega
def yeJ : List Work → Nat:=yd0 yg5
theorem ytv : ycz yfc yeJ:=ye8 yus
theorem yvC (e : Work) : yaJ e ≤ 27 * (1 + yg5 e):=by
 have:=ydt ymK e.Lock.Inside
 have : ykC e.Pauses = e.Pauses.length:=rfl
 have:=ydt ywA e.Calls
 simp only [yaJ,yg5,ylq,yf0,yl4]
 omega
def yhg (e : Mover) : Nat:=yci e.Train
theorem ysK : ycz ycV yhg:=by
 intro e l h0 h1 h
 unfold ycV at h ⊢
 obtain ⟨p0,e0⟩:=yaV h
 rw [e0] at h ⊢
 have t0:=yfQ e.Train _ h0 h1 p0
 unfold yhg
 omega
def ygb : List Mover → Nat:=yd0 yhg
theorem yq0 : ycz ycf ygb:=ye8 ysK
theorem nM_le (e : Mover) : nM e ≤ 27 * (1 + yhg e):=by
 have:=ydt yxg e.Train.Rows
 simp only [nM,yhg,yci,yeT]
 omega
def yiG : List (List Mover) → Nat:=yd0 ygb
theorem yow : ycz ydg yiG:=ye8 yq0
theorem ytr (r : List Mover) : yap r ≤ 27 * (1 + ygb r):=by have:=ydt nM_le r; unfold yap ygb; omega
def yhC (e : Tariff) : Nat:=ydD e.PerClass + ydD e.Weights
theorem yqO : ycz ydq yhC:=by
 intro e l h0 h1 h
 unfold ydq at h ⊢
 obtain ⟨p0,e0⟩:=yaV h
 rw [e0] at h ⊢
 have t0:=ygx e.PerClass _ h0 h1 p0
 obtain ⟨p1,e1⟩:=yaV h
 rw [e1] at h ⊢
 have t1:=ygx e.Weights _ p0 (by omega) p1
 unfold yhC
 omega
def ydZ (e : Passing) : Nat:=yci e.Train
theorem yoT : ycz ybM ydZ:=by
 intro e l h0 h1 h
 unfold ybM at h ⊢
 obtain ⟨p0,e0⟩:=yaV h
 rw [e0] at h ⊢
 have t0:=yfQ e.Train _ h0 h1 p0
 unfold ydZ
 omega
def yhy : List Passing → Nat:=yd0 ydZ
theorem ym7 : ycz ycH yhy:=ye8 yoT
theorem yrm (e : Passing) : yae e ≤ 27 * (1 + ydZ e):=by
 have:=ydt yxg e.Train.Rows
 simp only [yae,ydZ,yci,yeT]
 omega
def ycp (e : Waterway) : Nat:=ydQ e.Reaches + yox e.Ways + yeJ e.Works + yiG e.Movers + yf0 e.Arrived + ydD e.Entered + yhC e.Tariff + ykt e.Book + yhy e.Passings
theorem ynf : ycz yaX ycp:=by
 intro e l h0 h1 h
 unfold yaX at h ⊢
 obtain ⟨p0,e0⟩:=yaV h
 rw [e0] at h ⊢
 have t0:=yqR e.Reaches _ h0 h1 p0
 obtain ⟨p1,e1⟩:=yaV h
 rw [e1] at h ⊢
 have t1:=yu8 e.Ways _ p0 (by omega) p1
 obtain ⟨p2,e2⟩:=yaV h
 rw [e2] at h ⊢
 have t2:=ytv e.Works _ p1 (by omega) p2
 obtain ⟨p3,e3⟩:=yaV h
 rw [e3] at h ⊢
 have t3:=yow e.Movers _ p2 (by omega) p3
 obtain ⟨p4,e4⟩:=yaV h
 rw [e4] at h ⊢
 have t4:=yke e.Arrived _ p3 (by omega) p4
 obtain ⟨p5,e5⟩:=yaV h
 rw [e5] at h ⊢
 have t5:=ygx e.Entered _ p4 (by omega) p5
 obtain ⟨p6,e6⟩:=yaV h
 rw [e6] at h ⊢
 have t6:=yqO e.Tariff _ p5 (by omega) p6
 obtain ⟨p7,e7⟩:=yaV h
 rw [e7] at h ⊢
 have t7:=yqX e.Book _ p6 (by omega) p7
 obtain ⟨p8,e8⟩:=yaV h
 rw [e8] at h ⊢
 have t8:=ym7 e.Passings _ p7 (by omega) p8
 unfold ycp
 omega
def hsW (x : Waterway) : List H:=[.p (.i x.Time),.t 3 (x.Reaches.map Reach.yI),.w 2 (x.Ways.map Way.enc),.t 22 (x.Works.map Work.yI),.t 1 (x.Movers.map yax),.t 2 (x.Arrived.map Train.yI),.w 1 (x.Entered.map yJ),
 .p (.i x.Tariff.Base),.p (.i x.Tariff.PerArea),.w 1 (x.Tariff.PerClass.map yJ),.w 1 (x.Tariff.Weights.map yJ),.w 5 (x.Book.map Entry.enc),.t 4 (x.Passings.map Passing.yI),.p (.i x.Start),.p (.i x.In),.p (.i x.Out)]
def wm1 (x : Waterway) (k : Int) : Int:=k + cnt yay x.Reaches
def wm2 (x : Waterway) (k : Int) : Int:=wm1 x k + 2 * x.Ways.length
def wm3 (x : Waterway) (k : Int) : Int:=wm2 x k + cnt yaJ x.Works
def wm4 (x : Waterway) (k : Int) : Int:=wm3 x k + cnt yap x.Movers
def wm5 (x : Waterway) (k : Int) : Int:=wm4 x k + cnt yE x.Arrived
def wm6 (x : Waterway) (k : Int) : Int:=wm5 x k + x.Entered.length
def wm7 (x : Waterway) (k : Int) : Int:=wm6 x k + nT x.Tariff
def wm8 (x : Waterway) (k : Int) : Int:=wm7 x k + 5 * x.Book.length
def wm9 (x : Waterway) (k : Int) : Int:=wm8 x k + cnt yae x.Passings
def hsM (x : Waterway) (k : Int) : List H:=[.p (.i x.Time),.t 3 (yaA ycQ yay k x.Reaches),.w 2 (marked ydz 2 [] (wm1 x k) x.Ways.length),.t 22 (yaA ydH yaJ (wm2 x k) x.Works),.t 1 (yaA ycj yap (wm3 x k) x.Movers),.t 2 (yaA ybN yE (wm4 x k) x.Arrived),.w 1 (marked yJ 1 [] (wm5 x k) x.Entered.length),
 .p (.i x.Tariff.Base),.p (.i x.Tariff.PerArea),.w 1 (marked yJ 1 [] (wm6 x k) x.Tariff.PerClass.length),.w 1 (marked yJ 1 [] (wm6 x k + x.Tariff.PerClass.length) x.Tariff.Weights.length),.w 5 (marked yjL 5 [] (wm7 x k) x.Book.length),.t 4 (yaA ybL yae (wm8 x k) x.Passings),.p (.i x.Start),.p (.i x.In),.p (.i x.Out)]
theorem yhc {id k n : Nat} {mk : Int → List C} {c j : Int} {rows : List (List C)} (h : n = rows.length) : hv id k (marked mk c [] j n) = hv id k rows:=yy6 (by rw [yM,h])
theorem ylR {α : Type} {id k : Nat} {f : Int → α → List C} {n : α → Nat} {j : Int} {g : α → List C} {xs : List α} : hv id k (yaA f n j xs) = hv id k (xs.map g):=yy6 (by rw [yH,List.length_map])
structure WkB (x : Waterway) (k : Int) : Prop where
 b0 : 0 ≤ k
 b1 : k ≤ wm1 x k
 b2 : wm1 x k ≤ wm2 x k
 b3 : wm2 x k ≤ wm3 x k
 b4 : wm3 x k ≤ wm4 x k
 b5 : wm4 x k ≤ wm5 x k
 b6 : wm5 x k ≤ wm6 x k
 b7 : wm6 x k ≤ wm7 x k
 b8 : wm7 x k ≤ wm8 x k
 b9 : wm8 x k ≤ wm9 x k
theorem wkB (x : Waterway) {k : Int} (h : 0 ≤ k) : WkB x k:=by
 refine ⟨h,?_,?_,?_,?_,?_,?_,?_,?_,?_⟩ <;> simp only [wm1,wm2,wm3,wm4,wm5,wm6,wm7,wm8,wm9,nT] <;> omega
set_option maxRecDepth 20000 in
theorem yi8 (x : Waterway) (k : Int) (h0 : 0 ≤ k) (h1 : wm9 x k ≤ 4000000000000000000) :
 InF Tryz.prog 13 (.agg (((hsW x).map H.c).map .c)) (.agg (((hsM x k).map H.c).map .c)) [.c (.i k)] (.c (.i (wm9 x k))):=by
 obtain ⟨b0,b1,b2,b3,b4,b5,b6,b7,b8,b9⟩:=wkB x h0
 have e1 : wm1 x k = k + cnt yay x.Reaches:=rfl
 have e2 : wm2 x k = wm1 x k + 2 * x.Ways.length:=rfl
 have e3 : wm3 x k = wm2 x k + cnt yaJ x.Works:=rfl
 have e4 : wm4 x k = wm3 x k + cnt yap x.Movers:=rfl
 have e5 : wm5 x k = wm4 x k + cnt yE x.Arrived:=rfl
 have e6 : wm6 x k = wm5 x k + x.Entered.length:=rfl
 have e7 : wm7 x k = wm6 x k + nT x.Tariff:=rfl
 have e8 : wm8 x k = wm7 x k + 5 * x.Book.length:=rfl
 have e9 : wm9 x k = wm8 x k + cnt yae x.Passings:=rfl
 have m1:=yty x.Reaches k h0 (by omega)
 have m2:=yvz x.Ways (wm1 x k) (by omega) (by omega)
 have m3:=yvp x.Works (wm2 x k) (by omega) (by omega)
 have m4:=yq3 x.Movers (wm3 x k) (by omega) (by omega)
 have m5:=ylT x.Arrived (wm4 x k) (by omega) (by omega)
 have m6:=ycr x.Entered (wm5 x k) (by omega) (by omega)
 have m7:=ysc x.Tariff (wm6 x k) (by omega) (by omega)
 have m8:=ysZ x.Book (wm7 x k) (by omega) (by omega)
 have m9:=ypA x.Passings (wm8 x k) (by omega) (by omega)
 rw [← e1] at m1; rw [← e2] at m2; rw [← e3] at m3; rw [← e4] at m4; rw [← e5] at m5; rw [← e6] at m6; rw [← e7] at m7; rw [← e8] at m8; rw [← e9] at m9
 refine yEO yjR (by simp) (by simp [hsW,okH,H.ok]) rfl fun hwf=>?_
 simp -dsimp -implicitDefEqProofs [yfE,hsW]
 refine ygZ (ver:=0) m1 (by simp) (by simp [yH]) (by simp) rfl rfl ?_
 simp -dsimp -implicitDefEqProofs
 refine yl7 m2 (by simp) (by simp [yM]) (by simp) rfl rfl ?_
 simp -dsimp -implicitDefEqProofs
 refine ygZ (ver:=0) m3 (by simp) (by simp [yH]) (by simp) rfl rfl ?_
 simp -dsimp -implicitDefEqProofs
 refine ygZ (ver:=0) m4 (by simp) (by simp [yH]) (by simp) rfl rfl ?_
 simp -dsimp -implicitDefEqProofs
 refine ygZ (ver:=0) m5 (by simp) (by simp [yH]) (by simp) rfl rfl ?_
 simp -dsimp -implicitDefEqProofs
 refine yl7 m6 (by simp) (by simp [yM]) (by simp) rfl rfl ?_
 simp -dsimp -implicitDefEqProofs
 refine yzw m7 (by decide) rfl rfl (by simp) (by simp) (by simp [yM]) (by simp [yM]) (by simp) rfl rfl ?_
 simp -dsimp -implicitDefEqProofs
 refine yl7 m8 (by simp) (by simp [yM]) (by simp) rfl rfl ?_
 simp -dsimp -implicitDefEqProofs
 refine ygZ (ver:=0) m9 (by simp) (by simp [yH]) (by simp) rfl rfl ?_
 simp -dsimp -implicitDefEqProofs
 refine yDB ?_ ?_ ?_
 ·simp [hsM]
  exact ⟨ylR.symm,(yhc (by simp)).symm,ylR.symm,ylR.symm,ylR.symm,(yhc (by simp)).symm,(yhc (by simp)).symm,(yhc (by simp)).symm,(yhc (by simp)).symm,ylR.symm⟩
 ·simp [hsM,yxj,lieH]
  exact ⟨⟨1,rfl⟩,⟨1,rfl⟩,⟨1,rfl⟩,⟨1,rfl⟩,⟨1,rfl⟩⟩
 ·simp [yml]
def yAe (x : Waterway) (k : Int) : List C:=[.i x.Time,.sl 3 (yaA yfZ yay k x.Reaches),.sl 2 (marked ydz 2 [] (wm1 x k) x.Ways.length),.sl 22 (yaA yhn yaJ (wm2 x k) x.Works),.sl 1 (yaA yeX yap (wm3 x k) x.Movers),.sl 2 (yaA yfm yE (wm4 x k) x.Arrived),.sl 1 (marked yJ 1 [] (wm5 x k) x.Entered.length),
 .i x.Tariff.Base,.i x.Tariff.PerArea,.sl 1 (marked yJ 1 [] (wm6 x k) x.Tariff.PerClass.length),.sl 1 (marked yJ 1 [] (wm6 x k + x.Tariff.PerClass.length) x.Tariff.Weights.length),.sl 5 (marked yjL 5 [] (wm7 x k) x.Book.length),.sl 4 (yaA ydN yae (wm8 x k) x.Passings),.i x.Start,.i x.In,.i x.Out]
theorem ysr (e : Tariff) (b p : Int) (k : Int) (h0 : 0 ≤ k) (h1 : k + nT e ≤ 4000000000000000000) : yB Tryz.prog 75 [.agg [.c (.i b),.c (.i p),.c (.sl 1 (marked yJ 1 [] k e.PerClass.length)),.c (.sl 1 (marked yJ 1 [] (k + e.PerClass.length) e.Weights.length))],.c (.i k)] (.c (.i (k + nT e))):=by
 refine yh ykH ?_
 unfold nT at h1 ⊢
 simp -dsimp -implicitDefEqProofs
 refine yc (yh1 e.PerClass.length k h0 (by omega)) ?_
 have n1 : (k + (e.PerClass.length : Int) < 0) = False:=by simp; omega
 simp -dsimp -implicitDefEqProofs [n1]
 refine yc (yh1 e.Weights.length (k + e.PerClass.length) (by omega) (by omega)) ?_
 have n2 : (k + (e.PerClass.length : Int) + (e.Weights.length : Int) < 0) = False:=by simp; omega
 simp -dsimp -implicitDefEqProofs [n2]
 omega
set_option maxRecDepth 20000 in
theorem yp9 (x : Waterway) (k : Int) (h0 : 0 ≤ k) (h1 : wm9 x k ≤ 4000000000000000000) : yB Tryz.prog 14 [.agg ((yAe x k).map .c),.c (.i k)] (.c (.i (wm9 x k))):=by
 obtain ⟨b0,b1,b2,b3,b4,b5,b6,b7,b8,b9⟩:=wkB x h0
 have e1 : wm1 x k = k + cnt yay x.Reaches:=rfl
 have e2 : wm2 x k = wm1 x k + 2 * x.Ways.length:=rfl
 have e3 : wm3 x k = wm2 x k + cnt yaJ x.Works:=rfl
 have e4 : wm4 x k = wm3 x k + cnt yap x.Movers:=rfl
 have e5 : wm5 x k = wm4 x k + cnt yE x.Arrived:=rfl
 have e6 : wm6 x k = wm5 x k + x.Entered.length:=rfl
 have e7 : wm7 x k = wm6 x k + nT x.Tariff:=rfl
 have e8 : wm8 x k = wm7 x k + 5 * x.Book.length:=rfl
 have e9 : wm9 x k = wm8 x k + cnt yae x.Passings:=rfl
 have m1:=yr8 x.Reaches k h0 (by omega)
 have m2:=ywa x.Ways.length (wm1 x k) (by omega) (by omega)
 have m3:=ytK x.Works (wm2 x k) (by omega) (by omega)
 have m4:=yqF x.Movers (wm3 x k) (by omega) (by omega)
 have m5:=ylK x.Arrived (wm4 x k) (by omega) (by omega)
 have m6:=yh1 x.Entered.length (wm5 x k) (by omega) (by omega)
 have m7:=ysr x.Tariff x.Tariff.Base x.Tariff.PerArea (wm6 x k) (by omega) (by omega)
 have m8:=ysf x.Book.length (wm7 x k) (by omega) (by omega)
 have m9:=yol x.Passings (wm8 x k) (by omega) (by omega)
 rw [← e1] at m1; rw [← e2] at m2; rw [← e3] at m3; rw [← e4] at m4; rw [← e5] at m5; rw [← e6] at m6; rw [← e7] at m7; rw [← e8] at m8; rw [← e9] at m9
 have n1 : (wm1 x k < 0) = False:=by simp; omega
 have n2 : (wm2 x k < 0) = False:=by simp; omega
 have n3 : (wm3 x k < 0) = False:=by simp; omega
 have n4 : (wm4 x k < 0) = False:=by simp; omega
 have n5 : (wm5 x k < 0) = False:=by simp; omega
 have n6 : (wm6 x k < 0) = False:=by simp; omega
 have n7 : (wm7 x k < 0) = False:=by simp; omega
 have n8 : (wm8 x k < 0) = False:=by simp; omega
 have n9 : (wm9 x k < 0) = False:=by simp; omega
 clear e1 e2 e3 e4 e5 e6 e7 e8 e9
 unfold yAe
 refine yh yjM ?_
 simp -dsimp -implicitDefEqProofs
 refine yc m1 ?_
 simp -dsimp -implicitDefEqProofs [n1]
 refine yc m2 ?_
 simp -dsimp -implicitDefEqProofs [n2]
 refine yc m3 ?_
 simp -dsimp -implicitDefEqProofs [n3]
 refine yc m4 ?_
 simp -dsimp -implicitDefEqProofs [n4]
 refine yc m5 ?_
 simp -dsimp -implicitDefEqProofs [n5]
 refine yc m6 ?_
 simp -dsimp -implicitDefEqProofs [n6]
 refine yc m7 ?_
 simp -dsimp -implicitDefEqProofs [n7]
 refine yc m8 ?_
 simp -dsimp -implicitDefEqProofs [n8]
 refine yc m9 ?_
 simp -dsimp -implicitDefEqProofs [n9]
theorem yAl (x : Waterway) (k : Int) : wm9 x k ≤ k + 27 * (ycp x : Int):=by
 have a1:=ydt yum x.Reaches
 have a2:=ydt yvC x.Works
 have a3:=ydt ytr x.Movers
 have a4:=ydt ymK x.Arrived
 have a5:=ydt yrm x.Passings
 have b1 : ydQ x.Reaches = yd0 yaZ x.Reaches:=rfl
 have b2 : yeJ x.Works = yd0 yg5 x.Works:=rfl
 have b3 : yiG x.Movers = yd0 ygb x.Movers:=rfl
 have b4 : yf0 x.Arrived = yd0 yci x.Arrived:=rfl
 have b5 : yhy x.Passings = yd0 ydZ x.Passings:=rfl
 have c1 : yox x.Ways = x.Ways.length:=rfl
 have c2 : ydD x.Entered = x.Entered.length:=rfl
 have c3 : ykt x.Book = x.Book.length:=rfl
 have c4 : ydD x.Tariff.PerClass = x.Tariff.PerClass.length:=rfl
 have c5 : ydD x.Tariff.Weights = x.Tariff.Weights.length:=rfl
 simp only [wm1,wm2,wm3,wm4,wm5,wm6,wm7,wm8,wm9,nT,ycp,yhC]
 omega
theorem yrQ {α : Type} {f : Int → α → List C} {n : α → Nat} {k : Int} {xs : List α} : (yaA f n k xs).take xs.length = yaA f n k xs:=List.take_of_length_le (by rw [yH]; exact Nat.le_refl _)
theorem yOT (xs : List (List Mover)) : ykv (xs.map yZ) = some (xs.map yZ):=by
 induction xs with
 | nil=>rfl
 | cons a xs ih=>rw [List.map_cons]; simp only [ykv,ih]; rfl
theorem yO1 {rows rs : List (List C)} {r s : List C} (h : ykv rows = some rs) (hr : ybQ r = some s) (k : Nat) : ykv (rows.set k r) = some (rs.set k s):=by
 induction rows generalizing rs k with
 | nil=>simp only [ykv,Option.some.injEq] at h; subst h; rfl
 | cons a l ih =>
  simp only [ykv] at h
  cases ha : ybQ a with
  | none=>rw [ha] at h; cases h
  | some x =>
   cases hl : ykv l with
   | none=>rw [ha,hl] at h; cases h
   | some y =>
    rw [ha,hl] at h
    simp only [Option.some.injEq] at h
    subst h
    cases k with
    | zero=>simp only [List.set_cons_zero,ykv,hr,hl]
    | succ k=>simp only [List.set_cons_succ,ykv,ha,ih hl k]
abbrev yPL:=List Mover × List Work × List Train
def noRoom (W : List Work) (j : Nat) : Bool:=match W[j]? with
 | some w=>decide (24 ≤ w.Calls.length)
 | none=>true
def yPp (W : List Work) (j : Nat) (c : CallT) : List Work:=match W[j]? with
 | some w=>W.set j { w with Calls:=w.Calls ++ [c] }
 | none=>W
def yPz (k : Nat) (t : Train) : Nat:=if t.Up then k - 1 else k
def yPj (x : Waterway) (k : Nat) (t : Train) : Bool:=(t.Up && decide (k = 0)) || (!t.Up && decide (k + 1 = x.Reaches.length))
def yPb (x : Waterway) (k : Nat) (w : Way) (s : yPL) (m : Mover) : yPL :=
 if AtEnd m w then
  if yPj x k m.Train then (s.1,s.2.1,s.2.2 ++ [m.Train])
  else if noRoom s.2.1 (yPz k m.Train) then (s.1 ++ [m],s.2)
  else (s.1,yPp s.2.1 (yPz k m.Train) ⟨m.Train,x.Time,-1⟩,s.2.2)
 else (s.1 ++ [m],s.2)
def yPc (x : Waterway) (k : Nat) (w : Way) (r : Reach) (s : List Work × List Train) (ms : List Mover) : yPL :=
 ms.foldl (fun q m=>yPb x k w q (yPd m w r)) ([],s)
def yPa (x : Waterway) : Nat → List (List Mover) × List Work × List Train
 | 0=>([],x.Works,x.Arrived)
 | k + 1=>match x.Ways[k]?,x.Reaches[k]?,x.Movers[k]? with
  | some w,some r,some ms=>((yPa x k).1 ++ [(yPc x k w r (yPa x k).2 ms).1],(yPc x k w r (yPa x k).2 ms).2)
  | _,_,_=>yPa x k
def yPv (x : Waterway) : Waterway:={ x with Movers:=(yPa x x.Movers.length).1,Works:=(yPa x x.Movers.length).2.1,Arrived:=(yPa x x.Movers.length).2.2 }
def yPf (x : Waterway) : Waterway:=if yar x && yar (yPv x) then yPv x else x
theorem yPw (W : List Work) (j : Nat) (c : CallT) : (yPp W j c).length = W.length:=by unfold yPp; split <;> simp
theorem yQ6 {x : Waterway} {k : Nat} {w : Way} {s : yPL} {m : Mover} : (yPb x k w s m).1.length ≤ s.1.length + 1 ∧ (yPb x k w s m).2.1.length = s.2.1.length ∧ (yPb x k w s m).2.2.length ≤ s.2.2.length + 1:=by
 unfold yPb
 split
 ·split
  ·simp
  ·split
   ·simp
   ·simp [yPw]
 ·simp
theorem yQZ {x : Waterway} {k : Nat} {w : Way} {r : Reach} (ms : List Mover) : ∀ s : yPL,(ms.foldl (fun q m=>yPb x k w q (yPd m w r)) s).1.length ≤ s.1.length + ms.length ∧ (ms.foldl (fun q m=>yPb x k w q (yPd m w r)) s).2.1.length = s.2.1.length ∧ (ms.foldl (fun q m=>yPb x k w q (yPd m w r)) s).2.2.length ≤ s.2.2.length + ms.length:=by
 induction ms with
 | nil=>intro s; simp
 | cons m ms ih =>
  intro s
  obtain ⟨a1,a2,a3⟩:=ih (yPb x k w s (yPd m w r))
  obtain ⟨b1,b2,b3⟩:=yQ6 (x:=x) (k:=k) (w:=w) (s:=s) (m:=yPd m w r)
  simp only [List.foldl_cons,List.length_cons]
  omega
theorem yRx (es : List Work) (hl : es.length ≤ 1048576) : ybh Tryz.prog 136 [.c (.sl 22 (es.map Work.enc))] (.c (.ot 22 (es.map Work.enc))):=by
 refine yan ydu ?_
 simp -dsimp -implicitDefEqProofs [ybJ,yt]
 omega
theorem yRA (es : List Train) : yB Tryz.prog 137 [.c (.sl 2 (es.map Train.enc))] (.clip 2 (es.map Train.enc)):=by
 refine yh yPq ?_
 simp -dsimp -implicitDefEqProofs [yPg,yt]
end Go.Proofs.YtjojilkdkgmbgaaGreat
