/- What the law FnOnceIn stands on: contracts of functions, what each answers as plain Lean, in short form (names, layout). -/
import Derived.Test.YtpiplmnecmkafaaGreatSOnceIn2
set_option linter.all false
namespace Go.Proofs.YtpiplmnecmkafaaGreat
open Go.RowKit
theorem ywh (x : Waterway) (hs : x.small) : yB Tryz.prog 132 [.agg (x.enc.map .c)] (.c (.b (ybW x))):=by
 have hsA:=hs.2.2.2.2.1
 have hsP:=hs.2.2.2.2.2.2.2.2
 refine yh ynw ?_
 simp -dsimp -implicitDefEqProofs
 intro hlA
 refine ⟨fun h3=>?_,fun h3=>(lno1 (by omega))⟩
 intro hlE
 refine ⟨fun h4=>?_,fun h4=>(lno2 (by omega))⟩
 intro hlP
 refine ⟨fun h5=>(lno3 (by omega)),fun h5=>?_⟩
 refine yg (ι:=Nat) (fun k=>k ≤ x.Arrived.length ∧ ∀ t ∈ x.Arrived.take k,yP t = true) (fun k=>yO [(1,.box 1 0),(3,.c (.i k))] [(1,.box (x.enc.map .c))]) (fun k=>x.Arrived.length - k) 0 (by simp) (by apply yj <;> simp) ?_
 rintro k ⟨hk,hall⟩
 rcases Nat.lt_or_ge k x.Arrived.length with hlt | hge
 ·obtain ⟨t,ht⟩ : ∃ w,x.Arrived[k]? = some w:=⟨_,List.getElem?_eq_getElem hlt⟩
  have g1:=(List.getElem?_eq_some_iff.1 ht).2
  simp -dsimp -implicitDefEqProofs [ht,g1,hlt,yG hlt]
  intro _
  refine yc (yds t (hsA.2 t (List.mem_of_getElem? ht))) ?_
  cases h6 : yP t with
  | false=>simp -dsimp -implicitDefEqProofs; exact lno4 ht h6
  | true =>
   simp -dsimp -implicitDefEqProofs
   refine ⟨yw hlt hlA,k + 1,⟨hlt,yL (p:=yP) ht hall h6⟩,by omega,?_⟩
   apply yj <;> simp
 have hA:=yX (p:=yP) hge hall
 simp -dsimp -implicitDefEqProofs [yaB hge]
 refine fun _=>yg (ι:=Nat) (fun k=>k ≤ x.Entered.length ∧ ∀ t ∈ x.Entered.take k,inRange t 1 9999 = true) (fun k=>yO [(1,.box 1 0),(4,.c (.i k))] [(1,.box (x.enc.map .c))]) (fun k=>x.Entered.length - k) 0 (by simp) (by apply yj <;> simp) ?_
 clear hall hk hge k
 rintro k ⟨hk,hall⟩
 rcases Nat.lt_or_ge k x.Entered.length with hlt | hge
 ·obtain ⟨t,ht⟩ : ∃ w,x.Entered[k]? = some w:=⟨_,List.getElem?_eq_getElem hlt⟩
  have g1:=(List.getElem?_eq_some_iff.1 ht).2
  simp -dsimp -implicitDefEqProofs [ht,g1,hlt,yG hlt]
  intro _
  refine yc (yD t 1 9999) ?_
  cases h6 : inRange t 1 9999 with
  | false=>simp -dsimp -implicitDefEqProofs; exact lno5 ht h6
  | true =>
   simp -dsimp -implicitDefEqProofs
   refine ⟨yw hlt hlE,k + 1,⟨hlt,yL (p:=fun n=>inRange n 1 9999) ht hall h6⟩,by omega,?_⟩
   apply yj <;> simp
 have hE:=yX (p:=fun n=>inRange n 1 9999) hge hall
 simp -dsimp -implicitDefEqProofs [yaB hge]
 refine fun _=>yg (ι:=Nat) (fun k=>k ≤ x.Passings.length ∧ ∀ t ∈ x.Passings.take k,yc9 x.Works.length t = true) (fun k=>yO [(1,.box 1 0),(5,.c (.i k))] [(1,.box (x.enc.map .c))]) (fun k=>x.Passings.length - k) 0 (by simp) (by apply yj <;> simp) ?_
 clear hall hk hge k
 rintro k ⟨hk,hall⟩
 rcases Nat.lt_or_ge k x.Passings.length with hlt | hge
 ·obtain ⟨t,ht⟩ : ∃ w,x.Passings[k]? = some w:=⟨_,List.getElem?_eq_getElem hlt⟩
  have g1:=(List.getElem?_eq_some_iff.1 ht).2
  simp -dsimp -implicitDefEqProofs [ht,g1,hlt,yG hlt]
  intro _
  refine yc (yD t.Time 0 1000000) ?_
  cases h6 : inRange t.Time 0 1000000 with
  | false=>simp -dsimp -implicitDefEqProofs; exact yxw ht (by simp [yc9,h6])
  | true =>
  simp -dsimp -implicitDefEqProofs
  refine fun hlW=>⟨by unfold maxLen at hlW; unfold inI; omega,?_⟩
  refine yc (yD t.Work 0 (x.Works.length - 1)) ?_
  cases h7 : inRange t.Work 0 (x.Works.length - 1) with
  | false=>simp -dsimp -implicitDefEqProofs; exact yxw ht (by simp [yc9,h7])
  | true =>
  simp -dsimp -implicitDefEqProofs
  refine yc (yds t.Train (hsP.2 t (List.mem_of_getElem? ht))) ?_
  cases h8 : yP t.Train with
  | false=>simp -dsimp -implicitDefEqProofs; exact yxw ht (by simp [yc9,h8])
  | true =>
  simp -dsimp -implicitDefEqProofs
  refine ⟨yw hlt hlP,k + 1,⟨hlt,yL (p:=yc9 x.Works.length) ht hall (by simp [yc9,h6,h7,h8])⟩,by omega,?_⟩
  apply yj <;> simp
 have hP:=yX (p:=yc9 x.Works.length) hge hall
 simp -dsimp -implicitDefEqProofs [yaB hge]
 intro _
 have a3 : x.Arrived.length ≤ 500:=by omega
 have a4 : x.Entered.length ≤ 2000:=by omega
 have a5 : x.Passings.length ≤ 500:=by omega
 simp only [ybW,a3,a4,a5,hA,hE,hP]; simp
theorem ym6 (x : Waterway) (hs : x.small) : yB Tryz.prog 84 [.agg (x.enc.map .c)] (.c (.b (yar x))):=by
 refine yh yk1 ?_
 simp -dsimp -implicitDefEqProofs
 refine yc (yD x.Time 0 1000000) ?_
 cases h1 : inRange x.Time 0 1000000 with
 | false=>simp -dsimp -implicitDefEqProofs; simp [yar,h1]
 | true =>
 simp -dsimp -implicitDefEqProofs
 refine yc (yD x.Start 0 1000000000) ?_
 cases h2 : inRange x.Start 0 1000000000 with
 | false=>simp -dsimp -implicitDefEqProofs; simp [yar,h2]
 | true =>
 simp -dsimp -implicitDefEqProofs
 refine yc (yD x.In 0 1000000000) ?_
 cases h3 : inRange x.In 0 1000000000 with
 | false=>simp -dsimp -implicitDefEqProofs; simp [yar,h3]
 | true =>
 simp -dsimp -implicitDefEqProofs
 refine yc (yD x.Out 0 1000000000) ?_
 cases h4 : inRange x.Out 0 1000000000 with
 | false=>simp -dsimp -implicitDefEqProofs; simp [yar,h4]
 | true =>
 simp -dsimp -implicitDefEqProofs
 refine yc (yv2 x hs) ?_
 cases h5 : ybi x with
 | false=>simp -dsimp -implicitDefEqProofs; simp [yar,h5]
 | true =>
 simp -dsimp -implicitDefEqProofs
 refine yc (ywh x hs) ?_
 cases h6 : ybW x with
 | false=>simp -dsimp -implicitDefEqProofs; simp [yar,h6]
 | true =>
 simp -dsimp -implicitDefEqProofs
 refine yc (yre x.Tariff) ?_
 cases h7 : ya9 x.Tariff with
 | false=>simp -dsimp -implicitDefEqProofs; simp [yar,h7]
 | true =>
 simp -dsimp -implicitDefEqProofs
 refine yc (yuL x.Book) ?_
 simp -dsimp -implicitDefEqProofs
 simp [yar,h1,h2,h3,h4,h5,h6,h7]
def yNH (w : Work) : Int:=w.Lock.Water
def yNB (x : Waterway) : Int:=if yar x then yNz x.Reaches + (x.Works.map yNH).sum else 0
def yND (x : Waterway) (k : Nat) : Int:=((x.Works.take k).map yNH).sum
theorem yNR {x : Waterway} : yND x 0 = 0:=rfl
theorem yNQ {x : Waterway} {k : Nat} {w : Work} (h : x.Works[k]? = some w) : yND x (k + 1) = yND x k + w.Lock.Water:=by
 unfold yND; rw [List.take_succ,h]; simp [yNH]
theorem yNF {x : Waterway} {k : Nat} (h : x.Works.length ≤ k) : yND x k = (x.Works.map yNH).sum:=by unfold yND; rw [List.take_of_length_le h]
structure WaterFacts (x : Waterway) : Prop where
 river : ycM x.Reaches = true
 few : x.Works.length ≤ 5
 rng : ∀ w ∈ x.Works,0 ≤ w.Lock.Water ∧ w.Lock.Water ≤ 1000000000
 start : 0 ≤ x.Start ∧ x.Start ≤ 1000000000
 inn : 0 ≤ x.In ∧ x.In ≤ 1000000000
 out : 0 ≤ x.Out ∧ x.Out ≤ 1000000000
theorem yqj {x : Waterway} (h : yar x = true) : WaterFacts x:=by
 simp only [yar,Bool.and_eq_true] at h
 obtain ⟨⟨⟨⟨⟨⟨⟨h1,h2⟩,h3⟩,h4⟩,h5⟩,h6⟩,h7⟩,h8⟩:=h
 simp only [ybi,Bool.and_eq_true,decide_eq_true_eq,List.all_eq_true] at h2
 obtain ⟨⟨⟨⟨⟨⟨p1,p2⟩,p3⟩,p4⟩,p5⟩,p6⟩,p7⟩:=h2
 have rf:=(ywm p1).len
 refine ⟨p1,by omega,fun w hw=>?_,yF.1 h6,yF.1 h7,yF.1 h8⟩
 have:=p7 w hw
 simp only [ybd,ybg,Bool.and_eq_true] at this
 exact yF.1 this.1.1.1.1.1.1.1.1.2
theorem yNC {x : Waterway} (h : WaterFacts x) : ∀ k : Nat,0 ≤ yND x k ∧ yND x k ≤ 1000000000 * k
 | 0=>by rw [yNR]; omega
 | k + 1=>by
  have ih:=yNC h k
  have e2 : ((k + 1 : Nat) : Int) = k + 1:=by simp
  cases hk : x.Works[k]? with
  | none =>
   have hl : x.Works.length ≤ k:=by simpa using hk
   rw [yNF (by omega),← yNF hl]; omega
  | some w =>
   have:=h.rng w (List.mem_of_getElem? hk)
   rw [yNQ hk]; omega
theorem yNI {l : List Reach} (h : ycM l = true) : 0 ≤ yNz l ∧ yNz l ≤ 1000000000:=by
 have:=(ywm h).rng
 simp [yNz,h]; omega
theorem yN3 (x : Waterway) : 0 ≤ yNB x ∧ yNB x ≤ 6000000000:=by
 unfold yNB
 split
 ·rename_i h
  have f:=yqj h
  have h1:=yNI f.river
  have h2:=yNC f x.Works.length
  have h3:=f.few
  rw [yNF (Nat.le_refl _)] at h2
  omega
 ·omega
theorem yOa (x : Waterway) (hs : x.small) : yB Tryz.prog 33 [.agg (x.enc.map .c)] (.c (.i (yNB x))):=by
 refine yh yN8 ?_
 simp -dsimp -implicitDefEqProofs
 refine yc (yns x hs) ?_
 cases h : yar x with
 | false=>simp -dsimp -implicitDefEqProofs; simp [yNB,h]
 | true =>
 have f:=yqj h
 have hr:=yNI f.river
 have hfew:=f.few
 have hW : yNB x = yNz x.Reaches + (x.Works.map yNH).sum:=by simp [yNB,h]
 simp -dsimp -implicitDefEqProofs
 refine yc (yN5 x.Reaches) ?_
 simp -dsimp -implicitDefEqProofs
 intro hlen
 refine yg (ι:=Nat) (fun k=>k ≤ x.Works.length) (fun k=>yO [(3,.c (.i (yNz x.Reaches + yND x k))),(13,.c (.sl 22 (x.Works.map Work.enc))),(14,.c (.i x.Works.length)),(15,.c (.i k))] []) (fun k=>x.Works.length - k) 0 (by simp) (by apply yj <;> simp [yNR]) ?_
 rintro k hk
 rcases Nat.lt_or_ge k x.Works.length with hlt | hge
 ·obtain ⟨w,hw⟩ : ∃ w,x.Works[k]? = some w:=⟨_,List.getElem?_eq_getElem hlt⟩
  have g1:=(List.getElem?_eq_some_iff.1 hw).2
  have e1:=yNQ hw
  have hb:=yNC f (k + 1)
  have hb0:=yNC f k
  rw [e1] at hb
  simp -dsimp -implicitDefEqProofs [hw,g1,yG hlt,hlt]
  refine ⟨by unfold inI; omega,yw hlt hlen,k + 1,hlt,by omega,?_⟩
  apply yj <;> simp [e1]
  omega
 ·simp -dsimp -implicitDefEqProofs [yaB hge]
  rw [yNF hge,hW]
theorem yOc (x : Waterway) (hs : x.small) : yB Tryz.prog 83 [.agg (x.enc.map .c)] (.c (.i (yNB x))):=by
 refine yh yN7 ?_
 simp -dsimp -implicitDefEqProofs
 refine yc (ym6 x hs) ?_
 cases h : yar x with
 | false=>simp -dsimp -implicitDefEqProofs; simp [yNB,h]
 | true =>
 have f:=yqj h
 have hr:=yNI f.river
 have hfew:=f.few
 have hW : yNB x = yNz x.Reaches + (x.Works.map yNH).sum:=by simp [yNB,h]
 simp -dsimp -implicitDefEqProofs
 refine yc (yN4 x.Reaches) ?_
 simp -dsimp -implicitDefEqProofs
 refine yg (ι:=Nat) (fun k=>k ≤ x.Works.length) (fun k=>yO [(1,.box 1 0),(3,.c (.i (yNz x.Reaches + yND x k))),(4,.c (.i k))] [(1,.box (x.enc.map .c))]) (fun k=>x.Works.length - k) 0 (by simp) (by apply yj <;> simp [yNR]) ?_
 rintro k hk
 rcases Nat.lt_or_ge k x.Works.length with hlt | hge
 ·obtain ⟨w,hw⟩ : ∃ w,x.Works[k]? = some w:=⟨_,List.getElem?_eq_getElem hlt⟩
  have g1:=(List.getElem?_eq_some_iff.1 hw).2
  have e1:=yNQ hw
  have hb:=yNC f (k + 1)
  have hb0:=yNC f k
  rw [e1] at hb
  simp -dsimp -implicitDefEqProofs [hw,g1,yG hlt,hlt]
  refine fun hlen=>⟨by unfold inI; omega,yw hlt hlen,k + 1,hlt,by omega,?_⟩
  apply yj <;> simp [e1]
  omega
 ·simp -dsimp -implicitDefEqProofs [yaB hge]
  intro _
  rw [yNF hge,hW]
def yVD (x : Waterway) : Bool:=yar x && decide (yNB x + x.Out = x.Start + x.In)
theorem yVT (x : Waterway) (hs : x.small) : yB Tryz.prog 14 [.agg (x.enc.map .c)] (.c (.b (yVD x))):=by
 refine yh yVP ?_
 simp -dsimp -implicitDefEqProofs
 refine yaC (yns x hs) ?_
 cases h : yar x with
 | false=>simp -dsimp -implicitDefEqProofs; simp [yVD,h]
 | true =>
 have f:=yqj h
 have f1:=f.start; have f2:=f.inn; have f3:=f.out
 have hw:=yN3 x
 simp -dsimp -implicitDefEqProofs
 refine yaC (yOa x hs) ?_
 simp -dsimp -implicitDefEqProofs
 refine ⟨by unfold inI; omega,by unfold inI; omega,?_⟩
 simp [yVD,h]
theorem ybn {α : Type} {f : α → List C} (h : ∀ x,∀ c ∈ f x,c.closed) (k : Nat) (l : List α) : (C.ot k (l.map f)).closed:=by
 simp only [C.closed,List.mem_map]
 rintro r ⟨x,_,rfl⟩ c hc
 exact h x c hc
theorem yb5 {l : List C} (h : ∀ c ∈ l,c.closed) : (AV.agg (l.map .c)).closed:=by
 show ∀ c,c ∈ AV.cs (l.map AV.c) → c.closed
 rw [ylW]; exact h
theorem ygL (xs : List Boat) : ∀ c ∈ yT xs,c.closed:=by simp [yT,C.closed]
theorem Train.yad (e : Train) : ∀ c ∈ e.yI,c.closed:=by
 simp only [Train.yI,List.mem_cons,List.not_mem_nil,or_false,forall_eq_or_imp,forall_eq]
 exact ⟨by simp [C.closed],ybn ygL _ _⟩
theorem Mover.yad (e : Mover) : ∀ c ∈ e.yI,c.closed:=by
 simp only [Mover.yI,List.mem_cons,List.not_mem_nil,or_false,forall_eq_or_imp,forall_eq]
 exact ⟨by simp [C.closed],ybn ygL _ _,by simp [C.closed]⟩
theorem Reach.yad (e : Reach) : ∀ c ∈ e.yI,c.closed:=by
 simp only [Reach.yI,List.mem_cons,List.not_mem_nil,or_false,forall_eq_or_imp,forall_eq]
 exact ⟨by simp [C.closed],by simp [C.closed],by simp [C.closed]⟩
theorem Tariff.yad (e : Tariff) : ∀ c ∈ e.yI,c.closed:=by
 simp only [Tariff.yI,List.mem_cons,List.not_mem_nil,or_false,forall_eq_or_imp,forall_eq]
 exact ⟨by simp [C.closed],by simp [C.closed],by simp [C.closed],by simp [C.closed]⟩
def yay (e : Reach) : Nat:=2 * e.Table.length + 1 + e.Pipe.length
def ycQ (k : Int) (e : Reach) : List C:=[.ow 2 (marked mkPt 2 [] k e.Table.length),.i (k + 2 * (e.Table.length : Int)),.ow 1 (marked yJ 1 [] (k + 2 * (e.Table.length : Int) + 1) e.Pipe.length)]
def ydz (k : Int) : List C:=[.i k,.i (k + 1)]
def ybT (k : Int) : List C:=[.i k,.i (k + 1)]
def yE (e : Train) : Nat:=1 + cnt nB e.Rows
def ybN (k : Int) (e : Train) : List C:=[.b (decide (k.tmod 3 = 0)),.ot 1 (yaA fB nB (k + 1) e.Rows)]
@[simp] def CallT.yI (e : CallT) : List C:=[.b e.Train.Up,.ot 1 (e.Train.Rows.map yT),.i e.Since,.i e.Booked]
theorem CallT.yaa (e : CallT) : ybQ e.yI = some e.enc:=by simp [CallT.yI,ybQ,ydl yeg]
theorem CallT.yad (e : CallT) : ∀ c ∈ e.yI,c.closed:=by
 simp only [CallT.yI,List.mem_cons,List.not_mem_nil,or_false,forall_eq_or_imp,forall_eq]
 exact ⟨by simp [C.closed],ybn ygL _ _,by simp [C.closed],by simp [C.closed]⟩
def yaI (e : CallT) : Nat:=1 + cnt nB e.Train.Rows + 1 + 1
def yeu (k : Int) (e : CallT) : List C:=[.b (decide (k.tmod 3 = 0)),.ot 1 (yaA fB nB (k + 1) e.Train.Rows),.i (k + 1 + (cnt nB e.Train.Rows : Int)),.i (k + 1 + (cnt nB e.Train.Rows : Int) + 1)]
@[simp] def Lock.yI (e : Lock) : List C:=[.i e.Length,.i e.Width,.i e.SillAbove,.i e.SillBelow,.i e.Base,.i e.Area,.i e.Rate,.i e.Water,.i e.Gate,.ot 2 (e.Inside.map Train.yI)]
theorem Lock.yaa (e : Lock) : ybQ e.yI = some e.enc:=by simp [Lock.yI,ybQ,ydl Train.yaa]
theorem Lock.yad (e : Lock) : ∀ c ∈ e.yI,c.closed:=by
 simp only [Lock.yI,List.mem_cons,List.not_mem_nil,or_false,forall_eq_or_imp,forall_eq]
 exact ⟨by simp [C.closed],by simp [C.closed],by simp [C.closed],by simp [C.closed],by simp [C.closed],by simp [C.closed],by simp [C.closed],by simp [C.closed],by simp [C.closed],ybn Train.yad _ _⟩
@[simp] def Work.yI (e : Work) : List C:=[.i e.Lock.Length,.i e.Lock.Width,.i e.Lock.SillAbove,.i e.Lock.SillBelow,.i e.Lock.Base,.i e.Lock.Area,.i e.Lock.Rate,.i e.Lock.Water,.i e.Lock.Gate,.ot 2 (e.Lock.Inside.map Train.yI),.i e.Weir.Gates,.i e.Weir.Open,.i e.Weir.Step,.i e.Weir.Crest,.i e.Weir.Width,.i e.Rule.Low,.i e.Rule.High,.i e.Rule.Flood,.ow 2 (e.Pauses.map Pause.enc),.b e.Turn.Up,.i e.Turn.Count,.ot 4 (e.Calls.map CallT.yI)]
theorem Work.yaa (e : Work) : ybQ e.yI = some e.enc:=by simp [Work.yI,ybQ,ydl Train.yaa,ydl CallT.yaa]
theorem Work.yad (e : Work) : ∀ c ∈ e.yI,c.closed:=by
 simp only [Work.yI,List.mem_cons,List.not_mem_nil,or_false,forall_eq_or_imp,forall_eq]
 exact ⟨by simp [C.closed],by simp [C.closed],by simp [C.closed],by simp [C.closed],by simp [C.closed],by simp [C.closed],by simp [C.closed],by simp [C.closed],by simp [C.closed],ybn Train.yad _ _,by simp [C.closed],by simp [C.closed],by simp [C.closed],by simp [C.closed],by simp [C.closed],by simp [C.closed],by simp [C.closed],by simp [C.closed],by simp [C.closed],by simp [C.closed],by simp [C.closed],ybn CallT.yad _ _⟩
def yaJ (e : Work) : Nat:=1 + 1 + 1 + 1 + 1 + 1 + 1 + 1 + 1 + cnt yE e.Lock.Inside + 1 + 1 + 1 + 1 + 1 + 1 + 1 + 1 + 2 * e.Pauses.length + 1 + 1 + cnt yaI e.Calls
def ydH (k : Int) (e : Work) : List C:=[.i k,.i (k + 1),.i (k + 1 + 1),.i (k + 1 + 1 + 1),.i (k + 1 + 1 + 1 + 1),.i (k + 1 + 1 + 1 + 1 + 1),.i (k + 1 + 1 + 1 + 1 + 1 + 1),.i (k + 1 + 1 + 1 + 1 + 1 + 1 + 1),.i (k + 1 + 1 + 1 + 1 + 1 + 1 + 1 + 1),.ot 2 (yaA ybN yE (k + 1 + 1 + 1 + 1 + 1 + 1 + 1 + 1 + 1) e.Lock.Inside),.i (k + 1 + 1 + 1 + 1 + 1 + 1 + 1 + 1 + 1 + (cnt yE e.Lock.Inside : Int)),.i (k + 1 + 1 + 1 + 1 + 1 + 1 + 1 + 1 + 1 + (cnt yE e.Lock.Inside : Int) + 1),.i (k + 1 + 1 + 1 + 1 + 1 + 1 + 1 + 1 + 1 + (cnt yE e.Lock.Inside : Int) + 1 + 1),.i (k + 1 + 1 + 1 + 1 + 1 + 1 + 1 + 1 + 1 + (cnt yE e.Lock.Inside : Int) + 1 + 1 + 1),.i (k + 1 + 1 + 1 + 1 + 1 + 1 + 1 + 1 + 1 + (cnt yE e.Lock.Inside : Int) + 1 + 1 + 1 + 1),.i (k + 1 + 1 + 1 + 1 + 1 + 1 + 1 + 1 + 1 + (cnt yE e.Lock.Inside : Int) + 1 + 1 + 1 + 1 + 1),.i (k + 1 + 1 + 1 + 1 + 1 + 1 + 1 + 1 + 1 + (cnt yE e.Lock.Inside : Int) + 1 + 1 + 1 + 1 + 1 + 1),.i (k + 1 + 1 + 1 + 1 + 1 + 1 + 1 + 1 + 1 + (cnt yE e.Lock.Inside : Int) + 1 + 1 + 1 + 1 + 1 + 1 + 1),.ow 2 (marked ybT 2 [] (k + 1 + 1 + 1 + 1 + 1 + 1 + 1 + 1 + 1 + (cnt yE e.Lock.Inside : Int) + 1 + 1 + 1 + 1 + 1 + 1 + 1 + 1) e.Pauses.length),.b (decide ((k + 1 + 1 + 1 + 1 + 1 + 1 + 1 + 1 + 1 + (cnt yE e.Lock.Inside : Int) + 1 + 1 + 1 + 1 + 1 + 1 + 1 + 1 + 2 * (e.Pauses.length : Int)).tmod 3 = 0)),.i (k + 1 + 1 + 1 + 1 + 1 + 1 + 1 + 1 + 1 + (cnt yE e.Lock.Inside : Int) + 1 + 1 + 1 + 1 + 1 + 1 + 1 + 1 + 2 * (e.Pauses.length : Int) + 1),.ot 4 (yaA yeu yaI (k + 1 + 1 + 1 + 1 + 1 + 1 + 1 + 1 + 1 + (cnt yE e.Lock.Inside : Int) + 1 + 1 + 1 + 1 + 1 + 1 + 1 + 1 + 2 * (e.Pauses.length : Int) + 1 + 1) e.Calls)]
def yax (xs : List Mover) : List C:=[.ot 3 (xs.map Mover.yI)]
theorem ycu (xs : List Mover) : ybQ (yax xs) = some (yZ xs):=by simp [yax,ybQ,ydl Mover.yaa]
theorem yk2 (xs : List Mover) : ∀ c ∈ yax xs,c.closed:=by
 intro c hc
 simp only [yax,List.mem_singleton] at hc
 subst hc
 exact ybn Mover.yad _ _
def yap (r : List Mover) : Nat:=cnt nM r
def ycj (k : Int) (r : List Mover) : List C:=[.ot 3 (yaA fM nM k r)]
@[simp] def Passing.yI (e : Passing) : List C:=[.i e.Time,.i e.Work,.b e.Train.Up,.ot 1 (e.Train.Rows.map yT)]
theorem Passing.yaa (e : Passing) : ybQ e.yI = some e.enc:=by simp [Passing.yI,ybQ,ydl yeg]
theorem Passing.yad (e : Passing) : ∀ c ∈ e.yI,c.closed:=by
 simp only [Passing.yI,List.mem_cons,List.not_mem_nil,or_false,forall_eq_or_imp,forall_eq]
 exact ⟨by simp [C.closed],by simp [C.closed],by simp [C.closed],ybn ygL _ _⟩
def yae (e : Passing) : Nat:=1 + 1 + 1 + cnt nB e.Train.Rows
def ybL (k : Int) (e : Passing) : List C:=[.i k,.i (k + 1),.b (decide ((k + 1 + 1).tmod 3 = 0)),.ot 1 (yaA fB nB (k + 1 + 1 + 1) e.Train.Rows)]
@[simp] def Waterway.yI (e : Waterway) : List C:=[.i e.Time,.ot 3 (e.Reaches.map Reach.yI),.ow 2 (e.Ways.map Way.enc),.ot 22 (e.Works.map Work.yI),.ot 1 (e.Movers.map yax),.ot 2 (e.Arrived.map Train.yI),.ow 1 (e.Entered.map yJ),.i e.Tariff.Base,.i e.Tariff.PerArea,.ow 1 (e.Tariff.PerClass.map yJ),.ow 1 (e.Tariff.Weights.map yJ),.ow 5 (e.Book.map Entry.enc),.ot 4 (e.Passings.map Passing.yI),.i e.Start,.i e.In,.i e.Out]
theorem Waterway.yaa (e : Waterway) : ybQ e.yI = some e.enc:=by simp [Waterway.yI,ybQ,ydl Reach.yaa,ydl Work.yaa,ydl ycu,ydl Train.yaa,ydl Passing.yaa]
theorem Waterway.yad (e : Waterway) : ∀ c ∈ e.yI,c.closed:=by
 simp only [Waterway.yI,List.mem_cons,List.not_mem_nil,or_false,forall_eq_or_imp,forall_eq]
 exact ⟨by simp [C.closed],ybn Reach.yad _ _,by simp [C.closed],ybn Work.yad _ _,ybn yk2 _ _,ybn Train.yad _ _,by simp [C.closed],by simp [C.closed],by simp [C.closed],by simp [C.closed],by simp [C.closed],by simp [C.closed],ybn Passing.yad _ _,by simp [C.closed],by simp [C.closed],by simp [C.closed]⟩
theorem yAp (es : List Point) (hl : es.length ≤ 1048576) : ybh Tryz.prog 135 [.c (.sl 2 (es.map Point.enc))] (.c (.ow 2 (es.map Point.enc))):=by
 refine yan yc4 ?_
 simp -dsimp -implicitDefEqProofs [ybv,yt]
 omega
theorem yk9 (es : List Int) (hl : es.length ≤ 1048576) : ybh Tryz.prog 52 [.c (.sl 1 (es.map yJ))] (.c (.ow 1 (es.map yJ))):=by
 refine yan ygh ?_
 simp -dsimp -implicitDefEqProofs [ydx,yt]
 omega
theorem yx7 (es : List Pause) (hl : es.length ≤ 1048576) : ybh Tryz.prog 87 [.c (.sl 2 (es.map Pause.enc))] (.c (.ow 2 (es.map Pause.enc))):=by
 refine yan yc7 ?_
 simp -dsimp -implicitDefEqProofs [ybt,yt]
 omega
theorem yyE (es : List Way) (hl : es.length ≤ 1048576) : ybh Tryz.prog 48 [.c (.sl 2 (es.map Way.enc))] (.c (.ow 2 (es.map Way.enc))):=by
 refine yan ydE ?_
 simp -dsimp -implicitDefEqProofs [ybZ,yt]
 omega
theorem yz5 (es : List Entry) (hl : es.length ≤ 1048576) : ybh Tryz.prog 54 [.c (.sl 5 (es.map Entry.enc))] (.c (.ow 5 (es.map Entry.enc))):=by
 refine yan yc5 ?_
 simp -dsimp -implicitDefEqProofs [ybu,yt]
 omega
theorem ygB (e : Reach) (hl : Reach.small e) : ybh Tryz.prog 85 [.agg (e.enc.map .c)] (.agg (e.yI.map .c)):=by
 refine yan yms ?_
 simp -dsimp -implicitDefEqProofs
 refine yfW (yAp e.Table hl.1.1) (by simp ) (by simp [AV.closed,AV.ya7,C.closed]) (by simp [yU]) ?_
 simp -dsimp -implicitDefEqProofs [yt]
 refine yfW (yk9 e.Pipe hl.2.1) (by simp ) (by simp [AV.closed,AV.ya7,C.closed]) (by simp [yU]) ?_
 simp -dsimp -implicitDefEqProofs [yt]
theorem yrb (xs : List Reach) (hl : ycN xs) : ybh Tryz.prog 47 [.c (.sl 3 (xs.map Reach.enc))] (.c (.ot 3 (xs.map Reach.yI))):=by
 refine yan yku ?_
 simp -dsimp -implicitDefEqProofs
 intro hlen
 have hl1:=hl.1
 refine ⟨by omega,?_⟩
 intro _
 refine yg (ι:=Nat) (fun k=>k ≤ xs.length) (fun k=>yO [(3,.own 8 3 k),(9,.c (.sl 3 (xs.map Reach.enc))),(10,.c (.i xs.length)),(11,.c (.i k))] [(8,.tr 3 0 ((xs.take k).map Reach.yI))]) (fun k=>xs.length - k) 0 (by simp) (by apply yj <;> simp [Obj.leO]) ?_
 rintro k hk
 rcases Nat.lt_or_ge k xs.length with hlt | hge
 ·obtain ⟨e,he⟩ : ∃ e,xs[k]? = some e:=⟨_,List.getElem?_eq_getElem hlt⟩
  have hs : xs.take (k + 1) = xs.take k ++ [e]:=by rw [List.take_succ,he]; rfl
  have he2:=hl.2 e (List.mem_of_getElem? he)
  have g1:=(List.getElem?_eq_some_iff.1 he).2
  simp -dsimp -implicitDefEqProofs [he,g1,hlt,yG hlt]
  refine yQ (ygB e he2) (by simp) (yb5 (Reach.yad e)) (by simp [yU]) ?_
  simp -dsimp -implicitDefEqProofs [yt,Nat.min_eq_left hk,yeh]
  refine ⟨by omega,yw hlt hlen,k + 1,hlt,by omega,?_⟩
  have hs2 : (xs.map Reach.yI).take (k + 1) = (xs.map Reach.yI).take k ++ [Reach.yI e]:=by rw [← List.map_take,← List.map_take,hs,List.map_append]; rfl
  apply yj <;> simp [Obj.leO,hs2]
 ·have : k = xs.length:=by omega
  subst this
  simp -dsimp -implicitDefEqProofs [yt]
  try simp
theorem ykW (xs : List Train) (hl : ybV xs) : ybh Tryz.prog 51 [.c (.sl 2 (xs.map Train.enc))] (.c (.ot 2 (xs.map Train.yI))):=by
 refine yan ylm ?_
 simp -dsimp -implicitDefEqProofs
 intro hlen
 have hl1:=hl.1
 refine yfV (k0:=2) 3 2 (by simp) (by simp) (by decide) ?_
 refine yg (ι:=Nat) (fun k=>k ≤ xs.length) (fun k=>yO [(3,.own 3 2 k),(6,.c (.sl 2 (xs.map Train.enc))),(7,.c (.i xs.length)),(8,.c (.i k))] [(3,.tr 2 0 ((xs.take k).map Train.yI))]) (fun k=>xs.length - k) 0 (by simp) (by apply yj <;> simp [Obj.leO]) ?_
 rintro k hk
 rcases Nat.lt_or_ge k xs.length with hlt | hge
 ·obtain ⟨e,he⟩ : ∃ e,xs[k]? = some e:=⟨_,List.getElem?_eq_getElem hlt⟩
  have hs : xs.take (k + 1) = xs.take k ++ [e]:=by rw [List.take_succ,he]; rfl
  have he2:=hl.2 e (List.mem_of_getElem? he)
  have g1:=(List.getElem?_eq_some_iff.1 he).2
  simp -dsimp -implicitDefEqProofs [he,g1,hlt,yG hlt]
  refine yQ (ygJ e he2) (by simp) (yb5 (Train.yad e)) (by simp [yU]) ?_
  simp -dsimp -implicitDefEqProofs [yt,Nat.min_eq_left hk,yeh]
  refine ⟨by omega,yw hlt hlen,k + 1,hlt,by omega,?_⟩
  have hs2 : (xs.map Train.yI).take (k + 1) = (xs.map Train.yI).take k ++ [Train.yI e]:=by rw [← List.map_take,← List.map_take,hs,List.map_append]; rfl
  apply yj <;> simp [Obj.leO,hs2]
 ·have : k = xs.length:=by omega
  subst this
  simp -dsimp -implicitDefEqProofs [yt]
  try simp
theorem yuP (xs : List CallT) (hl : yfi xs) : ybh Tryz.prog 29 [.c (.sl 4 (xs.map CallT.enc))] (.c (.ot 4 (xs.map CallT.yI))):=by
 refine yan ymx ?_
 simp -dsimp -implicitDefEqProofs
 intro hlen
 have hl1:=hl.1
 refine yfV (k0:=4) 3 4 (by simp) (by simp) (by decide) ?_
 refine yg (ι:=Nat) (fun k=>k ≤ xs.length) (fun k=>yO [(3,.own 3 4 k),(6,.c (.sl 4 (xs.map CallT.enc))),(7,.c (.i xs.length)),(8,.c (.i k))] [(3,.tr 4 0 ((xs.take k).map CallT.yI))]) (fun k=>xs.length - k) 0 (by simp) (by apply yj <;> simp [Obj.leO]) ?_
 rintro k hk
 rcases Nat.lt_or_ge k xs.length with hlt | hge
 ·obtain ⟨e,he⟩ : ∃ e,xs[k]? = some e:=⟨_,List.getElem?_eq_getElem hlt⟩
  have hs : xs.take (k + 1) = xs.take k ++ [e]:=by rw [List.take_succ,he]; rfl
  have he2:=hl.2 e (List.mem_of_getElem? he)
  have g1:=(List.getElem?_eq_some_iff.1 he).2
  simp -dsimp -implicitDefEqProofs [he,g1,hlt,yG hlt]
  refine yfW (ygJ e.Train he2) (by simp) (yb5 (Train.yad e.Train)) (by simp [yU]) ?_
  simp -dsimp -implicitDefEqProofs [yt,Nat.min_eq_left hk,yeh]
  refine ⟨by omega,yw hlt hlen,k + 1,hlt,by omega,?_⟩
  have hs2 : (xs.map CallT.yI).take (k + 1) = (xs.map CallT.yI).take k ++ [CallT.yI e]:=by rw [← List.map_take,← List.map_take,hs,List.map_append]; rfl
  apply yj <;> simp [Obj.leO,hs2]
 ·have : k = xs.length:=by omega
  subst this
  simp -dsimp -implicitDefEqProofs [yt]
  try simp
theorem ysV (xs : List Mover) (hl : yfK xs) : ybh Tryz.prog 50 [.c (.sl 3 (xs.map Mover.enc))] (.c (.ot 3 (xs.map Mover.yI))):=by
 refine yan ylu ?_
 simp -dsimp -implicitDefEqProofs
 intro hlen
 have hl1:=hl.1
 refine yfV (k0:=3) 3 3 (by simp) (by simp) (by decide) ?_
 refine yg (ι:=Nat) (fun k=>k ≤ xs.length) (fun k=>yO [(3,.own 3 3 k),(6,.c (.sl 3 (xs.map Mover.enc))),(7,.c (.i xs.length)),(8,.c (.i k))] [(3,.tr 3 0 ((xs.take k).map Mover.yI))]) (fun k=>xs.length - k) 0 (by simp) (by apply yj <;> simp [Obj.leO]) ?_
 rintro k hk
 rcases Nat.lt_or_ge k xs.length with hlt | hge
 ·obtain ⟨e,he⟩ : ∃ e,xs[k]? = some e:=⟨_,List.getElem?_eq_getElem hlt⟩
  have hs : xs.take (k + 1) = xs.take k ++ [e]:=by rw [List.take_succ,he]; rfl
  have he2:=hl.2 e (List.mem_of_getElem? he)
  have g1:=(List.getElem?_eq_some_iff.1 he).2
  simp -dsimp -implicitDefEqProofs [he,g1,hlt,yG hlt]
  refine yfW (ygJ e.Train he2) (by simp) (yb5 (Train.yad e.Train)) (by simp [yU]) ?_
  simp -dsimp -implicitDefEqProofs [yt,Nat.min_eq_left hk,yeh]
  refine ⟨by omega,yw hlt hlen,k + 1,hlt,by omega,?_⟩
  have hs2 : (xs.map Mover.yI).take (k + 1) = (xs.map Mover.yI).take k ++ [Mover.yI e]:=by rw [← List.map_take,← List.map_take,hs,List.map_append]; rfl
  apply yj <;> simp [Obj.leO,hs2]
 ·have : k = xs.length:=by omega
  subst this
  simp -dsimp -implicitDefEqProofs [yt]
  try simp
theorem yws (e : Lock) (hl : Lock.small e) : ybh Tryz.prog 86 [.agg (e.enc.map .c)] (.agg (e.yI.map .c)):=by
 refine yan ym9 ?_
 simp -dsimp -implicitDefEqProofs
 refine yQ (ykW e.Inside hl) (by simp) (ybn Train.yad _ _) (by simp [yU]) ?_
 simp -dsimp -implicitDefEqProofs [yt]
theorem ysT (e : Tariff) (hl : Tariff.small e) : ybh Tryz.prog 53 [.agg (e.enc.map .c)] (.agg (e.yI.map .c)):=by
 refine yan ylf ?_
 simp -dsimp -implicitDefEqProofs
 refine yQ (yk9 e.PerClass hl.1) (by simp ) (by simp [AV.closed,AV.ya7,C.closed]) (by simp [yU]) ?_
 simp -dsimp -implicitDefEqProofs [yt]
 refine yQ (yk9 e.Weights hl.2) (by simp ) (by simp [AV.closed,AV.ya7,C.closed]) (by simp [yU]) ?_
 simp -dsimp -implicitDefEqProofs [yt]
theorem yuM (xs : List Work) (hl : yc8 xs) : ybh Tryz.prog 49 [.c (.sl 22 (xs.map Work.enc))] (.c (.ot 22 (xs.map Work.yI))):=by
 refine yan ymk ?_
 simp -dsimp -implicitDefEqProofs
 intro hlen
 have hl1:=hl.1
 refine yfV (k0:=22) 3 22 (by simp) (by simp) (by decide) ?_
 refine yg (ι:=Nat) (fun k=>k ≤ xs.length) (fun k=>yO [(3,.own 3 22 k),(6,.c (.sl 22 (xs.map Work.enc))),(7,.c (.i xs.length)),(8,.c (.i k))] [(3,.tr 22 0 ((xs.take k).map Work.yI))]) (fun k=>xs.length - k) 0 (by simp) (by apply yj <;> simp [Obj.leO]) ?_
 rintro k hk
 rcases Nat.lt_or_ge k xs.length with hlt | hge
 ·obtain ⟨e,he⟩ : ∃ e,xs[k]? = some e:=⟨_,List.getElem?_eq_getElem hlt⟩
  have hs : xs.take (k + 1) = xs.take k ++ [e]:=by rw [List.take_succ,he]; rfl
  have he2:=hl.2 e (List.mem_of_getElem? he)
  have g1:=(List.getElem?_eq_some_iff.1 he).2
  simp -dsimp -implicitDefEqProofs [he,g1,hlt,yG hlt]
  refine yQ (yws e.Lock he2.1) (by simp) (yb5 (Lock.yad _)) (by simp [yU]) ?_
  simp -dsimp -implicitDefEqProofs [yt]
  refine yQ (yx7 e.Pauses he2.2.1.1) (by simp ) (by simp [AV.closed,AV.ya7,C.closed]) (by simp [yU]) ?_
  simp -dsimp -implicitDefEqProofs [yt]
  refine yQ (yuP e.Calls he2.2.2) (by simp) (ybn CallT.yad _ _) (by simp [yU]) ?_
  simp -dsimp -implicitDefEqProofs [yt,Nat.min_eq_left hk]
  refine ⟨by omega,yw hlt hlen,k + 1,hlt,by omega,?_⟩
  have hs2 : (xs.map Work.yI).take (k + 1) = (xs.map Work.yI).take k ++ [Work.yI e]:=by rw [← List.map_take,← List.map_take,hs,List.map_append]; rfl
  apply yj <;> simp [Obj.leO,hs2]
 ·have : k = xs.length:=by omega
  subst this
  simp -dsimp -implicitDefEqProofs [yt]
  try simp
set_option maxRecDepth 20000 in
theorem ypi (x : Waterway) (hl : x.small) : ybh Tryz.prog 21 [.agg (x.enc.map .c)] (.agg (x.yI.map .c)):=by
 obtain ⟨s1,s2,s3,s4,s5,s6,s7,s8,s9⟩:=hl
 have s41:=s4.1
 have s91:=s9.1
 refine yan yjQ ?_
 simp -dsimp -implicitDefEqProofs
 refine yQ (yrb x.Reaches s1) (by simp) (ybn Reach.yad _ _) (by simp [yU]) ?_
 simp -dsimp -implicitDefEqProofs [yt]
 refine yQ (yyE x.Ways s2.1) (by simp ) (by simp [AV.closed,AV.ya7,C.closed]) (by simp [yU]) ?_
 simp -dsimp -implicitDefEqProofs [yt]
 refine yQ (yuM x.Works s3) (by simp) (ybn Work.yad _ _) (by simp [yU]) ?_
 simp -dsimp -implicitDefEqProofs [yt]
 intro hlen
 refine ⟨by omega,yQd ?_⟩
 simp -dsimp -implicitDefEqProofs
 intro _
 refine yg (ι:=Nat) (fun k=>k ≤ x.Movers.length) (fun k=>yO [(1,.box 1 0),(2,.box 2 0),(3,.own 24 1 x.Movers.length),(26,.c (.sl 1 (x.Movers.map yZ))),(27,.c (.i x.Movers.length)),(28,.c (.i k))] [(1,.box [.c (.i x.Time),.own 11 3 x.Reaches.length,.own 15 2 x.Ways.length,.own 19 22 x.Works.length,.c (.sl 1 (x.Movers.map yZ)),.c (.sl 2 (x.Arrived.map Train.enc)),.c (.sl 1 (x.Entered.map yJ)),.c (.i x.Tariff.Base),.c (.i x.Tariff.PerArea),.c (.sl 1 (x.Tariff.PerClass.map yJ)),.c (.sl 1 (x.Tariff.Weights.map yJ)),.c (.sl 5 (x.Book.map Entry.enc)),.c (.sl 4 (x.Passings.map Passing.enc)),.c (.i x.Start),.c (.i x.In),.c (.i x.Out)]),(2,.box [.c (.i 0),.nil 3,.nil 2,.nil 22,.nil 1,.nil 2,.nil 1,.c (.i 0),.c (.i 0),.nil 1,.nil 1,.nil 5,.nil 4,.c (.i 0),.c (.i 0),.c (.i 0)]),(11,.tr 3 0 (x.Reaches.map Reach.yI)),(15,.row 2 (x.Ways.map Way.enc)),(19,.tr 22 0 (x.Works.map Work.yI)),(24,.tr 1 0 (partly yax [.sl 3 []] x.Movers k))]) (fun k=>x.Movers.length - k) 0 (by simp) (by apply yj <;> simp [yab,Obj.leO]) ?_
 rintro k hk
 rcases Nat.lt_or_ge k x.Movers.length with hlt | hge
 ·obtain ⟨e,he⟩ : ∃ e,x.Movers[k]? = some e:=⟨_,List.getElem?_eq_getElem hlt⟩
  have hs:=yaj (f:=yax) (z:=[.sl 3 []]) he
  have hd : ((partly yax [.sl 3 []] x.Movers k)[k]?.getD []).set 0 (.ot 3 (e.map Mover.yI)) = yax e:=by
   have:=ydK (f:=yax) (z:=[.sl 3 []]) (n:=1) rfl (fun _=>rfl) hlt
   obtain ⟨y,hy⟩:=List.length_eq_one_iff.1 this
   rw [hy]; rfl
  simp -dsimp -implicitDefEqProofs [he,yG hlt]
  refine yQ (ysV e (s4.2 e (List.mem_of_getElem? he))) (by simp) (ybn Mover.yad _ _) (by simp [yU]) ?_
  simp -dsimp -implicitDefEqProofs [yG hlt,yak hk,yt,setAt,hd,hs]
  exact ⟨hlt,yw hlt hlen,k + 1,hlt,by omega,by apply yj <;> simp [Obj.leO]⟩
 have hke : k = x.Movers.length:=by omega
 subst hke
 simp -dsimp -implicitDefEqProofs [yam (Nat.le_refl _),yt]
 refine yQ (ykW x.Arrived s5) (by simp) (ybn Train.yad _ _) (by simp [yU]) ?_
 simp -dsimp -implicitDefEqProofs [yt]
 refine yQ (yk9 x.Entered s6.1) (by simp ) (by simp [AV.closed,AV.ya7,C.closed]) (by simp [yU]) ?_
 simp -dsimp -implicitDefEqProofs [yt]
 refine yQ (ysT x.Tariff s7) (by simp) (yb5 (Tariff.yad _)) (by simp [yU]) ?_
 simp -dsimp -implicitDefEqProofs [yt]
 refine yQ (yz5 x.Book s8.1) (by simp ) (by simp [AV.closed,AV.ya7,C.closed]) (by simp [yU]) ?_
 simp -dsimp -implicitDefEqProofs [yt]
 intro hlen2
 refine yfV (k0:=4) 6 4 (by simp) (by simp) (by decide) ?_
 refine yg (ι:=Nat) (fun k=>k ≤ x.Passings.length) (fun k=>yO [(1,.box 1 0),(2,.box 2 0),(6,.own 6 4 k),(58,.c (.sl 4 (x.Passings.map Passing.enc))),(59,.c (.i x.Passings.length)),(60,.c (.i k))] [(1,.box [.c (.i x.Time),.own 11 3 x.Reaches.length,.own 15 2 x.Ways.length,.own 19 22 x.Works.length,.own 24 1 x.Movers.length,.own 43 2 x.Arrived.length,.own 47 1 x.Entered.length,.c (.i x.Tariff.Base),.c (.i x.Tariff.PerArea),.own 30051 1 x.Tariff.PerClass.length,.own 40051 1 x.Tariff.Weights.length,.own 55 5 x.Book.length,.c (.sl 4 (x.Passings.map Passing.enc)),.c (.i x.Start),.c (.i x.In),.c (.i x.Out)]),(2,.box [.c (.i 0),.nil 3,.nil 2,.nil 22,.nil 1,.nil 2,.nil 1,.c (.i 0),.c (.i 0),.nil 1,.nil 1,.nil 5,.nil 4,.c (.i 0),.c (.i 0),.c (.i 0)]),(11,.tr 3 0 (x.Reaches.map Reach.yI)),(15,.row 2 (x.Ways.map Way.enc)),(19,.tr 22 0 (x.Works.map Work.yI)),(24,.tr 1 0 (x.Movers.map yax)),(43,.tr 2 0 (x.Arrived.map Train.yI)),(47,.row 1 (x.Entered.map yJ)),(30051,.row 1 (x.Tariff.PerClass.map yJ)),(40051,.row 1 (x.Tariff.Weights.map yJ)),(55,.row 5 (x.Book.map Entry.enc)),(6,.tr 4 0 ((x.Passings.take k).map Passing.yI))]) (fun k=>x.Passings.length - k) 0 (by simp) (by apply yj <;> simp [Obj.leO]) ?_
 rintro k hk2
 rcases Nat.lt_or_ge k x.Passings.length with hlt | hge2
 ·obtain ⟨e,he⟩ : ∃ e,x.Passings[k]? = some e:=⟨_,List.getElem?_eq_getElem hlt⟩
  have hs : x.Passings.take (k + 1) = x.Passings.take k ++ [e]:=by rw [List.take_succ,he]; rfl
  have he2:=s9.2 e (List.mem_of_getElem? he)
  have g1:=(List.getElem?_eq_some_iff.1 he).2
  simp -dsimp -implicitDefEqProofs [he,g1,hlt,yG hlt]
  refine yfW (ygJ e.Train he2) (by simp) (yb5 (Train.yad e.Train)) (by simp [yU]) ?_
  simp -dsimp -implicitDefEqProofs [yt,Nat.min_eq_left hk2,yeh]
  refine ⟨by omega,yw hlt hlen2,k + 1,hlt,by omega,?_⟩
  have hs2 : (x.Passings.map Passing.yI).take (k + 1) = (x.Passings.map Passing.yI).take k ++ [Passing.yI e]:=by rw [← List.map_take,← List.map_take,hs,List.map_append]; rfl
  apply yj <;> simp [Obj.leO,hs2]
 have hke2 : k = x.Passings.length:=by omega
 subst hke2
 simp -dsimp -implicitDefEqProofs [yt]
theorem ymv (e : Reach) (hl : Reach.small e) : ybh Tryz.prog 126 [.agg (e.enc.map .c)] (.agg (e.yI.map .c)):=by
 have h1:=hl.1.1
 have h2:=hl.2.1
 refine yan yoO ?_
 simp -dsimp -implicitDefEqProofs [yi7,yt]
 exact ⟨by omega,by omega⟩
theorem ybo (e : Reach) (hl : Reach.small e) : yB Tryz.prog 126 [.agg (e.enc.map .c)] (.agg (e.enc.map .c)):=(ymv e hl).pure (by simp [AV.shr,AV.ysI,ybQ,C.shr])
theorem yxF (e : Mover) (hl : Mover.small e) : yB Tryz.prog 128 [.agg (e.enc.map .c)] (.agg (e.enc.map .c)):=by
 refine yh yp1 ?_
 simp -dsimp -implicitDefEqProofs
 refine yY (ygX e.Train hl) ?_
 simp -dsimp -implicitDefEqProofs
set_option maxRecDepth 20000 in
theorem yxT (e : Lock) (hl : Lock.small e) : yB Tryz.prog 168 [.agg (e.enc.map .c)] (.agg (e.enc.map .c)):=by
 have hl1:=hl.1
 have hsm:=hl.2
 refine yh ypn ?_
 simp -dsimp -implicitDefEqProofs
 refine yg (ι:=Nat) (fun k=>k ≤ e.Inside.length) (fun k=>yO [(1,.box 1 0),(2,.box 2 0),(3,.own 5 2 k),(4,.c (.i k))] [(1,.box [.c (.i e.Length),.c (.i e.Width),.c (.i e.SillAbove),.c (.i e.SillBelow),.c (.i e.Base),.c (.i e.Area),.c (.i e.Rate),.c (.i e.Water),.c (.i e.Gate),.c (.sl 2 (e.Inside.map Train.enc))]),(2,.box [.c (.i 0),.c (.i 0),.c (.i 0),.c (.i 0),.c (.i 0),.c (.i 0),.c (.i 0),.c (.i 0),.c (.i 0),.nil 2]),(5,.row 2 ((e.Inside.take k).map Train.enc))]) (fun k=>e.Inside.length - k) 0 (by simp) (by apply yj <;> simp [Obj.leO]) ?_
 rintro k hk
 rcases Nat.lt_or_ge k e.Inside.length with klt | kge
 ·obtain ⟨e1,he⟩ : ∃ e1,e.Inside[k]? = some e1:=⟨_,List.getElem?_eq_getElem klt⟩
  have he2:=hsm e1 (List.mem_of_getElem? he)
  have g1:=(List.getElem?_eq_some_iff.1 he).2
  have hs2 : (e.Inside.map Train.enc).take (k + 1) = (e.Inside.map Train.enc).take k ++ [Train.enc e1]:=by rw [List.take_succ,List.getElem?_map,he]; rfl
  simp -dsimp -implicitDefEqProofs [he,g1,klt,yG klt]
  intro hlen
  refine yS (ygX e1 he2) ?_
  simp -dsimp -implicitDefEqProofs [he,g1,klt,yG klt,yt,Nat.min_eq_left hk]
  refine ⟨by omega,yw klt hlen,k + 1,klt,by omega,?_⟩
  apply yj <;> simp [Obj.leO,hs2]
 have ek : k = e.Inside.length:=by omega
 subst ek
 simp -dsimp -implicitDefEqProofs [yt]
set_option maxRecDepth 20000 in
theorem yq8 (w : Work) (hl : Work.small w) : yB Tryz.prog 127 [.agg (w.enc.map .c)] (.agg (w.enc.map .c)):=by
 obtain ⟨s1,s2,s3⟩:=hl
 have hl1:=s3.1
 have hp1:=s2.1
 have hsm:=s3.2
 refine yh ykE ?_
 simp -dsimp -implicitDefEqProofs
 refine yS (yxT w.Lock s1) ?_
 simp -dsimp -implicitDefEqProofs [yt]
 refine ⟨by omega,?_⟩
 refine yg (ι:=Nat) (fun k=>k ≤ w.Calls.length) (fun k=>yO [(1,.box 1 0),(2,.box 2 0),(3,.box 3 0),(4,.c (.i k))] [(1,.box (w.enc.map .c)),(2,.box [.c (.i 0),.c (.i 0),.c (.i 0),.c (.i 0),.c (.i 0),.c (.i 0),.c (.i 0),.c (.i 0),.c (.i 0),.nil 2,.c (.i 0),.c (.i 0),.c (.i 0),.c (.i 0),.c (.i 0),.c (.i 0),.c (.i 0),.c (.i 0),.nil 2,.c (.b false),.c (.i 0),.nil 4]),(3,.box ((w.enc.map .c).set 18 (.own 11 2 w.Pauses.length) |>.set 21 (.own 16 4 k))),(11,.row 2 (w.Pauses.map Pause.enc)),(16,.row 4 ((w.Calls.take k).map CallT.enc))]) (fun k=>w.Calls.length - k) 0 (by simp) (by apply yj <;> simp [Obj.leO]) ?_
 rintro k hk
 rcases Nat.lt_or_ge k w.Calls.length with klt | kge
 ·obtain ⟨e1,he⟩ : ∃ e1,w.Calls[k]? = some e1:=⟨_,List.getElem?_eq_getElem klt⟩
  have he2:=hsm e1 (List.mem_of_getElem? he)
  have g1:=(List.getElem?_eq_some_iff.1 he).2
  have hs2 : (w.Calls.map CallT.enc).take (k + 1) = (w.Calls.map CallT.enc).take k ++ [CallT.enc e1]:=by rw [List.take_succ,List.getElem?_map,he]; rfl
  simp -dsimp -implicitDefEqProofs [he,g1,klt,yG klt]
  intro hlen
  refine yS (ygX e1.Train he2) ?_
  simp -dsimp -implicitDefEqProofs [he,g1,klt,yG klt,yt,Nat.min_eq_left hk]
  refine ⟨by omega,yw klt hlen,k + 1,klt,by omega,?_⟩
  apply yj <;> simp [Obj.leO,hs2]
 have ek : k = w.Calls.length:=by omega
 subst ek
 simp -dsimp -implicitDefEqProofs [yt]
def em (l : List Mover) : List C:=[.ow 3 (l.map Mover.enc)]
def Waterway.yAY (e : Waterway) : List C:=[.i e.Time,.ow 3 (e.Reaches.map Reach.enc),.ow 2 (e.Ways.map Way.enc),.ow 22 (e.Works.map Work.enc),.ot 1 (e.Movers.map em),.ow 2 (e.Arrived.map Train.enc),.ow 1 (e.Entered.map yJ),.i e.Tariff.Base,.i e.Tariff.PerArea,.ow 1 (e.Tariff.PerClass.map yJ),.ow 1 (e.Tariff.Weights.map yJ),.ow 5 (e.Book.map Entry.enc),.ow 4 (e.Passings.map Passing.enc),.i e.Start,.i e.In,.i e.Out]
set_option maxRecDepth 20000 in
theorem yxC (x : Waterway) (hl : x.small) : ybh Tryz.prog 82 [.agg (x.enc.map .c)] (.agg (x.yAY.map .c)):=by
 obtain ⟨s1,s2,s3,s4,s5,s6,s7,s8,s9⟩:=hl
 have t1:=s1.1; have t2:=s2.1; have t3:=s3.1; have t4:=s4.1; have t5:=s5.1; have t6:=s6.1; have t8:=s8.1; have t9:=s9.1
 have t71:=s7.1; have t72:=s7.2
 refine yan ynX ?_
 simp -dsimp -implicitDefEqProofs
 refine yg (ι:=Nat) (fun k=>k ≤ x.Reaches.length) (fun k=>yO [(1,.box 1 0),(2,.box 2 0),(3,.box 3 0),(4,.c (.i k))] [(1,.box [.c (.i x.Time),.c (.sl 3 (x.Reaches.map Reach.enc)),.c (.sl 2 (x.Ways.map Way.enc)),.c (.sl 22 (x.Works.map Work.enc)),.c (.sl 1 (x.Movers.map yZ)),.c (.sl 2 (x.Arrived.map Train.enc)),.c (.sl 1 (x.Entered.map yJ)),.c (.i x.Tariff.Base),.c (.i x.Tariff.PerArea),.c (.sl 1 (x.Tariff.PerClass.map yJ)),.c (.sl 1 (x.Tariff.Weights.map yJ)),.c (.sl 5 (x.Book.map Entry.enc)),.c (.sl 4 (x.Passings.map Passing.enc)),.c (.i x.Start),.c (.i x.In),.c (.i x.Out)]),(2,.box [.c (.i 0),.nil 3,.nil 2,.nil 22,.nil 1,.nil 2,.nil 1,.c (.i 0),.c (.i 0),.nil 1,.nil 1,.nil 5,.nil 4,.c (.i 0),.c (.i 0),.c (.i 0)]),(3,.box [.c (.i x.Time),.own 13 3 k,.c (.sl 2 (x.Ways.map Way.enc)),.c (.sl 22 (x.Works.map Work.enc)),.c (.sl 1 (x.Movers.map yZ)),.c (.sl 2 (x.Arrived.map Train.enc)),.c (.sl 1 (x.Entered.map yJ)),.c (.i x.Tariff.Base),.c (.i x.Tariff.PerArea),.c (.sl 1 (x.Tariff.PerClass.map yJ)),.c (.sl 1 (x.Tariff.Weights.map yJ)),.c (.sl 5 (x.Book.map Entry.enc)),.c (.sl 4 (x.Passings.map Passing.enc)),.c (.i x.Start),.c (.i x.In),.c (.i x.Out)]),(13,.row 3 ((x.Reaches.take k).map Reach.enc))]) (fun k=>x.Reaches.length - k) 0 (by simp) (by apply yj <;> simp [Obj.leO]) ?_
 rintro k hk
 rcases Nat.lt_or_ge k x.Reaches.length with klt | kge
 ·obtain ⟨e1,he⟩ : ∃ e1,x.Reaches[k]? = some e1:=⟨_,List.getElem?_eq_getElem klt⟩
  have he2:=s1.2 e1 (List.mem_of_getElem? he)
  have g1:=(List.getElem?_eq_some_iff.1 he).2
  have hs2 : (x.Reaches.map Reach.enc).take (k + 1) = (x.Reaches.map Reach.enc).take k ++ [Reach.enc e1]:=by rw [List.take_succ,List.getElem?_map,he]; rfl
  simp -dsimp -implicitDefEqProofs [he,g1,klt,yG klt]
  intro hlen
  refine yY (ybo e1 he2) ?_
  simp -dsimp -implicitDefEqProofs [he,g1,klt,yG klt,yt,Nat.min_eq_left hk,yeh]
  refine ⟨by omega,yw klt hlen,k + 1,klt,by omega,?_⟩
  apply yj <;> simp [Obj.leO,hs2]
 have ek : k = x.Reaches.length:=by omega
 subst ek
 simp -dsimp -implicitDefEqProofs [yt]
 intro _
 refine ⟨by omega,?_⟩
 refine yg (ι:=Nat) (fun k=>k ≤ x.Works.length) (fun k=>yO [(1,.box 1 0),(2,.box 2 0),(3,.box 3 0),(5,.c (.i k))] [(1,.box [.c (.i x.Time),.c (.sl 3 (x.Reaches.map Reach.enc)),.c (.sl 2 (x.Ways.map Way.enc)),.c (.sl 22 (x.Works.map Work.enc)),.c (.sl 1 (x.Movers.map yZ)),.c (.sl 2 (x.Arrived.map Train.enc)),.c (.sl 1 (x.Entered.map yJ)),.c (.i x.Tariff.Base),.c (.i x.Tariff.PerArea),.c (.sl 1 (x.Tariff.PerClass.map yJ)),.c (.sl 1 (x.Tariff.Weights.map yJ)),.c (.sl 5 (x.Book.map Entry.enc)),.c (.sl 4 (x.Passings.map Passing.enc)),.c (.i x.Start),.c (.i x.In),.c (.i x.Out)]),(2,.box [.c (.i 0),.nil 3,.nil 2,.nil 22,.nil 1,.nil 2,.nil 1,.c (.i 0),.c (.i 0),.nil 1,.nil 1,.nil 5,.nil 4,.c (.i 0),.c (.i 0),.c (.i 0)]),(3,.box [.c (.i x.Time),.own 13 3 x.Reaches.length,.own 33 2 x.Ways.length,.own 38 22 k,.c (.sl 1 (x.Movers.map yZ)),.c (.sl 2 (x.Arrived.map Train.enc)),.c (.sl 1 (x.Entered.map yJ)),.c (.i x.Tariff.Base),.c (.i x.Tariff.PerArea),.c (.sl 1 (x.Tariff.PerClass.map yJ)),.c (.sl 1 (x.Tariff.Weights.map yJ)),.c (.sl 5 (x.Book.map Entry.enc)),.c (.sl 4 (x.Passings.map Passing.enc)),.c (.i x.Start),.c (.i x.In),.c (.i x.Out)]),(13,.row 3 (x.Reaches.map Reach.enc)),(33,.row 2 (x.Ways.map Way.enc)),(38,.row 22 ((x.Works.take k).map Work.enc))]) (fun k=>x.Works.length - k) 0 (by simp) (by apply yj <;> simp [Obj.leO]) ?_
 rintro k hk
 rcases Nat.lt_or_ge k x.Works.length with klt | kge
 ·obtain ⟨e1,he⟩ : ∃ e1,x.Works[k]? = some e1:=⟨_,List.getElem?_eq_getElem klt⟩
  have he2:=s3.2 e1 (List.mem_of_getElem? he)
  have g1:=(List.getElem?_eq_some_iff.1 he).2
  have hs2 : (x.Works.map Work.enc).take (k + 1) = (x.Works.map Work.enc).take k ++ [Work.enc e1]:=by rw [List.take_succ,List.getElem?_map,he]; rfl
  simp -dsimp -implicitDefEqProofs [he,g1,klt,yG klt]
  intro hlen
  refine yY (yq8 e1 he2) ?_
  simp -dsimp -implicitDefEqProofs [he,g1,klt,yG klt,yt,Nat.min_eq_left hk,yeh]
  refine ⟨by omega,yw klt hlen,k + 1,klt,by omega,?_⟩
  apply yj <;> simp [Obj.leO,hs2]
 have ek : k = x.Works.length:=by omega
 subst ek
 simp -dsimp -implicitDefEqProofs [yt]
 intro _
 refine yg (ι:=Nat) (fun k=>k ≤ x.Movers.length) (fun k=>yO [(1,.box 1 0),(2,.box 2 0),(3,.box 3 0),(6,.c (.i k))] [(1,.box [.c (.i x.Time),.c (.sl 3 (x.Reaches.map Reach.enc)),.c (.sl 2 (x.Ways.map Way.enc)),.c (.sl 22 (x.Works.map Work.enc)),.c (.sl 1 (x.Movers.map yZ)),.c (.sl 2 (x.Arrived.map Train.enc)),.c (.sl 1 (x.Entered.map yJ)),.c (.i x.Tariff.Base),.c (.i x.Tariff.PerArea),.c (.sl 1 (x.Tariff.PerClass.map yJ)),.c (.sl 1 (x.Tariff.Weights.map yJ)),.c (.sl 5 (x.Book.map Entry.enc)),.c (.sl 4 (x.Passings.map Passing.enc)),.c (.i x.Start),.c (.i x.In),.c (.i x.Out)]),(2,.box [.c (.i 0),.nil 3,.nil 2,.nil 22,.nil 1,.nil 2,.nil 1,.c (.i 0),.c (.i 0),.nil 1,.nil 1,.nil 5,.nil 4,.c (.i 0),.c (.i 0),.c (.i 0)]),(3,.box [.c (.i x.Time),.own 13 3 x.Reaches.length,.own 33 2 x.Ways.length,.own 38 22 x.Works.length,.own 58 1 k,.c (.sl 2 (x.Arrived.map Train.enc)),.c (.sl 1 (x.Entered.map yJ)),.c (.i x.Tariff.Base),.c (.i x.Tariff.PerArea),.c (.sl 1 (x.Tariff.PerClass.map yJ)),.c (.sl 1 (x.Tariff.Weights.map yJ)),.c (.sl 5 (x.Book.map Entry.enc)),.c (.sl 4 (x.Passings.map Passing.enc)),.c (.i x.Start),.c (.i x.In),.c (.i x.Out)]),(13,.row 3 (x.Reaches.map Reach.enc)),(33,.row 2 (x.Ways.map Way.enc)),(38,.row 22 (x.Works.map Work.enc)),(58,if k = 0 then .row 1 [] else .tr 1 0 ((x.Movers.take k).map em))]) (fun k=>x.Movers.length - k) 0 (by simp) (by apply yj <;> simp [Obj.leO]) ?_
 rintro k hk
 rcases Nat.lt_or_ge k x.Movers.length with klt | kge
 ·obtain ⟨l,hl⟩ : ∃ l,x.Movers[k]? = some l:=⟨_,List.getElem?_eq_getElem klt⟩
  have hls:=s4.2 l (List.mem_of_getElem? hl)
  have hll:=hls.1
  have g1:=(List.getElem?_eq_some_iff.1 hl).2
  have hs2 : (x.Movers.map em).take (k + 1) = (x.Movers.map em).take k ++ [em l]:=by rw [List.take_succ,List.getElem?_map,hl]; rfl
  simp -dsimp -implicitDefEqProofs [hl,g1,klt,yG klt]
  intro hlen
  generalize hZ : (if k = 0 then Obj.row 1 [] else .tr 1 0 ((x.Movers.map em).take k)) = Z
  have hz1 : Z.leO Z:=by rw [← hZ]; split <;> first | rfl | exact ⟨rfl,rfl⟩
  have hz2 : ∀ i,Z.kill i = Z:=by intro i; rw [← hZ]; split <;> rfl
  have hz3 : ∀ L,Z.ygy L = true:=by intro L; rw [← hZ]; split <;> rfl
  simp only [Obj.leO] at hz1
  simp only [Obj.ygy] at hz3
  refine yg (ι:=Nat) (fun i=>i ≤ l.length) (fun i=>yO [(1,.box 1 0),(2,.box 2 0),(3,.box 3 0),(6,.c (.i k)),(7,.own 67 3 i),(8,.c (.i i))] [(1,.box [.c (.i x.Time),.c (.sl 3 (x.Reaches.map Reach.enc)),.c (.sl 2 (x.Ways.map Way.enc)),.c (.sl 22 (x.Works.map Work.enc)),.c (.sl 1 (x.Movers.map yZ)),.c (.sl 2 (x.Arrived.map Train.enc)),.c (.sl 1 (x.Entered.map yJ)),.c (.i x.Tariff.Base),.c (.i x.Tariff.PerArea),.c (.sl 1 (x.Tariff.PerClass.map yJ)),.c (.sl 1 (x.Tariff.Weights.map yJ)),.c (.sl 5 (x.Book.map Entry.enc)),.c (.sl 4 (x.Passings.map Passing.enc)),.c (.i x.Start),.c (.i x.In),.c (.i x.Out)]),(2,.box [.c (.i 0),.nil 3,.nil 2,.nil 22,.nil 1,.nil 2,.nil 1,.c (.i 0),.c (.i 0),.nil 1,.nil 1,.nil 5,.nil 4,.c (.i 0),.c (.i 0),.c (.i 0)]),(3,.box [.c (.i x.Time),.own 13 3 x.Reaches.length,.own 33 2 x.Ways.length,.own 38 22 x.Works.length,.own 58 1 k,.c (.sl 2 (x.Arrived.map Train.enc)),.c (.sl 1 (x.Entered.map yJ)),.c (.i x.Tariff.Base),.c (.i x.Tariff.PerArea),.c (.sl 1 (x.Tariff.PerClass.map yJ)),.c (.sl 1 (x.Tariff.Weights.map yJ)),.c (.sl 5 (x.Book.map Entry.enc)),.c (.sl 4 (x.Passings.map Passing.enc)),.c (.i x.Start),.c (.i x.In),.c (.i x.Out)]),(13,.row 3 (x.Reaches.map Reach.enc)),(33,.row 2 (x.Ways.map Way.enc)),(38,.row 22 (x.Works.map Work.enc)),(58,Z),(67,.row 3 ((l.take i).map Mover.enc))]) (fun i=>l.length - i) 0 (by simp) (by apply yj <;> simp [Obj.leO,hz1,hz2,hz3]) ?_
  rintro i hi
  rcases Nat.lt_or_ge i l.length with ilt | ige
  ·obtain ⟨m,hm⟩ : ∃ m,l[i]? = some m:=⟨_,List.getElem?_eq_getElem ilt⟩
   have hms:=hls.2 m (List.mem_of_getElem? hm)
   have g2:=(List.getElem?_eq_some_iff.1 hm).2
   have hs3 : (l.map Mover.enc).take (i + 1) = (l.map Mover.enc).take i ++ [Mover.enc m]:=by rw [List.take_succ,List.getElem?_map,hm]; rfl
   simp -dsimp -implicitDefEqProofs [hl,hm,g1,g2,klt,yG klt,ilt,yG ilt]
   intro hlen2
   refine yS (yxF m hms) ?_
   simp -dsimp -implicitDefEqProofs [yt,Nat.min_eq_left hi]
   refine ⟨by omega,yw ilt hlen2,i + 1,ilt,by omega,?_⟩
   apply yj <;> simp [Obj.leO,hs3,hz1,hz2,hz3]
  have ei : i = l.length:=by omega
  subst ei
  simp -dsimp -implicitDefEqProofs [hl,g1,klt,yG klt,yt,hz2]
  intro _
  subst hZ
  rcases Nat.eq_zero_or_pos k with e0 | e0
  ·subst e0
   have hs3 : (x.Movers.map em).take 1 = [em l]:=by simpa using hs2
   simp -dsimp -implicitDefEqProofs [yt]
   refine ⟨by unfold inI; omega,1,klt,by omega,?_⟩
   apply yj <;> simp [Obj.leO,hs3,em]
  ·have hne : (k = 0) = False:=by simp; omega
   simp -dsimp -implicitDefEqProofs [hne,yt,Nat.min_eq_left hk]
   refine ⟨by omega,yw klt hlen,k + 1,klt,by omega,?_⟩
   apply yj <;> simp [Obj.leO,hs2,em]
 have ek : k = x.Movers.length:=by omega
 subst ek
 simp -dsimp -implicitDefEqProofs [yt]
 intro _
 have hif : (if x.Movers = [] then Obj.row 1 [] else .tr 1 0 (x.Movers.map em)) = (if x.Movers.length = 0 then Obj.row 1 [] else .tr 1 0 (x.Movers.map em)):=by cases x.Movers <;> simp
 generalize hZ : (if x.Movers.length = 0 then Obj.row 1 [] else .tr 1 0 (x.Movers.map em)) = Z at hif
 have hz1 : Z.leO Z:=by rw [← hZ]; split <;> first | rfl | exact ⟨rfl,rfl⟩
 have hz2 : ∀ i,Z.kill i = Z:=by intro i; rw [← hZ]; split <;> rfl
 have hz3 : ∀ L,Z.ygy L = true:=by intro L; rw [← hZ]; split <;> rfl
 simp only [Obj.leO] at hz1
 simp only [Obj.ygy] at hz3
 refine yg (ι:=Nat) (fun k=>k ≤ x.Arrived.length) (fun k=>yO [(1,.box 1 0),(2,.box 2 0),(3,.box 3 0),(9,.c (.i k))] [(1,.box [.c (.i x.Time),.c (.sl 3 (x.Reaches.map Reach.enc)),.c (.sl 2 (x.Ways.map Way.enc)),.c (.sl 22 (x.Works.map Work.enc)),.c (.sl 1 (x.Movers.map yZ)),.c (.sl 2 (x.Arrived.map Train.enc)),.c (.sl 1 (x.Entered.map yJ)),.c (.i x.Tariff.Base),.c (.i x.Tariff.PerArea),.c (.sl 1 (x.Tariff.PerClass.map yJ)),.c (.sl 1 (x.Tariff.Weights.map yJ)),.c (.sl 5 (x.Book.map Entry.enc)),.c (.sl 4 (x.Passings.map Passing.enc)),.c (.i x.Start),.c (.i x.In),.c (.i x.Out)]),(2,.box [.c (.i 0),.nil 3,.nil 2,.nil 22,.nil 1,.nil 2,.nil 1,.c (.i 0),.c (.i 0),.nil 1,.nil 1,.nil 5,.nil 4,.c (.i 0),.c (.i 0),.c (.i 0)]),(3,.box [.c (.i x.Time),.own 13 3 x.Reaches.length,.own 33 2 x.Ways.length,.own 38 22 x.Works.length,.own 58 1 x.Movers.length,.own 96 2 k,.c (.sl 1 (x.Entered.map yJ)),.c (.i x.Tariff.Base),.c (.i x.Tariff.PerArea),.c (.sl 1 (x.Tariff.PerClass.map yJ)),.c (.sl 1 (x.Tariff.Weights.map yJ)),.c (.sl 5 (x.Book.map Entry.enc)),.c (.sl 4 (x.Passings.map Passing.enc)),.c (.i x.Start),.c (.i x.In),.c (.i x.Out)]),(13,.row 3 (x.Reaches.map Reach.enc)),(33,.row 2 (x.Ways.map Way.enc)),(38,.row 22 (x.Works.map Work.enc)),(58,Z),(96,.row 2 ((x.Arrived.take k).map Train.enc))]) (fun k=>x.Arrived.length - k) 0 (by simp) (by apply yj <;> simp [Obj.leO,hif,hz1,hz2,hz3]) ?_
 rintro k hk
 rcases Nat.lt_or_ge k x.Arrived.length with klt | kge
 ·obtain ⟨e1,he⟩ : ∃ e1,x.Arrived[k]? = some e1:=⟨_,List.getElem?_eq_getElem klt⟩
  have he2:=s5.2 e1 (List.mem_of_getElem? he)
  have g1:=(List.getElem?_eq_some_iff.1 he).2
  have hs2 : (x.Arrived.map Train.enc).take (k + 1) = (x.Arrived.map Train.enc).take k ++ [Train.enc e1]:=by rw [List.take_succ,List.getElem?_map,he]; rfl
  simp -dsimp -implicitDefEqProofs [he,g1,klt,yG klt]
  intro hlen
  refine yY (ygX e1 he2) ?_
  simp -dsimp -implicitDefEqProofs [he,g1,klt,yG klt,yt,Nat.min_eq_left hk,yeh]
  refine ⟨by omega,yw klt hlen,k + 1,klt,by omega,?_⟩
  apply yj <;> simp [Obj.leO,hif,hz1,hz2,hz3,hs2]
 have ek : k = x.Arrived.length:=by omega
 subst ek
 simp -dsimp -implicitDefEqProofs [yt]
 intro _
 refine ⟨by omega,by omega,by omega,by omega,?_⟩
 refine yg (ι:=Nat) (fun k=>k ≤ x.Passings.length) (fun k=>yO [(1,.box 1 0),(2,.box 2 0),(3,.box 3 0),(10,.c (.i k))] [(1,.box [.c (.i x.Time),.c (.sl 3 (x.Reaches.map Reach.enc)),.c (.sl 2 (x.Ways.map Way.enc)),.c (.sl 22 (x.Works.map Work.enc)),.c (.sl 1 (x.Movers.map yZ)),.c (.sl 2 (x.Arrived.map Train.enc)),.c (.sl 1 (x.Entered.map yJ)),.c (.i x.Tariff.Base),.c (.i x.Tariff.PerArea),.c (.sl 1 (x.Tariff.PerClass.map yJ)),.c (.sl 1 (x.Tariff.Weights.map yJ)),.c (.sl 5 (x.Book.map Entry.enc)),.c (.sl 4 (x.Passings.map Passing.enc)),.c (.i x.Start),.c (.i x.In),.c (.i x.Out)]),(2,.box [.c (.i 0),.nil 3,.nil 2,.nil 22,.nil 1,.nil 2,.nil 1,.c (.i 0),.c (.i 0),.nil 1,.nil 1,.nil 5,.nil 4,.c (.i 0),.c (.i 0),.c (.i 0)]),(3,.box [.c (.i x.Time),.own 13 3 x.Reaches.length,.own 33 2 x.Ways.length,.own 38 22 x.Works.length,.own 58 1 x.Movers.length,.own 96 2 x.Arrived.length,.own 116 1 x.Entered.length,.c (.i x.Tariff.Base),.c (.i x.Tariff.PerArea),.own 121 1 x.Tariff.PerClass.length,.own 128 1 x.Tariff.Weights.length,.own 135 5 x.Book.length,.own 140 4 k,.c (.i x.Start),.c (.i x.In),.c (.i x.Out)]),(13,.row 3 (x.Reaches.map Reach.enc)),(33,.row 2 (x.Ways.map Way.enc)),(38,.row 22 (x.Works.map Work.enc)),(58,Z),(96,.row 2 (x.Arrived.map Train.enc)),(116,.row 1 (x.Entered.map yJ)),(121,.row 1 (x.Tariff.PerClass.map yJ)),(128,.row 1 (x.Tariff.Weights.map yJ)),(135,.row 5 (x.Book.map Entry.enc)),(140,.row 4 ((x.Passings.take k).map Passing.enc))]) (fun k=>x.Passings.length - k) 0 (by simp) (by apply yj <;> simp [Obj.leO,hif,hz1,hz2,hz3]) ?_
 rintro k hk
 rcases Nat.lt_or_ge k x.Passings.length with klt | kge
 ·obtain ⟨e1,he⟩ : ∃ e1,x.Passings[k]? = some e1:=⟨_,List.getElem?_eq_getElem klt⟩
  have he2:=s9.2 e1 (List.mem_of_getElem? he)
  have g1:=(List.getElem?_eq_some_iff.1 he).2
  have hs2 : (x.Passings.map Passing.enc).take (k + 1) = (x.Passings.map Passing.enc).take k ++ [Passing.enc e1]:=by rw [List.take_succ,List.getElem?_map,he]; rfl
  simp -dsimp -implicitDefEqProofs [he,g1,klt,yG klt]
  intro hlen
  refine yS (ygX e1.Train he2) ?_
  simp -dsimp -implicitDefEqProofs [he,g1,klt,yG klt,yt,Nat.min_eq_left hk,yeh]
  refine ⟨by omega,yw klt hlen,k + 1,klt,by omega,?_⟩
  apply yj <;> simp [Obj.leO,hif,hz1,hz2,hz3,hs2]
 have ek : k = x.Passings.length:=by omega
 subst ek
 simp -dsimp -implicitDefEqProofs [yt]
 intro _
 subst hZ
 by_cases e : x.Movers.length = 0
 ·have e2 : x.Movers = []:=List.length_eq_zero_iff.1 e
  simp [Waterway.yAY,e2,yt]
 ·simp [Waterway.yAY,e,yt]
def hsW (x : Waterway) : List H:=[.p (.i x.Time),.t 3 (x.Reaches.map Reach.yI),.w 2 (x.Ways.map Way.enc),.t 22 (x.Works.map Work.yI),.t 1 (x.Movers.map yax),.t 2 (x.Arrived.map Train.yI),.w 1 (x.Entered.map yJ),
 .p (.i x.Tariff.Base),.p (.i x.Tariff.PerArea),.w 1 (x.Tariff.PerClass.map yJ),.w 1 (x.Tariff.Weights.map yJ),.w 5 (x.Book.map Entry.enc),.t 4 (x.Passings.map Passing.yI),.p (.i x.Start),.p (.i x.In),.p (.i x.Out)]
def wm1 (x : Waterway) (k : Int) : Int:=k + cnt yay x.Reaches
def wm2 (x : Waterway) (k : Int) : Int:=wm1 x k + 2 * x.Ways.length
def wm3 (x : Waterway) (k : Int) : Int:=wm2 x k + cnt yaJ x.Works
def wm4 (x : Waterway) (k : Int) : Int:=wm3 x k + cnt yap x.Movers
def wm5 (x : Waterway) (k : Int) : Int:=wm4 x k + cnt yE x.Arrived
def wm6 (x : Waterway) (k : Int) : Int:=wm5 x k + x.Entered.length
def wm7 (x : Waterway) (k : Int) : Int:=wm6 x k + nT x.Tariff
def wm8 (x : Waterway) (k : Int) : Int:=wm7 x k + 5 * x.Book.length
def hsM (x : Waterway) (k : Int) : List H:=[.p (.i x.Time),.t 3 (yaA ycQ yay k x.Reaches),.w 2 (marked ydz 2 [] (wm1 x k) x.Ways.length),.t 22 (yaA ydH yaJ (wm2 x k) x.Works),.t 1 (yaA ycj yap (wm3 x k) x.Movers),.t 2 (yaA ybN yE (wm4 x k) x.Arrived),.w 1 (marked yJ 1 [] (wm5 x k) x.Entered.length),
 .p (.i x.Tariff.Base),.p (.i x.Tariff.PerArea),.w 1 (marked yJ 1 [] (wm6 x k) x.Tariff.PerClass.length),.w 1 (marked yJ 1 [] (wm6 x k + x.Tariff.PerClass.length) x.Tariff.Weights.length),.w 5 (marked mkEn 5 [] (wm7 x k) x.Book.length),.t 4 (yaA ybL yae (wm8 x k) x.Passings),.p (.i x.Start),.p (.i x.In),.p (.i x.Out)]
def yNT (rs : List Reach) (ws : List Way) (wk : List Work) (t : Tariff) : Waterway:=⟨0,rs,ws,wk,List.replicate rs.length [],[],[],t,[],[],0,0,0⟩
def yNS (rs : List Reach) (ws : List Way) (wk : List Work) (t : Tariff) : Waterway:=⟨0,rs,ws,wk,List.replicate rs.length [],[],[],t,[],[],yNB (yNT rs ws wk t),0,0⟩
def yNA (w : Work) : Bool:=decide (w.Lock.Inside.length = 0) && decide (w.Calls.length = 0)
def yNE : Waterway:=⟨0,[],[],[],[],[],[],⟨0,0,[],[]⟩,[],[],0,0,0⟩
def yNy (rs : List Reach) (ws : List Way) (wk : List Work) (t : Tariff) : Waterway × Bool :=
 if wk.all yNA && yar (yNS rs ws wk t) then (yNS rs ws wk t,true) else (yNE,false)
theorem yN0 {rs : List Reach} {ws : List Way} {wk : List Work} {t : Tariff} (h1 : ycN rs) (h2 : yhr ws) (h3 : yc8 wk) (h4 : t.small) : (yNT rs ws wk t).small:=by
 have e : ∀ {α : Type} {p : α → Prop},ycs p []:=fun {_ _}=>⟨by simp,fun x hx=>by simp at hx⟩
 exact ⟨h1,h2,h3,⟨by simpa [yNT] using h1.1,fun l hl=>by rw [(List.mem_replicate.1 hl).2]; exact e⟩,e,e,h4,e,e⟩
theorem yN9 {rs : List Reach} {ws : List Way} {wk : List Work} {t : Tariff} (h1 : ycN rs) (h2 : yhr ws) (h3 : yc8 wk) (h4 : t.small) : (yNS rs ws wk t).small:=yN0 h1 h2 h3 h4
theorem yOg {rs : List Reach} {ws : List Way} {wk : List Work} {t : Tariff} (h : wk.all yNA = false) : yNy rs ws wk t = (yNE,false):=by simp only [yNy,h,Bool.false_and]; rfl
theorem yOi {rs : List Reach} {ws : List Way} {wk : List Work} {t : Tariff} (h : yar (yNS rs ws wk t) = false) : yNy rs ws wk t = (yNE,false):=by simp only [yNy,h,Bool.and_false]; rfl
theorem yO3 (m : Int) (h0 : 0 ≤ m) (h1 : m ≤ 2097152) : ybh Tryz.prog 60 [.nil 1,.c (.i m)] (.c (.ow 1 [])):=by
 refine yan yOA ?_
 simp -dsimp -implicitDefEqProofs
 exact ⟨h0,fun _=>⟨by unfold inI; omega,by unfold inI; omega,fun h=>⟨h0,by omega,by omega⟩⟩⟩
def yO7 (a b : Nat) (k : Nat) : Int:=if k = 0 then 0 else if k = 1 then a else a + b
def yO6 (a b : List Int) (k : Nat) : List Int:=if k = 0 then [] else if k = 1 then a else a ++ b
theorem yOW (a b : List Int) (ha : a.length ≤ 1048576) (hb : b.length ≤ 1048576) :
 ybh Tryz.prog 25 [.c (.sl 1 [[.sl 1 (a.map yJ)],[.sl 1 (b.map yJ)]])] (.c (.ow 1 ((a ++ b).map yJ))):=by
 refine yan yOx ?_
 simp -dsimp -implicitDefEqProofs
 refine fun _=>yg (ι:=Nat) (fun k=>k ≤ 2) (fun k=>yO [(0,.c (.sl 1 [[.sl 1 (a.map yJ)],[.sl 1 (b.map yJ)]])),(3,.c (.i (yO7 a.length b.length k))),(9,.c (.sl 1 [[.sl 1 (a.map yJ)],[.sl 1 (b.map yJ)]])),(10,.c (.i 2)),(11,.c (.i k))] []) (fun k=>2 - k) 0 (by simp) (by apply yj <;> simp [yO7]) ?_
 intro k hk
 obtain rfl | rfl | rfl : k = 0 ∨ k = 1 ∨ k = 2:=by omega
 ·simp -dsimp -implicitDefEqProofs [yO7]
  refine fun _=>⟨by unfold inI; omega,by unfold inI; omega,1,by omega,by omega,?_⟩
  apply yj <;> simp
 ·simp -dsimp -implicitDefEqProofs [yO7]
  refine fun _=>⟨by unfold inI; omega,by omega,fun _=>⟨by unfold inI; omega,2,by omega,by omega,?_⟩⟩
  apply yj <;> simp
 ·simp -dsimp -implicitDefEqProofs [yO7]
  first
   | refine yQ (yO3 (a.length + b.length) (by omega) (by omega)) (by simp ) (by simp [AV.closed,AV.ya7,C.closed]) (by simp [yU]) ?_
   | refine yfW (yO3 (a.length + b.length) (by omega) (by omega)) (by simp ) (by simp [AV.closed,AV.ya7,C.closed]) (by simp [yU]) ?_
  simp -dsimp -implicitDefEqProofs
  refine fun _=>yg (ι:=Nat) (fun k=>k ≤ 2) (fun k=>yO [(6,.own 24 1 (yO6 a b k).length),(25,.c (.sl 1 [[.sl 1 (a.map yJ)],[.sl 1 (b.map yJ)]])),(26,.c (.i 2)),(27,.c (.i k))] [(24,.row 1 ((yO6 a b k).map yJ))]) (fun k=>2 - k) 0 (by simp) (by apply yj <;> simp [yO6]) ?_
  intro k hk
  obtain rfl | rfl | rfl : k = 0 ∨ k = 1 ∨ k = 2:=by omega
  ·simp -dsimp -implicitDefEqProofs [yO6]
   refine ⟨by omega,by unfold inI; omega,1,by omega,by omega,?_⟩
   apply yj <;> simp
  ·simp -dsimp -implicitDefEqProofs [yO6]
   refine ⟨by omega,by unfold inI; omega,2,by omega,by omega,?_⟩
   apply yj <;> simp
  ·simp -dsimp -implicitDefEqProofs [yO6]
   rw [List.take_of_length_le (by simp)]
theorem yO5 (es : List (List Mover)) (hl : es.length ≤ 1048576) : ybh Tryz.prog 58 [.c (.sl 1 (es.map yZ))] (.c (.ot 1 (es.map yZ))):=by
 refine yan yOo ?_
 simp -dsimp -implicitDefEqProofs [yOm,yt]
 omega
theorem yO9 (es : List Mover) : yB Tryz.prog 59 [.c (.sl 3 (es.map Mover.enc))] (.clip 3 (es.map Mover.enc)):=by
 refine yh yOp ?_
 simp -dsimp -implicitDefEqProofs [yOn,yt]
def yOq (x : Waterway) (k : Nat) (m : Mover) : Waterway:={ x with Movers:=x.Movers.set k (x.Movers.getD k [] ++ [m]) }
def yOr (x : Waterway) (k : Nat) (m : Mover) : List C:=[.i x.Time,.sl 3 (x.Reaches.map Reach.enc),.sl 2 (x.Ways.map Way.enc),.sl 22 (x.Works.map Work.enc),.ot 1 ((x.Movers.map yZ).set k [.ow 3 ((x.Movers.getD k [] ++ [m]).map Mover.enc)]),.sl 2 (x.Arrived.map Train.enc),.sl 1 (x.Entered.map yJ),.i x.Tariff.Base,.i x.Tariff.PerArea,.sl 1 (x.Tariff.PerClass.map yJ),.sl 1 (x.Tariff.Weights.map yJ),.sl 5 (x.Book.map Entry.enc),.sl 4 (x.Passings.map Passing.enc),.i x.Start,.i x.In,.i x.Out]
set_option maxRecDepth 20000 in
theorem yO0 (x : Waterway) (k : Nat) (l : List Mover) (m : Mover) (hs : x.Movers.length ≤ 1048576) (hk : x.Movers[k]? = some l) (hll : l.length ≤ 1048576) :
 ybh Tryz.prog 24 [.agg (x.enc.map .c),.c (.i k),.agg (m.enc.map .c)] (.agg ((yOr x k m).map .c)):=by
 have kl:=(List.getElem?_eq_some_iff.1 hk).1
 have gl:=(List.getElem?_eq_some_iff.1 hk).2
 refine yan yOP ?_
 simp -dsimp -implicitDefEqProofs
 refine yjo (yO5 x.Movers hs) (by simp) rfl (by simp [yU]) ?_
 simp -dsimp -implicitDefEqProofs [yt,hk,gl,kl,yG kl]
 refine yY (yO9 l) ?_
 simp -dsimp -implicitDefEqProofs [yt,hk,gl,kl,yG kl,yOr]
 refine ⟨by omega,?_⟩
 have e1 : ∀ y : List C,List.take (l.length + 1) (List.map Mover.enc l ++ [y]) = List.map Mover.enc l ++ [y]:=fun y=>List.take_of_length_le (by simp)
 have e2 : ∀ y : List C,List.take x.Movers.length ((List.map yZ x.Movers).set k y) = (List.map yZ x.Movers).set k y:=fun y=>List.take_of_length_le (by simp)
 simp [setAt,hk,gl,kl,yZ,e1,e2]
theorem yOT (xs : List (List Mover)) : ykv (xs.map yZ) = some (xs.map yZ):=by
 induction xs with
 | nil=>rfl
 | cons a xs ih=>rw [List.map_cons]; simp only [ykv,ih]; rfl
theorem yO1 {rows rs : List (List C)} {r s : List C} (h : ykv rows = some rs) (hr : ybQ r = some s) (k : Nat) : ykv (rows.set k r) = some (rs.set k s):=by
 induction rows generalizing rs k with
 | nil=>simp only [ykv,Option.some.injEq] at h; subst h; rfl
 | cons a l ih =>
  simp only [ykv] at h
  cases ha : ybQ a with
  | none=>rw [ha] at h; cases h
  | some x =>
   cases hl : ykv l with
   | none=>rw [ha,hl] at h; cases h
   | some y =>
    rw [ha,hl] at h
    simp only [Option.some.injEq] at h
    subst h
    cases k with
    | zero=>simp only [List.set_cons_zero,ykv,hr,hl]
    | succ k=>simp only [List.set_cons_succ,ykv,ha,ih hl k]
theorem yOU (x : Waterway) (k : Nat) (m : Mover) : ykv ((x.Movers.map yZ).set k [.ow 3 ((x.Movers.getD k [] ++ [m]).map Mover.enc)]) = some ((yOq x k m).Movers.map yZ):=by
 rw [yO1 (yOT x.Movers) (s:=yZ (x.Movers.getD k [] ++ [m])) rfl k]
 simp [yOq,List.map_set]
def yOI (x : Waterway) (t : Train) : Nat:=if t.Up then x.Reaches.length - 1 else 0
def yOM (x : Waterway) (t : Train) : Int:=if t.Up then (x.Ways.getD (x.Reaches.length - 1) ⟨0,0⟩).Long else 0
def yOl (x : Waterway) (t : Train) : Waterway:={ yOq x (yOI x t) ⟨t,yOM x t⟩ with Entered:=x.Entered ++ yaY t }
def yOs (x : Waterway) (i : Int) : Bool:=!decide (i ∈ x.Entered)
def yOk (x : Waterway) (t : Train) : Waterway × Bool:=if yar x && yP t && (yaY t).all (yOs x) && yar (yOl x t) then (yOl x t,true) else (x,false)
structure EntFacts (x : Waterway) (t : Train) : Prop where
 two : 2 ≤ x.Reaches.length
 ways : x.Ways.length = x.Reaches.length
 mvs : x.Movers.length = x.Reaches.length
 few : ∀ (k : Nat) (l : List Mover),x.Movers[k]? = some l → l.length ≤ 24
 ent : x.Entered.length ≤ 2000
 ids : (yaY t).length ≤ 6
 kl : yOI x t < x.Movers.length
theorem yOO {x : Waterway} {t : Train} (h : yar x = true) (ht : yP t = true) : EntFacts x t:=by
 have hh:=h
 simp only [yar,Bool.and_eq_true] at h
 obtain ⟨⟨⟨⟨⟨⟨⟨h1,h2⟩,h3⟩,h4⟩,h5⟩,h6⟩,h7⟩,h8⟩:=h
 simp only [ybi,Bool.and_eq_true,decide_eq_true_eq] at h2
 obtain ⟨⟨⟨⟨⟨⟨p1,p2⟩,p3⟩,p4⟩,p5⟩,p6⟩,p7⟩:=h2
 refine ⟨p2,p3,p4,fun k l hk=>?_,?_,?_,?_⟩
 ·have kl:=(List.getElem?_eq_some_iff.1 hk).1
  have gl:=(List.getElem?_eq_some_iff.1 hk).2
  have:=List.all_eq_true.1 p6 (x.Ways[k]'(by omega),l) (List.mem_iff_getElem.2 ⟨k,by simp; omega,by simp [gl]⟩)
  simp only [yb8,Bool.and_eq_true,decide_eq_true_eq] at this
  exact this.1.2
 ·simp only [ybW,Bool.and_eq_true,decide_eq_true_eq] at h3
  omega
 ·simp only [yaY,ht,if_true]
  simp only [yP,Bool.and_eq_true,inRange,decide_eq_true_eq] at ht
  simp; omega
 ·unfold yOI; split <;> omega
theorem yOJ {x : Waterway} {t : Train} (F : EntFacts x t) (h : x.small) (ht : t.small) : (yOl x t).small:=by
 obtain ⟨s1,s2,s3,s4,s5,s6,s7,s8,s9⟩:=h
 have kl:=F.kl
 obtain ⟨l,hl⟩ : ∃ l,x.Movers[yOI x t]? = some l:=⟨_,List.getElem?_eq_getElem kl⟩
 have hll:=F.few _ _ hl
 refine ⟨s1,s2,s3,⟨by simp [yOl,yOq]; exact s4.1,fun y hy=>?_⟩,s5,⟨by simp [yOl]; have:=F.ent; have:=F.ids; omega,fun y hy=>trivial⟩,s7,s8,s9⟩
 have hlm:=List.mem_of_getElem? hl
 rcases List.mem_or_eq_of_mem_set hy with e | e
 ·exact s4.2 y e
 ·subst e
  rw [List.getD_eq_getElem?_getD,hl]
  refine ⟨by simp; omega,fun m hm=>?_⟩
  rcases List.mem_append.1 hm with e | e
  ·exact (s4.2 l hlm).2 m e
  ·rw [List.mem_singleton.1 e]; exact ht
theorem yOy (x : Waterway) (t : Train) : (yOl x t).enc = [.i x.Time,.sl 3 (x.Reaches.map Reach.enc),.sl 2 (x.Ways.map Way.enc),.sl 22 (x.Works.map Work.enc),.sl 1 ((yOq x (yOI x t) ⟨t,yOM x t⟩).Movers.map yZ),.sl 2 (x.Arrived.map Train.enc),.sl 1 ((x.Entered ++ yaY t).map yJ),.i x.Tariff.Base,.i x.Tariff.PerArea,.sl 1 (x.Tariff.PerClass.map yJ),.sl 1 (x.Tariff.Weights.map yJ),.sl 5 (x.Book.map Entry.enc),.sl 4 (x.Passings.map Passing.enc),.i x.Start,.i x.In,.i x.Out]:=rfl
theorem yOu (x : Waterway) (K : Nat) (t : Train) (p : Int) : ykv ((x.Movers.map yZ).set K [.ow 3 ((x.Movers[K]?.getD []).map Mover.enc ++ [[.b t.Up,.sl 1 (t.Rows.map yai),.i p]])]) = some ((yOq x K ⟨t,p⟩).Movers.map yZ):=by
 rw [← yOU]
 simp [Mover.enc,List.getD_eq_getElem?_getD,Train.enc]
theorem yOS (x : Waterway) (K : Nat) (y : List C) : List.take x.Movers.length ((x.Movers.map yZ).set K y) = (x.Movers.map yZ).set K y:=List.take_of_length_le (by simp)
theorem yOv (a b : List Int) : List.take (a.length + b.length) (a.map yJ ++ b.map yJ) = a.map yJ ++ b.map yJ:=List.take_of_length_le (by simp)
theorem yO4 (l : List Int) : AV.closed (.c (.ow 1 (l.map yJ))):=by simp [AV.closed,AV.ya7,C.closed]
set_option maxRecDepth 20000 in
theorem yOR (x : Waterway) (t : Train) (hs : x.small) (ht : t.small) :
 ybh Tryz.prog 7 [.agg (x.enc.map .c),.agg (t.enc.map .c)] (.tup [.agg ((yOk x t).1.yI.map .c),.c (.b (yOk x t).2)]):=by
 have hW:=yns x hs
 have hC:=ypi x hs
 have hT:=ydp t ht
 have hI:=yuz t ht
 have no1 : yar x = false → yOk x t = (x,false):=fun h=>by simp [yOk,h]
 have no2 : yP t = false → yOk x t = (x,false):=fun h=>by simp [yOk,h]
 refine yan yON ?_
 simp -dsimp -implicitDefEqProofs
 refine yaQ (hW) (by simp -dsimp -implicitDefEqProofs) rfl ?_
 cases hok : yar x with
 | false =>
  rw [no1 hok]
  simp -dsimp -implicitDefEqProofs
  refine yQ hC (by simp -dsimp -implicitDefEqProofs) (yb5 (Waterway.yad x)) (by simp [yU]) ?_
  simp -dsimp -implicitDefEqProofs [yt]
  refine yfg ?_
  simp -dsimp -implicitDefEqProofs [yt]
 | true =>
 simp -dsimp -implicitDefEqProofs
 refine yaQ (hT) (by simp -dsimp -implicitDefEqProofs) rfl ?_
 cases htk : yP t with
 | false =>
  rw [no2 htk]
  simp -dsimp -implicitDefEqProofs
  refine yQ hC (by simp -dsimp -implicitDefEqProofs) (yb5 (Waterway.yad x)) (by simp [yU]) ?_
  simp -dsimp -implicitDefEqProofs [yt]
  refine yfg ?_
  simp -dsimp -implicitDefEqProofs [yt]
 | true =>
 have F:=yOO hok htk
 simp -dsimp -implicitDefEqProofs
 refine yaP (hI) (by simp -dsimp -implicitDefEqProofs) rfl ?_
 have no3 : (yaY t).all (yOs x) = false → yOk x t = (x,false):=fun h=>by simp only [yOk,h,Bool.and_false,Bool.false_and]; rfl
 simp -dsimp -implicitDefEqProofs
 intro hlen
 refine yg (ι:=Nat) (fun k=>k ≤ (yaY t).length ∧ ∀ i ∈ (yaY t).take k,yOs x i = true) (fun k=>yO [(2,.box 2 0),(3,.box 3 0),(4,.box 4 0),(5,.c (.b false)),(6,.c (.sl 1 ((yaY t).map yJ))),(24,.c (.sl 1 ((yaY t).map yJ))),(25,.c (.i (yaY t).length)),(26,.c (.i k))] [(2,.box [.c (.i x.Time),.c (.sl 3 (x.Reaches.map Reach.enc)),.c (.sl 2 (x.Ways.map Way.enc)),.c (.sl 22 (x.Works.map Work.enc)),.c (.sl 1 (x.Movers.map yZ)),.c (.sl 2 (x.Arrived.map Train.enc)),.c (.sl 1 (x.Entered.map yJ)),.c (.i x.Tariff.Base),.c (.i x.Tariff.PerArea),.c (.sl 1 (x.Tariff.PerClass.map yJ)),.c (.sl 1 (x.Tariff.Weights.map yJ)),.c (.sl 5 (x.Book.map Entry.enc)),.c (.sl 4 (x.Passings.map Passing.enc)),.c (.i x.Start),.c (.i x.In),.c (.i x.Out)]),(3,.box [.c (.b t.Up),.c (.sl 1 (t.Rows.map yai))]),(4,.box [.c (.i 0),.nil 3,.nil 2,.nil 22,.nil 1,.nil 2,.nil 1,.c (.i 0),.c (.i 0),.nil 1,.nil 1,.nil 5,.nil 4,.c (.i 0),.c (.i 0),.c (.i 0)])]) (fun k=>(yaY t).length - k) 0 (by simp) (by apply yj <;> simp) ?_
 rintro k ⟨hk,hall⟩
 rcases Nat.lt_or_ge k (yaY t).length with klt | kge
 ·obtain ⟨i,hi⟩ : ∃ i,(yaY t)[k]? = some i:=⟨_,List.getElem?_eq_getElem klt⟩
  have g1:=(List.getElem?_eq_some_iff.1 hi).2
  simp -dsimp -implicitDefEqProofs [hi,g1,klt,yG klt]
  refine yaQ (ypJ x.Entered i) (by simp -dsimp -implicitDefEqProofs) rfl ?_
  cases hin : decide (i ∈ x.Entered) with
  | true =>
   rw [no3 (all_false (p:=yOs x) hi (by simp only [yOs,hin]; rfl))]
   simp -dsimp -implicitDefEqProofs
   refine yQ hC (by simp -dsimp -implicitDefEqProofs) (yb5 (Waterway.yad x)) (by simp [yU]) ?_
   simp -dsimp -implicitDefEqProofs [yt]
   refine yfg ?_
   simp -dsimp -implicitDefEqProofs [yt]
  | false =>
   have hall':=yL (p:=yOs x) hi hall (by simp only [yOs,hin]; rfl)
   simp -dsimp -implicitDefEqProofs
   refine ⟨yw klt hlen,k + 1,⟨klt,hall'⟩,by omega,?_⟩
   apply yj <;> simp
 have hall2 : (yaY t).all (yOs x) = true:=yX (p:=yOs x) kge hall
 have hes:=yOJ F hs ht
 have hV:=yns (yOl x t) hes
 have hC2:=ypi (yOl x t) hes
 rw [yOy] at hV hC2
 have no4 : yar (yOl x t) = false → yOk x t = (x,false):=fun h=>by simp only [yOk,h,Bool.and_false]; rfl
 have yes : yar (yOl x t) = true → yOk x t = (yOl x t,true):=fun h=>by simp only [yOk,hok,htk,hall2,h,Bool.and_true,if_true]
 have kl:=F.kl
 obtain ⟨l,hl⟩ : ∃ l,x.Movers[yOI x t]? = some l:=⟨_,List.getElem?_eq_getElem kl⟩
 have hll:=F.few _ _ hl
 have f1:=F.two
 have f2:=F.ways
 have f3:=F.mvs
 have f4:=F.ent
 have f5:=F.ids
 have s41:=hs.2.2.2.1.1
 have hM:=yO0 x (yOI x t) l ⟨t,yOM x t⟩ s41 hl (by omega)
 simp -dsimp -implicitDefEqProofs [yaB kge]
 cases hup : t.Up with
 | true =>
  obtain ⟨w,hw⟩ : ∃ w,x.Ways[x.Reaches.length - 1]? = some w:=⟨_,List.getElem?_eq_getElem (by omega)⟩
  have ek : yOI x t = x.Reaches.length - 1:=by simp [yOI,hup]
  have ep : yOM x t = w.Long:=by simp [yOM,hup,hw]
  rw [ek,ep] at hM hV hC2
  rw [show ((x.Reaches.length - 1 : Nat) : Int) = (x.Reaches.length : Int) - 1 from by omega] at hM
  simp -dsimp -implicitDefEqProofs [hw,hup]
  refine fun _=>⟨by unfold inI; omega,by omega,by omega,?_⟩
  try simp only [hup] at hM hV hC2
  refine yjo hM (by simp -dsimp -implicitDefEqProofs [hup]) rfl (by simp [yU,yOr]) ?_
  simp -dsimp -implicitDefEqProofs [yOr]
  refine yQ (yOW x.Entered (yaY t) (by omega) (by omega)) (by simp -dsimp -implicitDefEqProofs) (yO4 _) (by simp [yU]) ?_
  simp -dsimp -implicitDefEqProofs [yt]
  refine yaQ (hV) (by simp -dsimp -implicitDefEqProofs [yt,yOu,yOS,yOv]) rfl ?_
  cases hv : yar (yOl x t) with
  | false =>
   rw [no4 hv]
   simp -dsimp -implicitDefEqProofs
   refine yQ hC (by simp -dsimp -implicitDefEqProofs) (yb5 (Waterway.yad x)) (by simp [yU]) ?_
   simp -dsimp -implicitDefEqProofs [yt]
   refine yfg ?_
   simp -dsimp -implicitDefEqProofs [yt]
  | true =>
   rw [yes hv]
   simp -dsimp -implicitDefEqProofs
   refine yQ hC2 (by simp -dsimp -implicitDefEqProofs [yt,yOu,yOS,yOv]) (yb5 (Waterway.yad (yOl x t))) (by simp [yU]) ?_
   simp -dsimp -implicitDefEqProofs [yt]
   refine yfg ?_
   simp -dsimp -implicitDefEqProofs [yt]
 | false =>
  have ek : yOI x t = 0:=by simp [yOI,hup]
  have ep : yOM x t = 0:=by simp [yOM,hup]
  rw [ek,ep] at hM hV hC2
  simp -dsimp -implicitDefEqProofs [hup]
  refine yjo hM (by simp -dsimp -implicitDefEqProofs [hup]) rfl (by simp [yU,yOr]) ?_
  simp -dsimp -implicitDefEqProofs [yOr]
  refine yQ (yOW x.Entered (yaY t) (by omega) (by omega)) (by simp -dsimp -implicitDefEqProofs) (yO4 _) (by simp [yU]) ?_
  simp -dsimp -implicitDefEqProofs [yt]
  refine yaQ (hV) (by simp -dsimp -implicitDefEqProofs [yt,yOu,yOS,yOv]) rfl ?_
  cases hv : yar (yOl x t) with
  | false =>
   rw [no4 hv]
   simp -dsimp -implicitDefEqProofs
   refine yQ hC (by simp -dsimp -implicitDefEqProofs) (yb5 (Waterway.yad x)) (by simp [yU]) ?_
   simp -dsimp -implicitDefEqProofs [yt]
   refine yfg ?_
   simp -dsimp -implicitDefEqProofs [yt]
  | true =>
   rw [yes hv]
   simp -dsimp -implicitDefEqProofs
   refine yQ hC2 (by simp -dsimp -implicitDefEqProofs [yt,yOu,yOS,yOv]) (yb5 (Waterway.yad (yOl x t))) (by simp [yU]) ?_
   simp -dsimp -implicitDefEqProofs [yt]
   refine yfg ?_
   simp -dsimp -implicitDefEqProofs [yt]
def vAt (l : List Int) (k : Nat) : Int:=l[k]?.getD 0
theorem ySA {l : List Int} {k : Nat} {x : Int} (h : l[k]? = some x) : vAt l k = x:=by simp [vAt,h]
def yR4 (l : List Int) : Nat → Nat
 | 0=>0
 | k + 1=>if vAt l (yR4 l k) < vAt l k then k else yR4 l k
theorem ySk {l : List Int} {k : Nat} : yR4 l (k + 1) = if vAt l (yR4 l k) < vAt l k then k else yR4 l k:=rfl
theorem ySG {l : List Int} (h : 0 < l.length) : ∀ {k : Nat},k ≤ l.length → yR4 l k < l.length
 | 0,_=>h
 | k + 1,hk=>by
  rw [ySk]
  split
  ·omega
  ·exact ySG h (by omega)
theorem yTe {l : List Int} : ∀ {k j : Nat},j < k → vAt l j ≤ vAt l (yR4 l k)
 | k + 1,j,hj=>by
  rw [ySk]
  rcases Nat.lt_or_ge j k with h | h
  ·have:=yTe (l:=l) h
   split <;> omega
  ·have : j = k:=by omega
   subst this
   split <;> omega
theorem yS8 {l : List Int} : ∀ {k j : Nat},j < yR4 l k → vAt l j < vAt l (yR4 l k)
 | 0,j,h=>by simp [yR4] at h
 | k + 1,j,h=>by
  rw [ySk] at h ⊢
  split at h
  ·rename_i h2
   rw [if_pos h2]
   have:=yTe (l:=l) (show j < k from h)
   omega
  ·rename_i h2
   rw [if_neg h2]
   exact yS8 h
theorem yUc {l : List Int} {n a : Nat} (h : a < n) (h1 : ∀ x,x < n → vAt l x ≤ vAt l a) (h2 : ∀ x,x < a → vAt l x < vAt l a) (hn : n ≤ l.length) : yR4 l n = a:=by
 have g1:=yTe (l:=l) h
 have g2 : yR4 l n < l.length:=ySG (by omega) hn
 have g3 : yR4 l n < n:=by
  have : ∀ k : Nat,0 < k → yR4 l k < k:=by
   intro k
   induction k with
   | zero=>intro h; omega
   | succ k ih =>
    intro _
    rw [ySk]
    split
    ·omega
    ·rcases Nat.eq_zero_or_pos k with e | e
     ·subst e; simp [yR4]
     ·have:=ih e; omega
  exact this n (by omega)
 have g4:=h1 _ g3
 rcases Nat.lt_trichotomy a (yR4 l n) with e | e | e
 ·have:=yS8 e; omega
 ·exact e.symm
 ·have:=h2 _ e; omega
def better (R : List Int) (x y : Nat) : Prop:=vAt R y < vAt R x ∨ (vAt R x = vAt R y ∧ x < y)
def ySH (R : List Int) (i : Nat) (x : Nat) : Bool:=decide (vAt R i ≤ vAt R x)
def yUg (R : List Int) (i : Nat) (P : List Nat) : List Nat:=P.takeWhile (ySH R i) ++ i :: P.dropWhile (ySH R i)
def ySh (R : List Int) : Nat → List Nat
 | 0=>[]
 | i + 1=>yUg R i (ySh R i)
theorem yT3 {p : Nat → Bool} : ∀ {l1 l2 : List Nat},(∀ x ∈ l1,p x = true) → (∀ x ∈ l2,p x = false) → (l1 ++ l2).takeWhile p = l1 ∧ (l1 ++ l2).dropWhile p = l2
 | [],[],_,_=>⟨rfl,rfl⟩
 | [],x :: l,_,h=>by
  have:=h x (by simp)
  simp [List.takeWhile_cons,List.dropWhile_cons,this]
 | x :: l,l2,h1,h2=>by
  have hx:=h1 x (by simp)
  obtain ⟨e1,e2⟩:=yT3 (p:=p) (l1:=l) (l2:=l2) (fun y hy=>h1 y (by simp [hy])) h2
  simp [List.takeWhile_cons,List.dropWhile_cons,hx,e1,e2]
theorem ySU {p : Nat → Bool} : ∀ {l r : List Nat} {y : Nat},l.dropWhile p = y :: r → p y = false
 | [],r,y,h=>by simp at h
 | x :: l,r,y,h=>by
  rw [List.dropWhile_cons] at h
  split at h
  ·exact ySU h
  ·rename_i hx
   cases h
   simpa using hx
theorem yUa {R : List Int} {i : Nat} {P l1 l2 : List Nat} (hP : P.Pairwise (better R)) (e : l1 ++ l2 = P) (h2 : ∀ x ∈ l2,vAt R x < vAt R i) (h1 : ∀ l y,l1 = l ++ [y] → vAt R i ≤ vAt R y) : yUg R i P = l1 ++ i :: l2:=by
 subst e
 have hall : ∀ x ∈ l1,ySH R i x = true:=by
  rcases List.eq_nil_or_concat l1 with e | ⟨l,y,e⟩
  ·subst e; simp
  ·have hy:=h1 l y (by simpa using e)
   subst e
   intro x hx
   simp only [ySH,decide_eq_true_eq]
   rw [List.concat_eq_append] at hx hP
   rcases List.mem_append.1 hx with hx | hx
   ·have:=(List.pairwise_append.1 (List.pairwise_append.1 hP).1).2.2 x hx y (by simp)
    unfold better at this; omega
   ·rw [List.mem_singleton] at hx; subst hx; exact hy
 obtain ⟨e1,e2⟩:=yT3 (p:=ySH R i) hall (fun x hx=>by have:=h2 x hx; simp only [ySH,decide_eq_false_iff_not]; omega)
 unfold yUg
 rw [e1,e2]
structure OrdFacts (R : List Int) (i : Nat) (o : List Nat) : Prop where
 len : o.length = i
 lt : ∀ x ∈ o,x < i
 pw : o.Pairwise (better R)
 all : ∀ x,x < i → x ∈ o
theorem ySo (R : List Int) : ∀ i : Nat,OrdFacts R i (ySh R i)
 | 0=>⟨rfl,by simp [ySh],by simp [ySh],fun x h=>by omega⟩
 | i + 1=>by
  have f:=ySo R i
  show OrdFacts R (i + 1) (yUg R i (ySh R i))
  generalize ySh R i = P at f
  have e:=List.takeWhile_append_dropWhile (p:=ySH R i) (l:=P)
  have h1 : ∀ x ∈ P.takeWhile (ySH R i),vAt R i ≤ vAt R x:=fun x hx=>by
   have : ySH R i x = true:=by
    have:=List.all_takeWhile (p:=ySH R i) (l:=P)
    exact List.all_eq_true.1 this x hx
   simpa [ySH] using this
  have h2 : ∀ x ∈ P.dropWhile (ySH R i),vAt R x < vAt R i:=by
   intro x hx
   have hpw : (P.dropWhile (ySH R i)).Pairwise (better R):=by have:=f.pw; rw [← e] at this; exact (List.pairwise_append.1 this).2.1
   have hh : ∀ y l,P.dropWhile (ySH R i) = y :: l → vAt R y < vAt R i:=by
    intro y l hy
    have:=ySU hy
    simpa [ySH] using this
   cases hd : P.dropWhile (ySH R i) with
   | nil=>rw [hd] at hx; cases hx
   | cons y l =>
    have hy:=hh y l hd
    rw [hd] at hx hpw
    rcases List.mem_cons.1 hx with e | e
    ·subst e; exact hy
    ·have:=(List.pairwise_cons.1 hpw).1 x e
     unfold better at this; omega
  have hlen : (P.takeWhile (ySH R i)).length + (P.dropWhile (ySH R i)).length = i:=by rw [← List.length_append,e,f.len]
  have hmem : ∀ x,x ∈ P ↔ x ∈ P.takeWhile (ySH R i) ∨ x ∈ P.dropWhile (ySH R i):=fun x=>by rw [← List.mem_append,e]
  refine ⟨by simp only [yUg,List.length_append,List.length_cons]; omega,fun x hx=>?_,?_,fun x hx=>?_⟩
  ·rcases List.mem_append.1 hx with hx | hx
   ·have:=f.lt x ((hmem x).2 (.inl hx)); omega
   ·rcases List.mem_cons.1 hx with hx | hx
    ·omega
    ·have:=f.lt x ((hmem x).2 (.inr hx)); omega
  ·have hpw:=f.pw
   rw [← e] at hpw
   obtain ⟨p1,p2,p3⟩:=List.pairwise_append.1 hpw
   refine List.pairwise_append.2 ⟨p1,List.pairwise_cons.2 ⟨fun y hy=>.inl (h2 y hy),p2⟩,fun x hx y hy=>?_⟩
   rcases List.mem_cons.1 hy with hy | hy
   ·subst hy
    have a1:=h1 x hx
    have a2:=f.lt x ((hmem x).2 (.inl hx))
    unfold better; omega
   ·exact p3 x hx y hy
  ·rcases Nat.lt_or_ge x i with h | h
   ·rcases (hmem x).1 (f.all x h) with h | h
    ·exact List.mem_append_left _ h
    ·exact List.mem_append_right _ (List.mem_cons_of_mem _ h)
   ·have : x = i:=by omega
    subst this
    exact List.mem_append_right _ (List.mem_cons_self ..)
def ySt (out : List Int) (o : List Nat) (j : Nat) : List Int:=(o.take j).foldl (fun s x=>s.set x (vAt s x + 1)) out
def ySj (R : List Int) (o : List Nat) (j : Nat) : List Int:=(o.take j).foldl (fun s x=>s.set x (-1)) R
theorem yTL {out : List Int} {o : List Nat} : ySt out o 0 = out:=rfl
theorem yTk {out : List Int} {o : List Nat} : ySj out o 0 = out:=rfl
theorem yS0 {out : List Int} {o : List Nat} {j x : Nat} (h : o[j]? = some x) : ySt out o (j + 1) = (ySt out o j).set x (vAt (ySt out o j) x + 1):=by
 unfold ySt; rw [List.take_succ,h,List.foldl_append]; rfl
theorem ySY {out : List Int} {o : List Nat} {j x : Nat} (h : o[j]? = some x) : ySj out o (j + 1) = (ySj out o j).set x (-1):=by
 unfold ySj; rw [List.take_succ,h,List.foldl_append]; rfl
theorem yTa {out : List Int} {o : List Nat} : ∀ j : Nat,(ySt out o j).length = out.length
 | 0=>rfl
 | j + 1=>by
  cases h : o[j]? with
  | none =>
   have hl : o.length ≤ j:=by simpa using h
   have e : ySt out o (j + 1) = ySt out o j:=by unfold ySt; rw [List.take_of_length_le (by omega),List.take_of_length_le hl]
   rw [e,yTa j]
  | some x=>rw [yS0 h,List.length_set,yTa j]
theorem ySs {out : List Int} {o : List Nat} : ∀ j : Nat,(ySj out o j).length = out.length
 | 0=>rfl
 | j + 1=>by
  cases h : o[j]? with
  | none =>
   have hl : o.length ≤ j:=by simpa using h
   have e : ySj out o (j + 1) = ySj out o j:=by unfold ySj; rw [List.take_of_length_le (by omega),List.take_of_length_le hl]
   rw [e,ySs j]
  | some x=>rw [ySY h,List.length_set,ySs j]
theorem yUp {l : List Int} {i j : Nat} {v : Int} (h : i < l.length) : vAt (l.set i v) j = if i = j then v else vAt l j:=by
 unfold vAt
 rw [List.getElem?_set]
 by_cases e : i = j
 ·simp [e,e ▸ h]
 ·simp [e]
theorem yTg {R : List Int} {o : List Nat} (ho : ∀ x ∈ o,x < R.length) : ∀ (j y : Nat),vAt (ySj R o j) y = if y ∈ o.take j then -1 else vAt R y
 | 0,y=>by simp [yTk]
 | j + 1,y=>by
  cases h : o[j]? with
  | none =>
   have hl : o.length ≤ j:=by simpa using h
   have e : ySj R o (j + 1) = ySj R o j:=by unfold ySj; rw [List.take_of_length_le (by omega),List.take_of_length_le hl]
   rw [e,yTg ho j y,List.take_of_length_le hl,List.take_of_length_le (by omega)]
  | some x =>
   rw [ySY h,yUp (by rw [ySs]; exact ho x (List.mem_of_getElem? h)),yTg ho j y,List.take_succ,h]
   by_cases e : x = y
   ·simp [e]
   ·have : y ≠ x:=fun h=>e h.symm
    simp [e,this]
theorem yUn {R : List Int} (hR : ∀ x,0 ≤ vAt R x) {j a : Nat} (h : (ySh R R.length)[j]? = some a) : yR4 (ySj R (ySh R R.length) j) (ySj R (ySh R R.length) j).length = a:=by
 have f:=ySo R R.length
 generalize ySh R R.length = o at *
 have hj:=(List.getElem?_eq_some_iff.1 h).1
 have ha:=f.lt a (List.mem_of_getElem? h)
 have irr : ∀ x,¬ better R x x:=fun x h=>by unfold better at h; omega
 have hsplit : o = o.take j ++ a :: o.drop (j + 1):=by
  rw [← (List.getElem?_eq_some_iff.1 h).2,List.getElem_cons_drop,List.take_append_drop]
 have hpw:=f.pw
 rw [hsplit] at hpw
 obtain ⟨p1,p2,p3⟩:=List.pairwise_append.1 hpw
 have hnot : a ∉ o.take j:=fun hm=>irr a (p3 a hm a (by simp))
 have hat:=yTg (R:=R) f.lt j
 have hva : vAt (ySj R o j) a = vAt R a:=by rw [hat,if_neg hnot]
 have key : ∀ x,x < R.length → x ∉ o.take j → x = a ∨ better R a x:=by
  intro x hx hn
  have:=f.all x hx
  rw [hsplit] at this
  rcases List.mem_append.1 this with h1 | h1
  ·exact absurd h1 hn
  ·rcases List.mem_cons.1 h1 with h1 | h1
   ·exact .inl h1
   ·exact .inr ((List.pairwise_cons.1 p2).1 x h1)
 rw [ySs]
 refine yUc ha (fun x hx=>?_) (fun x hx=>?_) (by rw [ySs]; exact Nat.le_refl _)
 ·rw [hva,hat]
  split
  ·have:=hR a; omega
  ·rename_i hn
   rcases key x hx hn with e | e
   ·subst e; exact Int.le_refl _
   ·unfold better at e; omega
 ·rw [hva,hat]
  split
  ·have:=hR a; omega
  ·rename_i hn
   rcases key x (by omega) hn with e | e
   ·omega
   ·unfold better at e; omega
def ySX : Nat → List Int → List Int → List Int
 | 0,out,_=>out
 | n + 1,out,rest=>ySX n (out.set (yR4 rest rest.length) (vAt out (yR4 rest rest.length) + 1)) (rest.set (yR4 rest rest.length) (-1))
theorem yTN {R Q : List Int} (hR : ∀ x,0 ≤ vAt R x) : ∀ (m j : Nat),j + m ≤ R.length → ySX m (ySt Q (ySh R R.length) j) (ySj R (ySh R R.length) j) = ySt Q (ySh R R.length) (j + m)
 | 0,j,_=>rfl
 | m + 1,j,h=>by
  have hj : j < (ySh R R.length).length:=by rw [(ySo R R.length).len]; omega
  obtain ⟨a,ha⟩ : ∃ a,(ySh R R.length)[j]? = some a:=⟨_,List.getElem?_eq_getElem hj⟩
  have hp:=yUn hR ha
  unfold ySX
  rw [hp,← yS0 ha,← ySY ha,yTN hR m (j + 1) (by omega)]
  congr 1; omega
def quota (t s w : Int) : Int:=(t * w).tdiv s
def ySp (t s w : Int) : Int:=(t * w).tmod s
def yR8 (t : Int) (ws : List Int) : Bool:=inRange t 0 1000000000 && decide (1 ≤ ws.length) && decide (ws.length ≤ 12) && ws.all (fun w=>inRange w 0 1000000) && decide (ws.sum ≠ 0)
def ySb (t : Int) (ws : List Int) : Int:=t - (ws.map (quota t ws.sum)).sum
def yR3 (t : Int) (ws : List Int) : List Int:=if yR8 t ws then ySX (ySb t ws).toNat (ws.map (quota t ws.sum)) (ws.map (ySp t ws.sum)) else []
structure ShareFacts (t : Int) (ws : List Int) : Prop where
 tot : 0 ≤ t ∧ t ≤ 1000000000
 len : 1 ≤ ws.length ∧ ws.length ≤ 12
 rng : ∀ w ∈ ws,0 ≤ w ∧ w ≤ 1000000
 sum : 1 ≤ ws.sum ∧ ws.sum ≤ 12000000
theorem sum_bnd {l : List Int} {m : Int} (h : ∀ x ∈ l,0 ≤ x ∧ x ≤ m) : 0 ≤ l.sum ∧ l.sum ≤ m * l.length:=by
 induction l with
 | nil=>simp
 | cons a l ih =>
  have h1:=ih fun x hx=>h x (by simp [hx])
  have h2:=h a (by simp)
  simp only [List.sum_cons,List.length_cons,Int.natCast_add,Int.natCast_one,Int.mul_add,Int.mul_one]
  omega
theorem ySN {t : Int} {ws : List Int} (h : yR8 t ws = true) : ShareFacts t ws:=by
 simp only [yR8,Bool.and_eq_true,decide_eq_true_eq,List.all_eq_true] at h
 obtain ⟨⟨⟨⟨h1,h2⟩,h3⟩,h4⟩,h5⟩:=h
 have hr : ∀ w ∈ ws,0 ≤ w ∧ w ≤ 1000000:=fun w hw=>yF.1 (h4 w hw)
 have hs:=sum_bnd hr
 exact ⟨yF.1 h1,⟨h2,h3⟩,hr,by omega⟩
theorem ySi {t s w : Int} (ht : 0 ≤ t ∧ t ≤ 1000000000) (hs : 1 ≤ s) (hw : 0 ≤ w ∧ w ≤ 1000000) : 0 ≤ quota t s w ∧ quota t s w ≤ 1000000000000000 ∧ 0 ≤ ySp t s w ∧ ySp t s w < s ∧ s * quota t s w + ySp t s w = t * w ∧ 0 ≤ t * w ∧ t * w ≤ 1000000000000000:=by
 have h0 : 0 ≤ t * w:=Int.mul_nonneg ht.1 hw.1
 have h1 : t * w ≤ 1000000000 * 1000000:=Int.mul_le_mul ht.2 hw.2 hw.1 (by omega)
 unfold quota ySp
 rw [Int.tdiv_eq_ediv_of_nonneg h0,Int.tmod_eq_emod_of_nonneg h0]
 have a1:=Int.emod_nonneg (t * w) (show s ≠ 0 by omega)
 have a2:=Int.emod_lt_of_pos (t * w) (show 0 < s by omega)
 have a3:=Int.mul_ediv_add_emod (t * w) s
 have a4 : 0 ≤ t * w / s:=Int.ediv_nonneg h0 (by omega)
 have a5 : t * w / s ≤ t * w:=Int.ediv_le_self _ h0
 exact ⟨a4,by omega,a1,a2,a3,h0,by omega⟩
theorem yTw {t s : Int} (ht : 0 ≤ t ∧ t ≤ 1000000000) (hs : 1 ≤ s) : ∀ {ws : List Int},(∀ w ∈ ws,0 ≤ w ∧ w ≤ 1000000) → s * (ws.map (quota t s)).sum + (ws.map (ySp t s)).sum = t * ws.sum
 | [],_=>by simp
 | w :: ws,h=>by
  have ih:=yTw ht hs (ws:=ws) fun x hx=>h x (by simp [hx])
  have q:=(ySi (t:=t) (s:=s) ht hs (h w (by simp))).2.2.2.2.1
  simp only [List.map_cons,List.sum_cons,Int.mul_add]
  omega
theorem yTv {t : Int} {ws : List Int} (h : ShareFacts t ws) : 0 ≤ ySb t ws ∧ ySb t ws < ws.length:=by
 have hs:=yTw h.tot h.sum.1 h.rng
 have hr:=sum_bnd (l:=ws.map (ySp t ws.sum)) (m:=ws.sum - 1) (fun x hx=>by
  obtain ⟨w,hw,rfl⟩:=List.mem_map.1 hx
  have:=ySi h.tot h.sum.1 (h.rng w hw)
  omega)
 rw [List.length_map] at hr
 have e : ws.sum * ySb t ws = (ws.map (ySp t ws.sum)).sum:=by
  unfold ySb; rw [Int.mul_sub,Int.mul_comm ws.sum t]; omega
 have hp:=h.sum.1
 have hl:=h.len.1
 constructor
 ·rcases Int.lt_or_le (ySb t ws) 0 with h1 | h1
  ·have:=Int.mul_neg_of_pos_of_neg (show 0 < ws.sum by omega) h1
   omega
  ·exact h1
 ·rcases Int.lt_or_le (ySb t ws) ws.length with h1 | h1
  ·exact h1
  ·have h2:=Int.mul_le_mul_of_nonneg_left h1 (show 0 ≤ ws.sum by omega)
   have h3 : (ws.sum - 1) * (ws.length : Int) < ws.sum * (ws.length : Int):=Int.mul_lt_mul_of_pos_right (by omega) (by omega)
   omega
theorem yTl {t : Int} {ws : List Int} (h : yR8 t ws = true) : yR3 t ws = ySt (ws.map (quota t ws.sum)) (ySh (ws.map (ySp t ws.sum)) ws.length) (ySb t ws).toNat:=by
 have f:=ySN h
 have hl:=yTv f
 have hR : ∀ x,0 ≤ vAt (ws.map (ySp t ws.sum)) x:=by
  intro x
  unfold vAt
  cases hx : (ws.map (ySp t ws.sum))[x]? with
  | none=>simp
  | some r =>
   rw [List.getElem?_map,Option.map_eq_some_iff] at hx
   obtain ⟨w,hw,rfl⟩:=hx
   exact (ySi f.tot f.sum.1 (f.rng w (List.mem_of_getElem? hw))).2.2.1
 have key:=yTN (Q:=ws.map (quota t ws.sum)) hR (ySb t ws).toNat 0 (by rw [List.length_map]; omega)
 rw [yTL,yTk,List.length_map,Nat.zero_add] at key
 rw [yR3,if_pos h,key]
def yR5 (x : Nat) : List C:=[.i x]
theorem yT7 (t s : Int) (ws : List Int) (ht : 0 ≤ t ∧ t ≤ 1000000000) (hs : 1 ≤ s) (hs2 : s ≤ 12000000) (hw : ∀ w ∈ ws,0 ≤ w ∧ w ≤ 1000000) (x y : Nat) (hx : x < ws.length) (hy : y < ws.length) :
 yB Tryz.prog 140 [.c (.i x),.c (.i y),.elt [.i t],.elt [.sl 1 (ws.map yJ)],.elt [.i s]] (.c (.i (vAt (ws.map (ySp t s)) y - vAt (ws.map (ySp t s)) x))):=by
 obtain ⟨wx,hwx⟩ : ∃ e,ws[x]? = some e:=⟨_,List.getElem?_eq_getElem hx⟩
 obtain ⟨wy,hwy⟩ : ∃ e,ws[y]? = some e:=⟨_,List.getElem?_eq_getElem hy⟩
 have g1:=(List.getElem?_eq_some_iff.1 hwx).2
 have g2:=(List.getElem?_eq_some_iff.1 hwy).2
 have q1:=ySi ht hs (hw wx (List.mem_of_getElem? hwx))
 have q2:=ySi ht hs (hw wy (List.mem_of_getElem? hwy))
 have e1 : vAt (ws.map (ySp t s)) x = ySp t s wx:=ySA (by simp [hwx])
 have e2 : vAt (ws.map (ySp t s)) y = ySp t s wy:=ySA (by simp [hwy])
 rw [e1,e2]
 unfold ySp at *
 refine yh yS7 ?_
 simp -dsimp -implicitDefEqProofs [ySy,hwx,hwy,g1,g2,hx,hy]
 refine ⟨by unfold inI; omega,by omega,by unfold inI; omega,by unfold inI; omega,by omega,by unfold inI; omega,by unfold inI; omega⟩
def yS6 (R : List Int) (i n : Nat) : List Nat:=ySh R i ++ List.range' i (n - i)
def ySw (l1 l2 : List Nat) (i n : Nat) : List Nat:=(l1 ++ i :: l2) ++ List.range' (i + 1) (n - (i + 1))
theorem yUh {R : List Int} {n : Nat} (h : 1 ≤ n) : yS6 R 1 n = List.range n:=by
 have : ySh R 1 = [0]:=rfl
 unfold yS6
 rw [this,List.range_eq_range',show n = (n - 1) + 1 by omega,List.range'_succ]; simp
theorem yUe {R : List Int} {n : Nat} : yS6 R n n = ySh R n:=by simp [yS6]
theorem yUk {R : List Int} {i n : Nat} (h : i < n) : yS6 R i n = ySw (ySh R i) [] i n:=by
 unfold yS6 ySw
 rw [show n - i = (n - (i + 1)) + 1 by omega,List.range'_succ]; simp
theorem yTQ {R : List Int} {i n : Nat} {l1 l2 : List Nat} (h : ySh R (i + 1) = l1 ++ i :: l2) : ySw l1 l2 i n = yS6 R (i + 1) n:=by unfold yS6 ySw; rw [h]
theorem yUf {i n : Nat} {l1 l2 : List Nat} (h : l1.length + l2.length = i) (h2 : i < n) : (ySw l1 l2 i n).length = n:=by simp [ySw]; omega
theorem yUd {i n y : Nat} {l l2 : List Nat} : (ySw (l ++ [y]) l2 i n)[l.length + 1]? = some i ∧ (ySw (l ++ [y]) l2 i n)[l.length]? = some y ∧
 ((ySw (l ++ [y]) l2 i n).set (l.length + 1) y).set l.length i = ySw l (y :: l2) i n:=by
 unfold ySw
 simp only [List.append_assoc,List.cons_append,List.nil_append]
 refine ⟨by simp [List.getElem?_append],by simp [List.getElem?_append],?_⟩
 simp [List.set_append]
theorem yUb (R : List Int) (n : Nat) (hn : 1 ≤ n) (hn2 : n ≤ 1000) (f : Nat) (a b c : List C) (hf : ∃ fn,Tryz.prog.funcs[f]? = some fn ∧ fn.body.isSome = true ∧ (fn.name != "runtime.NumGoroutine") = true)
 (hc : ∀ x y : Nat,x < n → y < n → yB Tryz.prog f [.c (.i x),.c (.i y),.elt a,.elt b,.elt c] (.c (.i (vAt R y - vAt R x)))) :
 InF Tryz.prog 189 (.c (cw 1 ((List.range n).map yR5))) (.c (cw 1 ((ySh R n).map yR5))) [.c (.i 0),.c (.i n),.fn f [.elt a,.elt b,.elt c]] (.tup []):=by
 have hon:=ySo R n
 rw [yb4 (by simp; omega),yb4 (by rw [List.length_map,hon.len]; omega)]
 refine ybO yKZ (by simp) (by simp) rfl fun hwf=>?_
 simp -dsimp -implicitDefEqProofs
 refine ⟨by unfold inI; omega,?_⟩
 refine yg (ι:=Nat) (fun i=>1 ≤ i ∧ i ≤ n) (fun i=>yO [(0,.own 0 1 n),(1,.c (.i 0)),(2,.c (.i n)),(3,.fn f [.elt a,.elt b,.elt c]),(8,.c (.i i)),(1000000,.own 0 1 n)] [(0,.row 1 ((yS6 R i n).map yR5))]) (fun i=>n - i) 1 ⟨Nat.le_refl _,hn⟩ (by apply yj <;> simp [yUh hn]) ?_
 rintro i ⟨hi1,hi⟩
 have fi:=ySo R i
 rcases Nat.lt_or_ge i n with hlt | hge
 ·simp -dsimp -implicitDefEqProofs [yG hlt]
  rw [yUk hlt]
  have hsuc : ySh R (i + 1) = yUg R i (ySh R i):=rfl
  generalize ySh R i = P at *
  refine yg (ι:=List Nat × List Nat) (fun p=>p.1 ++ p.2 = P ∧ ∀ x ∈ p.2,vAt R x < vAt R i) (fun p=>yO [(0,.own 0 1 n),(1,.c (.i 0)),(2,.c (.i n)),(3,.fn f [.elt a,.elt b,.elt c]),(8,.c (.i i)),(9,.c (.i p.1.length)),(1000000,.own 0 1 n)] [(0,.row 1 ((ySw p.1 p.2 i n).map yR5))]) (fun p=>p.1.length) (P,[]) ⟨by simp,by simp⟩ (by apply yj <;> simp [fi.len]) ?_
  rintro ⟨l1,l2⟩ ⟨he,h2⟩
  simp only at he h2
  rcases List.eq_nil_or_concat l1 with e | ⟨l,y,e⟩
  ·subst e
   have hins:=yUa (R:=R) (i:=i) fi.pw he h2 (fun l y h=>by simp at h)
   rw [← hsuc] at hins
   have hend:=yTQ (n:=n) hins
   simp -dsimp -implicitDefEqProofs
   refine ⟨by unfold inI; omega,i + 1,⟨by omega,by omega⟩,by omega,?_⟩
   apply yj <;> simp [hend]
  ·rw [List.concat_eq_append] at e
   subst e
   have hlen:=yUf (n:=n) (l1:=l ++ [y]) (l2:=l2) (by rw [← List.length_append,he,fi.len]) hlt
   have hyP : y < i:=fi.lt y (by rw [← he]; simp)
   obtain ⟨w1,w2,w3⟩:=yUd (i:=i) (n:=n) (y:=y) (l:=l) (l2:=l2)
   have hend:=fun h=>yTQ (n:=n) (R:=R) (l1:=l ++ [y]) (l2:=l2) (i:=i) (by rw [hsuc]; exact yUa (R:=R) (i:=i) fi.pw he h2 h)
   have hll : l.length + 1 < n:=by rw [← hlen]; exact (List.getElem?_eq_some_iff.1 w1).1
   have e0 : (((l ++ [y]).length : Nat) : Int) = ((l.length + 1 : Nat) : Int):=by simp
   rw [e0]
   generalize ySw (l ++ [y]) l2 i n = M at *
   obtain ⟨m,hm⟩ : ∃ m,m = l.length:=⟨_,rfl⟩
   obtain ⟨j,hj⟩ : ∃ j,j = l.length + 1:=⟨_,rfl⟩
   rw [← hj] at w1 w3 hll ⊢
   rw [← hm] at w2 w3
   have v1:=(List.getElem?_eq_some_iff.1 w1).2
   have v2:=(List.getElem?_eq_some_iff.1 w2).2
   have k1 : j < M.length:=(List.getElem?_eq_some_iff.1 w1).1
   have k2 : m < M.length:=(List.getElem?_eq_some_iff.1 w2).1
   have ej : ((j : Int) - 1) = (m : Int):=by omega
   have j0 : 0 < j:=by omega
   have mn : m < n:=by omega
   have hf' : ∃ fn,Tryz.prog.funcs[f]? = some fn ∧ fn.body.isSome = true ∧ ¬fn.name = "runtime.NumGoroutine":=by simpa using hf
   simp -dsimp -implicitDefEqProofs [j0,ej,w1,w2,v1,v2,k1,k2,yR5,hll,mn]
   refine ⟨by unfold inI; omega,hf',?_⟩
   first
    | refine yaQ (hc i y (by omega) (by omega)) (by simp) rfl ?_
    | refine yaP (hc i y (by omega) (by omega)) (by simp) rfl ?_
    | refine ⟨_,_,hc i y (by omega) (by omega),by simp,.inr rfl,?_⟩
    | refine ⟨_,_,hc i y (by omega) (by omega),by simp,.inl rfl,?_⟩
    | refine ya2 (hc i y (by omega) (by omega)) (by simp) (.inr rfl) ?_
    | refine ya2 (hc i y (by omega) (by omega)) (by simp) (.inl rfl) ?_
   have hr2 : ∀ h,((M.map yR5).set j [C.i y])[m]'h = [C.i y]:=by intro h; rw [List.getElem_set_ne (by omega)]; simp [v2,yR5]
   have hs3 : ((M.map yR5).set j [C.i y]).set m [C.i i] = (ySw l (y :: l2) i n).map yR5:=by rw [← w3,List.map_set,List.map_set]; rfl
   simp -dsimp -implicitDefEqProofs [ej,w1,w2,v1,v2,k1,k2,hll,mn,hr2,hs3]
   refine ⟨fun hcm=>?_,fun hcm=>?_⟩
   ·refine ⟨by unfold inI; omega,l,y :: l2,⟨by rw [← he]; simp,fun x hx=>?_⟩,by omega,?_⟩
    ·rcases List.mem_cons.1 hx with hx | hx
     ·subst hx; omega
     ·exact h2 x hx
    ·apply yj <;> simp [yR5,w1,w2,v1,v2,← hm,hr2,hs3]
   ·have hM:=hend fun l' y' h=>by
     have:=(List.append_inj' h rfl).2
     simp at this; subst this; omega
    refine ⟨by unfold inI; omega,i + 1,⟨by omega,by omega⟩,by omega,?_⟩
    apply yj <;> simp [hM]
 ·have : i = n:=by omega
  subst this
  simp -dsimp -implicitDefEqProofs
  rw [yUe]
  refine ⟨by rw [List.take_of_length_le (by rw [List.length_map,fi.len]; exact Nat.le_refl _)],?_⟩
  simp [yml]
theorem yUm (R : List Int) (n : Nat) (hn : 1 ≤ n) (hn2 : n ≤ 19) (f : Nat) (a b c : List C) (hf : ∃ fn,Tryz.prog.funcs[f]? = some fn ∧ fn.body.isSome = true ∧ (fn.name != "runtime.NumGoroutine") = true)
 (hc : ∀ x y : Nat,x < n → y < n → yB Tryz.prog f [.c (.i x),.c (.i y),.elt a,.elt b,.elt c] (.c (.i (vAt R y - vAt R x)))) :
 InF Tryz.prog 174 (.c (cw 1 ((List.range n).map yR5))) (.c (cw 1 ((ySh R n).map yR5))) [.c (.i n),.fn f [.elt a,.elt b,.elt c]] (.tup []):=by
 have hon:=ySo R n
 have hi:=yUb R n hn (by omega) f a b c hf hc
 have hcw : cw 1 ((ySh R n).map yR5) = .ow 1 ((ySh R n).map yR5):=yb4 (by rw [List.length_map,hon.len]; omega)
 have hcw0 : cw 1 ((List.range n).map yR5) = .ow 1 ((List.range n).map yR5):=yb4 (by simp; omega)
 have n1 : ((20 : Int) ≤ (n : Int)) = False:=by simp; omega
 have n2 : ((20 : Int) < (n : Int)) = False:=by simp; omega
 have n3 : (20 ≤ n) = False:=by simp; omega
 have n4 : (20 < n) = False:=by simp; omega
 rw [hcw,hcw0]
 refine ybO yK5 (by simp) (by simp) rfl fun hwf=>?_
 simp -dsimp -implicitDefEqProofs
 refine yg (ι:=Unit) (fun _=>True) (fun _=>yO [(0,.own 0 1 n),(1,.c (.i n)),(2,.fn f [.elt a,.elt b,.elt c]),(6,.c (.i 20)),(7,.c (.i 0)),(8,.c (.i 20)),(1000000,.own 0 1 n)] [(0,.row 1 ((List.range n).map yR5))]) (fun _=>0) () trivial (by apply yj <;> simp) ?_
 rintro _ _
 simp -dsimp -implicitDefEqProofs [n1,n3]
 refine ycW (up:=some (0,.row 1 ((ySh R n).map yR5))) hi (by simp) rfl rfl (ybY (rows:=(List.range n).map yR5) (by simp) rfl rfl (by simp) (by simp [hon.len]) rfl rfl) ?_
 simp -dsimp -implicitDefEqProofs
 refine yg (ι:=Unit) (fun _=>True) (fun _=>yO [(0,.own 0 1 n),(1,.c (.i n)),(6,.c (.i 20)),(1000000,.own 0 1 n)] [(0,.row 1 ((ySh R n).map yR5))]) (fun _=>0) () trivial (by apply yj <;> simp) ?_
 rintro _ _
 simp -dsimp -implicitDefEqProofs [n2,n4]
 exact ⟨by rw [List.take_of_length_le (by rw [List.length_map,hon.len]; exact Nat.le_refl _)],by simp [yml]⟩
theorem yTT (R : List Int) (n : Nat) (hn : 1 ≤ n) (hn2 : n ≤ 19) (f : Nat) (a b c : List C) (hf : ∃ fn,Tryz.prog.funcs[f]? = some fn ∧ fn.body.isSome = true ∧ (fn.name != "runtime.NumGoroutine") = true)
 (hc : ∀ x y : Nat,x < n → y < n → yB Tryz.prog f [.c (.i x),.c (.i y),.elt a,.elt b,.elt c] (.c (.i (vAt R y - vAt R x)))) :
 InF Tryz.prog 139 (.c (cw 1 ((List.range n).map yR5))) (.c (cw 1 ((ySh R n).map yR5))) [.fn f [.elt a,.elt b,.elt c]] (.tup []):=by
 have hon:=ySo R n
 have hi:=yUm R n hn (by omega) f a b c hf hc
 have hcw : cw 1 ((ySh R n).map yR5) = .ow 1 ((ySh R n).map yR5):=yb4 (by rw [List.length_map,hon.len]; omega)
 have hcw0 : cw 1 ((List.range n).map yR5) = .ow 1 ((List.range n).map yR5):=yb4 (by simp; omega)
 rw [hcw,hcw0]
 refine ybO yK1 (by simp) (by simp) rfl fun hwf=>?_
 simp -dsimp -implicitDefEqProofs
 intro _
 refine ycW (up:=some (0,.row 1 ((ySh R n).map yR5))) hi (by simp) rfl rfl (ybY (rows:=(List.range n).map yR5) (by simp) rfl rfl (by simp) (by simp [hon.len]) rfl rfl) ?_
 simp -dsimp -implicitDefEqProofs
 exact ⟨by rw [List.take_of_length_le (by rw [List.length_map,hon.len]; exact Nat.le_refl _)],by simp [yml]⟩
theorem ySa {t : Int} {ws : List Int} (h : yR8 t ws = false) : yR3 t ws = []:=by simp [yR3,h]
theorem yTY {ws : List Int} {k : Nat} (h12 : ws.length ≤ 12) (h : ∀ x ∈ ws.take k,inRange x 0 1000000 = true) : 0 ≤ sumTo ws k ∧ sumTo ws k ≤ 12000000:=by
 have:=sum_bnd (l:=ws.take k) (m:=1000000) fun x hx=>yF.1 (h x hx)
 have e : (ws.take k).length ≤ 12:=by rw [List.length_take]; omega
 unfold sumTo
 omega
theorem yTX {Q : List Int} {o : List Nat} {m : Int} (hm : 0 ≤ m) (hQ : ∀ x ∈ Q,0 ≤ x ∧ x ≤ m) : ∀ (j : Nat),∀ x ∈ ySt Q o j,0 ≤ x ∧ x ≤ m + j
 | 0,x,hx=>by have:=hQ x hx; omega
 | j + 1,x,hx=>by
  have ih:=yTX hm hQ (o:=o) j
  have e2 : ((j + 1 : Nat) : Int) = j + 1:=by simp
  cases h : o[j]? with
  | none =>
   have hl : o.length ≤ j:=by simpa using h
   have e : ySt Q o (j + 1) = ySt Q o j:=by unfold ySt; rw [List.take_of_length_le (by omega),List.take_of_length_le hl]
   rw [e] at hx
   have:=ih x hx
   omega
  | some a =>
   rw [yS0 h] at hx
   rcases List.mem_or_eq_of_mem_set hx with hx | rfl
   ·have:=ih x hx; omega
   ·have : 0 ≤ vAt (ySt Q o j) a ∧ vAt (ySt Q o j) a ≤ m + j:=by
     unfold vAt
     cases hv : (ySt Q o j)[a]? with
     | none=>simp; omega
     | some v=>exact ih v (List.mem_of_getElem? hv)
    omega
theorem yTH (t : Int) (ws : List Int) : ybh Tryz.prog 93 [.c (.i t),.c (.sl 1 (ws.map yJ))] (.c (.ow 1 ((yR3 t ws).map yJ))):=by
 refine yan yTp ?_
 simp -dsimp -implicitDefEqProofs
 refine yc (yC t 0 1000000000) ?_
 cases ht : inRange t 0 1000000000 with
 | false=>simp -dsimp -implicitDefEqProofs; rw [ySa (by simp [yR8,ht])]
 | true =>
 simp -dsimp -implicitDefEqProofs
 refine fun hlen=>⟨fun h1=>?_,fun h1=>?_⟩
 rotate_left
 ·rw [ySa (by simp [yR8]; omega)]
 refine fun _=>⟨fun h12=>by rw [ySa (by simp [yR8]; omega)],fun h12=>?_⟩
 have h12 : ws.length ≤ 12:=by omega
 have h1 : 1 ≤ ws.length:=by omega
 refine fun _=>yg (ι:=Nat) (fun k=>k ≤ ws.length ∧ ∀ x ∈ ws.take k,inRange x 0 1000000 = true) (fun k=>yO [(2,.box 2 0),(3,.box 3 0),(5,.box 5 0),(27,.c (.sl 1 (ws.map yJ))),(28,.c (.i ws.length)),(29,.c (.i k))] [(2,.box [.c (.i t)]),(3,.box [.c (.sl 1 (ws.map yJ))]),(5,.box [.c (.i (sumTo ws k))])]) (fun k=>ws.length - k) 0 (by simp) (by apply yj <;> simp [yf6]) ?_
 rintro k ⟨hk,hall⟩
 rcases Nat.lt_or_ge k ws.length with hlt | hge
 ·obtain ⟨x,hx⟩ : ∃ x,ws[k]? = some x:=⟨_,List.getElem?_eq_getElem hlt⟩
  have g1:=(List.getElem?_eq_some_iff.1 hx).2
  simp -dsimp -implicitDefEqProofs [hx,g1,yG hlt,hlt]
  refine yc (yC x 0 1000000) ?_
  cases hr : inRange x 0 1000000 with
  | false=>simp -dsimp -implicitDefEqProofs; rw [ySa (by have:=all_false (p:=fun w=>inRange w 0 1000000) hx hr; simp [yR8,this])]
  | true =>
   simp -dsimp -implicitDefEqProofs
   have hall':=yL (p:=fun n=>inRange n 0 1000000) hx hall hr
   have hs:=yTY h12 hall'
   rw [yia hx] at hs
   refine ⟨by unfold inI; omega,yw hlt hlen,k + 1,⟨hlt,hall'⟩,by omega,?_⟩
   apply yj <;> simp [yia hx]
 ·have hall2:=yX (p:=fun n=>inRange n 0 1000000) hge hall
  simp -dsimp -implicitDefEqProofs [yaB hge]
  rw [ymm hge]
  refine ⟨fun h0=>by rw [ySa (by simp [yR8,h0])],fun h0=>?_⟩
  have hok : yR8 t ws = true:=by simp [yR8,ht,h12,h1,hall2,h0]
  have f:=ySN hok
  have hlft:=yTv f
  rw [yTl hok]
  have ft:=f.tot; have fs:=f.sum; have frng:=f.rng
  refine fun _=>⟨by omega,fun _=>⟨by omega,fun _=>?_⟩⟩
  obtain ⟨Q,hQd⟩ : ∃ Q,Q = ws.map (quota t ws.sum):=⟨_,rfl⟩
  have hQl : Q.length = ws.length:=by rw [hQd,List.length_map]
  have hQr : ∀ q ∈ Q,0 ≤ q ∧ q ≤ 1000000000000000:=fun q hq=>by
   rw [hQd] at hq
   obtain ⟨w,hw,rfl⟩:=List.mem_map.1 hq
   have:=ySi ft fs.1 (frng w hw)
   omega
  have hrest : ySb t ws = t - Q.sum:=by rw [hQd]; rfl
  rw [← hQd]
  refine yg (ι:=Nat) (fun k=>k ≤ ws.length) (fun k=>yO [(2,.box 2 0),(3,.box 3 0),(5,.box 5 0),(8,.own 44 1 ws.length),(9,.own 47 1 ws.length),(10,.c (.i (t - sumTo Q k))),(49,.c (.sl 1 (ws.map yJ))),(50,.c (.i ws.length)),(51,.c (.i k))]
   [(2,.box [.c (.i t)]),(3,.box [.c (.sl 1 (ws.map yJ))]),(5,.box [.c (.i ws.sum)]),(44,.row 1 (partly yJ [.i 0] Q k)),(47,.row 1 (partly yR5 [.i 0] (List.range ws.length) k))]) (fun k=>ws.length - k) 0 (by simp) (by apply yj <;> simp [yf6,yab,hQl]) ?_
  clear hall hk hge k
  rintro k hk
  rcases Nat.lt_or_ge k ws.length with hlt | hge
  ·obtain ⟨w,hw⟩ : ∃ x,ws[k]? = some x:=⟨_,List.getElem?_eq_getElem hlt⟩
   have g1:=(List.getElem?_eq_some_iff.1 hw).2
   have hQ : Q[k]? = some (quota t ws.sum w):=by rw [hQd]; simp [hw]
   have hO : (List.range ws.length)[k]? = some k:=by simp [hlt]
   have q1:=ySi ft fs.1 (frng w (List.mem_of_getElem? hw))
   have hs1:=yaj (f:=yJ) (z:=[.i 0]) hQ
   have hs2:=yaj (f:=yR5) (z:=[.i 0]) hO
   have hl1:=yak (f:=yJ) (z:=[.i 0]) (es:=Q) (k:=k) (by omega)
   have hl2:=yak (f:=yR5) (z:=[.i 0]) (es:=List.range ws.length) (k:=k) (by simp; omega)
   have hd1 : ((partly yJ [.i 0] Q k)[k]?.getD []).set 0 (.i (quota t ws.sum w)) = [.i (quota t ws.sum w)]:=by
    have:=ydK (f:=yJ) (z:=[.i 0]) (n:=1) (es:=Q) (k:=k) rfl (fun _=>rfl) (by omega)
    obtain ⟨x,hx⟩:=List.length_eq_one_iff.1 this
    rw [hx]; rfl
   have hd2 : ((partly yR5 [.i 0] (List.range ws.length) k)[k]?.getD []).set 0 (.i k) = [.i k]:=by
    have:=ydK (f:=yR5) (z:=[.i 0]) (n:=1) (es:=List.range ws.length) (k:=k) rfl (fun _=>rfl) (by simp; omega)
    obtain ⟨x,hx⟩:=List.length_eq_one_iff.1 this
    rw [hx]; rfl
   rw [List.length_range] at hl2
   have hsum:=yia hQ
   have hb1:=sum_bnd (l:=Q.take k) (m:=1000000000000000) fun x hx=>hQr x (List.mem_of_mem_take hx)
   have hbl : (Q.take k).length ≤ 12:=by rw [List.length_take]; omega
   have hb1' : 0 ≤ sumTo Q k ∧ sumTo Q k ≤ 12000000000000000:=by unfold sumTo; omega
   have hqd : (t * w).tdiv ws.sum = quota t ws.sum w:=rfl
   have hs1' : (partly yJ [.i 0] Q k).set k [.i (quota t ws.sum w)] = partly yJ [.i 0] Q (k + 1):=hs1
   have hs2' : (partly yR5 [.i 0] (List.range ws.length) k).set k [.i k] = partly yR5 [.i 0] (List.range ws.length) (k + 1):=hs2
   have hself : (partly yJ [.i 0] Q (k + 1))[k]? = some [.i (quota t ws.sum w)]:=by rw [← hs1']; exact List.getElem?_set_self (by omega)
   generalize partly yJ [.i 0] Q k = A at *
   generalize hA' : partly yJ [.i 0] Q (k + 1) = A' at *
   generalize partly yR5 [.i 0] (List.range ws.length) k = B at *
   generalize hB' : partly yR5 [.i 0] (List.range ws.length) (k + 1) = B' at *
   have hk1 : k < A.length:=by omega
   have hk2 : k < B.length:=by omega
   have hd1' : A[k].set 0 (C.i (quota t ws.sum w)) = [C.i (quota t ws.sum w)]:=by rw [List.getElem?_eq_getElem hk1] at hd1; exact hd1
   have hd2' : B[k].set 0 (C.i k) = [C.i k]:=by rw [List.getElem?_eq_getElem hk2] at hd2; exact hd2
   simp -dsimp -implicitDefEqProofs [hw,g1,yG hlt,hlt,hqd,hl1,hl2,hd1',hd2',hs1',hs2',hself,hQl]
   have hl3 : A'.length = Q.length:=by rw [← hs1',List.length_set,hl1]
   refine ⟨by unfold inI; omega,by omega,by unfold inI; omega,by omega,?_⟩
   refine ⟨by unfold inI; omega,?_⟩
   refine ⟨by unfold inI; omega,k + 1,hlt,by omega,?_⟩
   apply yj <;> simp [hd1',hd2',hs1',hs2',hsum,hA',hB']
   omega
  ·have hkn : k = ws.length:=by omega
   subst hkn
   have p1:=yam (f:=yJ) (z:=[.i 0]) (es:=Q) (k:=ws.length) (by omega)
   have p2:=yam (f:=yR5) (z:=[.i 0]) (es:=List.range ws.length) (k:=ws.length) (by simp)
   simp -dsimp -implicitDefEqProofs [p1,p2]
   rw [ymm (by omega),← hrest]
   have hord:=ySo (ws.map (ySp t ws.sum)) ws.length
   have hR : (ws.map (ySp t ws.sum)).length = ws.length:=by simp
   have hcmp:=yT7 t ws.sum ws ft fs.1 fs.2 frng
   have hsort:=yTT (ws.map (ySp t ws.sum)) ws.length h1 (by omega) 140 [.i t] [.sl 1 (ws.map yJ)] [.i ws.sum] ⟨Tryz.f140,Tryz.func140,rfl,by decide⟩ hcmp
   generalize ySh (ws.map (ySp t ws.sum)) ws.length = o at *
   refine yMY (up:=some (47,.row 1 (o.map yR5))) hsort ⟨yNu ⟨yMz (by simp) (by simp [ydf]),yMz (by simp) (by simp [ydf]),yMz (by simp) (by simp [ydf]),trivial⟩,trivial⟩ (by rw [yb4 (by rw [List.length_map,hord.len]; omega)]; simp [C.closed,yR5]) rfl (ybY (rows:=(List.range ws.length).map yR5) (by simp) rfl rfl (by simp) (by simp [hord.len]) rfl rfl) ?_
   have hp1 : ∀ x ∈ o,x < Q.length:=fun x hx=>by have:=hord.lt x hx; omega
   simp -dsimp -implicitDefEqProofs
   have hn0 : ((ySb t ws).toNat : Int) = ySb t ws:=Int.toNat_of_nonneg hlft.1
   have hnl : (ySb t ws).toNat < ws.length:=by omega
   rw [← hn0]
   generalize (ySb t ws).toNat = n at *
   have hshl : ∀ j : Nat,(ySt Q o j).length = ws.length:=fun j=>by rw [yTa,hQl]
   refine yg (ι:=Nat) (fun j=>j ≤ n) (fun j=>yO [(8,.own 44 1 ws.length),(9,.own 47 1 ws.length),(10,.c (.i n)),(13,.c (.i j))] [(44,.row 1 ((ySt Q o j).map yJ)),(47,.row 1 (o.map yR5))]) (fun j=>n - j) 0 (by simp) (by apply yj <;> simp [yTL]) ?_
   rintro j hj
   rcases Nat.lt_or_ge j n with hlt | hge
   ·have hjo : j < o.length:=by rw [hord.len]; omega
    obtain ⟨a,ha⟩ : ∃ a,o[j]? = some a:=⟨_,List.getElem?_eq_getElem hjo⟩
    have ga:=(List.getElem?_eq_some_iff.1 ha).2
    have hal:=hord.lt a (List.mem_of_getElem? ha)
    have hss:=yS0 (out:=Q) ha
    have hl:=hshl j
    have hbd:=yTX (o:=o) (m:=1000000000000000) (by omega) hQr j
    generalize ySt Q o j = S at *
    obtain ⟨v,hv⟩ : ∃ v,S[a]? = some v:=⟨_,List.getElem?_eq_getElem (by omega)⟩
    have gv:=(List.getElem?_eq_some_iff.1 hv).2
    have hvv:=ySA hv
    have hb:=hbd v (List.mem_of_getElem? hv)
    have hs4 : (S.map yJ).set a [.i (v + 1)] = (ySt Q o (j + 1)).map yJ:=by rw [hss,hvv,List.map_set]
    have hln : j < ws.length:=by omega
    have hal2 : a < S.length:=by omega
    simp -dsimp -implicitDefEqProofs [ha,ga,yG hlt,hlt,hjo,yR5,hv,gv,hal,hal2,hln,hs4]
    refine ⟨by unfold inI; omega,by unfold inI; omega,j + 1,hlt,by omega,?_⟩
    apply yj <;> simp
   ·have : j = n:=by omega
    subst this
    simp -dsimp -implicitDefEqProofs
    rw [List.take_of_length_le (by rw [List.length_map,hshl]; exact Nat.le_refl _)]
theorem ySJ (t : Int) (ws : List Int) : (yR3 t ws).length ≤ 12:=by
 cases h : yR8 t ws with
 | false=>rw [ySa h]; simp
 | true=>rw [yTl h,yTa,List.length_map]; exact (ySN h).len.2
theorem yTu (t : Int) (ws : List Int) : yB Tryz.prog 93 [.c (.i t),.c (.sl 1 (ws.map yJ))] (.c (.sl 1 ((yR3 t ws).map yJ))):=(yTH t ws).pure (by simp)
structure Picks (t : Int) (ws : List Int) (m : Nat) (out rest : List Int) : Prop where
 lo : out.length = ws.length
 lr : rest.length = ws.length
 all : ySX m out rest = yR3 t ws
 few : m ≤ 12
 rng : ∀ x ∈ out,0 ≤ x ∧ x ≤ 1000000000000100 - m
theorem Picks.next {t : Int} {ws : List Int} {m : Nat} {out rest : List Int} (h : Picks t ws (m + 1) out rest) (hp : 1 ≤ ws.length) :
 Picks t ws m (out.set (yR4 rest ws.length) (vAt out (yR4 rest ws.length) + 1)) (rest.set (yR4 rest ws.length) (-1)):=by
 have hl:=h.lr
 refine ⟨by rw [List.length_set]; exact h.lo,by rw [List.length_set]; exact hl,?_,by have:=h.few; omega,fun x hx=>?_⟩
 ·rw [← h.all,ySX,hl]
 ·have e : ((m + 1 : Nat) : Int) = m + 1:=by simp
  have r:=h.rng
  rw [e] at r
  rcases List.mem_or_eq_of_mem_set hx with hx | rfl
  ·have:=r x hx; omega
  ·have hlt : yR4 rest ws.length < out.length:=by rw [h.lo,← hl]; exact ySG (by omega) (by omega)
   have:=r (vAt out (yR4 rest ws.length)) (by unfold vAt; rw [List.getElem?_eq_getElem hlt]; exact List.getElem_mem hlt)
   omega
def ySl (l : List Int) (t w : Int) : Nat → List Entry
 | 0=>[]
 | k + 1=>ySl l t w k ++ (if 0 < vAt l k then [⟨0,k + 1,vAt l k,t,w⟩] else [])
theorem yTn {l : List Int} {t w : Int} : ySl l t w 0 = []:=rfl
theorem ySV {l : List Int} {t w : Int} {k : Nat} : ySl l t w (k + 1) = ySl l t w k ++ (if 0 < vAt l k then [⟨0,k + 1,vAt l k,t,w⟩] else []):=rfl
theorem ySP {l : List Int} {t w : Int} : ∀ k : Nat,(ySl l t w k).length ≤ k
 | 0=>by simp [ySl]
 | k + 1=>by
  have:=ySP (l:=l) (t:=t) (w:=w) k
  rw [ySV,List.length_append]
  split <;> simp <;> omega
def ySq (t : Tariff) (x : Train) (n : Int) : Bool:=ya9 t && yP x && inRange n 0 1000000
def yR0 (t : Tariff) (x : Train) (n : Int) : List Entry:=if ySq t x n then ySl (yR3 (yR9 t x) t.Weights) n (vAt (yaY x) 0) (yR3 (yR9 t x) t.Weights).length else []
theorem yTh {t : Tariff} {x : Train} {n : Int} (h : ySq t x n = false) : yR0 t x n = []:=by simp [yR0,h]
theorem yTP {x : Train} (h : yP x = true) : ∃ w,(yaY x)[0]? = some w:=by
 have tf:=yhY h
 have h1:=tf.pos
 refine ⟨_,List.getElem?_eq_getElem (show 0 < (yaY x).length by rw [yaY,if_pos h,List.length_map]; omega)⟩
theorem yTf (t : Tariff) (x : Train) (n : Int) (hx : x.small) : ybh Tryz.prog 64 [.agg (t.enc.map .c),.agg (x.enc.map .c),.c (.i n)] (.c (.ow 5 ((yR0 t x n).map Entry.enc))):=by
 refine yan yS1 ?_
 simp -dsimp -implicitDefEqProofs
 refine yc (yqB t) ?_
 cases h1 : ya9 t with
 | false=>simp -dsimp -implicitDefEqProofs; rw [yTh (by simp [ySq,h1])]
 | true =>
 simp -dsimp -implicitDefEqProofs
 refine yc (ydp x hx) ?_
 cases h2 : yP x with
 | false=>simp -dsimp -implicitDefEqProofs; rw [yTh (by simp [ySq,h2])]
 | true =>
 simp -dsimp -implicitDefEqProofs
 refine yc (yC n 0 1000000) ?_
 cases h3 : inRange n 0 1000000 with
 | false=>simp -dsimp -implicitDefEqProofs; rw [yTh (by simp [ySq,h3])]
 | true =>
 simp -dsimp -implicitDefEqProofs
 have hok : ySq t x n = true:=by simp [ySq,h1,h2,h3]
 have he : yR0 t x n = ySl (yR3 (yR9 t x) t.Weights) n (vAt (yaY x) 0) (yR3 (yR9 t x) t.Weights).length:=by rw [yR0,if_pos hok]
 obtain ⟨w,hw⟩:=yTP h2
 rw [ySA hw] at he
 rw [he]
 refine yS (yuz x hx) ?_
 have gw:=(List.getElem?_eq_some_iff.1 hw).2
 have lw:=(List.getElem?_eq_some_iff.1 hw).1
 simp -dsimp -implicitDefEqProofs [hw,gw,lw]
 refine yaC (yTZ t x hx) ?_
 simp -dsimp -implicitDefEqProofs
 refine yyA (yTu (yR9 t x) t.Weights) ?_
 have hsl:=ySJ (yR9 t x) t.Weights
 generalize yR3 (yR9 t x) t.Weights = sh at *
 simp -dsimp -implicitDefEqProofs
 intro hlen
 refine ymd (k0:=5) 8 5 (by simp) (by simp) (by decide) ?_
 refine yg (ι:=Nat) (fun k=>k ≤ sh.length) (fun k=>yO [(2,.c (.i n)),(7,.c (.i w)),(8,.own 8 5 (ySl sh n w k).length),(33,.c (.sl 1 (sh.map yJ))),(34,.c (.i sh.length)),(35,.c (.i k))] [(8,.row 5 ((ySl sh n w k).map Entry.enc))]) (fun k=>sh.length - k) 0 (by simp) (by apply yj <;> simp [yTn]) ?_
 rintro k hk
 have htl:=ySP (l:=sh) (t:=n) (w:=w) k
 rcases Nat.lt_or_ge k sh.length with hlt | hge
 ·obtain ⟨v,hv⟩ : ∃ v,sh[k]? = some v:=⟨_,List.getElem?_eq_getElem hlt⟩
  have gv:=(List.getElem?_eq_some_iff.1 hv).2
  have hs:=ySV (l:=sh) (t:=n) (w:=w) (k:=k)
  rw [ySA hv] at hs
  simp -dsimp -implicitDefEqProofs [hv,gv,yG hlt,hlt]
  refine ⟨fun h0=>?_,fun h0=>?_⟩
  ·rw [if_pos (by omega)] at hs
   refine ⟨by unfold inI; omega,by omega,yw hlt hlen,k + 1,hlt,by omega,?_⟩
   apply yj <;> simp [hs]
  ·rw [if_neg (by omega),List.append_nil] at hs
   refine ⟨yw hlt hlen,k + 1,hlt,by omega,?_⟩
   apply yj <;> simp [hs]
 ·have : k = sh.length:=by omega
  subst this
  simp -dsimp -implicitDefEqProofs [yt]
theorem ySQ (t : Tariff) (x : Train) (n : Int) : (yR0 t x n).length ≤ 12:=by
 unfold yR0
 split
 ·have h1:=ySP (l:=yR3 (yR9 t x) t.Weights) (t:=n) (w:=vAt (yaY x) 0) (yR3 (yR9 t x) t.Weights).length
  have h2:=ySJ (yR9 t x) t.Weights
  omega
 ·simp
theorem ySz (t : Tariff) (x : Train) (n : Int) (hx : x.small) : yB Tryz.prog 64 [.agg (t.enc.map .c),.agg (x.enc.map .c),.c (.i n)] (.c (.sl 5 ((yR0 t x n).map Entry.enc))):=(yTf t x n hx).pure (by simp)
theorem yUr (m : Int) (h0 : 0 ≤ m) (h1 : m ≤ 2097152) : ybh Tryz.prog 138 [.nil 5,.c (.i m)] (.c (.ow 5 [])):=by
 refine yan ySg ?_
 simp -dsimp -implicitDefEqProofs
 exact ⟨h0,fun _=>⟨by unfold inI; omega,by unfold inI; omega,fun h=>⟨h0,by omega,by omega⟩⟩⟩
theorem yTd (es : List Entry) (hl : es.length ≤ 2097152) : ybh Tryz.prog 54 [.c (.sl 5 (es.map Entry.enc))] (.c (.ow 5 (es.map Entry.enc))):=by
 refine yan yc5 ?_
 simp -dsimp -implicitDefEqProofs [ybu,yt]
 omega
def lens (a b : Nat) (k : Nat) : Int:=if k = 0 then 0 else if k = 1 then a else a + b
def yTK (a b : List Entry) (k : Nat) : List Entry:=if k = 0 then [] else if k = 1 then a else a ++ b
theorem yT6 (a b : List Entry) (ha : a.length ≤ 1048576) (hb : b.length ≤ 1048576) :
 ybh Tryz.prog 92 [.c (.sl 1 [[.sl 5 (a.map Entry.enc)],[.sl 5 (b.map Entry.enc)]])] (.c (.ow 5 ((a ++ b).map Entry.enc))):=by
 refine yan ySd ?_
 simp -dsimp -implicitDefEqProofs
 refine fun _=>yg (ι:=Nat) (fun k=>k ≤ 2) (fun k=>yO [(0,.c (.sl 1 [[.sl 5 (a.map Entry.enc)],[.sl 5 (b.map Entry.enc)]])),(3,.c (.i (lens a.length b.length k))),(9,.c (.sl 1 [[.sl 5 (a.map Entry.enc)],[.sl 5 (b.map Entry.enc)]])),(10,.c (.i 2)),(11,.c (.i k))] []) (fun k=>2 - k) 0 (by simp) (by apply yj <;> simp [lens]) ?_
 intro k hk
 obtain rfl | rfl | rfl : k = 0 ∨ k = 1 ∨ k = 2:=by omega
 ·simp -dsimp -implicitDefEqProofs [lens]
  refine fun _=>⟨by unfold inI; omega,by unfold inI; omega,1,by omega,by omega,?_⟩
  apply yj <;> simp
 ·simp -dsimp -implicitDefEqProofs [lens]
  refine fun _=>⟨by unfold inI; omega,by omega,fun _=>⟨by unfold inI; omega,2,by omega,by omega,?_⟩⟩
  apply yj <;> simp
 ·simp -dsimp -implicitDefEqProofs [lens]
  refine yQ (yUr (a.length + b.length) (by omega) (by omega)) (by simp ) (by simp [AV.closed,AV.ya7,C.closed]) (by simp [yU]) ?_
  simp -dsimp -implicitDefEqProofs
  refine fun _=>yg (ι:=Nat) (fun k=>k ≤ 2) (fun k=>yO [(6,.own 24 5 (yTK a b k).length),(25,.c (.sl 1 [[.sl 5 (a.map Entry.enc)],[.sl 5 (b.map Entry.enc)]])),(26,.c (.i 2)),(27,.c (.i k))] [(24,.row 5 ((yTK a b k).map Entry.enc))]) (fun k=>2 - k) 0 (by simp) (by apply yj <;> simp [yTK]) ?_
  intro k hk
  obtain rfl | rfl | rfl : k = 0 ∨ k = 1 ∨ k = 2:=by omega
  ·simp -dsimp -implicitDefEqProofs [yTK]
   refine ⟨by omega,by unfold inI; omega,1,by omega,by omega,?_⟩
   apply yj <;> simp
  ·simp -dsimp -implicitDefEqProofs [yTK]
   refine ⟨by omega,by unfold inI; omega,2,by omega,by omega,?_⟩
   apply yj <;> simp
  ·simp -dsimp -implicitDefEqProofs [yTK]
   rw [List.take_of_length_le (by simp)]
def yR7 (book more : List Entry) : List Entry × Bool:=if yht book && yht (book ++ more) then (book ++ more,true) else (book,false)
theorem yTb (a b : List Entry) (ha : a.length ≤ 1048576) (hb : b.length ≤ 1048576) :
 ybh Tryz.prog 63 [.c (.sl 5 (a.map Entry.enc)),.c (.sl 5 (b.map Entry.enc))] (.tup [.c (.ow 5 ((yR7 a b).1.map Entry.enc)),.c (.b (yR7 a b).2)]):=by
 have hcat:=yT6 a b ha hb
 have hp : yR7 a b = if yht a && yht (a ++ b) then (a ++ b,true) else (a,false):=rfl
 have hn : 2000 < b.length → yht (a ++ b) = false:=fun h=>by simp [yht]; omega
 generalize a ++ b = c at hcat hp hn
 refine yan yS2 ?_
 simp -dsimp -implicitDefEqProofs
 refine yc (yvn a) ?_
 cases h : yht a with
 | false =>
  simp -dsimp -implicitDefEqProofs
  refine yQ (yTd a (by omega)) (by simp ) (by simp [AV.closed,AV.ya7,C.closed]) (by simp [yU]) ?_
  simp -dsimp -implicitDefEqProofs
  simp [hp,h,yt]
 | true =>
  simp -dsimp -implicitDefEqProofs
  refine fun _=>⟨fun h2=>?_,fun h2=>?_⟩
  ·skip
   refine yQ (hcat) (by simp ) (by simp [AV.closed,AV.ya7,C.closed]) (by simp [yU]) ?_
   simp -dsimp -implicitDefEqProofs
   refine yaQ (yvn c) (by simp [yt]) rfl ?_
   cases h3 : yht c with
   | false =>
    simp -dsimp -implicitDefEqProofs
    refine yQ (yTd a (by omega)) (by simp ) (by simp [AV.closed,AV.ya7,C.closed]) (by simp [yU]) ?_
    simp -dsimp -implicitDefEqProofs
    simp [hp,h,h3,yt]
   | true =>
    simp -dsimp -implicitDefEqProofs
    refine yQ (hcat) (by simp ) (by simp [AV.closed,AV.ya7,C.closed]) (by simp [yU]) ?_
    simp -dsimp -implicitDefEqProofs
    simp [hp,h,h3,yt]
  ·skip
   have h3:=hn (by omega)
   refine yQ (yTd a (by omega)) (by simp ) (by simp [AV.closed,AV.ya7,C.closed]) (by simp [yU]) ?_
   simp -dsimp -implicitDefEqProofs
   simp [hp,h,h3,yt]
theorem ySx (a b : List Entry) (ha : a.length ≤ 1048576) (hb : b.length ≤ 1048576) :
 yB Tryz.prog 63 [.c (.sl 5 (a.map Entry.enc)),.c (.sl 5 (b.map Entry.enc))] (.tup [.c (.sl 5 ((yR7 a b).1.map Entry.enc)),.c (.b (yR7 a b).2)]):=(yTb a b ha hb).pure (by simp [AV.shr,AV.yAK,AV.ysI,C.shr])
theorem yTO (a b : List Entry) : yB Tryz.prog 65 [.c (.sl 5 (a.map Entry.enc)),.c (.sl 5 (b.map Entry.enc))] (.c (.b (decide (a = b)))):=by
 refine yh ySe ?_
 simp -dsimp -implicitDefEqProofs
 intro hlen1 hlen2
 refine ⟨fun h=>?_,fun h=>?_⟩
 ·have : a ≠ b:=fun e=>h (by rw [e])
  simp [this]
 have hl : a.length = b.length:=by omega
 intro _
 refine yg (ι:=Nat) (fun k=>k ≤ a.length ∧ a.take k = b.take k) (fun k=>yO [(0,.c (.sl 5 (a.map Entry.enc))),(1,.c (.sl 5 (b.map Entry.enc))),(12,.c (.i a.length)),(13,.c (.i k))] []) (fun k=>a.length - k) 0 (by simp) (by apply yj <;> simp) ?_
 rintro k ⟨hk,he⟩
 rcases Nat.lt_or_ge k a.length with hlt | hge
 ·obtain ⟨u,hu⟩ : ∃ u,a[k]? = some u:=⟨_,List.getElem?_eq_getElem hlt⟩
  obtain ⟨v,hv⟩ : ∃ v,b[k]? = some v:=⟨_,List.getElem?_eq_getElem (by omega)⟩
  have g1:=(List.getElem?_eq_some_iff.1 hu).2
  have g2:=(List.getElem?_eq_some_iff.1 hv).2
  have hlt2 : k < b.length:=by omega
  simp -dsimp -implicitDefEqProofs [hu,hv,g1,g2,hlt,hlt2,yG hlt]
  refine ⟨fun h e=>?_,fun e1 e2 e3 e4 e5=>⟨yw hlt hlen1,k + 1,⟨hlt,?_⟩,by omega,?_⟩⟩
  ·subst e
   rw [hu] at hv
   cases hv
   simp at h
  ·have huv : u = v:=by cases u; cases v; simp_all
   rw [List.take_succ,List.take_succ,he,hu,hv,huv]
  ·apply yj <;> simp
 ·simp -dsimp -implicitDefEqProofs [yaB hge]
  rw [List.take_of_length_le hge,List.take_of_length_le (by omega)] at he
  simp [he]
def yTx (x : Waterway) (b : List Entry) (p : Passing) : List Entry:=(yR7 b (yR0 x.Tariff p.Train p.Time)).1
def yR2 (x : Waterway) (k : Nat) : List Entry:=(x.Passings.take k).foldl (yTx x) []
def ySc (x : Waterway) (p : Passing) : Bool:=(yaY p.Train).all fun i=>decide (i ∈ x.Entered)
def ySn (x : Waterway) : Bool:=x.Passings.all (ySc x) && decide (x.Passings.foldl (yTx x) [] = x.Book)
theorem ySM {x : Waterway} {k : Nat} {p : Passing} (h : x.Passings[k]? = some p) : yR2 x (k + 1) = (yR7 (yR2 x k) (yR0 x.Tariff p.Train p.Time)).1:=by
 unfold yR2
 rw [List.take_succ,h]
 simp [yTx]
theorem ySW {x : Waterway} : ∀ k : Nat,(yR2 x k).length ≤ 2000:=by
 intro k
 induction k with
 | zero=>simp [yR2]
 | succ k ih =>
  cases h : x.Passings[k]? with
  | none =>
   have : yR2 x (k + 1) = yR2 x k:=by unfold yR2; rw [List.take_succ,h]; simp
   rw [this]; exact ih
  | some p =>
   rw [ySM h]
   unfold yR7
   split
   ·rename_i e
    simp only [Bool.and_eq_true,yht,decide_eq_true_eq] at e
    exact e.2.1
   ·exact ih
theorem yS9 {x : Waterway} {k : Nat} {p : Passing} {j : Nat} {i : Int} (h : x.Passings[k]? = some p) (hj : (yaY p.Train)[j]? = some i) (hi : i ∉ x.Entered) : ySn x = false:=by
 have h1 : ySc x p = false:=all_false (p:=fun i=>decide (i ∈ x.Entered)) hj (by simp [hi])
 simp [ySn,all_false (p:=ySc x) h h1]
theorem yTM {x : Waterway} {k : Nat} (hk : x.Passings.length ≤ k) (h : ∀ p ∈ x.Passings.take k,ySc x p = true) : ySn x = decide (yR2 x k = x.Book):=by
 have:=yX (p:=ySc x) hk h
 simp only [ySn,this,Bool.true_and,yR2,List.take_of_length_le hk]
theorem yTy (x : Waterway) (hl : x.small) : yB Tryz.prog 28 [.agg (x.enc.map .c)] (.c (.b (ySn x))):=by
 refine yh yTc ?_
 simp -dsimp -implicitDefEqProofs
 intro hlen
 refine yg (ι:=Nat) (fun k=>k ≤ x.Passings.length ∧ ∀ p ∈ x.Passings.take k,ySc x p = true) (fun k=>match k with
  | 0=>yO [(1,.box 1 0),(2,.c (.b false)),(3,.nil 5),(9,.c (.sl 4 (x.Passings.map Passing.enc))),(10,.c (.i x.Passings.length)),(11,.c (.i 0))] [(1,.box (x.enc.map .c))]
  | k + 1=>yO [(1,.box 1 0),(2,.c (.b false)),(3,.c (.sl 5 ((yR2 x (k + 1)).map Entry.enc))),(9,.c (.sl 4 (x.Passings.map Passing.enc))),(10,.c (.i x.Passings.length)),(11,.c (.i (k + 1)))] [(1,.box (x.enc.map .c))]) (fun k=>x.Passings.length - k) 0 (by simp) (by apply yj <;> simp) ?_
 rintro k ⟨hk,hall⟩
 rcases Nat.lt_or_ge k x.Passings.length with klt | kge
 ·obtain ⟨p,hp⟩ : ∃ p,x.Passings[k]? = some p:=⟨_,List.getElem?_eq_getElem klt⟩
  have gp:=(List.getElem?_eq_some_iff.1 hp).2
  have hps:=hl.2.2.2.2.2.2.2.2.2 p (List.mem_of_getElem? hp)
  have hsuc:=ySM hp
  have hbl:=ySW (x:=x) k
  have htl:=ySQ x.Tariff p.Train p.Time
  have hlt:=yG klt
  rcases k with _ | k
  ·have e0 : yR2 x 0 = []:=by simp [yR2]
   rw [e0] at hsuc
   simp only [Int.natCast_zero] at hlt
   simp -dsimp -implicitDefEqProofs [hp,gp,klt,hlt]
   refine yaP (ySz x.Tariff p.Train p.Time hps) (by simp -dsimp -implicitDefEqProofs) rfl ?_
   simp -dsimp -implicitDefEqProofs [hp,gp,klt]
   refine yaP (ySx [] (yR0 x.Tariff p.Train p.Time) (by simp -dsimp -implicitDefEqProofs) (by omega)) (by simp -dsimp -implicitDefEqProofs) rfl ?_
   rw [← hsuc]
   simp -dsimp -implicitDefEqProofs [hp,gp,klt]
   refine yaP (yuz p.Train hps) (by simp -dsimp -implicitDefEqProofs) rfl ?_
   simp -dsimp -implicitDefEqProofs
   intro hlen2
   refine yg (ι:=Nat) (fun j=>j ≤ (yaY p.Train).length ∧ ∀ i ∈ (yaY p.Train).take j,decide (i ∈ x.Entered) = true) (fun j=>yO [(1,.box 1 0),(2,.c (.b false)),(3,.c (.sl 5 ((yR2 x (0 + 1)).map Entry.enc))),(9,.c (.sl 4 (x.Passings.map Passing.enc))),(10,.c (.i x.Passings.length)),(11,.c (.i ((0 : Nat) : Int))),(29,.c (.sl 1 ((yaY p.Train).map yJ))),(30,.c (.i (yaY p.Train).length)),(31,.c (.i j))] [(1,.box (x.enc.map .c))]) (fun j=>(yaY p.Train).length - j) 0 (by simp) (by apply yj <;> simp) ?_
   rintro j ⟨hj,hallj⟩
   rcases Nat.lt_or_ge j (yaY p.Train).length with jlt | jge
   ·obtain ⟨i,hi⟩ : ∃ i,(yaY p.Train)[j]? = some i:=⟨_,List.getElem?_eq_getElem jlt⟩
    have gi:=(List.getElem?_eq_some_iff.1 hi).2
    simp -dsimp -implicitDefEqProofs [hi,gi,jlt,yG jlt]
    refine yaQ (ypJ x.Entered i) (by simp -dsimp -implicitDefEqProofs) rfl ?_
    cases hin : decide (i ∈ x.Entered) with
    | false =>
     simp -dsimp -implicitDefEqProofs
     exact yS9 hp hi (by simpa using hin)
    | true =>
     have hallj':=yL (p:=fun i=>decide (i ∈ x.Entered)) hi hallj hin
     simp -dsimp -implicitDefEqProofs
     refine ⟨yw jlt hlen2,j + 1,⟨jlt,by simpa using hallj'⟩,by omega,?_⟩
     apply yj <;> simp
   ·have hca : ySc x p = true:=yX (p:=fun i=>decide (i ∈ x.Entered)) jge hallj
    have hall':=yL (p:=ySc x) hp hall hca
    simp -dsimp -implicitDefEqProofs [yaB jge]
    refine ⟨yw klt hlen,0 + 1,⟨klt,hall'⟩,by omega,?_⟩
    apply yj <;> simp
  ·have t1 : ((k : Int) + 1 < (x.Passings.length : Int)) = True:=by simp; omega
   have t2 : (0 ≤ (k : Int) + 1) = True:=by simp; omega
   have t3 : ((k : Int) + 1).toNat = k + 1:=by omega
   simp -dsimp -implicitDefEqProofs [hp,gp,klt,t1,t2,t3]
   refine yaP (ySz x.Tariff p.Train p.Time hps) (by simp -dsimp -implicitDefEqProofs) rfl ?_
   simp -dsimp -implicitDefEqProofs [hp,gp,klt,t3]
   refine yaP (ySx (yR2 x (k + 1)) (yR0 x.Tariff p.Train p.Time) (by omega) (by omega)) (by simp -dsimp -implicitDefEqProofs) rfl ?_
   rw [← hsuc]
   simp -dsimp -implicitDefEqProofs [hp,gp,klt]
   refine yaP (yuz p.Train hps) (by simp -dsimp -implicitDefEqProofs) rfl ?_
   simp -dsimp -implicitDefEqProofs
   intro hlen2
   refine yg (ι:=Nat) (fun j=>j ≤ (yaY p.Train).length ∧ ∀ i ∈ (yaY p.Train).take j,decide (i ∈ x.Entered) = true) (fun j=>yO [(1,.box 1 0),(2,.c (.b false)),(3,.c (.sl 5 ((yR2 x ((k + 1) + 1)).map Entry.enc))),(9,.c (.sl 4 (x.Passings.map Passing.enc))),(10,.c (.i x.Passings.length)),(11,.c (.i (((k + 1) : Nat) : Int))),(29,.c (.sl 1 ((yaY p.Train).map yJ))),(30,.c (.i (yaY p.Train).length)),(31,.c (.i j))] [(1,.box (x.enc.map .c))]) (fun j=>(yaY p.Train).length - j) 0 (by simp) (by apply yj <;> simp) ?_
   rintro j ⟨hj,hallj⟩
   rcases Nat.lt_or_ge j (yaY p.Train).length with jlt | jge
   ·obtain ⟨i,hi⟩ : ∃ i,(yaY p.Train)[j]? = some i:=⟨_,List.getElem?_eq_getElem jlt⟩
    have gi:=(List.getElem?_eq_some_iff.1 hi).2
    simp -dsimp -implicitDefEqProofs [hi,gi,jlt,yG jlt]
    refine yaQ (ypJ x.Entered i) (by simp -dsimp -implicitDefEqProofs) rfl ?_
    cases hin : decide (i ∈ x.Entered) with
    | false =>
     simp -dsimp -implicitDefEqProofs
     exact yS9 hp hi (by simpa using hin)
    | true =>
     have hallj':=yL (p:=fun i=>decide (i ∈ x.Entered)) hi hallj hin
     simp -dsimp -implicitDefEqProofs
     refine ⟨yw jlt hlen2,j + 1,⟨jlt,by simpa using hallj'⟩,by omega,?_⟩
     apply yj <;> simp
   ·have hca : ySc x p = true:=yX (p:=fun i=>decide (i ∈ x.Entered)) jge hallj
    have hall':=yL (p:=ySc x) hp hall hca
    simp -dsimp -implicitDefEqProofs [yaB jge]
    refine ⟨yw klt hlen,(k + 1) + 1,⟨klt,hall'⟩,by omega,?_⟩
    apply yj <;> simp
 ·have hT:=yTM kge hall
  rcases k with _ | k
  ·have e0 : yR2 x 0 = []:=by simp [yR2]
   rw [e0] at hT
   have hx0 : x.Passings.length = 0:=by omega
   have t1 : ((0 : Int) < (x.Passings.length : Int)) = False:=by rw [hx0]; simp
   simp -dsimp -implicitDefEqProofs [t1,hx0]
   refine yaQ (yTO [] x.Book) (by simp -dsimp -implicitDefEqProofs) rfl ?_
   simp -dsimp -implicitDefEqProofs
   rw [hT]
   exact decide_eq_decide.2 ⟨Eq.symm,Eq.symm⟩
  ·have t1 : ((k : Int) + 1 < (x.Passings.length : Int)) = False:=by simp; omega
   simp -dsimp -implicitDefEqProofs [t1]
   refine yaQ (yTO (yR2 x (k + 1)) x.Book) (by simp -dsimp -implicitDefEqProofs) rfl ?_
   simp -dsimp -implicitDefEqProofs
   exact hT
def fl {α : Type} (f : α → List Int) (l : List α) (k : Nat) : List Int:=(l.take k).flatMap f
theorem yUy {α : Type} {f : α → List Int} {l : List α} : fl f l 0 = []:=rfl
theorem yUx {α : Type} {f : α → List Int} {l : List α} {k : Nat} {x : α} (h : l[k]? = some x) : fl f l (k + 1) = fl f l k ++ f x:=by
 unfold fl; rw [List.take_succ,h,List.flatMap_append]; simp
theorem yUB {α : Type} {f : α → List Int} {l : List α} {k : Nat} (h : l.length ≤ k) : fl f l k = l.flatMap f:=by
 unfold fl; rw [List.take_of_length_le h]
theorem yUC {α : Type} {f : α → List Int} {l : List α} {k : Nat} {x : α} (h : l[k]? = some x) : (fl f l k).length + (f x).length ≤ (l.flatMap f).length:=by
 have : l.flatMap f = fl f l (k + 1) ++ (l.drop (k + 1)).flatMap f:=by
  unfold fl; rw [← List.flatMap_append,List.take_append_drop]
 rw [this,yUx h]; simp only [List.length_append]; omega
def yUw (m : Mover) : List Int:=yaY m.Train
def yUv (c : CallT) : List Int:=yaY c.Train
def yUt (l : List Mover) : List Int:=l.flatMap yUw
def yUA (w : Work) : List Int:=w.Calls.flatMap yUv ++ w.Lock.Inside.flatMap yaY
def yUs (x : Waterway) : List Int:=x.Movers.flatMap yUt ++ x.Works.flatMap yUA ++ x.Arrived.flatMap yaY
theorem yUK (x : Waterway) : (yUs x).length = (x.Movers.flatMap yUt).length + (x.Works.flatMap yUA).length + (x.Arrived.flatMap yaY).length:=by
 simp only [yUs,List.length_append]
theorem cat3 {A B D : List Int} : List.take (A.length + (B.length + D.length)) (List.map yJ A ++ (List.map yJ B ++ List.map yJ D)) = List.map yJ (A ++ B ++ D):=by
 rw [List.take_of_length_le (by simp)]; simp
end Go.Proofs.YtpiplmnecmkafaaGreat
