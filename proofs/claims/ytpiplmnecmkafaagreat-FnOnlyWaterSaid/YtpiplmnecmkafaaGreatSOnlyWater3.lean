/- What the law FnOnlyWater stands on: contracts of functions, what each answers as plain Lean, in short form (names, layout). -/
import Derived.Test.YtpiplmnecmkafaaGreatSOnlyWater2
set_option linter.all false
namespace Go.Proofs.YtpiplmnecmkafaaGreat
open Go.RowKit
theorem ywh (x : Waterway) (hs : x.small) : yB Tryz.prog 132 [.agg (x.enc.map .c)] (.c (.b (ybW x))):=by
 have hsA:=hs.2.2.2.2.1
 have hsP:=hs.2.2.2.2.2.2.2.2
 refine yh ynw ?_
 simp -dsimp -implicitDefEqProofs
 intro hlA
 refine ⟨fun h3=>?_,fun h3=>(lno1 (by omega))⟩
 intro hlE
 refine ⟨fun h4=>?_,fun h4=>(lno2 (by omega))⟩
 intro hlP
 refine ⟨fun h5=>(lno3 (by omega)),fun h5=>?_⟩
 refine yg (ι:=Nat) (fun k=>k ≤ x.Arrived.length ∧ ∀ t ∈ x.Arrived.take k,yP t = true) (fun k=>yO [(1,.box 1 0),(3,.c (.i k))] [(1,.box (x.enc.map .c))]) (fun k=>x.Arrived.length - k) 0 (by simp) (by apply yj <;> simp) ?_
 rintro k ⟨hk,hall⟩
 rcases Nat.lt_or_ge k x.Arrived.length with hlt | hge
 ·obtain ⟨t,ht⟩ : ∃ w,x.Arrived[k]? = some w:=⟨_,List.getElem?_eq_getElem hlt⟩
  have g1:=(List.getElem?_eq_some_iff.1 ht).2
  simp -dsimp -implicitDefEqProofs [ht,g1,hlt,yG hlt]
  intro _
  refine yc (yds t (hsA.2 t (List.mem_of_getElem? ht))) ?_
  cases h6 : yP t with
  | false=>simp -dsimp -implicitDefEqProofs; exact lno4 ht h6
  | true =>
   simp -dsimp -implicitDefEqProofs
   refine ⟨yw hlt hlA,k + 1,⟨hlt,yL (p:=yP) ht hall h6⟩,by omega,?_⟩
   apply yj <;> simp
 have hA:=yX (p:=yP) hge hall
 simp -dsimp -implicitDefEqProofs [yaB hge]
 refine fun _=>yg (ι:=Nat) (fun k=>k ≤ x.Entered.length ∧ ∀ t ∈ x.Entered.take k,inRange t 1 9999 = true) (fun k=>yO [(1,.box 1 0),(4,.c (.i k))] [(1,.box (x.enc.map .c))]) (fun k=>x.Entered.length - k) 0 (by simp) (by apply yj <;> simp) ?_
 clear hall hk hge k
 rintro k ⟨hk,hall⟩
 rcases Nat.lt_or_ge k x.Entered.length with hlt | hge
 ·obtain ⟨t,ht⟩ : ∃ w,x.Entered[k]? = some w:=⟨_,List.getElem?_eq_getElem hlt⟩
  have g1:=(List.getElem?_eq_some_iff.1 ht).2
  simp -dsimp -implicitDefEqProofs [ht,g1,hlt,yG hlt]
  intro _
  refine yc (yD t 1 9999) ?_
  cases h6 : inRange t 1 9999 with
  | false=>simp -dsimp -implicitDefEqProofs; exact lno5 ht h6
  | true =>
   simp -dsimp -implicitDefEqProofs
   refine ⟨yw hlt hlE,k + 1,⟨hlt,yL (p:=fun n=>inRange n 1 9999) ht hall h6⟩,by omega,?_⟩
   apply yj <;> simp
 have hE:=yX (p:=fun n=>inRange n 1 9999) hge hall
 simp -dsimp -implicitDefEqProofs [yaB hge]
 refine fun _=>yg (ι:=Nat) (fun k=>k ≤ x.Passings.length ∧ ∀ t ∈ x.Passings.take k,yc9 x.Works.length t = true) (fun k=>yO [(1,.box 1 0),(5,.c (.i k))] [(1,.box (x.enc.map .c))]) (fun k=>x.Passings.length - k) 0 (by simp) (by apply yj <;> simp) ?_
 clear hall hk hge k
 rintro k ⟨hk,hall⟩
 rcases Nat.lt_or_ge k x.Passings.length with hlt | hge
 ·obtain ⟨t,ht⟩ : ∃ w,x.Passings[k]? = some w:=⟨_,List.getElem?_eq_getElem hlt⟩
  have g1:=(List.getElem?_eq_some_iff.1 ht).2
  simp -dsimp -implicitDefEqProofs [ht,g1,hlt,yG hlt]
  intro _
  refine yc (yD t.Time 0 1000000) ?_
  cases h6 : inRange t.Time 0 1000000 with
  | false=>simp -dsimp -implicitDefEqProofs; exact yxw ht (by simp [yc9,h6])
  | true =>
  simp -dsimp -implicitDefEqProofs
  refine fun hlW=>⟨by unfold maxLen at hlW; unfold inI; omega,?_⟩
  refine yc (yD t.Work 0 (x.Works.length - 1)) ?_
  cases h7 : inRange t.Work 0 (x.Works.length - 1) with
  | false=>simp -dsimp -implicitDefEqProofs; exact yxw ht (by simp [yc9,h7])
  | true =>
  simp -dsimp -implicitDefEqProofs
  refine yc (yds t.Train (hsP.2 t (List.mem_of_getElem? ht))) ?_
  cases h8 : yP t.Train with
  | false=>simp -dsimp -implicitDefEqProofs; exact yxw ht (by simp [yc9,h8])
  | true =>
  simp -dsimp -implicitDefEqProofs
  refine ⟨yw hlt hlP,k + 1,⟨hlt,yL (p:=yc9 x.Works.length) ht hall (by simp [yc9,h6,h7,h8])⟩,by omega,?_⟩
  apply yj <;> simp
 have hP:=yX (p:=yc9 x.Works.length) hge hall
 simp -dsimp -implicitDefEqProofs [yaB hge]
 intro _
 have a3 : x.Arrived.length ≤ 500:=by omega
 have a4 : x.Entered.length ≤ 2000:=by omega
 have a5 : x.Passings.length ≤ 500:=by omega
 simp only [ybW,a3,a4,a5,hA,hE,hP]; simp
theorem ym6 (x : Waterway) (hs : x.small) : yB Tryz.prog 84 [.agg (x.enc.map .c)] (.c (.b (yar x))):=by
 refine yh yk1 ?_
 simp -dsimp -implicitDefEqProofs
 refine yc (yD x.Time 0 1000000) ?_
 cases h1 : inRange x.Time 0 1000000 with
 | false=>simp -dsimp -implicitDefEqProofs; simp [yar,h1]
 | true =>
 simp -dsimp -implicitDefEqProofs
 refine yc (yD x.Start 0 1000000000) ?_
 cases h2 : inRange x.Start 0 1000000000 with
 | false=>simp -dsimp -implicitDefEqProofs; simp [yar,h2]
 | true =>
 simp -dsimp -implicitDefEqProofs
 refine yc (yD x.In 0 1000000000) ?_
 cases h3 : inRange x.In 0 1000000000 with
 | false=>simp -dsimp -implicitDefEqProofs; simp [yar,h3]
 | true =>
 simp -dsimp -implicitDefEqProofs
 refine yc (yD x.Out 0 1000000000) ?_
 cases h4 : inRange x.Out 0 1000000000 with
 | false=>simp -dsimp -implicitDefEqProofs; simp [yar,h4]
 | true =>
 simp -dsimp -implicitDefEqProofs
 refine yc (yv2 x hs) ?_
 cases h5 : ybi x with
 | false=>simp -dsimp -implicitDefEqProofs; simp [yar,h5]
 | true =>
 simp -dsimp -implicitDefEqProofs
 refine yc (ywh x hs) ?_
 cases h6 : ybW x with
 | false=>simp -dsimp -implicitDefEqProofs; simp [yar,h6]
 | true =>
 simp -dsimp -implicitDefEqProofs
 refine yc (yre x.Tariff) ?_
 cases h7 : ya9 x.Tariff with
 | false=>simp -dsimp -implicitDefEqProofs; simp [yar,h7]
 | true =>
 simp -dsimp -implicitDefEqProofs
 refine yc (yuL x.Book) ?_
 simp -dsimp -implicitDefEqProofs
 simp [yar,h1,h2,h3,h4,h5,h6,h7]
def yNH (w : Work) : Int:=w.Lock.Water
def yNB (x : Waterway) : Int:=if yar x then yNz x.Reaches + (x.Works.map yNH).sum else 0
def yND (x : Waterway) (k : Nat) : Int:=((x.Works.take k).map yNH).sum
theorem yNR {x : Waterway} : yND x 0 = 0:=rfl
theorem yNQ {x : Waterway} {k : Nat} {w : Work} (h : x.Works[k]? = some w) : yND x (k + 1) = yND x k + w.Lock.Water:=by
 unfold yND; rw [List.take_succ,h]; simp [yNH]
theorem yNF {x : Waterway} {k : Nat} (h : x.Works.length ≤ k) : yND x k = (x.Works.map yNH).sum:=by unfold yND; rw [List.take_of_length_le h]
structure WaterFacts (x : Waterway) : Prop where
 river : ycM x.Reaches = true
 few : x.Works.length ≤ 5
 rng : ∀ w ∈ x.Works,0 ≤ w.Lock.Water ∧ w.Lock.Water ≤ 1000000000
 start : 0 ≤ x.Start ∧ x.Start ≤ 1000000000
 inn : 0 ≤ x.In ∧ x.In ≤ 1000000000
 out : 0 ≤ x.Out ∧ x.Out ≤ 1000000000
theorem yqj {x : Waterway} (h : yar x = true) : WaterFacts x:=by
 simp only [yar,Bool.and_eq_true] at h
 obtain ⟨⟨⟨⟨⟨⟨⟨h1,h2⟩,h3⟩,h4⟩,h5⟩,h6⟩,h7⟩,h8⟩:=h
 simp only [ybi,Bool.and_eq_true,decide_eq_true_eq,List.all_eq_true] at h2
 obtain ⟨⟨⟨⟨⟨⟨p1,p2⟩,p3⟩,p4⟩,p5⟩,p6⟩,p7⟩:=h2
 have rf:=(ywm p1).len
 refine ⟨p1,by omega,fun w hw=>?_,yF.1 h6,yF.1 h7,yF.1 h8⟩
 have:=p7 w hw
 simp only [ybd,ybg,Bool.and_eq_true] at this
 exact yF.1 this.1.1.1.1.1.1.1.1.2
theorem yNC {x : Waterway} (h : WaterFacts x) : ∀ k : Nat,0 ≤ yND x k ∧ yND x k ≤ 1000000000 * k
 | 0=>by rw [yNR]; omega
 | k + 1=>by
  have ih:=yNC h k
  have e2 : ((k + 1 : Nat) : Int) = k + 1:=by simp
  cases hk : x.Works[k]? with
  | none =>
   have hl : x.Works.length ≤ k:=by simpa using hk
   rw [yNF (by omega),← yNF hl]; omega
  | some w =>
   have:=h.rng w (List.mem_of_getElem? hk)
   rw [yNQ hk]; omega
theorem yNI {l : List Reach} (h : ycM l = true) : 0 ≤ yNz l ∧ yNz l ≤ 1000000000:=by
 have:=(ywm h).rng
 simp [yNz,h]; omega
theorem yN3 (x : Waterway) : 0 ≤ yNB x ∧ yNB x ≤ 6000000000:=by
 unfold yNB
 split
 ·rename_i h
  have f:=yqj h
  have h1:=yNI f.river
  have h2:=yNC f x.Works.length
  have h3:=f.few
  rw [yNF (Nat.le_refl _)] at h2
  omega
 ·omega
theorem yOa (x : Waterway) (hs : x.small) : yB Tryz.prog 33 [.agg (x.enc.map .c)] (.c (.i (yNB x))):=by
 refine yh yN8 ?_
 simp -dsimp -implicitDefEqProofs
 refine yc (yns x hs) ?_
 cases h : yar x with
 | false=>simp -dsimp -implicitDefEqProofs; simp [yNB,h]
 | true =>
 have f:=yqj h
 have hr:=yNI f.river
 have hfew:=f.few
 have hW : yNB x = yNz x.Reaches + (x.Works.map yNH).sum:=by simp [yNB,h]
 simp -dsimp -implicitDefEqProofs
 refine yc (yN5 x.Reaches) ?_
 simp -dsimp -implicitDefEqProofs
 intro hlen
 refine yg (ι:=Nat) (fun k=>k ≤ x.Works.length) (fun k=>yO [(3,.c (.i (yNz x.Reaches + yND x k))),(13,.c (.sl 22 (x.Works.map Work.enc))),(14,.c (.i x.Works.length)),(15,.c (.i k))] []) (fun k=>x.Works.length - k) 0 (by simp) (by apply yj <;> simp [yNR]) ?_
 rintro k hk
 rcases Nat.lt_or_ge k x.Works.length with hlt | hge
 ·obtain ⟨w,hw⟩ : ∃ w,x.Works[k]? = some w:=⟨_,List.getElem?_eq_getElem hlt⟩
  have g1:=(List.getElem?_eq_some_iff.1 hw).2
  have e1:=yNQ hw
  have hb:=yNC f (k + 1)
  have hb0:=yNC f k
  rw [e1] at hb
  simp -dsimp -implicitDefEqProofs [hw,g1,yG hlt,hlt]
  refine ⟨by unfold inI; omega,yw hlt hlen,k + 1,hlt,by omega,?_⟩
  apply yj <;> simp [e1]
  omega
 ·simp -dsimp -implicitDefEqProofs [yaB hge]
  rw [yNF hge,hW]
theorem yOc (x : Waterway) (hs : x.small) : yB Tryz.prog 83 [.agg (x.enc.map .c)] (.c (.i (yNB x))):=by
 refine yh yN7 ?_
 simp -dsimp -implicitDefEqProofs
 refine yc (ym6 x hs) ?_
 cases h : yar x with
 | false=>simp -dsimp -implicitDefEqProofs; simp [yNB,h]
 | true =>
 have f:=yqj h
 have hr:=yNI f.river
 have hfew:=f.few
 have hW : yNB x = yNz x.Reaches + (x.Works.map yNH).sum:=by simp [yNB,h]
 simp -dsimp -implicitDefEqProofs
 refine yc (yN4 x.Reaches) ?_
 simp -dsimp -implicitDefEqProofs
 refine yg (ι:=Nat) (fun k=>k ≤ x.Works.length) (fun k=>yO [(1,.box 1 0),(3,.c (.i (yNz x.Reaches + yND x k))),(4,.c (.i k))] [(1,.box (x.enc.map .c))]) (fun k=>x.Works.length - k) 0 (by simp) (by apply yj <;> simp [yNR]) ?_
 rintro k hk
 rcases Nat.lt_or_ge k x.Works.length with hlt | hge
 ·obtain ⟨w,hw⟩ : ∃ w,x.Works[k]? = some w:=⟨_,List.getElem?_eq_getElem hlt⟩
  have g1:=(List.getElem?_eq_some_iff.1 hw).2
  have e1:=yNQ hw
  have hb:=yNC f (k + 1)
  have hb0:=yNC f k
  rw [e1] at hb
  simp -dsimp -implicitDefEqProofs [hw,g1,yG hlt,hlt]
  refine fun hlen=>⟨by unfold inI; omega,yw hlt hlen,k + 1,hlt,by omega,?_⟩
  apply yj <;> simp [e1]
  omega
 ·simp -dsimp -implicitDefEqProofs [yaB hge]
  intro _
  rw [yNF hge,hW]
def yVD (x : Waterway) : Bool:=yar x && decide (yNB x + x.Out = x.Start + x.In)
theorem yVT (x : Waterway) (hs : x.small) : yB Tryz.prog 14 [.agg (x.enc.map .c)] (.c (.b (yVD x))):=by
 refine yh yVP ?_
 simp -dsimp -implicitDefEqProofs
 refine yaC (yns x hs) ?_
 cases h : yar x with
 | false=>simp -dsimp -implicitDefEqProofs; simp [yVD,h]
 | true =>
 have f:=yqj h
 have f1:=f.start; have f2:=f.inn; have f3:=f.out
 have hw:=yN3 x
 simp -dsimp -implicitDefEqProofs
 refine yaC (yOa x hs) ?_
 simp -dsimp -implicitDefEqProofs
 refine ⟨by unfold inI; omega,by unfold inI; omega,?_⟩
 simp [yVD,h]
theorem ybn {α : Type} {f : α → List C} (h : ∀ x,∀ c ∈ f x,c.closed) (k : Nat) (l : List α) : (C.ot k (l.map f)).closed:=by
 simp only [C.closed,List.mem_map]
 rintro r ⟨x,_,rfl⟩ c hc
 exact h x c hc
theorem yb5 {l : List C} (h : ∀ c ∈ l,c.closed) : (AV.agg (l.map .c)).closed:=by
 show ∀ c,c ∈ AV.cs (l.map AV.c) → c.closed
 rw [ylW]; exact h
theorem ygL (xs : List Boat) : ∀ c ∈ yT xs,c.closed:=by simp [yT,C.closed]
theorem Train.yad (e : Train) : ∀ c ∈ e.yI,c.closed:=by
 simp only [Train.yI,List.mem_cons,List.not_mem_nil,or_false,forall_eq_or_imp,forall_eq]
 exact ⟨by simp [C.closed],ybn ygL _ _⟩
theorem Mover.yad (e : Mover) : ∀ c ∈ e.yI,c.closed:=by
 simp only [Mover.yI,List.mem_cons,List.not_mem_nil,or_false,forall_eq_or_imp,forall_eq]
 exact ⟨by simp [C.closed],ybn ygL _ _,by simp [C.closed]⟩
theorem Reach.yad (e : Reach) : ∀ c ∈ e.yI,c.closed:=by
 simp only [Reach.yI,List.mem_cons,List.not_mem_nil,or_false,forall_eq_or_imp,forall_eq]
 exact ⟨by simp [C.closed],by simp [C.closed],by simp [C.closed]⟩
theorem Tariff.yad (e : Tariff) : ∀ c ∈ e.yI,c.closed:=by
 simp only [Tariff.yI,List.mem_cons,List.not_mem_nil,or_false,forall_eq_or_imp,forall_eq]
 exact ⟨by simp [C.closed],by simp [C.closed],by simp [C.closed],by simp [C.closed]⟩
def yay (e : Reach) : Nat:=2 * e.Table.length + 1 + e.Pipe.length
def ycQ (k : Int) (e : Reach) : List C:=[.ow 2 (marked mkPt 2 [] k e.Table.length),.i (k + 2 * (e.Table.length : Int)),.ow 1 (marked yJ 1 [] (k + 2 * (e.Table.length : Int) + 1) e.Pipe.length)]
def ydz (k : Int) : List C:=[.i k,.i (k + 1)]
def ybT (k : Int) : List C:=[.i k,.i (k + 1)]
def yE (e : Train) : Nat:=1 + cnt nB e.Rows
def ybN (k : Int) (e : Train) : List C:=[.b (decide (k.tmod 3 = 0)),.ot 1 (yaA fB nB (k + 1) e.Rows)]
@[simp] def CallT.yI (e : CallT) : List C:=[.b e.Train.Up,.ot 1 (e.Train.Rows.map yT),.i e.Since,.i e.Booked]
theorem CallT.yaa (e : CallT) : ybQ e.yI = some e.enc:=by simp [CallT.yI,ybQ,ydl yeg]
theorem CallT.yad (e : CallT) : ∀ c ∈ e.yI,c.closed:=by
 simp only [CallT.yI,List.mem_cons,List.not_mem_nil,or_false,forall_eq_or_imp,forall_eq]
 exact ⟨by simp [C.closed],ybn ygL _ _,by simp [C.closed],by simp [C.closed]⟩
def yaI (e : CallT) : Nat:=1 + cnt nB e.Train.Rows + 1 + 1
def yeu (k : Int) (e : CallT) : List C:=[.b (decide (k.tmod 3 = 0)),.ot 1 (yaA fB nB (k + 1) e.Train.Rows),.i (k + 1 + (cnt nB e.Train.Rows : Int)),.i (k + 1 + (cnt nB e.Train.Rows : Int) + 1)]
@[simp] def Lock.yI (e : Lock) : List C:=[.i e.Length,.i e.Width,.i e.SillAbove,.i e.SillBelow,.i e.Base,.i e.Area,.i e.Rate,.i e.Water,.i e.Gate,.ot 2 (e.Inside.map Train.yI)]
theorem Lock.yaa (e : Lock) : ybQ e.yI = some e.enc:=by simp [Lock.yI,ybQ,ydl Train.yaa]
theorem Lock.yad (e : Lock) : ∀ c ∈ e.yI,c.closed:=by
 simp only [Lock.yI,List.mem_cons,List.not_mem_nil,or_false,forall_eq_or_imp,forall_eq]
 exact ⟨by simp [C.closed],by simp [C.closed],by simp [C.closed],by simp [C.closed],by simp [C.closed],by simp [C.closed],by simp [C.closed],by simp [C.closed],by simp [C.closed],ybn Train.yad _ _⟩
@[simp] def Work.yI (e : Work) : List C:=[.i e.Lock.Length,.i e.Lock.Width,.i e.Lock.SillAbove,.i e.Lock.SillBelow,.i e.Lock.Base,.i e.Lock.Area,.i e.Lock.Rate,.i e.Lock.Water,.i e.Lock.Gate,.ot 2 (e.Lock.Inside.map Train.yI),.i e.Weir.Gates,.i e.Weir.Open,.i e.Weir.Step,.i e.Weir.Crest,.i e.Weir.Width,.i e.Rule.Low,.i e.Rule.High,.i e.Rule.Flood,.ow 2 (e.Pauses.map Pause.enc),.b e.Turn.Up,.i e.Turn.Count,.ot 4 (e.Calls.map CallT.yI)]
theorem Work.yaa (e : Work) : ybQ e.yI = some e.enc:=by simp [Work.yI,ybQ,ydl Train.yaa,ydl CallT.yaa]
theorem Work.yad (e : Work) : ∀ c ∈ e.yI,c.closed:=by
 simp only [Work.yI,List.mem_cons,List.not_mem_nil,or_false,forall_eq_or_imp,forall_eq]
 exact ⟨by simp [C.closed],by simp [C.closed],by simp [C.closed],by simp [C.closed],by simp [C.closed],by simp [C.closed],by simp [C.closed],by simp [C.closed],by simp [C.closed],ybn Train.yad _ _,by simp [C.closed],by simp [C.closed],by simp [C.closed],by simp [C.closed],by simp [C.closed],by simp [C.closed],by simp [C.closed],by simp [C.closed],by simp [C.closed],by simp [C.closed],by simp [C.closed],ybn CallT.yad _ _⟩
def yaJ (e : Work) : Nat:=1 + 1 + 1 + 1 + 1 + 1 + 1 + 1 + 1 + cnt yE e.Lock.Inside + 1 + 1 + 1 + 1 + 1 + 1 + 1 + 1 + 2 * e.Pauses.length + 1 + 1 + cnt yaI e.Calls
def ydH (k : Int) (e : Work) : List C:=[.i k,.i (k + 1),.i (k + 1 + 1),.i (k + 1 + 1 + 1),.i (k + 1 + 1 + 1 + 1),.i (k + 1 + 1 + 1 + 1 + 1),.i (k + 1 + 1 + 1 + 1 + 1 + 1),.i (k + 1 + 1 + 1 + 1 + 1 + 1 + 1),.i (k + 1 + 1 + 1 + 1 + 1 + 1 + 1 + 1),.ot 2 (yaA ybN yE (k + 1 + 1 + 1 + 1 + 1 + 1 + 1 + 1 + 1) e.Lock.Inside),.i (k + 1 + 1 + 1 + 1 + 1 + 1 + 1 + 1 + 1 + (cnt yE e.Lock.Inside : Int)),.i (k + 1 + 1 + 1 + 1 + 1 + 1 + 1 + 1 + 1 + (cnt yE e.Lock.Inside : Int) + 1),.i (k + 1 + 1 + 1 + 1 + 1 + 1 + 1 + 1 + 1 + (cnt yE e.Lock.Inside : Int) + 1 + 1),.i (k + 1 + 1 + 1 + 1 + 1 + 1 + 1 + 1 + 1 + (cnt yE e.Lock.Inside : Int) + 1 + 1 + 1),.i (k + 1 + 1 + 1 + 1 + 1 + 1 + 1 + 1 + 1 + (cnt yE e.Lock.Inside : Int) + 1 + 1 + 1 + 1),.i (k + 1 + 1 + 1 + 1 + 1 + 1 + 1 + 1 + 1 + (cnt yE e.Lock.Inside : Int) + 1 + 1 + 1 + 1 + 1),.i (k + 1 + 1 + 1 + 1 + 1 + 1 + 1 + 1 + 1 + (cnt yE e.Lock.Inside : Int) + 1 + 1 + 1 + 1 + 1 + 1),.i (k + 1 + 1 + 1 + 1 + 1 + 1 + 1 + 1 + 1 + (cnt yE e.Lock.Inside : Int) + 1 + 1 + 1 + 1 + 1 + 1 + 1),.ow 2 (marked ybT 2 [] (k + 1 + 1 + 1 + 1 + 1 + 1 + 1 + 1 + 1 + (cnt yE e.Lock.Inside : Int) + 1 + 1 + 1 + 1 + 1 + 1 + 1 + 1) e.Pauses.length),.b (decide ((k + 1 + 1 + 1 + 1 + 1 + 1 + 1 + 1 + 1 + (cnt yE e.Lock.Inside : Int) + 1 + 1 + 1 + 1 + 1 + 1 + 1 + 1 + 2 * (e.Pauses.length : Int)).tmod 3 = 0)),.i (k + 1 + 1 + 1 + 1 + 1 + 1 + 1 + 1 + 1 + (cnt yE e.Lock.Inside : Int) + 1 + 1 + 1 + 1 + 1 + 1 + 1 + 1 + 2 * (e.Pauses.length : Int) + 1),.ot 4 (yaA yeu yaI (k + 1 + 1 + 1 + 1 + 1 + 1 + 1 + 1 + 1 + (cnt yE e.Lock.Inside : Int) + 1 + 1 + 1 + 1 + 1 + 1 + 1 + 1 + 2 * (e.Pauses.length : Int) + 1 + 1) e.Calls)]
def yax (xs : List Mover) : List C:=[.ot 3 (xs.map Mover.yI)]
theorem ycu (xs : List Mover) : ybQ (yax xs) = some (yZ xs):=by simp [yax,ybQ,ydl Mover.yaa]
theorem yk2 (xs : List Mover) : ∀ c ∈ yax xs,c.closed:=by
 intro c hc
 simp only [yax,List.mem_singleton] at hc
 subst hc
 exact ybn Mover.yad _ _
def yap (r : List Mover) : Nat:=cnt nM r
def ycj (k : Int) (r : List Mover) : List C:=[.ot 3 (yaA fM nM k r)]
@[simp] def Passing.yI (e : Passing) : List C:=[.i e.Time,.i e.Work,.b e.Train.Up,.ot 1 (e.Train.Rows.map yT)]
theorem Passing.yaa (e : Passing) : ybQ e.yI = some e.enc:=by simp [Passing.yI,ybQ,ydl yeg]
theorem Passing.yad (e : Passing) : ∀ c ∈ e.yI,c.closed:=by
 simp only [Passing.yI,List.mem_cons,List.not_mem_nil,or_false,forall_eq_or_imp,forall_eq]
 exact ⟨by simp [C.closed],by simp [C.closed],by simp [C.closed],ybn ygL _ _⟩
def yae (e : Passing) : Nat:=1 + 1 + 1 + cnt nB e.Train.Rows
def ybL (k : Int) (e : Passing) : List C:=[.i k,.i (k + 1),.b (decide ((k + 1 + 1).tmod 3 = 0)),.ot 1 (yaA fB nB (k + 1 + 1 + 1) e.Train.Rows)]
@[simp] def Waterway.yI (e : Waterway) : List C:=[.i e.Time,.ot 3 (e.Reaches.map Reach.yI),.ow 2 (e.Ways.map Way.enc),.ot 22 (e.Works.map Work.yI),.ot 1 (e.Movers.map yax),.ot 2 (e.Arrived.map Train.yI),.ow 1 (e.Entered.map yJ),.i e.Tariff.Base,.i e.Tariff.PerArea,.ow 1 (e.Tariff.PerClass.map yJ),.ow 1 (e.Tariff.Weights.map yJ),.ow 5 (e.Book.map Entry.enc),.ot 4 (e.Passings.map Passing.yI),.i e.Start,.i e.In,.i e.Out]
theorem Waterway.yaa (e : Waterway) : ybQ e.yI = some e.enc:=by simp [Waterway.yI,ybQ,ydl Reach.yaa,ydl Work.yaa,ydl ycu,ydl Train.yaa,ydl Passing.yaa]
theorem Waterway.yad (e : Waterway) : ∀ c ∈ e.yI,c.closed:=by
 simp only [Waterway.yI,List.mem_cons,List.not_mem_nil,or_false,forall_eq_or_imp,forall_eq]
 exact ⟨by simp [C.closed],ybn Reach.yad _ _,by simp [C.closed],ybn Work.yad _ _,ybn yk2 _ _,ybn Train.yad _ _,by simp [C.closed],by simp [C.closed],by simp [C.closed],by simp [C.closed],by simp [C.closed],by simp [C.closed],ybn Passing.yad _ _,by simp [C.closed],by simp [C.closed],by simp [C.closed]⟩
theorem yAp (es : List Point) (hl : es.length ≤ 1048576) : ybh Tryz.prog 135 [.c (.sl 2 (es.map Point.enc))] (.c (.ow 2 (es.map Point.enc))):=by
 refine yan yc4 ?_
 simp -dsimp -implicitDefEqProofs [ybv,yt]
 omega
theorem yk9 (es : List Int) (hl : es.length ≤ 1048576) : ybh Tryz.prog 52 [.c (.sl 1 (es.map yJ))] (.c (.ow 1 (es.map yJ))):=by
 refine yan ygh ?_
 simp -dsimp -implicitDefEqProofs [ydx,yt]
 omega
theorem yx7 (es : List Pause) (hl : es.length ≤ 1048576) : ybh Tryz.prog 87 [.c (.sl 2 (es.map Pause.enc))] (.c (.ow 2 (es.map Pause.enc))):=by
 refine yan yc7 ?_
 simp -dsimp -implicitDefEqProofs [ybt,yt]
 omega
theorem yyE (es : List Way) (hl : es.length ≤ 1048576) : ybh Tryz.prog 48 [.c (.sl 2 (es.map Way.enc))] (.c (.ow 2 (es.map Way.enc))):=by
 refine yan ydE ?_
 simp -dsimp -implicitDefEqProofs [ybZ,yt]
 omega
theorem yz5 (es : List Entry) (hl : es.length ≤ 1048576) : ybh Tryz.prog 54 [.c (.sl 5 (es.map Entry.enc))] (.c (.ow 5 (es.map Entry.enc))):=by
 refine yan yc5 ?_
 simp -dsimp -implicitDefEqProofs [ybu,yt]
 omega
theorem ygB (e : Reach) (hl : Reach.small e) : ybh Tryz.prog 85 [.agg (e.enc.map .c)] (.agg (e.yI.map .c)):=by
 refine yan yms ?_
 simp -dsimp -implicitDefEqProofs
 refine yfW (yAp e.Table hl.1.1) (by simp ) (by simp [AV.closed,AV.ya7,C.closed]) (by simp [yU]) ?_
 simp -dsimp -implicitDefEqProofs [yt]
 refine yfW (yk9 e.Pipe hl.2.1) (by simp ) (by simp [AV.closed,AV.ya7,C.closed]) (by simp [yU]) ?_
 simp -dsimp -implicitDefEqProofs [yt]
theorem yrb (xs : List Reach) (hl : ycN xs) : ybh Tryz.prog 47 [.c (.sl 3 (xs.map Reach.enc))] (.c (.ot 3 (xs.map Reach.yI))):=by
 refine yan yku ?_
 simp -dsimp -implicitDefEqProofs
 intro hlen
 have hl1:=hl.1
 refine ⟨by omega,?_⟩
 intro _
 refine yg (ι:=Nat) (fun k=>k ≤ xs.length) (fun k=>yO [(3,.own 8 3 k),(9,.c (.sl 3 (xs.map Reach.enc))),(10,.c (.i xs.length)),(11,.c (.i k))] [(8,.tr 3 0 ((xs.take k).map Reach.yI))]) (fun k=>xs.length - k) 0 (by simp) (by apply yj <;> simp [Obj.leO]) ?_
 rintro k hk
 rcases Nat.lt_or_ge k xs.length with hlt | hge
 ·obtain ⟨e,he⟩ : ∃ e,xs[k]? = some e:=⟨_,List.getElem?_eq_getElem hlt⟩
  have hs : xs.take (k + 1) = xs.take k ++ [e]:=by rw [List.take_succ,he]; rfl
  have he2:=hl.2 e (List.mem_of_getElem? he)
  have g1:=(List.getElem?_eq_some_iff.1 he).2
  simp -dsimp -implicitDefEqProofs [he,g1,hlt,yG hlt]
  refine yQ (ygB e he2) (by simp) (yb5 (Reach.yad e)) (by simp [yU]) ?_
  simp -dsimp -implicitDefEqProofs [yt,Nat.min_eq_left hk,yeh]
  refine ⟨by omega,yw hlt hlen,k + 1,hlt,by omega,?_⟩
  have hs2 : (xs.map Reach.yI).take (k + 1) = (xs.map Reach.yI).take k ++ [Reach.yI e]:=by rw [← List.map_take,← List.map_take,hs,List.map_append]; rfl
  apply yj <;> simp [Obj.leO,hs2]
 ·have : k = xs.length:=by omega
  subst this
  simp -dsimp -implicitDefEqProofs [yt]
  try simp
theorem ykW (xs : List Train) (hl : ybV xs) : ybh Tryz.prog 51 [.c (.sl 2 (xs.map Train.enc))] (.c (.ot 2 (xs.map Train.yI))):=by
 refine yan ylm ?_
 simp -dsimp -implicitDefEqProofs
 intro hlen
 have hl1:=hl.1
 refine yfV (k0:=2) 3 2 (by simp) (by simp) (by decide) ?_
 refine yg (ι:=Nat) (fun k=>k ≤ xs.length) (fun k=>yO [(3,.own 3 2 k),(6,.c (.sl 2 (xs.map Train.enc))),(7,.c (.i xs.length)),(8,.c (.i k))] [(3,.tr 2 0 ((xs.take k).map Train.yI))]) (fun k=>xs.length - k) 0 (by simp) (by apply yj <;> simp [Obj.leO]) ?_
 rintro k hk
 rcases Nat.lt_or_ge k xs.length with hlt | hge
 ·obtain ⟨e,he⟩ : ∃ e,xs[k]? = some e:=⟨_,List.getElem?_eq_getElem hlt⟩
  have hs : xs.take (k + 1) = xs.take k ++ [e]:=by rw [List.take_succ,he]; rfl
  have he2:=hl.2 e (List.mem_of_getElem? he)
  have g1:=(List.getElem?_eq_some_iff.1 he).2
  simp -dsimp -implicitDefEqProofs [he,g1,hlt,yG hlt]
  refine yQ (ygJ e he2) (by simp) (yb5 (Train.yad e)) (by simp [yU]) ?_
  simp -dsimp -implicitDefEqProofs [yt,Nat.min_eq_left hk,yeh]
  refine ⟨by omega,yw hlt hlen,k + 1,hlt,by omega,?_⟩
  have hs2 : (xs.map Train.yI).take (k + 1) = (xs.map Train.yI).take k ++ [Train.yI e]:=by rw [← List.map_take,← List.map_take,hs,List.map_append]; rfl
  apply yj <;> simp [Obj.leO,hs2]
 ·have : k = xs.length:=by omega
  subst this
  simp -dsimp -implicitDefEqProofs [yt]
  try simp
theorem yuP (xs : List CallT) (hl : yfi xs) : ybh Tryz.prog 29 [.c (.sl 4 (xs.map CallT.enc))] (.c (.ot 4 (xs.map CallT.yI))):=by
 refine yan ymx ?_
 simp -dsimp -implicitDefEqProofs
 intro hlen
 have hl1:=hl.1
 refine yfV (k0:=4) 3 4 (by simp) (by simp) (by decide) ?_
 refine yg (ι:=Nat) (fun k=>k ≤ xs.length) (fun k=>yO [(3,.own 3 4 k),(6,.c (.sl 4 (xs.map CallT.enc))),(7,.c (.i xs.length)),(8,.c (.i k))] [(3,.tr 4 0 ((xs.take k).map CallT.yI))]) (fun k=>xs.length - k) 0 (by simp) (by apply yj <;> simp [Obj.leO]) ?_
 rintro k hk
 rcases Nat.lt_or_ge k xs.length with hlt | hge
 ·obtain ⟨e,he⟩ : ∃ e,xs[k]? = some e:=⟨_,List.getElem?_eq_getElem hlt⟩
  have hs : xs.take (k + 1) = xs.take k ++ [e]:=by rw [List.take_succ,he]; rfl
  have he2:=hl.2 e (List.mem_of_getElem? he)
  have g1:=(List.getElem?_eq_some_iff.1 he).2
  simp -dsimp -implicitDefEqProofs [he,g1,hlt,yG hlt]
  refine yfW (ygJ e.Train he2) (by simp) (yb5 (Train.yad e.Train)) (by simp [yU]) ?_
  simp -dsimp -implicitDefEqProofs [yt,Nat.min_eq_left hk,yeh]
  refine ⟨by omega,yw hlt hlen,k + 1,hlt,by omega,?_⟩
  have hs2 : (xs.map CallT.yI).take (k + 1) = (xs.map CallT.yI).take k ++ [CallT.yI e]:=by rw [← List.map_take,← List.map_take,hs,List.map_append]; rfl
  apply yj <;> simp [Obj.leO,hs2]
 ·have : k = xs.length:=by omega
  subst this
  simp -dsimp -implicitDefEqProofs [yt]
  try simp
theorem ysV (xs : List Mover) (hl : yfK xs) : ybh Tryz.prog 50 [.c (.sl 3 (xs.map Mover.enc))] (.c (.ot 3 (xs.map Mover.yI))):=by
 refine yan ylu ?_
 simp -dsimp -implicitDefEqProofs
 intro hlen
 have hl1:=hl.1
 refine yfV (k0:=3) 3 3 (by simp) (by simp) (by decide) ?_
 refine yg (ι:=Nat) (fun k=>k ≤ xs.length) (fun k=>yO [(3,.own 3 3 k),(6,.c (.sl 3 (xs.map Mover.enc))),(7,.c (.i xs.length)),(8,.c (.i k))] [(3,.tr 3 0 ((xs.take k).map Mover.yI))]) (fun k=>xs.length - k) 0 (by simp) (by apply yj <;> simp [Obj.leO]) ?_
 rintro k hk
 rcases Nat.lt_or_ge k xs.length with hlt | hge
 ·obtain ⟨e,he⟩ : ∃ e,xs[k]? = some e:=⟨_,List.getElem?_eq_getElem hlt⟩
  have hs : xs.take (k + 1) = xs.take k ++ [e]:=by rw [List.take_succ,he]; rfl
  have he2:=hl.2 e (List.mem_of_getElem? he)
  have g1:=(List.getElem?_eq_some_iff.1 he).2
  simp -dsimp -implicitDefEqProofs [he,g1,hlt,yG hlt]
  refine yfW (ygJ e.Train he2) (by simp) (yb5 (Train.yad e.Train)) (by simp [yU]) ?_
  simp -dsimp -implicitDefEqProofs [yt,Nat.min_eq_left hk,yeh]
  refine ⟨by omega,yw hlt hlen,k + 1,hlt,by omega,?_⟩
  have hs2 : (xs.map Mover.yI).take (k + 1) = (xs.map Mover.yI).take k ++ [Mover.yI e]:=by rw [← List.map_take,← List.map_take,hs,List.map_append]; rfl
  apply yj <;> simp [Obj.leO,hs2]
 ·have : k = xs.length:=by omega
  subst this
  simp -dsimp -implicitDefEqProofs [yt]
  try simp
theorem yws (e : Lock) (hl : Lock.small e) : ybh Tryz.prog 86 [.agg (e.enc.map .c)] (.agg (e.yI.map .c)):=by
 refine yan ym9 ?_
 simp -dsimp -implicitDefEqProofs
 refine yQ (ykW e.Inside hl) (by simp) (ybn Train.yad _ _) (by simp [yU]) ?_
 simp -dsimp -implicitDefEqProofs [yt]
theorem ysT (e : Tariff) (hl : Tariff.small e) : ybh Tryz.prog 53 [.agg (e.enc.map .c)] (.agg (e.yI.map .c)):=by
 refine yan ylf ?_
 simp -dsimp -implicitDefEqProofs
 refine yQ (yk9 e.PerClass hl.1) (by simp ) (by simp [AV.closed,AV.ya7,C.closed]) (by simp [yU]) ?_
 simp -dsimp -implicitDefEqProofs [yt]
 refine yQ (yk9 e.Weights hl.2) (by simp ) (by simp [AV.closed,AV.ya7,C.closed]) (by simp [yU]) ?_
 simp -dsimp -implicitDefEqProofs [yt]
theorem yuM (xs : List Work) (hl : yc8 xs) : ybh Tryz.prog 49 [.c (.sl 22 (xs.map Work.enc))] (.c (.ot 22 (xs.map Work.yI))):=by
 refine yan ymk ?_
 simp -dsimp -implicitDefEqProofs
 intro hlen
 have hl1:=hl.1
 refine yfV (k0:=22) 3 22 (by simp) (by simp) (by decide) ?_
 refine yg (ι:=Nat) (fun k=>k ≤ xs.length) (fun k=>yO [(3,.own 3 22 k),(6,.c (.sl 22 (xs.map Work.enc))),(7,.c (.i xs.length)),(8,.c (.i k))] [(3,.tr 22 0 ((xs.take k).map Work.yI))]) (fun k=>xs.length - k) 0 (by simp) (by apply yj <;> simp [Obj.leO]) ?_
 rintro k hk
 rcases Nat.lt_or_ge k xs.length with hlt | hge
 ·obtain ⟨e,he⟩ : ∃ e,xs[k]? = some e:=⟨_,List.getElem?_eq_getElem hlt⟩
  have hs : xs.take (k + 1) = xs.take k ++ [e]:=by rw [List.take_succ,he]; rfl
  have he2:=hl.2 e (List.mem_of_getElem? he)
  have g1:=(List.getElem?_eq_some_iff.1 he).2
  simp -dsimp -implicitDefEqProofs [he,g1,hlt,yG hlt]
  refine yQ (yws e.Lock he2.1) (by simp) (yb5 (Lock.yad _)) (by simp [yU]) ?_
  simp -dsimp -implicitDefEqProofs [yt]
  refine yQ (yx7 e.Pauses he2.2.1.1) (by simp ) (by simp [AV.closed,AV.ya7,C.closed]) (by simp [yU]) ?_
  simp -dsimp -implicitDefEqProofs [yt]
  refine yQ (yuP e.Calls he2.2.2) (by simp) (ybn CallT.yad _ _) (by simp [yU]) ?_
  simp -dsimp -implicitDefEqProofs [yt,Nat.min_eq_left hk]
  refine ⟨by omega,yw hlt hlen,k + 1,hlt,by omega,?_⟩
  have hs2 : (xs.map Work.yI).take (k + 1) = (xs.map Work.yI).take k ++ [Work.yI e]:=by rw [← List.map_take,← List.map_take,hs,List.map_append]; rfl
  apply yj <;> simp [Obj.leO,hs2]
 ·have : k = xs.length:=by omega
  subst this
  simp -dsimp -implicitDefEqProofs [yt]
  try simp
set_option maxRecDepth 20000 in
theorem ypi (x : Waterway) (hl : x.small) : ybh Tryz.prog 21 [.agg (x.enc.map .c)] (.agg (x.yI.map .c)):=by
 obtain ⟨s1,s2,s3,s4,s5,s6,s7,s8,s9⟩:=hl
 have s41:=s4.1
 have s91:=s9.1
 refine yan yjQ ?_
 simp -dsimp -implicitDefEqProofs
 refine yQ (yrb x.Reaches s1) (by simp) (ybn Reach.yad _ _) (by simp [yU]) ?_
 simp -dsimp -implicitDefEqProofs [yt]
 refine yQ (yyE x.Ways s2.1) (by simp ) (by simp [AV.closed,AV.ya7,C.closed]) (by simp [yU]) ?_
 simp -dsimp -implicitDefEqProofs [yt]
 refine yQ (yuM x.Works s3) (by simp) (ybn Work.yad _ _) (by simp [yU]) ?_
 simp -dsimp -implicitDefEqProofs [yt]
 intro hlen
 refine ⟨by omega,yQd ?_⟩
 simp -dsimp -implicitDefEqProofs
 intro _
 refine yg (ι:=Nat) (fun k=>k ≤ x.Movers.length) (fun k=>yO [(1,.box 1 0),(2,.box 2 0),(3,.own 24 1 x.Movers.length),(26,.c (.sl 1 (x.Movers.map yZ))),(27,.c (.i x.Movers.length)),(28,.c (.i k))] [(1,.box [.c (.i x.Time),.own 11 3 x.Reaches.length,.own 15 2 x.Ways.length,.own 19 22 x.Works.length,.c (.sl 1 (x.Movers.map yZ)),.c (.sl 2 (x.Arrived.map Train.enc)),.c (.sl 1 (x.Entered.map yJ)),.c (.i x.Tariff.Base),.c (.i x.Tariff.PerArea),.c (.sl 1 (x.Tariff.PerClass.map yJ)),.c (.sl 1 (x.Tariff.Weights.map yJ)),.c (.sl 5 (x.Book.map Entry.enc)),.c (.sl 4 (x.Passings.map Passing.enc)),.c (.i x.Start),.c (.i x.In),.c (.i x.Out)]),(2,.box [.c (.i 0),.nil 3,.nil 2,.nil 22,.nil 1,.nil 2,.nil 1,.c (.i 0),.c (.i 0),.nil 1,.nil 1,.nil 5,.nil 4,.c (.i 0),.c (.i 0),.c (.i 0)]),(11,.tr 3 0 (x.Reaches.map Reach.yI)),(15,.row 2 (x.Ways.map Way.enc)),(19,.tr 22 0 (x.Works.map Work.yI)),(24,.tr 1 0 (partly yax [.sl 3 []] x.Movers k))]) (fun k=>x.Movers.length - k) 0 (by simp) (by apply yj <;> simp [yab,Obj.leO]) ?_
 rintro k hk
 rcases Nat.lt_or_ge k x.Movers.length with hlt | hge
 ·obtain ⟨e,he⟩ : ∃ e,x.Movers[k]? = some e:=⟨_,List.getElem?_eq_getElem hlt⟩
  have hs:=yaj (f:=yax) (z:=[.sl 3 []]) he
  have hd : ((partly yax [.sl 3 []] x.Movers k)[k]?.getD []).set 0 (.ot 3 (e.map Mover.yI)) = yax e:=by
   have:=ydK (f:=yax) (z:=[.sl 3 []]) (n:=1) rfl (fun _=>rfl) hlt
   obtain ⟨y,hy⟩:=List.length_eq_one_iff.1 this
   rw [hy]; rfl
  simp -dsimp -implicitDefEqProofs [he,yG hlt]
  refine yQ (ysV e (s4.2 e (List.mem_of_getElem? he))) (by simp) (ybn Mover.yad _ _) (by simp [yU]) ?_
  simp -dsimp -implicitDefEqProofs [yG hlt,yak hk,yt,setAt,hd,hs]
  exact ⟨hlt,yw hlt hlen,k + 1,hlt,by omega,by apply yj <;> simp [Obj.leO]⟩
 have hke : k = x.Movers.length:=by omega
 subst hke
 simp -dsimp -implicitDefEqProofs [yam (Nat.le_refl _),yt]
 refine yQ (ykW x.Arrived s5) (by simp) (ybn Train.yad _ _) (by simp [yU]) ?_
 simp -dsimp -implicitDefEqProofs [yt]
 refine yQ (yk9 x.Entered s6.1) (by simp ) (by simp [AV.closed,AV.ya7,C.closed]) (by simp [yU]) ?_
 simp -dsimp -implicitDefEqProofs [yt]
 refine yQ (ysT x.Tariff s7) (by simp) (yb5 (Tariff.yad _)) (by simp [yU]) ?_
 simp -dsimp -implicitDefEqProofs [yt]
 refine yQ (yz5 x.Book s8.1) (by simp ) (by simp [AV.closed,AV.ya7,C.closed]) (by simp [yU]) ?_
 simp -dsimp -implicitDefEqProofs [yt]
 intro hlen2
 refine yfV (k0:=4) 6 4 (by simp) (by simp) (by decide) ?_
 refine yg (ι:=Nat) (fun k=>k ≤ x.Passings.length) (fun k=>yO [(1,.box 1 0),(2,.box 2 0),(6,.own 6 4 k),(58,.c (.sl 4 (x.Passings.map Passing.enc))),(59,.c (.i x.Passings.length)),(60,.c (.i k))] [(1,.box [.c (.i x.Time),.own 11 3 x.Reaches.length,.own 15 2 x.Ways.length,.own 19 22 x.Works.length,.own 24 1 x.Movers.length,.own 43 2 x.Arrived.length,.own 47 1 x.Entered.length,.c (.i x.Tariff.Base),.c (.i x.Tariff.PerArea),.own 30051 1 x.Tariff.PerClass.length,.own 40051 1 x.Tariff.Weights.length,.own 55 5 x.Book.length,.c (.sl 4 (x.Passings.map Passing.enc)),.c (.i x.Start),.c (.i x.In),.c (.i x.Out)]),(2,.box [.c (.i 0),.nil 3,.nil 2,.nil 22,.nil 1,.nil 2,.nil 1,.c (.i 0),.c (.i 0),.nil 1,.nil 1,.nil 5,.nil 4,.c (.i 0),.c (.i 0),.c (.i 0)]),(11,.tr 3 0 (x.Reaches.map Reach.yI)),(15,.row 2 (x.Ways.map Way.enc)),(19,.tr 22 0 (x.Works.map Work.yI)),(24,.tr 1 0 (x.Movers.map yax)),(43,.tr 2 0 (x.Arrived.map Train.yI)),(47,.row 1 (x.Entered.map yJ)),(30051,.row 1 (x.Tariff.PerClass.map yJ)),(40051,.row 1 (x.Tariff.Weights.map yJ)),(55,.row 5 (x.Book.map Entry.enc)),(6,.tr 4 0 ((x.Passings.take k).map Passing.yI))]) (fun k=>x.Passings.length - k) 0 (by simp) (by apply yj <;> simp [Obj.leO]) ?_
 rintro k hk2
 rcases Nat.lt_or_ge k x.Passings.length with hlt | hge2
 ·obtain ⟨e,he⟩ : ∃ e,x.Passings[k]? = some e:=⟨_,List.getElem?_eq_getElem hlt⟩
  have hs : x.Passings.take (k + 1) = x.Passings.take k ++ [e]:=by rw [List.take_succ,he]; rfl
  have he2:=s9.2 e (List.mem_of_getElem? he)
  have g1:=(List.getElem?_eq_some_iff.1 he).2
  simp -dsimp -implicitDefEqProofs [he,g1,hlt,yG hlt]
  refine yfW (ygJ e.Train he2) (by simp) (yb5 (Train.yad e.Train)) (by simp [yU]) ?_
  simp -dsimp -implicitDefEqProofs [yt,Nat.min_eq_left hk2,yeh]
  refine ⟨by omega,yw hlt hlen2,k + 1,hlt,by omega,?_⟩
  have hs2 : (x.Passings.map Passing.yI).take (k + 1) = (x.Passings.map Passing.yI).take k ++ [Passing.yI e]:=by rw [← List.map_take,← List.map_take,hs,List.map_append]; rfl
  apply yj <;> simp [Obj.leO,hs2]
 have hke2 : k = x.Passings.length:=by omega
 subst hke2
 simp -dsimp -implicitDefEqProofs [yt]
def yacu (W : Int) (k : Nat) (a : Int × Int × Int) (t : Train) : Int × Int × Int :=
 if 0 < k ∧ a.2.1 + yR6 t ≤ W then (a.1,a.2.1 + yR6 t,if a.2.2 < yR1 t then yR1 t else a.2.2)
 else (a.1 + a.2.2,yR6 t,yR1 t)
def chTo (W : Int) (l : List Train) : Nat → Int × Int × Int
 | 0=>(0,0,0)
 | k + 1=>match l[k]? with
  | some t=>yacu W k (chTo W l k) t
  | none=>chTo W l k
def yaat (L W : Int) (l : List Train) : Bool:=Distinct l && l.all (fun t=>decide (yR6 t ≤ W)) && decide ((chTo W l l.length).1 + (chTo W l l.length).2.2 ≤ L)
theorem yacl {W : Int} {l : List Train} {k : Nat} {t : Train} (h : l[k]? = some t) : chTo W l (k + 1) = yacu W k (chTo W l k) t:=by
 simp only [chTo,h]
theorem yadv {W : Int} {l : List Train} : ∀ k : Nat,(0 ≤ (chTo W l k).1 ∧ (chTo W l k).1 ≤ 1200 * k) ∧ (0 ≤ (chTo W l k).2.1 ∧ (chTo W l k).2.1 ≤ 180 * k) ∧ (0 ≤ (chTo W l k).2.2 ∧ (chTo W l k).2.2 ≤ 1200)
 | 0=>by simp [chTo]
 | k + 1=>by
  have ih:=yadv (W:=W) (l:=l) k
  cases h : l[k]? with
  | none=>simp only [chTo,h]; omega
  | some t =>
   have h1:=yT5 t
   have h2:=yTV t
   rw [yacl h]
   unfold yacu
   split
   ·simp only
    refine ⟨by omega,by omega,?_⟩
    split <;> omega
   ·simp only; omega
theorem yadJ {L W : Int} {l : List Train} (h : Distinct l = false) : yaat L W l = false:=by simp [yaat,h]
theorem yacA {L W : Int} {l : List Train} {k : Nat} {t : Train} (h : l[k]? = some t) (hw : W < yR6 t) : yaat L W l = false:=by
 have : l.all (fun t=>decide (yR6 t ≤ W)) = false:=all_false (p:=fun t=>decide (yR6 t ≤ W)) h (by simp; omega)
 simp only [yaat,this,Bool.and_false,Bool.false_and]
theorem yaax (l : List Train) (e : Lock) (hs : ybV l) : yB Tryz.prog 68 [.agg (e.enc.map .c),.c (.sl 2 (l.map Train.enc))] (.c (.b (yaat e.Length e.Width l))):=by
 refine yh yaaU ?_
 simp -dsimp -implicitDefEqProofs
 refine yc (ymr l hs) ?_
 cases hd : Distinct l with
 | false=>simp -dsimp -implicitDefEqProofs; exact yadJ hd
 | true =>
 have h8 : l.length ≤ 8:=by simp only [Distinct,Bool.and_eq_true,decide_eq_true_eq] at hd; exact hd.1.1
 simp -dsimp -implicitDefEqProofs
 intro hlen
 refine yg (ι:=Nat) (fun k=>k ≤ l.length ∧ ∀ t ∈ l.take k,decide (yR6 t ≤ e.Width) = true) (fun k=>yO [(2,.box 2 0),(5,.c (.i (chTo e.Width l k).1)),(6,.c (.i (chTo e.Width l k).2.1)),(7,.c (.i (chTo e.Width l k).2.2)),(15,.c (.sl 2 (l.map Train.enc))),(16,.c (.i l.length)),(17,.c (.i k))] [(2,.box (e.enc.map .c))]) (fun k=>l.length - k) 0 (by simp) (by apply yj <;> simp [chTo]) ?_
 rintro k ⟨hk,hall⟩
 have hin:=yadv (W:=e.Width) (l:=l) k
 rcases Nat.lt_or_ge k l.length with hlt | hge
 ·obtain ⟨t,ht⟩ : ∃ t,l[k]? = some t:=⟨_,List.getElem?_eq_getElem hlt⟩
  have hts:=hs.2 t (List.mem_of_getElem? ht)
  have h1:=yT5 t
  have h2:=yTV t
  have e1:=yacl (W:=e.Width) ht
  simp -dsimp -implicitDefEqProofs [ht,yG hlt]
  refine yaC (yTU t hts) ?_
  simp -dsimp -implicitDefEqProofs
  refine yaC (yTJ t hts) ?_
  simp -dsimp -implicitDefEqProofs
  refine ⟨fun hw=>(yacA ht hw),fun hw=>?_⟩
  have hall':=yL (p:=fun t=>decide (yR6 t ≤ e.Width)) ht hall (by simpa using hw)
  unfold yacu at e1
  have hall2 : ∀ x ∈ l.take (k + 1),yR6 x ≤ e.Width:=by simpa using hall'
  refine ⟨fun hk0=>⟨by unfold inI; omega,fun hf=>?_,fun hf=>?_⟩,fun hk0=>?_⟩
  ·have e2:=e1.trans (if_pos ⟨hk0,hf⟩)
   refine ⟨by unfold inI; omega,yw hlt hlen,k + 1,⟨hlt,hall2⟩,by omega,?_⟩
   apply yj <;> simp [e2]
  ·have e2:=e1.trans (if_neg (fun h=>by omega))
   refine ⟨by unfold inI; omega,yw hlt hlen,k + 1,⟨hlt,hall2⟩,by omega,?_⟩
   apply yj <;> simp [e2]
  ·have e2:=e1.trans (if_neg (fun h=>by omega))
   refine ⟨by unfold inI; omega,yw hlt hlen,k + 1,⟨hlt,hall2⟩,by omega,?_⟩
   apply yj <;> simp [e2]
 ·have hall2:=yX (p:=fun t=>decide (yR6 t ≤ e.Width)) hge hall
  have : k = l.length:=by omega
  subst this
  simp -dsimp -implicitDefEqProofs
  refine ⟨by unfold inI; omega,?_⟩
  have ha : l.all (fun t=>decide (yR6 t ≤ e.Width)) = true:=hall2
  simp only [yaat,hd,ha,Bool.true_and]
def yacw (a b : Reach) (w : Work) (c : CallT) : Int:=if c.Train.Up then yal b - w.Lock.SillBelow else yal a - w.Lock.SillAbove
def yaaC (a b : Reach) (w : Work) (c : CallT) : Bool:=decide (yPe c.Train ≤ yacw a b w c) && yaat w.Lock.Length w.Lock.Width [c.Train]
def able (a b : Reach) (w : Work) : List CallT:=w.Calls.filter (yaaC a b w)
def yaas (a b : Reach) (w : Work) (k : Nat) : List CallT:=(w.Calls.take k).filter (yaaC a b w)
theorem yacH {a b : Reach} {w : Work} {k : Nat} {c : CallT} (h : w.Calls[k]? = some c) : yaas a b w (k + 1) = yaas a b w k ++ (if yaaC a b w c then [c] else []):=by
 unfold yaas
 rw [List.take_succ,h,List.filter_append]
 cases hc : yaaC a b w c <;> simp [hc]
theorem yada {a b : Reach} {w : Work} {k : Nat} (h : w.Calls.length ≤ k) : yaas a b w k = able a b w:=by
 unfold yaas able; rw [List.take_of_length_le h]
theorem yacW {a b : Reach} {w : Work} {k : Nat} : (yaas a b w k).length ≤ w.Calls.length:=by
 have:=List.length_filter_le (yaaC a b w) (w.Calls.take k)
 rw [List.length_take] at this
 unfold yaas; omega
structure SillOk (w : Work) : Prop where
 a : 0 ≤ w.Lock.SillAbove ∧ w.Lock.SillAbove ≤ 100000
 b : 0 ≤ w.Lock.SillBelow ∧ w.Lock.SillBelow ≤ 100000
theorem yaeE {w : Work} (h : ybd w = true) : SillOk w:=by
 simp only [ybd,ybg,Bool.and_eq_true] at h
 exact ⟨yF.1 h.1.1.1.1.1.1.1.1.1.1.1.1.1.2,yF.1 h.1.1.1.1.1.1.1.1.1.1.1.1.2⟩
theorem yaed {t : Train} (h : t.small) : ybV [t]:=⟨by simp,fun x hx=>by simp at hx; rw [hx]; exact h⟩
set_option maxRecDepth 20000 in
theorem yaex (x : Waterway) (k : Nat) (w : Work) (a b : Reach) (hs : Work.small w) (hw : x.Works[k]? = some w) (ha : x.Reaches[k]? = some a) (hb : x.Reaches[k + 1]? = some b) (hsill : SillOk w) (hrl : x.Reaches.length ≤ 1048576) :
 yB Tryz.prog 30 [.agg (x.enc.map .c),.c (.i k)] (.c (.sl 4 ((able a b w).map CallT.enc))):=by
 have kw:=(List.getElem?_eq_some_iff.1 hw).1
 have ka:=(List.getElem?_eq_some_iff.1 ha).1
 have kb:=(List.getElem?_eq_some_iff.1 hb).1
 have gw:=(List.getElem?_eq_some_iff.1 hw).2
 have ga:=(List.getElem?_eq_some_iff.1 ha).2
 have gb:=(List.getElem?_eq_some_iff.1 hb).2
 obtain ⟨q1,q2⟩:=hsill
 have la:=yQo a
 have lb:=yQo b
 have hc1:=hs.2.2.1
 refine yh yacO ?_
 simp -dsimp -implicitDefEqProofs [yabt,hw,gw,kw,yG kw]
 simp -dsimp -implicitDefEqProofs [ha,ga,ka,yG ka]
 refine yaC (yel a) ?_
 simp -dsimp -implicitDefEqProofs
 refine ⟨by unfold inI; omega,by unfold inI; omega,by omega,by omega,?_⟩
 simp -dsimp -implicitDefEqProofs [hb,gb]
 refine yaC (yel b) ?_
 simp -dsimp -implicitDefEqProofs
 refine ⟨by unfold inI; omega,fun hlen=>?_⟩
 refine ymd (k0:=4) 8 4 (by simp) (by simp) (by decide) ?_
 refine yg (ι:=Nat) (fun i=>i ≤ w.Calls.length) (fun i=>yO [(2,.box 2 0),(5,.box 5 0),(6,.c (.i (yal a - w.Lock.SillAbove))),(7,.c (.i (yal b - w.Lock.SillBelow))),(8,.own 8 4 (yaas a b w i).length),(39,.c (.sl 4 (w.Calls.map CallT.enc))),(40,.c (.i w.Calls.length)),(41,.c (.i i))] [(2,.box (x.enc.map .c)),(5,.box (w.enc.map .c)),(8,.row 4 ((yaas a b w i).map CallT.enc))]) (fun i=>w.Calls.length - i) 0 (by simp) (by apply yj <;> simp [yaas]) ?_
 rintro i hi
 have hil:=yacW (a:=a) (b:=b) (w:=w) (k:=i)
 rcases Nat.lt_or_ge i w.Calls.length with hlt | hge
 ·obtain ⟨c,hc⟩ : ∃ c,w.Calls[i]? = some c:=⟨_,List.getElem?_eq_getElem hlt⟩
  have g1:=(List.getElem?_eq_some_iff.1 hc).2
  have hcs:=hs.2.2.2 c (List.mem_of_getElem? hc)
  have e1:=yacH (a:=a) (b:=b) hc
  have hd:=yQf c.Train
  have fin : ∀ {z : Int},z = yacw a b w c → yaaC a b w c = (decide (yPe c.Train ≤ z) && yaat w.Lock.Length w.Lock.Width [c.Train]):=fun h=>by rw [h]; rfl
  cases hu : c.Train.Up with
  | true =>
   have fin:=fin (z:=yal b - w.Lock.SillBelow) (by unfold yacw; rw [if_pos hu])
   simp -dsimp -implicitDefEqProofs [hc,g1,hlt,yG hlt,hu]
   refine yaQ (yPU c.Train hcs) (by simp [hu]) rfl ?_
   simp -dsimp -implicitDefEqProofs
   refine ⟨fun hd1=>?_,fun hd1=>?_⟩
   ·have hff:=yaax [c.Train] w.Lock (yaed hcs)
    refine yaQ (hff) (by simp [hu]) rfl ?_
    cases hf : yaat w.Lock.Length w.Lock.Width [c.Train] with
    | true =>
     have e2 : yaaC a b w c = true:=by rw [fin]; simp [hd1,hf]
     rw [e2] at e1
     simp -dsimp -implicitDefEqProofs [hu]
     refine ⟨by omega,yw hlt hlen,i + 1,hlt,by omega,?_⟩
     apply yj <;> simp [e1,hu]
    | false =>
     have e2 : yaaC a b w c = false:=by rw [fin]; simp [hf]
     rw [e2] at e1
     simp -dsimp -implicitDefEqProofs
     refine ⟨yw hlt hlen,i + 1,hlt,by omega,?_⟩
     apply yj <;> simp [e1]
   ·have e2 : yaaC a b w c = false:=by
     have : ¬ yPe c.Train ≤ yal b - w.Lock.SillBelow:=by omega
     rw [fin]; simp [this]
    rw [e2] at e1
    refine ⟨yw hlt hlen,i + 1,hlt,by omega,?_⟩
    apply yj <;> simp [e1]
  | false =>
   have fin:=fin (z:=yal a - w.Lock.SillAbove) (by unfold yacw; rw [if_neg (by simp [hu])])
   simp -dsimp -implicitDefEqProofs [hc,g1,hlt,yG hlt,hu]
   refine yaQ (yPU c.Train hcs) (by simp [hu]) rfl ?_
   simp -dsimp -implicitDefEqProofs
   refine ⟨fun hd1=>?_,fun hd1=>?_⟩
   ·have hff:=yaax [c.Train] w.Lock (yaed hcs)
    refine yaQ (hff) (by simp [hu]) rfl ?_
    cases hf : yaat w.Lock.Length w.Lock.Width [c.Train] with
    | true =>
     have e2 : yaaC a b w c = true:=by rw [fin]; simp [hd1,hf]
     rw [e2] at e1
     simp -dsimp -implicitDefEqProofs [hu]
     refine ⟨by omega,yw hlt hlen,i + 1,hlt,by omega,?_⟩
     apply yj <;> simp [e1,hu]
    | false =>
     have e2 : yaaC a b w c = false:=by rw [fin]; simp [hf]
     rw [e2] at e1
     simp -dsimp -implicitDefEqProofs
     refine ⟨yw hlt hlen,i + 1,hlt,by omega,?_⟩
     apply yj <;> simp [e1]
   ·have e2 : yaaC a b w c = false:=by
     have : ¬ yPe c.Train ≤ yal a - w.Lock.SillAbove:=by omega
     rw [fin]; simp [this]
    rw [e2] at e1
    refine ⟨yw hlt hlen,i + 1,hlt,by omega,?_⟩
    apply yj <;> simp [e1]
 ·simp -dsimp -implicitDefEqProofs [yaB hge]
  rw [yada hge]
  exact yt.symm
structure WorkAt (x : Waterway) (k : Nat) (w : Work) (a b : Reach) : Prop where
 hw : x.Works[k]? = some w
 ha : x.Reaches[k]? = some a
 hb : x.Reaches[k + 1]? = some b
 ok : ybd w = true
 wl : x.Works.length + 1 = x.Reaches.length
theorem yaeC {x : Waterway} {k : Nat} (h : yar x = true) (hk : k < x.Works.length) : ∃ w a b,WorkAt x k w a b:=by
 simp only [yar,Bool.and_eq_true] at h
 obtain ⟨⟨⟨⟨⟨⟨⟨h1,h2⟩,h3⟩,h4⟩,h5⟩,h6⟩,h7⟩,h8⟩:=h
 simp only [ybi,Bool.and_eq_true,decide_eq_true_eq,List.all_eq_true] at h2
 obtain ⟨⟨⟨⟨⟨⟨p1,p2⟩,p3⟩,p4⟩,p5⟩,p6⟩,p7⟩:=h2
 have e1 : x.Works[k]? = some x.Works[k]:=List.getElem?_eq_getElem hk
 exact ⟨x.Works[k],x.Reaches[k]'(by omega),x.Reaches[k + 1]'(by omega),e1,List.getElem?_eq_getElem _,List.getElem?_eq_getElem _,p7 _ (List.mem_of_getElem? e1),p5⟩
theorem ymv (e : Reach) (hl : Reach.small e) : ybh Tryz.prog 126 [.agg (e.enc.map .c)] (.agg (e.yI.map .c)):=by
 have h1:=hl.1.1
 have h2:=hl.2.1
 refine yan yoO ?_
 simp -dsimp -implicitDefEqProofs [yi7,yt]
 exact ⟨by omega,by omega⟩
theorem ybo (e : Reach) (hl : Reach.small e) : yB Tryz.prog 126 [.agg (e.enc.map .c)] (.agg (e.enc.map .c)):=(ymv e hl).pure (by simp [AV.shr,AV.ysI,ybQ,C.shr])
theorem yxF (e : Mover) (hl : Mover.small e) : yB Tryz.prog 128 [.agg (e.enc.map .c)] (.agg (e.enc.map .c)):=by
 refine yh yp1 ?_
 simp -dsimp -implicitDefEqProofs
 refine yY (ygX e.Train hl) ?_
 simp -dsimp -implicitDefEqProofs
set_option maxRecDepth 20000 in
theorem yxT (e : Lock) (hl : Lock.small e) : yB Tryz.prog 168 [.agg (e.enc.map .c)] (.agg (e.enc.map .c)):=by
 have hl1:=hl.1
 have hsm:=hl.2
 refine yh ypn ?_
 simp -dsimp -implicitDefEqProofs
 refine yg (ι:=Nat) (fun k=>k ≤ e.Inside.length) (fun k=>yO [(1,.box 1 0),(2,.box 2 0),(3,.own 5 2 k),(4,.c (.i k))] [(1,.box [.c (.i e.Length),.c (.i e.Width),.c (.i e.SillAbove),.c (.i e.SillBelow),.c (.i e.Base),.c (.i e.Area),.c (.i e.Rate),.c (.i e.Water),.c (.i e.Gate),.c (.sl 2 (e.Inside.map Train.enc))]),(2,.box [.c (.i 0),.c (.i 0),.c (.i 0),.c (.i 0),.c (.i 0),.c (.i 0),.c (.i 0),.c (.i 0),.c (.i 0),.nil 2]),(5,.row 2 ((e.Inside.take k).map Train.enc))]) (fun k=>e.Inside.length - k) 0 (by simp) (by apply yj <;> simp [Obj.leO]) ?_
 rintro k hk
 rcases Nat.lt_or_ge k e.Inside.length with klt | kge
 ·obtain ⟨e1,he⟩ : ∃ e1,e.Inside[k]? = some e1:=⟨_,List.getElem?_eq_getElem klt⟩
  have he2:=hsm e1 (List.mem_of_getElem? he)
  have g1:=(List.getElem?_eq_some_iff.1 he).2
  have hs2 : (e.Inside.map Train.enc).take (k + 1) = (e.Inside.map Train.enc).take k ++ [Train.enc e1]:=by rw [List.take_succ,List.getElem?_map,he]; rfl
  simp -dsimp -implicitDefEqProofs [he,g1,klt,yG klt]
  intro hlen
  refine yS (ygX e1 he2) ?_
  simp -dsimp -implicitDefEqProofs [he,g1,klt,yG klt,yt,Nat.min_eq_left hk]
  refine ⟨by omega,yw klt hlen,k + 1,klt,by omega,?_⟩
  apply yj <;> simp [Obj.leO,hs2]
 have ek : k = e.Inside.length:=by omega
 subst ek
 simp -dsimp -implicitDefEqProofs [yt]
set_option maxRecDepth 20000 in
theorem yq8 (w : Work) (hl : Work.small w) : yB Tryz.prog 127 [.agg (w.enc.map .c)] (.agg (w.enc.map .c)):=by
 obtain ⟨s1,s2,s3⟩:=hl
 have hl1:=s3.1
 have hp1:=s2.1
 have hsm:=s3.2
 refine yh ykE ?_
 simp -dsimp -implicitDefEqProofs
 refine yS (yxT w.Lock s1) ?_
 simp -dsimp -implicitDefEqProofs [yt]
 refine ⟨by omega,?_⟩
 refine yg (ι:=Nat) (fun k=>k ≤ w.Calls.length) (fun k=>yO [(1,.box 1 0),(2,.box 2 0),(3,.box 3 0),(4,.c (.i k))] [(1,.box (w.enc.map .c)),(2,.box [.c (.i 0),.c (.i 0),.c (.i 0),.c (.i 0),.c (.i 0),.c (.i 0),.c (.i 0),.c (.i 0),.c (.i 0),.nil 2,.c (.i 0),.c (.i 0),.c (.i 0),.c (.i 0),.c (.i 0),.c (.i 0),.c (.i 0),.c (.i 0),.nil 2,.c (.b false),.c (.i 0),.nil 4]),(3,.box ((w.enc.map .c).set 18 (.own 11 2 w.Pauses.length) |>.set 21 (.own 16 4 k))),(11,.row 2 (w.Pauses.map Pause.enc)),(16,.row 4 ((w.Calls.take k).map CallT.enc))]) (fun k=>w.Calls.length - k) 0 (by simp) (by apply yj <;> simp [Obj.leO]) ?_
 rintro k hk
 rcases Nat.lt_or_ge k w.Calls.length with klt | kge
 ·obtain ⟨e1,he⟩ : ∃ e1,w.Calls[k]? = some e1:=⟨_,List.getElem?_eq_getElem klt⟩
  have he2:=hsm e1 (List.mem_of_getElem? he)
  have g1:=(List.getElem?_eq_some_iff.1 he).2
  have hs2 : (w.Calls.map CallT.enc).take (k + 1) = (w.Calls.map CallT.enc).take k ++ [CallT.enc e1]:=by rw [List.take_succ,List.getElem?_map,he]; rfl
  simp -dsimp -implicitDefEqProofs [he,g1,klt,yG klt]
  intro hlen
  refine yS (ygX e1.Train he2) ?_
  simp -dsimp -implicitDefEqProofs [he,g1,klt,yG klt,yt,Nat.min_eq_left hk]
  refine ⟨by omega,yw klt hlen,k + 1,klt,by omega,?_⟩
  apply yj <;> simp [Obj.leO,hs2]
 have ek : k = w.Calls.length:=by omega
 subst ek
 simp -dsimp -implicitDefEqProofs [yt]
def ybe (r : Reach) : Int:=if yR r then 1000000000 - yda r else 0
def yef (r : Reach) (a : Int) : Bool:=yR r && decide (0 ≤ a) && decide (a ≤ ybe r)
def ybp (r : Reach) (a : Int) : Reach :=
 if yef r a then (if r.Pipe.length = 0 then ⟨r.Table,r.Volume + a,r.Pipe⟩ else ⟨r.Table,r.Volume,r.Pipe.set (r.Pipe.length - 1) (r.Pipe.getD (r.Pipe.length - 1) 0 + a)⟩) else r
def yaak (r : Reach) : Reach :=
 if yR r && decide (0 < r.Pipe.length) then ⟨r.Table,r.Volume + r.Pipe.getD 0 0,r.Pipe.tail ++ [0]⟩ else r
theorem yos (r : Reach) : 0 ≤ ybe r ∧ ybe r ≤ 1000000000:=by
 unfold ybe
 split
 ·rename_i h; have:=(ydd h).rng; omega
 ·omega
theorem ylM (r : Reach) : yB Tryz.prog 151 [.agg (r.enc.map .c)] (.c (.i (ybe r))):=by
 refine yh yof ?_
 simp -dsimp -implicitDefEqProofs
 refine yc (yby r) ?_
 cases h : yR r with
 | false=>simp -dsimp -implicitDefEqProofs; simp [ybe,h]
 | true =>
 have f:=(ydd h).rng
 have ht : ygn r = yda r:=by simp [ygn,h]
 simp -dsimp -implicitDefEqProofs
 refine yc (ykM r) ?_
 simp -dsimp -implicitDefEqProofs [ht]
 refine ⟨by unfold inI; omega,?_⟩
 simp [ybe,h]
theorem yuD (r : Reach) (a : Int) (hl : r.small) : ybh Tryz.prog 111 [.agg (r.enc.map .c),.c (.i a)] (.agg ((ybp r a).yI.map .c)):=by
 refine yan yqS ?_
 simp -dsimp -implicitDefEqProofs
 refine yQ (ygB r hl) (by simp) (yb5 (Reach.yad r)) (by simp [yU]) ?_
 simp -dsimp -implicitDefEqProofs [yt]
 refine yc (yby r) ?_
 cases h : yR r with
 | false=>simp -dsimp -implicitDefEqProofs [yt]; simp [ybp,yef,h]
 | true =>
 have f:=ydd h
 have f1:=f.rng
 have hv:=yF.1 (show inRange r.Volume 0 1000000000 = true from f.vol)
 have hsp:=yos r
 have hlen12:=f.len
 have hno : ¬ (0 ≤ a ∧ a ≤ ybe r) → ybp r a = r:=fun hn=>by
  have : yef r a = false:=by
   simp only [yef,h,Bool.true_and,Bool.and_eq_false_iff,decide_eq_false_iff_not]; omega
  simp [ybp,this]
 have hyes : 0 ≤ a → a ≤ ybe r → yef r a = true:=fun h1 h2=>by simp [yef,h,h1,h2]
 simp -dsimp -implicitDefEqProofs
 refine ⟨fun h0=>?_,fun h0=>?_⟩
 rotate_left
 ·rw [hno (by omega)]; simp [yt]
 refine yc (ylM r) ?_
 simp -dsimp -implicitDefEqProofs
 refine ⟨fun h1=>?_,fun h1=>?_⟩
 ·rw [hno (by omega)]; simp [yt]
 have hc:=hyes h0 (by omega)
 intro _
 refine ⟨fun hp=>?_,fun hp=>?_⟩
 ·have e : ybp r a = ⟨r.Table,r.Volume + a,r.Pipe⟩:=by simp [ybp,hc,hp]
  rw [e]
  refine ⟨by unfold inI; omega,?_⟩
  simp [yt]
 ·have hpl : 0 < r.Pipe.length:=List.length_pos_iff.2 hp
  obtain ⟨v,hv2⟩ : ∃ v,r.Pipe[r.Pipe.length - 1]? = some v:=⟨_,List.getElem?_eq_getElem (by omega)⟩
  have hva:=yF.1 (show inRange v 0 1000000000 = true from f.amt v (List.mem_of_getElem? hv2))
  have hg : r.Pipe.getD (r.Pipe.length - 1) 0 = v:=by rw [List.getD_eq_getElem?_getD,hv2]; rfl
  have e : ybp r a = ⟨r.Table,r.Volume,r.Pipe.set (r.Pipe.length - 1) (v + a)⟩:=by
   have : ¬ r.Pipe.length = 0:=by omega
   simp only [ybp,hc,if_true,if_neg this,hg]
  rw [e]
  intro _
  refine ⟨by unfold inI; omega,by omega,by omega,by omega,?_⟩
  simp -dsimp -implicitDefEqProofs [hv2]
  refine ⟨by unfold inI; omega,by omega,by omega,by omega,yt.symm,?_⟩
  exact (List.take_of_length_le (by simp)).symm
theorem Reach.ysO (r : Reach) : (AV.agg (r.yI.map .c)).shr (.agg (r.enc.map .c)):=by simp [AV.shr,AV.ysI,ybQ,C.shr]
theorem ysb (r : Reach) (a : Int) (hl : r.small) : yB Tryz.prog 111 [.agg (r.enc.map .c),.c (.i a)] (.agg ((ybp r a).enc.map .c)):=(yuD r a hl).pure (Reach.ysO _)
theorem yagd (xs : List Int) (h : 0 < xs.length) : List.take xs.length (List.take xs.length (List.take (xs.length - 1) (xs.map yJ).tail) ++ ((xs.map yJ).drop (xs.length - 1)).set 0 (((List.take xs.length (List.take (xs.length - 1) (xs.map yJ).tail) ++ (xs.map yJ).drop (xs.length - 1))[xs.length - 1]?.getD []).set 0 (.i 0))) = (xs.map yJ).tail ++ [yJ 0]:=by
 have hl : ((xs.map yJ).tail).length = xs.length - 1:=by simp
 have hT : List.take xs.length (List.take (xs.length - 1) (xs.map yJ).tail) = (xs.map yJ).tail:=by
  rw [List.take_of_length_le (l:=(xs.map yJ).tail) (by omega),List.take_of_length_le (by omega)]
 obtain ⟨z,hz⟩ : ∃ z,xs.drop (xs.length - 1) = [z]:=List.length_eq_one_iff.1 (by simp; omega)
 have hd : (xs.map yJ).drop (xs.length - 1) = [yJ z]:=by rw [← List.map_drop,hz]; rfl
 rw [hT,hd,List.getElem?_append_right (by omega),hl]
 simp only [Nat.sub_self,List.getElem?_cons_zero,Option.getD_some,List.set_cons_zero]
 exact List.take_of_length_le (by rw [List.length_append,hl]; simp; omega)
theorem yafD (r : Reach) (hl : r.small) : ybh Tryz.prog 112 [.agg (r.enc.map .c)] (.agg ((yaak r).yI.map .c)):=by
 refine yan yafk ?_
 simp -dsimp -implicitDefEqProofs
 refine yQ (ygB r hl) (by simp) (yb5 (Reach.yad r)) (by simp [yU]) ?_
 simp -dsimp -implicitDefEqProofs [yt]
 intro hlen
 refine ⟨fun hp=>?_,fun hp=>?_⟩
 rotate_left
 ·simp [yaak,hp,yt]
 refine yc (yby r) ?_
 cases h : yR r with
 | false=>simp -dsimp -implicitDefEqProofs [yt]; simp [yaak,h]
 | true =>
 have f:=ydd h
 have hv:=yF.1 (show inRange r.Volume 0 1000000000 = true from f.vol)
 have hpl : 0 < r.Pipe.length:=List.length_pos_iff.2 hp
 obtain ⟨v,hv2⟩ : ∃ v,r.Pipe[0]? = some v:=⟨_,List.getElem?_eq_getElem hpl⟩
 have hva:=yF.1 (show inRange v 0 1000000000 = true from f.amt v (List.mem_of_getElem? hv2))
 have hfl : yaak r = ⟨r.Table,r.Volume + v,r.Pipe.tail ++ [0]⟩:=by
  have hg : r.Pipe.getD 0 0 = v:=by rw [List.getD_eq_getElem?_getD,hv2]; rfl
  simp only [yaak,h,decide_eq_true hpl,Bool.and_self,if_true,hg]
 have h12:=f.len
 rw [hfl]
 simp -dsimp -implicitDefEqProofs [hv2]
 exact ⟨hpl,by unfold inI; omega,by omega,fun _=>⟨by unfold inI; omega,by omega,by omega,by omega,yt.symm,(yagd r.Pipe hpl).symm⟩⟩
def em (l : List Mover) : List C:=[.ow 3 (l.map Mover.enc)]
def Waterway.yAY (e : Waterway) : List C:=[.i e.Time,.ow 3 (e.Reaches.map Reach.enc),.ow 2 (e.Ways.map Way.enc),.ow 22 (e.Works.map Work.enc),.ot 1 (e.Movers.map em),.ow 2 (e.Arrived.map Train.enc),.ow 1 (e.Entered.map yJ),.i e.Tariff.Base,.i e.Tariff.PerArea,.ow 1 (e.Tariff.PerClass.map yJ),.ow 1 (e.Tariff.Weights.map yJ),.ow 5 (e.Book.map Entry.enc),.ow 4 (e.Passings.map Passing.enc),.i e.Start,.i e.In,.i e.Out]
set_option maxRecDepth 20000 in
theorem yxC (x : Waterway) (hl : x.small) : ybh Tryz.prog 82 [.agg (x.enc.map .c)] (.agg (x.yAY.map .c)):=by
 obtain ⟨s1,s2,s3,s4,s5,s6,s7,s8,s9⟩:=hl
 have t1:=s1.1; have t2:=s2.1; have t3:=s3.1; have t4:=s4.1; have t5:=s5.1; have t6:=s6.1; have t8:=s8.1; have t9:=s9.1
 have t71:=s7.1; have t72:=s7.2
 refine yan ynX ?_
 simp -dsimp -implicitDefEqProofs
 refine yg (ι:=Nat) (fun k=>k ≤ x.Reaches.length) (fun k=>yO [(1,.box 1 0),(2,.box 2 0),(3,.box 3 0),(4,.c (.i k))] [(1,.box [.c (.i x.Time),.c (.sl 3 (x.Reaches.map Reach.enc)),.c (.sl 2 (x.Ways.map Way.enc)),.c (.sl 22 (x.Works.map Work.enc)),.c (.sl 1 (x.Movers.map yZ)),.c (.sl 2 (x.Arrived.map Train.enc)),.c (.sl 1 (x.Entered.map yJ)),.c (.i x.Tariff.Base),.c (.i x.Tariff.PerArea),.c (.sl 1 (x.Tariff.PerClass.map yJ)),.c (.sl 1 (x.Tariff.Weights.map yJ)),.c (.sl 5 (x.Book.map Entry.enc)),.c (.sl 4 (x.Passings.map Passing.enc)),.c (.i x.Start),.c (.i x.In),.c (.i x.Out)]),(2,.box [.c (.i 0),.nil 3,.nil 2,.nil 22,.nil 1,.nil 2,.nil 1,.c (.i 0),.c (.i 0),.nil 1,.nil 1,.nil 5,.nil 4,.c (.i 0),.c (.i 0),.c (.i 0)]),(3,.box [.c (.i x.Time),.own 13 3 k,.c (.sl 2 (x.Ways.map Way.enc)),.c (.sl 22 (x.Works.map Work.enc)),.c (.sl 1 (x.Movers.map yZ)),.c (.sl 2 (x.Arrived.map Train.enc)),.c (.sl 1 (x.Entered.map yJ)),.c (.i x.Tariff.Base),.c (.i x.Tariff.PerArea),.c (.sl 1 (x.Tariff.PerClass.map yJ)),.c (.sl 1 (x.Tariff.Weights.map yJ)),.c (.sl 5 (x.Book.map Entry.enc)),.c (.sl 4 (x.Passings.map Passing.enc)),.c (.i x.Start),.c (.i x.In),.c (.i x.Out)]),(13,.row 3 ((x.Reaches.take k).map Reach.enc))]) (fun k=>x.Reaches.length - k) 0 (by simp) (by apply yj <;> simp [Obj.leO]) ?_
 rintro k hk
 rcases Nat.lt_or_ge k x.Reaches.length with klt | kge
 ·obtain ⟨e1,he⟩ : ∃ e1,x.Reaches[k]? = some e1:=⟨_,List.getElem?_eq_getElem klt⟩
  have he2:=s1.2 e1 (List.mem_of_getElem? he)
  have g1:=(List.getElem?_eq_some_iff.1 he).2
  have hs2 : (x.Reaches.map Reach.enc).take (k + 1) = (x.Reaches.map Reach.enc).take k ++ [Reach.enc e1]:=by rw [List.take_succ,List.getElem?_map,he]; rfl
  simp -dsimp -implicitDefEqProofs [he,g1,klt,yG klt]
  intro hlen
  refine yY (ybo e1 he2) ?_
  simp -dsimp -implicitDefEqProofs [he,g1,klt,yG klt,yt,Nat.min_eq_left hk,yeh]
  refine ⟨by omega,yw klt hlen,k + 1,klt,by omega,?_⟩
  apply yj <;> simp [Obj.leO,hs2]
 have ek : k = x.Reaches.length:=by omega
 subst ek
 simp -dsimp -implicitDefEqProofs [yt]
 intro _
 refine ⟨by omega,?_⟩
 refine yg (ι:=Nat) (fun k=>k ≤ x.Works.length) (fun k=>yO [(1,.box 1 0),(2,.box 2 0),(3,.box 3 0),(5,.c (.i k))] [(1,.box [.c (.i x.Time),.c (.sl 3 (x.Reaches.map Reach.enc)),.c (.sl 2 (x.Ways.map Way.enc)),.c (.sl 22 (x.Works.map Work.enc)),.c (.sl 1 (x.Movers.map yZ)),.c (.sl 2 (x.Arrived.map Train.enc)),.c (.sl 1 (x.Entered.map yJ)),.c (.i x.Tariff.Base),.c (.i x.Tariff.PerArea),.c (.sl 1 (x.Tariff.PerClass.map yJ)),.c (.sl 1 (x.Tariff.Weights.map yJ)),.c (.sl 5 (x.Book.map Entry.enc)),.c (.sl 4 (x.Passings.map Passing.enc)),.c (.i x.Start),.c (.i x.In),.c (.i x.Out)]),(2,.box [.c (.i 0),.nil 3,.nil 2,.nil 22,.nil 1,.nil 2,.nil 1,.c (.i 0),.c (.i 0),.nil 1,.nil 1,.nil 5,.nil 4,.c (.i 0),.c (.i 0),.c (.i 0)]),(3,.box [.c (.i x.Time),.own 13 3 x.Reaches.length,.own 33 2 x.Ways.length,.own 38 22 k,.c (.sl 1 (x.Movers.map yZ)),.c (.sl 2 (x.Arrived.map Train.enc)),.c (.sl 1 (x.Entered.map yJ)),.c (.i x.Tariff.Base),.c (.i x.Tariff.PerArea),.c (.sl 1 (x.Tariff.PerClass.map yJ)),.c (.sl 1 (x.Tariff.Weights.map yJ)),.c (.sl 5 (x.Book.map Entry.enc)),.c (.sl 4 (x.Passings.map Passing.enc)),.c (.i x.Start),.c (.i x.In),.c (.i x.Out)]),(13,.row 3 (x.Reaches.map Reach.enc)),(33,.row 2 (x.Ways.map Way.enc)),(38,.row 22 ((x.Works.take k).map Work.enc))]) (fun k=>x.Works.length - k) 0 (by simp) (by apply yj <;> simp [Obj.leO]) ?_
 rintro k hk
 rcases Nat.lt_or_ge k x.Works.length with klt | kge
 ·obtain ⟨e1,he⟩ : ∃ e1,x.Works[k]? = some e1:=⟨_,List.getElem?_eq_getElem klt⟩
  have he2:=s3.2 e1 (List.mem_of_getElem? he)
  have g1:=(List.getElem?_eq_some_iff.1 he).2
  have hs2 : (x.Works.map Work.enc).take (k + 1) = (x.Works.map Work.enc).take k ++ [Work.enc e1]:=by rw [List.take_succ,List.getElem?_map,he]; rfl
  simp -dsimp -implicitDefEqProofs [he,g1,klt,yG klt]
  intro hlen
  refine yY (yq8 e1 he2) ?_
  simp -dsimp -implicitDefEqProofs [he,g1,klt,yG klt,yt,Nat.min_eq_left hk,yeh]
  refine ⟨by omega,yw klt hlen,k + 1,klt,by omega,?_⟩
  apply yj <;> simp [Obj.leO,hs2]
 have ek : k = x.Works.length:=by omega
 subst ek
 simp -dsimp -implicitDefEqProofs [yt]
 intro _
 refine yg (ι:=Nat) (fun k=>k ≤ x.Movers.length) (fun k=>yO [(1,.box 1 0),(2,.box 2 0),(3,.box 3 0),(6,.c (.i k))] [(1,.box [.c (.i x.Time),.c (.sl 3 (x.Reaches.map Reach.enc)),.c (.sl 2 (x.Ways.map Way.enc)),.c (.sl 22 (x.Works.map Work.enc)),.c (.sl 1 (x.Movers.map yZ)),.c (.sl 2 (x.Arrived.map Train.enc)),.c (.sl 1 (x.Entered.map yJ)),.c (.i x.Tariff.Base),.c (.i x.Tariff.PerArea),.c (.sl 1 (x.Tariff.PerClass.map yJ)),.c (.sl 1 (x.Tariff.Weights.map yJ)),.c (.sl 5 (x.Book.map Entry.enc)),.c (.sl 4 (x.Passings.map Passing.enc)),.c (.i x.Start),.c (.i x.In),.c (.i x.Out)]),(2,.box [.c (.i 0),.nil 3,.nil 2,.nil 22,.nil 1,.nil 2,.nil 1,.c (.i 0),.c (.i 0),.nil 1,.nil 1,.nil 5,.nil 4,.c (.i 0),.c (.i 0),.c (.i 0)]),(3,.box [.c (.i x.Time),.own 13 3 x.Reaches.length,.own 33 2 x.Ways.length,.own 38 22 x.Works.length,.own 58 1 k,.c (.sl 2 (x.Arrived.map Train.enc)),.c (.sl 1 (x.Entered.map yJ)),.c (.i x.Tariff.Base),.c (.i x.Tariff.PerArea),.c (.sl 1 (x.Tariff.PerClass.map yJ)),.c (.sl 1 (x.Tariff.Weights.map yJ)),.c (.sl 5 (x.Book.map Entry.enc)),.c (.sl 4 (x.Passings.map Passing.enc)),.c (.i x.Start),.c (.i x.In),.c (.i x.Out)]),(13,.row 3 (x.Reaches.map Reach.enc)),(33,.row 2 (x.Ways.map Way.enc)),(38,.row 22 (x.Works.map Work.enc)),(58,if k = 0 then .row 1 [] else .tr 1 0 ((x.Movers.take k).map em))]) (fun k=>x.Movers.length - k) 0 (by simp) (by apply yj <;> simp [Obj.leO]) ?_
 rintro k hk
 rcases Nat.lt_or_ge k x.Movers.length with klt | kge
 ·obtain ⟨l,hl⟩ : ∃ l,x.Movers[k]? = some l:=⟨_,List.getElem?_eq_getElem klt⟩
  have hls:=s4.2 l (List.mem_of_getElem? hl)
  have hll:=hls.1
  have g1:=(List.getElem?_eq_some_iff.1 hl).2
  have hs2 : (x.Movers.map em).take (k + 1) = (x.Movers.map em).take k ++ [em l]:=by rw [List.take_succ,List.getElem?_map,hl]; rfl
  simp -dsimp -implicitDefEqProofs [hl,g1,klt,yG klt]
  intro hlen
  generalize hZ : (if k = 0 then Obj.row 1 [] else .tr 1 0 ((x.Movers.map em).take k)) = Z
  have hz1 : Z.leO Z:=by rw [← hZ]; split <;> first | rfl | exact ⟨rfl,rfl⟩
  have hz2 : ∀ i,Z.kill i = Z:=by intro i; rw [← hZ]; split <;> rfl
  have hz3 : ∀ L,Z.ygy L = true:=by intro L; rw [← hZ]; split <;> rfl
  simp only [Obj.leO] at hz1
  simp only [Obj.ygy] at hz3
  refine yg (ι:=Nat) (fun i=>i ≤ l.length) (fun i=>yO [(1,.box 1 0),(2,.box 2 0),(3,.box 3 0),(6,.c (.i k)),(7,.own 67 3 i),(8,.c (.i i))] [(1,.box [.c (.i x.Time),.c (.sl 3 (x.Reaches.map Reach.enc)),.c (.sl 2 (x.Ways.map Way.enc)),.c (.sl 22 (x.Works.map Work.enc)),.c (.sl 1 (x.Movers.map yZ)),.c (.sl 2 (x.Arrived.map Train.enc)),.c (.sl 1 (x.Entered.map yJ)),.c (.i x.Tariff.Base),.c (.i x.Tariff.PerArea),.c (.sl 1 (x.Tariff.PerClass.map yJ)),.c (.sl 1 (x.Tariff.Weights.map yJ)),.c (.sl 5 (x.Book.map Entry.enc)),.c (.sl 4 (x.Passings.map Passing.enc)),.c (.i x.Start),.c (.i x.In),.c (.i x.Out)]),(2,.box [.c (.i 0),.nil 3,.nil 2,.nil 22,.nil 1,.nil 2,.nil 1,.c (.i 0),.c (.i 0),.nil 1,.nil 1,.nil 5,.nil 4,.c (.i 0),.c (.i 0),.c (.i 0)]),(3,.box [.c (.i x.Time),.own 13 3 x.Reaches.length,.own 33 2 x.Ways.length,.own 38 22 x.Works.length,.own 58 1 k,.c (.sl 2 (x.Arrived.map Train.enc)),.c (.sl 1 (x.Entered.map yJ)),.c (.i x.Tariff.Base),.c (.i x.Tariff.PerArea),.c (.sl 1 (x.Tariff.PerClass.map yJ)),.c (.sl 1 (x.Tariff.Weights.map yJ)),.c (.sl 5 (x.Book.map Entry.enc)),.c (.sl 4 (x.Passings.map Passing.enc)),.c (.i x.Start),.c (.i x.In),.c (.i x.Out)]),(13,.row 3 (x.Reaches.map Reach.enc)),(33,.row 2 (x.Ways.map Way.enc)),(38,.row 22 (x.Works.map Work.enc)),(58,Z),(67,.row 3 ((l.take i).map Mover.enc))]) (fun i=>l.length - i) 0 (by simp) (by apply yj <;> simp [Obj.leO,hz1,hz2,hz3]) ?_
  rintro i hi
  rcases Nat.lt_or_ge i l.length with ilt | ige
  ·obtain ⟨m,hm⟩ : ∃ m,l[i]? = some m:=⟨_,List.getElem?_eq_getElem ilt⟩
   have hms:=hls.2 m (List.mem_of_getElem? hm)
   have g2:=(List.getElem?_eq_some_iff.1 hm).2
   have hs3 : (l.map Mover.enc).take (i + 1) = (l.map Mover.enc).take i ++ [Mover.enc m]:=by rw [List.take_succ,List.getElem?_map,hm]; rfl
   simp -dsimp -implicitDefEqProofs [hl,hm,g1,g2,klt,yG klt,ilt,yG ilt]
   intro hlen2
   refine yS (yxF m hms) ?_
   simp -dsimp -implicitDefEqProofs [yt,Nat.min_eq_left hi]
   refine ⟨by omega,yw ilt hlen2,i + 1,ilt,by omega,?_⟩
   apply yj <;> simp [Obj.leO,hs3,hz1,hz2,hz3]
  have ei : i = l.length:=by omega
  subst ei
  simp -dsimp -implicitDefEqProofs [hl,g1,klt,yG klt,yt,hz2]
  intro _
  subst hZ
  rcases Nat.eq_zero_or_pos k with e0 | e0
  ·subst e0
   have hs3 : (x.Movers.map em).take 1 = [em l]:=by simpa using hs2
   simp -dsimp -implicitDefEqProofs [yt]
   refine ⟨by unfold inI; omega,1,klt,by omega,?_⟩
   apply yj <;> simp [Obj.leO,hs3,em]
  ·have hne : (k = 0) = False:=by simp; omega
   simp -dsimp -implicitDefEqProofs [hne,yt,Nat.min_eq_left hk]
   refine ⟨by omega,yw klt hlen,k + 1,klt,by omega,?_⟩
   apply yj <;> simp [Obj.leO,hs2,em]
 have ek : k = x.Movers.length:=by omega
 subst ek
 simp -dsimp -implicitDefEqProofs [yt]
 intro _
 have hif : (if x.Movers = [] then Obj.row 1 [] else .tr 1 0 (x.Movers.map em)) = (if x.Movers.length = 0 then Obj.row 1 [] else .tr 1 0 (x.Movers.map em)):=by cases x.Movers <;> simp
 generalize hZ : (if x.Movers.length = 0 then Obj.row 1 [] else .tr 1 0 (x.Movers.map em)) = Z at hif
 have hz1 : Z.leO Z:=by rw [← hZ]; split <;> first | rfl | exact ⟨rfl,rfl⟩
 have hz2 : ∀ i,Z.kill i = Z:=by intro i; rw [← hZ]; split <;> rfl
 have hz3 : ∀ L,Z.ygy L = true:=by intro L; rw [← hZ]; split <;> rfl
 simp only [Obj.leO] at hz1
 simp only [Obj.ygy] at hz3
 refine yg (ι:=Nat) (fun k=>k ≤ x.Arrived.length) (fun k=>yO [(1,.box 1 0),(2,.box 2 0),(3,.box 3 0),(9,.c (.i k))] [(1,.box [.c (.i x.Time),.c (.sl 3 (x.Reaches.map Reach.enc)),.c (.sl 2 (x.Ways.map Way.enc)),.c (.sl 22 (x.Works.map Work.enc)),.c (.sl 1 (x.Movers.map yZ)),.c (.sl 2 (x.Arrived.map Train.enc)),.c (.sl 1 (x.Entered.map yJ)),.c (.i x.Tariff.Base),.c (.i x.Tariff.PerArea),.c (.sl 1 (x.Tariff.PerClass.map yJ)),.c (.sl 1 (x.Tariff.Weights.map yJ)),.c (.sl 5 (x.Book.map Entry.enc)),.c (.sl 4 (x.Passings.map Passing.enc)),.c (.i x.Start),.c (.i x.In),.c (.i x.Out)]),(2,.box [.c (.i 0),.nil 3,.nil 2,.nil 22,.nil 1,.nil 2,.nil 1,.c (.i 0),.c (.i 0),.nil 1,.nil 1,.nil 5,.nil 4,.c (.i 0),.c (.i 0),.c (.i 0)]),(3,.box [.c (.i x.Time),.own 13 3 x.Reaches.length,.own 33 2 x.Ways.length,.own 38 22 x.Works.length,.own 58 1 x.Movers.length,.own 96 2 k,.c (.sl 1 (x.Entered.map yJ)),.c (.i x.Tariff.Base),.c (.i x.Tariff.PerArea),.c (.sl 1 (x.Tariff.PerClass.map yJ)),.c (.sl 1 (x.Tariff.Weights.map yJ)),.c (.sl 5 (x.Book.map Entry.enc)),.c (.sl 4 (x.Passings.map Passing.enc)),.c (.i x.Start),.c (.i x.In),.c (.i x.Out)]),(13,.row 3 (x.Reaches.map Reach.enc)),(33,.row 2 (x.Ways.map Way.enc)),(38,.row 22 (x.Works.map Work.enc)),(58,Z),(96,.row 2 ((x.Arrived.take k).map Train.enc))]) (fun k=>x.Arrived.length - k) 0 (by simp) (by apply yj <;> simp [Obj.leO,hif,hz1,hz2,hz3]) ?_
 rintro k hk
 rcases Nat.lt_or_ge k x.Arrived.length with klt | kge
 ·obtain ⟨e1,he⟩ : ∃ e1,x.Arrived[k]? = some e1:=⟨_,List.getElem?_eq_getElem klt⟩
  have he2:=s5.2 e1 (List.mem_of_getElem? he)
  have g1:=(List.getElem?_eq_some_iff.1 he).2
  have hs2 : (x.Arrived.map Train.enc).take (k + 1) = (x.Arrived.map Train.enc).take k ++ [Train.enc e1]:=by rw [List.take_succ,List.getElem?_map,he]; rfl
  simp -dsimp -implicitDefEqProofs [he,g1,klt,yG klt]
  intro hlen
  refine yY (ygX e1 he2) ?_
  simp -dsimp -implicitDefEqProofs [he,g1,klt,yG klt,yt,Nat.min_eq_left hk,yeh]
  refine ⟨by omega,yw klt hlen,k + 1,klt,by omega,?_⟩
  apply yj <;> simp [Obj.leO,hif,hz1,hz2,hz3,hs2]
 have ek : k = x.Arrived.length:=by omega
 subst ek
 simp -dsimp -implicitDefEqProofs [yt]
 intro _
 refine ⟨by omega,by omega,by omega,by omega,?_⟩
 refine yg (ι:=Nat) (fun k=>k ≤ x.Passings.length) (fun k=>yO [(1,.box 1 0),(2,.box 2 0),(3,.box 3 0),(10,.c (.i k))] [(1,.box [.c (.i x.Time),.c (.sl 3 (x.Reaches.map Reach.enc)),.c (.sl 2 (x.Ways.map Way.enc)),.c (.sl 22 (x.Works.map Work.enc)),.c (.sl 1 (x.Movers.map yZ)),.c (.sl 2 (x.Arrived.map Train.enc)),.c (.sl 1 (x.Entered.map yJ)),.c (.i x.Tariff.Base),.c (.i x.Tariff.PerArea),.c (.sl 1 (x.Tariff.PerClass.map yJ)),.c (.sl 1 (x.Tariff.Weights.map yJ)),.c (.sl 5 (x.Book.map Entry.enc)),.c (.sl 4 (x.Passings.map Passing.enc)),.c (.i x.Start),.c (.i x.In),.c (.i x.Out)]),(2,.box [.c (.i 0),.nil 3,.nil 2,.nil 22,.nil 1,.nil 2,.nil 1,.c (.i 0),.c (.i 0),.nil 1,.nil 1,.nil 5,.nil 4,.c (.i 0),.c (.i 0),.c (.i 0)]),(3,.box [.c (.i x.Time),.own 13 3 x.Reaches.length,.own 33 2 x.Ways.length,.own 38 22 x.Works.length,.own 58 1 x.Movers.length,.own 96 2 x.Arrived.length,.own 116 1 x.Entered.length,.c (.i x.Tariff.Base),.c (.i x.Tariff.PerArea),.own 121 1 x.Tariff.PerClass.length,.own 128 1 x.Tariff.Weights.length,.own 135 5 x.Book.length,.own 140 4 k,.c (.i x.Start),.c (.i x.In),.c (.i x.Out)]),(13,.row 3 (x.Reaches.map Reach.enc)),(33,.row 2 (x.Ways.map Way.enc)),(38,.row 22 (x.Works.map Work.enc)),(58,Z),(96,.row 2 (x.Arrived.map Train.enc)),(116,.row 1 (x.Entered.map yJ)),(121,.row 1 (x.Tariff.PerClass.map yJ)),(128,.row 1 (x.Tariff.Weights.map yJ)),(135,.row 5 (x.Book.map Entry.enc)),(140,.row 4 ((x.Passings.take k).map Passing.enc))]) (fun k=>x.Passings.length - k) 0 (by simp) (by apply yj <;> simp [Obj.leO,hif,hz1,hz2,hz3]) ?_
 rintro k hk
 rcases Nat.lt_or_ge k x.Passings.length with klt | kge
 ·obtain ⟨e1,he⟩ : ∃ e1,x.Passings[k]? = some e1:=⟨_,List.getElem?_eq_getElem klt⟩
  have he2:=s9.2 e1 (List.mem_of_getElem? he)
  have g1:=(List.getElem?_eq_some_iff.1 he).2
  have hs2 : (x.Passings.map Passing.enc).take (k + 1) = (x.Passings.map Passing.enc).take k ++ [Passing.enc e1]:=by rw [List.take_succ,List.getElem?_map,he]; rfl
  simp -dsimp -implicitDefEqProofs [he,g1,klt,yG klt]
  intro hlen
  refine yS (ygX e1.Train he2) ?_
  simp -dsimp -implicitDefEqProofs [he,g1,klt,yG klt,yt,Nat.min_eq_left hk,yeh]
  refine ⟨by omega,yw klt hlen,k + 1,klt,by omega,?_⟩
  apply yj <;> simp [Obj.leO,hif,hz1,hz2,hz3,hs2]
 have ek : k = x.Passings.length:=by omega
 subst ek
 simp -dsimp -implicitDefEqProofs [yt]
 intro _
 subst hZ
 by_cases e : x.Movers.length = 0
 ·have e2 : x.Movers = []:=List.length_eq_zero_iff.1 e
  simp [Waterway.yAY,e2,yt]
 ·simp [Waterway.yAY,e,yt]
def sent (q : Int) : List Reach → List Reach
 | []=>[]
 | r :: l=>ybp r q :: l
def yabS (x : Waterway) (q : Int) : Bool:=decide (q ≤ 1000000000 - x.Start - x.In)
def yaau (x : Waterway) (q : Int) : List Reach:=if yabS x q then sent q x.Reaches else x.Reaches
def yaaF (x : Waterway) (q : Int) : Bool:=yar x && !decide (x.Time = 1000000) && decide (0 ≤ q)
def yaah (x : Waterway) (q : Int) : Waterway :=
 if yaaF x q then ⟨x.Time + 1,(yaau x q).map yaak,x.Ways,x.Works,x.Movers,x.Arrived,x.Entered,x.Tariff,x.Book,x.Passings,x.Start,if yabS x q then x.In + q else x.In,x.Out⟩ else x
def yaay (rs : List Reach) (k : Nat) : List Reach:=(rs.take k).map yaak ++ rs.drop k
theorem yafy {rs : List Reach} : yaay rs 0 = rs:=by simp [yaay]
theorem yafH {rs : List Reach} {k : Nat} (h : rs.length ≤ k) : yaay rs k = rs.map yaak:=by
 unfold yaay; rw [List.take_of_length_le h,List.drop_eq_nil_of_le h,List.append_nil]
theorem yafG {rs : List Reach} {k : Nat} : (yaay rs k).length = rs.length:=by
 unfold yaay; simp; omega
theorem yafX {rs : List Reach} {k : Nat} (h : k < rs.length) : (yaay rs k)[k]? = rs[k]?:=by
 unfold yaay
 rw [List.getElem?_append_right (by simp; omega)]
 simp [Nat.min_eq_left (Nat.le_of_lt h)]
theorem yafF {rs : List Reach} {k : Nat} {r : Reach} (h : rs[k]? = some r) : (yaay rs k).set k (yaak r) = yaay rs (k + 1):=by
 have hlt:=(List.getElem?_eq_some_iff.1 h).1
 have hg:=(List.getElem?_eq_some_iff.1 h).2
 unfold yaay
 rw [List.take_succ,h,List.drop_eq_getElem_cons hlt,hg]
 have hl : ((rs.take k).map yaak).length = k:=by simp; omega
 rw [List.set_append_right _ _ (by omega),hl]
 simp
theorem yse {r : Reach} {a : Int} (h : r.small) : (ybp r a).small:=by
 unfold ybp
 split
 ·split
  ·exact h
  ·exact ⟨h.1,by simpa using h.2.1,fun _ _=>trivial⟩
 ·exact h
theorem yafn {r : Reach} (h : r.small) : (yaak r).small:=by
 unfold yaak
 split
 ·rename_i h2
  simp only [Bool.and_eq_true,decide_eq_true_eq] at h2
  refine ⟨h.1,?_,fun _ _=>trivial⟩
  have:=h.2.1
  simp; omega
 ·exact h
theorem yagb {q : Int} {l : List Reach} : (sent q l).length = l.length:=by cases l <;> rfl
theorem yaaS {x : Waterway} {q : Int} : (yaau x q).length = x.Reaches.length:=by unfold yaau; split <;> simp [yagb]
theorem yaeW {x : Waterway} {q : Int} (h : ycN x.Reaches) : ycN (yaau x q):=by
 refine ⟨by rw [yaaS]; exact h.1,fun r hr=>?_⟩
 unfold yaau at hr
 split at hr
 ·have h2:=h.2
  revert hr h2
  cases x.Reaches with
  | nil=>intro hr; simp [sent] at hr
  | cons a l =>
   intro hr h2
   simp only [sent,List.mem_cons] at hr
   rcases hr with rfl | hr
   ·exact yse (h2 a (by simp))
   ·exact h2 r (by simp [hr])
 ·exact h.2 r hr
theorem yabC {x : Waterway} {q : Int} (h : x.small) : (yaah x q).small:=by
 unfold yaah
 split
 ·obtain ⟨s1,s2⟩:=h
  have p:=yaeW (q:=q) s1
  refine ⟨⟨by simpa using p.1,fun r hr=>?_⟩,s2⟩
  obtain ⟨r0,h0,rfl⟩:=List.mem_map.1 hr
  exact yafn (p.2 r0 h0)
 ·exact h
theorem yyV (es : List Reach) (hl : es.length ≤ 1048576) : ybh Tryz.prog 105 [.c (.sl 3 (es.map Reach.enc))] (.c (.ow 3 (es.map Reach.enc))):=by
 refine yan yc6 ?_
 simp -dsimp -implicitDefEqProofs [ybw,yt]
 omega
theorem yafx {x : Waterway} (h : yar x = true) : ∃ r l,x.Reaches = r :: l:=by
 simp only [yar,ybi,Bool.and_eq_true,decide_eq_true_eq] at h
 obtain ⟨⟨⟨⟨⟨⟨⟨h1,h2⟩,h3⟩,h4⟩,h5⟩,h6⟩,h7⟩,h8⟩:=h
 have:=h2.1.1.1.1.1.2
 cases hx : x.Reaches with
 | nil=>rw [hx] at this; simp at this
 | cons r l=>exact ⟨r,l,rfl⟩
theorem yagt {x : Waterway} (h : yar x = true) : 0 ≤ x.Time ∧ x.Time ≤ 1000000:=by
 simp only [yar,Bool.and_eq_true] at h
 exact yF.1 h.1.1.1.1.1.1.1
def rsC (rs : List Reach) (k : Nat) : List (List C):=(yaay rs k).map Reach.enc
theorem yafO {rs : List Reach} {k : Nat} : (rsC rs k).length = rs.length:=by unfold rsC; rw [List.length_map,yafG]
theorem yagj {rs : List Reach} {k : Nat} {r : Reach} (h : rs[k]? = some r) : (rsC rs k)[k]? = some r.enc:=by
 unfold rsC; rw [List.getElem?_map,yafX (List.getElem?_eq_some_iff.1 h).1,h]; rfl
theorem yafS {rs : List Reach} {k : Nat} {r : Reach} (h : rs[k]? = some r) : (rsC rs k).set k (yaak r).enc = rsC rs (k + 1):=by
 unfold rsC; rw [← yafF h,List.map_set]
theorem yafu {rs : List Reach} : rsC rs 0 = rs.map Reach.enc:=by unfold rsC; rw [yafy]
theorem yafU {rs : List Reach} {k : Nat} (h : rs.length ≤ k) : rsC rs k = (rs.map yaak).map Reach.enc:=by unfold rsC; rw [yafH h]
theorem yacJ (r : Reach) (hl : r.small) : yB Tryz.prog 112 [.agg (r.enc.map .c)] (.agg ((yaak r).enc.map .c)):=(yafD r hl).pure (Reach.ysO _)
theorem yafp {x : Waterway} {q : Int} (h : yaaF x q = false) : yaah x q = x:=by simp [yaah,h]
set_option maxRecDepth 20000 in
theorem yagu (x : Waterway) (q : Int) (hl : x.small) : yB Tryz.prog 71 [.agg (x.enc.map .c),.c (.i q)] (.agg ((yaah x q).enc.map .c)):=by
 have hl0:=hl
 obtain ⟨s1,s2,s3,s4,s5,s6,s7,s8,s9⟩:=hl
 have s11:=s1.1
 refine yh yafB ?_
 simp -dsimp -implicitDefEqProofs
 refine yc (yns x hl0) ?_
 cases h : yar x with
 | false=>simp -dsimp -implicitDefEqProofs; simp [yafp,yaaF,h]
 | true =>
 have ht:=yagt h
 have hw:=yqj h
 obtain ⟨r0,rl,hrl⟩:=yafx h
 simp -dsimp -implicitDefEqProofs
 refine ⟨fun ht2=>?_,fun ht2=>?_⟩
 rotate_left
 ·rw [yafp (by simp [yaaF,ht2])]; simp
 refine ⟨fun hq=>?_,fun hq=>?_⟩
 ·have : ¬ 0 ≤ q:=by omega
  rw [yafp (by simp [yaaF,this])]; simp
 have hc : yaaF x q = true:=by simp [yaaF,h,ht2,hq]
 have w1:=hw.start; have w2:=hw.inn
 refine ⟨by unfold inI; omega,?_⟩
 refine yjo (yyV x.Reaches s11) (by simp) rfl (by simp [yU]) ?_
 simp -dsimp -implicitDefEqProofs [yt]
 refine ⟨by unfold inI; omega,by unfold inI; omega,fun hp=>?_,fun hp=>?_⟩
 ·have hpi : yabS x q = true:=by simp [yabS]; omega
  have hrs : yaau x q = ybp r0 q :: rl:=by simp [yaau,hpi,hrl,sent]
  have e : yaah x q = ⟨x.Time + 1,(yaau x q).map yaak,x.Ways,x.Works,x.Movers,x.Arrived,x.Entered,x.Tariff,x.Book,x.Passings,x.Start,x.In + q,x.Out⟩:=by simp [yaah,hc,hpi]
  rw [e]
  have h00 : x.Reaches[0]? = some r0:=by rw [hrl]; rfl
  have hg0 : 0 < x.Reaches.length:=by rw [hrl]; simp
  have hset0 : (x.Reaches.map Reach.enc).set 0 (ybp r0 q).enc = (yaau x q).map Reach.enc:=by rw [hrs,hrl]; rfl
  have hr0 : r0.small:=s1.2 r0 (by rw [hrl]; simp)
  simp only [Reach.enc] at hset0
  have g00:=(List.getElem?_eq_some_iff.1 h00).2
  simp -dsimp -implicitDefEqProofs [h00,g00,hg0]
  refine yY (ysb r0 q hr0) ?_
  simp -dsimp -implicitDefEqProofs [h00,g00,hg0,hset0]
  refine ⟨by unfold inI; omega,?_⟩
  intro hlen
  refine yg (ι:=Nat) (fun k=>k ≤ x.Reaches.length) (fun k=>yO [(2,.box 2 0),(4,.box 4 0),(5,.box 5 0),(53,.own 28 3 x.Reaches.length),(54,.c (.i x.Reaches.length)),(55,.c (.i k))] [(2,.box [.c (.i x.Time),.c (.sl 3 (x.Reaches.map Reach.enc)),.c (.sl 2 (x.Ways.map Way.enc)),.c (.sl 22 (x.Works.map Work.enc)),.c (.sl 1 (x.Movers.map yZ)),.c (.sl 2 (x.Arrived.map Train.enc)),.c (.sl 1 (x.Entered.map yJ)),.c (.i x.Tariff.Base),.c (.i x.Tariff.PerArea),.c (.sl 1 (x.Tariff.PerClass.map yJ)),.c (.sl 1 (x.Tariff.Weights.map yJ)),.c (.sl 5 (x.Book.map Entry.enc)),.c (.sl 4 (x.Passings.map Passing.enc)),.c (.i x.Start),.c (.i x.In),.c (.i x.Out)]),(4,.box [.c (.i 0),.nil 3,.nil 2,.nil 22,.nil 1,.nil 2,.nil 1,.c (.i 0),.c (.i 0),.nil 1,.nil 1,.nil 5,.nil 4,.c (.i 0),.c (.i 0),.c (.i 0)]),(5,.box [.c (.i (x.Time + 1)),.own 28 3 x.Reaches.length,.c (.sl 2 (x.Ways.map Way.enc)),.c (.sl 22 (x.Works.map Work.enc)),.c (.sl 1 (x.Movers.map yZ)),.c (.sl 2 (x.Arrived.map Train.enc)),.c (.sl 1 (x.Entered.map yJ)),.c (.i x.Tariff.Base),.c (.i x.Tariff.PerArea),.c (.sl 1 (x.Tariff.PerClass.map yJ)),.c (.sl 1 (x.Tariff.Weights.map yJ)),.c (.sl 5 (x.Book.map Entry.enc)),.c (.sl 4 (x.Passings.map Passing.enc)),.c (.i x.Start),.c (.i (x.In + q)),.c (.i x.Out)]),(28,.row 3 (rsC (yaau x q) k))]) (fun k=>x.Reaches.length - k) 0 (by simp) (by apply yj <;> simp [yafu]) ?_
  rintro k hk
  have hrl2 : (rsC (yaau x q) k).length = x.Reaches.length:=by rw [yafO,yaaS]
  rcases Nat.lt_or_ge k x.Reaches.length with klt | kge
  ·obtain ⟨r,hr⟩ : ∃ r,(yaau x q)[k]? = some r:=⟨_,List.getElem?_eq_getElem (by rw [yaaS]; exact klt)⟩
   have hrs2:=(yaeW (q:=q) s1).2 r (List.mem_of_getElem? hr)
   have hat:=yagj hr
   have hset:=yafS hr
   simp only [Reach.enc] at hat hset
   have hat2:=(List.getElem?_eq_some_iff.1 hat).2
   simp -dsimp -implicitDefEqProofs [hrl2,hat,hat2,klt,yG klt]
   refine yY (yacJ r hrs2) ?_
   simp -dsimp -implicitDefEqProofs [hrl2,hat,hat2,klt,yG klt,hset]
   refine ⟨yw klt hlen,k + 1,klt,by omega,?_⟩
   apply yj <;> simp [hset]
  ·have hall:=yafU (rs:=(yaau x q)) (k:=k) (by rw [yaaS]; exact kge)
   simp -dsimp -implicitDefEqProofs [yaB kge,hall]
   exact (List.take_of_length_le (by simp [yaaS])).symm
 ·have hpi : yabS x q = false:=by simp [yabS]; omega
  have hrs : yaau x q = x.Reaches:=by simp [yaau,hpi]
  have e : yaah x q = ⟨x.Time + 1,(yaau x q).map yaak,x.Ways,x.Works,x.Movers,x.Arrived,x.Entered,x.Tariff,x.Book,x.Passings,x.Start,x.In,x.Out⟩:=by simp [yaah,hc,hpi]
  rw [e,hrs]
  intro hlen
  refine yg (ι:=Nat) (fun k=>k ≤ x.Reaches.length) (fun k=>yO [(2,.box 2 0),(4,.box 4 0),(5,.box 5 0),(53,.own 28 3 x.Reaches.length),(54,.c (.i x.Reaches.length)),(55,.c (.i k))] [(2,.box [.c (.i x.Time),.c (.sl 3 (x.Reaches.map Reach.enc)),.c (.sl 2 (x.Ways.map Way.enc)),.c (.sl 22 (x.Works.map Work.enc)),.c (.sl 1 (x.Movers.map yZ)),.c (.sl 2 (x.Arrived.map Train.enc)),.c (.sl 1 (x.Entered.map yJ)),.c (.i x.Tariff.Base),.c (.i x.Tariff.PerArea),.c (.sl 1 (x.Tariff.PerClass.map yJ)),.c (.sl 1 (x.Tariff.Weights.map yJ)),.c (.sl 5 (x.Book.map Entry.enc)),.c (.sl 4 (x.Passings.map Passing.enc)),.c (.i x.Start),.c (.i x.In),.c (.i x.Out)]),(4,.box [.c (.i 0),.nil 3,.nil 2,.nil 22,.nil 1,.nil 2,.nil 1,.c (.i 0),.c (.i 0),.nil 1,.nil 1,.nil 5,.nil 4,.c (.i 0),.c (.i 0),.c (.i 0)]),(5,.box [.c (.i (x.Time + 1)),.own 28 3 x.Reaches.length,.c (.sl 2 (x.Ways.map Way.enc)),.c (.sl 22 (x.Works.map Work.enc)),.c (.sl 1 (x.Movers.map yZ)),.c (.sl 2 (x.Arrived.map Train.enc)),.c (.sl 1 (x.Entered.map yJ)),.c (.i x.Tariff.Base),.c (.i x.Tariff.PerArea),.c (.sl 1 (x.Tariff.PerClass.map yJ)),.c (.sl 1 (x.Tariff.Weights.map yJ)),.c (.sl 5 (x.Book.map Entry.enc)),.c (.sl 4 (x.Passings.map Passing.enc)),.c (.i x.Start),.c (.i x.In),.c (.i x.Out)]),(28,.row 3 (rsC x.Reaches k))]) (fun k=>x.Reaches.length - k) 0 (by simp) (by apply yj <;> simp [yafu]) ?_
  rintro k hk
  have hrl2 : (rsC x.Reaches k).length = x.Reaches.length:=yafO
  rcases Nat.lt_or_ge k x.Reaches.length with klt | kge
  ·obtain ⟨r,hr⟩ : ∃ r,x.Reaches[k]? = some r:=⟨_,List.getElem?_eq_getElem klt⟩
   have hrs2:=s1.2 r (List.mem_of_getElem? hr)
   have hat:=yagj hr
   have hset:=yafS hr
   simp only [Reach.enc] at hat hset
   have hat2:=(List.getElem?_eq_some_iff.1 hat).2
   simp -dsimp -implicitDefEqProofs [hrl2,hat,hat2,klt,yG klt]
   refine yY (yacJ r hrs2) ?_
   simp -dsimp -implicitDefEqProofs [hrl2,hat,hat2,klt,yG klt,hset]
   refine ⟨yw klt hlen,k + 1,klt,by omega,?_⟩
   apply yj <;> simp [hset]
  ·have hall:=yafU (rs:=x.Reaches) (k:=k) (by exact kge)
   simp -dsimp -implicitDefEqProofs [yaB kge,hall]
   exact (List.take_of_length_le (by simp [yaaS])).symm
theorem yME (f : Nat) (a b : List C) : InF Tryz.prog 189 (.c (.sl 1 [])) (.c (.sl 1 [])) [.c (.i 0),.c (.i 0),.fn f [.elt a,.elt b]] (.tup []):=by
 refine ybO yKZ (by simp) (by simp) rfl fun hwf=>?_
 simp -dsimp -implicitDefEqProofs
 refine ⟨by unfold inI; omega,?_⟩
 refine yg (ι:=Unit) (fun _=>True) (fun _=>yO [(2,.c (.i 0)),(8,.c (.i 1)),(1000000,.c (.sl 1 []))] []) (fun _=>0) () trivial (by apply yj <;> simp) ?_
 rintro _ _
 simp -dsimp -implicitDefEqProofs
 simp [yml]
theorem yM4 (f : Nat) (a b : List C) : InF Tryz.prog 174 (.c (.sl 1 [])) (.c (.sl 1 [])) [.c (.i 0),.fn f [.elt a,.elt b]] (.tup []):=by
 refine ybO yK5 (by simp) (by simp) rfl fun hwf=>?_
 simp -dsimp -implicitDefEqProofs
 refine yg (ι:=Unit) (fun _=>True) (fun _=>yO [(0,.c (.sl 1 [])),(1,.c (.i 0)),(2,.fn f [.elt a,.elt b]),(6,.c (.i 20)),(7,.c (.i 0)),(8,.c (.i 20)),(1000000,.c (.sl 1 []))] []) (fun _=>0) () trivial (by apply yj <;> simp) ?_
 rintro _ _
 simp -dsimp -implicitDefEqProofs
 refine ycW (up:=none) (yME f a b) (by simp) rfl rfl (yb6 rfl) ?_
 simp -dsimp -implicitDefEqProofs
 refine yg (ι:=Unit) (fun _=>True) (fun _=>yO [(1,.c (.i 0)),(6,.c (.i 20)),(1000000,.c (.sl 1 []))] []) (fun _=>0) () trivial (by apply yj <;> simp) ?_
 rintro _ _
 simp -dsimp -implicitDefEqProofs
 simp [yml]
theorem yMe (f : Nat) (a b : List C) : InF Tryz.prog 139 (.c (.sl 1 [])) (.c (.sl 1 [])) [.fn f [.elt a,.elt b]] (.tup []):=by
 refine ybO yK1 (by simp) (by simp) rfl fun hwf=>?_
 simp -dsimp -implicitDefEqProofs
 refine ycW (up:=none) (yM4 f a b) (by simp) rfl rfl (yb6 rfl) ?_
 simp -dsimp -implicitDefEqProofs
 simp [yml]
theorem yaga (now : Int) : ybh Tryz.prog 162 [.c (.sl 4 []),.c (.i now)] (.c (.ow 1 [])):=by
 refine yan yLJ ?_
 simp -dsimp -implicitDefEqProofs
 refine ymd (k0:=1) 5 1 (by simp) (by simp) (by decide) ?_
 refine yg (ι:=Unit) (fun _=>True) (fun _=>yO [(2,.box 2 0),(3,.box 3 0),(5,.own 5 1 0),(8,.c (.sl 4 [])),(9,.c (.i 0)),(10,.c (.i 0))] [(2,.box [.c (.sl 4 [])]),(3,.box [.c (.i now)]),(5,.row 1 [])]) (fun _=>0) () trivial (by apply yj <;> simp) ?_
 rintro _ _
 simp -dsimp -implicitDefEqProofs
 refine yMY (up:=some (5,.row 1 [])) (yMe _ _ _) ⟨yNu ⟨yMz (cs:=[.sl 4 []]) (by simp) (by simp [ydf]),yMz (cs:=[.i now]) (by simp) (by simp [ydf]),trivial⟩,trivial⟩ (by simp [C.closed]) rfl (ybY (rows:=[]) (by simp) rfl rfl (by simp) (by simp) rfl rfl) ?_
 simp -dsimp -implicitDefEqProofs
theorem yagr (t : Turn) (now : Int) : yB Tryz.prog 152 [.c (.sl 4 []),.agg (t.enc.map .c),.c (.i now)] (.tup [.c (.b false),.c (.b false)]):=by
 refine yh yaeY ?_
 simp -dsimp -implicitDefEqProofs
 refine yjo (yaga now) (by simp ) rfl (by simp [yU]) ?_
 simp -dsimp -implicitDefEqProofs
set_option maxRecDepth 20000 in
theorem yagk (x : Waterway) (k : Nat) (w : Work) (a b : Reach) (hs : Work.small w) (hw : x.Works[k]? = some w) (ha : x.Reaches[k]? = some a) (hb : x.Reaches[k + 1]? = some b) (hsill : SillOk w) (hrl : x.Reaches.length ≤ 1048576) (hc : w.Calls = []) (hi : w.Lock.Inside = []) :
 yB Tryz.prog 113 [.agg (x.enc.map .c),.c (.i k)] (.agg (x.enc.map .c)):=by
 have kw:=(List.getElem?_eq_some_iff.1 hw).1
 have gw:=(List.getElem?_eq_some_iff.1 hw).2
 have hA:=yaex x k w a b hs hw ha hb hsill hrl
 have hA0 : able a b w = []:=by unfold able; rw [hc]; rfl
 rw [hA0] at hA
 refine yh yaeM ?_
 simp -dsimp -implicitDefEqProofs [yaaX,hw,gw,kw,yG kw]
 refine yyA hA ?_
 simp -dsimp -implicitDefEqProofs [hi]
 refine yaC (yagr w.Turn x.Time) ?_
 simp -dsimp -implicitDefEqProofs [hi]
structure Idle (x : Waterway) : Prop where
 mv : ∀ l ∈ x.Movers,l = []
 wk : ∀ w ∈ x.Works,w.Calls = [] ∧ w.Lock.Inside = [] ∧ w.Lock.Gate = 0
set_option maxRecDepth 20000 in
theorem yagy (x : Waterway) (k : Nat) (hl : x.small) (hi : Idle x) : yB Tryz.prog 72 [.agg (x.enc.map .c),.c (.i k)] (.agg (x.enc.map .c)):=by
 refine yh yafI ?_
 simp -dsimp -implicitDefEqProofs
 refine yc (yns x hl) ?_
 cases h : yar x with
 | false=>simp -dsimp -implicitDefEqProofs
 | true =>
 simp -dsimp -implicitDefEqProofs
 intro hlen
 refine fun h1=>⟨h1,?_⟩
 obtain ⟨w,a,b,hw⟩:=yaeC (k:=k) h h1
 have kw:=(List.getElem?_eq_some_iff.1 hw.hw).1
 have gw:=(List.getElem?_eq_some_iff.1 hw.hw).2
 have hmem:=List.mem_of_getElem? hw.hw
 obtain ⟨c1,c2,c3⟩:=hi.wk w hmem
 simp -dsimp -implicitDefEqProofs [hw.hw,gw,kw,yG kw,c3]
 refine yS (yagk x k w a b (hl.2.2.1.2 w hmem) hw.hw hw.ha hw.hb (yaeE hw.ok) hl.1.1 c1 c2) ?_
 simp -dsimp -implicitDefEqProofs
 refine yc (yns x hl) ?_
 simp -dsimp -implicitDefEqProofs [h]
def takeN (r : Reach) (a k : Int) : Int :=
 let z:=if r.Volume - k < a then r.Volume - k else a
 if 0 < z then z else 0
def ye1 (r : Reach) (a k : Int) : Bool:=yR r && decide (0 ≤ a) && decide (0 ≤ k)
def yao (r : Reach) (a k : Int) : Reach × Int:=if ye1 r a k then (⟨r.Table,r.Volume - takeN r a k,r.Pipe⟩,takeN r a k) else (r,0)
theorem yto (r : Reach) (a k : Int) (hl : r.small) : ybh Tryz.prog 109 [.agg (r.enc.map .c),.c (.i a),.c (.i k)] (.tup [.agg ((yao r a k).1.yI.map .c),.c (.i (yao r a k).2)]):=by
 refine yv3 yoB (by simp) fun hwf=>?_
 simp -dsimp -implicitDefEqProofs
 refine yQ (ygB r hl) (by simp) (yb5 (Reach.yad r)) (by simp [yU]) ?_
 simp -dsimp -implicitDefEqProofs [yt]
 refine yc (yby r) ?_
 cases h : yR r with
 | false =>
  simp -dsimp -implicitDefEqProofs [yt]
  have e : yao r a k = (r,0):=by simp [yao,ye1,h]
  rw [e]
  refine yfg ?_
  simp [yt]
 | true =>
 have f:=ydd h
 have hv:=yF.1 (show inRange r.Volume 0 1000000000 = true from f.vol)
 simp -dsimp -implicitDefEqProofs
 refine ⟨fun ha=>⟨fun hk=>?_,fun hk=>?_⟩,fun ha=>?_⟩
 ·have e : yao r a k = (r,0):=by
   have : ¬ 0 ≤ k:=by omega
   simp [yao,ye1,this]
  rw [e]
  refine yfg ?_
  simp [yt]
 ·have e : yao r a k = (⟨r.Table,r.Volume - takeN r a k,r.Pipe⟩,takeN r a k):=by simp [yao,ye1,h,ha,hk]
  rw [e]
  have hk2 : inI k:=by
   have:=hwf.2.2.1
   simpa [AV.wf,AV.wf1,C.WF] using this
  unfold inI at hk2
  have ht : takeN r a k = (if 0 < (if r.Volume - k < a then r.Volume - k else a) then (if r.Volume - k < a then r.Volume - k else a) else 0):=rfl
  have htr : 0 ≤ takeN r a k ∧ takeN r a k ≤ 1000000000:=by
   rw [ht]; repeat' split
   all_goals omega
  rw [← ht]
  refine ⟨by unfold inI; omega,by unfold inI; omega,?_⟩
  refine yfg ?_
  simp [yt]
 ·have e : yao r a k = (r,0):=by
   have : ¬ 0 ≤ a:=by omega
   simp [yao,ye1,this]
  rw [e]
  refine yfg ?_
  simp [yt]
theorem yj4 (r : Reach) (a k : Int) (hl : r.small) : yB Tryz.prog 109 [.agg (r.enc.map .c),.c (.i a),.c (.i k)] (.tup [.agg ((yao r a k).1.enc.map .c),.c (.i (yao r a k).2)]):=(yto r a k hl).pure (by simp [AV.shr,AV.yAK,AV.ysI,ybQ,C.shr])
def ycL (a b : Reach) (q k : Int) : Bool:=yR a && yR b && decide (0 ≤ q) && decide (0 ≤ k)
def yg9 (b : Reach) (q : Int) : Int:=if ybe b < q then ybe b else q
def ybK (a b : Reach) (q k : Int) : Reach × Reach × Int :=
 if ycL a b q k then ((yao a (yg9 b q) k).1,ybp b (yao a (yg9 b q) k).2,(yao a (yg9 b q) k).2) else (a,b,0)
theorem ya5 (e : Reach) (hl : Reach.small e) : yB Tryz.prog 85 [.agg (e.enc.map .c)] (.agg (e.enc.map .c)):=(ygB e hl).pure (Reach.ysO _)
theorem yuG (a b : Reach) (q k : Int) (ha : a.small) (hb : b.small) : yB Tryz.prog 149 [.agg (a.enc.map .c),.agg (b.enc.map .c),.c (.i q),.c (.i k)] (.tup [.agg ((ybK a b q k).1.enc.map .c),.agg ((ybK a b q k).2.1.enc.map .c),.c (.i (ybK a b q k).2.2)]):=by
 refine yh yqJ ?_
 have no : ycL a b q k = false → ybK a b q k = (a,b,0):=fun h=>by simp [ybK,h]
 simp -dsimp -implicitDefEqProofs
 refine yc (yby a) ?_
 cases h1 : yR a with
 | false =>
  rw [no (by simp [ycL,h1])]
  simp -dsimp -implicitDefEqProofs
  refine yY (ya5 a ha) ?_
  simp -dsimp -implicitDefEqProofs
  refine yY (ya5 b hb) ?_
  simp -dsimp -implicitDefEqProofs
 | true =>
 simp -dsimp -implicitDefEqProofs
 refine yc (yby b) ?_
 cases h2 : yR b with
 | false =>
  rw [no (by simp [ycL,h2])]
  simp -dsimp -implicitDefEqProofs
  refine yY (ya5 a ha) ?_
  simp -dsimp -implicitDefEqProofs
  refine yY (ya5 b hb) ?_
  simp -dsimp -implicitDefEqProofs
 | true =>
 simp -dsimp -implicitDefEqProofs
 refine ⟨fun hq=>⟨fun hk=>?_,fun hk=>?_⟩,fun hq=>?_⟩
 ·have hk' : ¬ 0 ≤ k:=by omega
  rw [no (by simp [ycL,hk'])]
  refine yY (ya5 a ha) ?_
  simp -dsimp -implicitDefEqProofs
  refine yY (ya5 b hb) ?_
  simp -dsimp -implicitDefEqProofs
 ·have hc : ycL a b q k = true:=by simp [ycL,h1,h2,hq,hk]
  have e : ybK a b q k = ((yao a (yg9 b q) k).1,ybp b (yao a (yg9 b q) k).2,(yao a (yg9 b q) k).2):=by simp [ybK,hc]
  rw [e]
  refine yb1 (ylM b) ?_
  simp -dsimp -implicitDefEqProofs
  have hT:=yj4 a (yg9 b q) k ha
  unfold yg9 at hT ⊢
  refine yY hT ?_
  generalize yao a (if ybe b < q then ybe b else q) k = r at *
  simp -dsimp -implicitDefEqProofs
  refine yY (ysb b r.2 hb) ?_
  simp -dsimp -implicitDefEqProofs
 ·have hq' : ¬ 0 ≤ q:=by omega
  rw [no (by simp [ycL,hq'])]
  refine yY (ya5 a ha) ?_
  simp -dsimp -implicitDefEqProofs
  refine yY (ya5 b hb) ?_
  simp -dsimp -implicitDefEqProofs
def ycS : Nat → Nat
 | 0=>0
 | m + 1=>if (ycS m + 1) * (ycS m + 1) ≤ m + 1 then ycS m + 1 else ycS m
theorem ypI : ∀ m : Nat,ycS m * ycS m ≤ m ∧ m < (ycS m + 1) * (ycS m + 1)
 | 0=>by simp [ycS]
 | m + 1=>by
  have ih:=ypI m
  unfold ycS
  split
  ·rename_i h
   refine ⟨h,?_⟩
   have : (ycS m + 1 + 1) * (ycS m + 1 + 1) = (ycS m + 1) * (ycS m + 1) + 2 * (ycS m + 1) + 1:=by
    rw [Nat.add_mul,Nat.mul_add]; omega
   omega
  ·omega
theorem yuV {m r : Nat} (h1 : r * r ≤ m) (h2 : m < (r + 1) * (r + 1)) : ycS m = r:=by
 obtain ⟨a,b⟩:=ypI m
 rcases Nat.lt_trichotomy (ycS m) r with h | h | h
 ·have : (ycS m + 1) * (ycS m + 1) ≤ r * r:=Nat.mul_le_mul h h
  omega
 ·exact h
 ·have : (r + 1) * (r + 1) ≤ ycS m * ycS m:=Nat.mul_le_mul h h
  omega
def yb7 (n : Int) : Int:=if 0 ≤ n ∧ n ≤ 1000000000000000000 then ycS n.toNat else -1
theorem yuT (n : Int) : yB Tryz.prog 150 [.c (.i n)] (.c (.i (yb7 n))):=by
 refine yh yqG ?_
 simp -dsimp -implicitDefEqProofs
 refine ⟨fun h0=>⟨fun h1=>?_,fun h1=>?_⟩,fun h0=>?_⟩
 ·have : ¬ (0 ≤ n ∧ n ≤ 1000000000000000000):=by omega
  simp only [yb7,if_neg this]
 rotate_left
 ·have : ¬ (0 ≤ n ∧ n ≤ 1000000000000000000):=by omega
  simp only [yb7,if_neg this]
 have hr : 0 ≤ n ∧ n ≤ 1000000000000000000:=by omega
 refine yg (ι:=Nat × Nat) (fun p=>p.1 ≤ p.2 ∧ p.2 ≤ 1000000000 ∧ p.1 * p.1 ≤ n.toNat ∧ n.toNat < (p.2 + 1) * (p.2 + 1)) (fun p=>yO [(0,.c (.i n)),(3,.c (.i p.1)),(4,.c (.i p.2))] []) (fun p=>p.2 - p.1) (0,1000000000) (by simp; omega) (by apply yj <;> simp) ?_
 rintro ⟨lo,hi⟩ ⟨h1,h2,h3,h4⟩
 simp only at h1 h2 h3 h4
 simp -dsimp -implicitDefEqProofs
 refine ⟨fun hg=>?_,fun hg=>?_⟩
 ·obtain ⟨m,hm⟩ : ∃ m,m = (lo + hi + 1) / 2:=⟨_,rfl⟩
  have em : ((lo : Int) + hi + 1).tdiv 2 = (m : Int):=by rw [Int.tdiv_eq_ediv_of_nonneg (by omega)]; omega
  have hmm : (m : Int) * m = ((m * m : Nat) : Int):=(Int.natCast_mul m m).symm
  have hb : m * m ≤ 1000000000 * 1000000000:=Nat.mul_le_mul (by omega) (by omega)
  rw [em,hmm]
  refine ⟨by unfold inI; omega,by unfold inI; omega,by unfold inI; omega,by unfold inI; omega,fun hc=>?_,fun hc=>?_⟩
  ·have h4i : n < ((hi : Int) + 1) * (hi + 1):=by
    have : ((hi : Int) + 1) * (hi + 1) = (((hi + 1) * (hi + 1) : Nat) : Int):=by simp
    omega
   refine ⟨m,hi,⟨by omega,h2,by omega,h4i⟩,by omega,?_⟩
   apply yj <;> simp
  ·refine ⟨by unfold inI; omega,lo,m - 1,⟨by omega,by omega,by omega,by rw [show ((m - 1 : Nat) : Int) + 1 = m by omega,hmm]; omega⟩,by omega,?_⟩
   apply yj <;> simp <;> omega
 ·have : hi = lo:=by omega
  subst this
  simp only [yb7,if_pos hr]
  rw [yuV h3 h4]
theorem yl3 {a b A B : Int} (ha : 0 ≤ a ∧ a ≤ A) (hb : 0 ≤ b ∧ b ≤ B) : 0 ≤ a * b ∧ a * b ≤ A * B :=
 ⟨Int.mul_nonneg ha.1 hb.1,Int.mul_le_mul ha.2 hb.2 hb.1 (by omega)⟩
def lev (x : Int) : Bool:=inRange x 0 100000
structure WeirFacts (w : Weir) : Prop where
 gts : 1 ≤ w.Gates ∧ w.Gates ≤ 8
 opn : 0 ≤ w.Open ∧ w.Open ≤ 10 * w.Gates
 stp : 1 ≤ w.Step ∧ w.Step ≤ 80
 crs : 0 ≤ w.Crest ∧ w.Crest ≤ 100000
 wid : 1 ≤ w.Width ∧ w.Width ≤ 1000
theorem ydY {w : Weir} (h : yaH w = true) : WeirFacts w:=by
 simp only [yaH,Bool.and_eq_true] at h
 obtain ⟨⟨⟨⟨h1,h2⟩,h3⟩,h4⟩,h5⟩:=h
 exact ⟨yF.1 h1,yF.1 h2,yF.1 h3,yF.1 h4,yF.1 h5⟩
structure RuleFacts (r : Rule) : Prop where
 low : 0 ≤ r.Low ∧ r.Low ≤ 100000
 hig : 0 ≤ r.High ∧ r.High ≤ 100000
 fld : 0 ≤ r.Flood ∧ r.Flood ≤ 100000
 lh : r.Low < r.High
 hf : r.High ≤ r.Flood
theorem yrx {r : Rule} (h : yca r = true) : RuleFacts r:=by
 simp only [yca,Bool.and_eq_true,decide_eq_true_eq] at h
 obtain ⟨⟨⟨⟨h1,h2⟩,h3⟩,h4⟩,h5⟩:=h
 exact ⟨yF.1 h1,yF.1 h2,yF.1 h3,h4,h5⟩
theorem yxl {n : Int} (h : n ≤ 1000000) : -1 ≤ yb7 n ∧ yb7 n ≤ 1000:=by
 unfold yb7
 split
 ·rename_i h2
  obtain ⟨a,b⟩:=ypI n.toNat
  refine ⟨by omega,?_⟩
  rcases Nat.lt_or_ge 1000 (ycS n.toNat) with e | e
  ·have : 1001 * 1001 ≤ ycS n.toNat * ycS n.toNat:=Nat.mul_le_mul e e
   omega
  ·omega
 ·omega
theorem yoK {n : Int} (h0 : 0 ≤ n) (h : n ≤ 1000000) : 0 ≤ yb7 n ∧ yb7 n ≤ 1000:=by
 refine ⟨?_,(yxl h).2⟩
 unfold yb7
 rw [if_pos ⟨h0,by omega⟩]; omega
def ycb (w : Weir) (up down : Int) : Int:=up - (if w.Crest < down then down else w.Crest)
def yge (w : Weir) (up down : Int) : Bool:=yaH w && lev up && lev down && decide (0 < ycb w up down)
def yaD (w : Weir) (up down : Int) : Int:=if yge w up down then (w.Open * w.Width * yb7 (ycb w up down)).tdiv 10 else 0
def yn4 (w : Weir) (o : Int) : Int :=
 let z:=if w.Open + w.Step < o then w.Open + w.Step else o
 if z < w.Open - w.Step then w.Open - w.Step else z
@[simp] def Weir.opened (w : Weir) (o : Int) : Weir:=⟨w.Gates,o,w.Step,w.Crest,w.Width⟩
def ybU (w : Weir) (o : Int) : Weir:=if yaH w && inRange o 0 (10 * w.Gates) then w.opened (yn4 w o) else w
def yfC (w : Weir) (up down q : Int) : Nat → Int → Int
 | 0,o=>o
 | m + 1,o=>if q ≤ yaD (w.opened o) up down then o else yfC w up down q m (o + 1)
def ycK (w : Weir) (up down q : Int) : Int:=if yaH w && lev up && lev down then yfC w up down q (10 * w.Gates).toNat 0 else 0
theorem yrA {w : Weir} {up down q : Int} {k n : Nat} (h : k ≤ n) (hg : q ≤ yaD (w.opened k) up down) : yfC w up down q (n - k) k = k:=by
 cases hm : n - k with
 | zero=>rfl
 | succ m=>rw [yfC,if_pos hg]
theorem yt5 {w : Weir} {up down q : Int} {k n : Nat} (h : k < n) (hg : yaD (w.opened k) up down < q) : yfC w up down q (n - (k + 1)) ((k + 1 : Nat) : Int) = yfC w up down q (n - k) k:=by
 rw [show n - k = (n - (k + 1)) + 1 by omega,yfC,if_neg (by omega)]; rfl
def wants (r : Rule) (l q : Int) : Bool:=yca r && inRange q 0 1000000000 && lev l && decide (r.Low < l)
def yaU (r : Rule) (l q : Int) : Int :=
 if wants r l q then (if 2 * q < (q * (l - r.Low)).tdiv (r.High - r.Low) then 2 * q else (q * (l - r.Low)).tdiv (r.High - r.Low)) else 0
def ybC (w : Weir) (r : Rule) (up down q : Int) : Bool:=yaH w && yca r && inRange q 0 1000000000 && lev up && lev down
def ybb (w : Weir) (r : Rule) (up down q : Int) : Weir :=
 if ybC w r up down q then (if r.Flood ≤ up then ybU w (10 * w.Gates) else ybU w (ycK w up down (yaU r up q))) else w
def yau (a b : Reach) (w : Weir) : Reach × Reach × Int :=
 if yR a && yR b && yaH w then ybK a b (yaD w (yal a) (yal b)) (yac a.Table w.Crest) else (a,b,0)
theorem ygM (w : Weir) (up down : Int) : yB Tryz.prog 108 [.agg (w.enc.map .c),.c (.i up),.c (.i down)] (.c (.i (yaD w up down))):=by
 refine yh ynM ?_
 have no : yge w up down = false → yaD w up down = 0:=fun h=>by simp [yaD,h]
 simp -dsimp -implicitDefEqProofs
 refine yc (ydW w) ?_
 cases h1 : yaH w with
 | false=>simp -dsimp -implicitDefEqProofs; exact no (by simp [yge,h1])
 | true =>
 simp -dsimp -implicitDefEqProofs
 refine yc (yC up 0 100000) ?_
 cases h2 : inRange up 0 100000 with
 | false=>simp -dsimp -implicitDefEqProofs; exact no (by simp [yge,lev,h2])
 | true =>
 simp -dsimp -implicitDefEqProofs
 refine yc (yC down 0 100000) ?_
 cases h3 : inRange down 0 100000 with
 | false=>simp -dsimp -implicitDefEqProofs; exact no (by simp [yge,lev,h3])
 | true =>
 have f:=ydY h1
 have f1:=f.gts; have f2:=f.opn; have f3:=f.wid; have f4:=f.crs
 have u:=yF.1 h2; have d:=yF.1 h3
 simp -dsimp -implicitDefEqProofs
 have hh : ycb w up down = up - (if w.Crest < down then down else w.Crest):=rfl
 have hd : -100000 ≤ ycb w up down ∧ ycb w up down ≤ 100000:=by rw [hh]; split <;> omega
 rw [← hh]
 generalize (if w.Crest < down then down else w.Crest) = c at *
 refine ⟨by unfold inI; omega,?_⟩
 by_cases h4 : ycb w up down ≤ 0
 ·have no2:=no (by simp [yge]; omega)
  refine ⟨fun h5=>?_,fun h5=>?_⟩ <;> first | exact no2 | omega
 ·have m1:=yl3 (a:=w.Open) (b:=w.Width) (A:=80) (B:=1000) (by omega) (by omega)
  have r1:=yoK (n:=ycb w up down) (by omega) (by omega)
  have m2:=yl3 (a:=w.Open * w.Width) (b:=yb7 (ycb w up down)) (A:=80000) (B:=1000) (by omega) r1
  have m3 : 0 ≤ (w.Open * w.Width * yb7 (ycb w up down)).tdiv 10 ∧ (w.Open * w.Width * yb7 (ycb w up down)).tdiv 10 ≤ 8000000:=by
   rw [Int.tdiv_eq_ediv_of_nonneg m2.1]; omega
  have yes : yaD w up down = (w.Open * w.Width * yb7 (ycb w up down)).tdiv 10:=by
   have : yge w up down = true:=by simp [yge,lev,h1,h2,h3]; omega
   simp [yaD,this]
  refine ⟨fun h5=>(by omega),fun h5=>?_⟩
  refine ⟨by unfold inI; omega,?_⟩
  refine yaC (yuT (ycb w up down)) ?_
  simp -dsimp -implicitDefEqProofs
  exact ⟨by unfold inI; omega,by unfold inI; omega,yes⟩
theorem ywE (n a b : Int) : yB Tryz.prog 176 [.c (.i n),.c (.i a),.c (.i b)] (.c (.i (if b < a ∨ n < a then a else if b < n then b else n))):=by
 refine yh ytu ?_
 simp -dsimp -implicitDefEqProofs
 refine ⟨fun h1=>⟨fun h2 h3 h4=>by omega,fun h2=>⟨fun h3=>?_,fun h3=>?_⟩⟩,fun h1 h2 h3=>by omega⟩
 ·rw [if_neg (by omega),if_pos h3]
 ·rw [if_neg (by omega),if_neg (by omega)]
theorem yjZ (w : Weir) (o : Int) : yB Tryz.prog 146 [.agg (w.enc.map .c),.c (.i o)] (.agg ((ybU w o).enc.map .c)):=by
 refine yh ynD ?_
 have no : (yaH w && inRange o 0 (10 * w.Gates)) = false → ybU w o = w:=fun h=>by simp [ybU,h]
 simp -dsimp -implicitDefEqProofs
 refine yc (ydW w) ?_
 cases h1 : yaH w with
 | false=>simp -dsimp -implicitDefEqProofs; simp [no (by simp [h1])]
 | true =>
 have f:=ydY h1
 have f1:=f.gts; have f2:=f.opn; have f3:=f.stp
 simp -dsimp -implicitDefEqProofs
 refine ⟨by unfold inI; omega,?_⟩
 refine yc (yC o 0 (10 * w.Gates)) ?_
 cases h2 : inRange o 0 (10 * w.Gates) with
 | false=>simp -dsimp -implicitDefEqProofs; simp [no (by simp [h2])]
 | true =>
 have u:=yF.1 h2
 have yes : ybU w o = w.opened (yn4 w o):=by simp [ybU,h1,h2]
 rw [yes]
 simp -dsimp -implicitDefEqProofs
 refine ⟨by unfold inI; omega,by unfold inI; omega,?_⟩
 refine yc (ywE o (w.Open - w.Step) (w.Open + w.Step)) ?_
 simp -dsimp -implicitDefEqProofs
 unfold yn4
 simp only
 repeat' split
 all_goals omega
theorem ysh (w : Weir) (up down q : Int) : yB Tryz.prog 147 [.agg (w.enc.map .c),.c (.i up),.c (.i down),.c (.i q)] (.c (.i (ycK w up down q))):=by
 refine yh yp3 ?_
 have no : (yaH w && lev up && lev down) = false → ycK w up down q = 0:=fun h=>by simp [ycK,h]
 simp -dsimp -implicitDefEqProofs
 refine yc (ydW w) ?_
 cases h1 : yaH w with
 | false=>simp -dsimp -implicitDefEqProofs; exact no (by simp [h1])
 | true =>
 simp -dsimp -implicitDefEqProofs
 refine yc (yC up 0 100000) ?_
 cases h2 : inRange up 0 100000 with
 | false=>simp -dsimp -implicitDefEqProofs; exact no (by simp [lev,h2])
 | true =>
 simp -dsimp -implicitDefEqProofs
 refine yc (yC down 0 100000) ?_
 cases h3 : inRange down 0 100000 with
 | false=>simp -dsimp -implicitDefEqProofs; exact no (by simp [lev,h3])
 | true =>
 have f:=ydY h1
 have f1:=f.gts; have f2:=f.opn; have f3:=f.stp
 obtain ⟨n,hn⟩ : ∃ n : Nat,n = (10 * w.Gates).toNat:=⟨_,rfl⟩
 have hn2 : 10 * w.Gates = (n : Int):=by omega
 have yes : ycK w up down q = yfC w up down q n 0:=by rw [hn]; simp [ycK,h1,h2,h3,lev]
 rw [yes]
 simp -dsimp -implicitDefEqProofs
 rw [hn2]
 refine ⟨by unfold inI; omega,?_⟩
 refine yg (ι:=Nat × Int) (fun z=>z.1 ≤ n + 1 ∧ (z.1 ≤ n → yfC w up down q (n - z.1) z.1 = yfC w up down q n 0) ∧ (n < z.1 → yfC w up down q n 0 = n)) (fun z=>yO [(1,.c (.i up)),(2,.c (.i down)),(3,.c (.i q)),(4,.box 4 0),(8,.c (.i 0)),(9,.c (.i n)),(10,.c (.i z.1))] [(4,.box [.c (.i w.Gates),.c (.i z.2),.c (.i w.Step),.c (.i w.Crest),.c (.i w.Width)])]) (fun z=>n + 1 - z.1) (0,w.Open) ⟨by simp,by simp,by simp⟩ (by apply yj <;> simp [Obj.leO]) ?_
 rintro ⟨k,o⟩ ⟨h0,hk,he⟩
 simp only at h0 hk he
 rcases Nat.lt_or_ge n k with hlt | hge
 ·have q1 : ((k : Int) ≤ (n : Int)) = False:=by simp; omega
  have q2 : (k ≤ n) = False:=by simp; omega
  simp -dsimp -implicitDefEqProofs [q1,q2]
  exact (he hlt)
 ·have q1 : ((k : Int) ≤ (n : Int)) = True:=by simp; omega
  have q2 : (k ≤ n) = True:=by simp; omega
  simp -dsimp -implicitDefEqProofs [q1,q2]
  refine yc (ygM (w.opened k) up down) ?_
  simp -dsimp -implicitDefEqProofs
  have hok:=hk hge
  refine ⟨fun hg=>?_,fun hg=>?_⟩
  ·rw [← hok,yrA hge hg]
  ·refine ⟨by unfold inI; omega,k + 1,⟨by omega,fun h=>by rw [yt5 (by omega) hg,hok],fun h=>?_⟩,by omega,k,?_⟩
   ·rw [← hok,show k = n by omega]; simp [yfC]
   ·apply yj <;> simp [Obj.leO]
theorem ynk (r : Rule) (l q : Int) : yB Tryz.prog 148 [.agg (r.enc.map .c),.c (.i l),.c (.i q)] (.c (.i (yaU r l q))):=by
 refine yh ylA ?_
 have no : wants r l q = false → yaU r l q = 0:=fun h=>by simp [yaU,h]
 simp -dsimp -implicitDefEqProofs
 refine yc (yji r) ?_
 cases h1 : yca r with
 | false=>simp -dsimp -implicitDefEqProofs; exact no (by simp [wants,h1])
 | true =>
 simp -dsimp -implicitDefEqProofs
 refine yc (yC q 0 1000000000) ?_
 cases h2 : inRange q 0 1000000000 with
 | false=>simp -dsimp -implicitDefEqProofs; exact no (by simp [wants,h2])
 | true =>
 simp -dsimp -implicitDefEqProofs
 refine yc (yC l 0 100000) ?_
 cases h3 : inRange l 0 100000 with
 | false=>simp -dsimp -implicitDefEqProofs; exact no (by simp [wants,lev,h3])
 | true =>
 have f:=yrx h1
 have f1:=f.low; have f2:=f.hig; have f3:=f.lh
 have u:=yF.1 h2; have d:=yF.1 h3
 by_cases h4 : l ≤ r.Low
 ·simp -dsimp -implicitDefEqProofs [h4]
  exact no (by simp [wants]; omega)
 have h4':=Int.not_le.1 h4
 have yes : yaU r l q = if 2 * q < (q * (l - r.Low)).tdiv (r.High - r.Low) then 2 * q else (q * (l - r.Low)).tdiv (r.High - r.Low):=by
  have : wants r l q = true:=by simp [wants,lev,h1,h2,h3,h4']
  simp [yaU,this]
 have m1:=yl3 (a:=q) (b:=l - r.Low) (A:=1000000000) (B:=100000) (by omega) (by omega)
 have m2 : 0 ≤ (q * (l - r.Low)).tdiv (r.High - r.Low) ∧ (q * (l - r.Low)).tdiv (r.High - r.Low) ≤ 100000000000000:=by
  rw [Int.tdiv_eq_ediv_of_nonneg m1.1]
  refine ⟨Int.ediv_nonneg m1.1 (by omega),Int.le_trans (Int.ediv_le_self _ m1.1) (by omega)⟩
 rw [yes]
 simp -dsimp -implicitDefEqProofs [h4,h4']
 exact ⟨by unfold inI; omega,by unfold inI; omega,by unfold inI; omega,by omega,by unfold inI; omega,by unfold inI; omega⟩
theorem yoD (w : Weir) (r : Rule) (up down q : Int) : yB Tryz.prog 106 [.agg (w.enc.map .c),.agg (r.enc.map .c),.c (.i up),.c (.i down),.c (.i q)] (.agg ((ybb w r up down q).enc.map .c)):=by
 refine yh yl9 ?_
 have no : ybC w r up down q = false → ybb w r up down q = w:=fun h=>by simp [ybb,h]
 simp -dsimp -implicitDefEqProofs
 refine yc (ydW w) ?_
 cases h1 : yaH w with
 | false=>simp -dsimp -implicitDefEqProofs; simp [no (by simp [ybC,h1])]
 | true =>
 simp -dsimp -implicitDefEqProofs
 refine yc (yji r) ?_
 cases h2 : yca r with
 | false=>simp -dsimp -implicitDefEqProofs; simp [no (by simp [ybC,h2])]
 | true =>
 simp -dsimp -implicitDefEqProofs
 refine yc (yC q 0 1000000000) ?_
 cases h3 : inRange q 0 1000000000 with
 | false=>simp -dsimp -implicitDefEqProofs; simp [no (by simp [ybC,h3])]
 | true =>
 simp -dsimp -implicitDefEqProofs
 refine yc (yC up 0 100000) ?_
 cases h4 : inRange up 0 100000 with
 | false=>simp -dsimp -implicitDefEqProofs; simp [no (by simp [ybC,lev,h4])]
 | true =>
 simp -dsimp -implicitDefEqProofs
 refine yc (yC down 0 100000) ?_
 cases h5 : inRange down 0 100000 with
 | false=>simp -dsimp -implicitDefEqProofs; simp [no (by simp [ybC,lev,h5])]
 | true =>
 have f:=ydY h1
 have f1:=f.gts
 have hc : ybC w r up down q = true:=by simp [ybC,lev,h1,h2,h3,h4,h5]
 by_cases h6 : r.Flood ≤ up
 ·have yes : ybb w r up down q = ybU w (10 * w.Gates):=by simp [ybb,hc,h6]
  rw [yes]
  simp -dsimp -implicitDefEqProofs [h6]
  refine ⟨by unfold inI; omega,?_⟩
  refine yc (yjZ w (10 * w.Gates)) ?_
  simp -dsimp -implicitDefEqProofs
 ·have yes : ybb w r up down q = ybU w (ycK w up down (yaU r up q)):=by simp [ybb,hc,h6]
  rw [yes]
  simp -dsimp -implicitDefEqProofs [h6]
  refine yb1 (ynk r up q) ?_
  simp -dsimp -implicitDefEqProofs
  refine yb1 (ysh w up down (yaU r up q)) ?_
  simp -dsimp -implicitDefEqProofs
  refine yb1 (yjZ w (ycK w up down (yaU r up q))) ?_
  simp -dsimp -implicitDefEqProofs
theorem ynL (a b : Reach) (w : Weir) (ha : a.small) (hb : b.small) : yB Tryz.prog 107 [.agg (a.enc.map .c),.agg (b.enc.map .c),.agg (w.enc.map .c)] (.tup [.agg ((yau a b w).1.enc.map .c),.agg ((yau a b w).2.1.enc.map .c),.c (.i (yau a b w).2.2)]):=by
 refine yh ykF ?_
 have no : (yR a && yR b && yaH w) = false → yau a b w = (a,b,0):=fun h=>by simp [yau,h]
 simp -dsimp -implicitDefEqProofs
 refine yc (yby a) ?_
 cases h1 : yR a with
 | false =>
  rw [no (by simp [h1])]
  simp -dsimp -implicitDefEqProofs
  refine yY (ya5 a ha) ?_
  simp -dsimp -implicitDefEqProofs
  refine yY (ya5 b hb) ?_
  simp -dsimp -implicitDefEqProofs
 | true =>
 simp -dsimp -implicitDefEqProofs
 refine yc (yby b) ?_
 cases h2 : yR b with
 | false =>
  rw [no (by simp [h2])]
  simp -dsimp -implicitDefEqProofs
  refine yY (ya5 a ha) ?_
  simp -dsimp -implicitDefEqProofs
  refine yY (ya5 b hb) ?_
  simp -dsimp -implicitDefEqProofs
 | true =>
 simp -dsimp -implicitDefEqProofs
 refine yc (ydW w) ?_
 cases h3 : yaH w with
 | false =>
  rw [no (by simp [h3])]
  simp -dsimp -implicitDefEqProofs
  refine yY (ya5 a ha) ?_
  simp -dsimp -implicitDefEqProofs
  refine yY (ya5 b hb) ?_
  simp -dsimp -implicitDefEqProofs
 | true =>
 have yes : yau a b w = ybK a b (yaD w (yal a) (yal b)) (yac a.Table w.Crest):=by simp [yau,h1,h2,h3]
 rw [yes]
 simp -dsimp -implicitDefEqProofs
 refine yaC (yel a) ?_
 simp -dsimp -implicitDefEqProofs
 refine yaC (yel b) ?_
 simp -dsimp -implicitDefEqProofs
 refine yaC (ygM w (yal a) (yal b)) ?_
 simp -dsimp -implicitDefEqProofs
 refine yb1 (yh5 a.Table w.Crest) ?_
 simp -dsimp -implicitDefEqProofs
 have hP:=yuG a b (yaD w (yal a) (yal b)) (yac a.Table w.Crest) ha hb
 refine yY hP ?_
 generalize ybK a b (yaD w (yal a) (yal b)) (yac a.Table w.Crest) = z at *
 simp -dsimp -implicitDefEqProofs
def yd0 {α : Type} (t : α → Nat) (xs : List α) : Nat:=xs.length + (xs.map t).sum
def ydD (xs : List Int) : Nat:=xs.length
def yju (xs : List Boat) : Nat:=xs.length
def yeT : List (List Boat) → Nat:=yd0 yju
def yci (e : Train) : Nat:=yeT e.Rows
def yhw (xs : List Point) : Nat:=xs.length
def yaZ (e : Reach) : Nat:=yhw e.Table + ydD e.Pipe
def ydQ : List Reach → Nat:=yd0 yaZ
def ykC (xs : List Pause) : Nat:=xs.length
def yf0 : List Train → Nat:=yd0 yci
def ylq (e : Lock) : Nat:=yf0 e.Inside
def yiS (e : CallT) : Nat:=yci e.Train
def yl4 : List CallT → Nat:=yd0 yiS
def yg5 (e : Work) : Nat:=ylq e.Lock + ykC e.Pauses + yl4 e.Calls
def yeJ : List Work → Nat:=yd0 yg5
def hsW (x : Waterway) : List H:=[.p (.i x.Time),.t 3 (x.Reaches.map Reach.yI),.w 2 (x.Ways.map Way.enc),.t 22 (x.Works.map Work.yI),.t 1 (x.Movers.map yax),.t 2 (x.Arrived.map Train.yI),.w 1 (x.Entered.map yJ),
 .p (.i x.Tariff.Base),.p (.i x.Tariff.PerArea),.w 1 (x.Tariff.PerClass.map yJ),.w 1 (x.Tariff.Weights.map yJ),.w 5 (x.Book.map Entry.enc),.t 4 (x.Passings.map Passing.yI),.p (.i x.Start),.p (.i x.In),.p (.i x.Out)]
def wm1 (x : Waterway) (k : Int) : Int:=k + cnt yay x.Reaches
def wm2 (x : Waterway) (k : Int) : Int:=wm1 x k + 2 * x.Ways.length
def wm3 (x : Waterway) (k : Int) : Int:=wm2 x k + cnt yaJ x.Works
def wm4 (x : Waterway) (k : Int) : Int:=wm3 x k + cnt yap x.Movers
def wm5 (x : Waterway) (k : Int) : Int:=wm4 x k + cnt yE x.Arrived
def wm6 (x : Waterway) (k : Int) : Int:=wm5 x k + x.Entered.length
def wm7 (x : Waterway) (k : Int) : Int:=wm6 x k + nT x.Tariff
def wm8 (x : Waterway) (k : Int) : Int:=wm7 x k + 5 * x.Book.length
def hsM (x : Waterway) (k : Int) : List H:=[.p (.i x.Time),.t 3 (yaA ycQ yay k x.Reaches),.w 2 (marked ydz 2 [] (wm1 x k) x.Ways.length),.t 22 (yaA ydH yaJ (wm2 x k) x.Works),.t 1 (yaA ycj yap (wm3 x k) x.Movers),.t 2 (yaA ybN yE (wm4 x k) x.Arrived),.w 1 (marked yJ 1 [] (wm5 x k) x.Entered.length),
 .p (.i x.Tariff.Base),.p (.i x.Tariff.PerArea),.w 1 (marked yJ 1 [] (wm6 x k) x.Tariff.PerClass.length),.w 1 (marked yJ 1 [] (wm6 x k + x.Tariff.PerClass.length) x.Tariff.Weights.length),.w 5 (marked mkEn 5 [] (wm7 x k) x.Book.length),.t 4 (yaA ybL yae (wm8 x k) x.Passings),.p (.i x.Start),.p (.i x.In),.p (.i x.Out)]
theorem yy0 (r : Reach) (a : Int) : yaZ (ybp r a) = yaZ r:=by
 have : (ybp r a).Table.length = r.Table.length ∧ (ybp r a).Pipe.length = r.Pipe.length:=by
  unfold ybp
  split
  ·split
   ·exact ⟨rfl,rfl⟩
   ·exact ⟨rfl,by simp⟩
  ·exact ⟨rfl,rfl⟩
 unfold yaZ yhw ydD; omega
def yhZ (w : Work) (v : Weir) : Work:=⟨w.Lock,v,w.Rule,w.Pauses,w.Turn,w.Calls⟩
def dR (rs : List Reach) (k : Nat) : Reach:=rs.getD k default
def dW (ws : List Work) (k : Nat) : Work:=ws.getD k default
def yc2 (q : Int) (rs : List Reach) (ws : List Work) (k : Nat) : Weir:=ybb (dW ws k).Weir (dW ws k).Rule (yal (dR rs k)) (yal (dR rs (k + 1))) q
def through (q : Int) (rs : List Reach) (ws : List Work) (k : Nat) : Reach × Reach × Int:=yau (dR rs k) (dR rs (k + 1)) (yc2 q rs ws k)
def yah (q : Int) (rs : List Reach) (ws : List Work) : Nat → List Reach × List Work
 | 0=>(rs,ws)
 | k + 1=>(((yah q rs ws k).1.set k (through q (yah q rs ws k).1 (yah q rs ws k).2 k).1).set (k + 1) (through q (yah q rs ws k).1 (yah q rs ws k).2 k).2.1,
     (yah q rs ws k).2.set k (yhZ (dW (yah q rs ws k).2 k) (yc2 q (yah q rs ws k).1 (yah q rs ws k).2 k)))
def ycg (x : Waterway) (q : Int) : Bool:=yar x && inRange q 0 1000000000
def stR (x : Waterway) (q : Int) : List Reach:=(yah q x.Reaches x.Works x.Works.length).1
def stW (x : Waterway) (q : Int) : List Work:=(yah q x.Reaches x.Works x.Works.length).2
def ysP (rs : List Reach) (ws : List Work) (ys : List Way) (n : Nat) : Reach × Int :=
 yao (dR rs n) (yaD (dW ws (n - 1)).Weir (yal (dR rs n)) 0) (yac (dR rs n).Table (ys.getD n default).Bed)
def yaW (x : Waterway) (q : Int) : Waterway :=
 if ycg x q then ⟨x.Time,(stR x q).set (x.Reaches.length - 1) (ysP (stR x q) (stW x q) x.Ways (x.Reaches.length - 1)).1,x.Ways,stW x q,x.Movers,x.Arrived,x.Entered,x.Tariff,x.Book,x.Passings,x.Start,x.In,x.Out + (ysP (stR x q) (stW x q) x.Ways (x.Reaches.length - 1)).2⟩ else x
theorem yeK {q : Int} {rs : List Reach} {ws : List Work} : ∀ k : Nat,(yah q rs ws k).1.length = rs.length ∧ (yah q rs ws k).2.length = ws.length
 | 0=>⟨rfl,rfl⟩
 | k + 1=>by
  obtain ⟨h1,h2⟩:=yeK (q:=q) (rs:=rs) (ws:=ws) k
  simp [yah,h1,h2]
theorem ykk {rs : List Reach} {k : Nat} (h : k < rs.length) : rs[k]? = some (dR rs k):=by
 rw [dR,List.getD_eq_getElem?_getD,List.getElem?_eq_getElem h]; rfl
theorem ytH {ws : List Work} {k : Nat} (h : k < ws.length) : ws[k]? = some (dW ws k):=by
 rw [dW,List.getD_eq_getElem?_getD,List.getElem?_eq_getElem h]; rfl
theorem ykb {r : Reach} {a k : Int} (h : r.small) : (yao r a k).1.small:=by
 unfold yao; split <;> exact h
theorem ys9 {a b : Reach} {q k : Int} (ha : a.small) (hb : b.small) : (ybK a b q k).1.small ∧ (ybK a b q k).2.1.small:=by
 unfold ybK
 split
 ·exact ⟨ykb ha,yse hb⟩
 ·exact ⟨ha,hb⟩
theorem yxu {a b : Reach} {w : Weir} (ha : a.small) (hb : b.small) : (yau a b w).1.small ∧ (yau a b w).2.1.small:=by
 unfold yau
 split
 ·exact ys9 ha hb
 ·exact ⟨ha,hb⟩
theorem yur (r : Reach) (a k : Int) : yaZ (yao r a k).1 = yaZ r:=by
 unfold yao; split <;> rfl
theorem yAF (a b : Reach) (q k : Int) : yaZ (ybK a b q k).1 = yaZ a ∧ yaZ (ybK a b q k).2.1 = yaZ b:=by
 unfold ybK
 split
 ·exact ⟨yur _ _ _,yy0 _ _⟩
 ·exact ⟨rfl,rfl⟩
theorem yBF (a b : Reach) (w : Weir) : yaZ (yau a b w).1 = yaZ a ∧ yaZ (yau a b w).2.1 = yaZ b:=by
 unfold yau
 split
 ·exact yAF _ _ _ _
 ·exact ⟨rfl,rfl⟩
theorem yjs {α : Type} {t : α → Nat} {l : List α} {k : Nat} {a b : α} (h : l[k]? = some a) (e : t b = t a) : yd0 t (l.set k b) = yd0 t l:=by
 obtain ⟨hk,rfl⟩:=List.getElem?_eq_some_iff.1 h
 have : (l.set k b).map t = l.map t:=by
  rw [List.map_set,e]
  apply List.ext_getElem?
  intro i
  rw [List.getElem?_set]
  split
  ·rename_i hi; subst hi; simp [hk]
  ·rfl
 unfold yd0
 rw [this,List.length_set]
theorem yhL {α : Type} {sm : α → Prop} {l : List α} {k : Nat} {b : α} (h : ycs sm l) (e : sm b) : ycs sm (l.set k b) :=
 ⟨by simpa using h.1,fun x hx=>by
  rcases List.mem_or_eq_of_mem_set hx with hx | hx
  ·exact h.2 x hx
  ·rw [hx]; exact e⟩
theorem yg0 {q : Int} {rs : List Reach} {ws : List Work} (hr : ycN rs) (hw : yc8 ws) (hn : ws.length < rs.length) : ∀ k : Nat,k ≤ ws.length →
 ycN (yah q rs ws k).1 ∧ yc8 (yah q rs ws k).2 ∧ ydQ (yah q rs ws k).1 = ydQ rs ∧ yeJ (yah q rs ws k).2 = yeJ ws
 | 0,_=>⟨hr,hw,rfl,rfl⟩
 | k + 1,hk=>by
  obtain ⟨a,b,c,d⟩:=yg0 (q:=q) hr hw hn k (by omega)
  obtain ⟨l1,l2⟩:=yeK (q:=q) (rs:=rs) (ws:=ws) k
  simp only [yah]
  generalize (yah q rs ws k).1 = rs' at *
  generalize (yah q rs ws k).2 = ws' at *
  have r1:=ykk (rs:=rs') (k:=k) (by omega)
  have r2:=ykk (rs:=rs') (k:=k + 1) (by omega)
  have w1:=ytH (ws:=ws') (k:=k) (by omega)
  have t:=yBF (dR rs' k) (dR rs' (k + 1)) (yc2 q rs' ws' k)
  have s:=yxu (w:=yc2 q rs' ws' k) (a.2 _ (List.mem_of_getElem? r1)) (a.2 _ (List.mem_of_getElem? r2))
  refine ⟨yhL (yhL a s.1) s.2,yhL b (show Work.small (dW ws' k) from b.2 _ (List.mem_of_getElem? w1)),?_,?_⟩
  ·rw [← c]
   have h2 : (rs'.set k (through q rs' ws' k).1)[k + 1]? = some (dR rs' (k + 1)):=by rw [List.getElem?_set_ne (by omega)]; exact r2
   exact (yjs h2 t.2).trans (yjs r1 t.1)
  ·rw [← d]
   exact yjs w1 rfl
structure PartLens (x : Waterway) : Prop where
 two : 2 ≤ x.Reaches.length
 ways : x.Ways.length = x.Reaches.length
 mvs : x.Movers.length = x.Reaches.length
 wks : x.Works.length + 1 = x.Reaches.length
theorem yln {x : Waterway} (h : yar x = true) : PartLens x:=by
 simp only [yar,Bool.and_eq_true] at h
 obtain ⟨⟨⟨⟨⟨⟨⟨h1,h2⟩,h3⟩,h4⟩,h5⟩,h6⟩,h7⟩,h8⟩:=h
 simp only [ybi,Bool.and_eq_true,decide_eq_true_eq] at h2
 obtain ⟨⟨⟨⟨⟨⟨p1,p2⟩,p3⟩,p4⟩,p5⟩,p6⟩,p7⟩:=h2
 exact ⟨p2,p3,p4,p5⟩
theorem ytZ {x : Waterway} {q : Int} (h : x.small) : (yaW x q).small:=by
 unfold yaW
 split
 ·rename_i hc
  simp only [ycg,Bool.and_eq_true] at hc
  have pl:=yln hc.1
  have p1:=pl.wks; have p2:=pl.two
  obtain ⟨s1,s2,s3,s4,s5,s6,s7,s8,s9⟩:=h
  obtain ⟨a,b,c,d⟩:=yg0 (q:=q) s1 s3 (by omega) _ (Nat.le_refl _)
  obtain ⟨l1,l2⟩:=yeK (q:=q) (rs:=x.Reaches) (ws:=x.Works) x.Works.length
  exact ⟨yhL a (ykb (a.2 _ (List.mem_of_getElem? (ykk (by have : (stR x q).length = x.Reaches.length:=l1; omega))))),s2,b,s4,s5,s6,s7,s8,s9⟩
 ·exact h
theorem yxK (es : List Work) (hl : es.length ≤ 1048576) : ybh Tryz.prog 100 [.c (.sl 22 (es.map Work.enc))] (.c (.ow 22 (es.map Work.enc))):=by
 refine yan ydu ?_
 simp -dsimp -implicitDefEqProofs [ybJ,yt]
 omega
theorem yoY (r : Reach) (a k : Int) : 0 ≤ (yao r a k).2 ∧ (yao r a k).2 ≤ 1000000000:=by
 unfold yao
 split
 ·rename_i h
  simp only [ye1,Bool.and_eq_true,decide_eq_true_eq] at h
  have f:=ydd h.1.1
  have hv:=yF.1 (show inRange r.Volume 0 1000000000 = true from f.vol)
  have h2:=h.2
  simp only [takeN]
  repeat' split
  all_goals omega
 ·simp
def ycU (rs : List Reach) : List (List C):=rs.map Reach.enc
def ygA (ws : List Work) : List (List C):=ws.map Work.enc
theorem yhj {rs : List Reach} {k : Nat} {r : Reach} (h : rs[k]? = some r) : (ycU rs)[k]? = some r.enc:=by unfold ycU; rw [List.getElem?_map,h]; rfl
theorem yk0 {ws : List Work} {k : Nat} {w : Work} (h : ws[k]? = some w) : (ygA ws)[k]? = some w.enc:=by unfold ygA; rw [List.getElem?_map,h]; rfl
theorem yjJ {rs : List Reach} {k : Nat} {r : Reach} : (ycU rs).set k r.enc = ycU (rs.set k r):=by unfold ycU; rw [List.map_set]
theorem yr3 {ws : List Work} {k : Nat} {w : Work} : (ygA ws).set k w.enc = ygA (ws.set k w):=by unfold ygA; rw [List.map_set]
theorem ybE {rs : List Reach} : (ycU rs).length = rs.length:=by simp [ycU]
theorem ycB {ws : List Work} : (ygA ws).length = ws.length:=by simp [ygA]
theorem yls {x : Waterway} {q : Int} (h : ycg x q = false) : yaW x q = x:=by simp [yaW,h]
set_option maxRecDepth 20000 in
theorem yBn (x : Waterway) (q : Int) (hl : x.small) : yB Tryz.prog 70 [.agg (x.enc.map .c),.c (.i q)] (.agg ((yaW x q).enc.map .c)):=by
 have hl0:=hl
 obtain ⟨s1,s2,s3,s4,s5,s6,s7,s8,s9⟩:=hl
 have s11:=s1.1; have s31:=s3.1
 refine yh ys2 ?_
 simp -dsimp -implicitDefEqProofs
 refine yc (yns x hl0) ?_
 cases h : yar x with
 | false=>simp -dsimp -implicitDefEqProofs; simp [yls,ycg,h]
 | true =>
 simp -dsimp -implicitDefEqProofs
 refine yc (yC q 0 1000000000) ?_
 cases hq : inRange q 0 1000000000 with
 | false=>simp -dsimp -implicitDefEqProofs; simp [yls,ycg,hq]
 | true =>
 have hc : ycg x q = true:=by simp [ycg,h,hq]
 have hw:=yqj h
 have pl:=yln h
 have p1:=pl.two; have p2:=pl.ways; have p3:=pl.wks
 have e : yaW x q = ⟨x.Time,(stR x q).set (x.Reaches.length - 1) (ysP (stR x q) (stW x q) x.Ways (x.Reaches.length - 1)).1,x.Ways,stW x q,x.Movers,x.Arrived,x.Entered,x.Tariff,x.Book,x.Passings,x.Start,x.In,x.Out + (ysP (stR x q) (stW x q) x.Ways (x.Reaches.length - 1)).2⟩:=by simp [yaW,hc]
 rw [e]
 simp -dsimp -implicitDefEqProofs
 refine yjo (yyV x.Reaches s11) (by simp) rfl (by simp [yU]) ?_
 simp -dsimp -implicitDefEqProofs
 refine yjo (yxK x.Works s31) (by simp) rfl (by simp [yU]) ?_
 simp -dsimp -implicitDefEqProofs
 intro hlen
 refine yg (ι:=Nat) (fun k=>k ≤ x.Works.length) (fun k=>yO [(1,.c (.i q)),(2,.box 2 0),(4,.box 4 0),(5,.box 5 0),(34,.own 31 22 x.Works.length),(35,.c (.i x.Works.length)),(36,.c (.i k))] [(2,.box (x.enc.map .c)),(4,.box [.c (.i 0),.nil 3,.nil 2,.nil 22,.nil 1,.nil 2,.nil 1,.c (.i 0),.c (.i 0),.nil 1,.nil 1,.nil 5,.nil 4,.c (.i 0),.c (.i 0),.c (.i 0)]),(5,.box [.c (.i x.Time),.own 27 3 x.Reaches.length,.c (.sl 2 (x.Ways.map Way.enc)),.own 31 22 x.Works.length,.c (.sl 1 (x.Movers.map yZ)),.c (.sl 2 (x.Arrived.map Train.enc)),.c (.sl 1 (x.Entered.map yJ)),.c (.i x.Tariff.Base),.c (.i x.Tariff.PerArea),.c (.sl 1 (x.Tariff.PerClass.map yJ)),.c (.sl 1 (x.Tariff.Weights.map yJ)),.c (.sl 5 (x.Book.map Entry.enc)),.c (.sl 4 (x.Passings.map Passing.enc)),.c (.i x.Start),.c (.i x.In),.c (.i x.Out)]),(27,.row 3 (ycU (yah q x.Reaches x.Works k).1)),(31,.row 22 (ygA (yah q x.Reaches x.Works k).2))]) (fun k=>x.Works.length - k) 0 (by simp) (by apply yj <;> simp [yah,ycU,ygA,yt]) ?_
 rintro k hk
 obtain ⟨l1,l2⟩:=yeK (q:=q) (rs:=x.Reaches) (ws:=x.Works) k
 obtain ⟨a1,a2,_,_⟩:=yg0 (q:=q) s1 s3 (by omega) k hk
 have hst1 : (yah q x.Reaches x.Works (k + 1)).1 = ((yah q x.Reaches x.Works k).1.set k (through q (yah q x.Reaches x.Works k).1 (yah q x.Reaches x.Works k).2 k).1).set (k + 1) (through q (yah q x.Reaches x.Works k).1 (yah q x.Reaches x.Works k).2 k).2.1:=rfl
 have hst2 : (yah q x.Reaches x.Works (k + 1)).2 = (yah q x.Reaches x.Works k).2.set k (yhZ (dW (yah q x.Reaches x.Works k).2 k) (yc2 q (yah q x.Reaches x.Works k).1 (yah q x.Reaches x.Works k).2 k)):=rfl
 rcases Nat.lt_or_ge k x.Works.length with klt | kge
 ·obtain ⟨rs2,hrs2⟩ : ∃ r,(yah q x.Reaches x.Works (k + 1)).1 = r:=⟨_,rfl⟩
  obtain ⟨ws2,hws2⟩ : ∃ r,(yah q x.Reaches x.Works (k + 1)).2 = r:=⟨_,rfl⟩
  rw [hrs2] at hst1
  rw [hws2] at hst2
  generalize (yah q x.Reaches x.Works k).1 = rs at *
  generalize (yah q x.Reaches x.Works k).2 = ws at *
  have r1:=ykk (rs:=rs) (k:=k) (by omega)
  have r2:=ykk (rs:=rs) (k:=k + 1) (by omega)
  have w1:=ytH (ws:=ws) (k:=k) (by omega)
  have sr1:=a1.2 _ (List.mem_of_getElem? r1)
  have sr2:=a1.2 _ (List.mem_of_getElem? r2)
  have sw1:=a2.2 _ (List.mem_of_getElem? w1)
  have hnw : yc2 q rs ws k = ybb (dW ws k).Weir (dW ws k).Rule (yal (dR rs k)) (yal (dR rs (k + 1))) q:=rfl
  have hth : through q rs ws k = yau (dR rs k) (dR rs (k + 1)) (yc2 q rs ws k):=rfl
  rw [hth] at hst1
  have hLT:=ynL (dR rs k) (dR rs (k + 1)) (yc2 q rs ws k) sr1 sr2
  generalize yc2 q rs ws k = nw at *
  have ar1:=yhj r1
  have ar2:=yhj r2
  have aw1:=yk0 w1
  generalize dR rs k = ra at *
  generalize dR rs (k + 1) = rb at *
  generalize dW ws k = wk at *
  generalize yau ra rb nw = LT at *
  obtain ⟨k',hk'⟩ : ∃ k',k' = k + 1:=⟨_,rfl⟩
  have ek : ((k : Int) + 1) = (k' : Int):=by omega
  rw [← hk'] at ar2 hst1
  have sR : ∀ (rs : List Reach) (j : Nat) (r : Reach),(ycU rs).set j [.sl 2 (r.Table.map Point.enc),.i r.Volume,.sl 1 (r.Pipe.map yJ)] = ycU (rs.set j r):=fun _ _ _=>yjJ
  have sW:=yr3 (ws:=ws) (k:=k) (w:=yhZ wk nw)
  rw [← hst2] at sW
  simp only [Reach.enc] at ar1 ar2
  simp only [Work.enc,yhZ] at aw1 sW
  have gr1:=(List.getElem?_eq_some_iff.1 ar1).2
  have gr2:=(List.getElem?_eq_some_iff.1 ar2).2
  have gw1:=(List.getElem?_eq_some_iff.1 aw1).2
  have n1 : k < x.Reaches.length:=by omega
  have n2 : k' < x.Reaches.length:=by omega
  simp -dsimp -implicitDefEqProofs [ybE,ycB,l1,l2,ar1,gr1,ar2,gr2,aw1,gw1,klt,yG klt,n1,n2,ek]
  refine ⟨by unfold inI; omega,?_⟩
  refine ya2 (yel ra) (by simp -dsimp -implicitDefEqProofs) (.inr rfl) ?_
  simp -dsimp -implicitDefEqProofs
  refine ya2 (yel rb) (by simp -dsimp -implicitDefEqProofs) (.inr rfl) ?_
  simp -dsimp -implicitDefEqProofs
  have hSW:=yoD wk.Weir wk.Rule (yal ra) (yal rb) q
  rw [← hnw] at hSW
  refine ya2 (hSW) (by simp -dsimp -implicitDefEqProofs) (.inr rfl) ?_
  simp -dsimp -implicitDefEqProofs [ybE,ycB,l1,l2,ar1,gr1,ar2,gr2,aw1,gw1,klt,n1,n2,ek]
  refine ⟨by unfold inI; omega,?_⟩
  refine ya2 (hLT) (by simp -dsimp -implicitDefEqProofs) (.inl rfl) ?_
  have hset : ((ycU rs).set k [.sl 2 (LT.1.Table.map Point.enc),.i LT.1.Volume,.sl 1 (LT.1.Pipe.map yJ)]).set k' [.sl 2 (LT.2.1.Table.map Point.enc),.i LT.2.1.Volume,.sl 1 (LT.2.1.Pipe.map yJ)] = ycU rs2:=by rw [sR,sR,hst1]
  have hgs : ∀ (X : List C) (h),((ycU rs).set k X)[k']'h = [.sl 2 (rb.Table.map Point.enc),.i rb.Volume,.sl 1 (rb.Pipe.map yJ)]:=fun X h=>by rw [List.getElem_set_ne (by omega)]; exact gr2
  simp -dsimp -implicitDefEqProofs [ybE,ycB,l1,l2,ar1,gr1,ar2,gr2,aw1,gw1,klt,n1,n2,ek,hset,sW,hgs]
  refine ⟨by unfold inI; omega,k + 1,klt,by omega,?_⟩
  apply yj <;> simp [hset,sW,hrs2,hws2,ek,hgs]
 ·have hkn : k = x.Works.length:=by omega
  subst hkn
  have hR : (yah q x.Reaches x.Works x.Works.length).1 = stR x q:=rfl
  have hW : (yah q x.Reaches x.Works x.Works.length).2 = stW x q:=rfl
  rw [hR] at l1 a1
  rw [hW] at l2 a2
  rw [hR,hW]
  generalize stR x q = rs at *
  generalize stW x q = ws at *
  obtain ⟨n,hn⟩ : ∃ n,n = x.Reaches.length - 1:=⟨_,rfl⟩
  have en : ((x.Reaches.length : Int) - 1) = (n : Int):=by omega
  obtain ⟨m,hm⟩ : ∃ m,m = n - 1:=⟨_,rfl⟩
  have em : ((n : Int) - 1) = (m : Int):=by omega
  rw [← hn]
  have r1:=ykk (rs:=rs) (k:=n) (by omega)
  have w1:=ytH (ws:=ws) (k:=m) (by omega)
  have hy : x.Ways[n]? = some (x.Ways.getD n default):=by rw [List.getD_eq_getElem?_getD,List.getElem?_eq_getElem (by omega)]; rfl
  have sr1:=a1.2 _ (List.mem_of_getElem? r1)
  have hT : ysP rs ws x.Ways n = yao (dR rs n) (yaD (dW ws m).Weir (yal (dR rs n)) 0) (yac (dR rs n).Table (x.Ways.getD n default).Bed):=by rw [hm]; rfl
  rw [hT]
  have ar1:=yhj r1
  have aw1:=yk0 w1
  generalize dR rs n = ra at *
  generalize dW ws m = wk at *
  generalize x.Ways.getD n default = wy at *
  have gy:=(List.getElem?_eq_some_iff.1 hy).2
  have sR : ∀ (rs : List Reach) (j : Nat) (r : Reach),(ycU rs).set j [.sl 2 (r.Table.map Point.enc),.i r.Volume,.sl 1 (r.Pipe.map yJ)] = ycU (rs.set j r):=fun _ _ _=>yjJ
  simp only [Reach.enc] at ar1
  simp only [Work.enc] at aw1
  have gr1:=(List.getElem?_eq_some_iff.1 ar1).2
  have gw1:=(List.getElem?_eq_some_iff.1 aw1).2
  have n1 : n < x.Reaches.length:=by omega
  have n2 : m < x.Works.length:=by omega
  have n3 : n < x.Ways.length:=by omega
  simp -dsimp -implicitDefEqProofs [ybE,ycB,l1,l2,ar1,gr1,aw1,gw1,n1,n2,n3,hy,gy,en,em]
  intro hlen2
  refine ⟨by unfold inI; omega,by unfold inI; omega,?_⟩
  refine ⟨_,_,yel ra,by simp -dsimp -implicitDefEqProofs,.inr rfl,?_⟩
  simp -dsimp -implicitDefEqProofs
  refine ⟨_,_,ygM wk.Weir (yal ra) 0,by simp -dsimp -implicitDefEqProofs [aw1,gw1,gr1,n2],.inr rfl,?_⟩
  simp -dsimp -implicitDefEqProofs [n3,hy,gy]
  refine ya2 (yh5 ra.Table wy.Bed) (by simp -dsimp -implicitDefEqProofs) (.inr rfl) ?_
  simp -dsimp -implicitDefEqProofs
  have hP:=yj4 ra (yaD wk.Weir (yal ra) 0) (yac ra.Table wy.Bed) sr1
  have hto:=yoY ra (yaD wk.Weir (yal ra) 0) (yac ra.Table wy.Bed)
  refine ya2 (hP) (by simp -dsimp -implicitDefEqProofs) (.inl rfl) ?_
  generalize yao ra (yaD wk.Weir (yal ra) 0) (yac ra.Table wy.Bed) = z at *
  have w5:=hw.out
  simp -dsimp -implicitDefEqProofs [ybE,l1,n1,gr1,ar1,sR]
  refine ⟨by unfold inI; omega,?_,(List.take_of_length_le (by show (ygA ws).length ≤ _; rw [ycB]; omega)).symm⟩
  rw [List.take_of_length_le (by rw [ybE,List.length_set]; omega)]
  exact sR rs n z.1
theorem yRA (es : List Train) : yB Tryz.prog 101 [.c (.sl 2 (es.map Train.enc))] (.clip 2 (es.map Train.enc)):=by
 refine yh yPq ?_
 simp -dsimp -implicitDefEqProofs [yPg,yt]
theorem yafi : ∀ {ms : List (List Mover)},(∀ l ∈ ms,l = []) → ms.map yZ = List.replicate ms.length [C.sl 3 []]
 | [],_=>rfl
 | l :: ms,h=>by
  rw [List.map_cons,yafi (ms:=ms) fun l hl=>h l (by simp [hl]),h l (by simp),List.length_cons,List.replicate_succ]
  rfl
def yaeN (x : Waterway) : List AV:=[.c (.i x.Time),.c (.sl 3 (x.Reaches.map Reach.enc)),.c (.sl 2 (x.Ways.map Way.enc)),.own 18 22 x.Works.length,.own 23 1 x.Movers.length,.clip 2 (x.Arrived.map Train.enc),.c (.sl 1 (x.Entered.map yJ)),.c (.i x.Tariff.Base),.c (.i x.Tariff.PerArea),.c (.sl 1 (x.Tariff.PerClass.map yJ)),.c (.sl 1 (x.Tariff.Weights.map yJ)),.c (.sl 5 (x.Book.map Entry.enc)),.c (.sl 4 (x.Passings.map Passing.enc)),.c (.i x.Start),.c (.i x.In),.c (.i x.Out)]
set_option maxHeartbeats 4000000 in
set_option maxRecDepth 40000 in
theorem yagn (x : Waterway) (hs : x.small) (hi : Idle x) : yB Tryz.prog 69 [.agg (x.enc.map .c)] (.agg (x.enc.map .c)):=by
 have hW:=yns x hs
 have s41:=hs.2.2.2.1.1
 have s31:=hs.2.2.1.1
 have hM:=yafi hi.mv
 refine yh yQ8 ?_
 simp -dsimp -implicitDefEqProofs
 refine yaQ (hW) (by simp -dsimp -implicitDefEqProofs) rfl ?_
 cases hok : yar x with
 | false=>simp -dsimp -implicitDefEqProofs
 | true =>
 have pl:=yln hok
 have f1:=pl.two
 have f2:=hs.1.1
 simp -dsimp -implicitDefEqProofs
 refine yjo (yxK x.Works s31) (by simp) rfl (by simp [yU]) ?_
 simp -dsimp -implicitDefEqProofs [yt]
 refine fun hlen=>⟨by omega,yQd ?_⟩
 simp -dsimp -implicitDefEqProofs
 refine yaP (yRA x.Arrived) (by simp -dsimp -implicitDefEqProofs) rfl ?_
 simp -dsimp -implicitDefEqProofs
 refine fun hlen2=>⟨by unfold inI; omega,fun hlen3=>?_⟩
 refine yg (ι:=Nat) (fun k=>k ≤ x.Movers.length) (fun k=>yO [(1,.box 1 0),(2,.box 2 0),(3,.box 3 0),(4,.c (.i ((x.Reaches.length : Int) - 1))),(34,.c (.sl 1 (x.Movers.map yZ))),(35,.c (.i x.Movers.length)),(36,.c (.i k))] [(1,.box (x.enc.map .c)),(2,.box [.c (.i 0),.nil 3,.nil 2,.nil 22,.nil 1,.nil 2,.nil 1,.c (.i 0),.c (.i 0),.nil 1,.nil 1,.nil 5,.nil 4,.c (.i 0),.c (.i 0),.c (.i 0)]),(3,.box (yaeN x)),(18,.row 22 (x.Works.map Work.enc)),(23,.row 1 (List.replicate x.Movers.length [.sl 3 []]))]) (fun k=>x.Movers.length - k) 0 (by simp) (by apply yj <;> simp [yaeN]) ?_
 rintro k hk
 rcases Nat.lt_or_ge k x.Movers.length with klt | kge
 ·obtain ⟨ms,hms⟩ : ∃ ms,x.Movers[k]? = some ms:=⟨_,List.getElem?_eq_getElem klt⟩
  have gms:=(List.getElem?_eq_some_iff.1 hms).2
  obtain rfl : ms = []:=hi.mv ms (List.mem_of_getElem? hms)
  simp -dsimp -implicitDefEqProofs [hms,gms,klt,yG klt]
  refine yg (ι:=Unit) (fun _=>True) (fun _=>yO [(1,.box 1 0),(2,.box 2 0),(3,.box 3 0),(4,.c (.i ((x.Reaches.length : Int) - 1))),(34,.c (.sl 1 (x.Movers.map yZ))),(35,.c (.i x.Movers.length)),(36,.c (.i k)),(5,.c (.i k)),(41,.c (.sl 3 [])),(42,.c (.i 0)),(43,.c (.i 0))] [(1,.box (x.enc.map .c)),(2,.box [.c (.i 0),.nil 3,.nil 2,.nil 22,.nil 1,.nil 2,.nil 1,.c (.i 0),.c (.i 0),.nil 1,.nil 1,.nil 5,.nil 4,.c (.i 0),.c (.i 0),.c (.i 0)]),(3,.box (yaeN x)),(18,.row 22 (x.Works.map Work.enc)),(23,.row 1 (List.replicate x.Movers.length [.sl 3 []]))]) (fun _=>0) () trivial (by apply yj <;> simp [yaeN]) ?_
  rintro _ _
  simp -dsimp -implicitDefEqProofs
  refine ⟨yw klt hlen3,k + 1,klt,by omega,?_⟩
  apply yj <;> simp [yaeN]
 ·have hV:=hW
  simp only [Waterway.enc,hM] at hV
  simp -dsimp -implicitDefEqProofs [yaB kge,yaeN]
  refine yaQ (hV) (by simp -dsimp -implicitDefEqProofs [yt]) rfl ?_
  simp -dsimp -implicitDefEqProofs [hok,hM,yt]
end Go.Proofs.YtpiplmnecmkafaaGreat
