/- What the law FnExactPourWater stands on: contracts of functions, what each answers as plain Lean, in short form (names, layout). -/
import Derived.Test.YtmimbhooaidelaaGreatSExactPourWater3
set_option linter.all false
namespace Go.Proofs.YtmimbhooaidelaaGreat
open Go.RowKit
def ye2 : List Passing → Prop:=ycP Passing.small
theorem yuw : yeV ycL ye2:=yjl yoo
theorem yvh (xs : List Passing) (l : Int) (h0 : 0 ≤ l) (h1 : l ≤ 1048576) : yE Tryz.prog ye8 [.c (.sl 4 (xs.map Passing.enc)),.c (.i l)] (.c (.i (ycL xs l))):=by
 refine yu yqi (by simp) fun hwf=>?_
 simp -dsimp -implicitDefEqProofs [yjo]
 intro hl
 have hs : szS xs.length l = if l - xs.length < 0 then -1 else l - xs.length:=rfl
 refine ⟨by unfold maxLen at hl; unfold inI; omega,fun h=>?_,fun h=>?_⟩
 ·simp [ycL,yfw,ybh,hs,h]
 have h' : 0 ≤ l - xs.length:=by omega
 have e0 : ycL xs l = yas ybD xs (l - xs.length):=by
  have : szS xs.length l = l - xs.length:=by rw [hs,if_neg (by omega)]
  simp only [ycL,yfw]
  rw [this,yw h']
 refine yh (ι:=Nat × Int) (fun p=>p.1 ≤ xs.length ∧ 0 ≤ p.2 ∧ p.2 ≤ 1048576 ∧ yas ybD (xs.drop p.1) p.2 = ycL xs l) (fun p=>yT [(0,.c (.sl 4 (xs.map Passing.enc))),(1,.c (.i p.2)),(5,.c (.i p.1))] []) (fun p=>xs.length - p.1) (0,l - xs.length) ⟨by simp,h',by simp only; omega,by simp [e0]⟩ (by apply yj <;> simp [AV.yc,AV.yB,Obj.yc]) ?_
 rintro ⟨k,q⟩ ⟨hk,hq0,hq1,hf⟩
 simp only at hk hq0 hq1 hf
 rcases Nat.lt_or_ge k xs.length with hlt | hge
 ·obtain ⟨e,he⟩ : ∃ e,xs[k]? = some e:=⟨_,List.getElem?_eq_getElem hlt⟩
  have hd : xs.drop k = e :: xs.drop (k + 1):=by
   rw [List.drop_eq_getElem_cons hlt,(List.getElem?_eq_some_iff.1 he).2]
  rw [hd,yas] at hf
  simp -dsimp -implicitDefEqProofs [he,yI hlt]
  refine fun _=>yg (ywY e q hq0 hq1) (by simp) rfl ?_
  simp -dsimp -implicitDefEqProofs
  refine ⟨fun h=>by rw [← hf,yN h],fun h=>⟨yA hlt hl,k + 1,⟨ybD e q,?_⟩⟩⟩
  rw [yw h] at hf
  have hle : ybD e q ≤ 1048576:=by
   rcases yoo e q hq0 hq1 with e1 | e1
   ·omega
   ·omega
  exact ⟨⟨hlt,h,hle,hf⟩,by omega,by apply yj <;> simp [AV.yc,AV.yB,Obj.yc]⟩
 ·simp -dsimp -implicitDefEqProofs [yau hge]
  rw [List.drop_of_length_le hge] at hf
  intro _
  first | simpa [yas] using hf | simpa [yas] using hf.symm
theorem yxs (xs : List Passing) (hl : ye2 xs) : yE Tryz.prog yc4 [.c (.sl 4 (xs.map Passing.enc))] (.c (.sl 4 (xs.map Passing.enc))):=by
 refine yu yjc (by simp) fun hwf=>?_
 simp -dsimp -implicitDefEqProofs [ye5]
 intro hlen
 have hl1:=hl.1
 refine ⟨by omega,?_⟩
 refine yh (ι:=Nat) (fun k=>k ≤ xs.length) (fun k=>yT [(0,.c (.sl 4 (xs.map Passing.enc))),(3,.own 7 4 xs.length),(4,.c (.i k))] [(7,.row 4 (partly Passing.enc [.i 0,.i 0,.b false,.sl 1 []] xs k))]) (fun k=>xs.length - k) 0 (by simp) (by apply yj <;> simp [AV.yc,AV.yB,Obj.yc,yac]) ?_
 rintro k hk
 rcases Nat.lt_or_ge k xs.length with hlt | hge
 ·obtain ⟨e,he⟩ : ∃ e,xs[k]? = some e:=⟨_,List.getElem?_eq_getElem hlt⟩
  have hs:=yai (f:=Passing.enc) (z:=[.i 0,.i 0,.b false,.sl 1 []]) he
  have hd:=yar (f:=Passing.enc) (z:=[.i 0,.i 0,.b false,.sl 1 []]) (n:=4) rfl hlt
  simp only [Passing.enc,Train.enc] at hs
  simp -dsimp -implicitDefEqProofs [he,yI hlt]
  refine fun _=>yL (yyr e (hl.2 e (List.mem_of_getElem? he))) (by simp) rfl ?_
  simp -dsimp -implicitDefEqProofs [yI hlt,yaj hk,hd,hs]
  exact ⟨hlt,yA hlt hlen,k + 1,hlt,by omega,by apply yj <;> simp [AV.yc,AV.yB,Obj.yc]⟩
 ·simp -dsimp -implicitDefEqProofs [yau hge]
  intro _
  rw [yak hge,List.take_of_length_le (by simp)]
theorem yxq (es fs : List Passing) : yE Tryz.prog yeU [.c (.sl 4 (es.map Passing.enc)),.c (.sl 4 (fs.map Passing.enc))] (.c (.b (decide (es = fs)))):=by
 refine yu yqs (by simp) fun hwf=>?_
 simp -dsimp -implicitDefEqProofs [yjq]
 intro hl1 hl2
 refine ⟨fun h e=>h (by rw [e]),fun hlen=>?_⟩
 have hlen' : es.length = fs.length:=by omega
 refine yh (ι:=Nat) (fun k=>k ≤ es.length ∧ es.take k = fs.take k) (fun k=>yT [(0,.c (.sl 4 (es.map Passing.enc))),(1,.c (.sl 4 (fs.map Passing.enc))),(5,.c (.i k))] []) (fun k=>es.length - k) 0 (by simp) (by apply yj <;> simp [AV.yc,AV.yB,Obj.yc]) ?_
 rintro k ⟨hk,htk⟩
 rcases Nat.lt_or_ge k es.length with hlt | hge
 ·obtain ⟨e,he⟩ : ∃ e,es[k]? = some e:=⟨_,List.getElem?_eq_getElem hlt⟩
  obtain ⟨f,hf⟩ : ∃ f,fs[k]? = some f:=⟨_,List.getElem?_eq_getElem (by omega)⟩
  simp -dsimp -implicitDefEqProofs [he,hf,yI hlt,yI (hlen' ▸ hlt)]
  intro _
  refine ⟨_,_,yyp e f,by simp,.inr rfl,?_⟩
  simp -dsimp -implicitDefEqProofs
  refine ⟨fun h=>yby he hf h,fun h=>⟨yA hlt hl1,k + 1,⟨hlt,yaL he hf htk h⟩,by omega,by apply yj <;> simp [AV.yc,AV.yB,Obj.yc]⟩⟩
 ·simp -dsimp -implicitDefEqProofs [yau hge]
  intro _
  exact ya9 hge hlen' htk
structure Waterway where
 Time : Int
 Reaches : List Reach
 Ways : List Way
 Works : List Work
 Movers : List (List Mover)
 Arrived : List Train
 Entered : List Int
 Tariff : Tariff
 Book : List Entry
 Passings : List Passing
 Start : Int
 In : Int
 Out : Int
 deriving DecidableEq
@[simp] def Waterway.enc (e : Waterway) : List C:=[.i e.Time,.sl 3 (e.Reaches.map Reach.enc),.sl 2 (e.Ways.map Way.enc),.sl 22 (e.Works.map Work.enc),.sl 1 (e.Movers.map yV),.sl 2 (e.Arrived.map Train.enc),.sl 1 (e.Entered.map yJ),.i e.Tariff.Base,.i e.Tariff.PerArea,.sl 1 (e.Tariff.PerClass.map yJ),.sl 1 (e.Tariff.Weights.map yJ),.sl 5 (e.Book.map Entry.enc),.sl 4 (e.Passings.map Passing.enc),.i e.Start,.i e.In,.i e.Out]
-- Waterway
def yaR (e : Waterway) (l : Int) : Int:=ybh (yey e.Reaches l) fun l=>ybh (yqq e.Ways l) fun l=>ybh (ygz e.Works l) fun l=>ybh (ydn e.Movers l) fun l=>ybh (yds e.Arrived l) fun l=>ybh (ylx e.Entered l) fun l=>ybh (ydx e.Tariff l) fun l=>ybh (ykv e.Book l) fun l=>ybh (ycL e.Passings l) fun l=>l
def Waterway.small (e : Waterway) : Prop:=ycR e.Reaches ∧ ylj e.Ways ∧ ygD e.Works ∧ ygc e.Movers ∧ ybM e.Arrived ∧ yo4 e.Entered ∧ e.Tariff.small ∧ ypK e.Book ∧ ye2 e.Passings
theorem yt9 : yeV yaR Waterway.small:=by
 intro e l h0 h1
 unfold yaR
 rcases yqt e.Reaches _ h0 h1 with e0 | ⟨a0,b0,s0⟩
 ·exact .inl (yN (by omega))
 rw [yw a0]
 rcases ysp e.Ways _ a0 (by omega) with e1 | ⟨a1,b1,s1⟩
 ·exact .inl (yN (by omega))
 rw [yw a1]
 rcases yrw e.Works _ a1 (by omega) with e2 | ⟨a2,b2,s2⟩
 ·exact .inl (yN (by omega))
 rw [yw a2]
 rcases yor e.Movers _ a2 (by omega) with e3 | ⟨a3,b3,s3⟩
 ·exact .inl (yN (by omega))
 rw [yw a3]
 rcases ylv e.Arrived _ a3 (by omega) with e4 | ⟨a4,b4,s4⟩
 ·exact .inl (yN (by omega))
 rw [yw a4]
 rcases yfE e.Entered _ a4 (by omega) with e5 | ⟨a5,b5,s5⟩
 ·exact .inl (yN (by omega))
 rw [yw a5]
 rcases ypu e.Tariff _ a5 (by omega) with e6 | ⟨a6,b6,s6⟩
 ·exact .inl (yN (by omega))
 rw [yw a6]
 rcases ypT e.Book _ a6 (by omega) with e7 | ⟨a7,b7,s7⟩
 ·exact .inl (yN (by omega))
 rw [yw a7]
 rcases yuw e.Passings _ a7 (by omega) with e8 | ⟨a8,b8,s8⟩
 ·exact .inl (yN (by omega))
 rw [yw a8]
 exact .inr ⟨a8,by omega,s0,s1,s2,s3,s4,s5,s6,s7,s8⟩
theorem yuO (e : Waterway) (l : Int) (h0 : 0 ≤ l) (h1 : l ≤ 1048576) : yE Tryz.prog ye4 [.agg (e.enc.map .c),.c (.i l)] (.c (.i (yaR e l))):=by
 refine yu ypx (by simp) fun hwf=>?_
 simp -dsimp -implicitDefEqProofs [yiV]
 refine yg (yxV e.Reaches _ h0 h1) (by simp) rfl ?_
 simp -dsimp -implicitDefEqProofs
 refine ⟨fun h=>by simp [yaR,yN h],fun p0=>?_⟩
 have q0:=ylI yqt e.Reaches h0 h1 p0
 refine yg (yB4 e.Ways _ p0 q0) (by simp) rfl ?_
 simp -dsimp -implicitDefEqProofs
 refine ⟨fun h=>by simp [yaR,yw p0,yN h],fun p1=>?_⟩
 have q1:=ylI ysp e.Ways p0 q0 p1
 refine yg (yzp e.Works _ p1 q1) (by simp) rfl ?_
 simp -dsimp -implicitDefEqProofs
 refine ⟨fun h=>by simp [yaR,yw p0,yw p1,yN h],fun p2=>?_⟩
 have q2:=ylI yrw e.Works p1 q1 p2
 refine yg (yxu e.Movers _ p2 q2) (by simp) rfl ?_
 simp -dsimp -implicitDefEqProofs
 refine ⟨fun h=>by simp [yaR,yw p0,yw p1,yw p2,yN h],fun p3=>?_⟩
 have q3:=ylI yor e.Movers p2 q2 p3
 refine yg (yri e.Arrived _ p3 q3) (by simp) rfl ?_
 simp -dsimp -implicitDefEqProofs
 refine ⟨fun h=>by simp [yaR,yw p0,yw p1,yw p2,yw p3,yN h],fun p4=>?_⟩
 have q4:=ylI ylv e.Arrived p3 q3 p4
 refine yg (ynP e.Entered _ p4 q4) (by simp) rfl ?_
 simp -dsimp -implicitDefEqProofs
 refine ⟨fun h=>by simp [yaR,yw p0,yw p1,yw p2,yw p3,yw p4,yN h],fun p5=>?_⟩
 have q5:=ylI yfE e.Entered p4 q4 p5
 refine yg (yyv e.Tariff _ p5 q5) (by simp) rfl ?_
 simp -dsimp -implicitDefEqProofs
 refine ⟨fun h=>by simp [yaR,yw p0,yw p1,yw p2,yw p3,yw p4,yw p5,yN h],fun p6=>?_⟩
 have q6:=ylI ypu e.Tariff p5 q5 p6
 refine yg (yxP e.Book _ p6 q6) (by simp) rfl ?_
 simp -dsimp -implicitDefEqProofs
 refine ⟨fun h=>by simp [yaR,yw p0,yw p1,yw p2,yw p3,yw p4,yw p5,yw p6,yN h],fun p7=>?_⟩
 have q7:=ylI ypT e.Book p6 q6 p7
 refine yg (yvh e.Passings _ p7 q7) (by simp) rfl ?_
 simp -dsimp -implicitDefEqProofs
 refine ⟨fun h=>by simp [yaR,yw p0,yw p1,yw p2,yw p3,yw p4,yw p5,yw p6,yw p7,yN h],fun p8=>?_⟩
 simp [yaR,yw p0,yw p1,yw p2,yw p3,yw p4,yw p5,yw p6,yw p7,yw p8]
theorem yla (e : Waterway) (hl : Waterway.small e) : yE Tryz.prog ybd [.agg (e.enc.map .c)] (.agg (e.enc.map .c)):=by
 refine yu yi1 (by simp) fun hwf=>?_
 simp -dsimp -implicitDefEqProofs [yfp]
 refine yL (yAp e.Reaches (hl.1)) (by simp) rfl ?_
 simp -dsimp -implicitDefEqProofs
 refine yL (yEe e.Ways (hl.2.1)) (by simp) rfl ?_
 simp -dsimp -implicitDefEqProofs
 refine yL (yB7 e.Works (hl.2.2.1)) (by simp) rfl ?_
 simp -dsimp -implicitDefEqProofs
 refine yL (yyM e.Movers (hl.2.2.2.1)) (by simp) rfl ?_
 simp -dsimp -implicitDefEqProofs
 refine yL (ysP e.Arrived (hl.2.2.2.2.1)) (by simp) rfl ?_
 simp -dsimp -implicitDefEqProofs
 refine yL (ypU e.Entered (hl.2.2.2.2.2.1.1)) (by simp) rfl ?_
 simp -dsimp -implicitDefEqProofs
 refine yL (yzt e.Tariff (hl.2.2.2.2.2.2.1)) (by simp) rfl ?_
 simp -dsimp -implicitDefEqProofs
 refine yL (yAs e.Book (hl.2.2.2.2.2.2.2.1.1)) (by simp) rfl ?_
 simp -dsimp -implicitDefEqProofs
 refine yL (yxs e.Passings (hl.2.2.2.2.2.2.2.2)) (by simp) rfl ?_
 simp -dsimp -implicitDefEqProofs
theorem yhu (a b : Waterway) : yE Tryz.prog ybx [.agg (a.enc.map .c),.agg (b.enc.map .c)] (.c (.b (decide (a = b)))):=by
 refine yu yp6 (by simp) fun hwf=>?_
 obtain ⟨a0,a1,a2,a3,a4,a5,a6,a7,a8,a9,a10,a11,a12⟩:=a
 obtain ⟨b0,b1,b2,b3,b4,b5,b6,b7,b8,b9,b10,b11,b12⟩:=b
 simp -dsimp -implicitDefEqProofs [yiT,Waterway.mk.injEq]
 refine ⟨fun h=>by simp_all,fun h0=>?_⟩
 refine yg (yzK a1 b1) (by simp) rfl ?_
 simp -dsimp -implicitDefEqProofs
 refine ⟨fun h=>by simp_all,fun h1=>?_⟩
 refine yg (yCv a2 b2) (by simp) rfl ?_
 simp -dsimp -implicitDefEqProofs
 refine ⟨fun h=>by simp_all,fun h2=>?_⟩
 refine yg (yBA a3 b3) (by simp) rfl ?_
 simp -dsimp -implicitDefEqProofs
 refine ⟨fun h=>by simp_all,fun h3=>?_⟩
 refine yg (yxE a4 b4) (by simp) rfl ?_
 simp -dsimp -implicitDefEqProofs
 refine ⟨fun h=>by simp_all,fun h4=>?_⟩
 refine yg (ytR a5 b5) (by simp) rfl ?_
 simp -dsimp -implicitDefEqProofs
 refine ⟨fun h=>by simp_all,fun h5=>?_⟩
 refine yg (yqb a6 b6) (by simp) rfl ?_
 simp -dsimp -implicitDefEqProofs
 refine ⟨fun h=>by simp_all,fun h6=>?_⟩
 refine yg (yz2 a7 b7) (by simp) rfl ?_
 simp -dsimp -implicitDefEqProofs
 refine ⟨fun h=>by simp_all,fun h7=>?_⟩
 refine yg (yz4 a8 b8) (by simp) rfl ?_
 simp -dsimp -implicitDefEqProofs
 refine ⟨fun h=>by simp_all,fun h8=>?_⟩
 refine yg (yxq a9 b9) (by simp) rfl ?_
 simp -dsimp -implicitDefEqProofs
 refine ⟨fun h=>by simp_all,fun h9=>?_⟩
 refine ⟨fun h=>by simp_all,fun h10=>?_⟩
 refine ⟨fun h=>by simp_all,fun h11=>?_⟩
 refine ⟨fun h=>by simp_all,fun h12=>?_⟩
 simp_all
theorem yDF (es : List Boat) (hl : es.length ≤ 1048576) : ybg Tryz.prog yaU [.c (.sl 6 (es.map Boat.enc))] (.c (.ow 6 (es.map Boat.enc))):=by
 refine yaw ydy (by simp) fun hwf=>?_
 simp -dsimp -implicitDefEqProofs [ybB,yt]
 omega
theorem yzl (xs : List (List Boat)) (hl : yeL xs) : ybg Tryz.prog yg3 [.c (.sl 1 (xs.map yah))] (.c (.ot 1 (xs.map yX))):=by
 refine yaw yrQ (by simp) fun hwf=>?_
 simp -dsimp -implicitDefEqProofs [yl9]
 intro hlen
 have hl1:=hl.1
 refine yhK (k0:=1) 3 1 (by simp) (by simp) (by decide) ?_
 refine yh (ι:=Nat) (fun k=>k ≤ xs.length) (fun k=>yT [(3,.own 3 1 k),(6,.c (.sl 1 (xs.map yah))),(7,.c (.i xs.length)),(8,.c (.i k))] [(3,.tr 1 0 ((xs.take k).map yX))]) (fun k=>xs.length - k) 0 (by simp) (by apply yj <;> simp [AV.yc,AV.yB,Obj.yc,Obj.leO]) ?_
 rintro k hk
 rcases Nat.lt_or_ge k xs.length with hlt | hge
 ·obtain ⟨e,he⟩ : ∃ e,xs[k]? = some e:=⟨_,List.getElem?_eq_getElem hlt⟩
  have hs : xs.take (k + 1) = xs.take k ++ [e]:=by rw [List.take_succ,he]; rfl
  simp -dsimp -implicitDefEqProofs [he,yI hlt]
  refine yS (yDF e (hl.2 e (List.mem_of_getElem? he)).1) (by simp ) (by simp [AV.closed,AV.ya3,C.closed]) (by simp [yZ]) ?_
  simp -dsimp -implicitDefEqProofs [yt,Nat.min_eq_left hk]
  refine ⟨by omega,yA hlt hlen,k + 1,hlt,by omega,?_⟩
  have hs2 : (xs.map yX).take (k + 1) = (xs.map yX).take k ++ [[.ow 6 (e.map Boat.enc)]]:=by rw [← List.map_take,← List.map_take,hs,List.map_append]; rfl
  apply yj <;> simp [AV.yc,AV.yB,Obj.yc,Obj.leO,hs2]
 ·have : k = xs.length:=by omega
  subst this
  simp -dsimp -implicitDefEqProofs [yt]
  try simp
theorem yi4 (e : Train) (hl : Train.small e) : ybg Tryz.prog ybQ [.agg (e.enc.map .c)] (.agg (e.yM.map .c)):=by
 refine yaw yqR (by simp) fun hwf=>?_
 simp -dsimp -implicitDefEqProofs [ykf]
 refine yhG (yzl e.Rows hl) (by simp) (by simp [AV.closed,AV.ya3,C.closed,yX]) (by simp [yZ]) ?_
 simp -dsimp -implicitDefEqProofs [yt]
theorem yeM {k : Nat} {xs : List X} {s : St} : wOf (.bsl k xs) s = (xs.map s.ev).flatMap AV.ids:=rfl
theorem ykk (e : Train) (hl : Train.small e) : yE Tryz.prog ybV [.agg (e.enc.map .c)] (.agg (e.enc.map .c)):=by
 refine yu yun (by simp) fun hwf=>?_
 simp -dsimp -implicitDefEqProofs [ymS]
 have hl1:=hl.1
 refine yh (ι:=Nat) (fun k=>k ≤ e.Rows.length) (fun k=>match k with
  | 0=>yT [(1,.box 1 0),(2,.box 2 0),(3,.box 3 0),(4,.c (.i 0))] [(1,.box [.c (.b e.Up),.c (.sl 1 (e.Rows.map yah))]),(2,.box [.c (.b false),.nil 1]),(3,.box [.c (.b e.Up),.nil 1])]
  | k + 1=>yT [(1,.box 1 0),(2,.box 2 0),(3,.box 3 0),(4,.c (.i (k + 1)))] [(1,.box [.c (.b e.Up),.c (.sl 1 (e.Rows.map yah))]),(2,.box [.c (.b false),.nil 1]),(3,.box [.c (.b e.Up),.own 25 1 (k + 1)]),(25,.tr 1 0 ((e.Rows.map yX).take (k + 1)))]) (fun k=>e.Rows.length - k) 0 (by simp) (by apply yj <;> simp [AV.yc,AV.yB,Obj.yc,Obj.leO]) ?_
 rintro k hk
 rcases k with _ | k
 ·rcases Nat.lt_or_ge 0 e.Rows.length with hlt | hge
  ·obtain ⟨r,he⟩ : ∃ r,e.Rows[0]? = some r:=⟨_,List.getElem?_eq_getElem hlt⟩
   have h0 : (0 < e.Rows.length) = True:=by simpa using hlt
   have hgr : e.Rows[0] = r:=(List.getElem?_eq_some_iff.1 he).2
   have hrl:=(hl.2 r (List.mem_of_getElem? he)).1
   simp -dsimp -implicitDefEqProofs [he,h0,hgr,yt,yeM]
   intro hlen
   refine ⟨by omega,by unfold inI; omega,1,hlt,by omega,?_⟩
   have hs2 : (e.Rows.map yX).take 1 = [[.ow 6 (r.map Boat.enc)]]:=by
    obtain ⟨y,l,hy⟩ : ∃ y l,e.Rows = y :: l:=by cases hr : e.Rows with | nil=>rw [hr] at hlt; simp at hlt | cons y l=>exact ⟨y,l,rfl⟩
    rw [hy] at he ⊢; simp at he; subst he; rfl
   apply yj <;> simp [AV.yc,AV.yB,Obj.yc,Obj.leO,hs2]
  ·have hx : e.Rows = []:=List.length_eq_zero_iff.1 (by omega)
   have h0 : (0 < e.Rows.length) = False:=by simp [hx]
   simp -dsimp -implicitDefEqProofs [h0]
   simp [hx]
 ·rcases Nat.lt_or_ge (k + 1) e.Rows.length with hlt | hge
  ·obtain ⟨r,he⟩ : ∃ r,e.Rows[k + 1]? = some r:=⟨_,List.getElem?_eq_getElem hlt⟩
   have h0 : ((k : Int) + 1 < e.Rows.length) = True:=by simp; omega
   have h1 : (0 ≤ (k : Int) + 1) = True:=by simp; omega
   have h2 : ((k : Int) + 1).toNat = k + 1:=by omega
   have hrl:=(hl.2 r (List.mem_of_getElem? he)).1
   simp -dsimp -implicitDefEqProofs [he,h0,h1,h2,yt,yeM]
   intro hlen
   refine ⟨by omega,by omega,by omega,by unfold inI; omega,k + 2,hlt,by omega,?_⟩
   have hs2 : (e.Rows.map yX).take (k + 2) = (e.Rows.map yX).take (k + 1) ++ [[.ow 6 (r.map Boat.enc)]]:=by
    rw [List.take_succ,List.getElem?_map,he]; rfl
   apply yj <;> simp [AV.yc,AV.yB,Obj.yc,Obj.leO,hs2] <;> omega
  ·have h0 : ((k : Int) + 1 < e.Rows.length) = False:=by simp; omega
   have hx : e.Rows.length = k + 1:=by omega
   simp -dsimp -implicitDefEqProofs [h0]
   intro _
   have e1 : (e.Rows.map yX).take (k + 1) = e.Rows.map yX:=List.take_of_length_le (by simp; omega)
   rw [e1,e1,yaf yeZ]
   simp
theorem yyG (n : Nat) (k : Int) (h0 : 0 ≤ k) (h1 : k + 6 * n ≤ 8000000000000000000) : yE Tryz.prog yfP [.c (.sl 6 (marked mkB 6 [] k n)),.c (.i k)] (.c (.i (k + 6 * n))):=by
 refine yu yqH (by simp) fun hwf=>?_
 simp -dsimp -implicitDefEqProofs [ykJ]
 refine yh (ι:=Nat) (fun i=>i ≤ n) (fun i=>yT [(0,.c (.sl 6 (marked mkB 6 [] k n))),(1,.c (.i (k + 6 * i))),(5,.c (.i i))] []) (fun i=>n - i) 0 (by simp) (by apply yj <;> simp [AV.yc,AV.yB,Obj.yc]) ?_
 rintro i hi
 rcases Nat.lt_or_ge i n with hlt | hge
 ·have hg:=yhJ (mk:=mkB) (c:=6) (k:=k) hlt
  simp only [mkB] at hg
  simp -dsimp -implicitDefEqProofs [yP,yI hlt,hg]
  intro hlen
  refine ⟨by unfold inI; omega,by unfold inI; omega,by unfold inI; omega,by unfold inI; omega,by unfold inI; omega,by unfold inI; omega,by unfold inI; omega,i + 1,hlt,by omega,?_⟩
  apply yj <;> simp [AV.yc,AV.yB,Obj.yc] <;> omega
 ·have : i = n:=by omega
  subst this
  simp -dsimp -implicitDefEqProofs [yP]
def fBs (k : Int) (r : List Boat) : List C:=[.sl 6 (marked mkB 6 [] k r.length)]
theorem ya7 {α : Type} {f g : Int → α → List C} {n : α → Nat} (h : ∀ k x,ybR (f k x) = some (g k x)) : ∀ (l : List α) (k : Int),yo5 (yay f n k l) = some (yay g n k l)
 | [],_=>rfl
 | x :: l,k=>by simp [yay,yo5,h k x,ya7 h l]
theorem ywj (k : Int) (r : List Boat) : ybR (fB k r) = some (fBs k r):=rfl
theorem yhA (xs : List (List Boat)) (k : Int) (h0 : 0 ≤ k) (h1 : k + cnt nB xs ≤ 8000000000000000000) : yE Tryz.prog ybC [.c (.sl 1 (yay fBs nB k xs)),.c (.i k)] (.c (.i (k + cnt nB xs))):=by
 refine yu ypV (by simp) fun hwf=>?_
 simp -dsimp -implicitDefEqProofs [yi6]
 refine yh (ι:=Nat) (fun i=>i ≤ xs.length) (fun i=>yT [(0,.c (.sl 1 (yay fBs nB k xs))),(1,.c (.i (k + yaE nB xs i))),(5,.c (.i i))] []) (fun i=>xs.length - i) 0 (by simp) (by apply yj <;> simp [AV.yc,AV.yB,Obj.yc,yaV]) ?_
 rintro i hi
 rcases Nat.lt_or_ge i xs.length with hlt | hge
 ·obtain ⟨e,he⟩ : ∃ e,xs[i]? = some e:=⟨_,List.getElem?_eq_getElem hlt⟩
  have hg:=yhD (f:=fBs) (n:=nB) (k:=k) he
  have hc:=yaW (n:=nB) he
  have hle:=ybF (n:=nB) (xs:=xs) (i:=i + 1)
  have hn : nB e = 6 * e.length:=rfl
  simp only [fBs] at hg
  simp -dsimp -implicitDefEqProofs [yK,yI hlt,hg]
  intro hlen
  refine yg (yyG e.length (k + yaE nB xs i) (by omega) (by omega)) (by simp) rfl ?_
  have n1 : (k + (yaE nB xs i : Int) + 6 * (e.length : Int) < 0) = False:=by simp; omega
  simp -dsimp -implicitDefEqProofs [n1]
  refine ⟨yA hlt hlen,i + 1,hlt,by omega,?_⟩
  apply yj <;> simp [AV.yc,AV.yB,Obj.yc] <;> omega
 ·have : i = xs.length:=by omega
  subst this
  simp -dsimp -implicitDefEqProofs [yK]
  rw [ybf (Nat.le_refl _)]
  intro _; rfl
theorem yAb (es : List Entry) (hl : es.length ≤ 1048576) : ybg Tryz.prog yeb [.c (.sl 5 (es.map Entry.enc))] (.c (.ow 5 (es.map Entry.enc))):=by
 refine yaw yl6 (by simp) fun hwf=>?_
 simp -dsimp -implicitDefEqProofs [yg4]
 intro hlen
 refine ⟨by omega,?_⟩
 refine yh (ι:=Nat) (fun k=>k ≤ es.length) (fun k=>yT [(0,.c (.sl 5 (es.map Entry.enc))),(3,.own 7 5 es.length),(4,.c (.i k))] [(7,.row 5 (partly Entry.enc [.i 0,.i 0,.i 0,.i 0,.i 0] es k))]) (fun k=>es.length - k) 0 (by simp) (by apply yj <;> simp [AV.yc,AV.yB,Obj.yc,yac]) ?_
 rintro k hk
 rcases Nat.lt_or_ge k es.length with hlt | hge
 ·obtain ⟨e,he⟩ : ∃ e,es[k]? = some e:=⟨_,List.getElem?_eq_getElem hlt⟩
  have hs:=yai (f:=Entry.enc) (z:=[.i 0,.i 0,.i 0,.i 0,.i 0]) he
  have hd:=yar (f:=Entry.enc) (z:=[.i 0,.i 0,.i 0,.i 0,.i 0]) (n:=5) rfl hlt
  simp only [Entry.enc] at hs
  simp -dsimp -implicitDefEqProofs [he,yI hlt]
  refine fun _=>yL (yv1 e) (by simp) rfl ?_
  simp -dsimp -implicitDefEqProofs [yI hlt,yaj hk,hd,hs]
  exact ⟨hlt,yA hlt hlen,k + 1,hlt,by omega,by apply yj <;> simp [AV.yc,AV.yB,Obj.yc]⟩
 ·simp -dsimp -implicitDefEqProofs [yau hge]
  intro _
  rw [yak hge,List.take_of_length_le (by simp)]
def yn8 (k : Int) : List C:=[.i k,.i (k + 1),.i (k + 1 + 1),.i (k + 1 + 1 + 1),.i (k + 1 + 1 + 1 + 1)]
theorem yxz (xs : List Entry) (k : Int) (h0 : 0 ≤ k) (h1 : k + 5 * xs.length ≤ 4611686018427387904) :
 InF Tryz.prog yeK (.c (cw 5 (xs.map Entry.enc))) (.c (cw 5 (marked yn8 5 [] k xs.length))) [.c (.i k)] (.c (.i (k + 5 * xs.length))):=by
 rcases Nat.eq_zero_or_pos xs.length with hx | hx
 ·have : xs = []:=List.length_eq_zero_iff.1 hx
  subst this
  refine ybG yiS (by simp) (by simp) rfl fun hwf=>?_
  simp -dsimp -implicitDefEqProofs [ye9,marked]
  refine yh (ι:=Unit) (fun _=>True) (fun _=>yT [(0,.c (.sl 5 [])),(1,.c (.i k)),(5,.c (.i 0)),(1000000,.c (.sl 5 []))] []) (fun _=>0) () trivial (by apply yj <;> simp [AV.yc,AV.yB,Obj.yc]) ?_
  rintro _ _
  simp -dsimp -implicitDefEqProofs
 ·rw [ybW (by simpa using hx),ybW (by rw [yP]; exact hx)]
  refine ybG yiS (by simp) (by simp) rfl fun hwf=>?_
  simp -dsimp -implicitDefEqProofs [ye9]
  refine yh (ι:=Nat) (fun i=>i ≤ xs.length) (fun i=>yT [(0,.own 0 5 xs.length),(1,.c (.i (k + 5 * i))),(5,.c (.i i)),(1000000,.own 0 5 xs.length)] [(0,.row 5 (marked yn8 5 (xs.map Entry.enc) k i))]) (fun i=>xs.length - i) 0 (by simp) (by apply yj <;> simp [AV.yc,AV.yB,Obj.yc,yex]) ?_
  rintro i hi
  rcases Nat.lt_or_ge i xs.length with hlt | hge
  ·obtain ⟨e,he⟩ : ∃ e,xs[i]? = some e:=⟨_,List.getElem?_eq_getElem hlt⟩
   have hg:=yfS (mk:=yn8) (c:=5) (k:=k) (rows:=xs.map Entry.enc) (i:=i) (r:=e.enc) (by simp [he])
   have hl:=yfI (mk:=yn8) (c:=5) (k:=k) (rows:=xs.map Entry.enc) (i:=i) (by simpa using hi)
   have hs:=yfW (mk:=yn8) (c:=5) (k:=k) (rows:=xs.map Entry.enc) (i:=i) (by simpa using hlt)
   rw [List.length_map] at hl
   generalize marked yn8 5 (xs.map Entry.enc) k i = M at *
   have hlt2 : i < M.length:=by omega
   have hself : ∀ a,(M.set i a)[i]? = some a:=fun a=>List.getElem?_set_self hlt2
   simp only [yn8] at hs
   simp only [Entry.enc] at hg
   simp -dsimp -implicitDefEqProofs [yI hlt,hg,hl,hlt2,hself]
   intro hlen
   refine ⟨hlt,by unfold inI; omega,hlt,by unfold inI; omega,hlt,by unfold inI; omega,hlt,by unfold inI; omega,hlt,by unfold inI; omega,by unfold inI; omega,i + 1,hlt,by omega,?_⟩
   apply yj <;> simp [AV.yc,AV.yB,Obj.yc,hs,hself] <;> omega
  ·have : i = xs.length:=by omega
   subst this
   simp -dsimp -implicitDefEqProofs
   intro _
   have e:=yfK (mk:=yn8) (c:=5) (rows:=xs.map Entry.enc) (k:=k) (i:=xs.length) (by simp)
   rw [e,List.length_map,List.take_of_length_le (by rw [yP]; exact Nat.le_refl _)]
theorem ywt (n : Nat) (k : Int) (h0 : 0 ≤ k) (h1 : k + 5 * n ≤ 4611686018427387904) : yE Tryz.prog yeW [.c (.sl 5 (marked yn8 5 [] k n)),.c (.i k)] (.c (.i (k + 5 * n))):=by
 refine yu yqm (by simp) fun hwf=>?_
 simp -dsimp -implicitDefEqProofs [yjd]
 refine yh (ι:=Nat) (fun i=>i ≤ n) (fun i=>yT [(0,.c (.sl 5 (marked yn8 5 [] k n))),(1,.c (.i (k + 5 * i))),(5,.c (.i i))] []) (fun i=>n - i) 0 (by simp) (by apply yj <;> simp [AV.yc,AV.yB,Obj.yc]) ?_
 rintro i hi
 rcases Nat.lt_or_ge i n with hlt | hge
 ·have hg:=yhJ (mk:=yn8) (c:=5) (k:=k) hlt
  simp only [yn8] at hg
  simp -dsimp -implicitDefEqProofs [yP,yI hlt,hg]
  intro hlen
  refine ⟨by unfold inI; omega,by unfold inI; omega,by unfold inI; omega,by unfold inI; omega,by unfold inI; omega,by unfold inI; omega,i + 1,hlt,by omega,?_⟩
  apply yj <;> simp [AV.yc,AV.yB,Obj.yc] <;> omega
 ·have : i = n:=by omega
  subst this
  simp -dsimp -implicitDefEqProofs [yP]
@[simp] def Tariff.yM (e : Tariff) : List C:=[.i e.Base,.i e.PerArea,.ow 1 (e.PerClass.map yJ),.ow 1 (e.Weights.map yJ)]
theorem yzF (e : Tariff) (hl : e.small) : ybg Tryz.prog yd2 [.agg (e.enc.map .c)] (.agg (e.yM.map .c)):=by
 refine yaw ymc (by simp) fun hwf=>?_
 simp -dsimp -implicitDefEqProofs [ygJ]
 refine yS (yp5 e.PerClass hl.1) (by simp ) (by simp [AV.closed,AV.ya3,C.closed]) (by simp [yZ]) ?_
 simp -dsimp -implicitDefEqProofs [yt]
 refine yS (yp5 e.Weights hl.2) (by simp ) (by simp [AV.closed,AV.ya3,C.closed]) (by simp [yZ]) ?_
 simp -dsimp -implicitDefEqProofs [yt]
def nT (e : Tariff) : Int:=e.PerClass.length + e.Weights.length
def yeQ (e : Tariff) (k : Int) : List C:=[.i e.Base,.i e.PerArea,cw 1 (marked yJ 1 [] k e.PerClass.length),cw 1 (marked yJ 1 [] (k + e.PerClass.length) e.Weights.length)]
def Tariff.yvl (e : Tariff) : List C:=[.i e.Base,.i e.PerArea,cw 1 (e.PerClass.map yJ),cw 1 (e.Weights.map yJ)]
theorem ywf (e : Tariff) (k : Int) (h0 : 0 ≤ k) (h1 : k + nT e ≤ 8000000000000000000) :
 InF Tryz.prog ye0 (.agg (e.yvl.map .c)) (.agg ((yeQ e k).map .c)) [.c (.i k)] (.c (.i (k + nT e))):=by
 obtain ⟨ba,pa,p,q⟩:=e
 simp only [nT] at h1
 have hp : p.length = 0 ∨ 0 < p.length:=by omega
 have hq : q.length = 0 ∨ 0 < q.length:=by omega
 rcases hp with hp | hp <;> rcases hq with hq | hq
 ·skip
  have : p = []:=List.length_eq_zero_iff.1 hp
  subst this
  have : q = []:=List.length_eq_zero_iff.1 hq
  subst this
  have m1:=ycp [] k h0 (by first | omega | (simp at h1; omega) | (simp at h1 ⊢; omega))
  have m2:=ycp [] k (by omega) (by first | omega | (simp at h1; omega) | (simp at h1 ⊢; omega))
  refine ybG yc7 (by simp) (by simp [Tariff.yvl,marked]) rfl fun hwf=>?_
  simp -dsimp -implicitDefEqProofs [ycd,Tariff.yvl]
  refine ycX (up:=none) m1 (by simp) rfl rfl (ybZ rfl) ?_
  simp -dsimp -implicitDefEqProofs
  refine ycX (up:=none) m2 (by simp) rfl rfl (ybZ rfl) ?_
  simp -dsimp -implicitDefEqProofs [yeQ,nT,yP,yeB]
  first | rfl | omega
 ·skip
  have : p = []:=List.length_eq_zero_iff.1 hp
  subst this
  have m1:=ycp [] k h0 (by first | omega | (simp at h1; omega) | (simp at h1 ⊢; omega))
  have m2:=ycp q k (by omega) (by first | omega | (simp at h1; omega) | (simp at h1 ⊢; omega))
  have d0:=ybW (k:=1) (rows:=q.map yJ) (by simpa using hq)
  have d1:=ybW (k:=1) (rows:=marked yJ 1 [] k q.length) (by rw [yP]; exact hq)
  refine ybG yc7 (by simp) (by simp [Tariff.yvl,marked,d0,d1]) rfl fun hwf=>?_
  simp -dsimp -implicitDefEqProofs [ycd,Tariff.yvl,d0,d1]
  refine ycX (up:=none) m1 (by simp) rfl rfl (ybZ rfl) ?_
  simp -dsimp -implicitDefEqProofs
  refine ycX (up:=some (40000,.row 1 (marked yJ 1 [] k q.length))) m2 (by simp) rfl rfl (ybL (rows:=q.map yJ) (by simp) rfl rfl (by simp) (by simp [yP]) rfl rfl) ?_
  simp -dsimp -implicitDefEqProofs [yeQ,nT,yP,yeB,d0,d1]
  first | rfl | omega
 ·skip
  have : q = []:=List.length_eq_zero_iff.1 hq
  subst this
  have m1:=ycp p k h0 (by first | omega | (simp at h1; omega) | (simp at h1 ⊢; omega))
  have m2:=ycp [] (k + p.length) (by omega) (by first | omega | (simp at h1; omega) | (simp at h1 ⊢; omega))
  have c0:=ybW (k:=1) (rows:=p.map yJ) (by simpa using hp)
  have c1:=ybW (k:=1) (rows:=marked yJ 1 [] k p.length) (by rw [yP]; exact hp)
  refine ybG yc7 (by simp) (by simp [Tariff.yvl,marked,c0,c1]) rfl fun hwf=>?_
  simp -dsimp -implicitDefEqProofs [ycd,Tariff.yvl,c0,c1]
  refine ycX (up:=some (30000,.row 1 (marked yJ 1 [] k p.length))) m1 (by simp) rfl rfl (ybL (rows:=p.map yJ) (by simp) rfl rfl (by simp) (by simp [yP]) rfl rfl) ?_
  simp -dsimp -implicitDefEqProofs
  refine ycX (up:=none) m2 (by simp) rfl rfl (ybZ rfl) ?_
  simp -dsimp -implicitDefEqProofs [yeQ,nT,yP,yeB,c0,c1]
  first | rfl | omega
 ·skip
  have m1:=ycp p k h0 (by first | omega | (simp at h1; omega) | (simp at h1 ⊢; omega))
  have m2:=ycp q (k + p.length) (by omega) (by first | omega | (simp at h1; omega) | (simp at h1 ⊢; omega))
  have c0:=ybW (k:=1) (rows:=p.map yJ) (by simpa using hp)
  have c1:=ybW (k:=1) (rows:=marked yJ 1 [] k p.length) (by rw [yP]; exact hp)
  have d0:=ybW (k:=1) (rows:=q.map yJ) (by simpa using hq)
  have d1:=ybW (k:=1) (rows:=marked yJ 1 [] (k + p.length) q.length) (by rw [yP]; exact hq)
  refine ybG yc7 (by simp) (by simp [Tariff.yvl,marked,c0,c1,d0,d1]) rfl fun hwf=>?_
  simp -dsimp -implicitDefEqProofs [ycd,Tariff.yvl,c0,c1,d0,d1]
  refine ycX (up:=some (30000,.row 1 (marked yJ 1 [] k p.length))) m1 (by simp) rfl rfl (ybL (rows:=p.map yJ) (by simp) rfl rfl (by simp) (by simp [yP]) rfl rfl) ?_
  simp -dsimp -implicitDefEqProofs
  refine ycX (up:=some (40000,.row 1 (marked yJ 1 [] (k + p.length) q.length))) m2 (by simp) rfl rfl (ybL (rows:=q.map yJ) (by simp) rfl rfl (by simp) (by simp [yP]) rfl rfl) ?_
  simp -dsimp -implicitDefEqProofs [yeQ,nT,yP,yeB,c0,c1,d0,d1]
  first | rfl | omega
def yjk (r : Reach) : Int:=if yap r then ydp r else 0
def river (l : List Reach) : Int:=(l.map ydp).sum
def ycN (l : List Reach) : Bool:=decide (1 ≤ l.length) && decide (l.length ≤ 6) && l.all yap && decide (river l ≤ 1000000000)
def yd1 (l : List Reach) (k : Nat) : Int:=river (l.take k)
theorem yln {l : List Reach} : yd1 l 0 = 0:=rfl
theorem yk5 {l : List Reach} {k : Nat} {r : Reach} (h : l[k]? = some r) : yd1 l (k + 1) = yd1 l k + ydp r:=by
 unfold yd1 river
 rw [List.take_succ,h]; simp
theorem ygu {l : List Reach} {k : Nat} (h : l.length ≤ k) : yd1 l k = river l:=by unfold yd1; rw [List.take_of_length_le h]
structure SumFacts (r : Reach) : Prop where
 vol : amount r.Volume = true
 len : r.Pipe.length ≤ 12
 amt : ∀ n ∈ r.Pipe,amount n = true
 rng : 0 ≤ ydp r ∧ ydp r ≤ 1000000000
theorem ydR {r : Reach} (h : yap r = true) : SumFacts r:=by
 simp only [yap,Bool.and_eq_true,decide_eq_true_eq,List.all_eq_true] at h
 obtain ⟨⟨⟨⟨h1,h2⟩,h3⟩,h4⟩,h5⟩:=h
 refine ⟨h2,h3,h4,?_,h5⟩
 have a1:=yU.1 (show inRange r.Volume 0 1000000000 = true from h2)
 have a2:=ype (l:=r.Pipe) h4
 unfold ydp; omega
theorem yjm {l : List Reach} : ∀ {k : Nat},(∀ r ∈ l.take k,yap r = true) → 0 ≤ yd1 l k ∧ yd1 l k ≤ 1000000000 * k
 | 0,_=>by rw [yln]; omega
 | k + 1,h=>by
  have ih:=yjm (k:=k) fun r hr=>h r (by rw [List.take_succ]; exact List.mem_append_left _ hr)
  have e2 : ((k + 1 : Nat) : Int) = k + 1:=by simp
  cases hk : l[k]? with
  | none =>
   have hl : l.length ≤ k:=by simpa using hk
   rw [ygu (by omega),← ygu hl]; omega
  | some r =>
   have:=(ydR (h r (by rw [List.take_succ,hk]; exact List.mem_append_right _ (by simp)))).rng
   rw [yk5 hk]; omega
theorem ytT {l : List Reach} {k : Nat} {r : Reach} (h : l[k]? = some r) (hr : yap r = false) : ycN l = false:=by
 have:=all_false (p:=yap) h hr
 simp [ycN,this]
theorem yqf (r : Reach) : yE Tryz.prog yfj [.agg (r.enc.map .c)] (.c (.i (yjk r))):=by
 refine yu yth (by simp) fun hwf=>?_
 simp -dsimp -implicitDefEqProofs [ymx]
 refine yg (yeT r) (by simp) rfl ?_
 cases h : yap r with
 | false=>simp -dsimp -implicitDefEqProofs; simp [yjk,h]
 | true =>
 have f:=ydR h
 have hl:=f.len
 have hv:=yU.1 (show inRange r.Volume 0 1000000000 = true from f.vol)
 have ht : yjk r = ydp r:=by simp [yjk,h]
 simp -dsimp -implicitDefEqProofs [ht]
 intro hlen
 refine yh (ι:=Nat) (fun k=>k ≤ r.Pipe.length) (fun k=>yT [(3,.c (.i (r.Volume + sumTo r.Pipe k))),(12,.c (.sl 1 (r.Pipe.map yJ))),(13,.c (.i r.Pipe.length)),(14,.c (.i k))] []) (fun k=>r.Pipe.length - k) 0 (by simp) (by apply yj <;> simp [AV.yc,AV.yB,Obj.yc,yiz]) ?_
 rintro k hk
 rcases Nat.lt_or_ge k r.Pipe.length with hlt | hge
 ·obtain ⟨x,hx⟩ : ∃ x,r.Pipe[k]? = some x:=⟨_,List.getElem?_eq_getElem hlt⟩
  have e1:=yk9 hx
  have b1:=yrn f.amt hl (k + 1)
  rw [e1] at b1
  simp -dsimp -implicitDefEqProofs [hx,yI hlt]
  refine ⟨by unfold inI; omega,yA hlt hlen,k + 1,hlt,by omega,?_⟩
  apply yj <;> simp [AV.yc,AV.yB,Obj.yc,e1]; omega
 ·simp -dsimp -implicitDefEqProofs [yau hge]
  rw [yqA hge,ht]; rfl
theorem yxe (l : List Reach) : yE Tryz.prog yig [.c (.sl 3 (l.map Reach.enc))] (.c (.b (ycN l))):=by
 refine yu ysC (by simp) fun hwf=>?_
 simp -dsimp -implicitDefEqProofs [yng]
 refine fun hlen=>⟨fun h1=>?_,fun h1=>?_⟩
 rotate_left
 ·simp [ycN]; omega
 refine fun _=>⟨fun h6=>by simp [ycN]; omega,fun h6=>?_⟩
 refine fun _=>yh (ι:=Nat) (fun k=>k ≤ l.length ∧ ∀ r ∈ l.take k,yap r = true) (fun k=>yT [(3,.c (.i (yd1 l k))),(14,.c (.sl 3 (l.map Reach.enc))),(15,.c (.i l.length)),(16,.c (.i k))] []) (fun k=>l.length - k) 0 (by simp) (by apply yj <;> simp [AV.yc,AV.yB,Obj.yc,yln]) ?_
 rintro k ⟨hk,hall⟩
 rcases Nat.lt_or_ge k l.length with hlt | hge
 ·obtain ⟨r,hr⟩ : ∃ r,l[k]? = some r:=⟨_,List.getElem?_eq_getElem hlt⟩
  simp -dsimp -implicitDefEqProofs [hr,yI hlt]
  refine yg (yeT r) (by simp) rfl ?_
  cases h : yap r with
  | false=>simp -dsimp -implicitDefEqProofs; exact ytT hr h
  | true =>
   have ht : yjk r = ydp r:=by simp [yjk,h]
   have hall':=yO (p:=yap) hr hall h
   have hb:=yjm hall'
   have e1:=yk5 hr
   simp -dsimp -implicitDefEqProofs
   refine yg (yqf r) (by simp) rfl ?_
   simp -dsimp -implicitDefEqProofs [ht]
   refine ⟨by rw [e1] at hb; unfold inI; omega,yA hlt hlen,k + 1,⟨hlt,hall'⟩,by omega,?_⟩
   apply yj <;> simp [AV.yc,AV.yB,Obj.yc,e1]
 ·have hall2:=yaa (p:=yap) hge hall
  simp -dsimp -implicitDefEqProofs [yau hge]
  rw [ygu hge]
  have a1 : 1 ≤ l.length:=by omega
  have a2 : l.length ≤ 6:=by omega
  simp [ycN,a1,a2,hall2]
structure RiverFacts (l : List Reach) : Prop where
 len : 1 ≤ l.length ∧ l.length ≤ 6
 ok : ∀ r ∈ l,yap r = true
 rng : 0 ≤ river l ∧ river l ≤ 1000000000
theorem yAq {l : List Reach} (h : ycN l = true) : RiverFacts l:=by
 simp only [ycN,Bool.and_eq_true,decide_eq_true_eq,List.all_eq_true] at h
 obtain ⟨⟨⟨h1,h2⟩,h3⟩,h4⟩:=h
 have:=yjm (l:=l) (k:=l.length) (by rw [List.take_length]; exact h3)
 rw [ygu (Nat.le_refl _)] at this
 exact ⟨⟨h1,h2⟩,h3,this.1,h4⟩
def yl5 (l : List Reach) (k : Nat) : Int:=if 1000000001 < yd1 l k then 1000000001 else yd1 l k
theorem yAc {l : List Reach} : yl5 l 0 = 0:=by simp [yl5,yln]
theorem yzv {l : List Reach} {k : Nat} {r : Reach} (h : l[k]? = some r) (hr : 0 ≤ ydp r) : (if 1000000001 < yl5 l k + ydp r then 1000000001 else yl5 l k + ydp r) = yl5 l (k + 1):=by
 unfold yl5
 rw [yk5 h]
 (repeat' split) <;> omega
theorem yBV {l : List Reach} {k : Nat} (h : ∀ r ∈ l.take k,yap r = true) : 0 ≤ yl5 l k ∧ yl5 l k ≤ 1000000001:=by
 have:=yjm h
 unfold yl5
 split <;> omega
theorem ywi (l : List Reach) : yE Tryz.prog yie [.c (.sl 3 (l.map Reach.enc))] (.c (.b (ycN l))):=by
 refine yu ytp (by simp) fun hwf=>?_
 simp -dsimp -implicitDefEqProofs [ynE]
 refine yh (ι:=Nat) (fun k=>k ≤ l.length ∧ ∀ r ∈ l.take k,yap r = true) (fun k=>yT [(0,.c (.sl 3 (l.map Reach.enc))),(3,.c (.i (yl5 l k))),(4,.c (.i k))] []) (fun k=>l.length - k) 0 (by simp) (by apply yj <;> simp [AV.yc,AV.yB,Obj.yc,yAc]) ?_
 rintro k ⟨hk,hall⟩
 rcases Nat.lt_or_ge k l.length with hlt | hge
 ·obtain ⟨r,hr⟩ : ∃ r,l[k]? = some r:=⟨_,List.getElem?_eq_getElem hlt⟩
  simp -dsimp -implicitDefEqProofs [hr,yI hlt]
  intro hlen
  refine yg (yhz r) (by simp) rfl ?_
  cases h : yap r with
  | false=>simp -dsimp -implicitDefEqProofs; exact ytT hr h
  | true =>
   have f:=ydR h
   have hall':=yO (p:=yap) hr hall h
   have hb:=yBV hall
   have hs:=f.rng
   have e1:=yzv hr hs.1
   simp -dsimp -implicitDefEqProofs [hr,yI hlt]
   refine yg (ytV r f.vol f.len f.amt) (by simp) rfl ?_
   simp -dsimp -implicitDefEqProofs [e1]
   refine ⟨by unfold inI; omega,yA hlt hlen,k + 1,⟨hlt,hall'⟩,by omega,?_⟩
   apply yj <;> simp [AV.yc,AV.yB,Obj.yc,e1]
 ·have hall2:=yaa (p:=yap) hge hall
  simp -dsimp -implicitDefEqProofs [yau hge]
  intro hlen
  refine yg (yF l.length 1 6) (by simp) rfl ?_
  have hr : yd1 l k = river l:=ygu hge
  have hc : (yl5 l k ≤ 1000000000) = (river l ≤ 1000000000):=by
   unfold yl5; rw [hr]; apply propext; split <;> omega
  have hrng : inRange (l.length : Int) 1 6 = (decide (1 ≤ l.length) && decide (l.length ≤ 6)):=by
   rw [Bool.eq_iff_iff,yU]; simp only [Bool.and_eq_true,decide_eq_true_eq]; omega
  cases h1 : inRange (l.length : Int) 1 6 with
  | false=>simp -dsimp -implicitDefEqProofs; rw [ycN,← hrng,h1]; simp
  | true =>
   simp -dsimp -implicitDefEqProofs
   rw [ycN,← hrng,h1]
   simp [hall2,hc]
def yb3 (p : Way × List Mover) : Bool:=ymA p.1 && decide (p.2.length ≤ 24) && p.2.all fun m=>yba m p.1
def ybb (x : Waterway) : Bool:=ycN x.Reaches && decide (2 ≤ x.Reaches.length) && decide (x.Ways.length = x.Reaches.length) && decide (x.Movers.length = x.Reaches.length) && decide (x.Works.length + 1 = x.Reaches.length) &&
 (x.Ways.zip x.Movers).all yb3 && x.Works.all ya8
theorem yGa {w : Way} {ms : List Mover} (h : ymA w = false) : yb3 (w,ms) = false:=by simp [yb3,h]
theorem yFF {w : Way} {ms : List Mover} (h : 24 < ms.length) : yb3 (w,ms) = false:=by simp [yb3]; omega
theorem yDg {w : Way} {ms : List Mover} {k : Nat} {m : Mover} (h : ms[k]? = some m) (hm : yba m w = false) : yb3 (w,ms) = false:=by
 have:=all_false (p:=fun m=>yba m w) h hm
 simp [yb3,this]
theorem yei {x : Waterway} {k : Nat} {w : Way} {ms : List Mover} (h1 : x.Ways[k]? = some w) (h2 : x.Movers[k]? = some ms) (h : yb3 (w,ms) = false) : ybb x = false:=by
 have:=all_false (p:=yb3) (l:=x.Ways.zip x.Movers) (k:=k) (List.getElem?_zip_eq_some.2 ⟨h1,h2⟩) h
 simp [ybb,this]
theorem ys3 {x : Waterway} {k : Nat} {w : Work} (h1 : x.Works[k]? = some w) (h : ya8 w = false) : ybb x = false:=by
 have:=all_false (p:=ya8) h1 h
 simp [ybb,this]
theorem pno2 {x : Waterway} (h : ¬ 2 ≤ x.Reaches.length) : ybb x = false:=by simp [ybb,h]
theorem pno3 {x : Waterway} (h : ¬ x.Ways.length = x.Reaches.length) : ybb x = false:=by simp [ybb,h]
theorem pno4 {x : Waterway} (h : ¬ x.Movers.length = x.Reaches.length) : ybb x = false:=by simp [ybb,h]
theorem pno5 {x : Waterway} (h : ¬ x.Works.length + 1 = x.Reaches.length) : ybb x = false:=by simp [ybb,h]
theorem yxh (x : Waterway) (hs : x.small) : yE Tryz.prog yhX [.agg (x.enc.map .c)] (.c (.b (ybb x))):=by
 have hsM:=hs.2.2.2.1
 have hsW:=hs.2.2.1
 refine yu ytg (by simp) fun hwf=>?_
 simp -dsimp -implicitDefEqProofs [ynp]
 intro hlen
 refine yg (yxe x.Reaches) (by simp) rfl ?_
 cases h1 : ycN x.Reaches with
 | false=>simp -dsimp -implicitDefEqProofs; simp [ybb,h1]
 | true =>
 simp -dsimp -implicitDefEqProofs
 refine ⟨fun h2=>?_,fun h2=>(pno2 (by omega))⟩
 intro _
 refine ⟨fun h3=>?_,fun h3=>(pno3 (by omega))⟩
 intro _
 refine ⟨fun h4=>?_,fun h4=>(pno4 (by omega))⟩
 refine fun _=>⟨by unfold maxLen at hlen; unfold inI; omega,?_⟩
 refine ⟨fun h5=>(pno5 (by omega)),fun h5=>?_⟩
 have h3' : x.Ways.length = x.Reaches.length:=by omega
 have h4' : x.Movers.length = x.Reaches.length:=by omega
 have hz : (x.Ways.zip x.Movers).length = x.Ways.length:=by rw [List.length_zip]; omega
 refine fun hlw=>yh (ι:=Nat) (fun k=>k ≤ x.Ways.length ∧ ∀ p ∈ (x.Ways.zip x.Movers).take k,yb3 p = true) (fun k=>yT [(1,.box 1 0),(44,.c (.sl 2 (x.Ways.map Way.enc))),(45,.c (.i x.Ways.length)),(46,.c (.i k))] [(1,.box (x.enc.map .c))]) (fun k=>x.Ways.length - k) 0 (by simp) (by apply yj <;> simp [AV.yc,AV.yB,Obj.yc]) ?_
 rintro k ⟨hk,hall⟩
 rcases Nat.lt_or_ge k x.Ways.length with hlt | hge
 ·obtain ⟨w,hw⟩ : ∃ w,x.Ways[k]? = some w:=⟨_,List.getElem?_eq_getElem hlt⟩
  obtain ⟨ms,hm⟩ : ∃ w,x.Movers[k]? = some w:=⟨_,List.getElem?_eq_getElem (by omega)⟩
  have hkm : k < x.Movers.length:=by omega
  have gm:=(List.getElem?_eq_some_iff.1 hm).2
  have gw:=(List.getElem?_eq_some_iff.1 hw).2
  have hp : (x.Ways.zip x.Movers)[k]? = some (w,ms):=List.getElem?_zip_eq_some.2 ⟨hw,hm⟩
  have hsm:=hsM.2 ms (List.mem_of_getElem? hm)
  simp -dsimp -implicitDefEqProofs [hw,gw,yI hlt,hlt]
  refine yg (yt1 w) (by simp) rfl ?_
  cases h6 : ymA w with
  | false=>simp -dsimp -implicitDefEqProofs; exact yei hw hm (yGa h6)
  | true =>
  simp -dsimp -implicitDefEqProofs [hm,gm,hkm,yI hkm]
  intro hlm
  refine ⟨fun h7=>(yei hw hm (yFF (by omega))),fun h7=>?_⟩
  refine fun _=>yh (ι:=Nat) (fun i=>i ≤ ms.length ∧ ∀ m ∈ ms.take i,yba m w = true) (fun i=>yT [(1,.box 1 0),(5,.box 5 0),(44,.c (.sl 2 (x.Ways.map Way.enc))),(45,.c (.i x.Ways.length)),(46,.c (.i k)),(67,.c (.sl 3 (ms.map Mover.enc))),(68,.c (.i ms.length)),(69,.c (.i i))] [(1,.box (x.enc.map .c)),(5,.box (w.enc.map .c))]) (fun i=>ms.length - i) 0 (by simp) (by apply yj <;> simp [AV.yc,AV.yB,Obj.yc]) ?_
  rintro i ⟨hi,hall2⟩
  rcases Nat.lt_or_ge i ms.length with hlt2 | hge2
  ·obtain ⟨m,hmm⟩ : ∃ w,ms[i]? = some w:=⟨_,List.getElem?_eq_getElem hlt2⟩
   have g2:=(List.getElem?_eq_some_iff.1 hmm).2
   simp -dsimp -implicitDefEqProofs [hmm,g2,yI hlt2,hlt2]
   refine yg (ywZ m w (hsm.2 m (List.mem_of_getElem? hmm))) (by simp) rfl ?_
   cases h8 : yba m w with
   | false=>simp -dsimp -implicitDefEqProofs; exact yei hw hm (yDg hmm h8)
   | true =>
    simp -dsimp -implicitDefEqProofs
    refine ⟨yA hlt2 hlm,i + 1,⟨hlt2,yO (p:=fun m=>yba m w) hmm hall2 h8⟩,by omega,?_⟩
    apply yj <;> simp [AV.yc,AV.yB,Obj.yc]
  ·have h9:=yaa (p:=fun m=>yba m w) hge2 hall2
   have hlane : yb3 (w,ms) = true:=by
    have : ms.length ≤ 24:=by omega
    simp [yb3,h6,this,h9]
   simp -dsimp -implicitDefEqProofs [yau hge2]
   refine ⟨yA hlt hlw,k + 1,⟨hlt,fun a b hab=>yO (p:=yb3) hp hall hlane (a,b) hab⟩,by omega,?_⟩
   apply yj <;> simp [AV.yc,AV.yB,Obj.yc]
 ·have hl:=yaa (p:=yb3) (by rw [hz]; exact hge) hall
  simp -dsimp -implicitDefEqProofs [yau hge]
  refine fun hlk=>yh (ι:=Nat) (fun i=>i ≤ x.Works.length ∧ ∀ w ∈ x.Works.take i,ya8 w = true) (fun i=>yT [(1,.box 1 0),(80,.c (.sl 22 (x.Works.map Work.enc))),(81,.c (.i x.Works.length)),(82,.c (.i i))] [(1,.box (x.enc.map .c))]) (fun i=>x.Works.length - i) 0 (by simp) (by apply yj <;> simp [AV.yc,AV.yB,Obj.yc]) ?_
  rintro i ⟨hi,hall2⟩
  rcases Nat.lt_or_ge i x.Works.length with hlt2 | hge2
  ·obtain ⟨w,hw⟩ : ∃ w,x.Works[i]? = some w:=⟨_,List.getElem?_eq_getElem hlt2⟩
   have g2:=(List.getElem?_eq_some_iff.1 hw).2
   simp -dsimp -implicitDefEqProofs [hw,g2,yI hlt2,hlt2]
   refine yg (yyl w (hsW.2 w (List.mem_of_getElem? hw))) (by simp) rfl ?_
   cases h8 : ya8 w with
   | false=>simp -dsimp -implicitDefEqProofs; exact ys3 hw h8
   | true =>
    simp -dsimp -implicitDefEqProofs
    refine ⟨yA hlt2 hlk,i + 1,⟨hlt2,yO (p:=ya8) hw hall2 h8⟩,by omega,?_⟩
    apply yj <;> simp [AV.yc,AV.yB,Obj.yc]
  ·have h9:=yaa (p:=ya8) hge2 hall2
   simp -dsimp -implicitDefEqProofs [yau hge2]
   have h2' : 2 ≤ x.Reaches.length:=by omega
   have h5' : x.Works.length + 1 = x.Reaches.length:=by omega
   simp [ybb,h1,h2',h3',h4',h5',hl,h9]
def ydo (n : Nat) (p : Passing) : Bool:=inRange p.Time 0 1000000 && inRange p.Work 0 (n - 1) && yR p.Train
def ybN (x : Waterway) : Bool:=decide (x.Arrived.length ≤ 500) && decide (x.Entered.length ≤ 2000) && decide (x.Passings.length ≤ 500) && x.Arrived.all yR && x.Entered.all (fun n=>inRange n 1 9999) && x.Passings.all (ydo x.Works.length)
def yal (x : Waterway) : Bool:=inRange x.Time 0 1000000 && ybb x && ybN x && ya6 x.Tariff && ylg x.Book && inRange x.Start 0 1000000000 && inRange x.In 0 1000000000 && inRange x.Out 0 1000000000
theorem lno1 {x : Waterway} (h : ¬ x.Arrived.length ≤ 500) : ybN x = false:=by simp [ybN,h]
theorem lno2 {x : Waterway} (h : ¬ x.Entered.length ≤ 2000) : ybN x = false:=by simp [ybN,h]
theorem lno3 {x : Waterway} (h : ¬ x.Passings.length ≤ 500) : ybN x = false:=by simp [ybN,h]
theorem lno4 {x : Waterway} {k : Nat} {t : Train} (h1 : x.Arrived[k]? = some t) (h : yR t = false) : ybN x = false:=by
 have:=all_false (p:=yR) h1 h
 simp [ybN,this]
theorem lno5 {x : Waterway} {k : Nat} {t : Int} (h1 : x.Entered[k]? = some t) (h : inRange t 1 9999 = false) : ybN x = false:=by
 have:=all_false (p:=fun n=>inRange n 1 9999) h1 h
 simp [ybN,this]
theorem yB2 {x : Waterway} {k : Nat} {t : Passing} (h1 : x.Passings[k]? = some t) (h : ydo x.Works.length t = false) : ybN x = false:=by
 have:=all_false (p:=ydo x.Works.length) h1 h
 simp [ybN,this]
theorem wno {x : Waterway} (h : ybN x = false) : yal x = false:=by simp [yal,h]
theorem yrO (x : Waterway) (hs : x.small) : yE Tryz.prog yeR [.agg (x.enc.map .c)] (.c (.b (yal x))):=by
 have hsA:=hs.2.2.2.2.1
 have hsP:=hs.2.2.2.2.2.2.2.2
 refine yu ypR (by simp) fun hwf=>?_
 simp -dsimp -implicitDefEqProofs [yji]
 refine yg (yH x.Time 0 1000000) (by simp) rfl ?_
 cases h1 : inRange x.Time 0 1000000 with
 | false=>simp -dsimp -implicitDefEqProofs; simp [yal,h1]
 | true =>
 simp -dsimp -implicitDefEqProofs
 refine yg (yxh x hs) (by simp) rfl ?_
 cases h2 : ybb x with
 | false=>simp -dsimp -implicitDefEqProofs; simp [yal,h2]
 | true =>
 simp -dsimp -implicitDefEqProofs
 intro hlA
 refine ⟨fun h3=>?_,fun h3=>(wno (lno1 (by omega)))⟩
 intro hlE
 refine ⟨fun h4=>?_,fun h4=>(wno (lno2 (by omega)))⟩
 intro hlP
 refine ⟨fun h5=>(wno (lno3 (by omega))),fun h5=>?_⟩
 refine fun _=>yh (ι:=Nat) (fun k=>k ≤ x.Arrived.length ∧ ∀ t ∈ x.Arrived.take k,yR t = true) (fun k=>yT [(1,.box 1 0),(37,.c (.sl 2 (x.Arrived.map Train.enc))),(38,.c (.i x.Arrived.length)),(39,.c (.i k))] [(1,.box (x.enc.map .c))]) (fun k=>x.Arrived.length - k) 0 (by simp) (by apply yj <;> simp [AV.yc,AV.yB,Obj.yc]) ?_
 rintro k ⟨hk,hall⟩
 rcases Nat.lt_or_ge k x.Arrived.length with hlt | hge
 ·obtain ⟨t,ht⟩ : ∃ w,x.Arrived[k]? = some w:=⟨_,List.getElem?_eq_getElem hlt⟩
  simp -dsimp -implicitDefEqProofs [ht,yI hlt]
  refine yg (ydE t (hsA.2 t (List.mem_of_getElem? ht))) (by simp) rfl ?_
  cases h6 : yR t with
  | false=>simp -dsimp -implicitDefEqProofs; exact wno (lno4 ht h6)
  | true =>
   simp -dsimp -implicitDefEqProofs
   refine ⟨yA hlt hlA,k + 1,⟨hlt,yO (p:=yR) ht hall h6⟩,by omega,?_⟩
   apply yj <;> simp [AV.yc,AV.yB,Obj.yc]
 have hA:=yaa (p:=yR) hge hall
 simp -dsimp -implicitDefEqProofs [yau hge]
 refine fun _=>yh (ι:=Nat) (fun k=>k ≤ x.Entered.length ∧ ∀ t ∈ x.Entered.take k,inRange t 1 9999 = true) (fun k=>yT [(1,.box 1 0),(48,.c (.sl 1 (x.Entered.map yJ))),(49,.c (.i x.Entered.length)),(50,.c (.i k))] [(1,.box (x.enc.map .c))]) (fun k=>x.Entered.length - k) 0 (by simp) (by apply yj <;> simp [AV.yc,AV.yB,Obj.yc]) ?_
 clear hall hk hge k
 rintro k ⟨hk,hall⟩
 rcases Nat.lt_or_ge k x.Entered.length with hlt | hge
 ·obtain ⟨t,ht⟩ : ∃ w,x.Entered[k]? = some w:=⟨_,List.getElem?_eq_getElem hlt⟩
  simp -dsimp -implicitDefEqProofs [ht,yI hlt]
  refine yg (yH t 1 9999) (by simp) rfl ?_
  cases h6 : inRange t 1 9999 with
  | false=>simp -dsimp -implicitDefEqProofs; exact wno (lno5 ht h6)
  | true =>
   simp -dsimp -implicitDefEqProofs
   refine ⟨yA hlt hlE,k + 1,⟨hlt,yO (p:=fun n=>inRange n 1 9999) ht hall h6⟩,by omega,?_⟩
   apply yj <;> simp [AV.yc,AV.yB,Obj.yc]
 have hE:=yaa (p:=fun n=>inRange n 1 9999) hge hall
 simp -dsimp -implicitDefEqProofs [yau hge]
 refine fun _=>yh (ι:=Nat) (fun k=>k ≤ x.Passings.length ∧ ∀ t ∈ x.Passings.take k,ydo x.Works.length t = true) (fun k=>yT [(1,.box 1 0),(59,.c (.sl 4 (x.Passings.map Passing.enc))),(60,.c (.i x.Passings.length)),(61,.c (.i k))] [(1,.box (x.enc.map .c))]) (fun k=>x.Passings.length - k) 0 (by simp) (by apply yj <;> simp [AV.yc,AV.yB,Obj.yc]) ?_
 clear hall hk hge k
 rintro k ⟨hk,hall⟩
 rcases Nat.lt_or_ge k x.Passings.length with hlt | hge
 ·obtain ⟨t,ht⟩ : ∃ w,x.Passings[k]? = some w:=⟨_,List.getElem?_eq_getElem hlt⟩
  simp -dsimp -implicitDefEqProofs [ht,yI hlt]
  refine yg (yH t.Time 0 1000000) (by simp) rfl ?_
  cases h6 : inRange t.Time 0 1000000 with
  | false=>simp -dsimp -implicitDefEqProofs; exact wno (yB2 ht (by simp [ydo,h6]))
  | true =>
  simp -dsimp -implicitDefEqProofs
  refine fun hlW=>⟨by unfold maxLen at hlW; unfold inI; omega,?_⟩
  refine yg (yH t.Work 0 (x.Works.length - 1)) (by simp) rfl ?_
  cases h7 : inRange t.Work 0 (x.Works.length - 1) with
  | false=>simp -dsimp -implicitDefEqProofs; exact wno (yB2 ht (by simp [ydo,h7]))
  | true =>
  simp -dsimp -implicitDefEqProofs
  refine yg (ydE t.Train (hsP.2 t (List.mem_of_getElem? ht))) (by simp) rfl ?_
  cases h8 : yR t.Train with
  | false=>simp -dsimp -implicitDefEqProofs; exact wno (yB2 ht (by simp [ydo,h8]))
  | true =>
  simp -dsimp -implicitDefEqProofs
  refine ⟨yA hlt hlP,k + 1,⟨hlt,yO (p:=ydo x.Works.length) ht hall (by simp [ydo,h6,h7,h8])⟩,by omega,?_⟩
  apply yj <;> simp [AV.yc,AV.yB,Obj.yc]
 have hP:=yaa (p:=ydo x.Works.length) hge hall
 simp -dsimp -implicitDefEqProofs [yau hge]
 refine yg (yvd x.Tariff) (by simp) rfl ?_
 cases h7 : ya6 x.Tariff with
 | false=>simp -dsimp -implicitDefEqProofs; simp [yal,h7]
 | true =>
 simp -dsimp -implicitDefEqProofs
 refine yg (yyZ x.Book) (by simp) rfl ?_
 cases h8 : ylg x.Book with
 | false=>simp -dsimp -implicitDefEqProofs; simp [yal,h8]
 | true =>
 simp -dsimp -implicitDefEqProofs
 refine yg (yH x.Start 0 1000000000) (by simp) rfl ?_
 cases h9 : inRange x.Start 0 1000000000 with
 | false=>simp -dsimp -implicitDefEqProofs; simp [yal,h9]
 | true =>
 simp -dsimp -implicitDefEqProofs
 refine yg (yH x.In 0 1000000000) (by simp) rfl ?_
 cases h10 : inRange x.In 0 1000000000 with
 | false=>simp -dsimp -implicitDefEqProofs; simp [yal,h10]
 | true =>
 simp -dsimp -implicitDefEqProofs
 refine yg (yH x.Out 0 1000000000) (by simp) rfl ?_
 simp -dsimp -implicitDefEqProofs
 have a3 : x.Arrived.length ≤ 500:=by omega
 have a4 : x.Entered.length ≤ 2000:=by omega
 have a5 : x.Passings.length ≤ 500:=by omega
 have hl : ybN x = true:=by simp only [ybN,a3,a4,a5,hA,hE,hP]; simp
 simp [yal,h1,h2,h7,h8,h9,h10,hl]
theorem yzS (x : Waterway) (hs : x.small) : yE Tryz.prog yhj [.agg (x.enc.map .c)] (.c (.b (ybb x))):=by
 have hsM:=hs.2.2.2.1
 have hsW:=hs.2.2.1
 refine yu yrH (by simp) fun hwf=>?_
 simp -dsimp -implicitDefEqProofs [ylR]
 intro hlen
 refine yg (ywi x.Reaches) (by simp) rfl ?_
 cases h1 : ycN x.Reaches with
 | false=>simp -dsimp -implicitDefEqProofs; simp [ybb,h1]
 | true =>
 simp -dsimp -implicitDefEqProofs
 refine ⟨fun h2=>?_,fun h2=>(pno2 (by omega))⟩
 intro _
 refine ⟨fun h3=>?_,fun h3=>(pno3 (by omega))⟩
 intro _
 refine ⟨fun h4=>?_,fun h4=>(pno4 (by omega))⟩
 refine fun _=>⟨by unfold maxLen at hlen; unfold inI; omega,?_⟩
 refine ⟨fun h5=>(pno5 (by omega)),fun h5=>?_⟩
 have h3' : x.Ways.length = x.Reaches.length:=by omega
 have h4' : x.Movers.length = x.Reaches.length:=by omega
 have h5' : x.Works.length + 1 = x.Reaches.length:=by omega
 have hz : (x.Ways.zip x.Movers).length = x.Ways.length:=by rw [List.length_zip]; omega
 refine yh (ι:=Nat) (fun k=>k ≤ x.Ways.length ∧ (∀ p ∈ (x.Ways.zip x.Movers).take k,yb3 p = true) ∧ ∀ w ∈ x.Works.take k,ya8 w = true) (fun k=>yT [(1,.box 1 0),(3,.c (.i x.Reaches.length)),(4,.c (.i k))] [(1,.box (x.enc.map .c))]) (fun k=>x.Ways.length - k) 0 (by simp) (by apply yj <;> simp [AV.yc,AV.yB,Obj.yc]) ?_
 rintro k ⟨hk,hall,hallw⟩
 rcases Nat.lt_or_ge k x.Ways.length with hlt | hge
 ·obtain ⟨w,hw⟩ : ∃ w,x.Ways[k]? = some w:=⟨_,List.getElem?_eq_getElem hlt⟩
  obtain ⟨ms,hm⟩ : ∃ w,x.Movers[k]? = some w:=⟨_,List.getElem?_eq_getElem (by omega)⟩
  have hkm : k < x.Movers.length:=by omega
  have hkr : k < x.Reaches.length:=by omega
  have gm:=(List.getElem?_eq_some_iff.1 hm).2
  have gw:=(List.getElem?_eq_some_iff.1 hw).2
  have hp : (x.Ways.zip x.Movers)[k]? = some (w,ms):=List.getElem?_zip_eq_some.2 ⟨hw,hm⟩
  have hsm:=hsM.2 ms (List.mem_of_getElem? hm)
  simp -dsimp -implicitDefEqProofs [hw,gw,yI hlt,hlt,hkr,yI hkr]
  refine yg (yt8 w) (by simp) rfl ?_
  cases h6 : ymA w with
  | false=>simp -dsimp -implicitDefEqProofs; exact yei hw hm (yGa h6)
  | true =>
  simp -dsimp -implicitDefEqProofs [hm,gm,hkm,yI hkm]
  intro hlm
  refine ⟨fun h7=>?_,fun h7=>(yei hw hm (yFF (by omega)))⟩
  refine ⟨by unfold maxLen at hlen; unfold inI; omega,fun hc=>?_,fun hc=>?_⟩
  ·obtain ⟨wk,hwk⟩ : ∃ w,x.Works[k]? = some w:=⟨_,List.getElem?_eq_getElem (by omega)⟩
   have gk:=(List.getElem?_eq_some_iff.1 hwk).2
   have hkw : k < x.Works.length:=by omega
   refine ⟨hkw,?_⟩
   simp -dsimp -implicitDefEqProofs [hwk]
   refine yg (yx3 wk (hsW.2 wk (List.mem_of_getElem? hwk))) (by simp) rfl ?_
   cases h10 : ya8 wk with
   | false=>simp -dsimp -implicitDefEqProofs; exact ys3 hwk h10
   | true =>
   simp -dsimp -implicitDefEqProofs
   refine yh (ι:=Nat) (fun i=>i ≤ ms.length ∧ ∀ m ∈ ms.take i,yba m w = true) (fun i=>yT [(1,.box 1 0),(3,.c (.i x.Reaches.length)),(4,.c (.i k)),(5,.c (.i i))] [(1,.box (x.enc.map .c))]) (fun i=>ms.length - i) 0 (by simp) (by apply yj <;> simp [AV.yc,AV.yB,Obj.yc]) ?_
   rintro i ⟨hi,hall2⟩
   rcases Nat.lt_or_ge i ms.length with hlt2 | hge2
   ·obtain ⟨m,hmm⟩ : ∃ w,ms[i]? = some w:=⟨_,List.getElem?_eq_getElem hlt2⟩
    have g2:=(List.getElem?_eq_some_iff.1 hmm).2
    simp -dsimp -implicitDefEqProofs [hw,gw,hlt,yI hlt,hm,gm,hkm,yI hkm,hmm,g2,yI hlt2,hlt2]
    intro _
    refine ⟨_,_,yqv m w (hsm.2 m (List.mem_of_getElem? hmm)),by simp,.inr rfl,?_⟩
    cases h8 : yba m w with
    | false=>simp -dsimp -implicitDefEqProofs; exact yei hw hm (yDg hmm h8)
    | true =>
     simp -dsimp -implicitDefEqProofs
     refine ⟨yA hlt2 hlm,i + 1,⟨hlt2,yO (p:=fun m=>yba m w) hmm hall2 h8⟩,by omega,?_⟩
     apply yj <;> simp [AV.yc,AV.yB,Obj.yc]
   ·have h9:=yaa (p:=fun m=>yba m w) hge2 hall2
    have hlane : yb3 (w,ms) = true:=by
     have : ms.length ≤ 24:=by omega
     simp [yb3,h6,this,h9]
    simp -dsimp -implicitDefEqProofs [hm,gm,hkm,yI hkm,yau hge2]
    refine fun _=>⟨by unfold maxLen at hlen; unfold inI; omega,k + 1,⟨hlt,fun a b hab=>yO (p:=yb3) hp hall hlane (a,b) hab,yO (p:=ya8) hwk hallw h10⟩,by omega,?_⟩
    apply yj <;> simp [AV.yc,AV.yB,Obj.yc]
  ·have hwa : x.Works.take (k + 1) = x.Works.take k:=by rw [List.take_of_length_le (by omega),List.take_of_length_le (by omega)]
   refine yh (ι:=Nat) (fun i=>i ≤ ms.length ∧ ∀ m ∈ ms.take i,yba m w = true) (fun i=>yT [(1,.box 1 0),(3,.c (.i x.Reaches.length)),(4,.c (.i k)),(5,.c (.i i))] [(1,.box (x.enc.map .c))]) (fun i=>ms.length - i) 0 (by simp) (by apply yj <;> simp [AV.yc,AV.yB,Obj.yc]) ?_
   rintro i ⟨hi,hall2⟩
   rcases Nat.lt_or_ge i ms.length with hlt2 | hge2
   ·obtain ⟨m,hmm⟩ : ∃ w,ms[i]? = some w:=⟨_,List.getElem?_eq_getElem hlt2⟩
    have g2:=(List.getElem?_eq_some_iff.1 hmm).2
    simp -dsimp -implicitDefEqProofs [hw,gw,hlt,yI hlt,hm,gm,hkm,yI hkm,hmm,g2,yI hlt2,hlt2]
    intro _
    refine ⟨_,_,yqv m w (hsm.2 m (List.mem_of_getElem? hmm)),by simp,.inr rfl,?_⟩
    cases h8 : yba m w with
    | false=>simp -dsimp -implicitDefEqProofs; exact yei hw hm (yDg hmm h8)
    | true =>
     simp -dsimp -implicitDefEqProofs
     refine ⟨yA hlt2 hlm,i + 1,⟨hlt2,yO (p:=fun m=>yba m w) hmm hall2 h8⟩,by omega,?_⟩
     apply yj <;> simp [AV.yc,AV.yB,Obj.yc]
   ·have h9:=yaa (p:=fun m=>yba m w) hge2 hall2
    have hlane : yb3 (w,ms) = true:=by
     have : ms.length ≤ 24:=by omega
     simp [yb3,h6,this,h9]
    simp -dsimp -implicitDefEqProofs [hm,gm,hkm,yI hkm,yau hge2]
    refine fun _=>⟨by unfold maxLen at hlen; unfold inI; omega,k + 1,⟨hlt,fun a b hab=>yO (p:=yb3) hp hall hlane (a,b) hab,by rw [hwa]; exact hallw⟩,by omega,?_⟩
    apply yj <;> simp [AV.yc,AV.yB,Obj.yc]
 ·simp -dsimp -implicitDefEqProofs [yau hge]
  refine ⟨by omega,fun _=>?_⟩
  have hl:=yaa (p:=yb3) (by rw [hz]; exact hge) hall
  have h9:=yaa (p:=ya8) (l:=x.Works) (k:=k) (by omega) hallw
  have h2' : 2 ≤ x.Reaches.length:=by omega
  simp [ybb,h1,h2',h3',h4',h5',hl,h9]
theorem yzB (x : Waterway) (hs : x.small) : yE Tryz.prog ygU [.agg (x.enc.map .c)] (.c (.b (ybN x))):=by
 have hsA:=hs.2.2.2.2.1
 have hsP:=hs.2.2.2.2.2.2.2.2
 refine yu ysb (by simp) fun hwf=>?_
 simp -dsimp -implicitDefEqProofs [ylZ]
 intro hlA
 refine ⟨fun h3=>?_,fun h3=>(lno1 (by omega))⟩
 intro hlE
 refine ⟨fun h4=>?_,fun h4=>(lno2 (by omega))⟩
 intro hlP
 refine ⟨fun h5=>(lno3 (by omega)),fun h5=>?_⟩
 refine yh (ι:=Nat) (fun k=>k ≤ x.Arrived.length ∧ ∀ t ∈ x.Arrived.take k,yR t = true) (fun k=>yT [(1,.box 1 0),(3,.c (.i k))] [(1,.box (x.enc.map .c))]) (fun k=>x.Arrived.length - k) 0 (by simp) (by apply yj <;> simp [AV.yc,AV.yB,Obj.yc]) ?_
 rintro k ⟨hk,hall⟩
 rcases Nat.lt_or_ge k x.Arrived.length with hlt | hge
 ·obtain ⟨t,ht⟩ : ∃ w,x.Arrived[k]? = some w:=⟨_,List.getElem?_eq_getElem hlt⟩
  have g1:=(List.getElem?_eq_some_iff.1 ht).2
  simp -dsimp -implicitDefEqProofs [ht,g1,hlt,yI hlt]
  intro _
  refine yg (ydF t (hsA.2 t (List.mem_of_getElem? ht))) (by simp) rfl ?_
  cases h6 : yR t with
  | false=>simp -dsimp -implicitDefEqProofs; exact lno4 ht h6
  | true =>
   simp -dsimp -implicitDefEqProofs
   refine ⟨yA hlt hlA,k + 1,⟨hlt,yO (p:=yR) ht hall h6⟩,by omega,?_⟩
   apply yj <;> simp [AV.yc,AV.yB,Obj.yc]
 have hA:=yaa (p:=yR) hge hall
 simp -dsimp -implicitDefEqProofs [yau hge]
 refine fun _=>yh (ι:=Nat) (fun k=>k ≤ x.Entered.length ∧ ∀ t ∈ x.Entered.take k,inRange t 1 9999 = true) (fun k=>yT [(1,.box 1 0),(4,.c (.i k))] [(1,.box (x.enc.map .c))]) (fun k=>x.Entered.length - k) 0 (by simp) (by apply yj <;> simp [AV.yc,AV.yB,Obj.yc]) ?_
 clear hall hk hge k
 rintro k ⟨hk,hall⟩
 rcases Nat.lt_or_ge k x.Entered.length with hlt | hge
 ·obtain ⟨t,ht⟩ : ∃ w,x.Entered[k]? = some w:=⟨_,List.getElem?_eq_getElem hlt⟩
  have g1:=(List.getElem?_eq_some_iff.1 ht).2
  simp -dsimp -implicitDefEqProofs [ht,g1,hlt,yI hlt]
  intro _
  refine yg (yF t 1 9999) (by simp) rfl ?_
  cases h6 : inRange t 1 9999 with
  | false=>simp -dsimp -implicitDefEqProofs; exact lno5 ht h6
  | true =>
   simp -dsimp -implicitDefEqProofs
   refine ⟨yA hlt hlE,k + 1,⟨hlt,yO (p:=fun n=>inRange n 1 9999) ht hall h6⟩,by omega,?_⟩
   apply yj <;> simp [AV.yc,AV.yB,Obj.yc]
 have hE:=yaa (p:=fun n=>inRange n 1 9999) hge hall
 simp -dsimp -implicitDefEqProofs [yau hge]
 refine fun _=>yh (ι:=Nat) (fun k=>k ≤ x.Passings.length ∧ ∀ t ∈ x.Passings.take k,ydo x.Works.length t = true) (fun k=>yT [(1,.box 1 0),(5,.c (.i k))] [(1,.box (x.enc.map .c))]) (fun k=>x.Passings.length - k) 0 (by simp) (by apply yj <;> simp [AV.yc,AV.yB,Obj.yc]) ?_
 clear hall hk hge k
 rintro k ⟨hk,hall⟩
 rcases Nat.lt_or_ge k x.Passings.length with hlt | hge
 ·obtain ⟨t,ht⟩ : ∃ w,x.Passings[k]? = some w:=⟨_,List.getElem?_eq_getElem hlt⟩
  have g1:=(List.getElem?_eq_some_iff.1 ht).2
  simp -dsimp -implicitDefEqProofs [ht,g1,hlt,yI hlt]
  intro _
  refine yg (yF t.Time 0 1000000) (by simp) rfl ?_
  cases h6 : inRange t.Time 0 1000000 with
  | false=>simp -dsimp -implicitDefEqProofs; exact yB2 ht (by simp [ydo,h6])
  | true =>
  simp -dsimp -implicitDefEqProofs
  refine fun hlW=>⟨by unfold maxLen at hlW; unfold inI; omega,?_⟩
  refine yg (yF t.Work 0 (x.Works.length - 1)) (by simp) rfl ?_
  cases h7 : inRange t.Work 0 (x.Works.length - 1) with
  | false=>simp -dsimp -implicitDefEqProofs; exact yB2 ht (by simp [ydo,h7])
  | true =>
  simp -dsimp -implicitDefEqProofs
  refine yg (ydF t.Train (hsP.2 t (List.mem_of_getElem? ht))) (by simp) rfl ?_
  cases h8 : yR t.Train with
  | false=>simp -dsimp -implicitDefEqProofs; exact yB2 ht (by simp [ydo,h8])
  | true =>
  simp -dsimp -implicitDefEqProofs
  refine ⟨yA hlt hlP,k + 1,⟨hlt,yO (p:=ydo x.Works.length) ht hall (by simp [ydo,h6,h7,h8])⟩,by omega,?_⟩
  apply yj <;> simp [AV.yc,AV.yB,Obj.yc]
 have hP:=yaa (p:=ydo x.Works.length) hge hall
 simp -dsimp -implicitDefEqProofs [yau hge]
 intro _
 have a3 : x.Arrived.length ≤ 500:=by omega
 have a4 : x.Entered.length ≤ 2000:=by omega
 have a5 : x.Passings.length ≤ 500:=by omega
 simp only [ybN,a3,a4,a5,hA,hE,hP]; simp
theorem yrG (x : Waterway) (hs : x.small) : yE Tryz.prog yfu [.agg (x.enc.map .c)] (.c (.b (yal x))):=by
 refine yu yqa (by simp) fun hwf=>?_
 simp -dsimp -implicitDefEqProofs [yi7]
 refine yg (yF x.Time 0 1000000) (by simp) rfl ?_
 cases h1 : inRange x.Time 0 1000000 with
 | false=>simp -dsimp -implicitDefEqProofs; simp [yal,h1]
 | true =>
 simp -dsimp -implicitDefEqProofs
 refine yg (yF x.Start 0 1000000000) (by simp) rfl ?_
 cases h2 : inRange x.Start 0 1000000000 with
 | false=>simp -dsimp -implicitDefEqProofs; simp [yal,h2]
 | true =>
 simp -dsimp -implicitDefEqProofs
 refine yg (yF x.In 0 1000000000) (by simp) rfl ?_
 cases h3 : inRange x.In 0 1000000000 with
 | false=>simp -dsimp -implicitDefEqProofs; simp [yal,h3]
 | true =>
 simp -dsimp -implicitDefEqProofs
 refine yg (yF x.Out 0 1000000000) (by simp) rfl ?_
 cases h4 : inRange x.Out 0 1000000000 with
 | false=>simp -dsimp -implicitDefEqProofs; simp [yal,h4]
 | true =>
 simp -dsimp -implicitDefEqProofs
 refine yg (yzS x hs) (by simp) rfl ?_
 cases h5 : ybb x with
 | false=>simp -dsimp -implicitDefEqProofs; simp [yal,h5]
 | true =>
 simp -dsimp -implicitDefEqProofs
 refine yg (yzB x hs) (by simp) rfl ?_
 cases h6 : ybN x with
 | false=>simp -dsimp -implicitDefEqProofs; simp [yal,h6]
 | true =>
 simp -dsimp -implicitDefEqProofs
 refine yg (yvb x.Tariff) (by simp) rfl ?_
 cases h7 : ya6 x.Tariff with
 | false=>simp -dsimp -implicitDefEqProofs; simp [yal,h7]
 | true =>
 simp -dsimp -implicitDefEqProofs
 refine yg (yye x.Book) (by simp) rfl ?_
 simp -dsimp -implicitDefEqProofs
 simp [yal,h1,h2,h3,h4,h5,h6,h7]
structure WaterFacts (x : Waterway) : Prop where
 river : ycN x.Reaches = true
 few : x.Works.length ≤ 5
 rng : ∀ w ∈ x.Works,0 ≤ w.Lock.Water ∧ w.Lock.Water ≤ 1000000000
 start : 0 ≤ x.Start ∧ x.Start ≤ 1000000000
 inn : 0 ≤ x.In ∧ x.In ≤ 1000000000
 out : 0 ≤ x.Out ∧ x.Out ≤ 1000000000
theorem ytI {x : Waterway} (h : yal x = true) : WaterFacts x:=by
 simp only [yal,Bool.and_eq_true] at h
 obtain ⟨⟨⟨⟨⟨⟨⟨h1,h2⟩,h3⟩,h4⟩,h5⟩,h6⟩,h7⟩,h8⟩:=h
 simp only [ybb,Bool.and_eq_true,decide_eq_true_eq,List.all_eq_true] at h2
 obtain ⟨⟨⟨⟨⟨⟨p1,p2⟩,p3⟩,p4⟩,p5⟩,p6⟩,p7⟩:=h2
 have rf:=(yAq p1).len
 refine ⟨p1,by omega,fun w hw=>?_,yU.1 h6,yU.1 h7,yU.1 h8⟩
 have:=p7 w hw
 simp only [ya8,ybc,Bool.and_eq_true] at this
 exact yU.1 this.1.1.1.1.1.1.1.1.2
theorem ybi {α : Type} {f : α → List C} (h : ∀ x,∀ c ∈ f x,c.closed) (k : Nat) (l : List α) : (C.ot k (l.map f)).closed:=by
 simp only [C.closed,List.mem_map]
 rintro r ⟨x,_,rfl⟩ c hc
 exact h x c hc
theorem ybT {l : List C} (h : ∀ c ∈ l,c.closed) : (AV.agg (l.map .c)).closed:=by
 show ∀ c,c ∈ AV.cs (l.map AV.c) → c.closed
 rw [yqW]; exact h
theorem ybs {k : Int} (h : 0 ≤ k) : inI (k.tmod 3):=by
 have:=Int.tmod_nonneg 3 h
 have:=Int.tmod_lt_of_pos k (b:=3) (by omega)
 unfold inI; omega
theorem yjh (xs : List Boat) : ∀ c ∈ yX xs,c.closed:=by simp [yX,C.closed]
theorem Train.yad (e : Train) : ∀ c ∈ e.yM,c.closed:=by
 simp only [Train.yM,List.mem_cons,List.not_mem_nil,or_false,forall_eq_or_imp,forall_eq]
 exact ⟨by simp [C.closed],ybi yjh _ _⟩
theorem Mover.yad (e : Mover) : ∀ c ∈ e.yM,c.closed:=by
 simp only [Mover.yM,List.mem_cons,List.not_mem_nil,or_false,forall_eq_or_imp,forall_eq]
 exact ⟨by simp [C.closed],ybi yjh _ _,by simp [C.closed]⟩
theorem Reach.yad (e : Reach) : ∀ c ∈ e.yM,c.closed:=by
 simp only [Reach.yM,List.mem_cons,List.not_mem_nil,or_false,forall_eq_or_imp,forall_eq]
 exact ⟨by simp [C.closed],by simp [C.closed],by simp [C.closed]⟩
theorem Tariff.yad (e : Tariff) : ∀ c ∈ e.yM,c.closed:=by
 simp only [Tariff.yM,List.mem_cons,List.not_mem_nil,or_false,forall_eq_or_imp,forall_eq]
 exact ⟨by simp [C.closed],by simp [C.closed],by simp [C.closed],by simp [C.closed]⟩
theorem ywF (n : Nat) (k : Int) (h0 : 0 ≤ k) (h1 : k + 2 * n ≤ 8000000000000000000) : yE Tryz.prog ye6 [.c (.sl 2 (marked mkP 2 [] k n)),.c (.i k)] (.c (.i (k + 2 * n))):=by
 refine yu ypz (by simp) fun hwf=>?_
 simp -dsimp -implicitDefEqProofs [yjb]
 refine yh (ι:=Nat) (fun i=>i ≤ n) (fun i=>yT [(0,.c (.sl 2 (marked mkP 2 [] k n))),(1,.c (.i (k + 2 * i))),(5,.c (.i i))] []) (fun i=>n - i) 0 (by simp) (by apply yj <;> simp [AV.yc,AV.yB,Obj.yc]) ?_
 rintro i hi
 rcases Nat.lt_or_ge i n with hlt | hge
 ·have hg:=yhJ (mk:=mkP) (c:=2) (k:=k) hlt
  simp only [mkP] at hg
  simp -dsimp -implicitDefEqProofs [yP,yI hlt,hg]
  intro hlen
  repeat (refine ⟨by first | exact hlt | (unfold inI; omega) | exact ybs (by omega),?_⟩)
  refine ⟨i + 1,hlt,by omega,?_⟩
  apply yj <;> simp [AV.yc,AV.yB,Obj.yc] <;> omega
 ·have : i = n:=by omega
  subst this
  simp -dsimp -implicitDefEqProofs [yP]
theorem yAt (xs : List Reach) (hl : ycR xs) : ybg Tryz.prog yd6 [.c (.sl 3 (xs.map Reach.enc))] (.c (.ot 3 (xs.map Reach.yM))):=by
 refine yaw ylQ (by simp) fun hwf=>?_
 simp -dsimp -implicitDefEqProofs [yhe]
 intro hlen
 have hl1:=hl.1
 refine ⟨by omega,?_⟩
 refine yh (ι:=Nat) (fun k=>k ≤ xs.length) (fun k=>yT [(0,.c (.sl 3 (xs.map Reach.enc))),(3,.own 7 3 xs.length),(4,.c (.i k))] [(7,.tr 3 0 (partly Reach.yM [.sl 2 [],.i 0,.sl 1 []] xs k))]) (fun k=>xs.length - k) 0 (by simp) (by apply yj <;> simp [AV.yc,AV.yB,Obj.yc,yac,Obj.leO]) ?_
 rintro k hk
 rcases Nat.lt_or_ge k xs.length with hlt | hge
 ·obtain ⟨e,he⟩ : ∃ e,xs[k]? = some e:=⟨_,List.getElem?_eq_getElem hlt⟩
  have hs:=yai (f:=Reach.yM) (z:=[.sl 2 [],.i 0,.sl 1 []]) he
  have hd:=yar (f:=Reach.yM) (z:=[.sl 2 [],.i 0,.sl 1 []]) (n:=3) rfl hlt
  simp only [Reach.yM] at hs
  simp -dsimp -implicitDefEqProofs [he,yI hlt]
  intro _
  refine yS (yB0 e (hl.2 e (List.mem_of_getElem? he))) (by simp) (ybT (Reach.yad _)) (by simp [yZ]) ?_
  simp -dsimp -implicitDefEqProofs [yI hlt,yaj hk,yt,hd,hs]
  exact ⟨hlt,yA hlt hlen,k + 1,hlt,by omega,by apply yj <;> simp [AV.yc,AV.yB,Obj.yc,Obj.leO]⟩
 ·simp -dsimp -implicitDefEqProofs [yau hge]
  intro _
  rw [yak hge,yt]
def yav (e : Reach) : Nat:=2 * e.Table.length + 1 + e.Pipe.length
def ycS (k : Int) (e : Reach) : List C:=[.ow 2 (marked mkP 2 [] k e.Table.length),.i (k + 2 * (e.Table.length : Int)),.ow 1 (marked yJ 1 [] (k + 2 * (e.Table.length : Int) + 1) e.Pipe.length)]
def yio (k : Int) (e : Reach) : List C:=[.sl 2 (marked mkP 2 [] k e.Table.length),.i (k + 2 * (e.Table.length : Int)),.sl 1 (marked yJ 1 [] (k + 2 * (e.Table.length : Int) + 1) e.Pipe.length)]
theorem ypD (k : Int) (e : Reach) : ybR (ycS k e) = some (yio k e):=by simp [ycS,yio,ybR,C.shr]
theorem ywm (xs : List Reach) (k : Int) (h0 : 0 ≤ k) (h1 : k + cnt yav xs ≤ 8000000000000000000) :
 InF Tryz.prog yeP (.c (ct 3 (xs.map Reach.yM))) (.c (ct 3 (yay ycS yav k xs))) [.c (.i k)] (.c (.i (k + cnt yav xs))):=by
 rcases Nat.eq_zero_or_pos xs.length with hx | hx
 ·have : xs = []:=List.length_eq_zero_iff.1 hx
  subst this
  refine ybG yi5 (by simp) (by simp) rfl fun hwf=>?_
  simp -dsimp -implicitDefEqProofs [yfb,yay,cnt]
  refine yh (ι:=Unit) (fun _=>True) (fun _=>yT [(0,.c (.sl 3 [])),(1,.c (.i k)),(5,.c (.i 0)),(1000000,.c (.sl 3 []))] []) (fun _=>0) () trivial (by apply yj <;> simp [AV.yc,AV.yB,Obj.yc]) ?_
  rintro _ _
  simp -dsimp -implicitDefEqProofs
 ·rw [ycQ (by simpa using hx),ycQ (by rw [yK]; exact hx)]
  refine ybG yi5 (by simp) (by simp) rfl fun hwf=>?_
  simp -dsimp -implicitDefEqProofs [yfb]
  refine yh (ι:=Nat) (fun i=>i ≤ xs.length) (fun i=>yT [(0,.own 0 3 xs.length),(1,.c (.i (k + yaE yav xs i))),(5,.c (.i i)),(1000000,.own 0 3 xs.length)] [(0,.tr 3 0 (ycC ycS Reach.yM yav k xs i))]) (fun i=>xs.length - i) 0 (by simp) (by apply yj <;> simp [AV.yc,AV.yB,Obj.yc,ydq,yaV,Obj.leO]) ?_
  rintro i hi
  rcases Nat.lt_or_ge i xs.length with hlt | hge
  ·obtain ⟨e,he⟩ : ∃ e,xs[i]? = some e:=⟨_,List.getElem?_eq_getElem hlt⟩
   have hg:=yez (f:=ycS) (g:=Reach.yM) (n:=yav) (k:=k) he
   have hl:=yeE (f:=ycS) (g:=Reach.yM) (n:=yav) (k:=k) (xs:=xs) (i:=i)
   have hs:=yeC (f:=ycS) (g:=Reach.yM) (n:=yav) (k:=k) he
   have hc:=yaW (n:=yav) he
   have hle:=ybF (n:=yav) (xs:=xs) (i:=i + 1)
   have hn : yav e = 2 * e.Table.length + 1 + e.Pipe.length:=rfl
   generalize hM : ycC ycS Reach.yM yav k xs i = M at *
   generalize hK : (k + (yaE yav xs i : Int)) = K at *
   have hlt2 : i < M.length:=by omega
   have g1 : M[i] = Reach.yM e:=(List.getElem?_eq_some_iff.1 hg).2
   have hself : ∀ a,(M.set i a)[i]? = some a:=fun a=>List.getElem?_set_self hlt2
   have hgetD : ∀ a,(M.set i a)[i]?.getD [] = a:=fun a=>by rw [hself]; rfl
   simp only [Reach.yM] at hg g1
   have hk : 0 ≤ K:=by omega
   simp -dsimp -implicitDefEqProofs [yI hlt,hg,hl,hlt2,g1,hself,setAt]
   intro hlen
   repeat (refine ⟨by first | exact hlt | (unfold inI; omega) | exact ybs (by omega),?_⟩)
   refine ybX (k0:=3) (j:=0) (i:=(i : Int)) (r:=[.ow 2 (e.Table.map Point.enc),.i e.Volume,.ow 1 (e.Pipe.map yJ)]) (c:=.ow 2 (e.Table.map Point.enc)) (c':=.ow 2 (marked mkP 2 [] K e.Table.length)) (ywJ e.Table (K) (by omega) (by omega)) (by simp) rfl rfl rfl (by first | exact hself _ | simpa using hg) rfl ⟨_,by rw [yP]; simp,rfl,rfl,rfl⟩ (by simp [C.sz]) ?_
   simp -dsimp -implicitDefEqProofs [setAt,hself,hlt2,hl]
   repeat (refine ⟨by first | exact hlt | (unfold inI; omega) | exact ybs (by omega),?_⟩)
   refine ybX (k0:=3) (j:=2) (i:=(i : Int)) (r:=[.ow 2 (marked mkP 2 [] K e.Table.length),.i (K + 2 * (e.Table.length : Int)),.ow 1 (e.Pipe.map yJ)]) (c:=.ow 1 (e.Pipe.map yJ)) (c':=.ow 1 (marked yJ 1 [] (K + 2 * (e.Table.length : Int) + 1) e.Pipe.length)) (ycp e.Pipe (K + 2 * (e.Table.length : Int) + 1) (by omega) (by omega)) (by simp) rfl rfl rfl (by first | exact hself _ | simpa using hg) rfl ⟨_,by rw [yP]; simp,rfl,rfl,rfl⟩ (by simp [C.sz]) ?_
   simp -dsimp -implicitDefEqProofs [setAt,hself,hlt2,hl]
   repeat (refine ⟨by first | exact hlt | (unfold inI; omega) | exact ybs (by omega) | exact yA hlt hlen,?_⟩)
   refine ⟨i + 1,hlt,by omega,?_⟩
   simp only [ycS] at hs
   apply yj <;> simp [AV.yc,AV.yB,Obj.yc,Obj.leO,hs,hself] <;> omega
  ·have : i = xs.length:=by omega
   subst this
   simp -dsimp -implicitDefEqProofs
   intro _
   rw [yew (Nat.le_refl _),ybf (Nat.le_refl _),List.take_of_length_le (by rw [yK]; exact Nat.le_refl _)]
   exact ⟨rfl,rfl⟩
theorem ywD (xs : List Reach) (k : Int) (h0 : 0 ≤ k) (h1 : k + cnt yav xs ≤ 8000000000000000000) : yE Tryz.prog yfn [.c (.sl 3 (yay yio yav k xs)),.c (.i k)] (.c (.i (k + cnt yav xs))):=by
 refine yu ypW (by simp) fun hwf=>?_
 simp -dsimp -implicitDefEqProofs [yjp]
 refine yh (ι:=Nat) (fun i=>i ≤ xs.length) (fun i=>yT [(0,.c (.sl 3 (yay yio yav k xs))),(1,.c (.i (k + yaE yav xs i))),(5,.c (.i i))] []) (fun i=>xs.length - i) 0 (by simp) (by apply yj <;> simp [AV.yc,AV.yB,Obj.yc,yaV]) ?_
 rintro i hi
 rcases Nat.lt_or_ge i xs.length with hlt | hge
 ·obtain ⟨e,he⟩ : ∃ e,xs[i]? = some e:=⟨_,List.getElem?_eq_getElem hlt⟩
  have hg:=yhD (f:=yio) (n:=yav) (k:=k) he
  have hc:=yaW (n:=yav) he
  have hle:=ybF (n:=yav) (xs:=xs) (i:=i + 1)
  have hn : yav e = 2 * e.Table.length + 1 + e.Pipe.length:=rfl
  simp only [yio] at hg
  generalize hK : (k + (yaE yav xs i : Int)) = K at *
  have hk : 0 ≤ K:=by omega
  simp -dsimp -implicitDefEqProofs [yK,yI hlt,hg]
  intro hlen
  repeat (refine ⟨by first | exact hlt | (unfold inI; omega) | exact ybs (by omega),?_⟩)
  refine yg (ywF e.Table.length (K) (by omega) (by omega)) (by simp) rfl ?_
  have n0 : (K + 2 * (e.Table.length : Int) < 0) = False:=by simp; omega
  simp -dsimp -implicitDefEqProofs [n0,yK,yI hlt,hg]
  repeat (refine ⟨by first | exact hlt | (unfold inI; omega) | exact ybs (by omega),?_⟩)
  refine yg (ylr e.Pipe.length (K + 2 * (e.Table.length : Int) + 1) (by omega) (by omega)) (by simp) rfl ?_
  have n2 : (K + 2 * (e.Table.length : Int) + 1 + (e.Pipe.length : Int) < 0) = False:=by simp; omega
  simp -dsimp -implicitDefEqProofs [n2,yK,yI hlt,hg]
  repeat (refine ⟨by first | exact hlt | (unfold inI; omega) | exact ybs (by omega) | exact yA hlt hlen,?_⟩)
  refine ⟨i + 1,hlt,by omega,?_⟩
  apply yj <;> simp [AV.yc,AV.yB,Obj.yc] <;> omega
 ·have : i = xs.length:=by omega
  subst this
  simp -dsimp -implicitDefEqProofs [yK]
  rw [ybf (Nat.le_refl _)]
  intro _; rfl
theorem yCS (xs : List Way) (hl : ylj xs) : ybg Tryz.prog yf9 [.c (.sl 2 (xs.map Way.enc))] (.c (.ow 2 (xs.map Way.enc))):=by
 refine yaw yoO (by simp) fun hwf=>?_
 simp -dsimp -implicitDefEqProofs [yj6]
 intro hlen
 have hl1:=hl.1
 refine ⟨by omega,?_⟩
 refine yh (ι:=Nat) (fun k=>k ≤ xs.length) (fun k=>yT [(0,.c (.sl 2 (xs.map Way.enc))),(3,.own 7 2 xs.length),(4,.c (.i k))] [(7,.row 2 (partly Way.enc [.i 0,.i 0] xs k))]) (fun k=>xs.length - k) 0 (by simp) (by apply yj <;> simp [AV.yc,AV.yB,Obj.yc,yac]) ?_
 rintro k hk
 rcases Nat.lt_or_ge k xs.length with hlt | hge
 ·obtain ⟨e,he⟩ : ∃ e,xs[k]? = some e:=⟨_,List.getElem?_eq_getElem hlt⟩
  have hs:=yai (f:=Way.enc) (z:=[.i 0,.i 0]) he
  have hd:=yar (f:=Way.enc) (z:=[.i 0,.i 0]) (n:=2) rfl hlt
  simp only [Way.enc] at hs
  simp -dsimp -implicitDefEqProofs [he,yI hlt]
  refine fun _=>yL (yBa e) (by simp) rfl ?_
  simp -dsimp -implicitDefEqProofs [yI hlt,yaj hk,hd,hs]
  exact ⟨hlt,yA hlt hlen,k + 1,hlt,by omega,by apply yj <;> simp [AV.yc,AV.yB,Obj.yc]⟩
 ·simp -dsimp -implicitDefEqProofs [yau hge]
  intro _
  rw [yak hge,yt]
def ydO (k : Int) : List C:=[.i k,.i (k + 1)]
theorem yzu (xs : List Way) (k : Int) (h0 : 0 ≤ k) (h1 : k + 2 * xs.length ≤ 8000000000000000000) :
 InF Tryz.prog ygR (.c (cw 2 (xs.map Way.enc))) (.c (cw 2 (marked ydO 2 [] k xs.length))) [.c (.i k)] (.c (.i (k + 2 * xs.length))):=by
 rcases Nat.eq_zero_or_pos xs.length with hx | hx
 ·have : xs = []:=List.length_eq_zero_iff.1 hx
  subst this
  refine ybG ylU (by simp) (by simp) rfl fun hwf=>?_
  simp -dsimp -implicitDefEqProofs [yg5,marked]
  refine yh (ι:=Unit) (fun _=>True) (fun _=>yT [(0,.c (.sl 2 [])),(1,.c (.i k)),(5,.c (.i 0)),(1000000,.c (.sl 2 []))] []) (fun _=>0) () trivial (by apply yj <;> simp [AV.yc,AV.yB,Obj.yc]) ?_
  rintro _ _
  simp -dsimp -implicitDefEqProofs
 ·rw [ybW (by simpa using hx),ybW (by rw [yP]; exact hx)]
  refine ybG ylU (by simp) (by simp) rfl fun hwf=>?_
  simp -dsimp -implicitDefEqProofs [yg5]
  refine yh (ι:=Nat) (fun i=>i ≤ xs.length) (fun i=>yT [(0,.own 0 2 xs.length),(1,.c (.i (k + 2 * i))),(5,.c (.i i)),(1000000,.own 0 2 xs.length)] [(0,.row 2 (marked ydO 2 (xs.map Way.enc) k i))]) (fun i=>xs.length - i) 0 (by simp) (by apply yj <;> simp [AV.yc,AV.yB,Obj.yc,yex]) ?_
  rintro i hi
  rcases Nat.lt_or_ge i xs.length with hlt | hge
  ·obtain ⟨e,he⟩ : ∃ e,xs[i]? = some e:=⟨_,List.getElem?_eq_getElem hlt⟩
   have hg:=yfS (mk:=ydO) (c:=2) (k:=k) (rows:=xs.map Way.enc) (i:=i) (r:=e.enc) (by simp [he])
   have hl:=yfI (mk:=ydO) (c:=2) (k:=k) (rows:=xs.map Way.enc) (i:=i) (by simpa using hi)
   have hs:=yfW (mk:=ydO) (c:=2) (k:=k) (rows:=xs.map Way.enc) (i:=i) (by simpa using hlt)
   rw [List.length_map] at hl
   generalize marked ydO 2 (xs.map Way.enc) k i = M at *
   have hlt2 : i < M.length:=by omega
   have hself : ∀ a,(M.set i a)[i]? = some a:=fun a=>List.getElem?_set_self hlt2
   simp only [ydO] at hs
   simp only [Way.enc] at hg
   simp -dsimp -implicitDefEqProofs [yI hlt,hg,hl,hlt2,hself]
   intro hlen
   repeat (refine ⟨by first | exact hlt | (unfold inI; omega) | (have:=Int.tmod_nonneg 3 (show 0 ≤ k + 2 * (i : Int) by omega); have:=Int.tmod_lt_of_pos (k + 2 * (i : Int)) (b:=3) (by omega); unfold inI; omega),?_⟩)
   refine ⟨i + 1,hlt,by omega,?_⟩
   apply yj <;> simp [AV.yc,AV.yB,Obj.yc,hs,hself] <;> omega
  ·have : i = xs.length:=by omega
   subst this
   simp -dsimp -implicitDefEqProofs
   intro _
   have e:=yfK (mk:=ydO) (c:=2) (rows:=xs.map Way.enc) (k:=k) (i:=xs.length) (by simp)
   rw [e,List.length_map,List.take_of_length_le (by rw [yP]; exact Nat.le_refl _)]
theorem yzL (n : Nat) (k : Int) (h0 : 0 ≤ k) (h1 : k + 2 * n ≤ 8000000000000000000) : yE Tryz.prog yhh [.c (.sl 2 (marked ydO 2 [] k n)),.c (.i k)] (.c (.i (k + 2 * n))):=by
 refine yu yrM (by simp) fun hwf=>?_
 simp -dsimp -implicitDefEqProofs [ymf]
 refine yh (ι:=Nat) (fun i=>i ≤ n) (fun i=>yT [(0,.c (.sl 2 (marked ydO 2 [] k n))),(1,.c (.i (k + 2 * i))),(5,.c (.i i))] []) (fun i=>n - i) 0 (by simp) (by apply yj <;> simp [AV.yc,AV.yB,Obj.yc]) ?_
 rintro i hi
 rcases Nat.lt_or_ge i n with hlt | hge
 ·have hg:=yhJ (mk:=ydO) (c:=2) (k:=k) hlt
  simp only [ydO] at hg
  simp -dsimp -implicitDefEqProofs [yP,yI hlt,hg]
  intro hlen
  repeat (refine ⟨by first | exact hlt | (unfold inI; omega) | exact ybs (by omega),?_⟩)
  refine ⟨i + 1,hlt,by omega,?_⟩
  apply yj <;> simp [AV.yc,AV.yB,Obj.yc] <;> omega
 ·have : i = n:=by omega
  subst this
  simp -dsimp -implicitDefEqProofs [yP]
theorem yzX (xs : List Pause) (hl : yhx xs) : ybg Tryz.prog yd9 [.c (.sl 2 (xs.map Pause.enc))] (.c (.ow 2 (xs.map Pause.enc))):=by
 refine yaw ylG (by simp) fun hwf=>?_
 simp -dsimp -implicitDefEqProofs [yg8]
 intro hlen
 have hl1:=hl.1
 refine ⟨by omega,?_⟩
 refine yh (ι:=Nat) (fun k=>k ≤ xs.length) (fun k=>yT [(0,.c (.sl 2 (xs.map Pause.enc))),(3,.own 7 2 xs.length),(4,.c (.i k))] [(7,.row 2 (partly Pause.enc [.i 0,.i 0] xs k))]) (fun k=>xs.length - k) 0 (by simp) (by apply yj <;> simp [AV.yc,AV.yB,Obj.yc,yac]) ?_
 rintro k hk
 rcases Nat.lt_or_ge k xs.length with hlt | hge
 ·obtain ⟨e,he⟩ : ∃ e,xs[k]? = some e:=⟨_,List.getElem?_eq_getElem hlt⟩
  have hs:=yai (f:=Pause.enc) (z:=[.i 0,.i 0]) he
  have hd:=yar (f:=Pause.enc) (z:=[.i 0,.i 0]) (n:=2) rfl hlt
  simp only [Pause.enc] at hs
  simp -dsimp -implicitDefEqProofs [he,yI hlt]
  refine fun _=>yL (yvK e) (by simp) rfl ?_
  simp -dsimp -implicitDefEqProofs [yI hlt,yaj hk,hd,hs]
  exact ⟨hlt,yA hlt hlen,k + 1,hlt,by omega,by apply yj <;> simp [AV.yc,AV.yB,Obj.yc]⟩
 ·simp -dsimp -implicitDefEqProofs [yau hge]
  intro _
  rw [yak hge,yt]
def ybI (k : Int) : List C:=[.i k,.i (k + 1)]
theorem ywB (xs : List Pause) (k : Int) (h0 : 0 ≤ k) (h1 : k + 2 * xs.length ≤ 8000000000000000000) :
 InF Tryz.prog yfv (.c (cw 2 (xs.map Pause.enc))) (.c (cw 2 (marked ybI 2 [] k xs.length))) [.c (.i k)] (.c (.i (k + 2 * xs.length))):=by
 rcases Nat.eq_zero_or_pos xs.length with hx | hx
 ·have : xs = []:=List.length_eq_zero_iff.1 hx
  subst this
  refine ybG yiR (by simp) (by simp) rfl fun hwf=>?_
  simp -dsimp -implicitDefEqProofs [yfd,marked]
  refine yh (ι:=Unit) (fun _=>True) (fun _=>yT [(0,.c (.sl 2 [])),(1,.c (.i k)),(5,.c (.i 0)),(1000000,.c (.sl 2 []))] []) (fun _=>0) () trivial (by apply yj <;> simp [AV.yc,AV.yB,Obj.yc]) ?_
  rintro _ _
  simp -dsimp -implicitDefEqProofs
 ·rw [ybW (by simpa using hx),ybW (by rw [yP]; exact hx)]
  refine ybG yiR (by simp) (by simp) rfl fun hwf=>?_
  simp -dsimp -implicitDefEqProofs [yfd]
  refine yh (ι:=Nat) (fun i=>i ≤ xs.length) (fun i=>yT [(0,.own 0 2 xs.length),(1,.c (.i (k + 2 * i))),(5,.c (.i i)),(1000000,.own 0 2 xs.length)] [(0,.row 2 (marked ybI 2 (xs.map Pause.enc) k i))]) (fun i=>xs.length - i) 0 (by simp) (by apply yj <;> simp [AV.yc,AV.yB,Obj.yc,yex]) ?_
  rintro i hi
  rcases Nat.lt_or_ge i xs.length with hlt | hge
  ·obtain ⟨e,he⟩ : ∃ e,xs[i]? = some e:=⟨_,List.getElem?_eq_getElem hlt⟩
   have hg:=yfS (mk:=ybI) (c:=2) (k:=k) (rows:=xs.map Pause.enc) (i:=i) (r:=e.enc) (by simp [he])
   have hl:=yfI (mk:=ybI) (c:=2) (k:=k) (rows:=xs.map Pause.enc) (i:=i) (by simpa using hi)
   have hs:=yfW (mk:=ybI) (c:=2) (k:=k) (rows:=xs.map Pause.enc) (i:=i) (by simpa using hlt)
   rw [List.length_map] at hl
   generalize marked ybI 2 (xs.map Pause.enc) k i = M at *
   have hlt2 : i < M.length:=by omega
   have hself : ∀ a,(M.set i a)[i]? = some a:=fun a=>List.getElem?_set_self hlt2
   simp only [ybI] at hs
   simp only [Pause.enc] at hg
   simp -dsimp -implicitDefEqProofs [yI hlt,hg,hl,hlt2,hself]
   intro hlen
   repeat (refine ⟨by first | exact hlt | (unfold inI; omega) | (have:=Int.tmod_nonneg 3 (show 0 ≤ k + 2 * (i : Int) by omega); have:=Int.tmod_lt_of_pos (k + 2 * (i : Int)) (b:=3) (by omega); unfold inI; omega),?_⟩)
   refine ⟨i + 1,hlt,by omega,?_⟩
   apply yj <;> simp [AV.yc,AV.yB,Obj.yc,hs,hself] <;> omega
  ·have : i = xs.length:=by omega
   subst this
   simp -dsimp -implicitDefEqProofs
   intro _
   have e:=yfK (mk:=ybI) (c:=2) (rows:=xs.map Pause.enc) (k:=k) (i:=xs.length) (by simp)
   rw [e,List.length_map,List.take_of_length_le (by rw [yP]; exact Nat.le_refl _)]
theorem ywu (n : Nat) (k : Int) (h0 : 0 ≤ k) (h1 : k + 2 * n ≤ 8000000000000000000) : yE Tryz.prog yfm [.c (.sl 2 (marked ybI 2 [] k n)),.c (.i k)] (.c (.i (k + 2 * n))):=by
 refine yu yqg (by simp) fun hwf=>?_
 simp -dsimp -implicitDefEqProofs [yiU]
 refine yh (ι:=Nat) (fun i=>i ≤ n) (fun i=>yT [(0,.c (.sl 2 (marked ybI 2 [] k n))),(1,.c (.i (k + 2 * i))),(5,.c (.i i))] []) (fun i=>n - i) 0 (by simp) (by apply yj <;> simp [AV.yc,AV.yB,Obj.yc]) ?_
 rintro i hi
 rcases Nat.lt_or_ge i n with hlt | hge
 ·have hg:=yhJ (mk:=ybI) (c:=2) (k:=k) hlt
  simp only [ybI] at hg
  simp -dsimp -implicitDefEqProofs [yP,yI hlt,hg]
  intro hlen
  repeat (refine ⟨by first | exact hlt | (unfold inI; omega) | exact ybs (by omega),?_⟩)
  refine ⟨i + 1,hlt,by omega,?_⟩
  apply yj <;> simp [AV.yc,AV.yB,Obj.yc] <;> omega
 ·have : i = n:=by omega
  subst this
  simp -dsimp -implicitDefEqProofs [yP]
theorem yt5 (xs : List Train) (hl : ybM xs) : ybg Tryz.prog ycU [.c (.sl 2 (xs.map Train.enc))] (.c (.ot 2 (xs.map Train.yM))):=by
 refine yaw ylK (by simp) fun hwf=>?_
 simp -dsimp -implicitDefEqProofs [ygX]
 intro hlen
 have hl1:=hl.1
 refine ⟨by omega,?_⟩
 refine yh (ι:=Nat) (fun k=>k ≤ xs.length) (fun k=>yT [(0,.c (.sl 2 (xs.map Train.enc))),(3,.own 7 2 xs.length),(4,.c (.i k))] [(7,.tr 2 0 (partly Train.yM [.b false,.sl 1 []] xs k))]) (fun k=>xs.length - k) 0 (by simp) (by apply yj <;> simp [AV.yc,AV.yB,Obj.yc,yac,Obj.leO]) ?_
 rintro k hk
 rcases Nat.lt_or_ge k xs.length with hlt | hge
 ·obtain ⟨e,he⟩ : ∃ e,xs[k]? = some e:=⟨_,List.getElem?_eq_getElem hlt⟩
  have hs:=yai (f:=Train.yM) (z:=[.b false,.sl 1 []]) he
  have hd:=yar (f:=Train.yM) (z:=[.b false,.sl 1 []]) (n:=2) rfl hlt
  simp only [Train.yM] at hs
  simp -dsimp -implicitDefEqProofs [he,yI hlt]
  intro _
  refine yS (yn1 e (hl.2 e (List.mem_of_getElem? he))) (by simp) (ybT (Train.yad _)) (by simp [yZ]) ?_
  simp -dsimp -implicitDefEqProofs [yI hlt,yaj hk,yt,hd,hs]
  exact ⟨hlt,yA hlt hlen,k + 1,hlt,by omega,by apply yj <;> simp [AV.yc,AV.yB,Obj.yc,Obj.leO]⟩
 ·simp -dsimp -implicitDefEqProofs [yau hge]
  intro _
  rw [yak hge,yt]
def yD (e : Train) : Nat:=1 + cnt nB e.Rows
def ybJ (k : Int) (e : Train) : List C:=[.b (decide (k.tmod 3 = 0)),.ot 1 (yay fB nB (k + 1) e.Rows)]
def ygv (k : Int) (e : Train) : List C:=[.b (decide (k.tmod 3 = 0)),.sl 1 (yay fBs nB (k + 1) e.Rows)]
theorem yls (k : Int) (e : Train) : ybR (ybJ k e) = some (ygv k e):=by simp [ybJ,ygv,ybR,C.shr,ya7 ywj]
theorem yqp (xs : List Train) (k : Int) (h0 : 0 ≤ k) (h1 : k + cnt yD xs ≤ 8000000000000000000) :
 InF Tryz.prog yda (.c (ct 2 (xs.map Train.yM))) (.c (ct 2 (yay ybJ yD k xs))) [.c (.i k)] (.c (.i (k + cnt yD xs))):=by
 rcases Nat.eq_zero_or_pos xs.length with hx | hx
 ·have : xs = []:=List.length_eq_zero_iff.1 hx
  subst this
  refine ybG yi0 (by simp) (by simp) rfl fun hwf=>?_
  simp -dsimp -implicitDefEqProofs [yeO,yay,cnt]
  refine yh (ι:=Unit) (fun _=>True) (fun _=>yT [(0,.c (.sl 2 [])),(1,.c (.i k)),(5,.c (.i 0)),(1000000,.c (.sl 2 []))] []) (fun _=>0) () trivial (by apply yj <;> simp [AV.yc,AV.yB,Obj.yc]) ?_
  rintro _ _
  simp -dsimp -implicitDefEqProofs
 ·rw [ycQ (by simpa using hx),ycQ (by rw [yK]; exact hx)]
  refine ybG yi0 (by simp) (by simp) rfl fun hwf=>?_
  simp -dsimp -implicitDefEqProofs [yeO]
  refine yh (ι:=Nat) (fun i=>i ≤ xs.length) (fun i=>yT [(0,.own 0 2 xs.length),(1,.c (.i (k + yaE yD xs i))),(5,.c (.i i)),(1000000,.own 0 2 xs.length)] [(0,.tr 2 0 (ycC ybJ Train.yM yD k xs i))]) (fun i=>xs.length - i) 0 (by simp) (by apply yj <;> simp [AV.yc,AV.yB,Obj.yc,ydq,yaV,Obj.leO]) ?_
  rintro i hi
  rcases Nat.lt_or_ge i xs.length with hlt | hge
  ·obtain ⟨e,he⟩ : ∃ e,xs[i]? = some e:=⟨_,List.getElem?_eq_getElem hlt⟩
   have hg:=yez (f:=ybJ) (g:=Train.yM) (n:=yD) (k:=k) he
   have hl:=yeE (f:=ybJ) (g:=Train.yM) (n:=yD) (k:=k) (xs:=xs) (i:=i)
   have hs:=yeC (f:=ybJ) (g:=Train.yM) (n:=yD) (k:=k) he
   have hc:=yaW (n:=yD) he
   have hle:=ybF (n:=yD) (xs:=xs) (i:=i + 1)
   have hn : yD e = 1 + cnt nB e.Rows:=rfl
   generalize hM : ycC ybJ Train.yM yD k xs i = M at *
   generalize hK : (k + (yaE yD xs i : Int)) = K at *
   have hlt2 : i < M.length:=by omega
   have g1 : M[i] = Train.yM e:=(List.getElem?_eq_some_iff.1 hg).2
   have hself : ∀ a,(M.set i a)[i]? = some a:=fun a=>List.getElem?_set_self hlt2
   have hgetD : ∀ a,(M.set i a)[i]?.getD [] = a:=fun a=>by rw [hself]; rfl
   simp only [Train.yM] at hg g1
   have hk : 0 ≤ K:=by omega
   simp -dsimp -implicitDefEqProofs [yI hlt,hg,hl,hlt2,g1,hself,setAt]
   intro hlen
   repeat (refine ⟨by first | exact hlt | (unfold inI; omega) | exact ybs (by omega),?_⟩)
   refine ybX (k0:=2) (j:=1) (i:=(i : Int)) (r:=[.b (decide (K.tmod 3 = 0)),.ot 1 (e.Rows.map yX)]) (c:=.ot 1 (e.Rows.map yX)) (c':=.ot 1 (yay fB nB (K + 1) e.Rows)) (yhE e.Rows (K + 1) (by omega) (by omega)) (by simp) rfl rfl rfl (by first | exact hself _ | simpa using hg) rfl ⟨_,by rw [yK]; simp,rfl,rfl,rfl⟩ (by simp [C.sz]) ?_
   simp -dsimp -implicitDefEqProofs [setAt,hself,hlt2,hl]
   repeat (refine ⟨by first | exact hlt | (unfold inI; omega) | exact ybs (by omega) | exact yA hlt hlen,?_⟩)
   refine ⟨i + 1,hlt,by omega,?_⟩
   simp only [ybJ] at hs
   apply yj <;> simp [AV.yc,AV.yB,Obj.yc,Obj.leO,hs,hself] <;> omega
  ·have : i = xs.length:=by omega
   subst this
   simp -dsimp -implicitDefEqProofs
   intro _
   rw [yew (Nat.le_refl _),ybf (Nat.le_refl _),List.take_of_length_le (by rw [yK]; exact Nat.le_refl _)]
   exact ⟨rfl,rfl⟩
theorem ypB (xs : List Train) (k : Int) (h0 : 0 ≤ k) (h1 : k + cnt yD xs ≤ 8000000000000000000) : yE Tryz.prog yc5 [.c (.sl 2 (yay ygv yD k xs)),.c (.i k)] (.c (.i (k + cnt yD xs))):=by
 refine yu ypt (by simp) fun hwf=>?_
 simp -dsimp -implicitDefEqProofs [yiX]
 refine yh (ι:=Nat) (fun i=>i ≤ xs.length) (fun i=>yT [(0,.c (.sl 2 (yay ygv yD k xs))),(1,.c (.i (k + yaE yD xs i))),(5,.c (.i i))] []) (fun i=>xs.length - i) 0 (by simp) (by apply yj <;> simp [AV.yc,AV.yB,Obj.yc,yaV]) ?_
 rintro i hi
 rcases Nat.lt_or_ge i xs.length with hlt | hge
 ·obtain ⟨e,he⟩ : ∃ e,xs[i]? = some e:=⟨_,List.getElem?_eq_getElem hlt⟩
  have hg:=yhD (f:=ygv) (n:=yD) (k:=k) he
  have hc:=yaW (n:=yD) he
  have hle:=ybF (n:=yD) (xs:=xs) (i:=i + 1)
  have hn : yD e = 1 + cnt nB e.Rows:=rfl
  simp only [ygv] at hg
  generalize hK : (k + (yaE yD xs i : Int)) = K at *
  have hk : 0 ≤ K:=by omega
  simp -dsimp -implicitDefEqProofs [yK,yI hlt,hg]
  intro hlen
  repeat (refine ⟨by first | exact hlt | (unfold inI; omega) | exact ybs (by omega),?_⟩)
  refine yg (yhA e.Rows (K + 1) (by omega) (by omega)) (by simp) rfl ?_
  have n1 : (K + 1 + (cnt nB e.Rows : Int) < 0) = False:=by simp; omega
  simp -dsimp -implicitDefEqProofs [n1,yK,yI hlt,hg]
  repeat (refine ⟨by first | exact hlt | (unfold inI; omega) | exact ybs (by omega) | exact yA hlt hlen,?_⟩)
  refine ⟨i + 1,hlt,by omega,?_⟩
  apply yj <;> simp [AV.yc,AV.yB,Obj.yc] <;> omega
 ·have : i = xs.length:=by omega
  subst this
  simp -dsimp -implicitDefEqProofs [yK]
  rw [ybf (Nat.le_refl _)]
  intro _; rfl
@[simp] def CallT.yM (e : CallT) : List C:=[.b e.Train.Up,.ot 1 (e.Train.Rows.map yX),.i e.Since,.i e.Booked]
theorem CallT.yab (e : CallT) : ybR e.yM = some e.enc:=by simp [CallT.yM,ybR,ydu yeZ]
theorem CallT.yad (e : CallT) : ∀ c ∈ e.yM,c.closed:=by
 simp only [CallT.yM,List.mem_cons,List.not_mem_nil,or_false,forall_eq_or_imp,forall_eq]
 exact ⟨by simp [C.closed],ybi yjh _ _,by simp [C.closed],by simp [C.closed]⟩
theorem yDK (e : CallT) (hl : CallT.small e) : ybg Tryz.prog ygh [.agg (e.enc.map .c)] (.agg (e.yM.map .c)):=by
 refine yaw yow (by simp) fun hwf=>?_
 simp -dsimp -implicitDefEqProofs [yjY]
 refine yS (yn1 e.Train hl) (by simp) (ybT (Train.yad _)) (by simp [yZ]) ?_
 simp -dsimp -implicitDefEqProofs [yt]
theorem yCm (xs : List CallT) (hl : ygk xs) : ybg Tryz.prog yeJ [.c (.sl 4 (xs.map CallT.enc))] (.c (.ot 4 (xs.map CallT.yM))):=by
 refine yaw ym4 (by simp) fun hwf=>?_
 simp -dsimp -implicitDefEqProofs [yiC]
 intro hlen
 have hl1:=hl.1
 refine ⟨by omega,?_⟩
 refine yh (ι:=Nat) (fun k=>k ≤ xs.length) (fun k=>yT [(0,.c (.sl 4 (xs.map CallT.enc))),(3,.own 7 4 xs.length),(4,.c (.i k))] [(7,.tr 4 0 (partly CallT.yM [.b false,.sl 1 [],.i 0,.i 0] xs k))]) (fun k=>xs.length - k) 0 (by simp) (by apply yj <;> simp [AV.yc,AV.yB,Obj.yc,yac,Obj.leO]) ?_
 rintro k hk
 rcases Nat.lt_or_ge k xs.length with hlt | hge
 ·obtain ⟨e,he⟩ : ∃ e,xs[k]? = some e:=⟨_,List.getElem?_eq_getElem hlt⟩
  have hs:=yai (f:=CallT.yM) (z:=[.b false,.sl 1 [],.i 0,.i 0]) he
  have hd:=yar (f:=CallT.yM) (z:=[.b false,.sl 1 [],.i 0,.i 0]) (n:=4) rfl hlt
  simp only [CallT.yM] at hs
  simp -dsimp -implicitDefEqProofs [he,yI hlt]
  intro _
  refine yS (yDK e (hl.2 e (List.mem_of_getElem? he))) (by simp) (ybT (CallT.yad _)) (by simp [yZ]) ?_
  simp -dsimp -implicitDefEqProofs [yI hlt,yaj hk,yt,hd,hs]
  exact ⟨hlt,yA hlt hlen,k + 1,hlt,by omega,by apply yj <;> simp [AV.yc,AV.yB,Obj.yc,Obj.leO]⟩
 ·simp -dsimp -implicitDefEqProofs [yau hge]
  intro _
  rw [yak hge,yt]
def yaC (e : CallT) : Nat:=1 + cnt nB e.Train.Rows + 1 + 1
def ye1 (k : Int) (e : CallT) : List C:=[.b (decide (k.tmod 3 = 0)),.ot 1 (yay fB nB (k + 1) e.Train.Rows),.i (k + 1 + (cnt nB e.Train.Rows : Int)),.i (k + 1 + (cnt nB e.Train.Rows : Int) + 1)]
def ykQ (k : Int) (e : CallT) : List C:=[.b (decide (k.tmod 3 = 0)),.sl 1 (yay fBs nB (k + 1) e.Train.Rows),.i (k + 1 + (cnt nB e.Train.Rows : Int)),.i (k + 1 + (cnt nB e.Train.Rows : Int) + 1)]
theorem ymW (k : Int) (e : CallT) : ybR (ye1 k e) = some (ykQ k e):=by simp [ye1,ykQ,ybR,C.shr,ya7 ywj]
theorem yyU (xs : List CallT) (k : Int) (h0 : 0 ≤ k) (h1 : k + cnt yaC xs ≤ 8000000000000000000) :
 InF Tryz.prog yfY (.c (ct 4 (xs.map CallT.yM))) (.c (ct 4 (yay ye1 yaC k xs))) [.c (.i k)] (.c (.i (k + cnt yaC xs))):=by
 rcases Nat.eq_zero_or_pos xs.length with hx | hx
 ·have : xs = []:=List.length_eq_zero_iff.1 hx
  subst this
  refine ybG ykr (by simp) (by simp) rfl fun hwf=>?_
  simp -dsimp -implicitDefEqProofs [yf6,yay,cnt]
  refine yh (ι:=Unit) (fun _=>True) (fun _=>yT [(0,.c (.sl 4 [])),(1,.c (.i k)),(5,.c (.i 0)),(1000000,.c (.sl 4 []))] []) (fun _=>0) () trivial (by apply yj <;> simp [AV.yc,AV.yB,Obj.yc]) ?_
  rintro _ _
  simp -dsimp -implicitDefEqProofs
 ·rw [ycQ (by simpa using hx),ycQ (by rw [yK]; exact hx)]
  refine ybG ykr (by simp) (by simp) rfl fun hwf=>?_
  simp -dsimp -implicitDefEqProofs [yf6]
  refine yh (ι:=Nat) (fun i=>i ≤ xs.length) (fun i=>yT [(0,.own 0 4 xs.length),(1,.c (.i (k + yaE yaC xs i))),(5,.c (.i i)),(1000000,.own 0 4 xs.length)] [(0,.tr 4 0 (ycC ye1 CallT.yM yaC k xs i))]) (fun i=>xs.length - i) 0 (by simp) (by apply yj <;> simp [AV.yc,AV.yB,Obj.yc,ydq,yaV,Obj.leO]) ?_
  rintro i hi
  rcases Nat.lt_or_ge i xs.length with hlt | hge
  ·obtain ⟨e,he⟩ : ∃ e,xs[i]? = some e:=⟨_,List.getElem?_eq_getElem hlt⟩
   have hg:=yez (f:=ye1) (g:=CallT.yM) (n:=yaC) (k:=k) he
   have hl:=yeE (f:=ye1) (g:=CallT.yM) (n:=yaC) (k:=k) (xs:=xs) (i:=i)
   have hs:=yeC (f:=ye1) (g:=CallT.yM) (n:=yaC) (k:=k) he
   have hc:=yaW (n:=yaC) he
   have hle:=ybF (n:=yaC) (xs:=xs) (i:=i + 1)
   have hn : yaC e = 1 + cnt nB e.Train.Rows + 1 + 1:=rfl
   generalize hM : ycC ye1 CallT.yM yaC k xs i = M at *
   generalize hK : (k + (yaE yaC xs i : Int)) = K at *
   have hlt2 : i < M.length:=by omega
   have g1 : M[i] = CallT.yM e:=(List.getElem?_eq_some_iff.1 hg).2
   have hself : ∀ a,(M.set i a)[i]? = some a:=fun a=>List.getElem?_set_self hlt2
   have hgetD : ∀ a,(M.set i a)[i]?.getD [] = a:=fun a=>by rw [hself]; rfl
   simp only [CallT.yM] at hg g1
   have hk : 0 ≤ K:=by omega
   simp -dsimp -implicitDefEqProofs [yI hlt,hg,hl,hlt2,g1,hself,setAt]
   intro hlen
   repeat (refine ⟨by first | exact hlt | (unfold inI; omega) | exact ybs (by omega),?_⟩)
   refine ybX (k0:=4) (j:=1) (i:=(i : Int)) (r:=[.b (decide (K.tmod 3 = 0)),.ot 1 (e.Train.Rows.map yX),.i e.Since,.i e.Booked]) (c:=.ot 1 (e.Train.Rows.map yX)) (c':=.ot 1 (yay fB nB (K + 1) e.Train.Rows)) (yhE e.Train.Rows (K + 1) (by omega) (by omega)) (by simp) rfl rfl rfl (by first | exact hself _ | simpa using hg) rfl ⟨_,by rw [yK]; simp,rfl,rfl,rfl⟩ (by simp [C.sz]) ?_
   simp -dsimp -implicitDefEqProofs [setAt,hself,hlt2,hl]
   repeat (refine ⟨by first | exact hlt | (unfold inI; omega) | exact ybs (by omega) | exact yA hlt hlen,?_⟩)
   refine ⟨i + 1,hlt,by omega,?_⟩
   simp only [ye1] at hs
   apply yj <;> simp [AV.yc,AV.yB,Obj.yc,Obj.leO,hs,hself] <;> omega
  ·have : i = xs.length:=by omega
   subst this
   simp -dsimp -implicitDefEqProofs
   intro _
   rw [yew (Nat.le_refl _),ybf (Nat.le_refl _),List.take_of_length_le (by rw [yK]; exact Nat.le_refl _)]
   exact ⟨rfl,rfl⟩
theorem yxU (xs : List CallT) (k : Int) (h0 : 0 ≤ k) (h1 : k + cnt yaC xs ≤ 8000000000000000000) : yE Tryz.prog yfX [.c (.sl 4 (yay ykQ yaC k xs)),.c (.i k)] (.c (.i (k + cnt yaC xs))):=by
 refine yu yqX (by simp) fun hwf=>?_
 simp -dsimp -implicitDefEqProofs [ykB]
 refine yh (ι:=Nat) (fun i=>i ≤ xs.length) (fun i=>yT [(0,.c (.sl 4 (yay ykQ yaC k xs))),(1,.c (.i (k + yaE yaC xs i))),(5,.c (.i i))] []) (fun i=>xs.length - i) 0 (by simp) (by apply yj <;> simp [AV.yc,AV.yB,Obj.yc,yaV]) ?_
 rintro i hi
 rcases Nat.lt_or_ge i xs.length with hlt | hge
 ·obtain ⟨e,he⟩ : ∃ e,xs[i]? = some e:=⟨_,List.getElem?_eq_getElem hlt⟩
  have hg:=yhD (f:=ykQ) (n:=yaC) (k:=k) he
  have hc:=yaW (n:=yaC) he
  have hle:=ybF (n:=yaC) (xs:=xs) (i:=i + 1)
  have hn : yaC e = 1 + cnt nB e.Train.Rows + 1 + 1:=rfl
  simp only [ykQ] at hg
  generalize hK : (k + (yaE yaC xs i : Int)) = K at *
  have hk : 0 ≤ K:=by omega
  simp -dsimp -implicitDefEqProofs [yK,yI hlt,hg]
  intro hlen
  repeat (refine ⟨by first | exact hlt | (unfold inI; omega) | exact ybs (by omega),?_⟩)
  refine yg (yhA e.Train.Rows (K + 1) (by omega) (by omega)) (by simp) rfl ?_
  have n1 : (K + 1 + (cnt nB e.Train.Rows : Int) < 0) = False:=by simp; omega
  simp -dsimp -implicitDefEqProofs [n1,yK,yI hlt,hg]
  repeat (refine ⟨by first | exact hlt | (unfold inI; omega) | exact ybs (by omega) | exact yA hlt hlen,?_⟩)
  refine ⟨i + 1,hlt,by omega,?_⟩
  apply yj <;> simp [AV.yc,AV.yB,Obj.yc] <;> omega
 ·have : i = xs.length:=by omega
  subst this
  simp -dsimp -implicitDefEqProofs [yK]
  rw [ybf (Nat.le_refl _)]
  intro _; rfl
@[simp] def Lock.yM (e : Lock) : List C:=[.i e.Length,.i e.Width,.i e.SillAbove,.i e.SillBelow,.i e.Base,.i e.Area,.i e.Rate,.i e.Water,.i e.Gate,.ot 2 (e.Inside.map Train.yM)]
theorem Lock.yab (e : Lock) : ybR e.yM = some e.enc:=by simp [Lock.yM,ybR,ydu Train.yab]
theorem Lock.yad (e : Lock) : ∀ c ∈ e.yM,c.closed:=by
 simp only [Lock.yM,List.mem_cons,List.not_mem_nil,or_false,forall_eq_or_imp,forall_eq]
 exact ⟨by simp [C.closed],by simp [C.closed],by simp [C.closed],by simp [C.closed],by simp [C.closed],by simp [C.closed],by simp [C.closed],by simp [C.closed],by simp [C.closed],ybi Train.yad _ _⟩
set_option maxRecDepth 20000 in
theorem yCC (e : Lock) (hl : Lock.small e) : ybg Tryz.prog yf8 [.agg (e.enc.map .c)] (.agg (e.yM.map .c)):=by
 refine yaw yoI (by simp) fun hwf=>?_
 simp -dsimp -implicitDefEqProofs [yjV]
 refine yS (yt5 e.Inside hl) (by simp) (ybi Train.yad _ _) (by simp [yZ]) ?_
 simp -dsimp -implicitDefEqProofs [yt]
@[simp] def Work.yM (e : Work) : List C:=[.i e.Lock.Length,.i e.Lock.Width,.i e.Lock.SillAbove,.i e.Lock.SillBelow,.i e.Lock.Base,.i e.Lock.Area,.i e.Lock.Rate,.i e.Lock.Water,.i e.Lock.Gate,.ot 2 (e.Lock.Inside.map Train.yM),.i e.Weir.Gates,.i e.Weir.Open,.i e.Weir.Step,.i e.Weir.Crest,.i e.Weir.Width,.i e.Rule.Low,.i e.Rule.High,.i e.Rule.Flood,.ow 2 (e.Pauses.map Pause.enc),.b e.Turn.Up,.i e.Turn.Count,.ot 4 (e.Calls.map CallT.yM)]
theorem Work.yab (e : Work) : ybR e.yM = some e.enc:=by simp [Work.yM,ybR,ydu Train.yab,ydu CallT.yab]
theorem Work.yad (e : Work) : ∀ c ∈ e.yM,c.closed:=by
 simp only [Work.yM,List.mem_cons,List.not_mem_nil,or_false,forall_eq_or_imp,forall_eq]
 exact ⟨by simp [C.closed],by simp [C.closed],by simp [C.closed],by simp [C.closed],by simp [C.closed],by simp [C.closed],by simp [C.closed],by simp [C.closed],by simp [C.closed],ybi Train.yad _ _,by simp [C.closed],by simp [C.closed],by simp [C.closed],by simp [C.closed],by simp [C.closed],by simp [C.closed],by simp [C.closed],by simp [C.closed],by simp [C.closed],by simp [C.closed],by simp [C.closed],ybi CallT.yad _ _⟩
set_option maxRecDepth 20000 in
theorem yCX (e : Work) (hl : Work.small e) : ybg Tryz.prog ygf [.agg (e.enc.map .c)] (.agg (e.yM.map .c)):=by
 refine yaw yoJ (by simp) fun hwf=>?_
 simp -dsimp -implicitDefEqProofs [yjB]
 refine yS (yCC e.Lock hl.1) (by simp) (ybT (Lock.yad _)) (by simp [yZ]) ?_
 simp -dsimp -implicitDefEqProofs [yt]
 refine yg (yyq e.Weir) (by simp) rfl ?_
 simp -dsimp -implicitDefEqProofs
 refine yg (yzh e.Rule) (by simp) rfl ?_
 simp -dsimp -implicitDefEqProofs
 refine yS (yzX e.Pauses hl.2.1) (by simp) (by simp [AV.closed,AV.ya3,C.closed]) (by simp [yZ]) ?_
 simp -dsimp -implicitDefEqProofs [yt]
 refine yg (yyi e.Turn) (by simp) rfl ?_
 simp -dsimp -implicitDefEqProofs
 refine yS (yCm e.Calls hl.2.2) (by simp) (ybi CallT.yad _ _) (by simp [yZ]) ?_
 simp -dsimp -implicitDefEqProofs [yt]
set_option maxRecDepth 20000 in
theorem yBk (xs : List Work) (hl : ygD xs) : ybg Tryz.prog yff [.c (.sl 22 (xs.map Work.enc))] (.c (.ot 22 (xs.map Work.yM))):=by
 refine yaw ymB (by simp) fun hwf=>?_
 simp -dsimp -implicitDefEqProofs [yiq]
 intro hlen
 have hl1:=hl.1
 refine ⟨by omega,?_⟩
 refine yh (ι:=Nat) (fun k=>k ≤ xs.length) (fun k=>yT [(0,.c (.sl 22 (xs.map Work.enc))),(3,.own 7 22 xs.length),(4,.c (.i k))] [(7,.tr 22 0 (partly Work.yM [.i 0,.i 0,.i 0,.i 0,.i 0,.i 0,.i 0,.i 0,.i 0,.sl 2 [],.i 0,.i 0,.i 0,.i 0,.i 0,.i 0,.i 0,.i 0,.sl 2 [],.b false,.i 0,.sl 4 []] xs k))]) (fun k=>xs.length - k) 0 (by simp) (by apply yj <;> simp [AV.yc,AV.yB,Obj.yc,yac,Obj.leO]) ?_
 rintro k hk
 rcases Nat.lt_or_ge k xs.length with hlt | hge
 ·obtain ⟨e,he⟩ : ∃ e,xs[k]? = some e:=⟨_,List.getElem?_eq_getElem hlt⟩
  have hs:=yai (f:=Work.yM) (z:=[.i 0,.i 0,.i 0,.i 0,.i 0,.i 0,.i 0,.i 0,.i 0,.sl 2 [],.i 0,.i 0,.i 0,.i 0,.i 0,.i 0,.i 0,.i 0,.sl 2 [],.b false,.i 0,.sl 4 []]) he
  have hd:=yar (f:=Work.yM) (z:=[.i 0,.i 0,.i 0,.i 0,.i 0,.i 0,.i 0,.i 0,.i 0,.sl 2 [],.i 0,.i 0,.i 0,.i 0,.i 0,.i 0,.i 0,.i 0,.sl 2 [],.b false,.i 0,.sl 4 []]) (n:=22) rfl hlt
  simp only [Work.yM] at hs
  simp -dsimp -implicitDefEqProofs [he,yI hlt]
  intro _
  refine yS (yCX e (hl.2 e (List.mem_of_getElem? he))) (by simp) (ybT (Work.yad _)) (by simp [yZ]) ?_
  simp -dsimp -implicitDefEqProofs [yI hlt,yaj hk,yt,hd,hs]
  exact ⟨hlt,yA hlt hlen,k + 1,hlt,by omega,by apply yj <;> simp [AV.yc,AV.yB,Obj.yc,Obj.leO]⟩
 ·simp -dsimp -implicitDefEqProofs [yau hge]
  intro _
  rw [yak hge,yt]
def yaD (e : Work) : Nat:=1 + 1 + 1 + 1 + 1 + 1 + 1 + 1 + 1 + cnt yD e.Lock.Inside + 1 + 1 + 1 + 1 + 1 + 1 + 1 + 1 + 2 * e.Pauses.length + 1 + 1 + cnt yaC e.Calls
def yd5 (k : Int) (e : Work) : List C:=[.i k,.i (k + 1),.i (k + 1 + 1),.i (k + 1 + 1 + 1),.i (k + 1 + 1 + 1 + 1),.i (k + 1 + 1 + 1 + 1 + 1),.i (k + 1 + 1 + 1 + 1 + 1 + 1),.i (k + 1 + 1 + 1 + 1 + 1 + 1 + 1),.i (k + 1 + 1 + 1 + 1 + 1 + 1 + 1 + 1),.ot 2 (yay ybJ yD (k + 1 + 1 + 1 + 1 + 1 + 1 + 1 + 1 + 1) e.Lock.Inside),.i (k + 1 + 1 + 1 + 1 + 1 + 1 + 1 + 1 + 1 + (cnt yD e.Lock.Inside : Int)),.i (k + 1 + 1 + 1 + 1 + 1 + 1 + 1 + 1 + 1 + (cnt yD e.Lock.Inside : Int) + 1),.i (k + 1 + 1 + 1 + 1 + 1 + 1 + 1 + 1 + 1 + (cnt yD e.Lock.Inside : Int) + 1 + 1),.i (k + 1 + 1 + 1 + 1 + 1 + 1 + 1 + 1 + 1 + (cnt yD e.Lock.Inside : Int) + 1 + 1 + 1),.i (k + 1 + 1 + 1 + 1 + 1 + 1 + 1 + 1 + 1 + (cnt yD e.Lock.Inside : Int) + 1 + 1 + 1 + 1),.i (k + 1 + 1 + 1 + 1 + 1 + 1 + 1 + 1 + 1 + (cnt yD e.Lock.Inside : Int) + 1 + 1 + 1 + 1 + 1),.i (k + 1 + 1 + 1 + 1 + 1 + 1 + 1 + 1 + 1 + (cnt yD e.Lock.Inside : Int) + 1 + 1 + 1 + 1 + 1 + 1),.i (k + 1 + 1 + 1 + 1 + 1 + 1 + 1 + 1 + 1 + (cnt yD e.Lock.Inside : Int) + 1 + 1 + 1 + 1 + 1 + 1 + 1),.ow 2 (marked ybI 2 [] (k + 1 + 1 + 1 + 1 + 1 + 1 + 1 + 1 + 1 + (cnt yD e.Lock.Inside : Int) + 1 + 1 + 1 + 1 + 1 + 1 + 1 + 1) e.Pauses.length),.b (decide ((k + 1 + 1 + 1 + 1 + 1 + 1 + 1 + 1 + 1 + (cnt yD e.Lock.Inside : Int) + 1 + 1 + 1 + 1 + 1 + 1 + 1 + 1 + 2 * (e.Pauses.length : Int)).tmod 3 = 0)),.i (k + 1 + 1 + 1 + 1 + 1 + 1 + 1 + 1 + 1 + (cnt yD e.Lock.Inside : Int) + 1 + 1 + 1 + 1 + 1 + 1 + 1 + 1 + 2 * (e.Pauses.length : Int) + 1),.ot 4 (yay ye1 yaC (k + 1 + 1 + 1 + 1 + 1 + 1 + 1 + 1 + 1 + (cnt yD e.Lock.Inside : Int) + 1 + 1 + 1 + 1 + 1 + 1 + 1 + 1 + 2 * (e.Pauses.length : Int) + 1 + 1) e.Calls)]
def ykV (k : Int) (e : Work) : List C:=[.i k,.i (k + 1),.i (k + 1 + 1),.i (k + 1 + 1 + 1),.i (k + 1 + 1 + 1 + 1),.i (k + 1 + 1 + 1 + 1 + 1),.i (k + 1 + 1 + 1 + 1 + 1 + 1),.i (k + 1 + 1 + 1 + 1 + 1 + 1 + 1),.i (k + 1 + 1 + 1 + 1 + 1 + 1 + 1 + 1),.sl 2 (yay ygv yD (k + 1 + 1 + 1 + 1 + 1 + 1 + 1 + 1 + 1) e.Lock.Inside),.i (k + 1 + 1 + 1 + 1 + 1 + 1 + 1 + 1 + 1 + (cnt yD e.Lock.Inside : Int)),.i (k + 1 + 1 + 1 + 1 + 1 + 1 + 1 + 1 + 1 + (cnt yD e.Lock.Inside : Int) + 1),.i (k + 1 + 1 + 1 + 1 + 1 + 1 + 1 + 1 + 1 + (cnt yD e.Lock.Inside : Int) + 1 + 1),.i (k + 1 + 1 + 1 + 1 + 1 + 1 + 1 + 1 + 1 + (cnt yD e.Lock.Inside : Int) + 1 + 1 + 1),.i (k + 1 + 1 + 1 + 1 + 1 + 1 + 1 + 1 + 1 + (cnt yD e.Lock.Inside : Int) + 1 + 1 + 1 + 1),.i (k + 1 + 1 + 1 + 1 + 1 + 1 + 1 + 1 + 1 + (cnt yD e.Lock.Inside : Int) + 1 + 1 + 1 + 1 + 1),.i (k + 1 + 1 + 1 + 1 + 1 + 1 + 1 + 1 + 1 + (cnt yD e.Lock.Inside : Int) + 1 + 1 + 1 + 1 + 1 + 1),.i (k + 1 + 1 + 1 + 1 + 1 + 1 + 1 + 1 + 1 + (cnt yD e.Lock.Inside : Int) + 1 + 1 + 1 + 1 + 1 + 1 + 1),.sl 2 (marked ybI 2 [] (k + 1 + 1 + 1 + 1 + 1 + 1 + 1 + 1 + 1 + (cnt yD e.Lock.Inside : Int) + 1 + 1 + 1 + 1 + 1 + 1 + 1 + 1) e.Pauses.length),.b (decide ((k + 1 + 1 + 1 + 1 + 1 + 1 + 1 + 1 + 1 + (cnt yD e.Lock.Inside : Int) + 1 + 1 + 1 + 1 + 1 + 1 + 1 + 1 + 2 * (e.Pauses.length : Int)).tmod 3 = 0)),.i (k + 1 + 1 + 1 + 1 + 1 + 1 + 1 + 1 + 1 + (cnt yD e.Lock.Inside : Int) + 1 + 1 + 1 + 1 + 1 + 1 + 1 + 1 + 2 * (e.Pauses.length : Int) + 1),.sl 4 (yay ykQ yaC (k + 1 + 1 + 1 + 1 + 1 + 1 + 1 + 1 + 1 + (cnt yD e.Lock.Inside : Int) + 1 + 1 + 1 + 1 + 1 + 1 + 1 + 1 + 2 * (e.Pauses.length : Int) + 1 + 1) e.Calls)]
theorem yrv (k : Int) (e : Work) : ybR (yd5 k e) = some (ykV k e):=by simp [yd5,ykV,ybR,C.shr,ya7 ymW,ya7 yls]
set_option maxRecDepth 20000 in
theorem yzd (xs : List Work) (k : Int) (h0 : 0 ≤ k) (h1 : k + cnt yaD xs ≤ 8000000000000000000) :
 InF Tryz.prog yfF (.c (ct 22 (xs.map Work.yM))) (.c (ct 22 (yay yd5 yaD k xs))) [.c (.i k)] (.c (.i (k + cnt yaD xs))):=by
 rcases Nat.eq_zero_or_pos xs.length with hx | hx
 ·have : xs = []:=List.length_eq_zero_iff.1 hx
  subst this
  refine ybG yj8 (by simp) (by simp) rfl fun hwf=>?_
  simp -dsimp -implicitDefEqProofs [yfO,yay,cnt]
  refine yh (ι:=Unit) (fun _=>True) (fun _=>yT [(0,.c (.sl 22 [])),(1,.c (.i k)),(5,.c (.i 0)),(1000000,.c (.sl 22 []))] []) (fun _=>0) () trivial (by apply yj <;> simp [AV.yc,AV.yB,Obj.yc]) ?_
  rintro _ _
  simp -dsimp -implicitDefEqProofs
 ·rw [ycQ (by simpa using hx),ycQ (by rw [yK]; exact hx)]
  refine ybG yj8 (by simp) (by simp) rfl fun hwf=>?_
  simp -dsimp -implicitDefEqProofs [yfO]
  refine yh (ι:=Nat) (fun i=>i ≤ xs.length) (fun i=>yT [(0,.own 0 22 xs.length),(1,.c (.i (k + yaE yaD xs i))),(5,.c (.i i)),(1000000,.own 0 22 xs.length)] [(0,.tr 22 0 (ycC yd5 Work.yM yaD k xs i))]) (fun i=>xs.length - i) 0 (by simp) (by apply yj <;> simp [AV.yc,AV.yB,Obj.yc,ydq,yaV,Obj.leO]) ?_
  rintro i hi
  rcases Nat.lt_or_ge i xs.length with hlt | hge
  ·obtain ⟨e,he⟩ : ∃ e,xs[i]? = some e:=⟨_,List.getElem?_eq_getElem hlt⟩
   have hg:=yez (f:=yd5) (g:=Work.yM) (n:=yaD) (k:=k) he
   have hl:=yeE (f:=yd5) (g:=Work.yM) (n:=yaD) (k:=k) (xs:=xs) (i:=i)
   have hs:=yeC (f:=yd5) (g:=Work.yM) (n:=yaD) (k:=k) he
   have hc:=yaW (n:=yaD) he
   have hle:=ybF (n:=yaD) (xs:=xs) (i:=i + 1)
   have hn : yaD e = 1 + 1 + 1 + 1 + 1 + 1 + 1 + 1 + 1 + cnt yD e.Lock.Inside + 1 + 1 + 1 + 1 + 1 + 1 + 1 + 1 + 2 * e.Pauses.length + 1 + 1 + cnt yaC e.Calls:=rfl
   generalize hM : ycC yd5 Work.yM yaD k xs i = M at *
   generalize hK : (k + (yaE yaD xs i : Int)) = K at *
   have hlt2 : i < M.length:=by omega
   have g1 : M[i] = Work.yM e:=(List.getElem?_eq_some_iff.1 hg).2
   have hself : ∀ a,(M.set i a)[i]? = some a:=fun a=>List.getElem?_set_self hlt2
   have hgetD : ∀ a,(M.set i a)[i]?.getD [] = a:=fun a=>by rw [hself]; rfl
   simp only [Work.yM] at hg g1
   have hk : 0 ≤ K:=by omega
   simp -dsimp -implicitDefEqProofs [yI hlt,hg,hl,hlt2,g1,hself,setAt]
   intro hlen
   repeat (refine ⟨by first | exact hlt | (unfold inI; omega) | exact ybs (by omega),?_⟩)
   refine ybX (k0:=22) (j:=9) (i:=(i : Int)) (r:=[.i K,.i (K + 1),.i (K + 1 + 1),.i (K + 1 + 1 + 1),.i (K + 1 + 1 + 1 + 1),.i (K + 1 + 1 + 1 + 1 + 1),.i (K + 1 + 1 + 1 + 1 + 1 + 1),.i (K + 1 + 1 + 1 + 1 + 1 + 1 + 1),.i (K + 1 + 1 + 1 + 1 + 1 + 1 + 1 + 1),.ot 2 (e.Lock.Inside.map Train.yM),.i e.Weir.Gates,.i e.Weir.Open,.i e.Weir.Step,.i e.Weir.Crest,.i e.Weir.Width,.i e.Rule.Low,.i e.Rule.High,.i e.Rule.Flood,.ow 2 (e.Pauses.map Pause.enc),.b e.Turn.Up,.i e.Turn.Count,.ot 4 (e.Calls.map CallT.yM)]) (c:=.ot 2 (e.Lock.Inside.map Train.yM)) (c':=.ot 2 (yay ybJ yD (K + 1 + 1 + 1 + 1 + 1 + 1 + 1 + 1 + 1) e.Lock.Inside)) (yqp e.Lock.Inside (K + 1 + 1 + 1 + 1 + 1 + 1 + 1 + 1 + 1) (by omega) (by omega)) (by simp) rfl rfl rfl (by first | exact hself _ | simpa using hg) rfl ⟨_,by rw [yK]; simp,rfl,rfl,rfl⟩ (by simp [C.sz]) ?_
   simp -dsimp -implicitDefEqProofs [setAt,hself,hlt2,hl]
   repeat (refine ⟨by first | exact hlt | (unfold inI; omega) | exact ybs (by omega),?_⟩)
   refine ybX (k0:=22) (j:=18) (i:=(i : Int)) (r:=[.i K,.i (K + 1),.i (K + 1 + 1),.i (K + 1 + 1 + 1),.i (K + 1 + 1 + 1 + 1),.i (K + 1 + 1 + 1 + 1 + 1),.i (K + 1 + 1 + 1 + 1 + 1 + 1),.i (K + 1 + 1 + 1 + 1 + 1 + 1 + 1),.i (K + 1 + 1 + 1 + 1 + 1 + 1 + 1 + 1),.ot 2 (yay ybJ yD (K + 1 + 1 + 1 + 1 + 1 + 1 + 1 + 1 + 1) e.Lock.Inside),.i (K + 1 + 1 + 1 + 1 + 1 + 1 + 1 + 1 + 1 + (cnt yD e.Lock.Inside : Int)),.i (K + 1 + 1 + 1 + 1 + 1 + 1 + 1 + 1 + 1 + (cnt yD e.Lock.Inside : Int) + 1),.i (K + 1 + 1 + 1 + 1 + 1 + 1 + 1 + 1 + 1 + (cnt yD e.Lock.Inside : Int) + 1 + 1),.i (K + 1 + 1 + 1 + 1 + 1 + 1 + 1 + 1 + 1 + (cnt yD e.Lock.Inside : Int) + 1 + 1 + 1),.i (K + 1 + 1 + 1 + 1 + 1 + 1 + 1 + 1 + 1 + (cnt yD e.Lock.Inside : Int) + 1 + 1 + 1 + 1),.i (K + 1 + 1 + 1 + 1 + 1 + 1 + 1 + 1 + 1 + (cnt yD e.Lock.Inside : Int) + 1 + 1 + 1 + 1 + 1),.i (K + 1 + 1 + 1 + 1 + 1 + 1 + 1 + 1 + 1 + (cnt yD e.Lock.Inside : Int) + 1 + 1 + 1 + 1 + 1 + 1),.i (K + 1 + 1 + 1 + 1 + 1 + 1 + 1 + 1 + 1 + (cnt yD e.Lock.Inside : Int) + 1 + 1 + 1 + 1 + 1 + 1 + 1),.ow 2 (e.Pauses.map Pause.enc),.b e.Turn.Up,.i e.Turn.Count,.ot 4 (e.Calls.map CallT.yM)]) (c:=.ow 2 (e.Pauses.map Pause.enc)) (c':=.ow 2 (marked ybI 2 [] (K + 1 + 1 + 1 + 1 + 1 + 1 + 1 + 1 + 1 + (cnt yD e.Lock.Inside : Int) + 1 + 1 + 1 + 1 + 1 + 1 + 1 + 1) e.Pauses.length)) (ywB e.Pauses (K + 1 + 1 + 1 + 1 + 1 + 1 + 1 + 1 + 1 + (cnt yD e.Lock.Inside : Int) + 1 + 1 + 1 + 1 + 1 + 1 + 1 + 1) (by omega) (by omega)) (by simp) rfl rfl rfl (by first | exact hself _ | simpa using hg) rfl ⟨_,by rw [yP]; simp,rfl,rfl,rfl⟩ (by simp [C.sz]) ?_
   simp -dsimp -implicitDefEqProofs [setAt,hself,hlt2,hl]
   repeat (refine ⟨by first | exact hlt | (unfold inI; omega) | exact ybs (by omega),?_⟩)
   refine ybX (k0:=22) (j:=21) (i:=(i : Int)) (r:=[.i K,.i (K + 1),.i (K + 1 + 1),.i (K + 1 + 1 + 1),.i (K + 1 + 1 + 1 + 1),.i (K + 1 + 1 + 1 + 1 + 1),.i (K + 1 + 1 + 1 + 1 + 1 + 1),.i (K + 1 + 1 + 1 + 1 + 1 + 1 + 1),.i (K + 1 + 1 + 1 + 1 + 1 + 1 + 1 + 1),.ot 2 (yay ybJ yD (K + 1 + 1 + 1 + 1 + 1 + 1 + 1 + 1 + 1) e.Lock.Inside),.i (K + 1 + 1 + 1 + 1 + 1 + 1 + 1 + 1 + 1 + (cnt yD e.Lock.Inside : Int)),.i (K + 1 + 1 + 1 + 1 + 1 + 1 + 1 + 1 + 1 + (cnt yD e.Lock.Inside : Int) + 1),.i (K + 1 + 1 + 1 + 1 + 1 + 1 + 1 + 1 + 1 + (cnt yD e.Lock.Inside : Int) + 1 + 1),.i (K + 1 + 1 + 1 + 1 + 1 + 1 + 1 + 1 + 1 + (cnt yD e.Lock.Inside : Int) + 1 + 1 + 1),.i (K + 1 + 1 + 1 + 1 + 1 + 1 + 1 + 1 + 1 + (cnt yD e.Lock.Inside : Int) + 1 + 1 + 1 + 1),.i (K + 1 + 1 + 1 + 1 + 1 + 1 + 1 + 1 + 1 + (cnt yD e.Lock.Inside : Int) + 1 + 1 + 1 + 1 + 1),.i (K + 1 + 1 + 1 + 1 + 1 + 1 + 1 + 1 + 1 + (cnt yD e.Lock.Inside : Int) + 1 + 1 + 1 + 1 + 1 + 1),.i (K + 1 + 1 + 1 + 1 + 1 + 1 + 1 + 1 + 1 + (cnt yD e.Lock.Inside : Int) + 1 + 1 + 1 + 1 + 1 + 1 + 1),.ow 2 (marked ybI 2 [] (K + 1 + 1 + 1 + 1 + 1 + 1 + 1 + 1 + 1 + (cnt yD e.Lock.Inside : Int) + 1 + 1 + 1 + 1 + 1 + 1 + 1 + 1) e.Pauses.length),.b (decide ((K + 1 + 1 + 1 + 1 + 1 + 1 + 1 + 1 + 1 + (cnt yD e.Lock.Inside : Int) + 1 + 1 + 1 + 1 + 1 + 1 + 1 + 1 + 2 * (e.Pauses.length : Int)).tmod 3 = 0)),.i (K + 1 + 1 + 1 + 1 + 1 + 1 + 1 + 1 + 1 + (cnt yD e.Lock.Inside : Int) + 1 + 1 + 1 + 1 + 1 + 1 + 1 + 1 + 2 * (e.Pauses.length : Int) + 1),.ot 4 (e.Calls.map CallT.yM)]) (c:=.ot 4 (e.Calls.map CallT.yM)) (c':=.ot 4 (yay ye1 yaC (K + 1 + 1 + 1 + 1 + 1 + 1 + 1 + 1 + 1 + (cnt yD e.Lock.Inside : Int) + 1 + 1 + 1 + 1 + 1 + 1 + 1 + 1 + 2 * (e.Pauses.length : Int) + 1 + 1) e.Calls)) (yyU e.Calls (K + 1 + 1 + 1 + 1 + 1 + 1 + 1 + 1 + 1 + (cnt yD e.Lock.Inside : Int) + 1 + 1 + 1 + 1 + 1 + 1 + 1 + 1 + 2 * (e.Pauses.length : Int) + 1 + 1) (by omega) (by omega)) (by simp) rfl rfl rfl (by first | exact hself _ | simpa using hg) rfl ⟨_,by rw [yK]; simp,rfl,rfl,rfl⟩ (by simp [C.sz]) ?_
   simp -dsimp -implicitDefEqProofs [setAt,hself,hlt2,hl]
   repeat (refine ⟨by first | exact hlt | (unfold inI; omega) | exact ybs (by omega) | exact yA hlt hlen,?_⟩)
   refine ⟨i + 1,hlt,by omega,?_⟩
   simp only [yd5] at hs
   apply yj <;> simp [AV.yc,AV.yB,Obj.yc,Obj.leO,hs,hself] <;> omega
  ·have : i = xs.length:=by omega
   subst this
   simp -dsimp -implicitDefEqProofs
   intro _
   rw [yew (Nat.le_refl _),ybf (Nat.le_refl _),List.take_of_length_le (by rw [yK]; exact Nat.le_refl _)]
   exact ⟨rfl,rfl⟩
set_option maxRecDepth 20000 in
theorem yyk (xs : List Work) (k : Int) (h0 : 0 ≤ k) (h1 : k + cnt yaD xs ≤ 8000000000000000000) : yE Tryz.prog yfD [.c (.sl 22 (yay ykV yaD k xs)),.c (.i k)] (.c (.i (k + cnt yaD xs))):=by
 refine yu yqQ (by simp) fun hwf=>?_
 simp -dsimp -implicitDefEqProofs [ykn]
 refine yh (ι:=Nat) (fun i=>i ≤ xs.length) (fun i=>yT [(0,.c (.sl 22 (yay ykV yaD k xs))),(1,.c (.i (k + yaE yaD xs i))),(5,.c (.i i))] []) (fun i=>xs.length - i) 0 (by simp) (by apply yj <;> simp [AV.yc,AV.yB,Obj.yc,yaV]) ?_
 rintro i hi
 rcases Nat.lt_or_ge i xs.length with hlt | hge
 ·obtain ⟨e,he⟩ : ∃ e,xs[i]? = some e:=⟨_,List.getElem?_eq_getElem hlt⟩
  have hg:=yhD (f:=ykV) (n:=yaD) (k:=k) he
  have hc:=yaW (n:=yaD) he
  have hle:=ybF (n:=yaD) (xs:=xs) (i:=i + 1)
  have hn : yaD e = 1 + 1 + 1 + 1 + 1 + 1 + 1 + 1 + 1 + cnt yD e.Lock.Inside + 1 + 1 + 1 + 1 + 1 + 1 + 1 + 1 + 2 * e.Pauses.length + 1 + 1 + cnt yaC e.Calls:=rfl
  simp only [ykV] at hg
  generalize hK : (k + (yaE yaD xs i : Int)) = K at *
  have hk : 0 ≤ K:=by omega
  simp -dsimp -implicitDefEqProofs [yK,yI hlt,hg]
  intro hlen
  repeat (refine ⟨by first | exact hlt | (unfold inI; omega) | exact ybs (by omega),?_⟩)
  refine yg (ypB e.Lock.Inside (K + 1 + 1 + 1 + 1 + 1 + 1 + 1 + 1 + 1) (by omega) (by omega)) (by simp) rfl ?_
  have n9 : (K + 1 + 1 + 1 + 1 + 1 + 1 + 1 + 1 + 1 + (cnt yD e.Lock.Inside : Int) < 0) = False:=by simp; omega
  simp -dsimp -implicitDefEqProofs [n9,yK,yI hlt,hg]
  repeat (refine ⟨by first | exact hlt | (unfold inI; omega) | exact ybs (by omega),?_⟩)
  refine yg (ywu e.Pauses.length (K + 1 + 1 + 1 + 1 + 1 + 1 + 1 + 1 + 1 + (cnt yD e.Lock.Inside : Int) + 1 + 1 + 1 + 1 + 1 + 1 + 1 + 1) (by omega) (by omega)) (by simp) rfl ?_
  have n18 : (K + 1 + 1 + 1 + 1 + 1 + 1 + 1 + 1 + 1 + (cnt yD e.Lock.Inside : Int) + 1 + 1 + 1 + 1 + 1 + 1 + 1 + 1 + 2 * (e.Pauses.length : Int) < 0) = False:=by simp; omega
  simp -dsimp -implicitDefEqProofs [n18,yK,yI hlt,hg]
  repeat (refine ⟨by first | exact hlt | (unfold inI; omega) | exact ybs (by omega),?_⟩)
  refine yg (yxU e.Calls (K + 1 + 1 + 1 + 1 + 1 + 1 + 1 + 1 + 1 + (cnt yD e.Lock.Inside : Int) + 1 + 1 + 1 + 1 + 1 + 1 + 1 + 1 + 2 * (e.Pauses.length : Int) + 1 + 1) (by omega) (by omega)) (by simp) rfl ?_
  have n21 : (K + 1 + 1 + 1 + 1 + 1 + 1 + 1 + 1 + 1 + (cnt yD e.Lock.Inside : Int) + 1 + 1 + 1 + 1 + 1 + 1 + 1 + 1 + 2 * (e.Pauses.length : Int) + 1 + 1 + (cnt yaC e.Calls : Int) < 0) = False:=by simp; omega
  simp -dsimp -implicitDefEqProofs [n21,yK,yI hlt,hg]
  repeat (refine ⟨by first | exact hlt | (unfold inI; omega) | exact ybs (by omega) | exact yA hlt hlen,?_⟩)
  refine ⟨i + 1,hlt,by omega,?_⟩
  apply yj <;> simp [AV.yc,AV.yB,Obj.yc] <;> omega
 ·have : i = xs.length:=by omega
  subst this
  simp -dsimp -implicitDefEqProofs [yK]
  rw [ybf (Nat.le_refl _)]
  intro _; rfl
def yat (xs : List Mover) : List C:=[.ot 3 (xs.map Mover.yM)]
theorem ycl (xs : List Mover) : ybR (yat xs) = some (yV xs):=by simp [yat,ybR,ydu Mover.yab]
theorem yqn (xs : List Mover) : ∀ c ∈ yat xs,c.closed:=by
 intro c hc
 simp only [yat,List.mem_singleton] at hc
 subst hc
 exact ybi Mover.yad _ _
def fMs (k : Int) (e : Mover) : List C:=[.b (decide (k.tmod 3 = 0)),.sl 1 (yay fBs nB (k + 1) e.Train.Rows),.i (k + 1 + (cnt nB e.Train.Rows : Int))]
theorem yHm (k : Int) (e : Mover) : ybR (fM k e) = some (fMs k e):=by simp [fM,fMs,ybR,C.shr,ya7 ywj]
theorem ywL (xs : List Mover) (k : Int) (h0 : 0 ≤ k) (h1 : k + cnt nM xs ≤ 8000000000000000000) : yE Tryz.prog yfs [.c (.sl 3 (yay fMs nM k xs)),.c (.i k)] (.c (.i (k + cnt nM xs))):=by
 refine yu yqk (by simp) fun hwf=>?_
 simp -dsimp -implicitDefEqProofs [yjj]
 refine yh (ι:=Nat) (fun i=>i ≤ xs.length) (fun i=>yT [(0,.c (.sl 3 (yay fMs nM k xs))),(1,.c (.i (k + yaE nM xs i))),(5,.c (.i i))] []) (fun i=>xs.length - i) 0 (by simp) (by apply yj <;> simp [AV.yc,AV.yB,Obj.yc,yaV]) ?_
 rintro i hi
 rcases Nat.lt_or_ge i xs.length with hlt | hge
 ·obtain ⟨e,he⟩ : ∃ e,xs[i]? = some e:=⟨_,List.getElem?_eq_getElem hlt⟩
  have hg:=yhD (f:=fMs) (n:=nM) (k:=k) he
  have hc:=yaW (n:=nM) he
  have hle:=ybF (n:=nM) (xs:=xs) (i:=i + 1)
  have hn : nM e = 1 + cnt nB e.Train.Rows + 1:=rfl
  simp only [fMs] at hg
  generalize hK : (k + (yaE nM xs i : Int)) = K at *
  have hk : 0 ≤ K:=by omega
  simp -dsimp -implicitDefEqProofs [yK,yI hlt,hg]
  intro hlen
  repeat (refine ⟨by first | exact hlt | (unfold inI; omega) | exact ybs (by omega),?_⟩)
  refine yg (yhA e.Train.Rows (K + 1) (by omega) (by omega)) (by simp) rfl ?_
  have n1 : (K + 1 + (cnt nB e.Train.Rows : Int) < 0) = False:=by simp; omega
  simp -dsimp -implicitDefEqProofs [n1,yK,yI hlt,hg]
  repeat (refine ⟨by first | exact hlt | (unfold inI; omega) | exact ybs (by omega) | exact yA hlt hlen,?_⟩)
  refine ⟨i + 1,hlt,by omega,?_⟩
  apply yj <;> simp [AV.yc,AV.yB,Obj.yc] <;> omega
 ·have : i = xs.length:=by omega
  subst this
  simp -dsimp -implicitDefEqProofs [yK]
  rw [ybf (Nat.le_refl _)]
  intro _; rfl
theorem yy5 (xs : List (List Mover)) (hl : ygc xs) : ybg Tryz.prog ydD [.c (.sl 1 (xs.map yV))] (.c (.ot 1 (xs.map yat))):=by
 refine yaw ykb (by simp) fun hwf=>?_
 simp -dsimp -implicitDefEqProofs [yf1]
 intro hlen
 have hl1:=hl.1
 refine ⟨by omega,?_⟩
 refine yh (ι:=Nat) (fun k=>k ≤ xs.length) (fun k=>yT [(0,.c (.sl 1 (xs.map yV))),(3,.own 7 1 xs.length),(4,.c (.i k))] [(7,.tr 1 0 (partly yat [.sl 3 []] xs k))]) (fun k=>xs.length - k) 0 (by simp) (by apply yj <;> simp [AV.yc,AV.yB,Obj.yc,yac,Obj.leO]) ?_
 rintro k hk
 rcases Nat.lt_or_ge k xs.length with hlt | hge
 ·obtain ⟨e,he⟩ : ∃ e,xs[k]? = some e:=⟨_,List.getElem?_eq_getElem hlt⟩
  have hs:=yai (f:=yat) (z:=[.sl 3 []]) he
  have hd : ((partly yat [.sl 3 []] xs k)[k]?.getD []).set 0 (.ot 3 (e.map Mover.yM)) = yat e:=by
   have:=yef (f:=yat) (z:=[.sl 3 []]) (n:=1) rfl (fun _=>rfl) hlt
   obtain ⟨x,hx⟩:=List.length_eq_one_iff.1 this
   rw [hx]; rfl
  simp -dsimp -implicitDefEqProofs [he,yI hlt]
  intro _
  refine yS (yzG e (hl.2 e (List.mem_of_getElem? he))) (by simp) (ybi Mover.yad _ _) (by simp [yZ]) ?_
  simp -dsimp -implicitDefEqProofs [yI hlt,yaj hk,yt,setAt,hd,hs]
  exact ⟨hlt,yA hlt hlen,k + 1,hlt,by omega,by apply yj <;> simp [AV.yc,AV.yB,Obj.yc,Obj.leO]⟩
 ·simp -dsimp -implicitDefEqProofs [yau hge]
  intro _
  rw [yak hge,yt]
def yam (r : List Mover) : Nat:=cnt nM r
def yb4 (k : Int) (r : List Mover) : List C:=[.ot 3 (yay fM nM k r)]
def yfL (k : Int) (r : List Mover) : List C:=[.sl 3 (yay fMs nM k r)]
theorem yo0 (k : Int) (e : List Mover) : ybR (yb4 k e) = some (yfL k e):=by simp [yb4,yfL,ybR,C.shr,ya7 yHm]
theorem yvm (xs : List (List Mover)) (k : Int) (h0 : 0 ≤ k) (h1 : k + cnt yam xs ≤ 8000000000000000000) :
 InF Tryz.prog yem (.c (ct 1 (xs.map yat))) (.c (ct 1 (yay yb4 yam k xs))) [.c (.i k)] (.c (.i (k + cnt yam xs))):=by
 rcases Nat.eq_zero_or_pos xs.length with hx | hx
 ·have : xs = []:=List.length_eq_zero_iff.1 hx
  subst this
  refine ybG yh8 (by simp) (by simp) rfl fun hwf=>?_
  simp -dsimp -implicitDefEqProofs [yel,yay,cnt]
  refine yh (ι:=Unit) (fun _=>True) (fun _=>yT [(0,.c (.sl 1 [])),(1,.c (.i k)),(5,.c (.i 0)),(1000000,.c (.sl 1 []))] []) (fun _=>0) () trivial (by apply yj <;> simp [AV.yc,AV.yB,Obj.yc]) ?_
  rintro _ _
  simp -dsimp -implicitDefEqProofs
 ·rw [ycQ (by simpa using hx),ycQ (by rw [yK]; exact hx)]
  refine ybG yh8 (by simp) (by simp) rfl fun hwf=>?_
  simp -dsimp -implicitDefEqProofs [yel]
  refine yh (ι:=Nat) (fun i=>i ≤ xs.length) (fun i=>yT [(0,.own 0 1 xs.length),(1,.c (.i (k + yaE yam xs i))),(5,.c (.i i)),(1000000,.own 0 1 xs.length)] [(0,.tr 1 0 (ycC yb4 yat yam k xs i))]) (fun i=>xs.length - i) 0 (by simp) (by apply yj <;> simp [AV.yc,AV.yB,Obj.yc,ydq,yaV,Obj.leO]) ?_
  rintro i hi
  rcases Nat.lt_or_ge i xs.length with hlt | hge
  ·obtain ⟨e,he⟩ : ∃ e,xs[i]? = some e:=⟨_,List.getElem?_eq_getElem hlt⟩
   have hg:=yez (f:=yb4) (g:=yat) (n:=yam) (k:=k) he
   have hl:=yeE (f:=yb4) (g:=yat) (n:=yam) (k:=k) (xs:=xs) (i:=i)
   have hs:=yeC (f:=yb4) (g:=yat) (n:=yam) (k:=k) he
   have hc:=yaW (n:=yam) he
   have hle:=ybF (n:=yam) (xs:=xs) (i:=i + 1)
   have hn : yam e = cnt nM e:=rfl
   generalize hM : ycC yb4 yat yam k xs i = M at *
   generalize hK : (k + (yaE yam xs i : Int)) = K at *
   have hlt2 : i < M.length:=by omega
   have g1 : M[i] = yat e:=(List.getElem?_eq_some_iff.1 hg).2
   have hself : ∀ a,(M.set i a)[i]? = some a:=fun a=>List.getElem?_set_self hlt2
   have hgetD : ∀ a,(M.set i a)[i]?.getD [] = a:=fun a=>by rw [hself]; rfl
   simp only [yat] at hg g1
   have hk : 0 ≤ K:=by omega
   simp -dsimp -implicitDefEqProofs [yI hlt,hg,hl,hlt2,g1,hself,setAt]
   intro hlen
   repeat (refine ⟨by first | exact hlt | (unfold inI; omega) | exact ybs (by omega),?_⟩)
   refine ybX (k0:=1) (j:=0) (i:=(i : Int)) (r:=[.ot 3 (e.map Mover.yM)]) (c:=.ot 3 (e.map Mover.yM)) (c':=.ot 3 (yay fM nM K e)) (yxw e (K) (by omega) (by omega)) (by simp) rfl rfl rfl (by first | exact hself _ | simpa using hg) rfl ⟨_,by rw [yK]; simp,rfl,rfl,rfl⟩ (by simp [C.sz]) ?_
   simp -dsimp -implicitDefEqProofs [setAt,hself,hlt2,hl]
   repeat (refine ⟨by first | exact hlt | (unfold inI; omega) | exact ybs (by omega) | exact yA hlt hlen,?_⟩)
   refine ⟨i + 1,hlt,by omega,?_⟩
   simp only [yb4] at hs
   apply yj <;> simp [AV.yc,AV.yB,Obj.yc,Obj.leO,hs,hself] <;> omega
  ·have : i = xs.length:=by omega
   subst this
   simp -dsimp -implicitDefEqProofs
   intro _
   rw [yew (Nat.le_refl _),ybf (Nat.le_refl _),List.take_of_length_le (by rw [yK]; exact Nat.le_refl _)]
   exact ⟨rfl,rfl⟩
theorem yuK (xs : List (List Mover)) (k : Int) (h0 : 0 ≤ k) (h1 : k + cnt yam xs ≤ 8000000000000000000) : yE Tryz.prog yej [.c (.sl 1 (yay yfL yam k xs)),.c (.i k)] (.c (.i (k + cnt yam xs))):=by
 refine yu yo7 (by simp) fun hwf=>?_
 simp -dsimp -implicitDefEqProofs [yhY]
 refine yh (ι:=Nat) (fun i=>i ≤ xs.length) (fun i=>yT [(0,.c (.sl 1 (yay yfL yam k xs))),(1,.c (.i (k + yaE yam xs i))),(5,.c (.i i))] []) (fun i=>xs.length - i) 0 (by simp) (by apply yj <;> simp [AV.yc,AV.yB,Obj.yc,yaV]) ?_
 rintro i hi
 rcases Nat.lt_or_ge i xs.length with hlt | hge
 ·obtain ⟨e,he⟩ : ∃ e,xs[i]? = some e:=⟨_,List.getElem?_eq_getElem hlt⟩
  have hg:=yhD (f:=yfL) (n:=yam) (k:=k) he
  have hc:=yaW (n:=yam) he
  have hle:=ybF (n:=yam) (xs:=xs) (i:=i + 1)
  have hn : yam e = cnt nM e:=rfl
  simp only [yfL] at hg
  generalize hK : (k + (yaE yam xs i : Int)) = K at *
  have hk : 0 ≤ K:=by omega
  simp -dsimp -implicitDefEqProofs [yK,yI hlt,hg]
  intro hlen
  repeat (refine ⟨by first | exact hlt | (unfold inI; omega) | exact ybs (by omega),?_⟩)
  refine yg (ywL e (K) (by omega) (by omega)) (by simp) rfl ?_
  have n0 : (K + (cnt nM e : Int) < 0) = False:=by simp; omega
  simp -dsimp -implicitDefEqProofs [n0,yK,yI hlt,hg]
  repeat (refine ⟨by first | exact hlt | (unfold inI; omega) | exact ybs (by omega) | exact yA hlt hlen,?_⟩)
  refine ⟨i + 1,hlt,by omega,?_⟩
  apply yj <;> simp [AV.yc,AV.yB,Obj.yc] <;> omega
 ·have : i = xs.length:=by omega
  subst this
  simp -dsimp -implicitDefEqProofs [yK]
  rw [ybf (Nat.le_refl _)]
  intro _; rfl
@[simp] def Passing.yM (e : Passing) : List C:=[.i e.Time,.i e.Work,.b e.Train.Up,.ot 1 (e.Train.Rows.map yX)]
theorem Passing.yab (e : Passing) : ybR e.yM = some e.enc:=by simp [Passing.yM,ybR,ydu yeZ]
theorem Passing.yad (e : Passing) : ∀ c ∈ e.yM,c.closed:=by
 simp only [Passing.yM,List.mem_cons,List.not_mem_nil,or_false,forall_eq_or_imp,forall_eq]
 exact ⟨by simp [C.closed],by simp [C.closed],by simp [C.closed],ybi yjh _ _⟩
theorem yxZ (e : Passing) (hl : Passing.small e) : ybg Tryz.prog ydw [.agg (e.enc.map .c)] (.agg (e.yM.map .c)):=by
 refine yaw yki (by simp) fun hwf=>?_
 simp -dsimp -implicitDefEqProofs [yf7]
 refine yS (yn1 e.Train hl) (by simp) (ybT (Train.yad _)) (by simp [yZ]) ?_
 simp -dsimp -implicitDefEqProofs [yt]
theorem yxf (xs : List Passing) (hl : ye2 xs) : ybg Tryz.prog yc4 [.c (.sl 4 (xs.map Passing.enc))] (.c (.ot 4 (xs.map Passing.yM))):=by
 refine yaw yjc (by simp) fun hwf=>?_
 simp -dsimp -implicitDefEqProofs [ye5]
 intro hlen
 have hl1:=hl.1
 refine ⟨by omega,?_⟩
 refine yh (ι:=Nat) (fun k=>k ≤ xs.length) (fun k=>yT [(0,.c (.sl 4 (xs.map Passing.enc))),(3,.own 7 4 xs.length),(4,.c (.i k))] [(7,.tr 4 0 (partly Passing.yM [.i 0,.i 0,.b false,.sl 1 []] xs k))]) (fun k=>xs.length - k) 0 (by simp) (by apply yj <;> simp [AV.yc,AV.yB,Obj.yc,yac,Obj.leO]) ?_
 rintro k hk
 rcases Nat.lt_or_ge k xs.length with hlt | hge
 ·obtain ⟨e,he⟩ : ∃ e,xs[k]? = some e:=⟨_,List.getElem?_eq_getElem hlt⟩
  have hs:=yai (f:=Passing.yM) (z:=[.i 0,.i 0,.b false,.sl 1 []]) he
  have hd:=yar (f:=Passing.yM) (z:=[.i 0,.i 0,.b false,.sl 1 []]) (n:=4) rfl hlt
  simp only [Passing.yM] at hs
  simp -dsimp -implicitDefEqProofs [he,yI hlt]
  intro _
  refine yS (yxZ e (hl.2 e (List.mem_of_getElem? he))) (by simp) (ybT (Passing.yad _)) (by simp [yZ]) ?_
  simp -dsimp -implicitDefEqProofs [yI hlt,yaj hk,yt,hd,hs]
  exact ⟨hlt,yA hlt hlen,k + 1,hlt,by omega,by apply yj <;> simp [AV.yc,AV.yB,Obj.yc,Obj.leO]⟩
 ·simp -dsimp -implicitDefEqProofs [yau hge]
  intro _
  rw [yak hge,yt]
def yae (e : Passing) : Nat:=1 + 1 + 1 + cnt nB e.Train.Rows
def ybE (k : Int) (e : Passing) : List C:=[.i k,.i (k + 1),.b (decide ((k + 1 + 1).tmod 3 = 0)),.ot 1 (yay fB nB (k + 1 + 1 + 1) e.Train.Rows)]
def yek (k : Int) (e : Passing) : List C:=[.i k,.i (k + 1),.b (decide ((k + 1 + 1).tmod 3 = 0)),.sl 1 (yay fBs nB (k + 1 + 1 + 1) e.Train.Rows)]
theorem ym0 (k : Int) (e : Passing) : ybR (ybE k e) = some (yek k e):=by simp [ybE,yek,ybR,C.shr,ya7 ywj]
end Go.Proofs.YtmimbhooaidelaaGreat
