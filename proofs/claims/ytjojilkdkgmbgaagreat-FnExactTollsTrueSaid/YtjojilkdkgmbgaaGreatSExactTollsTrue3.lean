/- What the law FnExactTollsTrue stands on: contracts of functions, what each answers as plain Lean, in short form (names, layout). -/
import Derived.Test.YtjojilkdkgmbgaaGreatSExactTollsTrue2
set_option linter.all false
namespace Go.Proofs.YtjojilkdkgmbgaaGreat
open Go.RowKit
open Go.ChangeShapes Go.WideShapes
theorem ytd (xs : List (List Mover)) (l : Int) (h0 : 0 ≤ l) (h1 : l ≤ 1048576) : yB Tryz.prog 20 [.c (.sl 1 (xs.map yZ)),.c (.i l)] (.c (.i (ydg xs l))):=by
 refine yh yma ?_
 simp -dsimp -implicitDefEqProofs
 intro hl
 have hs : szS xs.length l = if l - xs.length < 0 then -1 else l - xs.length:=rfl
 refine ⟨by unfold maxLen at hl; unfold inI; omega,fun h=>?_,fun h=>?_⟩
 ·simp [ydg,yeE,ybm,hs,h]
 have h' : 0 ≤ l - xs.length:=by omega
 have e0 : ydg xs l = yaw ycf xs (l - xs.length):=by
  have : szS xs.length l = l - xs.length:=by rw [hs,if_neg (by omega)]
  simp only [ydg,yeE]
  rw [this,yu h']
 refine yg (ι:=Nat × Int) (fun p=>p.1 ≤ xs.length ∧ 0 ≤ p.2 ∧ p.2 ≤ 1048576 ∧ yaw ycf (xs.drop p.1) p.2 = ydg xs l) (fun p=>yO [(0,.c (.sl 1 (xs.map yZ))),(1,.c (.i p.2)),(5,.c (.i p.1))] []) (fun p=>xs.length - p.1) (0,l - xs.length) ⟨by simp,h',by simp only; omega,by simp [e0]⟩ (by apply yj <;> simp) ?_
 rintro ⟨k,q⟩ ⟨hk,hq0,hq1,hf⟩
 simp only at hk hq0 hq1 hf
 rcases Nat.lt_or_ge k xs.length with hlt | hge
 ·obtain ⟨e,he⟩ : ∃ e,xs[k]? = some e:=⟨_,List.getElem?_eq_getElem hlt⟩
  have hd : xs.drop k = e :: xs.drop (k + 1):=by
   rw [List.drop_eq_getElem_cons hlt,(List.getElem?_eq_some_iff.1 he).2]
  rw [hd,yaw] at hf
  simp -dsimp -implicitDefEqProofs [he,yG hlt]
  refine fun _=>yaQ (yuF e q hq0 hq1) (by simp) rfl ?_
  simp -dsimp -implicitDefEqProofs
  refine ⟨fun h=>by rw [← hf,yK h],fun h=>⟨yw hlt hl,k + 1,⟨ycf e q,?_⟩⟩⟩
  rw [yu h] at hf
  have hle : ycf e q ≤ 1048576:=by
   rcases ylJ e q hq0 hq1 with e1 | e1
   ·omega
   ·omega
  exact ⟨⟨hlt,h,hle,hf⟩,by omega,by apply yj <;> simp⟩
 ·simp -dsimp -implicitDefEqProofs [yaB hge]
  rw [List.drop_of_length_le hge] at hf
  intro _
  first | simpa [yaw] using hf | simpa [yaw] using hf.symm
theorem yuh (xs : List (List Mover)) (hl : ye2 xs) : yB Tryz.prog 33 [.c (.sl 1 (xs.map yZ))] (.c (.sl 1 (xs.map yZ))):=by
 refine yh ygW ?_
 simp -dsimp -implicitDefEqProofs
 intro hlen
 have hl1:=hl.1
 refine ⟨by omega,yQd ?_⟩
 simp -dsimp -implicitDefEqProofs
 refine yg (ι:=Nat) (fun k=>k ≤ xs.length) (fun k=>yO [(0,.c (.sl 1 (xs.map yZ))),(3,.own 7 1 xs.length),(4,.c (.i k))] [(7,.row 1 (partly yZ [.sl 3 []] xs k))]) (fun k=>xs.length - k) 0 (by simp) (by apply yj <;> simp [yab]) ?_
 rintro k hk
 rcases Nat.lt_or_ge k xs.length with hlt | hge
 ·obtain ⟨e,he⟩ : ∃ e,xs[k]? = some e:=⟨_,List.getElem?_eq_getElem hlt⟩
  have hs:=yaj (f:=yZ) (z:=[.sl 3 []]) he
  have hd : ((partly yZ [.sl 3 []] xs k)[k]?.getD []).set 0 (.sl 3 (e.map Mover.enc)) = [.sl 3 (e.map Mover.enc)]:=by
   have:=ydK (f:=yZ) (z:=[.sl 3 []]) (n:=1) rfl (fun _=>rfl) hlt
   obtain ⟨x,hx⟩:=List.length_eq_one_iff.1 this
   rw [hx]; rfl
  have hs2 : (partly yZ [.sl 3 []] xs k).set k [.sl 3 (e.map Mover.enc)] = partly yZ [.sl 3 []] xs (k + 1):=hs
  simp -dsimp -implicitDefEqProofs [he,yG hlt]
  refine fun _=>yaP (ywy e (hl.2 e (List.mem_of_getElem? he))) (by simp) rfl ?_
  simp -dsimp -implicitDefEqProofs [yG hlt,yak hk,hd,hs2]
  exact ⟨hlt,yw hlt hlen,k + 1,hlt,by omega,by apply yj <;> simp⟩
 ·simp -dsimp -implicitDefEqProofs [yaB hge]
  intro _
  rw [yam hge,List.take_of_length_le (by simp)]
theorem yvc (es fs : List (List Mover)) : yB Tryz.prog 47 [.c (.sl 1 (es.map yZ)),.c (.sl 1 (fs.map yZ))] (.c (.b (decide (es = fs)))):=by
 refine yh ymn ?_
 simp -dsimp -implicitDefEqProofs
 intro hl1 hl2
 refine ⟨fun h e=>h (by rw [e]),fun hlen=>?_⟩
 have hlen' : es.length = fs.length:=by omega
 refine yg (ι:=Nat) (fun k=>k ≤ es.length ∧ es.take k = fs.take k) (fun k=>yO [(0,.c (.sl 1 (es.map yZ))),(1,.c (.sl 1 (fs.map yZ))),(5,.c (.i k))] []) (fun k=>es.length - k) 0 (by simp) (by apply yj <;> simp) ?_
 rintro k ⟨hk,htk⟩
 rcases Nat.lt_or_ge k es.length with hlt | hge
 ·obtain ⟨e,he⟩ : ∃ e,es[k]? = some e:=⟨_,List.getElem?_eq_getElem hlt⟩
  obtain ⟨f,hf⟩ : ∃ f,fs[k]? = some f:=⟨_,List.getElem?_eq_getElem (by omega)⟩
  simp -dsimp -implicitDefEqProofs [he,hf,yG hlt,yG (hlen' ▸ hlt)]
  intro _
  refine yaC (ywq e f) ?_
  simp -dsimp -implicitDefEqProofs
  refine ⟨fun h=>ybG he hf h,fun h=>⟨yw hlt hl1,k + 1,⟨hlt,yaR he hf htk h⟩,by omega,by apply yj <;> simp⟩⟩
 ·simp -dsimp -implicitDefEqProofs [yaB hge]
  intro _
  exact ybf hge hlen' htk
structure Passing where
 Time : Int
 Work : Int
 Train : Train
 deriving DecidableEq,Inhabited
@[simp] def Passing.enc (e : Passing) : List C:=[.i e.Time,.i e.Work,.b e.Train.Up,.sl 1 (e.Train.Rows.map yai)]
-- Passing
def ybM (e : Passing) (l : Int) : Int:=ybm (yb2 e.Train l) fun l=>l
def Passing.small (e : Passing) : Prop:=e.Train.small
theorem yj0 : yey ybM Passing.small:=by
 intro e l h0 h1
 unfold ybM
 rcases ye7 e.Train _ h0 h1 with e0 | ⟨a0,b0,s0⟩
 ·exact .inl (yK (by omega))
 rw [yu a0]
 exact .inr ⟨a0,by omega,s0⟩
theorem ytC (e : Passing) (l : Int) (h0 : 0 ≤ l) (h1 : l ≤ 1048576) : yB Tryz.prog 86 [.agg (e.enc.map .c),.c (.i l)] (.c (.i (ybM e l))):=by
 refine yh ymq ?_
 simp -dsimp -implicitDefEqProofs
 refine yc (yhF e.Train _ h0 h1) ?_
 simp -dsimp -implicitDefEqProofs
 refine ⟨fun h=>by simp [ybM,yK h],fun p0=>?_⟩
 simp [ybM,yu p0]
theorem ytG (e : Passing) (hl : Passing.small e) : yB Tryz.prog 99 [.agg (e.enc.map .c)] (.agg (e.enc.map .c)):=by
 refine yh yg7 ?_
 simp -dsimp -implicitDefEqProofs
 refine yS (yjt e.Train hl) ?_
 simp -dsimp -implicitDefEqProofs
theorem yu9 (a b : Passing) : yB Tryz.prog 116 [.agg (a.enc.map .c),.agg (b.enc.map .c)] (.c (.b (decide (a = b)))):=by
 refine yh ymw ?_
 obtain ⟨a0,a1,a2⟩:=a
 obtain ⟨b0,b1,b2⟩:=b
 simp -dsimp -implicitDefEqProofs [yhh,Passing.mk.injEq]
 refine ⟨fun h=>by simp_all,fun h0=>?_⟩
 refine ⟨fun h=>by simp_all,fun h1=>?_⟩
 refine yc (yjG a2 b2) ?_
 simp -dsimp -implicitDefEqProofs
 refine ⟨fun h=>by simp_all,fun h2=>?_⟩
 simp_all
-- []Passing
def ycH : List Passing → Int → Int:=yeE ybM
def yeB : List Passing → Prop:=ycs Passing.small
theorem yoN : yey ycH yeB:=ygj yj0
theorem yqp (xs : List Passing) (l : Int) (h0 : 0 ≤ l) (h1 : l ≤ 1048576) : yB Tryz.prog 25 [.c (.sl 4 (xs.map Passing.enc)),.c (.i l)] (.c (.i (ycH xs l))):=by
 refine yh ylD ?_
 simp -dsimp -implicitDefEqProofs
 intro hl
 have hs : szS xs.length l = if l - xs.length < 0 then -1 else l - xs.length:=rfl
 refine ⟨by unfold maxLen at hl; unfold inI; omega,fun h=>?_,fun h=>?_⟩
 ·simp [ycH,yeE,ybm,hs,h]
 have h' : 0 ≤ l - xs.length:=by omega
 have e0 : ycH xs l = yaw ybM xs (l - xs.length):=by
  have : szS xs.length l = l - xs.length:=by rw [hs,if_neg (by omega)]
  simp only [ycH,yeE]
  rw [this,yu h']
 refine yg (ι:=Nat × Int) (fun p=>p.1 ≤ xs.length ∧ 0 ≤ p.2 ∧ p.2 ≤ 1048576 ∧ yaw ybM (xs.drop p.1) p.2 = ycH xs l) (fun p=>yO [(0,.c (.sl 4 (xs.map Passing.enc))),(1,.c (.i p.2)),(5,.c (.i p.1))] []) (fun p=>xs.length - p.1) (0,l - xs.length) ⟨by simp,h',by simp only; omega,by simp [e0]⟩ (by apply yj <;> simp) ?_
 rintro ⟨k,q⟩ ⟨hk,hq0,hq1,hf⟩
 simp only at hk hq0 hq1 hf
 rcases Nat.lt_or_ge k xs.length with hlt | hge
 ·obtain ⟨e,he⟩ : ∃ e,xs[k]? = some e:=⟨_,List.getElem?_eq_getElem hlt⟩
  have hd : xs.drop k = e :: xs.drop (k + 1):=by
   rw [List.drop_eq_getElem_cons hlt,(List.getElem?_eq_some_iff.1 he).2]
  rw [hd,yaw] at hf
  simp -dsimp -implicitDefEqProofs [he,yG hlt]
  refine fun _=>yaQ (ytC e q hq0 hq1) (by simp) rfl ?_
  simp -dsimp -implicitDefEqProofs
  refine ⟨fun h=>by rw [← hf,yK h],fun h=>⟨yw hlt hl,k + 1,⟨ybM e q,?_⟩⟩⟩
  rw [yu h] at hf
  have hle : ybM e q ≤ 1048576:=by
   rcases yj0 e q hq0 hq1 with e1 | e1
   ·omega
   ·omega
  exact ⟨⟨hlt,h,hle,hf⟩,by omega,by apply yj <;> simp⟩
 ·simp -dsimp -implicitDefEqProofs [yaB hge]
  rw [List.drop_of_length_le hge] at hf
  intro _
  first | simpa [yaw] using hf | simpa [yaw] using hf.symm
theorem ysA (xs : List Passing) (hl : yeB xs) : yB Tryz.prog 38 [.c (.sl 4 (xs.map Passing.enc))] (.c (.sl 4 (xs.map Passing.enc))):=by
 refine yh ygz ?_
 simp -dsimp -implicitDefEqProofs
 intro hlen
 have hl1:=hl.1
 refine ⟨by omega,?_⟩
 refine yg (ι:=Nat) (fun k=>k ≤ xs.length) (fun k=>yO [(0,.c (.sl 4 (xs.map Passing.enc))),(3,.own 7 4 xs.length),(4,.c (.i k))] [(7,.row 4 (partly Passing.enc [.i 0,.i 0,.b false,.sl 1 []] xs k))]) (fun k=>xs.length - k) 0 (by simp) (by apply yj <;> simp [yab]) ?_
 rintro k hk
 rcases Nat.lt_or_ge k xs.length with hlt | hge
 ·obtain ⟨e,he⟩ : ∃ e,xs[k]? = some e:=⟨_,List.getElem?_eq_getElem hlt⟩
  have hs:=yaj (f:=Passing.enc) (z:=[.i 0,.i 0,.b false,.sl 1 []]) he
  have hd:=yav (f:=Passing.enc) (z:=[.i 0,.i 0,.b false,.sl 1 []]) (n:=4) rfl hlt
  simp only [Passing.enc,Train.enc] at hs
  simp -dsimp -implicitDefEqProofs [he,yG hlt]
  refine fun _=>yaP (ytG e (hl.2 e (List.mem_of_getElem? he))) (by simp) rfl ?_
  simp -dsimp -implicitDefEqProofs [yG hlt,yak hk,hd,hs]
  exact ⟨hlt,yw hlt hlen,k + 1,hlt,by omega,by apply yj <;> simp⟩
 ·simp -dsimp -implicitDefEqProofs [yaB hge]
  intro _
  rw [yam hge,List.take_of_length_le (by simp)]
theorem ytz (es fs : List Passing) : yB Tryz.prog 52 [.c (.sl 4 (es.map Passing.enc)),.c (.sl 4 (fs.map Passing.enc))] (.c (.b (decide (es = fs)))):=by
 refine yh ylI ?_
 simp -dsimp -implicitDefEqProofs
 intro hl1 hl2
 refine ⟨fun h e=>h (by rw [e]),fun hlen=>?_⟩
 have hlen' : es.length = fs.length:=by omega
 refine yg (ι:=Nat) (fun k=>k ≤ es.length ∧ es.take k = fs.take k) (fun k=>yO [(0,.c (.sl 4 (es.map Passing.enc))),(1,.c (.sl 4 (fs.map Passing.enc))),(5,.c (.i k))] []) (fun k=>es.length - k) 0 (by simp) (by apply yj <;> simp) ?_
 rintro k ⟨hk,htk⟩
 rcases Nat.lt_or_ge k es.length with hlt | hge
 ·obtain ⟨e,he⟩ : ∃ e,es[k]? = some e:=⟨_,List.getElem?_eq_getElem hlt⟩
  obtain ⟨f,hf⟩ : ∃ f,fs[k]? = some f:=⟨_,List.getElem?_eq_getElem (by omega)⟩
  simp -dsimp -implicitDefEqProofs [he,hf,yG hlt,yG (hlen' ▸ hlt)]
  intro _
  refine yaC (yu9 e f) ?_
  simp -dsimp -implicitDefEqProofs
  refine ⟨fun h=>ybG he hf h,fun h=>⟨yw hlt hl1,k + 1,⟨hlt,yaR he hf htk h⟩,by omega,by apply yj <;> simp⟩⟩
 ·simp -dsimp -implicitDefEqProofs [yaB hge]
  intro _
  exact ybf hge hlen' htk
structure Waterway where
 Time : Int
 Reaches : List Reach
 Ways : List Way
 Works : List Work
 Movers : List (List Mover)
 Arrived : List Train
 Entered : List Int
 Tariff : Tariff
 Book : List Entry
 Passings : List Passing
 Start : Int
 In : Int
 Out : Int
 deriving DecidableEq
@[simp] def Waterway.enc (e : Waterway) : List C:=[.i e.Time,.sl 3 (e.Reaches.map Reach.enc),.sl 2 (e.Ways.map Way.enc),.sl 22 (e.Works.map Work.enc),.sl 1 (e.Movers.map yZ),.sl 2 (e.Arrived.map Train.enc),.sl 1 (e.Entered.map yJ),.i e.Tariff.Base,.i e.Tariff.PerArea,.sl 1 (e.Tariff.PerClass.map yJ),.sl 1 (e.Tariff.Weights.map yJ),.sl 5 (e.Book.map Entry.enc),.sl 4 (e.Passings.map Passing.enc),.i e.Start,.i e.In,.i e.Out]
-- Waterway
def yaX (e : Waterway) (l : Int) : Int:=ybm (yd8 e.Reaches l) fun l=>ybm (yk3 e.Ways l) fun l=>ybm (yfc e.Works l) fun l=>ybm (ydg e.Movers l) fun l=>ybm (ydk e.Arrived l) fun l=>ybm (yhJ e.Entered l) fun l=>ybm (ydq e.Tariff l) fun l=>ybm (ygY e.Book l) fun l=>ybm (ycH e.Passings l) fun l=>l
def Waterway.small (e : Waterway) : Prop:=ycN e.Reaches ∧ yhr e.Ways ∧ yc8 e.Works ∧ ye2 e.Movers ∧ ybV e.Arrived ∧ ykx e.Entered ∧ e.Tariff.small ∧ ykU e.Book ∧ yeB e.Passings
theorem yqh : yey yaX Waterway.small:=by
 intro e l h0 h1
 unfold yaX
 rcases ykV e.Reaches _ h0 h1 with e0 | ⟨a0,b0,s0⟩
 ·exact .inl (yK (by omega))
 rw [yu a0]
 rcases ypU e.Ways _ a0 (by omega) with e1 | ⟨a1,b1,s1⟩
 ·exact .inl (yK (by omega))
 rw [yu a1]
 rcases ym4 e.Works _ a1 (by omega) with e2 | ⟨a2,b2,s2⟩
 ·exact .inl (yK (by omega))
 rw [yu a2]
 rcases yjX e.Movers _ a2 (by omega) with e3 | ⟨a3,b3,s3⟩
 ·exact .inl (yK (by omega))
 rw [yu a3]
 rcases yhu e.Arrived _ a3 (by omega) with e4 | ⟨a4,b4,s4⟩
 ·exact .inl (yK (by omega))
 rw [yu a4]
 rcases yeY e.Entered _ a4 (by omega) with e5 | ⟨a5,b5,s5⟩
 ·exact .inl (yK (by omega))
 rw [yu a5]
 rcases ylo e.Tariff _ a5 (by omega) with e6 | ⟨a6,b6,s6⟩
 ·exact .inl (yK (by omega))
 rw [yu a6]
 rcases ykP e.Book _ a6 (by omega) with e7 | ⟨a7,b7,s7⟩
 ·exact .inl (yK (by omega))
 rw [yu a7]
 rcases yoN e.Passings _ a7 (by omega) with e8 | ⟨a8,b8,s8⟩
 ·exact .inl (yK (by omega))
 rw [yu a8]
 exact .inr ⟨a8,by omega,s0,s1,s2,s3,s4,s5,s6,s7,s8⟩
theorem yq5 (e : Waterway) (l : Int) (h0 : 0 ≤ l) (h1 : l ≤ 1048576) : yB Tryz.prog 6 [.agg (e.enc.map .c),.c (.i l)] (.c (.i (yaX e l))):=by
 refine yh ylx ?_
 simp -dsimp -implicitDefEqProofs
 refine yc (yuf e.Reaches _ h0 h1) ?_
 simp -dsimp -implicitDefEqProofs
 refine ⟨fun h=>by simp [yaX,yK h],fun p0=>?_⟩
 have q0:=yin ykV e.Reaches h0 h1 p0
 refine yc (yxL e.Ways _ p0 q0) ?_
 simp -dsimp -implicitDefEqProofs
 refine ⟨fun h=>by simp [yaX,yu p0,yK h],fun p1=>?_⟩
 have q1:=yin ypU e.Ways p0 q0 p1
 refine yc (yv0 e.Works _ p1 q1) ?_
 simp -dsimp -implicitDefEqProofs
 refine ⟨fun h=>by simp [yaX,yu p0,yu p1,yK h],fun p2=>?_⟩
 have q2:=yin ym4 e.Works p1 q1 p2
 refine yc (ytd e.Movers _ p2 q2) ?_
 simp -dsimp -implicitDefEqProofs
 refine ⟨fun h=>by simp [yaX,yu p0,yu p1,yu p2,yK h],fun p3=>?_⟩
 have q3:=yin yjX e.Movers p2 q2 p3
 refine yc (ym0 e.Arrived _ p3 q3) ?_
 simp -dsimp -implicitDefEqProofs
 refine ⟨fun h=>by simp [yaX,yu p0,yu p1,yu p2,yu p3,yK h],fun p4=>?_⟩
 have q4:=yin yhu e.Arrived p3 q3 p4
 refine yc (yjw e.Entered _ p4 q4) ?_
 simp -dsimp -implicitDefEqProofs
 refine ⟨fun h=>by simp [yaX,yu p0,yu p1,yu p2,yu p3,yu p4,yK h],fun p5=>?_⟩
 have q5:=yin yeY e.Entered p4 q4 p5
 refine yc (yuv e.Tariff _ p5 q5) ?_
 simp -dsimp -implicitDefEqProofs
 refine ⟨fun h=>by simp [yaX,yu p0,yu p1,yu p2,yu p3,yu p4,yu p5,yK h],fun p6=>?_⟩
 have q6:=yin ylo e.Tariff p5 q5 p6
 refine yc (yuw e.Book _ p6 q6) ?_
 simp -dsimp -implicitDefEqProofs
 refine ⟨fun h=>by simp [yaX,yu p0,yu p1,yu p2,yu p3,yu p4,yu p5,yu p6,yK h],fun p7=>?_⟩
 have q7:=yin ykP e.Book p6 q6 p7
 refine yc (yqp e.Passings _ p7 q7) ?_
 simp -dsimp -implicitDefEqProofs
 refine ⟨fun h=>by simp [yaX,yu p0,yu p1,yu p2,yu p3,yu p4,yu p5,yu p6,yu p7,yK h],fun p8=>?_⟩
 simp [yaX,yu p0,yu p1,yu p2,yu p3,yu p4,yu p5,yu p6,yu p7,yu p8]
theorem yib (e : Waterway) (hl : Waterway.small e) : yB Tryz.prog 8 [.agg (e.enc.map .c)] (.agg (e.enc.map .c)):=by
 refine yh ygH ?_
 simp -dsimp -implicitDefEqProofs
 refine yS (ywf e.Reaches (hl.1)) ?_
 simp -dsimp -implicitDefEqProofs
 refine yS (yzL e.Ways (hl.2.1)) ?_
 simp -dsimp -implicitDefEqProofs
 refine yS (yyh e.Works (hl.2.2.1)) ?_
 simp -dsimp -implicitDefEqProofs
 refine yS (yuh e.Movers (hl.2.2.2.1)) ?_
 simp -dsimp -implicitDefEqProofs
 refine yS (ypD e.Arrived (hl.2.2.2.2.1)) ?_
 simp -dsimp -implicitDefEqProofs
 refine yS (ylC e.Entered (hl.2.2.2.2.2.1.1)) ?_
 simp -dsimp -implicitDefEqProofs
 refine yS (ywB e.Tariff (hl.2.2.2.2.2.2.1)) ?_
 simp -dsimp -implicitDefEqProofs
 refine yS (yvG e.Book (hl.2.2.2.2.2.2.2.1.1)) ?_
 simp -dsimp -implicitDefEqProofs
 refine yS (ysA e.Passings (hl.2.2.2.2.2.2.2.2)) ?_
 simp -dsimp -implicitDefEqProofs
theorem yfL (a b : Waterway) : yB Tryz.prog 10 [.agg (a.enc.map .c),.agg (b.enc.map .c)] (.c (.b (decide (a = b)))):=by
 refine yh ylL ?_
 obtain ⟨a0,a1,a2,a3,a4,a5,a6,a7,a8,a9,a10,a11,a12⟩:=a
 obtain ⟨b0,b1,b2,b3,b4,b5,b6,b7,b8,b9,b10,b11,b12⟩:=b
 simp -dsimp -implicitDefEqProofs [ygr,Waterway.mk.injEq]
 refine ⟨fun h=>by simp_all,fun h0=>?_⟩
 refine yc (ywC a1 b1) ?_
 simp -dsimp -implicitDefEqProofs
 refine ⟨fun h=>by simp_all,fun h1=>?_⟩
 refine yc (yzd a2 b2) ?_
 simp -dsimp -implicitDefEqProofs
 refine ⟨fun h=>by simp_all,fun h2=>?_⟩
 refine yc (yyy a3 b3) ?_
 simp -dsimp -implicitDefEqProofs
 refine ⟨fun h=>by simp_all,fun h3=>?_⟩
 refine yc (yvc a4 b4) ?_
 simp -dsimp -implicitDefEqProofs
 refine ⟨fun h=>by simp_all,fun h4=>?_⟩
 refine yc (ypz a5 b5) ?_
 simp -dsimp -implicitDefEqProofs
 refine ⟨fun h=>by simp_all,fun h5=>?_⟩
 refine yc (ykZ a6 b6) ?_
 simp -dsimp -implicitDefEqProofs
 refine ⟨fun h=>by simp_all,fun h6=>?_⟩
 refine yc (yv1 a7 b7) ?_
 simp -dsimp -implicitDefEqProofs
 refine ⟨fun h=>by simp_all,fun h7=>?_⟩
 refine yc (ywt a8 b8) ?_
 simp -dsimp -implicitDefEqProofs
 refine ⟨fun h=>by simp_all,fun h8=>?_⟩
 refine yc (ytz a9 b9) ?_
 simp -dsimp -implicitDefEqProofs
 refine ⟨fun h=>by simp_all,fun h9=>?_⟩
 refine ⟨fun h=>by simp_all,fun h10=>?_⟩
 refine ⟨fun h=>by simp_all,fun h11=>?_⟩
 refine ⟨fun h=>by simp_all,fun h12=>?_⟩
 simp_all
theorem yTD (l : List Int) (n : Int) : yB Tryz.prog 29 [.c (.sl 1 (l.map yJ)),.c (.i n)] (.c (.i (l.count n))):=by
 refine yh yTo ?_
 simp -dsimp -implicitDefEqProofs
 refine yg (ι:=Nat) (fun k=>k ≤ l.length) (fun k=>yO [(0,.c (.sl 1 (l.map yJ))),(1,.c (.i n)),(5,.c (.i ((l.take k).count n))),(6,.c (.i k))] []) (fun k=>l.length - k) 0 (by simp) (by apply yj <;> simp) ?_
 rintro k hk
 have hc : (l.take k).count n ≤ k:=Nat.le_trans List.count_le_length (by simp; omega)
 rcases Nat.lt_or_ge k l.length with hlt | hge
 ·obtain ⟨a,ha⟩ : ∃ a,l[k]? = some a:=⟨_,List.getElem?_eq_getElem hlt⟩
  have g1:=(List.getElem?_eq_some_iff.1 ha).2
  have hs : (l.take (k + 1)).count n = (l.take k).count n + if a = n then 1 else 0:=by
   rw [List.take_succ,ha]
   simp [List.count_append,List.count_cons]
  generalize (l.take k).count n = q at *
  simp -dsimp -implicitDefEqProofs [ha,g1,hlt,yG hlt]
  intro hlen
  have hm:=hlen; unfold maxLen at hm
  refine ⟨fun h=>⟨by unfold inI; omega,yw hlt hlen,k + 1,hlt,by omega,?_⟩,fun h=>⟨yw hlt hlen,k + 1,hlt,by omega,?_⟩⟩
  ·apply yj <;> simp [hs,h]
  ·apply yj <;> simp [hs,h]
 ·simp -dsimp -implicitDefEqProofs [yaB hge]
  intro _
  rw [List.take_of_length_le hge]
theorem yTO (a b : List Entry) : yB Tryz.prog 43 [.c (.sl 5 (a.map Entry.enc)),.c (.sl 5 (b.map Entry.enc))] (.c (.b (decide (a = b)))):=by
 refine yh ySe ?_
 simp -dsimp -implicitDefEqProofs
 intro hlen1 hlen2
 refine ⟨fun h=>?_,fun h=>?_⟩
 ·have : a ≠ b:=fun e=>h (by rw [e])
  simp [this]
 have hl : a.length = b.length:=by omega
 intro _
 refine yg (ι:=Nat) (fun k=>k ≤ a.length ∧ a.take k = b.take k) (fun k=>yO [(0,.c (.sl 5 (a.map Entry.enc))),(1,.c (.sl 5 (b.map Entry.enc))),(12,.c (.i a.length)),(13,.c (.i k))] []) (fun k=>a.length - k) 0 (by simp) (by apply yj <;> simp) ?_
 rintro k ⟨hk,he⟩
 rcases Nat.lt_or_ge k a.length with hlt | hge
 ·obtain ⟨u,hu⟩ : ∃ u,a[k]? = some u:=⟨_,List.getElem?_eq_getElem hlt⟩
  obtain ⟨v,hv⟩ : ∃ v,b[k]? = some v:=⟨_,List.getElem?_eq_getElem (by omega)⟩
  have g1:=(List.getElem?_eq_some_iff.1 hu).2
  have g2:=(List.getElem?_eq_some_iff.1 hv).2
  have hlt2 : k < b.length:=by omega
  simp -dsimp -implicitDefEqProofs [hu,hv,g1,g2,hlt,hlt2,yG hlt]
  refine ⟨fun h e=>?_,fun e1 e2 e3 e4 e5=>⟨yw hlt hlen1,k + 1,⟨hlt,?_⟩,by omega,?_⟩⟩
  ·subst e
   rw [hu] at hv
   cases hv
   simp at h
  ·have huv : u = v:=by cases u; cases v; simp_all
   rw [List.take_succ,List.take_succ,he,hu,hv,huv]
  ·apply yj <;> simp
 ·simp -dsimp -implicitDefEqProofs [yaB hge]
  rw [List.take_of_length_le hge,List.take_of_length_le (by omega)] at he
  simp [he]
def yTx (x : Waterway) (b : List Entry) (p : Passing) : List Entry:=(yR7 b (yR0 x.Tariff p.Train p.Time)).1
def yR2 (x : Waterway) (k : Nat) : List Entry:=(x.Passings.take k).foldl (yTx x) []
def ySc (x : Waterway) (p : Passing) : Bool:=(yaY p.Train).all fun i=>decide (i ∈ x.Entered)
def ySn (x : Waterway) : Bool:=x.Passings.all (ySc x) && decide (x.Passings.foldl (yTx x) [] = x.Book)
theorem ySM {x : Waterway} {k : Nat} {p : Passing} (h : x.Passings[k]? = some p) : yR2 x (k + 1) = (yR7 (yR2 x k) (yR0 x.Tariff p.Train p.Time)).1:=by
 unfold yR2
 rw [List.take_succ,h]
 simp [yTx]
theorem ySW {x : Waterway} : ∀ k : Nat,(yR2 x k).length ≤ 2000:=by
 intro k
 induction k with
 | zero=>simp [yR2]
 | succ k ih =>
  cases h : x.Passings[k]? with
  | none =>
   have : yR2 x (k + 1) = yR2 x k:=by unfold yR2; rw [List.take_succ,h]; simp
   rw [this]; exact ih
  | some p =>
   rw [ySM h]
   unfold yR7
   split
   ·rename_i e
    simp only [Bool.and_eq_true,yht,decide_eq_true_eq] at e
    exact e.2.1
   ·exact ih
theorem yS9 {x : Waterway} {k : Nat} {p : Passing} {j : Nat} {i : Int} (h : x.Passings[k]? = some p) (hj : (yaY p.Train)[j]? = some i) (hi : i ∉ x.Entered) : ySn x = false:=by
 have h1 : ySc x p = false:=all_false (p:=fun i=>decide (i ∈ x.Entered)) hj (by simp [hi])
 simp [ySn,all_false (p:=ySc x) h h1]
theorem yTM {x : Waterway} {k : Nat} (hk : x.Passings.length ≤ k) (h : ∀ p ∈ x.Passings.take k,ySc x p = true) : ySn x = decide (yR2 x k = x.Book):=by
 have:=yX (p:=ySc x) hk h
 simp only [ySn,this,Bool.true_and,yR2,List.take_of_length_le hk]
theorem yTy (x : Waterway) (hl : x.small) : yB Tryz.prog 9 [.agg (x.enc.map .c)] (.c (.b (ySn x))):=by
 refine yh yTc ?_
 simp -dsimp -implicitDefEqProofs
 intro hlen
 refine yg (ι:=Nat) (fun k=>k ≤ x.Passings.length ∧ ∀ p ∈ x.Passings.take k,ySc x p = true) (fun k=>match k with
  | 0=>yO [(1,.box 1 0),(2,.c (.b false)),(3,.nil 5),(9,.c (.sl 4 (x.Passings.map Passing.enc))),(10,.c (.i x.Passings.length)),(11,.c (.i 0))] [(1,.box (x.enc.map .c))]
  | k + 1=>yO [(1,.box 1 0),(2,.c (.b false)),(3,.c (.sl 5 ((yR2 x (k + 1)).map Entry.enc))),(9,.c (.sl 4 (x.Passings.map Passing.enc))),(10,.c (.i x.Passings.length)),(11,.c (.i (k + 1)))] [(1,.box (x.enc.map .c))]) (fun k=>x.Passings.length - k) 0 (by simp) (by apply yj <;> simp) ?_
 rintro k ⟨hk,hall⟩
 rcases Nat.lt_or_ge k x.Passings.length with klt | kge
 ·obtain ⟨p,hp⟩ : ∃ p,x.Passings[k]? = some p:=⟨_,List.getElem?_eq_getElem klt⟩
  have gp:=(List.getElem?_eq_some_iff.1 hp).2
  have hps:=hl.2.2.2.2.2.2.2.2.2 p (List.mem_of_getElem? hp)
  have hsuc:=ySM hp
  have hbl:=ySW (x:=x) k
  have htl:=ySQ x.Tariff p.Train p.Time
  have hlt:=yG klt
  rcases k with _ | k
  ·have e0 : yR2 x 0 = []:=by simp [yR2]
   rw [e0] at hsuc
   simp only [Int.natCast_zero] at hlt
   simp -dsimp -implicitDefEqProofs [hp,gp,klt,hlt]
   refine yaP (ySz x.Tariff p.Train p.Time hps) (by simp -dsimp -implicitDefEqProofs) rfl ?_
   simp -dsimp -implicitDefEqProofs [hp,gp,klt]
   refine yaP (ySx [] (yR0 x.Tariff p.Train p.Time) (by simp -dsimp -implicitDefEqProofs) (by omega)) (by simp -dsimp -implicitDefEqProofs) rfl ?_
   rw [← hsuc]
   simp -dsimp -implicitDefEqProofs [hp,gp,klt]
   refine yaP (yuz p.Train hps) (by simp -dsimp -implicitDefEqProofs) rfl ?_
   simp -dsimp -implicitDefEqProofs
   intro hlen2
   refine yg (ι:=Nat) (fun j=>j ≤ (yaY p.Train).length ∧ ∀ i ∈ (yaY p.Train).take j,decide (i ∈ x.Entered) = true) (fun j=>yO [(1,.box 1 0),(2,.c (.b false)),(3,.c (.sl 5 ((yR2 x (0 + 1)).map Entry.enc))),(9,.c (.sl 4 (x.Passings.map Passing.enc))),(10,.c (.i x.Passings.length)),(11,.c (.i ((0 : Nat) : Int))),(29,.c (.sl 1 ((yaY p.Train).map yJ))),(30,.c (.i (yaY p.Train).length)),(31,.c (.i j))] [(1,.box (x.enc.map .c))]) (fun j=>(yaY p.Train).length - j) 0 (by simp) (by apply yj <;> simp) ?_
   rintro j ⟨hj,hallj⟩
   rcases Nat.lt_or_ge j (yaY p.Train).length with jlt | jge
   ·obtain ⟨i,hi⟩ : ∃ i,(yaY p.Train)[j]? = some i:=⟨_,List.getElem?_eq_getElem jlt⟩
    have gi:=(List.getElem?_eq_some_iff.1 hi).2
    simp -dsimp -implicitDefEqProofs [hi,gi,jlt,yG jlt]
    refine yaQ (ypJ x.Entered i) (by simp -dsimp -implicitDefEqProofs) rfl ?_
    cases hin : decide (i ∈ x.Entered) with
    | false =>
     simp -dsimp -implicitDefEqProofs
     exact yS9 hp hi (by simpa using hin)
    | true =>
     have hallj':=yL (p:=fun i=>decide (i ∈ x.Entered)) hi hallj hin
     simp -dsimp -implicitDefEqProofs
     refine ⟨yw jlt hlen2,j + 1,⟨jlt,by simpa using hallj'⟩,by omega,?_⟩
     apply yj <;> simp
   ·have hca : ySc x p = true:=yX (p:=fun i=>decide (i ∈ x.Entered)) jge hallj
    have hall':=yL (p:=ySc x) hp hall hca
    simp -dsimp -implicitDefEqProofs [yaB jge]
    refine ⟨yw klt hlen,0 + 1,⟨klt,hall'⟩,by omega,?_⟩
    apply yj <;> simp
  ·have t1 : ((k : Int) + 1 < (x.Passings.length : Int)) = True:=by simp; omega
   have t2 : (0 ≤ (k : Int) + 1) = True:=by simp; omega
   have t3 : ((k : Int) + 1).toNat = k + 1:=by omega
   simp -dsimp -implicitDefEqProofs [hp,gp,klt,t1,t2,t3]
   refine yaP (ySz x.Tariff p.Train p.Time hps) (by simp -dsimp -implicitDefEqProofs) rfl ?_
   simp -dsimp -implicitDefEqProofs [hp,gp,klt,t3]
   refine yaP (ySx (yR2 x (k + 1)) (yR0 x.Tariff p.Train p.Time) (by omega) (by omega)) (by simp -dsimp -implicitDefEqProofs) rfl ?_
   rw [← hsuc]
   simp -dsimp -implicitDefEqProofs [hp,gp,klt]
   refine yaP (yuz p.Train hps) (by simp -dsimp -implicitDefEqProofs) rfl ?_
   simp -dsimp -implicitDefEqProofs
   intro hlen2
   refine yg (ι:=Nat) (fun j=>j ≤ (yaY p.Train).length ∧ ∀ i ∈ (yaY p.Train).take j,decide (i ∈ x.Entered) = true) (fun j=>yO [(1,.box 1 0),(2,.c (.b false)),(3,.c (.sl 5 ((yR2 x ((k + 1) + 1)).map Entry.enc))),(9,.c (.sl 4 (x.Passings.map Passing.enc))),(10,.c (.i x.Passings.length)),(11,.c (.i (((k + 1) : Nat) : Int))),(29,.c (.sl 1 ((yaY p.Train).map yJ))),(30,.c (.i (yaY p.Train).length)),(31,.c (.i j))] [(1,.box (x.enc.map .c))]) (fun j=>(yaY p.Train).length - j) 0 (by simp) (by apply yj <;> simp) ?_
   rintro j ⟨hj,hallj⟩
   rcases Nat.lt_or_ge j (yaY p.Train).length with jlt | jge
   ·obtain ⟨i,hi⟩ : ∃ i,(yaY p.Train)[j]? = some i:=⟨_,List.getElem?_eq_getElem jlt⟩
    have gi:=(List.getElem?_eq_some_iff.1 hi).2
    simp -dsimp -implicitDefEqProofs [hi,gi,jlt,yG jlt]
    refine yaQ (ypJ x.Entered i) (by simp -dsimp -implicitDefEqProofs) rfl ?_
    cases hin : decide (i ∈ x.Entered) with
    | false =>
     simp -dsimp -implicitDefEqProofs
     exact yS9 hp hi (by simpa using hin)
    | true =>
     have hallj':=yL (p:=fun i=>decide (i ∈ x.Entered)) hi hallj hin
     simp -dsimp -implicitDefEqProofs
     refine ⟨yw jlt hlen2,j + 1,⟨jlt,by simpa using hallj'⟩,by omega,?_⟩
     apply yj <;> simp
   ·have hca : ySc x p = true:=yX (p:=fun i=>decide (i ∈ x.Entered)) jge hallj
    have hall':=yL (p:=ySc x) hp hall hca
    simp -dsimp -implicitDefEqProofs [yaB jge]
    refine ⟨yw klt hlen,(k + 1) + 1,⟨klt,hall'⟩,by omega,?_⟩
    apply yj <;> simp
 ·have hT:=yTM kge hall
  rcases k with _ | k
  ·have e0 : yR2 x 0 = []:=by simp [yR2]
   rw [e0] at hT
   have hx0 : x.Passings.length = 0:=by omega
   have t1 : ((0 : Int) < (x.Passings.length : Int)) = False:=by rw [hx0]; simp
   simp -dsimp -implicitDefEqProofs [t1,hx0]
   refine yaQ (yTO [] x.Book) (by simp -dsimp -implicitDefEqProofs) rfl ?_
   simp -dsimp -implicitDefEqProofs
   rw [hT]
   exact decide_eq_decide.2 ⟨Eq.symm,Eq.symm⟩
  ·have t1 : ((k : Int) + 1 < (x.Passings.length : Int)) = False:=by simp; omega
   simp -dsimp -implicitDefEqProofs [t1]
   refine yaQ (yTO (yR2 x (k + 1)) x.Book) (by simp -dsimp -implicitDefEqProofs) rfl ?_
   simp -dsimp -implicitDefEqProofs
   exact hT
theorem yTt (x : Waterway) (hl : x.small) : yB Tryz.prog 7 [.agg (x.enc.map .c)] (.c (.b (ySn x))):=by
 have htf:=hl.2.2.2.2.2.2.1
 refine yh yTi ?_
 simp -dsimp -implicitDefEqProofs
 refine yg (ι:=Nat) (fun k=>k ≤ x.Passings.length ∧ ∀ p ∈ x.Passings.take k,ySc x p = true) (fun k=>match k with
  | 0=>yO [(1,.box 1 0),(2,.c (.b false)),(3,.own 9 5 0),(4,.c (.i 0))] [(1,.box (x.enc.map .c)),(9,.row 5 [])]
  | k + 1=>yO [(1,.box 1 0),(2,.c (.b false)),(3,.c (.sl 5 ((yR2 x (k + 1)).map Entry.enc))),(4,.c (.i (k + 1)))] [(1,.box (x.enc.map .c))]) (fun k=>x.Passings.length - k) 0 (by simp) (by apply yj <;> simp) ?_
 rintro k ⟨hk,hall⟩
 rcases Nat.lt_or_ge k x.Passings.length with klt | kge
 ·obtain ⟨p,hp⟩ : ∃ p,x.Passings[k]? = some p:=⟨_,List.getElem?_eq_getElem klt⟩
  have gp:=(List.getElem?_eq_some_iff.1 hp).2
  have hps:=hl.2.2.2.2.2.2.2.2.2 p (List.mem_of_getElem? hp)
  have hsuc:=ySM hp
  have hbl:=ySW (x:=x) k
  have htl:=ySQ x.Tariff p.Train p.Time
  rcases k with _ | k
  ·simp -dsimp -implicitDefEqProofs [hp,gp,klt,yG klt]
   intro hlenP
   refine yaP (ySB x.Tariff p.Train p.Time htf hps) (by simp -dsimp -implicitDefEqProofs) rfl ?_
   simp -dsimp -implicitDefEqProofs [hp,gp,klt]
   refine yUj [9] (ySI [] (yR0 x.Tariff p.Train p.Time) (by simp) (by omega)) (by simp -dsimp -implicitDefEqProofs) (by simp [AV.frz,AV.yOj,AV.ya8]) ?_
   have e0 : yR2 x 0 = []:=by simp [yR2]
   rw [e0] at hsuc
   rw [← hsuc]
   simp -dsimp -implicitDefEqProofs [hp,gp,klt]
   refine yaP (yvW p.Train hps) (by simp -dsimp -implicitDefEqProofs) rfl ?_
   simp -dsimp -implicitDefEqProofs
   refine yg (ι:=Nat) (fun j=>j ≤ (yaY p.Train).length ∧ ∀ i ∈ (yaY p.Train).take j,decide (i ∈ x.Entered) = true) (fun j=>yO [(1,.box 1 0),(2,.c (.b false)),(3,.c (.sl 5 ((yR2 x (0 + 1)).map Entry.enc))),(4,.c (.i ((0 : Nat) : Int))),(6,.c (.sl 1 ((yaY p.Train).map yJ))),(7,.c (.i j))] [(1,.box (x.enc.map .c))]) (fun j=>(yaY p.Train).length - j) 0 (by simp) (by apply yj <;> simp) ?_
   rintro j ⟨hj,hallj⟩
   rcases Nat.lt_or_ge j (yaY p.Train).length with jlt | jge
   ·obtain ⟨i,hi⟩ : ∃ i,(yaY p.Train)[j]? = some i:=⟨_,List.getElem?_eq_getElem jlt⟩
    have gi:=(List.getElem?_eq_some_iff.1 hi).2
    simp -dsimp -implicitDefEqProofs [hi,gi,jlt,yG jlt]
    intro hlen2
    refine ⟨_,_,yTD x.Entered i,by simp -dsimp -implicitDefEqProofs,.inr rfl,?_⟩
    by_cases hin : i ∈ x.Entered
    ·have hcn:=List.count_pos_iff.2 hin
     have z : ((x.Entered.count i : Int) = 0) = False:=by simp; omega
     have z3 : (x.Entered.count i = 0) = False:=by simp; omega
     have hallj':=yL (p:=fun i=>decide (i ∈ x.Entered)) hi hallj (by simpa using hin)
     have z2 : (i ∉ x.Entered) = False:=by simp [hin]
     simp -dsimp -implicitDefEqProofs [z,z2,z3]
     refine ⟨yw jlt hlen2,j + 1,⟨jlt,by simpa using hallj'⟩,by omega,?_⟩
     apply yj <;> simp
    ·have hcn:=List.count_eq_zero.2 hin
     have z : ((x.Entered.count i : Int) = 0) = True:=by simp; omega
     have z3 : (x.Entered.count i = 0) = True:=by simp; omega
     have z2 : (i ∉ x.Entered) = True:=by simp [hin]
     simp -dsimp -implicitDefEqProofs [z,z2,z3]
     exact yS9 hp hi hin
   ·have hca : ySc x p = true:=yX (p:=fun i=>decide (i ∈ x.Entered)) jge hallj
    have hall':=yL (p:=ySc x) hp hall hca
    simp -dsimp -implicitDefEqProofs [yaB jge]
    intro hlen2
    refine ⟨yw klt hlenP,0 + 1,⟨klt,hall'⟩,by omega,?_⟩
    apply yj <;> simp
  ·have t1 : ((k : Int) + 1 < (x.Passings.length : Int)) = True:=by simp; omega
   have t2 : (0 ≤ (k : Int) + 1) = True:=by simp; omega
   have t3 : ((k : Int) + 1).toNat = k + 1:=by omega
   simp -dsimp -implicitDefEqProofs [hp,gp,klt,t1,t2,t3]
   intro hlenP
   refine yaP (ySB x.Tariff p.Train p.Time htf hps) (by simp -dsimp -implicitDefEqProofs) rfl ?_
   simp -dsimp -implicitDefEqProofs [hp,gp,klt,t3]
   refine yaP (ySI (yR2 x (k + 1)) (yR0 x.Tariff p.Train p.Time) (by omega) (by omega)) (by simp -dsimp -implicitDefEqProofs) rfl ?_
   rw [← hsuc]
   simp -dsimp -implicitDefEqProofs [hp,gp,klt]
   refine yaP (yvW p.Train hps) (by simp -dsimp -implicitDefEqProofs) rfl ?_
   simp -dsimp -implicitDefEqProofs
   refine yg (ι:=Nat) (fun j=>j ≤ (yaY p.Train).length ∧ ∀ i ∈ (yaY p.Train).take j,decide (i ∈ x.Entered) = true) (fun j=>yO [(1,.box 1 0),(2,.c (.b false)),(3,.c (.sl 5 ((yR2 x ((k + 1) + 1)).map Entry.enc))),(4,.c (.i (((k + 1) : Nat) : Int))),(6,.c (.sl 1 ((yaY p.Train).map yJ))),(7,.c (.i j))] [(1,.box (x.enc.map .c))]) (fun j=>(yaY p.Train).length - j) 0 (by simp) (by apply yj <;> simp) ?_
   rintro j ⟨hj,hallj⟩
   rcases Nat.lt_or_ge j (yaY p.Train).length with jlt | jge
   ·obtain ⟨i,hi⟩ : ∃ i,(yaY p.Train)[j]? = some i:=⟨_,List.getElem?_eq_getElem jlt⟩
    have gi:=(List.getElem?_eq_some_iff.1 hi).2
    simp -dsimp -implicitDefEqProofs [hi,gi,jlt,yG jlt]
    intro hlen2
    refine ⟨_,_,yTD x.Entered i,by simp -dsimp -implicitDefEqProofs,.inr rfl,?_⟩
    by_cases hin : i ∈ x.Entered
    ·have hcn:=List.count_pos_iff.2 hin
     have z : ((x.Entered.count i : Int) = 0) = False:=by simp; omega
     have z3 : (x.Entered.count i = 0) = False:=by simp; omega
     have hallj':=yL (p:=fun i=>decide (i ∈ x.Entered)) hi hallj (by simpa using hin)
     have z2 : (i ∉ x.Entered) = False:=by simp [hin]
     simp -dsimp -implicitDefEqProofs [z,z2,z3]
     refine ⟨yw jlt hlen2,j + 1,⟨jlt,by simpa using hallj'⟩,by omega,?_⟩
     apply yj <;> simp
    ·have hcn:=List.count_eq_zero.2 hin
     have z : ((x.Entered.count i : Int) = 0) = True:=by simp; omega
     have z3 : (x.Entered.count i = 0) = True:=by simp; omega
     have z2 : (i ∉ x.Entered) = True:=by simp [hin]
     simp -dsimp -implicitDefEqProofs [z,z2,z3]
     exact yS9 hp hi hin
   ·have hca : ySc x p = true:=yX (p:=fun i=>decide (i ∈ x.Entered)) jge hallj
    have hall':=yL (p:=ySc x) hp hall hca
    simp -dsimp -implicitDefEqProofs [yaB jge]
    intro hlen2
    refine ⟨yw klt hlenP,(k + 1) + 1,⟨klt,hall'⟩,by omega,?_⟩
    apply yj <;> simp
 ·have hT:=yTM kge hall
  rcases k with _ | k
  ·have e0 : yR2 x 0 = []:=by simp [yR2]
   rw [e0] at hT
   have hx0 : x.Passings.length = 0:=by omega
   have t1 : ((0 : Int) < (x.Passings.length : Int)) = False:=by rw [hx0]; simp
   simp -dsimp -implicitDefEqProofs [t1,hx0]
   refine yg (ι:=Nat) (fun j=>j = 0) (fun _=>yO [(1,.box 1 0),(2,.c (.b false)),(3,.own 9 5 0),(4,.c (.i 0)),(8,.c (.i 0))] [(1,.box (x.enc.map .c)),(9,.row 5 [])]) (fun _=>0) 0 rfl (by apply yj <;> simp) ?_
   rintro j rfl
   simp -dsimp -implicitDefEqProofs
   intro _
   rw [hT]
   exact decide_eq_decide.2 ⟨fun h=>by rw [← h]; rfl,fun h=>(List.length_eq_zero_iff.1 (by omega)).symm⟩
  ·have t1 : ((k : Int) + 1 < (x.Passings.length : Int)) = False:=by simp; omega
   simp -dsimp -implicitDefEqProofs [t1]
   intro _
   obtain ⟨B,hB⟩ : ∃ B,yR2 x (k + 1) = B:=⟨_,rfl⟩
   have hbl:=ySW (x:=x) (k + 1)
   rw [hB] at hT hbl
   rw [hB]
   refine yg (ι:=Nat) (fun j=>j ≤ B.length ∧ (j = 0 ∨ B.length = x.Book.length) ∧ B.take j = x.Book.take j) (fun j=>yO [(1,.box 1 0),(2,.c (.b false)),(3,.c (.sl 5 (B.map Entry.enc))),(8,.c (.i j))] [(1,.box (x.enc.map .c))]) (fun j=>B.length - j) 0 (by simp) (by apply yj <;> simp) ?_
   rintro j ⟨hj,hj0,he⟩
   by_cases hlen : B.length = x.Book.length
   ·have z1 : ((B.length : Int) = (x.Book.length : Int)) = True:=by simp [hlen]
    rcases Nat.lt_or_ge j B.length with jlt | jge
    ·obtain ⟨u,hu⟩ : ∃ u,B[j]? = some u:=⟨_,List.getElem?_eq_getElem jlt⟩
     obtain ⟨v,hv⟩ : ∃ v,x.Book[j]? = some v:=⟨_,List.getElem?_eq_getElem (by omega)⟩
     have g1:=(List.getElem?_eq_some_iff.1 hu).2
     have g2:=(List.getElem?_eq_some_iff.1 hv).2
     have jlt2 : j < x.Book.length:=by omega
     simp -dsimp -implicitDefEqProofs [hu,hv,g1,g2,jlt,jlt2,yG jlt,hlen]
     refine fun hlm=>⟨fun h=>?_,fun e1 e2 e3 e4 e5=>⟨yw jlt2 hlm,j + 1,⟨by omega,?_⟩,by omega,?_⟩⟩
     ·have hne : B ≠ x.Book:=by
       intro e
       rw [e,hv] at hu
       cases hu
       simp at h
      rw [hT]
      simp [hne]
     ·have huv : u = v:=by cases u; cases v; simp_all
      rw [List.take_succ,List.take_succ,he,hu,hv,huv]
     ·apply yj <;> simp
    ·have jge2 : x.Book.length ≤ j:=by omega
     rw [List.take_of_length_le jge,List.take_of_length_le jge2] at he
     simp -dsimp -implicitDefEqProofs [yaB jge2,hlen]
     intro _
     rw [hT]
     simp [he]
   ·have z1 : ((B.length : Int) = (x.Book.length : Int)) = False:=by simp; omega
    obtain rfl : j = 0:=hj0.resolve_right hlen
    have hne : ySn x = false:=by
     rw [hT]
     simp only [decide_eq_false_iff_not]
     intro e
     exact hlen (by rw [e])
    simp -dsimp -implicitDefEqProofs [z1,hlen,hne]
theorem yS3 (x0 : Waterway) : yB Tryz.prog 3 [.agg (x0.enc.map .c)] (.c (.b true)):=by
 refine yh ySE ?_
 simp -dsimp -implicitDefEqProofs
 refine yc (yq5 x0 1048576 (by omega) (by omega)) ?_
 simp -dsimp -implicitDefEqProofs
 intro hsz0
 have hl0:=yzy yqh (by omega) (by omega) hsz0
 refine yS (yib x0 hl0) ?_
 simp -dsimp -implicitDefEqProofs
 refine yc (yTt x0 hl0) ?_
 simp -dsimp -implicitDefEqProofs
 refine yS (yib x0 hl0) ?_
 simp -dsimp -implicitDefEqProofs
 refine yc (yTy x0 hl0) ?_
 simp -dsimp -implicitDefEqProofs
 refine yyA (yib x0 hl0) ?_
 simp -dsimp -implicitDefEqProofs
 refine yaC (yfL x0 x0) ?_
 simp -dsimp -implicitDefEqProofs
theorem yye {xs : List C} (h : Fits [.i,.i,.i,.i,.i] xs) : ∃ e : Entry,xs = e.enc:=by
 obtain ⟨c0,ys,rfl,h0,h⟩:=h.cons_inv
 obtain ⟨c1,ys,rfl,h1,h⟩:=h.cons_inv
 obtain ⟨c2,ys,rfl,h2,h⟩:=h.cons_inv
 obtain ⟨c3,ys,rfl,h3,h⟩:=h.cons_inv
 obtain ⟨c4,ys,rfl,h4,h⟩:=h.cons_inv
 obtain rfl:=h.ycx
 obtain ⟨n0,rfl⟩:=h0.yaT
 obtain ⟨n1,rfl⟩:=h1.yaT
 obtain ⟨n2,rfl⟩:=h2.yaT
 obtain ⟨n3,rfl⟩:=h3.yaT
 obtain ⟨n4,rfl⟩:=h4.yaT
 exact ⟨⟨n0,n1,n2,n3,n4⟩,rfl⟩
theorem ykL {xs : List C} (h : Fits [.i] xs) : ∃ n : Int,xs = yJ n:=by
 obtain ⟨c0,ys,rfl,h0,h⟩:=h.cons_inv
 obtain rfl:=h.ycx
 obtain ⟨n0,rfl⟩:=h0.yaT
 exact ⟨n0,rfl⟩
theorem yBG {xs : List C} (h : Fits [.i,.i] xs) : ∃ e : Way,xs = e.enc:=by
 obtain ⟨c0,ys,rfl,h0,h⟩:=h.cons_inv
 obtain ⟨c1,ys,rfl,h1,h⟩:=h.cons_inv
 obtain rfl:=h.ycx
 obtain ⟨n0,rfl⟩:=h0.yaT
 obtain ⟨n1,rfl⟩:=h1.yaT
 exact ⟨⟨n0,n1⟩,rfl⟩
theorem yAu {xs : List C} (h : Fits [.i,.i,.i,.i,.i,.i] xs) : ∃ e : Boat,xs = e.enc:=by
 obtain ⟨c0,ys,rfl,h0,h⟩:=h.cons_inv
 obtain ⟨c1,ys,rfl,h1,h⟩:=h.cons_inv
 obtain ⟨c2,ys,rfl,h2,h⟩:=h.cons_inv
 obtain ⟨c3,ys,rfl,h3,h⟩:=h.cons_inv
 obtain ⟨c4,ys,rfl,h4,h⟩:=h.cons_inv
 obtain ⟨c5,ys,rfl,h5,h⟩:=h.cons_inv
 obtain rfl:=h.ycx
 obtain ⟨n0,rfl⟩:=h0.yaT
 obtain ⟨n1,rfl⟩:=h1.yaT
 obtain ⟨n2,rfl⟩:=h2.yaT
 obtain ⟨n3,rfl⟩:=h3.yaT
 obtain ⟨n4,rfl⟩:=h4.yaT
 obtain ⟨n5,rfl⟩:=h5.yaT
 exact ⟨⟨n0,n1,n2,n3,n4,n5⟩,rfl⟩
theorem yjF {xs : List C} (h : Fits [.sl [.i,.i,.i,.i,.i,.i]] xs) : ∃ e : List Boat,xs = yai e:=by
 obtain ⟨c0,ys,rfl,h0,h⟩:=h.cons_inv
 obtain rfl:=h.ycx
 obtain ⟨n0,rfl⟩:=h0.ycq Boat.enc fun _ h=>yAu h
 exact ⟨n0,rfl⟩
theorem yrO {xs : List C} (h : Fits [.b,.sl [.sl [.i,.i,.i,.i,.i,.i]]] xs) : ∃ e : Train,xs = e.enc:=by
 obtain ⟨c0,ys,rfl,h0,h⟩:=h.cons_inv
 obtain ⟨c1,ys,rfl,h1,h⟩:=h.cons_inv
 obtain rfl:=h.ycx
 obtain ⟨n0,rfl⟩:=h0.yuo
 obtain ⟨n1,rfl⟩:=h1.ycq yai fun _ h=>yjF h
 exact ⟨⟨n0,n1⟩,rfl⟩
theorem yyj {xs : List C} (h : Fits [.b,.sl [.sl [.i,.i,.i,.i,.i,.i]],.i] xs) : ∃ e : Mover,xs = e.enc:=by
 obtain ⟨c0,ys,rfl,h0,h⟩:=h.cons_inv
 obtain ⟨c1,ys,rfl,h1,h⟩:=h.cons_inv
 obtain ⟨c2,ys,rfl,h2,h⟩:=h.cons_inv
 obtain rfl:=h.ycx
 obtain ⟨n0,rfl⟩:=h0.yuo
 obtain ⟨n1,rfl⟩:=h1.ycq yai fun _ h=>yjF h
 obtain ⟨n2,rfl⟩:=h2.yaT
 exact ⟨⟨⟨n0,n1⟩,n2⟩,rfl⟩
theorem yxJ {xs : List C} (h : Fits [.i,.i] xs) : ∃ e : Point,xs = e.enc:=by
 obtain ⟨c0,ys,rfl,h0,h⟩:=h.cons_inv
 obtain ⟨c1,ys,rfl,h1,h⟩:=h.cons_inv
 obtain rfl:=h.ycx
 obtain ⟨n0,rfl⟩:=h0.yaT
 obtain ⟨n1,rfl⟩:=h1.yaT
 exact ⟨⟨n0,n1⟩,rfl⟩
theorem yxz {xs : List C} (h : Fits [.sl [.i,.i],.i,.sl [.i]] xs) : ∃ e : Reach,xs = e.enc:=by
 obtain ⟨c0,ys,rfl,h0,h⟩:=h.cons_inv
 obtain ⟨c1,ys,rfl,h1,h⟩:=h.cons_inv
 obtain ⟨c2,ys,rfl,h2,h⟩:=h.cons_inv
 obtain rfl:=h.ycx
 obtain ⟨n0,rfl⟩:=h0.ycq Point.enc fun _ h=>yxJ h
 obtain ⟨n1,rfl⟩:=h1.yaT
 obtain ⟨n2,rfl⟩:=h2.ycq yJ fun _ h=>ykL h
 exact ⟨⟨n0,n1,n2⟩,rfl⟩
theorem yxt {xs : List C} (h : Fits [.i,.i] xs) : ∃ e : Pause,xs = e.enc:=by
 obtain ⟨c0,ys,rfl,h0,h⟩:=h.cons_inv
 obtain ⟨c1,ys,rfl,h1,h⟩:=h.cons_inv
 obtain rfl:=h.ycx
 obtain ⟨n0,rfl⟩:=h0.yaT
 obtain ⟨n1,rfl⟩:=h1.yaT
 exact ⟨⟨n0,n1⟩,rfl⟩
theorem yz8 {xs : List C} (h : Fits [.b,.sl [.sl [.i,.i,.i,.i,.i,.i]],.i,.i] xs) : ∃ e : CallT,xs = e.enc:=by
 obtain ⟨c0,ys,rfl,h0,h⟩:=h.cons_inv
 obtain ⟨c1,ys,rfl,h1,h⟩:=h.cons_inv
 obtain ⟨c2,ys,rfl,h2,h⟩:=h.cons_inv
 obtain ⟨c3,ys,rfl,h3,h⟩:=h.cons_inv
 obtain rfl:=h.ycx
 obtain ⟨n0,rfl⟩:=h0.yuo
 obtain ⟨n1,rfl⟩:=h1.ycq yai fun _ h=>yjF h
 obtain ⟨n2,rfl⟩:=h2.yaT
 obtain ⟨n3,rfl⟩:=h3.yaT
 exact ⟨⟨⟨n0,n1⟩,n2,n3⟩,rfl⟩
theorem yy3 {xs : List C} (h : Fits [.i,.i,.i,.i,.i,.i,.i,.i,.i,.sl [.b,.sl [.sl [.i,.i,.i,.i,.i,.i]]],.i,.i,.i,.i,.i,.i,.i,.i,.sl [.i,.i],.b,.i,.sl [.b,.sl [.sl [.i,.i,.i,.i,.i,.i]],.i,.i]] xs) : ∃ e : Work,xs = e.enc:=by
 obtain ⟨c0,ys,rfl,h0,h⟩:=h.cons_inv
 obtain ⟨c1,ys,rfl,h1,h⟩:=h.cons_inv
 obtain ⟨c2,ys,rfl,h2,h⟩:=h.cons_inv
 obtain ⟨c3,ys,rfl,h3,h⟩:=h.cons_inv
 obtain ⟨c4,ys,rfl,h4,h⟩:=h.cons_inv
 obtain ⟨c5,ys,rfl,h5,h⟩:=h.cons_inv
 obtain ⟨c6,ys,rfl,h6,h⟩:=h.cons_inv
 obtain ⟨c7,ys,rfl,h7,h⟩:=h.cons_inv
 obtain ⟨c8,ys,rfl,h8,h⟩:=h.cons_inv
 obtain ⟨c9,ys,rfl,h9,h⟩:=h.cons_inv
 obtain ⟨c10,ys,rfl,h10,h⟩:=h.cons_inv
 obtain ⟨c11,ys,rfl,h11,h⟩:=h.cons_inv
 obtain ⟨c12,ys,rfl,h12,h⟩:=h.cons_inv
 obtain ⟨c13,ys,rfl,h13,h⟩:=h.cons_inv
 obtain ⟨c14,ys,rfl,h14,h⟩:=h.cons_inv
 obtain ⟨c15,ys,rfl,h15,h⟩:=h.cons_inv
 obtain ⟨c16,ys,rfl,h16,h⟩:=h.cons_inv
 obtain ⟨c17,ys,rfl,h17,h⟩:=h.cons_inv
 obtain ⟨c18,ys,rfl,h18,h⟩:=h.cons_inv
 obtain ⟨c19,ys,rfl,h19,h⟩:=h.cons_inv
 obtain ⟨c20,ys,rfl,h20,h⟩:=h.cons_inv
 obtain ⟨c21,ys,rfl,h21,h⟩:=h.cons_inv
 obtain rfl:=h.ycx
 obtain ⟨n0,rfl⟩:=h0.yaT
 obtain ⟨n1,rfl⟩:=h1.yaT
 obtain ⟨n2,rfl⟩:=h2.yaT
 obtain ⟨n3,rfl⟩:=h3.yaT
 obtain ⟨n4,rfl⟩:=h4.yaT
 obtain ⟨n5,rfl⟩:=h5.yaT
 obtain ⟨n6,rfl⟩:=h6.yaT
 obtain ⟨n7,rfl⟩:=h7.yaT
 obtain ⟨n8,rfl⟩:=h8.yaT
 obtain ⟨n9,rfl⟩:=h9.ycq Train.enc fun _ h=>yrO h
 obtain ⟨n10,rfl⟩:=h10.yaT
 obtain ⟨n11,rfl⟩:=h11.yaT
 obtain ⟨n12,rfl⟩:=h12.yaT
 obtain ⟨n13,rfl⟩:=h13.yaT
 obtain ⟨n14,rfl⟩:=h14.yaT
 obtain ⟨n15,rfl⟩:=h15.yaT
 obtain ⟨n16,rfl⟩:=h16.yaT
 obtain ⟨n17,rfl⟩:=h17.yaT
 obtain ⟨n18,rfl⟩:=h18.ycq Pause.enc fun _ h=>yxt h
 obtain ⟨n19,rfl⟩:=h19.yuo
 obtain ⟨n20,rfl⟩:=h20.yaT
 obtain ⟨n21,rfl⟩:=h21.ycq CallT.enc fun _ h=>yz8 h
 exact ⟨⟨⟨n0,n1,n2,n3,n4,n5,n6,n7,n8,n9⟩,⟨n10,n11,n12,n13,n14⟩,⟨n15,n16,n17⟩,n18,⟨n19,n20⟩,n21⟩,rfl⟩
theorem ywg {xs : List C} (h : Fits [.sl [.b,.sl [.sl [.i,.i,.i,.i,.i,.i]],.i]] xs) : ∃ e : List Mover,xs = yZ e:=by
 obtain ⟨c0,ys,rfl,h0,h⟩:=h.cons_inv
 obtain rfl:=h.ycx
 obtain ⟨n0,rfl⟩:=h0.ycq Mover.enc fun _ h=>yyj h
 exact ⟨n0,rfl⟩
theorem yuj {xs : List C} (h : Fits [.i,.i,.b,.sl [.sl [.i,.i,.i,.i,.i,.i]]] xs) : ∃ e : Passing,xs = e.enc:=by
 obtain ⟨c0,ys,rfl,h0,h⟩:=h.cons_inv
 obtain ⟨c1,ys,rfl,h1,h⟩:=h.cons_inv
 obtain ⟨c2,ys,rfl,h2,h⟩:=h.cons_inv
 obtain ⟨c3,ys,rfl,h3,h⟩:=h.cons_inv
 obtain rfl:=h.ycx
 obtain ⟨n0,rfl⟩:=h0.yaT
 obtain ⟨n1,rfl⟩:=h1.yaT
 obtain ⟨n2,rfl⟩:=h2.yuo
 obtain ⟨n3,rfl⟩:=h3.ycq yai fun _ h=>yjF h
 exact ⟨⟨n0,n1,⟨n2,n3⟩⟩,rfl⟩
theorem ysY {xs : List C} (h : Fits [.i,.sl [.sl [.i,.i],.i,.sl [.i]],.sl [.i,.i],.sl [.i,.i,.i,.i,.i,.i,.i,.i,.i,.sl [.b,.sl [.sl [.i,.i,.i,.i,.i,.i]]],.i,.i,.i,.i,.i,.i,.i,.i,.sl [.i,.i],.b,.i,.sl [.b,.sl [.sl [.i,.i,.i,.i,.i,.i]],.i,.i]],.sl [.sl [.b,.sl [.sl [.i,.i,.i,.i,.i,.i]],.i]],.sl [.b,.sl [.sl [.i,.i,.i,.i,.i,.i]]],.sl [.i],.i,.i,.sl [.i],.sl [.i],.sl [.i,.i,.i,.i,.i],.sl [.i,.i,.b,.sl [.sl [.i,.i,.i,.i,.i,.i]]],.i,.i,.i] xs) : ∃ e : Waterway,xs = e.enc:=by
 obtain ⟨c0,ys,rfl,h0,h⟩:=h.cons_inv
 obtain ⟨c1,ys,rfl,h1,h⟩:=h.cons_inv
 obtain ⟨c2,ys,rfl,h2,h⟩:=h.cons_inv
 obtain ⟨c3,ys,rfl,h3,h⟩:=h.cons_inv
 obtain ⟨c4,ys,rfl,h4,h⟩:=h.cons_inv
 obtain ⟨c5,ys,rfl,h5,h⟩:=h.cons_inv
 obtain ⟨c6,ys,rfl,h6,h⟩:=h.cons_inv
 obtain ⟨c7,ys,rfl,h7,h⟩:=h.cons_inv
 obtain ⟨c8,ys,rfl,h8,h⟩:=h.cons_inv
 obtain ⟨c9,ys,rfl,h9,h⟩:=h.cons_inv
 obtain ⟨c10,ys,rfl,h10,h⟩:=h.cons_inv
 obtain ⟨c11,ys,rfl,h11,h⟩:=h.cons_inv
 obtain ⟨c12,ys,rfl,h12,h⟩:=h.cons_inv
 obtain ⟨c13,ys,rfl,h13,h⟩:=h.cons_inv
 obtain ⟨c14,ys,rfl,h14,h⟩:=h.cons_inv
 obtain ⟨c15,ys,rfl,h15,h⟩:=h.cons_inv
 obtain rfl:=h.ycx
 obtain ⟨n0,rfl⟩:=h0.yaT
 obtain ⟨n1,rfl⟩:=h1.ycq Reach.enc fun _ h=>yxz h
 obtain ⟨n2,rfl⟩:=h2.ycq Way.enc fun _ h=>yBG h
 obtain ⟨n3,rfl⟩:=h3.ycq Work.enc fun _ h=>yy3 h
 obtain ⟨n4,rfl⟩:=h4.ycq yZ fun _ h=>ywg h
 obtain ⟨n5,rfl⟩:=h5.ycq Train.enc fun _ h=>yrO h
 obtain ⟨n6,rfl⟩:=h6.ycq yJ fun _ h=>ykL h
 obtain ⟨n7,rfl⟩:=h7.yaT
 obtain ⟨n8,rfl⟩:=h8.yaT
 obtain ⟨n9,rfl⟩:=h9.ycq yJ fun _ h=>ykL h
 obtain ⟨n10,rfl⟩:=h10.ycq yJ fun _ h=>ykL h
 obtain ⟨n11,rfl⟩:=h11.ycq Entry.enc fun _ h=>yye h
 obtain ⟨n12,rfl⟩:=h12.ycq Passing.enc fun _ h=>yuj h
 obtain ⟨n13,rfl⟩:=h13.yaT
 obtain ⟨n14,rfl⟩:=h14.yaT
 obtain ⟨n15,rfl⟩:=h15.yaT
 exact ⟨⟨n0,n1,n2,n3,n4,n5,n6,⟨n7,n8,n9,n10⟩,n11,n12,n13,n14,n15⟩,rfl⟩
theorem ySK : IsLaw Rows.fnExactTollsTrueSpec Tryz.f3.params.size:=by
 refine ⟨rfl,fun H ds h=>?_⟩
 match ds,h with
 | [d0],_=>rfl
theorem ySu : LawFacts Tryz.prog Tryz.f3 (Tryz.f3.resultTypes.getD 0 0) [(true,[.i,.sl [.sl [.i,.i],.i,.sl [.i]],.sl [.i,.i],.sl [.i,.i,.i,.i,.i,.i,.i,.i,.i,.sl [.b,.sl [.sl [.i,.i,.i,.i,.i,.i]]],.i,.i,.i,.i,.i,.i,.i,.i,.sl [.i,.i],.b,.i,.sl [.b,.sl [.sl [.i,.i,.i,.i,.i,.i]],.i,.i]],.sl [.sl [.b,.sl [.sl [.i,.i,.i,.i,.i,.i]],.i]],.sl [.b,.sl [.sl [.i,.i,.i,.i,.i,.i]]],.sl [.i],.i,.i,.sl [.i],.sl [.i],.sl [.i,.i,.i,.i,.i],.sl [.i,.i,.b,.sl [.sl [.i,.i,.i,.i,.i,.i]]],.i,.i,.i])] :=
 ⟨yrS,by kernel_rfl,by kernel_rfl,by kernel_rfl,by kernel_rfl⟩
set_option maxRecDepth 100000 in
theorem ySF (os : Os) (started : os.Started) (H : Type) (enc : TypeId × Value → H) :
 ReturnsInHanded {} Tryz.checked os 3 .any (Rows.fnExactTollsTrueSpec.pre6 enc Tryz.prog Tryz.f3 Rows.fnExactTollsTrueRow.domain false) (Rows.fnExactTollsTrueSpec.post enc Tryz.prog Tryz.f3 false true false false):=by
 refine law_lifted (C:=Tryz.checked) yt1 started (by kernel_rfl) Tryz.func3
  (ChangeSpec.witness6 (enc:=enc) (C:=Tryz.checked) false ⟨#[],#[.agg #[.int .i64 0,.slice none 0 0,.slice none 0 0,.slice none 0 0,.slice none 0 0,.slice none 0 0,.slice none 0 0,.int .i64 0,.int .i64 0,.slice none 0 0,.slice none 0 0,.slice none 0 0,.slice none 0 0,.int .i64 0,.int .i64 0,.int .i64 0]],[]⟩ 8 (by kernel_rfl) (by kernel_rfl) (by kernel_rfl) (by kernel_rfl)) ySK ySu ?_
 rintro avs ⟨a,avs0,rfl,ha,rfl⟩
 cases ha with
 | st h0 =>
  obtain ⟨x0,rfl⟩:=ysY h0
  exact yS3 x0
theorem ySL : ypf Tryz.prog 3 Tryz.f3 Rows.fnExactTollsTrueSpec Rows.fnExactTollsTrueRow = true:=by kernel_rfl
theorem ySO : Tryz.pinned.checked.prog.funcNamed Rows.fnExactTollsTrueRow.func = some 3:=by kernel_rfl
theorem ySS : Tryz.f3.isInstance Tryz.pinned.checked.prog Rows.fnExactTollsTrueRow.origin Rows.fnExactTollsTrueRow.targs:=(of_decide_eq_true (by kernel_rfl))
theorem ySR : Tryz.f3.isWrapper Tryz.pinned.checked.prog Rows.fnExactTollsTrueRow.wrapper Rows.fnExactTollsTrueRow.mainSum:=by
 unfold Func.isWrapper; first | (rw [if_pos (by decide +kernel)]; kernel_rfl) | (rw [if_neg (by decide +kernel)]; exact ⟨rfl,rfl⟩)
theorem FnExactTollsTrue_holds : Rows.FnExactTollsTrueSaid :=
 OpenClaim.holds_of_wide (p:=Tryz.pinned) (s:=Rows.fnExactTollsTrueSpec) (c:=Rows.fnExactTollsTrueRow) 3 Tryz.f3 rfl rfl rfl rfl rfl rfl rfl ⟨rfl,rfl,rfl,rfl,rfl⟩ rfl rfl rfl rfl rfl ySO Tryz.func3
  (yyi yxx ySL ⟨rfl,rfl,rfl,rfl,rfl,rfl,rfl,rfl⟩) ySS ySR (fun os started H enc _=>ySF os started H enc)
end Go.Proofs.YtjojilkdkgmbgaaGreat
