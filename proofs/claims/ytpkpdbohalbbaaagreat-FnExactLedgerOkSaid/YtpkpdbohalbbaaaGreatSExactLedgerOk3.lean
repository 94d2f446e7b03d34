/- What the law FnExactLedgerOk stands on: contracts of functions, what each answers as plain Lean, in short form (names, layout). -/
import Derived.Test.YtpkpdbohalbbaaaGreatSExactLedgerOk2
set_option linter.all false
namespace Go.Proofs.YtpkpdbohalbbaaaGreat
open Go.RowKit
theorem ym0 (xs : List Train) (l : Int) (h0 : 0 ≤ l) (h1 : l ≤ 1048576) : yB Tryz.prog 16 [.c (.sl 2 (xs.map Train.enc)),.c (.i l)] (.c (.i (ydk xs l))):=by
 refine yh ynN ?_
 simp -dsimp -implicitDefEqProofs
 intro hl
 have hs : szS xs.length l = if l - xs.length < 0 then -1 else l - xs.length:=rfl
 refine ⟨by unfold maxLen at hl; unfold inI; omega,fun h=>?_,fun h=>?_⟩
 ·simp [ydk,yeE,ybm,hs,h]
 have h' : 0 ≤ l - xs.length:=by omega
 have e0 : ydk xs l = yaw yb2 xs (l - xs.length):=by
  have : szS xs.length l = l - xs.length:=by rw [hs,if_neg (by omega)]
  simp only [ydk,yeE]
  rw [this,yu h']
 refine yg (ι:=Nat × Int) (fun p=>p.1 ≤ xs.length ∧ 0 ≤ p.2 ∧ p.2 ≤ 1048576 ∧ yaw yb2 (xs.drop p.1) p.2 = ydk xs l) (fun p=>yO [(0,.c (.sl 2 (xs.map Train.enc))),(1,.c (.i p.2)),(5,.c (.i p.1))] []) (fun p=>xs.length - p.1) (0,l - xs.length) ⟨by simp,h',by simp only; omega,by simp [e0]⟩ (by apply yj <;> simp) ?_
 rintro ⟨k,q⟩ ⟨hk,hq0,hq1,hf⟩
 simp only at hk hq0 hq1 hf
 rcases Nat.lt_or_ge k xs.length with hlt | hge
 ·obtain ⟨e,he⟩ : ∃ e,xs[k]? = some e:=⟨_,List.getElem?_eq_getElem hlt⟩
  have hd : xs.drop k = e :: xs.drop (k + 1):=by
   rw [List.drop_eq_getElem_cons hlt,(List.getElem?_eq_some_iff.1 he).2]
  rw [hd,yaw] at hf
  simp -dsimp -implicitDefEqProofs [he,yG hlt]
  refine fun _=>yaQ (yhF e q hq0 hq1) (by simp) rfl ?_
  simp -dsimp -implicitDefEqProofs
  refine ⟨fun h=>by rw [← hf,yK h],fun h=>⟨yw hlt hl,k + 1,⟨yb2 e q,?_⟩⟩⟩
  rw [yu h] at hf
  have hle : yb2 e q ≤ 1048576:=by
   rcases ye7 e q hq0 hq1 with e1 | e1
   ·omega
   ·omega
  exact ⟨⟨hlt,h,hle,hf⟩,by omega,by apply yj <;> simp⟩
 ·simp -dsimp -implicitDefEqProofs [yaB hge]
  rw [List.drop_of_length_le hge] at hf
  intro _
  first | simpa [yaw] using hf | simpa [yaw] using hf.symm
theorem ypD (xs : List Train) (hl : ybV xs) : yB Tryz.prog 27 [.c (.sl 2 (xs.map Train.enc))] (.c (.sl 2 (xs.map Train.enc))):=by
 refine yh yij ?_
 simp -dsimp -implicitDefEqProofs
 intro hlen
 have hl1:=hl.1
 refine ⟨by omega,?_⟩
 refine yg (ι:=Nat) (fun k=>k ≤ xs.length) (fun k=>yO [(0,.c (.sl 2 (xs.map Train.enc))),(3,.own 7 2 xs.length),(4,.c (.i k))] [(7,.row 2 (partly Train.enc [.b false,.sl 1 []] xs k))]) (fun k=>xs.length - k) 0 (by simp) (by apply yj <;> simp [yab]) ?_
 rintro k hk
 rcases Nat.lt_or_ge k xs.length with hlt | hge
 ·obtain ⟨e,he⟩ : ∃ e,xs[k]? = some e:=⟨_,List.getElem?_eq_getElem hlt⟩
  have hs:=yaj (f:=Train.enc) (z:=[.b false,.sl 1 []]) he
  have hd:=yav (f:=Train.enc) (z:=[.b false,.sl 1 []]) (n:=2) rfl hlt
  simp only [Train.enc] at hs
  simp -dsimp -implicitDefEqProofs [he,yG hlt]
  refine fun _=>yaP (yjt e (hl.2 e (List.mem_of_getElem? he))) (by simp) rfl ?_
  simp -dsimp -implicitDefEqProofs [yG hlt,yak hk,hd,hs]
  exact ⟨hlt,yw hlt hlen,k + 1,hlt,by omega,by apply yj <;> simp⟩
 ·simp -dsimp -implicitDefEqProofs [yaB hge]
  intro _
  rw [yam hge,List.take_of_length_le (by simp)]
theorem ypz (es fs : List Train) : yB Tryz.prog 37 [.c (.sl 2 (es.map Train.enc)),.c (.sl 2 (fs.map Train.enc))] (.c (.b (decide (es = fs)))):=by
 refine yh ynC ?_
 simp -dsimp -implicitDefEqProofs
 intro hl1 hl2
 refine ⟨fun h e=>h (by rw [e]),fun hlen=>?_⟩
 have hlen' : es.length = fs.length:=by omega
 refine yg (ι:=Nat) (fun k=>k ≤ es.length ∧ es.take k = fs.take k) (fun k=>yO [(0,.c (.sl 2 (es.map Train.enc))),(1,.c (.sl 2 (fs.map Train.enc))),(5,.c (.i k))] []) (fun k=>es.length - k) 0 (by simp) (by apply yj <;> simp) ?_
 rintro k ⟨hk,htk⟩
 rcases Nat.lt_or_ge k es.length with hlt | hge
 ·obtain ⟨e,he⟩ : ∃ e,es[k]? = some e:=⟨_,List.getElem?_eq_getElem hlt⟩
  obtain ⟨f,hf⟩ : ∃ f,fs[k]? = some f:=⟨_,List.getElem?_eq_getElem (by omega)⟩
  simp -dsimp -implicitDefEqProofs [he,hf,yG hlt,yG (hlen' ▸ hlt)]
  intro _
  refine yaC (yjG e f) ?_
  simp -dsimp -implicitDefEqProofs
  refine ⟨fun h=>ybG he hf h,fun h=>⟨yw hlt hl1,k + 1,⟨hlt,yaR he hf htk h⟩,by omega,by apply yj <;> simp⟩⟩
 ·simp -dsimp -implicitDefEqProofs [yaB hge]
  intro _
  exact ybf hge hlen' htk
structure Lock where
 Length : Int
 Width : Int
 SillAbove : Int
 SillBelow : Int
 Base : Int
 Area : Int
 Rate : Int
 Water : Int
 Gate : Int
 Inside : List Train
 deriving DecidableEq,Inhabited
@[simp] def Lock.enc (e : Lock) : List C:=[.i e.Length,.i e.Width,.i e.SillAbove,.i e.SillBelow,.i e.Base,.i e.Area,.i e.Rate,.i e.Water,.i e.Gate,.sl 2 (e.Inside.map Train.enc)]
-- Lock
def ygm (e : Lock) (l : Int) : Int:=ybm (ydk e.Inside l) fun l=>l
def Lock.small (e : Lock) : Prop:=ybV e.Inside
theorem yoa : yey ygm Lock.small:=by
 intro e l h0 h1
 unfold ygm
 rcases yhu e.Inside _ h0 h1 with e0 | ⟨a0,b0,s0⟩
 ·exact .inl (yK (by omega))
 rw [yu a0]
 exact .inr ⟨a0,by omega,s0⟩
theorem yxv (e : Lock) (l : Int) (h0 : 0 ≤ l) (h1 : l ≤ 1048576) : yB Tryz.prog 88 [.agg (e.enc.map .c),.c (.i l)] (.c (.i (ygm e l))):=by
 refine yh yqV ?_
 simp -dsimp -implicitDefEqProofs
 refine yc (ym0 e.Inside _ h0 h1) ?_
 simp -dsimp -implicitDefEqProofs
 refine ⟨fun h=>by simp [ygm,yK h],fun p0=>?_⟩
 simp [ygm,yu p0]
theorem yAz (e : Lock) (hl : Lock.small e) : yB Tryz.prog 96 [.agg (e.enc.map .c)] (.agg (e.enc.map .c)):=by
 refine yh ykg ?_
 simp -dsimp -implicitDefEqProofs
 refine yS (ypD e.Inside hl) ?_
 simp -dsimp -implicitDefEqProofs
theorem yy8 (a b : Lock) : yB Tryz.prog 106 [.agg (a.enc.map .c),.agg (b.enc.map .c)] (.c (.b (decide (a = b)))):=by
 refine yh yq4 ?_
 obtain ⟨a0,a1,a2,a3,a4,a5,a6,a7,a8,a9⟩:=a
 obtain ⟨b0,b1,b2,b3,b4,b5,b6,b7,b8,b9⟩:=b
 simp -dsimp -implicitDefEqProofs [ykf,Lock.mk.injEq]
 refine ⟨fun h=>by simp_all,fun h0=>?_⟩
 refine ⟨fun h=>by simp_all,fun h1=>?_⟩
 refine ⟨fun h=>by simp_all,fun h2=>?_⟩
 refine ⟨fun h=>by simp_all,fun h3=>?_⟩
 refine ⟨fun h=>by simp_all,fun h4=>?_⟩
 refine ⟨fun h=>by simp_all,fun h5=>?_⟩
 refine ⟨fun h=>by simp_all,fun h6=>?_⟩
 refine ⟨fun h=>by simp_all,fun h7=>?_⟩
 refine ⟨fun h=>by simp_all,fun h8=>?_⟩
 refine yc (ypz a9 b9) ?_
 simp -dsimp -implicitDefEqProofs
 refine ⟨fun h=>by simp_all,fun h9=>?_⟩
 simp_all
structure Weir where
 Gates : Int
 Open : Int
 Step : Int
 Crest : Int
 Width : Int
 deriving DecidableEq,Inhabited
@[simp] def Weir.enc (e : Weir) : List C:=[.i e.Gates,.i e.Open,.i e.Step,.i e.Crest,.i e.Width]
-- Weir
theorem yuN (e : Weir) : yB Tryz.prog 97 [.agg (e.enc.map .c)] (.agg (e.enc.map .c)):=by
 refine yh yq2 ?_
 simp -dsimp -implicitDefEqProofs
theorem yAt (a b : Weir) : yB Tryz.prog 107 [.agg (a.enc.map .c),.agg (b.enc.map .c)] (.c (.b (decide (a = b)))):=by
 refine yh yqK ?_
 obtain ⟨a0,a1,a2,a3,a4⟩:=a
 obtain ⟨b0,b1,b2,b3,b4⟩:=b
 simp -dsimp -implicitDefEqProofs [ykd,Weir.mk.injEq]
 refine ⟨fun h=>by simp_all,fun h0=>?_⟩
 refine ⟨fun h=>by simp_all,fun h1=>?_⟩
 refine ⟨fun h=>by simp_all,fun h2=>?_⟩
 refine ⟨fun h=>by simp_all,fun h3=>?_⟩
 refine ⟨fun h=>by simp_all,fun h4=>?_⟩
 simp_all
structure Rule where
 Low : Int
 High : Int
 Flood : Int
 deriving DecidableEq,Inhabited
@[simp] def Rule.enc (e : Rule) : List C:=[.i e.Low,.i e.High,.i e.Flood]
-- Rule
theorem yvb (e : Rule) : yB Tryz.prog 98 [.agg (e.enc.map .c)] (.agg (e.enc.map .c)):=by
 refine yh yqZ ?_
 simp -dsimp -implicitDefEqProofs
theorem yy7 (a b : Rule) : yB Tryz.prog 108 [.agg (a.enc.map .c),.agg (b.enc.map .c)] (.c (.b (decide (a = b)))):=by
 refine yh yqs ?_
 obtain ⟨a0,a1,a2⟩:=a
 obtain ⟨b0,b1,b2⟩:=b
 simp -dsimp -implicitDefEqProofs [yjW,Rule.mk.injEq]
 refine ⟨fun h=>by simp_all,fun h0=>?_⟩
 refine ⟨fun h=>by simp_all,fun h1=>?_⟩
 refine ⟨fun h=>by simp_all,fun h2=>?_⟩
 simp_all
structure Pause where
 From : Int
 Until : Int
 deriving DecidableEq,Inhabited
@[simp] def Pause.enc (e : Pause) : List C:=[.i e.From,.i e.Until]
-- Pause
theorem yr1 (e : Pause) : yB Tryz.prog 138 [.agg (e.enc.map .c)] (.agg (e.enc.map .c)):=by
 refine yh yqk ?_
 simp -dsimp -implicitDefEqProofs
theorem yx9 (a b : Pause) : yB Tryz.prog 142 [.agg (a.enc.map .c),.agg (b.enc.map .c)] (.c (.b (decide (a = b)))):=by
 refine yh ypk ?_
 obtain ⟨a0,a1⟩:=a
 obtain ⟨b0,b1⟩:=b
 simp -dsimp -implicitDefEqProofs [yiD,Pause.mk.injEq]
 refine ⟨fun h=>by simp_all,fun h0=>?_⟩
 refine ⟨fun h=>by simp_all,fun h1=>?_⟩
 simp_all
-- []Pause
def yhi (xs : List Pause) (l : Int) : Int:=szS xs.length l
def yfI : List Pause → Prop:=ycs fun _=>True
theorem ykI : yey yhi yfI:=yhU
theorem yt6 (xs : List Pause) (l : Int) (h0 : 0 ≤ l) (h1 : l ≤ 1048576) : yB Tryz.prog 89 [.c (.sl 2 (xs.map Pause.enc)),.c (.i l)] (.c (.i (yhi xs l))):=by
 refine yh ynK ?_
 simp -dsimp -implicitDefEqProofs [yir,yhi,szS]
 intro hl
 unfold maxLen at hl
 refine ⟨by unfold inI; omega,fun h=>?_,fun h=>?_⟩ <;> intros <;> omega
theorem ywj (xs : List Pause) (hl : yfI xs) : yB Tryz.prog 99 [.c (.sl 2 (xs.map Pause.enc))] (.c (.sl 2 (xs.map Pause.enc))):=by
 refine yh yis ?_
 simp -dsimp -implicitDefEqProofs
 intro hlen
 have hl1:=hl.1
 refine ⟨by omega,?_⟩
 refine yg (ι:=Nat) (fun k=>k ≤ xs.length) (fun k=>yO [(0,.c (.sl 2 (xs.map Pause.enc))),(3,.own 7 2 xs.length),(4,.c (.i k))] [(7,.row 2 (partly Pause.enc [.i 0,.i 0] xs k))]) (fun k=>xs.length - k) 0 (by simp) (by apply yj <;> simp [yab]) ?_
 rintro k hk
 rcases Nat.lt_or_ge k xs.length with hlt | hge
 ·obtain ⟨e,he⟩ : ∃ e,xs[k]? = some e:=⟨_,List.getElem?_eq_getElem hlt⟩
  have hs:=yaj (f:=Pause.enc) (z:=[.i 0,.i 0]) he
  have hd:=yav (f:=Pause.enc) (z:=[.i 0,.i 0]) (n:=2) rfl hlt
  simp only [Pause.enc] at hs
  simp -dsimp -implicitDefEqProofs [he,yG hlt]
  refine fun _=>yaP (yr1 e ) (by simp) rfl ?_
  simp -dsimp -implicitDefEqProofs [yG hlt,yak hk,hd,hs]
  exact ⟨hlt,yw hlt hlen,k + 1,hlt,by omega,by apply yj <;> simp⟩
 ·simp -dsimp -implicitDefEqProofs [yaB hge]
  intro _
  rw [yam hge,List.take_of_length_le (by simp)]
theorem yvs (es fs : List Pause) : yB Tryz.prog 109 [.c (.sl 2 (es.map Pause.enc)),.c (.sl 2 (fs.map Pause.enc))] (.c (.b (decide (es = fs)))):=by
 refine yh ynE ?_
 simp -dsimp -implicitDefEqProofs
 intro hl1 hl2
 refine ⟨fun h e=>h (by rw [e]),fun hlen=>?_⟩
 have hlen' : es.length = fs.length:=by omega
 refine yg (ι:=Nat) (fun k=>k ≤ es.length ∧ es.take k = fs.take k) (fun k=>yO [(0,.c (.sl 2 (es.map Pause.enc))),(1,.c (.sl 2 (fs.map Pause.enc))),(5,.c (.i k))] []) (fun k=>es.length - k) 0 (by simp) (by apply yj <;> simp) ?_
 rintro k ⟨hk,htk⟩
 rcases Nat.lt_or_ge k es.length with hlt | hge
 ·obtain ⟨e,he⟩ : ∃ e,es[k]? = some e:=⟨_,List.getElem?_eq_getElem hlt⟩
  obtain ⟨f,hf⟩ : ∃ f,fs[k]? = some f:=⟨_,List.getElem?_eq_getElem (by omega)⟩
  simp -dsimp -implicitDefEqProofs [he,hf,yG hlt,yG (hlen' ▸ hlt)]
  intro _
  refine yaC (yx9 e f) ?_
  simp -dsimp -implicitDefEqProofs
  refine ⟨fun h=>ybG he hf h,fun h=>⟨yw hlt hl1,k + 1,⟨hlt,yaR he hf htk h⟩,by omega,by apply yj <;> simp⟩⟩
 ·simp -dsimp -implicitDefEqProofs [yaB hge]
  intro _
  exact ybf hge hlen' htk
structure Turn where
 Up : Bool
 Count : Int
 deriving DecidableEq,Inhabited
@[simp] def Turn.enc (e : Turn) : List C:=[.b e.Up,.i e.Count]
-- Turn
theorem ytT (e : Turn) : yB Tryz.prog 100 [.agg (e.enc.map .c)] (.agg (e.enc.map .c)):=by
 refine yh yqv ?_
 simp -dsimp -implicitDefEqProofs
theorem yzT (a b : Turn) : yB Tryz.prog 110 [.agg (a.enc.map .c),.agg (b.enc.map .c)] (.c (.b (decide (a = b)))):=by
 refine yh yqu ?_
 obtain ⟨a0,a1⟩:=a
 obtain ⟨b0,b1⟩:=b
 simp -dsimp -implicitDefEqProofs [yj6,Turn.mk.injEq]
 refine ⟨fun h=>by simp_all,fun h0=>?_⟩
 refine ⟨fun h=>by simp_all,fun h1=>?_⟩
 simp_all
structure CallT where
 Train : Train
 Since : Int
 Booked : Int
 deriving DecidableEq,Inhabited
@[simp] def CallT.enc (e : CallT) : List C:=[.b e.Train.Up,.sl 1 (e.Train.Rows.map yai),.i e.Since,.i e.Booked]
-- Call
def ydJ (e : CallT) (l : Int) : Int:=ybm (yb2 e.Train l) fun l=>l
def CallT.small (e : CallT) : Prop:=e.Train.small
theorem yn9 : yey ydJ CallT.small:=by
 intro e l h0 h1
 unfold ydJ
 rcases ye7 e.Train _ h0 h1 with e0 | ⟨a0,b0,s0⟩
 ·exact .inl (yK (by omega))
 rw [yu a0]
 exact .inr ⟨a0,by omega,s0⟩
theorem yyC (e : CallT) (l : Int) (h0 : 0 ≤ l) (h1 : l ≤ 1048576) : yB Tryz.prog 134 [.agg (e.enc.map .c),.c (.i l)] (.c (.i (ydJ e l))):=by
 refine yh yrq ?_
 simp -dsimp -implicitDefEqProofs
 refine yc (yhF e.Train _ h0 h1) ?_
 simp -dsimp -implicitDefEqProofs
 refine ⟨fun h=>by simp [ydJ,yK h],fun p0=>?_⟩
 simp [ydJ,yu p0]
theorem yzv (e : CallT) (hl : CallT.small e) : yB Tryz.prog 139 [.agg (e.enc.map .c)] (.agg (e.enc.map .c)):=by
 refine yh yjU ?_
 simp -dsimp -implicitDefEqProofs
 refine yS (yjt e.Train hl) ?_
 simp -dsimp -implicitDefEqProofs
theorem yzt (a b : CallT) : yB Tryz.prog 143 [.agg (a.enc.map .c),.agg (b.enc.map .c)] (.c (.b (decide (a = b)))):=by
 refine yh yri ?_
 obtain ⟨a0,a1,a2⟩:=a
 obtain ⟨b0,b1,b2⟩:=b
 simp -dsimp -implicitDefEqProofs [ykh,CallT.mk.injEq]
 refine yc (yjG a0 b0) ?_
 simp -dsimp -implicitDefEqProofs
 refine ⟨fun h=>by simp_all,fun h0=>?_⟩
 refine ⟨fun h=>by simp_all,fun h1=>?_⟩
 refine ⟨fun h=>by simp_all,fun h2=>?_⟩
 simp_all
-- []Call
def yfd : List CallT → Int → Int:=yeE ydJ
def yfi : List CallT → Prop:=ycs CallT.small
theorem yu4 : yey yfd yfi:=ygj yn9
theorem yvO (xs : List CallT) (l : Int) (h0 : 0 ≤ l) (h1 : l ≤ 1048576) : yB Tryz.prog 90 [.c (.sl 4 (xs.map CallT.enc)),.c (.i l)] (.c (.i (yfd xs l))):=by
 refine yh ypT ?_
 simp -dsimp -implicitDefEqProofs
 intro hl
 have hs : szS xs.length l = if l - xs.length < 0 then -1 else l - xs.length:=rfl
 refine ⟨by unfold maxLen at hl; unfold inI; omega,fun h=>?_,fun h=>?_⟩
 ·simp [yfd,yeE,ybm,hs,h]
 have h' : 0 ≤ l - xs.length:=by omega
 have e0 : yfd xs l = yaw ydJ xs (l - xs.length):=by
  have : szS xs.length l = l - xs.length:=by rw [hs,if_neg (by omega)]
  simp only [yfd,yeE]
  rw [this,yu h']
 refine yg (ι:=Nat × Int) (fun p=>p.1 ≤ xs.length ∧ 0 ≤ p.2 ∧ p.2 ≤ 1048576 ∧ yaw ydJ (xs.drop p.1) p.2 = yfd xs l) (fun p=>yO [(0,.c (.sl 4 (xs.map CallT.enc))),(1,.c (.i p.2)),(5,.c (.i p.1))] []) (fun p=>xs.length - p.1) (0,l - xs.length) ⟨by simp,h',by simp only; omega,by simp [e0]⟩ (by apply yj <;> simp) ?_
 rintro ⟨k,q⟩ ⟨hk,hq0,hq1,hf⟩
 simp only at hk hq0 hq1 hf
 rcases Nat.lt_or_ge k xs.length with hlt | hge
 ·obtain ⟨e,he⟩ : ∃ e,xs[k]? = some e:=⟨_,List.getElem?_eq_getElem hlt⟩
  have hd : xs.drop k = e :: xs.drop (k + 1):=by
   rw [List.drop_eq_getElem_cons hlt,(List.getElem?_eq_some_iff.1 he).2]
  rw [hd,yaw] at hf
  simp -dsimp -implicitDefEqProofs [he,yG hlt]
  refine fun _=>yaQ (yyC e q hq0 hq1) (by simp) rfl ?_
  simp -dsimp -implicitDefEqProofs
  refine ⟨fun h=>by rw [← hf,yK h],fun h=>⟨yw hlt hl,k + 1,⟨ydJ e q,?_⟩⟩⟩
  rw [yu h] at hf
  have hle : ydJ e q ≤ 1048576:=by
   rcases yn9 e q hq0 hq1 with e1 | e1
   ·omega
   ·omega
  exact ⟨⟨hlt,h,hle,hf⟩,by omega,by apply yj <;> simp⟩
 ·simp -dsimp -implicitDefEqProofs [yaB hge]
  rw [List.drop_of_length_le hge] at hf
  intro _
  first | simpa [yaw] using hf | simpa [yaw] using hf.symm
theorem yxE (xs : List CallT) (hl : yfi xs) : yB Tryz.prog 101 [.c (.sl 4 (xs.map CallT.enc))] (.c (.sl 4 (xs.map CallT.enc))):=by
 refine yh yiL ?_
 simp -dsimp -implicitDefEqProofs
 intro hlen
 have hl1:=hl.1
 refine ⟨by omega,?_⟩
 refine yg (ι:=Nat) (fun k=>k ≤ xs.length) (fun k=>yO [(0,.c (.sl 4 (xs.map CallT.enc))),(3,.own 7 4 xs.length),(4,.c (.i k))] [(7,.row 4 (partly CallT.enc [.b false,.sl 1 [],.i 0,.i 0] xs k))]) (fun k=>xs.length - k) 0 (by simp) (by apply yj <;> simp [yab]) ?_
 rintro k hk
 rcases Nat.lt_or_ge k xs.length with hlt | hge
 ·obtain ⟨e,he⟩ : ∃ e,xs[k]? = some e:=⟨_,List.getElem?_eq_getElem hlt⟩
  have hs:=yaj (f:=CallT.enc) (z:=[.b false,.sl 1 [],.i 0,.i 0]) he
  have hd:=yav (f:=CallT.enc) (z:=[.b false,.sl 1 [],.i 0,.i 0]) (n:=4) rfl hlt
  simp only [CallT.enc,Train.enc] at hs
  simp -dsimp -implicitDefEqProofs [he,yG hlt]
  refine fun _=>yaP (yzv e (hl.2 e (List.mem_of_getElem? he))) (by simp) rfl ?_
  simp -dsimp -implicitDefEqProofs [yG hlt,yak hk,hd,hs]
  exact ⟨hlt,yw hlt hlen,k + 1,hlt,by omega,by apply yj <;> simp⟩
 ·simp -dsimp -implicitDefEqProofs [yaB hge]
  intro _
  rw [yam hge,List.take_of_length_le (by simp)]
theorem yxI (es fs : List CallT) : yB Tryz.prog 111 [.c (.sl 4 (es.map CallT.enc)),.c (.sl 4 (fs.map CallT.enc))] (.c (.b (decide (es = fs)))):=by
 refine yh yoS ?_
 simp -dsimp -implicitDefEqProofs
 intro hl1 hl2
 refine ⟨fun h e=>h (by rw [e]),fun hlen=>?_⟩
 have hlen' : es.length = fs.length:=by omega
 refine yg (ι:=Nat) (fun k=>k ≤ es.length ∧ es.take k = fs.take k) (fun k=>yO [(0,.c (.sl 4 (es.map CallT.enc))),(1,.c (.sl 4 (fs.map CallT.enc))),(5,.c (.i k))] []) (fun k=>es.length - k) 0 (by simp) (by apply yj <;> simp) ?_
 rintro k ⟨hk,htk⟩
 rcases Nat.lt_or_ge k es.length with hlt | hge
 ·obtain ⟨e,he⟩ : ∃ e,es[k]? = some e:=⟨_,List.getElem?_eq_getElem hlt⟩
  obtain ⟨f,hf⟩ : ∃ f,fs[k]? = some f:=⟨_,List.getElem?_eq_getElem (by omega)⟩
  simp -dsimp -implicitDefEqProofs [he,hf,yG hlt,yG (hlen' ▸ hlt)]
  intro _
  refine yaC (yzt e f) ?_
  simp -dsimp -implicitDefEqProofs
  refine ⟨fun h=>ybG he hf h,fun h=>⟨yw hlt hl1,k + 1,⟨hlt,yaR he hf htk h⟩,by omega,by apply yj <;> simp⟩⟩
 ·simp -dsimp -implicitDefEqProofs [yaB hge]
  intro _
  exact ybf hge hlen' htk
structure Work where
 Lock : Lock
 Weir : Weir
 Rule : Rule
 Pauses : List Pause
 Turn : Turn
 Calls : List CallT
 deriving DecidableEq,Inhabited
@[simp] def Work.enc (e : Work) : List C:=[.i e.Lock.Length,.i e.Lock.Width,.i e.Lock.SillAbove,.i e.Lock.SillBelow,.i e.Lock.Base,.i e.Lock.Area,.i e.Lock.Rate,.i e.Lock.Water,.i e.Lock.Gate,.sl 2 (e.Lock.Inside.map Train.enc),.i e.Weir.Gates,.i e.Weir.Open,.i e.Weir.Step,.i e.Weir.Crest,.i e.Weir.Width,.i e.Rule.Low,.i e.Rule.High,.i e.Rule.Flood,.sl 2 (e.Pauses.map Pause.enc),.b e.Turn.Up,.i e.Turn.Count,.sl 4 (e.Calls.map CallT.enc)]
-- Work
def ycY (e : Work) (l : Int) : Int:=ybm (ygm e.Lock l) fun l=>ybm (yhi e.Pauses l) fun l=>ybm (yfd e.Calls l) fun l=>l
def Work.small (e : Work) : Prop:=e.Lock.small ∧ yfI e.Pauses ∧ yfi e.Calls
theorem yn3 : yey ycY Work.small:=by
 intro e l h0 h1
 unfold ycY
 rcases yoa e.Lock _ h0 h1 with e0 | ⟨a0,b0,s0⟩
 ·exact .inl (yK (by omega))
 rw [yu a0]
 rcases ykI e.Pauses _ a0 (by omega) with e1 | ⟨a1,b1,s1⟩
 ·exact .inl (yK (by omega))
 rw [yu a1]
 rcases yu4 e.Calls _ a1 (by omega) with e2 | ⟨a2,b2,s2⟩
 ·exact .inl (yK (by omega))
 rw [yu a2]
 exact .inr ⟨a2,by omega,s0,s1,s2⟩
theorem yym (e : Work) (l : Int) (h0 : 0 ≤ l) (h1 : l ≤ 1048576) : yB Tryz.prog 49 [.agg (e.enc.map .c),.c (.i l)] (.c (.i (ycY e l))):=by
 refine yh yqH ?_
 simp -dsimp -implicitDefEqProofs
 refine yc (yxv e.Lock _ h0 h1) ?_
 simp -dsimp -implicitDefEqProofs
 refine ⟨fun h=>by simp [ycY,yK h],fun p0=>?_⟩
 have q0:=yin yoa e.Lock h0 h1 p0
 refine yc (yt6 e.Pauses _ p0 q0) ?_
 simp -dsimp -implicitDefEqProofs
 refine ⟨fun h=>by simp [ycY,yu p0,yK h],fun p1=>?_⟩
 have q1:=yin ykI e.Pauses p0 q0 p1
 refine yc (yvO e.Calls _ p1 q1) ?_
 simp -dsimp -implicitDefEqProofs
 refine ⟨fun h=>by simp [ycY,yu p0,yu p1,yK h],fun p2=>?_⟩
 simp [ycY,yu p0,yu p1,yu p2]
theorem yzs (e : Work) (hl : Work.small e) : yB Tryz.prog 56 [.agg (e.enc.map .c)] (.agg (e.enc.map .c)):=by
 refine yh yka ?_
 simp -dsimp -implicitDefEqProofs
 refine yS (yAz e.Lock (hl.1)) ?_
 simp -dsimp -implicitDefEqProofs
 refine yS (yuN e.Weir) ?_
 simp -dsimp -implicitDefEqProofs
 refine yS (yvb e.Rule) ?_
 simp -dsimp -implicitDefEqProofs
 refine yS (ywj e.Pauses (hl.2.1)) ?_
 simp -dsimp -implicitDefEqProofs
 refine yS (ytT e.Turn) ?_
 simp -dsimp -implicitDefEqProofs
 refine yS (yxE e.Calls (hl.2.2)) ?_
 simp -dsimp -implicitDefEqProofs
theorem yy2 (a b : Work) : yB Tryz.prog 64 [.agg (a.enc.map .c),.agg (b.enc.map .c)] (.c (.b (decide (a = b)))):=by
 refine yh yqq ?_
 obtain ⟨a0,a1,a2,a3,a4,a5⟩:=a
 obtain ⟨b0,b1,b2,b3,b4,b5⟩:=b
 simp -dsimp -implicitDefEqProofs [yj1,Work.mk.injEq]
 refine yc (yy8 a0 b0) ?_
 simp -dsimp -implicitDefEqProofs
 refine ⟨fun h=>by simp_all,fun h0=>?_⟩
 refine yc (yAt a1 b1) ?_
 simp -dsimp -implicitDefEqProofs
 refine ⟨fun h=>by simp_all,fun h1=>?_⟩
 refine yc (yy7 a2 b2) ?_
 simp -dsimp -implicitDefEqProofs
 refine ⟨fun h=>by simp_all,fun h2=>?_⟩
 refine yc (yvs a3 b3) ?_
 simp -dsimp -implicitDefEqProofs
 refine ⟨fun h=>by simp_all,fun h3=>?_⟩
 refine yc (yzT a4 b4) ?_
 simp -dsimp -implicitDefEqProofs
 refine ⟨fun h=>by simp_all,fun h4=>?_⟩
 refine yc (yxI a5 b5) ?_
 simp -dsimp -implicitDefEqProofs
 refine ⟨fun h=>by simp_all,fun h5=>?_⟩
 simp_all
def yaH (w : Weir) : Bool:=inRange w.Gates 1 8 && inRange w.Open 0 (10 * w.Gates) && inRange w.Step 1 80 && inRange w.Crest 0 100000 && inRange w.Width 1 1000
theorem ydW (w : Weir) : yB Tryz.prog 160 [.agg (w.enc.map .c)] (.c (.b (yaH w))):=by
 refine yh yqY ?_
 simp -dsimp -implicitDefEqProofs
 refine yc (yC w.Gates 1 8) ?_
 cases h0 : inRange w.Gates 1 8 with
 | false=>simp -dsimp -implicitDefEqProofs; simp [yaH,h0]
 | true =>
 simp -dsimp -implicitDefEqProofs
 refine ⟨by have:=yF.1 h0; unfold inI; omega,?_⟩
 refine yc (yC w.Open 0 (10 * w.Gates)) ?_
 cases h1 : inRange w.Open 0 (10 * w.Gates) with
 | false=>simp -dsimp -implicitDefEqProofs; simp [yaH,h0,h1]
 | true =>
 simp -dsimp -implicitDefEqProofs
 refine yc (yC w.Step 1 80) ?_
 cases h2 : inRange w.Step 1 80 with
 | false=>simp -dsimp -implicitDefEqProofs; simp [yaH,h0,h1,h2]
 | true =>
 simp -dsimp -implicitDefEqProofs
 refine yc (yC w.Crest 0 100000) ?_
 cases h3 : inRange w.Crest 0 100000 with
 | false=>simp -dsimp -implicitDefEqProofs; simp [yaH,h0,h1,h2,h3]
 | true =>
 simp -dsimp -implicitDefEqProofs
 refine yc (yC w.Width 1 1000) ?_
 cases h4 : inRange w.Width 1 1000 with
 | false=>simp -dsimp -implicitDefEqProofs; simp [yaH,h0,h1,h2,h3,h4]
 | true =>
  simp -dsimp -implicitDefEqProofs; simp [yaH,h0,h1,h2,h3,h4]
theorem yd2 (w : Weir) : yB Tryz.prog 150 [.agg (w.enc.map .c)] (.c (.b (yaH w))):=by
 refine yh yq7 ?_
 simp -dsimp -implicitDefEqProofs
 refine yc (yD w.Gates 1 8) ?_
 cases h0 : inRange w.Gates 1 8 with
 | false=>simp -dsimp -implicitDefEqProofs; simp [yaH,h0]
 | true =>
 simp -dsimp -implicitDefEqProofs
 refine ⟨by have:=yF.1 h0; unfold inI; omega,?_⟩
 refine yc (yD w.Open 0 (10 * w.Gates)) ?_
 cases h1 : inRange w.Open 0 (10 * w.Gates) with
 | false=>simp -dsimp -implicitDefEqProofs; simp [yaH,h0,h1]
 | true =>
 simp -dsimp -implicitDefEqProofs
 refine yc (yD w.Step 1 80) ?_
 cases h2 : inRange w.Step 1 80 with
 | false=>simp -dsimp -implicitDefEqProofs; simp [yaH,h0,h1,h2]
 | true =>
 simp -dsimp -implicitDefEqProofs
 refine yc (yD w.Crest 0 100000) ?_
 cases h3 : inRange w.Crest 0 100000 with
 | false=>simp -dsimp -implicitDefEqProofs; simp [yaH,h0,h1,h2,h3]
 | true =>
 simp -dsimp -implicitDefEqProofs
 refine yc (yD w.Width 1 1000) ?_
 cases h4 : inRange w.Width 1 1000 with
 | false=>simp -dsimp -implicitDefEqProofs; simp [yaH,h0,h1,h2,h3,h4]
 | true =>
  simp -dsimp -implicitDefEqProofs; simp [yaH,h0,h1,h2,h3,h4]
def yca (r : Rule) : Bool:=inRange r.Low 0 100000 && inRange r.High 0 100000 && inRange r.Flood 0 100000 && decide (r.Low < r.High) && decide (r.High ≤ r.Flood)
theorem yji (r : Rule) : yB Tryz.prog 161 [.agg (r.enc.map .c)] (.c (.b (yca r))):=by
 refine yh yqW ?_
 simp -dsimp -implicitDefEqProofs
 refine yc (yC r.Low 0 100000) ?_
 cases h0 : inRange r.Low 0 100000 with
 | false=>simp -dsimp -implicitDefEqProofs; simp [yca,h0]
 | true =>
 simp -dsimp -implicitDefEqProofs
 refine yc (yC r.High 0 100000) ?_
 cases h1 : inRange r.High 0 100000 with
 | false=>simp -dsimp -implicitDefEqProofs; simp [yca,h0,h1]
 | true =>
 simp -dsimp -implicitDefEqProofs
 refine yc (yC r.Flood 0 100000) ?_
 cases h2 : inRange r.Flood 0 100000 with
 | false=>simp -dsimp -implicitDefEqProofs; simp [yca,h0,h1,h2]
 | true =>
 simp -dsimp -implicitDefEqProofs
 simp [yca,h0,h1,h2]
 exact ⟨fun h _=>h,fun a b=>by omega⟩
theorem yiX (r : Rule) : yB Tryz.prog 151 [.agg (r.enc.map .c)] (.c (.b (yca r))):=by
 refine yh yq6 ?_
 simp -dsimp -implicitDefEqProofs
 refine yc (ybj r.Low) ?_
 cases h0 : inRange r.Low 0 100000 with
 | false=>simp -dsimp -implicitDefEqProofs; simp [yca,h0]
 | true =>
 simp -dsimp -implicitDefEqProofs
 refine yc (ybj r.High) ?_
 cases h1 : inRange r.High 0 100000 with
 | false=>simp -dsimp -implicitDefEqProofs; simp [yca,h0,h1]
 | true =>
 simp -dsimp -implicitDefEqProofs
 refine yc (ybj r.Flood) ?_
 cases h2 : inRange r.Flood 0 100000 with
 | false=>simp -dsimp -implicitDefEqProofs; simp [yca,h0,h1,h2]
 | true =>
 simp -dsimp -implicitDefEqProofs
 simp [yca,h0,h1,h2]
 exact ⟨fun h _=>h,fun a b=>by omega⟩
def ype (t : Turn) : Bool:=inRange t.Count 0 1000000
theorem ytY (t : Turn) : yB Tryz.prog 163 [.agg (t.enc.map .c)] (.c (.b (ype t))):=by
 refine yh yqP ?_
 simp -dsimp -implicitDefEqProofs
 refine yc (yC t.Count 0 1000000) ?_
 simp -dsimp -implicitDefEqProofs
 try rfl
theorem yuW (t : Turn) : yB Tryz.prog 153 [.agg (t.enc.map .c)] (.c (.b (ype t))):=by
 refine yh yrl ?_
 simp -dsimp -implicitDefEqProofs
 refine yc (yD t.Count 0 1000000) ?_
 simp -dsimp -implicitDefEqProofs
 try rfl
def yb9 (c : CallT) : Bool:=yP c.Train && inRange c.Since 0 1000000 && inRange c.Booked (-1) 1000000
theorem ytF (c : CallT) (h : c.small) : yB Tryz.prog 164 [.agg (c.enc.map .c)] (.c (.b (yb9 c))):=by
 refine yh yqU ?_
 simp -dsimp -implicitDefEqProofs
 refine yc (ydp c.Train h) ?_
 cases h0 : yP c.Train with
 | false=>simp -dsimp -implicitDefEqProofs; simp [yb9,h0]
 | true =>
 simp -dsimp -implicitDefEqProofs
 refine yc (yC c.Since 0 1000000) ?_
 cases h1 : inRange c.Since 0 1000000 with
 | false=>simp -dsimp -implicitDefEqProofs; simp [yb9,h0,h1]
 | true =>
 simp -dsimp -implicitDefEqProofs
 refine yc (yC c.Booked (-1) 1000000) ?_
 cases h2 : inRange c.Booked (-1) 1000000 with
 | false=>simp -dsimp -implicitDefEqProofs; simp [yb9,h0,h1,h2]
 | true =>
  simp -dsimp -implicitDefEqProofs; simp [yb9,h0,h1,h2]
theorem yt9 (c : CallT) (h : c.small) : yB Tryz.prog 148 [.agg (c.enc.map .c)] (.c (.b (yb9 c))):=by
 refine yh yqt ?_
 simp -dsimp -implicitDefEqProofs
 refine yc (yds c.Train h) ?_
 cases h0 : yP c.Train with
 | false=>simp -dsimp -implicitDefEqProofs; simp [yb9,h0]
 | true =>
 simp -dsimp -implicitDefEqProofs
 refine yc (yD c.Since 0 1000000) ?_
 cases h1 : inRange c.Since 0 1000000 with
 | false=>simp -dsimp -implicitDefEqProofs; simp [yb9,h0,h1]
 | true =>
 simp -dsimp -implicitDefEqProofs
 refine yc (yD c.Booked (-1) 1000000) ?_
 cases h2 : inRange c.Booked (-1) 1000000 with
 | false=>simp -dsimp -implicitDefEqProofs; simp [yb9,h0,h1,h2]
 | true =>
  simp -dsimp -implicitDefEqProofs; simp [yb9,h0,h1,h2]
def yc1 (b : Int) (p : Pause) : Bool:=!decide (p.From < b) && !decide (p.Until ≤ p.From) && !decide (1000000 < p.Until)
def yct : Int → List Pause → Bool
 | _,[]=>true
 | b,p :: l=>yc1 b p && yct p.Until l
def ycD (l : List Pause) : Bool:=decide (l.length ≤ 8) && yct 0 l
theorem ymZ {l : List Pause} {k : Nat} {p : Pause} {b : Int} (h : l[k]? = some p) : yct b (l.drop k) = (yc1 b p && yct p.Until (l.drop (k + 1))):=by
 have hlt:=(List.getElem?_eq_some_iff.1 h).1
 rw [List.drop_eq_getElem_cons hlt,(List.getElem?_eq_some_iff.1 h).2]; rfl
theorem yqL (l : List Pause) : yB Tryz.prog 162 [.c (.sl 2 (l.map Pause.enc))] (.c (.b (ycD l))):=by
 refine yh ynJ ?_
 simp -dsimp -implicitDefEqProofs
 intro hlen
 refine ⟨fun h8=>(by simp [ycD]; omega),fun h8=>?_⟩
 refine fun _=>yg (ι:=Nat × Int) (fun q=>q.1 ≤ l.length ∧ yct q.2 (l.drop q.1) = yct 0 l) (fun q=>yO [(3,.c (.i q.2)),(9,.c (.sl 2 (l.map Pause.enc))),(10,.c (.i l.length)),(11,.c (.i q.1))] []) (fun q=>l.length - q.1) (0,0) (by simp) (by apply yj <;> simp) ?_
 rintro ⟨k,b⟩ ⟨hk,hf⟩
 simp only at hk hf
 rcases Nat.lt_or_ge k l.length with hlt | hge
 ·obtain ⟨p,hp⟩ : ∃ p,l[k]? = some p:=⟨_,List.getElem?_eq_getElem hlt⟩
  rw [ymZ hp] at hf
  have bad : yc1 b p = false → ycD l = false:=fun e=>by rw [e,Bool.false_and] at hf; simp [ycD,← hf]
  simp -dsimp -implicitDefEqProofs [hp,yG hlt]
  refine ⟨fun h1=>?_,fun h1=>(bad (by simp [yc1]; omega))⟩
  refine ⟨fun h2=>?_,fun h2=>(bad (by simp [yc1]; omega))⟩
  refine ⟨fun h3=>(bad (by simp [yc1]; omega)),fun h3=>?_⟩
  have hok : yc1 b p = true:=by simp [yc1]; omega
  rw [hok,Bool.true_and] at hf
  exact ⟨yw hlt hlen,k + 1,p.Until,⟨hlt,hf⟩,by omega,by apply yj <;> simp⟩
 ·simp -dsimp -implicitDefEqProofs [yaB hge]
  rw [List.drop_of_length_le hge] at hf
  have h8' : l.length ≤ 8:=by omega
  simp [ycD,h8',← hf,yct]
theorem yrd (l : List Pause) : yB Tryz.prog 152 [.c (.sl 2 (l.map Pause.enc))] (.c (.b (ycD l))):=by
 refine yh yny ?_
 simp -dsimp -implicitDefEqProofs
 refine yg (ι:=Nat × Int) (fun q=>q.1 ≤ l.length ∧ yct q.2 (l.drop q.1) = yct 0 l) (fun q=>yO [(0,.c (.sl 2 (l.map Pause.enc))),(3,.c (.i q.2)),(4,.c (.i q.1))] []) (fun q=>l.length - q.1) (0,0) (by simp) (by apply yj <;> simp) ?_
 rintro ⟨k,b⟩ ⟨hk,hf⟩
 simp only at hk hf
 rcases Nat.lt_or_ge k l.length with hlt | hge
 ·obtain ⟨p,hp⟩ : ∃ p,l[k]? = some p:=⟨_,List.getElem?_eq_getElem hlt⟩
  rw [ymZ hp] at hf
  have bad : yc1 b p = false → ycD l = false:=fun e=>by rw [e,Bool.false_and] at hf; simp [ycD,← hf]
  simp -dsimp -implicitDefEqProofs [hp,yG hlt]
  intro hlen
  refine ⟨fun h1=>?_,fun h1=>(bad (by simp [yc1]; omega))⟩
  refine ⟨fun h2=>?_,fun h2=>(bad (by simp [yc1]; omega))⟩
  refine ⟨fun h3=>(bad (by simp [yc1]; omega)),fun h3=>?_⟩
  have hok : yc1 b p = true:=by simp [yc1]; omega
  rw [hok,Bool.true_and] at hf
  exact ⟨yw hlt hlen,k + 1,p.Until,⟨hlt,hf⟩,by omega,by apply yj <;> simp⟩
 ·simp -dsimp -implicitDefEqProofs [yaB hge]
  rw [List.drop_of_length_le hge] at hf
  simp [ycD,← hf,yct]
  try omega
def yaN (l : List Train) (k : Nat) : List Int:=(l.take k).flatMap yaY
def seenAt (l : List Train) (k : Nat) (t : Train) (j : Nat) : List Int:=yaN l k ++ (yaY t).take j
def Distinct (l : List Train) : Bool:=decide (l.length ≤ 8) && l.all yP && decide ((l.flatMap yaY).Nodup)
theorem yfN {l : List Train} : yaN l 0 = []:=rfl
theorem yfP {l : List Train} {k : Nat} {t : Train} (h : l[k]? = some t) : yaN l (k + 1) = yaN l k ++ yaY t:=by
 unfold yaN; rw [List.take_succ,h,List.flatMap_append]; simp
theorem ymM {l : List Train} {k : Nat} (h : l.length ≤ k) : yaN l k = l.flatMap yaY:=by
 unfold yaN; rw [List.take_of_length_le h]
theorem yrr {l : List Train} {k : Nat} {t : Train} (h : l[k]? = some t) : ∃ m,l.flatMap yaY = yaN l k ++ yaY t ++ m:=by
 refine ⟨(l.drop (k + 1)).flatMap yaY,?_⟩
 rw [← yfP h]
 unfold yaN
 rw [← List.flatMap_append,List.take_append_drop]
theorem ymU {l : List Train} {k : Nat} {t : Train} : seenAt l k t 0 = yaN l k:=by simp [seenAt]
theorem ym2 {l : List Train} {k j : Nat} {t : Train} {x : Int} (h : (yaY t)[j]? = some x) : seenAt l k t (j + 1) = seenAt l k t j ++ [x]:=by
 unfold seenAt; rw [List.take_succ,h]; simp
theorem ypH {l : List Train} {k j : Nat} {t : Train} (ht : l[k]? = some t) (h : (yaY t).length ≤ j) : seenAt l k t j = yaN l (k + 1):=by
 unfold seenAt; rw [List.take_of_length_le h,yfP ht]
theorem ymJ {l : List Train} (k : Nat) (h : ∀ t ∈ l.take k,yP t = true) : (yaN l k).length ≤ 6 * k:=by
 have key : ∀ (m : List Train),(∀ t ∈ m,yP t = true) → (m.flatMap yaY).length ≤ 6 * m.length:=by
  intro m
  induction m with
  | nil=>simp
  | cons t m ih =>
   intro hm
   have h1:=ytb (hm t (by simp))
   have h2:=ih fun x hx=>hm x (by simp [hx])
   simp only [List.flatMap_cons,List.length_append,List.length_cons]; omega
 have:=key (l.take k) h
 have h2 : (l.take k).length ≤ k:=by rw [List.length_take]; omega
 unfold yaN; omega
theorem twice {l : List Train} {k j : Nat} {t : Train} {x : Int} (ht : l[k]? = some t) (hx : (yaY t)[j]? = some x) (hm : x ∈ seenAt l k t j) : Distinct l = false:=by
 have : ¬ (l.flatMap yaY).Nodup:=by
  intro hn
  obtain ⟨m,e⟩:=yrr ht
  have hlt:=(List.getElem?_eq_some_iff.1 hx).1
  have e2 : yaY t = (yaY t).take j ++ x :: (yaY t).drop (j + 1):=by
   conv=>lhs; rw [← List.take_append_drop j (yaY t)]
   rw [List.drop_eq_getElem_cons hlt,(List.getElem?_eq_some_iff.1 hx).2]
  have e3 : l.flatMap yaY = seenAt l k t j ++ x :: ((yaY t).drop (j + 1) ++ m):=by
   rw [e]; unfold seenAt; conv=>lhs; rw [e2]
   simp
  rw [e3] at hn
  exact (List.nodup_append.1 hn).2.2 x hm x (by simp) rfl
 simp [Distinct,this]
theorem yrv {l : List Train} {k : Nat} {t : Train} (ht : l[k]? = some t) (h : yP t = false) : Distinct l = false:=by
 have : l.all yP = false:=all_false (p:=yP) ht h
 simp only [Distinct,this,Bool.and_false,Bool.false_and]
theorem ymr (l : List Train) (hs : ybV l) : yB Tryz.prog 176 [.c (.sl 2 (l.map Train.enc))] (.c (.b (Distinct l))):=by
 refine yh yiB ?_
 simp -dsimp -implicitDefEqProofs
 intro hlen
 refine ⟨fun h8=>(by simp [Distinct]; omega),fun h8=>?_⟩
 intro _
 refine ymd (k0:=1) 3 1 (by simp) (by simp) (by decide) ?_
 refine yg (ι:=Nat) (fun k=>k ≤ l.length ∧ (∀ t ∈ l.take k,yP t = true) ∧ (yaN l k).Nodup) (fun k=>yO [(3,.own 3 1 (yaN l k).length),(11,.c (.sl 2 (l.map Train.enc))),(12,.c (.i l.length)),(13,.c (.i k))] [(3,.row 1 ((yaN l k).map yJ))]) (fun k=>l.length - k) 0 (by simp [yfN]) (by apply yj <;> simp [yfN]) ?_
 rintro k ⟨hk,hall,hnd⟩
 rcases Nat.lt_or_ge k l.length with hlt | hge
 ·obtain ⟨t,ht⟩ : ∃ t,l[k]? = some t:=⟨_,List.getElem?_eq_getElem hlt⟩
  have hts:=hs.2 t (List.mem_of_getElem? ht)
  simp -dsimp -implicitDefEqProofs [ht,yG hlt]
  refine yc (ydp t hts) ?_
  cases h1 : yP t with
  | false=>simp -dsimp -implicitDefEqProofs; exact yrv ht h1
  | true =>
   have hall':=yL (p:=yP) ht hall h1
   have hil:=ytb h1
   have hul:=ymJ k hall
   simp -dsimp -implicitDefEqProofs
   refine yS (yuz t hts) ?_
   simp -dsimp -implicitDefEqProofs
   intro _
   refine yg (ι:=Nat) (fun j=>j ≤ (yaY t).length ∧ (seenAt l k t j).Nodup) (fun j=>yO [(3,.own 3 1 (seenAt l k t j).length),(11,.c (.sl 2 (l.map Train.enc))),(12,.c (.i l.length)),(13,.c (.i k)),(21,.c (.sl 1 ((yaY t).map yJ))),(22,.c (.i (yaY t).length)),(23,.c (.i j))] [(3,.row 1 ((seenAt l k t j).map yJ))]) (fun j=>(yaY t).length - j) 0 ⟨by simp,by rw [ymU]; exact hnd⟩ (by apply yj <;> simp [ymU]) ?_
   rintro j ⟨hj,hnj⟩
   have hsl : (seenAt l k t j).length ≤ 60:=by unfold seenAt; rw [List.length_append,List.length_take]; omega
   rcases Nat.lt_or_ge j (yaY t).length with hlt2 | hge2
   ·obtain ⟨x,hx⟩ : ∃ x,(yaY t)[j]? = some x:=⟨_,List.getElem?_eq_getElem hlt2⟩
    simp -dsimp -implicitDefEqProofs [hx,yG hlt2]
    refine yaQ (ypJ (seenAt l k t j) x) (by simp [ymz]) rfl ?_
    simp -dsimp -implicitDefEqProofs
    refine ⟨fun h2=>(twice ht hx h2),fun h2=>?_⟩
    have hn2 : (seenAt l k t (j + 1)).Nodup:=by
     rw [ym2 hx]
     exact List.nodup_append.2 ⟨hnj,by simp,fun a ha b hb e=>by simp at hb; subst hb; subst e; exact h2 ha⟩
    refine ⟨by omega,by unfold inI; omega,j + 1,⟨hlt2,hn2⟩,by omega,?_⟩
    apply yj <;> simp [ym2 hx]
   ·simp -dsimp -implicitDefEqProofs [yaB hge2]
    rw [ypH ht hge2] at hnj
    refine ⟨by unfold inI; omega,k + 1,⟨hlt,hall',hnj⟩,by omega,?_⟩
    apply yj <;> simp [ypH ht hge2]
 ·simp -dsimp -implicitDefEqProofs [yaB hge]
  rw [ymM hge] at hnd
  have h1:=yX (p:=yP) hge hall
  have h8' : l.length ≤ 8:=by omega
  simp [Distinct,h1,hnd,h8']
theorem yoh (l : List Train) (hs : ybV l) (h8 : l.length ≤ 8) (hok : ∀ t ∈ l,yP t = true) : yB Tryz.prog 178 [.c (.sl 2 (l.map Train.enc))] (.c (.b (decide ((l.flatMap yaY).Nodup)))):=by
 refine yh yjO ?_
 have fin : Distinct l = false → decide ((l.flatMap yaY).Nodup) = false:=by
  intro h
  have h1 : l.all yP = true:=List.all_eq_true.2 hok
  simpa [Distinct,h1,h8] using h
 simp -dsimp -implicitDefEqProofs
 refine yg (ι:=Nat) (fun k=>k ≤ l.length ∧ (yaN l k).Nodup) (fun k=>yO [(0,.c (.sl 2 (l.map Train.enc))),(3,.own 8 1 (yaN l k).length),(4,.c (.i k))] [(8,.row 1 ((yaN l k).map yJ))]) (fun k=>l.length - k) 0 (by simp [yfN]) (by apply yj <;> simp [yfN]) ?_
 rintro k ⟨hk,hnd⟩
 rcases Nat.lt_or_ge k l.length with hlt | hge
 ·obtain ⟨t,ht⟩ : ∃ t,l[k]? = some t:=⟨_,List.getElem?_eq_getElem hlt⟩
  have hts:=hs.2 t (List.mem_of_getElem? ht)
  have h1:=hok t (List.mem_of_getElem? ht)
  have hil:=ytb h1
  have hul:=ymJ (l:=l) k (fun t ht=>hok t (List.mem_of_mem_take ht))
  simp -dsimp -implicitDefEqProofs [ht,yG hlt]
  intro hlen
  refine yS (yvW t hts) ?_
  simp -dsimp -implicitDefEqProofs
  refine yg (ι:=Nat) (fun i=>i ≤ (yaY t).length ∧ ∀ x ∈ (yaY t).take i,x ∉ yaN l k) (fun i=>yO [(0,.c (.sl 2 (l.map Train.enc))),(3,.own 8 1 (yaN l k).length),(4,.c (.i k)),(5,.c (.sl 1 ((yaY t).map yJ))),(6,.c (.i i))] [(8,.row 1 ((yaN l k).map yJ))]) (fun i=>(yaY t).length - i) 0 (by simp) (by apply yj <;> simp) ?_
  rintro i ⟨hi,hni⟩
  rcases Nat.lt_or_ge i (yaY t).length with hlt2 | hge2
  ·obtain ⟨x,hx⟩ : ∃ x,(yaY t)[i]? = some x:=⟨_,List.getElem?_eq_getElem hlt2⟩
   simp -dsimp -implicitDefEqProofs [yG hlt2]
   intro _
   refine yg (ι:=Nat) (fun j=>j ≤ (yaN l k).length ∧ ∀ y ∈ (yaN l k).take j,y ≠ x) (fun j=>yO [(0,.c (.sl 2 (l.map Train.enc))),(3,.own 8 1 (yaN l k).length),(4,.c (.i k)),(5,.c (.sl 1 ((yaY t).map yJ))),(6,.c (.i i)),(7,.c (.i j))] [(8,.row 1 ((yaN l k).map yJ))]) (fun j=>(yaN l k).length - j) 0 (by simp) (by apply yj <;> simp) ?_
   rintro j ⟨hj,hnj⟩
   rcases Nat.lt_or_ge j (yaN l k).length with hlt3 | hge3
   ·obtain ⟨y,hy⟩ : ∃ y,(yaN l k)[j]? = some y:=⟨_,List.getElem?_eq_getElem hlt3⟩
    have bad : y = x → ¬ (l.flatMap yaY).Nodup:=fun e=>by
     have:=fin (twice ht hx (by unfold seenAt; rw [← e]; exact List.mem_append_left _ (List.mem_of_getElem? hy)))
     simpa using this
    generalize yaN l k = u at *
    have g1:=(List.getElem?_eq_some_iff.1 hy).2
    simp -dsimp -implicitDefEqProofs [hx,yG hlt2,hy,g1,yG hlt3,hlt3]
    intro _
    refine ⟨fun h2=>(bad h2),fun h2=>?_⟩
    refine ⟨by unfold inI; omega,j + 1,⟨hlt3,?_⟩,by omega,?_⟩
    ·rw [List.take_succ,hy]
     intro z hz
     rcases List.mem_append.1 hz with hz | hz
     ·exact hnj z hz
     ·simp at hz; subst hz; exact h2
    ·apply yj <;> simp
   ·rw [List.take_of_length_le hge3] at hnj
    simp -dsimp -implicitDefEqProofs [yaB hge3]
    intro _
    refine ⟨by unfold inI; omega,i + 1,⟨hlt2,?_⟩,by omega,by apply yj <;> simp⟩
    rw [List.take_succ,hx]
    intro z hz
    rcases List.mem_append.1 hz with hz | hz
    ·exact hni z hz
    ·simp at hz; subst hz; exact fun hm=>hnj _ hm rfl
  ·rw [List.take_of_length_le hge2] at hni
   simp -dsimp -implicitDefEqProofs [yaB hge2]
   have hnd2 : (yaN l (k + 1)).Nodup:=by
    rw [yfP ht]
    exact List.nodup_append.2 ⟨hnd,yEL h1,fun a ha b hb e=>hni b hb (e ▸ ha)⟩
   refine fun _=>⟨by omega,by unfold inI; omega,k + 1,⟨hlt,hnd2⟩,by omega,?_⟩
   apply yj <;> simp [yfP ht]
 ·simp -dsimp -implicitDefEqProofs [yaB hge]
  rw [ymM hge] at hnd
  simp [hnd]
theorem yua (l : List Train) (hs : ybV l) : yB Tryz.prog 174 [.c (.sl 2 (l.map Train.enc))] (.c (.b (Distinct l))):=by
 refine yh ylX ?_
 simp -dsimp -implicitDefEqProofs
 refine yg (ι:=Nat) (fun k=>k ≤ l.length ∧ (∀ t ∈ l.take k,yP t = true) ∧ (k ≠ 0 → l.length ≤ 8)) (fun k=>yO [(0,.c (.sl 2 (l.map Train.enc))),(3,.c (.i k))] []) (fun k=>l.length - k) 0 (by simp) (by apply yj <;> simp) ?_
 rintro k ⟨hk,hall,h8⟩
 rcases Nat.lt_or_ge k l.length with hlt | hge
 ·obtain ⟨t,ht⟩ : ∃ t,l[k]? = some t:=⟨_,List.getElem?_eq_getElem hlt⟩
  have hts:=hs.2 t (List.mem_of_getElem? ht)
  simp -dsimp -implicitDefEqProofs [ht,yG hlt]
  intro hlen
  refine yc (yds t hts) ?_
  cases h1 : yP t with
  | false=>simp -dsimp -implicitDefEqProofs; exact yrv ht h1
  | true =>
   have hall':=yL (p:=yP) ht hall h1
   simp -dsimp -implicitDefEqProofs
   intro _
   refine ⟨fun h9=>(by simp [Distinct]; omega),fun h9=>?_⟩
   have h9' : l.length ≤ 8:=by omega
   exact ⟨yw hlt hlen,k + 1,⟨hlt,hall',fun _=>h9'⟩,by omega,by apply yj <;> simp⟩
 ·have h1:=yX (p:=yP) hge hall
  have h8' : l.length ≤ 8:=by
   rcases Nat.eq_zero_or_pos k with e | e
   ·omega
   ·exact h8 (by omega)
  simp -dsimp -implicitDefEqProofs [yaB hge]
  intro _
  refine yc (yoh l hs h8' (List.all_eq_true.1 h1)) ?_
  simp -dsimp -implicitDefEqProofs
  simp [Distinct,h1,h8']
def ybg (k : Lock) : Bool:=inRange k.Length 1 1000 && inRange k.Width 1 100 && inRange k.SillAbove 0 100000 && inRange k.SillBelow 0 100000 && inRange k.Base 0 100000 && inRange k.Area 1 10000 && inRange k.Rate 1 100000 && inRange k.Water 0 1000000000 && inRange k.Gate 0 2 && Distinct k.Inside
theorem yvo (k : Lock) (h : k.small) : yB Tryz.prog 159 [.agg (k.enc.map .c)] (.c (.b (ybg k))):=by
 refine yh yrj ?_
 simp -dsimp -implicitDefEqProofs
 refine yc (yC k.Length 1 1000) ?_
 cases h0 : inRange k.Length 1 1000 with
 | false=>simp -dsimp -implicitDefEqProofs; simp [ybg,h0]
 | true =>
 simp -dsimp -implicitDefEqProofs
 refine yc (yC k.Width 1 100) ?_
 cases h1 : inRange k.Width 1 100 with
 | false=>simp -dsimp -implicitDefEqProofs; simp [ybg,h0,h1]
 | true =>
 simp -dsimp -implicitDefEqProofs
 refine yc (yC k.SillAbove 0 100000) ?_
 cases h2 : inRange k.SillAbove 0 100000 with
 | false=>simp -dsimp -implicitDefEqProofs; simp [ybg,h0,h1,h2]
 | true =>
 simp -dsimp -implicitDefEqProofs
 refine yc (yC k.SillBelow 0 100000) ?_
 cases h3 : inRange k.SillBelow 0 100000 with
 | false=>simp -dsimp -implicitDefEqProofs; simp [ybg,h0,h1,h2,h3]
 | true =>
 simp -dsimp -implicitDefEqProofs
 refine yc (yC k.Base 0 100000) ?_
 cases h4 : inRange k.Base 0 100000 with
 | false=>simp -dsimp -implicitDefEqProofs; simp [ybg,h0,h1,h2,h3,h4]
 | true =>
 simp -dsimp -implicitDefEqProofs
 refine yc (yC k.Area 1 10000) ?_
 cases h5 : inRange k.Area 1 10000 with
 | false=>simp -dsimp -implicitDefEqProofs; simp [ybg,h0,h1,h2,h3,h4,h5]
 | true =>
 simp -dsimp -implicitDefEqProofs
 refine yc (yC k.Rate 1 100000) ?_
 cases h6 : inRange k.Rate 1 100000 with
 | false=>simp -dsimp -implicitDefEqProofs; simp [ybg,h0,h1,h2,h3,h4,h5,h6]
 | true =>
 simp -dsimp -implicitDefEqProofs
 refine yc (yC k.Water 0 1000000000) ?_
 cases h7 : inRange k.Water 0 1000000000 with
 | false=>simp -dsimp -implicitDefEqProofs; simp [ybg,h0,h1,h2,h3,h4,h5,h6,h7]
 | true =>
 simp -dsimp -implicitDefEqProofs
 refine yc (yC k.Gate 0 2) ?_
 cases h8 : inRange k.Gate 0 2 with
 | false=>simp -dsimp -implicitDefEqProofs; simp [ybg,h0,h1,h2,h3,h4,h5,h6,h7,h8]
 | true =>
 simp -dsimp -implicitDefEqProofs
 refine yc (ymr k.Inside h) ?_
 cases h9 : Distinct k.Inside with
 | false=>simp -dsimp -implicitDefEqProofs; simp [ybg,h0,h1,h2,h3,h4,h5,h6,h7,h8,h9]
 | true =>
  simp -dsimp -implicitDefEqProofs; simp [ybg,h0,h1,h2,h3,h4,h5,h6,h7,h8,h9]
theorem ytO (k : Lock) (h : k.small) : yB Tryz.prog 149 [.agg (k.enc.map .c)] (.c (.b (ybg k))):=by
 refine yh yra ?_
 simp -dsimp -implicitDefEqProofs
 refine yc (yD k.Length 1 1000) ?_
 cases h0 : inRange k.Length 1 1000 with
 | false=>simp -dsimp -implicitDefEqProofs; simp [ybg,h0]
 | true =>
 simp -dsimp -implicitDefEqProofs
 refine yc (yD k.Width 1 100) ?_
 cases h1 : inRange k.Width 1 100 with
 | false=>simp -dsimp -implicitDefEqProofs; simp [ybg,h0,h1]
 | true =>
 simp -dsimp -implicitDefEqProofs
 refine yc (ybj k.SillAbove) ?_
 cases h2 : inRange k.SillAbove 0 100000 with
 | false=>simp -dsimp -implicitDefEqProofs; simp [ybg,h0,h1,h2]
 | true =>
 simp -dsimp -implicitDefEqProofs
 refine yc (ybj k.SillBelow) ?_
 cases h3 : inRange k.SillBelow 0 100000 with
 | false=>simp -dsimp -implicitDefEqProofs; simp [ybg,h0,h1,h2,h3]
 | true =>
 simp -dsimp -implicitDefEqProofs
 refine yc (ybj k.Base) ?_
 cases h4 : inRange k.Base 0 100000 with
 | false=>simp -dsimp -implicitDefEqProofs; simp [ybg,h0,h1,h2,h3,h4]
 | true =>
 simp -dsimp -implicitDefEqProofs
 refine yc (yD k.Area 1 10000) ?_
 cases h5 : inRange k.Area 1 10000 with
 | false=>simp -dsimp -implicitDefEqProofs; simp [ybg,h0,h1,h2,h3,h4,h5]
 | true =>
 simp -dsimp -implicitDefEqProofs
 refine yc (yD k.Rate 1 100000) ?_
 cases h6 : inRange k.Rate 1 100000 with
 | false=>simp -dsimp -implicitDefEqProofs; simp [ybg,h0,h1,h2,h3,h4,h5,h6]
 | true =>
 simp -dsimp -implicitDefEqProofs
 refine yc (yD k.Water 0 1000000000) ?_
 cases h7 : inRange k.Water 0 1000000000 with
 | false=>simp -dsimp -implicitDefEqProofs; simp [ybg,h0,h1,h2,h3,h4,h5,h6,h7]
 | true =>
 simp -dsimp -implicitDefEqProofs
 refine yc (yD k.Gate 0 2) ?_
 cases h8 : inRange k.Gate 0 2 with
 | false=>simp -dsimp -implicitDefEqProofs; simp [ybg,h0,h1,h2,h3,h4,h5,h6,h7,h8]
 | true =>
 simp -dsimp -implicitDefEqProofs
 refine yc (yua k.Inside h) ?_
 cases h9 : Distinct k.Inside with
 | false=>simp -dsimp -implicitDefEqProofs; simp [ybg,h0,h1,h2,h3,h4,h5,h6,h7,h8,h9]
 | true =>
  simp -dsimp -implicitDefEqProofs; simp [ybg,h0,h1,h2,h3,h4,h5,h6,h7,h8,h9]
def ybd (w : Work) : Bool:=ybg w.Lock && yaH w.Weir && yca w.Rule && ycD w.Pauses && ype w.Turn && decide (w.Calls.length ≤ 24) && w.Calls.all yb9
theorem wk1 {w : Work} (h : ybg w.Lock = false) : ybd w = false:=by simp [ybd,h]
theorem wk2 {w : Work} (h : yaH w.Weir = false) : ybd w = false:=by simp [ybd,h]
theorem wk3 {w : Work} (h : yca w.Rule = false) : ybd w = false:=by simp [ybd,h]
theorem wk4 {w : Work} (h : ycD w.Pauses = false) : ybd w = false:=by simp [ybd,h]
theorem wk5 {w : Work} (h : ype w.Turn = false) : ybd w = false:=by simp [ybd,h]
theorem wk6 {w : Work} (h : 24 < w.Calls.length) : ybd w = false:=by
 have : ¬ w.Calls.length ≤ 24:=by omega
 simp [ybd,this]
theorem wk7 {w : Work} {k : Nat} {c : CallT} (hc : w.Calls[k]? = some c) (h : yb9 c = false) : ybd w = false:=by
 have : w.Calls.all yb9 = false:=all_false (p:=yb9) hc h
 simp only [ybd,this,Bool.and_false]
theorem yu3 (w : Work) (hs : w.small) : yB Tryz.prog 125 [.agg (w.enc.map .c)] (.c (.b (ybd w))):=by
 refine yh yqA ?_
 simp -dsimp -implicitDefEqProofs
 refine yc (yvo w.Lock hs.1) ?_
 cases h1 : ybg w.Lock with
 | false=>simp -dsimp -implicitDefEqProofs; exact wk1 h1
 | true =>
 simp -dsimp -implicitDefEqProofs
 refine yc (ydW w.Weir) ?_
 cases h2 : yaH w.Weir with
 | false=>simp -dsimp -implicitDefEqProofs; exact wk2 h2
 | true =>
 simp -dsimp -implicitDefEqProofs
 refine yc (yji w.Rule) ?_
 cases h3 : yca w.Rule with
 | false=>simp -dsimp -implicitDefEqProofs; exact wk3 h3
 | true =>
 simp -dsimp -implicitDefEqProofs
 refine yc (yqL w.Pauses) ?_
 cases h4 : ycD w.Pauses with
 | false=>simp -dsimp -implicitDefEqProofs; exact wk4 h4
 | true =>
 simp -dsimp -implicitDefEqProofs
 refine yc (ytY w.Turn) ?_
 cases h5 : ype w.Turn with
 | false=>simp -dsimp -implicitDefEqProofs; exact wk5 h5
 | true =>
 simp -dsimp -implicitDefEqProofs
 intro hlen
 refine ⟨fun h6=>(wk6 (by omega)),fun h6=>?_⟩
 refine fun _=>yg (ι:=Nat) (fun k=>k ≤ w.Calls.length ∧ ∀ c ∈ w.Calls.take k,yb9 c = true) (fun k=>yO [(38,.c (.sl 4 (w.Calls.map CallT.enc))),(39,.c (.i w.Calls.length)),(40,.c (.i k))] []) (fun k=>w.Calls.length - k) 0 (by simp) (by apply yj <;> simp) ?_
 rintro k ⟨hk,hall⟩
 rcases Nat.lt_or_ge k w.Calls.length with hlt | hge
 ·obtain ⟨c,hc⟩ : ∃ c,w.Calls[k]? = some c:=⟨_,List.getElem?_eq_getElem hlt⟩
  simp -dsimp -implicitDefEqProofs [hc,yG hlt]
  refine yc (ytF c (hs.2.2.2 c (List.mem_of_getElem? hc))) ?_
  cases h7 : yb9 c with
  | false=>simp -dsimp -implicitDefEqProofs; exact wk7 hc h7
  | true =>
   simp -dsimp -implicitDefEqProofs
   exact ⟨yw hlt hlen,k + 1,⟨hlt,yL (p:=yb9) hc hall h7⟩,by omega,by apply yj <;> simp⟩
 ·simp -dsimp -implicitDefEqProofs [yaB hge]
  have h7:=yX (p:=yb9) hge hall
  have h6' : w.Calls.length ≤ 24:=by omega
  simp [ybd,h1,h2,h3,h4,h5,h6',h7]
theorem yuI (w : Work) (hs : w.small) : yB Tryz.prog 116 [.agg (w.enc.map .c)] (.c (.b (ybd w))):=by
 refine yh yqn ?_
 simp -dsimp -implicitDefEqProofs
 refine yg (ι:=Nat) (fun k=>k ≤ w.Calls.length ∧ ∀ c ∈ w.Calls.take k,yb9 c = true) (fun k=>yO [(1,.box 1 0),(3,.c (.i k))] [(1,.box (w.enc.map .c))]) (fun k=>w.Calls.length - k) 0 (by simp) (by apply yj <;> simp) ?_
 rintro k ⟨hk,hall⟩
 rcases Nat.lt_or_ge k w.Calls.length with hlt | hge
 ·obtain ⟨c,hc⟩ : ∃ c,w.Calls[k]? = some c:=⟨_,List.getElem?_eq_getElem hlt⟩
  simp -dsimp -implicitDefEqProofs [hc,yG hlt]
  intro hlen
  refine yc (yt9 c (hs.2.2.2 c (List.mem_of_getElem? hc))) ?_
  cases h7 : yb9 c with
  | false=>simp -dsimp -implicitDefEqProofs; exact wk7 hc h7
  | true =>
   simp -dsimp -implicitDefEqProofs
   exact ⟨yw hlt hlen,k + 1,⟨hlt,yL (p:=yb9) hc hall h7⟩,by omega,by apply yj <;> simp⟩
 ·simp -dsimp -implicitDefEqProofs [yaB hge]
  have h7:=yX (p:=yb9) hge hall
  intro _
  refine ⟨fun h6=>?_,fun h6=>(wk6 (by omega))⟩
  have h6' : w.Calls.length ≤ 24:=by omega
  refine yc (ytO w.Lock hs.1) ?_
  cases h1 : ybg w.Lock with
  | false=>simp -dsimp -implicitDefEqProofs; exact wk1 h1
  | true =>
  simp -dsimp -implicitDefEqProofs
  refine yc (yd2 w.Weir) ?_
  cases h2 : yaH w.Weir with
  | false=>simp -dsimp -implicitDefEqProofs; exact wk2 h2
  | true =>
  simp -dsimp -implicitDefEqProofs
  refine yc (yiX w.Rule) ?_
  cases h3 : yca w.Rule with
  | false=>simp -dsimp -implicitDefEqProofs; exact wk3 h3
  | true =>
  simp -dsimp -implicitDefEqProofs
  refine yc (yrd w.Pauses) ?_
  cases h4 : ycD w.Pauses with
  | false=>simp -dsimp -implicitDefEqProofs; exact wk4 h4
  | true =>
  simp -dsimp -implicitDefEqProofs
  refine yc (yuW w.Turn) ?_
  simp -dsimp -implicitDefEqProofs
  simp [ybd,h1,h2,h3,h4,h6',h7]
def ygY (xs : List Entry) (l : Int) : Int:=szS xs.length l
def ykU : List Entry → Prop:=ycs fun _=>True
theorem ykP : yey ygY ykU:=yhU
theorem yuw (xs : List Entry) (l : Int) (h0 : 0 ≤ l) (h1 : l ≤ 1048576) : yB Tryz.prog 19 [.c (.sl 5 (xs.map Entry.enc)),.c (.i l)] (.c (.i (ygY xs l))):=by
 refine yh ynm ?_
 simp -dsimp -implicitDefEqProofs [yix,ygY,szS]
 intro hl
 unfold maxLen at hl
 refine ⟨by unfold inI; omega,fun h=>?_,fun h=>?_⟩ <;> intros <;> omega
theorem yBf (a b : Way) : yB Tryz.prog 63 [.agg (a.enc.map .c),.agg (b.enc.map .c)] (.c (.b (decide (a = b)))):=by
 refine yh ysB ?_
 obtain ⟨a0,a1⟩:=a
 obtain ⟨b0,b1⟩:=b
 simp -dsimp -implicitDefEqProofs [ykN,Way.mk.injEq]
 refine ⟨fun h=>by simp_all,fun h0=>?_⟩
 refine ⟨fun h=>by simp_all,fun h1=>?_⟩
 simp_all
-- []Reach
def yd8 : List Reach → Int → Int:=yeE ycy
def ycN : List Reach → Prop:=ycs Reach.small
theorem ykV : yey yd8 ycN:=ygj ymW
theorem yuf (xs : List Reach) (l : Int) (h0 : 0 ≤ l) (h1 : l ≤ 1048576) : yB Tryz.prog 12 [.c (.sl 3 (xs.map Reach.enc)),.c (.i l)] (.c (.i (yd8 xs l))):=by
 refine yh ynv ?_
 simp -dsimp -implicitDefEqProofs
 intro hl
 have hs : szS xs.length l = if l - xs.length < 0 then -1 else l - xs.length:=rfl
 refine ⟨by unfold maxLen at hl; unfold inI; omega,fun h=>?_,fun h=>?_⟩
 ·simp [yd8,yeE,ybm,hs,h]
 have h' : 0 ≤ l - xs.length:=by omega
 have e0 : yd8 xs l = yaw ycy xs (l - xs.length):=by
  have : szS xs.length l = l - xs.length:=by rw [hs,if_neg (by omega)]
  simp only [yd8,yeE]
  rw [this,yu h']
 refine yg (ι:=Nat × Int) (fun p=>p.1 ≤ xs.length ∧ 0 ≤ p.2 ∧ p.2 ≤ 1048576 ∧ yaw ycy (xs.drop p.1) p.2 = yd8 xs l) (fun p=>yO [(0,.c (.sl 3 (xs.map Reach.enc))),(1,.c (.i p.2)),(5,.c (.i p.1))] []) (fun p=>xs.length - p.1) (0,l - xs.length) ⟨by simp,h',by simp only; omega,by simp [e0]⟩ (by apply yj <;> simp) ?_
 rintro ⟨k,q⟩ ⟨hk,hq0,hq1,hf⟩
 simp only at hk hq0 hq1 hf
 rcases Nat.lt_or_ge k xs.length with hlt | hge
 ·obtain ⟨e,he⟩ : ∃ e,xs[k]? = some e:=⟨_,List.getElem?_eq_getElem hlt⟩
  have hd : xs.drop k = e :: xs.drop (k + 1):=by
   rw [List.drop_eq_getElem_cons hlt,(List.getElem?_eq_some_iff.1 he).2]
  rw [hd,yaw] at hf
  simp -dsimp -implicitDefEqProofs [he,yG hlt]
  refine fun _=>yaQ (yvH e q hq0 hq1) (by simp) rfl ?_
  simp -dsimp -implicitDefEqProofs
  refine ⟨fun h=>by rw [← hf,yK h],fun h=>⟨yw hlt hl,k + 1,⟨ycy e q,?_⟩⟩⟩
  rw [yu h] at hf
  have hle : ycy e q ≤ 1048576:=by
   rcases ymW e q hq0 hq1 with e1 | e1
   ·omega
   ·omega
  exact ⟨⟨hlt,h,hle,hf⟩,by omega,by apply yj <;> simp⟩
 ·simp -dsimp -implicitDefEqProofs [yaB hge]
  rw [List.drop_of_length_le hge] at hf
  intro _
  first | simpa [yaw] using hf | simpa [yaw] using hf.symm
theorem ywf (xs : List Reach) (hl : ycN xs) : yB Tryz.prog 23 [.c (.sl 3 (xs.map Reach.enc))] (.c (.sl 3 (xs.map Reach.enc))):=by
 refine yh yii ?_
 simp -dsimp -implicitDefEqProofs
 intro hlen
 have hl1:=hl.1
 refine ⟨by omega,?_⟩
 refine yg (ι:=Nat) (fun k=>k ≤ xs.length) (fun k=>yO [(0,.c (.sl 3 (xs.map Reach.enc))),(3,.own 7 3 xs.length),(4,.c (.i k))] [(7,.row 3 (partly Reach.enc [.sl 2 [],.i 0,.sl 1 []] xs k))]) (fun k=>xs.length - k) 0 (by simp) (by apply yj <;> simp [yab]) ?_
 rintro k hk
 rcases Nat.lt_or_ge k xs.length with hlt | hge
 ·obtain ⟨e,he⟩ : ∃ e,xs[k]? = some e:=⟨_,List.getElem?_eq_getElem hlt⟩
  have hs:=yaj (f:=Reach.enc) (z:=[.sl 2 [],.i 0,.sl 1 []]) he
  have hd:=yav (f:=Reach.enc) (z:=[.sl 2 [],.i 0,.sl 1 []]) (n:=3) rfl hlt
  simp only [Reach.enc] at hs
  simp -dsimp -implicitDefEqProofs [he,yG hlt]
  refine fun _=>yaP (yxy e (hl.2 e (List.mem_of_getElem? he))) (by simp) rfl ?_
  simp -dsimp -implicitDefEqProofs [yG hlt,yak hk,hd,hs]
  exact ⟨hlt,yw hlt hlen,k + 1,hlt,by omega,by apply yj <;> simp⟩
 ·simp -dsimp -implicitDefEqProofs [yaB hge]
  intro _
  rw [yam hge,List.take_of_length_le (by simp)]
theorem ywC (es fs : List Reach) : yB Tryz.prog 33 [.c (.sl 3 (es.map Reach.enc)),.c (.sl 3 (fs.map Reach.enc))] (.c (.b (decide (es = fs)))):=by
 refine yh ynu ?_
 simp -dsimp -implicitDefEqProofs
 intro hl1 hl2
 refine ⟨fun h e=>h (by rw [e]),fun hlen=>?_⟩
 have hlen' : es.length = fs.length:=by omega
 refine yg (ι:=Nat) (fun k=>k ≤ es.length ∧ es.take k = fs.take k) (fun k=>yO [(0,.c (.sl 3 (es.map Reach.enc))),(1,.c (.sl 3 (fs.map Reach.enc))),(5,.c (.i k))] []) (fun k=>es.length - k) 0 (by simp) (by apply yj <;> simp) ?_
 rintro k ⟨hk,htk⟩
 rcases Nat.lt_or_ge k es.length with hlt | hge
 ·obtain ⟨e,he⟩ : ∃ e,es[k]? = some e:=⟨_,List.getElem?_eq_getElem hlt⟩
  obtain ⟨f,hf⟩ : ∃ f,fs[k]? = some f:=⟨_,List.getElem?_eq_getElem (by omega)⟩
  simp -dsimp -implicitDefEqProofs [he,hf,yG hlt,yG (hlen' ▸ hlt)]
  intro _
  refine yaC (yx6 e f) ?_
  simp -dsimp -implicitDefEqProofs
  refine ⟨fun h=>ybG he hf h,fun h=>⟨yw hlt hl1,k + 1,⟨hlt,yaR he hf htk h⟩,by omega,by apply yj <;> simp⟩⟩
 ·simp -dsimp -implicitDefEqProofs [yaB hge]
  intro _
  exact ybf hge hlen' htk
-- []Way
def yk3 (xs : List Way) (l : Int) : Int:=szS xs.length l
def yhr : List Way → Prop:=ycs fun _=>True
theorem ypU : yey yk3 yhr:=yhU
theorem yxL (xs : List Way) (l : Int) (h0 : 0 ≤ l) (h1 : l ≤ 1048576) : yB Tryz.prog 13 [.c (.sl 2 (xs.map Way.enc)),.c (.i l)] (.c (.i (yk3 xs l))):=by
 refine yh yqz ?_
 simp -dsimp -implicitDefEqProofs [yj9,yk3,szS]
 intro hl
 unfold maxLen at hl
 refine ⟨by unfold inI; omega,fun h=>?_,fun h=>?_⟩ <;> intros <;> omega
theorem yzL (xs : List Way) (hl : yhr xs) : yB Tryz.prog 24 [.c (.sl 2 (xs.map Way.enc))] (.c (.sl 2 (xs.map Way.enc))):=by
 refine yh yj5 ?_
 simp -dsimp -implicitDefEqProofs
 intro hlen
 have hl1:=hl.1
 refine ⟨by omega,?_⟩
 refine yg (ι:=Nat) (fun k=>k ≤ xs.length) (fun k=>yO [(0,.c (.sl 2 (xs.map Way.enc))),(3,.own 7 2 xs.length),(4,.c (.i k))] [(7,.row 2 (partly Way.enc [.i 0,.i 0] xs k))]) (fun k=>xs.length - k) 0 (by simp) (by apply yj <;> simp [yab]) ?_
 rintro k hk
 rcases Nat.lt_or_ge k xs.length with hlt | hge
 ·obtain ⟨e,he⟩ : ∃ e,xs[k]? = some e:=⟨_,List.getElem?_eq_getElem hlt⟩
  have hs:=yaj (f:=Way.enc) (z:=[.i 0,.i 0]) he
  have hd:=yav (f:=Way.enc) (z:=[.i 0,.i 0]) (n:=2) rfl hlt
  simp only [Way.enc] at hs
  simp -dsimp -implicitDefEqProofs [he,yG hlt]
  refine fun _=>yaP (yxc e ) (by simp) rfl ?_
  simp -dsimp -implicitDefEqProofs [yG hlt,yak hk,hd,hs]
  exact ⟨hlt,yw hlt hlen,k + 1,hlt,by omega,by apply yj <;> simp⟩
 ·simp -dsimp -implicitDefEqProofs [yaB hge]
  intro _
  rw [yam hge,List.take_of_length_le (by simp)]
theorem yzd (es fs : List Way) : yB Tryz.prog 34 [.c (.sl 2 (es.map Way.enc)),.c (.sl 2 (fs.map Way.enc))] (.c (.b (decide (es = fs)))):=by
 refine yh yqr ?_
 simp -dsimp -implicitDefEqProofs
 intro hl1 hl2
 refine ⟨fun h e=>h (by rw [e]),fun hlen=>?_⟩
 have hlen' : es.length = fs.length:=by omega
 refine yg (ι:=Nat) (fun k=>k ≤ es.length ∧ es.take k = fs.take k) (fun k=>yO [(0,.c (.sl 2 (es.map Way.enc))),(1,.c (.sl 2 (fs.map Way.enc))),(5,.c (.i k))] []) (fun k=>es.length - k) 0 (by simp) (by apply yj <;> simp) ?_
 rintro k ⟨hk,htk⟩
 rcases Nat.lt_or_ge k es.length with hlt | hge
 ·obtain ⟨e,he⟩ : ∃ e,es[k]? = some e:=⟨_,List.getElem?_eq_getElem hlt⟩
  obtain ⟨f,hf⟩ : ∃ f,fs[k]? = some f:=⟨_,List.getElem?_eq_getElem (by omega)⟩
  simp -dsimp -implicitDefEqProofs [he,hf,yG hlt,yG (hlen' ▸ hlt)]
  intro _
  refine yaC (yBf e f) ?_
  simp -dsimp -implicitDefEqProofs
  refine ⟨fun h=>ybG he hf h,fun h=>⟨yw hlt hl1,k + 1,⟨hlt,yaR he hf htk h⟩,by omega,by apply yj <;> simp⟩⟩
 ·simp -dsimp -implicitDefEqProofs [yaB hge]
  intro _
  exact ybf hge hlen' htk
-- []Work
def yfc : List Work → Int → Int:=yeE ycY
def yc8 : List Work → Prop:=ycs Work.small
theorem ym4 : yey yfc yc8:=ygj yn3
theorem yv0 (xs : List Work) (l : Int) (h0 : 0 ≤ l) (h1 : l ≤ 1048576) : yB Tryz.prog 14 [.c (.sl 22 (xs.map Work.enc)),.c (.i l)] (.c (.i (yfc xs l))):=by
 refine yh ypK ?_
 simp -dsimp -implicitDefEqProofs
 intro hl
 have hs : szS xs.length l = if l - xs.length < 0 then -1 else l - xs.length:=rfl
 refine ⟨by unfold maxLen at hl; unfold inI; omega,fun h=>?_,fun h=>?_⟩
 ·simp [yfc,yeE,ybm,hs,h]
 have h' : 0 ≤ l - xs.length:=by omega
 have e0 : yfc xs l = yaw ycY xs (l - xs.length):=by
  have : szS xs.length l = l - xs.length:=by rw [hs,if_neg (by omega)]
  simp only [yfc,yeE]
  rw [this,yu h']
 refine yg (ι:=Nat × Int) (fun p=>p.1 ≤ xs.length ∧ 0 ≤ p.2 ∧ p.2 ≤ 1048576 ∧ yaw ycY (xs.drop p.1) p.2 = yfc xs l) (fun p=>yO [(0,.c (.sl 22 (xs.map Work.enc))),(1,.c (.i p.2)),(5,.c (.i p.1))] []) (fun p=>xs.length - p.1) (0,l - xs.length) ⟨by simp,h',by simp only; omega,by simp [e0]⟩ (by apply yj <;> simp) ?_
 rintro ⟨k,q⟩ ⟨hk,hq0,hq1,hf⟩
 simp only at hk hq0 hq1 hf
 rcases Nat.lt_or_ge k xs.length with hlt | hge
 ·obtain ⟨e,he⟩ : ∃ e,xs[k]? = some e:=⟨_,List.getElem?_eq_getElem hlt⟩
  have hd : xs.drop k = e :: xs.drop (k + 1):=by
   rw [List.drop_eq_getElem_cons hlt,(List.getElem?_eq_some_iff.1 he).2]
  rw [hd,yaw] at hf
  simp -dsimp -implicitDefEqProofs [he,yG hlt]
  refine fun _=>yaQ (yym e q hq0 hq1) (by simp) rfl ?_
  simp -dsimp -implicitDefEqProofs
  refine ⟨fun h=>by rw [← hf,yK h],fun h=>⟨yw hlt hl,k + 1,⟨ycY e q,?_⟩⟩⟩
  rw [yu h] at hf
  have hle : ycY e q ≤ 1048576:=by
   rcases yn3 e q hq0 hq1 with e1 | e1
   ·omega
   ·omega
  exact ⟨⟨hlt,h,hle,hf⟩,by omega,by apply yj <;> simp⟩
 ·simp -dsimp -implicitDefEqProofs [yaB hge]
  rw [List.drop_of_length_le hge] at hf
  intro _
  first | simpa [yaw] using hf | simpa [yaw] using hf.symm
theorem yyh (xs : List Work) (hl : yc8 xs) : yB Tryz.prog 25 [.c (.sl 22 (xs.map Work.enc))] (.c (.sl 22 (xs.map Work.enc))):=by
 refine yh yjm ?_
 simp -dsimp -implicitDefEqProofs
 intro hlen
 have hl1:=hl.1
 refine ⟨by omega,?_⟩
 refine yg (ι:=Nat) (fun k=>k ≤ xs.length) (fun k=>yO [(0,.c (.sl 22 (xs.map Work.enc))),(3,.own 7 22 xs.length),(4,.c (.i k))] [(7,.row 22 (partly Work.enc [.i 0,.i 0,.i 0,.i 0,.i 0,.i 0,.i 0,.i 0,.i 0,.sl 2 [],.i 0,.i 0,.i 0,.i 0,.i 0,.i 0,.i 0,.i 0,.sl 2 [],.b false,.i 0,.sl 4 []] xs k))]) (fun k=>xs.length - k) 0 (by simp) (by apply yj <;> simp [yab]) ?_
 rintro k hk
 rcases Nat.lt_or_ge k xs.length with hlt | hge
 ·obtain ⟨e,he⟩ : ∃ e,xs[k]? = some e:=⟨_,List.getElem?_eq_getElem hlt⟩
  have hs:=yaj (f:=Work.enc) (z:=[.i 0,.i 0,.i 0,.i 0,.i 0,.i 0,.i 0,.i 0,.i 0,.sl 2 [],.i 0,.i 0,.i 0,.i 0,.i 0,.i 0,.i 0,.i 0,.sl 2 [],.b false,.i 0,.sl 4 []]) he
  have hd:=yav (f:=Work.enc) (z:=[.i 0,.i 0,.i 0,.i 0,.i 0,.i 0,.i 0,.i 0,.i 0,.sl 2 [],.i 0,.i 0,.i 0,.i 0,.i 0,.i 0,.i 0,.i 0,.sl 2 [],.b false,.i 0,.sl 4 []]) (n:=22) rfl hlt
  simp only [Work.enc,Lock.enc,Weir.enc,Rule.enc,Turn.enc] at hs
  simp -dsimp -implicitDefEqProofs [he,yG hlt]
  refine fun _=>yaP (yzs e (hl.2 e (List.mem_of_getElem? he))) (by simp) rfl ?_
  simp -dsimp -implicitDefEqProofs [yG hlt,yak hk,hd,hs]
  exact ⟨hlt,yw hlt hlen,k + 1,hlt,by omega,by apply yj <;> simp⟩
 ·simp -dsimp -implicitDefEqProofs [yaB hge]
  intro _
  rw [yam hge,List.take_of_length_le (by simp)]
theorem yyy (es fs : List Work) : yB Tryz.prog 35 [.c (.sl 22 (es.map Work.enc)),.c (.sl 22 (fs.map Work.enc))] (.c (.b (decide (es = fs)))):=by
 refine yh yo1 ?_
 simp -dsimp -implicitDefEqProofs
 intro hl1 hl2
 refine ⟨fun h e=>h (by rw [e]),fun hlen=>?_⟩
 have hlen' : es.length = fs.length:=by omega
 refine yg (ι:=Nat) (fun k=>k ≤ es.length ∧ es.take k = fs.take k) (fun k=>yO [(0,.c (.sl 22 (es.map Work.enc))),(1,.c (.sl 22 (fs.map Work.enc))),(5,.c (.i k))] []) (fun k=>es.length - k) 0 (by simp) (by apply yj <;> simp) ?_
 rintro k ⟨hk,htk⟩
 rcases Nat.lt_or_ge k es.length with hlt | hge
 ·obtain ⟨e,he⟩ : ∃ e,es[k]? = some e:=⟨_,List.getElem?_eq_getElem hlt⟩
  obtain ⟨f,hf⟩ : ∃ f,fs[k]? = some f:=⟨_,List.getElem?_eq_getElem (by omega)⟩
  simp -dsimp -implicitDefEqProofs [he,hf,yG hlt,yG (hlen' ▸ hlt)]
  intro _
  refine yaC (yy2 e f) ?_
  simp -dsimp -implicitDefEqProofs
  refine ⟨fun h=>ybG he hf h,fun h=>⟨yw hlt hl1,k + 1,⟨hlt,yaR he hf htk h⟩,by omega,by apply yj <;> simp⟩⟩
 ·simp -dsimp -implicitDefEqProofs [yaB hge]
  intro _
  exact ybf hge hlen' htk
-- []Mover
def ycf : List Mover → Int → Int:=yeE ycV
def yfK : List Mover → Prop:=ycs Mover.small
theorem ylJ : yey ycf yfK:=ygj ymQ
theorem yuF (xs : List Mover) (l : Int) (h0 : 0 ≤ l) (h1 : l ≤ 1048576) : yB Tryz.prog 50 [.c (.sl 3 (xs.map Mover.enc)),.c (.i l)] (.c (.i (ycf xs l))):=by
 refine yh ynH ?_
 simp -dsimp -implicitDefEqProofs
 intro hl
 have hs : szS xs.length l = if l - xs.length < 0 then -1 else l - xs.length:=rfl
 refine ⟨by unfold maxLen at hl; unfold inI; omega,fun h=>?_,fun h=>?_⟩
 ·simp [ycf,yeE,ybm,hs,h]
 have h' : 0 ≤ l - xs.length:=by omega
 have e0 : ycf xs l = yaw ycV xs (l - xs.length):=by
  have : szS xs.length l = l - xs.length:=by rw [hs,if_neg (by omega)]
  simp only [ycf,yeE]
  rw [this,yu h']
 refine yg (ι:=Nat × Int) (fun p=>p.1 ≤ xs.length ∧ 0 ≤ p.2 ∧ p.2 ≤ 1048576 ∧ yaw ycV (xs.drop p.1) p.2 = ycf xs l) (fun p=>yO [(0,.c (.sl 3 (xs.map Mover.enc))),(1,.c (.i p.2)),(5,.c (.i p.1))] []) (fun p=>xs.length - p.1) (0,l - xs.length) ⟨by simp,h',by simp only; omega,by simp [e0]⟩ (by apply yj <;> simp) ?_
 rintro ⟨k,q⟩ ⟨hk,hq0,hq1,hf⟩
 simp only at hk hq0 hq1 hf
 rcases Nat.lt_or_ge k xs.length with hlt | hge
 ·obtain ⟨e,he⟩ : ∃ e,xs[k]? = some e:=⟨_,List.getElem?_eq_getElem hlt⟩
  have hd : xs.drop k = e :: xs.drop (k + 1):=by
   rw [List.drop_eq_getElem_cons hlt,(List.getElem?_eq_some_iff.1 he).2]
  rw [hd,yaw] at hf
  simp -dsimp -implicitDefEqProofs [he,yG hlt]
  refine fun _=>yaQ (yvT e q hq0 hq1) (by simp) rfl ?_
  simp -dsimp -implicitDefEqProofs
  refine ⟨fun h=>by rw [← hf,yK h],fun h=>⟨yw hlt hl,k + 1,⟨ycV e q,?_⟩⟩⟩
  rw [yu h] at hf
  have hle : ycV e q ≤ 1048576:=by
   rcases ymQ e q hq0 hq1 with e1 | e1
   ·omega
   ·omega
  exact ⟨⟨hlt,h,hle,hf⟩,by omega,by apply yj <;> simp⟩
 ·simp -dsimp -implicitDefEqProofs [yaB hge]
  rw [List.drop_of_length_le hge] at hf
  intro _
  first | simpa [yaw] using hf | simpa [yaw] using hf.symm
theorem ywy (xs : List Mover) (hl : yfK xs) : yB Tryz.prog 57 [.c (.sl 3 (xs.map Mover.enc))] (.c (.sl 3 (xs.map Mover.enc))):=by
 refine yh yiz ?_
 simp -dsimp -implicitDefEqProofs
 intro hlen
 have hl1:=hl.1
 refine ⟨by omega,?_⟩
 refine yg (ι:=Nat) (fun k=>k ≤ xs.length) (fun k=>yO [(0,.c (.sl 3 (xs.map Mover.enc))),(3,.own 7 3 xs.length),(4,.c (.i k))] [(7,.row 3 (partly Mover.enc [.b false,.sl 1 [],.i 0] xs k))]) (fun k=>xs.length - k) 0 (by simp) (by apply yj <;> simp [yab]) ?_
 rintro k hk
 rcases Nat.lt_or_ge k xs.length with hlt | hge
 ·obtain ⟨e,he⟩ : ∃ e,xs[k]? = some e:=⟨_,List.getElem?_eq_getElem hlt⟩
  have hs:=yaj (f:=Mover.enc) (z:=[.b false,.sl 1 [],.i 0]) he
  have hd:=yav (f:=Mover.enc) (z:=[.b false,.sl 1 [],.i 0]) (n:=3) rfl hlt
  simp only [Mover.enc,Train.enc] at hs
  simp -dsimp -implicitDefEqProofs [he,yG hlt]
  refine fun _=>yaP (yyk e (hl.2 e (List.mem_of_getElem? he))) (by simp) rfl ?_
  simp -dsimp -implicitDefEqProofs [yG hlt,yak hk,hd,hs]
  exact ⟨hlt,yw hlt hlen,k + 1,hlt,by omega,by apply yj <;> simp⟩
 ·simp -dsimp -implicitDefEqProofs [yaB hge]
  intro _
  rw [yam hge,List.take_of_length_le (by simp)]
theorem ywq (es fs : List Mover) : yB Tryz.prog 65 [.c (.sl 3 (es.map Mover.enc)),.c (.sl 3 (fs.map Mover.enc))] (.c (.b (decide (es = fs)))):=by
 refine yh ynq ?_
 simp -dsimp -implicitDefEqProofs
 intro hl1 hl2
 refine ⟨fun h e=>h (by rw [e]),fun hlen=>?_⟩
 have hlen' : es.length = fs.length:=by omega
 refine yg (ι:=Nat) (fun k=>k ≤ es.length ∧ es.take k = fs.take k) (fun k=>yO [(0,.c (.sl 3 (es.map Mover.enc))),(1,.c (.sl 3 (fs.map Mover.enc))),(5,.c (.i k))] []) (fun k=>es.length - k) 0 (by simp) (by apply yj <;> simp) ?_
 rintro k ⟨hk,htk⟩
 rcases Nat.lt_or_ge k es.length with hlt | hge
 ·obtain ⟨e,he⟩ : ∃ e,es[k]? = some e:=⟨_,List.getElem?_eq_getElem hlt⟩
  obtain ⟨f,hf⟩ : ∃ f,fs[k]? = some f:=⟨_,List.getElem?_eq_getElem (by omega)⟩
  simp -dsimp -implicitDefEqProofs [he,hf,yG hlt,yG (hlen' ▸ hlt)]
  intro _
  refine yaC (yxY e f) ?_
  simp -dsimp -implicitDefEqProofs
  refine ⟨fun h=>ybG he hf h,fun h=>⟨yw hlt hl1,k + 1,⟨hlt,yaR he hf htk h⟩,by omega,by apply yj <;> simp⟩⟩
 ·simp -dsimp -implicitDefEqProofs [yaB hge]
  intro _
  exact ybf hge hlen' htk
abbrev yZ (xs : List Mover) : List C:=[.sl 3 (xs.map Mover.enc)]
-- [][]Mover
def ydg : List (List Mover) → Int → Int:=yeE ycf
def ye2 : List (List Mover) → Prop:=ycs yfK
theorem yjX : yey ydg ye2:=ygj ylJ
theorem ytd (xs : List (List Mover)) (l : Int) (h0 : 0 ≤ l) (h1 : l ≤ 1048576) : yB Tryz.prog 15 [.c (.sl 1 (xs.map yZ)),.c (.i l)] (.c (.i (ydg xs l))):=by
 refine yh yma ?_
 simp -dsimp -implicitDefEqProofs
 intro hl
 have hs : szS xs.length l = if l - xs.length < 0 then -1 else l - xs.length:=rfl
 refine ⟨by unfold maxLen at hl; unfold inI; omega,fun h=>?_,fun h=>?_⟩
 ·simp [ydg,yeE,ybm,hs,h]
 have h' : 0 ≤ l - xs.length:=by omega
 have e0 : ydg xs l = yaw ycf xs (l - xs.length):=by
  have : szS xs.length l = l - xs.length:=by rw [hs,if_neg (by omega)]
  simp only [ydg,yeE]
  rw [this,yu h']
 refine yg (ι:=Nat × Int) (fun p=>p.1 ≤ xs.length ∧ 0 ≤ p.2 ∧ p.2 ≤ 1048576 ∧ yaw ycf (xs.drop p.1) p.2 = ydg xs l) (fun p=>yO [(0,.c (.sl 1 (xs.map yZ))),(1,.c (.i p.2)),(5,.c (.i p.1))] []) (fun p=>xs.length - p.1) (0,l - xs.length) ⟨by simp,h',by simp only; omega,by simp [e0]⟩ (by apply yj <;> simp) ?_
 rintro ⟨k,q⟩ ⟨hk,hq0,hq1,hf⟩
 simp only at hk hq0 hq1 hf
 rcases Nat.lt_or_ge k xs.length with hlt | hge
 ·obtain ⟨e,he⟩ : ∃ e,xs[k]? = some e:=⟨_,List.getElem?_eq_getElem hlt⟩
  have hd : xs.drop k = e :: xs.drop (k + 1):=by
   rw [List.drop_eq_getElem_cons hlt,(List.getElem?_eq_some_iff.1 he).2]
  rw [hd,yaw] at hf
  simp -dsimp -implicitDefEqProofs [he,yG hlt]
  refine fun _=>yaQ (yuF e q hq0 hq1) (by simp) rfl ?_
  simp -dsimp -implicitDefEqProofs
  refine ⟨fun h=>by rw [← hf,yK h],fun h=>⟨yw hlt hl,k + 1,⟨ycf e q,?_⟩⟩⟩
  rw [yu h] at hf
  have hle : ycf e q ≤ 1048576:=by
   rcases ylJ e q hq0 hq1 with e1 | e1
   ·omega
   ·omega
  exact ⟨⟨hlt,h,hle,hf⟩,by omega,by apply yj <;> simp⟩
 ·simp -dsimp -implicitDefEqProofs [yaB hge]
  rw [List.drop_of_length_le hge] at hf
  intro _
  first | simpa [yaw] using hf | simpa [yaw] using hf.symm
theorem yuh (xs : List (List Mover)) (hl : ye2 xs) : yB Tryz.prog 26 [.c (.sl 1 (xs.map yZ))] (.c (.sl 1 (xs.map yZ))):=by
 refine yh ygW ?_
 simp -dsimp -implicitDefEqProofs
 intro hlen
 have hl1:=hl.1
 refine ⟨by omega,yQd ?_⟩
 simp -dsimp -implicitDefEqProofs
 refine yg (ι:=Nat) (fun k=>k ≤ xs.length) (fun k=>yO [(0,.c (.sl 1 (xs.map yZ))),(3,.own 7 1 xs.length),(4,.c (.i k))] [(7,.row 1 (partly yZ [.sl 3 []] xs k))]) (fun k=>xs.length - k) 0 (by simp) (by apply yj <;> simp [yab]) ?_
 rintro k hk
 rcases Nat.lt_or_ge k xs.length with hlt | hge
 ·obtain ⟨e,he⟩ : ∃ e,xs[k]? = some e:=⟨_,List.getElem?_eq_getElem hlt⟩
  have hs:=yaj (f:=yZ) (z:=[.sl 3 []]) he
  have hd : ((partly yZ [.sl 3 []] xs k)[k]?.getD []).set 0 (.sl 3 (e.map Mover.enc)) = [.sl 3 (e.map Mover.enc)]:=by
   have:=ydK (f:=yZ) (z:=[.sl 3 []]) (n:=1) rfl (fun _=>rfl) hlt
   obtain ⟨x,hx⟩:=List.length_eq_one_iff.1 this
   rw [hx]; rfl
  have hs2 : (partly yZ [.sl 3 []] xs k).set k [.sl 3 (e.map Mover.enc)] = partly yZ [.sl 3 []] xs (k + 1):=hs
  simp -dsimp -implicitDefEqProofs [he,yG hlt]
  refine fun _=>yaP (ywy e (hl.2 e (List.mem_of_getElem? he))) (by simp) rfl ?_
  simp -dsimp -implicitDefEqProofs [yG hlt,yak hk,hd,hs2]
  exact ⟨hlt,yw hlt hlen,k + 1,hlt,by omega,by apply yj <;> simp⟩
 ·simp -dsimp -implicitDefEqProofs [yaB hge]
  intro _
  rw [yam hge,List.take_of_length_le (by simp)]
theorem yvc (es fs : List (List Mover)) : yB Tryz.prog 36 [.c (.sl 1 (es.map yZ)),.c (.sl 1 (fs.map yZ))] (.c (.b (decide (es = fs)))):=by
 refine yh ymn ?_
 simp -dsimp -implicitDefEqProofs
 intro hl1 hl2
 refine ⟨fun h e=>h (by rw [e]),fun hlen=>?_⟩
 have hlen' : es.length = fs.length:=by omega
 refine yg (ι:=Nat) (fun k=>k ≤ es.length ∧ es.take k = fs.take k) (fun k=>yO [(0,.c (.sl 1 (es.map yZ))),(1,.c (.sl 1 (fs.map yZ))),(5,.c (.i k))] []) (fun k=>es.length - k) 0 (by simp) (by apply yj <;> simp) ?_
 rintro k ⟨hk,htk⟩
 rcases Nat.lt_or_ge k es.length with hlt | hge
 ·obtain ⟨e,he⟩ : ∃ e,es[k]? = some e:=⟨_,List.getElem?_eq_getElem hlt⟩
  obtain ⟨f,hf⟩ : ∃ f,fs[k]? = some f:=⟨_,List.getElem?_eq_getElem (by omega)⟩
  simp -dsimp -implicitDefEqProofs [he,hf,yG hlt,yG (hlen' ▸ hlt)]
  intro _
  refine yaC (ywq e f) ?_
  simp -dsimp -implicitDefEqProofs
  refine ⟨fun h=>ybG he hf h,fun h=>⟨yw hlt hl1,k + 1,⟨hlt,yaR he hf htk h⟩,by omega,by apply yj <;> simp⟩⟩
 ·simp -dsimp -implicitDefEqProofs [yaB hge]
  intro _
  exact ybf hge hlen' htk
structure Passing where
 Time : Int
 Work : Int
 Train : Train
 deriving DecidableEq,Inhabited
@[simp] def Passing.enc (e : Passing) : List C:=[.i e.Time,.i e.Work,.b e.Train.Up,.sl 1 (e.Train.Rows.map yai)]
-- Passing
def ybM (e : Passing) (l : Int) : Int:=ybm (yb2 e.Train l) fun l=>l
def Passing.small (e : Passing) : Prop:=e.Train.small
theorem yj0 : yey ybM Passing.small:=by
 intro e l h0 h1
 unfold ybM
 rcases ye7 e.Train _ h0 h1 with e0 | ⟨a0,b0,s0⟩
 ·exact .inl (yK (by omega))
 rw [yu a0]
 exact .inr ⟨a0,by omega,s0⟩
theorem ytC (e : Passing) (l : Int) (h0 : 0 ≤ l) (h1 : l ≤ 1048576) : yB Tryz.prog 52 [.agg (e.enc.map .c),.c (.i l)] (.c (.i (ybM e l))):=by
 refine yh ymq ?_
 simp -dsimp -implicitDefEqProofs
 refine yc (yhF e.Train _ h0 h1) ?_
 simp -dsimp -implicitDefEqProofs
 refine ⟨fun h=>by simp [ybM,yK h],fun p0=>?_⟩
 simp [ybM,yu p0]
theorem ytG (e : Passing) (hl : Passing.small e) : yB Tryz.prog 60 [.agg (e.enc.map .c)] (.agg (e.enc.map .c)):=by
 refine yh yg7 ?_
 simp -dsimp -implicitDefEqProofs
 refine yS (yjt e.Train hl) ?_
 simp -dsimp -implicitDefEqProofs
theorem yu9 (a b : Passing) : yB Tryz.prog 68 [.agg (a.enc.map .c),.agg (b.enc.map .c)] (.c (.b (decide (a = b)))):=by
 refine yh ymw ?_
 obtain ⟨a0,a1,a2⟩:=a
 obtain ⟨b0,b1,b2⟩:=b
 simp -dsimp -implicitDefEqProofs [yhh,Passing.mk.injEq]
 refine ⟨fun h=>by simp_all,fun h0=>?_⟩
 refine ⟨fun h=>by simp_all,fun h1=>?_⟩
 refine yc (yjG a2 b2) ?_
 simp -dsimp -implicitDefEqProofs
 refine ⟨fun h=>by simp_all,fun h2=>?_⟩
 simp_all
-- []Passing
def ycH : List Passing → Int → Int:=yeE ybM
def yeB : List Passing → Prop:=ycs Passing.small
theorem yoN : yey ycH yeB:=ygj yj0
theorem yqp (xs : List Passing) (l : Int) (h0 : 0 ≤ l) (h1 : l ≤ 1048576) : yB Tryz.prog 20 [.c (.sl 4 (xs.map Passing.enc)),.c (.i l)] (.c (.i (ycH xs l))):=by
 refine yh ylD ?_
 simp -dsimp -implicitDefEqProofs
 intro hl
 have hs : szS xs.length l = if l - xs.length < 0 then -1 else l - xs.length:=rfl
 refine ⟨by unfold maxLen at hl; unfold inI; omega,fun h=>?_,fun h=>?_⟩
 ·simp [ycH,yeE,ybm,hs,h]
 have h' : 0 ≤ l - xs.length:=by omega
 have e0 : ycH xs l = yaw ybM xs (l - xs.length):=by
  have : szS xs.length l = l - xs.length:=by rw [hs,if_neg (by omega)]
  simp only [ycH,yeE]
  rw [this,yu h']
 refine yg (ι:=Nat × Int) (fun p=>p.1 ≤ xs.length ∧ 0 ≤ p.2 ∧ p.2 ≤ 1048576 ∧ yaw ybM (xs.drop p.1) p.2 = ycH xs l) (fun p=>yO [(0,.c (.sl 4 (xs.map Passing.enc))),(1,.c (.i p.2)),(5,.c (.i p.1))] []) (fun p=>xs.length - p.1) (0,l - xs.length) ⟨by simp,h',by simp only; omega,by simp [e0]⟩ (by apply yj <;> simp) ?_
 rintro ⟨k,q⟩ ⟨hk,hq0,hq1,hf⟩
 simp only at hk hq0 hq1 hf
 rcases Nat.lt_or_ge k xs.length with hlt | hge
 ·obtain ⟨e,he⟩ : ∃ e,xs[k]? = some e:=⟨_,List.getElem?_eq_getElem hlt⟩
  have hd : xs.drop k = e :: xs.drop (k + 1):=by
   rw [List.drop_eq_getElem_cons hlt,(List.getElem?_eq_some_iff.1 he).2]
  rw [hd,yaw] at hf
  simp -dsimp -implicitDefEqProofs [he,yG hlt]
  refine fun _=>yaQ (ytC e q hq0 hq1) (by simp) rfl ?_
  simp -dsimp -implicitDefEqProofs
  refine ⟨fun h=>by rw [← hf,yK h],fun h=>⟨yw hlt hl,k + 1,⟨ybM e q,?_⟩⟩⟩
  rw [yu h] at hf
  have hle : ybM e q ≤ 1048576:=by
   rcases yj0 e q hq0 hq1 with e1 | e1
   ·omega
   ·omega
  exact ⟨⟨hlt,h,hle,hf⟩,by omega,by apply yj <;> simp⟩
 ·simp -dsimp -implicitDefEqProofs [yaB hge]
  rw [List.drop_of_length_le hge] at hf
  intro _
  first | simpa [yaw] using hf | simpa [yaw] using hf.symm
theorem ysA (xs : List Passing) (hl : yeB xs) : yB Tryz.prog 31 [.c (.sl 4 (xs.map Passing.enc))] (.c (.sl 4 (xs.map Passing.enc))):=by
 refine yh ygz ?_
 simp -dsimp -implicitDefEqProofs
 intro hlen
 have hl1:=hl.1
 refine ⟨by omega,?_⟩
 refine yg (ι:=Nat) (fun k=>k ≤ xs.length) (fun k=>yO [(0,.c (.sl 4 (xs.map Passing.enc))),(3,.own 7 4 xs.length),(4,.c (.i k))] [(7,.row 4 (partly Passing.enc [.i 0,.i 0,.b false,.sl 1 []] xs k))]) (fun k=>xs.length - k) 0 (by simp) (by apply yj <;> simp [yab]) ?_
 rintro k hk
 rcases Nat.lt_or_ge k xs.length with hlt | hge
 ·obtain ⟨e,he⟩ : ∃ e,xs[k]? = some e:=⟨_,List.getElem?_eq_getElem hlt⟩
  have hs:=yaj (f:=Passing.enc) (z:=[.i 0,.i 0,.b false,.sl 1 []]) he
  have hd:=yav (f:=Passing.enc) (z:=[.i 0,.i 0,.b false,.sl 1 []]) (n:=4) rfl hlt
  simp only [Passing.enc,Train.enc] at hs
  simp -dsimp -implicitDefEqProofs [he,yG hlt]
  refine fun _=>yaP (ytG e (hl.2 e (List.mem_of_getElem? he))) (by simp) rfl ?_
  simp -dsimp -implicitDefEqProofs [yG hlt,yak hk,hd,hs]
  exact ⟨hlt,yw hlt hlen,k + 1,hlt,by omega,by apply yj <;> simp⟩
 ·simp -dsimp -implicitDefEqProofs [yaB hge]
  intro _
  rw [yam hge,List.take_of_length_le (by simp)]
theorem ytz (es fs : List Passing) : yB Tryz.prog 41 [.c (.sl 4 (es.map Passing.enc)),.c (.sl 4 (fs.map Passing.enc))] (.c (.b (decide (es = fs)))):=by
 refine yh ylI ?_
 simp -dsimp -implicitDefEqProofs
 intro hl1 hl2
 refine ⟨fun h e=>h (by rw [e]),fun hlen=>?_⟩
 have hlen' : es.length = fs.length:=by omega
 refine yg (ι:=Nat) (fun k=>k ≤ es.length ∧ es.take k = fs.take k) (fun k=>yO [(0,.c (.sl 4 (es.map Passing.enc))),(1,.c (.sl 4 (fs.map Passing.enc))),(5,.c (.i k))] []) (fun k=>es.length - k) 0 (by simp) (by apply yj <;> simp) ?_
 rintro k ⟨hk,htk⟩
 rcases Nat.lt_or_ge k es.length with hlt | hge
 ·obtain ⟨e,he⟩ : ∃ e,es[k]? = some e:=⟨_,List.getElem?_eq_getElem hlt⟩
  obtain ⟨f,hf⟩ : ∃ f,fs[k]? = some f:=⟨_,List.getElem?_eq_getElem (by omega)⟩
  simp -dsimp -implicitDefEqProofs [he,hf,yG hlt,yG (hlen' ▸ hlt)]
  intro _
  refine yaC (yu9 e f) ?_
  simp -dsimp -implicitDefEqProofs
  refine ⟨fun h=>ybG he hf h,fun h=>⟨yw hlt hl1,k + 1,⟨hlt,yaR he hf htk h⟩,by omega,by apply yj <;> simp⟩⟩
 ·simp -dsimp -implicitDefEqProofs [yaB hge]
  intro _
  exact ybf hge hlen' htk
structure Waterway where
 Time : Int
 Reaches : List Reach
 Ways : List Way
 Works : List Work
 Movers : List (List Mover)
 Arrived : List Train
 Entered : List Int
 Tariff : Tariff
 Book : List Entry
 Passings : List Passing
 Start : Int
 In : Int
 Out : Int
 deriving DecidableEq
@[simp] def Waterway.enc (e : Waterway) : List C:=[.i e.Time,.sl 3 (e.Reaches.map Reach.enc),.sl 2 (e.Ways.map Way.enc),.sl 22 (e.Works.map Work.enc),.sl 1 (e.Movers.map yZ),.sl 2 (e.Arrived.map Train.enc),.sl 1 (e.Entered.map yJ),.i e.Tariff.Base,.i e.Tariff.PerArea,.sl 1 (e.Tariff.PerClass.map yJ),.sl 1 (e.Tariff.Weights.map yJ),.sl 5 (e.Book.map Entry.enc),.sl 4 (e.Passings.map Passing.enc),.i e.Start,.i e.In,.i e.Out]
-- Waterway
def yaX (e : Waterway) (l : Int) : Int:=ybm (yd8 e.Reaches l) fun l=>ybm (yk3 e.Ways l) fun l=>ybm (yfc e.Works l) fun l=>ybm (ydg e.Movers l) fun l=>ybm (ydk e.Arrived l) fun l=>ybm (yhJ e.Entered l) fun l=>ybm (ydq e.Tariff l) fun l=>ybm (ygY e.Book l) fun l=>ybm (ycH e.Passings l) fun l=>l
def Waterway.small (e : Waterway) : Prop:=ycN e.Reaches ∧ yhr e.Ways ∧ yc8 e.Works ∧ ye2 e.Movers ∧ ybV e.Arrived ∧ ykx e.Entered ∧ e.Tariff.small ∧ ykU e.Book ∧ yeB e.Passings
theorem yqh : yey yaX Waterway.small:=by
 intro e l h0 h1
 unfold yaX
 rcases ykV e.Reaches _ h0 h1 with e0 | ⟨a0,b0,s0⟩
 ·exact .inl (yK (by omega))
 rw [yu a0]
 rcases ypU e.Ways _ a0 (by omega) with e1 | ⟨a1,b1,s1⟩
 ·exact .inl (yK (by omega))
 rw [yu a1]
 rcases ym4 e.Works _ a1 (by omega) with e2 | ⟨a2,b2,s2⟩
 ·exact .inl (yK (by omega))
 rw [yu a2]
 rcases yjX e.Movers _ a2 (by omega) with e3 | ⟨a3,b3,s3⟩
 ·exact .inl (yK (by omega))
 rw [yu a3]
 rcases yhu e.Arrived _ a3 (by omega) with e4 | ⟨a4,b4,s4⟩
 ·exact .inl (yK (by omega))
 rw [yu a4]
 rcases yeY e.Entered _ a4 (by omega) with e5 | ⟨a5,b5,s5⟩
 ·exact .inl (yK (by omega))
 rw [yu a5]
 rcases ylo e.Tariff _ a5 (by omega) with e6 | ⟨a6,b6,s6⟩
 ·exact .inl (yK (by omega))
 rw [yu a6]
 rcases ykP e.Book _ a6 (by omega) with e7 | ⟨a7,b7,s7⟩
 ·exact .inl (yK (by omega))
 rw [yu a7]
 rcases yoN e.Passings _ a7 (by omega) with e8 | ⟨a8,b8,s8⟩
 ·exact .inl (yK (by omega))
 rw [yu a8]
 exact .inr ⟨a8,by omega,s0,s1,s2,s3,s4,s5,s6,s7,s8⟩
theorem yq5 (e : Waterway) (l : Int) (h0 : 0 ≤ l) (h1 : l ≤ 1048576) : yB Tryz.prog 5 [.agg (e.enc.map .c),.c (.i l)] (.c (.i (yaX e l))):=by
 refine yh ylx ?_
 simp -dsimp -implicitDefEqProofs
 refine yc (yuf e.Reaches _ h0 h1) ?_
 simp -dsimp -implicitDefEqProofs
 refine ⟨fun h=>by simp [yaX,yK h],fun p0=>?_⟩
 have q0:=yin ykV e.Reaches h0 h1 p0
 refine yc (yxL e.Ways _ p0 q0) ?_
 simp -dsimp -implicitDefEqProofs
 refine ⟨fun h=>by simp [yaX,yu p0,yK h],fun p1=>?_⟩
 have q1:=yin ypU e.Ways p0 q0 p1
 refine yc (yv0 e.Works _ p1 q1) ?_
 simp -dsimp -implicitDefEqProofs
 refine ⟨fun h=>by simp [yaX,yu p0,yu p1,yK h],fun p2=>?_⟩
 have q2:=yin ym4 e.Works p1 q1 p2
 refine yc (ytd e.Movers _ p2 q2) ?_
 simp -dsimp -implicitDefEqProofs
 refine ⟨fun h=>by simp [yaX,yu p0,yu p1,yu p2,yK h],fun p3=>?_⟩
 have q3:=yin yjX e.Movers p2 q2 p3
 refine yc (ym0 e.Arrived _ p3 q3) ?_
 simp -dsimp -implicitDefEqProofs
 refine ⟨fun h=>by simp [yaX,yu p0,yu p1,yu p2,yu p3,yK h],fun p4=>?_⟩
 have q4:=yin yhu e.Arrived p3 q3 p4
 refine yc (yjw e.Entered _ p4 q4) ?_
 simp -dsimp -implicitDefEqProofs
 refine ⟨fun h=>by simp [yaX,yu p0,yu p1,yu p2,yu p3,yu p4,yK h],fun p5=>?_⟩
 have q5:=yin yeY e.Entered p4 q4 p5
 refine yc (yuv e.Tariff _ p5 q5) ?_
 simp -dsimp -implicitDefEqProofs
 refine ⟨fun h=>by simp [yaX,yu p0,yu p1,yu p2,yu p3,yu p4,yu p5,yK h],fun p6=>?_⟩
 have q6:=yin ylo e.Tariff p5 q5 p6
 refine yc (yuw e.Book _ p6 q6) ?_
 simp -dsimp -implicitDefEqProofs
 refine ⟨fun h=>by simp [yaX,yu p0,yu p1,yu p2,yu p3,yu p4,yu p5,yu p6,yK h],fun p7=>?_⟩
 have q7:=yin ykP e.Book p6 q6 p7
 refine yc (yqp e.Passings _ p7 q7) ?_
 simp -dsimp -implicitDefEqProofs
 refine ⟨fun h=>by simp [yaX,yu p0,yu p1,yu p2,yu p3,yu p4,yu p5,yu p6,yu p7,yK h],fun p8=>?_⟩
 simp [yaX,yu p0,yu p1,yu p2,yu p3,yu p4,yu p5,yu p6,yu p7,yu p8]
theorem yib (e : Waterway) (hl : Waterway.small e) : yB Tryz.prog 7 [.agg (e.enc.map .c)] (.agg (e.enc.map .c)):=by
 refine yh ygH ?_
 simp -dsimp -implicitDefEqProofs
 refine yS (ywf e.Reaches (hl.1)) ?_
 simp -dsimp -implicitDefEqProofs
 refine yS (yzL e.Ways (hl.2.1)) ?_
 simp -dsimp -implicitDefEqProofs
 refine yS (yyh e.Works (hl.2.2.1)) ?_
 simp -dsimp -implicitDefEqProofs
 refine yS (yuh e.Movers (hl.2.2.2.1)) ?_
 simp -dsimp -implicitDefEqProofs
 refine yS (ypD e.Arrived (hl.2.2.2.2.1)) ?_
 simp -dsimp -implicitDefEqProofs
 refine yS (ylC e.Entered (hl.2.2.2.2.2.1.1)) ?_
 simp -dsimp -implicitDefEqProofs
 refine yS (ywB e.Tariff (hl.2.2.2.2.2.2.1)) ?_
 simp -dsimp -implicitDefEqProofs
 refine yS (yvG e.Book (hl.2.2.2.2.2.2.2.1.1)) ?_
 simp -dsimp -implicitDefEqProofs
 refine yS (ysA e.Passings (hl.2.2.2.2.2.2.2.2)) ?_
 simp -dsimp -implicitDefEqProofs
theorem yfL (a b : Waterway) : yB Tryz.prog 9 [.agg (a.enc.map .c),.agg (b.enc.map .c)] (.c (.b (decide (a = b)))):=by
 refine yh ylL ?_
 obtain ⟨a0,a1,a2,a3,a4,a5,a6,a7,a8,a9,a10,a11,a12⟩:=a
 obtain ⟨b0,b1,b2,b3,b4,b5,b6,b7,b8,b9,b10,b11,b12⟩:=b
 simp -dsimp -implicitDefEqProofs [ygr,Waterway.mk.injEq]
 refine ⟨fun h=>by simp_all,fun h0=>?_⟩
 refine yc (ywC a1 b1) ?_
 simp -dsimp -implicitDefEqProofs
 refine ⟨fun h=>by simp_all,fun h1=>?_⟩
 refine yc (yzd a2 b2) ?_
 simp -dsimp -implicitDefEqProofs
 refine ⟨fun h=>by simp_all,fun h2=>?_⟩
 refine yc (yyy a3 b3) ?_
 simp -dsimp -implicitDefEqProofs
 refine ⟨fun h=>by simp_all,fun h3=>?_⟩
 refine yc (yvc a4 b4) ?_
 simp -dsimp -implicitDefEqProofs
 refine ⟨fun h=>by simp_all,fun h4=>?_⟩
 refine yc (ypz a5 b5) ?_
 simp -dsimp -implicitDefEqProofs
 refine ⟨fun h=>by simp_all,fun h5=>?_⟩
 refine yc (ykZ a6 b6) ?_
 simp -dsimp -implicitDefEqProofs
 refine ⟨fun h=>by simp_all,fun h6=>?_⟩
 refine yc (yv1 a7 b7) ?_
 simp -dsimp -implicitDefEqProofs
 refine ⟨fun h=>by simp_all,fun h7=>?_⟩
 refine yc (ywt a8 b8) ?_
 simp -dsimp -implicitDefEqProofs
 refine ⟨fun h=>by simp_all,fun h8=>?_⟩
 refine yc (ytz a9 b9) ?_
 simp -dsimp -implicitDefEqProofs
 refine ⟨fun h=>by simp_all,fun h9=>?_⟩
 refine ⟨fun h=>by simp_all,fun h10=>?_⟩
 refine ⟨fun h=>by simp_all,fun h11=>?_⟩
 refine ⟨fun h=>by simp_all,fun h12=>?_⟩
 simp_all
theorem yTD (l : List Int) (n : Int) : yB Tryz.prog 22 [.c (.sl 1 (l.map yJ)),.c (.i n)] (.c (.i (l.count n))):=by
 refine yh yTo ?_
 simp -dsimp -implicitDefEqProofs
 refine yg (ι:=Nat) (fun k=>k ≤ l.length) (fun k=>yO [(0,.c (.sl 1 (l.map yJ))),(1,.c (.i n)),(5,.c (.i ((l.take k).count n))),(6,.c (.i k))] []) (fun k=>l.length - k) 0 (by simp) (by apply yj <;> simp) ?_
 rintro k hk
 have hc : (l.take k).count n ≤ k:=Nat.le_trans List.count_le_length (by simp; omega)
 rcases Nat.lt_or_ge k l.length with hlt | hge
 ·obtain ⟨a,ha⟩ : ∃ a,l[k]? = some a:=⟨_,List.getElem?_eq_getElem hlt⟩
  have g1:=(List.getElem?_eq_some_iff.1 ha).2
  have hs : (l.take (k + 1)).count n = (l.take k).count n + if a = n then 1 else 0:=by
   rw [List.take_succ,ha]
   simp [List.count_append,List.count_cons]
  generalize (l.take k).count n = q at *
  simp -dsimp -implicitDefEqProofs [ha,g1,hlt,yG hlt]
  intro hlen
  have hm:=hlen; unfold maxLen at hm
  refine ⟨fun h=>⟨by unfold inI; omega,yw hlt hlen,k + 1,hlt,by omega,?_⟩,fun h=>⟨yw hlt hlen,k + 1,hlt,by omega,?_⟩⟩
  ·apply yj <;> simp [hs,h]
  ·apply yj <;> simp [hs,h]
 ·simp -dsimp -implicitDefEqProofs [yaB hge]
  intro _
  rw [List.take_of_length_le hge]
theorem yTO (a b : List Entry) : yB Tryz.prog 86 [.c (.sl 5 (a.map Entry.enc)),.c (.sl 5 (b.map Entry.enc))] (.c (.b (decide (a = b)))):=by
 refine yh ySe ?_
 simp -dsimp -implicitDefEqProofs
 intro hlen1 hlen2
 refine ⟨fun h=>?_,fun h=>?_⟩
 ·have : a ≠ b:=fun e=>h (by rw [e])
  simp [this]
 have hl : a.length = b.length:=by omega
 intro _
 refine yg (ι:=Nat) (fun k=>k ≤ a.length ∧ a.take k = b.take k) (fun k=>yO [(0,.c (.sl 5 (a.map Entry.enc))),(1,.c (.sl 5 (b.map Entry.enc))),(12,.c (.i a.length)),(13,.c (.i k))] []) (fun k=>a.length - k) 0 (by simp) (by apply yj <;> simp) ?_
 rintro k ⟨hk,he⟩
 rcases Nat.lt_or_ge k a.length with hlt | hge
 ·obtain ⟨u,hu⟩ : ∃ u,a[k]? = some u:=⟨_,List.getElem?_eq_getElem hlt⟩
  obtain ⟨v,hv⟩ : ∃ v,b[k]? = some v:=⟨_,List.getElem?_eq_getElem (by omega)⟩
  have g1:=(List.getElem?_eq_some_iff.1 hu).2
  have g2:=(List.getElem?_eq_some_iff.1 hv).2
  have hlt2 : k < b.length:=by omega
  simp -dsimp -implicitDefEqProofs [hu,hv,g1,g2,hlt,hlt2,yG hlt]
  refine ⟨fun h e=>?_,fun e1 e2 e3 e4 e5=>⟨yw hlt hlen1,k + 1,⟨hlt,?_⟩,by omega,?_⟩⟩
  ·subst e
   rw [hu] at hv
   cases hv
   simp at h
  ·have huv : u = v:=by cases u; cases v; simp_all
   rw [List.take_succ,List.take_succ,he,hu,hv,huv]
  ·apply yj <;> simp
 ·simp -dsimp -implicitDefEqProofs [yaB hge]
  rw [List.take_of_length_le hge,List.take_of_length_le (by omega)] at he
  simp [he]
def yTx (x : Waterway) (b : List Entry) (p : Passing) : List Entry:=(yR7 b (yR0 x.Tariff p.Train p.Time)).1
def yR2 (x : Waterway) (k : Nat) : List Entry:=(x.Passings.take k).foldl (yTx x) []
def ySc (x : Waterway) (p : Passing) : Bool:=(yaY p.Train).all fun i=>decide (i ∈ x.Entered)
def ySn (x : Waterway) : Bool:=x.Passings.all (ySc x) && decide (x.Passings.foldl (yTx x) [] = x.Book)
theorem ySM {x : Waterway} {k : Nat} {p : Passing} (h : x.Passings[k]? = some p) : yR2 x (k + 1) = (yR7 (yR2 x k) (yR0 x.Tariff p.Train p.Time)).1:=by
 unfold yR2
 rw [List.take_succ,h]
 simp [yTx]
theorem ySW {x : Waterway} : ∀ k : Nat,(yR2 x k).length ≤ 2000:=by
 intro k
 induction k with
 | zero=>simp [yR2]
 | succ k ih =>
  cases h : x.Passings[k]? with
  | none =>
   have : yR2 x (k + 1) = yR2 x k:=by unfold yR2; rw [List.take_succ,h]; simp
   rw [this]; exact ih
  | some p =>
   rw [ySM h]
   unfold yR7
   split
   ·rename_i e
    simp only [Bool.and_eq_true,yht,decide_eq_true_eq] at e
    exact e.2.1
   ·exact ih
theorem yS9 {x : Waterway} {k : Nat} {p : Passing} {j : Nat} {i : Int} (h : x.Passings[k]? = some p) (hj : (yaY p.Train)[j]? = some i) (hi : i ∉ x.Entered) : ySn x = false:=by
 have h1 : ySc x p = false:=all_false (p:=fun i=>decide (i ∈ x.Entered)) hj (by simp [hi])
 simp [ySn,all_false (p:=ySc x) h h1]
theorem yTM {x : Waterway} {k : Nat} (hk : x.Passings.length ≤ k) (h : ∀ p ∈ x.Passings.take k,ySc x p = true) : ySn x = decide (yR2 x k = x.Book):=by
 have:=yX (p:=ySc x) hk h
 simp only [ySn,this,Bool.true_and,yR2,List.take_of_length_le hk]
theorem yTy (x : Waterway) (hl : x.small) : yB Tryz.prog 47 [.agg (x.enc.map .c)] (.c (.b (ySn x))):=by
 refine yh yTc ?_
 simp -dsimp -implicitDefEqProofs
 intro hlen
 refine yg (ι:=Nat) (fun k=>k ≤ x.Passings.length ∧ ∀ p ∈ x.Passings.take k,ySc x p = true) (fun k=>match k with
  | 0=>yO [(1,.box 1 0),(2,.c (.b false)),(3,.nil 5),(9,.c (.sl 4 (x.Passings.map Passing.enc))),(10,.c (.i x.Passings.length)),(11,.c (.i 0))] [(1,.box (x.enc.map .c))]
  | k + 1=>yO [(1,.box 1 0),(2,.c (.b false)),(3,.c (.sl 5 ((yR2 x (k + 1)).map Entry.enc))),(9,.c (.sl 4 (x.Passings.map Passing.enc))),(10,.c (.i x.Passings.length)),(11,.c (.i (k + 1)))] [(1,.box (x.enc.map .c))]) (fun k=>x.Passings.length - k) 0 (by simp) (by apply yj <;> simp) ?_
 rintro k ⟨hk,hall⟩
 rcases Nat.lt_or_ge k x.Passings.length with klt | kge
 ·obtain ⟨p,hp⟩ : ∃ p,x.Passings[k]? = some p:=⟨_,List.getElem?_eq_getElem klt⟩
  have gp:=(List.getElem?_eq_some_iff.1 hp).2
  have hps:=hl.2.2.2.2.2.2.2.2.2 p (List.mem_of_getElem? hp)
  have hsuc:=ySM hp
  have hbl:=ySW (x:=x) k
  have htl:=ySQ x.Tariff p.Train p.Time
  have hlt:=yG klt
  rcases k with _ | k
  ·have e0 : yR2 x 0 = []:=by simp [yR2]
   rw [e0] at hsuc
   simp only [Int.natCast_zero] at hlt
   simp -dsimp -implicitDefEqProofs [hp,gp,klt,hlt]
   refine yaP (ySz x.Tariff p.Train p.Time hps) (by simp -dsimp -implicitDefEqProofs) rfl ?_
   simp -dsimp -implicitDefEqProofs [hp,gp,klt]
   refine yaP (ySx [] (yR0 x.Tariff p.Train p.Time) (by simp -dsimp -implicitDefEqProofs) (by omega)) (by simp -dsimp -implicitDefEqProofs) rfl ?_
   rw [← hsuc]
   simp -dsimp -implicitDefEqProofs [hp,gp,klt]
   refine yaP (yuz p.Train hps) (by simp -dsimp -implicitDefEqProofs) rfl ?_
   simp -dsimp -implicitDefEqProofs
   intro hlen2
   refine yg (ι:=Nat) (fun j=>j ≤ (yaY p.Train).length ∧ ∀ i ∈ (yaY p.Train).take j,decide (i ∈ x.Entered) = true) (fun j=>yO [(1,.box 1 0),(2,.c (.b false)),(3,.c (.sl 5 ((yR2 x (0 + 1)).map Entry.enc))),(9,.c (.sl 4 (x.Passings.map Passing.enc))),(10,.c (.i x.Passings.length)),(11,.c (.i ((0 : Nat) : Int))),(29,.c (.sl 1 ((yaY p.Train).map yJ))),(30,.c (.i (yaY p.Train).length)),(31,.c (.i j))] [(1,.box (x.enc.map .c))]) (fun j=>(yaY p.Train).length - j) 0 (by simp) (by apply yj <;> simp) ?_
   rintro j ⟨hj,hallj⟩
   rcases Nat.lt_or_ge j (yaY p.Train).length with jlt | jge
   ·obtain ⟨i,hi⟩ : ∃ i,(yaY p.Train)[j]? = some i:=⟨_,List.getElem?_eq_getElem jlt⟩
    have gi:=(List.getElem?_eq_some_iff.1 hi).2
    simp -dsimp -implicitDefEqProofs [hi,gi,jlt,yG jlt]
    refine yaQ (ypJ x.Entered i) (by simp -dsimp -implicitDefEqProofs) rfl ?_
    cases hin : decide (i ∈ x.Entered) with
    | false =>
     simp -dsimp -implicitDefEqProofs
     exact yS9 hp hi (by simpa using hin)
    | true =>
     have hallj':=yL (p:=fun i=>decide (i ∈ x.Entered)) hi hallj hin
     simp -dsimp -implicitDefEqProofs
     refine ⟨yw jlt hlen2,j + 1,⟨jlt,by simpa using hallj'⟩,by omega,?_⟩
     apply yj <;> simp
   ·have hca : ySc x p = true:=yX (p:=fun i=>decide (i ∈ x.Entered)) jge hallj
    have hall':=yL (p:=ySc x) hp hall hca
    simp -dsimp -implicitDefEqProofs [yaB jge]
    refine ⟨yw klt hlen,0 + 1,⟨klt,hall'⟩,by omega,?_⟩
    apply yj <;> simp
  ·have t1 : ((k : Int) + 1 < (x.Passings.length : Int)) = True:=by simp; omega
   have t2 : (0 ≤ (k : Int) + 1) = True:=by simp; omega
   have t3 : ((k : Int) + 1).toNat = k + 1:=by omega
   simp -dsimp -implicitDefEqProofs [hp,gp,klt,t1,t2,t3]
   refine yaP (ySz x.Tariff p.Train p.Time hps) (by simp -dsimp -implicitDefEqProofs) rfl ?_
   simp -dsimp -implicitDefEqProofs [hp,gp,klt,t3]
   refine yaP (ySx (yR2 x (k + 1)) (yR0 x.Tariff p.Train p.Time) (by omega) (by omega)) (by simp -dsimp -implicitDefEqProofs) rfl ?_
   rw [← hsuc]
   simp -dsimp -implicitDefEqProofs [hp,gp,klt]
   refine yaP (yuz p.Train hps) (by simp -dsimp -implicitDefEqProofs) rfl ?_
   simp -dsimp -implicitDefEqProofs
   intro hlen2
   refine yg (ι:=Nat) (fun j=>j ≤ (yaY p.Train).length ∧ ∀ i ∈ (yaY p.Train).take j,decide (i ∈ x.Entered) = true) (fun j=>yO [(1,.box 1 0),(2,.c (.b false)),(3,.c (.sl 5 ((yR2 x ((k + 1) + 1)).map Entry.enc))),(9,.c (.sl 4 (x.Passings.map Passing.enc))),(10,.c (.i x.Passings.length)),(11,.c (.i (((k + 1) : Nat) : Int))),(29,.c (.sl 1 ((yaY p.Train).map yJ))),(30,.c (.i (yaY p.Train).length)),(31,.c (.i j))] [(1,.box (x.enc.map .c))]) (fun j=>(yaY p.Train).length - j) 0 (by simp) (by apply yj <;> simp) ?_
   rintro j ⟨hj,hallj⟩
   rcases Nat.lt_or_ge j (yaY p.Train).length with jlt | jge
   ·obtain ⟨i,hi⟩ : ∃ i,(yaY p.Train)[j]? = some i:=⟨_,List.getElem?_eq_getElem jlt⟩
    have gi:=(List.getElem?_eq_some_iff.1 hi).2
    simp -dsimp -implicitDefEqProofs [hi,gi,jlt,yG jlt]
    refine yaQ (ypJ x.Entered i) (by simp -dsimp -implicitDefEqProofs) rfl ?_
    cases hin : decide (i ∈ x.Entered) with
    | false =>
     simp -dsimp -implicitDefEqProofs
     exact yS9 hp hi (by simpa using hin)
    | true =>
     have hallj':=yL (p:=fun i=>decide (i ∈ x.Entered)) hi hallj hin
     simp -dsimp -implicitDefEqProofs
     refine ⟨yw jlt hlen2,j + 1,⟨jlt,by simpa using hallj'⟩,by omega,?_⟩
     apply yj <;> simp
   ·have hca : ySc x p = true:=yX (p:=fun i=>decide (i ∈ x.Entered)) jge hallj
    have hall':=yL (p:=ySc x) hp hall hca
    simp -dsimp -implicitDefEqProofs [yaB jge]
    refine ⟨yw klt hlen,(k + 1) + 1,⟨klt,hall'⟩,by omega,?_⟩
    apply yj <;> simp
 ·have hT:=yTM kge hall
  rcases k with _ | k
  ·have e0 : yR2 x 0 = []:=by simp [yR2]
   rw [e0] at hT
   have hx0 : x.Passings.length = 0:=by omega
   have t1 : ((0 : Int) < (x.Passings.length : Int)) = False:=by rw [hx0]; simp
   simp -dsimp -implicitDefEqProofs [t1,hx0]
   refine yaQ (yTO [] x.Book) (by simp -dsimp -implicitDefEqProofs) rfl ?_
   simp -dsimp -implicitDefEqProofs
   rw [hT]
   exact decide_eq_decide.2 ⟨Eq.symm,Eq.symm⟩
  ·have t1 : ((k : Int) + 1 < (x.Passings.length : Int)) = False:=by simp; omega
   simp -dsimp -implicitDefEqProofs [t1]
   refine yaQ (yTO (yR2 x (k + 1)) x.Book) (by simp -dsimp -implicitDefEqProofs) rfl ?_
   simp -dsimp -implicitDefEqProofs
   exact hT
theorem yTt (x : Waterway) (hl : x.small) : yB Tryz.prog 44 [.agg (x.enc.map .c)] (.c (.b (ySn x))):=by
 have htf:=hl.2.2.2.2.2.2.1
 refine yh yTi ?_
 simp -dsimp -implicitDefEqProofs
 refine yg (ι:=Nat) (fun k=>k ≤ x.Passings.length ∧ ∀ p ∈ x.Passings.take k,ySc x p = true) (fun k=>match k with
  | 0=>yO [(1,.box 1 0),(2,.c (.b false)),(3,.own 9 5 0),(4,.c (.i 0))] [(1,.box (x.enc.map .c)),(9,.row 5 [])]
  | k + 1=>yO [(1,.box 1 0),(2,.c (.b false)),(3,.c (.sl 5 ((yR2 x (k + 1)).map Entry.enc))),(4,.c (.i (k + 1)))] [(1,.box (x.enc.map .c))]) (fun k=>x.Passings.length - k) 0 (by simp) (by apply yj <;> simp) ?_
 rintro k ⟨hk,hall⟩
 rcases Nat.lt_or_ge k x.Passings.length with klt | kge
 ·obtain ⟨p,hp⟩ : ∃ p,x.Passings[k]? = some p:=⟨_,List.getElem?_eq_getElem klt⟩
  have gp:=(List.getElem?_eq_some_iff.1 hp).2
  have hps:=hl.2.2.2.2.2.2.2.2.2 p (List.mem_of_getElem? hp)
  have hsuc:=ySM hp
  have hbl:=ySW (x:=x) k
  have htl:=ySQ x.Tariff p.Train p.Time
  rcases k with _ | k
  ·simp -dsimp -implicitDefEqProofs [hp,gp,klt,yG klt]
   intro hlenP
   refine yaP (ySB x.Tariff p.Train p.Time htf hps) (by simp -dsimp -implicitDefEqProofs) rfl ?_
   simp -dsimp -implicitDefEqProofs [hp,gp,klt]
   refine yUj [9] (ySI [] (yR0 x.Tariff p.Train p.Time) (by simp) (by omega)) (by simp -dsimp -implicitDefEqProofs) (by simp [AV.frz,AV.yOj,AV.ya8]) ?_
   have e0 : yR2 x 0 = []:=by simp [yR2]
   rw [e0] at hsuc
   rw [← hsuc]
   simp -dsimp -implicitDefEqProofs [hp,gp,klt]
   refine yaP (yvW p.Train hps) (by simp -dsimp -implicitDefEqProofs) rfl ?_
   simp -dsimp -implicitDefEqProofs
   refine yg (ι:=Nat) (fun j=>j ≤ (yaY p.Train).length ∧ ∀ i ∈ (yaY p.Train).take j,decide (i ∈ x.Entered) = true) (fun j=>yO [(1,.box 1 0),(2,.c (.b false)),(3,.c (.sl 5 ((yR2 x (0 + 1)).map Entry.enc))),(4,.c (.i ((0 : Nat) : Int))),(6,.c (.sl 1 ((yaY p.Train).map yJ))),(7,.c (.i j))] [(1,.box (x.enc.map .c))]) (fun j=>(yaY p.Train).length - j) 0 (by simp) (by apply yj <;> simp) ?_
   rintro j ⟨hj,hallj⟩
   rcases Nat.lt_or_ge j (yaY p.Train).length with jlt | jge
   ·obtain ⟨i,hi⟩ : ∃ i,(yaY p.Train)[j]? = some i:=⟨_,List.getElem?_eq_getElem jlt⟩
    have gi:=(List.getElem?_eq_some_iff.1 hi).2
    simp -dsimp -implicitDefEqProofs [hi,gi,jlt,yG jlt]
    intro hlen2
    refine ⟨_,_,yTD x.Entered i,by simp -dsimp -implicitDefEqProofs,.inr rfl,?_⟩
    by_cases hin : i ∈ x.Entered
    ·have hcn:=List.count_pos_iff.2 hin
     have z : ((x.Entered.count i : Int) = 0) = False:=by simp; omega
     have z3 : (x.Entered.count i = 0) = False:=by simp; omega
     have hallj':=yL (p:=fun i=>decide (i ∈ x.Entered)) hi hallj (by simpa using hin)
     have z2 : (i ∉ x.Entered) = False:=by simp [hin]
     simp -dsimp -implicitDefEqProofs [z,z2,z3]
     refine ⟨yw jlt hlen2,j + 1,⟨jlt,by simpa using hallj'⟩,by omega,?_⟩
     apply yj <;> simp
    ·have hcn:=List.count_eq_zero.2 hin
     have z : ((x.Entered.count i : Int) = 0) = True:=by simp; omega
     have z3 : (x.Entered.count i = 0) = True:=by simp; omega
     have z2 : (i ∉ x.Entered) = True:=by simp [hin]
     simp -dsimp -implicitDefEqProofs [z,z2,z3]
     exact yS9 hp hi hin
   ·have hca : ySc x p = true:=yX (p:=fun i=>decide (i ∈ x.Entered)) jge hallj
    have hall':=yL (p:=ySc x) hp hall hca
    simp -dsimp -implicitDefEqProofs [yaB jge]
    intro hlen2
    refine ⟨yw klt hlenP,0 + 1,⟨klt,hall'⟩,by omega,?_⟩
    apply yj <;> simp
  ·have t1 : ((k : Int) + 1 < (x.Passings.length : Int)) = True:=by simp; omega
   have t2 : (0 ≤ (k : Int) + 1) = True:=by simp; omega
   have t3 : ((k : Int) + 1).toNat = k + 1:=by omega
   simp -dsimp -implicitDefEqProofs [hp,gp,klt,t1,t2,t3]
   intro hlenP
   refine yaP (ySB x.Tariff p.Train p.Time htf hps) (by simp -dsimp -implicitDefEqProofs) rfl ?_
   simp -dsimp -implicitDefEqProofs [hp,gp,klt,t3]
   refine yaP (ySI (yR2 x (k + 1)) (yR0 x.Tariff p.Train p.Time) (by omega) (by omega)) (by simp -dsimp -implicitDefEqProofs) rfl ?_
   rw [← hsuc]
   simp -dsimp -implicitDefEqProofs [hp,gp,klt]
   refine yaP (yvW p.Train hps) (by simp -dsimp -implicitDefEqProofs) rfl ?_
   simp -dsimp -implicitDefEqProofs
   refine yg (ι:=Nat) (fun j=>j ≤ (yaY p.Train).length ∧ ∀ i ∈ (yaY p.Train).take j,decide (i ∈ x.Entered) = true) (fun j=>yO [(1,.box 1 0),(2,.c (.b false)),(3,.c (.sl 5 ((yR2 x ((k + 1) + 1)).map Entry.enc))),(4,.c (.i (((k + 1) : Nat) : Int))),(6,.c (.sl 1 ((yaY p.Train).map yJ))),(7,.c (.i j))] [(1,.box (x.enc.map .c))]) (fun j=>(yaY p.Train).length - j) 0 (by simp) (by apply yj <;> simp) ?_
   rintro j ⟨hj,hallj⟩
   rcases Nat.lt_or_ge j (yaY p.Train).length with jlt | jge
   ·obtain ⟨i,hi⟩ : ∃ i,(yaY p.Train)[j]? = some i:=⟨_,List.getElem?_eq_getElem jlt⟩
    have gi:=(List.getElem?_eq_some_iff.1 hi).2
    simp -dsimp -implicitDefEqProofs [hi,gi,jlt,yG jlt]
    intro hlen2
    refine ⟨_,_,yTD x.Entered i,by simp -dsimp -implicitDefEqProofs,.inr rfl,?_⟩
    by_cases hin : i ∈ x.Entered
    ·have hcn:=List.count_pos_iff.2 hin
     have z : ((x.Entered.count i : Int) = 0) = False:=by simp; omega
     have z3 : (x.Entered.count i = 0) = False:=by simp; omega
     have hallj':=yL (p:=fun i=>decide (i ∈ x.Entered)) hi hallj (by simpa using hin)
     have z2 : (i ∉ x.Entered) = False:=by simp [hin]
     simp -dsimp -implicitDefEqProofs [z,z2,z3]
     refine ⟨yw jlt hlen2,j + 1,⟨jlt,by simpa using hallj'⟩,by omega,?_⟩
     apply yj <;> simp
    ·have hcn:=List.count_eq_zero.2 hin
     have z : ((x.Entered.count i : Int) = 0) = True:=by simp; omega
     have z3 : (x.Entered.count i = 0) = True:=by simp; omega
     have z2 : (i ∉ x.Entered) = True:=by simp [hin]
     simp -dsimp -implicitDefEqProofs [z,z2,z3]
     exact yS9 hp hi hin
   ·have hca : ySc x p = true:=yX (p:=fun i=>decide (i ∈ x.Entered)) jge hallj
    have hall':=yL (p:=ySc x) hp hall hca
    simp -dsimp -implicitDefEqProofs [yaB jge]
    intro hlen2
    refine ⟨yw klt hlenP,(k + 1) + 1,⟨klt,hall'⟩,by omega,?_⟩
    apply yj <;> simp
 ·have hT:=yTM kge hall
  rcases k with _ | k
  ·have e0 : yR2 x 0 = []:=by simp [yR2]
   rw [e0] at hT
   have hx0 : x.Passings.length = 0:=by omega
   have t1 : ((0 : Int) < (x.Passings.length : Int)) = False:=by rw [hx0]; simp
   simp -dsimp -implicitDefEqProofs [t1,hx0]
   refine yg (ι:=Nat) (fun j=>j = 0) (fun _=>yO [(1,.box 1 0),(2,.c (.b false)),(3,.own 9 5 0),(4,.c (.i 0)),(8,.c (.i 0))] [(1,.box (x.enc.map .c)),(9,.row 5 [])]) (fun _=>0) 0 rfl (by apply yj <;> simp) ?_
   rintro j rfl
   simp -dsimp -implicitDefEqProofs
   intro _
   rw [hT]
   exact decide_eq_decide.2 ⟨fun h=>by rw [← h]; rfl,fun h=>(List.length_eq_zero_iff.1 (by omega)).symm⟩
  ·have t1 : ((k : Int) + 1 < (x.Passings.length : Int)) = False:=by simp; omega
   simp -dsimp -implicitDefEqProofs [t1]
   intro _
   obtain ⟨B,hB⟩ : ∃ B,yR2 x (k + 1) = B:=⟨_,rfl⟩
   have hbl:=ySW (x:=x) (k + 1)
   rw [hB] at hT hbl
   rw [hB]
   refine yg (ι:=Nat) (fun j=>j ≤ B.length ∧ (j = 0 ∨ B.length = x.Book.length) ∧ B.take j = x.Book.take j) (fun j=>yO [(1,.box 1 0),(2,.c (.b false)),(3,.c (.sl 5 (B.map Entry.enc))),(8,.c (.i j))] [(1,.box (x.enc.map .c))]) (fun j=>B.length - j) 0 (by simp) (by apply yj <;> simp) ?_
   rintro j ⟨hj,hj0,he⟩
   by_cases hlen : B.length = x.Book.length
   ·have z1 : ((B.length : Int) = (x.Book.length : Int)) = True:=by simp [hlen]
    rcases Nat.lt_or_ge j B.length with jlt | jge
    ·obtain ⟨u,hu⟩ : ∃ u,B[j]? = some u:=⟨_,List.getElem?_eq_getElem jlt⟩
     obtain ⟨v,hv⟩ : ∃ v,x.Book[j]? = some v:=⟨_,List.getElem?_eq_getElem (by omega)⟩
     have g1:=(List.getElem?_eq_some_iff.1 hu).2
     have g2:=(List.getElem?_eq_some_iff.1 hv).2
     have jlt2 : j < x.Book.length:=by omega
     simp -dsimp -implicitDefEqProofs [hu,hv,g1,g2,jlt,jlt2,yG jlt,hlen]
     refine fun hlm=>⟨fun h=>?_,fun e1 e2 e3 e4 e5=>⟨yw jlt2 hlm,j + 1,⟨by omega,?_⟩,by omega,?_⟩⟩
     ·have hne : B ≠ x.Book:=by
       intro e
       rw [e,hv] at hu
       cases hu
       simp at h
      rw [hT]
      simp [hne]
     ·have huv : u = v:=by cases u; cases v; simp_all
      rw [List.take_succ,List.take_succ,he,hu,hv,huv]
     ·apply yj <;> simp
    ·have jge2 : x.Book.length ≤ j:=by omega
     rw [List.take_of_length_le jge,List.take_of_length_le jge2] at he
     simp -dsimp -implicitDefEqProofs [yaB jge2,hlen]
     intro _
     rw [hT]
     simp [he]
   ·have z1 : ((B.length : Int) = (x.Book.length : Int)) = False:=by simp; omega
    obtain rfl : j = 0:=hj0.resolve_right hlen
    have hne : ySn x = false:=by
     rw [hT]
     simp only [decide_eq_false_iff_not]
     intro e
     exact hlen (by rw [e])
    simp -dsimp -implicitDefEqProofs [z1,hlen,hne]
def marked (mk : Int → List C) (c : Int) (rows : List (List C)) (k : Int) (i : Nat) : List (List C):=(List.range i).map (fun (j : Nat)=>mk (k + c * j)) ++ rows.drop i
def yT (xs : List Boat) : List C:=[.ow 6 (xs.map Boat.enc)]
@[simp] def Train.yI (e : Train) : List C:=[.b e.Up,.ot 1 (e.Rows.map yT)]
def yaA {α : Type} (f : Int → α → List C) (n : α → Nat) : Int → List α → List (List C)
 | _,[]=>[]
 | k,x :: l=>f k x :: yaA f n (k + n x) l
def cnt {α : Type} (n : α → Nat) (l : List α) : Nat:=(l.map n).sum
section
variable {α : Type} {f : Int → α → List C} {g : α → List C} {n : α → Nat} {k : Int} {xs : List α} {i : Nat} {x : α}
end
def mkB (k : Int) : List C:=[.i k,.i (k + 1),.i (k + 1 + 1),.i (k + 1 + 1 + 1),.i (k + 1 + 1 + 1 + 1),.i (k + 1 + 1 + 1 + 1 + 1)]
def nB (r : List Boat) : Nat:=6 * r.length
def fB (k : Int) (r : List Boat) : List C:=[.ow 6 (marked mkB 6 [] k r.length)]
@[simp] def Mover.yI (e : Mover) : List C:=[.b e.Train.Up,.ot 1 (e.Train.Rows.map yT),.i e.Place]
def mkPt (k : Int) : List C:=[.i k,.i (k + 1)]
@[simp] def Reach.yI (e : Reach) : List C:=[.ow 2 (e.Table.map Point.enc),.i e.Volume,.ow 1 (e.Pipe.map yJ)]
def fM (k : Int) (e : Mover) : List C:=[.b (decide (k.tmod 3 = 0)),.ot 1 (yaA fB nB (k + 1) e.Train.Rows),.i (k + 1 + cnt nB e.Train.Rows)]
def nM (e : Mover) : Nat:=1 + cnt nB e.Train.Rows + 1
def mkEn (k : Int) : List C:=[.i k,.i (k + 1),.i (k + 1 + 1),.i (k + 1 + 1 + 1),.i (k + 1 + 1 + 1 + 1)]
@[simp] def Tariff.yI (e : Tariff) : List C:=[.i e.Base,.i e.PerArea,.ow 1 (e.PerClass.map yJ),.ow 1 (e.Weights.map yJ)]
def nT (e : Tariff) : Int:=e.PerClass.length + e.Weights.length
def ygn (r : Reach) : Int:=if yR r then yda r else 0
def river (l : List Reach) : Int:=(l.map yda).sum
def ycM (l : List Reach) : Bool:=decide (1 ≤ l.length) && decide (l.length ≤ 6) && l.all yR && decide (river l ≤ 1000000000)
def yNz (l : List Reach) : Int:=if ycM l then river l else 0
def ydI (l : List Reach) (k : Nat) : Int:=river (l.take k)
theorem yhT {l : List Reach} : ydI l 0 = 0:=rfl
theorem yh3 {l : List Reach} {k : Nat} {r : Reach} (h : l[k]? = some r) : ydI l (k + 1) = ydI l k + yda r:=by
 unfold ydI river
 rw [List.take_succ,h]; simp
theorem yfa {l : List Reach} {k : Nat} (h : l.length ≤ k) : ydI l k = river l:=by unfold ydI; rw [List.take_of_length_le h]
structure SumFacts (r : Reach) : Prop where
 vol : amount r.Volume = true
 len : r.Pipe.length ≤ 12
 amt : ∀ n ∈ r.Pipe,amount n = true
 rng : 0 ≤ yda r ∧ yda r ≤ 1000000000
theorem ydd {r : Reach} (h : yR r = true) : SumFacts r:=by
 simp only [yR,Bool.and_eq_true,decide_eq_true_eq,List.all_eq_true] at h
 obtain ⟨⟨⟨⟨h1,h2⟩,h3⟩,h4⟩,h5⟩:=h
 refine ⟨h2,h3,h4,?_,h5⟩
 have a1:=yF.1 (show inRange r.Volume 0 1000000000 = true from h2)
 have a2:=ykq (l:=r.Pipe) h4
 unfold yda; omega
theorem ygE {l : List Reach} : ∀ {k : Nat},(∀ r ∈ l.take k,yR r = true) → 0 ≤ ydI l k ∧ ydI l k ≤ 1000000000 * k
 | 0,_=>by rw [yhT]; omega
 | k + 1,h=>by
  have ih:=ygE (k:=k) fun r hr=>h r (by rw [List.take_succ]; exact List.mem_append_left _ hr)
  have e2 : ((k + 1 : Nat) : Int) = k + 1:=by simp
  cases hk : l[k]? with
  | none =>
   have hl : l.length ≤ k:=by simpa using hk
   rw [yfa (by omega),← yfa hl]; omega
  | some r =>
   have:=(ydd (h r (by rw [List.take_succ,hk]; exact List.mem_append_right _ (by simp)))).rng
   rw [yh3 hk]; omega
theorem yN6 {l : List Reach} (h : ycM l = false) : yNz l = 0:=by simp [yNz,h]
theorem yob {l : List Reach} {k : Nat} {r : Reach} (h : l[k]? = some r) (hr : yR r = false) : ycM l = false:=by
 have:=all_false (p:=yR) h hr
 simp [ycM,this]
theorem ykM (r : Reach) : yB Tryz.prog 158 [.agg (r.enc.map .c)] (.c (.i (ygn r))):=by
 refine yh yo0 ?_
 simp -dsimp -implicitDefEqProofs
 refine yc (yby r) ?_
 cases h : yR r with
 | false=>simp -dsimp -implicitDefEqProofs; simp [ygn,h]
 | true =>
 have f:=ydd h
 have hl:=f.len
 have hv:=yF.1 (show inRange r.Volume 0 1000000000 = true from f.vol)
 have ht : ygn r = yda r:=by simp [ygn,h]
 simp -dsimp -implicitDefEqProofs [ht]
 intro hlen
 refine yg (ι:=Nat) (fun k=>k ≤ r.Pipe.length) (fun k=>yO [(3,.c (.i (r.Volume + sumTo r.Pipe k))),(12,.c (.sl 1 (r.Pipe.map yJ))),(13,.c (.i r.Pipe.length)),(14,.c (.i k))] []) (fun k=>r.Pipe.length - k) 0 (by simp) (by apply yj <;> simp [yf6]) ?_
 rintro k hk
 rcases Nat.lt_or_ge k r.Pipe.length with hlt | hge
 ·obtain ⟨x,hx⟩ : ∃ x,r.Pipe[k]? = some x:=⟨_,List.getElem?_eq_getElem hlt⟩
  have e1:=yia hx
  have b1:=ymX f.amt hl (k + 1)
  rw [e1] at b1
  simp -dsimp -implicitDefEqProofs [hx,yG hlt]
  refine ⟨by unfold inI; omega,yw hlt hlen,k + 1,hlt,by omega,?_⟩
  apply yj <;> simp [e1]; omega
 ·simp -dsimp -implicitDefEqProofs [yaB hge]
  rw [ymm hge,ht]; rfl
theorem ysy (l : List Reach) : yB Tryz.prog 122 [.c (.sl 3 (l.map Reach.enc))] (.c (.b (ycM l))):=by
 refine yh yp0 ?_
 simp -dsimp -implicitDefEqProofs
 refine fun hlen=>⟨fun h1=>?_,fun h1=>?_⟩
 rotate_left
 ·simp [ycM]; omega
 refine fun _=>⟨fun h6=>by simp [ycM]; omega,fun h6=>?_⟩
 refine fun _=>yg (ι:=Nat) (fun k=>k ≤ l.length ∧ ∀ r ∈ l.take k,yR r = true) (fun k=>yO [(3,.c (.i (ydI l k))),(14,.c (.sl 3 (l.map Reach.enc))),(15,.c (.i l.length)),(16,.c (.i k))] []) (fun k=>l.length - k) 0 (by simp) (by apply yj <;> simp [yhT]) ?_
 rintro k ⟨hk,hall⟩
 rcases Nat.lt_or_ge k l.length with hlt | hge
 ·obtain ⟨r,hr⟩ : ∃ r,l[k]? = some r:=⟨_,List.getElem?_eq_getElem hlt⟩
  simp -dsimp -implicitDefEqProofs [hr,yG hlt]
  refine yc (yby r) ?_
  cases h : yR r with
  | false=>simp -dsimp -implicitDefEqProofs; exact yob hr h
  | true =>
   have ht : ygn r = yda r:=by simp [ygn,h]
   have hall':=yL (p:=yR) hr hall h
   have hb:=ygE hall'
   have e1:=yh3 hr
   simp -dsimp -implicitDefEqProofs
   refine yc (ykM r) ?_
   simp -dsimp -implicitDefEqProofs [ht]
   refine ⟨by rw [e1] at hb; unfold inI; omega,yw hlt hlen,k + 1,⟨hlt,hall'⟩,by omega,?_⟩
   apply yj <;> simp [e1]
 ·have hall2:=yX (p:=yR) hge hall
  simp -dsimp -implicitDefEqProofs [yaB hge]
  rw [yfa hge]
  have a1 : 1 ≤ l.length:=by omega
  have a2 : l.length ≤ 6:=by omega
  simp [ycM,a1,a2,hall2]
structure RiverFacts (l : List Reach) : Prop where
 len : 1 ≤ l.length ∧ l.length ≤ 6
 ok : ∀ r ∈ l,yR r = true
 rng : 0 ≤ river l ∧ river l ≤ 1000000000
theorem ywm {l : List Reach} (h : ycM l = true) : RiverFacts l:=by
 simp only [ycM,Bool.and_eq_true,decide_eq_true_eq,List.all_eq_true] at h
 obtain ⟨⟨⟨h1,h2⟩,h3⟩,h4⟩:=h
 have:=ygE (l:=l) (k:=l.length) (by rw [List.take_length]; exact h3)
 rw [yfa (Nat.le_refl _)] at this
 exact ⟨⟨h1,h2⟩,h3,this.1,h4⟩
theorem yN5 (l : List Reach) : yB Tryz.prog 128 [.c (.sl 3 (l.map Reach.enc))] (.c (.i (yNz l))):=by
 refine yh yNZ ?_
 simp -dsimp -implicitDefEqProofs
 refine yc (ysy l) ?_
 cases h : ycM l with
 | false=>simp -dsimp -implicitDefEqProofs; rw [yN6 h]
 | true =>
 have f:=ywm h
 have ht : yNz l = river l:=by simp [yNz,h]
 simp -dsimp -implicitDefEqProofs [ht]
 intro hlen
 refine yg (ι:=Nat) (fun k=>k ≤ l.length) (fun k=>yO [(3,.c (.i (ydI l k))),(9,.c (.sl 3 (l.map Reach.enc))),(10,.c (.i l.length)),(11,.c (.i k))] []) (fun k=>l.length - k) 0 (by simp) (by apply yj <;> simp [yhT]) ?_
 rintro k hk
 rcases Nat.lt_or_ge k l.length with hlt | hge
 ·obtain ⟨r,hr⟩ : ∃ r,l[k]? = some r:=⟨_,List.getElem?_eq_getElem hlt⟩
  have h2 : ygn r = yda r:=by simp [ygn,f.ok r (List.mem_of_getElem? hr)]
  have hb:=ygE (l:=l) (k:=k + 1) fun x hx=>f.ok x (List.mem_of_mem_take hx)
  have e1:=yh3 hr
  have hl6:=f.len
  simp -dsimp -implicitDefEqProofs [hr,yG hlt]
  refine yc (ykM r) ?_
  simp -dsimp -implicitDefEqProofs [h2]
  refine ⟨by rw [e1] at hb; unfold inI; omega,yw hlt hlen,k + 1,hlt,by omega,?_⟩
  apply yj <;> simp [e1]
 ·simp -dsimp -implicitDefEqProofs [yaB hge]
  rw [yfa hge,ht]
def yio (l : List Reach) (k : Nat) : Int:=if 1000000001 < ydI l k then 1000000001 else ydI l k
theorem yv5 {l : List Reach} : yio l 0 = 0:=by simp [yio,yhT]
theorem ywi {l : List Reach} {k : Nat} {r : Reach} (h : l[k]? = some r) (hr : 0 ≤ yda r) : (if 1000000001 < yio l k + yda r then 1000000001 else yio l k + yda r) = yio l (k + 1):=by
 unfold yio
 rw [yh3 h]
 (repeat' split) <;> omega
theorem yxR {l : List Reach} {k : Nat} (h : ∀ r ∈ l.take k,yR r = true) : 0 ≤ yio l k ∧ yio l k ≤ 1000000001:=by
 have:=ygE h
 unfold yio
 split <;> omega
theorem ysQ (l : List Reach) : yB Tryz.prog 114 [.c (.sl 3 (l.map Reach.enc))] (.c (.b (ycM l))):=by
 refine yh yog ?_
 simp -dsimp -implicitDefEqProofs
 refine yg (ι:=Nat) (fun k=>k ≤ l.length ∧ ∀ r ∈ l.take k,yR r = true) (fun k=>yO [(0,.c (.sl 3 (l.map Reach.enc))),(3,.c (.i (yio l k))),(4,.c (.i k))] []) (fun k=>l.length - k) 0 (by simp) (by apply yj <;> simp [yv5]) ?_
 rintro k ⟨hk,hall⟩
 rcases Nat.lt_or_ge k l.length with hlt | hge
 ·obtain ⟨r,hr⟩ : ∃ r,l[k]? = some r:=⟨_,List.getElem?_eq_getElem hlt⟩
  simp -dsimp -implicitDefEqProofs [hr,yG hlt]
  intro hlen
  refine yc (ybX r) ?_
  cases h : yR r with
  | false=>simp -dsimp -implicitDefEqProofs; exact yob hr h
  | true =>
   have f:=ydd h
   have hall':=yL (p:=yR) hr hall h
   have hb:=yxR hall
   have hs:=f.rng
   have e1:=ywi hr hs.1
   simp -dsimp -implicitDefEqProofs [hr,yG hlt]
   refine yc (yoR r f.vol f.len f.amt) ?_
   simp -dsimp -implicitDefEqProofs [e1]
   refine ⟨by unfold inI; omega,yw hlt hlen,k + 1,⟨hlt,hall'⟩,by omega,?_⟩
   apply yj <;> simp [e1]
 ·have hall2:=yX (p:=yR) hge hall
  simp -dsimp -implicitDefEqProofs [yaB hge]
  intro hlen
  refine yc (yD l.length 1 6) ?_
  have hr : ydI l k = river l:=yfa hge
  have hc : (yio l k ≤ 1000000000) = (river l ≤ 1000000000):=by
   unfold yio; rw [hr]; apply propext; split <;> omega
  have hrng : inRange (l.length : Int) 1 6 = (decide (1 ≤ l.length) && decide (l.length ≤ 6)):=by
   rw [Bool.eq_iff_iff,yF]; simp only [Bool.and_eq_true,decide_eq_true_eq]; omega
  cases h1 : inRange (l.length : Int) 1 6 with
  | false=>simp -dsimp -implicitDefEqProofs; rw [ycM,← hrng,h1]; simp
  | true =>
   simp -dsimp -implicitDefEqProofs
   rw [ycM,← hrng,h1]
   simp [hall2,hc]
theorem yN4 (l : List Reach) : yB Tryz.prog 119 [.c (.sl 3 (l.map Reach.enc))] (.c (.i (yNz l))):=by
 refine yh yNX ?_
 simp -dsimp -implicitDefEqProofs
 refine yg (ι:=Nat) (fun k=>k ≤ l.length ∧ (k ≠ 0 → ycM l = true)) (fun k=>yO [(0,.c (.sl 3 (l.map Reach.enc))),(3,.c (.i (ydI l k))),(4,.c (.i k))] []) (fun k=>l.length - k) 0 (by simp) (by apply yj <;> simp [yhT]) ?_
 rintro k ⟨hk,hok⟩
 rcases Nat.lt_or_ge k l.length with hlt | hge
 ·obtain ⟨r,hr⟩ : ∃ r,l[k]? = some r:=⟨_,List.getElem?_eq_getElem hlt⟩
  simp -dsimp -implicitDefEqProofs [hr,yG hlt]
  intro hlen
  refine yc (ysQ l) ?_
  cases h : ycM l with
  | false =>
   have : k = 0:=by
    rcases Nat.eq_zero_or_pos k with e | e
    ·exact e
    ·have:=hok (by omega); rw [h] at this; cases this
   subst this
   simp -dsimp -implicitDefEqProofs; rw [yN6 h,yhT]
  | true =>
   have f:=ywm h
   have sf:=ydd (f.ok r (List.mem_of_getElem? hr))
   have hb:=ygE (l:=l) (k:=k + 1) fun x hx=>f.ok x (List.mem_of_mem_take hx)
   have e1:=yh3 hr
   have hl6:=f.len
   simp -dsimp -implicitDefEqProofs [hr,yG hlt]
   refine yc (yoR r sf.vol sf.len sf.amt) ?_
   simp -dsimp -implicitDefEqProofs
   refine ⟨by rw [e1] at hb; unfold inI; omega,yw hlt hlen,k + 1,by first | exact ⟨hlt,fun _=>h⟩ | exact hlt,by omega,?_⟩
   apply yj <;> simp [e1]
 ·simp -dsimp -implicitDefEqProofs [yaB hge]
  intro _
  cases h : ycM l with
  | true=>rw [yfa hge]; simp [yNz,h]
  | false =>
   have : k = 0:=by
    rcases Nat.eq_zero_or_pos k with e | e
    ·exact e
    ·have:=hok (by omega); rw [h] at this; cases this
   subst this
   rw [yN6 h,yhT]
def yb8 (p : Way × List Mover) : Bool:=yjg p.1 && decide (p.2.length ≤ 24) && p.2.all fun m=>ybk m p.1
def ybi (x : Waterway) : Bool:=ycM x.Reaches && decide (2 ≤ x.Reaches.length) && decide (x.Ways.length = x.Reaches.length) && decide (x.Movers.length = x.Reaches.length) && decide (x.Works.length + 1 = x.Reaches.length) &&
 (x.Ways.zip x.Movers).all yb8 && x.Works.all ybd
theorem yBL {w : Way} {ms : List Mover} (h : yjg w = false) : yb8 (w,ms) = false:=by simp [yb8,h]
theorem yCv {w : Way} {ms : List Mover} (h : 24 < ms.length) : yb8 (w,ms) = false:=by simp [yb8]; omega
theorem yyL {w : Way} {ms : List Mover} {k : Nat} {m : Mover} (h : ms[k]? = some m) (hm : ybk m w = false) : yb8 (w,ms) = false:=by
 have:=all_false (p:=fun m=>ybk m w) h hm
 simp [yb8,this]
theorem ydV {x : Waterway} {k : Nat} {w : Way} {ms : List Mover} (h1 : x.Ways[k]? = some w) (h2 : x.Movers[k]? = some ms) (h : yb8 (w,ms) = false) : ybi x = false:=by
 have:=all_false (p:=yb8) (l:=x.Ways.zip x.Movers) (k:=k) (List.getElem?_zip_eq_some.2 ⟨h1,h2⟩) h
 simp [ybi,this]
theorem yo6 {x : Waterway} {k : Nat} {w : Work} (h1 : x.Works[k]? = some w) (h : ybd w = false) : ybi x = false:=by
 have:=all_false (p:=ybd) h1 h
 simp [ybi,this]
theorem pno2 {x : Waterway} (h : ¬ 2 ≤ x.Reaches.length) : ybi x = false:=by simp [ybi,h]
theorem pno3 {x : Waterway} (h : ¬ x.Ways.length = x.Reaches.length) : ybi x = false:=by simp [ybi,h]
theorem pno4 {x : Waterway} (h : ¬ x.Movers.length = x.Reaches.length) : ybi x = false:=by simp [ybi,h]
theorem pno5 {x : Waterway} (h : ¬ x.Works.length + 1 = x.Reaches.length) : ybi x = false:=by simp [ybi,h]
theorem ysC (x : Waterway) (hs : x.small) : yB Tryz.prog 78 [.agg (x.enc.map .c)] (.c (.b (ybi x))):=by
 have hsM:=hs.2.2.2.1
 have hsW:=hs.2.2.1
 refine yh ypQ ?_
 simp -dsimp -implicitDefEqProofs
 intro hlen
 refine yc (ysy x.Reaches) ?_
 cases h1 : ycM x.Reaches with
 | false=>simp -dsimp -implicitDefEqProofs; simp [ybi,h1]
 | true =>
 simp -dsimp -implicitDefEqProofs
 refine ⟨fun h2=>?_,fun h2=>(pno2 (by omega))⟩
 intro _
 refine ⟨fun h3=>?_,fun h3=>(pno3 (by omega))⟩
 intro _
 refine ⟨fun h4=>?_,fun h4=>(pno4 (by omega))⟩
 refine fun _=>⟨by unfold maxLen at hlen; unfold inI; omega,?_⟩
 refine ⟨fun h5=>(pno5 (by omega)),fun h5=>?_⟩
 have h3' : x.Ways.length = x.Reaches.length:=by omega
 have h4' : x.Movers.length = x.Reaches.length:=by omega
 have hz : (x.Ways.zip x.Movers).length = x.Ways.length:=by rw [List.length_zip]; omega
 refine fun hlw=>yg (ι:=Nat) (fun k=>k ≤ x.Ways.length ∧ ∀ p ∈ (x.Ways.zip x.Movers).take k,yb8 p = true) (fun k=>yO [(1,.box 1 0),(44,.c (.sl 2 (x.Ways.map Way.enc))),(45,.c (.i x.Ways.length)),(46,.c (.i k))] [(1,.box (x.enc.map .c))]) (fun k=>x.Ways.length - k) 0 (by simp) (by apply yj <;> simp) ?_
 rintro k ⟨hk,hall⟩
 rcases Nat.lt_or_ge k x.Ways.length with hlt | hge
 ·obtain ⟨w,hw⟩ : ∃ w,x.Ways[k]? = some w:=⟨_,List.getElem?_eq_getElem hlt⟩
  obtain ⟨ms,hm⟩ : ∃ w,x.Movers[k]? = some w:=⟨_,List.getElem?_eq_getElem (by omega)⟩
  have hkm : k < x.Movers.length:=by omega
  have gm:=(List.getElem?_eq_some_iff.1 hm).2
  have gw:=(List.getElem?_eq_some_iff.1 hw).2
  have hp : (x.Ways.zip x.Movers)[k]? = some (w,ms):=List.getElem?_zip_eq_some.2 ⟨hw,hm⟩
  have hsm:=hsM.2 ms (List.mem_of_getElem? hm)
  simp -dsimp -implicitDefEqProofs [hw,gw,yG hlt,hlt]
  refine yc (ypN w) ?_
  cases h6 : yjg w with
  | false=>simp -dsimp -implicitDefEqProofs; exact ydV hw hm (yBL h6)
  | true =>
  simp -dsimp -implicitDefEqProofs [hm,gm,hkm,yG hkm]
  intro hlm
  refine ⟨fun h7=>(ydV hw hm (yCv (by omega))),fun h7=>?_⟩
  refine fun _=>yg (ι:=Nat) (fun i=>i ≤ ms.length ∧ ∀ m ∈ ms.take i,ybk m w = true) (fun i=>yO [(1,.box 1 0),(5,.box 5 0),(44,.c (.sl 2 (x.Ways.map Way.enc))),(45,.c (.i x.Ways.length)),(46,.c (.i k)),(67,.c (.sl 3 (ms.map Mover.enc))),(68,.c (.i ms.length)),(69,.c (.i i))] [(1,.box (x.enc.map .c)),(5,.box (w.enc.map .c))]) (fun i=>ms.length - i) 0 (by simp) (by apply yj <;> simp) ?_
  rintro i ⟨hi,hall2⟩
  rcases Nat.lt_or_ge i ms.length with hlt2 | hge2
  ·obtain ⟨m,hmm⟩ : ∃ w,ms[i]? = some w:=⟨_,List.getElem?_eq_getElem hlt2⟩
   have g2:=(List.getElem?_eq_some_iff.1 hmm).2
   simp -dsimp -implicitDefEqProofs [hmm,g2,yG hlt2,hlt2]
   refine yc (yr9 m w (hsm.2 m (List.mem_of_getElem? hmm))) ?_
   cases h8 : ybk m w with
   | false=>simp -dsimp -implicitDefEqProofs; exact ydV hw hm (yyL hmm h8)
   | true =>
    simp -dsimp -implicitDefEqProofs
    refine ⟨yw hlt2 hlm,i + 1,⟨hlt2,yL (p:=fun m=>ybk m w) hmm hall2 h8⟩,by omega,?_⟩
    apply yj <;> simp
  ·have h9:=yX (p:=fun m=>ybk m w) hge2 hall2
   have hlane : yb8 (w,ms) = true:=by
    have : ms.length ≤ 24:=by omega
    simp [yb8,h6,this,h9]
   simp -dsimp -implicitDefEqProofs [yaB hge2]
   refine ⟨yw hlt hlw,k + 1,⟨hlt,fun a b hab=>yL (p:=yb8) hp hall hlane (a,b) hab⟩,by omega,?_⟩
   apply yj <;> simp
 ·have hl:=yX (p:=yb8) (by rw [hz]; exact hge) hall
  simp -dsimp -implicitDefEqProofs [yaB hge]
  refine fun hlk=>yg (ι:=Nat) (fun i=>i ≤ x.Works.length ∧ ∀ w ∈ x.Works.take i,ybd w = true) (fun i=>yO [(1,.box 1 0),(80,.c (.sl 22 (x.Works.map Work.enc))),(81,.c (.i x.Works.length)),(82,.c (.i i))] [(1,.box (x.enc.map .c))]) (fun i=>x.Works.length - i) 0 (by simp) (by apply yj <;> simp) ?_
  rintro i ⟨hi,hall2⟩
  rcases Nat.lt_or_ge i x.Works.length with hlt2 | hge2
  ·obtain ⟨w,hw⟩ : ∃ w,x.Works[i]? = some w:=⟨_,List.getElem?_eq_getElem hlt2⟩
   have g2:=(List.getElem?_eq_some_iff.1 hw).2
   simp -dsimp -implicitDefEqProofs [hw,g2,yG hlt2,hlt2]
   refine yc (yu3 w (hsW.2 w (List.mem_of_getElem? hw))) ?_
   cases h8 : ybd w with
   | false=>simp -dsimp -implicitDefEqProofs; exact yo6 hw h8
   | true =>
    simp -dsimp -implicitDefEqProofs
    refine ⟨yw hlt2 hlk,i + 1,⟨hlt2,yL (p:=ybd) hw hall2 h8⟩,by omega,?_⟩
    apply yj <;> simp
  ·have h9:=yX (p:=ybd) hge2 hall2
   simp -dsimp -implicitDefEqProofs [yaB hge2]
   have h2' : 2 ≤ x.Reaches.length:=by omega
   have h5' : x.Works.length + 1 = x.Reaches.length:=by omega
   simp [ybi,h1,h2',h3',h4',h5',hl,h9]
def yc9 (n : Nat) (p : Passing) : Bool:=inRange p.Time 0 1000000 && inRange p.Work 0 (n - 1) && yP p.Train
def ybW (x : Waterway) : Bool:=decide (x.Arrived.length ≤ 500) && decide (x.Entered.length ≤ 2000) && decide (x.Passings.length ≤ 500) && x.Arrived.all yP && x.Entered.all (fun n=>inRange n 1 9999) && x.Passings.all (yc9 x.Works.length)
def yar (x : Waterway) : Bool:=inRange x.Time 0 1000000 && ybi x && ybW x && ya9 x.Tariff && yht x.Book && inRange x.Start 0 1000000000 && inRange x.In 0 1000000000 && inRange x.Out 0 1000000000
theorem lno1 {x : Waterway} (h : ¬ x.Arrived.length ≤ 500) : ybW x = false:=by simp [ybW,h]
theorem lno2 {x : Waterway} (h : ¬ x.Entered.length ≤ 2000) : ybW x = false:=by simp [ybW,h]
theorem lno3 {x : Waterway} (h : ¬ x.Passings.length ≤ 500) : ybW x = false:=by simp [ybW,h]
theorem lno4 {x : Waterway} {k : Nat} {t : Train} (h1 : x.Arrived[k]? = some t) (h : yP t = false) : ybW x = false:=by
 have:=all_false (p:=yP) h1 h
 simp [ybW,this]
theorem lno5 {x : Waterway} {k : Nat} {t : Int} (h1 : x.Entered[k]? = some t) (h : inRange t 1 9999 = false) : ybW x = false:=by
 have:=all_false (p:=fun n=>inRange n 1 9999) h1 h
 simp [ybW,this]
theorem yxw {x : Waterway} {k : Nat} {t : Passing} (h1 : x.Passings[k]? = some t) (h : yc9 x.Works.length t = false) : ybW x = false:=by
 have:=all_false (p:=yc9 x.Works.length) h1 h
 simp [ybW,this]
theorem wno {x : Waterway} (h : ybW x = false) : yar x = false:=by simp [yar,h]
theorem yns (x : Waterway) (hs : x.small) : yB Tryz.prog 45 [.agg (x.enc.map .c)] (.c (.b (yar x))):=by
 have hsA:=hs.2.2.2.2.1
 have hsP:=hs.2.2.2.2.2.2.2.2
 refine yh ylp ?_
 simp -dsimp -implicitDefEqProofs
 refine yc (yC x.Time 0 1000000) ?_
 cases h1 : inRange x.Time 0 1000000 with
 | false=>simp -dsimp -implicitDefEqProofs; simp [yar,h1]
 | true =>
 simp -dsimp -implicitDefEqProofs
 refine yc (ysC x hs) ?_
 cases h2 : ybi x with
 | false=>simp -dsimp -implicitDefEqProofs; simp [yar,h2]
 | true =>
 simp -dsimp -implicitDefEqProofs
 intro hlA
 refine ⟨fun h3=>?_,fun h3=>(wno (lno1 (by omega)))⟩
 intro hlE
 refine ⟨fun h4=>?_,fun h4=>(wno (lno2 (by omega)))⟩
 intro hlP
 refine ⟨fun h5=>(wno (lno3 (by omega))),fun h5=>?_⟩
 refine fun _=>yg (ι:=Nat) (fun k=>k ≤ x.Arrived.length ∧ ∀ t ∈ x.Arrived.take k,yP t = true) (fun k=>yO [(1,.box 1 0),(37,.c (.sl 2 (x.Arrived.map Train.enc))),(38,.c (.i x.Arrived.length)),(39,.c (.i k))] [(1,.box (x.enc.map .c))]) (fun k=>x.Arrived.length - k) 0 (by simp) (by apply yj <;> simp) ?_
 rintro k ⟨hk,hall⟩
 rcases Nat.lt_or_ge k x.Arrived.length with hlt | hge
 ·obtain ⟨t,ht⟩ : ∃ w,x.Arrived[k]? = some w:=⟨_,List.getElem?_eq_getElem hlt⟩
  simp -dsimp -implicitDefEqProofs [ht,yG hlt]
  refine yc (ydp t (hsA.2 t (List.mem_of_getElem? ht))) ?_
  cases h6 : yP t with
  | false=>simp -dsimp -implicitDefEqProofs; exact wno (lno4 ht h6)
  | true =>
   simp -dsimp -implicitDefEqProofs
   refine ⟨yw hlt hlA,k + 1,⟨hlt,yL (p:=yP) ht hall h6⟩,by omega,?_⟩
   apply yj <;> simp
 have hA:=yX (p:=yP) hge hall
 simp -dsimp -implicitDefEqProofs [yaB hge]
 refine fun _=>yg (ι:=Nat) (fun k=>k ≤ x.Entered.length ∧ ∀ t ∈ x.Entered.take k,inRange t 1 9999 = true) (fun k=>yO [(1,.box 1 0),(48,.c (.sl 1 (x.Entered.map yJ))),(49,.c (.i x.Entered.length)),(50,.c (.i k))] [(1,.box (x.enc.map .c))]) (fun k=>x.Entered.length - k) 0 (by simp) (by apply yj <;> simp) ?_
 clear hall hk hge k
 rintro k ⟨hk,hall⟩
 rcases Nat.lt_or_ge k x.Entered.length with hlt | hge
 ·obtain ⟨t,ht⟩ : ∃ w,x.Entered[k]? = some w:=⟨_,List.getElem?_eq_getElem hlt⟩
  simp -dsimp -implicitDefEqProofs [ht,yG hlt]
  refine yc (yC t 1 9999) ?_
  cases h6 : inRange t 1 9999 with
  | false=>simp -dsimp -implicitDefEqProofs; exact wno (lno5 ht h6)
  | true =>
   simp -dsimp -implicitDefEqProofs
   refine ⟨yw hlt hlE,k + 1,⟨hlt,yL (p:=fun n=>inRange n 1 9999) ht hall h6⟩,by omega,?_⟩
   apply yj <;> simp
 have hE:=yX (p:=fun n=>inRange n 1 9999) hge hall
 simp -dsimp -implicitDefEqProofs [yaB hge]
 refine fun _=>yg (ι:=Nat) (fun k=>k ≤ x.Passings.length ∧ ∀ t ∈ x.Passings.take k,yc9 x.Works.length t = true) (fun k=>yO [(1,.box 1 0),(59,.c (.sl 4 (x.Passings.map Passing.enc))),(60,.c (.i x.Passings.length)),(61,.c (.i k))] [(1,.box (x.enc.map .c))]) (fun k=>x.Passings.length - k) 0 (by simp) (by apply yj <;> simp) ?_
 clear hall hk hge k
 rintro k ⟨hk,hall⟩
 rcases Nat.lt_or_ge k x.Passings.length with hlt | hge
 ·obtain ⟨t,ht⟩ : ∃ w,x.Passings[k]? = some w:=⟨_,List.getElem?_eq_getElem hlt⟩
  simp -dsimp -implicitDefEqProofs [ht,yG hlt]
  refine yc (yC t.Time 0 1000000) ?_
  cases h6 : inRange t.Time 0 1000000 with
  | false=>simp -dsimp -implicitDefEqProofs; exact wno (yxw ht (by simp [yc9,h6]))
  | true =>
  simp -dsimp -implicitDefEqProofs
  refine fun hlW=>⟨by unfold maxLen at hlW; unfold inI; omega,?_⟩
  refine yc (yC t.Work 0 (x.Works.length - 1)) ?_
  cases h7 : inRange t.Work 0 (x.Works.length - 1) with
  | false=>simp -dsimp -implicitDefEqProofs; exact wno (yxw ht (by simp [yc9,h7]))
  | true =>
  simp -dsimp -implicitDefEqProofs
  refine yc (ydp t.Train (hsP.2 t (List.mem_of_getElem? ht))) ?_
  cases h8 : yP t.Train with
  | false=>simp -dsimp -implicitDefEqProofs; exact wno (yxw ht (by simp [yc9,h8]))
  | true =>
  simp -dsimp -implicitDefEqProofs
  refine ⟨yw hlt hlP,k + 1,⟨hlt,yL (p:=yc9 x.Works.length) ht hall (by simp [yc9,h6,h7,h8])⟩,by omega,?_⟩
  apply yj <;> simp
 have hP:=yX (p:=yc9 x.Works.length) hge hall
 simp -dsimp -implicitDefEqProofs [yaB hge]
 refine yc (yqB x.Tariff) ?_
 cases h7 : ya9 x.Tariff with
 | false=>simp -dsimp -implicitDefEqProofs; simp [yar,h7]
 | true =>
 simp -dsimp -implicitDefEqProofs
 refine yc (yvn x.Book) ?_
 cases h8 : yht x.Book with
 | false=>simp -dsimp -implicitDefEqProofs; simp [yar,h8]
 | true =>
 simp -dsimp -implicitDefEqProofs
 refine yc (yC x.Start 0 1000000000) ?_
 cases h9 : inRange x.Start 0 1000000000 with
 | false=>simp -dsimp -implicitDefEqProofs; simp [yar,h9]
 | true =>
 simp -dsimp -implicitDefEqProofs
 refine yc (yC x.In 0 1000000000) ?_
 cases h10 : inRange x.In 0 1000000000 with
 | false=>simp -dsimp -implicitDefEqProofs; simp [yar,h10]
 | true =>
 simp -dsimp -implicitDefEqProofs
 refine yc (yC x.Out 0 1000000000) ?_
 simp -dsimp -implicitDefEqProofs
 have a3 : x.Arrived.length ≤ 500:=by omega
 have a4 : x.Entered.length ≤ 2000:=by omega
 have a5 : x.Passings.length ≤ 500:=by omega
 have hl : ybW x = true:=by simp only [ybW,a3,a4,a5,hA,hE,hP]; simp
 simp [yar,h1,h2,h7,h8,h9,h10,hl]
end Go.Proofs.YtpkpdbohalbbaaaGreat
