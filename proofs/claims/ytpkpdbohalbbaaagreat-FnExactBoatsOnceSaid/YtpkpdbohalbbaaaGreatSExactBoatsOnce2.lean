/- What the law FnExactBoatsOnce stands on: contracts of functions, what each answers as plain Lean, in short form (names, layout). -/
import Derived.Test.YtpkpdbohalbbaaaGreatSExactBoatsOnce1
set_option linter.all false
namespace Go.Proofs.YtpkpdbohalbbaaaGreat
open Go.RowKit
open Go.ChangeShapes Go.WideShapes
theorem ywf (xs : List Reach) (hl : ycN xs) : yB Tryz.prog 23 [.c (.sl 3 (xs.map Reach.enc))] (.c (.sl 3 (xs.map Reach.enc))):=by
 refine yh yii ?_
 simp -dsimp -implicitDefEqProofs
 intro hlen
 have hl1:=hl.1
 refine ⟨by omega,?_⟩
 refine yg (ι:=Nat) (fun k=>k ≤ xs.length) (fun k=>yO [(0,.c (.sl 3 (xs.map Reach.enc))),(3,.own 7 3 xs.length),(4,.c (.i k))] [(7,.row 3 (partly Reach.enc [.sl 2 [],.i 0,.sl 1 []] xs k))]) (fun k=>xs.length - k) 0 (by simp) (by apply yj <;> simp [yab]) ?_
 rintro k hk
 rcases Nat.lt_or_ge k xs.length with hlt | hge
 ·obtain ⟨e,he⟩ : ∃ e,xs[k]? = some e:=⟨_,List.getElem?_eq_getElem hlt⟩
  have hs:=yaj (f:=Reach.enc) (z:=[.sl 2 [],.i 0,.sl 1 []]) he
  have hd:=yav (f:=Reach.enc) (z:=[.sl 2 [],.i 0,.sl 1 []]) (n:=3) rfl hlt
  simp only [Reach.enc] at hs
  simp -dsimp -implicitDefEqProofs [he,yG hlt]
  refine fun _=>yaP (yxy e (hl.2 e (List.mem_of_getElem? he))) (by simp) rfl ?_
  simp -dsimp -implicitDefEqProofs [yG hlt,yak hk,hd,hs]
  exact ⟨hlt,yw hlt hlen,k + 1,hlt,by omega,by apply yj <;> simp⟩
 ·simp -dsimp -implicitDefEqProofs [yaB hge]
  intro _
  rw [yam hge,List.take_of_length_le (by simp)]
theorem ywC (es fs : List Reach) : yB Tryz.prog 33 [.c (.sl 3 (es.map Reach.enc)),.c (.sl 3 (fs.map Reach.enc))] (.c (.b (decide (es = fs)))):=by
 refine yh ynu ?_
 simp -dsimp -implicitDefEqProofs
 intro hl1 hl2
 refine ⟨fun h e=>h (by rw [e]),fun hlen=>?_⟩
 have hlen' : es.length = fs.length:=by omega
 refine yg (ι:=Nat) (fun k=>k ≤ es.length ∧ es.take k = fs.take k) (fun k=>yO [(0,.c (.sl 3 (es.map Reach.enc))),(1,.c (.sl 3 (fs.map Reach.enc))),(5,.c (.i k))] []) (fun k=>es.length - k) 0 (by simp) (by apply yj <;> simp) ?_
 rintro k ⟨hk,htk⟩
 rcases Nat.lt_or_ge k es.length with hlt | hge
 ·obtain ⟨e,he⟩ : ∃ e,es[k]? = some e:=⟨_,List.getElem?_eq_getElem hlt⟩
  obtain ⟨f,hf⟩ : ∃ f,fs[k]? = some f:=⟨_,List.getElem?_eq_getElem (by omega)⟩
  simp -dsimp -implicitDefEqProofs [he,hf,yG hlt,yG (hlen' ▸ hlt)]
  intro _
  refine yaC (yx6 e f) ?_
  simp -dsimp -implicitDefEqProofs
  refine ⟨fun h=>ybG he hf h,fun h=>⟨yw hlt hl1,k + 1,⟨hlt,yaR he hf htk h⟩,by omega,by apply yj <;> simp⟩⟩
 ·simp -dsimp -implicitDefEqProofs [yaB hge]
  intro _
  exact ybf hge hlen' htk
-- []Way
def yk3 (xs : List Way) (l : Int) : Int:=szS xs.length l
def yhr : List Way → Prop:=ycs fun _=>True
theorem ypU : yey yk3 yhr:=yhU
theorem yxL (xs : List Way) (l : Int) (h0 : 0 ≤ l) (h1 : l ≤ 1048576) : yB Tryz.prog 13 [.c (.sl 2 (xs.map Way.enc)),.c (.i l)] (.c (.i (yk3 xs l))):=by
 refine yh yqz ?_
 simp -dsimp -implicitDefEqProofs [yj9,yk3,szS]
 intro hl
 unfold maxLen at hl
 refine ⟨by unfold inI; omega,fun h=>?_,fun h=>?_⟩ <;> intros <;> omega
theorem yzL (xs : List Way) (hl : yhr xs) : yB Tryz.prog 24 [.c (.sl 2 (xs.map Way.enc))] (.c (.sl 2 (xs.map Way.enc))):=by
 refine yh yj5 ?_
 simp -dsimp -implicitDefEqProofs
 intro hlen
 have hl1:=hl.1
 refine ⟨by omega,?_⟩
 refine yg (ι:=Nat) (fun k=>k ≤ xs.length) (fun k=>yO [(0,.c (.sl 2 (xs.map Way.enc))),(3,.own 7 2 xs.length),(4,.c (.i k))] [(7,.row 2 (partly Way.enc [.i 0,.i 0] xs k))]) (fun k=>xs.length - k) 0 (by simp) (by apply yj <;> simp [yab]) ?_
 rintro k hk
 rcases Nat.lt_or_ge k xs.length with hlt | hge
 ·obtain ⟨e,he⟩ : ∃ e,xs[k]? = some e:=⟨_,List.getElem?_eq_getElem hlt⟩
  have hs:=yaj (f:=Way.enc) (z:=[.i 0,.i 0]) he
  have hd:=yav (f:=Way.enc) (z:=[.i 0,.i 0]) (n:=2) rfl hlt
  simp only [Way.enc] at hs
  simp -dsimp -implicitDefEqProofs [he,yG hlt]
  refine fun _=>yaP (yxc e ) (by simp) rfl ?_
  simp -dsimp -implicitDefEqProofs [yG hlt,yak hk,hd,hs]
  exact ⟨hlt,yw hlt hlen,k + 1,hlt,by omega,by apply yj <;> simp⟩
 ·simp -dsimp -implicitDefEqProofs [yaB hge]
  intro _
  rw [yam hge,List.take_of_length_le (by simp)]
theorem yzd (es fs : List Way) : yB Tryz.prog 34 [.c (.sl 2 (es.map Way.enc)),.c (.sl 2 (fs.map Way.enc))] (.c (.b (decide (es = fs)))):=by
 refine yh yqr ?_
 simp -dsimp -implicitDefEqProofs
 intro hl1 hl2
 refine ⟨fun h e=>h (by rw [e]),fun hlen=>?_⟩
 have hlen' : es.length = fs.length:=by omega
 refine yg (ι:=Nat) (fun k=>k ≤ es.length ∧ es.take k = fs.take k) (fun k=>yO [(0,.c (.sl 2 (es.map Way.enc))),(1,.c (.sl 2 (fs.map Way.enc))),(5,.c (.i k))] []) (fun k=>es.length - k) 0 (by simp) (by apply yj <;> simp) ?_
 rintro k ⟨hk,htk⟩
 rcases Nat.lt_or_ge k es.length with hlt | hge
 ·obtain ⟨e,he⟩ : ∃ e,es[k]? = some e:=⟨_,List.getElem?_eq_getElem hlt⟩
  obtain ⟨f,hf⟩ : ∃ f,fs[k]? = some f:=⟨_,List.getElem?_eq_getElem (by omega)⟩
  simp -dsimp -implicitDefEqProofs [he,hf,yG hlt,yG (hlen' ▸ hlt)]
  intro _
  refine yaC (yBf e f) ?_
  simp -dsimp -implicitDefEqProofs
  refine ⟨fun h=>ybG he hf h,fun h=>⟨yw hlt hl1,k + 1,⟨hlt,yaR he hf htk h⟩,by omega,by apply yj <;> simp⟩⟩
 ·simp -dsimp -implicitDefEqProofs [yaB hge]
  intro _
  exact ybf hge hlen' htk
-- []Work
def yfc : List Work → Int → Int:=yeE ycY
def yc8 : List Work → Prop:=ycs Work.small
theorem ym4 : yey yfc yc8:=ygj yn3
theorem yv0 (xs : List Work) (l : Int) (h0 : 0 ≤ l) (h1 : l ≤ 1048576) : yB Tryz.prog 14 [.c (.sl 22 (xs.map Work.enc)),.c (.i l)] (.c (.i (yfc xs l))):=by
 refine yh ypK ?_
 simp -dsimp -implicitDefEqProofs
 intro hl
 have hs : szS xs.length l = if l - xs.length < 0 then -1 else l - xs.length:=rfl
 refine ⟨by unfold maxLen at hl; unfold inI; omega,fun h=>?_,fun h=>?_⟩
 ·simp [yfc,yeE,ybm,hs,h]
 have h' : 0 ≤ l - xs.length:=by omega
 have e0 : yfc xs l = yaw ycY xs (l - xs.length):=by
  have : szS xs.length l = l - xs.length:=by rw [hs,if_neg (by omega)]
  simp only [yfc,yeE]
  rw [this,yu h']
 refine yg (ι:=Nat × Int) (fun p=>p.1 ≤ xs.length ∧ 0 ≤ p.2 ∧ p.2 ≤ 1048576 ∧ yaw ycY (xs.drop p.1) p.2 = yfc xs l) (fun p=>yO [(0,.c (.sl 22 (xs.map Work.enc))),(1,.c (.i p.2)),(5,.c (.i p.1))] []) (fun p=>xs.length - p.1) (0,l - xs.length) ⟨by simp,h',by simp only; omega,by simp [e0]⟩ (by apply yj <;> simp) ?_
 rintro ⟨k,q⟩ ⟨hk,hq0,hq1,hf⟩
 simp only at hk hq0 hq1 hf
 rcases Nat.lt_or_ge k xs.length with hlt | hge
 ·obtain ⟨e,he⟩ : ∃ e,xs[k]? = some e:=⟨_,List.getElem?_eq_getElem hlt⟩
  have hd : xs.drop k = e :: xs.drop (k + 1):=by
   rw [List.drop_eq_getElem_cons hlt,(List.getElem?_eq_some_iff.1 he).2]
  rw [hd,yaw] at hf
  simp -dsimp -implicitDefEqProofs [he,yG hlt]
  refine fun _=>yaQ (yym e q hq0 hq1) (by simp) rfl ?_
  simp -dsimp -implicitDefEqProofs
  refine ⟨fun h=>by rw [← hf,yK h],fun h=>⟨yw hlt hl,k + 1,⟨ycY e q,?_⟩⟩⟩
  rw [yu h] at hf
  have hle : ycY e q ≤ 1048576:=by
   rcases yn3 e q hq0 hq1 with e1 | e1
   ·omega
   ·omega
  exact ⟨⟨hlt,h,hle,hf⟩,by omega,by apply yj <;> simp⟩
 ·simp -dsimp -implicitDefEqProofs [yaB hge]
  rw [List.drop_of_length_le hge] at hf
  intro _
  first | simpa [yaw] using hf | simpa [yaw] using hf.symm
theorem yyh (xs : List Work) (hl : yc8 xs) : yB Tryz.prog 25 [.c (.sl 22 (xs.map Work.enc))] (.c (.sl 22 (xs.map Work.enc))):=by
 refine yh yjm ?_
 simp -dsimp -implicitDefEqProofs
 intro hlen
 have hl1:=hl.1
 refine ⟨by omega,?_⟩
 refine yg (ι:=Nat) (fun k=>k ≤ xs.length) (fun k=>yO [(0,.c (.sl 22 (xs.map Work.enc))),(3,.own 7 22 xs.length),(4,.c (.i k))] [(7,.row 22 (partly Work.enc [.i 0,.i 0,.i 0,.i 0,.i 0,.i 0,.i 0,.i 0,.i 0,.sl 2 [],.i 0,.i 0,.i 0,.i 0,.i 0,.i 0,.i 0,.i 0,.sl 2 [],.b false,.i 0,.sl 4 []] xs k))]) (fun k=>xs.length - k) 0 (by simp) (by apply yj <;> simp [yab]) ?_
 rintro k hk
 rcases Nat.lt_or_ge k xs.length with hlt | hge
 ·obtain ⟨e,he⟩ : ∃ e,xs[k]? = some e:=⟨_,List.getElem?_eq_getElem hlt⟩
  have hs:=yaj (f:=Work.enc) (z:=[.i 0,.i 0,.i 0,.i 0,.i 0,.i 0,.i 0,.i 0,.i 0,.sl 2 [],.i 0,.i 0,.i 0,.i 0,.i 0,.i 0,.i 0,.i 0,.sl 2 [],.b false,.i 0,.sl 4 []]) he
  have hd:=yav (f:=Work.enc) (z:=[.i 0,.i 0,.i 0,.i 0,.i 0,.i 0,.i 0,.i 0,.i 0,.sl 2 [],.i 0,.i 0,.i 0,.i 0,.i 0,.i 0,.i 0,.i 0,.sl 2 [],.b false,.i 0,.sl 4 []]) (n:=22) rfl hlt
  simp only [Work.enc,Lock.enc,Weir.enc,Rule.enc,Turn.enc] at hs
  simp -dsimp -implicitDefEqProofs [he,yG hlt]
  refine fun _=>yaP (yzs e (hl.2 e (List.mem_of_getElem? he))) (by simp) rfl ?_
  simp -dsimp -implicitDefEqProofs [yG hlt,yak hk,hd,hs]
  exact ⟨hlt,yw hlt hlen,k + 1,hlt,by omega,by apply yj <;> simp⟩
 ·simp -dsimp -implicitDefEqProofs [yaB hge]
  intro _
  rw [yam hge,List.take_of_length_le (by simp)]
theorem yyy (es fs : List Work) : yB Tryz.prog 35 [.c (.sl 22 (es.map Work.enc)),.c (.sl 22 (fs.map Work.enc))] (.c (.b (decide (es = fs)))):=by
 refine yh yo1 ?_
 simp -dsimp -implicitDefEqProofs
 intro hl1 hl2
 refine ⟨fun h e=>h (by rw [e]),fun hlen=>?_⟩
 have hlen' : es.length = fs.length:=by omega
 refine yg (ι:=Nat) (fun k=>k ≤ es.length ∧ es.take k = fs.take k) (fun k=>yO [(0,.c (.sl 22 (es.map Work.enc))),(1,.c (.sl 22 (fs.map Work.enc))),(5,.c (.i k))] []) (fun k=>es.length - k) 0 (by simp) (by apply yj <;> simp) ?_
 rintro k ⟨hk,htk⟩
 rcases Nat.lt_or_ge k es.length with hlt | hge
 ·obtain ⟨e,he⟩ : ∃ e,es[k]? = some e:=⟨_,List.getElem?_eq_getElem hlt⟩
  obtain ⟨f,hf⟩ : ∃ f,fs[k]? = some f:=⟨_,List.getElem?_eq_getElem (by omega)⟩
  simp -dsimp -implicitDefEqProofs [he,hf,yG hlt,yG (hlen' ▸ hlt)]
  intro _
  refine yaC (yy2 e f) ?_
  simp -dsimp -implicitDefEqProofs
  refine ⟨fun h=>ybG he hf h,fun h=>⟨yw hlt hl1,k + 1,⟨hlt,yaR he hf htk h⟩,by omega,by apply yj <;> simp⟩⟩
 ·simp -dsimp -implicitDefEqProofs [yaB hge]
  intro _
  exact ybf hge hlen' htk
-- []Mover
def ycf : List Mover → Int → Int:=yeE ycV
def yfK : List Mover → Prop:=ycs Mover.small
theorem ylJ : yey ycf yfK:=ygj ymQ
theorem yuF (xs : List Mover) (l : Int) (h0 : 0 ≤ l) (h1 : l ≤ 1048576) : yB Tryz.prog 50 [.c (.sl 3 (xs.map Mover.enc)),.c (.i l)] (.c (.i (ycf xs l))):=by
 refine yh ynH ?_
 simp -dsimp -implicitDefEqProofs
 intro hl
 have hs : szS xs.length l = if l - xs.length < 0 then -1 else l - xs.length:=rfl
 refine ⟨by unfold maxLen at hl; unfold inI; omega,fun h=>?_,fun h=>?_⟩
 ·simp [ycf,yeE,ybm,hs,h]
 have h' : 0 ≤ l - xs.length:=by omega
 have e0 : ycf xs l = yaw ycV xs (l - xs.length):=by
  have : szS xs.length l = l - xs.length:=by rw [hs,if_neg (by omega)]
  simp only [ycf,yeE]
  rw [this,yu h']
 refine yg (ι:=Nat × Int) (fun p=>p.1 ≤ xs.length ∧ 0 ≤ p.2 ∧ p.2 ≤ 1048576 ∧ yaw ycV (xs.drop p.1) p.2 = ycf xs l) (fun p=>yO [(0,.c (.sl 3 (xs.map Mover.enc))),(1,.c (.i p.2)),(5,.c (.i p.1))] []) (fun p=>xs.length - p.1) (0,l - xs.length) ⟨by simp,h',by simp only; omega,by simp [e0]⟩ (by apply yj <;> simp) ?_
 rintro ⟨k,q⟩ ⟨hk,hq0,hq1,hf⟩
 simp only at hk hq0 hq1 hf
 rcases Nat.lt_or_ge k xs.length with hlt | hge
 ·obtain ⟨e,he⟩ : ∃ e,xs[k]? = some e:=⟨_,List.getElem?_eq_getElem hlt⟩
  have hd : xs.drop k = e :: xs.drop (k + 1):=by
   rw [List.drop_eq_getElem_cons hlt,(List.getElem?_eq_some_iff.1 he).2]
  rw [hd,yaw] at hf
  simp -dsimp -implicitDefEqProofs [he,yG hlt]
  refine fun _=>yaQ (yvT e q hq0 hq1) (by simp) rfl ?_
  simp -dsimp -implicitDefEqProofs
  refine ⟨fun h=>by rw [← hf,yK h],fun h=>⟨yw hlt hl,k + 1,⟨ycV e q,?_⟩⟩⟩
  rw [yu h] at hf
  have hle : ycV e q ≤ 1048576:=by
   rcases ymQ e q hq0 hq1 with e1 | e1
   ·omega
   ·omega
  exact ⟨⟨hlt,h,hle,hf⟩,by omega,by apply yj <;> simp⟩
 ·simp -dsimp -implicitDefEqProofs [yaB hge]
  rw [List.drop_of_length_le hge] at hf
  intro _
  first | simpa [yaw] using hf | simpa [yaw] using hf.symm
theorem ywy (xs : List Mover) (hl : yfK xs) : yB Tryz.prog 57 [.c (.sl 3 (xs.map Mover.enc))] (.c (.sl 3 (xs.map Mover.enc))):=by
 refine yh yiz ?_
 simp -dsimp -implicitDefEqProofs
 intro hlen
 have hl1:=hl.1
 refine ⟨by omega,?_⟩
 refine yg (ι:=Nat) (fun k=>k ≤ xs.length) (fun k=>yO [(0,.c (.sl 3 (xs.map Mover.enc))),(3,.own 7 3 xs.length),(4,.c (.i k))] [(7,.row 3 (partly Mover.enc [.b false,.sl 1 [],.i 0] xs k))]) (fun k=>xs.length - k) 0 (by simp) (by apply yj <;> simp [yab]) ?_
 rintro k hk
 rcases Nat.lt_or_ge k xs.length with hlt | hge
 ·obtain ⟨e,he⟩ : ∃ e,xs[k]? = some e:=⟨_,List.getElem?_eq_getElem hlt⟩
  have hs:=yaj (f:=Mover.enc) (z:=[.b false,.sl 1 [],.i 0]) he
  have hd:=yav (f:=Mover.enc) (z:=[.b false,.sl 1 [],.i 0]) (n:=3) rfl hlt
  simp only [Mover.enc,Train.enc] at hs
  simp -dsimp -implicitDefEqProofs [he,yG hlt]
  refine fun _=>yaP (yyk e (hl.2 e (List.mem_of_getElem? he))) (by simp) rfl ?_
  simp -dsimp -implicitDefEqProofs [yG hlt,yak hk,hd,hs]
  exact ⟨hlt,yw hlt hlen,k + 1,hlt,by omega,by apply yj <;> simp⟩
 ·simp -dsimp -implicitDefEqProofs [yaB hge]
  intro _
  rw [yam hge,List.take_of_length_le (by simp)]
theorem ywq (es fs : List Mover) : yB Tryz.prog 65 [.c (.sl 3 (es.map Mover.enc)),.c (.sl 3 (fs.map Mover.enc))] (.c (.b (decide (es = fs)))):=by
 refine yh ynq ?_
 simp -dsimp -implicitDefEqProofs
 intro hl1 hl2
 refine ⟨fun h e=>h (by rw [e]),fun hlen=>?_⟩
 have hlen' : es.length = fs.length:=by omega
 refine yg (ι:=Nat) (fun k=>k ≤ es.length ∧ es.take k = fs.take k) (fun k=>yO [(0,.c (.sl 3 (es.map Mover.enc))),(1,.c (.sl 3 (fs.map Mover.enc))),(5,.c (.i k))] []) (fun k=>es.length - k) 0 (by simp) (by apply yj <;> simp) ?_
 rintro k ⟨hk,htk⟩
 rcases Nat.lt_or_ge k es.length with hlt | hge
 ·obtain ⟨e,he⟩ : ∃ e,es[k]? = some e:=⟨_,List.getElem?_eq_getElem hlt⟩
  obtain ⟨f,hf⟩ : ∃ f,fs[k]? = some f:=⟨_,List.getElem?_eq_getElem (by omega)⟩
  simp -dsimp -implicitDefEqProofs [he,hf,yG hlt,yG (hlen' ▸ hlt)]
  intro _
  refine yaC (yxY e f) ?_
  simp -dsimp -implicitDefEqProofs
  refine ⟨fun h=>ybG he hf h,fun h=>⟨yw hlt hl1,k + 1,⟨hlt,yaR he hf htk h⟩,by omega,by apply yj <;> simp⟩⟩
 ·simp -dsimp -implicitDefEqProofs [yaB hge]
  intro _
  exact ybf hge hlen' htk
abbrev yZ (xs : List Mover) : List C:=[.sl 3 (xs.map Mover.enc)]
-- [][]Mover
def ydg : List (List Mover) → Int → Int:=yeE ycf
def ye2 : List (List Mover) → Prop:=ycs yfK
theorem yjX : yey ydg ye2:=ygj ylJ
theorem ytd (xs : List (List Mover)) (l : Int) (h0 : 0 ≤ l) (h1 : l ≤ 1048576) : yB Tryz.prog 15 [.c (.sl 1 (xs.map yZ)),.c (.i l)] (.c (.i (ydg xs l))):=by
 refine yh yma ?_
 simp -dsimp -implicitDefEqProofs
 intro hl
 have hs : szS xs.length l = if l - xs.length < 0 then -1 else l - xs.length:=rfl
 refine ⟨by unfold maxLen at hl; unfold inI; omega,fun h=>?_,fun h=>?_⟩
 ·simp [ydg,yeE,ybm,hs,h]
 have h' : 0 ≤ l - xs.length:=by omega
 have e0 : ydg xs l = yaw ycf xs (l - xs.length):=by
  have : szS xs.length l = l - xs.length:=by rw [hs,if_neg (by omega)]
  simp only [ydg,yeE]
  rw [this,yu h']
 refine yg (ι:=Nat × Int) (fun p=>p.1 ≤ xs.length ∧ 0 ≤ p.2 ∧ p.2 ≤ 1048576 ∧ yaw ycf (xs.drop p.1) p.2 = ydg xs l) (fun p=>yO [(0,.c (.sl 1 (xs.map yZ))),(1,.c (.i p.2)),(5,.c (.i p.1))] []) (fun p=>xs.length - p.1) (0,l - xs.length) ⟨by simp,h',by simp only; omega,by simp [e0]⟩ (by apply yj <;> simp) ?_
 rintro ⟨k,q⟩ ⟨hk,hq0,hq1,hf⟩
 simp only at hk hq0 hq1 hf
 rcases Nat.lt_or_ge k xs.length with hlt | hge
 ·obtain ⟨e,he⟩ : ∃ e,xs[k]? = some e:=⟨_,List.getElem?_eq_getElem hlt⟩
  have hd : xs.drop k = e :: xs.drop (k + 1):=by
   rw [List.drop_eq_getElem_cons hlt,(List.getElem?_eq_some_iff.1 he).2]
  rw [hd,yaw] at hf
  simp -dsimp -implicitDefEqProofs [he,yG hlt]
  refine fun _=>yaQ (yuF e q hq0 hq1) (by simp) rfl ?_
  simp -dsimp -implicitDefEqProofs
  refine ⟨fun h=>by rw [← hf,yK h],fun h=>⟨yw hlt hl,k + 1,⟨ycf e q,?_⟩⟩⟩
  rw [yu h] at hf
  have hle : ycf e q ≤ 1048576:=by
   rcases ylJ e q hq0 hq1 with e1 | e1
   ·omega
   ·omega
  exact ⟨⟨hlt,h,hle,hf⟩,by omega,by apply yj <;> simp⟩
 ·simp -dsimp -implicitDefEqProofs [yaB hge]
  rw [List.drop_of_length_le hge] at hf
  intro _
  first | simpa [yaw] using hf | simpa [yaw] using hf.symm
theorem yuh (xs : List (List Mover)) (hl : ye2 xs) : yB Tryz.prog 26 [.c (.sl 1 (xs.map yZ))] (.c (.sl 1 (xs.map yZ))):=by
 refine yh ygW ?_
 simp -dsimp -implicitDefEqProofs
 intro hlen
 have hl1:=hl.1
 refine ⟨by omega,yQd ?_⟩
 simp -dsimp -implicitDefEqProofs
 refine yg (ι:=Nat) (fun k=>k ≤ xs.length) (fun k=>yO [(0,.c (.sl 1 (xs.map yZ))),(3,.own 7 1 xs.length),(4,.c (.i k))] [(7,.row 1 (partly yZ [.sl 3 []] xs k))]) (fun k=>xs.length - k) 0 (by simp) (by apply yj <;> simp [yab]) ?_
 rintro k hk
 rcases Nat.lt_or_ge k xs.length with hlt | hge
 ·obtain ⟨e,he⟩ : ∃ e,xs[k]? = some e:=⟨_,List.getElem?_eq_getElem hlt⟩
  have hs:=yaj (f:=yZ) (z:=[.sl 3 []]) he
  have hd : ((partly yZ [.sl 3 []] xs k)[k]?.getD []).set 0 (.sl 3 (e.map Mover.enc)) = [.sl 3 (e.map Mover.enc)]:=by
   have:=ydK (f:=yZ) (z:=[.sl 3 []]) (n:=1) rfl (fun _=>rfl) hlt
   obtain ⟨x,hx⟩:=List.length_eq_one_iff.1 this
   rw [hx]; rfl
  have hs2 : (partly yZ [.sl 3 []] xs k).set k [.sl 3 (e.map Mover.enc)] = partly yZ [.sl 3 []] xs (k + 1):=hs
  simp -dsimp -implicitDefEqProofs [he,yG hlt]
  refine fun _=>yaP (ywy e (hl.2 e (List.mem_of_getElem? he))) (by simp) rfl ?_
  simp -dsimp -implicitDefEqProofs [yG hlt,yak hk,hd,hs2]
  exact ⟨hlt,yw hlt hlen,k + 1,hlt,by omega,by apply yj <;> simp⟩
 ·simp -dsimp -implicitDefEqProofs [yaB hge]
  intro _
  rw [yam hge,List.take_of_length_le (by simp)]
theorem yvc (es fs : List (List Mover)) : yB Tryz.prog 36 [.c (.sl 1 (es.map yZ)),.c (.sl 1 (fs.map yZ))] (.c (.b (decide (es = fs)))):=by
 refine yh ymn ?_
 simp -dsimp -implicitDefEqProofs
 intro hl1 hl2
 refine ⟨fun h e=>h (by rw [e]),fun hlen=>?_⟩
 have hlen' : es.length = fs.length:=by omega
 refine yg (ι:=Nat) (fun k=>k ≤ es.length ∧ es.take k = fs.take k) (fun k=>yO [(0,.c (.sl 1 (es.map yZ))),(1,.c (.sl 1 (fs.map yZ))),(5,.c (.i k))] []) (fun k=>es.length - k) 0 (by simp) (by apply yj <;> simp) ?_
 rintro k ⟨hk,htk⟩
 rcases Nat.lt_or_ge k es.length with hlt | hge
 ·obtain ⟨e,he⟩ : ∃ e,es[k]? = some e:=⟨_,List.getElem?_eq_getElem hlt⟩
  obtain ⟨f,hf⟩ : ∃ f,fs[k]? = some f:=⟨_,List.getElem?_eq_getElem (by omega)⟩
  simp -dsimp -implicitDefEqProofs [he,hf,yG hlt,yG (hlen' ▸ hlt)]
  intro _
  refine yaC (ywq e f) ?_
  simp -dsimp -implicitDefEqProofs
  refine ⟨fun h=>ybG he hf h,fun h=>⟨yw hlt hl1,k + 1,⟨hlt,yaR he hf htk h⟩,by omega,by apply yj <;> simp⟩⟩
 ·simp -dsimp -implicitDefEqProofs [yaB hge]
  intro _
  exact ybf hge hlen' htk
structure Passing where
 Time : Int
 Work : Int
 Train : Train
 deriving DecidableEq,Inhabited
@[simp] def Passing.enc (e : Passing) : List C:=[.i e.Time,.i e.Work,.b e.Train.Up,.sl 1 (e.Train.Rows.map yai)]
-- Passing
def ybM (e : Passing) (l : Int) : Int:=ybm (yb2 e.Train l) fun l=>l
def Passing.small (e : Passing) : Prop:=e.Train.small
theorem yj0 : yey ybM Passing.small:=by
 intro e l h0 h1
 unfold ybM
 rcases ye7 e.Train _ h0 h1 with e0 | ⟨a0,b0,s0⟩
 ·exact .inl (yK (by omega))
 rw [yu a0]
 exact .inr ⟨a0,by omega,s0⟩
theorem ytC (e : Passing) (l : Int) (h0 : 0 ≤ l) (h1 : l ≤ 1048576) : yB Tryz.prog 52 [.agg (e.enc.map .c),.c (.i l)] (.c (.i (ybM e l))):=by
 refine yh ymq ?_
 simp -dsimp -implicitDefEqProofs
 refine yc (yhF e.Train _ h0 h1) ?_
 simp -dsimp -implicitDefEqProofs
 refine ⟨fun h=>by simp [ybM,yK h],fun p0=>?_⟩
 simp [ybM,yu p0]
theorem ytG (e : Passing) (hl : Passing.small e) : yB Tryz.prog 60 [.agg (e.enc.map .c)] (.agg (e.enc.map .c)):=by
 refine yh yg7 ?_
 simp -dsimp -implicitDefEqProofs
 refine yS (yjt e.Train hl) ?_
 simp -dsimp -implicitDefEqProofs
theorem yu9 (a b : Passing) : yB Tryz.prog 68 [.agg (a.enc.map .c),.agg (b.enc.map .c)] (.c (.b (decide (a = b)))):=by
 refine yh ymw ?_
 obtain ⟨a0,a1,a2⟩:=a
 obtain ⟨b0,b1,b2⟩:=b
 simp -dsimp -implicitDefEqProofs [yhh,Passing.mk.injEq]
 refine ⟨fun h=>by simp_all,fun h0=>?_⟩
 refine ⟨fun h=>by simp_all,fun h1=>?_⟩
 refine yc (yjG a2 b2) ?_
 simp -dsimp -implicitDefEqProofs
 refine ⟨fun h=>by simp_all,fun h2=>?_⟩
 simp_all
-- []Passing
def ycH : List Passing → Int → Int:=yeE ybM
def yeB : List Passing → Prop:=ycs Passing.small
theorem yoN : yey ycH yeB:=ygj yj0
theorem yqp (xs : List Passing) (l : Int) (h0 : 0 ≤ l) (h1 : l ≤ 1048576) : yB Tryz.prog 20 [.c (.sl 4 (xs.map Passing.enc)),.c (.i l)] (.c (.i (ycH xs l))):=by
 refine yh ylD ?_
 simp -dsimp -implicitDefEqProofs
 intro hl
 have hs : szS xs.length l = if l - xs.length < 0 then -1 else l - xs.length:=rfl
 refine ⟨by unfold maxLen at hl; unfold inI; omega,fun h=>?_,fun h=>?_⟩
 ·simp [ycH,yeE,ybm,hs,h]
 have h' : 0 ≤ l - xs.length:=by omega
 have e0 : ycH xs l = yaw ybM xs (l - xs.length):=by
  have : szS xs.length l = l - xs.length:=by rw [hs,if_neg (by omega)]
  simp only [ycH,yeE]
  rw [this,yu h']
 refine yg (ι:=Nat × Int) (fun p=>p.1 ≤ xs.length ∧ 0 ≤ p.2 ∧ p.2 ≤ 1048576 ∧ yaw ybM (xs.drop p.1) p.2 = ycH xs l) (fun p=>yO [(0,.c (.sl 4 (xs.map Passing.enc))),(1,.c (.i p.2)),(5,.c (.i p.1))] []) (fun p=>xs.length - p.1) (0,l - xs.length) ⟨by simp,h',by simp only; omega,by simp [e0]⟩ (by apply yj <;> simp) ?_
 rintro ⟨k,q⟩ ⟨hk,hq0,hq1,hf⟩
 simp only at hk hq0 hq1 hf
 rcases Nat.lt_or_ge k xs.length with hlt | hge
 ·obtain ⟨e,he⟩ : ∃ e,xs[k]? = some e:=⟨_,List.getElem?_eq_getElem hlt⟩
  have hd : xs.drop k = e :: xs.drop (k + 1):=by
   rw [List.drop_eq_getElem_cons hlt,(List.getElem?_eq_some_iff.1 he).2]
  rw [hd,yaw] at hf
  simp -dsimp -implicitDefEqProofs [he,yG hlt]
  refine fun _=>yaQ (ytC e q hq0 hq1) (by simp) rfl ?_
  simp -dsimp -implicitDefEqProofs
  refine ⟨fun h=>by rw [← hf,yK h],fun h=>⟨yw hlt hl,k + 1,⟨ybM e q,?_⟩⟩⟩
  rw [yu h] at hf
  have hle : ybM e q ≤ 1048576:=by
   rcases yj0 e q hq0 hq1 with e1 | e1
   ·omega
   ·omega
  exact ⟨⟨hlt,h,hle,hf⟩,by omega,by apply yj <;> simp⟩
 ·simp -dsimp -implicitDefEqProofs [yaB hge]
  rw [List.drop_of_length_le hge] at hf
  intro _
  first | simpa [yaw] using hf | simpa [yaw] using hf.symm
theorem ysA (xs : List Passing) (hl : yeB xs) : yB Tryz.prog 31 [.c (.sl 4 (xs.map Passing.enc))] (.c (.sl 4 (xs.map Passing.enc))):=by
 refine yh ygz ?_
 simp -dsimp -implicitDefEqProofs
 intro hlen
 have hl1:=hl.1
 refine ⟨by omega,?_⟩
 refine yg (ι:=Nat) (fun k=>k ≤ xs.length) (fun k=>yO [(0,.c (.sl 4 (xs.map Passing.enc))),(3,.own 7 4 xs.length),(4,.c (.i k))] [(7,.row 4 (partly Passing.enc [.i 0,.i 0,.b false,.sl 1 []] xs k))]) (fun k=>xs.length - k) 0 (by simp) (by apply yj <;> simp [yab]) ?_
 rintro k hk
 rcases Nat.lt_or_ge k xs.length with hlt | hge
 ·obtain ⟨e,he⟩ : ∃ e,xs[k]? = some e:=⟨_,List.getElem?_eq_getElem hlt⟩
  have hs:=yaj (f:=Passing.enc) (z:=[.i 0,.i 0,.b false,.sl 1 []]) he
  have hd:=yav (f:=Passing.enc) (z:=[.i 0,.i 0,.b false,.sl 1 []]) (n:=4) rfl hlt
  simp only [Passing.enc,Train.enc] at hs
  simp -dsimp -implicitDefEqProofs [he,yG hlt]
  refine fun _=>yaP (ytG e (hl.2 e (List.mem_of_getElem? he))) (by simp) rfl ?_
  simp -dsimp -implicitDefEqProofs [yG hlt,yak hk,hd,hs]
  exact ⟨hlt,yw hlt hlen,k + 1,hlt,by omega,by apply yj <;> simp⟩
 ·simp -dsimp -implicitDefEqProofs [yaB hge]
  intro _
  rw [yam hge,List.take_of_length_le (by simp)]
theorem ytz (es fs : List Passing) : yB Tryz.prog 41 [.c (.sl 4 (es.map Passing.enc)),.c (.sl 4 (fs.map Passing.enc))] (.c (.b (decide (es = fs)))):=by
 refine yh ylI ?_
 simp -dsimp -implicitDefEqProofs
 intro hl1 hl2
 refine ⟨fun h e=>h (by rw [e]),fun hlen=>?_⟩
 have hlen' : es.length = fs.length:=by omega
 refine yg (ι:=Nat) (fun k=>k ≤ es.length ∧ es.take k = fs.take k) (fun k=>yO [(0,.c (.sl 4 (es.map Passing.enc))),(1,.c (.sl 4 (fs.map Passing.enc))),(5,.c (.i k))] []) (fun k=>es.length - k) 0 (by simp) (by apply yj <;> simp) ?_
 rintro k ⟨hk,htk⟩
 rcases Nat.lt_or_ge k es.length with hlt | hge
 ·obtain ⟨e,he⟩ : ∃ e,es[k]? = some e:=⟨_,List.getElem?_eq_getElem hlt⟩
  obtain ⟨f,hf⟩ : ∃ f,fs[k]? = some f:=⟨_,List.getElem?_eq_getElem (by omega)⟩
  simp -dsimp -implicitDefEqProofs [he,hf,yG hlt,yG (hlen' ▸ hlt)]
  intro _
  refine yaC (yu9 e f) ?_
  simp -dsimp -implicitDefEqProofs
  refine ⟨fun h=>ybG he hf h,fun h=>⟨yw hlt hl1,k + 1,⟨hlt,yaR he hf htk h⟩,by omega,by apply yj <;> simp⟩⟩
 ·simp -dsimp -implicitDefEqProofs [yaB hge]
  intro _
  exact ybf hge hlen' htk
structure Waterway where
 Time : Int
 Reaches : List Reach
 Ways : List Way
 Works : List Work
 Movers : List (List Mover)
 Arrived : List Train
 Entered : List Int
 Tariff : Tariff
 Book : List Entry
 Passings : List Passing
 Start : Int
 In : Int
 Out : Int
 deriving DecidableEq
@[simp] def Waterway.enc (e : Waterway) : List C:=[.i e.Time,.sl 3 (e.Reaches.map Reach.enc),.sl 2 (e.Ways.map Way.enc),.sl 22 (e.Works.map Work.enc),.sl 1 (e.Movers.map yZ),.sl 2 (e.Arrived.map Train.enc),.sl 1 (e.Entered.map yJ),.i e.Tariff.Base,.i e.Tariff.PerArea,.sl 1 (e.Tariff.PerClass.map yJ),.sl 1 (e.Tariff.Weights.map yJ),.sl 5 (e.Book.map Entry.enc),.sl 4 (e.Passings.map Passing.enc),.i e.Start,.i e.In,.i e.Out]
-- Waterway
def yaX (e : Waterway) (l : Int) : Int:=ybm (yd8 e.Reaches l) fun l=>ybm (yk3 e.Ways l) fun l=>ybm (yfc e.Works l) fun l=>ybm (ydg e.Movers l) fun l=>ybm (ydk e.Arrived l) fun l=>ybm (yhJ e.Entered l) fun l=>ybm (ydq e.Tariff l) fun l=>ybm (ygY e.Book l) fun l=>ybm (ycH e.Passings l) fun l=>l
def Waterway.small (e : Waterway) : Prop:=ycN e.Reaches ∧ yhr e.Ways ∧ yc8 e.Works ∧ ye2 e.Movers ∧ ybV e.Arrived ∧ ykx e.Entered ∧ e.Tariff.small ∧ ykU e.Book ∧ yeB e.Passings
theorem yqh : yey yaX Waterway.small:=by
 intro e l h0 h1
 unfold yaX
 rcases ykV e.Reaches _ h0 h1 with e0 | ⟨a0,b0,s0⟩
 ·exact .inl (yK (by omega))
 rw [yu a0]
 rcases ypU e.Ways _ a0 (by omega) with e1 | ⟨a1,b1,s1⟩
 ·exact .inl (yK (by omega))
 rw [yu a1]
 rcases ym4 e.Works _ a1 (by omega) with e2 | ⟨a2,b2,s2⟩
 ·exact .inl (yK (by omega))
 rw [yu a2]
 rcases yjX e.Movers _ a2 (by omega) with e3 | ⟨a3,b3,s3⟩
 ·exact .inl (yK (by omega))
 rw [yu a3]
 rcases yhu e.Arrived _ a3 (by omega) with e4 | ⟨a4,b4,s4⟩
 ·exact .inl (yK (by omega))
 rw [yu a4]
 rcases yeY e.Entered _ a4 (by omega) with e5 | ⟨a5,b5,s5⟩
 ·exact .inl (yK (by omega))
 rw [yu a5]
 rcases ylo e.Tariff _ a5 (by omega) with e6 | ⟨a6,b6,s6⟩
 ·exact .inl (yK (by omega))
 rw [yu a6]
 rcases ykP e.Book _ a6 (by omega) with e7 | ⟨a7,b7,s7⟩
 ·exact .inl (yK (by omega))
 rw [yu a7]
 rcases yoN e.Passings _ a7 (by omega) with e8 | ⟨a8,b8,s8⟩
 ·exact .inl (yK (by omega))
 rw [yu a8]
 exact .inr ⟨a8,by omega,s0,s1,s2,s3,s4,s5,s6,s7,s8⟩
theorem yq5 (e : Waterway) (l : Int) (h0 : 0 ≤ l) (h1 : l ≤ 1048576) : yB Tryz.prog 5 [.agg (e.enc.map .c),.c (.i l)] (.c (.i (yaX e l))):=by
 refine yh ylx ?_
 simp -dsimp -implicitDefEqProofs
 refine yc (yuf e.Reaches _ h0 h1) ?_
 simp -dsimp -implicitDefEqProofs
 refine ⟨fun h=>by simp [yaX,yK h],fun p0=>?_⟩
 have q0:=yin ykV e.Reaches h0 h1 p0
 refine yc (yxL e.Ways _ p0 q0) ?_
 simp -dsimp -implicitDefEqProofs
 refine ⟨fun h=>by simp [yaX,yu p0,yK h],fun p1=>?_⟩
 have q1:=yin ypU e.Ways p0 q0 p1
 refine yc (yv0 e.Works _ p1 q1) ?_
 simp -dsimp -implicitDefEqProofs
 refine ⟨fun h=>by simp [yaX,yu p0,yu p1,yK h],fun p2=>?_⟩
 have q2:=yin ym4 e.Works p1 q1 p2
 refine yc (ytd e.Movers _ p2 q2) ?_
 simp -dsimp -implicitDefEqProofs
 refine ⟨fun h=>by simp [yaX,yu p0,yu p1,yu p2,yK h],fun p3=>?_⟩
 have q3:=yin yjX e.Movers p2 q2 p3
 refine yc (ym0 e.Arrived _ p3 q3) ?_
 simp -dsimp -implicitDefEqProofs
 refine ⟨fun h=>by simp [yaX,yu p0,yu p1,yu p2,yu p3,yK h],fun p4=>?_⟩
 have q4:=yin yhu e.Arrived p3 q3 p4
 refine yc (yjw e.Entered _ p4 q4) ?_
 simp -dsimp -implicitDefEqProofs
 refine ⟨fun h=>by simp [yaX,yu p0,yu p1,yu p2,yu p3,yu p4,yK h],fun p5=>?_⟩
 have q5:=yin yeY e.Entered p4 q4 p5
 refine yc (yuv e.Tariff _ p5 q5) ?_
 simp -dsimp -implicitDefEqProofs
 refine ⟨fun h=>by simp [yaX,yu p0,yu p1,yu p2,yu p3,yu p4,yu p5,yK h],fun p6=>?_⟩
 have q6:=yin ylo e.Tariff p5 q5 p6
 refine yc (yuw e.Book _ p6 q6) ?_
 simp -dsimp -implicitDefEqProofs
 refine ⟨fun h=>by simp [yaX,yu p0,yu p1,yu p2,yu p3,yu p4,yu p5,yu p6,yK h],fun p7=>?_⟩
 have q7:=yin ykP e.Book p6 q6 p7
 refine yc (yqp e.Passings _ p7 q7) ?_
 simp -dsimp -implicitDefEqProofs
 refine ⟨fun h=>by simp [yaX,yu p0,yu p1,yu p2,yu p3,yu p4,yu p5,yu p6,yu p7,yK h],fun p8=>?_⟩
 simp [yaX,yu p0,yu p1,yu p2,yu p3,yu p4,yu p5,yu p6,yu p7,yu p8]
theorem yib (e : Waterway) (hl : Waterway.small e) : yB Tryz.prog 7 [.agg (e.enc.map .c)] (.agg (e.enc.map .c)):=by
 refine yh ygH ?_
 simp -dsimp -implicitDefEqProofs
 refine yS (ywf e.Reaches (hl.1)) ?_
 simp -dsimp -implicitDefEqProofs
 refine yS (yzL e.Ways (hl.2.1)) ?_
 simp -dsimp -implicitDefEqProofs
 refine yS (yyh e.Works (hl.2.2.1)) ?_
 simp -dsimp -implicitDefEqProofs
 refine yS (yuh e.Movers (hl.2.2.2.1)) ?_
 simp -dsimp -implicitDefEqProofs
 refine yS (ypD e.Arrived (hl.2.2.2.2.1)) ?_
 simp -dsimp -implicitDefEqProofs
 refine yS (ylC e.Entered (hl.2.2.2.2.2.1.1)) ?_
 simp -dsimp -implicitDefEqProofs
 refine yS (ywB e.Tariff (hl.2.2.2.2.2.2.1)) ?_
 simp -dsimp -implicitDefEqProofs
 refine yS (yvG e.Book (hl.2.2.2.2.2.2.2.1.1)) ?_
 simp -dsimp -implicitDefEqProofs
 refine yS (ysA e.Passings (hl.2.2.2.2.2.2.2.2)) ?_
 simp -dsimp -implicitDefEqProofs
theorem yfL (a b : Waterway) : yB Tryz.prog 9 [.agg (a.enc.map .c),.agg (b.enc.map .c)] (.c (.b (decide (a = b)))):=by
 refine yh ylL ?_
 obtain ⟨a0,a1,a2,a3,a4,a5,a6,a7,a8,a9,a10,a11,a12⟩:=a
 obtain ⟨b0,b1,b2,b3,b4,b5,b6,b7,b8,b9,b10,b11,b12⟩:=b
 simp -dsimp -implicitDefEqProofs [ygr,Waterway.mk.injEq]
 refine ⟨fun h=>by simp_all,fun h0=>?_⟩
 refine yc (ywC a1 b1) ?_
 simp -dsimp -implicitDefEqProofs
 refine ⟨fun h=>by simp_all,fun h1=>?_⟩
 refine yc (yzd a2 b2) ?_
 simp -dsimp -implicitDefEqProofs
 refine ⟨fun h=>by simp_all,fun h2=>?_⟩
 refine yc (yyy a3 b3) ?_
 simp -dsimp -implicitDefEqProofs
 refine ⟨fun h=>by simp_all,fun h3=>?_⟩
 refine yc (yvc a4 b4) ?_
 simp -dsimp -implicitDefEqProofs
 refine ⟨fun h=>by simp_all,fun h4=>?_⟩
 refine yc (ypz a5 b5) ?_
 simp -dsimp -implicitDefEqProofs
 refine ⟨fun h=>by simp_all,fun h5=>?_⟩
 refine yc (ykZ a6 b6) ?_
 simp -dsimp -implicitDefEqProofs
 refine ⟨fun h=>by simp_all,fun h6=>?_⟩
 refine yc (yv1 a7 b7) ?_
 simp -dsimp -implicitDefEqProofs
 refine ⟨fun h=>by simp_all,fun h7=>?_⟩
 refine yc (ywt a8 b8) ?_
 simp -dsimp -implicitDefEqProofs
 refine ⟨fun h=>by simp_all,fun h8=>?_⟩
 refine yc (ytz a9 b9) ?_
 simp -dsimp -implicitDefEqProofs
 refine ⟨fun h=>by simp_all,fun h9=>?_⟩
 refine ⟨fun h=>by simp_all,fun h10=>?_⟩
 refine ⟨fun h=>by simp_all,fun h11=>?_⟩
 refine ⟨fun h=>by simp_all,fun h12=>?_⟩
 simp_all
theorem yTD (l : List Int) (n : Int) : yB Tryz.prog 22 [.c (.sl 1 (l.map yJ)),.c (.i n)] (.c (.i (l.count n))):=by
 refine yh yTo ?_
 simp -dsimp -implicitDefEqProofs
 refine yg (ι:=Nat) (fun k=>k ≤ l.length) (fun k=>yO [(0,.c (.sl 1 (l.map yJ))),(1,.c (.i n)),(5,.c (.i ((l.take k).count n))),(6,.c (.i k))] []) (fun k=>l.length - k) 0 (by simp) (by apply yj <;> simp) ?_
 rintro k hk
 have hc : (l.take k).count n ≤ k:=Nat.le_trans List.count_le_length (by simp; omega)
 rcases Nat.lt_or_ge k l.length with hlt | hge
 ·obtain ⟨a,ha⟩ : ∃ a,l[k]? = some a:=⟨_,List.getElem?_eq_getElem hlt⟩
  have g1:=(List.getElem?_eq_some_iff.1 ha).2
  have hs : (l.take (k + 1)).count n = (l.take k).count n + if a = n then 1 else 0:=by
   rw [List.take_succ,ha]
   simp [List.count_append,List.count_cons]
  generalize (l.take k).count n = q at *
  simp -dsimp -implicitDefEqProofs [ha,g1,hlt,yG hlt]
  intro hlen
  have hm:=hlen; unfold maxLen at hm
  refine ⟨fun h=>⟨by unfold inI; omega,yw hlt hlen,k + 1,hlt,by omega,?_⟩,fun h=>⟨yw hlt hlen,k + 1,hlt,by omega,?_⟩⟩
  ·apply yj <;> simp [hs,h]
  ·apply yj <;> simp [hs,h]
 ·simp -dsimp -implicitDefEqProofs [yaB hge]
  intro _
  rw [List.take_of_length_le hge]
def yT (xs : List Boat) : List C:=[.ow 6 (xs.map Boat.enc)]
@[simp] def Train.yI (e : Train) : List C:=[.b e.Up,.ot 1 (e.Rows.map yT)]
section
variable {α : Type} {f : Int → α → List C} {g : α → List C} {n : α → Nat} {k : Int} {xs : List α} {i : Nat} {x : α}
end
def mkB (k : Int) : List C:=[.i k,.i (k + 1),.i (k + 1 + 1),.i (k + 1 + 1 + 1),.i (k + 1 + 1 + 1 + 1),.i (k + 1 + 1 + 1 + 1 + 1)]
@[simp] def Mover.yI (e : Mover) : List C:=[.b e.Train.Up,.ot 1 (e.Train.Rows.map yT),.i e.Place]
@[simp] def Reach.yI (e : Reach) : List C:=[.ow 2 (e.Table.map Point.enc),.i e.Volume,.ow 1 (e.Pipe.map yJ)]
@[simp] def Tariff.yI (e : Tariff) : List C:=[.i e.Base,.i e.PerArea,.ow 1 (e.PerClass.map yJ),.ow 1 (e.Weights.map yJ)]
@[simp] def CallT.yI (e : CallT) : List C:=[.b e.Train.Up,.ot 1 (e.Train.Rows.map yT),.i e.Since,.i e.Booked]
@[simp] def Lock.yI (e : Lock) : List C:=[.i e.Length,.i e.Width,.i e.SillAbove,.i e.SillBelow,.i e.Base,.i e.Area,.i e.Rate,.i e.Water,.i e.Gate,.ot 2 (e.Inside.map Train.yI)]
@[simp] def Work.yI (e : Work) : List C:=[.i e.Lock.Length,.i e.Lock.Width,.i e.Lock.SillAbove,.i e.Lock.SillBelow,.i e.Lock.Base,.i e.Lock.Area,.i e.Lock.Rate,.i e.Lock.Water,.i e.Lock.Gate,.ot 2 (e.Lock.Inside.map Train.yI),.i e.Weir.Gates,.i e.Weir.Open,.i e.Weir.Step,.i e.Weir.Crest,.i e.Weir.Width,.i e.Rule.Low,.i e.Rule.High,.i e.Rule.Flood,.ow 2 (e.Pauses.map Pause.enc),.b e.Turn.Up,.i e.Turn.Count,.ot 4 (e.Calls.map CallT.yI)]
def yax (xs : List Mover) : List C:=[.ot 3 (xs.map Mover.yI)]
@[simp] def Passing.yI (e : Passing) : List C:=[.i e.Time,.i e.Work,.b e.Train.Up,.ot 1 (e.Train.Rows.map yT)]
@[simp] def Waterway.yI (e : Waterway) : List C:=[.i e.Time,.ot 3 (e.Reaches.map Reach.yI),.ow 2 (e.Ways.map Way.enc),.ot 22 (e.Works.map Work.yI),.ot 1 (e.Movers.map yax),.ot 2 (e.Arrived.map Train.yI),.ow 1 (e.Entered.map yJ),.i e.Tariff.Base,.i e.Tariff.PerArea,.ow 1 (e.Tariff.PerClass.map yJ),.ow 1 (e.Tariff.Weights.map yJ),.ow 5 (e.Book.map Entry.enc),.ot 4 (e.Passings.map Passing.yI),.i e.Start,.i e.In,.i e.Out]
def yd0 {α : Type} (t : α → Nat) (xs : List α) : Nat:=xs.length + (xs.map t).sum
def ycz {α : Type} (f : α → Int → Int) (t : α → Nat) : Prop:=∀ x l,0 ≤ l → l ≤ 1048576 → 0 ≤ f x l → f x l + t x ≤ l
theorem yaV {a : Int} {f : Int → Int} (h : 0 ≤ ybm a f) : 0 ≤ a ∧ ybm a f = f a:=by
 rcases Int.lt_or_le a 0 with e | e
 ·rw [yK e] at h; omega
 ·exact ⟨e,yu e⟩
theorem yhx {α : Type} : ycz (fun (xs : List α) l=>szS xs.length l) (fun xs=>xs.length):=by
 intro xs l h0 h1 h
 simp only [szS] at h ⊢
 split at h
 ·omega
 ·rename_i h2; rw [if_neg h2]; omega
theorem yn7 {α : Type} {f : α → Int → Int} {t : α → Nat} (hf : ycz f t) : ∀ (xs : List α) (l : Int),0 ≤ l → l ≤ 1048576 → 0 ≤ yaw f xs l → yaw f xs l + ((xs.map t).sum : Nat) ≤ l
 | [],l,_,_,_=>by simp [yaw]
 | x :: xs,l,h0,h1,h=>by
  simp only [yaw] at h ⊢
  obtain ⟨p,e⟩:=yaV h
  rw [e] at h ⊢
  have h2:=hf x l h0 h1 p
  have h3:=yn7 hf xs (f x l) p (by omega) h
  simp only [List.map_cons,List.sum_cons,Int.natCast_add]; omega
theorem ye8 {α : Type} {f : α → Int → Int} {t : α → Nat} (hf : ycz f t) : ycz (yeE f) (yd0 t):=by
 intro xs l h0 h1 h
 unfold yeE at h ⊢
 obtain ⟨p,e⟩:=yaV h
 rw [e] at h ⊢
 have h2:=yhx xs l h0 h1 p
 have h3:=yn7 hf xs _ p (by simp only at h2 ⊢; omega) h
 unfold yd0
 simp only at h2
 omega
def ydD (xs : List Int) : Nat:=xs.length
theorem ygx : ycz yhJ ydD:=yhx
def ykt (xs : List Entry) : Nat:=xs.length
theorem yqX : ycz ygY ykt:=yhx
def yju (xs : List Boat) : Nat:=xs.length
theorem ytl : ycz yex yju:=yhx
def yeT : List (List Boat) → Nat:=yd0 yju
theorem yqw : ycz yeb yeT:=ye8 ytl
def yci (e : Train) : Nat:=yeT e.Rows
theorem yfQ : ycz yb2 yci:=by
 intro e l h0 h1 h
 unfold yb2 at h ⊢
 obtain ⟨p0,e0⟩:=yaV h
 rw [e0] at h ⊢
 have t0:=yqw e.Rows _ h0 h1 p0
 unfold yci
 omega
def yhw (xs : List Point) : Nat:=xs.length
theorem yrs : ycz yg2 yhw:=yhx
def yaZ (e : Reach) : Nat:=yhw e.Table + ydD e.Pipe
theorem ys5 : ycz ycy yaZ:=by
 intro e l h0 h1 h
 unfold ycy at h ⊢
 obtain ⟨p0,e0⟩:=yaV h
 rw [e0] at h ⊢
 have t0:=yrs e.Table _ h0 h1 p0
 obtain ⟨p1,e1⟩:=yaV h
 rw [e1] at h ⊢
 have t1:=ygx e.Pipe _ p0 (by omega) p1
 unfold yaZ
 omega
def ydQ : List Reach → Nat:=yd0 yaZ
theorem yqR : ycz yd8 ydQ:=ye8 ys5
def yox (xs : List Way) : Nat:=xs.length
theorem yu8 : ycz yk3 yox:=yhx
def ykC (xs : List Pause) : Nat:=xs.length
theorem yqQ : ycz yhi ykC:=yhx
def yf0 : List Train → Nat:=yd0 yci
theorem yke : ycz ydk yf0:=ye8 yfQ
def ylq (e : Lock) : Nat:=yf0 e.Inside
theorem yuX : ycz ygm ylq:=by
 intro e l h0 h1 h
 unfold ygm at h ⊢
 obtain ⟨p0,e0⟩:=yaV h
 rw [e0] at h ⊢
 have t0:=yke e.Inside _ h0 h1 p0
 unfold ylq
 omega
def yiS (e : CallT) : Nat:=yci e.Train
theorem ytP : ycz ydJ yiS:=by
 intro e l h0 h1 h
 unfold ydJ at h ⊢
 obtain ⟨p0,e0⟩:=yaV h
 rw [e0] at h ⊢
 have t0:=yfQ e.Train _ h0 h1 p0
 unfold yiS
 omega
def yl4 : List CallT → Nat:=yd0 yiS
theorem ytn : ycz yfd yl4:=ye8 ytP
def yg5 (e : Work) : Nat:=ylq e.Lock + ykC e.Pauses + yl4 e.Calls
theorem yus : ycz ycY yg5:=by
 intro e l h0 h1 h
 unfold ycY at h ⊢
 obtain ⟨p0,e0⟩:=yaV h
 rw [e0] at h ⊢
 have t0:=yuX e.Lock _ h0 h1 p0
 obtain ⟨p1,e1⟩:=yaV h
 rw [e1] at h ⊢
 have t1:=yqQ e.Pauses _ p0 (by omega) p1
 obtain ⟨p2,e2⟩:=yaV h
 rw [e2] at h ⊢
 have t2:=ytn e.Calls _ p1 (by omega) p2
 unfold yg5
 omega
def yeJ : List Work → Nat:=yd0 yg5
theorem ytv : ycz yfc yeJ:=ye8 yus
def yhg (e : Mover) : Nat:=yci e.Train
theorem ysK : ycz ycV yhg:=by
 intro e l h0 h1 h
 unfold ycV at h ⊢
 obtain ⟨p0,e0⟩:=yaV h
 rw [e0] at h ⊢
 have t0:=yfQ e.Train _ h0 h1 p0
 unfold yhg
 omega
def ygb : List Mover → Nat:=yd0 yhg
theorem yq0 : ycz ycf ygb:=ye8 ysK
def yiG : List (List Mover) → Nat:=yd0 ygb
theorem yow : ycz ydg yiG:=ye8 yq0
def yhC (e : Tariff) : Nat:=ydD e.PerClass + ydD e.Weights
theorem yqO : ycz ydq yhC:=by
 intro e l h0 h1 h
 unfold ydq at h ⊢
 obtain ⟨p0,e0⟩:=yaV h
 rw [e0] at h ⊢
 have t0:=ygx e.PerClass _ h0 h1 p0
 obtain ⟨p1,e1⟩:=yaV h
 rw [e1] at h ⊢
 have t1:=ygx e.Weights _ p0 (by omega) p1
 unfold yhC
 omega
def ydZ (e : Passing) : Nat:=yci e.Train
theorem yoT : ycz ybM ydZ:=by
 intro e l h0 h1 h
 unfold ybM at h ⊢
 obtain ⟨p0,e0⟩:=yaV h
 rw [e0] at h ⊢
 have t0:=yfQ e.Train _ h0 h1 p0
 unfold ydZ
 omega
def yhy : List Passing → Nat:=yd0 ydZ
theorem ym7 : ycz ycH yhy:=ye8 yoT
def ycp (e : Waterway) : Nat:=ydQ e.Reaches + yox e.Ways + yeJ e.Works + yiG e.Movers + yf0 e.Arrived + ydD e.Entered + yhC e.Tariff + ykt e.Book + yhy e.Passings
theorem ynf : ycz yaX ycp:=by
 intro e l h0 h1 h
 unfold yaX at h ⊢
 obtain ⟨p0,e0⟩:=yaV h
 rw [e0] at h ⊢
 have t0:=yqR e.Reaches _ h0 h1 p0
 obtain ⟨p1,e1⟩:=yaV h
 rw [e1] at h ⊢
 have t1:=yu8 e.Ways _ p0 (by omega) p1
 obtain ⟨p2,e2⟩:=yaV h
 rw [e2] at h ⊢
 have t2:=ytv e.Works _ p1 (by omega) p2
 obtain ⟨p3,e3⟩:=yaV h
 rw [e3] at h ⊢
 have t3:=yow e.Movers _ p2 (by omega) p3
 obtain ⟨p4,e4⟩:=yaV h
 rw [e4] at h ⊢
 have t4:=yke e.Arrived _ p3 (by omega) p4
 obtain ⟨p5,e5⟩:=yaV h
 rw [e5] at h ⊢
 have t5:=ygx e.Entered _ p4 (by omega) p5
 obtain ⟨p6,e6⟩:=yaV h
 rw [e6] at h ⊢
 have t6:=yqO e.Tariff _ p5 (by omega) p6
 obtain ⟨p7,e7⟩:=yaV h
 rw [e7] at h ⊢
 have t7:=yqX e.Book _ p6 (by omega) p7
 obtain ⟨p8,e8⟩:=yaV h
 rw [e8] at h ⊢
 have t8:=ym7 e.Passings _ p7 (by omega) p8
 unfold ycp
 omega
def fl {α : Type} (f : α → List Int) (l : List α) (k : Nat) : List Int:=(l.take k).flatMap f
theorem yUy {α : Type} {f : α → List Int} {l : List α} : fl f l 0 = []:=rfl
theorem yUx {α : Type} {f : α → List Int} {l : List α} {k : Nat} {x : α} (h : l[k]? = some x) : fl f l (k + 1) = fl f l k ++ f x:=by
 unfold fl; rw [List.take_succ,h,List.flatMap_append]; simp
theorem yUB {α : Type} {f : α → List Int} {l : List α} {k : Nat} (h : l.length ≤ k) : fl f l k = l.flatMap f:=by
 unfold fl; rw [List.take_of_length_le h]
theorem yUC {α : Type} {f : α → List Int} {l : List α} {k : Nat} {x : α} (h : l[k]? = some x) : (fl f l k).length + (f x).length ≤ (l.flatMap f).length:=by
 have : l.flatMap f = fl f l (k + 1) ++ (l.drop (k + 1)).flatMap f:=by
  unfold fl; rw [← List.flatMap_append,List.take_append_drop]
 rw [this,yUx h]; simp only [List.length_append]; omega
def yUw (m : Mover) : List Int:=yaY m.Train
def yUv (c : CallT) : List Int:=yaY c.Train
def yUt (l : List Mover) : List Int:=l.flatMap yUw
def yUA (w : Work) : List Int:=w.Calls.flatMap yUv ++ w.Lock.Inside.flatMap yaY
def yUs (x : Waterway) : List Int:=x.Movers.flatMap yUt ++ x.Works.flatMap yUA ++ x.Arrived.flatMap yaY
theorem yUK (x : Waterway) : (yUs x).length = (x.Movers.flatMap yUt).length + (x.Works.flatMap yUA).length + (x.Arrived.flatMap yaY).length:=by
 simp only [yUs,List.length_append]
theorem cat3 {A B D : List Int} : List.take (A.length + (B.length + D.length)) (List.map yJ A ++ (List.map yJ B ++ List.map yJ D)) = List.map yJ (A ++ B ++ D):=by
 rw [List.take_of_length_le (by simp)]; simp
set_option maxRecDepth 20000 in
theorem yU6 (x : Waterway) (hs : x.small) (hB : (yUs x).length ≤ 1000000000) : yB Tryz.prog 21 [.agg (x.enc.map .c)] (.c (.sl 1 ((yUs x).map yJ))):=by
 obtain ⟨s1,s2,s3,s4,s5,s6,s7,s8,s9⟩:=hs
 have hP : yUs x = x.Movers.flatMap yUt ++ x.Works.flatMap yUA ++ x.Arrived.flatMap yaY:=rfl
 rw [yUK] at hB
 refine yh yUW ?_
 simp -dsimp -implicitDefEqProofs
 refine yg (ι:=Nat) (fun k=>k ≤ x.Movers.length) (fun k=>yO [(1,.box 1 0),(3,.own 10 1 (fl yUt x.Movers k).length),(4,.c (.i k))] [(1,.box (x.enc.map .c)),(10,.row 1 ((fl yUt x.Movers k).map yJ))]) (fun k=>x.Movers.length - k) 0 (by simp) (by apply yj <;> simp [yUy]) ?_
 rintro k hk
 rcases Nat.lt_or_ge k x.Movers.length with klt | kge
 ·obtain ⟨l,hl⟩ : ∃ l,x.Movers[k]? = some l:=⟨_,List.getElem?_eq_getElem klt⟩
  have hls:=s4.2 l (List.mem_of_getElem? hl)
  have hb1:=yUC (f:=yUt) hl
  have e1:=yUx (f:=yUt) hl
  simp -dsimp -implicitDefEqProofs [hl,yG klt]
  intro hlen
  generalize fl yUt x.Movers k = A at hb1 e1
  refine yg (ι:=Nat) (fun j=>j ≤ l.length) (fun j=>yO [(1,.box 1 0),(3,.own 10 1 (A ++ fl yUw l j).length),(4,.c (.i k)),(5,.c (.i j))] [(1,.box (x.enc.map .c)),(10,.row 1 ((A ++ fl yUw l j).map yJ))]) (fun j=>l.length - j) 0 (by simp) (by apply yj <;> simp [yUy]) ?_
  rintro j hj
  rcases Nat.lt_or_ge j l.length with jlt | jge
  ·obtain ⟨m,hm⟩ : ∃ m,l[j]? = some m:=⟨_,List.getElem?_eq_getElem jlt⟩
   have hms:=hls.2 m (List.mem_of_getElem? hm)
   have hb2:=yUC (f:=yUw) hm
   have hb3 : (yUt l).length = (l.flatMap yUw).length:=rfl
   have hb4 : (yUw m).length = (yaY m.Train).length:=rfl
   simp -dsimp -implicitDefEqProofs [hl,hm,yG klt,yG jlt]
   intro hlen2
   refine yS (yvW m.Train hms) ?_
   simp -dsimp -implicitDefEqProofs
   refine ⟨by omega,yw jlt hlen2,j + 1,jlt,by omega,?_⟩
   apply yj <;> simp [yUx hm,yUw,Nat.add_assoc]
  ·simp -dsimp -implicitDefEqProofs [yaB jge,hl,yG klt]
   intro _
   rw [yUB jge]
   have e2 : A ++ l.flatMap yUw = fl yUt x.Movers (k + 1):=by rw [e1]; rfl
   have e3 : A.length + (l.flatMap yUw).length = (fl yUt x.Movers (k + 1)).length:=by rw [← e2]; simp only [List.length_append]
   refine ⟨yw klt hlen,k + 1,klt,by omega,?_⟩
   apply yj <;> simp [← e2]
 simp -dsimp -implicitDefEqProofs [yaB kge]
 intro _
 rw [yUB kge]
 generalize x.Movers.flatMap yUt = B1 at hB hP
 refine yg (ι:=Nat) (fun q=>q ≤ x.Works.length) (fun q=>yO [(1,.box 1 0),(3,.own 10 1 (B1 ++ fl yUA x.Works q).length),(6,.c (.i q))] [(1,.box (x.enc.map .c)),(10,.row 1 ((B1 ++ fl yUA x.Works q).map yJ))]) (fun q=>x.Works.length - q) 0 (by simp) (by apply yj <;> simp [yUy]) ?_
 rintro q hq
 rcases Nat.lt_or_ge q x.Works.length with qlt | qge
 ·obtain ⟨w,hl⟩ : ∃ w,x.Works[q]? = some w:=⟨_,List.getElem?_eq_getElem qlt⟩
  have hws:=s3.2 w (List.mem_of_getElem? hl)
  have hb1:=yUC (f:=yUA) hl
  have hb3 : (yUA w).length = (w.Calls.flatMap yUv).length + (w.Lock.Inside.flatMap yaY).length:=by simp only [yUA,List.length_append]
  have e1:=yUx (f:=yUA) hl
  have g1:=(List.getElem?_eq_some_iff.1 hl).2
  simp -dsimp -implicitDefEqProofs [hl,g1,qlt,yG qlt]
  intro hlen
  generalize fl yUA x.Works q = A at hb1 e1
  refine yg (ι:=Nat) (fun j=>j ≤ w.Calls.length) (fun j=>yO [(1,.box 1 0),(3,.own 10 1 (B1 ++ A ++ fl yUv w.Calls j).length),(6,.c (.i q)),(7,.c (.i j))] [(1,.box (x.enc.map .c)),(10,.row 1 ((B1 ++ A ++ fl yUv w.Calls j).map yJ))]) (fun j=>w.Calls.length - j) 0 (by simp) (by apply yj <;> simp [yUy]) ?_
  rintro j hj
  rcases Nat.lt_or_ge j w.Calls.length with jlt | jge
  ·obtain ⟨c,hm⟩ : ∃ c,w.Calls[j]? = some c:=⟨_,List.getElem?_eq_getElem jlt⟩
   have hms:=hws.2.2.2 c (List.mem_of_getElem? hm)
   have hb2:=yUC (f:=yUv) hm
   have hb4 : (yUv c).length = (yaY c.Train).length:=rfl
   simp -dsimp -implicitDefEqProofs [hl,hm,g1,qlt,yG qlt,yG jlt]
   intro hlen2
   refine yS (yvW c.Train hms) ?_
   simp -dsimp -implicitDefEqProofs
   refine ⟨by omega,yw jlt hlen2,j + 1,jlt,by omega,?_⟩
   apply yj <;> simp [yUx hm,yUv,Nat.add_assoc]
  simp -dsimp -implicitDefEqProofs [yaB jge,hl,yG qlt,g1,qlt]
  intro _
  rw [yUB jge]
  have hW : yUA w = w.Calls.flatMap yUv ++ w.Lock.Inside.flatMap yaY:=rfl
  generalize w.Calls.flatMap yUv = A2 at hb3 hW
  refine yg (ι:=Nat) (fun i=>i ≤ w.Lock.Inside.length) (fun i=>yO [(1,.box 1 0),(3,.own 10 1 (B1 ++ A ++ A2 ++ fl yaY w.Lock.Inside i).length),(6,.c (.i q)),(8,.c (.i i))] [(1,.box (x.enc.map .c)),(10,.row 1 ((B1 ++ A ++ A2 ++ fl yaY w.Lock.Inside i).map yJ))]) (fun i=>w.Lock.Inside.length - i) 0 (by simp) (by apply yj <;> simp [yUy]) ?_
  rintro i hi
  rcases Nat.lt_or_ge i w.Lock.Inside.length with ilt | ige
  ·obtain ⟨t,hm⟩ : ∃ t,w.Lock.Inside[i]? = some t:=⟨_,List.getElem?_eq_getElem ilt⟩
   have hms:=hws.1.2 t (List.mem_of_getElem? hm)
   have hb2:=yUC (f:=yaY) hm
   simp -dsimp -implicitDefEqProofs [hl,hm,g1,qlt,yG qlt,yG ilt]
   intro hlen2
   refine yS (yvW t hms) ?_
   simp -dsimp -implicitDefEqProofs
   refine ⟨by omega,yw ilt hlen2,i + 1,ilt,by omega,?_⟩
   apply yj <;> simp [yUx hm,Nat.add_assoc]
  ·simp -dsimp -implicitDefEqProofs [yaB ige,hl,yG qlt,g1,qlt]
   intro _
   rw [yUB ige]
   have e2 : A ++ A2 ++ w.Lock.Inside.flatMap yaY = fl yUA x.Works (q + 1):=by rw [e1,List.append_assoc]; exact congrArg _ hW.symm
   refine ⟨yw qlt hlen,q + 1,qlt,by omega,?_⟩
   apply yj <;> simp [← e2,Nat.add_assoc]
 simp -dsimp -implicitDefEqProofs [yaB qge]
 intro _
 rw [yUB qge]
 generalize x.Works.flatMap yUA = B2 at hB hP
 refine yg (ι:=Nat) (fun p=>p ≤ x.Arrived.length) (fun p=>yO [(1,.box 1 0),(3,.own 10 1 (B1 ++ B2 ++ fl yaY x.Arrived p).length),(9,.c (.i p))] [(1,.box (x.enc.map .c)),(10,.row 1 ((B1 ++ B2 ++ fl yaY x.Arrived p).map yJ))]) (fun p=>x.Arrived.length - p) 0 (by simp) (by apply yj <;> simp [yUy]) ?_
 rintro p hp
 rcases Nat.lt_or_ge p x.Arrived.length with plt | pge
 ·obtain ⟨t,hm⟩ : ∃ t,x.Arrived[p]? = some t:=⟨_,List.getElem?_eq_getElem plt⟩
  have hms:=s5.2 t (List.mem_of_getElem? hm)
  have hb2:=yUC (f:=yaY) hm
  simp -dsimp -implicitDefEqProofs [hm,yG plt]
  intro hlen
  refine yS (yvW t hms) ?_
  simp -dsimp -implicitDefEqProofs
  refine ⟨by omega,yw plt hlen,p + 1,plt,by omega,?_⟩
  apply yj <;> simp [yUx hm,Nat.add_assoc]
 ·simp -dsimp -implicitDefEqProofs [yaB pge]
  intro _
  rw [yUB pge,hP]
  exact cat3.symm
set_option maxRecDepth 20000 in
theorem yU7 (x : Waterway) (hs : x.small) (hB : (yUs x).length ≤ 1000000000) : ybh Tryz.prog 32 [.agg (x.enc.map .c)] (.c (.ow 1 ((yUs x).map yJ))):=by
 obtain ⟨s1,s2,s3,s4,s5,s6,s7,s8,s9⟩:=hs
 have hP : yUs x = x.Movers.flatMap yUt ++ x.Works.flatMap yUA ++ x.Arrived.flatMap yaY:=rfl
 rw [yUK] at hB
 refine yan yUX ?_
 simp -dsimp -implicitDefEqProofs
 intro hlen
 refine ymd (k0:=1) 3 1 (by simp) (by simp) (by decide) ?_
 refine yg (ι:=Nat) (fun k=>k ≤ x.Movers.length) (fun k=>yO [(1,.box 1 0),(3,.own 3 1 (fl yUt x.Movers k).length),(17,.c (.sl 1 (x.Movers.map yZ))),(18,.c (.i x.Movers.length)),(19,.c (.i k))] [(1,.box (x.enc.map .c)),(3,.row 1 ((fl yUt x.Movers k).map yJ))]) (fun k=>x.Movers.length - k) 0 (by simp) (by apply yj <;> simp [yUy]) ?_
 rintro k hk
 rcases Nat.lt_or_ge k x.Movers.length with klt | kge
 ·obtain ⟨l,hl⟩ : ∃ l,x.Movers[k]? = some l:=⟨_,List.getElem?_eq_getElem klt⟩
  have hls:=s4.2 l (List.mem_of_getElem? hl)
  have hb1:=yUC (f:=yUt) hl
  have e1:=yUx (f:=yUt) hl
  simp -dsimp -implicitDefEqProofs [hl,yG klt]
  intro hlen2
  generalize fl yUt x.Movers k = A at hb1 e1
  refine yg (ι:=Nat) (fun j=>j ≤ l.length) (fun j=>yO [(1,.box 1 0),(3,.own 3 1 (A ++ fl yUw l j).length),(17,.c (.sl 1 (x.Movers.map yZ))),(18,.c (.i x.Movers.length)),(19,.c (.i k)),(23,.c (.sl 3 (l.map Mover.enc))),(24,.c (.i l.length)),(25,.c (.i j))] [(1,.box (x.enc.map .c)),(3,.row 1 ((A ++ fl yUw l j).map yJ))]) (fun j=>l.length - j) 0 (by simp) (by apply yj <;> simp [yUy]) ?_
  rintro j hj
  rcases Nat.lt_or_ge j l.length with jlt | jge
  ·obtain ⟨m,hm⟩ : ∃ m,l[j]? = some m:=⟨_,List.getElem?_eq_getElem jlt⟩
   have hms:=hls.2 m (List.mem_of_getElem? hm)
   have hb2:=yUC (f:=yUw) hm
   have hb3 : (yUt l).length = (l.flatMap yUw).length:=rfl
   have hb4 : (yUw m).length = (yaY m.Train).length:=rfl
   simp -dsimp -implicitDefEqProofs [hl,hm,yG klt,yG jlt]
   refine yS (yuz m.Train hms) ?_
   simp -dsimp -implicitDefEqProofs
   refine ⟨by omega,yw jlt hlen2,j + 1,jlt,by omega,?_⟩
   apply yj <;> simp [yUx hm,yUw,Nat.add_assoc]
  ·simp -dsimp -implicitDefEqProofs [yaB jge,hl]
   rw [yUB jge]
   have e2 : A ++ l.flatMap yUw = fl yUt x.Movers (k + 1):=by rw [e1]; rfl
   have e3 : A.length + (l.flatMap yUw).length = (fl yUt x.Movers (k + 1)).length:=by rw [← e2]; simp only [List.length_append]
   refine ⟨yw klt hlen,k + 1,klt,by omega,?_⟩
   apply yj <;> simp [← e2]
 simp -dsimp -implicitDefEqProofs [yaB kge]
 rw [yUB kge]
 generalize x.Movers.flatMap yUt = B1 at hB hP
 intro hlen
 refine yg (ι:=Nat) (fun q=>q ≤ x.Works.length) (fun q=>yO [(1,.box 1 0),(3,.own 3 1 (B1 ++ fl yUA x.Works q).length),(37,.c (.sl 22 (x.Works.map Work.enc))),(38,.c (.i x.Works.length)),(39,.c (.i q))] [(1,.box (x.enc.map .c)),(3,.row 1 ((B1 ++ fl yUA x.Works q).map yJ))]) (fun q=>x.Works.length - q) 0 (by simp) (by apply yj <;> simp [yUy]) ?_
 rintro q hq
 rcases Nat.lt_or_ge q x.Works.length with qlt | qge
 ·obtain ⟨w,hl⟩ : ∃ w,x.Works[q]? = some w:=⟨_,List.getElem?_eq_getElem qlt⟩
  have hws:=s3.2 w (List.mem_of_getElem? hl)
  have hb1:=yUC (f:=yUA) hl
  have hb3 : (yUA w).length = (w.Calls.flatMap yUv).length + (w.Lock.Inside.flatMap yaY).length:=by simp only [yUA,List.length_append]
  have e1:=yUx (f:=yUA) hl
  have g1:=(List.getElem?_eq_some_iff.1 hl).2
  simp -dsimp -implicitDefEqProofs [hl,g1,qlt,yG qlt]
  intro hlen2
  generalize fl yUA x.Works q = A at hb1 e1
  refine yg (ι:=Nat) (fun j=>j ≤ w.Calls.length) (fun j=>yO [(1,.box 1 0),(3,.own 3 1 (B1 ++ A ++ fl yUv w.Calls j).length),(37,.c (.sl 22 (x.Works.map Work.enc))),(38,.c (.i x.Works.length)),(39,.c (.i q)),(9,.box 9 0),(44,.c (.sl 4 (w.Calls.map CallT.enc))),(45,.c (.i w.Calls.length)),(46,.c (.i j))] [(1,.box (x.enc.map .c)),(3,.row 1 ((B1 ++ A ++ fl yUv w.Calls j).map yJ)),(9,.box (w.enc.map .c))]) (fun j=>w.Calls.length - j) 0 (by simp) (by apply yj <;> simp [yUy]) ?_
  rintro j hj
  rcases Nat.lt_or_ge j w.Calls.length with jlt | jge
  ·obtain ⟨c,hm⟩ : ∃ c,w.Calls[j]? = some c:=⟨_,List.getElem?_eq_getElem jlt⟩
   have hms:=hws.2.2.2 c (List.mem_of_getElem? hm)
   have hb2:=yUC (f:=yUv) hm
   have hb4 : (yUv c).length = (yaY c.Train).length:=rfl
   simp -dsimp -implicitDefEqProofs [hl,hm,g1,qlt,yG qlt,yG jlt]
   refine yS (yuz c.Train hms) ?_
   simp -dsimp -implicitDefEqProofs
   refine ⟨by omega,yw jlt hlen2,j + 1,jlt,by omega,?_⟩
   apply yj <;> simp [yUx hm,yUv,Nat.add_assoc]
  simp -dsimp -implicitDefEqProofs [yaB jge,hl]
  rw [yUB jge]
  have hW : yUA w = w.Calls.flatMap yUv ++ w.Lock.Inside.flatMap yaY:=rfl
  generalize w.Calls.flatMap yUv = A2 at hb3 hW
  intro hlen2
  refine yg (ι:=Nat) (fun i=>i ≤ w.Lock.Inside.length) (fun i=>yO [(1,.box 1 0),(3,.own 3 1 (B1 ++ A ++ A2 ++ fl yaY w.Lock.Inside i).length),(37,.c (.sl 22 (x.Works.map Work.enc))),(38,.c (.i x.Works.length)),(39,.c (.i q)),(58,.c (.sl 2 (w.Lock.Inside.map Train.enc))),(59,.c (.i w.Lock.Inside.length)),(60,.c (.i i))] [(1,.box (x.enc.map .c)),(3,.row 1 ((B1 ++ A ++ A2 ++ fl yaY w.Lock.Inside i).map yJ))]) (fun i=>w.Lock.Inside.length - i) 0 (by simp) (by apply yj <;> simp [yUy]) ?_
  rintro i hi
  rcases Nat.lt_or_ge i w.Lock.Inside.length with ilt | ige
  ·obtain ⟨t,hm⟩ : ∃ t,w.Lock.Inside[i]? = some t:=⟨_,List.getElem?_eq_getElem ilt⟩
   have hms:=hws.1.2 t (List.mem_of_getElem? hm)
   have hb2:=yUC (f:=yaY) hm
   simp -dsimp -implicitDefEqProofs [hl,hm,g1,qlt,yG qlt,yG ilt]
   refine yS (yuz t hms) ?_
   simp -dsimp -implicitDefEqProofs
   refine ⟨by omega,yw ilt hlen2,i + 1,ilt,by omega,?_⟩
   apply yj <;> simp [yUx hm,Nat.add_assoc]
  ·simp -dsimp -implicitDefEqProofs [yaB ige,hl]
   rw [yUB ige]
   have e2 : A ++ A2 ++ w.Lock.Inside.flatMap yaY = fl yUA x.Works (q + 1):=by rw [e1,List.append_assoc]; exact congrArg _ hW.symm
   refine ⟨yw qlt hlen,q + 1,qlt,by omega,?_⟩
   apply yj <;> simp [← e2,Nat.add_assoc]
 simp -dsimp -implicitDefEqProofs [yaB qge]
 rw [yUB qge]
 generalize x.Works.flatMap yUA = B2 at hB hP
 intro hlen
 refine yg (ι:=Nat) (fun p=>p ≤ x.Arrived.length) (fun p=>yO [(1,.box 1 0),(3,.own 3 1 (B1 ++ B2 ++ fl yaY x.Arrived p).length),(71,.c (.sl 2 (x.Arrived.map Train.enc))),(72,.c (.i x.Arrived.length)),(73,.c (.i p))] [(1,.box (x.enc.map .c)),(3,.row 1 ((B1 ++ B2 ++ fl yaY x.Arrived p).map yJ))]) (fun p=>x.Arrived.length - p) 0 (by simp) (by apply yj <;> simp [yUy]) ?_
 rintro p hp
 rcases Nat.lt_or_ge p x.Arrived.length with plt | pge
 ·obtain ⟨t,hm⟩ : ∃ t,x.Arrived[p]? = some t:=⟨_,List.getElem?_eq_getElem plt⟩
  have hms:=s5.2 t (List.mem_of_getElem? hm)
  have hb2:=yUC (f:=yaY) hm
  simp -dsimp -implicitDefEqProofs [hm,yG plt]
  refine yS (yuz t hms) ?_
  simp -dsimp -implicitDefEqProofs
  refine ⟨by omega,yw plt hlen,p + 1,plt,by omega,?_⟩
  apply yj <;> simp [yUx hm,Nat.add_assoc]
 ·simp -dsimp -implicitDefEqProofs [yaB pge]
  rw [yUB pge,hP]
  exact cat3.symm
theorem yVj (xs : List (List Boat)) : (xs.map List.length).sum ≤ yd0 yju xs:=by
 have : xs.map yju = xs.map List.length:=rfl
 unfold yd0; rw [this]; omega
theorem yUY (t : Train) : (yaY t).length ≤ yci t:=by
 have h : t.yas = t.Rows.flatten:=rfl
 unfold yaY
 split
 ·rw [List.length_map,h,List.length_flatten]; exact yVj t.Rows
 ·simp
theorem yUS {α : Type} {f : α → List Int} {t : α → Nat} (h : ∀ x,(f x).length ≤ t x) : ∀ l : List α,(l.flatMap f).length ≤ yd0 t l
 | []=>by simp
 | x :: l=>by
  have h1:=h x
  have h2:=yUS h l
  unfold yd0 at h2 ⊢
  simp only [List.flatMap_cons,List.length_append,List.length_cons,List.map_cons,List.sum_cons]; omega
theorem yU9 (l : List Mover) : (yUt l).length ≤ ygb l:=yUS (f:=yUw) (t:=yhg) (fun m=>yUY m.Train) l
theorem yVl (w : Work) : (yUA w).length ≤ yg5 w:=by
 have h1 : (w.Calls.flatMap yUv).length ≤ yl4 w.Calls:=yUS (f:=yUv) (t:=yiS) (fun m=>yUY m.Train) w.Calls
 have h2 : (w.Lock.Inside.flatMap yaY).length ≤ yf0 w.Lock.Inside:=yUS yUY w.Lock.Inside
 unfold yUA yg5 ylq
 rw [List.length_append]; omega
theorem yU8 (x : Waterway) : (yUs x).length ≤ ycp x:=by
 have h1 : (x.Movers.flatMap yUt).length ≤ yiG x.Movers:=yUS yU9 x.Movers
 have h2 : (x.Works.flatMap yUA).length ≤ yeJ x.Works:=yUS yVl x.Works
 have h3 : (x.Arrived.flatMap yaY).length ≤ yf0 x.Arrived:=yUS yUY x.Arrived
 rw [yUK]
 unfold ycp
 omega
theorem yU2 (x : Waterway) (hs : x.small) (hB : (yUs x).length ≤ 1000000000) : yB Tryz.prog 32 [.agg (x.enc.map .c)] (.c (.sl 1 ((yUs x).map yJ))):=(yU7 x hs hB).pure rfl
theorem yU1 {n v : Int} : ∀ {l : List (Int × Int)} {j i : Nat} {v0 : Int},yUu n j l = some (i,v0) → ∀ m : Int,j ≤ i ∧ yUu m j (yUF l (i - j) v) = if m = n then some (i,v) else yUu m j l
 | [],j,i,v0,h,m=>by cases h
 | q :: l,j,i,v0,h,m=>by
  simp only [yUu] at h
  split at h
  ·rename_i e
   cases h
   refine ⟨Nat.le_refl _,?_⟩
   rw [Nat.sub_self]
   show yUu m j ((q.1,v) :: l) = _
   simp only [yUu]
   by_cases hm : m = q.1
   ·rw [if_pos hm,if_pos (by omega)]
   ·rw [if_neg hm,if_neg (by omega),if_neg hm]
  ·rename_i e
   obtain ⟨h1,h2⟩:=yU1 (v:=v) h m
   refine ⟨by omega,?_⟩
   rw [show i - j = (i - (j + 1)) + 1 by omega]
   show yUu m j (q :: yUF l (i - (j + 1)) v) = _
   simp only [yUu]
   by_cases hm : m = q.1
   ·rw [if_pos hm,if_pos hm,if_neg (by omega)]
   ·rw [if_neg hm,if_neg hm,h2]
theorem yU5 {n : Int} : ∀ {l : List (Int × Int)} {j : Nat},yUu n j l = none → ∀ m v : Int,yUu m j (l ++ [(n,v)]) = if m = n then some (j + l.length,v) else yUu m j l
 | [],j,_,m,v=>by simp [yUu]
 | q :: l,j,h,m,v=>by
  simp only [yUu] at h
  split at h
  ·cases h
  ·rename_i e
   have h2:=yU5 h m v
   simp only [List.cons_append,yUu,List.length_cons]
   by_cases hm : m = q.1
   ·rw [if_pos hm,if_pos hm,if_neg (by omega)]
   ·rw [if_neg hm,if_neg hm,h2,show j + 1 + l.length = j + (l.length + 1) by omega]
theorem yVh {n v m : Int} {l : List (Int × Int)} : yUz m (yUP n v l) = if m = n then v else yUz m l:=by
 unfold yUP
 cases h : yUu n 0 l with
 | some p =>
  have hq:=(yU1 (v:=v) (l:=l) (j:=0) (i:=p.1) (v0:=p.2) h m).2
  rw [Nat.sub_zero] at hq
  simp only
  unfold yUz
  rw [hq]
  by_cases hm : m = n
  ·rw [if_pos hm,if_pos hm]
  ·rw [if_neg hm,if_neg hm]
 | none =>
  simp only
  unfold yUz
  rw [yU5 h m v]
  by_cases hm : m = n
  ·rw [if_pos hm,if_pos hm]
  ·rw [if_neg hm,if_neg hm]
@[simp] theorem leO_mps {a b : List (Int × Int)} : (Obj.mp a).leO (.mp b) = (a = b):=by
 show (Obj.mp a = Obj.mp b) = _
 simp
def yVd (kvs : List (Int × Int)) (l : List Int) : Prop:=∀ n,yUz n kvs = (l.count n : Int)
theorem yVi : yVd [] []:=fun n=>by simp [yUz,yUu]
theorem yVk {kvs : List (Int × Int)} {l : List Int} {k : Nat} {a : Int} (h : yVd kvs (l.take k)) (ha : l[k]? = some a) : yVd (yUP a (yUz a kvs + 1) kvs) (l.take (k + 1)):=by
 intro n
 rw [yVh,h a,h n,List.take_succ,ha]
 simp only [Option.toList_some,List.count_append,List.count_singleton]
 by_cases e : n = a
 ·subst e; simp
 ·have e2 : ¬ a = n:=fun e3=>e e3.symm
  simp [e,e2]
def yUD (x : Waterway) : Bool:=decide ((yUs x).length = x.Entered.length) && x.Entered.all fun i=>decide ((yUs x).count i = 1)
theorem yVg {x : Waterway} {k : Nat} {i : Int} (h : x.Entered[k]? = some i) (hi : ¬ (yUs x).count i = 1) : yUD x = false:=by
 have:=all_false (p:=fun i=>decide ((yUs x).count i = 1)) h (by simp [hi])
 simp [yUD,this]
set_option maxRecDepth 20000 in
theorem yU0 (x : Waterway) (hs : x.small) (hB : (yUs x).length ≤ 1000000000) : yB Tryz.prog 8 [.agg (x.enc.map .c)] (.c (.b (yUD x))):=by
 have hP:=yU2 x hs hB
 obtain ⟨P,hPe⟩ : ∃ P,yUs x = P:=⟨_,rfl⟩
 have hno:=fun k i=>yVg (x:=x) (k:=k) (i:=i)
 have hyes : yUD x = (decide ((yUs x).length = x.Entered.length) && x.Entered.all fun i=>decide ((yUs x).count i = 1)):=rfl
 rw [hPe] at hP hB hno hyes
 refine yh yUU ?_
 simp -dsimp -implicitDefEqProofs
 refine yaP (hP) (by simp -dsimp -implicitDefEqProofs) rfl ?_
 simp -dsimp -implicitDefEqProofs
 intro hlen1 hlen2
 by_cases he : P.length = x.Entered.length
 case neg =>
  have z1 : ((P.length : Int) = (x.Entered.length : Int)) = False:=by simp; omega
  simp -dsimp -implicitDefEqProofs [z1,he]
  rw [hyes]
  simp [he]
 have z1 : ((P.length : Int) = (x.Entered.length : Int)) = True:=by simp [he]
 simp -dsimp -implicitDefEqProofs [z1,he]
 intro _
 refine yg (ι:=Nat × List (Int × Int)) (fun q=>q.1 ≤ P.length ∧ yVd q.2 (P.take q.1)) (fun q=>yO [(1,.box 1 0),(2,.c (.b false)),(4,.mpr 17),(18,.c (.sl 1 (P.map yJ))),(19,.c (.i x.Entered.length)),(20,.c (.i q.1))] [(1,.box (x.enc.map .c)),(17,.mp q.2)]) (fun q=>P.length - q.1) (0,[]) ⟨by simp,yVi⟩ (by apply yj <;> simp) ?_
 rintro ⟨k,kvs⟩ ⟨hk,ht⟩
 simp only at hk ht
 rcases Nat.lt_or_ge k P.length with klt | kge
 ·obtain ⟨a,ha⟩ : ∃ a,P[k]? = some a:=⟨_,List.getElem?_eq_getElem klt⟩
  have ga:=(List.getElem?_eq_some_iff.1 ha).2
  have hc : yUz a kvs ≤ 1000000000 ∧ 0 ≤ yUz a kvs:=by
   rw [ht a]
   have:=List.count_le_length (l:=P.take k) (a:=a)
   rw [List.length_take] at this
   omega
  have ht2:=yVk ht ha
  have klt2 : k < x.Entered.length:=by omega
  simp -dsimp -implicitDefEqProofs [ha,ga,klt,klt2,yG klt2]
  refine ⟨by unfold inI; omega,by unfold inI; omega,k + 1,_,⟨klt,ht2⟩,by omega,?_⟩
  apply yj <;> simp
 ·have kge2 : x.Entered.length ≤ k:=by omega
  rw [List.take_of_length_le kge] at ht
  simp -dsimp -implicitDefEqProofs [yaB kge2]
  intro _
  refine yg (ι:=Nat) (fun k=>k ≤ x.Entered.length ∧ ∀ i ∈ x.Entered.take k,decide (P.count i = 1) = true) (fun k=>yO [(1,.box 1 0),(2,.c (.b false)),(4,.mpr 17),(30,.c (.sl 1 (x.Entered.map yJ))),(31,.c (.i x.Entered.length)),(32,.c (.i k))] [(1,.box (x.enc.map .c)),(17,.mp kvs)]) (fun k=>x.Entered.length - k) 0 (by simp) (by apply yj <;> simp) ?_
  rintro j ⟨hj,hall⟩
  rcases Nat.lt_or_ge j x.Entered.length with jlt | jge
  ·obtain ⟨i,hi⟩ : ∃ i,x.Entered[j]? = some i:=⟨_,List.getElem?_eq_getElem jlt⟩
   have gi:=(List.getElem?_eq_some_iff.1 hi).2
   have hti:=ht i
   by_cases hone : P.count i = 1
   ·have z2 : yUz i kvs = 1:=by rw [hti,hone]; rfl
    have hall2:=yL (p:=fun i=>decide (P.count i = 1)) hi hall (by simp [hone])
    simp -dsimp -implicitDefEqProofs [hi,gi,jlt,yG jlt,z2]
    refine ⟨yw jlt hlen2,j + 1,⟨jlt,by simpa using hall2⟩,by omega,?_⟩
    apply yj <;> simp
   ·have z2 : (yUz i kvs = 1) = False:=by rw [hti]; simp; omega
    simp -dsimp -implicitDefEqProofs [hi,gi,jlt,yG jlt,z2]
    exact hno j i hi hone
  ·have hall2:=yX (p:=fun i=>decide (P.count i = 1)) jge hall
   simp -dsimp -implicitDefEqProofs [yaB jge]
   rw [hyes,hall2]
   simp [he]
set_option maxRecDepth 20000 in
theorem yU3 (x : Waterway) (hs : x.small) (hB : (yUs x).length ≤ 1000000000) : yB Tryz.prog 6 [.agg (x.enc.map .c)] (.c (.b (yUD x))):=by
 have hP:=yU6 x hs hB
 obtain ⟨P,hPe⟩ : ∃ P,yUs x = P:=⟨_,rfl⟩
 have hno:=fun k i=>yVg (x:=x) (k:=k) (i:=i)
 have hyes : yUD x = (decide ((yUs x).length = x.Entered.length) && x.Entered.all fun i=>decide ((yUs x).count i = 1)):=rfl
 rw [hPe] at hP hB hno hyes
 refine yh yUT ?_
 simp -dsimp -implicitDefEqProofs
 refine yaP (hP) (by simp -dsimp -implicitDefEqProofs) rfl ?_
 simp -dsimp -implicitDefEqProofs
 refine yg (ι:=Nat) (fun k=>k ≤ x.Entered.length ∧ ∀ i ∈ x.Entered.take k,decide (P.count i = 1) = true) (fun k=>yO [(1,.box 1 0),(2,.c (.b false)),(3,.c (.sl 1 (P.map yJ))),(4,.c (.i k))] [(1,.box (x.enc.map .c))]) (fun k=>x.Entered.length - k) 0 (by simp) (by apply yj <;> simp) ?_
 rintro j ⟨hj,hall⟩
 rcases Nat.lt_or_ge j x.Entered.length with jlt | jge
 ·obtain ⟨i,hi⟩ : ∃ i,x.Entered[j]? = some i:=⟨_,List.getElem?_eq_getElem jlt⟩
  have gi:=(List.getElem?_eq_some_iff.1 hi).2
  simp -dsimp -implicitDefEqProofs [hi,gi,jlt,yG jlt]
  intro hlen2
  refine yaQ (yTD P i) (by simp -dsimp -implicitDefEqProofs) rfl ?_
  by_cases hone : P.count i = 1
  ·have z2 : ((P.count i : Int) = 1) = True:=by simp; omega
   have hall2:=yL (p:=fun i=>decide (P.count i = 1)) hi hall (by simp [hone])
   simp -dsimp -implicitDefEqProofs [z2,hone]
   refine ⟨yw jlt hlen2,j + 1,⟨jlt,by simpa using hall2⟩,by omega,?_⟩
   apply yj <;> simp
  ·have z2 : ((P.count i : Int) = 1) = False:=by simp; omega
   simp -dsimp -implicitDefEqProofs [z2,hone]
   exact hno j i hi hone
 ·have hall2:=yX (p:=fun i=>decide (P.count i = 1)) jge hall
  simp -dsimp -implicitDefEqProofs [yaB jge]
  intro hlen1 hlen2
  rw [hyes,hall2]
  by_cases he : P.length = x.Entered.length
  ·simp [he]
  ·simp [he]; omega
theorem yUQ (x0 : Waterway) : yB Tryz.prog 3 [.agg (x0.enc.map .c)] (.c (.b true)):=by
 refine yh yUH ?_
 simp -dsimp -implicitDefEqProofs
 refine yc (yq5 x0 1048576 (by omega) (by omega)) ?_
 simp -dsimp -implicitDefEqProofs
 intro hsz0
 have hl0:=yzy yqh (by omega) (by omega) hsz0
 have ht:=ynf x0 1048576 (by omega) (by omega) hsz0
 have hpt:=yU8 x0
 have hB : (yUs x0).length ≤ 1000000000:=by omega
 refine yS (yib x0 hl0) ?_
 simp -dsimp -implicitDefEqProofs
 refine yc (yU3 x0 hl0 hB) ?_
 simp -dsimp -implicitDefEqProofs
 refine yS (yib x0 hl0) ?_
 simp -dsimp -implicitDefEqProofs
 refine yc (yU0 x0 hl0 hB) ?_
 simp -dsimp -implicitDefEqProofs
 refine yyA (yib x0 hl0) ?_
 simp -dsimp -implicitDefEqProofs
 refine yaC (yfL x0 x0) ?_
 simp -dsimp -implicitDefEqProofs
theorem yye {xs : List C} (h : Fits [.i,.i,.i,.i,.i] xs) : ∃ e : Entry,xs = e.enc:=by
 obtain ⟨c0,ys,rfl,h0,h⟩:=h.cons_inv
 obtain ⟨c1,ys,rfl,h1,h⟩:=h.cons_inv
 obtain ⟨c2,ys,rfl,h2,h⟩:=h.cons_inv
 obtain ⟨c3,ys,rfl,h3,h⟩:=h.cons_inv
 obtain ⟨c4,ys,rfl,h4,h⟩:=h.cons_inv
 obtain rfl:=h.ycx
 obtain ⟨n0,rfl⟩:=h0.yaT
 obtain ⟨n1,rfl⟩:=h1.yaT
 obtain ⟨n2,rfl⟩:=h2.yaT
 obtain ⟨n3,rfl⟩:=h3.yaT
 obtain ⟨n4,rfl⟩:=h4.yaT
 exact ⟨⟨n0,n1,n2,n3,n4⟩,rfl⟩
theorem ykL {xs : List C} (h : Fits [.i] xs) : ∃ n : Int,xs = yJ n:=by
 obtain ⟨c0,ys,rfl,h0,h⟩:=h.cons_inv
 obtain rfl:=h.ycx
 obtain ⟨n0,rfl⟩:=h0.yaT
 exact ⟨n0,rfl⟩
theorem yBG {xs : List C} (h : Fits [.i,.i] xs) : ∃ e : Way,xs = e.enc:=by
 obtain ⟨c0,ys,rfl,h0,h⟩:=h.cons_inv
 obtain ⟨c1,ys,rfl,h1,h⟩:=h.cons_inv
 obtain rfl:=h.ycx
 obtain ⟨n0,rfl⟩:=h0.yaT
 obtain ⟨n1,rfl⟩:=h1.yaT
 exact ⟨⟨n0,n1⟩,rfl⟩
theorem yAu {xs : List C} (h : Fits [.i,.i,.i,.i,.i,.i] xs) : ∃ e : Boat,xs = e.enc:=by
 obtain ⟨c0,ys,rfl,h0,h⟩:=h.cons_inv
 obtain ⟨c1,ys,rfl,h1,h⟩:=h.cons_inv
 obtain ⟨c2,ys,rfl,h2,h⟩:=h.cons_inv
 obtain ⟨c3,ys,rfl,h3,h⟩:=h.cons_inv
 obtain ⟨c4,ys,rfl,h4,h⟩:=h.cons_inv
 obtain ⟨c5,ys,rfl,h5,h⟩:=h.cons_inv
 obtain rfl:=h.ycx
 obtain ⟨n0,rfl⟩:=h0.yaT
 obtain ⟨n1,rfl⟩:=h1.yaT
 obtain ⟨n2,rfl⟩:=h2.yaT
 obtain ⟨n3,rfl⟩:=h3.yaT
 obtain ⟨n4,rfl⟩:=h4.yaT
 obtain ⟨n5,rfl⟩:=h5.yaT
 exact ⟨⟨n0,n1,n2,n3,n4,n5⟩,rfl⟩
theorem yjF {xs : List C} (h : Fits [.sl [.i,.i,.i,.i,.i,.i]] xs) : ∃ e : List Boat,xs = yai e:=by
 obtain ⟨c0,ys,rfl,h0,h⟩:=h.cons_inv
 obtain rfl:=h.ycx
 obtain ⟨n0,rfl⟩:=h0.ycq Boat.enc fun _ h=>yAu h
 exact ⟨n0,rfl⟩
theorem yrO {xs : List C} (h : Fits [.b,.sl [.sl [.i,.i,.i,.i,.i,.i]]] xs) : ∃ e : Train,xs = e.enc:=by
 obtain ⟨c0,ys,rfl,h0,h⟩:=h.cons_inv
 obtain ⟨c1,ys,rfl,h1,h⟩:=h.cons_inv
 obtain rfl:=h.ycx
 obtain ⟨n0,rfl⟩:=h0.yuo
 obtain ⟨n1,rfl⟩:=h1.ycq yai fun _ h=>yjF h
 exact ⟨⟨n0,n1⟩,rfl⟩
theorem yyj {xs : List C} (h : Fits [.b,.sl [.sl [.i,.i,.i,.i,.i,.i]],.i] xs) : ∃ e : Mover,xs = e.enc:=by
 obtain ⟨c0,ys,rfl,h0,h⟩:=h.cons_inv
 obtain ⟨c1,ys,rfl,h1,h⟩:=h.cons_inv
 obtain ⟨c2,ys,rfl,h2,h⟩:=h.cons_inv
 obtain rfl:=h.ycx
 obtain ⟨n0,rfl⟩:=h0.yuo
 obtain ⟨n1,rfl⟩:=h1.ycq yai fun _ h=>yjF h
 obtain ⟨n2,rfl⟩:=h2.yaT
 exact ⟨⟨⟨n0,n1⟩,n2⟩,rfl⟩
theorem yxJ {xs : List C} (h : Fits [.i,.i] xs) : ∃ e : Point,xs = e.enc:=by
 obtain ⟨c0,ys,rfl,h0,h⟩:=h.cons_inv
 obtain ⟨c1,ys,rfl,h1,h⟩:=h.cons_inv
 obtain rfl:=h.ycx
 obtain ⟨n0,rfl⟩:=h0.yaT
 obtain ⟨n1,rfl⟩:=h1.yaT
 exact ⟨⟨n0,n1⟩,rfl⟩
theorem yxz {xs : List C} (h : Fits [.sl [.i,.i],.i,.sl [.i]] xs) : ∃ e : Reach,xs = e.enc:=by
 obtain ⟨c0,ys,rfl,h0,h⟩:=h.cons_inv
 obtain ⟨c1,ys,rfl,h1,h⟩:=h.cons_inv
 obtain ⟨c2,ys,rfl,h2,h⟩:=h.cons_inv
 obtain rfl:=h.ycx
 obtain ⟨n0,rfl⟩:=h0.ycq Point.enc fun _ h=>yxJ h
 obtain ⟨n1,rfl⟩:=h1.yaT
 obtain ⟨n2,rfl⟩:=h2.ycq yJ fun _ h=>ykL h
 exact ⟨⟨n0,n1,n2⟩,rfl⟩
theorem yxt {xs : List C} (h : Fits [.i,.i] xs) : ∃ e : Pause,xs = e.enc:=by
 obtain ⟨c0,ys,rfl,h0,h⟩:=h.cons_inv
 obtain ⟨c1,ys,rfl,h1,h⟩:=h.cons_inv
 obtain rfl:=h.ycx
 obtain ⟨n0,rfl⟩:=h0.yaT
 obtain ⟨n1,rfl⟩:=h1.yaT
 exact ⟨⟨n0,n1⟩,rfl⟩
theorem yz8 {xs : List C} (h : Fits [.b,.sl [.sl [.i,.i,.i,.i,.i,.i]],.i,.i] xs) : ∃ e : CallT,xs = e.enc:=by
 obtain ⟨c0,ys,rfl,h0,h⟩:=h.cons_inv
 obtain ⟨c1,ys,rfl,h1,h⟩:=h.cons_inv
 obtain ⟨c2,ys,rfl,h2,h⟩:=h.cons_inv
 obtain ⟨c3,ys,rfl,h3,h⟩:=h.cons_inv
 obtain rfl:=h.ycx
 obtain ⟨n0,rfl⟩:=h0.yuo
 obtain ⟨n1,rfl⟩:=h1.ycq yai fun _ h=>yjF h
 obtain ⟨n2,rfl⟩:=h2.yaT
 obtain ⟨n3,rfl⟩:=h3.yaT
 exact ⟨⟨⟨n0,n1⟩,n2,n3⟩,rfl⟩
theorem yy3 {xs : List C} (h : Fits [.i,.i,.i,.i,.i,.i,.i,.i,.i,.sl [.b,.sl [.sl [.i,.i,.i,.i,.i,.i]]],.i,.i,.i,.i,.i,.i,.i,.i,.sl [.i,.i],.b,.i,.sl [.b,.sl [.sl [.i,.i,.i,.i,.i,.i]],.i,.i]] xs) : ∃ e : Work,xs = e.enc:=by
 obtain ⟨c0,ys,rfl,h0,h⟩:=h.cons_inv
 obtain ⟨c1,ys,rfl,h1,h⟩:=h.cons_inv
 obtain ⟨c2,ys,rfl,h2,h⟩:=h.cons_inv
 obtain ⟨c3,ys,rfl,h3,h⟩:=h.cons_inv
 obtain ⟨c4,ys,rfl,h4,h⟩:=h.cons_inv
 obtain ⟨c5,ys,rfl,h5,h⟩:=h.cons_inv
 obtain ⟨c6,ys,rfl,h6,h⟩:=h.cons_inv
 obtain ⟨c7,ys,rfl,h7,h⟩:=h.cons_inv
 obtain ⟨c8,ys,rfl,h8,h⟩:=h.cons_inv
 obtain ⟨c9,ys,rfl,h9,h⟩:=h.cons_inv
 obtain ⟨c10,ys,rfl,h10,h⟩:=h.cons_inv
 obtain ⟨c11,ys,rfl,h11,h⟩:=h.cons_inv
 obtain ⟨c12,ys,rfl,h12,h⟩:=h.cons_inv
 obtain ⟨c13,ys,rfl,h13,h⟩:=h.cons_inv
 obtain ⟨c14,ys,rfl,h14,h⟩:=h.cons_inv
 obtain ⟨c15,ys,rfl,h15,h⟩:=h.cons_inv
 obtain ⟨c16,ys,rfl,h16,h⟩:=h.cons_inv
 obtain ⟨c17,ys,rfl,h17,h⟩:=h.cons_inv
 obtain ⟨c18,ys,rfl,h18,h⟩:=h.cons_inv
 obtain ⟨c19,ys,rfl,h19,h⟩:=h.cons_inv
 obtain ⟨c20,ys,rfl,h20,h⟩:=h.cons_inv
 obtain ⟨c21,ys,rfl,h21,h⟩:=h.cons_inv
 obtain rfl:=h.ycx
 obtain ⟨n0,rfl⟩:=h0.yaT
 obtain ⟨n1,rfl⟩:=h1.yaT
 obtain ⟨n2,rfl⟩:=h2.yaT
 obtain ⟨n3,rfl⟩:=h3.yaT
 obtain ⟨n4,rfl⟩:=h4.yaT
 obtain ⟨n5,rfl⟩:=h5.yaT
 obtain ⟨n6,rfl⟩:=h6.yaT
 obtain ⟨n7,rfl⟩:=h7.yaT
 obtain ⟨n8,rfl⟩:=h8.yaT
 obtain ⟨n9,rfl⟩:=h9.ycq Train.enc fun _ h=>yrO h
 obtain ⟨n10,rfl⟩:=h10.yaT
 obtain ⟨n11,rfl⟩:=h11.yaT
 obtain ⟨n12,rfl⟩:=h12.yaT
 obtain ⟨n13,rfl⟩:=h13.yaT
 obtain ⟨n14,rfl⟩:=h14.yaT
 obtain ⟨n15,rfl⟩:=h15.yaT
 obtain ⟨n16,rfl⟩:=h16.yaT
 obtain ⟨n17,rfl⟩:=h17.yaT
 obtain ⟨n18,rfl⟩:=h18.ycq Pause.enc fun _ h=>yxt h
 obtain ⟨n19,rfl⟩:=h19.yuo
 obtain ⟨n20,rfl⟩:=h20.yaT
 obtain ⟨n21,rfl⟩:=h21.ycq CallT.enc fun _ h=>yz8 h
 exact ⟨⟨⟨n0,n1,n2,n3,n4,n5,n6,n7,n8,n9⟩,⟨n10,n11,n12,n13,n14⟩,⟨n15,n16,n17⟩,n18,⟨n19,n20⟩,n21⟩,rfl⟩
theorem ywg {xs : List C} (h : Fits [.sl [.b,.sl [.sl [.i,.i,.i,.i,.i,.i]],.i]] xs) : ∃ e : List Mover,xs = yZ e:=by
 obtain ⟨c0,ys,rfl,h0,h⟩:=h.cons_inv
 obtain rfl:=h.ycx
 obtain ⟨n0,rfl⟩:=h0.ycq Mover.enc fun _ h=>yyj h
 exact ⟨n0,rfl⟩
theorem yuj {xs : List C} (h : Fits [.i,.i,.b,.sl [.sl [.i,.i,.i,.i,.i,.i]]] xs) : ∃ e : Passing,xs = e.enc:=by
 obtain ⟨c0,ys,rfl,h0,h⟩:=h.cons_inv
 obtain ⟨c1,ys,rfl,h1,h⟩:=h.cons_inv
 obtain ⟨c2,ys,rfl,h2,h⟩:=h.cons_inv
 obtain ⟨c3,ys,rfl,h3,h⟩:=h.cons_inv
 obtain rfl:=h.ycx
 obtain ⟨n0,rfl⟩:=h0.yaT
 obtain ⟨n1,rfl⟩:=h1.yaT
 obtain ⟨n2,rfl⟩:=h2.yuo
 obtain ⟨n3,rfl⟩:=h3.ycq yai fun _ h=>yjF h
 exact ⟨⟨n0,n1,⟨n2,n3⟩⟩,rfl⟩
theorem ysY {xs : List C} (h : Fits [.i,.sl [.sl [.i,.i],.i,.sl [.i]],.sl [.i,.i],.sl [.i,.i,.i,.i,.i,.i,.i,.i,.i,.sl [.b,.sl [.sl [.i,.i,.i,.i,.i,.i]]],.i,.i,.i,.i,.i,.i,.i,.i,.sl [.i,.i],.b,.i,.sl [.b,.sl [.sl [.i,.i,.i,.i,.i,.i]],.i,.i]],.sl [.sl [.b,.sl [.sl [.i,.i,.i,.i,.i,.i]],.i]],.sl [.b,.sl [.sl [.i,.i,.i,.i,.i,.i]]],.sl [.i],.i,.i,.sl [.i],.sl [.i],.sl [.i,.i,.i,.i,.i],.sl [.i,.i,.b,.sl [.sl [.i,.i,.i,.i,.i,.i]]],.i,.i,.i] xs) : ∃ e : Waterway,xs = e.enc:=by
 obtain ⟨c0,ys,rfl,h0,h⟩:=h.cons_inv
 obtain ⟨c1,ys,rfl,h1,h⟩:=h.cons_inv
 obtain ⟨c2,ys,rfl,h2,h⟩:=h.cons_inv
 obtain ⟨c3,ys,rfl,h3,h⟩:=h.cons_inv
 obtain ⟨c4,ys,rfl,h4,h⟩:=h.cons_inv
 obtain ⟨c5,ys,rfl,h5,h⟩:=h.cons_inv
 obtain ⟨c6,ys,rfl,h6,h⟩:=h.cons_inv
 obtain ⟨c7,ys,rfl,h7,h⟩:=h.cons_inv
 obtain ⟨c8,ys,rfl,h8,h⟩:=h.cons_inv
 obtain ⟨c9,ys,rfl,h9,h⟩:=h.cons_inv
 obtain ⟨c10,ys,rfl,h10,h⟩:=h.cons_inv
 obtain ⟨c11,ys,rfl,h11,h⟩:=h.cons_inv
 obtain ⟨c12,ys,rfl,h12,h⟩:=h.cons_inv
 obtain ⟨c13,ys,rfl,h13,h⟩:=h.cons_inv
 obtain ⟨c14,ys,rfl,h14,h⟩:=h.cons_inv
 obtain ⟨c15,ys,rfl,h15,h⟩:=h.cons_inv
 obtain rfl:=h.ycx
 obtain ⟨n0,rfl⟩:=h0.yaT
 obtain ⟨n1,rfl⟩:=h1.ycq Reach.enc fun _ h=>yxz h
 obtain ⟨n2,rfl⟩:=h2.ycq Way.enc fun _ h=>yBG h
 obtain ⟨n3,rfl⟩:=h3.ycq Work.enc fun _ h=>yy3 h
 obtain ⟨n4,rfl⟩:=h4.ycq yZ fun _ h=>ywg h
 obtain ⟨n5,rfl⟩:=h5.ycq Train.enc fun _ h=>yrO h
 obtain ⟨n6,rfl⟩:=h6.ycq yJ fun _ h=>ykL h
 obtain ⟨n7,rfl⟩:=h7.yaT
 obtain ⟨n8,rfl⟩:=h8.yaT
 obtain ⟨n9,rfl⟩:=h9.ycq yJ fun _ h=>ykL h
 obtain ⟨n10,rfl⟩:=h10.ycq yJ fun _ h=>ykL h
 obtain ⟨n11,rfl⟩:=h11.ycq Entry.enc fun _ h=>yye h
 obtain ⟨n12,rfl⟩:=h12.ycq Passing.enc fun _ h=>yuj h
 obtain ⟨n13,rfl⟩:=h13.yaT
 obtain ⟨n14,rfl⟩:=h14.yaT
 obtain ⟨n15,rfl⟩:=h15.yaT
 exact ⟨⟨n0,n1,n2,n3,n4,n5,n6,⟨n7,n8,n9,n10⟩,n11,n12,n13,n14,n15⟩,rfl⟩
theorem yUI : IsLaw Rows.fnExactBoatsOnceSpec Tryz.f3.params.size:=by
 refine ⟨rfl,fun H ds h=>?_⟩
 match ds,h with
 | [d0],_=>rfl
theorem yUE : LawFacts Tryz.prog Tryz.f3 (Tryz.f3.resultTypes.getD 0 0) [(true,[.i,.sl [.sl [.i,.i],.i,.sl [.i]],.sl [.i,.i],.sl [.i,.i,.i,.i,.i,.i,.i,.i,.i,.sl [.b,.sl [.sl [.i,.i,.i,.i,.i,.i]]],.i,.i,.i,.i,.i,.i,.i,.i,.sl [.i,.i],.b,.i,.sl [.b,.sl [.sl [.i,.i,.i,.i,.i,.i]],.i,.i]],.sl [.sl [.b,.sl [.sl [.i,.i,.i,.i,.i,.i]],.i]],.sl [.b,.sl [.sl [.i,.i,.i,.i,.i,.i]]],.sl [.i],.i,.i,.sl [.i],.sl [.i],.sl [.i,.i,.i,.i,.i],.sl [.i,.i,.b,.sl [.sl [.i,.i,.i,.i,.i,.i]]],.i,.i,.i])] :=
 ⟨yrS,by kernel_rfl,by kernel_rfl,by kernel_rfl,by kernel_rfl⟩
set_option maxRecDepth 100000 in
theorem yUG (os : Os) (started : os.Started) (H : Type) (enc : TypeId × Value → H) :
 ReturnsInHanded {} Tryz.checked os 3 .any (Rows.fnExactBoatsOnceSpec.pre6 enc Tryz.prog Tryz.f3 Rows.fnExactBoatsOnceRow.domain false) (Rows.fnExactBoatsOnceSpec.post enc Tryz.prog Tryz.f3 false true false false):=by
 refine law_lifted (C:=Tryz.checked) yt1 started (by kernel_rfl) Tryz.func3
  (ChangeSpec.witness6 (enc:=enc) (C:=Tryz.checked) false ⟨#[],#[.agg #[.int .i64 0,.slice none 0 0,.slice none 0 0,.slice none 0 0,.slice none 0 0,.slice none 0 0,.slice none 0 0,.int .i64 0,.int .i64 0,.slice none 0 0,.slice none 0 0,.slice none 0 0,.slice none 0 0,.int .i64 0,.int .i64 0,.int .i64 0]],[]⟩ 8 (by kernel_rfl) (by kernel_rfl) (by kernel_rfl) (by kernel_rfl)) yUI yUE ?_
 rintro avs ⟨a,avs0,rfl,ha,rfl⟩
 cases ha with
 | st h0 =>
  obtain ⟨x0,rfl⟩:=ysY h0
  exact yUQ x0
theorem yUL : ypf Tryz.prog 3 Tryz.f3 Rows.fnExactBoatsOnceSpec Rows.fnExactBoatsOnceRow = true:=by kernel_rfl
theorem yUJ : Tryz.pinned.checked.prog.funcNamed Rows.fnExactBoatsOnceRow.func = some 3:=by kernel_rfl
theorem yUN : Tryz.f3.isInstance Tryz.pinned.checked.prog Rows.fnExactBoatsOnceRow.origin Rows.fnExactBoatsOnceRow.targs:=(of_decide_eq_true (by kernel_rfl))
theorem yUM : Tryz.f3.isWrapper Tryz.pinned.checked.prog Rows.fnExactBoatsOnceRow.wrapper Rows.fnExactBoatsOnceRow.mainSum:=by
 unfold Func.isWrapper; first | (rw [if_pos (by decide +kernel)]; kernel_rfl) | (rw [if_neg (by decide +kernel)]; exact ⟨rfl,rfl⟩)
theorem FnExactBoatsOnce_holds : Rows.FnExactBoatsOnceSaid :=
 OpenClaim.holds_of_wide (p:=Tryz.pinned) (s:=Rows.fnExactBoatsOnceSpec) (c:=Rows.fnExactBoatsOnceRow) 3 Tryz.f3 rfl rfl rfl rfl rfl rfl rfl ⟨rfl,rfl,rfl,rfl,rfl⟩ rfl rfl rfl rfl rfl yUJ Tryz.func3
  (yyi yxx yUL ⟨rfl,rfl,rfl,rfl,rfl,rfl,rfl,rfl⟩) yUN yUM (fun os started H enc _=>yUG os started H enc)
end Go.Proofs.YtpkpdbohalbbaaaGreat
