/- What the law FnExactSailAll stands on: contracts of functions, what each answers as plain Lean, in short form (names, layout). -/
import Derived.Test.YtjojilkdkgmbgaaGreatSExactSailAll2
set_option linter.all false
namespace Go.Proofs.YtjojilkdkgmbgaaGreat
open Go.RowKit
theorem yQ0 (w : Way) (r : Reach) : yB Tryz.prog 126 [.agg (w.enc.map .c),.agg (r.enc.map .c)] (.c (.i (yPl w r))):=by
 refine yh yQG ?_
 simp -dsimp -implicitDefEqProofs
 refine yc (ynZ w) ?_
 simp -dsimp -implicitDefEqProofs
 refine ⟨fun h1=>?_,fun h1=>by simp [yPl,h1]⟩
 refine yc (ybX r) ?_
 simp -dsimp -implicitDefEqProofs
 refine ⟨fun h2=>by simp [yPl,h2],fun h2=>?_⟩
 refine yaC (yeo r) ?_
 simp -dsimp -implicitDefEqProofs
 have hl:=yQo r
 have hb:=yQj h1
 exact ⟨by unfold inI; omega,by simp [yPl,h1,h2]⟩
theorem yvB (xs : List Point) (hl : yfO xs) : ybh Tryz.prog 177 [.c (.sl 2 (xs.map Point.enc))] (.c (.ow 2 (xs.map Point.enc))):=by
 refine yan yiu ?_
 simp -dsimp -implicitDefEqProofs
 intro hlen
 have hl1:=hl.1
 refine ⟨by omega,?_⟩
 refine yg (ι:=Nat) (fun k=>k ≤ xs.length) (fun k=>yO [(0,.c (.sl 2 (xs.map Point.enc))),(3,.own 7 2 xs.length),(4,.c (.i k))] [(7,.row 2 (partly Point.enc [.i 0,.i 0] xs k))]) (fun k=>xs.length - k) 0 (by simp) (by apply yj <;> simp [yab]) ?_
 rintro k hk
 rcases Nat.lt_or_ge k xs.length with hlt | hge
 ·obtain ⟨e,he⟩ : ∃ e,xs[k]? = some e:=⟨_,List.getElem?_eq_getElem hlt⟩
  have hs:=yaj (f:=Point.enc) (z:=[.i 0,.i 0]) he
  have hd:=yav (f:=Point.enc) (z:=[.i 0,.i 0]) (n:=2) rfl hlt
  simp only [Point.enc] at hs
  simp -dsimp -implicitDefEqProofs [he,yG hlt]
  refine fun _=>yaP (yrB e ) (by simp) rfl ?_
  simp -dsimp -implicitDefEqProofs [yG hlt,yak hk,hd,hs]
  exact ⟨hlt,yw hlt hlen,k + 1,hlt,by omega,by apply yj <;> simp⟩
 ·simp -dsimp -implicitDefEqProofs [yaB hge]
  intro _
  rw [yam hge,List.take_of_length_le (by simp)]
@[simp] def Mover.yI (e : Mover) : List C:=[.b e.Train.Up,.ot 1 (e.Train.Rows.map yT),.i e.Place]
theorem Mover.yaa (e : Mover) : ybQ e.yI = some e.enc:=by simp [Mover.yI,ybQ,ydl yeg]
theorem yx5 (e : Mover) (hl : Mover.small e) : ybh Tryz.prog 184 [.agg (e.enc.map .c)] (.agg (e.yI.map .c)):=by
 refine yan yiQ ?_
 simp -dsimp -implicitDefEqProofs
 refine yQ (yjE e.Train hl) (by simp) (by simp [AV.closed,AV.ya7,C.closed,yT]) (by simp [yU]) ?_
 simp -dsimp -implicitDefEqProofs [yt]
theorem yvD (xs : List Mover) (hl : xs.length ≤ 1048576 ∧ ∀ x ∈ xs,x.small) : ybh Tryz.prog 96 [.c (.sl 3 (xs.map Mover.enc))] (.c (.ot 3 (xs.map Mover.yI))):=by
 refine yan yiz ?_
 simp -dsimp -implicitDefEqProofs
 intro hlen
 have hl1:=hl.1
 refine ⟨by omega,?_⟩
 refine yg (ι:=Nat) (fun k=>k ≤ xs.length) (fun k=>yO [(0,.c (.sl 3 (xs.map Mover.enc))),(3,.own 7 3 xs.length),(4,.c (.i k))] [(7,.tr 3 0 (partly Mover.yI [.b false,.sl 1 [],.i 0] xs k))]) (fun k=>xs.length - k) 0 (by simp) (by apply yj <;> simp [yab,Obj.leO]) ?_
 rintro k hk
 rcases Nat.lt_or_ge k xs.length with hlt | hge
 ·obtain ⟨e,he⟩ : ∃ e,xs[k]? = some e:=⟨_,List.getElem?_eq_getElem hlt⟩
  have hs:=yaj (f:=Mover.yI) (z:=[.b false,.sl 1 [],.i 0]) he
  have hd:=yav (f:=Mover.yI) (z:=[.b false,.sl 1 [],.i 0]) (n:=3) rfl hlt
  simp only [Mover.yI] at hs
  simp -dsimp -implicitDefEqProofs [he,yG hlt]
  intro _
  refine yQ (yx5 e (hl.2 e (List.mem_of_getElem? he))) (by simp) (by simp [AV.closed,AV.ya7,C.closed,yT]) (by simp [yU]) ?_
  simp -dsimp -implicitDefEqProofs [yG hlt,yak hk,yt,hd,hs]
  exact ⟨hlt,yw hlt hlen,k + 1,hlt,by omega,by apply yj <;> simp [Obj.leO]⟩
 ·simp -dsimp -implicitDefEqProofs [yaB hge]
  intro _
  rw [yam hge,yt]
def yP1 (k : Int) : List C:=[.i k,.i (k + 1)]
theorem ytg (xs : List Point) (k : Int) (h0 : 0 ≤ k) (h1 : k + 2 * xs.length ≤ 8000000000000000000) :
 InF Tryz.prog 141 (.c (cw 2 (xs.map Point.enc))) (.c (cw 2 (marked yP1 2 [] k xs.length))) [.c (.i k)] (.c (.i (k + 2 * xs.length))):=by
 rcases Nat.eq_zero_or_pos xs.length with hx | hx
 ·have : xs = []:=List.length_eq_zero_iff.1 hx
  subst this
  refine ybO ygu (by simp) (by simp) rfl fun hwf=>?_
  simp -dsimp -implicitDefEqProofs [yee,marked]
  refine yg (ι:=Unit) (fun _=>True) (fun _=>yO [(0,.c (.sl 2 [])),(1,.c (.i k)),(5,.c (.i 0)),(1000000,.c (.sl 2 []))] []) (fun _=>0) () trivial (by apply yj <;> simp) ?_
  rintro _ _
  simp -dsimp -implicitDefEqProofs
 ·rw [yb4 (by simpa using hx),yb4 (by rw [yM]; exact hx)]
  refine ybO ygu (by simp) (by simp) rfl fun hwf=>?_
  simp -dsimp -implicitDefEqProofs [yee]
  refine yg (ι:=Nat) (fun i=>i ≤ xs.length) (fun i=>yO [(0,.own 0 2 xs.length),(1,.c (.i (k + 2 * i))),(5,.c (.i i)),(1000000,.own 0 2 xs.length)] [(0,.row 2 (marked yP1 2 (xs.map Point.enc) k i))]) (fun i=>xs.length - i) 0 (by simp) (by apply yj <;> simp [ydX]) ?_
  rintro i hi
  rcases Nat.lt_or_ge i xs.length with hlt | hge
  ·obtain ⟨e,he⟩ : ∃ e,xs[i]? = some e:=⟨_,List.getElem?_eq_getElem hlt⟩
   have hg:=yeR (mk:=yP1) (c:=2) (k:=k) (rows:=xs.map Point.enc) (i:=i) (r:=e.enc) (by simp [he])
   have hl:=yeV (mk:=yP1) (c:=2) (k:=k) (rows:=xs.map Point.enc) (i:=i) (by simpa using hi)
   have hs:=ye0 (mk:=yP1) (c:=2) (k:=k) (rows:=xs.map Point.enc) (i:=i) (by simpa using hlt)
   rw [List.length_map] at hl
   generalize marked yP1 2 (xs.map Point.enc) k i = M at *
   have hlt2 : i < M.length:=by omega
   have hself : ∀ a,(M.set i a)[i]? = some a:=fun a=>List.getElem?_set_self hlt2
   simp only [yP1] at hs
   simp only [Point.enc] at hg
   simp -dsimp -implicitDefEqProofs [yG hlt,hg,hl,hlt2,hself]
   intro hlen
   refine ⟨hlt,by unfold inI; omega,hlt,by unfold inI; omega,by unfold inI; omega,i + 1,hlt,by omega,?_⟩
   apply yj <;> simp [hs,hself] <;> omega
  ·have : i = xs.length:=by omega
   subst this
   simp -dsimp -implicitDefEqProofs
   intro _
   have e:=yeI (mk:=yP1) (c:=2) (rows:=xs.map Point.enc) (k:=k) (i:=xs.length) (by simp)
   rw [e,List.length_map,List.take_of_length_le (by rw [yM]; exact Nat.le_refl _)]
@[simp] def Reach.yI (e : Reach) : List C:=[.ow 2 (e.Table.map Point.enc),.i e.Volume,.ow 1 (e.Pipe.map yJ)]
theorem Reach.yaa (e : Reach) : ybQ e.yI = some e.enc:=by simp [Reach.yI,ybQ,C.shr]
theorem yyz (e : Reach) (hl : Reach.small e) : ybh Tryz.prog 93 [.agg (e.enc.map .c)] (.agg (e.yI.map .c)):=by
 refine yan yiN ?_
 simp -dsimp -implicitDefEqProofs
 refine yQ (yvB e.Table hl.1) (by simp ) (by simp [AV.closed,AV.ya7,C.closed]) (by simp [yU]) ?_
 simp -dsimp -implicitDefEqProofs [yt]
 refine yQ (ylr e.Pipe hl.2.1) (by simp ) (by simp [AV.closed,AV.ya7,C.closed]) (by simp [yU]) ?_
 simp -dsimp -implicitDefEqProofs [yt]
def Reach.yrk (e : Reach) : List C:=[cw 2 (e.Table.map Point.enc),.i e.Volume,cw 1 (e.Pipe.map yJ)]
def fM (k : Int) (e : Mover) : List C:=[.b (decide (k.tmod 3 = 0)),.ot 1 (yaA fB nB (k + 1) e.Train.Rows),.i (k + 1 + cnt nB e.Train.Rows)]
def nM (e : Mover) : Nat:=1 + cnt nB e.Train.Rows + 1
theorem ytw (xs : List Mover) (k : Int) (h0 : 0 ≤ k) (h1 : k + cnt nM xs ≤ 8000000000000000000) :
 InF Tryz.prog 144 (.c (ct 3 (xs.map Mover.yI))) (.c (ct 3 (yaA fM nM k xs))) [.c (.i k)] (.c (.i (k + cnt nM xs))):=by
 rcases Nat.eq_zero_or_pos xs.length with hx | hx
 ·have : xs = []:=List.length_eq_zero_iff.1 hx
  subst this
  refine ybO ygK (by simp) (by simp) rfl fun hwf=>?_
  simp -dsimp -implicitDefEqProofs [yev,yaA,cnt]
  refine yg (ι:=Unit) (fun _=>True) (fun _=>yO [(0,.c (.sl 3 [])),(1,.c (.i k)),(5,.c (.i 0)),(1000000,.c (.sl 3 []))] []) (fun _=>0) () trivial (by apply yj <;> simp) ?_
  rintro _ _
  simp -dsimp -implicitDefEqProofs
 ·rw [ycP (by simpa using hx),ycP (by rw [yH]; exact hx)]
  refine ybO ygK (by simp) (by simp) rfl fun hwf=>?_
  simp -dsimp -implicitDefEqProofs [yev]
  refine yg (ι:=Nat) (fun i=>i ≤ xs.length) (fun i=>yO [(0,.own 0 3 xs.length),(1,.c (.i (k + yaK nM xs i))),(5,.c (.i i)),(1000000,.own 0 3 xs.length)] [(0,.tr 3 0 (ycA fM Mover.yI nM k xs i))]) (fun i=>xs.length - i) 0 (by simp) (by apply yj <;> simp [ydh,ya0,Obj.leO]) ?_
  rintro i hi
  rcases Nat.lt_or_ge i xs.length with hlt | hge
  ·obtain ⟨e,he⟩ : ∃ e,xs[i]? = some e:=⟨_,List.getElem?_eq_getElem hlt⟩
   have hg:=yd5 (f:=fM) (g:=Mover.yI) (n:=nM) (k:=k) he
   have hl:=yd1 (f:=fM) (g:=Mover.yI) (n:=nM) (k:=k) (xs:=xs) (i:=i)
   have hs:=yd3 (f:=fM) (g:=Mover.yI) (n:=nM) (k:=k) he
   have hc:=ya1 (n:=nM) he
   have hle:=ybS (n:=nM) (xs:=xs) (i:=i + 1)
   have hn : nM e = 1 + cnt nB e.Train.Rows + 1:=rfl
   generalize hM : ycA fM Mover.yI nM k xs i = M at *
   have hlt2 : i < M.length:=by omega
   have g1 : M[i] = e.yI:=(List.getElem?_eq_some_iff.1 hg).2
   have hself : ∀ a,(M.set i a)[i]? = some a:=fun a=>List.getElem?_set_self hlt2
   simp only [Mover.yI] at hg g1
   simp -dsimp -implicitDefEqProofs [yG hlt,hg,hl,hlt2,g1,hself,setAt]
   intro hlen
   have hk : 0 ≤ k + yaK nM xs i:=by omega
   have c1 : C.ot 1 (e.Train.Rows.map yT) = C.ot 1 (e.Train.Rows.map yT):=rfl
   refine ⟨by have:=Int.tmod_nonneg 3 hk; have:=Int.tmod_lt_of_pos (k + yaK nM xs i) (b:=3) (by omega); unfold inI; omega,hlt,by unfold inI; omega,hlt,?_⟩
   refine yb3 (k0:=3) (ver:=1) (j:=1) (i:=(i : Int)) (r:=[.b (decide ((k + yaK nM xs i).tmod 3 = 0)),.ot 1 (e.Train.Rows.map yT),.i e.Place]) (c:=.ot 1 (e.Train.Rows.map yT)) (c':=.ot 1 (yaA fB nB (k + yaK nM xs i + 1) e.Train.Rows)) (yfJ e.Train.Rows (k + yaK nM xs i + 1) (by omega) (by omega)) (by simp) rfl rfl rfl (by simpa using hself _) rfl ⟨_,by rw [yH]; simp,rfl,rfl,rfl⟩ (by simp [C.sz]) ?_
   simp -dsimp -implicitDefEqProofs [setAt,hself,hlt2,hl]
   refine ⟨hlt,by unfold inI; omega,yw hlt hlen,i + 1,hlt,by omega,?_⟩
   simp only [fM] at hs
   apply yj <;> simp [Obj.leO,hs] <;> omega
  ·have : i = xs.length:=by omega
   subst this
   simp -dsimp -implicitDefEqProofs
   intro _
   rw [yd9 (Nat.le_refl _),ybl (Nat.le_refl _),List.take_of_length_le (by rw [yH]; exact Nat.le_refl _)]
   exact ⟨rfl,rfl⟩
def ydq (e : Tariff) (l : Int) : Int:=ybm (yhJ e.PerClass l) fun l=>ybm (yhJ e.Weights l) fun l=>l
theorem ylo : yey ydq Tariff.small:=by
 intro e l h0 h1
 unfold ydq
 rcases yeY e.PerClass _ h0 h1 with e0 | ⟨a0,b0,s0⟩
 ·exact .inl (yK (by omega))
 rw [yu a0]
 rcases yeY e.Weights _ a0 (by omega) with e1 | ⟨a1,b1,s1⟩
 ·exact .inl (yK (by omega))
 rw [yu a1]
 exact .inr ⟨a1,by omega,s0.1,s1.1⟩
theorem yuv (e : Tariff) (l : Int) (h0 : 0 ≤ l) (h1 : l ≤ 1048576) : yB Tryz.prog 23 [.agg (e.enc.map .c),.c (.i l)] (.c (.i (ydq e l))):=by
 refine yh yng ?_
 simp -dsimp -implicitDefEqProofs
 refine yc (yjw e.PerClass _ h0 h1) ?_
 simp -dsimp -implicitDefEqProofs
 refine ⟨fun h=>by simp [ydq,yK h],fun p0=>?_⟩
 have q0:=yin yeY e.PerClass h0 h1 p0
 refine yc (yjw e.Weights _ p0 q0) ?_
 simp -dsimp -implicitDefEqProofs
 refine ⟨fun h=>by simp [ydq,yu p0,yK h],fun p1=>?_⟩
 simp [ydq,yu p0,yu p1]
theorem ymz {α β : Type} {f : α → β} {l : List α} : (l.map f).take l.length = l.map f:=List.take_of_length_le (by simp)
def yaY (t : Train) : List Int:=if yP t then t.yas.map yfy else []
def yfv (t : Train) (k : Nat) : List Int:=(t.yas.take k).map yfy
theorem ygs {t : Train} : yfv t 0 = []:=rfl
theorem ymO {t : Train} {k : Nat} {b : Boat} (h : t.yas[k]? = some b) : yfv t (k + 1) = yfv t k ++ [b.Id]:=by
 unfold yfv; rw [List.take_succ,h,List.map_append]; rfl
theorem yo4 {t : Train} {k : Nat} (h : t.yas.length ≤ k) : yfv t k = t.yas.map yfy:=by
 unfold yfv; rw [List.take_of_length_le h]
theorem yp8 {t : Train} {k : Nat} (h : k ≤ t.yas.length) : (yfv t k).length = k:=by
 unfold yfv; simp; omega
theorem yuz (t : Train) (h : t.small) : yB Tryz.prog 41 [.agg (t.enc.map .c)] (.c (.sl 1 ((yaY t).map yJ))):=by
 refine yh ysm ?_
 simp -dsimp -implicitDefEqProofs
 refine yc (ydp t h) ?_
 cases h1 : yP t with
 | false=>simp -dsimp -implicitDefEqProofs; simp [yaY,h1]
 | true =>
  have tf:=yhY h1
  have h6:=tf.len
  simp -dsimp -implicitDefEqProofs
  refine yS (yya t h) ?_
  simp -dsimp -implicitDefEqProofs
  intro hlen
  refine ymd (k0:=1) 3 1 (by simp) (by simp) (by decide) ?_
  refine yg (ι:=Nat) (fun k=>k ≤ t.yas.length) (fun k=>yO [(3,.own 3 1 (yfv t k).length),(10,.c (.sl 6 (t.yas.map Boat.enc))),(11,.c (.i t.yas.length)),(12,.c (.i k))] [(3,.row 1 ((yfv t k).map yJ))]) (fun k=>t.yas.length - k) 0 (by simp) (by apply yj <;> simp [ygs]) ?_
  rintro k hk
  have hkl:=yp8 hk
  rcases Nat.lt_or_ge k t.yas.length with hlt | hge
  ·obtain ⟨b,hb⟩ : ∃ b,t.yas[k]? = some b:=⟨_,List.getElem?_eq_getElem hlt⟩
   simp -dsimp -implicitDefEqProofs [hb,yG hlt]
   refine ⟨by omega,yw hlt hlen,k + 1,hlt,by omega,?_⟩
   apply yj <;> simp [ymO hb]
  ·simp -dsimp -implicitDefEqProofs [yaB hge]
   rw [ymz,yo4 hge]
   simp [yaY,h1]
theorem yvW (t : Train) (h : t.small) : yB Tryz.prog 28 [.agg (t.enc.map .c)] (.c (.sl 1 ((yaY t).map yJ))):=by
 refine yh ysG ?_
 simp -dsimp -implicitDefEqProofs
 refine yS (yoX t h) ?_
 simp -dsimp -implicitDefEqProofs
 refine yg (ι:=Nat) (fun k=>k ≤ t.yas.length ∧ (k ≠ 0 → yP t = true)) (fun k=>yO [(1,.box 1 0),(3,.own 6 1 (yfv t k).length),(4,.c (.sl 6 (t.yas.map Boat.enc))),(5,.c (.i k))] [(1,.box (t.enc.map .c)),(6,.row 1 ((yfv t k).map yJ))]) (fun k=>t.yas.length - k) 0 (by simp) (by apply yj <;> simp [ygs]) ?_
 rintro k ⟨hk,hok⟩
 have hkl:=yp8 hk
 have fin : yP t = false → k = 0:=fun h1=>by
  rcases Nat.eq_zero_or_pos k with e | e
  ·exact e
  ·rw [hok (by omega)] at h1; cases h1
 rcases Nat.lt_or_ge k t.yas.length with hlt | hge
 ·obtain ⟨b,hb⟩ : ∃ b,t.yas[k]? = some b:=⟨_,List.getElem?_eq_getElem hlt⟩
  simp -dsimp -implicitDefEqProofs [hb,yG hlt]
  intro hlen
  refine yc (yds t h) ?_
  cases h1 : yP t with
  | false =>
   have:=fin h1
   subst this
   simp -dsimp -implicitDefEqProofs
   simp [yaY,h1,ygs]
  | true =>
   have h6:=(yhY h1).len
   simp -dsimp -implicitDefEqProofs [hb,yG hlt]
   refine ⟨by omega,yw hlt hlen,k + 1,by first | exact ⟨hlt,fun _=>h1⟩ | exact hlt,by omega,?_⟩
   apply yj <;> simp [ymO hb]
 ·simp -dsimp -implicitDefEqProofs [yaB hge]
  intro _
  rw [ymz]
  by_cases h1 : yP t = true
  ·rw [yo4 hge]; simp [yaY,h1]
  ·have:=fin (by simpa using h1)
   subst this
   simp [yaY,h1,ygs]
theorem ytb {t : Train} (h : yP t = true) : (yaY t).length ≤ 6:=by
 have:=(yhY h).len
 simp [yaY,h]; omega
theorem yEL {t : Train} (h : yP t = true) : (yaY t).Nodup:=by
 have:=(yhY h).nd
 simp only [yaY,h,if_true]; exact this
def ydk : List Train → Int → Int:=yeE yb2
def ybV : List Train → Prop:=ycs Train.small
theorem yhu : yey ydk ybV:=ygj ye7
theorem ym0 (xs : List Train) (l : Int) (h0 : 0 ≤ l) (h1 : l ≤ 1048576) : yB Tryz.prog 21 [.c (.sl 2 (xs.map Train.enc)),.c (.i l)] (.c (.i (ydk xs l))):=by
 refine yh ynN ?_
 simp -dsimp -implicitDefEqProofs
 intro hl
 have hs : szS xs.length l = if l - xs.length < 0 then -1 else l - xs.length:=rfl
 refine ⟨by unfold maxLen at hl; unfold inI; omega,fun h=>?_,fun h=>?_⟩
 ·simp [ydk,yeE,ybm,hs,h]
 have h' : 0 ≤ l - xs.length:=by omega
 have e0 : ydk xs l = yaw yb2 xs (l - xs.length):=by
  have : szS xs.length l = l - xs.length:=by rw [hs,if_neg (by omega)]
  simp only [ydk,yeE]
  rw [this,yu h']
 refine yg (ι:=Nat × Int) (fun p=>p.1 ≤ xs.length ∧ 0 ≤ p.2 ∧ p.2 ≤ 1048576 ∧ yaw yb2 (xs.drop p.1) p.2 = ydk xs l) (fun p=>yO [(0,.c (.sl 2 (xs.map Train.enc))),(1,.c (.i p.2)),(5,.c (.i p.1))] []) (fun p=>xs.length - p.1) (0,l - xs.length) ⟨by simp,h',by simp only; omega,by simp [e0]⟩ (by apply yj <;> simp) ?_
 rintro ⟨k,q⟩ ⟨hk,hq0,hq1,hf⟩
 simp only at hk hq0 hq1 hf
 rcases Nat.lt_or_ge k xs.length with hlt | hge
 ·obtain ⟨e,he⟩ : ∃ e,xs[k]? = some e:=⟨_,List.getElem?_eq_getElem hlt⟩
  have hd : xs.drop k = e :: xs.drop (k + 1):=by
   rw [List.drop_eq_getElem_cons hlt,(List.getElem?_eq_some_iff.1 he).2]
  rw [hd,yaw] at hf
  simp -dsimp -implicitDefEqProofs [he,yG hlt]
  refine fun _=>yaQ (yhF e q hq0 hq1) (by simp) rfl ?_
  simp -dsimp -implicitDefEqProofs
  refine ⟨fun h=>by rw [← hf,yK h],fun h=>⟨yw hlt hl,k + 1,⟨yb2 e q,?_⟩⟩⟩
  rw [yu h] at hf
  have hle : yb2 e q ≤ 1048576:=by
   rcases ye7 e q hq0 hq1 with e1 | e1
   ·omega
   ·omega
  exact ⟨⟨hlt,h,hle,hf⟩,by omega,by apply yj <;> simp⟩
 ·simp -dsimp -implicitDefEqProofs [yaB hge]
  rw [List.drop_of_length_le hge] at hf
  intro _
  first | simpa [yaw] using hf | simpa [yaw] using hf.symm
theorem ypD (xs : List Train) (hl : ybV xs) : yB Tryz.prog 34 [.c (.sl 2 (xs.map Train.enc))] (.c (.sl 2 (xs.map Train.enc))):=by
 refine yh yij ?_
 simp -dsimp -implicitDefEqProofs
 intro hlen
 have hl1:=hl.1
 refine ⟨by omega,?_⟩
 refine yg (ι:=Nat) (fun k=>k ≤ xs.length) (fun k=>yO [(0,.c (.sl 2 (xs.map Train.enc))),(3,.own 7 2 xs.length),(4,.c (.i k))] [(7,.row 2 (partly Train.enc [.b false,.sl 1 []] xs k))]) (fun k=>xs.length - k) 0 (by simp) (by apply yj <;> simp [yab]) ?_
 rintro k hk
 rcases Nat.lt_or_ge k xs.length with hlt | hge
 ·obtain ⟨e,he⟩ : ∃ e,xs[k]? = some e:=⟨_,List.getElem?_eq_getElem hlt⟩
  have hs:=yaj (f:=Train.enc) (z:=[.b false,.sl 1 []]) he
  have hd:=yav (f:=Train.enc) (z:=[.b false,.sl 1 []]) (n:=2) rfl hlt
  simp only [Train.enc] at hs
  simp -dsimp -implicitDefEqProofs [he,yG hlt]
  refine fun _=>yaP (yjt e (hl.2 e (List.mem_of_getElem? he))) (by simp) rfl ?_
  simp -dsimp -implicitDefEqProofs [yG hlt,yak hk,hd,hs]
  exact ⟨hlt,yw hlt hlen,k + 1,hlt,by omega,by apply yj <;> simp⟩
 ·simp -dsimp -implicitDefEqProofs [yaB hge]
  intro _
  rw [yam hge,List.take_of_length_le (by simp)]
theorem ypz (es fs : List Train) : yB Tryz.prog 48 [.c (.sl 2 (es.map Train.enc)),.c (.sl 2 (fs.map Train.enc))] (.c (.b (decide (es = fs)))):=by
 refine yh ynC ?_
 simp -dsimp -implicitDefEqProofs
 intro hl1 hl2
 refine ⟨fun h e=>h (by rw [e]),fun hlen=>?_⟩
 have hlen' : es.length = fs.length:=by omega
 refine yg (ι:=Nat) (fun k=>k ≤ es.length ∧ es.take k = fs.take k) (fun k=>yO [(0,.c (.sl 2 (es.map Train.enc))),(1,.c (.sl 2 (fs.map Train.enc))),(5,.c (.i k))] []) (fun k=>es.length - k) 0 (by simp) (by apply yj <;> simp) ?_
 rintro k ⟨hk,htk⟩
 rcases Nat.lt_or_ge k es.length with hlt | hge
 ·obtain ⟨e,he⟩ : ∃ e,es[k]? = some e:=⟨_,List.getElem?_eq_getElem hlt⟩
  obtain ⟨f,hf⟩ : ∃ f,fs[k]? = some f:=⟨_,List.getElem?_eq_getElem (by omega)⟩
  simp -dsimp -implicitDefEqProofs [he,hf,yG hlt,yG (hlen' ▸ hlt)]
  intro _
  refine yaC (yjG e f) ?_
  simp -dsimp -implicitDefEqProofs
  refine ⟨fun h=>ybG he hf h,fun h=>⟨yw hlt hl1,k + 1,⟨hlt,yaR he hf htk h⟩,by omega,by apply yj <;> simp⟩⟩
 ·simp -dsimp -implicitDefEqProofs [yaB hge]
  intro _
  exact ybf hge hlen' htk
structure Lock where
 Length : Int
 Width : Int
 SillAbove : Int
 SillBelow : Int
 Base : Int
 Area : Int
 Rate : Int
 Water : Int
 Gate : Int
 Inside : List Train
 deriving DecidableEq,Inhabited
@[simp] def Lock.enc (e : Lock) : List C:=[.i e.Length,.i e.Width,.i e.SillAbove,.i e.SillBelow,.i e.Base,.i e.Area,.i e.Rate,.i e.Water,.i e.Gate,.sl 2 (e.Inside.map Train.enc)]
-- Lock
def ygm (e : Lock) (l : Int) : Int:=ybm (ydk e.Inside l) fun l=>l
def Lock.small (e : Lock) : Prop:=ybV e.Inside
theorem yoa : yey ygm Lock.small:=by
 intro e l h0 h1
 unfold ygm
 rcases yhu e.Inside _ h0 h1 with e0 | ⟨a0,b0,s0⟩
 ·exact .inl (yK (by omega))
 rw [yu a0]
 exact .inr ⟨a0,by omega,s0⟩
theorem yxv (e : Lock) (l : Int) (h0 : 0 ≤ l) (h1 : l ≤ 1048576) : yB Tryz.prog 167 [.agg (e.enc.map .c),.c (.i l)] (.c (.i (ygm e l))):=by
 refine yh yqV ?_
 simp -dsimp -implicitDefEqProofs
 refine yc (ym0 e.Inside _ h0 h1) ?_
 simp -dsimp -implicitDefEqProofs
 refine ⟨fun h=>by simp [ygm,yK h],fun p0=>?_⟩
 simp [ygm,yu p0]
theorem yAz (e : Lock) (hl : Lock.small e) : yB Tryz.prog 178 [.agg (e.enc.map .c)] (.agg (e.enc.map .c)):=by
 refine yh ykg ?_
 simp -dsimp -implicitDefEqProofs
 refine yS (ypD e.Inside hl) ?_
 simp -dsimp -implicitDefEqProofs
theorem yy8 (a b : Lock) : yB Tryz.prog 195 [.agg (a.enc.map .c),.agg (b.enc.map .c)] (.c (.b (decide (a = b)))):=by
 refine yh yq4 ?_
 obtain ⟨a0,a1,a2,a3,a4,a5,a6,a7,a8,a9⟩:=a
 obtain ⟨b0,b1,b2,b3,b4,b5,b6,b7,b8,b9⟩:=b
 simp -dsimp -implicitDefEqProofs [ykf,Lock.mk.injEq]
 refine ⟨fun h=>by simp_all,fun h0=>?_⟩
 refine ⟨fun h=>by simp_all,fun h1=>?_⟩
 refine ⟨fun h=>by simp_all,fun h2=>?_⟩
 refine ⟨fun h=>by simp_all,fun h3=>?_⟩
 refine ⟨fun h=>by simp_all,fun h4=>?_⟩
 refine ⟨fun h=>by simp_all,fun h5=>?_⟩
 refine ⟨fun h=>by simp_all,fun h6=>?_⟩
 refine ⟨fun h=>by simp_all,fun h7=>?_⟩
 refine ⟨fun h=>by simp_all,fun h8=>?_⟩
 refine yc (ypz a9 b9) ?_
 simp -dsimp -implicitDefEqProofs
 refine ⟨fun h=>by simp_all,fun h9=>?_⟩
 simp_all
structure Weir where
 Gates : Int
 Open : Int
 Step : Int
 Crest : Int
 Width : Int
 deriving DecidableEq,Inhabited
@[simp] def Weir.enc (e : Weir) : List C:=[.i e.Gates,.i e.Open,.i e.Step,.i e.Crest,.i e.Width]
-- Weir
theorem yuN (e : Weir) : yB Tryz.prog 179 [.agg (e.enc.map .c)] (.agg (e.enc.map .c)):=by
 refine yh yq2 ?_
 simp -dsimp -implicitDefEqProofs
theorem yAt (a b : Weir) : yB Tryz.prog 196 [.agg (a.enc.map .c),.agg (b.enc.map .c)] (.c (.b (decide (a = b)))):=by
 refine yh yqK ?_
 obtain ⟨a0,a1,a2,a3,a4⟩:=a
 obtain ⟨b0,b1,b2,b3,b4⟩:=b
 simp -dsimp -implicitDefEqProofs [ykd,Weir.mk.injEq]
 refine ⟨fun h=>by simp_all,fun h0=>?_⟩
 refine ⟨fun h=>by simp_all,fun h1=>?_⟩
 refine ⟨fun h=>by simp_all,fun h2=>?_⟩
 refine ⟨fun h=>by simp_all,fun h3=>?_⟩
 refine ⟨fun h=>by simp_all,fun h4=>?_⟩
 simp_all
structure Rule where
 Low : Int
 High : Int
 Flood : Int
 deriving DecidableEq,Inhabited
@[simp] def Rule.enc (e : Rule) : List C:=[.i e.Low,.i e.High,.i e.Flood]
-- Rule
theorem yvb (e : Rule) : yB Tryz.prog 180 [.agg (e.enc.map .c)] (.agg (e.enc.map .c)):=by
 refine yh yqZ ?_
 simp -dsimp -implicitDefEqProofs
theorem yy7 (a b : Rule) : yB Tryz.prog 197 [.agg (a.enc.map .c),.agg (b.enc.map .c)] (.c (.b (decide (a = b)))):=by
 refine yh yqs ?_
 obtain ⟨a0,a1,a2⟩:=a
 obtain ⟨b0,b1,b2⟩:=b
 simp -dsimp -implicitDefEqProofs [yjW,Rule.mk.injEq]
 refine ⟨fun h=>by simp_all,fun h0=>?_⟩
 refine ⟨fun h=>by simp_all,fun h1=>?_⟩
 refine ⟨fun h=>by simp_all,fun h2=>?_⟩
 simp_all
structure Pause where
 From : Int
 Until : Int
 deriving DecidableEq,Inhabited
@[simp] def Pause.enc (e : Pause) : List C:=[.i e.From,.i e.Until]
-- Pause
theorem yr1 (e : Pause) : yB Tryz.prog 261 [.agg (e.enc.map .c)] (.agg (e.enc.map .c)):=by
 refine yh yqk ?_
 simp -dsimp -implicitDefEqProofs
theorem yx9 (a b : Pause) : yB Tryz.prog 266 [.agg (a.enc.map .c),.agg (b.enc.map .c)] (.c (.b (decide (a = b)))):=by
 refine yh ypk ?_
 obtain ⟨a0,a1⟩:=a
 obtain ⟨b0,b1⟩:=b
 simp -dsimp -implicitDefEqProofs [yiD,Pause.mk.injEq]
 refine ⟨fun h=>by simp_all,fun h0=>?_⟩
 refine ⟨fun h=>by simp_all,fun h1=>?_⟩
 simp_all
-- []Pause
def yhi (xs : List Pause) (l : Int) : Int:=szS xs.length l
def yfI : List Pause → Prop:=ycs fun _=>True
theorem ykI : yey yhi yfI:=yhU
theorem yt6 (xs : List Pause) (l : Int) (h0 : 0 ≤ l) (h1 : l ≤ 1048576) : yB Tryz.prog 168 [.c (.sl 2 (xs.map Pause.enc)),.c (.i l)] (.c (.i (yhi xs l))):=by
 refine yh ynK ?_
 simp -dsimp -implicitDefEqProofs [yir,yhi,szS]
 intro hl
 unfold maxLen at hl
 refine ⟨by unfold inI; omega,fun h=>?_,fun h=>?_⟩ <;> intros <;> omega
theorem ywj (xs : List Pause) (hl : yfI xs) : yB Tryz.prog 181 [.c (.sl 2 (xs.map Pause.enc))] (.c (.sl 2 (xs.map Pause.enc))):=by
 refine yh yis ?_
 simp -dsimp -implicitDefEqProofs
 intro hlen
 have hl1:=hl.1
 refine ⟨by omega,?_⟩
 refine yg (ι:=Nat) (fun k=>k ≤ xs.length) (fun k=>yO [(0,.c (.sl 2 (xs.map Pause.enc))),(3,.own 7 2 xs.length),(4,.c (.i k))] [(7,.row 2 (partly Pause.enc [.i 0,.i 0] xs k))]) (fun k=>xs.length - k) 0 (by simp) (by apply yj <;> simp [yab]) ?_
 rintro k hk
 rcases Nat.lt_or_ge k xs.length with hlt | hge
 ·obtain ⟨e,he⟩ : ∃ e,xs[k]? = some e:=⟨_,List.getElem?_eq_getElem hlt⟩
  have hs:=yaj (f:=Pause.enc) (z:=[.i 0,.i 0]) he
  have hd:=yav (f:=Pause.enc) (z:=[.i 0,.i 0]) (n:=2) rfl hlt
  simp only [Pause.enc] at hs
  simp -dsimp -implicitDefEqProofs [he,yG hlt]
  refine fun _=>yaP (yr1 e ) (by simp) rfl ?_
  simp -dsimp -implicitDefEqProofs [yG hlt,yak hk,hd,hs]
  exact ⟨hlt,yw hlt hlen,k + 1,hlt,by omega,by apply yj <;> simp⟩
 ·simp -dsimp -implicitDefEqProofs [yaB hge]
  intro _
  rw [yam hge,List.take_of_length_le (by simp)]
theorem yvs (es fs : List Pause) : yB Tryz.prog 198 [.c (.sl 2 (es.map Pause.enc)),.c (.sl 2 (fs.map Pause.enc))] (.c (.b (decide (es = fs)))):=by
 refine yh ynE ?_
 simp -dsimp -implicitDefEqProofs
 intro hl1 hl2
 refine ⟨fun h e=>h (by rw [e]),fun hlen=>?_⟩
 have hlen' : es.length = fs.length:=by omega
 refine yg (ι:=Nat) (fun k=>k ≤ es.length ∧ es.take k = fs.take k) (fun k=>yO [(0,.c (.sl 2 (es.map Pause.enc))),(1,.c (.sl 2 (fs.map Pause.enc))),(5,.c (.i k))] []) (fun k=>es.length - k) 0 (by simp) (by apply yj <;> simp) ?_
 rintro k ⟨hk,htk⟩
 rcases Nat.lt_or_ge k es.length with hlt | hge
 ·obtain ⟨e,he⟩ : ∃ e,es[k]? = some e:=⟨_,List.getElem?_eq_getElem hlt⟩
  obtain ⟨f,hf⟩ : ∃ f,fs[k]? = some f:=⟨_,List.getElem?_eq_getElem (by omega)⟩
  simp -dsimp -implicitDefEqProofs [he,hf,yG hlt,yG (hlen' ▸ hlt)]
  intro _
  refine yaC (yx9 e f) ?_
  simp -dsimp -implicitDefEqProofs
  refine ⟨fun h=>ybG he hf h,fun h=>⟨yw hlt hl1,k + 1,⟨hlt,yaR he hf htk h⟩,by omega,by apply yj <;> simp⟩⟩
 ·simp -dsimp -implicitDefEqProofs [yaB hge]
  intro _
  exact ybf hge hlen' htk
structure Turn where
 Up : Bool
 Count : Int
 deriving DecidableEq,Inhabited
@[simp] def Turn.enc (e : Turn) : List C:=[.b e.Up,.i e.Count]
-- Turn
theorem ytT (e : Turn) : yB Tryz.prog 182 [.agg (e.enc.map .c)] (.agg (e.enc.map .c)):=by
 refine yh yqv ?_
 simp -dsimp -implicitDefEqProofs
theorem yzT (a b : Turn) : yB Tryz.prog 199 [.agg (a.enc.map .c),.agg (b.enc.map .c)] (.c (.b (decide (a = b)))):=by
 refine yh yqu ?_
 obtain ⟨a0,a1⟩:=a
 obtain ⟨b0,b1⟩:=b
 simp -dsimp -implicitDefEqProofs [yj6,Turn.mk.injEq]
 refine ⟨fun h=>by simp_all,fun h0=>?_⟩
 refine ⟨fun h=>by simp_all,fun h1=>?_⟩
 simp_all
structure CallT where
 Train : Train
 Since : Int
 Booked : Int
 deriving DecidableEq,Inhabited
@[simp] def CallT.enc (e : CallT) : List C:=[.b e.Train.Up,.sl 1 (e.Train.Rows.map yai),.i e.Since,.i e.Booked]
-- Call
def ydJ (e : CallT) (l : Int) : Int:=ybm (yb2 e.Train l) fun l=>l
def CallT.small (e : CallT) : Prop:=e.Train.small
theorem yn9 : yey ydJ CallT.small:=by
 intro e l h0 h1
 unfold ydJ
 rcases ye7 e.Train _ h0 h1 with e0 | ⟨a0,b0,s0⟩
 ·exact .inl (yK (by omega))
 rw [yu a0]
 exact .inr ⟨a0,by omega,s0⟩
theorem yyC (e : CallT) (l : Int) (h0 : 0 ≤ l) (h1 : l ≤ 1048576) : yB Tryz.prog 258 [.agg (e.enc.map .c),.c (.i l)] (.c (.i (ydJ e l))):=by
 refine yh yrq ?_
 simp -dsimp -implicitDefEqProofs
 refine yc (yhF e.Train _ h0 h1) ?_
 simp -dsimp -implicitDefEqProofs
 refine ⟨fun h=>by simp [ydJ,yK h],fun p0=>?_⟩
 simp [ydJ,yu p0]
theorem yzv (e : CallT) (hl : CallT.small e) : yB Tryz.prog 262 [.agg (e.enc.map .c)] (.agg (e.enc.map .c)):=by
 refine yh yjU ?_
 simp -dsimp -implicitDefEqProofs
 refine yS (yjt e.Train hl) ?_
 simp -dsimp -implicitDefEqProofs
theorem yzt (a b : CallT) : yB Tryz.prog 267 [.agg (a.enc.map .c),.agg (b.enc.map .c)] (.c (.b (decide (a = b)))):=by
 refine yh yri ?_
 obtain ⟨a0,a1,a2⟩:=a
 obtain ⟨b0,b1,b2⟩:=b
 simp -dsimp -implicitDefEqProofs [ykh,CallT.mk.injEq]
 refine yc (yjG a0 b0) ?_
 simp -dsimp -implicitDefEqProofs
 refine ⟨fun h=>by simp_all,fun h0=>?_⟩
 refine ⟨fun h=>by simp_all,fun h1=>?_⟩
 refine ⟨fun h=>by simp_all,fun h2=>?_⟩
 simp_all
-- []Call
def yfd : List CallT → Int → Int:=yeE ydJ
def yfi : List CallT → Prop:=ycs CallT.small
theorem yu4 : yey yfd yfi:=ygj yn9
theorem yvO (xs : List CallT) (l : Int) (h0 : 0 ≤ l) (h1 : l ≤ 1048576) : yB Tryz.prog 169 [.c (.sl 4 (xs.map CallT.enc)),.c (.i l)] (.c (.i (yfd xs l))):=by
 refine yh ypT ?_
 simp -dsimp -implicitDefEqProofs
 intro hl
 have hs : szS xs.length l = if l - xs.length < 0 then -1 else l - xs.length:=rfl
 refine ⟨by unfold maxLen at hl; unfold inI; omega,fun h=>?_,fun h=>?_⟩
 ·simp [yfd,yeE,ybm,hs,h]
 have h' : 0 ≤ l - xs.length:=by omega
 have e0 : yfd xs l = yaw ydJ xs (l - xs.length):=by
  have : szS xs.length l = l - xs.length:=by rw [hs,if_neg (by omega)]
  simp only [yfd,yeE]
  rw [this,yu h']
 refine yg (ι:=Nat × Int) (fun p=>p.1 ≤ xs.length ∧ 0 ≤ p.2 ∧ p.2 ≤ 1048576 ∧ yaw ydJ (xs.drop p.1) p.2 = yfd xs l) (fun p=>yO [(0,.c (.sl 4 (xs.map CallT.enc))),(1,.c (.i p.2)),(5,.c (.i p.1))] []) (fun p=>xs.length - p.1) (0,l - xs.length) ⟨by simp,h',by simp only; omega,by simp [e0]⟩ (by apply yj <;> simp) ?_
 rintro ⟨k,q⟩ ⟨hk,hq0,hq1,hf⟩
 simp only at hk hq0 hq1 hf
 rcases Nat.lt_or_ge k xs.length with hlt | hge
 ·obtain ⟨e,he⟩ : ∃ e,xs[k]? = some e:=⟨_,List.getElem?_eq_getElem hlt⟩
  have hd : xs.drop k = e :: xs.drop (k + 1):=by
   rw [List.drop_eq_getElem_cons hlt,(List.getElem?_eq_some_iff.1 he).2]
  rw [hd,yaw] at hf
  simp -dsimp -implicitDefEqProofs [he,yG hlt]
  refine fun _=>yaQ (yyC e q hq0 hq1) (by simp) rfl ?_
  simp -dsimp -implicitDefEqProofs
  refine ⟨fun h=>by rw [← hf,yK h],fun h=>⟨yw hlt hl,k + 1,⟨ydJ e q,?_⟩⟩⟩
  rw [yu h] at hf
  have hle : ydJ e q ≤ 1048576:=by
   rcases yn9 e q hq0 hq1 with e1 | e1
   ·omega
   ·omega
  exact ⟨⟨hlt,h,hle,hf⟩,by omega,by apply yj <;> simp⟩
 ·simp -dsimp -implicitDefEqProofs [yaB hge]
  rw [List.drop_of_length_le hge] at hf
  intro _
  first | simpa [yaw] using hf | simpa [yaw] using hf.symm
theorem yxE (xs : List CallT) (hl : yfi xs) : yB Tryz.prog 183 [.c (.sl 4 (xs.map CallT.enc))] (.c (.sl 4 (xs.map CallT.enc))):=by
 refine yh yiL ?_
 simp -dsimp -implicitDefEqProofs
 intro hlen
 have hl1:=hl.1
 refine ⟨by omega,?_⟩
 refine yg (ι:=Nat) (fun k=>k ≤ xs.length) (fun k=>yO [(0,.c (.sl 4 (xs.map CallT.enc))),(3,.own 7 4 xs.length),(4,.c (.i k))] [(7,.row 4 (partly CallT.enc [.b false,.sl 1 [],.i 0,.i 0] xs k))]) (fun k=>xs.length - k) 0 (by simp) (by apply yj <;> simp [yab]) ?_
 rintro k hk
 rcases Nat.lt_or_ge k xs.length with hlt | hge
 ·obtain ⟨e,he⟩ : ∃ e,xs[k]? = some e:=⟨_,List.getElem?_eq_getElem hlt⟩
  have hs:=yaj (f:=CallT.enc) (z:=[.b false,.sl 1 [],.i 0,.i 0]) he
  have hd:=yav (f:=CallT.enc) (z:=[.b false,.sl 1 [],.i 0,.i 0]) (n:=4) rfl hlt
  simp only [CallT.enc,Train.enc] at hs
  simp -dsimp -implicitDefEqProofs [he,yG hlt]
  refine fun _=>yaP (yzv e (hl.2 e (List.mem_of_getElem? he))) (by simp) rfl ?_
  simp -dsimp -implicitDefEqProofs [yG hlt,yak hk,hd,hs]
  exact ⟨hlt,yw hlt hlen,k + 1,hlt,by omega,by apply yj <;> simp⟩
 ·simp -dsimp -implicitDefEqProofs [yaB hge]
  intro _
  rw [yam hge,List.take_of_length_le (by simp)]
theorem yxI (es fs : List CallT) : yB Tryz.prog 200 [.c (.sl 4 (es.map CallT.enc)),.c (.sl 4 (fs.map CallT.enc))] (.c (.b (decide (es = fs)))):=by
 refine yh yoS ?_
 simp -dsimp -implicitDefEqProofs
 intro hl1 hl2
 refine ⟨fun h e=>h (by rw [e]),fun hlen=>?_⟩
 have hlen' : es.length = fs.length:=by omega
 refine yg (ι:=Nat) (fun k=>k ≤ es.length ∧ es.take k = fs.take k) (fun k=>yO [(0,.c (.sl 4 (es.map CallT.enc))),(1,.c (.sl 4 (fs.map CallT.enc))),(5,.c (.i k))] []) (fun k=>es.length - k) 0 (by simp) (by apply yj <;> simp) ?_
 rintro k ⟨hk,htk⟩
 rcases Nat.lt_or_ge k es.length with hlt | hge
 ·obtain ⟨e,he⟩ : ∃ e,es[k]? = some e:=⟨_,List.getElem?_eq_getElem hlt⟩
  obtain ⟨f,hf⟩ : ∃ f,fs[k]? = some f:=⟨_,List.getElem?_eq_getElem (by omega)⟩
  simp -dsimp -implicitDefEqProofs [he,hf,yG hlt,yG (hlen' ▸ hlt)]
  intro _
  refine yaC (yzt e f) ?_
  simp -dsimp -implicitDefEqProofs
  refine ⟨fun h=>ybG he hf h,fun h=>⟨yw hlt hl1,k + 1,⟨hlt,yaR he hf htk h⟩,by omega,by apply yj <;> simp⟩⟩
 ·simp -dsimp -implicitDefEqProofs [yaB hge]
  intro _
  exact ybf hge hlen' htk
structure Work where
 Lock : Lock
 Weir : Weir
 Rule : Rule
 Pauses : List Pause
 Turn : Turn
 Calls : List CallT
 deriving DecidableEq,Inhabited
@[simp] def Work.enc (e : Work) : List C:=[.i e.Lock.Length,.i e.Lock.Width,.i e.Lock.SillAbove,.i e.Lock.SillBelow,.i e.Lock.Base,.i e.Lock.Area,.i e.Lock.Rate,.i e.Lock.Water,.i e.Lock.Gate,.sl 2 (e.Lock.Inside.map Train.enc),.i e.Weir.Gates,.i e.Weir.Open,.i e.Weir.Step,.i e.Weir.Crest,.i e.Weir.Width,.i e.Rule.Low,.i e.Rule.High,.i e.Rule.Flood,.sl 2 (e.Pauses.map Pause.enc),.b e.Turn.Up,.i e.Turn.Count,.sl 4 (e.Calls.map CallT.enc)]
-- Work
def ycY (e : Work) (l : Int) : Int:=ybm (ygm e.Lock l) fun l=>ybm (yhi e.Pauses l) fun l=>ybm (yfd e.Calls l) fun l=>l
def Work.small (e : Work) : Prop:=e.Lock.small ∧ yfI e.Pauses ∧ yfi e.Calls
theorem yn3 : yey ycY Work.small:=by
 intro e l h0 h1
 unfold ycY
 rcases yoa e.Lock _ h0 h1 with e0 | ⟨a0,b0,s0⟩
 ·exact .inl (yK (by omega))
 rw [yu a0]
 rcases ykI e.Pauses _ a0 (by omega) with e1 | ⟨a1,b1,s1⟩
 ·exact .inl (yK (by omega))
 rw [yu a1]
 rcases yu4 e.Calls _ a1 (by omega) with e2 | ⟨a2,b2,s2⟩
 ·exact .inl (yK (by omega))
 rw [yu a2]
 exact .inr ⟨a2,by omega,s0,s1,s2⟩
theorem yym (e : Work) (l : Int) (h0 : 0 ≤ l) (h1 : l ≤ 1048576) : yB Tryz.prog 83 [.agg (e.enc.map .c),.c (.i l)] (.c (.i (ycY e l))):=by
 refine yh yqH ?_
 simp -dsimp -implicitDefEqProofs
 refine yc (yxv e.Lock _ h0 h1) ?_
 simp -dsimp -implicitDefEqProofs
 refine ⟨fun h=>by simp [ycY,yK h],fun p0=>?_⟩
 have q0:=yin yoa e.Lock h0 h1 p0
 refine yc (yt6 e.Pauses _ p0 q0) ?_
 simp -dsimp -implicitDefEqProofs
 refine ⟨fun h=>by simp [ycY,yu p0,yK h],fun p1=>?_⟩
 have q1:=yin ykI e.Pauses p0 q0 p1
 refine yc (yvO e.Calls _ p1 q1) ?_
 simp -dsimp -implicitDefEqProofs
 refine ⟨fun h=>by simp [ycY,yu p0,yu p1,yK h],fun p2=>?_⟩
 simp [ycY,yu p0,yu p1,yu p2]
theorem yzs (e : Work) (hl : Work.small e) : yB Tryz.prog 95 [.agg (e.enc.map .c)] (.agg (e.enc.map .c)):=by
 refine yh yka ?_
 simp -dsimp -implicitDefEqProofs
 refine yS (yAz e.Lock (hl.1)) ?_
 simp -dsimp -implicitDefEqProofs
 refine yS (yuN e.Weir) ?_
 simp -dsimp -implicitDefEqProofs
 refine yS (yvb e.Rule) ?_
 simp -dsimp -implicitDefEqProofs
 refine yS (ywj e.Pauses (hl.2.1)) ?_
 simp -dsimp -implicitDefEqProofs
 refine yS (ytT e.Turn) ?_
 simp -dsimp -implicitDefEqProofs
 refine yS (yxE e.Calls (hl.2.2)) ?_
 simp -dsimp -implicitDefEqProofs
theorem yy2 (a b : Work) : yB Tryz.prog 112 [.agg (a.enc.map .c),.agg (b.enc.map .c)] (.c (.b (decide (a = b)))):=by
 refine yh yqq ?_
 obtain ⟨a0,a1,a2,a3,a4,a5⟩:=a
 obtain ⟨b0,b1,b2,b3,b4,b5⟩:=b
 simp -dsimp -implicitDefEqProofs [yj1,Work.mk.injEq]
 refine yc (yy8 a0 b0) ?_
 simp -dsimp -implicitDefEqProofs
 refine ⟨fun h=>by simp_all,fun h0=>?_⟩
 refine yc (yAt a1 b1) ?_
 simp -dsimp -implicitDefEqProofs
 refine ⟨fun h=>by simp_all,fun h1=>?_⟩
 refine yc (yy7 a2 b2) ?_
 simp -dsimp -implicitDefEqProofs
 refine ⟨fun h=>by simp_all,fun h2=>?_⟩
 refine yc (yvs a3 b3) ?_
 simp -dsimp -implicitDefEqProofs
 refine ⟨fun h=>by simp_all,fun h3=>?_⟩
 refine yc (yzT a4 b4) ?_
 simp -dsimp -implicitDefEqProofs
 refine ⟨fun h=>by simp_all,fun h4=>?_⟩
 refine yc (yxI a5 b5) ?_
 simp -dsimp -implicitDefEqProofs
 refine ⟨fun h=>by simp_all,fun h5=>?_⟩
 simp_all
def yaH (w : Weir) : Bool:=inRange w.Gates 1 8 && inRange w.Open 0 (10 * w.Gates) && inRange w.Step 1 80 && inRange w.Crest 0 100000 && inRange w.Width 1 1000
theorem ydW (w : Weir) : yB Tryz.prog 308 [.agg (w.enc.map .c)] (.c (.b (yaH w))):=by
 refine yh yqY ?_
 simp -dsimp -implicitDefEqProofs
 refine yc (yC w.Gates 1 8) ?_
 cases h0 : inRange w.Gates 1 8 with
 | false=>simp -dsimp -implicitDefEqProofs; simp [yaH,h0]
 | true =>
 simp -dsimp -implicitDefEqProofs
 refine ⟨by have:=yF.1 h0; unfold inI; omega,?_⟩
 refine yc (yC w.Open 0 (10 * w.Gates)) ?_
 cases h1 : inRange w.Open 0 (10 * w.Gates) with
 | false=>simp -dsimp -implicitDefEqProofs; simp [yaH,h0,h1]
 | true =>
 simp -dsimp -implicitDefEqProofs
 refine yc (yC w.Step 1 80) ?_
 cases h2 : inRange w.Step 1 80 with
 | false=>simp -dsimp -implicitDefEqProofs; simp [yaH,h0,h1,h2]
 | true =>
 simp -dsimp -implicitDefEqProofs
 refine yc (yC w.Crest 0 100000) ?_
 cases h3 : inRange w.Crest 0 100000 with
 | false=>simp -dsimp -implicitDefEqProofs; simp [yaH,h0,h1,h2,h3]
 | true =>
 simp -dsimp -implicitDefEqProofs
 refine yc (yC w.Width 1 1000) ?_
 cases h4 : inRange w.Width 1 1000 with
 | false=>simp -dsimp -implicitDefEqProofs; simp [yaH,h0,h1,h2,h3,h4]
 | true =>
  simp -dsimp -implicitDefEqProofs; simp [yaH,h0,h1,h2,h3,h4]
theorem yd2 (w : Weir) : yB Tryz.prog 271 [.agg (w.enc.map .c)] (.c (.b (yaH w))):=by
 refine yh yq7 ?_
 simp -dsimp -implicitDefEqProofs
 refine yc (yD w.Gates 1 8) ?_
 cases h0 : inRange w.Gates 1 8 with
 | false=>simp -dsimp -implicitDefEqProofs; simp [yaH,h0]
 | true =>
 simp -dsimp -implicitDefEqProofs
 refine ⟨by have:=yF.1 h0; unfold inI; omega,?_⟩
 refine yc (yD w.Open 0 (10 * w.Gates)) ?_
 cases h1 : inRange w.Open 0 (10 * w.Gates) with
 | false=>simp -dsimp -implicitDefEqProofs; simp [yaH,h0,h1]
 | true =>
 simp -dsimp -implicitDefEqProofs
 refine yc (yD w.Step 1 80) ?_
 cases h2 : inRange w.Step 1 80 with
 | false=>simp -dsimp -implicitDefEqProofs; simp [yaH,h0,h1,h2]
 | true =>
 simp -dsimp -implicitDefEqProofs
 refine yc (yD w.Crest 0 100000) ?_
 cases h3 : inRange w.Crest 0 100000 with
 | false=>simp -dsimp -implicitDefEqProofs; simp [yaH,h0,h1,h2,h3]
 | true =>
 simp -dsimp -implicitDefEqProofs
 refine yc (yD w.Width 1 1000) ?_
 cases h4 : inRange w.Width 1 1000 with
 | false=>simp -dsimp -implicitDefEqProofs; simp [yaH,h0,h1,h2,h3,h4]
 | true =>
  simp -dsimp -implicitDefEqProofs; simp [yaH,h0,h1,h2,h3,h4]
def yca (r : Rule) : Bool:=inRange r.Low 0 100000 && inRange r.High 0 100000 && inRange r.Flood 0 100000 && decide (r.Low < r.High) && decide (r.High ≤ r.Flood)
theorem yji (r : Rule) : yB Tryz.prog 309 [.agg (r.enc.map .c)] (.c (.b (yca r))):=by
 refine yh yqW ?_
 simp -dsimp -implicitDefEqProofs
 refine yc (yC r.Low 0 100000) ?_
 cases h0 : inRange r.Low 0 100000 with
 | false=>simp -dsimp -implicitDefEqProofs; simp [yca,h0]
 | true =>
 simp -dsimp -implicitDefEqProofs
 refine yc (yC r.High 0 100000) ?_
 cases h1 : inRange r.High 0 100000 with
 | false=>simp -dsimp -implicitDefEqProofs; simp [yca,h0,h1]
 | true =>
 simp -dsimp -implicitDefEqProofs
 refine yc (yC r.Flood 0 100000) ?_
 cases h2 : inRange r.Flood 0 100000 with
 | false=>simp -dsimp -implicitDefEqProofs; simp [yca,h0,h1,h2]
 | true =>
 simp -dsimp -implicitDefEqProofs
 simp [yca,h0,h1,h2]
 exact ⟨fun h _=>h,fun a b=>by omega⟩
theorem yiX (r : Rule) : yB Tryz.prog 272 [.agg (r.enc.map .c)] (.c (.b (yca r))):=by
 refine yh yq6 ?_
 simp -dsimp -implicitDefEqProofs
 refine yc (ybj r.Low) ?_
 cases h0 : inRange r.Low 0 100000 with
 | false=>simp -dsimp -implicitDefEqProofs; simp [yca,h0]
 | true =>
 simp -dsimp -implicitDefEqProofs
 refine yc (ybj r.High) ?_
 cases h1 : inRange r.High 0 100000 with
 | false=>simp -dsimp -implicitDefEqProofs; simp [yca,h0,h1]
 | true =>
 simp -dsimp -implicitDefEqProofs
 refine yc (ybj r.Flood) ?_
 cases h2 : inRange r.Flood 0 100000 with
 | false=>simp -dsimp -implicitDefEqProofs; simp [yca,h0,h1,h2]
 | true =>
 simp -dsimp -implicitDefEqProofs
 simp [yca,h0,h1,h2]
 exact ⟨fun h _=>h,fun a b=>by omega⟩
def ype (t : Turn) : Bool:=inRange t.Count 0 1000000
theorem ytY (t : Turn) : yB Tryz.prog 286 [.agg (t.enc.map .c)] (.c (.b (ype t))):=by
 refine yh yqP ?_
 simp -dsimp -implicitDefEqProofs
 refine yc (yC t.Count 0 1000000) ?_
 simp -dsimp -implicitDefEqProofs
 try rfl
theorem yuW (t : Turn) : yB Tryz.prog 225 [.agg (t.enc.map .c)] (.c (.b (ype t))):=by
 refine yh yrl ?_
 simp -dsimp -implicitDefEqProofs
 refine yc (yD t.Count 0 1000000) ?_
 simp -dsimp -implicitDefEqProofs
 try rfl
def yb9 (c : CallT) : Bool:=yP c.Train && inRange c.Since 0 1000000 && inRange c.Booked (-1) 1000000
theorem ytF (c : CallT) (h : c.small) : yB Tryz.prog 310 [.agg (c.enc.map .c)] (.c (.b (yb9 c))):=by
 refine yh yqU ?_
 simp -dsimp -implicitDefEqProofs
 refine yc (ydp c.Train h) ?_
 cases h0 : yP c.Train with
 | false=>simp -dsimp -implicitDefEqProofs; simp [yb9,h0]
 | true =>
 simp -dsimp -implicitDefEqProofs
 refine yc (yC c.Since 0 1000000) ?_
 cases h1 : inRange c.Since 0 1000000 with
 | false=>simp -dsimp -implicitDefEqProofs; simp [yb9,h0,h1]
 | true =>
 simp -dsimp -implicitDefEqProofs
 refine yc (yC c.Booked (-1) 1000000) ?_
 cases h2 : inRange c.Booked (-1) 1000000 with
 | false=>simp -dsimp -implicitDefEqProofs; simp [yb9,h0,h1,h2]
 | true =>
  simp -dsimp -implicitDefEqProofs; simp [yb9,h0,h1,h2]
theorem yt9 (c : CallT) (h : c.small) : yB Tryz.prog 270 [.agg (c.enc.map .c)] (.c (.b (yb9 c))):=by
 refine yh yqt ?_
 simp -dsimp -implicitDefEqProofs
 refine yc (yds c.Train h) ?_
 cases h0 : yP c.Train with
 | false=>simp -dsimp -implicitDefEqProofs; simp [yb9,h0]
 | true =>
 simp -dsimp -implicitDefEqProofs
 refine yc (yD c.Since 0 1000000) ?_
 cases h1 : inRange c.Since 0 1000000 with
 | false=>simp -dsimp -implicitDefEqProofs; simp [yb9,h0,h1]
 | true =>
 simp -dsimp -implicitDefEqProofs
 refine yc (yD c.Booked (-1) 1000000) ?_
 cases h2 : inRange c.Booked (-1) 1000000 with
 | false=>simp -dsimp -implicitDefEqProofs; simp [yb9,h0,h1,h2]
 | true =>
  simp -dsimp -implicitDefEqProofs; simp [yb9,h0,h1,h2]
def yc1 (b : Int) (p : Pause) : Bool:=!decide (p.From < b) && !decide (p.Until ≤ p.From) && !decide (1000000 < p.Until)
def yct : Int → List Pause → Bool
 | _,[]=>true
 | b,p :: l=>yc1 b p && yct p.Until l
def ycD (l : List Pause) : Bool:=decide (l.length ≤ 8) && yct 0 l
theorem ymZ {l : List Pause} {k : Nat} {p : Pause} {b : Int} (h : l[k]? = some p) : yct b (l.drop k) = (yc1 b p && yct p.Until (l.drop (k + 1))):=by
 have hlt:=(List.getElem?_eq_some_iff.1 h).1
 rw [List.drop_eq_getElem_cons hlt,(List.getElem?_eq_some_iff.1 h).2]; rfl
theorem yqL (l : List Pause) : yB Tryz.prog 297 [.c (.sl 2 (l.map Pause.enc))] (.c (.b (ycD l))):=by
 refine yh ynJ ?_
 simp -dsimp -implicitDefEqProofs
 intro hlen
 refine ⟨fun h8=>(by simp [ycD]; omega),fun h8=>?_⟩
 refine fun _=>yg (ι:=Nat × Int) (fun q=>q.1 ≤ l.length ∧ yct q.2 (l.drop q.1) = yct 0 l) (fun q=>yO [(3,.c (.i q.2)),(9,.c (.sl 2 (l.map Pause.enc))),(10,.c (.i l.length)),(11,.c (.i q.1))] []) (fun q=>l.length - q.1) (0,0) (by simp) (by apply yj <;> simp) ?_
 rintro ⟨k,b⟩ ⟨hk,hf⟩
 simp only at hk hf
 rcases Nat.lt_or_ge k l.length with hlt | hge
 ·obtain ⟨p,hp⟩ : ∃ p,l[k]? = some p:=⟨_,List.getElem?_eq_getElem hlt⟩
  rw [ymZ hp] at hf
  have bad : yc1 b p = false → ycD l = false:=fun e=>by rw [e,Bool.false_and] at hf; simp [ycD,← hf]
  simp -dsimp -implicitDefEqProofs [hp,yG hlt]
  refine ⟨fun h1=>?_,fun h1=>(bad (by simp [yc1]; omega))⟩
  refine ⟨fun h2=>?_,fun h2=>(bad (by simp [yc1]; omega))⟩
  refine ⟨fun h3=>(bad (by simp [yc1]; omega)),fun h3=>?_⟩
  have hok : yc1 b p = true:=by simp [yc1]; omega
  rw [hok,Bool.true_and] at hf
  exact ⟨yw hlt hlen,k + 1,p.Until,⟨hlt,hf⟩,by omega,by apply yj <;> simp⟩
 ·simp -dsimp -implicitDefEqProofs [yaB hge]
  rw [List.drop_of_length_le hge] at hf
  have h8' : l.length ≤ 8:=by omega
  simp [ycD,h8',← hf,yct]
theorem yrd (l : List Pause) : yB Tryz.prog 233 [.c (.sl 2 (l.map Pause.enc))] (.c (.b (ycD l))):=by
 refine yh yny ?_
 simp -dsimp -implicitDefEqProofs
 refine yg (ι:=Nat × Int) (fun q=>q.1 ≤ l.length ∧ yct q.2 (l.drop q.1) = yct 0 l) (fun q=>yO [(0,.c (.sl 2 (l.map Pause.enc))),(3,.c (.i q.2)),(4,.c (.i q.1))] []) (fun q=>l.length - q.1) (0,0) (by simp) (by apply yj <;> simp) ?_
 rintro ⟨k,b⟩ ⟨hk,hf⟩
 simp only at hk hf
 rcases Nat.lt_or_ge k l.length with hlt | hge
 ·obtain ⟨p,hp⟩ : ∃ p,l[k]? = some p:=⟨_,List.getElem?_eq_getElem hlt⟩
  rw [ymZ hp] at hf
  have bad : yc1 b p = false → ycD l = false:=fun e=>by rw [e,Bool.false_and] at hf; simp [ycD,← hf]
  simp -dsimp -implicitDefEqProofs [hp,yG hlt]
  intro hlen
  refine ⟨fun h1=>?_,fun h1=>(bad (by simp [yc1]; omega))⟩
  refine ⟨fun h2=>?_,fun h2=>(bad (by simp [yc1]; omega))⟩
  refine ⟨fun h3=>(bad (by simp [yc1]; omega)),fun h3=>?_⟩
  have hok : yc1 b p = true:=by simp [yc1]; omega
  rw [hok,Bool.true_and] at hf
  exact ⟨yw hlt hlen,k + 1,p.Until,⟨hlt,hf⟩,by omega,by apply yj <;> simp⟩
 ·simp -dsimp -implicitDefEqProofs [yaB hge]
  rw [List.drop_of_length_le hge] at hf
  simp [ycD,← hf,yct]
  try omega
def yaN (l : List Train) (k : Nat) : List Int:=(l.take k).flatMap yaY
def seenAt (l : List Train) (k : Nat) (t : Train) (j : Nat) : List Int:=yaN l k ++ (yaY t).take j
def Distinct (l : List Train) : Bool:=decide (l.length ≤ 8) && l.all yP && decide ((l.flatMap yaY).Nodup)
theorem yfN {l : List Train} : yaN l 0 = []:=rfl
theorem yfP {l : List Train} {k : Nat} {t : Train} (h : l[k]? = some t) : yaN l (k + 1) = yaN l k ++ yaY t:=by
 unfold yaN; rw [List.take_succ,h,List.flatMap_append]; simp
theorem ymM {l : List Train} {k : Nat} (h : l.length ≤ k) : yaN l k = l.flatMap yaY:=by
 unfold yaN; rw [List.take_of_length_le h]
theorem yrr {l : List Train} {k : Nat} {t : Train} (h : l[k]? = some t) : ∃ m,l.flatMap yaY = yaN l k ++ yaY t ++ m:=by
 refine ⟨(l.drop (k + 1)).flatMap yaY,?_⟩
 rw [← yfP h]
 unfold yaN
 rw [← List.flatMap_append,List.take_append_drop]
theorem ymU {l : List Train} {k : Nat} {t : Train} : seenAt l k t 0 = yaN l k:=by simp [seenAt]
theorem ym2 {l : List Train} {k j : Nat} {t : Train} {x : Int} (h : (yaY t)[j]? = some x) : seenAt l k t (j + 1) = seenAt l k t j ++ [x]:=by
 unfold seenAt; rw [List.take_succ,h]; simp
theorem ypH {l : List Train} {k j : Nat} {t : Train} (ht : l[k]? = some t) (h : (yaY t).length ≤ j) : seenAt l k t j = yaN l (k + 1):=by
 unfold seenAt; rw [List.take_of_length_le h,yfP ht]
theorem ymJ {l : List Train} (k : Nat) (h : ∀ t ∈ l.take k,yP t = true) : (yaN l k).length ≤ 6 * k:=by
 have key : ∀ (m : List Train),(∀ t ∈ m,yP t = true) → (m.flatMap yaY).length ≤ 6 * m.length:=by
  intro m
  induction m with
  | nil=>simp
  | cons t m ih =>
   intro hm
   have h1:=ytb (hm t (by simp))
   have h2:=ih fun x hx=>hm x (by simp [hx])
   simp only [List.flatMap_cons,List.length_append,List.length_cons]; omega
 have:=key (l.take k) h
 have h2 : (l.take k).length ≤ k:=by rw [List.length_take]; omega
 unfold yaN; omega
theorem twice {l : List Train} {k j : Nat} {t : Train} {x : Int} (ht : l[k]? = some t) (hx : (yaY t)[j]? = some x) (hm : x ∈ seenAt l k t j) : Distinct l = false:=by
 have : ¬ (l.flatMap yaY).Nodup:=by
  intro hn
  obtain ⟨m,e⟩:=yrr ht
  have hlt:=(List.getElem?_eq_some_iff.1 hx).1
  have e2 : yaY t = (yaY t).take j ++ x :: (yaY t).drop (j + 1):=by
   conv=>lhs; rw [← List.take_append_drop j (yaY t)]
   rw [List.drop_eq_getElem_cons hlt,(List.getElem?_eq_some_iff.1 hx).2]
  have e3 : l.flatMap yaY = seenAt l k t j ++ x :: ((yaY t).drop (j + 1) ++ m):=by
   rw [e]; unfold seenAt; conv=>lhs; rw [e2]
   simp
  rw [e3] at hn
  exact (List.nodup_append.1 hn).2.2 x hm x (by simp) rfl
 simp [Distinct,this]
theorem yrv {l : List Train} {k : Nat} {t : Train} (ht : l[k]? = some t) (h : yP t = false) : Distinct l = false:=by
 have : l.all yP = false:=all_false (p:=yP) ht h
 simp only [Distinct,this,Bool.and_false,Bool.false_and]
theorem ymr (l : List Train) (hs : ybV l) : yB Tryz.prog 311 [.c (.sl 2 (l.map Train.enc))] (.c (.b (Distinct l))):=by
 refine yh yiB ?_
 simp -dsimp -implicitDefEqProofs
 intro hlen
 refine ⟨fun h8=>(by simp [Distinct]; omega),fun h8=>?_⟩
 intro _
 refine ymd (k0:=1) 3 1 (by simp) (by simp) (by decide) ?_
 refine yg (ι:=Nat) (fun k=>k ≤ l.length ∧ (∀ t ∈ l.take k,yP t = true) ∧ (yaN l k).Nodup) (fun k=>yO [(3,.own 3 1 (yaN l k).length),(11,.c (.sl 2 (l.map Train.enc))),(12,.c (.i l.length)),(13,.c (.i k))] [(3,.row 1 ((yaN l k).map yJ))]) (fun k=>l.length - k) 0 (by simp [yfN]) (by apply yj <;> simp [yfN]) ?_
 rintro k ⟨hk,hall,hnd⟩
 rcases Nat.lt_or_ge k l.length with hlt | hge
 ·obtain ⟨t,ht⟩ : ∃ t,l[k]? = some t:=⟨_,List.getElem?_eq_getElem hlt⟩
  have hts:=hs.2 t (List.mem_of_getElem? ht)
  simp -dsimp -implicitDefEqProofs [ht,yG hlt]
  refine yc (ydp t hts) ?_
  cases h1 : yP t with
  | false=>simp -dsimp -implicitDefEqProofs; exact yrv ht h1
  | true =>
   have hall':=yL (p:=yP) ht hall h1
   have hil:=ytb h1
   have hul:=ymJ k hall
   simp -dsimp -implicitDefEqProofs
   refine yS (yuz t hts) ?_
   simp -dsimp -implicitDefEqProofs
   intro _
   refine yg (ι:=Nat) (fun j=>j ≤ (yaY t).length ∧ (seenAt l k t j).Nodup) (fun j=>yO [(3,.own 3 1 (seenAt l k t j).length),(11,.c (.sl 2 (l.map Train.enc))),(12,.c (.i l.length)),(13,.c (.i k)),(21,.c (.sl 1 ((yaY t).map yJ))),(22,.c (.i (yaY t).length)),(23,.c (.i j))] [(3,.row 1 ((seenAt l k t j).map yJ))]) (fun j=>(yaY t).length - j) 0 ⟨by simp,by rw [ymU]; exact hnd⟩ (by apply yj <;> simp [ymU]) ?_
   rintro j ⟨hj,hnj⟩
   have hsl : (seenAt l k t j).length ≤ 60:=by unfold seenAt; rw [List.length_append,List.length_take]; omega
   rcases Nat.lt_or_ge j (yaY t).length with hlt2 | hge2
   ·obtain ⟨x,hx⟩ : ∃ x,(yaY t)[j]? = some x:=⟨_,List.getElem?_eq_getElem hlt2⟩
    simp -dsimp -implicitDefEqProofs [hx,yG hlt2]
    refine yaQ (ypJ (seenAt l k t j) x) (by simp [ymz]) rfl ?_
    simp -dsimp -implicitDefEqProofs
    refine ⟨fun h2=>(twice ht hx h2),fun h2=>?_⟩
    have hn2 : (seenAt l k t (j + 1)).Nodup:=by
     rw [ym2 hx]
     exact List.nodup_append.2 ⟨hnj,by simp,fun a ha b hb e=>by simp at hb; subst hb; subst e; exact h2 ha⟩
    refine ⟨by omega,by unfold inI; omega,j + 1,⟨hlt2,hn2⟩,by omega,?_⟩
    apply yj <;> simp [ym2 hx]
   ·simp -dsimp -implicitDefEqProofs [yaB hge2]
    rw [ypH ht hge2] at hnj
    refine ⟨by unfold inI; omega,k + 1,⟨hlt,hall',hnj⟩,by omega,?_⟩
    apply yj <;> simp [ypH ht hge2]
 ·simp -dsimp -implicitDefEqProofs [yaB hge]
  rw [ymM hge] at hnd
  have h1:=yX (p:=yP) hge hall
  have h8' : l.length ≤ 8:=by omega
  simp [Distinct,h1,hnd,h8']
theorem yoh (l : List Train) (hs : ybV l) (h8 : l.length ≤ 8) (hok : ∀ t ∈ l,yP t = true) : yB Tryz.prog 283 [.c (.sl 2 (l.map Train.enc))] (.c (.b (decide ((l.flatMap yaY).Nodup)))):=by
 refine yh yjO ?_
 have fin : Distinct l = false → decide ((l.flatMap yaY).Nodup) = false:=by
  intro h
  have h1 : l.all yP = true:=List.all_eq_true.2 hok
  simpa [Distinct,h1,h8] using h
 simp -dsimp -implicitDefEqProofs
 refine yg (ι:=Nat) (fun k=>k ≤ l.length ∧ (yaN l k).Nodup) (fun k=>yO [(0,.c (.sl 2 (l.map Train.enc))),(3,.own 8 1 (yaN l k).length),(4,.c (.i k))] [(8,.row 1 ((yaN l k).map yJ))]) (fun k=>l.length - k) 0 (by simp [yfN]) (by apply yj <;> simp [yfN]) ?_
 rintro k ⟨hk,hnd⟩
 rcases Nat.lt_or_ge k l.length with hlt | hge
 ·obtain ⟨t,ht⟩ : ∃ t,l[k]? = some t:=⟨_,List.getElem?_eq_getElem hlt⟩
  have hts:=hs.2 t (List.mem_of_getElem? ht)
  have h1:=hok t (List.mem_of_getElem? ht)
  have hil:=ytb h1
  have hul:=ymJ (l:=l) k (fun t ht=>hok t (List.mem_of_mem_take ht))
  simp -dsimp -implicitDefEqProofs [ht,yG hlt]
  intro hlen
  refine yS (yvW t hts) ?_
  simp -dsimp -implicitDefEqProofs
  refine yg (ι:=Nat) (fun i=>i ≤ (yaY t).length ∧ ∀ x ∈ (yaY t).take i,x ∉ yaN l k) (fun i=>yO [(0,.c (.sl 2 (l.map Train.enc))),(3,.own 8 1 (yaN l k).length),(4,.c (.i k)),(5,.c (.sl 1 ((yaY t).map yJ))),(6,.c (.i i))] [(8,.row 1 ((yaN l k).map yJ))]) (fun i=>(yaY t).length - i) 0 (by simp) (by apply yj <;> simp) ?_
  rintro i ⟨hi,hni⟩
  rcases Nat.lt_or_ge i (yaY t).length with hlt2 | hge2
  ·obtain ⟨x,hx⟩ : ∃ x,(yaY t)[i]? = some x:=⟨_,List.getElem?_eq_getElem hlt2⟩
   simp -dsimp -implicitDefEqProofs [yG hlt2]
   intro _
   refine yg (ι:=Nat) (fun j=>j ≤ (yaN l k).length ∧ ∀ y ∈ (yaN l k).take j,y ≠ x) (fun j=>yO [(0,.c (.sl 2 (l.map Train.enc))),(3,.own 8 1 (yaN l k).length),(4,.c (.i k)),(5,.c (.sl 1 ((yaY t).map yJ))),(6,.c (.i i)),(7,.c (.i j))] [(8,.row 1 ((yaN l k).map yJ))]) (fun j=>(yaN l k).length - j) 0 (by simp) (by apply yj <;> simp) ?_
   rintro j ⟨hj,hnj⟩
   rcases Nat.lt_or_ge j (yaN l k).length with hlt3 | hge3
   ·obtain ⟨y,hy⟩ : ∃ y,(yaN l k)[j]? = some y:=⟨_,List.getElem?_eq_getElem hlt3⟩
    have bad : y = x → ¬ (l.flatMap yaY).Nodup:=fun e=>by
     have:=fin (twice ht hx (by unfold seenAt; rw [← e]; exact List.mem_append_left _ (List.mem_of_getElem? hy)))
     simpa using this
    generalize yaN l k = u at *
    have g1:=(List.getElem?_eq_some_iff.1 hy).2
    simp -dsimp -implicitDefEqProofs [hx,yG hlt2,hy,g1,yG hlt3,hlt3]
    intro _
    refine ⟨fun h2=>(bad h2),fun h2=>?_⟩
    refine ⟨by unfold inI; omega,j + 1,⟨hlt3,?_⟩,by omega,?_⟩
    ·rw [List.take_succ,hy]
     intro z hz
     rcases List.mem_append.1 hz with hz | hz
     ·exact hnj z hz
     ·simp at hz; subst hz; exact h2
    ·apply yj <;> simp
   ·rw [List.take_of_length_le hge3] at hnj
    simp -dsimp -implicitDefEqProofs [yaB hge3]
    intro _
    refine ⟨by unfold inI; omega,i + 1,⟨hlt2,?_⟩,by omega,by apply yj <;> simp⟩
    rw [List.take_succ,hx]
    intro z hz
    rcases List.mem_append.1 hz with hz | hz
    ·exact hni z hz
    ·simp at hz; subst hz; exact fun hm=>hnj _ hm rfl
  ·rw [List.take_of_length_le hge2] at hni
   simp -dsimp -implicitDefEqProofs [yaB hge2]
   have hnd2 : (yaN l (k + 1)).Nodup:=by
    rw [yfP ht]
    exact List.nodup_append.2 ⟨hnd,yEL h1,fun a ha b hb e=>hni b hb (e ▸ ha)⟩
   refine fun _=>⟨by omega,by unfold inI; omega,k + 1,⟨hlt,hnd2⟩,by omega,?_⟩
   apply yj <;> simp [yfP ht]
 ·simp -dsimp -implicitDefEqProofs [yaB hge]
  rw [ymM hge] at hnd
  simp [hnd]
theorem yua (l : List Train) (hs : ybV l) : yB Tryz.prog 284 [.c (.sl 2 (l.map Train.enc))] (.c (.b (Distinct l))):=by
 refine yh ylX ?_
 simp -dsimp -implicitDefEqProofs
 refine yg (ι:=Nat) (fun k=>k ≤ l.length ∧ (∀ t ∈ l.take k,yP t = true) ∧ (k ≠ 0 → l.length ≤ 8)) (fun k=>yO [(0,.c (.sl 2 (l.map Train.enc))),(3,.c (.i k))] []) (fun k=>l.length - k) 0 (by simp) (by apply yj <;> simp) ?_
 rintro k ⟨hk,hall,h8⟩
 rcases Nat.lt_or_ge k l.length with hlt | hge
 ·obtain ⟨t,ht⟩ : ∃ t,l[k]? = some t:=⟨_,List.getElem?_eq_getElem hlt⟩
  have hts:=hs.2 t (List.mem_of_getElem? ht)
  simp -dsimp -implicitDefEqProofs [ht,yG hlt]
  intro hlen
  refine yc (yds t hts) ?_
  cases h1 : yP t with
  | false=>simp -dsimp -implicitDefEqProofs; exact yrv ht h1
  | true =>
   have hall':=yL (p:=yP) ht hall h1
   simp -dsimp -implicitDefEqProofs
   intro _
   refine ⟨fun h9=>(by simp [Distinct]; omega),fun h9=>?_⟩
   have h9' : l.length ≤ 8:=by omega
   exact ⟨yw hlt hlen,k + 1,⟨hlt,hall',fun _=>h9'⟩,by omega,by apply yj <;> simp⟩
 ·have h1:=yX (p:=yP) hge hall
  have h8' : l.length ≤ 8:=by
   rcases Nat.eq_zero_or_pos k with e | e
   ·omega
   ·exact h8 (by omega)
  simp -dsimp -implicitDefEqProofs [yaB hge]
  intro _
  refine yc (yoh l hs h8' (List.all_eq_true.1 h1)) ?_
  simp -dsimp -implicitDefEqProofs
  simp [Distinct,h1,h8']
def ybg (k : Lock) : Bool:=inRange k.Length 1 1000 && inRange k.Width 1 100 && inRange k.SillAbove 0 100000 && inRange k.SillBelow 0 100000 && inRange k.Base 0 100000 && inRange k.Area 1 10000 && inRange k.Rate 1 100000 && inRange k.Water 0 1000000000 && inRange k.Gate 0 2 && Distinct k.Inside
theorem yvo (k : Lock) (h : k.small) : yB Tryz.prog 288 [.agg (k.enc.map .c)] (.c (.b (ybg k))):=by
 refine yh yrj ?_
 simp -dsimp -implicitDefEqProofs
 refine yc (yC k.Length 1 1000) ?_
 cases h0 : inRange k.Length 1 1000 with
 | false=>simp -dsimp -implicitDefEqProofs; simp [ybg,h0]
 | true =>
 simp -dsimp -implicitDefEqProofs
 refine yc (yC k.Width 1 100) ?_
 cases h1 : inRange k.Width 1 100 with
 | false=>simp -dsimp -implicitDefEqProofs; simp [ybg,h0,h1]
 | true =>
 simp -dsimp -implicitDefEqProofs
 refine yc (yC k.SillAbove 0 100000) ?_
 cases h2 : inRange k.SillAbove 0 100000 with
 | false=>simp -dsimp -implicitDefEqProofs; simp [ybg,h0,h1,h2]
 | true =>
 simp -dsimp -implicitDefEqProofs
 refine yc (yC k.SillBelow 0 100000) ?_
 cases h3 : inRange k.SillBelow 0 100000 with
 | false=>simp -dsimp -implicitDefEqProofs; simp [ybg,h0,h1,h2,h3]
 | true =>
 simp -dsimp -implicitDefEqProofs
 refine yc (yC k.Base 0 100000) ?_
 cases h4 : inRange k.Base 0 100000 with
 | false=>simp -dsimp -implicitDefEqProofs; simp [ybg,h0,h1,h2,h3,h4]
 | true =>
 simp -dsimp -implicitDefEqProofs
 refine yc (yC k.Area 1 10000) ?_
 cases h5 : inRange k.Area 1 10000 with
 | false=>simp -dsimp -implicitDefEqProofs; simp [ybg,h0,h1,h2,h3,h4,h5]
 | true =>
 simp -dsimp -implicitDefEqProofs
 refine yc (yC k.Rate 1 100000) ?_
 cases h6 : inRange k.Rate 1 100000 with
 | false=>simp -dsimp -implicitDefEqProofs; simp [ybg,h0,h1,h2,h3,h4,h5,h6]
 | true =>
 simp -dsimp -implicitDefEqProofs
 refine yc (yC k.Water 0 1000000000) ?_
 cases h7 : inRange k.Water 0 1000000000 with
 | false=>simp -dsimp -implicitDefEqProofs; simp [ybg,h0,h1,h2,h3,h4,h5,h6,h7]
 | true =>
 simp -dsimp -implicitDefEqProofs
 refine yc (yC k.Gate 0 2) ?_
 cases h8 : inRange k.Gate 0 2 with
 | false=>simp -dsimp -implicitDefEqProofs; simp [ybg,h0,h1,h2,h3,h4,h5,h6,h7,h8]
 | true =>
 simp -dsimp -implicitDefEqProofs
 refine yc (ymr k.Inside h) ?_
 cases h9 : Distinct k.Inside with
 | false=>simp -dsimp -implicitDefEqProofs; simp [ybg,h0,h1,h2,h3,h4,h5,h6,h7,h8,h9]
 | true =>
  simp -dsimp -implicitDefEqProofs; simp [ybg,h0,h1,h2,h3,h4,h5,h6,h7,h8,h9]
theorem ytO (k : Lock) (h : k.small) : yB Tryz.prog 227 [.agg (k.enc.map .c)] (.c (.b (ybg k))):=by
 refine yh yra ?_
 simp -dsimp -implicitDefEqProofs
 refine yc (yD k.Length 1 1000) ?_
 cases h0 : inRange k.Length 1 1000 with
 | false=>simp -dsimp -implicitDefEqProofs; simp [ybg,h0]
 | true =>
 simp -dsimp -implicitDefEqProofs
 refine yc (yD k.Width 1 100) ?_
 cases h1 : inRange k.Width 1 100 with
 | false=>simp -dsimp -implicitDefEqProofs; simp [ybg,h0,h1]
 | true =>
 simp -dsimp -implicitDefEqProofs
 refine yc (ybj k.SillAbove) ?_
 cases h2 : inRange k.SillAbove 0 100000 with
 | false=>simp -dsimp -implicitDefEqProofs; simp [ybg,h0,h1,h2]
 | true =>
 simp -dsimp -implicitDefEqProofs
 refine yc (ybj k.SillBelow) ?_
 cases h3 : inRange k.SillBelow 0 100000 with
 | false=>simp -dsimp -implicitDefEqProofs; simp [ybg,h0,h1,h2,h3]
 | true =>
 simp -dsimp -implicitDefEqProofs
 refine yc (ybj k.Base) ?_
 cases h4 : inRange k.Base 0 100000 with
 | false=>simp -dsimp -implicitDefEqProofs; simp [ybg,h0,h1,h2,h3,h4]
 | true =>
 simp -dsimp -implicitDefEqProofs
 refine yc (yD k.Area 1 10000) ?_
 cases h5 : inRange k.Area 1 10000 with
 | false=>simp -dsimp -implicitDefEqProofs; simp [ybg,h0,h1,h2,h3,h4,h5]
 | true =>
 simp -dsimp -implicitDefEqProofs
 refine yc (yD k.Rate 1 100000) ?_
 cases h6 : inRange k.Rate 1 100000 with
 | false=>simp -dsimp -implicitDefEqProofs; simp [ybg,h0,h1,h2,h3,h4,h5,h6]
 | true =>
 simp -dsimp -implicitDefEqProofs
 refine yc (yD k.Water 0 1000000000) ?_
 cases h7 : inRange k.Water 0 1000000000 with
 | false=>simp -dsimp -implicitDefEqProofs; simp [ybg,h0,h1,h2,h3,h4,h5,h6,h7]
 | true =>
 simp -dsimp -implicitDefEqProofs
 refine yc (yD k.Gate 0 2) ?_
 cases h8 : inRange k.Gate 0 2 with
 | false=>simp -dsimp -implicitDefEqProofs; simp [ybg,h0,h1,h2,h3,h4,h5,h6,h7,h8]
 | true =>
 simp -dsimp -implicitDefEqProofs
 refine yc (yua k.Inside h) ?_
 cases h9 : Distinct k.Inside with
 | false=>simp -dsimp -implicitDefEqProofs; simp [ybg,h0,h1,h2,h3,h4,h5,h6,h7,h8,h9]
 | true =>
  simp -dsimp -implicitDefEqProofs; simp [ybg,h0,h1,h2,h3,h4,h5,h6,h7,h8,h9]
def ybd (w : Work) : Bool:=ybg w.Lock && yaH w.Weir && yca w.Rule && ycD w.Pauses && ype w.Turn && decide (w.Calls.length ≤ 24) && w.Calls.all yb9
theorem wk1 {w : Work} (h : ybg w.Lock = false) : ybd w = false:=by simp [ybd,h]
theorem wk2 {w : Work} (h : yaH w.Weir = false) : ybd w = false:=by simp [ybd,h]
theorem wk3 {w : Work} (h : yca w.Rule = false) : ybd w = false:=by simp [ybd,h]
theorem wk4 {w : Work} (h : ycD w.Pauses = false) : ybd w = false:=by simp [ybd,h]
theorem wk5 {w : Work} (h : ype w.Turn = false) : ybd w = false:=by simp [ybd,h]
theorem wk6 {w : Work} (h : 24 < w.Calls.length) : ybd w = false:=by
 have : ¬ w.Calls.length ≤ 24:=by omega
 simp [ybd,this]
theorem wk7 {w : Work} {k : Nat} {c : CallT} (hc : w.Calls[k]? = some c) (h : yb9 c = false) : ybd w = false:=by
 have : w.Calls.all yb9 = false:=all_false (p:=yb9) hc h
 simp only [ybd,this,Bool.and_false]
theorem yu3 (w : Work) (hs : w.small) : yB Tryz.prog 277 [.agg (w.enc.map .c)] (.c (.b (ybd w))):=by
 refine yh yqA ?_
 simp -dsimp -implicitDefEqProofs
 refine yc (yvo w.Lock hs.1) ?_
 cases h1 : ybg w.Lock with
 | false=>simp -dsimp -implicitDefEqProofs; exact wk1 h1
 | true =>
 simp -dsimp -implicitDefEqProofs
 refine yc (ydW w.Weir) ?_
 cases h2 : yaH w.Weir with
 | false=>simp -dsimp -implicitDefEqProofs; exact wk2 h2
 | true =>
 simp -dsimp -implicitDefEqProofs
 refine yc (yji w.Rule) ?_
 cases h3 : yca w.Rule with
 | false=>simp -dsimp -implicitDefEqProofs; exact wk3 h3
 | true =>
 simp -dsimp -implicitDefEqProofs
 refine yc (yqL w.Pauses) ?_
 cases h4 : ycD w.Pauses with
 | false=>simp -dsimp -implicitDefEqProofs; exact wk4 h4
 | true =>
 simp -dsimp -implicitDefEqProofs
 refine yc (ytY w.Turn) ?_
 cases h5 : ype w.Turn with
 | false=>simp -dsimp -implicitDefEqProofs; exact wk5 h5
 | true =>
 simp -dsimp -implicitDefEqProofs
 intro hlen
 refine ⟨fun h6=>(wk6 (by omega)),fun h6=>?_⟩
 refine fun _=>yg (ι:=Nat) (fun k=>k ≤ w.Calls.length ∧ ∀ c ∈ w.Calls.take k,yb9 c = true) (fun k=>yO [(38,.c (.sl 4 (w.Calls.map CallT.enc))),(39,.c (.i w.Calls.length)),(40,.c (.i k))] []) (fun k=>w.Calls.length - k) 0 (by simp) (by apply yj <;> simp) ?_
 rintro k ⟨hk,hall⟩
 rcases Nat.lt_or_ge k w.Calls.length with hlt | hge
 ·obtain ⟨c,hc⟩ : ∃ c,w.Calls[k]? = some c:=⟨_,List.getElem?_eq_getElem hlt⟩
  simp -dsimp -implicitDefEqProofs [hc,yG hlt]
  refine yc (ytF c (hs.2.2.2 c (List.mem_of_getElem? hc))) ?_
  cases h7 : yb9 c with
  | false=>simp -dsimp -implicitDefEqProofs; exact wk7 hc h7
  | true =>
   simp -dsimp -implicitDefEqProofs
   exact ⟨yw hlt hlen,k + 1,⟨hlt,yL (p:=yb9) hc hall h7⟩,by omega,by apply yj <;> simp⟩
 ·simp -dsimp -implicitDefEqProofs [yaB hge]
  have h7:=yX (p:=yb9) hge hall
  have h6' : w.Calls.length ≤ 24:=by omega
  simp [ybd,h1,h2,h3,h4,h5,h6',h7]
theorem yuI (w : Work) (hs : w.small) : yB Tryz.prog 206 [.agg (w.enc.map .c)] (.c (.b (ybd w))):=by
 refine yh yqn ?_
 simp -dsimp -implicitDefEqProofs
 refine yg (ι:=Nat) (fun k=>k ≤ w.Calls.length ∧ ∀ c ∈ w.Calls.take k,yb9 c = true) (fun k=>yO [(1,.box 1 0),(3,.c (.i k))] [(1,.box (w.enc.map .c))]) (fun k=>w.Calls.length - k) 0 (by simp) (by apply yj <;> simp) ?_
 rintro k ⟨hk,hall⟩
 rcases Nat.lt_or_ge k w.Calls.length with hlt | hge
 ·obtain ⟨c,hc⟩ : ∃ c,w.Calls[k]? = some c:=⟨_,List.getElem?_eq_getElem hlt⟩
  simp -dsimp -implicitDefEqProofs [hc,yG hlt]
  intro hlen
  refine yc (yt9 c (hs.2.2.2 c (List.mem_of_getElem? hc))) ?_
  cases h7 : yb9 c with
  | false=>simp -dsimp -implicitDefEqProofs; exact wk7 hc h7
  | true =>
   simp -dsimp -implicitDefEqProofs
   exact ⟨yw hlt hlen,k + 1,⟨hlt,yL (p:=yb9) hc hall h7⟩,by omega,by apply yj <;> simp⟩
 ·simp -dsimp -implicitDefEqProofs [yaB hge]
  have h7:=yX (p:=yb9) hge hall
  intro _
  refine ⟨fun h6=>?_,fun h6=>(wk6 (by omega))⟩
  have h6' : w.Calls.length ≤ 24:=by omega
  refine yc (ytO w.Lock hs.1) ?_
  cases h1 : ybg w.Lock with
  | false=>simp -dsimp -implicitDefEqProofs; exact wk1 h1
  | true =>
  simp -dsimp -implicitDefEqProofs
  refine yc (yd2 w.Weir) ?_
  cases h2 : yaH w.Weir with
  | false=>simp -dsimp -implicitDefEqProofs; exact wk2 h2
  | true =>
  simp -dsimp -implicitDefEqProofs
  refine yc (yiX w.Rule) ?_
  cases h3 : yca w.Rule with
  | false=>simp -dsimp -implicitDefEqProofs; exact wk3 h3
  | true =>
  simp -dsimp -implicitDefEqProofs
  refine yc (yrd w.Pauses) ?_
  cases h4 : ycD w.Pauses with
  | false=>simp -dsimp -implicitDefEqProofs; exact wk4 h4
  | true =>
  simp -dsimp -implicitDefEqProofs
  refine yc (yuW w.Turn) ?_
  simp -dsimp -implicitDefEqProofs
  simp [ybd,h1,h2,h3,h4,h6',h7]
def ygY (xs : List Entry) (l : Int) : Int:=szS xs.length l
def ykU : List Entry → Prop:=ycs fun _=>True
theorem ykP : yey ygY ykU:=yhU
theorem yuw (xs : List Entry) (l : Int) (h0 : 0 ≤ l) (h1 : l ≤ 1048576) : yB Tryz.prog 24 [.c (.sl 5 (xs.map Entry.enc)),.c (.i l)] (.c (.i (ygY xs l))):=by
 refine yh ynm ?_
 simp -dsimp -implicitDefEqProofs [yix,ygY,szS]
 intro hl
 unfold maxLen at hl
 refine ⟨by unfold inI; omega,fun h=>?_,fun h=>?_⟩ <;> intros <;> omega
theorem yBf (a b : Way) : yB Tryz.prog 111 [.agg (a.enc.map .c),.agg (b.enc.map .c)] (.c (.b (decide (a = b)))):=by
 refine yh ysB ?_
 obtain ⟨a0,a1⟩:=a
 obtain ⟨b0,b1⟩:=b
 simp -dsimp -implicitDefEqProofs [ykN,Way.mk.injEq]
 refine ⟨fun h=>by simp_all,fun h0=>?_⟩
 refine ⟨fun h=>by simp_all,fun h1=>?_⟩
 simp_all
-- []Reach
def yd8 : List Reach → Int → Int:=yeE ycy
def ycN : List Reach → Prop:=ycs Reach.small
theorem ykV : yey yd8 ycN:=ygj ymW
theorem yuf (xs : List Reach) (l : Int) (h0 : 0 ≤ l) (h1 : l ≤ 1048576) : yB Tryz.prog 17 [.c (.sl 3 (xs.map Reach.enc)),.c (.i l)] (.c (.i (yd8 xs l))):=by
 refine yh ynv ?_
 simp -dsimp -implicitDefEqProofs
 intro hl
 have hs : szS xs.length l = if l - xs.length < 0 then -1 else l - xs.length:=rfl
 refine ⟨by unfold maxLen at hl; unfold inI; omega,fun h=>?_,fun h=>?_⟩
 ·simp [yd8,yeE,ybm,hs,h]
 have h' : 0 ≤ l - xs.length:=by omega
 have e0 : yd8 xs l = yaw ycy xs (l - xs.length):=by
  have : szS xs.length l = l - xs.length:=by rw [hs,if_neg (by omega)]
  simp only [yd8,yeE]
  rw [this,yu h']
 refine yg (ι:=Nat × Int) (fun p=>p.1 ≤ xs.length ∧ 0 ≤ p.2 ∧ p.2 ≤ 1048576 ∧ yaw ycy (xs.drop p.1) p.2 = yd8 xs l) (fun p=>yO [(0,.c (.sl 3 (xs.map Reach.enc))),(1,.c (.i p.2)),(5,.c (.i p.1))] []) (fun p=>xs.length - p.1) (0,l - xs.length) ⟨by simp,h',by simp only; omega,by simp [e0]⟩ (by apply yj <;> simp) ?_
 rintro ⟨k,q⟩ ⟨hk,hq0,hq1,hf⟩
 simp only at hk hq0 hq1 hf
 rcases Nat.lt_or_ge k xs.length with hlt | hge
 ·obtain ⟨e,he⟩ : ∃ e,xs[k]? = some e:=⟨_,List.getElem?_eq_getElem hlt⟩
  have hd : xs.drop k = e :: xs.drop (k + 1):=by
   rw [List.drop_eq_getElem_cons hlt,(List.getElem?_eq_some_iff.1 he).2]
  rw [hd,yaw] at hf
  simp -dsimp -implicitDefEqProofs [he,yG hlt]
  refine fun _=>yaQ (yvH e q hq0 hq1) (by simp) rfl ?_
  simp -dsimp -implicitDefEqProofs
  refine ⟨fun h=>by rw [← hf,yK h],fun h=>⟨yw hlt hl,k + 1,⟨ycy e q,?_⟩⟩⟩
  rw [yu h] at hf
  have hle : ycy e q ≤ 1048576:=by
   rcases ymW e q hq0 hq1 with e1 | e1
   ·omega
   ·omega
  exact ⟨⟨hlt,h,hle,hf⟩,by omega,by apply yj <;> simp⟩
 ·simp -dsimp -implicitDefEqProofs [yaB hge]
  rw [List.drop_of_length_le hge] at hf
  intro _
  first | simpa [yaw] using hf | simpa [yaw] using hf.symm
theorem ywf (xs : List Reach) (hl : ycN xs) : yB Tryz.prog 30 [.c (.sl 3 (xs.map Reach.enc))] (.c (.sl 3 (xs.map Reach.enc))):=by
 refine yh yii ?_
 simp -dsimp -implicitDefEqProofs
 intro hlen
 have hl1:=hl.1
 refine ⟨by omega,?_⟩
 refine yg (ι:=Nat) (fun k=>k ≤ xs.length) (fun k=>yO [(0,.c (.sl 3 (xs.map Reach.enc))),(3,.own 7 3 xs.length),(4,.c (.i k))] [(7,.row 3 (partly Reach.enc [.sl 2 [],.i 0,.sl 1 []] xs k))]) (fun k=>xs.length - k) 0 (by simp) (by apply yj <;> simp [yab]) ?_
 rintro k hk
 rcases Nat.lt_or_ge k xs.length with hlt | hge
 ·obtain ⟨e,he⟩ : ∃ e,xs[k]? = some e:=⟨_,List.getElem?_eq_getElem hlt⟩
  have hs:=yaj (f:=Reach.enc) (z:=[.sl 2 [],.i 0,.sl 1 []]) he
  have hd:=yav (f:=Reach.enc) (z:=[.sl 2 [],.i 0,.sl 1 []]) (n:=3) rfl hlt
  simp only [Reach.enc] at hs
  simp -dsimp -implicitDefEqProofs [he,yG hlt]
  refine fun _=>yaP (yxy e (hl.2 e (List.mem_of_getElem? he))) (by simp) rfl ?_
  simp -dsimp -implicitDefEqProofs [yG hlt,yak hk,hd,hs]
  exact ⟨hlt,yw hlt hlen,k + 1,hlt,by omega,by apply yj <;> simp⟩
 ·simp -dsimp -implicitDefEqProofs [yaB hge]
  intro _
  rw [yam hge,List.take_of_length_le (by simp)]
theorem ywC (es fs : List Reach) : yB Tryz.prog 44 [.c (.sl 3 (es.map Reach.enc)),.c (.sl 3 (fs.map Reach.enc))] (.c (.b (decide (es = fs)))):=by
 refine yh ynu ?_
 simp -dsimp -implicitDefEqProofs
 intro hl1 hl2
 refine ⟨fun h e=>h (by rw [e]),fun hlen=>?_⟩
 have hlen' : es.length = fs.length:=by omega
 refine yg (ι:=Nat) (fun k=>k ≤ es.length ∧ es.take k = fs.take k) (fun k=>yO [(0,.c (.sl 3 (es.map Reach.enc))),(1,.c (.sl 3 (fs.map Reach.enc))),(5,.c (.i k))] []) (fun k=>es.length - k) 0 (by simp) (by apply yj <;> simp) ?_
 rintro k ⟨hk,htk⟩
 rcases Nat.lt_or_ge k es.length with hlt | hge
 ·obtain ⟨e,he⟩ : ∃ e,es[k]? = some e:=⟨_,List.getElem?_eq_getElem hlt⟩
  obtain ⟨f,hf⟩ : ∃ f,fs[k]? = some f:=⟨_,List.getElem?_eq_getElem (by omega)⟩
  simp -dsimp -implicitDefEqProofs [he,hf,yG hlt,yG (hlen' ▸ hlt)]
  intro _
  refine yaC (yx6 e f) ?_
  simp -dsimp -implicitDefEqProofs
  refine ⟨fun h=>ybG he hf h,fun h=>⟨yw hlt hl1,k + 1,⟨hlt,yaR he hf htk h⟩,by omega,by apply yj <;> simp⟩⟩
 ·simp -dsimp -implicitDefEqProofs [yaB hge]
  intro _
  exact ybf hge hlen' htk
-- []Way
def yk3 (xs : List Way) (l : Int) : Int:=szS xs.length l
def yhr : List Way → Prop:=ycs fun _=>True
theorem ypU : yey yk3 yhr:=yhU
theorem yxL (xs : List Way) (l : Int) (h0 : 0 ≤ l) (h1 : l ≤ 1048576) : yB Tryz.prog 18 [.c (.sl 2 (xs.map Way.enc)),.c (.i l)] (.c (.i (yk3 xs l))):=by
 refine yh yqz ?_
 simp -dsimp -implicitDefEqProofs [yj9,yk3,szS]
 intro hl
 unfold maxLen at hl
 refine ⟨by unfold inI; omega,fun h=>?_,fun h=>?_⟩ <;> intros <;> omega
theorem yzL (xs : List Way) (hl : yhr xs) : yB Tryz.prog 31 [.c (.sl 2 (xs.map Way.enc))] (.c (.sl 2 (xs.map Way.enc))):=by
 refine yh yj5 ?_
 simp -dsimp -implicitDefEqProofs
 intro hlen
 have hl1:=hl.1
 refine ⟨by omega,?_⟩
 refine yg (ι:=Nat) (fun k=>k ≤ xs.length) (fun k=>yO [(0,.c (.sl 2 (xs.map Way.enc))),(3,.own 7 2 xs.length),(4,.c (.i k))] [(7,.row 2 (partly Way.enc [.i 0,.i 0] xs k))]) (fun k=>xs.length - k) 0 (by simp) (by apply yj <;> simp [yab]) ?_
 rintro k hk
 rcases Nat.lt_or_ge k xs.length with hlt | hge
 ·obtain ⟨e,he⟩ : ∃ e,xs[k]? = some e:=⟨_,List.getElem?_eq_getElem hlt⟩
  have hs:=yaj (f:=Way.enc) (z:=[.i 0,.i 0]) he
  have hd:=yav (f:=Way.enc) (z:=[.i 0,.i 0]) (n:=2) rfl hlt
  simp only [Way.enc] at hs
  simp -dsimp -implicitDefEqProofs [he,yG hlt]
  refine fun _=>yaP (yxc e ) (by simp) rfl ?_
  simp -dsimp -implicitDefEqProofs [yG hlt,yak hk,hd,hs]
  exact ⟨hlt,yw hlt hlen,k + 1,hlt,by omega,by apply yj <;> simp⟩
 ·simp -dsimp -implicitDefEqProofs [yaB hge]
  intro _
  rw [yam hge,List.take_of_length_le (by simp)]
theorem yzd (es fs : List Way) : yB Tryz.prog 45 [.c (.sl 2 (es.map Way.enc)),.c (.sl 2 (fs.map Way.enc))] (.c (.b (decide (es = fs)))):=by
 refine yh yqr ?_
 simp -dsimp -implicitDefEqProofs
 intro hl1 hl2
 refine ⟨fun h e=>h (by rw [e]),fun hlen=>?_⟩
 have hlen' : es.length = fs.length:=by omega
 refine yg (ι:=Nat) (fun k=>k ≤ es.length ∧ es.take k = fs.take k) (fun k=>yO [(0,.c (.sl 2 (es.map Way.enc))),(1,.c (.sl 2 (fs.map Way.enc))),(5,.c (.i k))] []) (fun k=>es.length - k) 0 (by simp) (by apply yj <;> simp) ?_
 rintro k ⟨hk,htk⟩
 rcases Nat.lt_or_ge k es.length with hlt | hge
 ·obtain ⟨e,he⟩ : ∃ e,es[k]? = some e:=⟨_,List.getElem?_eq_getElem hlt⟩
  obtain ⟨f,hf⟩ : ∃ f,fs[k]? = some f:=⟨_,List.getElem?_eq_getElem (by omega)⟩
  simp -dsimp -implicitDefEqProofs [he,hf,yG hlt,yG (hlen' ▸ hlt)]
  intro _
  refine yaC (yBf e f) ?_
  simp -dsimp -implicitDefEqProofs
  refine ⟨fun h=>ybG he hf h,fun h=>⟨yw hlt hl1,k + 1,⟨hlt,yaR he hf htk h⟩,by omega,by apply yj <;> simp⟩⟩
 ·simp -dsimp -implicitDefEqProofs [yaB hge]
  intro _
  exact ybf hge hlen' htk
-- []Work
def yfc : List Work → Int → Int:=yeE ycY
def yc8 : List Work → Prop:=ycs Work.small
theorem ym4 : yey yfc yc8:=ygj yn3
theorem yv0 (xs : List Work) (l : Int) (h0 : 0 ≤ l) (h1 : l ≤ 1048576) : yB Tryz.prog 19 [.c (.sl 22 (xs.map Work.enc)),.c (.i l)] (.c (.i (yfc xs l))):=by
 refine yh ypK ?_
 simp -dsimp -implicitDefEqProofs
 intro hl
 have hs : szS xs.length l = if l - xs.length < 0 then -1 else l - xs.length:=rfl
 refine ⟨by unfold maxLen at hl; unfold inI; omega,fun h=>?_,fun h=>?_⟩
 ·simp [yfc,yeE,ybm,hs,h]
 have h' : 0 ≤ l - xs.length:=by omega
 have e0 : yfc xs l = yaw ycY xs (l - xs.length):=by
  have : szS xs.length l = l - xs.length:=by rw [hs,if_neg (by omega)]
  simp only [yfc,yeE]
  rw [this,yu h']
 refine yg (ι:=Nat × Int) (fun p=>p.1 ≤ xs.length ∧ 0 ≤ p.2 ∧ p.2 ≤ 1048576 ∧ yaw ycY (xs.drop p.1) p.2 = yfc xs l) (fun p=>yO [(0,.c (.sl 22 (xs.map Work.enc))),(1,.c (.i p.2)),(5,.c (.i p.1))] []) (fun p=>xs.length - p.1) (0,l - xs.length) ⟨by simp,h',by simp only; omega,by simp [e0]⟩ (by apply yj <;> simp) ?_
 rintro ⟨k,q⟩ ⟨hk,hq0,hq1,hf⟩
 simp only at hk hq0 hq1 hf
 rcases Nat.lt_or_ge k xs.length with hlt | hge
 ·obtain ⟨e,he⟩ : ∃ e,xs[k]? = some e:=⟨_,List.getElem?_eq_getElem hlt⟩
  have hd : xs.drop k = e :: xs.drop (k + 1):=by
   rw [List.drop_eq_getElem_cons hlt,(List.getElem?_eq_some_iff.1 he).2]
  rw [hd,yaw] at hf
  simp -dsimp -implicitDefEqProofs [he,yG hlt]
  refine fun _=>yaQ (yym e q hq0 hq1) (by simp) rfl ?_
  simp -dsimp -implicitDefEqProofs
  refine ⟨fun h=>by rw [← hf,yK h],fun h=>⟨yw hlt hl,k + 1,⟨ycY e q,?_⟩⟩⟩
  rw [yu h] at hf
  have hle : ycY e q ≤ 1048576:=by
   rcases yn3 e q hq0 hq1 with e1 | e1
   ·omega
   ·omega
  exact ⟨⟨hlt,h,hle,hf⟩,by omega,by apply yj <;> simp⟩
 ·simp -dsimp -implicitDefEqProofs [yaB hge]
  rw [List.drop_of_length_le hge] at hf
  intro _
  first | simpa [yaw] using hf | simpa [yaw] using hf.symm
theorem yyh (xs : List Work) (hl : yc8 xs) : yB Tryz.prog 32 [.c (.sl 22 (xs.map Work.enc))] (.c (.sl 22 (xs.map Work.enc))):=by
 refine yh yjm ?_
 simp -dsimp -implicitDefEqProofs
 intro hlen
 have hl1:=hl.1
 refine ⟨by omega,?_⟩
 refine yg (ι:=Nat) (fun k=>k ≤ xs.length) (fun k=>yO [(0,.c (.sl 22 (xs.map Work.enc))),(3,.own 7 22 xs.length),(4,.c (.i k))] [(7,.row 22 (partly Work.enc [.i 0,.i 0,.i 0,.i 0,.i 0,.i 0,.i 0,.i 0,.i 0,.sl 2 [],.i 0,.i 0,.i 0,.i 0,.i 0,.i 0,.i 0,.i 0,.sl 2 [],.b false,.i 0,.sl 4 []] xs k))]) (fun k=>xs.length - k) 0 (by simp) (by apply yj <;> simp [yab]) ?_
 rintro k hk
 rcases Nat.lt_or_ge k xs.length with hlt | hge
 ·obtain ⟨e,he⟩ : ∃ e,xs[k]? = some e:=⟨_,List.getElem?_eq_getElem hlt⟩
  have hs:=yaj (f:=Work.enc) (z:=[.i 0,.i 0,.i 0,.i 0,.i 0,.i 0,.i 0,.i 0,.i 0,.sl 2 [],.i 0,.i 0,.i 0,.i 0,.i 0,.i 0,.i 0,.i 0,.sl 2 [],.b false,.i 0,.sl 4 []]) he
  have hd:=yav (f:=Work.enc) (z:=[.i 0,.i 0,.i 0,.i 0,.i 0,.i 0,.i 0,.i 0,.i 0,.sl 2 [],.i 0,.i 0,.i 0,.i 0,.i 0,.i 0,.i 0,.i 0,.sl 2 [],.b false,.i 0,.sl 4 []]) (n:=22) rfl hlt
  simp only [Work.enc,Lock.enc,Weir.enc,Rule.enc,Turn.enc] at hs
  simp -dsimp -implicitDefEqProofs [he,yG hlt]
  refine fun _=>yaP (yzs e (hl.2 e (List.mem_of_getElem? he))) (by simp) rfl ?_
  simp -dsimp -implicitDefEqProofs [yG hlt,yak hk,hd,hs]
  exact ⟨hlt,yw hlt hlen,k + 1,hlt,by omega,by apply yj <;> simp⟩
 ·simp -dsimp -implicitDefEqProofs [yaB hge]
  intro _
  rw [yam hge,List.take_of_length_le (by simp)]
theorem yyy (es fs : List Work) : yB Tryz.prog 46 [.c (.sl 22 (es.map Work.enc)),.c (.sl 22 (fs.map Work.enc))] (.c (.b (decide (es = fs)))):=by
 refine yh yo1 ?_
 simp -dsimp -implicitDefEqProofs
 intro hl1 hl2
 refine ⟨fun h e=>h (by rw [e]),fun hlen=>?_⟩
 have hlen' : es.length = fs.length:=by omega
 refine yg (ι:=Nat) (fun k=>k ≤ es.length ∧ es.take k = fs.take k) (fun k=>yO [(0,.c (.sl 22 (es.map Work.enc))),(1,.c (.sl 22 (fs.map Work.enc))),(5,.c (.i k))] []) (fun k=>es.length - k) 0 (by simp) (by apply yj <;> simp) ?_
 rintro k ⟨hk,htk⟩
 rcases Nat.lt_or_ge k es.length with hlt | hge
 ·obtain ⟨e,he⟩ : ∃ e,es[k]? = some e:=⟨_,List.getElem?_eq_getElem hlt⟩
  obtain ⟨f,hf⟩ : ∃ f,fs[k]? = some f:=⟨_,List.getElem?_eq_getElem (by omega)⟩
  simp -dsimp -implicitDefEqProofs [he,hf,yG hlt,yG (hlen' ▸ hlt)]
  intro _
  refine yaC (yy2 e f) ?_
  simp -dsimp -implicitDefEqProofs
  refine ⟨fun h=>ybG he hf h,fun h=>⟨yw hlt hl1,k + 1,⟨hlt,yaR he hf htk h⟩,by omega,by apply yj <;> simp⟩⟩
 ·simp -dsimp -implicitDefEqProofs [yaB hge]
  intro _
  exact ybf hge hlen' htk
-- []Mover
def ycf : List Mover → Int → Int:=yeE ycV
def yfK : List Mover → Prop:=ycs Mover.small
theorem ylJ : yey ycf yfK:=ygj ymQ
theorem yuF (xs : List Mover) (l : Int) (h0 : 0 ≤ l) (h1 : l ≤ 1048576) : yB Tryz.prog 84 [.c (.sl 3 (xs.map Mover.enc)),.c (.i l)] (.c (.i (ycf xs l))):=by
 refine yh ynH ?_
 simp -dsimp -implicitDefEqProofs
 intro hl
 have hs : szS xs.length l = if l - xs.length < 0 then -1 else l - xs.length:=rfl
 refine ⟨by unfold maxLen at hl; unfold inI; omega,fun h=>?_,fun h=>?_⟩
 ·simp [ycf,yeE,ybm,hs,h]
 have h' : 0 ≤ l - xs.length:=by omega
 have e0 : ycf xs l = yaw ycV xs (l - xs.length):=by
  have : szS xs.length l = l - xs.length:=by rw [hs,if_neg (by omega)]
  simp only [ycf,yeE]
  rw [this,yu h']
 refine yg (ι:=Nat × Int) (fun p=>p.1 ≤ xs.length ∧ 0 ≤ p.2 ∧ p.2 ≤ 1048576 ∧ yaw ycV (xs.drop p.1) p.2 = ycf xs l) (fun p=>yO [(0,.c (.sl 3 (xs.map Mover.enc))),(1,.c (.i p.2)),(5,.c (.i p.1))] []) (fun p=>xs.length - p.1) (0,l - xs.length) ⟨by simp,h',by simp only; omega,by simp [e0]⟩ (by apply yj <;> simp) ?_
 rintro ⟨k,q⟩ ⟨hk,hq0,hq1,hf⟩
 simp only at hk hq0 hq1 hf
 rcases Nat.lt_or_ge k xs.length with hlt | hge
 ·obtain ⟨e,he⟩ : ∃ e,xs[k]? = some e:=⟨_,List.getElem?_eq_getElem hlt⟩
  have hd : xs.drop k = e :: xs.drop (k + 1):=by
   rw [List.drop_eq_getElem_cons hlt,(List.getElem?_eq_some_iff.1 he).2]
  rw [hd,yaw] at hf
  simp -dsimp -implicitDefEqProofs [he,yG hlt]
  refine fun _=>yaQ (yvT e q hq0 hq1) (by simp) rfl ?_
  simp -dsimp -implicitDefEqProofs
  refine ⟨fun h=>by rw [← hf,yK h],fun h=>⟨yw hlt hl,k + 1,⟨ycV e q,?_⟩⟩⟩
  rw [yu h] at hf
  have hle : ycV e q ≤ 1048576:=by
   rcases ymQ e q hq0 hq1 with e1 | e1
   ·omega
   ·omega
  exact ⟨⟨hlt,h,hle,hf⟩,by omega,by apply yj <;> simp⟩
 ·simp -dsimp -implicitDefEqProofs [yaB hge]
  rw [List.drop_of_length_le hge] at hf
  intro _
  first | simpa [yaw] using hf | simpa [yaw] using hf.symm
theorem ywy (xs : List Mover) (hl : yfK xs) : yB Tryz.prog 96 [.c (.sl 3 (xs.map Mover.enc))] (.c (.sl 3 (xs.map Mover.enc))):=by
 refine yh yiz ?_
 simp -dsimp -implicitDefEqProofs
 intro hlen
 have hl1:=hl.1
 refine ⟨by omega,?_⟩
 refine yg (ι:=Nat) (fun k=>k ≤ xs.length) (fun k=>yO [(0,.c (.sl 3 (xs.map Mover.enc))),(3,.own 7 3 xs.length),(4,.c (.i k))] [(7,.row 3 (partly Mover.enc [.b false,.sl 1 [],.i 0] xs k))]) (fun k=>xs.length - k) 0 (by simp) (by apply yj <;> simp [yab]) ?_
 rintro k hk
 rcases Nat.lt_or_ge k xs.length with hlt | hge
 ·obtain ⟨e,he⟩ : ∃ e,xs[k]? = some e:=⟨_,List.getElem?_eq_getElem hlt⟩
  have hs:=yaj (f:=Mover.enc) (z:=[.b false,.sl 1 [],.i 0]) he
  have hd:=yav (f:=Mover.enc) (z:=[.b false,.sl 1 [],.i 0]) (n:=3) rfl hlt
  simp only [Mover.enc,Train.enc] at hs
  simp -dsimp -implicitDefEqProofs [he,yG hlt]
  refine fun _=>yaP (yyk e (hl.2 e (List.mem_of_getElem? he))) (by simp) rfl ?_
  simp -dsimp -implicitDefEqProofs [yG hlt,yak hk,hd,hs]
  exact ⟨hlt,yw hlt hlen,k + 1,hlt,by omega,by apply yj <;> simp⟩
 ·simp -dsimp -implicitDefEqProofs [yaB hge]
  intro _
  rw [yam hge,List.take_of_length_le (by simp)]
theorem ywq (es fs : List Mover) : yB Tryz.prog 113 [.c (.sl 3 (es.map Mover.enc)),.c (.sl 3 (fs.map Mover.enc))] (.c (.b (decide (es = fs)))):=by
 refine yh ynq ?_
 simp -dsimp -implicitDefEqProofs
 intro hl1 hl2
 refine ⟨fun h e=>h (by rw [e]),fun hlen=>?_⟩
 have hlen' : es.length = fs.length:=by omega
 refine yg (ι:=Nat) (fun k=>k ≤ es.length ∧ es.take k = fs.take k) (fun k=>yO [(0,.c (.sl 3 (es.map Mover.enc))),(1,.c (.sl 3 (fs.map Mover.enc))),(5,.c (.i k))] []) (fun k=>es.length - k) 0 (by simp) (by apply yj <;> simp) ?_
 rintro k ⟨hk,htk⟩
 rcases Nat.lt_or_ge k es.length with hlt | hge
 ·obtain ⟨e,he⟩ : ∃ e,es[k]? = some e:=⟨_,List.getElem?_eq_getElem hlt⟩
  obtain ⟨f,hf⟩ : ∃ f,fs[k]? = some f:=⟨_,List.getElem?_eq_getElem (by omega)⟩
  simp -dsimp -implicitDefEqProofs [he,hf,yG hlt,yG (hlen' ▸ hlt)]
  intro _
  refine yaC (yxY e f) ?_
  simp -dsimp -implicitDefEqProofs
  refine ⟨fun h=>ybG he hf h,fun h=>⟨yw hlt hl1,k + 1,⟨hlt,yaR he hf htk h⟩,by omega,by apply yj <;> simp⟩⟩
 ·simp -dsimp -implicitDefEqProofs [yaB hge]
  intro _
  exact ybf hge hlen' htk
abbrev yZ (xs : List Mover) : List C:=[.sl 3 (xs.map Mover.enc)]
-- [][]Mover
def ydg : List (List Mover) → Int → Int:=yeE ycf
def ye2 : List (List Mover) → Prop:=ycs yfK
theorem yjX : yey ydg ye2:=ygj ylJ
theorem ytd (xs : List (List Mover)) (l : Int) (h0 : 0 ≤ l) (h1 : l ≤ 1048576) : yB Tryz.prog 20 [.c (.sl 1 (xs.map yZ)),.c (.i l)] (.c (.i (ydg xs l))):=by
 refine yh yma ?_
 simp -dsimp -implicitDefEqProofs
 intro hl
 have hs : szS xs.length l = if l - xs.length < 0 then -1 else l - xs.length:=rfl
 refine ⟨by unfold maxLen at hl; unfold inI; omega,fun h=>?_,fun h=>?_⟩
 ·simp [ydg,yeE,ybm,hs,h]
 have h' : 0 ≤ l - xs.length:=by omega
 have e0 : ydg xs l = yaw ycf xs (l - xs.length):=by
  have : szS xs.length l = l - xs.length:=by rw [hs,if_neg (by omega)]
  simp only [ydg,yeE]
  rw [this,yu h']
 refine yg (ι:=Nat × Int) (fun p=>p.1 ≤ xs.length ∧ 0 ≤ p.2 ∧ p.2 ≤ 1048576 ∧ yaw ycf (xs.drop p.1) p.2 = ydg xs l) (fun p=>yO [(0,.c (.sl 1 (xs.map yZ))),(1,.c (.i p.2)),(5,.c (.i p.1))] []) (fun p=>xs.length - p.1) (0,l - xs.length) ⟨by simp,h',by simp only; omega,by simp [e0]⟩ (by apply yj <;> simp) ?_
 rintro ⟨k,q⟩ ⟨hk,hq0,hq1,hf⟩
 simp only at hk hq0 hq1 hf
 rcases Nat.lt_or_ge k xs.length with hlt | hge
 ·obtain ⟨e,he⟩ : ∃ e,xs[k]? = some e:=⟨_,List.getElem?_eq_getElem hlt⟩
  have hd : xs.drop k = e :: xs.drop (k + 1):=by
   rw [List.drop_eq_getElem_cons hlt,(List.getElem?_eq_some_iff.1 he).2]
  rw [hd,yaw] at hf
  simp -dsimp -implicitDefEqProofs [he,yG hlt]
  refine fun _=>yaQ (yuF e q hq0 hq1) (by simp) rfl ?_
  simp -dsimp -implicitDefEqProofs
  refine ⟨fun h=>by rw [← hf,yK h],fun h=>⟨yw hlt hl,k + 1,⟨ycf e q,?_⟩⟩⟩
  rw [yu h] at hf
  have hle : ycf e q ≤ 1048576:=by
   rcases ylJ e q hq0 hq1 with e1 | e1
   ·omega
   ·omega
  exact ⟨⟨hlt,h,hle,hf⟩,by omega,by apply yj <;> simp⟩
 ·simp -dsimp -implicitDefEqProofs [yaB hge]
  rw [List.drop_of_length_le hge] at hf
  intro _
  first | simpa [yaw] using hf | simpa [yaw] using hf.symm
theorem yuh (xs : List (List Mover)) (hl : ye2 xs) : yB Tryz.prog 33 [.c (.sl 1 (xs.map yZ))] (.c (.sl 1 (xs.map yZ))):=by
 refine yh ygW ?_
 simp -dsimp -implicitDefEqProofs
 intro hlen
 have hl1:=hl.1
 refine ⟨by omega,yQd ?_⟩
 simp -dsimp -implicitDefEqProofs
 refine yg (ι:=Nat) (fun k=>k ≤ xs.length) (fun k=>yO [(0,.c (.sl 1 (xs.map yZ))),(3,.own 7 1 xs.length),(4,.c (.i k))] [(7,.row 1 (partly yZ [.sl 3 []] xs k))]) (fun k=>xs.length - k) 0 (by simp) (by apply yj <;> simp [yab]) ?_
 rintro k hk
 rcases Nat.lt_or_ge k xs.length with hlt | hge
 ·obtain ⟨e,he⟩ : ∃ e,xs[k]? = some e:=⟨_,List.getElem?_eq_getElem hlt⟩
  have hs:=yaj (f:=yZ) (z:=[.sl 3 []]) he
  have hd : ((partly yZ [.sl 3 []] xs k)[k]?.getD []).set 0 (.sl 3 (e.map Mover.enc)) = [.sl 3 (e.map Mover.enc)]:=by
   have:=ydK (f:=yZ) (z:=[.sl 3 []]) (n:=1) rfl (fun _=>rfl) hlt
   obtain ⟨x,hx⟩:=List.length_eq_one_iff.1 this
   rw [hx]; rfl
  have hs2 : (partly yZ [.sl 3 []] xs k).set k [.sl 3 (e.map Mover.enc)] = partly yZ [.sl 3 []] xs (k + 1):=hs
  simp -dsimp -implicitDefEqProofs [he,yG hlt]
  refine fun _=>yaP (ywy e (hl.2 e (List.mem_of_getElem? he))) (by simp) rfl ?_
  simp -dsimp -implicitDefEqProofs [yG hlt,yak hk,hd,hs2]
  exact ⟨hlt,yw hlt hlen,k + 1,hlt,by omega,by apply yj <;> simp⟩
 ·simp -dsimp -implicitDefEqProofs [yaB hge]
  intro _
  rw [yam hge,List.take_of_length_le (by simp)]
theorem yvc (es fs : List (List Mover)) : yB Tryz.prog 47 [.c (.sl 1 (es.map yZ)),.c (.sl 1 (fs.map yZ))] (.c (.b (decide (es = fs)))):=by
 refine yh ymn ?_
 simp -dsimp -implicitDefEqProofs
 intro hl1 hl2
 refine ⟨fun h e=>h (by rw [e]),fun hlen=>?_⟩
 have hlen' : es.length = fs.length:=by omega
 refine yg (ι:=Nat) (fun k=>k ≤ es.length ∧ es.take k = fs.take k) (fun k=>yO [(0,.c (.sl 1 (es.map yZ))),(1,.c (.sl 1 (fs.map yZ))),(5,.c (.i k))] []) (fun k=>es.length - k) 0 (by simp) (by apply yj <;> simp) ?_
 rintro k ⟨hk,htk⟩
 rcases Nat.lt_or_ge k es.length with hlt | hge
 ·obtain ⟨e,he⟩ : ∃ e,es[k]? = some e:=⟨_,List.getElem?_eq_getElem hlt⟩
  obtain ⟨f,hf⟩ : ∃ f,fs[k]? = some f:=⟨_,List.getElem?_eq_getElem (by omega)⟩
  simp -dsimp -implicitDefEqProofs [he,hf,yG hlt,yG (hlen' ▸ hlt)]
  intro _
  refine yaC (ywq e f) ?_
  simp -dsimp -implicitDefEqProofs
  refine ⟨fun h=>ybG he hf h,fun h=>⟨yw hlt hl1,k + 1,⟨hlt,yaR he hf htk h⟩,by omega,by apply yj <;> simp⟩⟩
 ·simp -dsimp -implicitDefEqProofs [yaB hge]
  intro _
  exact ybf hge hlen' htk
structure Passing where
 Time : Int
 Work : Int
 Train : Train
 deriving DecidableEq,Inhabited
@[simp] def Passing.enc (e : Passing) : List C:=[.i e.Time,.i e.Work,.b e.Train.Up,.sl 1 (e.Train.Rows.map yai)]
-- Passing
def ybM (e : Passing) (l : Int) : Int:=ybm (yb2 e.Train l) fun l=>l
def Passing.small (e : Passing) : Prop:=e.Train.small
theorem yj0 : yey ybM Passing.small:=by
 intro e l h0 h1
 unfold ybM
 rcases ye7 e.Train _ h0 h1 with e0 | ⟨a0,b0,s0⟩
 ·exact .inl (yK (by omega))
 rw [yu a0]
 exact .inr ⟨a0,by omega,s0⟩
theorem ytC (e : Passing) (l : Int) (h0 : 0 ≤ l) (h1 : l ≤ 1048576) : yB Tryz.prog 86 [.agg (e.enc.map .c),.c (.i l)] (.c (.i (ybM e l))):=by
 refine yh ymq ?_
 simp -dsimp -implicitDefEqProofs
 refine yc (yhF e.Train _ h0 h1) ?_
 simp -dsimp -implicitDefEqProofs
 refine ⟨fun h=>by simp [ybM,yK h],fun p0=>?_⟩
 simp [ybM,yu p0]
theorem ytG (e : Passing) (hl : Passing.small e) : yB Tryz.prog 99 [.agg (e.enc.map .c)] (.agg (e.enc.map .c)):=by
 refine yh yg7 ?_
 simp -dsimp -implicitDefEqProofs
 refine yS (yjt e.Train hl) ?_
 simp -dsimp -implicitDefEqProofs
theorem yu9 (a b : Passing) : yB Tryz.prog 116 [.agg (a.enc.map .c),.agg (b.enc.map .c)] (.c (.b (decide (a = b)))):=by
 refine yh ymw ?_
 obtain ⟨a0,a1,a2⟩:=a
 obtain ⟨b0,b1,b2⟩:=b
 simp -dsimp -implicitDefEqProofs [yhh,Passing.mk.injEq]
 refine ⟨fun h=>by simp_all,fun h0=>?_⟩
 refine ⟨fun h=>by simp_all,fun h1=>?_⟩
 refine yc (yjG a2 b2) ?_
 simp -dsimp -implicitDefEqProofs
 refine ⟨fun h=>by simp_all,fun h2=>?_⟩
 simp_all
-- []Passing
def ycH : List Passing → Int → Int:=yeE ybM
def yeB : List Passing → Prop:=ycs Passing.small
theorem yoN : yey ycH yeB:=ygj yj0
theorem yqp (xs : List Passing) (l : Int) (h0 : 0 ≤ l) (h1 : l ≤ 1048576) : yB Tryz.prog 25 [.c (.sl 4 (xs.map Passing.enc)),.c (.i l)] (.c (.i (ycH xs l))):=by
 refine yh ylD ?_
 simp -dsimp -implicitDefEqProofs
 intro hl
 have hs : szS xs.length l = if l - xs.length < 0 then -1 else l - xs.length:=rfl
 refine ⟨by unfold maxLen at hl; unfold inI; omega,fun h=>?_,fun h=>?_⟩
 ·simp [ycH,yeE,ybm,hs,h]
 have h' : 0 ≤ l - xs.length:=by omega
 have e0 : ycH xs l = yaw ybM xs (l - xs.length):=by
  have : szS xs.length l = l - xs.length:=by rw [hs,if_neg (by omega)]
  simp only [ycH,yeE]
  rw [this,yu h']
 refine yg (ι:=Nat × Int) (fun p=>p.1 ≤ xs.length ∧ 0 ≤ p.2 ∧ p.2 ≤ 1048576 ∧ yaw ybM (xs.drop p.1) p.2 = ycH xs l) (fun p=>yO [(0,.c (.sl 4 (xs.map Passing.enc))),(1,.c (.i p.2)),(5,.c (.i p.1))] []) (fun p=>xs.length - p.1) (0,l - xs.length) ⟨by simp,h',by simp only; omega,by simp [e0]⟩ (by apply yj <;> simp) ?_
 rintro ⟨k,q⟩ ⟨hk,hq0,hq1,hf⟩
 simp only at hk hq0 hq1 hf
 rcases Nat.lt_or_ge k xs.length with hlt | hge
 ·obtain ⟨e,he⟩ : ∃ e,xs[k]? = some e:=⟨_,List.getElem?_eq_getElem hlt⟩
  have hd : xs.drop k = e :: xs.drop (k + 1):=by
   rw [List.drop_eq_getElem_cons hlt,(List.getElem?_eq_some_iff.1 he).2]
  rw [hd,yaw] at hf
  simp -dsimp -implicitDefEqProofs [he,yG hlt]
  refine fun _=>yaQ (ytC e q hq0 hq1) (by simp) rfl ?_
  simp -dsimp -implicitDefEqProofs
  refine ⟨fun h=>by rw [← hf,yK h],fun h=>⟨yw hlt hl,k + 1,⟨ybM e q,?_⟩⟩⟩
  rw [yu h] at hf
  have hle : ybM e q ≤ 1048576:=by
   rcases yj0 e q hq0 hq1 with e1 | e1
   ·omega
   ·omega
  exact ⟨⟨hlt,h,hle,hf⟩,by omega,by apply yj <;> simp⟩
 ·simp -dsimp -implicitDefEqProofs [yaB hge]
  rw [List.drop_of_length_le hge] at hf
  intro _
  first | simpa [yaw] using hf | simpa [yaw] using hf.symm
theorem ysA (xs : List Passing) (hl : yeB xs) : yB Tryz.prog 38 [.c (.sl 4 (xs.map Passing.enc))] (.c (.sl 4 (xs.map Passing.enc))):=by
 refine yh ygz ?_
 simp -dsimp -implicitDefEqProofs
 intro hlen
 have hl1:=hl.1
 refine ⟨by omega,?_⟩
 refine yg (ι:=Nat) (fun k=>k ≤ xs.length) (fun k=>yO [(0,.c (.sl 4 (xs.map Passing.enc))),(3,.own 7 4 xs.length),(4,.c (.i k))] [(7,.row 4 (partly Passing.enc [.i 0,.i 0,.b false,.sl 1 []] xs k))]) (fun k=>xs.length - k) 0 (by simp) (by apply yj <;> simp [yab]) ?_
 rintro k hk
 rcases Nat.lt_or_ge k xs.length with hlt | hge
 ·obtain ⟨e,he⟩ : ∃ e,xs[k]? = some e:=⟨_,List.getElem?_eq_getElem hlt⟩
  have hs:=yaj (f:=Passing.enc) (z:=[.i 0,.i 0,.b false,.sl 1 []]) he
  have hd:=yav (f:=Passing.enc) (z:=[.i 0,.i 0,.b false,.sl 1 []]) (n:=4) rfl hlt
  simp only [Passing.enc,Train.enc] at hs
  simp -dsimp -implicitDefEqProofs [he,yG hlt]
  refine fun _=>yaP (ytG e (hl.2 e (List.mem_of_getElem? he))) (by simp) rfl ?_
  simp -dsimp -implicitDefEqProofs [yG hlt,yak hk,hd,hs]
  exact ⟨hlt,yw hlt hlen,k + 1,hlt,by omega,by apply yj <;> simp⟩
 ·simp -dsimp -implicitDefEqProofs [yaB hge]
  intro _
  rw [yam hge,List.take_of_length_le (by simp)]
theorem ytz (es fs : List Passing) : yB Tryz.prog 52 [.c (.sl 4 (es.map Passing.enc)),.c (.sl 4 (fs.map Passing.enc))] (.c (.b (decide (es = fs)))):=by
 refine yh ylI ?_
 simp -dsimp -implicitDefEqProofs
 intro hl1 hl2
 refine ⟨fun h e=>h (by rw [e]),fun hlen=>?_⟩
 have hlen' : es.length = fs.length:=by omega
 refine yg (ι:=Nat) (fun k=>k ≤ es.length ∧ es.take k = fs.take k) (fun k=>yO [(0,.c (.sl 4 (es.map Passing.enc))),(1,.c (.sl 4 (fs.map Passing.enc))),(5,.c (.i k))] []) (fun k=>es.length - k) 0 (by simp) (by apply yj <;> simp) ?_
 rintro k ⟨hk,htk⟩
 rcases Nat.lt_or_ge k es.length with hlt | hge
 ·obtain ⟨e,he⟩ : ∃ e,es[k]? = some e:=⟨_,List.getElem?_eq_getElem hlt⟩
  obtain ⟨f,hf⟩ : ∃ f,fs[k]? = some f:=⟨_,List.getElem?_eq_getElem (by omega)⟩
  simp -dsimp -implicitDefEqProofs [he,hf,yG hlt,yG (hlen' ▸ hlt)]
  intro _
  refine yaC (yu9 e f) ?_
  simp -dsimp -implicitDefEqProofs
  refine ⟨fun h=>ybG he hf h,fun h=>⟨yw hlt hl1,k + 1,⟨hlt,yaR he hf htk h⟩,by omega,by apply yj <;> simp⟩⟩
 ·simp -dsimp -implicitDefEqProofs [yaB hge]
  intro _
  exact ybf hge hlen' htk
structure Waterway where
 Time : Int
 Reaches : List Reach
 Ways : List Way
 Works : List Work
 Movers : List (List Mover)
 Arrived : List Train
 Entered : List Int
 Tariff : Tariff
 Book : List Entry
 Passings : List Passing
 Start : Int
 In : Int
 Out : Int
 deriving DecidableEq
@[simp] def Waterway.enc (e : Waterway) : List C:=[.i e.Time,.sl 3 (e.Reaches.map Reach.enc),.sl 2 (e.Ways.map Way.enc),.sl 22 (e.Works.map Work.enc),.sl 1 (e.Movers.map yZ),.sl 2 (e.Arrived.map Train.enc),.sl 1 (e.Entered.map yJ),.i e.Tariff.Base,.i e.Tariff.PerArea,.sl 1 (e.Tariff.PerClass.map yJ),.sl 1 (e.Tariff.Weights.map yJ),.sl 5 (e.Book.map Entry.enc),.sl 4 (e.Passings.map Passing.enc),.i e.Start,.i e.In,.i e.Out]
-- Waterway
def yaX (e : Waterway) (l : Int) : Int:=ybm (yd8 e.Reaches l) fun l=>ybm (yk3 e.Ways l) fun l=>ybm (yfc e.Works l) fun l=>ybm (ydg e.Movers l) fun l=>ybm (ydk e.Arrived l) fun l=>ybm (yhJ e.Entered l) fun l=>ybm (ydq e.Tariff l) fun l=>ybm (ygY e.Book l) fun l=>ybm (ycH e.Passings l) fun l=>l
def Waterway.small (e : Waterway) : Prop:=ycN e.Reaches ∧ yhr e.Ways ∧ yc8 e.Works ∧ ye2 e.Movers ∧ ybV e.Arrived ∧ ykx e.Entered ∧ e.Tariff.small ∧ ykU e.Book ∧ yeB e.Passings
theorem yqh : yey yaX Waterway.small:=by
 intro e l h0 h1
 unfold yaX
 rcases ykV e.Reaches _ h0 h1 with e0 | ⟨a0,b0,s0⟩
 ·exact .inl (yK (by omega))
 rw [yu a0]
 rcases ypU e.Ways _ a0 (by omega) with e1 | ⟨a1,b1,s1⟩
 ·exact .inl (yK (by omega))
 rw [yu a1]
 rcases ym4 e.Works _ a1 (by omega) with e2 | ⟨a2,b2,s2⟩
 ·exact .inl (yK (by omega))
 rw [yu a2]
 rcases yjX e.Movers _ a2 (by omega) with e3 | ⟨a3,b3,s3⟩
 ·exact .inl (yK (by omega))
 rw [yu a3]
 rcases yhu e.Arrived _ a3 (by omega) with e4 | ⟨a4,b4,s4⟩
 ·exact .inl (yK (by omega))
 rw [yu a4]
 rcases yeY e.Entered _ a4 (by omega) with e5 | ⟨a5,b5,s5⟩
 ·exact .inl (yK (by omega))
 rw [yu a5]
 rcases ylo e.Tariff _ a5 (by omega) with e6 | ⟨a6,b6,s6⟩
 ·exact .inl (yK (by omega))
 rw [yu a6]
 rcases ykP e.Book _ a6 (by omega) with e7 | ⟨a7,b7,s7⟩
 ·exact .inl (yK (by omega))
 rw [yu a7]
 rcases yoN e.Passings _ a7 (by omega) with e8 | ⟨a8,b8,s8⟩
 ·exact .inl (yK (by omega))
 rw [yu a8]
 exact .inr ⟨a8,by omega,s0,s1,s2,s3,s4,s5,s6,s7,s8⟩
theorem yq5 (e : Waterway) (l : Int) (h0 : 0 ≤ l) (h1 : l ≤ 1048576) : yB Tryz.prog 6 [.agg (e.enc.map .c),.c (.i l)] (.c (.i (yaX e l))):=by
 refine yh ylx ?_
 simp -dsimp -implicitDefEqProofs
 refine yc (yuf e.Reaches _ h0 h1) ?_
 simp -dsimp -implicitDefEqProofs
 refine ⟨fun h=>by simp [yaX,yK h],fun p0=>?_⟩
 have q0:=yin ykV e.Reaches h0 h1 p0
 refine yc (yxL e.Ways _ p0 q0) ?_
 simp -dsimp -implicitDefEqProofs
 refine ⟨fun h=>by simp [yaX,yu p0,yK h],fun p1=>?_⟩
 have q1:=yin ypU e.Ways p0 q0 p1
 refine yc (yv0 e.Works _ p1 q1) ?_
 simp -dsimp -implicitDefEqProofs
 refine ⟨fun h=>by simp [yaX,yu p0,yu p1,yK h],fun p2=>?_⟩
 have q2:=yin ym4 e.Works p1 q1 p2
 refine yc (ytd e.Movers _ p2 q2) ?_
 simp -dsimp -implicitDefEqProofs
 refine ⟨fun h=>by simp [yaX,yu p0,yu p1,yu p2,yK h],fun p3=>?_⟩
 have q3:=yin yjX e.Movers p2 q2 p3
 refine yc (ym0 e.Arrived _ p3 q3) ?_
 simp -dsimp -implicitDefEqProofs
 refine ⟨fun h=>by simp [yaX,yu p0,yu p1,yu p2,yu p3,yK h],fun p4=>?_⟩
 have q4:=yin yhu e.Arrived p3 q3 p4
 refine yc (yjw e.Entered _ p4 q4) ?_
 simp -dsimp -implicitDefEqProofs
 refine ⟨fun h=>by simp [yaX,yu p0,yu p1,yu p2,yu p3,yu p4,yK h],fun p5=>?_⟩
 have q5:=yin yeY e.Entered p4 q4 p5
 refine yc (yuv e.Tariff _ p5 q5) ?_
 simp -dsimp -implicitDefEqProofs
 refine ⟨fun h=>by simp [yaX,yu p0,yu p1,yu p2,yu p3,yu p4,yu p5,yK h],fun p6=>?_⟩
 have q6:=yin ylo e.Tariff p5 q5 p6
 refine yc (yuw e.Book _ p6 q6) ?_
 simp -dsimp -implicitDefEqProofs
 refine ⟨fun h=>by simp [yaX,yu p0,yu p1,yu p2,yu p3,yu p4,yu p5,yu p6,yK h],fun p7=>?_⟩
 have q7:=yin ykP e.Book p6 q6 p7
 refine yc (yqp e.Passings _ p7 q7) ?_
 simp -dsimp -implicitDefEqProofs
 refine ⟨fun h=>by simp [yaX,yu p0,yu p1,yu p2,yu p3,yu p4,yu p5,yu p6,yu p7,yK h],fun p8=>?_⟩
 simp [yaX,yu p0,yu p1,yu p2,yu p3,yu p4,yu p5,yu p6,yu p7,yu p8]
theorem yib (e : Waterway) (hl : Waterway.small e) : yB Tryz.prog 8 [.agg (e.enc.map .c)] (.agg (e.enc.map .c)):=by
 refine yh ygH ?_
 simp -dsimp -implicitDefEqProofs
 refine yS (ywf e.Reaches (hl.1)) ?_
 simp -dsimp -implicitDefEqProofs
 refine yS (yzL e.Ways (hl.2.1)) ?_
 simp -dsimp -implicitDefEqProofs
 refine yS (yyh e.Works (hl.2.2.1)) ?_
 simp -dsimp -implicitDefEqProofs
 refine yS (yuh e.Movers (hl.2.2.2.1)) ?_
 simp -dsimp -implicitDefEqProofs
 refine yS (ypD e.Arrived (hl.2.2.2.2.1)) ?_
 simp -dsimp -implicitDefEqProofs
 refine yS (ylC e.Entered (hl.2.2.2.2.2.1.1)) ?_
 simp -dsimp -implicitDefEqProofs
 refine yS (ywB e.Tariff (hl.2.2.2.2.2.2.1)) ?_
 simp -dsimp -implicitDefEqProofs
 refine yS (yvG e.Book (hl.2.2.2.2.2.2.2.1.1)) ?_
 simp -dsimp -implicitDefEqProofs
 refine yS (ysA e.Passings (hl.2.2.2.2.2.2.2.2)) ?_
 simp -dsimp -implicitDefEqProofs
theorem yfL (a b : Waterway) : yB Tryz.prog 10 [.agg (a.enc.map .c),.agg (b.enc.map .c)] (.c (.b (decide (a = b)))):=by
 refine yh ylL ?_
 obtain ⟨a0,a1,a2,a3,a4,a5,a6,a7,a8,a9,a10,a11,a12⟩:=a
 obtain ⟨b0,b1,b2,b3,b4,b5,b6,b7,b8,b9,b10,b11,b12⟩:=b
 simp -dsimp -implicitDefEqProofs [ygr,Waterway.mk.injEq]
 refine ⟨fun h=>by simp_all,fun h0=>?_⟩
 refine yc (ywC a1 b1) ?_
 simp -dsimp -implicitDefEqProofs
 refine ⟨fun h=>by simp_all,fun h1=>?_⟩
 refine yc (yzd a2 b2) ?_
 simp -dsimp -implicitDefEqProofs
 refine ⟨fun h=>by simp_all,fun h2=>?_⟩
 refine yc (yyy a3 b3) ?_
 simp -dsimp -implicitDefEqProofs
 refine ⟨fun h=>by simp_all,fun h3=>?_⟩
 refine yc (yvc a4 b4) ?_
 simp -dsimp -implicitDefEqProofs
 refine ⟨fun h=>by simp_all,fun h4=>?_⟩
 refine yc (ypz a5 b5) ?_
 simp -dsimp -implicitDefEqProofs
 refine ⟨fun h=>by simp_all,fun h5=>?_⟩
 refine yc (ykZ a6 b6) ?_
 simp -dsimp -implicitDefEqProofs
 refine ⟨fun h=>by simp_all,fun h6=>?_⟩
 refine yc (yv1 a7 b7) ?_
 simp -dsimp -implicitDefEqProofs
 refine ⟨fun h=>by simp_all,fun h7=>?_⟩
 refine yc (ywt a8 b8) ?_
 simp -dsimp -implicitDefEqProofs
 refine ⟨fun h=>by simp_all,fun h8=>?_⟩
 refine yc (ytz a9 b9) ?_
 simp -dsimp -implicitDefEqProofs
 refine ⟨fun h=>by simp_all,fun h9=>?_⟩
 refine ⟨fun h=>by simp_all,fun h10=>?_⟩
 refine ⟨fun h=>by simp_all,fun h11=>?_⟩
 refine ⟨fun h=>by simp_all,fun h12=>?_⟩
 simp_all
theorem yyF (es : List Boat) (hl : es.length ≤ 1048576) : ybh Tryz.prog 274 [.c (.sl 6 (es.map Boat.enc))] (.c (.ow 6 (es.map Boat.enc))):=by
 refine yan ydo ?_
 simp -dsimp -implicitDefEqProofs [ybH,yt]
 omega
theorem yvV (xs : List (List Boat)) (hl : yej xs) : ybh Tryz.prog 215 [.c (.sl 1 (xs.map yai))] (.c (.ot 1 (xs.map yT))):=by
 refine yan yna ?_
 simp -dsimp -implicitDefEqProofs
 intro hlen
 have hl1:=hl.1
 refine yfV (k0:=1) 3 1 (by simp) (by simp) (by decide) ?_
 refine yg (ι:=Nat) (fun k=>k ≤ xs.length) (fun k=>yO [(3,.own 3 1 k),(6,.c (.sl 1 (xs.map yai))),(7,.c (.i xs.length)),(8,.c (.i k))] [(3,.tr 1 0 ((xs.take k).map yT))]) (fun k=>xs.length - k) 0 (by simp) (by apply yj <;> simp [Obj.leO]) ?_
 rintro k hk
 rcases Nat.lt_or_ge k xs.length with hlt | hge
 ·obtain ⟨e,he⟩ : ∃ e,xs[k]? = some e:=⟨_,List.getElem?_eq_getElem hlt⟩
  have hs : xs.take (k + 1) = xs.take k ++ [e]:=by rw [List.take_succ,he]; rfl
  simp -dsimp -implicitDefEqProofs [he,yG hlt]
  refine yQ (yyF e (hl.2 e (List.mem_of_getElem? he)).1) (by simp ) (by simp [AV.closed,AV.ya7,C.closed]) (by simp [yU]) ?_
  simp -dsimp -implicitDefEqProofs [yt,Nat.min_eq_left hk]
  refine ⟨by omega,yw hlt hlen,k + 1,hlt,by omega,?_⟩
  have hs2 : (xs.map yT).take (k + 1) = (xs.map yT).take k ++ [[.ow 6 (e.map Boat.enc)]]:=by rw [← List.map_take,← List.map_take,hs,List.map_append]; rfl
  apply yj <;> simp [Obj.leO,hs2]
 ·have : k = xs.length:=by omega
  subst this
  simp -dsimp -implicitDefEqProofs [yt]
  try simp
theorem ygJ (e : Train) (hl : Train.small e) : ybh Tryz.prog 134 [.agg (e.enc.map .c)] (.agg (e.yI.map .c)):=by
 refine yan yl6 ?_
 simp -dsimp -implicitDefEqProofs
 refine yfW (yvV e.Rows hl) (by simp) (by simp [AV.closed,AV.ya7,C.closed,yT]) (by simp [yU]) ?_
 simp -dsimp -implicitDefEqProofs [yt]
theorem yQq (t : Train) (d : Int) : 0 ≤ yPm t d ∧ yPm t d ≤ 51:=by
 have:=yP7 t
 unfold yPm
 split
 ·split
  ·rw [Int.tdiv_eq_ediv_of_nonneg (by omega)]; omega
  ·omega
 ·omega
theorem yQn {m : Mover} {w : Way} (h : ybk m w = true) : (1 ≤ w.Long ∧ w.Long ≤ 10000) ∧ (0 ≤ m.Place ∧ m.Place ≤ w.Long):=by
 simp only [ybk,Bool.and_eq_true] at h
 exact ⟨(yQj h.1.1).1,yF.1 h.2⟩
def yPQ (m : Mover) (w : Way) (r : Reach) : Int :=
 if m.Train.Up then (if 0 < m.Place - yPm m.Train (yPl w r) then m.Place - yPm m.Train (yPl w r) else 0)
 else if m.Place + yPm m.Train (yPl w r) < w.Long then m.Place + yPm m.Train (yPl w r) else w.Long
def yPd (m : Mover) (w : Way) (r : Reach) : Mover:=if ybk m w && yR r then ⟨m.Train,yPQ m w r⟩ else m
theorem yRG (m : Mover) (w : Way) (r : Reach) (hm : m.small) : yB Tryz.prog 138 [.agg (m.enc.map .c),.agg (w.enc.map .c),.agg (r.enc.map .c)] (.agg ((yPd m w r).enc.map .c)):=by
 refine yh yQ3 ?_
 simp -dsimp -implicitDefEqProofs
 refine yc (yr9 m w hm) ?_
 cases h1 : ybk m w with
 | false=>simp -dsimp -implicitDefEqProofs; simp [yPd,h1]
 | true =>
  simp -dsimp -implicitDefEqProofs
  refine yc (yby r) ?_
  cases h2 : yR r with
  | false=>simp -dsimp -implicitDefEqProofs; simp [yPd,h2]
  | true =>
   simp -dsimp -implicitDefEqProofs
   refine yaC (yQU w r) ?_
   simp -dsimp -implicitDefEqProofs
   refine yaC (yRe m.Train (yPl w r) hm) ?_
   have hp:=yQq m.Train (yPl w r)
   have hf:=yQn h1
   cases hu : m.Train.Up with
   | true =>
    simp -dsimp -implicitDefEqProofs [hu]
    refine ⟨by unfold inI; omega,?_⟩
    simp [yPd,h1,h2,yPQ,hu]
   | false =>
    simp -dsimp -implicitDefEqProofs [hu]
    refine ⟨by unfold inI; omega,?_⟩
    simp [yPd,h1,h2,yPQ,hu]
theorem yP4 {m : Mover} {w : Way} {r : Reach} : (yPd m w r).Train = m.Train:=by unfold yPd; split <;> rfl
theorem yeh {k : Nat} {xs : List X} {s : St} : wOf (.bsl k xs) s = (xs.map s.ev).flatMap AV.ids:=rfl
theorem ygX (e : Train) (hl : Train.small e) : yB Tryz.prog 120 [.agg (e.enc.map .c)] (.agg (e.enc.map .c)):=by
 refine yh ypE ?_
 simp -dsimp -implicitDefEqProofs
 have hl1:=hl.1
 refine yg (ι:=Nat) (fun k=>k ≤ e.Rows.length) (fun k=>match k with
  | 0=>yO [(1,.box 1 0),(2,.box 2 0),(3,.box 3 0),(4,.c (.i 0))] [(1,.box [.c (.b e.Up),.c (.sl 1 (e.Rows.map yai))]),(2,.box [.c (.b false),.nil 1]),(3,.box [.c (.b e.Up),.nil 1])]
  | k + 1=>yO [(1,.box 1 0),(2,.box 2 0),(3,.box 3 0),(4,.c (.i (k + 1)))] [(1,.box [.c (.b e.Up),.c (.sl 1 (e.Rows.map yai))]),(2,.box [.c (.b false),.nil 1]),(3,.box [.c (.b e.Up),.own 25 1 (k + 1)]),(25,.tr 1 0 ((e.Rows.map yT).take (k + 1)))]) (fun k=>e.Rows.length - k) 0 (by simp) (by apply yj <;> simp [Obj.leO]) ?_
 rintro k hk
 rcases k with _ | k
 ·rcases Nat.lt_or_ge 0 e.Rows.length with hlt | hge
  ·obtain ⟨r,he⟩ : ∃ r,e.Rows[0]? = some r:=⟨_,List.getElem?_eq_getElem hlt⟩
   have h0 : (0 < e.Rows.length) = True:=by simpa using hlt
   have hgr : e.Rows[0] = r:=(List.getElem?_eq_some_iff.1 he).2
   have hrl:=(hl.2 r (List.mem_of_getElem? he)).1
   simp -dsimp -implicitDefEqProofs [he,h0,hgr,yt,yeh]
   intro hlen
   refine ⟨by omega,by unfold inI; omega,1,hlt,by omega,?_⟩
   have hs2 : (e.Rows.map yT).take 1 = [[.ow 6 (r.map Boat.enc)]]:=by
    obtain ⟨y,l,hy⟩ : ∃ y l,e.Rows = y :: l:=by cases hr : e.Rows with | nil=>rw [hr] at hlt; simp at hlt | cons y l=>exact ⟨y,l,rfl⟩
    rw [hy] at he ⊢; simp at he; subst he; rfl
   apply yj <;> simp [Obj.leO,hs2]
  ·have hx : e.Rows = []:=List.length_eq_zero_iff.1 (by omega)
   have h0 : (0 < e.Rows.length) = False:=by simp [hx]
   simp -dsimp -implicitDefEqProofs [h0]
   simp [hx]
 ·rcases Nat.lt_or_ge (k + 1) e.Rows.length with hlt | hge
  ·obtain ⟨r,he⟩ : ∃ r,e.Rows[k + 1]? = some r:=⟨_,List.getElem?_eq_getElem hlt⟩
   have h0 : ((k : Int) + 1 < e.Rows.length) = True:=by simp; omega
   have h1 : (0 ≤ (k : Int) + 1) = True:=by simp; omega
   have h2 : ((k : Int) + 1).toNat = k + 1:=by omega
   have hrl:=(hl.2 r (List.mem_of_getElem? he)).1
   simp -dsimp -implicitDefEqProofs [he,h0,h1,h2,yt,yeh]
   intro hlen
   refine ⟨by omega,by omega,by omega,by unfold inI; omega,k + 2,hlt,by omega,?_⟩
   have hs2 : (e.Rows.map yT).take (k + 2) = (e.Rows.map yT).take (k + 1) ++ [[.ow 6 (r.map Boat.enc)]]:=by
    rw [List.take_succ,List.getElem?_map,he]; rfl
   apply yj <;> simp [Obj.leO,hs2] <;> omega
  ·have h0 : ((k : Int) + 1 < e.Rows.length) = False:=by simp; omega
   have hx : e.Rows.length = k + 1:=by omega
   simp -dsimp -implicitDefEqProofs [h0]
   intro _
   have e1 : (e.Rows.map yT).take (k + 1) = e.Rows.map yT:=List.take_of_length_le (by simp; omega)
   rw [e1,e1,yag yeg]
   simp
theorem yub (n : Nat) (k : Int) (h0 : 0 ≤ k) (h1 : k + 6 * n ≤ 8000000000000000000) : yB Tryz.prog 223 [.c (.sl 6 (marked mkB 6 [] k n)),.c (.i k)] (.c (.i (k + 6 * n))):=by
 refine yh ymb ?_
 simp -dsimp -implicitDefEqProofs
 refine yg (ι:=Nat) (fun i=>i ≤ n) (fun i=>yO [(0,.c (.sl 6 (marked mkB 6 [] k n))),(1,.c (.i (k + 6 * i))),(5,.c (.i i))] []) (fun i=>n - i) 0 (by simp) (by apply yj <;> simp) ?_
 rintro i hi
 rcases Nat.lt_or_ge i n with hlt | hge
 ·have hg:=yfU (mk:=mkB) (c:=6) (k:=k) hlt
  simp only [mkB] at hg
  simp -dsimp -implicitDefEqProofs [yM,yG hlt,hg]
  intro hlen
  refine ⟨by unfold inI; omega,by unfold inI; omega,by unfold inI; omega,by unfold inI; omega,by unfold inI; omega,by unfold inI; omega,by unfold inI; omega,i + 1,hlt,by omega,?_⟩
  apply yj <;> simp <;> omega
 ·have : i = n:=by omega
  subst this
  simp -dsimp -implicitDefEqProofs [yM]
def fBs (k : Int) (r : List Boat) : List C:=[.sl 6 (marked mkB 6 [] k r.length)]
theorem yba {α : Type} {f g : Int → α → List C} {n : α → Nat} (h : ∀ k x,ybQ (f k x) = some (g k x)) : ∀ (l : List α) (k : Int),ykv (yaA f n k l) = some (yaA g n k l)
 | [],_=>rfl
 | x :: l,k=>by simp [yaA,ykv,h k x,yba h l]
theorem ysu (k : Int) (r : List Boat) : ybQ (fB k r) = some (fBs k r):=rfl
theorem yfS (xs : List (List Boat)) (k : Int) (h0 : 0 ≤ k) (h1 : k + cnt nB xs ≤ 8000000000000000000) : yB Tryz.prog 150 [.c (.sl 1 (yaA fBs nB k xs)),.c (.i k)] (.c (.i (k + cnt nB xs))):=by
 refine yh ykS ?_
 simp -dsimp -implicitDefEqProofs
 refine yg (ι:=Nat) (fun i=>i ≤ xs.length) (fun i=>yO [(0,.c (.sl 1 (yaA fBs nB k xs))),(1,.c (.i (k + yaK nB xs i))),(5,.c (.i i))] []) (fun i=>xs.length - i) 0 (by simp) (by apply yj <;> simp [ya0]) ?_
 rintro i hi
 rcases Nat.lt_or_ge i xs.length with hlt | hge
 ·obtain ⟨e,he⟩ : ∃ e,xs[i]? = some e:=⟨_,List.getElem?_eq_getElem hlt⟩
  have hg:=yfH (f:=fBs) (n:=nB) (k:=k) he
  have hc:=ya1 (n:=nB) he
  have hle:=ybS (n:=nB) (xs:=xs) (i:=i + 1)
  have hn : nB e = 6 * e.length:=rfl
  simp only [fBs] at hg
  simp -dsimp -implicitDefEqProofs [yH,yG hlt,hg]
  intro hlen
  refine yc (yub e.length (k + yaK nB xs i) (by omega) (by omega)) ?_
  have n1 : (k + (yaK nB xs i : Int) + 6 * (e.length : Int) < 0) = False:=by simp; omega
  simp -dsimp -implicitDefEqProofs [n1]
  refine ⟨yw hlt hlen,i + 1,hlt,by omega,?_⟩
  apply yj <;> simp <;> omega
 ·have : i = xs.length:=by omega
  subst this
  simp -dsimp -implicitDefEqProofs [yH]
  rw [ybl (Nat.le_refl _)]
  intro _; rfl
theorem yvX (es : List Entry) (hl : es.length ≤ 1048576) : ybh Tryz.prog 37 [.c (.sl 5 (es.map Entry.enc))] (.c (.ow 5 (es.map Entry.enc))):=by
 refine yan yiv ?_
 simp -dsimp -implicitDefEqProofs
 intro hlen
 refine ⟨by omega,?_⟩
 refine yg (ι:=Nat) (fun k=>k ≤ es.length) (fun k=>yO [(0,.c (.sl 5 (es.map Entry.enc))),(3,.own 7 5 es.length),(4,.c (.i k))] [(7,.row 5 (partly Entry.enc [.i 0,.i 0,.i 0,.i 0,.i 0] es k))]) (fun k=>es.length - k) 0 (by simp) (by apply yj <;> simp [yab]) ?_
 rintro k hk
 rcases Nat.lt_or_ge k es.length with hlt | hge
 ·obtain ⟨e,he⟩ : ∃ e,es[k]? = some e:=⟨_,List.getElem?_eq_getElem hlt⟩
  have hs:=yaj (f:=Entry.enc) (z:=[.i 0,.i 0,.i 0,.i 0,.i 0]) he
  have hd:=yav (f:=Entry.enc) (z:=[.i 0,.i 0,.i 0,.i 0,.i 0]) (n:=5) rfl hlt
  simp only [Entry.enc] at hs
  simp -dsimp -implicitDefEqProofs [he,yG hlt]
  refine fun _=>yaP (yrC e) (by simp) rfl ?_
  simp -dsimp -implicitDefEqProofs [yG hlt,yak hk,hd,hs]
  exact ⟨hlt,yw hlt hlen,k + 1,hlt,by omega,by apply yj <;> simp⟩
 ·simp -dsimp -implicitDefEqProofs [yaB hge]
  intro _
  rw [yam hge,List.take_of_length_le (by simp)]
def yjL (k : Int) : List C:=[.i k,.i (k + 1),.i (k + 1 + 1),.i (k + 1 + 1 + 1),.i (k + 1 + 1 + 1 + 1)]
theorem ysZ (xs : List Entry) (k : Int) (h0 : 0 ≤ k) (h1 : k + 5 * xs.length ≤ 4611686018427387904) :
 InF Tryz.prog 67 (.c (cw 5 (xs.map Entry.enc))) (.c (cw 5 (marked yjL 5 [] k xs.length))) [.c (.i k)] (.c (.i (k + 5 * xs.length))):=by
 rcases Nat.eq_zero_or_pos xs.length with hx | hx
 ·have : xs = []:=List.length_eq_zero_iff.1 hx
  subst this
  refine ybO ygv (by simp) (by simp) rfl fun hwf=>?_
  simp -dsimp -implicitDefEqProofs [yek,marked]
  refine yg (ι:=Unit) (fun _=>True) (fun _=>yO [(0,.c (.sl 5 [])),(1,.c (.i k)),(5,.c (.i 0)),(1000000,.c (.sl 5 []))] []) (fun _=>0) () trivial (by apply yj <;> simp) ?_
  rintro _ _
  simp -dsimp -implicitDefEqProofs
 ·rw [yb4 (by simpa using hx),yb4 (by rw [yM]; exact hx)]
  refine ybO ygv (by simp) (by simp) rfl fun hwf=>?_
  simp -dsimp -implicitDefEqProofs [yek]
  refine yg (ι:=Nat) (fun i=>i ≤ xs.length) (fun i=>yO [(0,.own 0 5 xs.length),(1,.c (.i (k + 5 * i))),(5,.c (.i i)),(1000000,.own 0 5 xs.length)] [(0,.row 5 (marked yjL 5 (xs.map Entry.enc) k i))]) (fun i=>xs.length - i) 0 (by simp) (by apply yj <;> simp [ydX]) ?_
  rintro i hi
  rcases Nat.lt_or_ge i xs.length with hlt | hge
  ·obtain ⟨e,he⟩ : ∃ e,xs[i]? = some e:=⟨_,List.getElem?_eq_getElem hlt⟩
   have hg:=yeR (mk:=yjL) (c:=5) (k:=k) (rows:=xs.map Entry.enc) (i:=i) (r:=e.enc) (by simp [he])
   have hl:=yeV (mk:=yjL) (c:=5) (k:=k) (rows:=xs.map Entry.enc) (i:=i) (by simpa using hi)
   have hs:=ye0 (mk:=yjL) (c:=5) (k:=k) (rows:=xs.map Entry.enc) (i:=i) (by simpa using hlt)
   rw [List.length_map] at hl
   generalize marked yjL 5 (xs.map Entry.enc) k i = M at *
   have hlt2 : i < M.length:=by omega
   have hself : ∀ a,(M.set i a)[i]? = some a:=fun a=>List.getElem?_set_self hlt2
   simp only [yjL] at hs
   simp only [Entry.enc] at hg
   simp -dsimp -implicitDefEqProofs [yG hlt,hg,hl,hlt2,hself]
   intro hlen
   refine ⟨hlt,by unfold inI; omega,hlt,by unfold inI; omega,hlt,by unfold inI; omega,hlt,by unfold inI; omega,hlt,by unfold inI; omega,by unfold inI; omega,i + 1,hlt,by omega,?_⟩
   apply yj <;> simp [hs,hself] <;> omega
  ·have : i = xs.length:=by omega
   subst this
   simp -dsimp -implicitDefEqProofs
   intro _
   have e:=yeI (mk:=yjL) (c:=5) (rows:=xs.map Entry.enc) (k:=k) (i:=xs.length) (by simp)
   rw [e,List.length_map,List.take_of_length_le (by rw [yM]; exact Nat.le_refl _)]
theorem ysf (n : Nat) (k : Int) (h0 : 0 ≤ k) (h1 : k + 5 * n ≤ 4611686018427387904) : yB Tryz.prog 76 [.c (.sl 5 (marked yjL 5 [] k n)),.c (.i k)] (.c (.i (k + 5 * n))):=by
 refine yh yli ?_
 simp -dsimp -implicitDefEqProofs
 refine yg (ι:=Nat) (fun i=>i ≤ n) (fun i=>yO [(0,.c (.sl 5 (marked yjL 5 [] k n))),(1,.c (.i (k + 5 * i))),(5,.c (.i i))] []) (fun i=>n - i) 0 (by simp) (by apply yj <;> simp) ?_
 rintro i hi
 rcases Nat.lt_or_ge i n with hlt | hge
 ·have hg:=yfU (mk:=yjL) (c:=5) (k:=k) hlt
  simp only [yjL] at hg
  simp -dsimp -implicitDefEqProofs [yM,yG hlt,hg]
  intro hlen
  refine ⟨by unfold inI; omega,by unfold inI; omega,by unfold inI; omega,by unfold inI; omega,by unfold inI; omega,by unfold inI; omega,i + 1,hlt,by omega,?_⟩
  apply yj <;> simp <;> omega
 ·have : i = n:=by omega
  subst this
  simp -dsimp -implicitDefEqProofs [yM]
@[simp] def Tariff.yI (e : Tariff) : List C:=[.i e.Base,.i e.PerArea,.ow 1 (e.PerClass.map yJ),.ow 1 (e.Weights.map yJ)]
theorem yv6 (e : Tariff) (hl : e.small) : ybh Tryz.prog 36 [.agg (e.enc.map .c)] (.agg (e.yI.map .c)):=by
 refine yan yil ?_
 simp -dsimp -implicitDefEqProofs
 refine yQ (ylr e.PerClass hl.1) (by simp ) (by simp [AV.closed,AV.ya7,C.closed]) (by simp [yU]) ?_
 simp -dsimp -implicitDefEqProofs [yt]
 refine yQ (ylr e.Weights hl.2) (by simp ) (by simp [AV.closed,AV.ya7,C.closed]) (by simp [yU]) ?_
 simp -dsimp -implicitDefEqProofs [yt]
def nT (e : Tariff) : Int:=e.PerClass.length + e.Weights.length
def yeA (e : Tariff) (k : Int) : List C:=[.i e.Base,.i e.PerArea,cw 1 (marked yJ 1 [] k e.PerClass.length),cw 1 (marked yJ 1 [] (k + e.PerClass.length) e.Weights.length)]
def Tariff.yrk (e : Tariff) : List C:=[.i e.Base,.i e.PerArea,cw 1 (e.PerClass.map yJ),cw 1 (e.Weights.map yJ)]
theorem ysc (e : Tariff) (k : Int) (h0 : 0 ≤ k) (h1 : k + nT e ≤ 8000000000000000000) :
 InF Tryz.prog 66 (.agg (e.yrk.map .c)) (.agg ((yeA e k).map .c)) [.c (.i k)] (.c (.i (k + nT e))):=by
 obtain ⟨ba,pa,p,q⟩:=e
 simp only [nT] at h1
 have hp : p.length = 0 ∨ 0 < p.length:=by omega
 have hq : q.length = 0 ∨ 0 < q.length:=by omega
 rcases hp with hp | hp <;> rcases hq with hq | hq
 ·skip
  have : p = []:=List.length_eq_zero_iff.1 hp
  subst this
  have : q = []:=List.length_eq_zero_iff.1 hq
  subst this
  have m1:=ycr [] k h0 (by first | omega | (simp at h1; omega) | (simp at h1 ⊢; omega))
  have m2:=ycr [] k (by omega) (by first | omega | (simp at h1; omega) | (simp at h1 ⊢; omega))
  refine ybO ycX (by simp) (by simp [Tariff.yrk,marked]) rfl fun hwf=>?_
  simp -dsimp -implicitDefEqProofs [yck,Tariff.yrk]
  refine ycW (up:=none) m1 (by simp) rfl rfl (yb6 rfl) ?_
  simp -dsimp -implicitDefEqProofs
  refine ycW (up:=none) m2 (by simp) rfl rfl (yb6 rfl) ?_
  simp -dsimp -implicitDefEqProofs [yeA,nT,yM,yd6]
  first | rfl | omega
 ·skip
  have : p = []:=List.length_eq_zero_iff.1 hp
  subst this
  have m1:=ycr [] k h0 (by first | omega | (simp at h1; omega) | (simp at h1 ⊢; omega))
  have m2:=ycr q k (by omega) (by first | omega | (simp at h1; omega) | (simp at h1 ⊢; omega))
  have d0:=yb4 (k:=1) (rows:=q.map yJ) (by simpa using hq)
  have d1:=yb4 (k:=1) (rows:=marked yJ 1 [] k q.length) (by rw [yM]; exact hq)
  refine ybO ycX (by simp) (by simp [Tariff.yrk,marked,d0,d1]) rfl fun hwf=>?_
  simp -dsimp -implicitDefEqProofs [yck,Tariff.yrk,d0,d1]
  refine ycW (up:=none) m1 (by simp) rfl rfl (yb6 rfl) ?_
  simp -dsimp -implicitDefEqProofs
  refine ycW (up:=some (40000,.row 1 (marked yJ 1 [] k q.length))) m2 (by simp) rfl rfl (ybY (rows:=q.map yJ) (by simp) rfl rfl (by simp) (by simp [yM]) rfl rfl) ?_
  simp -dsimp -implicitDefEqProofs [yeA,nT,yM,yd6,d0,d1]
  first | rfl | omega
 ·skip
  have : q = []:=List.length_eq_zero_iff.1 hq
  subst this
  have m1:=ycr p k h0 (by first | omega | (simp at h1; omega) | (simp at h1 ⊢; omega))
  have m2:=ycr [] (k + p.length) (by omega) (by first | omega | (simp at h1; omega) | (simp at h1 ⊢; omega))
  have c0:=yb4 (k:=1) (rows:=p.map yJ) (by simpa using hp)
  have c1:=yb4 (k:=1) (rows:=marked yJ 1 [] k p.length) (by rw [yM]; exact hp)
  refine ybO ycX (by simp) (by simp [Tariff.yrk,marked,c0,c1]) rfl fun hwf=>?_
  simp -dsimp -implicitDefEqProofs [yck,Tariff.yrk,c0,c1]
  refine ycW (up:=some (30000,.row 1 (marked yJ 1 [] k p.length))) m1 (by simp) rfl rfl (ybY (rows:=p.map yJ) (by simp) rfl rfl (by simp) (by simp [yM]) rfl rfl) ?_
  simp -dsimp -implicitDefEqProofs
  refine ycW (up:=none) m2 (by simp) rfl rfl (yb6 rfl) ?_
  simp -dsimp -implicitDefEqProofs [yeA,nT,yM,yd6,c0,c1]
  first | rfl | omega
 ·skip
  have m1:=ycr p k h0 (by first | omega | (simp at h1; omega) | (simp at h1 ⊢; omega))
  have m2:=ycr q (k + p.length) (by omega) (by first | omega | (simp at h1; omega) | (simp at h1 ⊢; omega))
  have c0:=yb4 (k:=1) (rows:=p.map yJ) (by simpa using hp)
  have c1:=yb4 (k:=1) (rows:=marked yJ 1 [] k p.length) (by rw [yM]; exact hp)
  have d0:=yb4 (k:=1) (rows:=q.map yJ) (by simpa using hq)
  have d1:=yb4 (k:=1) (rows:=marked yJ 1 [] (k + p.length) q.length) (by rw [yM]; exact hq)
  refine ybO ycX (by simp) (by simp [Tariff.yrk,marked,c0,c1,d0,d1]) rfl fun hwf=>?_
  simp -dsimp -implicitDefEqProofs [yck,Tariff.yrk,c0,c1,d0,d1]
  refine ycW (up:=some (30000,.row 1 (marked yJ 1 [] k p.length))) m1 (by simp) rfl rfl (ybY (rows:=p.map yJ) (by simp) rfl rfl (by simp) (by simp [yM]) rfl rfl) ?_
  simp -dsimp -implicitDefEqProofs
  refine ycW (up:=some (40000,.row 1 (marked yJ 1 [] (k + p.length) q.length))) m2 (by simp) rfl rfl (ybY (rows:=q.map yJ) (by simp) rfl rfl (by simp) (by simp [yM]) rfl rfl) ?_
  simp -dsimp -implicitDefEqProofs [yeA,nT,yM,yd6,c0,c1,d0,d1]
  first | rfl | omega
def ygn (r : Reach) : Int:=if yR r then yda r else 0
def yOV (l : List Reach) : Int:=(l.map yda).sum
def ycM (l : List Reach) : Bool:=decide (1 ≤ l.length) && decide (l.length ≤ 6) && l.all yR && decide (yOV l ≤ 1000000000)
def ydI (l : List Reach) (k : Nat) : Int:=yOV (l.take k)
theorem yhT {l : List Reach} : ydI l 0 = 0:=rfl
theorem yh3 {l : List Reach} {k : Nat} {r : Reach} (h : l[k]? = some r) : ydI l (k + 1) = ydI l k + yda r:=by
 unfold ydI yOV
 rw [List.take_succ,h]; simp
theorem yfa {l : List Reach} {k : Nat} (h : l.length ≤ k) : ydI l k = yOV l:=by unfold ydI; rw [List.take_of_length_le h]
structure SumFacts (r : Reach) : Prop where
 vol : amount r.Volume = true
 len : r.Pipe.length ≤ 12
 amt : ∀ n ∈ r.Pipe,amount n = true
 rng : 0 ≤ yda r ∧ yda r ≤ 1000000000
theorem ydd {r : Reach} (h : yR r = true) : SumFacts r:=by
 simp only [yR,Bool.and_eq_true,decide_eq_true_eq,List.all_eq_true] at h
 obtain ⟨⟨⟨⟨h1,h2⟩,h3⟩,h4⟩,h5⟩:=h
 refine ⟨h2,h3,h4,?_,h5⟩
 have a1:=yF.1 (show inRange r.Volume 0 1000000000 = true from h2)
 have a2:=ykq (l:=r.Pipe) h4
 unfold yda; omega
theorem ygE {l : List Reach} : ∀ {k : Nat},(∀ r ∈ l.take k,yR r = true) → 0 ≤ ydI l k ∧ ydI l k ≤ 1000000000 * k
 | 0,_=>by rw [yhT]; omega
 | k + 1,h=>by
  have ih:=ygE (k:=k) fun r hr=>h r (by rw [List.take_succ]; exact List.mem_append_left _ hr)
  have e2 : ((k + 1 : Nat) : Int) = k + 1:=by simp
  cases hk : l[k]? with
  | none =>
   have hl : l.length ≤ k:=by simpa using hk
   rw [yfa (by omega),← yfa hl]; omega
  | some r =>
   have:=(ydd (h r (by rw [List.take_succ,hk]; exact List.mem_append_right _ (by simp)))).rng
   rw [yh3 hk]; omega
theorem yob {l : List Reach} {k : Nat} {r : Reach} (h : l[k]? = some r) (hr : yR r = false) : ycM l = false:=by
 have:=all_false (p:=yR) h hr
 simp [ycM,this]
theorem ykM (r : Reach) : yB Tryz.prog 307 [.agg (r.enc.map .c)] (.c (.i (ygn r))):=by
 refine yh yo0 ?_
 simp -dsimp -implicitDefEqProofs
 refine yc (yby r) ?_
 cases h : yR r with
 | false=>simp -dsimp -implicitDefEqProofs; simp [ygn,h]
 | true =>
 have f:=ydd h
 have hl:=f.len
 have hv:=yF.1 (show inRange r.Volume 0 1000000000 = true from f.vol)
 have ht : ygn r = yda r:=by simp [ygn,h]
 simp -dsimp -implicitDefEqProofs [ht]
 intro hlen
 refine yg (ι:=Nat) (fun k=>k ≤ r.Pipe.length) (fun k=>yO [(3,.c (.i (r.Volume + sumTo r.Pipe k))),(12,.c (.sl 1 (r.Pipe.map yJ))),(13,.c (.i r.Pipe.length)),(14,.c (.i k))] []) (fun k=>r.Pipe.length - k) 0 (by simp) (by apply yj <;> simp [yf6]) ?_
 rintro k hk
 rcases Nat.lt_or_ge k r.Pipe.length with hlt | hge
 ·obtain ⟨x,hx⟩ : ∃ x,r.Pipe[k]? = some x:=⟨_,List.getElem?_eq_getElem hlt⟩
  have e1:=yia hx
  have b1:=ymX f.amt hl (k + 1)
  rw [e1] at b1
  simp -dsimp -implicitDefEqProofs [hx,yG hlt]
  refine ⟨by unfold inI; omega,yw hlt hlen,k + 1,hlt,by omega,?_⟩
  apply yj <;> simp [e1]; omega
 ·simp -dsimp -implicitDefEqProofs [yaB hge]
  rw [ymm hge,ht]; rfl
theorem ysy (l : List Reach) : yB Tryz.prog 275 [.c (.sl 3 (l.map Reach.enc))] (.c (.b (ycM l))):=by
 refine yh yp0 ?_
 simp -dsimp -implicitDefEqProofs
 refine fun hlen=>⟨fun h1=>?_,fun h1=>?_⟩
 rotate_left
 ·simp [ycM]; omega
 refine fun _=>⟨fun h6=>by simp [ycM]; omega,fun h6=>?_⟩
 refine fun _=>yg (ι:=Nat) (fun k=>k ≤ l.length ∧ ∀ r ∈ l.take k,yR r = true) (fun k=>yO [(3,.c (.i (ydI l k))),(14,.c (.sl 3 (l.map Reach.enc))),(15,.c (.i l.length)),(16,.c (.i k))] []) (fun k=>l.length - k) 0 (by simp) (by apply yj <;> simp [yhT]) ?_
 rintro k ⟨hk,hall⟩
 rcases Nat.lt_or_ge k l.length with hlt | hge
 ·obtain ⟨r,hr⟩ : ∃ r,l[k]? = some r:=⟨_,List.getElem?_eq_getElem hlt⟩
  simp -dsimp -implicitDefEqProofs [hr,yG hlt]
  refine yc (yby r) ?_
  cases h : yR r with
  | false=>simp -dsimp -implicitDefEqProofs; exact yob hr h
  | true =>
   have ht : ygn r = yda r:=by simp [ygn,h]
   have hall':=yL (p:=yR) hr hall h
   have hb:=ygE hall'
   have e1:=yh3 hr
   simp -dsimp -implicitDefEqProofs
   refine yc (ykM r) ?_
   simp -dsimp -implicitDefEqProofs [ht]
   refine ⟨by rw [e1] at hb; unfold inI; omega,yw hlt hlen,k + 1,⟨hlt,hall'⟩,by omega,?_⟩
   apply yj <;> simp [e1]
 ·have hall2:=yX (p:=yR) hge hall
  simp -dsimp -implicitDefEqProofs [yaB hge]
  rw [yfa hge]
  have a1 : 1 ≤ l.length:=by omega
  have a2 : l.length ≤ 6:=by omega
  simp [ycM,a1,a2,hall2]
structure RiverFacts (l : List Reach) : Prop where
 len : 1 ≤ l.length ∧ l.length ≤ 6
 ok : ∀ r ∈ l,yR r = true
 rng : 0 ≤ yOV l ∧ yOV l ≤ 1000000000
theorem ywm {l : List Reach} (h : ycM l = true) : RiverFacts l:=by
 simp only [ycM,Bool.and_eq_true,decide_eq_true_eq,List.all_eq_true] at h
 obtain ⟨⟨⟨h1,h2⟩,h3⟩,h4⟩:=h
 have:=ygE (l:=l) (k:=l.length) (by rw [List.take_length]; exact h3)
 rw [yfa (Nat.le_refl _)] at this
 exact ⟨⟨h1,h2⟩,h3,this.1,h4⟩
def yio (l : List Reach) (k : Nat) : Int:=if 1000000001 < ydI l k then 1000000001 else ydI l k
theorem yv5 {l : List Reach} : yio l 0 = 0:=by simp [yio,yhT]
theorem ywi {l : List Reach} {k : Nat} {r : Reach} (h : l[k]? = some r) (hr : 0 ≤ yda r) : (if 1000000001 < yio l k + yda r then 1000000001 else yio l k + yda r) = yio l (k + 1):=by
 unfold yio
 rw [yh3 h]
 (repeat' split) <;> omega
theorem yxR {l : List Reach} {k : Nat} (h : ∀ r ∈ l.take k,yR r = true) : 0 ≤ yio l k ∧ yio l k ≤ 1000000001:=by
 have:=ygE h
 unfold yio
 split <;> omega
theorem ysQ (l : List Reach) : yB Tryz.prog 204 [.c (.sl 3 (l.map Reach.enc))] (.c (.b (ycM l))):=by
 refine yh yog ?_
 simp -dsimp -implicitDefEqProofs
 refine yg (ι:=Nat) (fun k=>k ≤ l.length ∧ ∀ r ∈ l.take k,yR r = true) (fun k=>yO [(0,.c (.sl 3 (l.map Reach.enc))),(3,.c (.i (yio l k))),(4,.c (.i k))] []) (fun k=>l.length - k) 0 (by simp) (by apply yj <;> simp [yv5]) ?_
 rintro k ⟨hk,hall⟩
 rcases Nat.lt_or_ge k l.length with hlt | hge
 ·obtain ⟨r,hr⟩ : ∃ r,l[k]? = some r:=⟨_,List.getElem?_eq_getElem hlt⟩
  simp -dsimp -implicitDefEqProofs [hr,yG hlt]
  intro hlen
  refine yc (ybX r) ?_
  cases h : yR r with
  | false=>simp -dsimp -implicitDefEqProofs; exact yob hr h
  | true =>
   have f:=ydd h
   have hall':=yL (p:=yR) hr hall h
   have hb:=yxR hall
   have hs:=f.rng
   have e1:=ywi hr hs.1
   simp -dsimp -implicitDefEqProofs [hr,yG hlt]
   refine yc (yoR r f.vol f.len f.amt) ?_
   simp -dsimp -implicitDefEqProofs [e1]
   refine ⟨by unfold inI; omega,yw hlt hlen,k + 1,⟨hlt,hall'⟩,by omega,?_⟩
   apply yj <;> simp [e1]
 ·have hall2:=yX (p:=yR) hge hall
  simp -dsimp -implicitDefEqProofs [yaB hge]
  intro hlen
  refine yc (yD l.length 1 6) ?_
  have hr : ydI l k = yOV l:=yfa hge
  have hc : (yio l k ≤ 1000000000) = (yOV l ≤ 1000000000):=by
   unfold yio; rw [hr]; apply propext; split <;> omega
  have hrng : inRange (l.length : Int) 1 6 = (decide (1 ≤ l.length) && decide (l.length ≤ 6)):=by
   rw [Bool.eq_iff_iff,yF]; simp only [Bool.and_eq_true,decide_eq_true_eq]; omega
  cases h1 : inRange (l.length : Int) 1 6 with
  | false=>simp -dsimp -implicitDefEqProofs; rw [ycM,← hrng,h1]; simp
  | true =>
   simp -dsimp -implicitDefEqProofs
   rw [ycM,← hrng,h1]
   simp [hall2,hc]
def yb8 (p : Way × List Mover) : Bool:=yjg p.1 && decide (p.2.length ≤ 24) && p.2.all fun m=>ybk m p.1
def ybi (x : Waterway) : Bool:=ycM x.Reaches && decide (2 ≤ x.Reaches.length) && decide (x.Ways.length = x.Reaches.length) && decide (x.Movers.length = x.Reaches.length) && decide (x.Works.length + 1 = x.Reaches.length) &&
 (x.Ways.zip x.Movers).all yb8 && x.Works.all ybd
theorem yBL {w : Way} {ms : List Mover} (h : yjg w = false) : yb8 (w,ms) = false:=by simp [yb8,h]
theorem yCv {w : Way} {ms : List Mover} (h : 24 < ms.length) : yb8 (w,ms) = false:=by simp [yb8]; omega
theorem yyL {w : Way} {ms : List Mover} {k : Nat} {m : Mover} (h : ms[k]? = some m) (hm : ybk m w = false) : yb8 (w,ms) = false:=by
 have:=all_false (p:=fun m=>ybk m w) h hm
 simp [yb8,this]
theorem ydV {x : Waterway} {k : Nat} {w : Way} {ms : List Mover} (h1 : x.Ways[k]? = some w) (h2 : x.Movers[k]? = some ms) (h : yb8 (w,ms) = false) : ybi x = false:=by
 have:=all_false (p:=yb8) (l:=x.Ways.zip x.Movers) (k:=k) (List.getElem?_zip_eq_some.2 ⟨h1,h2⟩) h
 simp [ybi,this]
theorem yo6 {x : Waterway} {k : Nat} {w : Work} (h1 : x.Works[k]? = some w) (h : ybd w = false) : ybi x = false:=by
 have:=all_false (p:=ybd) h1 h
 simp [ybi,this]
theorem pno2 {x : Waterway} (h : ¬ 2 ≤ x.Reaches.length) : ybi x = false:=by simp [ybi,h]
theorem pno3 {x : Waterway} (h : ¬ x.Ways.length = x.Reaches.length) : ybi x = false:=by simp [ybi,h]
theorem pno4 {x : Waterway} (h : ¬ x.Movers.length = x.Reaches.length) : ybi x = false:=by simp [ybi,h]
theorem pno5 {x : Waterway} (h : ¬ x.Works.length + 1 = x.Reaches.length) : ybi x = false:=by simp [ybi,h]
end Go.Proofs.YtjojilkdkgmbgaaGreat
