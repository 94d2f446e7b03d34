/- What the law FnExactNewWaterway stands on: contracts of functions, what each answers as plain Lean, in short form (names, layout). -/
import Derived.Test.YtefegahoniahkaaGreatSExactNewWaterway3
set_option linter.all false
namespace Go.Proofs.YtefegahoniahkaaGreat
open Go.RowKit
open Go.ChangeShapes Go.WideShapes
def yeX (k : Int) (r : List Mover) : List C:=[.sl 3 (yaA fMs nM k r)]
theorem ykc (k : Int) (e : List Mover) : ybQ (ycj k e) = some (yeX k e):=by simp [ycj,yeX,ybQ,C.shr,yba yCY]
theorem yq3 (xs : List (List Mover)) (k : Int) (h0 : 0 ≤ k) (h1 : k + cnt yap xs ≤ 8000000000000000000) :
 InF Tryz.prog 66 (.c (ct 1 (xs.map yax))) (.c (ct 1 (yaA ycj yap k xs))) [.c (.i k)] (.c (.i (k + cnt yap xs))):=by
 rcases Nat.eq_zero_or_pos xs.length with hx | hx
 ·have : xs = []:=List.length_eq_zero_iff.1 hx
  subst this
  refine ybO yf8 (by simp) (by simp) rfl fun hwf=>?_
  simp -dsimp -implicitDefEqProofs [ydL,yaA,cnt]
  refine yg (ι:=Unit) (fun _=>True) (fun _=>yO [(0,.c (.sl 1 [])),(1,.c (.i k)),(5,.c (.i 0)),(1000000,.c (.sl 1 []))] []) (fun _=>0) () trivial (by apply yj <;> simp) ?_
  rintro _ _
  simp -dsimp -implicitDefEqProofs
 ·rw [ycP (by simpa using hx),ycP (by rw [yH]; exact hx)]
  refine ybO yf8 (by simp) (by simp) rfl fun hwf=>?_
  simp -dsimp -implicitDefEqProofs [ydL]
  refine yg (ι:=Nat) (fun i=>i ≤ xs.length) (fun i=>yO [(0,.own 0 1 xs.length),(1,.c (.i (k + yaK yap xs i))),(5,.c (.i i)),(1000000,.own 0 1 xs.length)] [(0,.tr 1 0 (ycA ycj yax yap k xs i))]) (fun i=>xs.length - i) 0 (by simp) (by apply yj <;> simp [ydh,ya0,Obj.leO]) ?_
  rintro i hi
  rcases Nat.lt_or_ge i xs.length with hlt | hge
  ·obtain ⟨e,he⟩ : ∃ e,xs[i]? = some e:=⟨_,List.getElem?_eq_getElem hlt⟩
   have hg:=yd5 (f:=ycj) (g:=yax) (n:=yap) (k:=k) he
   have hl:=yd1 (f:=ycj) (g:=yax) (n:=yap) (k:=k) (xs:=xs) (i:=i)
   have hs:=yd3 (f:=ycj) (g:=yax) (n:=yap) (k:=k) he
   have hc:=ya1 (n:=yap) he
   have hle:=ybS (n:=yap) (xs:=xs) (i:=i + 1)
   have hn : yap e = cnt nM e:=rfl
   generalize hM : ycA ycj yax yap k xs i = M at *
   generalize hK : (k + (yaK yap xs i : Int)) = K at *
   have hlt2 : i < M.length:=by omega
   have g1 : M[i] = yax e:=(List.getElem?_eq_some_iff.1 hg).2
   have hself : ∀ a,(M.set i a)[i]? = some a:=fun a=>List.getElem?_set_self hlt2
   have hgetD : ∀ a,(M.set i a)[i]?.getD [] = a:=fun a=>by rw [hself]; rfl
   simp only [yax] at hg g1
   have hk : 0 ≤ K:=by omega
   simp -dsimp -implicitDefEqProofs [yG hlt,hg,hl,hlt2,g1,hself,setAt]
   intro hlen
   repeat (refine ⟨by first | exact hlt | (unfold inI; omega) | exact ybA (by omega),?_⟩)
   refine yb3 (k0:=1) (j:=0) (i:=(i : Int)) (r:=[.ot 3 (e.map Mover.yI)]) (c:=.ot 3 (e.map Mover.yI)) (c':=.ot 3 (yaA fM nM K e)) (ytw e (K) (by omega) (by omega)) (by simp) rfl rfl rfl (by first | exact hself _ | simpa using hg) rfl ⟨_,by rw [yH]; simp,rfl,rfl,rfl⟩ (by simp [C.sz]) ?_
   simp -dsimp -implicitDefEqProofs [setAt,hself,hlt2,hl]
   repeat (refine ⟨by first | exact hlt | (unfold inI; omega) | exact ybA (by omega) | exact yw hlt hlen,?_⟩)
   refine ⟨i + 1,hlt,by omega,?_⟩
   simp only [ycj] at hs
   apply yj <;> simp [Obj.leO,hs,hself] <;> omega
  ·have : i = xs.length:=by omega
   subst this
   simp -dsimp -implicitDefEqProofs
   intro _
   rw [yd9 (Nat.le_refl _),ybl (Nat.le_refl _),List.take_of_length_le (by rw [yH]; exact Nat.le_refl _)]
   exact ⟨rfl,rfl⟩
theorem yqF (xs : List (List Mover)) (k : Int) (h0 : 0 ≤ k) (h1 : k + cnt yap xs ≤ 8000000000000000000) : yB Tryz.prog 72 [.c (.sl 1 (yaA yeX yap k xs)),.c (.i k)] (.c (.i (k + cnt yap xs))):=by
 refine yh ykA ?_
 simp -dsimp -implicitDefEqProofs
 refine yg (ι:=Nat) (fun i=>i ≤ xs.length) (fun i=>yO [(0,.c (.sl 1 (yaA yeX yap k xs))),(1,.c (.i (k + yaK yap xs i))),(5,.c (.i i))] []) (fun i=>xs.length - i) 0 (by simp) (by apply yj <;> simp [ya0]) ?_
 rintro i hi
 rcases Nat.lt_or_ge i xs.length with hlt | hge
 ·obtain ⟨e,he⟩ : ∃ e,xs[i]? = some e:=⟨_,List.getElem?_eq_getElem hlt⟩
  have hg:=yfH (f:=yeX) (n:=yap) (k:=k) he
  have hc:=ya1 (n:=yap) he
  have hle:=ybS (n:=yap) (xs:=xs) (i:=i + 1)
  have hn : yap e = cnt nM e:=rfl
  simp only [yeX] at hg
  generalize hK : (k + (yaK yap xs i : Int)) = K at *
  have hk : 0 ≤ K:=by omega
  simp -dsimp -implicitDefEqProofs [yH,yG hlt,hg]
  intro hlen
  repeat (refine ⟨by first | exact hlt | (unfold inI; omega) | exact ybA (by omega),?_⟩)
  refine yc (ytc e (K) (by omega) (by omega)) ?_
  have n0 : (K + (cnt nM e : Int) < 0) = False:=by simp; omega
  simp -dsimp -implicitDefEqProofs [n0,yH,yG hlt,hg]
  repeat (refine ⟨by first | exact hlt | (unfold inI; omega) | exact ybA (by omega) | exact yw hlt hlen,?_⟩)
  refine ⟨i + 1,hlt,by omega,?_⟩
  apply yj <;> simp <;> omega
 ·have : i = xs.length:=by omega
  subst this
  simp -dsimp -implicitDefEqProofs [yH]
  rw [ybl (Nat.le_refl _)]
  intro _; rfl
@[simp] def Passing.yI (e : Passing) : List C:=[.i e.Time,.i e.Work,.b e.Train.Up,.ot 1 (e.Train.Rows.map yT)]
theorem Passing.yaa (e : Passing) : ybQ e.yI = some e.enc:=by simp [Passing.yI,ybQ,ydl yeg]
theorem Passing.yad (e : Passing) : ∀ c ∈ e.yI,c.closed:=by
 simp only [Passing.yI,List.mem_cons,List.not_mem_nil,or_false,forall_eq_or_imp,forall_eq]
 exact ⟨by simp [C.closed],by simp [C.closed],by simp [C.closed],ybn ygL _ _⟩
def yae (e : Passing) : Nat:=1 + 1 + 1 + cnt nB e.Train.Rows
def ybL (k : Int) (e : Passing) : List C:=[.i k,.i (k + 1),.b (decide ((k + 1 + 1).tmod 3 = 0)),.ot 1 (yaA fB nB (k + 1 + 1 + 1) e.Train.Rows)]
def ydN (k : Int) (e : Passing) : List C:=[.i k,.i (k + 1),.b (decide ((k + 1 + 1).tmod 3 = 0)),.sl 1 (yaA fBs nB (k + 1 + 1 + 1) e.Train.Rows)]
theorem yiO (k : Int) (e : Passing) : ybQ (ybL k e) = some (ydN k e):=by simp [ybL,ydN,ybQ,C.shr,yba ysu]
theorem ypA (xs : List Passing) (k : Int) (h0 : 0 ≤ k) (h1 : k + cnt yae xs ≤ 8000000000000000000) :
 InF Tryz.prog 68 (.c (ct 4 (xs.map Passing.yI))) (.c (ct 4 (yaA ybL yae k xs))) [.c (.i k)] (.c (.i (k + cnt yae xs))):=by
 rcases Nat.eq_zero_or_pos xs.length with hx | hx
 ·have : xs = []:=List.length_eq_zero_iff.1 hx
  subst this
  refine ybO yfG (by simp) (by simp) rfl fun hwf=>?_
  simp -dsimp -implicitDefEqProofs [ydA,yaA,cnt]
  refine yg (ι:=Unit) (fun _=>True) (fun _=>yO [(0,.c (.sl 4 [])),(1,.c (.i k)),(5,.c (.i 0)),(1000000,.c (.sl 4 []))] []) (fun _=>0) () trivial (by apply yj <;> simp) ?_
  rintro _ _
  simp -dsimp -implicitDefEqProofs
 ·rw [ycP (by simpa using hx),ycP (by rw [yH]; exact hx)]
  refine ybO yfG (by simp) (by simp) rfl fun hwf=>?_
  simp -dsimp -implicitDefEqProofs [ydA]
  refine yg (ι:=Nat) (fun i=>i ≤ xs.length) (fun i=>yO [(0,.own 0 4 xs.length),(1,.c (.i (k + yaK yae xs i))),(5,.c (.i i)),(1000000,.own 0 4 xs.length)] [(0,.tr 4 0 (ycA ybL Passing.yI yae k xs i))]) (fun i=>xs.length - i) 0 (by simp) (by apply yj <;> simp [ydh,ya0,Obj.leO]) ?_
  rintro i hi
  rcases Nat.lt_or_ge i xs.length with hlt | hge
  ·obtain ⟨e,he⟩ : ∃ e,xs[i]? = some e:=⟨_,List.getElem?_eq_getElem hlt⟩
   have hg:=yd5 (f:=ybL) (g:=Passing.yI) (n:=yae) (k:=k) he
   have hl:=yd1 (f:=ybL) (g:=Passing.yI) (n:=yae) (k:=k) (xs:=xs) (i:=i)
   have hs:=yd3 (f:=ybL) (g:=Passing.yI) (n:=yae) (k:=k) he
   have hc:=ya1 (n:=yae) he
   have hle:=ybS (n:=yae) (xs:=xs) (i:=i + 1)
   have hn : yae e = 1 + 1 + 1 + cnt nB e.Train.Rows:=rfl
   generalize hM : ycA ybL Passing.yI yae k xs i = M at *
   generalize hK : (k + (yaK yae xs i : Int)) = K at *
   have hlt2 : i < M.length:=by omega
   have g1 : M[i] = Passing.yI e:=(List.getElem?_eq_some_iff.1 hg).2
   have hself : ∀ a,(M.set i a)[i]? = some a:=fun a=>List.getElem?_set_self hlt2
   have hgetD : ∀ a,(M.set i a)[i]?.getD [] = a:=fun a=>by rw [hself]; rfl
   simp only [Passing.yI] at hg g1
   have hk : 0 ≤ K:=by omega
   simp -dsimp -implicitDefEqProofs [yG hlt,hg,hl,hlt2,g1,hself,setAt]
   intro hlen
   repeat (refine ⟨by first | exact hlt | (unfold inI; omega) | exact ybA (by omega),?_⟩)
   refine yb3 (k0:=4) (j:=3) (i:=(i : Int)) (r:=[.i K,.i (K + 1),.b (decide ((K + 1 + 1).tmod 3 = 0)),.ot 1 (e.Train.Rows.map yT)]) (c:=.ot 1 (e.Train.Rows.map yT)) (c':=.ot 1 (yaA fB nB (K + 1 + 1 + 1) e.Train.Rows)) (yfJ e.Train.Rows (K + 1 + 1 + 1) (by omega) (by omega)) (by simp) rfl rfl rfl (by first | exact hself _ | simpa using hg) rfl ⟨_,by rw [yH]; simp,rfl,rfl,rfl⟩ (by simp [C.sz]) ?_
   simp -dsimp -implicitDefEqProofs [setAt,hself,hlt2,hl]
   repeat (refine ⟨by first | exact hlt | (unfold inI; omega) | exact ybA (by omega) | exact yw hlt hlen,?_⟩)
   refine ⟨i + 1,hlt,by omega,?_⟩
   simp only [ybL] at hs
   apply yj <;> simp [Obj.leO,hs,hself] <;> omega
  ·have : i = xs.length:=by omega
   subst this
   simp -dsimp -implicitDefEqProofs
   intro _
   rw [yd9 (Nat.le_refl _),ybl (Nat.le_refl _),List.take_of_length_le (by rw [yH]; exact Nat.le_refl _)]
   exact ⟨rfl,rfl⟩
theorem yol (xs : List Passing) (k : Int) (h0 : 0 ≤ k) (h1 : k + cnt yae xs ≤ 8000000000000000000) : yB Tryz.prog 77 [.c (.sl 4 (yaA ydN yae k xs)),.c (.i k)] (.c (.i (k + cnt yae xs))):=by
 refine yh yjK ?_
 simp -dsimp -implicitDefEqProofs
 refine yg (ι:=Nat) (fun i=>i ≤ xs.length) (fun i=>yO [(0,.c (.sl 4 (yaA ydN yae k xs))),(1,.c (.i (k + yaK yae xs i))),(5,.c (.i i))] []) (fun i=>xs.length - i) 0 (by simp) (by apply yj <;> simp [ya0]) ?_
 rintro i hi
 rcases Nat.lt_or_ge i xs.length with hlt | hge
 ·obtain ⟨e,he⟩ : ∃ e,xs[i]? = some e:=⟨_,List.getElem?_eq_getElem hlt⟩
  have hg:=yfH (f:=ydN) (n:=yae) (k:=k) he
  have hc:=ya1 (n:=yae) he
  have hle:=ybS (n:=yae) (xs:=xs) (i:=i + 1)
  have hn : yae e = 1 + 1 + 1 + cnt nB e.Train.Rows:=rfl
  simp only [ydN] at hg
  generalize hK : (k + (yaK yae xs i : Int)) = K at *
  have hk : 0 ≤ K:=by omega
  simp -dsimp -implicitDefEqProofs [yH,yG hlt,hg]
  intro hlen
  repeat (refine ⟨by first | exact hlt | (unfold inI; omega) | exact ybA (by omega),?_⟩)
  refine yc (yfS e.Train.Rows (K + 1 + 1 + 1) (by omega) (by omega)) ?_
  have n3 : (K + 1 + 1 + 1 + (cnt nB e.Train.Rows : Int) < 0) = False:=by simp; omega
  simp -dsimp -implicitDefEqProofs [n3,yH,yG hlt,hg]
  repeat (refine ⟨by first | exact hlt | (unfold inI; omega) | exact ybA (by omega) | exact yw hlt hlen,?_⟩)
  refine ⟨i + 1,hlt,by omega,?_⟩
  apply yj <;> simp <;> omega
 ·have : i = xs.length:=by omega
  subst this
  simp -dsimp -implicitDefEqProofs [yH]
  rw [ybl (Nat.le_refl _)]
  intro _; rfl
@[simp] def Waterway.yI (e : Waterway) : List C:=[.i e.Time,.ot 3 (e.Reaches.map Reach.yI),.ow 2 (e.Ways.map Way.enc),.ot 22 (e.Works.map Work.yI),.ot 1 (e.Movers.map yax),.ot 2 (e.Arrived.map Train.yI),.ow 1 (e.Entered.map yJ),.i e.Tariff.Base,.i e.Tariff.PerArea,.ow 1 (e.Tariff.PerClass.map yJ),.ow 1 (e.Tariff.Weights.map yJ),.ow 5 (e.Book.map Entry.enc),.ot 4 (e.Passings.map Passing.yI),.i e.Start,.i e.In,.i e.Out]
theorem Waterway.yaa (e : Waterway) : ybQ e.yI = some e.enc:=by simp [Waterway.yI,ybQ,ydl Reach.yaa,ydl Work.yaa,ydl ycu,ydl Train.yaa,ydl Passing.yaa]
theorem Waterway.yad (e : Waterway) : ∀ c ∈ e.yI,c.closed:=by
 simp only [Waterway.yI,List.mem_cons,List.not_mem_nil,or_false,forall_eq_or_imp,forall_eq]
 exact ⟨by simp [C.closed],ybn Reach.yad _ _,by simp [C.closed],ybn Work.yad _ _,ybn yk2 _ _,ybn Train.yad _ _,by simp [C.closed],by simp [C.closed],by simp [C.closed],by simp [C.closed],by simp [C.closed],by simp [C.closed],ybn Passing.yad _ _,by simp [C.closed],by simp [C.closed],by simp [C.closed]⟩
theorem yAp (es : List Point) (hl : es.length ≤ 1048576) : ybh Tryz.prog 257 [.c (.sl 2 (es.map Point.enc))] (.c (.ow 2 (es.map Point.enc))):=by
 refine yan yc4 ?_
 simp -dsimp -implicitDefEqProofs [ybv,yt]
 omega
theorem yk9 (es : List Int) (hl : es.length ≤ 1048576) : ybh Tryz.prog 139 [.c (.sl 1 (es.map yJ))] (.c (.ow 1 (es.map yJ))):=by
 refine yan ygh ?_
 simp -dsimp -implicitDefEqProofs [ydx,yt]
 omega
theorem yx7 (es : List Pause) (hl : es.length ≤ 1048576) : ybh Tryz.prog 220 [.c (.sl 2 (es.map Pause.enc))] (.c (.ow 2 (es.map Pause.enc))):=by
 refine yan yc7 ?_
 simp -dsimp -implicitDefEqProofs [ybt,yt]
 omega
theorem yyE (es : List Way) (hl : es.length ≤ 1048576) : ybh Tryz.prog 135 [.c (.sl 2 (es.map Way.enc))] (.c (.ow 2 (es.map Way.enc))):=by
 refine yan ydE ?_
 simp -dsimp -implicitDefEqProofs [ybZ,yt]
 omega
theorem yz5 (es : List Entry) (hl : es.length ≤ 1048576) : ybh Tryz.prog 141 [.c (.sl 5 (es.map Entry.enc))] (.c (.ow 5 (es.map Entry.enc))):=by
 refine yan yc5 ?_
 simp -dsimp -implicitDefEqProofs [ybu,yt]
 omega
theorem ygB (e : Reach) (hl : Reach.small e) : ybh Tryz.prog 218 [.agg (e.enc.map .c)] (.agg (e.yI.map .c)):=by
 refine yan yms ?_
 simp -dsimp -implicitDefEqProofs
 refine yfW (yAp e.Table hl.1.1) (by simp ) (by simp [AV.closed,AV.ya7,C.closed]) (by simp [yU]) ?_
 simp -dsimp -implicitDefEqProofs [yt]
 refine yfW (yk9 e.Pipe hl.2.1) (by simp ) (by simp [AV.closed,AV.ya7,C.closed]) (by simp [yU]) ?_
 simp -dsimp -implicitDefEqProofs [yt]
theorem yrb (xs : List Reach) (hl : ycN xs) : ybh Tryz.prog 134 [.c (.sl 3 (xs.map Reach.enc))] (.c (.ot 3 (xs.map Reach.yI))):=by
 refine yan yku ?_
 simp -dsimp -implicitDefEqProofs
 intro hlen
 have hl1:=hl.1
 refine ⟨by omega,?_⟩
 intro _
 refine yg (ι:=Nat) (fun k=>k ≤ xs.length) (fun k=>yO [(3,.own 8 3 k),(9,.c (.sl 3 (xs.map Reach.enc))),(10,.c (.i xs.length)),(11,.c (.i k))] [(8,.tr 3 0 ((xs.take k).map Reach.yI))]) (fun k=>xs.length - k) 0 (by simp) (by apply yj <;> simp [Obj.leO]) ?_
 rintro k hk
 rcases Nat.lt_or_ge k xs.length with hlt | hge
 ·obtain ⟨e,he⟩ : ∃ e,xs[k]? = some e:=⟨_,List.getElem?_eq_getElem hlt⟩
  have hs : xs.take (k + 1) = xs.take k ++ [e]:=by rw [List.take_succ,he]; rfl
  have he2:=hl.2 e (List.mem_of_getElem? he)
  have g1:=(List.getElem?_eq_some_iff.1 he).2
  simp -dsimp -implicitDefEqProofs [he,g1,hlt,yG hlt]
  refine yQ (ygB e he2) (by simp) (yb5 (Reach.yad e)) (by simp [yU]) ?_
  simp -dsimp -implicitDefEqProofs [yt,Nat.min_eq_left hk,yeh]
  refine ⟨by omega,yw hlt hlen,k + 1,hlt,by omega,?_⟩
  have hs2 : (xs.map Reach.yI).take (k + 1) = (xs.map Reach.yI).take k ++ [Reach.yI e]:=by rw [← List.map_take,← List.map_take,hs,List.map_append]; rfl
  apply yj <;> simp [Obj.leO,hs2]
 ·have : k = xs.length:=by omega
  subst this
  simp -dsimp -implicitDefEqProofs [yt]
  try simp
theorem ykW (xs : List Train) (hl : ybV xs) : ybh Tryz.prog 138 [.c (.sl 2 (xs.map Train.enc))] (.c (.ot 2 (xs.map Train.yI))):=by
 refine yan ylm ?_
 simp -dsimp -implicitDefEqProofs
 intro hlen
 have hl1:=hl.1
 refine yfV (k0:=2) 3 2 (by simp) (by simp) (by decide) ?_
 refine yg (ι:=Nat) (fun k=>k ≤ xs.length) (fun k=>yO [(3,.own 3 2 k),(6,.c (.sl 2 (xs.map Train.enc))),(7,.c (.i xs.length)),(8,.c (.i k))] [(3,.tr 2 0 ((xs.take k).map Train.yI))]) (fun k=>xs.length - k) 0 (by simp) (by apply yj <;> simp [Obj.leO]) ?_
 rintro k hk
 rcases Nat.lt_or_ge k xs.length with hlt | hge
 ·obtain ⟨e,he⟩ : ∃ e,xs[k]? = some e:=⟨_,List.getElem?_eq_getElem hlt⟩
  have hs : xs.take (k + 1) = xs.take k ++ [e]:=by rw [List.take_succ,he]; rfl
  have he2:=hl.2 e (List.mem_of_getElem? he)
  have g1:=(List.getElem?_eq_some_iff.1 he).2
  simp -dsimp -implicitDefEqProofs [he,g1,hlt,yG hlt]
  refine yQ (ygJ e he2) (by simp) (yb5 (Train.yad e)) (by simp [yU]) ?_
  simp -dsimp -implicitDefEqProofs [yt,Nat.min_eq_left hk,yeh]
  refine ⟨by omega,yw hlt hlen,k + 1,hlt,by omega,?_⟩
  have hs2 : (xs.map Train.yI).take (k + 1) = (xs.map Train.yI).take k ++ [Train.yI e]:=by rw [← List.map_take,← List.map_take,hs,List.map_append]; rfl
  apply yj <;> simp [Obj.leO,hs2]
 ·have : k = xs.length:=by omega
  subst this
  simp -dsimp -implicitDefEqProofs [yt]
  try simp
theorem yuP (xs : List CallT) (hl : yfi xs) : ybh Tryz.prog 221 [.c (.sl 4 (xs.map CallT.enc))] (.c (.ot 4 (xs.map CallT.yI))):=by
 refine yan ymx ?_
 simp -dsimp -implicitDefEqProofs
 intro hlen
 have hl1:=hl.1
 refine yfV (k0:=4) 3 4 (by simp) (by simp) (by decide) ?_
 refine yg (ι:=Nat) (fun k=>k ≤ xs.length) (fun k=>yO [(3,.own 3 4 k),(6,.c (.sl 4 (xs.map CallT.enc))),(7,.c (.i xs.length)),(8,.c (.i k))] [(3,.tr 4 0 ((xs.take k).map CallT.yI))]) (fun k=>xs.length - k) 0 (by simp) (by apply yj <;> simp [Obj.leO]) ?_
 rintro k hk
 rcases Nat.lt_or_ge k xs.length with hlt | hge
 ·obtain ⟨e,he⟩ : ∃ e,xs[k]? = some e:=⟨_,List.getElem?_eq_getElem hlt⟩
  have hs : xs.take (k + 1) = xs.take k ++ [e]:=by rw [List.take_succ,he]; rfl
  have he2:=hl.2 e (List.mem_of_getElem? he)
  have g1:=(List.getElem?_eq_some_iff.1 he).2
  simp -dsimp -implicitDefEqProofs [he,g1,hlt,yG hlt]
  refine yfW (ygJ e.Train he2) (by simp) (yb5 (Train.yad e.Train)) (by simp [yU]) ?_
  simp -dsimp -implicitDefEqProofs [yt,Nat.min_eq_left hk,yeh]
  refine ⟨by omega,yw hlt hlen,k + 1,hlt,by omega,?_⟩
  have hs2 : (xs.map CallT.yI).take (k + 1) = (xs.map CallT.yI).take k ++ [CallT.yI e]:=by rw [← List.map_take,← List.map_take,hs,List.map_append]; rfl
  apply yj <;> simp [Obj.leO,hs2]
 ·have : k = xs.length:=by omega
  subst this
  simp -dsimp -implicitDefEqProofs [yt]
  try simp
theorem ysV (xs : List Mover) (hl : yfK xs) : ybh Tryz.prog 137 [.c (.sl 3 (xs.map Mover.enc))] (.c (.ot 3 (xs.map Mover.yI))):=by
 refine yan ylu ?_
 simp -dsimp -implicitDefEqProofs
 intro hlen
 have hl1:=hl.1
 refine yfV (k0:=3) 3 3 (by simp) (by simp) (by decide) ?_
 refine yg (ι:=Nat) (fun k=>k ≤ xs.length) (fun k=>yO [(3,.own 3 3 k),(6,.c (.sl 3 (xs.map Mover.enc))),(7,.c (.i xs.length)),(8,.c (.i k))] [(3,.tr 3 0 ((xs.take k).map Mover.yI))]) (fun k=>xs.length - k) 0 (by simp) (by apply yj <;> simp [Obj.leO]) ?_
 rintro k hk
 rcases Nat.lt_or_ge k xs.length with hlt | hge
 ·obtain ⟨e,he⟩ : ∃ e,xs[k]? = some e:=⟨_,List.getElem?_eq_getElem hlt⟩
  have hs : xs.take (k + 1) = xs.take k ++ [e]:=by rw [List.take_succ,he]; rfl
  have he2:=hl.2 e (List.mem_of_getElem? he)
  have g1:=(List.getElem?_eq_some_iff.1 he).2
  simp -dsimp -implicitDefEqProofs [he,g1,hlt,yG hlt]
  refine yfW (ygJ e.Train he2) (by simp) (yb5 (Train.yad e.Train)) (by simp [yU]) ?_
  simp -dsimp -implicitDefEqProofs [yt,Nat.min_eq_left hk,yeh]
  refine ⟨by omega,yw hlt hlen,k + 1,hlt,by omega,?_⟩
  have hs2 : (xs.map Mover.yI).take (k + 1) = (xs.map Mover.yI).take k ++ [Mover.yI e]:=by rw [← List.map_take,← List.map_take,hs,List.map_append]; rfl
  apply yj <;> simp [Obj.leO,hs2]
 ·have : k = xs.length:=by omega
  subst this
  simp -dsimp -implicitDefEqProofs [yt]
  try simp
theorem yws (e : Lock) (hl : Lock.small e) : ybh Tryz.prog 219 [.agg (e.enc.map .c)] (.agg (e.yI.map .c)):=by
 refine yan ym9 ?_
 simp -dsimp -implicitDefEqProofs
 refine yQ (ykW e.Inside hl) (by simp) (ybn Train.yad _ _) (by simp [yU]) ?_
 simp -dsimp -implicitDefEqProofs [yt]
theorem ysT (e : Tariff) (hl : Tariff.small e) : ybh Tryz.prog 140 [.agg (e.enc.map .c)] (.agg (e.yI.map .c)):=by
 refine yan ylf ?_
 simp -dsimp -implicitDefEqProofs
 refine yQ (yk9 e.PerClass hl.1) (by simp ) (by simp [AV.closed,AV.ya7,C.closed]) (by simp [yU]) ?_
 simp -dsimp -implicitDefEqProofs [yt]
 refine yQ (yk9 e.Weights hl.2) (by simp ) (by simp [AV.closed,AV.ya7,C.closed]) (by simp [yU]) ?_
 simp -dsimp -implicitDefEqProofs [yt]
theorem yuM (xs : List Work) (hl : yc8 xs) : ybh Tryz.prog 136 [.c (.sl 22 (xs.map Work.enc))] (.c (.ot 22 (xs.map Work.yI))):=by
 refine yan ymk ?_
 simp -dsimp -implicitDefEqProofs
 intro hlen
 have hl1:=hl.1
 refine yfV (k0:=22) 3 22 (by simp) (by simp) (by decide) ?_
 refine yg (ι:=Nat) (fun k=>k ≤ xs.length) (fun k=>yO [(3,.own 3 22 k),(6,.c (.sl 22 (xs.map Work.enc))),(7,.c (.i xs.length)),(8,.c (.i k))] [(3,.tr 22 0 ((xs.take k).map Work.yI))]) (fun k=>xs.length - k) 0 (by simp) (by apply yj <;> simp [Obj.leO]) ?_
 rintro k hk
 rcases Nat.lt_or_ge k xs.length with hlt | hge
 ·obtain ⟨e,he⟩ : ∃ e,xs[k]? = some e:=⟨_,List.getElem?_eq_getElem hlt⟩
  have hs : xs.take (k + 1) = xs.take k ++ [e]:=by rw [List.take_succ,he]; rfl
  have he2:=hl.2 e (List.mem_of_getElem? he)
  have g1:=(List.getElem?_eq_some_iff.1 he).2
  simp -dsimp -implicitDefEqProofs [he,g1,hlt,yG hlt]
  refine yQ (yws e.Lock he2.1) (by simp) (yb5 (Lock.yad _)) (by simp [yU]) ?_
  simp -dsimp -implicitDefEqProofs [yt]
  refine yQ (yx7 e.Pauses he2.2.1.1) (by simp ) (by simp [AV.closed,AV.ya7,C.closed]) (by simp [yU]) ?_
  simp -dsimp -implicitDefEqProofs [yt]
  refine yQ (yuP e.Calls he2.2.2) (by simp) (ybn CallT.yad _ _) (by simp [yU]) ?_
  simp -dsimp -implicitDefEqProofs [yt,Nat.min_eq_left hk]
  refine ⟨by omega,yw hlt hlen,k + 1,hlt,by omega,?_⟩
  have hs2 : (xs.map Work.yI).take (k + 1) = (xs.map Work.yI).take k ++ [Work.yI e]:=by rw [← List.map_take,← List.map_take,hs,List.map_append]; rfl
  apply yj <;> simp [Obj.leO,hs2]
 ·have : k = xs.length:=by omega
  subst this
  simp -dsimp -implicitDefEqProofs [yt]
  try simp
set_option maxRecDepth 20000 in
theorem ypi (x : Waterway) (hl : x.small) : ybh Tryz.prog 52 [.agg (x.enc.map .c)] (.agg (x.yI.map .c)):=by
 obtain ⟨s1,s2,s3,s4,s5,s6,s7,s8,s9⟩:=hl
 have s41:=s4.1
 have s91:=s9.1
 refine yan yjQ ?_
 simp -dsimp -implicitDefEqProofs
 refine yQ (yrb x.Reaches s1) (by simp) (ybn Reach.yad _ _) (by simp [yU]) ?_
 simp -dsimp -implicitDefEqProofs [yt]
 refine yQ (yyE x.Ways s2.1) (by simp ) (by simp [AV.closed,AV.ya7,C.closed]) (by simp [yU]) ?_
 simp -dsimp -implicitDefEqProofs [yt]
 refine yQ (yuM x.Works s3) (by simp) (ybn Work.yad _ _) (by simp [yU]) ?_
 simp -dsimp -implicitDefEqProofs [yt]
 intro hlen
 refine ⟨by omega,?_⟩
 intro _
 refine yg (ι:=Nat) (fun k=>k ≤ x.Movers.length) (fun k=>yO [(1,.box 1 0),(2,.box 2 0),(3,.own 24 1 x.Movers.length),(26,.c (.sl 1 (x.Movers.map yZ))),(27,.c (.i x.Movers.length)),(28,.c (.i k))] [(1,.box [.c (.i x.Time),.own 11 3 x.Reaches.length,.own 15 2 x.Ways.length,.own 19 22 x.Works.length,.c (.sl 1 (x.Movers.map yZ)),.c (.sl 2 (x.Arrived.map Train.enc)),.c (.sl 1 (x.Entered.map yJ)),.c (.i x.Tariff.Base),.c (.i x.Tariff.PerArea),.c (.sl 1 (x.Tariff.PerClass.map yJ)),.c (.sl 1 (x.Tariff.Weights.map yJ)),.c (.sl 5 (x.Book.map Entry.enc)),.c (.sl 4 (x.Passings.map Passing.enc)),.c (.i x.Start),.c (.i x.In),.c (.i x.Out)]),(2,.box [.c (.i 0),.nil 3,.nil 2,.nil 22,.nil 1,.nil 2,.nil 1,.c (.i 0),.c (.i 0),.nil 1,.nil 1,.nil 5,.nil 4,.c (.i 0),.c (.i 0),.c (.i 0)]),(11,.tr 3 0 (x.Reaches.map Reach.yI)),(15,.row 2 (x.Ways.map Way.enc)),(19,.tr 22 0 (x.Works.map Work.yI)),(24,.tr 1 0 (partly yax [.sl 3 []] x.Movers k))]) (fun k=>x.Movers.length - k) 0 (by simp) (by apply yj <;> simp [yab,Obj.leO]) ?_
 rintro k hk
 rcases Nat.lt_or_ge k x.Movers.length with hlt | hge
 ·obtain ⟨e,he⟩ : ∃ e,x.Movers[k]? = some e:=⟨_,List.getElem?_eq_getElem hlt⟩
  have hs:=yaj (f:=yax) (z:=[.sl 3 []]) he
  have hd : ((partly yax [.sl 3 []] x.Movers k)[k]?.getD []).set 0 (.ot 3 (e.map Mover.yI)) = yax e:=by
   have:=ydK (f:=yax) (z:=[.sl 3 []]) (n:=1) rfl (fun _=>rfl) hlt
   obtain ⟨y,hy⟩:=List.length_eq_one_iff.1 this
   rw [hy]; rfl
  simp -dsimp -implicitDefEqProofs [he,yG hlt]
  refine yQ (ysV e (s4.2 e (List.mem_of_getElem? he))) (by simp) (ybn Mover.yad _ _) (by simp [yU]) ?_
  simp -dsimp -implicitDefEqProofs [yG hlt,yak hk,yt,setAt,hd,hs]
  exact ⟨hlt,yw hlt hlen,k + 1,hlt,by omega,by apply yj <;> simp [Obj.leO]⟩
 have hke : k = x.Movers.length:=by omega
 subst hke
 simp -dsimp -implicitDefEqProofs [yam (Nat.le_refl _),yt]
 refine yQ (ykW x.Arrived s5) (by simp) (ybn Train.yad _ _) (by simp [yU]) ?_
 simp -dsimp -implicitDefEqProofs [yt]
 refine yQ (yk9 x.Entered s6.1) (by simp ) (by simp [AV.closed,AV.ya7,C.closed]) (by simp [yU]) ?_
 simp -dsimp -implicitDefEqProofs [yt]
 refine yQ (ysT x.Tariff s7) (by simp) (yb5 (Tariff.yad _)) (by simp [yU]) ?_
 simp -dsimp -implicitDefEqProofs [yt]
 refine yQ (yz5 x.Book s8.1) (by simp ) (by simp [AV.closed,AV.ya7,C.closed]) (by simp [yU]) ?_
 simp -dsimp -implicitDefEqProofs [yt]
 intro hlen2
 refine yfV (k0:=4) 6 4 (by simp) (by simp) (by decide) ?_
 refine yg (ι:=Nat) (fun k=>k ≤ x.Passings.length) (fun k=>yO [(1,.box 1 0),(2,.box 2 0),(6,.own 6 4 k),(58,.c (.sl 4 (x.Passings.map Passing.enc))),(59,.c (.i x.Passings.length)),(60,.c (.i k))] [(1,.box [.c (.i x.Time),.own 11 3 x.Reaches.length,.own 15 2 x.Ways.length,.own 19 22 x.Works.length,.own 24 1 x.Movers.length,.own 43 2 x.Arrived.length,.own 47 1 x.Entered.length,.c (.i x.Tariff.Base),.c (.i x.Tariff.PerArea),.own 30051 1 x.Tariff.PerClass.length,.own 40051 1 x.Tariff.Weights.length,.own 55 5 x.Book.length,.c (.sl 4 (x.Passings.map Passing.enc)),.c (.i x.Start),.c (.i x.In),.c (.i x.Out)]),(2,.box [.c (.i 0),.nil 3,.nil 2,.nil 22,.nil 1,.nil 2,.nil 1,.c (.i 0),.c (.i 0),.nil 1,.nil 1,.nil 5,.nil 4,.c (.i 0),.c (.i 0),.c (.i 0)]),(11,.tr 3 0 (x.Reaches.map Reach.yI)),(15,.row 2 (x.Ways.map Way.enc)),(19,.tr 22 0 (x.Works.map Work.yI)),(24,.tr 1 0 (x.Movers.map yax)),(43,.tr 2 0 (x.Arrived.map Train.yI)),(47,.row 1 (x.Entered.map yJ)),(30051,.row 1 (x.Tariff.PerClass.map yJ)),(40051,.row 1 (x.Tariff.Weights.map yJ)),(55,.row 5 (x.Book.map Entry.enc)),(6,.tr 4 0 ((x.Passings.take k).map Passing.yI))]) (fun k=>x.Passings.length - k) 0 (by simp) (by apply yj <;> simp [Obj.leO]) ?_
 rintro k hk2
 rcases Nat.lt_or_ge k x.Passings.length with hlt | hge2
 ·obtain ⟨e,he⟩ : ∃ e,x.Passings[k]? = some e:=⟨_,List.getElem?_eq_getElem hlt⟩
  have hs : x.Passings.take (k + 1) = x.Passings.take k ++ [e]:=by rw [List.take_succ,he]; rfl
  have he2:=s9.2 e (List.mem_of_getElem? he)
  have g1:=(List.getElem?_eq_some_iff.1 he).2
  simp -dsimp -implicitDefEqProofs [he,g1,hlt,yG hlt]
  refine yfW (ygJ e.Train he2) (by simp) (yb5 (Train.yad e.Train)) (by simp [yU]) ?_
  simp -dsimp -implicitDefEqProofs [yt,Nat.min_eq_left hk2,yeh]
  refine ⟨by omega,yw hlt hlen2,k + 1,hlt,by omega,?_⟩
  have hs2 : (x.Passings.map Passing.yI).take (k + 1) = (x.Passings.map Passing.yI).take k ++ [Passing.yI e]:=by rw [← List.map_take,← List.map_take,hs,List.map_append]; rfl
  apply yj <;> simp [Obj.leO,hs2]
 have hke2 : k = x.Passings.length:=by omega
 subst hke2
 simp -dsimp -implicitDefEqProofs [yt]
theorem ymv (e : Reach) (hl : Reach.small e) : ybh Tryz.prog 114 [.agg (e.enc.map .c)] (.agg (e.yI.map .c)):=by
 have h1:=hl.1.1
 have h2:=hl.2.1
 refine yan yoO ?_
 simp -dsimp -implicitDefEqProofs [yi7,yt]
 exact ⟨by omega,by omega⟩
theorem ybo (e : Reach) (hl : Reach.small e) : yB Tryz.prog 114 [.agg (e.enc.map .c)] (.agg (e.enc.map .c)):=(ymv e hl).pure (by simp [AV.shr,AV.ysI,ybQ,C.shr])
theorem yxF (e : Mover) (hl : Mover.small e) : yB Tryz.prog 116 [.agg (e.enc.map .c)] (.agg (e.enc.map .c)):=by
 refine yh yp1 ?_
 simp -dsimp -implicitDefEqProofs
 refine yY (ygX e.Train hl) ?_
 simp -dsimp -implicitDefEqProofs
set_option maxRecDepth 20000 in
theorem yxT (e : Lock) (hl : Lock.small e) : yB Tryz.prog 203 [.agg (e.enc.map .c)] (.agg (e.enc.map .c)):=by
 have hl1:=hl.1
 have hsm:=hl.2
 refine yh ypn ?_
 simp -dsimp -implicitDefEqProofs
 refine yg (ι:=Nat) (fun k=>k ≤ e.Inside.length) (fun k=>yO [(1,.box 1 0),(2,.box 2 0),(3,.own 5 2 k),(4,.c (.i k))] [(1,.box [.c (.i e.Length),.c (.i e.Width),.c (.i e.SillAbove),.c (.i e.SillBelow),.c (.i e.Base),.c (.i e.Area),.c (.i e.Rate),.c (.i e.Water),.c (.i e.Gate),.c (.sl 2 (e.Inside.map Train.enc))]),(2,.box [.c (.i 0),.c (.i 0),.c (.i 0),.c (.i 0),.c (.i 0),.c (.i 0),.c (.i 0),.c (.i 0),.c (.i 0),.nil 2]),(5,.row 2 ((e.Inside.take k).map Train.enc))]) (fun k=>e.Inside.length - k) 0 (by simp) (by apply yj <;> simp [Obj.leO]) ?_
 rintro k hk
 rcases Nat.lt_or_ge k e.Inside.length with klt | kge
 ·obtain ⟨e1,he⟩ : ∃ e1,e.Inside[k]? = some e1:=⟨_,List.getElem?_eq_getElem klt⟩
  have he2:=hsm e1 (List.mem_of_getElem? he)
  have g1:=(List.getElem?_eq_some_iff.1 he).2
  have hs2 : (e.Inside.map Train.enc).take (k + 1) = (e.Inside.map Train.enc).take k ++ [Train.enc e1]:=by rw [List.take_succ,List.getElem?_map,he]; rfl
  simp -dsimp -implicitDefEqProofs [he,g1,klt,yG klt]
  intro hlen
  refine yS (ygX e1 he2) ?_
  simp -dsimp -implicitDefEqProofs [he,g1,klt,yG klt,yt,Nat.min_eq_left hk]
  refine ⟨by omega,yw klt hlen,k + 1,klt,by omega,?_⟩
  apply yj <;> simp [Obj.leO,hs2]
 have ek : k = e.Inside.length:=by omega
 subst ek
 simp -dsimp -implicitDefEqProofs [yt]
set_option maxRecDepth 20000 in
theorem yq8 (w : Work) (hl : Work.small w) : yB Tryz.prog 115 [.agg (w.enc.map .c)] (.agg (w.enc.map .c)):=by
 obtain ⟨s1,s2,s3⟩:=hl
 have hl1:=s3.1
 have hp1:=s2.1
 have hsm:=s3.2
 refine yh ykE ?_
 simp -dsimp -implicitDefEqProofs
 refine yS (yxT w.Lock s1) ?_
 simp -dsimp -implicitDefEqProofs [yt]
 refine ⟨by omega,?_⟩
 refine yg (ι:=Nat) (fun k=>k ≤ w.Calls.length) (fun k=>yO [(1,.box 1 0),(2,.box 2 0),(3,.box 3 0),(4,.c (.i k))] [(1,.box (w.enc.map .c)),(2,.box [.c (.i 0),.c (.i 0),.c (.i 0),.c (.i 0),.c (.i 0),.c (.i 0),.c (.i 0),.c (.i 0),.c (.i 0),.nil 2,.c (.i 0),.c (.i 0),.c (.i 0),.c (.i 0),.c (.i 0),.c (.i 0),.c (.i 0),.c (.i 0),.nil 2,.c (.b false),.c (.i 0),.nil 4]),(3,.box ((w.enc.map .c).set 18 (.own 11 2 w.Pauses.length) |>.set 21 (.own 16 4 k))),(11,.row 2 (w.Pauses.map Pause.enc)),(16,.row 4 ((w.Calls.take k).map CallT.enc))]) (fun k=>w.Calls.length - k) 0 (by simp) (by apply yj <;> simp [Obj.leO]) ?_
 rintro k hk
 rcases Nat.lt_or_ge k w.Calls.length with klt | kge
 ·obtain ⟨e1,he⟩ : ∃ e1,w.Calls[k]? = some e1:=⟨_,List.getElem?_eq_getElem klt⟩
  have he2:=hsm e1 (List.mem_of_getElem? he)
  have g1:=(List.getElem?_eq_some_iff.1 he).2
  have hs2 : (w.Calls.map CallT.enc).take (k + 1) = (w.Calls.map CallT.enc).take k ++ [CallT.enc e1]:=by rw [List.take_succ,List.getElem?_map,he]; rfl
  simp -dsimp -implicitDefEqProofs [he,g1,klt,yG klt]
  intro hlen
  refine yS (ygX e1.Train he2) ?_
  simp -dsimp -implicitDefEqProofs [he,g1,klt,yG klt,yt,Nat.min_eq_left hk]
  refine ⟨by omega,yw klt hlen,k + 1,klt,by omega,?_⟩
  apply yj <;> simp [Obj.leO,hs2]
 have ek : k = w.Calls.length:=by omega
 subst ek
 simp -dsimp -implicitDefEqProofs [yt]
def em (l : List Mover) : List C:=[.ow 3 (l.map Mover.enc)]
def Waterway.yAY (e : Waterway) : List C:=[.i e.Time,.ow 3 (e.Reaches.map Reach.enc),.ow 2 (e.Ways.map Way.enc),.ow 22 (e.Works.map Work.enc),.ot 1 (e.Movers.map em),.ow 2 (e.Arrived.map Train.enc),.ow 1 (e.Entered.map yJ),.i e.Tariff.Base,.i e.Tariff.PerArea,.ow 1 (e.Tariff.PerClass.map yJ),.ow 1 (e.Tariff.Weights.map yJ),.ow 5 (e.Book.map Entry.enc),.ow 4 (e.Passings.map Passing.enc),.i e.Start,.i e.In,.i e.Out]
set_option maxRecDepth 20000 in
theorem yxC (x : Waterway) (hl : x.small) : ybh Tryz.prog 43 [.agg (x.enc.map .c)] (.agg (x.yAY.map .c)):=by
 obtain ⟨s1,s2,s3,s4,s5,s6,s7,s8,s9⟩:=hl
 have t1:=s1.1; have t2:=s2.1; have t3:=s3.1; have t4:=s4.1; have t5:=s5.1; have t6:=s6.1; have t8:=s8.1; have t9:=s9.1
 have t71:=s7.1; have t72:=s7.2
 refine yan ynX ?_
 simp -dsimp -implicitDefEqProofs
 refine yg (ι:=Nat) (fun k=>k ≤ x.Reaches.length) (fun k=>yO [(1,.box 1 0),(2,.box 2 0),(3,.box 3 0),(4,.c (.i k))] [(1,.box [.c (.i x.Time),.c (.sl 3 (x.Reaches.map Reach.enc)),.c (.sl 2 (x.Ways.map Way.enc)),.c (.sl 22 (x.Works.map Work.enc)),.c (.sl 1 (x.Movers.map yZ)),.c (.sl 2 (x.Arrived.map Train.enc)),.c (.sl 1 (x.Entered.map yJ)),.c (.i x.Tariff.Base),.c (.i x.Tariff.PerArea),.c (.sl 1 (x.Tariff.PerClass.map yJ)),.c (.sl 1 (x.Tariff.Weights.map yJ)),.c (.sl 5 (x.Book.map Entry.enc)),.c (.sl 4 (x.Passings.map Passing.enc)),.c (.i x.Start),.c (.i x.In),.c (.i x.Out)]),(2,.box [.c (.i 0),.nil 3,.nil 2,.nil 22,.nil 1,.nil 2,.nil 1,.c (.i 0),.c (.i 0),.nil 1,.nil 1,.nil 5,.nil 4,.c (.i 0),.c (.i 0),.c (.i 0)]),(3,.box [.c (.i x.Time),.own 13 3 k,.c (.sl 2 (x.Ways.map Way.enc)),.c (.sl 22 (x.Works.map Work.enc)),.c (.sl 1 (x.Movers.map yZ)),.c (.sl 2 (x.Arrived.map Train.enc)),.c (.sl 1 (x.Entered.map yJ)),.c (.i x.Tariff.Base),.c (.i x.Tariff.PerArea),.c (.sl 1 (x.Tariff.PerClass.map yJ)),.c (.sl 1 (x.Tariff.Weights.map yJ)),.c (.sl 5 (x.Book.map Entry.enc)),.c (.sl 4 (x.Passings.map Passing.enc)),.c (.i x.Start),.c (.i x.In),.c (.i x.Out)]),(13,.row 3 ((x.Reaches.take k).map Reach.enc))]) (fun k=>x.Reaches.length - k) 0 (by simp) (by apply yj <;> simp [Obj.leO]) ?_
 rintro k hk
 rcases Nat.lt_or_ge k x.Reaches.length with klt | kge
 ·obtain ⟨e1,he⟩ : ∃ e1,x.Reaches[k]? = some e1:=⟨_,List.getElem?_eq_getElem klt⟩
  have he2:=s1.2 e1 (List.mem_of_getElem? he)
  have g1:=(List.getElem?_eq_some_iff.1 he).2
  have hs2 : (x.Reaches.map Reach.enc).take (k + 1) = (x.Reaches.map Reach.enc).take k ++ [Reach.enc e1]:=by rw [List.take_succ,List.getElem?_map,he]; rfl
  simp -dsimp -implicitDefEqProofs [he,g1,klt,yG klt]
  intro hlen
  refine yY (ybo e1 he2) ?_
  simp -dsimp -implicitDefEqProofs [he,g1,klt,yG klt,yt,Nat.min_eq_left hk,yeh]
  refine ⟨by omega,yw klt hlen,k + 1,klt,by omega,?_⟩
  apply yj <;> simp [Obj.leO,hs2]
 have ek : k = x.Reaches.length:=by omega
 subst ek
 simp -dsimp -implicitDefEqProofs [yt]
 intro _
 refine ⟨by omega,?_⟩
 refine yg (ι:=Nat) (fun k=>k ≤ x.Works.length) (fun k=>yO [(1,.box 1 0),(2,.box 2 0),(3,.box 3 0),(5,.c (.i k))] [(1,.box [.c (.i x.Time),.c (.sl 3 (x.Reaches.map Reach.enc)),.c (.sl 2 (x.Ways.map Way.enc)),.c (.sl 22 (x.Works.map Work.enc)),.c (.sl 1 (x.Movers.map yZ)),.c (.sl 2 (x.Arrived.map Train.enc)),.c (.sl 1 (x.Entered.map yJ)),.c (.i x.Tariff.Base),.c (.i x.Tariff.PerArea),.c (.sl 1 (x.Tariff.PerClass.map yJ)),.c (.sl 1 (x.Tariff.Weights.map yJ)),.c (.sl 5 (x.Book.map Entry.enc)),.c (.sl 4 (x.Passings.map Passing.enc)),.c (.i x.Start),.c (.i x.In),.c (.i x.Out)]),(2,.box [.c (.i 0),.nil 3,.nil 2,.nil 22,.nil 1,.nil 2,.nil 1,.c (.i 0),.c (.i 0),.nil 1,.nil 1,.nil 5,.nil 4,.c (.i 0),.c (.i 0),.c (.i 0)]),(3,.box [.c (.i x.Time),.own 13 3 x.Reaches.length,.own 33 2 x.Ways.length,.own 38 22 k,.c (.sl 1 (x.Movers.map yZ)),.c (.sl 2 (x.Arrived.map Train.enc)),.c (.sl 1 (x.Entered.map yJ)),.c (.i x.Tariff.Base),.c (.i x.Tariff.PerArea),.c (.sl 1 (x.Tariff.PerClass.map yJ)),.c (.sl 1 (x.Tariff.Weights.map yJ)),.c (.sl 5 (x.Book.map Entry.enc)),.c (.sl 4 (x.Passings.map Passing.enc)),.c (.i x.Start),.c (.i x.In),.c (.i x.Out)]),(13,.row 3 (x.Reaches.map Reach.enc)),(33,.row 2 (x.Ways.map Way.enc)),(38,.row 22 ((x.Works.take k).map Work.enc))]) (fun k=>x.Works.length - k) 0 (by simp) (by apply yj <;> simp [Obj.leO]) ?_
 rintro k hk
 rcases Nat.lt_or_ge k x.Works.length with klt | kge
 ·obtain ⟨e1,he⟩ : ∃ e1,x.Works[k]? = some e1:=⟨_,List.getElem?_eq_getElem klt⟩
  have he2:=s3.2 e1 (List.mem_of_getElem? he)
  have g1:=(List.getElem?_eq_some_iff.1 he).2
  have hs2 : (x.Works.map Work.enc).take (k + 1) = (x.Works.map Work.enc).take k ++ [Work.enc e1]:=by rw [List.take_succ,List.getElem?_map,he]; rfl
  simp -dsimp -implicitDefEqProofs [he,g1,klt,yG klt]
  intro hlen
  refine yY (yq8 e1 he2) ?_
  simp -dsimp -implicitDefEqProofs [he,g1,klt,yG klt,yt,Nat.min_eq_left hk,yeh]
  refine ⟨by omega,yw klt hlen,k + 1,klt,by omega,?_⟩
  apply yj <;> simp [Obj.leO,hs2]
 have ek : k = x.Works.length:=by omega
 subst ek
 simp -dsimp -implicitDefEqProofs [yt]
 intro _
 refine yg (ι:=Nat) (fun k=>k ≤ x.Movers.length) (fun k=>yO [(1,.box 1 0),(2,.box 2 0),(3,.box 3 0),(6,.c (.i k))] [(1,.box [.c (.i x.Time),.c (.sl 3 (x.Reaches.map Reach.enc)),.c (.sl 2 (x.Ways.map Way.enc)),.c (.sl 22 (x.Works.map Work.enc)),.c (.sl 1 (x.Movers.map yZ)),.c (.sl 2 (x.Arrived.map Train.enc)),.c (.sl 1 (x.Entered.map yJ)),.c (.i x.Tariff.Base),.c (.i x.Tariff.PerArea),.c (.sl 1 (x.Tariff.PerClass.map yJ)),.c (.sl 1 (x.Tariff.Weights.map yJ)),.c (.sl 5 (x.Book.map Entry.enc)),.c (.sl 4 (x.Passings.map Passing.enc)),.c (.i x.Start),.c (.i x.In),.c (.i x.Out)]),(2,.box [.c (.i 0),.nil 3,.nil 2,.nil 22,.nil 1,.nil 2,.nil 1,.c (.i 0),.c (.i 0),.nil 1,.nil 1,.nil 5,.nil 4,.c (.i 0),.c (.i 0),.c (.i 0)]),(3,.box [.c (.i x.Time),.own 13 3 x.Reaches.length,.own 33 2 x.Ways.length,.own 38 22 x.Works.length,.own 58 1 k,.c (.sl 2 (x.Arrived.map Train.enc)),.c (.sl 1 (x.Entered.map yJ)),.c (.i x.Tariff.Base),.c (.i x.Tariff.PerArea),.c (.sl 1 (x.Tariff.PerClass.map yJ)),.c (.sl 1 (x.Tariff.Weights.map yJ)),.c (.sl 5 (x.Book.map Entry.enc)),.c (.sl 4 (x.Passings.map Passing.enc)),.c (.i x.Start),.c (.i x.In),.c (.i x.Out)]),(13,.row 3 (x.Reaches.map Reach.enc)),(33,.row 2 (x.Ways.map Way.enc)),(38,.row 22 (x.Works.map Work.enc)),(58,if k = 0 then .row 1 [] else .tr 1 0 ((x.Movers.take k).map em))]) (fun k=>x.Movers.length - k) 0 (by simp) (by apply yj <;> simp [Obj.leO]) ?_
 rintro k hk
 rcases Nat.lt_or_ge k x.Movers.length with klt | kge
 ·obtain ⟨l,hl⟩ : ∃ l,x.Movers[k]? = some l:=⟨_,List.getElem?_eq_getElem klt⟩
  have hls:=s4.2 l (List.mem_of_getElem? hl)
  have hll:=hls.1
  have g1:=(List.getElem?_eq_some_iff.1 hl).2
  have hs2 : (x.Movers.map em).take (k + 1) = (x.Movers.map em).take k ++ [em l]:=by rw [List.take_succ,List.getElem?_map,hl]; rfl
  simp -dsimp -implicitDefEqProofs [hl,g1,klt,yG klt]
  intro hlen
  generalize hZ : (if k = 0 then Obj.row 1 [] else .tr 1 0 ((x.Movers.map em).take k)) = Z
  have hz1 : Z.leO Z:=by rw [← hZ]; split <;> first | rfl | exact ⟨rfl,rfl⟩
  have hz2 : ∀ i,Z.kill i = Z:=by intro i; rw [← hZ]; split <;> rfl
  have hz3 : ∀ L,Z.ygy L = true:=by intro L; rw [← hZ]; split <;> rfl
  simp only [Obj.leO] at hz1
  simp only [Obj.ygy] at hz3
  refine yg (ι:=Nat) (fun i=>i ≤ l.length) (fun i=>yO [(1,.box 1 0),(2,.box 2 0),(3,.box 3 0),(6,.c (.i k)),(7,.own 67 3 i),(8,.c (.i i))] [(1,.box [.c (.i x.Time),.c (.sl 3 (x.Reaches.map Reach.enc)),.c (.sl 2 (x.Ways.map Way.enc)),.c (.sl 22 (x.Works.map Work.enc)),.c (.sl 1 (x.Movers.map yZ)),.c (.sl 2 (x.Arrived.map Train.enc)),.c (.sl 1 (x.Entered.map yJ)),.c (.i x.Tariff.Base),.c (.i x.Tariff.PerArea),.c (.sl 1 (x.Tariff.PerClass.map yJ)),.c (.sl 1 (x.Tariff.Weights.map yJ)),.c (.sl 5 (x.Book.map Entry.enc)),.c (.sl 4 (x.Passings.map Passing.enc)),.c (.i x.Start),.c (.i x.In),.c (.i x.Out)]),(2,.box [.c (.i 0),.nil 3,.nil 2,.nil 22,.nil 1,.nil 2,.nil 1,.c (.i 0),.c (.i 0),.nil 1,.nil 1,.nil 5,.nil 4,.c (.i 0),.c (.i 0),.c (.i 0)]),(3,.box [.c (.i x.Time),.own 13 3 x.Reaches.length,.own 33 2 x.Ways.length,.own 38 22 x.Works.length,.own 58 1 k,.c (.sl 2 (x.Arrived.map Train.enc)),.c (.sl 1 (x.Entered.map yJ)),.c (.i x.Tariff.Base),.c (.i x.Tariff.PerArea),.c (.sl 1 (x.Tariff.PerClass.map yJ)),.c (.sl 1 (x.Tariff.Weights.map yJ)),.c (.sl 5 (x.Book.map Entry.enc)),.c (.sl 4 (x.Passings.map Passing.enc)),.c (.i x.Start),.c (.i x.In),.c (.i x.Out)]),(13,.row 3 (x.Reaches.map Reach.enc)),(33,.row 2 (x.Ways.map Way.enc)),(38,.row 22 (x.Works.map Work.enc)),(58,Z),(67,.row 3 ((l.take i).map Mover.enc))]) (fun i=>l.length - i) 0 (by simp) (by apply yj <;> simp [Obj.leO,hz1,hz2,hz3]) ?_
  rintro i hi
  rcases Nat.lt_or_ge i l.length with ilt | ige
  ·obtain ⟨m,hm⟩ : ∃ m,l[i]? = some m:=⟨_,List.getElem?_eq_getElem ilt⟩
   have hms:=hls.2 m (List.mem_of_getElem? hm)
   have g2:=(List.getElem?_eq_some_iff.1 hm).2
   have hs3 : (l.map Mover.enc).take (i + 1) = (l.map Mover.enc).take i ++ [Mover.enc m]:=by rw [List.take_succ,List.getElem?_map,hm]; rfl
   simp -dsimp -implicitDefEqProofs [hl,hm,g1,g2,klt,yG klt,ilt,yG ilt]
   intro hlen2
   refine yS (yxF m hms) ?_
   simp -dsimp -implicitDefEqProofs [yt,Nat.min_eq_left hi]
   refine ⟨by omega,yw ilt hlen2,i + 1,ilt,by omega,?_⟩
   apply yj <;> simp [Obj.leO,hs3,hz1,hz2,hz3]
  have ei : i = l.length:=by omega
  subst ei
  simp -dsimp -implicitDefEqProofs [hl,g1,klt,yG klt,yt,hz2]
  intro _
  subst hZ
  rcases Nat.eq_zero_or_pos k with e0 | e0
  ·subst e0
   have hs3 : (x.Movers.map em).take 1 = [em l]:=by simpa using hs2
   simp -dsimp -implicitDefEqProofs [yt]
   refine ⟨by unfold inI; omega,1,klt,by omega,?_⟩
   apply yj <;> simp [Obj.leO,hs3,em]
  ·have hne : (k = 0) = False:=by simp; omega
   simp -dsimp -implicitDefEqProofs [hne,yt,Nat.min_eq_left hk]
   refine ⟨by omega,yw klt hlen,k + 1,klt,by omega,?_⟩
   apply yj <;> simp [Obj.leO,hs2,em]
 have ek : k = x.Movers.length:=by omega
 subst ek
 simp -dsimp -implicitDefEqProofs [yt]
 intro _
 have hif : (if x.Movers = [] then Obj.row 1 [] else .tr 1 0 (x.Movers.map em)) = (if x.Movers.length = 0 then Obj.row 1 [] else .tr 1 0 (x.Movers.map em)):=by cases x.Movers <;> simp
 generalize hZ : (if x.Movers.length = 0 then Obj.row 1 [] else .tr 1 0 (x.Movers.map em)) = Z at hif
 have hz1 : Z.leO Z:=by rw [← hZ]; split <;> first | rfl | exact ⟨rfl,rfl⟩
 have hz2 : ∀ i,Z.kill i = Z:=by intro i; rw [← hZ]; split <;> rfl
 have hz3 : ∀ L,Z.ygy L = true:=by intro L; rw [← hZ]; split <;> rfl
 simp only [Obj.leO] at hz1
 simp only [Obj.ygy] at hz3
 refine yg (ι:=Nat) (fun k=>k ≤ x.Arrived.length) (fun k=>yO [(1,.box 1 0),(2,.box 2 0),(3,.box 3 0),(9,.c (.i k))] [(1,.box [.c (.i x.Time),.c (.sl 3 (x.Reaches.map Reach.enc)),.c (.sl 2 (x.Ways.map Way.enc)),.c (.sl 22 (x.Works.map Work.enc)),.c (.sl 1 (x.Movers.map yZ)),.c (.sl 2 (x.Arrived.map Train.enc)),.c (.sl 1 (x.Entered.map yJ)),.c (.i x.Tariff.Base),.c (.i x.Tariff.PerArea),.c (.sl 1 (x.Tariff.PerClass.map yJ)),.c (.sl 1 (x.Tariff.Weights.map yJ)),.c (.sl 5 (x.Book.map Entry.enc)),.c (.sl 4 (x.Passings.map Passing.enc)),.c (.i x.Start),.c (.i x.In),.c (.i x.Out)]),(2,.box [.c (.i 0),.nil 3,.nil 2,.nil 22,.nil 1,.nil 2,.nil 1,.c (.i 0),.c (.i 0),.nil 1,.nil 1,.nil 5,.nil 4,.c (.i 0),.c (.i 0),.c (.i 0)]),(3,.box [.c (.i x.Time),.own 13 3 x.Reaches.length,.own 33 2 x.Ways.length,.own 38 22 x.Works.length,.own 58 1 x.Movers.length,.own 96 2 k,.c (.sl 1 (x.Entered.map yJ)),.c (.i x.Tariff.Base),.c (.i x.Tariff.PerArea),.c (.sl 1 (x.Tariff.PerClass.map yJ)),.c (.sl 1 (x.Tariff.Weights.map yJ)),.c (.sl 5 (x.Book.map Entry.enc)),.c (.sl 4 (x.Passings.map Passing.enc)),.c (.i x.Start),.c (.i x.In),.c (.i x.Out)]),(13,.row 3 (x.Reaches.map Reach.enc)),(33,.row 2 (x.Ways.map Way.enc)),(38,.row 22 (x.Works.map Work.enc)),(58,Z),(96,.row 2 ((x.Arrived.take k).map Train.enc))]) (fun k=>x.Arrived.length - k) 0 (by simp) (by apply yj <;> simp [Obj.leO,hif,hz1,hz2,hz3]) ?_
 rintro k hk
 rcases Nat.lt_or_ge k x.Arrived.length with klt | kge
 ·obtain ⟨e1,he⟩ : ∃ e1,x.Arrived[k]? = some e1:=⟨_,List.getElem?_eq_getElem klt⟩
  have he2:=s5.2 e1 (List.mem_of_getElem? he)
  have g1:=(List.getElem?_eq_some_iff.1 he).2
  have hs2 : (x.Arrived.map Train.enc).take (k + 1) = (x.Arrived.map Train.enc).take k ++ [Train.enc e1]:=by rw [List.take_succ,List.getElem?_map,he]; rfl
  simp -dsimp -implicitDefEqProofs [he,g1,klt,yG klt]
  intro hlen
  refine yY (ygX e1 he2) ?_
  simp -dsimp -implicitDefEqProofs [he,g1,klt,yG klt,yt,Nat.min_eq_left hk,yeh]
  refine ⟨by omega,yw klt hlen,k + 1,klt,by omega,?_⟩
  apply yj <;> simp [Obj.leO,hif,hz1,hz2,hz3,hs2]
 have ek : k = x.Arrived.length:=by omega
 subst ek
 simp -dsimp -implicitDefEqProofs [yt]
 intro _
 refine ⟨by omega,by omega,by omega,by omega,?_⟩
 refine yg (ι:=Nat) (fun k=>k ≤ x.Passings.length) (fun k=>yO [(1,.box 1 0),(2,.box 2 0),(3,.box 3 0),(10,.c (.i k))] [(1,.box [.c (.i x.Time),.c (.sl 3 (x.Reaches.map Reach.enc)),.c (.sl 2 (x.Ways.map Way.enc)),.c (.sl 22 (x.Works.map Work.enc)),.c (.sl 1 (x.Movers.map yZ)),.c (.sl 2 (x.Arrived.map Train.enc)),.c (.sl 1 (x.Entered.map yJ)),.c (.i x.Tariff.Base),.c (.i x.Tariff.PerArea),.c (.sl 1 (x.Tariff.PerClass.map yJ)),.c (.sl 1 (x.Tariff.Weights.map yJ)),.c (.sl 5 (x.Book.map Entry.enc)),.c (.sl 4 (x.Passings.map Passing.enc)),.c (.i x.Start),.c (.i x.In),.c (.i x.Out)]),(2,.box [.c (.i 0),.nil 3,.nil 2,.nil 22,.nil 1,.nil 2,.nil 1,.c (.i 0),.c (.i 0),.nil 1,.nil 1,.nil 5,.nil 4,.c (.i 0),.c (.i 0),.c (.i 0)]),(3,.box [.c (.i x.Time),.own 13 3 x.Reaches.length,.own 33 2 x.Ways.length,.own 38 22 x.Works.length,.own 58 1 x.Movers.length,.own 96 2 x.Arrived.length,.own 116 1 x.Entered.length,.c (.i x.Tariff.Base),.c (.i x.Tariff.PerArea),.own 121 1 x.Tariff.PerClass.length,.own 128 1 x.Tariff.Weights.length,.own 135 5 x.Book.length,.own 140 4 k,.c (.i x.Start),.c (.i x.In),.c (.i x.Out)]),(13,.row 3 (x.Reaches.map Reach.enc)),(33,.row 2 (x.Ways.map Way.enc)),(38,.row 22 (x.Works.map Work.enc)),(58,Z),(96,.row 2 (x.Arrived.map Train.enc)),(116,.row 1 (x.Entered.map yJ)),(121,.row 1 (x.Tariff.PerClass.map yJ)),(128,.row 1 (x.Tariff.Weights.map yJ)),(135,.row 5 (x.Book.map Entry.enc)),(140,.row 4 ((x.Passings.take k).map Passing.enc))]) (fun k=>x.Passings.length - k) 0 (by simp) (by apply yj <;> simp [Obj.leO,hif,hz1,hz2,hz3]) ?_
 rintro k hk
 rcases Nat.lt_or_ge k x.Passings.length with klt | kge
 ·obtain ⟨e1,he⟩ : ∃ e1,x.Passings[k]? = some e1:=⟨_,List.getElem?_eq_getElem klt⟩
  have he2:=s9.2 e1 (List.mem_of_getElem? he)
  have g1:=(List.getElem?_eq_some_iff.1 he).2
  have hs2 : (x.Passings.map Passing.enc).take (k + 1) = (x.Passings.map Passing.enc).take k ++ [Passing.enc e1]:=by rw [List.take_succ,List.getElem?_map,he]; rfl
  simp -dsimp -implicitDefEqProofs [he,g1,klt,yG klt]
  intro hlen
  refine yS (ygX e1.Train he2) ?_
  simp -dsimp -implicitDefEqProofs [he,g1,klt,yG klt,yt,Nat.min_eq_left hk,yeh]
  refine ⟨by omega,yw klt hlen,k + 1,klt,by omega,?_⟩
  apply yj <;> simp [Obj.leO,hif,hz1,hz2,hz3,hs2]
 have ek : k = x.Passings.length:=by omega
 subst ek
 simp -dsimp -implicitDefEqProofs [yt]
 intro _
 subst hZ
 by_cases e : x.Movers.length = 0
 ·have e2 : x.Movers = []:=List.length_eq_zero_iff.1 e
  simp [Waterway.yAY,e2,yt]
 ·simp [Waterway.yAY,e,yt]
def yd0 {α : Type} (t : α → Nat) (xs : List α) : Nat:=xs.length + (xs.map t).sum
def ycz {α : Type} (f : α → Int → Int) (t : α → Nat) : Prop:=∀ x l,0 ≤ l → l ≤ 1048576 → 0 ≤ f x l → f x l + t x ≤ l
theorem yaV {a : Int} {f : Int → Int} (h : 0 ≤ ybm a f) : 0 ≤ a ∧ ybm a f = f a:=by
 rcases Int.lt_or_le a 0 with e | e
 ·rw [yK e] at h; omega
 ·exact ⟨e,yu e⟩
theorem yhx {α : Type} : ycz (fun (xs : List α) l=>szS xs.length l) (fun xs=>xs.length):=by
 intro xs l h0 h1 h
 simp only [szS] at h ⊢
 split at h
 ·omega
 ·rename_i h2; rw [if_neg h2]; omega
theorem yn7 {α : Type} {f : α → Int → Int} {t : α → Nat} (hf : ycz f t) : ∀ (xs : List α) (l : Int),0 ≤ l → l ≤ 1048576 → 0 ≤ yaw f xs l → yaw f xs l + ((xs.map t).sum : Nat) ≤ l
 | [],l,_,_,_=>by simp [yaw]
 | x :: xs,l,h0,h1,h=>by
  simp only [yaw] at h ⊢
  obtain ⟨p,e⟩:=yaV h
  rw [e] at h ⊢
  have h2:=hf x l h0 h1 p
  have h3:=yn7 hf xs (f x l) p (by omega) h
  simp only [List.map_cons,List.sum_cons,Int.natCast_add]; omega
theorem ye8 {α : Type} {f : α → Int → Int} {t : α → Nat} (hf : ycz f t) : ycz (yeE f) (yd0 t):=by
 intro xs l h0 h1 h
 unfold yeE at h ⊢
 obtain ⟨p,e⟩:=yaV h
 rw [e] at h ⊢
 have h2:=yhx xs l h0 h1 p
 have h3:=yn7 hf xs _ p (by simp only at h2 ⊢; omega) h
 unfold yd0
 simp only at h2
 omega
theorem ydt {α : Type} {n t : α → Nat} (h : ∀ x,n x ≤ 27 * (1 + t x)) : ∀ xs : List α,cnt n xs ≤ 27 * yd0 t xs
 | []=>by simp [cnt]
 | x :: xs=>by
  have h1:=ydt h xs
  have h2:=h x
  simp only [cnt,yd0,List.map_cons,List.sum_cons,List.length_cons] at h1 ⊢
  omega
def ydD (xs : List Int) : Nat:=xs.length
theorem ygx : ycz yhJ ydD:=yhx
def ykt (xs : List Entry) : Nat:=xs.length
def yju (xs : List Boat) : Nat:=xs.length
theorem ytl : ycz yex yju:=yhx
def yeT : List (List Boat) → Nat:=yd0 yju
theorem yqw : ycz yeb yeT:=ye8 ytl
theorem yxg (r : List Boat) : nB r ≤ 27 * (1 + yju r):=by unfold nB yju; omega
def yci (e : Train) : Nat:=yeT e.Rows
theorem yfQ : ycz yb2 yci:=by
 intro e l h0 h1 h
 unfold yb2 at h ⊢
 obtain ⟨p0,e0⟩:=yaV h
 rw [e0] at h ⊢
 have t0:=yqw e.Rows _ h0 h1 p0
 unfold yci
 omega
def yhw (xs : List Point) : Nat:=xs.length
theorem yrs : ycz yg2 yhw:=yhx
def yaZ (e : Reach) : Nat:=yhw e.Table + ydD e.Pipe
theorem ys5 : ycz ycy yaZ:=by
 intro e l h0 h1 h
 unfold ycy at h ⊢
 obtain ⟨p0,e0⟩:=yaV h
 rw [e0] at h ⊢
 have t0:=yrs e.Table _ h0 h1 p0
 obtain ⟨p1,e1⟩:=yaV h
 rw [e1] at h ⊢
 have t1:=ygx e.Pipe _ p0 (by omega) p1
 unfold yaZ
 omega
def ydQ : List Reach → Nat:=yd0 yaZ
theorem yqR : ycz yd8 ydQ:=ye8 ys5
theorem yum (e : Reach) : yay e ≤ 27 * (1 + yaZ e):=by
 have : yhw e.Table = e.Table.length:=rfl
 have : ydD e.Pipe = e.Pipe.length:=rfl
 simp only [yay,yaZ]
 omega
def yox (xs : List Way) : Nat:=xs.length
theorem yu8 : ycz yk3 yox:=yhx
def ykC (xs : List Pause) : Nat:=xs.length
theorem yqQ : ycz yhi ykC:=yhx
def yf0 : List Train → Nat:=yd0 yci
theorem yke : ycz ydk yf0:=ye8 yfQ
theorem ymK (e : Train) : yE e ≤ 27 * (1 + yci e):=by
 have:=ydt yxg e.Rows
 simp only [yE,yci,yeT]
 omega
def ylq (e : Lock) : Nat:=yf0 e.Inside
theorem yuX : ycz ygm ylq:=by
 intro e l h0 h1 h
 unfold ygm at h ⊢
 obtain ⟨p0,e0⟩:=yaV h
 rw [e0] at h ⊢
 have t0:=yke e.Inside _ h0 h1 p0
 unfold ylq
 omega
def yiS (e : CallT) : Nat:=yci e.Train
theorem ytP : ycz ydJ yiS:=by
 intro e l h0 h1 h
 unfold ydJ at h ⊢
 obtain ⟨p0,e0⟩:=yaV h
 rw [e0] at h ⊢
 have t0:=yfQ e.Train _ h0 h1 p0
 unfold yiS
 omega
def yl4 : List CallT → Nat:=yd0 yiS
theorem ytn : ycz yfd yl4:=ye8 ytP
theorem ywA (e : CallT) : yaI e ≤ 27 * (1 + yiS e):=by
 have:=ydt yxg e.Train.Rows
 simp only [yaI,yiS,yci,yeT]
 omega
def yg5 (e : Work) : Nat:=ylq e.Lock + ykC e.Pauses + yl4 e.Calls
theorem yus : ycz ycY yg5:=by
 intro e l h0 h1 h
 unfold ycY at h ⊢
 obtain ⟨p0,e0⟩:=yaV h
 rw [e0] at h ⊢
 have t0:=yuX e.Lock _ h0 h1 p0
 obtain ⟨p1,e1⟩:=yaV h
 rw [e1] at h ⊢
 have t1:=yqQ e.Pauses _ p0 (by omega) p1
 obtain ⟨p2,e2⟩:=yaV h
 rw [e2] at h ⊢
 have t2:=ytn e.Calls _ p1 (by omega) p2
 unfold yg5
 omega
def yeJ : List Work → Nat:=yd0 yg5
theorem ytv : ycz yfc yeJ:=ye8 yus
theorem yvC (e : Work) : yaJ e ≤ 27 * (1 + yg5 e):=by
 have:=ydt ymK e.Lock.Inside
 have : ykC e.Pauses = e.Pauses.length:=rfl
 have:=ydt ywA e.Calls
 simp only [yaJ,yg5,ylq,yf0,yl4]
 omega
def yhg (e : Mover) : Nat:=yci e.Train
def ygb : List Mover → Nat:=yd0 yhg
theorem nM_le (e : Mover) : nM e ≤ 27 * (1 + yhg e):=by
 have:=ydt yxg e.Train.Rows
 simp only [nM,yhg,yci,yeT]
 omega
def yiG : List (List Mover) → Nat:=yd0 ygb
theorem ytr (r : List Mover) : yap r ≤ 27 * (1 + ygb r):=by have:=ydt nM_le r; unfold yap ygb; omega
def yhC (e : Tariff) : Nat:=ydD e.PerClass + ydD e.Weights
theorem yqO : ycz ydq yhC:=by
 intro e l h0 h1 h
 unfold ydq at h ⊢
 obtain ⟨p0,e0⟩:=yaV h
 rw [e0] at h ⊢
 have t0:=ygx e.PerClass _ h0 h1 p0
 obtain ⟨p1,e1⟩:=yaV h
 rw [e1] at h ⊢
 have t1:=ygx e.Weights _ p0 (by omega) p1
 unfold yhC
 omega
def ydZ (e : Passing) : Nat:=yci e.Train
def yhy : List Passing → Nat:=yd0 ydZ
theorem yrm (e : Passing) : yae e ≤ 27 * (1 + ydZ e):=by
 have:=ydt yxg e.Train.Rows
 simp only [yae,ydZ,yci,yeT]
 omega
def ycp (e : Waterway) : Nat:=ydQ e.Reaches + yox e.Ways + yeJ e.Works + yiG e.Movers + yf0 e.Arrived + ydD e.Entered + yhC e.Tariff + ykt e.Book + yhy e.Passings
def hsW (x : Waterway) : List H:=[.p (.i x.Time),.t 3 (x.Reaches.map Reach.yI),.w 2 (x.Ways.map Way.enc),.t 22 (x.Works.map Work.yI),.t 1 (x.Movers.map yax),.t 2 (x.Arrived.map Train.yI),.w 1 (x.Entered.map yJ),
 .p (.i x.Tariff.Base),.p (.i x.Tariff.PerArea),.w 1 (x.Tariff.PerClass.map yJ),.w 1 (x.Tariff.Weights.map yJ),.w 5 (x.Book.map Entry.enc),.t 4 (x.Passings.map Passing.yI),.p (.i x.Start),.p (.i x.In),.p (.i x.Out)]
def wm1 (x : Waterway) (k : Int) : Int:=k + cnt yay x.Reaches
def wm2 (x : Waterway) (k : Int) : Int:=wm1 x k + 2 * x.Ways.length
def wm3 (x : Waterway) (k : Int) : Int:=wm2 x k + cnt yaJ x.Works
def wm4 (x : Waterway) (k : Int) : Int:=wm3 x k + cnt yap x.Movers
def wm5 (x : Waterway) (k : Int) : Int:=wm4 x k + cnt yE x.Arrived
def wm6 (x : Waterway) (k : Int) : Int:=wm5 x k + x.Entered.length
def wm7 (x : Waterway) (k : Int) : Int:=wm6 x k + nT x.Tariff
def wm8 (x : Waterway) (k : Int) : Int:=wm7 x k + 5 * x.Book.length
def wm9 (x : Waterway) (k : Int) : Int:=wm8 x k + cnt yae x.Passings
def hsM (x : Waterway) (k : Int) : List H:=[.p (.i x.Time),.t 3 (yaA ycQ yay k x.Reaches),.w 2 (marked ydz 2 [] (wm1 x k) x.Ways.length),.t 22 (yaA ydH yaJ (wm2 x k) x.Works),.t 1 (yaA ycj yap (wm3 x k) x.Movers),.t 2 (yaA ybN yE (wm4 x k) x.Arrived),.w 1 (marked yJ 1 [] (wm5 x k) x.Entered.length),
 .p (.i x.Tariff.Base),.p (.i x.Tariff.PerArea),.w 1 (marked yJ 1 [] (wm6 x k) x.Tariff.PerClass.length),.w 1 (marked yJ 1 [] (wm6 x k + x.Tariff.PerClass.length) x.Tariff.Weights.length),.w 5 (marked yjL 5 [] (wm7 x k) x.Book.length),.t 4 (yaA ybL yae (wm8 x k) x.Passings),.p (.i x.Start),.p (.i x.In),.p (.i x.Out)]
theorem yhc {id k n : Nat} {mk : Int → List C} {c j : Int} {rows : List (List C)} (h : n = rows.length) : hv id k (marked mk c [] j n) = hv id k rows:=yy6 (by rw [yM,h])
theorem ylR {α : Type} {id k : Nat} {f : Int → α → List C} {n : α → Nat} {j : Int} {g : α → List C} {xs : List α} : hv id k (yaA f n j xs) = hv id k (xs.map g):=yy6 (by rw [yH,List.length_map])
structure WkB (x : Waterway) (k : Int) : Prop where
 b0 : 0 ≤ k
 b1 : k ≤ wm1 x k
 b2 : wm1 x k ≤ wm2 x k
 b3 : wm2 x k ≤ wm3 x k
 b4 : wm3 x k ≤ wm4 x k
 b5 : wm4 x k ≤ wm5 x k
 b6 : wm5 x k ≤ wm6 x k
 b7 : wm6 x k ≤ wm7 x k
 b8 : wm7 x k ≤ wm8 x k
 b9 : wm8 x k ≤ wm9 x k
theorem wkB (x : Waterway) {k : Int} (h : 0 ≤ k) : WkB x k:=by
 refine ⟨h,?_,?_,?_,?_,?_,?_,?_,?_,?_⟩ <;> simp only [wm1,wm2,wm3,wm4,wm5,wm6,wm7,wm8,wm9,nT] <;> omega
set_option maxRecDepth 20000 in
theorem yi8 (x : Waterway) (k : Int) (h0 : 0 ≤ k) (h1 : wm9 x k ≤ 4000000000000000000) :
 InF Tryz.prog 26 (.agg (((hsW x).map H.c).map .c)) (.agg (((hsM x k).map H.c).map .c)) [.c (.i k)] (.c (.i (wm9 x k))):=by
 obtain ⟨b0,b1,b2,b3,b4,b5,b6,b7,b8,b9⟩:=wkB x h0
 have e1 : wm1 x k = k + cnt yay x.Reaches:=rfl
 have e2 : wm2 x k = wm1 x k + 2 * x.Ways.length:=rfl
 have e3 : wm3 x k = wm2 x k + cnt yaJ x.Works:=rfl
 have e4 : wm4 x k = wm3 x k + cnt yap x.Movers:=rfl
 have e5 : wm5 x k = wm4 x k + cnt yE x.Arrived:=rfl
 have e6 : wm6 x k = wm5 x k + x.Entered.length:=rfl
 have e7 : wm7 x k = wm6 x k + nT x.Tariff:=rfl
 have e8 : wm8 x k = wm7 x k + 5 * x.Book.length:=rfl
 have e9 : wm9 x k = wm8 x k + cnt yae x.Passings:=rfl
 have m1:=yty x.Reaches k h0 (by omega)
 have m2:=yvz x.Ways (wm1 x k) (by omega) (by omega)
 have m3:=yvp x.Works (wm2 x k) (by omega) (by omega)
 have m4:=yq3 x.Movers (wm3 x k) (by omega) (by omega)
 have m5:=ylT x.Arrived (wm4 x k) (by omega) (by omega)
 have m6:=ycr x.Entered (wm5 x k) (by omega) (by omega)
 have m7:=ysc x.Tariff (wm6 x k) (by omega) (by omega)
 have m8:=ysZ x.Book (wm7 x k) (by omega) (by omega)
 have m9:=ypA x.Passings (wm8 x k) (by omega) (by omega)
 rw [← e1] at m1; rw [← e2] at m2; rw [← e3] at m3; rw [← e4] at m4; rw [← e5] at m5; rw [← e6] at m6; rw [← e7] at m7; rw [← e8] at m8; rw [← e9] at m9
 refine yEO yjR (by simp) (by simp [hsW,okH,H.ok]) rfl fun hwf=>?_
 simp -dsimp -implicitDefEqProofs [yfE,hsW]
 refine ygZ (ver:=0) m1 (by simp) (by simp [yH]) (by simp) rfl rfl ?_
 simp -dsimp -implicitDefEqProofs
 refine yl7 m2 (by simp) (by simp [yM]) (by simp) rfl rfl ?_
 simp -dsimp -implicitDefEqProofs
 refine ygZ (ver:=0) m3 (by simp) (by simp [yH]) (by simp) rfl rfl ?_
 simp -dsimp -implicitDefEqProofs
 refine ygZ (ver:=0) m4 (by simp) (by simp [yH]) (by simp) rfl rfl ?_
 simp -dsimp -implicitDefEqProofs
 refine ygZ (ver:=0) m5 (by simp) (by simp [yH]) (by simp) rfl rfl ?_
 simp -dsimp -implicitDefEqProofs
 refine yl7 m6 (by simp) (by simp [yM]) (by simp) rfl rfl ?_
 simp -dsimp -implicitDefEqProofs
 refine yzw m7 (by decide) rfl rfl (by simp) (by simp) (by simp [yM]) (by simp [yM]) (by simp) rfl rfl ?_
 simp -dsimp -implicitDefEqProofs
 refine yl7 m8 (by simp) (by simp [yM]) (by simp) rfl rfl ?_
 simp -dsimp -implicitDefEqProofs
 refine ygZ (ver:=0) m9 (by simp) (by simp [yH]) (by simp) rfl rfl ?_
 simp -dsimp -implicitDefEqProofs
 refine yDB ?_ ?_ ?_
 ·simp [hsM]
  exact ⟨ylR.symm,(yhc (by simp)).symm,ylR.symm,ylR.symm,ylR.symm,(yhc (by simp)).symm,(yhc (by simp)).symm,(yhc (by simp)).symm,(yhc (by simp)).symm,ylR.symm⟩
 ·simp [hsM,yxj,lieH]
  exact ⟨⟨1,rfl⟩,⟨1,rfl⟩,⟨1,rfl⟩,⟨1,rfl⟩,⟨1,rfl⟩⟩
 ·simp [yml]
def yAe (x : Waterway) (k : Int) : List C:=[.i x.Time,.sl 3 (yaA yfZ yay k x.Reaches),.sl 2 (marked ydz 2 [] (wm1 x k) x.Ways.length),.sl 22 (yaA yhn yaJ (wm2 x k) x.Works),.sl 1 (yaA yeX yap (wm3 x k) x.Movers),.sl 2 (yaA yfm yE (wm4 x k) x.Arrived),.sl 1 (marked yJ 1 [] (wm5 x k) x.Entered.length),
 .i x.Tariff.Base,.i x.Tariff.PerArea,.sl 1 (marked yJ 1 [] (wm6 x k) x.Tariff.PerClass.length),.sl 1 (marked yJ 1 [] (wm6 x k + x.Tariff.PerClass.length) x.Tariff.Weights.length),.sl 5 (marked yjL 5 [] (wm7 x k) x.Book.length),.sl 4 (yaA ydN yae (wm8 x k) x.Passings),.i x.Start,.i x.In,.i x.Out]
theorem ysr (e : Tariff) (b p : Int) (k : Int) (h0 : 0 ≤ k) (h1 : k + nT e ≤ 4000000000000000000) : yB Tryz.prog 75 [.agg [.c (.i b),.c (.i p),.c (.sl 1 (marked yJ 1 [] k e.PerClass.length)),.c (.sl 1 (marked yJ 1 [] (k + e.PerClass.length) e.Weights.length))],.c (.i k)] (.c (.i (k + nT e))):=by
 refine yh ykH ?_
 unfold nT at h1 ⊢
 simp -dsimp -implicitDefEqProofs
 refine yc (yh1 e.PerClass.length k h0 (by omega)) ?_
 have n1 : (k + (e.PerClass.length : Int) < 0) = False:=by simp; omega
 simp -dsimp -implicitDefEqProofs [n1]
 refine yc (yh1 e.Weights.length (k + e.PerClass.length) (by omega) (by omega)) ?_
 have n2 : (k + (e.PerClass.length : Int) + (e.Weights.length : Int) < 0) = False:=by simp; omega
 simp -dsimp -implicitDefEqProofs [n2]
 omega
set_option maxRecDepth 20000 in
theorem yp9 (x : Waterway) (k : Int) (h0 : 0 ≤ k) (h1 : wm9 x k ≤ 4000000000000000000) : yB Tryz.prog 27 [.agg ((yAe x k).map .c),.c (.i k)] (.c (.i (wm9 x k))):=by
 obtain ⟨b0,b1,b2,b3,b4,b5,b6,b7,b8,b9⟩:=wkB x h0
 have e1 : wm1 x k = k + cnt yay x.Reaches:=rfl
 have e2 : wm2 x k = wm1 x k + 2 * x.Ways.length:=rfl
 have e3 : wm3 x k = wm2 x k + cnt yaJ x.Works:=rfl
 have e4 : wm4 x k = wm3 x k + cnt yap x.Movers:=rfl
 have e5 : wm5 x k = wm4 x k + cnt yE x.Arrived:=rfl
 have e6 : wm6 x k = wm5 x k + x.Entered.length:=rfl
 have e7 : wm7 x k = wm6 x k + nT x.Tariff:=rfl
 have e8 : wm8 x k = wm7 x k + 5 * x.Book.length:=rfl
 have e9 : wm9 x k = wm8 x k + cnt yae x.Passings:=rfl
 have m1:=yr8 x.Reaches k h0 (by omega)
 have m2:=ywa x.Ways.length (wm1 x k) (by omega) (by omega)
 have m3:=ytK x.Works (wm2 x k) (by omega) (by omega)
 have m4:=yqF x.Movers (wm3 x k) (by omega) (by omega)
 have m5:=ylK x.Arrived (wm4 x k) (by omega) (by omega)
 have m6:=yh1 x.Entered.length (wm5 x k) (by omega) (by omega)
 have m7:=ysr x.Tariff x.Tariff.Base x.Tariff.PerArea (wm6 x k) (by omega) (by omega)
 have m8:=ysf x.Book.length (wm7 x k) (by omega) (by omega)
 have m9:=yol x.Passings (wm8 x k) (by omega) (by omega)
 rw [← e1] at m1; rw [← e2] at m2; rw [← e3] at m3; rw [← e4] at m4; rw [← e5] at m5; rw [← e6] at m6; rw [← e7] at m7; rw [← e8] at m8; rw [← e9] at m9
 have n1 : (wm1 x k < 0) = False:=by simp; omega
 have n2 : (wm2 x k < 0) = False:=by simp; omega
 have n3 : (wm3 x k < 0) = False:=by simp; omega
 have n4 : (wm4 x k < 0) = False:=by simp; omega
 have n5 : (wm5 x k < 0) = False:=by simp; omega
 have n6 : (wm6 x k < 0) = False:=by simp; omega
 have n7 : (wm7 x k < 0) = False:=by simp; omega
 have n8 : (wm8 x k < 0) = False:=by simp; omega
 have n9 : (wm9 x k < 0) = False:=by simp; omega
 clear e1 e2 e3 e4 e5 e6 e7 e8 e9
 unfold yAe
 refine yh yjM ?_
 simp -dsimp -implicitDefEqProofs
 refine yc m1 ?_
 simp -dsimp -implicitDefEqProofs [n1]
 refine yc m2 ?_
 simp -dsimp -implicitDefEqProofs [n2]
 refine yc m3 ?_
 simp -dsimp -implicitDefEqProofs [n3]
 refine yc m4 ?_
 simp -dsimp -implicitDefEqProofs [n4]
 refine yc m5 ?_
 simp -dsimp -implicitDefEqProofs [n5]
 refine yc m6 ?_
 simp -dsimp -implicitDefEqProofs [n6]
 refine yc m7 ?_
 simp -dsimp -implicitDefEqProofs [n7]
 refine yc m8 ?_
 simp -dsimp -implicitDefEqProofs [n8]
 refine yc m9 ?_
 simp -dsimp -implicitDefEqProofs [n9]
theorem yAl (x : Waterway) (k : Int) : wm9 x k ≤ k + 27 * (ycp x : Int):=by
 have a1:=ydt yum x.Reaches
 have a2:=ydt yvC x.Works
 have a3:=ydt ytr x.Movers
 have a4:=ydt ymK x.Arrived
 have a5:=ydt yrm x.Passings
 have b1 : ydQ x.Reaches = yd0 yaZ x.Reaches:=rfl
 have b2 : yeJ x.Works = yd0 yg5 x.Works:=rfl
 have b3 : yiG x.Movers = yd0 ygb x.Movers:=rfl
 have b4 : yf0 x.Arrived = yd0 yci x.Arrived:=rfl
 have b5 : yhy x.Passings = yd0 ydZ x.Passings:=rfl
 have c1 : yox x.Ways = x.Ways.length:=rfl
 have c2 : ydD x.Entered = x.Entered.length:=rfl
 have c3 : ykt x.Book = x.Book.length:=rfl
 have c4 : ydD x.Tariff.PerClass = x.Tariff.PerClass.length:=rfl
 have c5 : ydD x.Tariff.Weights = x.Tariff.Weights.length:=rfl
 simp only [wm1,wm2,wm3,wm4,wm5,wm6,wm7,wm8,wm9,nT,ycp,yhC]
 omega
theorem yrQ {α : Type} {f : Int → α → List C} {n : α → Nat} {k : Int} {xs : List α} : (yaA f n k xs).take xs.length = yaA f n k xs:=List.take_of_length_le (by rw [yH]; exact Nat.le_refl _)
def yNT (rs : List Reach) (ws : List Way) (wk : List Work) (t : Tariff) : Waterway:=⟨0,rs,ws,wk,List.replicate rs.length [],[],[],t,[],[],0,0,0⟩
def yNS (rs : List Reach) (ws : List Way) (wk : List Work) (t : Tariff) : Waterway:=⟨0,rs,ws,wk,List.replicate rs.length [],[],[],t,[],[],yNB (yNT rs ws wk t),0,0⟩
def yNA (w : Work) : Bool:=decide (w.Lock.Inside.length = 0) && decide (w.Calls.length = 0)
def yNE : Waterway:=⟨0,[],[],[],[],[],[],⟨0,0,[],[]⟩,[],[],0,0,0⟩
def yNy (rs : List Reach) (ws : List Way) (wk : List Work) (t : Tariff) : Waterway × Bool :=
 if wk.all yNA && yar (yNS rs ws wk t) then (yNS rs ws wk t,true) else (yNE,false)
theorem yN0 {rs : List Reach} {ws : List Way} {wk : List Work} {t : Tariff} (h1 : ycN rs) (h2 : yhr ws) (h3 : yc8 wk) (h4 : t.small) : (yNT rs ws wk t).small:=by
 have e : ∀ {α : Type} {p : α → Prop},ycs p []:=fun {_ _}=>⟨by simp,fun x hx=>by simp at hx⟩
 exact ⟨h1,h2,h3,⟨by simpa [yNT] using h1.1,fun l hl=>by rw [(List.mem_replicate.1 hl).2]; exact e⟩,e,e,h4,e,e⟩
theorem yN9 {rs : List Reach} {ws : List Way} {wk : List Work} {t : Tariff} (h1 : ycN rs) (h2 : yhr ws) (h3 : yc8 wk) (h4 : t.small) : (yNS rs ws wk t).small:=yN0 h1 h2 h3 h4
theorem yOg {rs : List Reach} {ws : List Way} {wk : List Work} {t : Tariff} (h : wk.all yNA = false) : yNy rs ws wk t = (yNE,false):=by simp only [yNy,h,Bool.false_and]; rfl
theorem yOi {rs : List Reach} {ws : List Way} {wk : List Work} {t : Tariff} (h : yar (yNS rs ws wk t) = false) : yNy rs ws wk t = (yNE,false):=by simp only [yNy,h,Bool.and_false]; rfl
set_option maxRecDepth 20000 in
theorem yN2 (rs : List Reach) (ws : List Way) (wk : List Work) (t : Tariff) (h1 : ycN rs) (h2 : yhr ws) (h3 : yc8 wk) (h4 : t.small) :
 ybh Tryz.prog 16 [.c (.sl 3 (rs.map Reach.enc)),.c (.sl 2 (ws.map Way.enc)),.c (.sl 22 (wk.map Work.enc)),.agg (t.enc.map .c)] (.tup [.agg ((yNy rs ws wk t).1.yI.map .c),.c (.b (yNy rs ws wk t).2)]):=by
 have hr:=yN0 h1 h2 h3 h4
 have hn:=yN9 h1 h2 h3 h4
 have hl1:=h1.1
 refine yan yNW ?_
 simp -dsimp -implicitDefEqProofs
 intro hlen
 refine yg (ι:=Nat) (fun k=>k ≤ wk.length ∧ ∀ w ∈ wk.take k,yNA w = true) (fun k=>yO [(0,.c (.sl 3 (rs.map Reach.enc))),(1,.c (.sl 2 (ws.map Way.enc))),(2,.c (.sl 22 (wk.map Work.enc))),(7,.box 7 0),(8,.box 8 0),(13,.c (.sl 22 (wk.map Work.enc))),(14,.c (.i wk.length)),(15,.c (.i k))] [(7,.box (t.enc.map .c)),(8,.box [.c (.i 0),.nil 3,.nil 2,.nil 22,.nil 1,.nil 2,.nil 1,.c (.i 0),.c (.i 0),.nil 1,.nil 1,.nil 5,.nil 4,.c (.i 0),.c (.i 0),.c (.i 0)])]) (fun k=>wk.length - k) 0 (by simp) (by apply yj <;> simp) ?_
 rintro k ⟨hk,hall⟩
 rcases Nat.lt_or_ge k wk.length with klt | kge
 ·obtain ⟨w,hw⟩ : ∃ w,wk[k]? = some w:=⟨_,List.getElem?_eq_getElem klt⟩
  have g1:=(List.getElem?_eq_some_iff.1 hw).2
  simp -dsimp -implicitDefEqProofs [hw,g1,klt,yG klt]
  intro hlen2
  have bad : yNA w = false → yNy rs ws wk t = (yNE,false):=fun h=>yOg (all_false (p:=yNA) hw h)
  refine ⟨fun hi=>fun hlen3=>⟨fun hc=>?_,fun hc=>?_⟩,fun hi=>?_⟩
  ·rw [bad (by have : ¬ w.Calls.length = 0:=by omega
               simp only [yNA,decide_eq_false this,Bool.and_false])]
   refine yfg ?_
   simp [yNE]
  ·have hok : yNA w = true:=by
    have h3 : w.Calls.length = 0:=by rw [hc]; rfl
    simp [yNA,hi,h3]
   have hall':=yL (p:=yNA) hw hall hok
   refine ⟨yw klt hlen,k + 1,⟨klt,hall'⟩,by omega,?_⟩
   apply yj <;> simp
  ·rw [bad (by have : ¬ w.Lock.Inside.length = 0:=by omega
               simp only [yNA,decide_eq_false this,Bool.false_and])]
   refine yfg ?_
   simp [yNE]
 have hall2:=yX (p:=yNA) kge hall
 simp -dsimp -implicitDefEqProofs [yaB kge]
 intro _
 refine ⟨by omega,?_⟩
 have hW:=yOa (yNT rs ws wk t) hr
 have hwr:=yN3 (yNT rs ws wk t)
 have hrep : ∀ n : Nat,ykv (List.replicate n [C.sl 3 []]) = some (List.replicate n [C.sl 3 []]):=by
  intro n; induction n with
  | zero=>rfl
  | succ n ih=>rw [List.replicate_succ]; simp [ykv,ih,ybQ,C.shr]
 have hrm : (List.replicate rs.length ([] : List Mover)).map yZ = List.replicate rs.length [C.sl 3 []]:=by rw [List.map_replicate]; rfl
 have hV:=yns (yNS rs ws wk t) hn
 have hC:=ypi (yNS rs ws wk t) hn
 have hNW : yNy rs ws wk t = if yar (yNS rs ws wk t) then (yNS rs ws wk t,true) else (yNE,false):=by
  have hall3 : wk.all yNA = true:=hall2
  simp only [yNy,hall3,Bool.true_and]
 rw [hNW]
 have hnz : yNS rs ws wk t = ⟨0,rs,ws,wk,List.replicate rs.length [],[],[],t,[],[],yNB (yNT rs ws wk t),0,0⟩:=rfl
 rw [hnz] at hV hC ⊢
 generalize yNB (yNT rs ws wk t) = z at *
 generalize hy : (⟨0,rs,ws,wk,List.replicate rs.length [],[],[],t,[],[],z,0,0⟩ : Waterway) = y at *
 have hyt : y.Start = z:=by rw [← hy]
 generalize hok : yar y = ok at *
 have he : y.enc = [.i 0,.sl 3 (rs.map Reach.enc),.sl 2 (ws.map Way.enc),.sl 22 (wk.map Work.enc),.sl 1 (List.replicate rs.length [C.sl 3 []]),.sl 2 [],.sl 1 [],.i t.Base,.i t.PerArea,.sl 1 (t.PerClass.map yJ),.sl 1 (t.Weights.map yJ),.sl 5 [],.sl 4 [],.i z,.i 0,.i 0]:=by rw [← hy]; simp [Waterway.enc,hrm]
 rw [he] at hV hC
 simp only [yNT,Waterway.enc,hrm] at hW
 refine yaQ (hW) (by simp -dsimp -implicitDefEqProofs [hrep,List.take_replicate,hrm]) rfl ?_
 simp -dsimp -implicitDefEqProofs
 refine yaQ (hV) (by simp -dsimp -implicitDefEqProofs [hrep,List.take_replicate,hrm]) rfl ?_
 cases ok with
 | false =>
  simp -dsimp -implicitDefEqProofs
  refine yfg ?_
  simp [yNE]
 | true =>
  simp -dsimp -implicitDefEqProofs
  refine yQ hC (by simp -dsimp -implicitDefEqProofs [hrep,List.take_replicate,hrm]) (yb5 (Waterway.yad y)) (by simp [yU]) ?_
  simp -dsimp -implicitDefEqProofs [yt]
  refine yfg ?_
  simp -dsimp -implicitDefEqProofs [yt]
set_option maxRecDepth 20000 in
theorem yN1 (rs : List Reach) (ws : List Way) (wk : List Work) (t : Tariff) (h1 : ycN rs) (h2 : yhr ws) (h3 : yc8 wk) (h4 : t.small) :
 yB Tryz.prog 11 [.c (.sl 3 (rs.map Reach.enc)),.c (.sl 2 (ws.map Way.enc)),.c (.sl 22 (wk.map Work.enc)),.agg (t.enc.map .c)] (.tup [.agg ((yNy rs ws wk t).1.enc.map .c),.c (.b (yNy rs ws wk t).2)]):=by
 have hr:=yN0 h1 h2 h3 h4
 have hn:=yN9 h1 h2 h3 h4
 have hl1:=h1.1
 have hrep : ∀ n : Nat,ykv (List.replicate n [C.sl 3 []]) = some (List.replicate n [C.sl 3 []]):=by
  intro n; induction n with
  | zero=>rfl
  | succ n ih=>rw [List.replicate_succ]; simp [ykv,ih,ybQ,C.shr]
 have hrm : (List.replicate rs.length ([] : List Mover)).map yZ = List.replicate rs.length [C.sl 3 []]:=by rw [List.map_replicate]; rfl
 have hco:=yxC (yNT rs ws wk t) hr
 have hW:=yOc (yNT rs ws wk t) hr
 have hV:=ym6 (yNS rs ws wk t) hn
 have hwr:=yN3 (yNT rs ws wk t)
 have he : (yNT rs ws wk t).enc = [.i 0,.sl 3 (rs.map Reach.enc),.sl 2 (ws.map Way.enc),.sl 22 (wk.map Work.enc),.sl 1 (List.replicate rs.length [C.sl 3 []]),.sl 2 [],.sl 1 [],.i t.Base,.i t.PerArea,.sl 1 (t.PerClass.map yJ),.sl 1 (t.Weights.map yJ),.sl 5 [],.sl 4 [],.i 0,.i 0,.i 0]:=by simp [yNT,Waterway.enc,hrm]
 have he2 : (yNS rs ws wk t).enc = [.i 0,.sl 3 (rs.map Reach.enc),.sl 2 (ws.map Way.enc),.sl 22 (wk.map Work.enc),.sl 1 (List.replicate rs.length [C.sl 3 []]),.sl 2 [],.sl 1 [],.i t.Base,.i t.PerArea,.sl 1 (t.PerClass.map yJ),.sl 1 (t.Weights.map yJ),.sl 5 [],.sl 4 [],.i (yNB (yNT rs ws wk t)),.i 0,.i 0]:=by simp [yNS,Waterway.enc,hrm]
 have hse : (yNT rs ws wk t).yAY = [.i 0,.ow 3 (rs.map Reach.enc),.ow 2 (ws.map Way.enc),.ow 22 (wk.map Work.enc),.ot 1 (List.replicate rs.length [C.ow 3 []]),.ow 2 [],.ow 1 [],.i t.Base,.i t.PerArea,.ow 1 (t.PerClass.map yJ),.ow 1 (t.Weights.map yJ),.ow 5 [],.ow 4 [],.i 0,.i 0,.i 0]:=by simp [yNT,Waterway.yAY,em,List.map_replicate]
 have hrep2 : ∀ n : Nat,ykv (List.replicate n [C.ow 3 []]) = some (List.replicate n [C.sl 3 []]):=by
  intro n; induction n with
  | zero=>rfl
  | succ n ih=>rw [List.replicate_succ,List.replicate_succ]; simp [ykv,ih,ybQ,C.shr]
 rw [he,hse] at hco
 rw [he] at hW
 rw [he2] at hV
 have hN1 : ∀ h : yar (yNS rs ws wk t) = true,wk.all yNA = true → yNy rs ws wk t = (yNS rs ws wk t,true):=fun h h'=>by simp [yNy,h,h']
 have hN2 : yar (yNS rs ws wk t) = false → yNy rs ws wk t = (yNE,false):=fun h=>yOi h
 have hN3 : wk.all yNA = false → yNy rs ws wk t = (yNE,false):=fun h=>yOg h
 have he3 : (yNS rs ws wk t).enc.map AV.c = _:=congrArg (List.map AV.c) he2
 generalize yNB (yNT rs ws wk t) = z at *
 generalize yNy rs ws wk t = R at *
 generalize yNS rs ws wk t = y at *
 generalize hok : yar y = ok at *
 refine yh yNV ?_
 simp -dsimp -implicitDefEqProofs
 intro hlen
 refine ⟨by omega,?_⟩
 refine yOf [18] hco (by simp -dsimp -implicitDefEqProofs [hrep,List.take_replicate]) rfl (by simp [yU]) ?_
 simp -dsimp -implicitDefEqProofs
 refine yaQ (hW) (by simp -dsimp -implicitDefEqProofs [yt,hrep2,List.take_replicate]) rfl ?_
 simp -dsimp -implicitDefEqProofs
 refine yg (ι:=Nat) (fun k=>k ≤ wk.length ∧ ∀ w ∈ wk.take k,yNA w = true) (fun k=>yO [(0,.c (.sl 3 (rs.map Reach.enc))),(1,.c (.sl 2 (ws.map Way.enc))),(2,.c (.sl 22 (wk.map Work.enc))),(8,.box 8 0),(9,.c (.b false)),(10,.box 10 0),(11,.c (.i k))] [(8,.box [.c (.i 0),.nil 3,.nil 2,.nil 22,.nil 1,.nil 2,.nil 1,.c (.i 0),.c (.i 0),.nil 1,.nil 1,.nil 5,.nil 4,.c (.i 0),.c (.i 0),.c (.i 0)]),(10,.box [.c (.i 0),.own 20021 3 rs.length,.own 30021 2 ws.length,.own 40021 22 wk.length,.own 50021 1 rs.length,.own 60021 2 0,.own 70021 1 0,.c (.i t.Base),.c (.i t.PerArea),.own 100021 1 t.PerClass.length,.own 110021 1 t.Weights.length,.own 120021 5 0,.own 130021 4 0,.c (.i z),.c (.i 0),.c (.i 0)]),(20021,.row 3 (rs.map Reach.enc)),(30021,.row 2 (ws.map Way.enc)),(40021,.row 22 (wk.map Work.enc)),(50021,.tr 1 0 (List.replicate rs.length [C.ow 3 []])),(60021,.row 2 []),(70021,.row 1 []),(100021,.row 1 (t.PerClass.map yJ)),(110021,.row 1 (t.Weights.map yJ)),(120021,.row 5 []),(130021,.row 4 [])]) (fun k=>wk.length - k) 0 (by simp) (by apply yj <;> simp) ?_
 rintro k ⟨hk,hall⟩
 rcases Nat.lt_or_ge k wk.length with klt | kge
 ·obtain ⟨w,hw⟩ : ∃ w,wk[k]? = some w:=⟨_,List.getElem?_eq_getElem klt⟩
  have g1:=(List.getElem?_eq_some_iff.1 hw).2
  simp -dsimp -implicitDefEqProofs [hw,g1,klt,yG klt]
  intro hlen2
  have bad : yNA w = false → R = (yNE,false):=fun h=>hN3 (all_false (p:=yNA) hw h)
  have badL : 0 < w.Lock.Inside.length → R = (yNE,false):=by
   intro h
   have h2 : ¬ w.Lock.Inside.length = 0:=by omega
   exact bad (by simp only [yNA,decide_eq_false h2,Bool.false_and])
  have badC : 0 < w.Calls.length → R = (yNE,false):=by
   intro h
   have h2 : ¬ w.Calls.length = 0:=by omega
   exact bad (by simp only [yNA,decide_eq_false h2,Bool.and_false])
  refine fun hlen3=>⟨fun hi hlen4=>⟨fun hc=>?_,fun hc=>?_⟩,fun hi=>?_⟩
  ·rw [badC hc]; simp [yNE]
  ·have hok : yNA w = true:=by
    have h1 : w.Lock.Inside.length = 0:=by rw [hi]; rfl
    have h3 : w.Calls.length = 0:=by rw [hc]; rfl
    simp [yNA,h1,h3]
   have hall':=yL (p:=yNA) hw hall hok
   refine ⟨yw klt hlen2,k + 1,⟨klt,hall'⟩,by omega,?_⟩
   apply yj <;> simp
  ·rw [badL hi]; simp [yNE]
 have hall2 : wk.all yNA = true:=yX (p:=yNA) kge hall
 simp -dsimp -implicitDefEqProofs [yaB kge]
 intro _
 refine yaQ (hV) (by simp -dsimp -implicitDefEqProofs [yt,hrep2,List.take_replicate]) rfl ?_
 cases ok with
 | false =>
  rw [hN2 rfl]
  simp -dsimp -implicitDefEqProofs
  simp [yNE]
 | true =>
  rw [hN1 rfl hall2]
  simp -dsimp -implicitDefEqProofs
  simp only [Waterway.enc,List.cons.injEq,C.i.injEq,C.sl.injEq,true_and,and_true] at he2
  obtain ⟨e0,e1,e2,e3,e4,e5,e6,e7,e8,e9,e10,e11,e12,e13,e14,e15⟩:=he2
  simp only [List.map_eq_nil_iff] at e5 e6 e11 e12
  simp only [e0,e1,e2,e3,e4,e5,e6,e7,e8,e9,e10,e11,e12,e13,e14,e15,hrep2,yt,yza]
  simp
theorem yOe (rs : List Reach) (ws : List Way) (wk : List Work) (t : Tariff) (h : ydQ rs + yox ws + yeJ wk + yhC t ≤ 1048576) (hl : rs.length ≤ 1048576) : wm9 (yNy rs ws wk t).1 1 ≤ 4000000000000000000:=by
 have hz : ycp yNE ≤ 4194304:=by decide
 have hr : yiG (List.replicate rs.length []) ≤ 2 * rs.length:=by
  generalize rs.length = n
  have hm : ygb [] = 0:=rfl
  induction n with
  | zero=>simp [yiG,yd0]
  | succ n ih=>rw [List.replicate_succ]; simp only [yiG,yd0,hm,List.map_cons,List.sum_cons,List.length_cons] at ih ⊢; omega
 have h2 : ycp (yNy rs ws wk t).1 ≤ 4194304:=by
  unfold yNy
  split
  ·simp only [yNS,ycp,yf0,ydD,ykt,yhy,yd0] at *
   simp at *
   omega
  ·exact hz
 have:=yAl (yNy rs ws wk t).1 1
 omega
set_option maxRecDepth 40000 in
theorem yNU (x0 : List Reach) (x1 : List Way) (x2 : List Work) (x3 : Tariff) : yB Tryz.prog 3 [.c (.sl 3 (x0.map Reach.enc)),.c (.sl 2 (x1.map Way.enc)),.c (.sl 22 (x2.map Work.enc)),.agg (x3.enc.map .c)] (.c (.b true)):=by
 refine yh yNJ ?_
 simp -dsimp -implicitDefEqProofs
 refine yc (yuf x0 1048576 (by omega) (by omega)) ?_
 simp -dsimp -implicitDefEqProofs
 intro hsz0
 have hl0:=yzy ykV (by omega) (by omega) hsz0
 have t0:=yqR x0 1048576 (by omega) (by omega) hsz0
 refine yc (yxL x1 (yd8 x0 1048576) (by omega) (by omega)) ?_
 simp -dsimp -implicitDefEqProofs
 intro hsz1
 have hl1:=yzy ypU (by omega) (by omega) hsz1
 have t1:=yu8 x1 _ (by omega) (by omega) hsz1
 refine yc (yv0 x2 _ (by omega) (by omega)) ?_
 simp -dsimp -implicitDefEqProofs
 intro hsz2
 have hl2:=yzy ym4 (by omega) (by omega) hsz2
 have t2:=ytv x2 _ (by omega) (by omega) hsz2
 refine yc (yuv x3 _ (by omega) (by omega)) ?_
 simp -dsimp -implicitDefEqProofs
 intro hsz3
 have hl3:=yzy ylo (by omega) (by omega) hsz3
 have t3:=yqO x3 _ (by omega) (by omega) hsz3
 have hO:=yN2 x0 x1 x2 x3 hl0 hl1 hl2 hl3
 have hS:=yN1 x0 x1 x2 x3 hl0 hl1 hl2 hl3
 have hM:=yOe x0 x1 x2 x3 (by omega) hl0.1
 refine yY (ywf x0 hl0) ?_
 simp -dsimp -implicitDefEqProofs
 refine yY (yzL x1 hl1) ?_
 simp -dsimp -implicitDefEqProofs
 refine yY (yyh x2 hl2) ?_
 simp -dsimp -implicitDefEqProofs
 refine yY (ywB x3 hl3) ?_
 simp -dsimp -implicitDefEqProofs
 refine yY hS ?_
 generalize yNy x0 x1 x2 x3 = R at *
 obtain ⟨r,b⟩:=R
 dsimp only at hM hO hS
 simp -dsimp -implicitDefEqProofs
 refine yQ (ywx x0 hl0) (by simp) (show AV.closed (.c (.ot 3 _)) from ybn Reach.yad 3 x0) (by simp [yU]) ?_
 simp -dsimp -implicitDefEqProofs
 refine yQ (yzG x1 hl1) (by simp ) (by simp [AV.closed,AV.ya7,C.closed]) (by simp [yU]) ?_
 simp -dsimp -implicitDefEqProofs
 refine yQ (yyw x2 hl2) (by simp) (show AV.closed (.c (.ot 22 _)) from ybn Work.yad 22 x2) (by simp [yU]) ?_
 simp -dsimp -implicitDefEqProofs
 refine yQ (yv6 x3 hl3) (by simp ) (by simp [AV.closed,AV.ya7,C.closed]) (by simp [yU]) ?_
 simp -dsimp -implicitDefEqProofs
 have hP : yB Tryz.prog 16 [.c (.sl 3 (x0.map Reach.enc)),.c (.sl 2 (x1.map Way.enc)),.c (.sl 22 (x2.map Work.enc)),.agg (x3.enc.map .c)] (.tup [.agg (r.enc.map .c),.c (.b b)]):=hO.pure (by simp [AV.shr,AV.ysI,AV.yAK,ybQ,C.shr,yag Reach.yaa,yag Work.yaa,yag ycu,yag Train.yaa,yag Passing.yaa])
 refine yQ hO (by simp -dsimp -implicitDefEqProofs [yt,yag Reach.yaa,yag Work.yaa,yag ycu,yag Train.yaa,yag Passing.yaa,yag CallT.yaa]) (fun x hx=>by
  rcases List.mem_cons.1 hx with rfl | hx
  ·exact yb5 (Waterway.yad r)
  ·rcases List.mem_cons.1 hx with rfl | hx
   ·simp [AV.ya7,C.closed]
   ·cases hx) (by simp [yU]) ?_
 simp -dsimp -implicitDefEqProofs
 refine yaQ (yfL r r) (by simp -dsimp -implicitDefEqProofs [yt,yag Reach.yaa,yag Work.yaa,yag ycu,yag Train.yaa,yag Passing.yaa,yag CallT.yaa]) rfl ?_
 simp -dsimp -implicitDefEqProofs
 refine yS (ywf x0 hl0) ?_
 simp -dsimp -implicitDefEqProofs
 refine yaQ (ywC x0 x0) (by simp -dsimp -implicitDefEqProofs [yt,yag Reach.yaa,yag Work.yaa,yag ycu,yag Train.yaa,yag Passing.yaa,yag CallT.yaa]) rfl ?_
 simp -dsimp -implicitDefEqProofs
 refine yS (yzL x1 hl1) ?_
 simp -dsimp -implicitDefEqProofs
 refine yaQ (yzd x1 x1) (by simp -dsimp -implicitDefEqProofs [yt,yag Reach.yaa,yag Work.yaa,yag ycu,yag Train.yaa,yag Passing.yaa,yag CallT.yaa]) rfl ?_
 simp -dsimp -implicitDefEqProofs
 refine yS (yyh x2 hl2) ?_
 simp -dsimp -implicitDefEqProofs
 refine yaQ (yyy x2 x2) (by simp -dsimp -implicitDefEqProofs [yt,yag Reach.yaa,yag Work.yaa,yag ycu,yag Train.yaa,yag Passing.yaa,yag CallT.yaa]) rfl ?_
 simp -dsimp -implicitDefEqProofs
 refine yyA (ywB x3 hl3) ?_
 simp -dsimp -implicitDefEqProofs
 refine ⟨_,_,yv1 x3 x3,by simp -dsimp -implicitDefEqProofs [yt,yag Reach.yaa,yag Work.yaa,yag ycu,yag Train.yaa,yag Passing.yaa,yag CallT.yaa],.inr rfl,?_⟩
 simp -dsimp -implicitDefEqProofs
 have c0:=ydt yum x0
 have c2:=ydt yvC x2
 have u0 : ydQ x0 = yd0 yaZ x0:=rfl
 have u2 : yeJ x2 = yd0 yg5 x2:=rfl
 have d1:=hl1.1
 have d3:=hl3.1
 have d4:=hl3.2
 have hnT : nT x3 = x3.PerClass.length + x3.Weights.length:=rfl
 refine ycW (up:=some (56,.tr 3 1 (yaA ycQ yay 1 x0))) (yty x0 1 (by omega) (by omega)) (by simp) rfl rfl (yf9 (rows:=x0.map Reach.yI) (by simp -dsimp -implicitDefEqProofs) rfl rfl rfl (by simp) (by simp [yH]) rfl rfl) ?_
 simp -dsimp -implicitDefEqProofs
 refine ycW (up:=some (58,.row 2 (marked ydz 2 [] (1 + cnt yay x0) x1.length))) (yvz x1 (1 + cnt yay x0) (by omega) (by omega)) (by simp) rfl rfl (ybY (rows:=x1.map Way.enc) (by simp -dsimp -implicitDefEqProofs) rfl rfl (by simp) (by simp [yM]) rfl rfl) ?_
 simp -dsimp -implicitDefEqProofs
 refine ycW (up:=some (60,.tr 22 1 (yaA ydH yaJ (1 + cnt yay x0 + 2 * x1.length) x2))) (yvp x2 (1 + cnt yay x0 + 2 * x1.length) (by omega) (by omega)) (by simp) rfl rfl (yf9 (rows:=x2.map Work.yI) (by simp -dsimp -implicitDefEqProofs) rfl rfl rfl (by simp) (by simp [yH]) rfl rfl) ?_
 simp -dsimp -implicitDefEqProofs
 generalize hk : (1 + cnt yay x0 + 2 * x1.length + cnt yaJ x2 : Int) = k3
 refine yg1 (ups:=[none,none,some (30062,.row 1 (marked yJ 1 [] k3 x3.PerClass.length)),some (40062,.row 1 (marked yJ 1 [] (k3 + x3.PerClass.length) x3.Weights.length))]) (ysc x3 k3 (by omega) (by omega)) (by simp) rfl rfl
  ⟨yb6 rfl,yb6 rfl,ybY (rows:=x3.PerClass.map yJ) (by simp -dsimp -implicitDefEqProofs) rfl rfl (by simp) (by simp [yM]) rfl rfl,ybY (rows:=x3.Weights.map yJ) (by simp -dsimp -implicitDefEqProofs) rfl rfl (by simp) (by simp [yM]) rfl rfl,trivial⟩ (by simp [ydf]) ?_
 have n1 : (k3 + nT x3 < 0) = False:=by simp; omega
 simp -dsimp -implicitDefEqProofs [n1]
 refine yaQ (yfL r r) (by simp -dsimp -implicitDefEqProofs [yt,yag Reach.yaa,yag Work.yaa,yag ycu,yag Train.yaa,yag Passing.yaa,yag CallT.yaa]) rfl ?_
 simp -dsimp -implicitDefEqProofs
 refine yg1 (ups:=[none,some (10020068,.tr 3 1 (yaA ycQ yay 1 r.Reaches)),some (10030068,.row 2 (marked ydz 2 [] (wm1 r 1) r.Ways.length)),some (10040068,.tr 22 1 (yaA ydH yaJ (wm2 r 1) r.Works)),some (10050068,.tr 1 1 (yaA ycj yap (wm3 r 1) r.Movers)),some (10060068,.tr 2 1 (yaA ybN yE (wm4 r 1) r.Arrived)),some (10070068,.row 1 (marked yJ 1 [] (wm5 r 1) r.Entered.length)),none,none,some (10100068,.row 1 (marked yJ 1 [] (wm6 r 1) r.Tariff.PerClass.length)),some (10110068,.row 1 (marked yJ 1 [] (wm6 r 1 + r.Tariff.PerClass.length) r.Tariff.Weights.length)),some (10120068,.row 5 (marked yjL 5 [] (wm7 r 1) r.Book.length)),some (10130068,.tr 4 1 (yaA ybL yae (wm8 r 1) r.Passings)),none,none,none]) (yi8 r 1 (by omega) (by omega)) (by simp -dsimp -implicitDefEqProofs) rfl rfl
  ⟨yb6 rfl,yf9 (rows:=r.Reaches.map Reach.yI) (by simp -dsimp -implicitDefEqProofs) rfl rfl rfl (by simp) (by simp [yH]) rfl rfl,ybY (rows:=r.Ways.map Way.enc) (by simp -dsimp -implicitDefEqProofs) rfl rfl (by simp) (by simp [yM]) rfl rfl,yf9 (rows:=r.Works.map Work.yI) (by simp -dsimp -implicitDefEqProofs) rfl rfl rfl (by simp) (by simp [yH]) rfl rfl,yf9 (rows:=r.Movers.map yax) (by simp -dsimp -implicitDefEqProofs) rfl rfl rfl (by simp) (by simp [yH]) rfl rfl,yf9 (rows:=r.Arrived.map Train.yI) (by simp -dsimp -implicitDefEqProofs) rfl rfl rfl (by simp) (by simp [yH]) rfl rfl,ybY (rows:=r.Entered.map yJ) (by simp -dsimp -implicitDefEqProofs) rfl rfl (by simp) (by simp [yM]) rfl rfl,yb6 rfl,yb6 rfl,ybY (rows:=r.Tariff.PerClass.map yJ) (by simp -dsimp -implicitDefEqProofs) rfl rfl (by simp) (by simp [yM]) rfl rfl,ybY (rows:=r.Tariff.Weights.map yJ) (by simp -dsimp -implicitDefEqProofs) rfl rfl (by simp) (by simp [yM]) rfl rfl,ybY (rows:=r.Book.map Entry.enc) (by simp -dsimp -implicitDefEqProofs) rfl rfl (by simp) (by simp [yM]) rfl rfl,yf9 (rows:=r.Passings.map Passing.yI) (by simp -dsimp -implicitDefEqProofs) rfl rfl rfl (by simp) (by simp [yH]) rfl rfl,yb6 rfl,yb6 rfl,yb6 rfl,trivial⟩ (by simp [ydf]) ?_
 have v9 : 0 ≤ wm9 r 1:=by have:=wkB r (k:=1) (by omega); obtain ⟨b0,b1,b2,b3,b4,b5,b6,b7,b8,b9⟩:=this; omega
 have n2 : (wm9 r 1 < 0) = False:=by simp; omega
 simp -dsimp -implicitDefEqProofs
 have hH:=yp9 r 1 (by omega) (by omega)
 unfold yAe at hH
 refine yaQ (hH) (by simp -dsimp -implicitDefEqProofs [yd6,yrQ,yba ykO,yba ymN,yba ykc,yba yh9,yba yiO,yba yiY]) rfl ?_
 simp -dsimp -implicitDefEqProofs [n2]
 refine yY (ywf x0 hl0) ?_
 simp -dsimp -implicitDefEqProofs
 refine yY (yzL x1 hl1) ?_
 simp -dsimp -implicitDefEqProofs
 refine yY (yyh x2 hl2) ?_
 simp -dsimp -implicitDefEqProofs
 refine yY (ywB x3 hl3) ?_
 simp -dsimp -implicitDefEqProofs
 refine yY hP ?_
 simp -dsimp -implicitDefEqProofs
 refine yaQ (yfL r r) (by simp -dsimp -implicitDefEqProofs [yt,yag Reach.yaa,yag Work.yaa,yag ycu,yag Train.yaa,yag Passing.yaa,yag CallT.yaa]) rfl ?_
 simp -dsimp -implicitDefEqProofs
 refine yaQ (hH) (by simp -dsimp -implicitDefEqProofs [yd6,yrQ,yba ykO,yba ymN,yba ykc,yba yh9,yba yiO,yba yiY]) rfl ?_
 simp -dsimp -implicitDefEqProofs [n2]
theorem ykL {xs : List C} (h : Fits [.i] xs) : ∃ n : Int,xs = yJ n:=by
 obtain ⟨c0,ys,rfl,h0,h⟩:=h.cons_inv
 obtain rfl:=h.ycx
 obtain ⟨n0,rfl⟩:=h0.yaT
 exact ⟨n0,rfl⟩
theorem yOd {xs : List C} (h : Fits [.i,.i,.sl [.i],.sl [.i]] xs) : ∃ t : Tariff,xs = t.enc:=by
 obtain ⟨c0,ys,rfl,h0,h⟩:=h.cons_inv
 obtain ⟨c1,ys,rfl,h1,h⟩:=h.cons_inv
 obtain ⟨c2,ys,rfl,h2,h⟩:=h.cons_inv
 obtain ⟨c3,ys,rfl,h3,h⟩:=h.cons_inv
 obtain rfl:=h.ycx
 obtain ⟨n0,rfl⟩:=h0.yaT
 obtain ⟨n1,rfl⟩:=h1.yaT
 obtain ⟨n2,rfl⟩:=h2.ycq yJ fun _ h=>ykL h
 obtain ⟨n3,rfl⟩:=h3.ycq yJ fun _ h=>ykL h
 exact ⟨⟨n0,n1,n2,n3⟩,rfl⟩
theorem yBG {xs : List C} (h : Fits [.i,.i] xs) : ∃ e : Way,xs = e.enc:=by
 obtain ⟨c0,ys,rfl,h0,h⟩:=h.cons_inv
 obtain ⟨c1,ys,rfl,h1,h⟩:=h.cons_inv
 obtain rfl:=h.ycx
 obtain ⟨n0,rfl⟩:=h0.yaT
 obtain ⟨n1,rfl⟩:=h1.yaT
 exact ⟨⟨n0,n1⟩,rfl⟩
theorem yAu {xs : List C} (h : Fits [.i,.i,.i,.i,.i,.i] xs) : ∃ e : Boat,xs = e.enc:=by
 obtain ⟨c0,ys,rfl,h0,h⟩:=h.cons_inv
 obtain ⟨c1,ys,rfl,h1,h⟩:=h.cons_inv
 obtain ⟨c2,ys,rfl,h2,h⟩:=h.cons_inv
 obtain ⟨c3,ys,rfl,h3,h⟩:=h.cons_inv
 obtain ⟨c4,ys,rfl,h4,h⟩:=h.cons_inv
 obtain ⟨c5,ys,rfl,h5,h⟩:=h.cons_inv
 obtain rfl:=h.ycx
 obtain ⟨n0,rfl⟩:=h0.yaT
 obtain ⟨n1,rfl⟩:=h1.yaT
 obtain ⟨n2,rfl⟩:=h2.yaT
 obtain ⟨n3,rfl⟩:=h3.yaT
 obtain ⟨n4,rfl⟩:=h4.yaT
 obtain ⟨n5,rfl⟩:=h5.yaT
 exact ⟨⟨n0,n1,n2,n3,n4,n5⟩,rfl⟩
theorem yjF {xs : List C} (h : Fits [.sl [.i,.i,.i,.i,.i,.i]] xs) : ∃ e : List Boat,xs = yai e:=by
 obtain ⟨c0,ys,rfl,h0,h⟩:=h.cons_inv
 obtain rfl:=h.ycx
 obtain ⟨n0,rfl⟩:=h0.ycq Boat.enc fun _ h=>yAu h
 exact ⟨n0,rfl⟩
theorem yrO {xs : List C} (h : Fits [.b,.sl [.sl [.i,.i,.i,.i,.i,.i]]] xs) : ∃ e : Train,xs = e.enc:=by
 obtain ⟨c0,ys,rfl,h0,h⟩:=h.cons_inv
 obtain ⟨c1,ys,rfl,h1,h⟩:=h.cons_inv
 obtain rfl:=h.ycx
 obtain ⟨n0,rfl⟩:=h0.yuo
 obtain ⟨n1,rfl⟩:=h1.ycq yai fun _ h=>yjF h
 exact ⟨⟨n0,n1⟩,rfl⟩
theorem yxJ {xs : List C} (h : Fits [.i,.i] xs) : ∃ e : Point,xs = e.enc:=by
 obtain ⟨c0,ys,rfl,h0,h⟩:=h.cons_inv
 obtain ⟨c1,ys,rfl,h1,h⟩:=h.cons_inv
 obtain rfl:=h.ycx
 obtain ⟨n0,rfl⟩:=h0.yaT
 obtain ⟨n1,rfl⟩:=h1.yaT
 exact ⟨⟨n0,n1⟩,rfl⟩
theorem yxz {xs : List C} (h : Fits [.sl [.i,.i],.i,.sl [.i]] xs) : ∃ e : Reach,xs = e.enc:=by
 obtain ⟨c0,ys,rfl,h0,h⟩:=h.cons_inv
 obtain ⟨c1,ys,rfl,h1,h⟩:=h.cons_inv
 obtain ⟨c2,ys,rfl,h2,h⟩:=h.cons_inv
 obtain rfl:=h.ycx
 obtain ⟨n0,rfl⟩:=h0.ycq Point.enc fun _ h=>yxJ h
 obtain ⟨n1,rfl⟩:=h1.yaT
 obtain ⟨n2,rfl⟩:=h2.ycq yJ fun _ h=>ykL h
 exact ⟨⟨n0,n1,n2⟩,rfl⟩
theorem yxt {xs : List C} (h : Fits [.i,.i] xs) : ∃ e : Pause,xs = e.enc:=by
 obtain ⟨c0,ys,rfl,h0,h⟩:=h.cons_inv
 obtain ⟨c1,ys,rfl,h1,h⟩:=h.cons_inv
 obtain rfl:=h.ycx
 obtain ⟨n0,rfl⟩:=h0.yaT
 obtain ⟨n1,rfl⟩:=h1.yaT
 exact ⟨⟨n0,n1⟩,rfl⟩
theorem yz8 {xs : List C} (h : Fits [.b,.sl [.sl [.i,.i,.i,.i,.i,.i]],.i,.i] xs) : ∃ e : CallT,xs = e.enc:=by
 obtain ⟨c0,ys,rfl,h0,h⟩:=h.cons_inv
 obtain ⟨c1,ys,rfl,h1,h⟩:=h.cons_inv
 obtain ⟨c2,ys,rfl,h2,h⟩:=h.cons_inv
 obtain ⟨c3,ys,rfl,h3,h⟩:=h.cons_inv
 obtain rfl:=h.ycx
 obtain ⟨n0,rfl⟩:=h0.yuo
 obtain ⟨n1,rfl⟩:=h1.ycq yai fun _ h=>yjF h
 obtain ⟨n2,rfl⟩:=h2.yaT
 obtain ⟨n3,rfl⟩:=h3.yaT
 exact ⟨⟨⟨n0,n1⟩,n2,n3⟩,rfl⟩
theorem yy3 {xs : List C} (h : Fits [.i,.i,.i,.i,.i,.i,.i,.i,.i,.sl [.b,.sl [.sl [.i,.i,.i,.i,.i,.i]]],.i,.i,.i,.i,.i,.i,.i,.i,.sl [.i,.i],.b,.i,.sl [.b,.sl [.sl [.i,.i,.i,.i,.i,.i]],.i,.i]] xs) : ∃ e : Work,xs = e.enc:=by
 obtain ⟨c0,ys,rfl,h0,h⟩:=h.cons_inv
 obtain ⟨c1,ys,rfl,h1,h⟩:=h.cons_inv
 obtain ⟨c2,ys,rfl,h2,h⟩:=h.cons_inv
 obtain ⟨c3,ys,rfl,h3,h⟩:=h.cons_inv
 obtain ⟨c4,ys,rfl,h4,h⟩:=h.cons_inv
 obtain ⟨c5,ys,rfl,h5,h⟩:=h.cons_inv
 obtain ⟨c6,ys,rfl,h6,h⟩:=h.cons_inv
 obtain ⟨c7,ys,rfl,h7,h⟩:=h.cons_inv
 obtain ⟨c8,ys,rfl,h8,h⟩:=h.cons_inv
 obtain ⟨c9,ys,rfl,h9,h⟩:=h.cons_inv
 obtain ⟨c10,ys,rfl,h10,h⟩:=h.cons_inv
 obtain ⟨c11,ys,rfl,h11,h⟩:=h.cons_inv
 obtain ⟨c12,ys,rfl,h12,h⟩:=h.cons_inv
 obtain ⟨c13,ys,rfl,h13,h⟩:=h.cons_inv
 obtain ⟨c14,ys,rfl,h14,h⟩:=h.cons_inv
 obtain ⟨c15,ys,rfl,h15,h⟩:=h.cons_inv
 obtain ⟨c16,ys,rfl,h16,h⟩:=h.cons_inv
 obtain ⟨c17,ys,rfl,h17,h⟩:=h.cons_inv
 obtain ⟨c18,ys,rfl,h18,h⟩:=h.cons_inv
 obtain ⟨c19,ys,rfl,h19,h⟩:=h.cons_inv
 obtain ⟨c20,ys,rfl,h20,h⟩:=h.cons_inv
 obtain ⟨c21,ys,rfl,h21,h⟩:=h.cons_inv
 obtain rfl:=h.ycx
 obtain ⟨n0,rfl⟩:=h0.yaT
 obtain ⟨n1,rfl⟩:=h1.yaT
 obtain ⟨n2,rfl⟩:=h2.yaT
 obtain ⟨n3,rfl⟩:=h3.yaT
 obtain ⟨n4,rfl⟩:=h4.yaT
 obtain ⟨n5,rfl⟩:=h5.yaT
 obtain ⟨n6,rfl⟩:=h6.yaT
 obtain ⟨n7,rfl⟩:=h7.yaT
 obtain ⟨n8,rfl⟩:=h8.yaT
 obtain ⟨n9,rfl⟩:=h9.ycq Train.enc fun _ h=>yrO h
 obtain ⟨n10,rfl⟩:=h10.yaT
 obtain ⟨n11,rfl⟩:=h11.yaT
 obtain ⟨n12,rfl⟩:=h12.yaT
 obtain ⟨n13,rfl⟩:=h13.yaT
 obtain ⟨n14,rfl⟩:=h14.yaT
 obtain ⟨n15,rfl⟩:=h15.yaT
 obtain ⟨n16,rfl⟩:=h16.yaT
 obtain ⟨n17,rfl⟩:=h17.yaT
 obtain ⟨n18,rfl⟩:=h18.ycq Pause.enc fun _ h=>yxt h
 obtain ⟨n19,rfl⟩:=h19.yuo
 obtain ⟨n20,rfl⟩:=h20.yaT
 obtain ⟨n21,rfl⟩:=h21.ycq CallT.enc fun _ h=>yz8 h
 exact ⟨⟨⟨n0,n1,n2,n3,n4,n5,n6,n7,n8,n9⟩,⟨n10,n11,n12,n13,n14⟩,⟨n15,n16,n17⟩,n18,⟨n19,n20⟩,n21⟩,rfl⟩
theorem yNL : IsLaw Rows.fnExactNewWaterwaySpec Tryz.f3.params.size:=by
 refine ⟨rfl,fun H ds h=>?_⟩
 match ds,h with
 | [d0,d1,d2,d3],_=>rfl
theorem yNG : LawFacts Tryz.prog Tryz.f3 (Tryz.f3.resultTypes.getD 0 0) [(false,[.sl [.sl [.i,.i],.i,.sl [.i]]]),(false,[.sl [.i,.i]]),(false,[.sl [.i,.i,.i,.i,.i,.i,.i,.i,.i,.sl [.b,.sl [.sl [.i,.i,.i,.i,.i,.i]]],.i,.i,.i,.i,.i,.i,.i,.i,.sl [.i,.i],.b,.i,.sl [.b,.sl [.sl [.i,.i,.i,.i,.i,.i]],.i,.i]]]),(true,[.i,.i,.sl [.i],.sl [.i]])] :=
 ⟨yrS,by kernel_rfl,by kernel_rfl,by kernel_rfl,by kernel_rfl⟩
set_option maxRecDepth 100000 in
theorem yNK (os : Os) (started : os.Started) (H : Type) (enc : TypeId × Value → H) :
 ReturnsInHanded {} Tryz.checked os 3 .any (Rows.fnExactNewWaterwaySpec.pre6 enc Tryz.prog Tryz.f3 Rows.fnExactNewWaterwayRow.domain false) (Rows.fnExactNewWaterwaySpec.post enc Tryz.prog Tryz.f3 false true false false):=by
 refine law_lifted (C:=Tryz.checked) yt1 started (by kernel_rfl) Tryz.func3
  (ChangeSpec.witness6 (enc:=enc) (C:=Tryz.checked) false ⟨#[],#[.slice none 0 0,.slice none 0 0,.slice none 0 0,.agg #[.int .i64 0,.int .i64 0,.slice none 0 0,.slice none 0 0]],[]⟩ 8 (by kernel_rfl) (by kernel_rfl) (by kernel_rfl) (by kernel_rfl)) yNL yNG ?_
 rintro avs ⟨a,avs0,rfl,ha,b,avs1,rfl,hb,c,avs2,rfl,hc,d,avs3,rfl,hd,rfl⟩
 cases ha with
 | one h0 =>
  cases hb with
  | one h1 =>
   cases hc with
   | one h2 =>
    cases hd with
    | st h3 =>
     obtain ⟨x0,rfl⟩:=h0.ycq Reach.enc fun xs h=>yxz h
     obtain ⟨x1,rfl⟩:=h1.ycq Way.enc fun xs h=>yBG h
     obtain ⟨x2,rfl⟩:=h2.ycq Work.enc fun xs h=>yy3 h
     obtain ⟨x3,rfl⟩:=yOd h3
     exact yNU x0 x1 x2 x3
theorem yNM : ypf Tryz.prog 3 Tryz.f3 Rows.fnExactNewWaterwaySpec Rows.fnExactNewWaterwayRow = true:=by kernel_rfl
theorem yNN : Tryz.pinned.checked.prog.funcNamed Rows.fnExactNewWaterwayRow.func = some 3:=by kernel_rfl
theorem yNO : Tryz.f3.isInstance Tryz.pinned.checked.prog Rows.fnExactNewWaterwayRow.origin Rows.fnExactNewWaterwayRow.targs:=(of_decide_eq_true (by kernel_rfl))
theorem yNP : Tryz.f3.isWrapper Tryz.pinned.checked.prog Rows.fnExactNewWaterwayRow.wrapper Rows.fnExactNewWaterwayRow.mainSum:=by
 unfold Func.isWrapper; first | (rw [if_pos (by decide +kernel)]; kernel_rfl) | (rw [if_neg (by decide +kernel)]; exact ⟨rfl,rfl⟩)
theorem FnExactNewWaterway_holds : Rows.FnExactNewWaterwaySaid :=
 OpenClaim.holds_of_wide (p:=Tryz.pinned) (s:=Rows.fnExactNewWaterwaySpec) (c:=Rows.fnExactNewWaterwayRow) 3 Tryz.f3 rfl rfl rfl rfl rfl rfl rfl ⟨rfl,rfl,rfl,rfl,rfl⟩ rfl rfl rfl rfl rfl yNN Tryz.func3
  (yyi yxx yNM ⟨rfl,rfl,rfl,rfl,rfl,rfl,rfl,rfl⟩) yNO yNP (fun os started H enc _=>yNK os started H enc)
end Go.Proofs.YtefegahoniahkaaGreat
