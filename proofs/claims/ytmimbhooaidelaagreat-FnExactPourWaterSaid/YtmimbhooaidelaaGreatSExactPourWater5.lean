/- What the law FnExactPourWater stands on: contracts of functions, what each answers as plain Lean, in short form (names, layout). -/
import Derived.Test.YtmimbhooaidelaaGreatSExactPourWater4
set_option linter.all false
namespace Go.Proofs.YtmimbhooaidelaaGreat
open Go.RowKit
open Go.ChangeShapes Go.WideShapes
theorem ytA (xs : List Passing) (k : Int) (h0 : 0 ≤ k) (h1 : k + cnt yae xs ≤ 8000000000000000000) :
 InF Tryz.prog ydN (.c (ct 4 (xs.map Passing.yM))) (.c (ct 4 (yay ybE yae k xs))) [.c (.i k)] (.c (.i (k + cnt yae xs))):=by
 rcases Nat.eq_zero_or_pos xs.length with hx | hx
 ·have : xs = []:=List.length_eq_zero_iff.1 hx
  subst this
  refine ybG yhk (by simp) (by simp) rfl fun hwf=>?_
  simp -dsimp -implicitDefEqProofs [ydM,yay,cnt]
  refine yh (ι:=Unit) (fun _=>True) (fun _=>yT [(0,.c (.sl 4 [])),(1,.c (.i k)),(5,.c (.i 0)),(1000000,.c (.sl 4 []))] []) (fun _=>0) () trivial (by apply yj <;> simp [AV.yc,AV.yB,Obj.yc]) ?_
  rintro _ _
  simp -dsimp -implicitDefEqProofs
 ·rw [ycQ (by simpa using hx),ycQ (by rw [yK]; exact hx)]
  refine ybG yhk (by simp) (by simp) rfl fun hwf=>?_
  simp -dsimp -implicitDefEqProofs [ydM]
  refine yh (ι:=Nat) (fun i=>i ≤ xs.length) (fun i=>yT [(0,.own 0 4 xs.length),(1,.c (.i (k + yaE yae xs i))),(5,.c (.i i)),(1000000,.own 0 4 xs.length)] [(0,.tr 4 0 (ycC ybE Passing.yM yae k xs i))]) (fun i=>xs.length - i) 0 (by simp) (by apply yj <;> simp [AV.yc,AV.yB,Obj.yc,ydq,yaV,Obj.leO]) ?_
  rintro i hi
  rcases Nat.lt_or_ge i xs.length with hlt | hge
  ·obtain ⟨e,he⟩ : ∃ e,xs[i]? = some e:=⟨_,List.getElem?_eq_getElem hlt⟩
   have hg:=yez (f:=ybE) (g:=Passing.yM) (n:=yae) (k:=k) he
   have hl:=yeE (f:=ybE) (g:=Passing.yM) (n:=yae) (k:=k) (xs:=xs) (i:=i)
   have hs:=yeC (f:=ybE) (g:=Passing.yM) (n:=yae) (k:=k) he
   have hc:=yaW (n:=yae) he
   have hle:=ybF (n:=yae) (xs:=xs) (i:=i + 1)
   have hn : yae e = 1 + 1 + 1 + cnt nB e.Train.Rows:=rfl
   generalize hM : ycC ybE Passing.yM yae k xs i = M at *
   generalize hK : (k + (yaE yae xs i : Int)) = K at *
   have hlt2 : i < M.length:=by omega
   have g1 : M[i] = Passing.yM e:=(List.getElem?_eq_some_iff.1 hg).2
   have hself : ∀ a,(M.set i a)[i]? = some a:=fun a=>List.getElem?_set_self hlt2
   have hgetD : ∀ a,(M.set i a)[i]?.getD [] = a:=fun a=>by rw [hself]; rfl
   simp only [Passing.yM] at hg g1
   have hk : 0 ≤ K:=by omega
   simp -dsimp -implicitDefEqProofs [yI hlt,hg,hl,hlt2,g1,hself,setAt]
   intro hlen
   repeat (refine ⟨by first | exact hlt | (unfold inI; omega) | exact ybs (by omega),?_⟩)
   refine ybX (k0:=4) (j:=3) (i:=(i : Int)) (r:=[.i K,.i (K + 1),.b (decide ((K + 1 + 1).tmod 3 = 0)),.ot 1 (e.Train.Rows.map yX)]) (c:=.ot 1 (e.Train.Rows.map yX)) (c':=.ot 1 (yay fB nB (K + 1 + 1 + 1) e.Train.Rows)) (yhE e.Train.Rows (K + 1 + 1 + 1) (by omega) (by omega)) (by simp) rfl rfl rfl (by first | exact hself _ | simpa using hg) rfl ⟨_,by rw [yK]; simp,rfl,rfl,rfl⟩ (by simp [C.sz]) ?_
   simp -dsimp -implicitDefEqProofs [setAt,hself,hlt2,hl]
   repeat (refine ⟨by first | exact hlt | (unfold inI; omega) | exact ybs (by omega) | exact yA hlt hlen,?_⟩)
   refine ⟨i + 1,hlt,by omega,?_⟩
   simp only [ybE] at hs
   apply yj <;> simp [AV.yc,AV.yB,Obj.yc,Obj.leO,hs,hself] <;> omega
  ·have : i = xs.length:=by omega
   subst this
   simp -dsimp -implicitDefEqProofs
   intro _
   rw [yew (Nat.le_refl _),ybf (Nat.le_refl _),List.take_of_length_le (by rw [yK]; exact Nat.le_refl _)]
   exact ⟨rfl,rfl⟩
theorem yup (xs : List Passing) (k : Int) (h0 : 0 ≤ k) (h1 : k + cnt yae xs ≤ 8000000000000000000) : yE Tryz.prog ydQ [.c (.sl 4 (yay yek yae k xs)),.c (.i k)] (.c (.i (k + cnt yae xs))):=by
 refine yu yn5 (by simp) fun hwf=>?_
 simp -dsimp -implicitDefEqProofs [yho]
 refine yh (ι:=Nat) (fun i=>i ≤ xs.length) (fun i=>yT [(0,.c (.sl 4 (yay yek yae k xs))),(1,.c (.i (k + yaE yae xs i))),(5,.c (.i i))] []) (fun i=>xs.length - i) 0 (by simp) (by apply yj <;> simp [AV.yc,AV.yB,Obj.yc,yaV]) ?_
 rintro i hi
 rcases Nat.lt_or_ge i xs.length with hlt | hge
 ·obtain ⟨e,he⟩ : ∃ e,xs[i]? = some e:=⟨_,List.getElem?_eq_getElem hlt⟩
  have hg:=yhD (f:=yek) (n:=yae) (k:=k) he
  have hc:=yaW (n:=yae) he
  have hle:=ybF (n:=yae) (xs:=xs) (i:=i + 1)
  have hn : yae e = 1 + 1 + 1 + cnt nB e.Train.Rows:=rfl
  simp only [yek] at hg
  generalize hK : (k + (yaE yae xs i : Int)) = K at *
  have hk : 0 ≤ K:=by omega
  simp -dsimp -implicitDefEqProofs [yK,yI hlt,hg]
  intro hlen
  repeat (refine ⟨by first | exact hlt | (unfold inI; omega) | exact ybs (by omega),?_⟩)
  refine yg (yhA e.Train.Rows (K + 1 + 1 + 1) (by omega) (by omega)) (by simp) rfl ?_
  have n3 : (K + 1 + 1 + 1 + (cnt nB e.Train.Rows : Int) < 0) = False:=by simp; omega
  simp -dsimp -implicitDefEqProofs [n3,yK,yI hlt,hg]
  repeat (refine ⟨by first | exact hlt | (unfold inI; omega) | exact ybs (by omega) | exact yA hlt hlen,?_⟩)
  refine ⟨i + 1,hlt,by omega,?_⟩
  apply yj <;> simp [AV.yc,AV.yB,Obj.yc] <;> omega
 ·have : i = xs.length:=by omega
  subst this
  simp -dsimp -implicitDefEqProofs [yK]
  rw [ybf (Nat.le_refl _)]
  intro _; rfl
@[simp] def Waterway.yM (e : Waterway) : List C:=[.i e.Time,.ot 3 (e.Reaches.map Reach.yM),.ow 2 (e.Ways.map Way.enc),.ot 22 (e.Works.map Work.yM),.ot 1 (e.Movers.map yat),.ot 2 (e.Arrived.map Train.yM),.ow 1 (e.Entered.map yJ),.i e.Tariff.Base,.i e.Tariff.PerArea,.ow 1 (e.Tariff.PerClass.map yJ),.ow 1 (e.Tariff.Weights.map yJ),.ow 5 (e.Book.map Entry.enc),.ot 4 (e.Passings.map Passing.yM),.i e.Start,.i e.In,.i e.Out]
theorem Waterway.yab (e : Waterway) : ybR e.yM = some e.enc:=by simp [Waterway.yM,ybR,ydu Reach.yab,ydu Work.yab,ydu ycl,ydu Train.yab,ydu Passing.yab]
theorem Waterway.yad (e : Waterway) : ∀ c ∈ e.yM,c.closed:=by
 simp only [Waterway.yM,List.mem_cons,List.not_mem_nil,or_false,forall_eq_or_imp,forall_eq]
 exact ⟨by simp [C.closed],ybi Reach.yad _ _,by simp [C.closed],ybi Work.yad _ _,ybi yqn _ _,ybi Train.yad _ _,by simp [C.closed],by simp [C.closed],by simp [C.closed],by simp [C.closed],by simp [C.closed],by simp [C.closed],ybi Passing.yad _ _,by simp [C.closed],by simp [C.closed],by simp [C.closed]⟩
set_option maxRecDepth 20000 in
theorem ywr (e : Waterway) (hl : Waterway.small e) : ybg Tryz.prog ybd [.agg (e.enc.map .c)] (.agg (e.yM.map .c)):=by
 refine yaw yi1 (by simp) fun hwf=>?_
 simp -dsimp -implicitDefEqProofs [yfp]
 refine yS (yAt e.Reaches hl.1) (by simp) (ybi Reach.yad _ _) (by simp [yZ]) ?_
 simp -dsimp -implicitDefEqProofs [yt]
 refine yS (yCS e.Ways hl.2.1) (by simp) (by simp [AV.closed,AV.ya3,C.closed]) (by simp [yZ]) ?_
 simp -dsimp -implicitDefEqProofs [yt]
 refine yS (yBk e.Works hl.2.2.1) (by simp) (ybi Work.yad _ _) (by simp [yZ]) ?_
 simp -dsimp -implicitDefEqProofs [yt]
 refine yS (yy5 e.Movers hl.2.2.2.1) (by simp) (ybi yqn _ _) (by simp [yZ]) ?_
 simp -dsimp -implicitDefEqProofs [yt]
 refine yS (yt5 e.Arrived hl.2.2.2.2.1) (by simp) (ybi Train.yad _ _) (by simp [yZ]) ?_
 simp -dsimp -implicitDefEqProofs [yt]
 refine yS (yp5 e.Entered hl.2.2.2.2.2.1.1) (by simp) (by simp [AV.closed,AV.ya3,C.closed]) (by simp [yZ]) ?_
 simp -dsimp -implicitDefEqProofs [yt]
 refine yS (yzF e.Tariff hl.2.2.2.2.2.2.1) (by simp) (ybT (Tariff.yad _)) (by simp [yZ]) ?_
 simp -dsimp -implicitDefEqProofs [yt]
 refine yS (yAb e.Book hl.2.2.2.2.2.2.2.1.1) (by simp) (by simp [AV.closed,AV.ya3,C.closed]) (by simp [yZ]) ?_
 simp -dsimp -implicitDefEqProofs [yt]
 refine yS (yxf e.Passings hl.2.2.2.2.2.2.2.2) (by simp) (ybi Passing.yad _ _) (by simp [yZ]) ?_
 simp -dsimp -implicitDefEqProofs [yt]
theorem yCs (es : List Point) (hl : es.length ≤ 1048576) : ybg Tryz.prog yaQ [.c (.sl 2 (es.map Point.enc))] (.c (.ow 2 (es.map Point.enc))):=by
 refine yaw ydf (by simp) fun hwf=>?_
 simp -dsimp -implicitDefEqProofs [ybo,yt]
 omega
theorem ypA (es : List Int) (hl : es.length ≤ 1048576) : ybg Tryz.prog yaF [.c (.sl 1 (es.map yJ))] (.c (.ow 1 (es.map yJ))):=by
 refine yaw yiH (by simp) fun hwf=>?_
 simp -dsimp -implicitDefEqProofs [ydG,yt]
 omega
theorem yBG (es : List Pause) (hl : es.length ≤ 1048576) : ybg Tryz.prog yaP [.c (.sl 2 (es.map Pause.enc))] (.c (.ow 2 (es.map Pause.enc))):=by
 refine yaw ydc (by simp) fun hwf=>?_
 simp -dsimp -implicitDefEqProofs [ybk,yt]
 omega
theorem yEf (es : List Way) (hl : es.length ≤ 1048576) : ybg Tryz.prog yaZ [.c (.sl 2 (es.map Way.enc))] (.c (.ow 2 (es.map Way.enc))):=by
 refine yaw ydW (by simp) fun hwf=>?_
 simp -dsimp -implicitDefEqProofs [ybO,yt]
 omega
theorem yC7 (es : List Entry) (hl : es.length ≤ 1048576) : ybg Tryz.prog yaO [.c (.sl 5 (es.map Entry.enc))] (.c (.ow 5 (es.map Entry.enc))):=by
 refine yaw ydb (by simp) fun hwf=>?_
 simp -dsimp -implicitDefEqProofs [ybl,yt]
 omega
theorem ynd (e : Reach) (hl : Reach.small e) : ybg Tryz.prog ycA [.agg (e.enc.map .c)] (.agg (e.yM.map .c)):=by
 refine yaw yqM (by simp) fun hwf=>?_
 simp -dsimp -implicitDefEqProofs [ykE]
 refine yhG (yCs e.Table hl.1.1) (by simp ) (by simp [AV.closed,AV.ya3,C.closed]) (by simp [yZ]) ?_
 simp -dsimp -implicitDefEqProofs [yt]
 refine yhG (ypA e.Pipe hl.2.1) (by simp ) (by simp [AV.closed,AV.ya3,C.closed]) (by simp [yZ]) ?_
 simp -dsimp -implicitDefEqProofs [yt]
theorem yvt (xs : List Reach) (hl : ycR xs) : ybg Tryz.prog yed [.c (.sl 3 (xs.map Reach.enc))] (.c (.ot 3 (xs.map Reach.yM))):=by
 refine yaw ypd (by simp) fun hwf=>?_
 simp -dsimp -implicitDefEqProofs [yh2]
 intro hlen
 have hl1:=hl.1
 refine ⟨by omega,?_⟩
 intro _
 refine yh (ι:=Nat) (fun k=>k ≤ xs.length) (fun k=>yT [(3,.own 8 3 k),(9,.c (.sl 3 (xs.map Reach.enc))),(10,.c (.i xs.length)),(11,.c (.i k))] [(8,.tr 3 0 ((xs.take k).map Reach.yM))]) (fun k=>xs.length - k) 0 (by simp) (by apply yj <;> simp [AV.yc,AV.yB,Obj.yc,Obj.leO]) ?_
 rintro k hk
 rcases Nat.lt_or_ge k xs.length with hlt | hge
 ·obtain ⟨e,he⟩ : ∃ e,xs[k]? = some e:=⟨_,List.getElem?_eq_getElem hlt⟩
  have hs : xs.take (k + 1) = xs.take k ++ [e]:=by rw [List.take_succ,he]; rfl
  have he2:=hl.2 e (List.mem_of_getElem? he)
  have g1:=(List.getElem?_eq_some_iff.1 he).2
  simp -dsimp -implicitDefEqProofs [he,g1,hlt,yI hlt]
  refine yS (ynd e he2) (by simp) (ybT (Reach.yad e)) (by simp [yZ]) ?_
  simp -dsimp -implicitDefEqProofs [yt,Nat.min_eq_left hk,yeM]
  refine ⟨by omega,yA hlt hlen,k + 1,hlt,by omega,?_⟩
  have hs2 : (xs.map Reach.yM).take (k + 1) = (xs.map Reach.yM).take k ++ [Reach.yM e]:=by rw [← List.map_take,← List.map_take,hs,List.map_append]; rfl
  apply yj <;> simp [AV.yc,AV.yB,Obj.yc,Obj.leO,hs2]
 ·have : k = xs.length:=by omega
  subst this
  simp -dsimp -implicitDefEqProofs [yt]
  try simp
theorem ypn (xs : List Train) (hl : ybM xs) : ybg Tryz.prog yc9 [.c (.sl 2 (xs.map Train.enc))] (.c (.ot 2 (xs.map Train.yM))):=by
 refine yaw yqj (by simp) fun hwf=>?_
 simp -dsimp -implicitDefEqProofs [yiY]
 intro hlen
 have hl1:=hl.1
 refine yhK (k0:=2) 3 2 (by simp) (by simp) (by decide) ?_
 refine yh (ι:=Nat) (fun k=>k ≤ xs.length) (fun k=>yT [(3,.own 3 2 k),(6,.c (.sl 2 (xs.map Train.enc))),(7,.c (.i xs.length)),(8,.c (.i k))] [(3,.tr 2 0 ((xs.take k).map Train.yM))]) (fun k=>xs.length - k) 0 (by simp) (by apply yj <;> simp [AV.yc,AV.yB,Obj.yc,Obj.leO]) ?_
 rintro k hk
 rcases Nat.lt_or_ge k xs.length with hlt | hge
 ·obtain ⟨e,he⟩ : ∃ e,xs[k]? = some e:=⟨_,List.getElem?_eq_getElem hlt⟩
  have hs : xs.take (k + 1) = xs.take k ++ [e]:=by rw [List.take_succ,he]; rfl
  have he2:=hl.2 e (List.mem_of_getElem? he)
  have g1:=(List.getElem?_eq_some_iff.1 he).2
  simp -dsimp -implicitDefEqProofs [he,g1,hlt,yI hlt]
  refine yS (yi4 e he2) (by simp) (ybT (Train.yad e)) (by simp [yZ]) ?_
  simp -dsimp -implicitDefEqProofs [yt,Nat.min_eq_left hk,yeM]
  refine ⟨by omega,yA hlt hlen,k + 1,hlt,by omega,?_⟩
  have hs2 : (xs.map Train.yM).take (k + 1) = (xs.map Train.yM).take k ++ [Train.yM e]:=by rw [← List.map_take,← List.map_take,hs,List.map_append]; rfl
  apply yj <;> simp [AV.yc,AV.yB,Obj.yc,Obj.leO,hs2]
 ·have : k = xs.length:=by omega
  subst this
  simp -dsimp -implicitDefEqProofs [yt]
  try simp
theorem yya (xs : List CallT) (hl : ygk xs) : ybg Tryz.prog yfM [.c (.sl 4 (xs.map CallT.enc))] (.c (.ot 4 (xs.map CallT.yM))):=by
 refine yaw yq6 (by simp) fun hwf=>?_
 simp -dsimp -implicitDefEqProofs [ykD]
 intro hlen
 have hl1:=hl.1
 refine yhK (k0:=4) 3 4 (by simp) (by simp) (by decide) ?_
 refine yh (ι:=Nat) (fun k=>k ≤ xs.length) (fun k=>yT [(3,.own 3 4 k),(6,.c (.sl 4 (xs.map CallT.enc))),(7,.c (.i xs.length)),(8,.c (.i k))] [(3,.tr 4 0 ((xs.take k).map CallT.yM))]) (fun k=>xs.length - k) 0 (by simp) (by apply yj <;> simp [AV.yc,AV.yB,Obj.yc,Obj.leO]) ?_
 rintro k hk
 rcases Nat.lt_or_ge k xs.length with hlt | hge
 ·obtain ⟨e,he⟩ : ∃ e,xs[k]? = some e:=⟨_,List.getElem?_eq_getElem hlt⟩
  have hs : xs.take (k + 1) = xs.take k ++ [e]:=by rw [List.take_succ,he]; rfl
  have he2:=hl.2 e (List.mem_of_getElem? he)
  have g1:=(List.getElem?_eq_some_iff.1 he).2
  simp -dsimp -implicitDefEqProofs [he,g1,hlt,yI hlt]
  refine yhG (yi4 e.Train he2) (by simp) (ybT (Train.yad e.Train)) (by simp [yZ]) ?_
  simp -dsimp -implicitDefEqProofs [yt,Nat.min_eq_left hk,yeM]
  refine ⟨by omega,yA hlt hlen,k + 1,hlt,by omega,?_⟩
  have hs2 : (xs.map CallT.yM).take (k + 1) = (xs.map CallT.yM).take k ++ [CallT.yM e]:=by rw [← List.map_take,← List.map_take,hs,List.map_append]; rfl
  apply yj <;> simp [AV.yc,AV.yB,Obj.yc,Obj.leO,hs2]
 ·have : k = xs.length:=by omega
  subst this
  simp -dsimp -implicitDefEqProofs [yt]
  try simp
theorem yxc (xs : List Mover) (hl : yhF xs) : ybg Tryz.prog yfc [.c (.sl 3 (xs.map Mover.enc))] (.c (.ot 3 (xs.map Mover.yM))):=by
 refine yaw ypI (by simp) fun hwf=>?_
 simp -dsimp -implicitDefEqProofs [yjf]
 intro hlen
 have hl1:=hl.1
 refine yhK (k0:=3) 3 3 (by simp) (by simp) (by decide) ?_
 refine yh (ι:=Nat) (fun k=>k ≤ xs.length) (fun k=>yT [(3,.own 3 3 k),(6,.c (.sl 3 (xs.map Mover.enc))),(7,.c (.i xs.length)),(8,.c (.i k))] [(3,.tr 3 0 ((xs.take k).map Mover.yM))]) (fun k=>xs.length - k) 0 (by simp) (by apply yj <;> simp [AV.yc,AV.yB,Obj.yc,Obj.leO]) ?_
 rintro k hk
 rcases Nat.lt_or_ge k xs.length with hlt | hge
 ·obtain ⟨e,he⟩ : ∃ e,xs[k]? = some e:=⟨_,List.getElem?_eq_getElem hlt⟩
  have hs : xs.take (k + 1) = xs.take k ++ [e]:=by rw [List.take_succ,he]; rfl
  have he2:=hl.2 e (List.mem_of_getElem? he)
  have g1:=(List.getElem?_eq_some_iff.1 he).2
  simp -dsimp -implicitDefEqProofs [he,g1,hlt,yI hlt]
  refine yhG (yi4 e.Train he2) (by simp) (ybT (Train.yad e.Train)) (by simp [yZ]) ?_
  simp -dsimp -implicitDefEqProofs [yt,Nat.min_eq_left hk,yeM]
  refine ⟨by omega,yA hlt hlen,k + 1,hlt,by omega,?_⟩
  have hs2 : (xs.map Mover.yM).take (k + 1) = (xs.map Mover.yM).take k ++ [Mover.yM e]:=by rw [← List.map_take,← List.map_take,hs,List.map_append]; rfl
  apply yj <;> simp [AV.yc,AV.yB,Obj.yc,Obj.leO,hs2]
 ·have : k = xs.length:=by omega
  subst this
  simp -dsimp -implicitDefEqProofs [yt]
  try simp
theorem yzq (e : Lock) (hl : Lock.small e) : ybg Tryz.prog ygS [.agg (e.enc.map .c)] (.agg (e.yM.map .c)):=by
 refine yaw yrF (by simp) fun hwf=>?_
 simp -dsimp -implicitDefEqProofs [ylJ]
 refine yS (ypn e.Inside hl) (by simp) (ybi Train.yad _ _) (by simp [yZ]) ?_
 simp -dsimp -implicitDefEqProofs [yt]
theorem ywP (e : Tariff) (hl : Tariff.small e) : ybg Tryz.prog yeS [.agg (e.enc.map .c)] (.agg (e.yM.map .c)):=by
 refine yaw ypL (by simp) fun hwf=>?_
 simp -dsimp -implicitDefEqProofs [yi9]
 refine yS (ypA e.PerClass hl.1) (by simp ) (by simp [AV.closed,AV.ya3,C.closed]) (by simp [yZ]) ?_
 simp -dsimp -implicitDefEqProofs [yt]
 refine yS (ypA e.Weights hl.2) (by simp ) (by simp [AV.closed,AV.ya3,C.closed]) (by simp [yZ]) ?_
 simp -dsimp -implicitDefEqProofs [yt]
theorem yyO (xs : List Work) (hl : ygD xs) : ybg Tryz.prog yfH [.c (.sl 22 (xs.map Work.enc))] (.c (.ot 22 (xs.map Work.yM))):=by
 refine yaw yq9 (by simp) fun hwf=>?_
 simp -dsimp -implicitDefEqProofs [yka]
 intro hlen
 have hl1:=hl.1
 refine yhK (k0:=22) 3 22 (by simp) (by simp) (by decide) ?_
 refine yh (ι:=Nat) (fun k=>k ≤ xs.length) (fun k=>yT [(3,.own 3 22 k),(6,.c (.sl 22 (xs.map Work.enc))),(7,.c (.i xs.length)),(8,.c (.i k))] [(3,.tr 22 0 ((xs.take k).map Work.yM))]) (fun k=>xs.length - k) 0 (by simp) (by apply yj <;> simp [AV.yc,AV.yB,Obj.yc,Obj.leO]) ?_
 rintro k hk
 rcases Nat.lt_or_ge k xs.length with hlt | hge
 ·obtain ⟨e,he⟩ : ∃ e,xs[k]? = some e:=⟨_,List.getElem?_eq_getElem hlt⟩
  have hs : xs.take (k + 1) = xs.take k ++ [e]:=by rw [List.take_succ,he]; rfl
  have he2:=hl.2 e (List.mem_of_getElem? he)
  have g1:=(List.getElem?_eq_some_iff.1 he).2
  simp -dsimp -implicitDefEqProofs [he,g1,hlt,yI hlt]
  refine yS (yzq e.Lock he2.1) (by simp) (ybT (Lock.yad _)) (by simp [yZ]) ?_
  simp -dsimp -implicitDefEqProofs [yt]
  refine yS (yBG e.Pauses he2.2.1.1) (by simp ) (by simp [AV.closed,AV.ya3,C.closed]) (by simp [yZ]) ?_
  simp -dsimp -implicitDefEqProofs [yt]
  refine yS (yya e.Calls he2.2.2) (by simp) (ybi CallT.yad _ _) (by simp [yZ]) ?_
  simp -dsimp -implicitDefEqProofs [yt,Nat.min_eq_left hk]
  refine ⟨by omega,yA hlt hlen,k + 1,hlt,by omega,?_⟩
  have hs2 : (xs.map Work.yM).take (k + 1) = (xs.map Work.yM).take k ++ [Work.yM e]:=by rw [← List.map_take,← List.map_take,hs,List.map_append]; rfl
  apply yj <;> simp [AV.yc,AV.yB,Obj.yc,Obj.leO,hs2]
 ·have : k = xs.length:=by omega
  subst this
  simp -dsimp -implicitDefEqProofs [yt]
  try simp
set_option maxRecDepth 20000 in
theorem ytF (x : Waterway) (hl : x.small) : ybg Tryz.prog ydL [.agg (x.enc.map .c)] (.agg (x.yM.map .c)):=by
 obtain ⟨s1,s2,s3,s4,s5,s6,s7,s8,s9⟩:=hl
 have s41:=s4.1
 have s91:=s9.1
 refine yaw yn2 (by simp) fun hwf=>?_
 simp -dsimp -implicitDefEqProofs [yhq]
 refine yS (yvt x.Reaches s1) (by simp) (ybi Reach.yad _ _) (by simp [yZ]) ?_
 simp -dsimp -implicitDefEqProofs [yt]
 refine yS (yEf x.Ways s2.1) (by simp ) (by simp [AV.closed,AV.ya3,C.closed]) (by simp [yZ]) ?_
 simp -dsimp -implicitDefEqProofs [yt]
 refine yS (yyO x.Works s3) (by simp) (ybi Work.yad _ _) (by simp [yZ]) ?_
 simp -dsimp -implicitDefEqProofs [yt]
 intro hlen
 refine ⟨by omega,?_⟩
 intro _
 refine yh (ι:=Nat) (fun k=>k ≤ x.Movers.length) (fun k=>yT [(1,.box 1 0),(2,.box 2 0),(3,.own 24 1 x.Movers.length),(26,.c (.sl 1 (x.Movers.map yV))),(27,.c (.i x.Movers.length)),(28,.c (.i k))] [(1,.box [.c (.i x.Time),.own 11 3 x.Reaches.length,.own 15 2 x.Ways.length,.own 19 22 x.Works.length,.c (.sl 1 (x.Movers.map yV)),.c (.sl 2 (x.Arrived.map Train.enc)),.c (.sl 1 (x.Entered.map yJ)),.c (.i x.Tariff.Base),.c (.i x.Tariff.PerArea),.c (.sl 1 (x.Tariff.PerClass.map yJ)),.c (.sl 1 (x.Tariff.Weights.map yJ)),.c (.sl 5 (x.Book.map Entry.enc)),.c (.sl 4 (x.Passings.map Passing.enc)),.c (.i x.Start),.c (.i x.In),.c (.i x.Out)]),(2,.box [.c (.i 0),.nil 3,.nil 2,.nil 22,.nil 1,.nil 2,.nil 1,.c (.i 0),.c (.i 0),.nil 1,.nil 1,.nil 5,.nil 4,.c (.i 0),.c (.i 0),.c (.i 0)]),(11,.tr 3 0 (x.Reaches.map Reach.yM)),(15,.row 2 (x.Ways.map Way.enc)),(19,.tr 22 0 (x.Works.map Work.yM)),(24,.tr 1 0 (partly yat [.sl 3 []] x.Movers k))]) (fun k=>x.Movers.length - k) 0 (by simp) (by apply yj <;> simp [AV.yc,AV.yB,Obj.yc,yac,Obj.leO]) ?_
 rintro k hk
 rcases Nat.lt_or_ge k x.Movers.length with hlt | hge
 ·obtain ⟨e,he⟩ : ∃ e,x.Movers[k]? = some e:=⟨_,List.getElem?_eq_getElem hlt⟩
  have hs:=yai (f:=yat) (z:=[.sl 3 []]) he
  have hd : ((partly yat [.sl 3 []] x.Movers k)[k]?.getD []).set 0 (.ot 3 (e.map Mover.yM)) = yat e:=by
   have:=yef (f:=yat) (z:=[.sl 3 []]) (n:=1) rfl (fun _=>rfl) hlt
   obtain ⟨y,hy⟩:=List.length_eq_one_iff.1 this
   rw [hy]; rfl
  simp -dsimp -implicitDefEqProofs [he,yI hlt]
  refine yS (yxc e (s4.2 e (List.mem_of_getElem? he))) (by simp) (ybi Mover.yad _ _) (by simp [yZ]) ?_
  simp -dsimp -implicitDefEqProofs [yI hlt,yaj hk,yt,setAt,hd,hs]
  exact ⟨hlt,yA hlt hlen,k + 1,hlt,by omega,by apply yj <;> simp [AV.yc,AV.yB,Obj.yc,Obj.leO]⟩
 have hke : k = x.Movers.length:=by omega
 subst hke
 simp -dsimp -implicitDefEqProofs [yak (Nat.le_refl _),yt]
 refine yS (ypn x.Arrived s5) (by simp) (ybi Train.yad _ _) (by simp [yZ]) ?_
 simp -dsimp -implicitDefEqProofs [yt]
 refine yS (ypA x.Entered s6.1) (by simp ) (by simp [AV.closed,AV.ya3,C.closed]) (by simp [yZ]) ?_
 simp -dsimp -implicitDefEqProofs [yt]
 refine yS (ywP x.Tariff s7) (by simp) (ybT (Tariff.yad _)) (by simp [yZ]) ?_
 simp -dsimp -implicitDefEqProofs [yt]
 refine yS (yC7 x.Book s8.1) (by simp ) (by simp [AV.closed,AV.ya3,C.closed]) (by simp [yZ]) ?_
 simp -dsimp -implicitDefEqProofs [yt]
 intro hlen2
 refine yhK (k0:=4) 6 4 (by simp) (by simp) (by decide) ?_
 refine yh (ι:=Nat) (fun k=>k ≤ x.Passings.length) (fun k=>yT [(1,.box 1 0),(2,.box 2 0),(6,.own 6 4 k),(58,.c (.sl 4 (x.Passings.map Passing.enc))),(59,.c (.i x.Passings.length)),(60,.c (.i k))] [(1,.box [.c (.i x.Time),.own 11 3 x.Reaches.length,.own 15 2 x.Ways.length,.own 19 22 x.Works.length,.own 24 1 x.Movers.length,.own 43 2 x.Arrived.length,.own 47 1 x.Entered.length,.c (.i x.Tariff.Base),.c (.i x.Tariff.PerArea),.own 30051 1 x.Tariff.PerClass.length,.own 40051 1 x.Tariff.Weights.length,.own 55 5 x.Book.length,.c (.sl 4 (x.Passings.map Passing.enc)),.c (.i x.Start),.c (.i x.In),.c (.i x.Out)]),(2,.box [.c (.i 0),.nil 3,.nil 2,.nil 22,.nil 1,.nil 2,.nil 1,.c (.i 0),.c (.i 0),.nil 1,.nil 1,.nil 5,.nil 4,.c (.i 0),.c (.i 0),.c (.i 0)]),(11,.tr 3 0 (x.Reaches.map Reach.yM)),(15,.row 2 (x.Ways.map Way.enc)),(19,.tr 22 0 (x.Works.map Work.yM)),(24,.tr 1 0 (x.Movers.map yat)),(43,.tr 2 0 (x.Arrived.map Train.yM)),(47,.row 1 (x.Entered.map yJ)),(30051,.row 1 (x.Tariff.PerClass.map yJ)),(40051,.row 1 (x.Tariff.Weights.map yJ)),(55,.row 5 (x.Book.map Entry.enc)),(6,.tr 4 0 ((x.Passings.take k).map Passing.yM))]) (fun k=>x.Passings.length - k) 0 (by simp) (by apply yj <;> simp [AV.yc,AV.yB,Obj.yc,Obj.leO]) ?_
 rintro k hk2
 rcases Nat.lt_or_ge k x.Passings.length with hlt | hge2
 ·obtain ⟨e,he⟩ : ∃ e,x.Passings[k]? = some e:=⟨_,List.getElem?_eq_getElem hlt⟩
  have hs : x.Passings.take (k + 1) = x.Passings.take k ++ [e]:=by rw [List.take_succ,he]; rfl
  have he2:=s9.2 e (List.mem_of_getElem? he)
  have g1:=(List.getElem?_eq_some_iff.1 he).2
  simp -dsimp -implicitDefEqProofs [he,g1,hlt,yI hlt]
  refine yhG (yi4 e.Train he2) (by simp) (ybT (Train.yad e.Train)) (by simp [yZ]) ?_
  simp -dsimp -implicitDefEqProofs [yt,Nat.min_eq_left hk2,yeM]
  refine ⟨by omega,yA hlt hlen2,k + 1,hlt,by omega,?_⟩
  have hs2 : (x.Passings.map Passing.yM).take (k + 1) = (x.Passings.map Passing.yM).take k ++ [Passing.yM e]:=by rw [← List.map_take,← List.map_take,hs,List.map_append]; rfl
  apply yj <;> simp [AV.yc,AV.yB,Obj.yc,Obj.leO,hs2]
 have hke2 : k = x.Passings.length:=by omega
 subst hke2
 simp -dsimp -implicitDefEqProofs [yt]
theorem yq0 (e : Reach) (hl : Reach.small e) : ybg Tryz.prog ycz [.agg (e.enc.map .c)] (.agg (e.yM.map .c)):=by
 have h1:=hl.1.1
 have h2:=hl.2.1
 refine yaw ytY (by simp) fun hwf=>?_
 simp -dsimp -implicitDefEqProofs [ynj,yt]
 exact ⟨by omega,by omega⟩
theorem yBF (e : Reach) (hl : Reach.small e) : yE Tryz.prog ycz [.agg (e.enc.map .c)] (.agg (e.enc.map .c)):=(yq0 e hl).pure (by simp [AV.shr,AV.yzy,ybR,C.shr])
theorem yBu (e : Mover) (hl : Mover.small e) : yE Tryz.prog yik [.agg (e.enc.map .c)] (.agg (e.enc.map .c)):=by
 refine yu ys7 (by simp) fun hwf=>?_
 simp -dsimp -implicitDefEqProofs [ynC]
 refine yco (ykk e.Train hl) (by simp) (.inl rfl) ?_
 simp -dsimp -implicitDefEqProofs
set_option maxRecDepth 20000 in
theorem yBJ (e : Lock) (hl : Lock.small e) : yE Tryz.prog yin [.agg (e.enc.map .c)] (.agg (e.enc.map .c)):=by
 have hl1:=hl.1
 have hsm:=hl.2
 refine yu yst (by simp) fun hwf=>?_
 simp -dsimp -implicitDefEqProofs [ym6]
 refine yh (ι:=Nat) (fun k=>k ≤ e.Inside.length) (fun k=>yT [(1,.box 1 0),(2,.box 2 0),(3,.own 5 2 k),(4,.c (.i k))] [(1,.box [.c (.i e.Length),.c (.i e.Width),.c (.i e.SillAbove),.c (.i e.SillBelow),.c (.i e.Base),.c (.i e.Area),.c (.i e.Rate),.c (.i e.Water),.c (.i e.Gate),.c (.sl 2 (e.Inside.map Train.enc))]),(2,.box [.c (.i 0),.c (.i 0),.c (.i 0),.c (.i 0),.c (.i 0),.c (.i 0),.c (.i 0),.c (.i 0),.c (.i 0),.nil 2]),(5,.row 2 ((e.Inside.take k).map Train.enc))]) (fun k=>e.Inside.length - k) 0 (by simp) (by apply yj <;> simp [AV.yc,AV.yB,Obj.yc,Obj.leO]) ?_
 rintro k hk
 rcases Nat.lt_or_ge k e.Inside.length with klt | kge
 ·obtain ⟨e1,he⟩ : ∃ e1,e.Inside[k]? = some e1:=⟨_,List.getElem?_eq_getElem klt⟩
  have he2:=hsm e1 (List.mem_of_getElem? he)
  have g1:=(List.getElem?_eq_some_iff.1 he).2
  have hs2 : (e.Inside.map Train.enc).take (k + 1) = (e.Inside.map Train.enc).take k ++ [Train.enc e1]:=by rw [List.take_succ,List.getElem?_map,he]; rfl
  simp -dsimp -implicitDefEqProofs [he,g1,klt,yI klt]
  intro hlen
  refine yL (ykk e1 he2) (by simp) rfl ?_
  simp -dsimp -implicitDefEqProofs [he,g1,klt,yI klt,yt,Nat.min_eq_left hk]
  refine ⟨by omega,yA klt hlen,k + 1,klt,by omega,?_⟩
  apply yj <;> simp [AV.yc,AV.yB,Obj.yc,Obj.leO,hs2]
 have ek : k = e.Inside.length:=by omega
 subst ek
 simp -dsimp -implicitDefEqProofs [yt]
set_option maxRecDepth 20000 in
theorem yuE (w : Work) (hl : Work.small w) : yE Tryz.prog yep [.agg (w.enc.map .c)] (.agg (w.enc.map .c)):=by
 obtain ⟨s1,s2,s3⟩:=hl
 have hl1:=s3.1
 have hp1:=s2.1
 have hsm:=s3.2
 refine yu ypk (by simp) fun hwf=>?_
 simp -dsimp -implicitDefEqProofs [yiA]
 refine yL (yBJ w.Lock s1) (by simp) rfl ?_
 simp -dsimp -implicitDefEqProofs [yt]
 refine ⟨by omega,?_⟩
 refine yh (ι:=Nat) (fun k=>k ≤ w.Calls.length) (fun k=>yT [(1,.box 1 0),(2,.box 2 0),(3,.box 3 0),(4,.c (.i k))] [(1,.box (w.enc.map .c)),(2,.box [.c (.i 0),.c (.i 0),.c (.i 0),.c (.i 0),.c (.i 0),.c (.i 0),.c (.i 0),.c (.i 0),.c (.i 0),.nil 2,.c (.i 0),.c (.i 0),.c (.i 0),.c (.i 0),.c (.i 0),.c (.i 0),.c (.i 0),.c (.i 0),.nil 2,.c (.b false),.c (.i 0),.nil 4]),(3,.box ((w.enc.map .c).set 18 (.own 11 2 w.Pauses.length) |>.set 21 (.own 16 4 k))),(11,.row 2 (w.Pauses.map Pause.enc)),(16,.row 4 ((w.Calls.take k).map CallT.enc))]) (fun k=>w.Calls.length - k) 0 (by simp) (by apply yj <;> simp [AV.yc,AV.yB,Obj.yc,Obj.leO]) ?_
 rintro k hk
 rcases Nat.lt_or_ge k w.Calls.length with klt | kge
 ·obtain ⟨e1,he⟩ : ∃ e1,w.Calls[k]? = some e1:=⟨_,List.getElem?_eq_getElem klt⟩
  have he2:=hsm e1 (List.mem_of_getElem? he)
  have g1:=(List.getElem?_eq_some_iff.1 he).2
  have hs2 : (w.Calls.map CallT.enc).take (k + 1) = (w.Calls.map CallT.enc).take k ++ [CallT.enc e1]:=by rw [List.take_succ,List.getElem?_map,he]; rfl
  simp -dsimp -implicitDefEqProofs [he,g1,klt,yI klt]
  intro hlen
  refine yL (ykk e1.Train he2) (by simp) rfl ?_
  simp -dsimp -implicitDefEqProofs [he,g1,klt,yI klt,yt,Nat.min_eq_left hk]
  refine ⟨by omega,yA klt hlen,k + 1,klt,by omega,?_⟩
  apply yj <;> simp [AV.yc,AV.yB,Obj.yc,Obj.leO,hs2]
 have ek : k = w.Calls.length:=by omega
 subst ek
 simp -dsimp -implicitDefEqProofs [yt]
def ycc (r : Reach) : Int:=if yap r then 1000000000 - ydp r else 0
def yfo (r : Reach) (a : Int) : Bool:=yap r && decide (0 ≤ a) && decide (a ≤ ycc r)
def ybe (r : Reach) (a : Int) : Reach :=
 if yfo r a then (if r.Pipe.length = 0 then ⟨r.Table,r.Volume + a,r.Pipe⟩ else ⟨r.Table,r.Volume,r.Pipe.set (r.Pipe.length - 1) (r.Pipe.getD (r.Pipe.length - 1) 0 + a)⟩) else r
def ya1 (r : Reach) : Reach :=
 if yap r && decide (0 < r.Pipe.length) then ⟨r.Table,r.Volume + r.Pipe.getD 0 0,r.Pipe.tail ++ [0]⟩ else r
theorem ytu (r : Reach) : 0 ≤ ycc r ∧ ycc r ≤ 1000000000:=by
 unfold ycc
 split
 ·rename_i h; have:=(ydR h).rng; omega
 ·omega
theorem yxC (r : Reach) : yE Tryz.prog yhT [.agg (r.enc.map .c)] (.c (.i (ycc r))):=by
 refine yu ysX (by simp) fun hwf=>?_
 simp -dsimp -implicitDefEqProofs [ynt]
 refine yg (yeT r) (by simp) rfl ?_
 cases h : yap r with
 | false=>simp -dsimp -implicitDefEqProofs; simp [ycc,h]
 | true =>
 have f:=(ydR h).rng
 have ht : yjk r = ydp r:=by simp [yjk,h]
 simp -dsimp -implicitDefEqProofs
 refine yg (yqf r) (by simp) rfl ?_
 simp -dsimp -implicitDefEqProofs [ht]
 refine ⟨by unfold inI; omega,?_⟩
 simp [ycc,h]
theorem yw3 (r : Reach) : yE Tryz.prog yis [.agg (r.enc.map .c)] (.c (.i (ycc r))):=by
 refine yu ysv (by simp) fun hwf=>?_
 simp -dsimp -implicitDefEqProofs [ynb]
 refine yg (yhz r) (by simp) rfl ?_
 cases h : yap r with
 | false=>simp -dsimp -implicitDefEqProofs; simp [ycc,h]
 | true =>
 have f:=ydR h
 simp -dsimp -implicitDefEqProofs
 refine yg (ytV r f.vol f.len f.amt) (by simp) rfl ?_
 simp -dsimp -implicitDefEqProofs
 have f1:=f.rng
 refine ⟨by unfold inI; omega,?_⟩
 simp [ycc,h]
theorem yyD (r : Reach) (a : Int) (hl : r.small) : ybg Tryz.prog ygb [.agg (r.enc.map .c),.c (.i a)] (.agg ((ybe r a).yM.map .c)):=by
 refine yaw yuy (by simp) fun hwf=>?_
 simp -dsimp -implicitDefEqProofs [yoH]
 refine yS (ynd r hl) (by simp) (ybT (Reach.yad r)) (by simp [yZ]) ?_
 simp -dsimp -implicitDefEqProofs [yt]
 refine yg (yeT r) (by simp) rfl ?_
 cases h : yap r with
 | false=>simp -dsimp -implicitDefEqProofs [yt]; simp [ybe,yfo,h]
 | true =>
 have f:=ydR h
 have f1:=f.rng
 have hv:=yU.1 (show inRange r.Volume 0 1000000000 = true from f.vol)
 have hsp:=ytu r
 have hlen12:=f.len
 have hno : ¬ (0 ≤ a ∧ a ≤ ycc r) → ybe r a = r:=fun hn=>by
  have : yfo r a = false:=by
   simp only [yfo,h,Bool.true_and,Bool.and_eq_false_iff,decide_eq_false_iff_not]; omega
  simp [ybe,this]
 have hyes : 0 ≤ a → a ≤ ycc r → yfo r a = true:=fun h1 h2=>by simp [yfo,h,h1,h2]
 simp -dsimp -implicitDefEqProofs
 refine ⟨fun h0=>?_,fun h0=>?_⟩
 rotate_left
 ·rw [hno (by omega)]; simp [yt]
 refine yg (yxC r) (by simp) rfl ?_
 simp -dsimp -implicitDefEqProofs
 refine ⟨fun h1=>?_,fun h1=>?_⟩
 ·rw [hno (by omega)]; simp [yt]
 have hc:=hyes h0 (by omega)
 intro _
 refine ⟨fun hp=>?_,fun hp=>?_⟩
 ·have e : ybe r a = ⟨r.Table,r.Volume + a,r.Pipe⟩:=by simp [ybe,hc,hp]
  rw [e]
  refine ⟨by unfold inI; omega,?_⟩
  simp [yt]
 ·have hpl : 0 < r.Pipe.length:=List.length_pos_iff.2 hp
  obtain ⟨v,hv2⟩ : ∃ v,r.Pipe[r.Pipe.length - 1]? = some v:=⟨_,List.getElem?_eq_getElem (by omega)⟩
  have hva:=yU.1 (show inRange v 0 1000000000 = true from f.amt v (List.mem_of_getElem? hv2))
  have hg : r.Pipe.getD (r.Pipe.length - 1) 0 = v:=by rw [List.getD_eq_getElem?_getD,hv2]; rfl
  have e : ybe r a = ⟨r.Table,r.Volume,r.Pipe.set (r.Pipe.length - 1) (v + a)⟩:=by
   have : ¬ r.Pipe.length = 0:=by omega
   simp only [ybe,hc,if_true,if_neg this,hg]
  rw [e]
  intro _
  refine ⟨by unfold inI; omega,by omega,by omega,by omega,?_⟩
  simp -dsimp -implicitDefEqProofs [hv2]
  refine ⟨by unfold inI; omega,by omega,by omega,by omega,yt.symm,?_⟩
  exact (List.take_of_length_le (by simp)).symm
theorem Reach.ysk (r : Reach) : (AV.agg (r.yM.map .c)).shr (.agg (r.enc.map .c)):=by simp [AV.shr,AV.yzy,ybR,C.shr]
theorem yxD (r : Reach) (a : Int) (hl : r.small) : yE Tryz.prog ygb [.agg (r.enc.map .c),.c (.i a)] (.agg ((ybe r a).enc.map .c)):=(yyD r a hl).pure (Reach.ysk _)
theorem yy8 (r : Reach) (a : Int) (hl : r.small) : yE Tryz.prog yjt [.agg (r.enc.map .c),.c (.i a)] (.agg ((ybe r a).enc.map .c)):=by
 refine ybg.pure (res:=.agg ((ybe r a).yM.map .c)) ?_ (Reach.ysk _)
 refine yaw yu1 (by simp) fun hwf=>?_
 simp -dsimp -implicitDefEqProofs [yoC]
 refine yS (yq0 r hl) (by simp) (ybT (Reach.yad r)) (by simp [yZ]) ?_
 simp -dsimp -implicitDefEqProofs [yt]
 refine yg (yhz r) (by simp) rfl ?_
 cases h : yap r with
 | false=>simp -dsimp -implicitDefEqProofs [yt]; simp [ybe,yfo,h]
 | true =>
 have f:=ydR h
 have f1:=f.rng
 have hv:=yU.1 (show inRange r.Volume 0 1000000000 = true from f.vol)
 have hsp:=ytu r
 have hlen12:=f.len
 have hno : ¬ (0 ≤ a ∧ a ≤ ycc r) → ybe r a = r:=fun hn=>by
  have : yfo r a = false:=by
   simp only [yfo,h,Bool.true_and,Bool.and_eq_false_iff,decide_eq_false_iff_not]; omega
  simp [ybe,this]
 have hyes : 0 ≤ a → a ≤ ycc r → yfo r a = true:=fun h1 h2=>by simp [yfo,h,h1,h2]
 simp -dsimp -implicitDefEqProofs
 refine yg (yw3 r) (by simp) rfl ?_
 simp -dsimp -implicitDefEqProofs
 refine yg (yF a 0 (ycc r)) (by simp) rfl ?_
 cases hin : inRange a 0 (ycc r) with
 | false =>
  have : ¬ (0 ≤ a ∧ a ≤ ycc r):=fun h=>by rw [yU.2 h] at hin; cases hin
  rw [hno this]; simp -dsimp -implicitDefEqProofs [yt]
 | true =>
 have hr:=yU.1 hin
 have hc:=hyes hr.1 hr.2
 simp -dsimp -implicitDefEqProofs
 intro _
 refine ⟨fun hp=>?_,fun hp=>?_⟩
 ·have e : ybe r a = ⟨r.Table,r.Volume + a,r.Pipe⟩:=by simp [ybe,hc,hp]
  rw [e]
  refine ⟨by unfold inI; omega,?_⟩
  simp [yt]
 ·have hpl : 0 < r.Pipe.length:=List.length_pos_iff.2 hp
  obtain ⟨v,hv2⟩ : ∃ v,r.Pipe[r.Pipe.length - 1]? = some v:=⟨_,List.getElem?_eq_getElem (by omega)⟩
  have hva:=yU.1 (show inRange v 0 1000000000 = true from f.amt v (List.mem_of_getElem? hv2))
  have hg : r.Pipe.getD (r.Pipe.length - 1) 0 = v:=by rw [List.getD_eq_getElem?_getD,hv2]; rfl
  have e : ybe r a = ⟨r.Table,r.Volume,r.Pipe.set (r.Pipe.length - 1) (v + a)⟩:=by
   have : ¬ r.Pipe.length = 0:=by omega
   simp only [ybe,hc,if_true,if_neg this,hg]
  rw [e]
  intro _
  refine ⟨by unfold inI; omega,fun _=>⟨by unfold inI; omega,by omega,by omega,by omega,?_⟩⟩
  simp -dsimp -implicitDefEqProofs [hv2]
  refine ⟨by unfold inI; omega,by omega,by omega,by omega,yt.symm,?_⟩
  exact (List.take_of_length_le (by simp)).symm
theorem yEd (xs : List Int) (h : 0 < xs.length) : List.take xs.length (List.take xs.length (List.take (xs.length - 1) (xs.map yJ).tail) ++ ((xs.map yJ).drop (xs.length - 1)).set 0 (((List.take xs.length (List.take (xs.length - 1) (xs.map yJ).tail) ++ (xs.map yJ).drop (xs.length - 1))[xs.length - 1]?.getD []).set 0 (.i 0))) = (xs.map yJ).tail ++ [yJ 0]:=by
 have hl : ((xs.map yJ).tail).length = xs.length - 1:=by simp
 have hT : List.take xs.length (List.take (xs.length - 1) (xs.map yJ).tail) = (xs.map yJ).tail:=by
  rw [List.take_of_length_le (l:=(xs.map yJ).tail) (by omega),List.take_of_length_le (by omega)]
 obtain ⟨z,hz⟩ : ∃ z,xs.drop (xs.length - 1) = [z]:=List.length_eq_one_iff.1 (by simp; omega)
 have hd : (xs.map yJ).drop (xs.length - 1) = [yJ z]:=by rw [← List.map_drop,hz]; rfl
 rw [hT,hd,List.getElem?_append_right (by omega),hl]
 simp only [Nat.sub_self,List.getElem?_cons_zero,Option.getD_some,List.set_cons_zero]
 exact List.take_of_length_le (by rw [List.length_append,hl]; simp; omega)
theorem yyd (r : Reach) (hl : r.small) : ybg Tryz.prog yge [.agg (r.enc.map .c)] (.agg ((ya1 r).yM.map .c)):=by
 refine yaw yvj (by simp) fun hwf=>?_
 simp -dsimp -implicitDefEqProofs [yoT]
 refine yS (ynd r hl) (by simp) (ybT (Reach.yad r)) (by simp [yZ]) ?_
 simp -dsimp -implicitDefEqProofs [yt]
 intro hlen
 refine ⟨fun hp=>?_,fun hp=>?_⟩
 rotate_left
 ·simp [ya1,hp,yt]
 refine yg (yeT r) (by simp) rfl ?_
 cases h : yap r with
 | false=>simp -dsimp -implicitDefEqProofs [yt]; simp [ya1,h]
 | true =>
 have f:=ydR h
 have hv:=yU.1 (show inRange r.Volume 0 1000000000 = true from f.vol)
 have hpl : 0 < r.Pipe.length:=List.length_pos_iff.2 hp
 obtain ⟨v,hv2⟩ : ∃ v,r.Pipe[0]? = some v:=⟨_,List.getElem?_eq_getElem hpl⟩
 have hva:=yU.1 (show inRange v 0 1000000000 = true from f.amt v (List.mem_of_getElem? hv2))
 have hfl : ya1 r = ⟨r.Table,r.Volume + v,r.Pipe.tail ++ [0]⟩:=by
  have hg : r.Pipe.getD 0 0 = v:=by rw [List.getD_eq_getElem?_getD,hv2]; rfl
  simp only [ya1,h,decide_eq_true hpl,Bool.and_self,if_true,hg]
 have h12:=f.len
 rw [hfl]
 simp -dsimp -implicitDefEqProofs [hv2]
 exact ⟨hpl,by unfold inI; omega,by omega,fun _=>⟨by unfold inI; omega,by omega,by omega,by omega,yt.symm,(yEd r.Pipe hpl).symm⟩⟩
theorem yrq (r : Reach) (hl : r.small) : yE Tryz.prog yjI [.agg (r.enc.map .c)] (.agg ((ya1 r).enc.map .c)):=by
 refine ybg.pure (res:=.agg ((ya1 r).yM.map .c)) ?_ (Reach.ysk _)
 refine yaw yvu (by simp) fun hwf=>?_
 simp -dsimp -implicitDefEqProofs [yoy]
 refine yS (yq0 r hl) (by simp) (ybT (Reach.yad r)) (by simp [yZ]) ?_
 simp -dsimp -implicitDefEqProofs [yt]
 refine yg (yhz r) (by simp) rfl ?_
 cases h : yap r with
 | false=>simp -dsimp -implicitDefEqProofs [yt]; simp [ya1,h]
 | true =>
 have f:=ydR h
 have hv:=yU.1 (show inRange r.Volume 0 1000000000 = true from f.vol)
 simp -dsimp -implicitDefEqProofs
 intro hlen
 refine ⟨fun hp=>?_,fun hp=>?_⟩
 ·simp [ya1,hp,yt]
 have hpl : 0 < r.Pipe.length:=List.length_pos_iff.2 hp
 obtain ⟨v,hv2⟩ : ∃ v,r.Pipe[0]? = some v:=⟨_,List.getElem?_eq_getElem hpl⟩
 have hva:=yU.1 (show inRange v 0 1000000000 = true from f.amt v (List.mem_of_getElem? hv2))
 have hfl : ya1 r = ⟨r.Table,r.Volume + v,r.Pipe.tail ++ [0]⟩:=by
  have hg : r.Pipe.getD 0 0 = v:=by rw [List.getD_eq_getElem?_getD,hv2]; rfl
  simp only [ya1,h,decide_eq_true hpl,Bool.and_self,if_true,hg]
 have h12:=f.len
 rw [hfl]
 simp -dsimp -implicitDefEqProofs [hv2]
 refine ⟨hpl,by unfold inI; omega,by omega,by omega,by omega,yt.symm,?_⟩
 rw [List.take_of_length_le (by simp)]
def em (l : List Mover) : List C:=[.ow 3 (l.map Mover.enc)]
theorem ywq (l : List Mover) : ybR (em l) = some (yV l):=rfl
def Waterway.yFo (e : Waterway) : List C:=[.i e.Time,.ow 3 (e.Reaches.map Reach.enc),.ow 2 (e.Ways.map Way.enc),.ow 22 (e.Works.map Work.enc),.ot 1 (e.Movers.map em),.ow 2 (e.Arrived.map Train.enc),.ow 1 (e.Entered.map yJ),.i e.Tariff.Base,.i e.Tariff.PerArea,.ow 1 (e.Tariff.PerClass.map yJ),.ow 1 (e.Tariff.Weights.map yJ),.ow 5 (e.Book.map Entry.enc),.ow 4 (e.Passings.map Passing.enc),.i e.Start,.i e.In,.i e.Out]
set_option maxRecDepth 20000 in
theorem yCk (x : Waterway) (hl : x.small) : ybg Tryz.prog yiu [.agg (x.enc.map .c)] (.agg (x.yFo.map .c)):=by
 obtain ⟨s1,s2,s3,s4,s5,s6,s7,s8,s9⟩:=hl
 have t1:=s1.1; have t2:=s2.1; have t3:=s3.1; have t4:=s4.1; have t5:=s5.1; have t6:=s6.1; have t8:=s8.1; have t9:=s9.1
 have t71:=s7.1; have t72:=s7.2
 refine yaw ytM (by simp) fun hwf=>?_
 simp -dsimp -implicitDefEqProofs [ym2]
 refine yh (ι:=Nat) (fun k=>k ≤ x.Reaches.length) (fun k=>yT [(1,.box 1 0),(2,.box 2 0),(3,.box 3 0),(4,.c (.i k))] [(1,.box [.c (.i x.Time),.c (.sl 3 (x.Reaches.map Reach.enc)),.c (.sl 2 (x.Ways.map Way.enc)),.c (.sl 22 (x.Works.map Work.enc)),.c (.sl 1 (x.Movers.map yV)),.c (.sl 2 (x.Arrived.map Train.enc)),.c (.sl 1 (x.Entered.map yJ)),.c (.i x.Tariff.Base),.c (.i x.Tariff.PerArea),.c (.sl 1 (x.Tariff.PerClass.map yJ)),.c (.sl 1 (x.Tariff.Weights.map yJ)),.c (.sl 5 (x.Book.map Entry.enc)),.c (.sl 4 (x.Passings.map Passing.enc)),.c (.i x.Start),.c (.i x.In),.c (.i x.Out)]),(2,.box [.c (.i 0),.nil 3,.nil 2,.nil 22,.nil 1,.nil 2,.nil 1,.c (.i 0),.c (.i 0),.nil 1,.nil 1,.nil 5,.nil 4,.c (.i 0),.c (.i 0),.c (.i 0)]),(3,.box [.c (.i x.Time),.own 13 3 k,.c (.sl 2 (x.Ways.map Way.enc)),.c (.sl 22 (x.Works.map Work.enc)),.c (.sl 1 (x.Movers.map yV)),.c (.sl 2 (x.Arrived.map Train.enc)),.c (.sl 1 (x.Entered.map yJ)),.c (.i x.Tariff.Base),.c (.i x.Tariff.PerArea),.c (.sl 1 (x.Tariff.PerClass.map yJ)),.c (.sl 1 (x.Tariff.Weights.map yJ)),.c (.sl 5 (x.Book.map Entry.enc)),.c (.sl 4 (x.Passings.map Passing.enc)),.c (.i x.Start),.c (.i x.In),.c (.i x.Out)]),(13,.row 3 ((x.Reaches.take k).map Reach.enc))]) (fun k=>x.Reaches.length - k) 0 (by simp) (by apply yj <;> simp [AV.yc,AV.yB,Obj.yc,Obj.leO]) ?_
 rintro k hk
 rcases Nat.lt_or_ge k x.Reaches.length with klt | kge
 ·obtain ⟨e1,he⟩ : ∃ e1,x.Reaches[k]? = some e1:=⟨_,List.getElem?_eq_getElem klt⟩
  have he2:=s1.2 e1 (List.mem_of_getElem? he)
  have g1:=(List.getElem?_eq_some_iff.1 he).2
  have hs2 : (x.Reaches.map Reach.enc).take (k + 1) = (x.Reaches.map Reach.enc).take k ++ [Reach.enc e1]:=by rw [List.take_succ,List.getElem?_map,he]; rfl
  simp -dsimp -implicitDefEqProofs [he,g1,klt,yI klt]
  intro hlen
  refine yco (yBF e1 he2) (by simp) (.inl rfl) ?_
  simp -dsimp -implicitDefEqProofs [he,g1,klt,yI klt,yt,Nat.min_eq_left hk,yeM]
  refine ⟨by omega,yA klt hlen,k + 1,klt,by omega,?_⟩
  apply yj <;> simp [AV.yc,AV.yB,Obj.yc,Obj.leO,hs2]
 have ek : k = x.Reaches.length:=by omega
 subst ek
 simp -dsimp -implicitDefEqProofs [yt]
 intro _
 refine ⟨by omega,?_⟩
 refine yh (ι:=Nat) (fun k=>k ≤ x.Works.length) (fun k=>yT [(1,.box 1 0),(2,.box 2 0),(3,.box 3 0),(5,.c (.i k))] [(1,.box [.c (.i x.Time),.c (.sl 3 (x.Reaches.map Reach.enc)),.c (.sl 2 (x.Ways.map Way.enc)),.c (.sl 22 (x.Works.map Work.enc)),.c (.sl 1 (x.Movers.map yV)),.c (.sl 2 (x.Arrived.map Train.enc)),.c (.sl 1 (x.Entered.map yJ)),.c (.i x.Tariff.Base),.c (.i x.Tariff.PerArea),.c (.sl 1 (x.Tariff.PerClass.map yJ)),.c (.sl 1 (x.Tariff.Weights.map yJ)),.c (.sl 5 (x.Book.map Entry.enc)),.c (.sl 4 (x.Passings.map Passing.enc)),.c (.i x.Start),.c (.i x.In),.c (.i x.Out)]),(2,.box [.c (.i 0),.nil 3,.nil 2,.nil 22,.nil 1,.nil 2,.nil 1,.c (.i 0),.c (.i 0),.nil 1,.nil 1,.nil 5,.nil 4,.c (.i 0),.c (.i 0),.c (.i 0)]),(3,.box [.c (.i x.Time),.own 13 3 x.Reaches.length,.own 33 2 x.Ways.length,.own 38 22 k,.c (.sl 1 (x.Movers.map yV)),.c (.sl 2 (x.Arrived.map Train.enc)),.c (.sl 1 (x.Entered.map yJ)),.c (.i x.Tariff.Base),.c (.i x.Tariff.PerArea),.c (.sl 1 (x.Tariff.PerClass.map yJ)),.c (.sl 1 (x.Tariff.Weights.map yJ)),.c (.sl 5 (x.Book.map Entry.enc)),.c (.sl 4 (x.Passings.map Passing.enc)),.c (.i x.Start),.c (.i x.In),.c (.i x.Out)]),(13,.row 3 (x.Reaches.map Reach.enc)),(33,.row 2 (x.Ways.map Way.enc)),(38,.row 22 ((x.Works.take k).map Work.enc))]) (fun k=>x.Works.length - k) 0 (by simp) (by apply yj <;> simp [AV.yc,AV.yB,Obj.yc,Obj.leO]) ?_
 rintro k hk
 rcases Nat.lt_or_ge k x.Works.length with klt | kge
 ·obtain ⟨e1,he⟩ : ∃ e1,x.Works[k]? = some e1:=⟨_,List.getElem?_eq_getElem klt⟩
  have he2:=s3.2 e1 (List.mem_of_getElem? he)
  have g1:=(List.getElem?_eq_some_iff.1 he).2
  have hs2 : (x.Works.map Work.enc).take (k + 1) = (x.Works.map Work.enc).take k ++ [Work.enc e1]:=by rw [List.take_succ,List.getElem?_map,he]; rfl
  simp -dsimp -implicitDefEqProofs [he,g1,klt,yI klt]
  intro hlen
  refine yco (yuE e1 he2) (by simp) (.inl rfl) ?_
  simp -dsimp -implicitDefEqProofs [he,g1,klt,yI klt,yt,Nat.min_eq_left hk,yeM]
  refine ⟨by omega,yA klt hlen,k + 1,klt,by omega,?_⟩
  apply yj <;> simp [AV.yc,AV.yB,Obj.yc,Obj.leO,hs2]
 have ek : k = x.Works.length:=by omega
 subst ek
 simp -dsimp -implicitDefEqProofs [yt]
 intro _
 refine yh (ι:=Nat) (fun k=>k ≤ x.Movers.length) (fun k=>yT [(1,.box 1 0),(2,.box 2 0),(3,.box 3 0),(6,.c (.i k))] [(1,.box [.c (.i x.Time),.c (.sl 3 (x.Reaches.map Reach.enc)),.c (.sl 2 (x.Ways.map Way.enc)),.c (.sl 22 (x.Works.map Work.enc)),.c (.sl 1 (x.Movers.map yV)),.c (.sl 2 (x.Arrived.map Train.enc)),.c (.sl 1 (x.Entered.map yJ)),.c (.i x.Tariff.Base),.c (.i x.Tariff.PerArea),.c (.sl 1 (x.Tariff.PerClass.map yJ)),.c (.sl 1 (x.Tariff.Weights.map yJ)),.c (.sl 5 (x.Book.map Entry.enc)),.c (.sl 4 (x.Passings.map Passing.enc)),.c (.i x.Start),.c (.i x.In),.c (.i x.Out)]),(2,.box [.c (.i 0),.nil 3,.nil 2,.nil 22,.nil 1,.nil 2,.nil 1,.c (.i 0),.c (.i 0),.nil 1,.nil 1,.nil 5,.nil 4,.c (.i 0),.c (.i 0),.c (.i 0)]),(3,.box [.c (.i x.Time),.own 13 3 x.Reaches.length,.own 33 2 x.Ways.length,.own 38 22 x.Works.length,.own 58 1 k,.c (.sl 2 (x.Arrived.map Train.enc)),.c (.sl 1 (x.Entered.map yJ)),.c (.i x.Tariff.Base),.c (.i x.Tariff.PerArea),.c (.sl 1 (x.Tariff.PerClass.map yJ)),.c (.sl 1 (x.Tariff.Weights.map yJ)),.c (.sl 5 (x.Book.map Entry.enc)),.c (.sl 4 (x.Passings.map Passing.enc)),.c (.i x.Start),.c (.i x.In),.c (.i x.Out)]),(13,.row 3 (x.Reaches.map Reach.enc)),(33,.row 2 (x.Ways.map Way.enc)),(38,.row 22 (x.Works.map Work.enc)),(58,if k = 0 then .row 1 [] else .tr 1 0 ((x.Movers.take k).map em))]) (fun k=>x.Movers.length - k) 0 (by simp) (by apply yj <;> simp [AV.yc,AV.yB,Obj.yc,Obj.leO]) ?_
 rintro k hk
 rcases Nat.lt_or_ge k x.Movers.length with klt | kge
 ·obtain ⟨l,hl⟩ : ∃ l,x.Movers[k]? = some l:=⟨_,List.getElem?_eq_getElem klt⟩
  have hls:=s4.2 l (List.mem_of_getElem? hl)
  have hll:=hls.1
  have g1:=(List.getElem?_eq_some_iff.1 hl).2
  have hs2 : (x.Movers.map em).take (k + 1) = (x.Movers.map em).take k ++ [em l]:=by rw [List.take_succ,List.getElem?_map,hl]; rfl
  simp -dsimp -implicitDefEqProofs [hl,g1,klt,yI klt]
  intro hlen
  generalize hZ : (if k = 0 then Obj.row 1 [] else .tr 1 0 ((x.Movers.map em).take k)) = Z
  have hz1 : Z.leO Z:=by rw [← hZ]; split <;> first | rfl | exact ⟨rfl,rfl⟩
  have hz2 : ∀ i,Z.kill i = Z:=by intro i; rw [← hZ]; split <;> rfl
  have hz3 : ∀ L,Z.yc L = true:=by intro L; rw [← hZ]; split <;> rfl
  simp only [Obj.leO] at hz1
  simp only [Obj.yc] at hz3
  refine yh (ι:=Nat) (fun i=>i ≤ l.length) (fun i=>yT [(1,.box 1 0),(2,.box 2 0),(3,.box 3 0),(6,.c (.i k)),(7,.own 67 3 i),(8,.c (.i i))] [(1,.box [.c (.i x.Time),.c (.sl 3 (x.Reaches.map Reach.enc)),.c (.sl 2 (x.Ways.map Way.enc)),.c (.sl 22 (x.Works.map Work.enc)),.c (.sl 1 (x.Movers.map yV)),.c (.sl 2 (x.Arrived.map Train.enc)),.c (.sl 1 (x.Entered.map yJ)),.c (.i x.Tariff.Base),.c (.i x.Tariff.PerArea),.c (.sl 1 (x.Tariff.PerClass.map yJ)),.c (.sl 1 (x.Tariff.Weights.map yJ)),.c (.sl 5 (x.Book.map Entry.enc)),.c (.sl 4 (x.Passings.map Passing.enc)),.c (.i x.Start),.c (.i x.In),.c (.i x.Out)]),(2,.box [.c (.i 0),.nil 3,.nil 2,.nil 22,.nil 1,.nil 2,.nil 1,.c (.i 0),.c (.i 0),.nil 1,.nil 1,.nil 5,.nil 4,.c (.i 0),.c (.i 0),.c (.i 0)]),(3,.box [.c (.i x.Time),.own 13 3 x.Reaches.length,.own 33 2 x.Ways.length,.own 38 22 x.Works.length,.own 58 1 k,.c (.sl 2 (x.Arrived.map Train.enc)),.c (.sl 1 (x.Entered.map yJ)),.c (.i x.Tariff.Base),.c (.i x.Tariff.PerArea),.c (.sl 1 (x.Tariff.PerClass.map yJ)),.c (.sl 1 (x.Tariff.Weights.map yJ)),.c (.sl 5 (x.Book.map Entry.enc)),.c (.sl 4 (x.Passings.map Passing.enc)),.c (.i x.Start),.c (.i x.In),.c (.i x.Out)]),(13,.row 3 (x.Reaches.map Reach.enc)),(33,.row 2 (x.Ways.map Way.enc)),(38,.row 22 (x.Works.map Work.enc)),(58,Z),(67,.row 3 ((l.take i).map Mover.enc))]) (fun i=>l.length - i) 0 (by simp) (by apply yj <;> simp [AV.yc,AV.yB,Obj.yc,Obj.leO,hz1,hz2,hz3]) ?_
  rintro i hi
  rcases Nat.lt_or_ge i l.length with ilt | ige
  ·obtain ⟨m,hm⟩ : ∃ m,l[i]? = some m:=⟨_,List.getElem?_eq_getElem ilt⟩
   have hms:=hls.2 m (List.mem_of_getElem? hm)
   have g2:=(List.getElem?_eq_some_iff.1 hm).2
   have hs3 : (l.map Mover.enc).take (i + 1) = (l.map Mover.enc).take i ++ [Mover.enc m]:=by rw [List.take_succ,List.getElem?_map,hm]; rfl
   simp -dsimp -implicitDefEqProofs [hl,hm,g1,g2,klt,yI klt,ilt,yI ilt]
   intro hlen2
   refine yL (yBu m hms) (by simp) rfl ?_
   simp -dsimp -implicitDefEqProofs [yt,Nat.min_eq_left hi]
   refine ⟨by omega,yA ilt hlen2,i + 1,ilt,by omega,?_⟩
   apply yj <;> simp [AV.yc,AV.yB,Obj.yc,Obj.leO,hs3,hz1,hz2,hz3]
  have ei : i = l.length:=by omega
  subst ei
  simp -dsimp -implicitDefEqProofs [hl,g1,klt,yI klt,yt,hz2]
  intro _
  subst hZ
  rcases Nat.eq_zero_or_pos k with e0 | e0
  ·subst e0
   have hs3 : (x.Movers.map em).take 1 = [em l]:=by simpa using hs2
   simp -dsimp -implicitDefEqProofs [yt]
   refine ⟨by unfold inI; omega,1,klt,by omega,?_⟩
   apply yj <;> simp [AV.yc,AV.yB,Obj.yc,Obj.leO,hs3,em]
  ·have hne : (k = 0) = False:=by simp; omega
   simp -dsimp -implicitDefEqProofs [hne,yt,Nat.min_eq_left hk]
   refine ⟨by omega,yA klt hlen,k + 1,klt,by omega,?_⟩
   apply yj <;> simp [AV.yc,AV.yB,Obj.yc,Obj.leO,hs2,em]
 have ek : k = x.Movers.length:=by omega
 subst ek
 simp -dsimp -implicitDefEqProofs [yt]
 intro _
 have hif : (if x.Movers = [] then Obj.row 1 [] else .tr 1 0 (x.Movers.map em)) = (if x.Movers.length = 0 then Obj.row 1 [] else .tr 1 0 (x.Movers.map em)):=by cases x.Movers <;> simp
 generalize hZ : (if x.Movers.length = 0 then Obj.row 1 [] else .tr 1 0 (x.Movers.map em)) = Z at hif
 have hz1 : Z.leO Z:=by rw [← hZ]; split <;> first | rfl | exact ⟨rfl,rfl⟩
 have hz2 : ∀ i,Z.kill i = Z:=by intro i; rw [← hZ]; split <;> rfl
 have hz3 : ∀ L,Z.yc L = true:=by intro L; rw [← hZ]; split <;> rfl
 simp only [Obj.leO] at hz1
 simp only [Obj.yc] at hz3
 refine yh (ι:=Nat) (fun k=>k ≤ x.Arrived.length) (fun k=>yT [(1,.box 1 0),(2,.box 2 0),(3,.box 3 0),(9,.c (.i k))] [(1,.box [.c (.i x.Time),.c (.sl 3 (x.Reaches.map Reach.enc)),.c (.sl 2 (x.Ways.map Way.enc)),.c (.sl 22 (x.Works.map Work.enc)),.c (.sl 1 (x.Movers.map yV)),.c (.sl 2 (x.Arrived.map Train.enc)),.c (.sl 1 (x.Entered.map yJ)),.c (.i x.Tariff.Base),.c (.i x.Tariff.PerArea),.c (.sl 1 (x.Tariff.PerClass.map yJ)),.c (.sl 1 (x.Tariff.Weights.map yJ)),.c (.sl 5 (x.Book.map Entry.enc)),.c (.sl 4 (x.Passings.map Passing.enc)),.c (.i x.Start),.c (.i x.In),.c (.i x.Out)]),(2,.box [.c (.i 0),.nil 3,.nil 2,.nil 22,.nil 1,.nil 2,.nil 1,.c (.i 0),.c (.i 0),.nil 1,.nil 1,.nil 5,.nil 4,.c (.i 0),.c (.i 0),.c (.i 0)]),(3,.box [.c (.i x.Time),.own 13 3 x.Reaches.length,.own 33 2 x.Ways.length,.own 38 22 x.Works.length,.own 58 1 x.Movers.length,.own 96 2 k,.c (.sl 1 (x.Entered.map yJ)),.c (.i x.Tariff.Base),.c (.i x.Tariff.PerArea),.c (.sl 1 (x.Tariff.PerClass.map yJ)),.c (.sl 1 (x.Tariff.Weights.map yJ)),.c (.sl 5 (x.Book.map Entry.enc)),.c (.sl 4 (x.Passings.map Passing.enc)),.c (.i x.Start),.c (.i x.In),.c (.i x.Out)]),(13,.row 3 (x.Reaches.map Reach.enc)),(33,.row 2 (x.Ways.map Way.enc)),(38,.row 22 (x.Works.map Work.enc)),(58,Z),(96,.row 2 ((x.Arrived.take k).map Train.enc))]) (fun k=>x.Arrived.length - k) 0 (by simp) (by apply yj <;> simp [AV.yc,AV.yB,Obj.yc,Obj.leO,hif,hz1,hz2,hz3]) ?_
 rintro k hk
 rcases Nat.lt_or_ge k x.Arrived.length with klt | kge
 ·obtain ⟨e1,he⟩ : ∃ e1,x.Arrived[k]? = some e1:=⟨_,List.getElem?_eq_getElem klt⟩
  have he2:=s5.2 e1 (List.mem_of_getElem? he)
  have g1:=(List.getElem?_eq_some_iff.1 he).2
  have hs2 : (x.Arrived.map Train.enc).take (k + 1) = (x.Arrived.map Train.enc).take k ++ [Train.enc e1]:=by rw [List.take_succ,List.getElem?_map,he]; rfl
  simp -dsimp -implicitDefEqProofs [he,g1,klt,yI klt]
  intro hlen
  refine yco (ykk e1 he2) (by simp) (.inl rfl) ?_
  simp -dsimp -implicitDefEqProofs [he,g1,klt,yI klt,yt,Nat.min_eq_left hk,yeM]
  refine ⟨by omega,yA klt hlen,k + 1,klt,by omega,?_⟩
  apply yj <;> simp [AV.yc,AV.yB,Obj.yc,Obj.leO,hif,hz1,hz2,hz3,hs2]
 have ek : k = x.Arrived.length:=by omega
 subst ek
 simp -dsimp -implicitDefEqProofs [yt]
 intro _
 refine ⟨by omega,by omega,by omega,by omega,?_⟩
 refine yh (ι:=Nat) (fun k=>k ≤ x.Passings.length) (fun k=>yT [(1,.box 1 0),(2,.box 2 0),(3,.box 3 0),(10,.c (.i k))] [(1,.box [.c (.i x.Time),.c (.sl 3 (x.Reaches.map Reach.enc)),.c (.sl 2 (x.Ways.map Way.enc)),.c (.sl 22 (x.Works.map Work.enc)),.c (.sl 1 (x.Movers.map yV)),.c (.sl 2 (x.Arrived.map Train.enc)),.c (.sl 1 (x.Entered.map yJ)),.c (.i x.Tariff.Base),.c (.i x.Tariff.PerArea),.c (.sl 1 (x.Tariff.PerClass.map yJ)),.c (.sl 1 (x.Tariff.Weights.map yJ)),.c (.sl 5 (x.Book.map Entry.enc)),.c (.sl 4 (x.Passings.map Passing.enc)),.c (.i x.Start),.c (.i x.In),.c (.i x.Out)]),(2,.box [.c (.i 0),.nil 3,.nil 2,.nil 22,.nil 1,.nil 2,.nil 1,.c (.i 0),.c (.i 0),.nil 1,.nil 1,.nil 5,.nil 4,.c (.i 0),.c (.i 0),.c (.i 0)]),(3,.box [.c (.i x.Time),.own 13 3 x.Reaches.length,.own 33 2 x.Ways.length,.own 38 22 x.Works.length,.own 58 1 x.Movers.length,.own 96 2 x.Arrived.length,.own 116 1 x.Entered.length,.c (.i x.Tariff.Base),.c (.i x.Tariff.PerArea),.own 121 1 x.Tariff.PerClass.length,.own 128 1 x.Tariff.Weights.length,.own 135 5 x.Book.length,.own 140 4 k,.c (.i x.Start),.c (.i x.In),.c (.i x.Out)]),(13,.row 3 (x.Reaches.map Reach.enc)),(33,.row 2 (x.Ways.map Way.enc)),(38,.row 22 (x.Works.map Work.enc)),(58,Z),(96,.row 2 (x.Arrived.map Train.enc)),(116,.row 1 (x.Entered.map yJ)),(121,.row 1 (x.Tariff.PerClass.map yJ)),(128,.row 1 (x.Tariff.Weights.map yJ)),(135,.row 5 (x.Book.map Entry.enc)),(140,.row 4 ((x.Passings.take k).map Passing.enc))]) (fun k=>x.Passings.length - k) 0 (by simp) (by apply yj <;> simp [AV.yc,AV.yB,Obj.yc,Obj.leO,hif,hz1,hz2,hz3]) ?_
 rintro k hk
 rcases Nat.lt_or_ge k x.Passings.length with klt | kge
 ·obtain ⟨e1,he⟩ : ∃ e1,x.Passings[k]? = some e1:=⟨_,List.getElem?_eq_getElem klt⟩
  have he2:=s9.2 e1 (List.mem_of_getElem? he)
  have g1:=(List.getElem?_eq_some_iff.1 he).2
  have hs2 : (x.Passings.map Passing.enc).take (k + 1) = (x.Passings.map Passing.enc).take k ++ [Passing.enc e1]:=by rw [List.take_succ,List.getElem?_map,he]; rfl
  simp -dsimp -implicitDefEqProofs [he,g1,klt,yI klt]
  intro hlen
  refine yL (ykk e1.Train he2) (by simp) rfl ?_
  simp -dsimp -implicitDefEqProofs [he,g1,klt,yI klt,yt,Nat.min_eq_left hk,yeM]
  refine ⟨by omega,yA klt hlen,k + 1,klt,by omega,?_⟩
  apply yj <;> simp [AV.yc,AV.yB,Obj.yc,Obj.leO,hif,hz1,hz2,hz3,hs2]
 have ek : k = x.Passings.length:=by omega
 subst ek
 simp -dsimp -implicitDefEqProofs [yt]
 intro _
 subst hZ
 by_cases e : x.Movers.length = 0
 ·have e2 : x.Movers = []:=List.length_eq_zero_iff.1 e
  simp [Waterway.yFo,e2,yt]
 ·simp [Waterway.yFo,e,yt]
def sent (q : Int) : List Reach → List Reach
 | []=>[]
 | r :: l=>ybe r q :: l
def yjL (x : Waterway) (q : Int) : Bool:=decide (q ≤ 1000000000 - x.Start - x.In)
def ycj (x : Waterway) (q : Int) : List Reach:=if yjL x q then sent q x.Reaches else x.Reaches
def ydX (x : Waterway) (q : Int) : Bool:=yal x && !decide (x.Time = 1000000) && decide (0 ≤ q)
def yaJ (x : Waterway) (q : Int) : Waterway :=
 if ydX x q then ⟨x.Time + 1,(ycj x q).map ya1,x.Ways,x.Works,x.Movers,x.Arrived,x.Entered,x.Tariff,x.Book,x.Passings,x.Start,if yjL x q then x.In + q else x.In,x.Out⟩ else x
def yhf (rs : List Reach) (k : Nat) : List Reach:=(rs.take k).map ya1 ++ rs.drop k
theorem yyK {rs : List Reach} : yhf rs 0 = rs:=by simp [yhf]
theorem yz7 {rs : List Reach} {k : Nat} (h : rs.length ≤ k) : yhf rs k = rs.map ya1:=by
 unfold yhf; rw [List.take_of_length_le h,List.drop_eq_nil_of_le h,List.append_nil]
theorem yzz {rs : List Reach} {k : Nat} : (yhf rs k).length = rs.length:=by
 unfold yhf; simp; omega
theorem yBT {rs : List Reach} {k : Nat} (h : k < rs.length) : (yhf rs k)[k]? = rs[k]?:=by
 unfold yhf
 rw [List.getElem?_append_right (by simp; omega)]
 simp [Nat.min_eq_left (Nat.le_of_lt h)]
theorem yz5 {rs : List Reach} {k : Nat} {r : Reach} (h : rs[k]? = some r) : (yhf rs k).set k (ya1 r) = yhf rs (k + 1):=by
 have hlt:=(List.getElem?_eq_some_iff.1 h).1
 have hg:=(List.getElem?_eq_some_iff.1 h).2
 unfold yhf
 rw [List.take_succ,h,List.drop_eq_getElem_cons hlt,hg]
 have hl : ((rs.take k).map ya1).length = k:=by simp; omega
 rw [List.set_append_right _ _ (by omega),hl]
 simp
theorem yxm {r : Reach} {a : Int} (h : r.small) : (ybe r a).small:=by
 unfold ybe
 split
 ·split
  ·exact h
  ·exact ⟨h.1,by simpa using h.2.1,fun _ _=>trivial⟩
 ·exact h
theorem yxr {r : Reach} (h : r.small) : (ya1 r).small:=by
 unfold ya1
 split
 ·rename_i h2
  simp only [Bool.and_eq_true,decide_eq_true_eq] at h2
  refine ⟨h.1,?_,fun _ _=>trivial⟩
  have:=h.2.1
  simp; omega
 ·exact h
theorem yDd {q : Int} {l : List Reach} : (sent q l).length = l.length:=by cases l <;> rfl
theorem yc0 {x : Waterway} {q : Int} : (ycj x q).length = x.Reaches.length:=by unfold ycj; split <;> simp [yDd]
theorem ymz {x : Waterway} {q : Int} (h : ycR x.Reaches) : ycR (ycj x q):=by
 refine ⟨by rw [yc0]; exact h.1,fun r hr=>?_⟩
 unfold ycj at hr
 split at hr
 ·have h2:=h.2
  revert hr h2
  cases x.Reaches with
  | nil=>intro hr; simp [sent] at hr
  | cons a l =>
   intro hr h2
   simp only [sent,List.mem_cons] at hr
   rcases hr with rfl | hr
   ·exact yxm (h2 a (by simp))
   ·exact h2 r (by simp [hr])
 ·exact h.2 r hr
theorem yAn {x : Waterway} {q : Int} (h : x.small) : (yaJ x q).small:=by
 unfold yaJ
 split
 ·obtain ⟨s1,s2⟩:=h
  have p:=ymz (q:=q) s1
  refine ⟨⟨by simpa using p.1,fun r hr=>?_⟩,s2⟩
  obtain ⟨r0,h0,rfl⟩:=List.mem_map.1 hr
  exact yxr (p.2 r0 h0)
 ·exact h
theorem yCy (es : List Reach) (hl : es.length ≤ 1048576) : ybg Tryz.prog yaN [.c (.sl 3 (es.map Reach.enc))] (.c (.ow 3 (es.map Reach.enc))):=by
 refine yaw ydg (by simp) fun hwf=>?_
 simp -dsimp -implicitDefEqProofs [ybm,yt]
 omega
theorem yyE {x : Waterway} (h : yal x = true) : ∃ r l,x.Reaches = r :: l:=by
 simp only [yal,ybb,Bool.and_eq_true,decide_eq_true_eq] at h
 obtain ⟨⟨⟨⟨⟨⟨⟨h1,h2⟩,h3⟩,h4⟩,h5⟩,h6⟩,h7⟩,h8⟩:=h
 have:=h2.1.1.1.1.1.2
 cases hx : x.Reaches with
 | nil=>rw [hx] at this; simp at this
 | cons r l=>exact ⟨r,l,rfl⟩
theorem yAL {x : Waterway} (h : yal x = true) : 0 ≤ x.Time ∧ x.Time ≤ 1000000:=by
 simp only [yal,Bool.and_eq_true] at h
 exact yU.1 h.1.1.1.1.1.1.1
def rsC (rs : List Reach) (k : Nat) : List (List C):=(yhf rs k).map Reach.enc
theorem ysj {rs : List Reach} {k : Nat} : (rsC rs k).length = rs.length:=by unfold rsC; rw [List.length_map,yzz]
theorem yw7 {rs : List Reach} {k : Nat} {r : Reach} (h : rs[k]? = some r) : (rsC rs k)[k]? = some r.enc:=by
 unfold rsC; rw [List.getElem?_map,yBT (List.getElem?_eq_some_iff.1 h).1,h]; rfl
theorem yso {rs : List Reach} {k : Nat} {r : Reach} (h : rs[k]? = some r) : (rsC rs k).set k (ya1 r).enc = rsC rs (k + 1):=by
 unfold rsC; rw [← yz5 h,List.map_set]
theorem ypp {rs : List Reach} : rsC rs 0 = rs.map Reach.enc:=by unfold rsC; rw [yyK]
theorem ysh {rs : List Reach} {k : Nat} (h : rs.length ≤ k) : rsC rs k = (rs.map ya1).map Reach.enc:=by unfold rsC; rw [yz7 h]
theorem yqr (r : Reach) (hl : r.small) : yE Tryz.prog yge [.agg (r.enc.map .c)] (.agg ((ya1 r).enc.map .c)):=(yyd r hl).pure (Reach.ysk _)
theorem ynH {x : Waterway} {q : Int} (h : ydX x q = false) : yaJ x q = x:=by simp [yaJ,h]
set_option maxRecDepth 20000 in
theorem yHN (x : Waterway) (q : Int) (hl : x.small) : yE Tryz.prog ym9 [.agg (x.enc.map .c),.c (.i q)] (.agg ((yaJ x q).enc.map .c)):=by
 have hl0:=hl
 obtain ⟨s1,s2,s3,s4,s5,s6,s7,s8,s9⟩:=hl
 have s11:=s1.1
 refine yu yyW (by simp) fun hwf=>?_
 simp -dsimp -implicitDefEqProofs [yrj]
 refine yg (yrO x hl0) (by simp) rfl ?_
 cases h : yal x with
 | false=>simp -dsimp -implicitDefEqProofs; simp [ynH,ydX,h]
 | true =>
 have ht:=yAL h
 have hw:=ytI h
 obtain ⟨r0,rl,hrl⟩:=yyE h
 simp -dsimp -implicitDefEqProofs
 refine ⟨fun ht2=>?_,fun ht2=>?_⟩
 rotate_left
 ·rw [ynH (by simp [ydX,ht2])]; simp
 refine ⟨fun hq=>?_,fun hq=>?_⟩
 ·have : ¬ 0 ≤ q:=by omega
  rw [ynH (by simp [ydX,this])]; simp
 have hc : ydX x q = true:=by simp [ydX,h,ht2,hq]
 have w1:=hw.start; have w2:=hw.inn
 refine ⟨by unfold inI; omega,?_⟩
 refine yqJ (yCy x.Reaches s11) (by simp) rfl (by simp [yZ]) ?_
 simp -dsimp -implicitDefEqProofs [yt]
 refine ⟨by unfold inI; omega,by unfold inI; omega,fun hp=>?_,fun hp=>?_⟩
 ·have hpi : yjL x q = true:=by simp [yjL]; omega
  have hrs : ycj x q = ybe r0 q :: rl:=by simp [ycj,hpi,hrl,sent]
  have e : yaJ x q = ⟨x.Time + 1,(ycj x q).map ya1,x.Ways,x.Works,x.Movers,x.Arrived,x.Entered,x.Tariff,x.Book,x.Passings,x.Start,x.In + q,x.Out⟩:=by simp [yaJ,hc,hpi]
  rw [e]
  have h00 : x.Reaches[0]? = some r0:=by rw [hrl]; rfl
  have hg0 : 0 < x.Reaches.length:=by rw [hrl]; simp
  have hset0 : (x.Reaches.map Reach.enc).set 0 (ybe r0 q).enc = (ycj x q).map Reach.enc:=by rw [hrs,hrl]; rfl
  have hr0 : r0.small:=s1.2 r0 (by rw [hrl]; simp)
  simp only [Reach.enc] at hset0
  have g00:=(List.getElem?_eq_some_iff.1 h00).2
  simp -dsimp -implicitDefEqProofs [h00,g00,hg0]
  refine yco (yxD r0 q hr0) (by simp) (.inl rfl) ?_
  simp -dsimp -implicitDefEqProofs [h00,g00,hg0,hset0]
  refine ⟨by unfold inI; omega,?_⟩
  intro hlen
  refine yh (ι:=Nat) (fun k=>k ≤ x.Reaches.length) (fun k=>yT [(2,.box 2 0),(4,.box 4 0),(5,.box 5 0),(53,.own 28 3 x.Reaches.length),(54,.c (.i x.Reaches.length)),(55,.c (.i k))] [(2,.box [.c (.i x.Time),.c (.sl 3 (x.Reaches.map Reach.enc)),.c (.sl 2 (x.Ways.map Way.enc)),.c (.sl 22 (x.Works.map Work.enc)),.c (.sl 1 (x.Movers.map yV)),.c (.sl 2 (x.Arrived.map Train.enc)),.c (.sl 1 (x.Entered.map yJ)),.c (.i x.Tariff.Base),.c (.i x.Tariff.PerArea),.c (.sl 1 (x.Tariff.PerClass.map yJ)),.c (.sl 1 (x.Tariff.Weights.map yJ)),.c (.sl 5 (x.Book.map Entry.enc)),.c (.sl 4 (x.Passings.map Passing.enc)),.c (.i x.Start),.c (.i x.In),.c (.i x.Out)]),(4,.box [.c (.i 0),.nil 3,.nil 2,.nil 22,.nil 1,.nil 2,.nil 1,.c (.i 0),.c (.i 0),.nil 1,.nil 1,.nil 5,.nil 4,.c (.i 0),.c (.i 0),.c (.i 0)]),(5,.box [.c (.i (x.Time + 1)),.own 28 3 x.Reaches.length,.c (.sl 2 (x.Ways.map Way.enc)),.c (.sl 22 (x.Works.map Work.enc)),.c (.sl 1 (x.Movers.map yV)),.c (.sl 2 (x.Arrived.map Train.enc)),.c (.sl 1 (x.Entered.map yJ)),.c (.i x.Tariff.Base),.c (.i x.Tariff.PerArea),.c (.sl 1 (x.Tariff.PerClass.map yJ)),.c (.sl 1 (x.Tariff.Weights.map yJ)),.c (.sl 5 (x.Book.map Entry.enc)),.c (.sl 4 (x.Passings.map Passing.enc)),.c (.i x.Start),.c (.i (x.In + q)),.c (.i x.Out)]),(28,.row 3 (rsC (ycj x q) k))]) (fun k=>x.Reaches.length - k) 0 (by simp) (by apply yj <;> simp [AV.yc,AV.yB,Obj.yc,ypp]) ?_
  rintro k hk
  have hrl2 : (rsC (ycj x q) k).length = x.Reaches.length:=by rw [ysj,yc0]
  rcases Nat.lt_or_ge k x.Reaches.length with klt | kge
  ·obtain ⟨r,hr⟩ : ∃ r,(ycj x q)[k]? = some r:=⟨_,List.getElem?_eq_getElem (by rw [yc0]; exact klt)⟩
   have hrs2:=(ymz (q:=q) s1).2 r (List.mem_of_getElem? hr)
   have hat:=yw7 hr
   have hset:=yso hr
   simp only [Reach.enc] at hat hset
   have hat2:=(List.getElem?_eq_some_iff.1 hat).2
   simp -dsimp -implicitDefEqProofs [hrl2,hat,hat2,klt,yI klt]
   refine yco (yqr r hrs2) (by simp) (.inl rfl) ?_
   simp -dsimp -implicitDefEqProofs [hrl2,hat,hat2,klt,yI klt,hset]
   refine ⟨yA klt hlen,k + 1,klt,by omega,?_⟩
   apply yj <;> simp [AV.yc,AV.yB,Obj.yc,hset]
  ·have hall:=ysh (rs:=(ycj x q)) (k:=k) (by rw [yc0]; exact kge)
   simp -dsimp -implicitDefEqProofs [yau kge,hall]
   exact (List.take_of_length_le (by simp [yc0])).symm
 ·have hpi : yjL x q = false:=by simp [yjL]; omega
  have hrs : ycj x q = x.Reaches:=by simp [ycj,hpi]
  have e : yaJ x q = ⟨x.Time + 1,(ycj x q).map ya1,x.Ways,x.Works,x.Movers,x.Arrived,x.Entered,x.Tariff,x.Book,x.Passings,x.Start,x.In,x.Out⟩:=by simp [yaJ,hc,hpi]
  rw [e,hrs]
  intro hlen
  refine yh (ι:=Nat) (fun k=>k ≤ x.Reaches.length) (fun k=>yT [(2,.box 2 0),(4,.box 4 0),(5,.box 5 0),(53,.own 28 3 x.Reaches.length),(54,.c (.i x.Reaches.length)),(55,.c (.i k))] [(2,.box [.c (.i x.Time),.c (.sl 3 (x.Reaches.map Reach.enc)),.c (.sl 2 (x.Ways.map Way.enc)),.c (.sl 22 (x.Works.map Work.enc)),.c (.sl 1 (x.Movers.map yV)),.c (.sl 2 (x.Arrived.map Train.enc)),.c (.sl 1 (x.Entered.map yJ)),.c (.i x.Tariff.Base),.c (.i x.Tariff.PerArea),.c (.sl 1 (x.Tariff.PerClass.map yJ)),.c (.sl 1 (x.Tariff.Weights.map yJ)),.c (.sl 5 (x.Book.map Entry.enc)),.c (.sl 4 (x.Passings.map Passing.enc)),.c (.i x.Start),.c (.i x.In),.c (.i x.Out)]),(4,.box [.c (.i 0),.nil 3,.nil 2,.nil 22,.nil 1,.nil 2,.nil 1,.c (.i 0),.c (.i 0),.nil 1,.nil 1,.nil 5,.nil 4,.c (.i 0),.c (.i 0),.c (.i 0)]),(5,.box [.c (.i (x.Time + 1)),.own 28 3 x.Reaches.length,.c (.sl 2 (x.Ways.map Way.enc)),.c (.sl 22 (x.Works.map Work.enc)),.c (.sl 1 (x.Movers.map yV)),.c (.sl 2 (x.Arrived.map Train.enc)),.c (.sl 1 (x.Entered.map yJ)),.c (.i x.Tariff.Base),.c (.i x.Tariff.PerArea),.c (.sl 1 (x.Tariff.PerClass.map yJ)),.c (.sl 1 (x.Tariff.Weights.map yJ)),.c (.sl 5 (x.Book.map Entry.enc)),.c (.sl 4 (x.Passings.map Passing.enc)),.c (.i x.Start),.c (.i x.In),.c (.i x.Out)]),(28,.row 3 (rsC x.Reaches k))]) (fun k=>x.Reaches.length - k) 0 (by simp) (by apply yj <;> simp [AV.yc,AV.yB,Obj.yc,ypp]) ?_
  rintro k hk
  have hrl2 : (rsC x.Reaches k).length = x.Reaches.length:=ysj
  rcases Nat.lt_or_ge k x.Reaches.length with klt | kge
  ·obtain ⟨r,hr⟩ : ∃ r,x.Reaches[k]? = some r:=⟨_,List.getElem?_eq_getElem klt⟩
   have hrs2:=s1.2 r (List.mem_of_getElem? hr)
   have hat:=yw7 hr
   have hset:=yso hr
   simp only [Reach.enc] at hat hset
   have hat2:=(List.getElem?_eq_some_iff.1 hat).2
   simp -dsimp -implicitDefEqProofs [hrl2,hat,hat2,klt,yI klt]
   refine yco (yqr r hrs2) (by simp) (.inl rfl) ?_
   simp -dsimp -implicitDefEqProofs [hrl2,hat,hat2,klt,yI klt,hset]
   refine ⟨yA klt hlen,k + 1,klt,by omega,?_⟩
   apply yj <;> simp [AV.yc,AV.yB,Obj.yc,hset]
  ·have hall:=ysh (rs:=x.Reaches) (k:=k) (by exact kge)
   simp -dsimp -implicitDefEqProofs [yau kge,hall]
   exact (List.take_of_length_le (by simp [yc0])).symm
def yeY {α : Type} (t : α → Nat) (xs : List α) : Nat:=xs.length + (xs.map t).sum
def ycH {α : Type} (f : α → Int → Int) (t : α → Nat) : Prop:=∀ x l,0 ≤ l → l ≤ 1048576 → 0 ≤ f x l → f x l + t x ≤ l
theorem yaS {a : Int} {f : Int → Int} (h : 0 ≤ ybh a f) : 0 ≤ a ∧ ybh a f = f a:=by
 rcases Int.lt_or_le a 0 with e | e
 ·rw [yN e] at h; omega
 ·exact ⟨e,yw e⟩
theorem ylh {α : Type} : ycH (fun (xs : List α) l=>szS xs.length l) (fun xs=>xs.length):=by
 intro xs l h0 h1 h
 simp only [szS] at h ⊢
 split at h
 ·omega
 ·rename_i h2; rw [if_neg h2]; omega
theorem yte {α : Type} {f : α → Int → Int} {t : α → Nat} (hf : ycH f t) : ∀ (xs : List α) (l : Int),0 ≤ l → l ≤ 1048576 → 0 ≤ yas f xs l → yas f xs l + ((xs.map t).sum : Nat) ≤ l
 | [],l,_,_,_=>by simp [yas]
 | x :: xs,l,h0,h1,h=>by
  simp only [yas] at h ⊢
  obtain ⟨p,e⟩:=yaS h
  rw [e] at h ⊢
  have h2:=hf x l h0 h1 p
  have h3:=yte hf xs (f x l) p (by omega) h
  simp only [List.map_cons,List.sum_cons,Int.natCast_add]; omega
theorem ygm {α : Type} {f : α → Int → Int} {t : α → Nat} (hf : ycH f t) : ycH (yfw f) (yeY t):=by
 intro xs l h0 h1 h
 unfold yfw at h ⊢
 obtain ⟨p,e⟩:=yaS h
 rw [e] at h ⊢
 have h2:=ylh xs l h0 h1 p
 have h3:=yte hf xs _ p (by simp only at h2 ⊢; omega) h
 unfold yeY
 simp only at h2
 omega
theorem ydA {α : Type} {n t : α → Nat} (h : ∀ x,n x ≤ 27 * (1 + t x)) : ∀ xs : List α,cnt n xs ≤ 27 * yeY t xs
 | []=>by simp [cnt]
 | x :: xs=>by
  have h1:=ydA h xs
  have h2:=h x
  simp only [cnt,yeY,List.map_cons,List.sum_cons,List.length_cons] at h1 ⊢
  omega
def ydj (xs : List Int) : Nat:=xs.length
theorem yjg : ycH ylx ydj:=ylh
def ypf (xs : List Entry) : Nat:=xs.length
theorem yu9 : ycH ykv ypf:=ylh
def ynQ (xs : List Boat) : Nat:=xs.length
theorem yw8 : ycH yeN ynQ:=ylh
def yf5 : List (List Boat) → Nat:=yeY ynQ
theorem yvw : ycH yeH yf5:=ygm yw8
theorem yAN (r : List Boat) : nB r ≤ 27 * (1 + ynQ r):=by unfold nB ynQ; omega
def yb6 (e : Train) : Nat:=yf5 e.Rows
theorem yhw : ycH ybY yb6:=by
 intro e l h0 h1 h
 unfold ybY at h ⊢
 obtain ⟨p0,e0⟩:=yaS h
 rw [e0] at h ⊢
 have t0:=yvw e.Rows _ h0 h1 p0
 unfold yb6
 omega
def yii (xs : List Point) : Nat:=xs.length
theorem yu0 : ycH ykp yii:=ylh
def ybA (e : Reach) : Nat:=yii e.Table + ydj e.Pipe
theorem ywc : ycH ycD ybA:=by
 intro e l h0 h1 h
 unfold ycD at h ⊢
 obtain ⟨p0,e0⟩:=yaS h
 rw [e0] at h ⊢
 have t0:=yu0 e.Table _ h0 h1 p0
 obtain ⟨p1,e1⟩:=yaS h
 rw [e1] at h ⊢
 have t1:=yjg e.Pipe _ p0 (by omega) p1
 unfold ybA
 omega
def ycO : List Reach → Nat:=yeY ybA
theorem yvA : ycH yey ycO:=ygm ywc
theorem yyN (e : Reach) : yav e ≤ 27 * (1 + ybA e):=by
 have : yii e.Table = e.Table.length:=rfl
 have : ydj e.Pipe = e.Pipe.length:=rfl
 simp only [yav,ybA]
 omega
def ytk (xs : List Way) : Nat:=xs.length
theorem yyI : ycH yqq ytk:=ylh
def yo6 (xs : List Pause) : Nat:=xs.length
theorem yvk : ycH ykC yo6:=ylh
def yh4 : List Train → Nat:=yeY yb6
theorem yom : ycH yds yh4:=ygm yhw
theorem yrz (e : Train) : yD e ≤ 27 * (1 + yb6 e):=by
 have:=ydA yAN e.Rows
 simp only [yD,yb6,yf5]
 omega
def yqu (e : Lock) : Nat:=yh4 e.Inside
theorem yxX : ycH yi3 yqu:=by
 intro e l h0 h1 h
 unfold yi3 at h ⊢
 obtain ⟨p0,e0⟩:=yaS h
 rw [e0] at h ⊢
 have t0:=yom e.Inside _ h0 h1 p0
 unfold yqu
 omega
def ym8 (e : CallT) : Nat:=yb6 e.Train
theorem yxH : ycH yd8 ym8:=by
 intro e l h0 h1 h
 unfold yd8 at h ⊢
 obtain ⟨p0,e0⟩:=yaS h
 rw [e0] at h ⊢
 have t0:=yhw e.Train _ h0 h1 p0
 unfold ym8
 omega
def yqI : List CallT → Nat:=yeY ym8
theorem ywN : ycH ygl yqI:=ygm yxH
theorem yzn (e : CallT) : yaC e ≤ 27 * (1 + ym8 e):=by
 have:=ydA yAN e.Train.Rows
 simp only [yaC,ym8,yb6,yf5]
 omega
def ykA (e : Work) : Nat:=yqu e.Lock + yo6 e.Pauses + yqI e.Calls
theorem yxW : ycH yc6 ykA:=by
 intro e l h0 h1 h
 unfold yc6 at h ⊢
 obtain ⟨p0,e0⟩:=yaS h
 rw [e0] at h ⊢
 have t0:=yxX e.Lock _ h0 h1 p0
 obtain ⟨p1,e1⟩:=yaS h
 rw [e1] at h ⊢
 have t1:=yvk e.Pauses _ p0 (by omega) p1
 obtain ⟨p2,e2⟩:=yaS h
 rw [e2] at h ⊢
 have t2:=ywN e.Calls _ p1 (by omega) p2
 unfold ykA
 omega
def yqO : List Work → Nat:=yeY ykA
theorem ywx : ycH ygz yqO:=ygm yxW
theorem yzN (e : Work) : yaD e ≤ 27 * (1 + ykA e):=by
 have:=ydA yrz e.Lock.Inside
 have : yo6 e.Pauses = e.Pauses.length:=rfl
 have:=ydA yzn e.Calls
 simp only [yaD,ykA,yqu,yh4,yqI]
 omega
def ykx (e : Mover) : Nat:=yb6 e.Train
theorem ywI : ycH ycV ykx:=by
 intro e l h0 h1 h
 unfold ycV at h ⊢
 obtain ⟨p0,e0⟩:=yaS h
 rw [e0] at h ⊢
 have t0:=yhw e.Train _ h0 h1 p0
 unfold ykx
 omega
def yic : List Mover → Nat:=yeY ykx
theorem yuW : ycH yb9 yic:=ygm ywI
theorem nM_le (e : Mover) : nM e ≤ 27 * (1 + ykx e):=by
 have:=ydA yAN e.Train.Rows
 simp only [nM,ykx,yb6,yf5]
 omega
def ynF : List (List Mover) → Nat:=yeY yic
theorem ytQ : ycH ydn ynF:=ygm yuW
theorem yw4 (r : List Mover) : yam r ≤ 27 * (1 + yic r):=by have:=ydA nM_le r; unfold yam yic; omega
def ykX (e : Tariff) : Nat:=ydj e.PerClass + ydj e.Weights
theorem yvB : ycH ydx ykX:=by
 intro e l h0 h1 h
 unfold ydx at h ⊢
 obtain ⟨p0,e0⟩:=yaS h
 rw [e0] at h ⊢
 have t0:=yjg e.PerClass _ h0 h1 p0
 obtain ⟨p1,e1⟩:=yaS h
 rw [e1] at h ⊢
 have t1:=yjg e.Weights _ p0 (by omega) p1
 unfold ykX
 omega
def yeu (e : Passing) : Nat:=yb6 e.Train
theorem yua : ycH ybD yeu:=by
 intro e l h0 h1 h
 unfold ybD at h ⊢
 obtain ⟨p0,e0⟩:=yaS h
 rw [e0] at h ⊢
 have t0:=yhw e.Train _ h0 h1 p0
 unfold yeu
 omega
def ylc : List Passing → Nat:=yeY yeu
theorem yr9 : ycH ycL ylc:=ygm yua
theorem yuH (e : Passing) : yae e ≤ 27 * (1 + yeu e):=by
 have:=ydA yAN e.Train.Rows
 simp only [yae,yeu,yb6,yf5]
 omega
def ycb (e : Waterway) : Nat:=ycO e.Reaches + ytk e.Ways + yqO e.Works + ynF e.Movers + yh4 e.Arrived + ydj e.Entered + ykX e.Tariff + ypf e.Book + ylc e.Passings
theorem yr3 : ycH yaR ycb:=by
 intro e l h0 h1 h
 unfold yaR at h ⊢
 obtain ⟨p0,e0⟩:=yaS h
 rw [e0] at h ⊢
 have t0:=yvA e.Reaches _ h0 h1 p0
 obtain ⟨p1,e1⟩:=yaS h
 rw [e1] at h ⊢
 have t1:=yyI e.Ways _ p0 (by omega) p1
 obtain ⟨p2,e2⟩:=yaS h
 rw [e2] at h ⊢
 have t2:=ywx e.Works _ p1 (by omega) p2
 obtain ⟨p3,e3⟩:=yaS h
 rw [e3] at h ⊢
 have t3:=ytQ e.Movers _ p2 (by omega) p3
 obtain ⟨p4,e4⟩:=yaS h
 rw [e4] at h ⊢
 have t4:=yom e.Arrived _ p3 (by omega) p4
 obtain ⟨p5,e5⟩:=yaS h
 rw [e5] at h ⊢
 have t5:=yjg e.Entered _ p4 (by omega) p5
 obtain ⟨p6,e6⟩:=yaS h
 rw [e6] at h ⊢
 have t6:=yvB e.Tariff _ p5 (by omega) p6
 obtain ⟨p7,e7⟩:=yaS h
 rw [e7] at h ⊢
 have t7:=yu9 e.Book _ p6 (by omega) p7
 obtain ⟨p8,e8⟩:=yaS h
 rw [e8] at h ⊢
 have t8:=yr9 e.Passings _ p7 (by omega) p8
 unfold ycb
 omega
def hsW (x : Waterway) : List H:=[.p (.i x.Time),.t 3 (x.Reaches.map Reach.yM),.w 2 (x.Ways.map Way.enc),.t 22 (x.Works.map Work.yM),.t 1 (x.Movers.map yat),.t 2 (x.Arrived.map Train.yM),.w 1 (x.Entered.map yJ),
 .p (.i x.Tariff.Base),.p (.i x.Tariff.PerArea),.w 1 (x.Tariff.PerClass.map yJ),.w 1 (x.Tariff.Weights.map yJ),.w 5 (x.Book.map Entry.enc),.t 4 (x.Passings.map Passing.yM),.p (.i x.Start),.p (.i x.In),.p (.i x.Out)]
def wm1 (x : Waterway) (k : Int) : Int:=k + cnt yav x.Reaches
def wm2 (x : Waterway) (k : Int) : Int:=wm1 x k + 2 * x.Ways.length
def wm3 (x : Waterway) (k : Int) : Int:=wm2 x k + cnt yaD x.Works
def wm4 (x : Waterway) (k : Int) : Int:=wm3 x k + cnt yam x.Movers
def wm5 (x : Waterway) (k : Int) : Int:=wm4 x k + cnt yD x.Arrived
def wm6 (x : Waterway) (k : Int) : Int:=wm5 x k + x.Entered.length
def wm7 (x : Waterway) (k : Int) : Int:=wm6 x k + nT x.Tariff
def wm8 (x : Waterway) (k : Int) : Int:=wm7 x k + 5 * x.Book.length
def wm9 (x : Waterway) (k : Int) : Int:=wm8 x k + cnt yae x.Passings
def hsM (x : Waterway) (k : Int) : List H:=[.p (.i x.Time),.t 3 (yay ycS yav k x.Reaches),.w 2 (marked ydO 2 [] (wm1 x k) x.Ways.length),.t 22 (yay yd5 yaD (wm2 x k) x.Works),.t 1 (yay yb4 yam (wm3 x k) x.Movers),.t 2 (yay ybJ yD (wm4 x k) x.Arrived),.w 1 (marked yJ 1 [] (wm5 x k) x.Entered.length),
 .p (.i x.Tariff.Base),.p (.i x.Tariff.PerArea),.w 1 (marked yJ 1 [] (wm6 x k) x.Tariff.PerClass.length),.w 1 (marked yJ 1 [] (wm6 x k + x.Tariff.PerClass.length) x.Tariff.Weights.length),.w 5 (marked yn8 5 [] (wm7 x k) x.Book.length),.t 4 (yay ybE yae (wm8 x k) x.Passings),.p (.i x.Start),.p (.i x.In),.p (.i x.Out)]
theorem ykl {id k n : Nat} {mk : Int → List C} {c j : Int} {rows : List (List C)} (h : n = rows.length) : hv id k (marked mk c [] j n) = hv id k rows:=yDH (by rw [yP,h])
theorem yqo {α : Type} {id k : Nat} {f : Int → α → List C} {n : α → Nat} {j : Int} {g : α → List C} {xs : List α} : hv id k (yay f n j xs) = hv id k (xs.map g):=yDH (by rw [yK,List.length_map])
structure WkB (x : Waterway) (k : Int) : Prop where
 b0 : 0 ≤ k
 b1 : k ≤ wm1 x k
 b2 : wm1 x k ≤ wm2 x k
 b3 : wm2 x k ≤ wm3 x k
 b4 : wm3 x k ≤ wm4 x k
 b5 : wm4 x k ≤ wm5 x k
 b6 : wm5 x k ≤ wm6 x k
 b7 : wm6 x k ≤ wm7 x k
 b8 : wm7 x k ≤ wm8 x k
 b9 : wm8 x k ≤ wm9 x k
theorem wkB (x : Waterway) {k : Int} (h : 0 ≤ k) : WkB x k:=by
 refine ⟨h,?_,?_,?_,?_,?_,?_,?_,?_,?_⟩ <;> simp only [wm1,wm2,wm3,wm4,wm5,wm6,wm7,wm8,wm9,nT] <;> omega
set_option maxRecDepth 20000 in
theorem ymO (x : Waterway) (k : Int) (h0 : 0 ≤ k) (h1 : wm9 x k ≤ 4000000000000000000) :
 InF Tryz.prog yct (.agg (((hsW x).map H.c).map .c)) (.agg (((hsM x k).map H.c).map .c)) [.c (.i k)] (.c (.i (wm9 x k))):=by
 obtain ⟨b0,b1,b2,b3,b4,b5,b6,b7,b8,b9⟩:=wkB x h0
 have e1 : wm1 x k = k + cnt yav x.Reaches:=rfl
 have e2 : wm2 x k = wm1 x k + 2 * x.Ways.length:=rfl
 have e3 : wm3 x k = wm2 x k + cnt yaD x.Works:=rfl
 have e4 : wm4 x k = wm3 x k + cnt yam x.Movers:=rfl
 have e5 : wm5 x k = wm4 x k + cnt yD x.Arrived:=rfl
 have e6 : wm6 x k = wm5 x k + x.Entered.length:=rfl
 have e7 : wm7 x k = wm6 x k + nT x.Tariff:=rfl
 have e8 : wm8 x k = wm7 x k + 5 * x.Book.length:=rfl
 have e9 : wm9 x k = wm8 x k + cnt yae x.Passings:=rfl
 have m1:=ywm x.Reaches k h0 (by omega)
 have m2:=yzu x.Ways (wm1 x k) (by omega) (by omega)
 have m3:=yzd x.Works (wm2 x k) (by omega) (by omega)
 have m4:=yvm x.Movers (wm3 x k) (by omega) (by omega)
 have m5:=yqp x.Arrived (wm4 x k) (by omega) (by omega)
 have m6:=ycp x.Entered (wm5 x k) (by omega) (by omega)
 have m7:=ywf x.Tariff (wm6 x k) (by omega) (by omega)
 have m8:=yxz x.Book (wm7 x k) (by omega) (by omega)
 have m9:=ytA x.Passings (wm8 x k) (by omega) (by omega)
 rw [← e1] at m1; rw [← e2] at m2; rw [← e3] at m3; rw [← e4] at m4; rw [← e5] at m5; rw [← e6] at m6; rw [← e7] at m7; rw [← e8] at m8; rw [← e9] at m9
 refine yHe yn9 (by simp) (by simp [hsW,okH,H.ok]) rfl fun hwf=>?_
 simp -dsimp -implicitDefEqProofs [yhp,hsW]
 refine ykz (ver:=0) m1 (by simp) (by simp [yK]) (by simp) rfl rfl ?_
 simp -dsimp -implicitDefEqProofs
 refine yqU m2 (by simp) (by simp [yP]) (by simp) rfl rfl ?_
 simp -dsimp -implicitDefEqProofs
 refine ykz (ver:=0) m3 (by simp) (by simp [yK]) (by simp) rfl rfl ?_
 simp -dsimp -implicitDefEqProofs
 refine ykz (ver:=0) m4 (by simp) (by simp [yK]) (by simp) rfl rfl ?_
 simp -dsimp -implicitDefEqProofs
 refine ykz (ver:=0) m5 (by simp) (by simp [yK]) (by simp) rfl rfl ?_
 simp -dsimp -implicitDefEqProofs
 refine yqU m6 (by simp) (by simp [yP]) (by simp) rfl rfl ?_
 simp -dsimp -implicitDefEqProofs
 refine yDD m7 (by decide) rfl rfl (by simp) (by simp) (by simp [yP]) (by simp [yP]) (by simp) rfl rfl ?_
 simp -dsimp -implicitDefEqProofs
 refine yqU m8 (by simp) (by simp [yP]) (by simp) rfl rfl ?_
 simp -dsimp -implicitDefEqProofs
 refine ykz (ver:=0) m9 (by simp) (by simp [yK]) (by simp) rfl rfl ?_
 simp -dsimp -implicitDefEqProofs
 refine yIr ?_ ?_ ?_
 ·simp [hsM]
  exact ⟨yqo.symm,(ykl (by simp)).symm,yqo.symm,yqo.symm,yqo.symm,(ykl (by simp)).symm,(ykl (by simp)).symm,(ykl (by simp)).symm,(ykl (by simp)).symm,yqo.symm⟩
 ·simp [hsM,yAV,lieH]
  exact ⟨⟨1,rfl⟩,⟨1,rfl⟩,⟨1,rfl⟩,⟨1,rfl⟩,⟨1,rfl⟩⟩
 ·simp [yut]
def yDV (x : Waterway) (k : Int) : List C:=[.i x.Time,.sl 3 (yay yio yav k x.Reaches),.sl 2 (marked ydO 2 [] (wm1 x k) x.Ways.length),.sl 22 (yay ykV yaD (wm2 x k) x.Works),.sl 1 (yay yfL yam (wm3 x k) x.Movers),.sl 2 (yay ygv yD (wm4 x k) x.Arrived),.sl 1 (marked yJ 1 [] (wm5 x k) x.Entered.length),
 .i x.Tariff.Base,.i x.Tariff.PerArea,.sl 1 (marked yJ 1 [] (wm6 x k) x.Tariff.PerClass.length),.sl 1 (marked yJ 1 [] (wm6 x k + x.Tariff.PerClass.length) x.Tariff.Weights.length),.sl 5 (marked yn8 5 [] (wm7 x k) x.Book.length),.sl 4 (yay yek yae (wm8 x k) x.Passings),.i x.Start,.i x.In,.i x.Out]
theorem ywW (e : Tariff) (b p : Int) (k : Int) (h0 : 0 ≤ k) (h1 : k + nT e ≤ 4000000000000000000) : yE Tryz.prog yfl [.agg [.c (.i b),.c (.i p),.c (.sl 1 (marked yJ 1 [] k e.PerClass.length)),.c (.sl 1 (marked yJ 1 [] (k + e.PerClass.length) e.Weights.length))],.c (.i k)] (.c (.i (k + nT e))):=by
 refine yu yp0 (by simp) fun hwf=>?_
 unfold nT at h1 ⊢
 simp -dsimp -implicitDefEqProofs [yiM]
 refine yg (ylr e.PerClass.length k h0 (by omega)) (by simp) rfl ?_
 have n1 : (k + (e.PerClass.length : Int) < 0) = False:=by simp; omega
 simp -dsimp -implicitDefEqProofs [n1]
 refine yg (ylr e.Weights.length (k + e.PerClass.length) (by omega) (by omega)) (by simp) rfl ?_
 have n2 : (k + (e.PerClass.length : Int) + (e.Weights.length : Int) < 0) = False:=by simp; omega
 simp -dsimp -implicitDefEqProofs [n2]
 omega
set_option maxRecDepth 20000 in
theorem ysY (x : Waterway) (k : Int) (h0 : 0 ≤ k) (h1 : wm9 x k ≤ 4000000000000000000) : yE Tryz.prog ycu [.agg ((yDV x k).map .c),.c (.i k)] (.c (.i (wm9 x k))):=by
 obtain ⟨b0,b1,b2,b3,b4,b5,b6,b7,b8,b9⟩:=wkB x h0
 have e1 : wm1 x k = k + cnt yav x.Reaches:=rfl
 have e2 : wm2 x k = wm1 x k + 2 * x.Ways.length:=rfl
 have e3 : wm3 x k = wm2 x k + cnt yaD x.Works:=rfl
 have e4 : wm4 x k = wm3 x k + cnt yam x.Movers:=rfl
 have e5 : wm5 x k = wm4 x k + cnt yD x.Arrived:=rfl
 have e6 : wm6 x k = wm5 x k + x.Entered.length:=rfl
 have e7 : wm7 x k = wm6 x k + nT x.Tariff:=rfl
 have e8 : wm8 x k = wm7 x k + 5 * x.Book.length:=rfl
 have e9 : wm9 x k = wm8 x k + cnt yae x.Passings:=rfl
 have m1:=ywD x.Reaches k h0 (by omega)
 have m2:=yzL x.Ways.length (wm1 x k) (by omega) (by omega)
 have m3:=yyk x.Works (wm2 x k) (by omega) (by omega)
 have m4:=yuK x.Movers (wm3 x k) (by omega) (by omega)
 have m5:=ypB x.Arrived (wm4 x k) (by omega) (by omega)
 have m6:=ylr x.Entered.length (wm5 x k) (by omega) (by omega)
 have m7:=ywW x.Tariff x.Tariff.Base x.Tariff.PerArea (wm6 x k) (by omega) (by omega)
 have m8:=ywt x.Book.length (wm7 x k) (by omega) (by omega)
 have m9:=yup x.Passings (wm8 x k) (by omega) (by omega)
 rw [← e1] at m1; rw [← e2] at m2; rw [← e3] at m3; rw [← e4] at m4; rw [← e5] at m5; rw [← e6] at m6; rw [← e7] at m7; rw [← e8] at m8; rw [← e9] at m9
 have n1 : (wm1 x k < 0) = False:=by simp; omega
 have n2 : (wm2 x k < 0) = False:=by simp; omega
 have n3 : (wm3 x k < 0) = False:=by simp; omega
 have n4 : (wm4 x k < 0) = False:=by simp; omega
 have n5 : (wm5 x k < 0) = False:=by simp; omega
 have n6 : (wm6 x k < 0) = False:=by simp; omega
 have n7 : (wm7 x k < 0) = False:=by simp; omega
 have n8 : (wm8 x k < 0) = False:=by simp; omega
 have n9 : (wm9 x k < 0) = False:=by simp; omega
 clear e1 e2 e3 e4 e5 e6 e7 e8 e9
 unfold yDV
 refine yu yn7 (by simp) fun hwf=>?_
 simp -dsimp -implicitDefEqProofs [yhn]
 refine yg (m1) (by simp) rfl ?_
 simp -dsimp -implicitDefEqProofs [n1]
 refine yg (m2) (by simp) rfl ?_
 simp -dsimp -implicitDefEqProofs [n2]
 refine yg (m3) (by simp) rfl ?_
 simp -dsimp -implicitDefEqProofs [n3]
 refine yg (m4) (by simp) rfl ?_
 simp -dsimp -implicitDefEqProofs [n4]
 refine yg (m5) (by simp) rfl ?_
 simp -dsimp -implicitDefEqProofs [n5]
 refine yg (m6) (by simp) rfl ?_
 simp -dsimp -implicitDefEqProofs [n6]
 refine yg (m7) (by simp) rfl ?_
 simp -dsimp -implicitDefEqProofs [n7]
 refine yg (m8) (by simp) rfl ?_
 simp -dsimp -implicitDefEqProofs [n8]
 refine yg (m9) (by simp) rfl ?_
 simp -dsimp -implicitDefEqProofs [n9]
theorem yCQ (x : Waterway) (k : Int) : wm9 x k ≤ k + 27 * (ycb x : Int):=by
 have a1:=ydA yyN x.Reaches
 have a2:=ydA yzN x.Works
 have a3:=ydA yw4 x.Movers
 have a4:=ydA yrz x.Arrived
 have a5:=ydA yuH x.Passings
 have b1 : ycO x.Reaches = yeY ybA x.Reaches:=rfl
 have b2 : yqO x.Works = yeY ykA x.Works:=rfl
 have b3 : ynF x.Movers = yeY yic x.Movers:=rfl
 have b4 : yh4 x.Arrived = yeY yb6 x.Arrived:=rfl
 have b5 : ylc x.Passings = yeY yeu x.Passings:=rfl
 have c1 : ytk x.Ways = x.Ways.length:=rfl
 have c2 : ydj x.Entered = x.Entered.length:=rfl
 have c3 : ypf x.Book = x.Book.length:=rfl
 have c4 : ydj x.Tariff.PerClass = x.Tariff.PerClass.length:=rfl
 have c5 : ydj x.Tariff.Weights = x.Tariff.Weights.length:=rfl
 simp only [wm1,wm2,wm3,wm4,wm5,wm6,wm7,wm8,wm9,nT,ycb,ykX]
 omega
theorem yvU {α : Type} {f : Int → α → List C} {n : α → Nat} {k : Int} {xs : List α} : (yay f n k xs).take xs.length = yay f n k xs:=List.take_of_length_le (by rw [yK]; exact Nat.le_refl _)
theorem ytO (x : Waterway) (q : Int) (hl : x.small) : ybg Tryz.prog ycB [.agg (x.enc.map .c),.c (.i q)] (.agg ((yaJ x q).yM.map .c)):=by
 have hp:=yAn (q:=q) hl
 have hpc:=yHN x q hl
 refine yaw yqC (by simp) fun hwf=>?_
 simp -dsimp -implicitDefEqProofs [yko]
 refine yL (hpc) (by simp) rfl ?_
 generalize yaJ x q = r at *
 simp -dsimp -implicitDefEqProofs
 refine yS (ytF r hp) (by simp) (ybT (Waterway.yad r)) (by simp [yZ]) ?_
 simp -dsimp -implicitDefEqProofs [yt]
theorem yEy (r : Reach) : ybA (ya1 r) = ybA r:=by
 have : (ya1 r).Table.length = r.Table.length ∧ (ya1 r).Pipe.length = r.Pipe.length:=by
  unfold ya1
  split
  ·rename_i h
   simp only [Bool.and_eq_true,decide_eq_true_eq] at h
   refine ⟨rfl,?_⟩
   simp; omega
  ·exact ⟨rfl,rfl⟩
 unfold ybA yii ydj; omega
theorem yCx (r : Reach) (a : Int) : ybA (ybe r a) = ybA r:=by
 have : (ybe r a).Table.length = r.Table.length ∧ (ybe r a).Pipe.length = r.Pipe.length:=by
  unfold ybe
  split
  ·split
   ·exact ⟨rfl,rfl⟩
   ·exact ⟨rfl,by simp⟩
  ·exact ⟨rfl,rfl⟩
 unfold ybA yii ydj; omega
theorem yBO (x : Waterway) (q : Int) : ycO ((ycj x q).map ya1) = ycO x.Reaches:=by
 have h1 : ∀ l : List Reach,ycO (l.map ya1) = ycO l:=by
  intro l
  have : (ybA ∘ ya1) = ybA:=funext yEy
  simp [ycO,yeY,this]
 rw [h1]
 unfold ycj
 split
 ·cases x.Reaches with
  | nil=>rfl
  | cons r l=>simp [sent,ycO,yeY,yCx]
 ·rfl
theorem yrP (x : Waterway) (q : Int) (h : ycb x ≤ 1048576) : wm9 (yaJ x q) 1 ≤ 4000000000000000000:=by
 have h2 : ycb (yaJ x q) = ycb x:=by
  unfold yaJ
  split
  ·unfold ycb; rw [yBO]
  ·rfl
 have:=yCQ (yaJ x q) 1
 omega
set_option maxRecDepth 20000 in
theorem ytd (x : Waterway) (q : Int) (hl : x.small) : yE Tryz.prog yfU [.agg (x.enc.map .c),.c (.i q)] (.agg ((yaJ x q).enc.map .c)):=by
 have hl0:=hl
 obtain ⟨s1,s2,s3,s4,s5,s6,s7,s8,s9⟩:=hl
 have s11:=s1.1
 refine yu yq2 (by simp) fun hwf=>?_
 simp -dsimp -implicitDefEqProofs [ykg]
 have hco:=yCk x hl0
 simp only [Waterway.yFo] at hco
 refine yqJ hco (by simp) rfl (by simp [yZ,em]) ?_
 simp -dsimp -implicitDefEqProofs [yt]
 refine yg (yrG x hl0) (by simp) rfl ?_
 cases h : yal x with
 | false=>simp -dsimp -implicitDefEqProofs [yt,yaf ywq]; simp [ynH,ydX,h]
 | true =>
 have ht:=yAL h
 have hw:=ytI h
 obtain ⟨r0,rl,hrl⟩:=yyE h
 simp -dsimp -implicitDefEqProofs [yt,yaf ywq]
 refine ⟨fun ht2=>?_,fun ht2=>?_⟩
 rotate_left
 ·rw [ynH (by simp [ydX,ht2])]; simp
 refine ⟨fun hq=>?_,fun hq=>?_⟩
 ·have : ¬ 0 ≤ q:=by omega
  rw [ynH (by simp [ydX,this])]; simp
 have hc : ydX x q = true:=by simp [ydX,h,ht2,hq]
 have w1:=hw.start; have w2:=hw.inn
 refine ⟨by unfold inI; omega,by unfold inI; omega,by unfold inI; omega,fun hp=>?_,fun hp=>?_⟩
 ·have hpi : yjL x q = true:=by simp [yjL]; omega
  have hrs : ycj x q = ybe r0 q :: rl:=by simp [ycj,hpi,hrl,sent]
  have e : yaJ x q = ⟨x.Time + 1,(ycj x q).map ya1,x.Ways,x.Works,x.Movers,x.Arrived,x.Entered,x.Tariff,x.Book,x.Passings,x.Start,x.In + q,x.Out⟩:=by simp [yaJ,hc,hpi]
  rw [e]
  have h00 : x.Reaches[0]? = some r0:=by rw [hrl]; rfl
  have hg0 : 0 < x.Reaches.length:=by rw [hrl]; simp
  have hset0 : (x.Reaches.map Reach.enc).set 0 (ybe r0 q).enc = (ycj x q).map Reach.enc:=by rw [hrs,hrl]; rfl
  have hr0 : r0.small:=s1.2 r0 (by rw [hrl]; simp)
  simp only [Reach.enc] at hset0
  have g00:=(List.getElem?_eq_some_iff.1 h00).2
  simp -dsimp -implicitDefEqProofs [h00,g00,hg0]
  refine yco (yy8 r0 q hr0) (by simp) (.inl rfl) ?_
  simp -dsimp -implicitDefEqProofs [h00,g00,hg0,hset0]
  refine ⟨by unfold inI; omega,?_⟩
  refine yh (ι:=Nat) (fun k=>k ≤ x.Reaches.length) (fun k=>yT [(2,.box 2 0),(4,.box 4 0),(5,.box 5 0),(6,.c (.i k))] [(2,.box [.c (.i x.Time),.c (.sl 3 (x.Reaches.map Reach.enc)),.c (.sl 2 (x.Ways.map Way.enc)),.c (.sl 22 (x.Works.map Work.enc)),.c (.sl 1 (x.Movers.map yV)),.c (.sl 2 (x.Arrived.map Train.enc)),.c (.sl 1 (x.Entered.map yJ)),.c (.i x.Tariff.Base),.c (.i x.Tariff.PerArea),.c (.sl 1 (x.Tariff.PerClass.map yJ)),.c (.sl 1 (x.Tariff.Weights.map yJ)),.c (.sl 5 (x.Book.map Entry.enc)),.c (.sl 4 (x.Passings.map Passing.enc)),.c (.i x.Start),.c (.i x.In),.c (.i x.Out)]),(4,.box [.c (.i 0),.nil 3,.nil 2,.nil 22,.nil 1,.nil 2,.nil 1,.c (.i 0),.c (.i 0),.nil 1,.nil 1,.nil 5,.nil 4,.c (.i 0),.c (.i 0),.c (.i 0)]),(5,.box [.c (.i (x.Time + 1)),.own 20008 3 x.Reaches.length,.own 30008 2 x.Ways.length,.own 40008 22 x.Works.length,.own 50008 1 x.Movers.length,.own 60008 2 x.Arrived.length,.own 70008 1 x.Entered.length,.c (.i x.Tariff.Base),.c (.i x.Tariff.PerArea),.own 100008 1 x.Tariff.PerClass.length,.own 110008 1 x.Tariff.Weights.length,.own 120008 5 x.Book.length,.own 130008 4 x.Passings.length,.c (.i x.Start),.c (.i (x.In + q)),.c (.i x.Out)]),(20008,.row 3 (rsC (ycj x q) k)),(30008,.row 2 (x.Ways.map Way.enc)),(40008,.row 22 (x.Works.map Work.enc)),(50008,.tr 1 0 (x.Movers.map em)),(60008,.row 2 (x.Arrived.map Train.enc)),(70008,.row 1 (x.Entered.map yJ)),(100008,.row 1 (x.Tariff.PerClass.map yJ)),(110008,.row 1 (x.Tariff.Weights.map yJ)),(120008,.row 5 (x.Book.map Entry.enc)),(130008,.row 4 (x.Passings.map Passing.enc))]) (fun k=>x.Reaches.length - k) 0 (by simp) (by apply yj <;> simp [AV.yc,AV.yB,Obj.yc,Obj.leO,ypp]) ?_
  rintro k hk
  have hrl2 : (rsC (ycj x q) k).length = x.Reaches.length:=by rw [ysj,yc0]
  rcases Nat.lt_or_ge k x.Reaches.length with klt | kge
  ·obtain ⟨r,hr⟩ : ∃ r,(ycj x q)[k]? = some r:=⟨_,List.getElem?_eq_getElem (by rw [yc0]; exact klt)⟩
   have hrs2:=(ymz (q:=q) s1).2 r (List.mem_of_getElem? hr)
   have hat:=yw7 hr
   have hset:=yso hr
   simp only [Reach.enc] at hat hset
   have hat2:=(List.getElem?_eq_some_iff.1 hat).2
   simp -dsimp -implicitDefEqProofs [hrl2,hat,hat2,klt,yI klt]
   intro hlen
   refine yco (yrq r hrs2) (by simp) (.inl rfl) ?_
   simp -dsimp -implicitDefEqProofs [hrl2,hat,hat2,klt,yI klt,hset]
   refine ⟨yA klt hlen,k + 1,klt,by omega,?_⟩
   apply yj <;> simp [AV.yc,AV.yB,Obj.yc,Obj.leO,hset]
  ·have hall:=ysh (rs:=(ycj x q)) (k:=k) (by rw [yc0]; exact kge)
   simp -dsimp -implicitDefEqProofs [yau kge,hall,yt,yaf ywq]
   intro _
   exact (List.take_of_length_le (by simp [yc0])).symm
 ·have hpi : yjL x q = false:=by simp [yjL]; omega
  have hrs : ycj x q = x.Reaches:=by simp [ycj,hpi]
  have e : yaJ x q = ⟨x.Time + 1,(ycj x q).map ya1,x.Ways,x.Works,x.Movers,x.Arrived,x.Entered,x.Tariff,x.Book,x.Passings,x.Start,x.In,x.Out⟩:=by simp [yaJ,hc,hpi]
  rw [e,hrs]
  refine yh (ι:=Nat) (fun k=>k ≤ x.Reaches.length) (fun k=>yT [(2,.box 2 0),(4,.box 4 0),(5,.box 5 0),(6,.c (.i k))] [(2,.box [.c (.i x.Time),.c (.sl 3 (x.Reaches.map Reach.enc)),.c (.sl 2 (x.Ways.map Way.enc)),.c (.sl 22 (x.Works.map Work.enc)),.c (.sl 1 (x.Movers.map yV)),.c (.sl 2 (x.Arrived.map Train.enc)),.c (.sl 1 (x.Entered.map yJ)),.c (.i x.Tariff.Base),.c (.i x.Tariff.PerArea),.c (.sl 1 (x.Tariff.PerClass.map yJ)),.c (.sl 1 (x.Tariff.Weights.map yJ)),.c (.sl 5 (x.Book.map Entry.enc)),.c (.sl 4 (x.Passings.map Passing.enc)),.c (.i x.Start),.c (.i x.In),.c (.i x.Out)]),(4,.box [.c (.i 0),.nil 3,.nil 2,.nil 22,.nil 1,.nil 2,.nil 1,.c (.i 0),.c (.i 0),.nil 1,.nil 1,.nil 5,.nil 4,.c (.i 0),.c (.i 0),.c (.i 0)]),(5,.box [.c (.i (x.Time + 1)),.own 20008 3 x.Reaches.length,.own 30008 2 x.Ways.length,.own 40008 22 x.Works.length,.own 50008 1 x.Movers.length,.own 60008 2 x.Arrived.length,.own 70008 1 x.Entered.length,.c (.i x.Tariff.Base),.c (.i x.Tariff.PerArea),.own 100008 1 x.Tariff.PerClass.length,.own 110008 1 x.Tariff.Weights.length,.own 120008 5 x.Book.length,.own 130008 4 x.Passings.length,.c (.i x.Start),.c (.i x.In),.c (.i x.Out)]),(20008,.row 3 (rsC x.Reaches k)),(30008,.row 2 (x.Ways.map Way.enc)),(40008,.row 22 (x.Works.map Work.enc)),(50008,.tr 1 0 (x.Movers.map em)),(60008,.row 2 (x.Arrived.map Train.enc)),(70008,.row 1 (x.Entered.map yJ)),(100008,.row 1 (x.Tariff.PerClass.map yJ)),(110008,.row 1 (x.Tariff.Weights.map yJ)),(120008,.row 5 (x.Book.map Entry.enc)),(130008,.row 4 (x.Passings.map Passing.enc))]) (fun k=>x.Reaches.length - k) 0 (by simp) (by apply yj <;> simp [AV.yc,AV.yB,Obj.yc,Obj.leO,ypp]) ?_
  rintro k hk
  have hrl2 : (rsC x.Reaches k).length = x.Reaches.length:=ysj
  rcases Nat.lt_or_ge k x.Reaches.length with klt | kge
  ·obtain ⟨r,hr⟩ : ∃ r,x.Reaches[k]? = some r:=⟨_,List.getElem?_eq_getElem klt⟩
   have hrs2:=s1.2 r (List.mem_of_getElem? hr)
   have hat:=yw7 hr
   have hset:=yso hr
   simp only [Reach.enc] at hat hset
   have hat2:=(List.getElem?_eq_some_iff.1 hat).2
   simp -dsimp -implicitDefEqProofs [hrl2,hat,hat2,klt,yI klt]
   intro hlen
   refine yco (yrq r hrs2) (by simp) (.inl rfl) ?_
   simp -dsimp -implicitDefEqProofs [hrl2,hat,hat2,klt,yI klt,hset]
   refine ⟨yA klt hlen,k + 1,klt,by omega,?_⟩
   apply yj <;> simp [AV.yc,AV.yB,Obj.yc,Obj.leO,hset]
  ·have hall:=ysh (rs:=x.Reaches) (k:=k) (by exact kge)
   simp -dsimp -implicitDefEqProofs [yau kge,hall,yt,yaf ywq]
set_option maxRecDepth 40000 in
theorem yph (x0 : Waterway) (x1 : Int) : yE Tryz.prog yeF [.agg (x0.enc.map .c),.c (.i x1)] (.c (.b true)):=by
 refine yu ykt (by simp) fun hwf=>?_
 simp -dsimp -implicitDefEqProofs [yev]
 refine yg (yuO x0 1048576 (by omega) (by omega)) (by simp) rfl ?_
 simp -dsimp -implicitDefEqProofs
 intro hsz0
 have hl0:=yC4 yt9 (by omega) (by omega) hsz0
 have ht:=yr3 x0 1048576 (by omega) (by omega) hsz0
 have hwm:=yCQ x0 1
 have hO:=ytO x0 x1 hl0
 have hS:=ytd x0 x1 hl0
 have hM:=yrP x0 x1 (by omega)
 refine yL (yla x0 hl0) (by simp) rfl ?_
 simp -dsimp -implicitDefEqProofs
 refine yL (hS) (by simp) rfl ?_
 generalize yaJ x0 x1 = r at *
 simp -dsimp -implicitDefEqProofs
 refine yS (ywr x0 hl0) (by simp) (ybT (Waterway.yad x0)) (by simp [yZ]) ?_
 simp -dsimp -implicitDefEqProofs
 have hP : yE Tryz.prog ycB [.agg (x0.enc.map .c),.c (.i x1)] (.agg (r.enc.map .c)):=hO.pure (by simp [AV.shr,AV.yzy,ybR,C.shr,yaf Reach.yab,yaf Work.yab,yaf ycl,yaf Train.yab,yaf Passing.yab])
 refine yS hO (by simp -dsimp -implicitDefEqProofs [yt,yaf Reach.yab,yaf Work.yab,yaf ycl,yaf Train.yab,yaf Passing.yab,yaf CallT.yab]) (ybT (Waterway.yad r)) (by simp [yZ]) ?_
 simp -dsimp -implicitDefEqProofs
 refine yg (yhu r r) (by simp -dsimp -implicitDefEqProofs [yt,yaf Reach.yab,yaf Work.yab,yaf ycl,yaf Train.yab,yaf Passing.yab,yaf CallT.yab]) rfl ?_
 simp -dsimp -implicitDefEqProofs
 refine ⟨_,_,yla x0 hl0,by simp,.inl rfl,?_⟩
 simp -dsimp -implicitDefEqProofs
 refine ⟨_,_,yhu x0 x0,by simp -dsimp -implicitDefEqProofs [yt,yaf Reach.yab,yaf Work.yab,yaf ycl,yaf Train.yab,yaf Passing.yab,yaf CallT.yab],.inr rfl,?_⟩
 simp -dsimp -implicitDefEqProofs
 refine ykj (ups:=[none,some (20023,.tr 3 1 (yay ycS yav 1 x0.Reaches)),some (30023,.row 2 (marked ydO 2 [] (wm1 x0 1) x0.Ways.length)),some (40023,.tr 22 1 (yay yd5 yaD (wm2 x0 1) x0.Works)),some (50023,.tr 1 1 (yay yb4 yam (wm3 x0 1) x0.Movers)),some (60023,.tr 2 1 (yay ybJ yD (wm4 x0 1) x0.Arrived)),some (70023,.row 1 (marked yJ 1 [] (wm5 x0 1) x0.Entered.length)),none,none,some (100023,.row 1 (marked yJ 1 [] (wm6 x0 1) x0.Tariff.PerClass.length)),some (110023,.row 1 (marked yJ 1 [] (wm6 x0 1 + x0.Tariff.PerClass.length) x0.Tariff.Weights.length)),some (120023,.row 5 (marked yn8 5 [] (wm7 x0 1) x0.Book.length)),some (130023,.tr 4 1 (yay ybE yae (wm8 x0 1) x0.Passings)),none,none,none]) (ymO x0 1 (by omega) (by omega)) (by simp -dsimp -implicitDefEqProofs) rfl rfl
  ⟨ybZ rfl,yhQ (rows:=x0.Reaches.map Reach.yM) (by simp -dsimp -implicitDefEqProofs) rfl rfl rfl (by simp) (by simp [yK]) rfl rfl,ybL (rows:=x0.Ways.map Way.enc) (by simp -dsimp -implicitDefEqProofs) rfl rfl (by simp) (by simp [yP]) rfl rfl,yhQ (rows:=x0.Works.map Work.yM) (by simp -dsimp -implicitDefEqProofs) rfl rfl rfl (by simp) (by simp [yK]) rfl rfl,yhQ (rows:=x0.Movers.map yat) (by simp -dsimp -implicitDefEqProofs) rfl rfl rfl (by simp) (by simp [yK]) rfl rfl,yhQ (rows:=x0.Arrived.map Train.yM) (by simp -dsimp -implicitDefEqProofs) rfl rfl rfl (by simp) (by simp [yK]) rfl rfl,ybL (rows:=x0.Entered.map yJ) (by simp -dsimp -implicitDefEqProofs) rfl rfl (by simp) (by simp [yP]) rfl rfl,ybZ rfl,ybZ rfl,ybL (rows:=x0.Tariff.PerClass.map yJ) (by simp -dsimp -implicitDefEqProofs) rfl rfl (by simp) (by simp [yP]) rfl rfl,ybL (rows:=x0.Tariff.Weights.map yJ) (by simp -dsimp -implicitDefEqProofs) rfl rfl (by simp) (by simp [yP]) rfl rfl,ybL (rows:=x0.Book.map Entry.enc) (by simp -dsimp -implicitDefEqProofs) rfl rfl (by simp) (by simp [yP]) rfl rfl,yhQ (rows:=x0.Passings.map Passing.yM) (by simp -dsimp -implicitDefEqProofs) rfl rfl rfl (by simp) (by simp [yK]) rfl rfl,ybZ rfl,ybZ rfl,ybZ rfl,trivial⟩ (by simp [ydi]) ?_
 have w9 : 0 ≤ wm9 x0 1:=by have:=wkB x0 (k:=1) (by omega); obtain ⟨b0,b1,b2,b3,b4,b5,b6,b7,b8,b9⟩:=this; omega
 have n1 : (wm9 x0 1 < 0) = False:=by simp; omega
 simp -dsimp -implicitDefEqProofs [n1]
 refine yg (yhu r r) (by simp -dsimp -implicitDefEqProofs [yt,yaf Reach.yab,yaf Work.yab,yaf ycl,yaf Train.yab,yaf Passing.yab,yaf CallT.yab]) rfl ?_
 simp -dsimp -implicitDefEqProofs
 refine ykj (ups:=[none,some (20026,.tr 3 1 (yay ycS yav 1 r.Reaches)),some (30026,.row 2 (marked ydO 2 [] (wm1 r 1) r.Ways.length)),some (40026,.tr 22 1 (yay yd5 yaD (wm2 r 1) r.Works)),some (50026,.tr 1 1 (yay yb4 yam (wm3 r 1) r.Movers)),some (60026,.tr 2 1 (yay ybJ yD (wm4 r 1) r.Arrived)),some (70026,.row 1 (marked yJ 1 [] (wm5 r 1) r.Entered.length)),none,none,some (100026,.row 1 (marked yJ 1 [] (wm6 r 1) r.Tariff.PerClass.length)),some (110026,.row 1 (marked yJ 1 [] (wm6 r 1 + r.Tariff.PerClass.length) r.Tariff.Weights.length)),some (120026,.row 5 (marked yn8 5 [] (wm7 r 1) r.Book.length)),some (130026,.tr 4 1 (yay ybE yae (wm8 r 1) r.Passings)),none,none,none]) (ymO r 1 (by omega) (by omega)) (by simp -dsimp -implicitDefEqProofs) rfl rfl
  ⟨ybZ rfl,yhQ (rows:=r.Reaches.map Reach.yM) (by simp -dsimp -implicitDefEqProofs) rfl rfl rfl (by simp) (by simp [yK]) rfl rfl,ybL (rows:=r.Ways.map Way.enc) (by simp -dsimp -implicitDefEqProofs) rfl rfl (by simp) (by simp [yP]) rfl rfl,yhQ (rows:=r.Works.map Work.yM) (by simp -dsimp -implicitDefEqProofs) rfl rfl rfl (by simp) (by simp [yK]) rfl rfl,yhQ (rows:=r.Movers.map yat) (by simp -dsimp -implicitDefEqProofs) rfl rfl rfl (by simp) (by simp [yK]) rfl rfl,yhQ (rows:=r.Arrived.map Train.yM) (by simp -dsimp -implicitDefEqProofs) rfl rfl rfl (by simp) (by simp [yK]) rfl rfl,ybL (rows:=r.Entered.map yJ) (by simp -dsimp -implicitDefEqProofs) rfl rfl (by simp) (by simp [yP]) rfl rfl,ybZ rfl,ybZ rfl,ybL (rows:=r.Tariff.PerClass.map yJ) (by simp -dsimp -implicitDefEqProofs) rfl rfl (by simp) (by simp [yP]) rfl rfl,ybL (rows:=r.Tariff.Weights.map yJ) (by simp -dsimp -implicitDefEqProofs) rfl rfl (by simp) (by simp [yP]) rfl rfl,ybL (rows:=r.Book.map Entry.enc) (by simp -dsimp -implicitDefEqProofs) rfl rfl (by simp) (by simp [yP]) rfl rfl,yhQ (rows:=r.Passings.map Passing.yM) (by simp -dsimp -implicitDefEqProofs) rfl rfl rfl (by simp) (by simp [yK]) rfl rfl,ybZ rfl,ybZ rfl,ybZ rfl,trivial⟩ (by simp [ydi]) ?_
 have v9 : 0 ≤ wm9 r 1:=by have:=wkB r (k:=1) (by omega); obtain ⟨b0,b1,b2,b3,b4,b5,b6,b7,b8,b9⟩:=this; omega
 have n2 : (wm9 r 1 < 0) = False:=by simp; omega
 simp -dsimp -implicitDefEqProofs
 have hH:=ysY r 1 (by omega) (by omega)
 unfold yDV at hH
 refine yg (hH) (by simp -dsimp -implicitDefEqProofs [yeB,yvU,ya7 ypD,ya7 yrv,ya7 yo0,ya7 yls,ya7 ym0,ya7 ymW]) rfl ?_
 simp -dsimp -implicitDefEqProofs [n2]
 refine yL (yla x0 hl0) (by simp) rfl ?_
 simp -dsimp -implicitDefEqProofs
 refine yL (hP) (by simp) rfl ?_
 simp -dsimp -implicitDefEqProofs
 refine yg (yhu r r) (by simp -dsimp -implicitDefEqProofs [yt,yaf Reach.yab,yaf Work.yab,yaf ycl,yaf Train.yab,yaf Passing.yab,yaf CallT.yab]) rfl ?_
 simp -dsimp -implicitDefEqProofs
 refine yg (hH) (by simp -dsimp -implicitDefEqProofs [yeB,yvU,ya7 ypD,ya7 yrv,ya7 yo0,ya7 yls,ya7 ym0,ya7 ymW]) rfl ?_
 simp -dsimp -implicitDefEqProofs [n2]
theorem yCg {xs : List C} (h : Fits [.i,.i,.i,.i,.i] xs) : ∃ e : Entry,xs = e.enc:=by
 obtain ⟨c0,ys,rfl,h0,h⟩:=h.cons_inv
 obtain ⟨c1,ys,rfl,h1,h⟩:=h.cons_inv
 obtain ⟨c2,ys,rfl,h2,h⟩:=h.cons_inv
 obtain ⟨c3,ys,rfl,h3,h⟩:=h.cons_inv
 obtain ⟨c4,ys,rfl,h4,h⟩:=h.cons_inv
 obtain rfl:=h.ycw
 obtain ⟨n0,rfl⟩:=h0.yaK
 obtain ⟨n1,rfl⟩:=h1.yaK
 obtain ⟨n2,rfl⟩:=h2.yaK
 obtain ⟨n3,rfl⟩:=h3.yaK
 obtain ⟨n4,rfl⟩:=h4.yaK
 exact ⟨⟨n0,n1,n2,n3,n4⟩,rfl⟩
theorem yqc {xs : List C} (h : Fits [.i] xs) : ∃ n : Int,xs = yJ n:=by
 obtain ⟨c0,ys,rfl,h0,h⟩:=h.cons_inv
 obtain rfl:=h.ycw
 obtain ⟨n0,rfl⟩:=h0.yaK
 exact ⟨n0,rfl⟩
theorem yEL {xs : List C} (h : Fits [.i,.i] xs) : ∃ e : Way,xs = e.enc:=by
 obtain ⟨c0,ys,rfl,h0,h⟩:=h.cons_inv
 obtain ⟨c1,ys,rfl,h1,h⟩:=h.cons_inv
 obtain rfl:=h.ycw
 obtain ⟨n0,rfl⟩:=h0.yaK
 obtain ⟨n1,rfl⟩:=h1.yaK
 exact ⟨⟨n0,n1⟩,rfl⟩
theorem yDf {xs : List C} (h : Fits [.i,.i,.i,.i,.i,.i] xs) : ∃ e : Boat,xs = e.enc:=by
 obtain ⟨c0,ys,rfl,h0,h⟩:=h.cons_inv
 obtain ⟨c1,ys,rfl,h1,h⟩:=h.cons_inv
 obtain ⟨c2,ys,rfl,h2,h⟩:=h.cons_inv
 obtain ⟨c3,ys,rfl,h3,h⟩:=h.cons_inv
 obtain ⟨c4,ys,rfl,h4,h⟩:=h.cons_inv
 obtain ⟨c5,ys,rfl,h5,h⟩:=h.cons_inv
 obtain rfl:=h.ycw
 obtain ⟨n0,rfl⟩:=h0.yaK
 obtain ⟨n1,rfl⟩:=h1.yaK
 obtain ⟨n2,rfl⟩:=h2.yaK
 obtain ⟨n3,rfl⟩:=h3.yaK
 obtain ⟨n4,rfl⟩:=h4.yaK
 obtain ⟨n5,rfl⟩:=h5.yaK
 exact ⟨⟨n0,n1,n2,n3,n4,n5⟩,rfl⟩
theorem ynN {xs : List C} (h : Fits [.sl [.i,.i,.i,.i,.i,.i]] xs) : ∃ e : List Boat,xs = yah e:=by
 obtain ⟨c0,ys,rfl,h0,h⟩:=h.cons_inv
 obtain rfl:=h.ycw
 obtain ⟨n0,rfl⟩:=h0.ycn Boat.enc fun _ h=>yDf h
 exact ⟨n0,rfl⟩
theorem ywa {xs : List C} (h : Fits [.b,.sl [.sl [.i,.i,.i,.i,.i,.i]]] xs) : ∃ e : Train,xs = e.enc:=by
 obtain ⟨c0,ys,rfl,h0,h⟩:=h.cons_inv
 obtain ⟨c1,ys,rfl,h1,h⟩:=h.cons_inv
 obtain rfl:=h.ycw
 obtain ⟨n0,rfl⟩:=h0.yx0
 obtain ⟨n1,rfl⟩:=h1.ycn yah fun _ h=>ynN h
 exact ⟨⟨n0,n1⟩,rfl⟩
theorem yBE {xs : List C} (h : Fits [.b,.sl [.sl [.i,.i,.i,.i,.i,.i]],.i] xs) : ∃ e : Mover,xs = e.enc:=by
 obtain ⟨c0,ys,rfl,h0,h⟩:=h.cons_inv
 obtain ⟨c1,ys,rfl,h1,h⟩:=h.cons_inv
 obtain ⟨c2,ys,rfl,h2,h⟩:=h.cons_inv
 obtain rfl:=h.ycw
 obtain ⟨n0,rfl⟩:=h0.yx0
 obtain ⟨n1,rfl⟩:=h1.ycn yah fun _ h=>ynN h
 obtain ⟨n2,rfl⟩:=h2.yaK
 exact ⟨⟨⟨n0,n1⟩,n2⟩,rfl⟩
theorem yCr {xs : List C} (h : Fits [.i,.i] xs) : ∃ e : Point,xs = e.enc:=by
 obtain ⟨c0,ys,rfl,h0,h⟩:=h.cons_inv
 obtain ⟨c1,ys,rfl,h1,h⟩:=h.cons_inv
 obtain rfl:=h.ycw
 obtain ⟨n0,rfl⟩:=h0.yaK
 obtain ⟨n1,rfl⟩:=h1.yaK
 exact ⟨⟨n0,n1⟩,rfl⟩
theorem yBt {xs : List C} (h : Fits [.sl [.i,.i],.i,.sl [.i]] xs) : ∃ e : Reach,xs = e.enc:=by
 obtain ⟨c0,ys,rfl,h0,h⟩:=h.cons_inv
 obtain ⟨c1,ys,rfl,h1,h⟩:=h.cons_inv
 obtain ⟨c2,ys,rfl,h2,h⟩:=h.cons_inv
 obtain rfl:=h.ycw
 obtain ⟨n0,rfl⟩:=h0.ycn Point.enc fun _ h=>yCr h
 obtain ⟨n1,rfl⟩:=h1.yaK
 obtain ⟨n2,rfl⟩:=h2.ycn yJ fun _ h=>yqc h
 exact ⟨⟨n0,n1,n2⟩,rfl⟩
theorem yCa {xs : List C} (h : Fits [.i,.i] xs) : ∃ e : Pause,xs = e.enc:=by
 obtain ⟨c0,ys,rfl,h0,h⟩:=h.cons_inv
 obtain ⟨c1,ys,rfl,h1,h⟩:=h.cons_inv
 obtain rfl:=h.ycw
 obtain ⟨n0,rfl⟩:=h0.yaK
 obtain ⟨n1,rfl⟩:=h1.yaK
 exact ⟨⟨n0,n1⟩,rfl⟩
theorem yCY {xs : List C} (h : Fits [.b,.sl [.sl [.i,.i,.i,.i,.i,.i]],.i,.i] xs) : ∃ e : CallT,xs = e.enc:=by
 obtain ⟨c0,ys,rfl,h0,h⟩:=h.cons_inv
 obtain ⟨c1,ys,rfl,h1,h⟩:=h.cons_inv
 obtain ⟨c2,ys,rfl,h2,h⟩:=h.cons_inv
 obtain ⟨c3,ys,rfl,h3,h⟩:=h.cons_inv
 obtain rfl:=h.ycw
 obtain ⟨n0,rfl⟩:=h0.yx0
 obtain ⟨n1,rfl⟩:=h1.ycn yah fun _ h=>ynN h
 obtain ⟨n2,rfl⟩:=h2.yaK
 obtain ⟨n3,rfl⟩:=h3.yaK
 exact ⟨⟨⟨n0,n1⟩,n2,n3⟩,rfl⟩
theorem yDO {xs : List C} (h : Fits [.i,.i,.i,.i,.i,.i,.i,.i,.i,.sl [.b,.sl [.sl [.i,.i,.i,.i,.i,.i]]],.i,.i,.i,.i,.i,.i,.i,.i,.sl [.i,.i],.b,.i,.sl [.b,.sl [.sl [.i,.i,.i,.i,.i,.i]],.i,.i]] xs) : ∃ e : Work,xs = e.enc:=by
 obtain ⟨c0,ys,rfl,h0,h⟩:=h.cons_inv
 obtain ⟨c1,ys,rfl,h1,h⟩:=h.cons_inv
 obtain ⟨c2,ys,rfl,h2,h⟩:=h.cons_inv
 obtain ⟨c3,ys,rfl,h3,h⟩:=h.cons_inv
 obtain ⟨c4,ys,rfl,h4,h⟩:=h.cons_inv
 obtain ⟨c5,ys,rfl,h5,h⟩:=h.cons_inv
 obtain ⟨c6,ys,rfl,h6,h⟩:=h.cons_inv
 obtain ⟨c7,ys,rfl,h7,h⟩:=h.cons_inv
 obtain ⟨c8,ys,rfl,h8,h⟩:=h.cons_inv
 obtain ⟨c9,ys,rfl,h9,h⟩:=h.cons_inv
 obtain ⟨c10,ys,rfl,h10,h⟩:=h.cons_inv
 obtain ⟨c11,ys,rfl,h11,h⟩:=h.cons_inv
 obtain ⟨c12,ys,rfl,h12,h⟩:=h.cons_inv
 obtain ⟨c13,ys,rfl,h13,h⟩:=h.cons_inv
 obtain ⟨c14,ys,rfl,h14,h⟩:=h.cons_inv
 obtain ⟨c15,ys,rfl,h15,h⟩:=h.cons_inv
 obtain ⟨c16,ys,rfl,h16,h⟩:=h.cons_inv
 obtain ⟨c17,ys,rfl,h17,h⟩:=h.cons_inv
 obtain ⟨c18,ys,rfl,h18,h⟩:=h.cons_inv
 obtain ⟨c19,ys,rfl,h19,h⟩:=h.cons_inv
 obtain ⟨c20,ys,rfl,h20,h⟩:=h.cons_inv
 obtain ⟨c21,ys,rfl,h21,h⟩:=h.cons_inv
 obtain rfl:=h.ycw
 obtain ⟨n0,rfl⟩:=h0.yaK
 obtain ⟨n1,rfl⟩:=h1.yaK
 obtain ⟨n2,rfl⟩:=h2.yaK
 obtain ⟨n3,rfl⟩:=h3.yaK
 obtain ⟨n4,rfl⟩:=h4.yaK
 obtain ⟨n5,rfl⟩:=h5.yaK
 obtain ⟨n6,rfl⟩:=h6.yaK
 obtain ⟨n7,rfl⟩:=h7.yaK
 obtain ⟨n8,rfl⟩:=h8.yaK
 obtain ⟨n9,rfl⟩:=h9.ycn Train.enc fun _ h=>ywa h
 obtain ⟨n10,rfl⟩:=h10.yaK
 obtain ⟨n11,rfl⟩:=h11.yaK
 obtain ⟨n12,rfl⟩:=h12.yaK
 obtain ⟨n13,rfl⟩:=h13.yaK
 obtain ⟨n14,rfl⟩:=h14.yaK
 obtain ⟨n15,rfl⟩:=h15.yaK
 obtain ⟨n16,rfl⟩:=h16.yaK
 obtain ⟨n17,rfl⟩:=h17.yaK
 obtain ⟨n18,rfl⟩:=h18.ycn Pause.enc fun _ h=>yCa h
 obtain ⟨n19,rfl⟩:=h19.yx0
 obtain ⟨n20,rfl⟩:=h20.yaK
 obtain ⟨n21,rfl⟩:=h21.ycn CallT.enc fun _ h=>yCY h
 exact ⟨⟨⟨n0,n1,n2,n3,n4,n5,n6,n7,n8,n9⟩,⟨n10,n11,n12,n13,n14⟩,⟨n15,n16,n17⟩,n18,⟨n19,n20⟩,n21⟩,rfl⟩
theorem yz9 {xs : List C} (h : Fits [.sl [.b,.sl [.sl [.i,.i,.i,.i,.i,.i]],.i]] xs) : ∃ e : List Mover,xs = yV e:=by
 obtain ⟨c0,ys,rfl,h0,h⟩:=h.cons_inv
 obtain rfl:=h.ycw
 obtain ⟨n0,rfl⟩:=h0.ycn Mover.enc fun _ h=>yBE h
 exact ⟨n0,rfl⟩
theorem yyh {xs : List C} (h : Fits [.i,.i,.b,.sl [.sl [.i,.i,.i,.i,.i,.i]]] xs) : ∃ e : Passing,xs = e.enc:=by
 obtain ⟨c0,ys,rfl,h0,h⟩:=h.cons_inv
 obtain ⟨c1,ys,rfl,h1,h⟩:=h.cons_inv
 obtain ⟨c2,ys,rfl,h2,h⟩:=h.cons_inv
 obtain ⟨c3,ys,rfl,h3,h⟩:=h.cons_inv
 obtain rfl:=h.ycw
 obtain ⟨n0,rfl⟩:=h0.yaK
 obtain ⟨n1,rfl⟩:=h1.yaK
 obtain ⟨n2,rfl⟩:=h2.yx0
 obtain ⟨n3,rfl⟩:=h3.ycn yah fun _ h=>ynN h
 exact ⟨⟨n0,n1,⟨n2,n3⟩⟩,rfl⟩
theorem ywO {xs : List C} (h : Fits [.i,.sl [.sl [.i,.i],.i,.sl [.i]],.sl [.i,.i],.sl [.i,.i,.i,.i,.i,.i,.i,.i,.i,.sl [.b,.sl [.sl [.i,.i,.i,.i,.i,.i]]],.i,.i,.i,.i,.i,.i,.i,.i,.sl [.i,.i],.b,.i,.sl [.b,.sl [.sl [.i,.i,.i,.i,.i,.i]],.i,.i]],.sl [.sl [.b,.sl [.sl [.i,.i,.i,.i,.i,.i]],.i]],.sl [.b,.sl [.sl [.i,.i,.i,.i,.i,.i]]],.sl [.i],.i,.i,.sl [.i],.sl [.i],.sl [.i,.i,.i,.i,.i],.sl [.i,.i,.b,.sl [.sl [.i,.i,.i,.i,.i,.i]]],.i,.i,.i] xs) : ∃ e : Waterway,xs = e.enc:=by
 obtain ⟨c0,ys,rfl,h0,h⟩:=h.cons_inv
 obtain ⟨c1,ys,rfl,h1,h⟩:=h.cons_inv
 obtain ⟨c2,ys,rfl,h2,h⟩:=h.cons_inv
 obtain ⟨c3,ys,rfl,h3,h⟩:=h.cons_inv
 obtain ⟨c4,ys,rfl,h4,h⟩:=h.cons_inv
 obtain ⟨c5,ys,rfl,h5,h⟩:=h.cons_inv
 obtain ⟨c6,ys,rfl,h6,h⟩:=h.cons_inv
 obtain ⟨c7,ys,rfl,h7,h⟩:=h.cons_inv
 obtain ⟨c8,ys,rfl,h8,h⟩:=h.cons_inv
 obtain ⟨c9,ys,rfl,h9,h⟩:=h.cons_inv
 obtain ⟨c10,ys,rfl,h10,h⟩:=h.cons_inv
 obtain ⟨c11,ys,rfl,h11,h⟩:=h.cons_inv
 obtain ⟨c12,ys,rfl,h12,h⟩:=h.cons_inv
 obtain ⟨c13,ys,rfl,h13,h⟩:=h.cons_inv
 obtain ⟨c14,ys,rfl,h14,h⟩:=h.cons_inv
 obtain ⟨c15,ys,rfl,h15,h⟩:=h.cons_inv
 obtain rfl:=h.ycw
 obtain ⟨n0,rfl⟩:=h0.yaK
 obtain ⟨n1,rfl⟩:=h1.ycn Reach.enc fun _ h=>yBt h
 obtain ⟨n2,rfl⟩:=h2.ycn Way.enc fun _ h=>yEL h
 obtain ⟨n3,rfl⟩:=h3.ycn Work.enc fun _ h=>yDO h
 obtain ⟨n4,rfl⟩:=h4.ycn yV fun _ h=>yz9 h
 obtain ⟨n5,rfl⟩:=h5.ycn Train.enc fun _ h=>ywa h
 obtain ⟨n6,rfl⟩:=h6.ycn yJ fun _ h=>yqc h
 obtain ⟨n7,rfl⟩:=h7.yaK
 obtain ⟨n8,rfl⟩:=h8.yaK
 obtain ⟨n9,rfl⟩:=h9.ycn yJ fun _ h=>yqc h
 obtain ⟨n10,rfl⟩:=h10.ycn yJ fun _ h=>yqc h
 obtain ⟨n11,rfl⟩:=h11.ycn Entry.enc fun _ h=>yCg h
 obtain ⟨n12,rfl⟩:=h12.ycn Passing.enc fun _ h=>yyh h
 obtain ⟨n13,rfl⟩:=h13.yaK
 obtain ⟨n14,rfl⟩:=h14.yaK
 obtain ⟨n15,rfl⟩:=h15.yaK
 exact ⟨⟨n0,n1,n2,n3,n4,n5,n6,⟨n7,n8,n9,n10⟩,n11,n12,n13,n14,n15⟩,rfl⟩
theorem yk0 : IsLaw Rows.fnExactPourWaterSpec Tryz.f7.params.size:=by
 refine ⟨rfl,fun H ds h=>?_⟩
 match ds,h with
 | [d0,d1],_=>rfl
theorem yiK : LawFacts Tryz.prog Tryz.f7 (Tryz.f7.resultTypes.getD 0 0) [(true,[.i,.sl [.sl [.i,.i],.i,.sl [.i]],.sl [.i,.i],.sl [.i,.i,.i,.i,.i,.i,.i,.i,.i,.sl [.b,.sl [.sl [.i,.i,.i,.i,.i,.i]]],.i,.i,.i,.i,.i,.i,.i,.i,.sl [.i,.i],.b,.i,.sl [.b,.sl [.sl [.i,.i,.i,.i,.i,.i]],.i,.i]],.sl [.sl [.b,.sl [.sl [.i,.i,.i,.i,.i,.i]],.i]],.sl [.b,.sl [.sl [.i,.i,.i,.i,.i,.i]]],.sl [.i],.i,.i,.sl [.i],.sl [.i],.sl [.i,.i,.i,.i,.i],.sl [.i,.i,.b,.sl [.sl [.i,.i,.i,.i,.i,.i]]],.i,.i,.i]),(false,[.i])] :=
 ⟨yv7,by kernel_rfl,by kernel_rfl,by kernel_rfl,by kernel_rfl⟩
set_option maxRecDepth 100000 in
theorem ykF (os : Os) (started : os.Started) (H : Type) (enc : TypeId × Value → H) :
 ReturnsInHanded {} Tryz.checked os 7 .any (Rows.fnExactPourWaterSpec.pre6 enc Tryz.prog Tryz.f7 Rows.fnExactPourWaterRow.domain false) (Rows.fnExactPourWaterSpec.post enc Tryz.prog Tryz.f7 false true false false):=by
 refine law_lifted (C:=Tryz.checked) yxQ started (by kernel_rfl) Tryz.func7
  (ChangeSpec.witness6 (enc:=enc) (C:=Tryz.checked) false ⟨#[],#[.agg #[.int .i64 0,.slice none 0 0,.slice none 0 0,.slice none 0 0,.slice none 0 0,.slice none 0 0,.slice none 0 0,.int .i64 0,.int .i64 0,.slice none 0 0,.slice none 0 0,.slice none 0 0,.slice none 0 0,.int .i64 0,.int .i64 0,.int .i64 0],.int .i64 0],[]⟩ 8 (by kernel_rfl) (by kernel_rfl) (by kernel_rfl) (by kernel_rfl)) yk0 yiK ?_
 rintro avs ⟨a,avs0,rfl,ha,b,avs1,rfl,hb,rfl⟩
 cases ha with
 | st h0 =>
  cases hb with
  | one h1 =>
   obtain ⟨x0,rfl⟩:=ywO h0
   obtain ⟨x1,rfl⟩:=h1.yaK
   exact yph x0 x1
theorem ylu : ytK Tryz.prog 7 Tryz.f7 Rows.fnExactPourWaterSpec Rows.fnExactPourWaterRow = true:=by kernel_rfl
theorem yk7 : Tryz.pinned.checked.prog.funcNamed Rows.fnExactPourWaterRow.func = some 7:=by kernel_rfl
theorem ymo : Tryz.f7.isInstance Tryz.pinned.checked.prog Rows.fnExactPourWaterRow.origin Rows.fnExactPourWaterRow.targs:=(of_decide_eq_true (by kernel_rfl))
theorem ymn : Tryz.f7.isWrapper Tryz.pinned.checked.prog Rows.fnExactPourWaterRow.wrapper Rows.fnExactPourWaterRow.mainSum:=by
 unfold Func.isWrapper; first | (rw [if_pos (by decide +kernel)]; kernel_rfl) | (rw [if_neg (by decide +kernel)]; exact ⟨rfl,rfl⟩)
theorem FnExactPourWater_holds : Rows.FnExactPourWaterSaid :=
 OpenClaim.holds_of_wide (p:=Tryz.pinned) (s:=Rows.fnExactPourWaterSpec) (c:=Rows.fnExactPourWaterRow) 7 Tryz.f7 rfl rfl rfl rfl rfl rfl rfl ⟨rfl,rfl,rfl,rfl,rfl⟩ rfl rfl rfl rfl rfl yk7 Tryz.func7
  (yBR yBL ylu ⟨rfl,rfl,rfl,rfl,rfl,rfl,rfl,rfl⟩) ymo ymn (fun os started H enc _=>ykF os started H enc)
end Go.Proofs.YtmimbhooaidelaaGreat
