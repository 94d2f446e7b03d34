/- What the law FnExactSteerWeirs stands on: contracts of functions, what each answers as plain Lean, in short form (names, layout). -/
import Derived.Test.YtefegahoniahkaaGreatSExactSteerWeirs4
set_option linter.all false
namespace Go.Proofs.YtefegahoniahkaaGreat
open Go.RowKit
open Go.ChangeShapes Go.WideShapes
set_option maxRecDepth 20000 in
theorem yxC (x : Waterway) (hl : x.small) : ybh Tryz.prog 43 [.agg (x.enc.map .c)] (.agg (x.yAY.map .c)):=by
 obtain ⟨s1,s2,s3,s4,s5,s6,s7,s8,s9⟩:=hl
 have t1:=s1.1; have t2:=s2.1; have t3:=s3.1; have t4:=s4.1; have t5:=s5.1; have t6:=s6.1; have t8:=s8.1; have t9:=s9.1
 have t71:=s7.1; have t72:=s7.2
 refine yan ynX ?_
 simp -dsimp -implicitDefEqProofs
 refine yg (ι:=Nat) (fun k=>k ≤ x.Reaches.length) (fun k=>yO [(1,.box 1 0),(2,.box 2 0),(3,.box 3 0),(4,.c (.i k))] [(1,.box [.c (.i x.Time),.c (.sl 3 (x.Reaches.map Reach.enc)),.c (.sl 2 (x.Ways.map Way.enc)),.c (.sl 22 (x.Works.map Work.enc)),.c (.sl 1 (x.Movers.map yZ)),.c (.sl 2 (x.Arrived.map Train.enc)),.c (.sl 1 (x.Entered.map yJ)),.c (.i x.Tariff.Base),.c (.i x.Tariff.PerArea),.c (.sl 1 (x.Tariff.PerClass.map yJ)),.c (.sl 1 (x.Tariff.Weights.map yJ)),.c (.sl 5 (x.Book.map Entry.enc)),.c (.sl 4 (x.Passings.map Passing.enc)),.c (.i x.Start),.c (.i x.In),.c (.i x.Out)]),(2,.box [.c (.i 0),.nil 3,.nil 2,.nil 22,.nil 1,.nil 2,.nil 1,.c (.i 0),.c (.i 0),.nil 1,.nil 1,.nil 5,.nil 4,.c (.i 0),.c (.i 0),.c (.i 0)]),(3,.box [.c (.i x.Time),.own 13 3 k,.c (.sl 2 (x.Ways.map Way.enc)),.c (.sl 22 (x.Works.map Work.enc)),.c (.sl 1 (x.Movers.map yZ)),.c (.sl 2 (x.Arrived.map Train.enc)),.c (.sl 1 (x.Entered.map yJ)),.c (.i x.Tariff.Base),.c (.i x.Tariff.PerArea),.c (.sl 1 (x.Tariff.PerClass.map yJ)),.c (.sl 1 (x.Tariff.Weights.map yJ)),.c (.sl 5 (x.Book.map Entry.enc)),.c (.sl 4 (x.Passings.map Passing.enc)),.c (.i x.Start),.c (.i x.In),.c (.i x.Out)]),(13,.row 3 ((x.Reaches.take k).map Reach.enc))]) (fun k=>x.Reaches.length - k) 0 (by simp) (by apply yj <;> simp [Obj.leO]) ?_
 rintro k hk
 rcases Nat.lt_or_ge k x.Reaches.length with klt | kge
 ·obtain ⟨e1,he⟩ : ∃ e1,x.Reaches[k]? = some e1:=⟨_,List.getElem?_eq_getElem klt⟩
  have he2:=s1.2 e1 (List.mem_of_getElem? he)
  have g1:=(List.getElem?_eq_some_iff.1 he).2
  have hs2 : (x.Reaches.map Reach.enc).take (k + 1) = (x.Reaches.map Reach.enc).take k ++ [Reach.enc e1]:=by rw [List.take_succ,List.getElem?_map,he]; rfl
  simp -dsimp -implicitDefEqProofs [he,g1,klt,yG klt]
  intro hlen
  refine yY (ybo e1 he2) ?_
  simp -dsimp -implicitDefEqProofs [he,g1,klt,yG klt,yt,Nat.min_eq_left hk,yeh]
  refine ⟨by omega,yw klt hlen,k + 1,klt,by omega,?_⟩
  apply yj <;> simp [Obj.leO,hs2]
 have ek : k = x.Reaches.length:=by omega
 subst ek
 simp -dsimp -implicitDefEqProofs [yt]
 intro _
 refine ⟨by omega,?_⟩
 refine yg (ι:=Nat) (fun k=>k ≤ x.Works.length) (fun k=>yO [(1,.box 1 0),(2,.box 2 0),(3,.box 3 0),(5,.c (.i k))] [(1,.box [.c (.i x.Time),.c (.sl 3 (x.Reaches.map Reach.enc)),.c (.sl 2 (x.Ways.map Way.enc)),.c (.sl 22 (x.Works.map Work.enc)),.c (.sl 1 (x.Movers.map yZ)),.c (.sl 2 (x.Arrived.map Train.enc)),.c (.sl 1 (x.Entered.map yJ)),.c (.i x.Tariff.Base),.c (.i x.Tariff.PerArea),.c (.sl 1 (x.Tariff.PerClass.map yJ)),.c (.sl 1 (x.Tariff.Weights.map yJ)),.c (.sl 5 (x.Book.map Entry.enc)),.c (.sl 4 (x.Passings.map Passing.enc)),.c (.i x.Start),.c (.i x.In),.c (.i x.Out)]),(2,.box [.c (.i 0),.nil 3,.nil 2,.nil 22,.nil 1,.nil 2,.nil 1,.c (.i 0),.c (.i 0),.nil 1,.nil 1,.nil 5,.nil 4,.c (.i 0),.c (.i 0),.c (.i 0)]),(3,.box [.c (.i x.Time),.own 13 3 x.Reaches.length,.own 33 2 x.Ways.length,.own 38 22 k,.c (.sl 1 (x.Movers.map yZ)),.c (.sl 2 (x.Arrived.map Train.enc)),.c (.sl 1 (x.Entered.map yJ)),.c (.i x.Tariff.Base),.c (.i x.Tariff.PerArea),.c (.sl 1 (x.Tariff.PerClass.map yJ)),.c (.sl 1 (x.Tariff.Weights.map yJ)),.c (.sl 5 (x.Book.map Entry.enc)),.c (.sl 4 (x.Passings.map Passing.enc)),.c (.i x.Start),.c (.i x.In),.c (.i x.Out)]),(13,.row 3 (x.Reaches.map Reach.enc)),(33,.row 2 (x.Ways.map Way.enc)),(38,.row 22 ((x.Works.take k).map Work.enc))]) (fun k=>x.Works.length - k) 0 (by simp) (by apply yj <;> simp [Obj.leO]) ?_
 rintro k hk
 rcases Nat.lt_or_ge k x.Works.length with klt | kge
 ·obtain ⟨e1,he⟩ : ∃ e1,x.Works[k]? = some e1:=⟨_,List.getElem?_eq_getElem klt⟩
  have he2:=s3.2 e1 (List.mem_of_getElem? he)
  have g1:=(List.getElem?_eq_some_iff.1 he).2
  have hs2 : (x.Works.map Work.enc).take (k + 1) = (x.Works.map Work.enc).take k ++ [Work.enc e1]:=by rw [List.take_succ,List.getElem?_map,he]; rfl
  simp -dsimp -implicitDefEqProofs [he,g1,klt,yG klt]
  intro hlen
  refine yY (yq8 e1 he2) ?_
  simp -dsimp -implicitDefEqProofs [he,g1,klt,yG klt,yt,Nat.min_eq_left hk,yeh]
  refine ⟨by omega,yw klt hlen,k + 1,klt,by omega,?_⟩
  apply yj <;> simp [Obj.leO,hs2]
 have ek : k = x.Works.length:=by omega
 subst ek
 simp -dsimp -implicitDefEqProofs [yt]
 intro _
 refine yg (ι:=Nat) (fun k=>k ≤ x.Movers.length) (fun k=>yO [(1,.box 1 0),(2,.box 2 0),(3,.box 3 0),(6,.c (.i k))] [(1,.box [.c (.i x.Time),.c (.sl 3 (x.Reaches.map Reach.enc)),.c (.sl 2 (x.Ways.map Way.enc)),.c (.sl 22 (x.Works.map Work.enc)),.c (.sl 1 (x.Movers.map yZ)),.c (.sl 2 (x.Arrived.map Train.enc)),.c (.sl 1 (x.Entered.map yJ)),.c (.i x.Tariff.Base),.c (.i x.Tariff.PerArea),.c (.sl 1 (x.Tariff.PerClass.map yJ)),.c (.sl 1 (x.Tariff.Weights.map yJ)),.c (.sl 5 (x.Book.map Entry.enc)),.c (.sl 4 (x.Passings.map Passing.enc)),.c (.i x.Start),.c (.i x.In),.c (.i x.Out)]),(2,.box [.c (.i 0),.nil 3,.nil 2,.nil 22,.nil 1,.nil 2,.nil 1,.c (.i 0),.c (.i 0),.nil 1,.nil 1,.nil 5,.nil 4,.c (.i 0),.c (.i 0),.c (.i 0)]),(3,.box [.c (.i x.Time),.own 13 3 x.Reaches.length,.own 33 2 x.Ways.length,.own 38 22 x.Works.length,.own 58 1 k,.c (.sl 2 (x.Arrived.map Train.enc)),.c (.sl 1 (x.Entered.map yJ)),.c (.i x.Tariff.Base),.c (.i x.Tariff.PerArea),.c (.sl 1 (x.Tariff.PerClass.map yJ)),.c (.sl 1 (x.Tariff.Weights.map yJ)),.c (.sl 5 (x.Book.map Entry.enc)),.c (.sl 4 (x.Passings.map Passing.enc)),.c (.i x.Start),.c (.i x.In),.c (.i x.Out)]),(13,.row 3 (x.Reaches.map Reach.enc)),(33,.row 2 (x.Ways.map Way.enc)),(38,.row 22 (x.Works.map Work.enc)),(58,if k = 0 then .row 1 [] else .tr 1 0 ((x.Movers.take k).map em))]) (fun k=>x.Movers.length - k) 0 (by simp) (by apply yj <;> simp [Obj.leO]) ?_
 rintro k hk
 rcases Nat.lt_or_ge k x.Movers.length with klt | kge
 ·obtain ⟨l,hl⟩ : ∃ l,x.Movers[k]? = some l:=⟨_,List.getElem?_eq_getElem klt⟩
  have hls:=s4.2 l (List.mem_of_getElem? hl)
  have hll:=hls.1
  have g1:=(List.getElem?_eq_some_iff.1 hl).2
  have hs2 : (x.Movers.map em).take (k + 1) = (x.Movers.map em).take k ++ [em l]:=by rw [List.take_succ,List.getElem?_map,hl]; rfl
  simp -dsimp -implicitDefEqProofs [hl,g1,klt,yG klt]
  intro hlen
  generalize hZ : (if k = 0 then Obj.row 1 [] else .tr 1 0 ((x.Movers.map em).take k)) = Z
  have hz1 : Z.leO Z:=by rw [← hZ]; split <;> first | rfl | exact ⟨rfl,rfl⟩
  have hz2 : ∀ i,Z.kill i = Z:=by intro i; rw [← hZ]; split <;> rfl
  have hz3 : ∀ L,Z.ygy L = true:=by intro L; rw [← hZ]; split <;> rfl
  simp only [Obj.leO] at hz1
  simp only [Obj.ygy] at hz3
  refine yg (ι:=Nat) (fun i=>i ≤ l.length) (fun i=>yO [(1,.box 1 0),(2,.box 2 0),(3,.box 3 0),(6,.c (.i k)),(7,.own 67 3 i),(8,.c (.i i))] [(1,.box [.c (.i x.Time),.c (.sl 3 (x.Reaches.map Reach.enc)),.c (.sl 2 (x.Ways.map Way.enc)),.c (.sl 22 (x.Works.map Work.enc)),.c (.sl 1 (x.Movers.map yZ)),.c (.sl 2 (x.Arrived.map Train.enc)),.c (.sl 1 (x.Entered.map yJ)),.c (.i x.Tariff.Base),.c (.i x.Tariff.PerArea),.c (.sl 1 (x.Tariff.PerClass.map yJ)),.c (.sl 1 (x.Tariff.Weights.map yJ)),.c (.sl 5 (x.Book.map Entry.enc)),.c (.sl 4 (x.Passings.map Passing.enc)),.c (.i x.Start),.c (.i x.In),.c (.i x.Out)]),(2,.box [.c (.i 0),.nil 3,.nil 2,.nil 22,.nil 1,.nil 2,.nil 1,.c (.i 0),.c (.i 0),.nil 1,.nil 1,.nil 5,.nil 4,.c (.i 0),.c (.i 0),.c (.i 0)]),(3,.box [.c (.i x.Time),.own 13 3 x.Reaches.length,.own 33 2 x.Ways.length,.own 38 22 x.Works.length,.own 58 1 k,.c (.sl 2 (x.Arrived.map Train.enc)),.c (.sl 1 (x.Entered.map yJ)),.c (.i x.Tariff.Base),.c (.i x.Tariff.PerArea),.c (.sl 1 (x.Tariff.PerClass.map yJ)),.c (.sl 1 (x.Tariff.Weights.map yJ)),.c (.sl 5 (x.Book.map Entry.enc)),.c (.sl 4 (x.Passings.map Passing.enc)),.c (.i x.Start),.c (.i x.In),.c (.i x.Out)]),(13,.row 3 (x.Reaches.map Reach.enc)),(33,.row 2 (x.Ways.map Way.enc)),(38,.row 22 (x.Works.map Work.enc)),(58,Z),(67,.row 3 ((l.take i).map Mover.enc))]) (fun i=>l.length - i) 0 (by simp) (by apply yj <;> simp [Obj.leO,hz1,hz2,hz3]) ?_
  rintro i hi
  rcases Nat.lt_or_ge i l.length with ilt | ige
  ·obtain ⟨m,hm⟩ : ∃ m,l[i]? = some m:=⟨_,List.getElem?_eq_getElem ilt⟩
   have hms:=hls.2 m (List.mem_of_getElem? hm)
   have g2:=(List.getElem?_eq_some_iff.1 hm).2
   have hs3 : (l.map Mover.enc).take (i + 1) = (l.map Mover.enc).take i ++ [Mover.enc m]:=by rw [List.take_succ,List.getElem?_map,hm]; rfl
   simp -dsimp -implicitDefEqProofs [hl,hm,g1,g2,klt,yG klt,ilt,yG ilt]
   intro hlen2
   refine yS (yxF m hms) ?_
   simp -dsimp -implicitDefEqProofs [yt,Nat.min_eq_left hi]
   refine ⟨by omega,yw ilt hlen2,i + 1,ilt,by omega,?_⟩
   apply yj <;> simp [Obj.leO,hs3,hz1,hz2,hz3]
  have ei : i = l.length:=by omega
  subst ei
  simp -dsimp -implicitDefEqProofs [hl,g1,klt,yG klt,yt,hz2]
  intro _
  subst hZ
  rcases Nat.eq_zero_or_pos k with e0 | e0
  ·subst e0
   have hs3 : (x.Movers.map em).take 1 = [em l]:=by simpa using hs2
   simp -dsimp -implicitDefEqProofs [yt]
   refine ⟨by unfold inI; omega,1,klt,by omega,?_⟩
   apply yj <;> simp [Obj.leO,hs3,em]
  ·have hne : (k = 0) = False:=by simp; omega
   simp -dsimp -implicitDefEqProofs [hne,yt,Nat.min_eq_left hk]
   refine ⟨by omega,yw klt hlen,k + 1,klt,by omega,?_⟩
   apply yj <;> simp [Obj.leO,hs2,em]
 have ek : k = x.Movers.length:=by omega
 subst ek
 simp -dsimp -implicitDefEqProofs [yt]
 intro _
 have hif : (if x.Movers = [] then Obj.row 1 [] else .tr 1 0 (x.Movers.map em)) = (if x.Movers.length = 0 then Obj.row 1 [] else .tr 1 0 (x.Movers.map em)):=by cases x.Movers <;> simp
 generalize hZ : (if x.Movers.length = 0 then Obj.row 1 [] else .tr 1 0 (x.Movers.map em)) = Z at hif
 have hz1 : Z.leO Z:=by rw [← hZ]; split <;> first | rfl | exact ⟨rfl,rfl⟩
 have hz2 : ∀ i,Z.kill i = Z:=by intro i; rw [← hZ]; split <;> rfl
 have hz3 : ∀ L,Z.ygy L = true:=by intro L; rw [← hZ]; split <;> rfl
 simp only [Obj.leO] at hz1
 simp only [Obj.ygy] at hz3
 refine yg (ι:=Nat) (fun k=>k ≤ x.Arrived.length) (fun k=>yO [(1,.box 1 0),(2,.box 2 0),(3,.box 3 0),(9,.c (.i k))] [(1,.box [.c (.i x.Time),.c (.sl 3 (x.Reaches.map Reach.enc)),.c (.sl 2 (x.Ways.map Way.enc)),.c (.sl 22 (x.Works.map Work.enc)),.c (.sl 1 (x.Movers.map yZ)),.c (.sl 2 (x.Arrived.map Train.enc)),.c (.sl 1 (x.Entered.map yJ)),.c (.i x.Tariff.Base),.c (.i x.Tariff.PerArea),.c (.sl 1 (x.Tariff.PerClass.map yJ)),.c (.sl 1 (x.Tariff.Weights.map yJ)),.c (.sl 5 (x.Book.map Entry.enc)),.c (.sl 4 (x.Passings.map Passing.enc)),.c (.i x.Start),.c (.i x.In),.c (.i x.Out)]),(2,.box [.c (.i 0),.nil 3,.nil 2,.nil 22,.nil 1,.nil 2,.nil 1,.c (.i 0),.c (.i 0),.nil 1,.nil 1,.nil 5,.nil 4,.c (.i 0),.c (.i 0),.c (.i 0)]),(3,.box [.c (.i x.Time),.own 13 3 x.Reaches.length,.own 33 2 x.Ways.length,.own 38 22 x.Works.length,.own 58 1 x.Movers.length,.own 96 2 k,.c (.sl 1 (x.Entered.map yJ)),.c (.i x.Tariff.Base),.c (.i x.Tariff.PerArea),.c (.sl 1 (x.Tariff.PerClass.map yJ)),.c (.sl 1 (x.Tariff.Weights.map yJ)),.c (.sl 5 (x.Book.map Entry.enc)),.c (.sl 4 (x.Passings.map Passing.enc)),.c (.i x.Start),.c (.i x.In),.c (.i x.Out)]),(13,.row 3 (x.Reaches.map Reach.enc)),(33,.row 2 (x.Ways.map Way.enc)),(38,.row 22 (x.Works.map Work.enc)),(58,Z),(96,.row 2 ((x.Arrived.take k).map Train.enc))]) (fun k=>x.Arrived.length - k) 0 (by simp) (by apply yj <;> simp [Obj.leO,hif,hz1,hz2,hz3]) ?_
 rintro k hk
 rcases Nat.lt_or_ge k x.Arrived.length with klt | kge
 ·obtain ⟨e1,he⟩ : ∃ e1,x.Arrived[k]? = some e1:=⟨_,List.getElem?_eq_getElem klt⟩
  have he2:=s5.2 e1 (List.mem_of_getElem? he)
  have g1:=(List.getElem?_eq_some_iff.1 he).2
  have hs2 : (x.Arrived.map Train.enc).take (k + 1) = (x.Arrived.map Train.enc).take k ++ [Train.enc e1]:=by rw [List.take_succ,List.getElem?_map,he]; rfl
  simp -dsimp -implicitDefEqProofs [he,g1,klt,yG klt]
  intro hlen
  refine yY (ygX e1 he2) ?_
  simp -dsimp -implicitDefEqProofs [he,g1,klt,yG klt,yt,Nat.min_eq_left hk,yeh]
  refine ⟨by omega,yw klt hlen,k + 1,klt,by omega,?_⟩
  apply yj <;> simp [Obj.leO,hif,hz1,hz2,hz3,hs2]
 have ek : k = x.Arrived.length:=by omega
 subst ek
 simp -dsimp -implicitDefEqProofs [yt]
 intro _
 refine ⟨by omega,by omega,by omega,by omega,?_⟩
 refine yg (ι:=Nat) (fun k=>k ≤ x.Passings.length) (fun k=>yO [(1,.box 1 0),(2,.box 2 0),(3,.box 3 0),(10,.c (.i k))] [(1,.box [.c (.i x.Time),.c (.sl 3 (x.Reaches.map Reach.enc)),.c (.sl 2 (x.Ways.map Way.enc)),.c (.sl 22 (x.Works.map Work.enc)),.c (.sl 1 (x.Movers.map yZ)),.c (.sl 2 (x.Arrived.map Train.enc)),.c (.sl 1 (x.Entered.map yJ)),.c (.i x.Tariff.Base),.c (.i x.Tariff.PerArea),.c (.sl 1 (x.Tariff.PerClass.map yJ)),.c (.sl 1 (x.Tariff.Weights.map yJ)),.c (.sl 5 (x.Book.map Entry.enc)),.c (.sl 4 (x.Passings.map Passing.enc)),.c (.i x.Start),.c (.i x.In),.c (.i x.Out)]),(2,.box [.c (.i 0),.nil 3,.nil 2,.nil 22,.nil 1,.nil 2,.nil 1,.c (.i 0),.c (.i 0),.nil 1,.nil 1,.nil 5,.nil 4,.c (.i 0),.c (.i 0),.c (.i 0)]),(3,.box [.c (.i x.Time),.own 13 3 x.Reaches.length,.own 33 2 x.Ways.length,.own 38 22 x.Works.length,.own 58 1 x.Movers.length,.own 96 2 x.Arrived.length,.own 116 1 x.Entered.length,.c (.i x.Tariff.Base),.c (.i x.Tariff.PerArea),.own 121 1 x.Tariff.PerClass.length,.own 128 1 x.Tariff.Weights.length,.own 135 5 x.Book.length,.own 140 4 k,.c (.i x.Start),.c (.i x.In),.c (.i x.Out)]),(13,.row 3 (x.Reaches.map Reach.enc)),(33,.row 2 (x.Ways.map Way.enc)),(38,.row 22 (x.Works.map Work.enc)),(58,Z),(96,.row 2 (x.Arrived.map Train.enc)),(116,.row 1 (x.Entered.map yJ)),(121,.row 1 (x.Tariff.PerClass.map yJ)),(128,.row 1 (x.Tariff.Weights.map yJ)),(135,.row 5 (x.Book.map Entry.enc)),(140,.row 4 ((x.Passings.take k).map Passing.enc))]) (fun k=>x.Passings.length - k) 0 (by simp) (by apply yj <;> simp [Obj.leO,hif,hz1,hz2,hz3]) ?_
 rintro k hk
 rcases Nat.lt_or_ge k x.Passings.length with klt | kge
 ·obtain ⟨e1,he⟩ : ∃ e1,x.Passings[k]? = some e1:=⟨_,List.getElem?_eq_getElem klt⟩
  have he2:=s9.2 e1 (List.mem_of_getElem? he)
  have g1:=(List.getElem?_eq_some_iff.1 he).2
  have hs2 : (x.Passings.map Passing.enc).take (k + 1) = (x.Passings.map Passing.enc).take k ++ [Passing.enc e1]:=by rw [List.take_succ,List.getElem?_map,he]; rfl
  simp -dsimp -implicitDefEqProofs [he,g1,klt,yG klt]
  intro hlen
  refine yS (ygX e1.Train he2) ?_
  simp -dsimp -implicitDefEqProofs [he,g1,klt,yG klt,yt,Nat.min_eq_left hk,yeh]
  refine ⟨by omega,yw klt hlen,k + 1,klt,by omega,?_⟩
  apply yj <;> simp [Obj.leO,hif,hz1,hz2,hz3,hs2]
 have ek : k = x.Passings.length:=by omega
 subst ek
 simp -dsimp -implicitDefEqProofs [yt]
 intro _
 subst hZ
 by_cases e : x.Movers.length = 0
 ·have e2 : x.Movers = []:=List.length_eq_zero_iff.1 e
  simp [Waterway.yAY,e2,yt]
 ·simp [Waterway.yAY,e,yt]
theorem yse {r : Reach} {a : Int} (h : r.small) : (ybp r a).small:=by
 unfold ybp
 split
 ·split
  ·exact h
  ·exact ⟨h.1,by simpa using h.2.1,fun _ _=>trivial⟩
 ·exact h
theorem yyV (es : List Reach) (hl : es.length ≤ 1048576) : ybh Tryz.prog 195 [.c (.sl 3 (es.map Reach.enc))] (.c (.ow 3 (es.map Reach.enc))):=by
 refine yan yc6 ?_
 simp -dsimp -implicitDefEqProofs [ybw,yt]
 omega
def yd0 {α : Type} (t : α → Nat) (xs : List α) : Nat:=xs.length + (xs.map t).sum
def ycz {α : Type} (f : α → Int → Int) (t : α → Nat) : Prop:=∀ x l,0 ≤ l → l ≤ 1048576 → 0 ≤ f x l → f x l + t x ≤ l
theorem yaV {a : Int} {f : Int → Int} (h : 0 ≤ ybm a f) : 0 ≤ a ∧ ybm a f = f a:=by
 rcases Int.lt_or_le a 0 with e | e
 ·rw [yK e] at h; omega
 ·exact ⟨e,yu e⟩
theorem yhx {α : Type} : ycz (fun (xs : List α) l=>szS xs.length l) (fun xs=>xs.length):=by
 intro xs l h0 h1 h
 simp only [szS] at h ⊢
 split at h
 ·omega
 ·rename_i h2; rw [if_neg h2]; omega
theorem yn7 {α : Type} {f : α → Int → Int} {t : α → Nat} (hf : ycz f t) : ∀ (xs : List α) (l : Int),0 ≤ l → l ≤ 1048576 → 0 ≤ yaw f xs l → yaw f xs l + ((xs.map t).sum : Nat) ≤ l
 | [],l,_,_,_=>by simp [yaw]
 | x :: xs,l,h0,h1,h=>by
  simp only [yaw] at h ⊢
  obtain ⟨p,e⟩:=yaV h
  rw [e] at h ⊢
  have h2:=hf x l h0 h1 p
  have h3:=yn7 hf xs (f x l) p (by omega) h
  simp only [List.map_cons,List.sum_cons,Int.natCast_add]; omega
theorem ye8 {α : Type} {f : α → Int → Int} {t : α → Nat} (hf : ycz f t) : ycz (yeE f) (yd0 t):=by
 intro xs l h0 h1 h
 unfold yeE at h ⊢
 obtain ⟨p,e⟩:=yaV h
 rw [e] at h ⊢
 have h2:=yhx xs l h0 h1 p
 have h3:=yn7 hf xs _ p (by simp only at h2 ⊢; omega) h
 unfold yd0
 simp only at h2
 omega
theorem ydt {α : Type} {n t : α → Nat} (h : ∀ x,n x ≤ 27 * (1 + t x)) : ∀ xs : List α,cnt n xs ≤ 27 * yd0 t xs
 | []=>by simp [cnt]
 | x :: xs=>by
  have h1:=ydt h xs
  have h2:=h x
  simp only [cnt,yd0,List.map_cons,List.sum_cons,List.length_cons] at h1 ⊢
  omega
def ydD (xs : List Int) : Nat:=xs.length
theorem ygx : ycz yhJ ydD:=yhx
def ykt (xs : List Entry) : Nat:=xs.length
theorem yqX : ycz ygY ykt:=yhx
def yju (xs : List Boat) : Nat:=xs.length
theorem ytl : ycz yex yju:=yhx
def yeT : List (List Boat) → Nat:=yd0 yju
theorem yqw : ycz yeb yeT:=ye8 ytl
theorem yxg (r : List Boat) : nB r ≤ 27 * (1 + yju r):=by unfold nB yju; omega
def yci (e : Train) : Nat:=yeT e.Rows
theorem yfQ : ycz yb2 yci:=by
 intro e l h0 h1 h
 unfold yb2 at h ⊢
 obtain ⟨p0,e0⟩:=yaV h
 rw [e0] at h ⊢
 have t0:=yqw e.Rows _ h0 h1 p0
 unfold yci
 omega
def yhw (xs : List Point) : Nat:=xs.length
theorem yrs : ycz yg2 yhw:=yhx
def yaZ (e : Reach) : Nat:=yhw e.Table + ydD e.Pipe
theorem ys5 : ycz ycy yaZ:=by
 intro e l h0 h1 h
 unfold ycy at h ⊢
 obtain ⟨p0,e0⟩:=yaV h
 rw [e0] at h ⊢
 have t0:=yrs e.Table _ h0 h1 p0
 obtain ⟨p1,e1⟩:=yaV h
 rw [e1] at h ⊢
 have t1:=ygx e.Pipe _ p0 (by omega) p1
 unfold yaZ
 omega
def ydQ : List Reach → Nat:=yd0 yaZ
theorem yqR : ycz yd8 ydQ:=ye8 ys5
theorem yum (e : Reach) : yay e ≤ 27 * (1 + yaZ e):=by
 have : yhw e.Table = e.Table.length:=rfl
 have : ydD e.Pipe = e.Pipe.length:=rfl
 simp only [yay,yaZ]
 omega
def yox (xs : List Way) : Nat:=xs.length
theorem yu8 : ycz yk3 yox:=yhx
def ykC (xs : List Pause) : Nat:=xs.length
theorem yqQ : ycz yhi ykC:=yhx
def yf0 : List Train → Nat:=yd0 yci
theorem yke : ycz ydk yf0:=ye8 yfQ
theorem ymK (e : Train) : yE e ≤ 27 * (1 + yci e):=by
 have:=ydt yxg e.Rows
 simp only [yE,yci,yeT]
 omega
def ylq (e : Lock) : Nat:=yf0 e.Inside
theorem yuX : ycz ygm ylq:=by
 intro e l h0 h1 h
 unfold ygm at h ⊢
 obtain ⟨p0,e0⟩:=yaV h
 rw [e0] at h ⊢
 have t0:=yke e.Inside _ h0 h1 p0
 unfold ylq
 omega
def yiS (e : CallT) : Nat:=yci e.Train
theorem ytP : ycz ydJ yiS:=by
 intro e l h0 h1 h
 unfold ydJ at h ⊢
 obtain ⟨p0,e0⟩:=yaV h
 rw [e0] at h ⊢
 have t0:=yfQ e.Train _ h0 h1 p0
 unfold yiS
 omega
def yl4 : List CallT → Nat:=yd0 yiS
theorem ytn : ycz yfd yl4:=ye8 ytP
theorem ywA (e : CallT) : yaI e ≤ 27 * (1 + yiS e):=by
 have:=ydt yxg e.Train.Rows
 simp only [yaI,yiS,yci,yeT]
 omega
def yg5 (e : Work) : Nat:=ylq e.Lock + ykC e.Pauses + yl4 e.Calls
theorem yus : ycz ycY yg5:=by
 intro e l h0 h1 h
 unfold ycY at h ⊢
 obtain ⟨p0,e0⟩:=yaV h
 rw [e0] at h ⊢
 have t0:=yuX e.Lock _ h0 h1 p0
 obtain ⟨p1,e1⟩:=yaV h
 rw [e1] at h ⊢
 have t1:=yqQ e.Pauses _ p0 (by omega) p1
 obtain ⟨p2,e2⟩:=yaV h
 rw [e2] at h ⊢
 have t2:=ytn e.Calls _ p1 (by omega) p2
 unfold yg5
 omega
def yeJ : List Work → Nat:=yd0 yg5
theorem ytv : ycz yfc yeJ:=ye8 yus
theorem yvC (e : Work) : yaJ e ≤ 27 * (1 + yg5 e):=by
 have:=ydt ymK e.Lock.Inside
 have : ykC e.Pauses = e.Pauses.length:=rfl
 have:=ydt ywA e.Calls
 simp only [yaJ,yg5,ylq,yf0,yl4]
 omega
def yhg (e : Mover) : Nat:=yci e.Train
theorem ysK : ycz ycV yhg:=by
 intro e l h0 h1 h
 unfold ycV at h ⊢
 obtain ⟨p0,e0⟩:=yaV h
 rw [e0] at h ⊢
 have t0:=yfQ e.Train _ h0 h1 p0
 unfold yhg
 omega
def ygb : List Mover → Nat:=yd0 yhg
theorem yq0 : ycz ycf ygb:=ye8 ysK
theorem nM_le (e : Mover) : nM e ≤ 27 * (1 + yhg e):=by
 have:=ydt yxg e.Train.Rows
 simp only [nM,yhg,yci,yeT]
 omega
def yiG : List (List Mover) → Nat:=yd0 ygb
theorem yow : ycz ydg yiG:=ye8 yq0
theorem ytr (r : List Mover) : yap r ≤ 27 * (1 + ygb r):=by have:=ydt nM_le r; unfold yap ygb; omega
def yhC (e : Tariff) : Nat:=ydD e.PerClass + ydD e.Weights
theorem yqO : ycz ydq yhC:=by
 intro e l h0 h1 h
 unfold ydq at h ⊢
 obtain ⟨p0,e0⟩:=yaV h
 rw [e0] at h ⊢
 have t0:=ygx e.PerClass _ h0 h1 p0
 obtain ⟨p1,e1⟩:=yaV h
 rw [e1] at h ⊢
 have t1:=ygx e.Weights _ p0 (by omega) p1
 unfold yhC
 omega
def ydZ (e : Passing) : Nat:=yci e.Train
theorem yoT : ycz ybM ydZ:=by
 intro e l h0 h1 h
 unfold ybM at h ⊢
 obtain ⟨p0,e0⟩:=yaV h
 rw [e0] at h ⊢
 have t0:=yfQ e.Train _ h0 h1 p0
 unfold ydZ
 omega
def yhy : List Passing → Nat:=yd0 ydZ
theorem ym7 : ycz ycH yhy:=ye8 yoT
theorem yrm (e : Passing) : yae e ≤ 27 * (1 + ydZ e):=by
 have:=ydt yxg e.Train.Rows
 simp only [yae,ydZ,yci,yeT]
 omega
def ycp (e : Waterway) : Nat:=ydQ e.Reaches + yox e.Ways + yeJ e.Works + yiG e.Movers + yf0 e.Arrived + ydD e.Entered + yhC e.Tariff + ykt e.Book + yhy e.Passings
theorem ynf : ycz yaX ycp:=by
 intro e l h0 h1 h
 unfold yaX at h ⊢
 obtain ⟨p0,e0⟩:=yaV h
 rw [e0] at h ⊢
 have t0:=yqR e.Reaches _ h0 h1 p0
 obtain ⟨p1,e1⟩:=yaV h
 rw [e1] at h ⊢
 have t1:=yu8 e.Ways _ p0 (by omega) p1
 obtain ⟨p2,e2⟩:=yaV h
 rw [e2] at h ⊢
 have t2:=ytv e.Works _ p1 (by omega) p2
 obtain ⟨p3,e3⟩:=yaV h
 rw [e3] at h ⊢
 have t3:=yow e.Movers _ p2 (by omega) p3
 obtain ⟨p4,e4⟩:=yaV h
 rw [e4] at h ⊢
 have t4:=yke e.Arrived _ p3 (by omega) p4
 obtain ⟨p5,e5⟩:=yaV h
 rw [e5] at h ⊢
 have t5:=ygx e.Entered _ p4 (by omega) p5
 obtain ⟨p6,e6⟩:=yaV h
 rw [e6] at h ⊢
 have t6:=yqO e.Tariff _ p5 (by omega) p6
 obtain ⟨p7,e7⟩:=yaV h
 rw [e7] at h ⊢
 have t7:=yqX e.Book _ p6 (by omega) p7
 obtain ⟨p8,e8⟩:=yaV h
 rw [e8] at h ⊢
 have t8:=ym7 e.Passings _ p7 (by omega) p8
 unfold ycp
 omega
def hsW (x : Waterway) : List H:=[.p (.i x.Time),.t 3 (x.Reaches.map Reach.yI),.w 2 (x.Ways.map Way.enc),.t 22 (x.Works.map Work.yI),.t 1 (x.Movers.map yax),.t 2 (x.Arrived.map Train.yI),.w 1 (x.Entered.map yJ),
 .p (.i x.Tariff.Base),.p (.i x.Tariff.PerArea),.w 1 (x.Tariff.PerClass.map yJ),.w 1 (x.Tariff.Weights.map yJ),.w 5 (x.Book.map Entry.enc),.t 4 (x.Passings.map Passing.yI),.p (.i x.Start),.p (.i x.In),.p (.i x.Out)]
def wm1 (x : Waterway) (k : Int) : Int:=k + cnt yay x.Reaches
def wm2 (x : Waterway) (k : Int) : Int:=wm1 x k + 2 * x.Ways.length
def wm3 (x : Waterway) (k : Int) : Int:=wm2 x k + cnt yaJ x.Works
def wm4 (x : Waterway) (k : Int) : Int:=wm3 x k + cnt yap x.Movers
def wm5 (x : Waterway) (k : Int) : Int:=wm4 x k + cnt yE x.Arrived
def wm6 (x : Waterway) (k : Int) : Int:=wm5 x k + x.Entered.length
def wm7 (x : Waterway) (k : Int) : Int:=wm6 x k + nT x.Tariff
def wm8 (x : Waterway) (k : Int) : Int:=wm7 x k + 5 * x.Book.length
def wm9 (x : Waterway) (k : Int) : Int:=wm8 x k + cnt yae x.Passings
def hsM (x : Waterway) (k : Int) : List H:=[.p (.i x.Time),.t 3 (yaA ycQ yay k x.Reaches),.w 2 (marked ydz 2 [] (wm1 x k) x.Ways.length),.t 22 (yaA ydH yaJ (wm2 x k) x.Works),.t 1 (yaA ycj yap (wm3 x k) x.Movers),.t 2 (yaA ybN yE (wm4 x k) x.Arrived),.w 1 (marked yJ 1 [] (wm5 x k) x.Entered.length),
 .p (.i x.Tariff.Base),.p (.i x.Tariff.PerArea),.w 1 (marked yJ 1 [] (wm6 x k) x.Tariff.PerClass.length),.w 1 (marked yJ 1 [] (wm6 x k + x.Tariff.PerClass.length) x.Tariff.Weights.length),.w 5 (marked yjL 5 [] (wm7 x k) x.Book.length),.t 4 (yaA ybL yae (wm8 x k) x.Passings),.p (.i x.Start),.p (.i x.In),.p (.i x.Out)]
theorem yhc {id k n : Nat} {mk : Int → List C} {c j : Int} {rows : List (List C)} (h : n = rows.length) : hv id k (marked mk c [] j n) = hv id k rows:=yy6 (by rw [yM,h])
theorem ylR {α : Type} {id k : Nat} {f : Int → α → List C} {n : α → Nat} {j : Int} {g : α → List C} {xs : List α} : hv id k (yaA f n j xs) = hv id k (xs.map g):=yy6 (by rw [yH,List.length_map])
structure WkB (x : Waterway) (k : Int) : Prop where
 b0 : 0 ≤ k
 b1 : k ≤ wm1 x k
 b2 : wm1 x k ≤ wm2 x k
 b3 : wm2 x k ≤ wm3 x k
 b4 : wm3 x k ≤ wm4 x k
 b5 : wm4 x k ≤ wm5 x k
 b6 : wm5 x k ≤ wm6 x k
 b7 : wm6 x k ≤ wm7 x k
 b8 : wm7 x k ≤ wm8 x k
 b9 : wm8 x k ≤ wm9 x k
theorem wkB (x : Waterway) {k : Int} (h : 0 ≤ k) : WkB x k:=by
 refine ⟨h,?_,?_,?_,?_,?_,?_,?_,?_,?_⟩ <;> simp only [wm1,wm2,wm3,wm4,wm5,wm6,wm7,wm8,wm9,nT] <;> omega
set_option maxRecDepth 20000 in
theorem yi8 (x : Waterway) (k : Int) (h0 : 0 ≤ k) (h1 : wm9 x k ≤ 4000000000000000000) :
 InF Tryz.prog 26 (.agg (((hsW x).map H.c).map .c)) (.agg (((hsM x k).map H.c).map .c)) [.c (.i k)] (.c (.i (wm9 x k))):=by
 obtain ⟨b0,b1,b2,b3,b4,b5,b6,b7,b8,b9⟩:=wkB x h0
 have e1 : wm1 x k = k + cnt yay x.Reaches:=rfl
 have e2 : wm2 x k = wm1 x k + 2 * x.Ways.length:=rfl
 have e3 : wm3 x k = wm2 x k + cnt yaJ x.Works:=rfl
 have e4 : wm4 x k = wm3 x k + cnt yap x.Movers:=rfl
 have e5 : wm5 x k = wm4 x k + cnt yE x.Arrived:=rfl
 have e6 : wm6 x k = wm5 x k + x.Entered.length:=rfl
 have e7 : wm7 x k = wm6 x k + nT x.Tariff:=rfl
 have e8 : wm8 x k = wm7 x k + 5 * x.Book.length:=rfl
 have e9 : wm9 x k = wm8 x k + cnt yae x.Passings:=rfl
 have m1:=yty x.Reaches k h0 (by omega)
 have m2:=yvz x.Ways (wm1 x k) (by omega) (by omega)
 have m3:=yvp x.Works (wm2 x k) (by omega) (by omega)
 have m4:=yq3 x.Movers (wm3 x k) (by omega) (by omega)
 have m5:=ylT x.Arrived (wm4 x k) (by omega) (by omega)
 have m6:=ycr x.Entered (wm5 x k) (by omega) (by omega)
 have m7:=ysc x.Tariff (wm6 x k) (by omega) (by omega)
 have m8:=ysZ x.Book (wm7 x k) (by omega) (by omega)
 have m9:=ypA x.Passings (wm8 x k) (by omega) (by omega)
 rw [← e1] at m1; rw [← e2] at m2; rw [← e3] at m3; rw [← e4] at m4; rw [← e5] at m5; rw [← e6] at m6; rw [← e7] at m7; rw [← e8] at m8; rw [← e9] at m9
 refine yEO yjR (by simp) (by simp [hsW,okH,H.ok]) rfl fun hwf=>?_
 simp -dsimp -implicitDefEqProofs [yfE,hsW]
 refine ygZ (ver:=0) m1 (by simp) (by simp [yH]) (by simp) rfl rfl ?_
 simp -dsimp -implicitDefEqProofs
 refine yl7 m2 (by simp) (by simp [yM]) (by simp) rfl rfl ?_
 simp -dsimp -implicitDefEqProofs
 refine ygZ (ver:=0) m3 (by simp) (by simp [yH]) (by simp) rfl rfl ?_
 simp -dsimp -implicitDefEqProofs
 refine ygZ (ver:=0) m4 (by simp) (by simp [yH]) (by simp) rfl rfl ?_
 simp -dsimp -implicitDefEqProofs
 refine ygZ (ver:=0) m5 (by simp) (by simp [yH]) (by simp) rfl rfl ?_
 simp -dsimp -implicitDefEqProofs
 refine yl7 m6 (by simp) (by simp [yM]) (by simp) rfl rfl ?_
 simp -dsimp -implicitDefEqProofs
 refine yzw m7 (by decide) rfl rfl (by simp) (by simp) (by simp [yM]) (by simp [yM]) (by simp) rfl rfl ?_
 simp -dsimp -implicitDefEqProofs
 refine yl7 m8 (by simp) (by simp [yM]) (by simp) rfl rfl ?_
 simp -dsimp -implicitDefEqProofs
 refine ygZ (ver:=0) m9 (by simp) (by simp [yH]) (by simp) rfl rfl ?_
 simp -dsimp -implicitDefEqProofs
 refine yDB ?_ ?_ ?_
 ·simp [hsM]
  exact ⟨ylR.symm,(yhc (by simp)).symm,ylR.symm,ylR.symm,ylR.symm,(yhc (by simp)).symm,(yhc (by simp)).symm,(yhc (by simp)).symm,(yhc (by simp)).symm,ylR.symm⟩
 ·simp [hsM,yxj,lieH]
  exact ⟨⟨1,rfl⟩,⟨1,rfl⟩,⟨1,rfl⟩,⟨1,rfl⟩,⟨1,rfl⟩⟩
 ·simp [yml]
def yAe (x : Waterway) (k : Int) : List C:=[.i x.Time,.sl 3 (yaA yfZ yay k x.Reaches),.sl 2 (marked ydz 2 [] (wm1 x k) x.Ways.length),.sl 22 (yaA yhn yaJ (wm2 x k) x.Works),.sl 1 (yaA yeX yap (wm3 x k) x.Movers),.sl 2 (yaA yfm yE (wm4 x k) x.Arrived),.sl 1 (marked yJ 1 [] (wm5 x k) x.Entered.length),
 .i x.Tariff.Base,.i x.Tariff.PerArea,.sl 1 (marked yJ 1 [] (wm6 x k) x.Tariff.PerClass.length),.sl 1 (marked yJ 1 [] (wm6 x k + x.Tariff.PerClass.length) x.Tariff.Weights.length),.sl 5 (marked yjL 5 [] (wm7 x k) x.Book.length),.sl 4 (yaA ydN yae (wm8 x k) x.Passings),.i x.Start,.i x.In,.i x.Out]
theorem ysr (e : Tariff) (b p : Int) (k : Int) (h0 : 0 ≤ k) (h1 : k + nT e ≤ 4000000000000000000) : yB Tryz.prog 75 [.agg [.c (.i b),.c (.i p),.c (.sl 1 (marked yJ 1 [] k e.PerClass.length)),.c (.sl 1 (marked yJ 1 [] (k + e.PerClass.length) e.Weights.length))],.c (.i k)] (.c (.i (k + nT e))):=by
 refine yh ykH ?_
 unfold nT at h1 ⊢
 simp -dsimp -implicitDefEqProofs
 refine yc (yh1 e.PerClass.length k h0 (by omega)) ?_
 have n1 : (k + (e.PerClass.length : Int) < 0) = False:=by simp; omega
 simp -dsimp -implicitDefEqProofs [n1]
 refine yc (yh1 e.Weights.length (k + e.PerClass.length) (by omega) (by omega)) ?_
 have n2 : (k + (e.PerClass.length : Int) + (e.Weights.length : Int) < 0) = False:=by simp; omega
 simp -dsimp -implicitDefEqProofs [n2]
 omega
set_option maxRecDepth 20000 in
theorem yp9 (x : Waterway) (k : Int) (h0 : 0 ≤ k) (h1 : wm9 x k ≤ 4000000000000000000) : yB Tryz.prog 27 [.agg ((yAe x k).map .c),.c (.i k)] (.c (.i (wm9 x k))):=by
 obtain ⟨b0,b1,b2,b3,b4,b5,b6,b7,b8,b9⟩:=wkB x h0
 have e1 : wm1 x k = k + cnt yay x.Reaches:=rfl
 have e2 : wm2 x k = wm1 x k + 2 * x.Ways.length:=rfl
 have e3 : wm3 x k = wm2 x k + cnt yaJ x.Works:=rfl
 have e4 : wm4 x k = wm3 x k + cnt yap x.Movers:=rfl
 have e5 : wm5 x k = wm4 x k + cnt yE x.Arrived:=rfl
 have e6 : wm6 x k = wm5 x k + x.Entered.length:=rfl
 have e7 : wm7 x k = wm6 x k + nT x.Tariff:=rfl
 have e8 : wm8 x k = wm7 x k + 5 * x.Book.length:=rfl
 have e9 : wm9 x k = wm8 x k + cnt yae x.Passings:=rfl
 have m1:=yr8 x.Reaches k h0 (by omega)
 have m2:=ywa x.Ways.length (wm1 x k) (by omega) (by omega)
 have m3:=ytK x.Works (wm2 x k) (by omega) (by omega)
 have m4:=yqF x.Movers (wm3 x k) (by omega) (by omega)
 have m5:=ylK x.Arrived (wm4 x k) (by omega) (by omega)
 have m6:=yh1 x.Entered.length (wm5 x k) (by omega) (by omega)
 have m7:=ysr x.Tariff x.Tariff.Base x.Tariff.PerArea (wm6 x k) (by omega) (by omega)
 have m8:=ysf x.Book.length (wm7 x k) (by omega) (by omega)
 have m9:=yol x.Passings (wm8 x k) (by omega) (by omega)
 rw [← e1] at m1; rw [← e2] at m2; rw [← e3] at m3; rw [← e4] at m4; rw [← e5] at m5; rw [← e6] at m6; rw [← e7] at m7; rw [← e8] at m8; rw [← e9] at m9
 have n1 : (wm1 x k < 0) = False:=by simp; omega
 have n2 : (wm2 x k < 0) = False:=by simp; omega
 have n3 : (wm3 x k < 0) = False:=by simp; omega
 have n4 : (wm4 x k < 0) = False:=by simp; omega
 have n5 : (wm5 x k < 0) = False:=by simp; omega
 have n6 : (wm6 x k < 0) = False:=by simp; omega
 have n7 : (wm7 x k < 0) = False:=by simp; omega
 have n8 : (wm8 x k < 0) = False:=by simp; omega
 have n9 : (wm9 x k < 0) = False:=by simp; omega
 clear e1 e2 e3 e4 e5 e6 e7 e8 e9
 unfold yAe
 refine yh yjM ?_
 simp -dsimp -implicitDefEqProofs
 refine yc m1 ?_
 simp -dsimp -implicitDefEqProofs [n1]
 refine yc m2 ?_
 simp -dsimp -implicitDefEqProofs [n2]
 refine yc m3 ?_
 simp -dsimp -implicitDefEqProofs [n3]
 refine yc m4 ?_
 simp -dsimp -implicitDefEqProofs [n4]
 refine yc m5 ?_
 simp -dsimp -implicitDefEqProofs [n5]
 refine yc m6 ?_
 simp -dsimp -implicitDefEqProofs [n6]
 refine yc m7 ?_
 simp -dsimp -implicitDefEqProofs [n7]
 refine yc m8 ?_
 simp -dsimp -implicitDefEqProofs [n8]
 refine yc m9 ?_
 simp -dsimp -implicitDefEqProofs [n9]
theorem yAl (x : Waterway) (k : Int) : wm9 x k ≤ k + 27 * (ycp x : Int):=by
 have a1:=ydt yum x.Reaches
 have a2:=ydt yvC x.Works
 have a3:=ydt ytr x.Movers
 have a4:=ydt ymK x.Arrived
 have a5:=ydt yrm x.Passings
 have b1 : ydQ x.Reaches = yd0 yaZ x.Reaches:=rfl
 have b2 : yeJ x.Works = yd0 yg5 x.Works:=rfl
 have b3 : yiG x.Movers = yd0 ygb x.Movers:=rfl
 have b4 : yf0 x.Arrived = yd0 yci x.Arrived:=rfl
 have b5 : yhy x.Passings = yd0 ydZ x.Passings:=rfl
 have c1 : yox x.Ways = x.Ways.length:=rfl
 have c2 : ydD x.Entered = x.Entered.length:=rfl
 have c3 : ykt x.Book = x.Book.length:=rfl
 have c4 : ydD x.Tariff.PerClass = x.Tariff.PerClass.length:=rfl
 have c5 : ydD x.Tariff.Weights = x.Tariff.Weights.length:=rfl
 simp only [wm1,wm2,wm3,wm4,wm5,wm6,wm7,wm8,wm9,nT,ycp,yhC]
 omega
theorem yrQ {α : Type} {f : Int → α → List C} {n : α → Nat} {k : Int} {xs : List α} : (yaA f n k xs).take xs.length = yaA f n k xs:=List.take_of_length_le (by rw [yH]; exact Nat.le_refl _)
theorem yy0 (r : Reach) (a : Int) : yaZ (ybp r a) = yaZ r:=by
 have : (ybp r a).Table.length = r.Table.length ∧ (ybp r a).Pipe.length = r.Pipe.length:=by
  unfold ybp
  split
  ·split
   ·exact ⟨rfl,rfl⟩
   ·exact ⟨rfl,by simp⟩
  ·exact ⟨rfl,rfl⟩
 unfold yaZ yhw ydD; omega
def ycS : Nat → Nat
 | 0=>0
 | m + 1=>if (ycS m + 1) * (ycS m + 1) ≤ m + 1 then ycS m + 1 else ycS m
theorem ypI : ∀ m : Nat,ycS m * ycS m ≤ m ∧ m < (ycS m + 1) * (ycS m + 1)
 | 0=>by simp [ycS]
 | m + 1=>by
  have ih:=ypI m
  unfold ycS
  split
  ·rename_i h
   refine ⟨h,?_⟩
   have : (ycS m + 1 + 1) * (ycS m + 1 + 1) = (ycS m + 1) * (ycS m + 1) + 2 * (ycS m + 1) + 1:=by
    rw [Nat.add_mul,Nat.mul_add]; omega
   omega
  ·omega
theorem yuV {m r : Nat} (h1 : r * r ≤ m) (h2 : m < (r + 1) * (r + 1)) : ycS m = r:=by
 obtain ⟨a,b⟩:=ypI m
 rcases Nat.lt_trichotomy (ycS m) r with h | h | h
 ·have : (ycS m + 1) * (ycS m + 1) ≤ r * r:=Nat.mul_le_mul h h
  omega
 ·exact h
 ·have : (r + 1) * (r + 1) ≤ ycS m * ycS m:=Nat.mul_le_mul h h
  omega
def yb7 (n : Int) : Int:=if 0 ≤ n ∧ n ≤ 1000000000000000000 then ycS n.toNat else -1
theorem yuZ (n : Int) : yB Tryz.prog 193 [.c (.i n)] (.c (.i (yb7 n))):=by
 refine yh yqM ?_
 simp -dsimp -implicitDefEqProofs
 refine yc (yD n 0 1000000000000000000) ?_
 cases hin : inRange n 0 1000000000000000000 with
 | false =>
  simp -dsimp -implicitDefEqProofs
  have : ¬ (0 ≤ n ∧ n ≤ 1000000000000000000):=fun h=>by rw [yF.2 h] at hin; cases hin
  simp only [yb7,if_neg this]
 | true =>
 have hr:=yF.1 hin
 simp -dsimp -implicitDefEqProofs
 refine yg (ι:=Nat × Nat) (fun p=>p.1 < p.2 ∧ p.2 ≤ 1000000001 ∧ p.1 * p.1 ≤ n.toNat ∧ n.toNat < p.2 * p.2) (fun p=>yO [(0,.c (.i n)),(3,.c (.i p.1)),(4,.c (.i p.2))] []) (fun p=>p.2 - p.1) (0,1000000001) (by simp; omega) (by apply yj <;> simp) ?_
 rintro ⟨lo,hi⟩ ⟨h1,h2,h3,h4⟩
 simp only at h1 h2 h3 h4
 simp -dsimp -implicitDefEqProofs
 refine ⟨by unfold inI; omega,fun hg=>?_,fun hg=>?_⟩
 ·obtain ⟨m,hm⟩ : ∃ m,m = (lo + hi) / 2:=⟨_,rfl⟩
  have em : ((lo : Int) + hi).tdiv 2 = (m : Int):=by rw [Int.tdiv_eq_ediv_of_nonneg (by omega)]; omega
  have hmm : (m : Int) * m = ((m * m : Nat) : Int):=(Int.natCast_mul m m).symm
  have hb : m * m ≤ 1000000000 * 1000000000:=Nat.mul_le_mul (by omega) (by omega)
  rw [em,hmm]
  refine ⟨by unfold inI; omega,by unfold inI; omega,by unfold inI; omega,fun hc=>?_,fun hc=>?_⟩
  ·refine ⟨m,hi,⟨by omega,h2,by omega,h4⟩,by omega,?_⟩
   apply yj <;> simp
  ·refine ⟨lo,m,⟨by omega,by omega,h3,by omega⟩,by omega,?_⟩
   apply yj <;> simp
 ·have : hi = lo + 1:=by omega
  subst this
  simp only [yb7,if_pos hr]
  rw [yuV h3 h4]
theorem yuT (n : Int) : yB Tryz.prog 247 [.c (.i n)] (.c (.i (yb7 n))):=by
 refine yh yqG ?_
 simp -dsimp -implicitDefEqProofs
 refine ⟨fun h0=>⟨fun h1=>?_,fun h1=>?_⟩,fun h0=>?_⟩
 ·have : ¬ (0 ≤ n ∧ n ≤ 1000000000000000000):=by omega
  simp only [yb7,if_neg this]
 rotate_left
 ·have : ¬ (0 ≤ n ∧ n ≤ 1000000000000000000):=by omega
  simp only [yb7,if_neg this]
 have hr : 0 ≤ n ∧ n ≤ 1000000000000000000:=by omega
 refine yg (ι:=Nat × Nat) (fun p=>p.1 ≤ p.2 ∧ p.2 ≤ 1000000000 ∧ p.1 * p.1 ≤ n.toNat ∧ n.toNat < (p.2 + 1) * (p.2 + 1)) (fun p=>yO [(0,.c (.i n)),(3,.c (.i p.1)),(4,.c (.i p.2))] []) (fun p=>p.2 - p.1) (0,1000000000) (by simp; omega) (by apply yj <;> simp) ?_
 rintro ⟨lo,hi⟩ ⟨h1,h2,h3,h4⟩
 simp only at h1 h2 h3 h4
 simp -dsimp -implicitDefEqProofs
 refine ⟨fun hg=>?_,fun hg=>?_⟩
 ·obtain ⟨m,hm⟩ : ∃ m,m = (lo + hi + 1) / 2:=⟨_,rfl⟩
  have em : ((lo : Int) + hi + 1).tdiv 2 = (m : Int):=by rw [Int.tdiv_eq_ediv_of_nonneg (by omega)]; omega
  have hmm : (m : Int) * m = ((m * m : Nat) : Int):=(Int.natCast_mul m m).symm
  have hb : m * m ≤ 1000000000 * 1000000000:=Nat.mul_le_mul (by omega) (by omega)
  rw [em,hmm]
  refine ⟨by unfold inI; omega,by unfold inI; omega,by unfold inI; omega,by unfold inI; omega,fun hc=>?_,fun hc=>?_⟩
  ·have h4i : n < ((hi : Int) + 1) * (hi + 1):=by
    have : ((hi : Int) + 1) * (hi + 1) = (((hi + 1) * (hi + 1) : Nat) : Int):=by simp
    omega
   refine ⟨m,hi,⟨by omega,h2,by omega,h4i⟩,by omega,?_⟩
   apply yj <;> simp
  ·refine ⟨by unfold inI; omega,lo,m - 1,⟨by omega,by omega,by omega,by rw [show ((m - 1 : Nat) : Int) + 1 = m by omega,hmm]; omega⟩,by omega,?_⟩
   apply yj <;> simp <;> omega
 ·have : hi = lo:=by omega
  subst this
  simp only [yb7,if_pos hr]
  rw [yuV h3 h4]
theorem yl3 {a b A B : Int} (ha : 0 ≤ a ∧ a ≤ A) (hb : 0 ≤ b ∧ b ≤ B) : 0 ≤ a * b ∧ a * b ≤ A * B :=
 ⟨Int.mul_nonneg ha.1 hb.1,Int.mul_le_mul ha.2 hb.2 hb.1 (by omega)⟩
def lev (x : Int) : Bool:=inRange x 0 100000
structure WeirFacts (w : Weir) : Prop where
 gts : 1 ≤ w.Gates ∧ w.Gates ≤ 8
 opn : 0 ≤ w.Open ∧ w.Open ≤ 10 * w.Gates
 stp : 1 ≤ w.Step ∧ w.Step ≤ 80
 crs : 0 ≤ w.Crest ∧ w.Crest ≤ 100000
 wid : 1 ≤ w.Width ∧ w.Width ≤ 1000
theorem ydY {w : Weir} (h : yaH w = true) : WeirFacts w:=by
 simp only [yaH,Bool.and_eq_true] at h
 obtain ⟨⟨⟨⟨h1,h2⟩,h3⟩,h4⟩,h5⟩:=h
 exact ⟨yF.1 h1,yF.1 h2,yF.1 h3,yF.1 h4,yF.1 h5⟩
structure RuleFacts (r : Rule) : Prop where
 low : 0 ≤ r.Low ∧ r.Low ≤ 100000
 hig : 0 ≤ r.High ∧ r.High ≤ 100000
 fld : 0 ≤ r.Flood ∧ r.Flood ≤ 100000
 lh : r.Low < r.High
 hf : r.High ≤ r.Flood
theorem yrx {r : Rule} (h : yca r = true) : RuleFacts r:=by
 simp only [yca,Bool.and_eq_true,decide_eq_true_eq] at h
 obtain ⟨⟨⟨⟨h1,h2⟩,h3⟩,h4⟩,h5⟩:=h
 exact ⟨yF.1 h1,yF.1 h2,yF.1 h3,h4,h5⟩
theorem yxl {n : Int} (h : n ≤ 1000000) : -1 ≤ yb7 n ∧ yb7 n ≤ 1000:=by
 unfold yb7
 split
 ·rename_i h2
  obtain ⟨a,b⟩:=ypI n.toNat
  refine ⟨by omega,?_⟩
  rcases Nat.lt_or_ge 1000 (ycS n.toNat) with e | e
  ·have : 1001 * 1001 ≤ ycS n.toNat * ycS n.toNat:=Nat.mul_le_mul e e
   omega
  ·omega
 ·omega
theorem yoK {n : Int} (h0 : 0 ≤ n) (h : n ≤ 1000000) : 0 ≤ yb7 n ∧ yb7 n ≤ 1000:=by
 refine ⟨?_,(yxl h).2⟩
 unfold yb7
 rw [if_pos ⟨h0,by omega⟩]; omega
def ycb (w : Weir) (up down : Int) : Int:=up - (if w.Crest < down then down else w.Crest)
def yge (w : Weir) (up down : Int) : Bool:=yaH w && lev up && lev down && decide (0 < ycb w up down)
def yaD (w : Weir) (up down : Int) : Int:=if yge w up down then (w.Open * w.Width * yb7 (ycb w up down)).tdiv 10 else 0
def yn4 (w : Weir) (o : Int) : Int :=
 let z:=if w.Open + w.Step < o then w.Open + w.Step else o
 if z < w.Open - w.Step then w.Open - w.Step else z
@[simp] def Weir.opened (w : Weir) (o : Int) : Weir:=⟨w.Gates,o,w.Step,w.Crest,w.Width⟩
def ybU (w : Weir) (o : Int) : Weir:=if yaH w && inRange o 0 (10 * w.Gates) then w.opened (yn4 w o) else w
def yfC (w : Weir) (up down q : Int) : Nat → Int → Int
 | 0,o=>o
 | m + 1,o=>if q ≤ yaD (w.opened o) up down then o else yfC w up down q m (o + 1)
def ycK (w : Weir) (up down q : Int) : Int:=if yaH w && lev up && lev down then yfC w up down q (10 * w.Gates).toNat 0 else 0
theorem yrA {w : Weir} {up down q : Int} {k n : Nat} (h : k ≤ n) (hg : q ≤ yaD (w.opened k) up down) : yfC w up down q (n - k) k = k:=by
 cases hm : n - k with
 | zero=>rfl
 | succ m=>rw [yfC,if_pos hg]
theorem yt5 {w : Weir} {up down q : Int} {k n : Nat} (h : k < n) (hg : yaD (w.opened k) up down < q) : yfC w up down q (n - (k + 1)) ((k + 1 : Nat) : Int) = yfC w up down q (n - k) k:=by
 rw [show n - k = (n - (k + 1)) + 1 by omega,yfC,if_neg (by omega)]; rfl
def wants (r : Rule) (l q : Int) : Bool:=yca r && inRange q 0 1000000000 && lev l && decide (r.Low < l)
def yaU (r : Rule) (l q : Int) : Int :=
 if wants r l q then (if 2 * q < (q * (l - r.Low)).tdiv (r.High - r.Low) then 2 * q else (q * (l - r.Low)).tdiv (r.High - r.Low)) else 0
def ybC (w : Weir) (r : Rule) (up down q : Int) : Bool:=yaH w && yca r && inRange q 0 1000000000 && lev up && lev down
def ybb (w : Weir) (r : Rule) (up down q : Int) : Weir :=
 if ybC w r up down q then (if r.Flood ≤ up then ybU w (10 * w.Gates) else ybU w (ycK w up down (yaU r up q))) else w
def yau (a b : Reach) (w : Weir) : Reach × Reach × Int :=
 if yR a && yR b && yaH w then ybK a b (yaD w (yal a) (yal b)) (yac a.Table w.Crest) else (a,b,0)
theorem ygM (w : Weir) (up down : Int) : yB Tryz.prog 199 [.agg (w.enc.map .c),.c (.i up),.c (.i down)] (.c (.i (yaD w up down))):=by
 refine yh ynM ?_
 have no : yge w up down = false → yaD w up down = 0:=fun h=>by simp [yaD,h]
 simp -dsimp -implicitDefEqProofs
 refine yc (ydW w) ?_
 cases h1 : yaH w with
 | false=>simp -dsimp -implicitDefEqProofs; exact no (by simp [yge,h1])
 | true =>
 simp -dsimp -implicitDefEqProofs
 refine yc (yC up 0 100000) ?_
 cases h2 : inRange up 0 100000 with
 | false=>simp -dsimp -implicitDefEqProofs; exact no (by simp [yge,lev,h2])
 | true =>
 simp -dsimp -implicitDefEqProofs
 refine yc (yC down 0 100000) ?_
 cases h3 : inRange down 0 100000 with
 | false=>simp -dsimp -implicitDefEqProofs; exact no (by simp [yge,lev,h3])
 | true =>
 have f:=ydY h1
 have f1:=f.gts; have f2:=f.opn; have f3:=f.wid; have f4:=f.crs
 have u:=yF.1 h2; have d:=yF.1 h3
 simp -dsimp -implicitDefEqProofs
 have hh : ycb w up down = up - (if w.Crest < down then down else w.Crest):=rfl
 have hd : -100000 ≤ ycb w up down ∧ ycb w up down ≤ 100000:=by rw [hh]; split <;> omega
 rw [← hh]
 generalize (if w.Crest < down then down else w.Crest) = c at *
 refine ⟨by unfold inI; omega,?_⟩
 by_cases h4 : ycb w up down ≤ 0
 ·have no2:=no (by simp [yge]; omega)
  refine ⟨fun h5=>?_,fun h5=>?_⟩ <;> first | exact no2 | omega
 ·have m1:=yl3 (a:=w.Open) (b:=w.Width) (A:=80) (B:=1000) (by omega) (by omega)
  have r1:=yoK (n:=ycb w up down) (by omega) (by omega)
  have m2:=yl3 (a:=w.Open * w.Width) (b:=yb7 (ycb w up down)) (A:=80000) (B:=1000) (by omega) r1
  have m3 : 0 ≤ (w.Open * w.Width * yb7 (ycb w up down)).tdiv 10 ∧ (w.Open * w.Width * yb7 (ycb w up down)).tdiv 10 ≤ 8000000:=by
   rw [Int.tdiv_eq_ediv_of_nonneg m2.1]; omega
  have yes : yaD w up down = (w.Open * w.Width * yb7 (ycb w up down)).tdiv 10:=by
   have : yge w up down = true:=by simp [yge,lev,h1,h2,h3]; omega
   simp [yaD,this]
  refine ⟨fun h5=>(by omega),fun h5=>?_⟩
  refine ⟨by unfold inI; omega,?_⟩
  refine yaC (yuT (ycb w up down)) ?_
  simp -dsimp -implicitDefEqProofs
  exact ⟨by unfold inI; omega,by unfold inI; omega,yes⟩
theorem ygS (w : Weir) (up down : Int) : yB Tryz.prog 107 [.agg (w.enc.map .c),.c (.i up),.c (.i down)] (.c (.i (yaD w up down))):=by
 refine yh ynr ?_
 have no : yge w up down = false → yaD w up down = 0:=fun h=>by simp [yaD,h]
 simp -dsimp -implicitDefEqProofs
 refine yc (yd2 w) ?_
 cases h1 : yaH w with
 | false=>simp -dsimp -implicitDefEqProofs; exact no (by simp [yge,h1])
 | true =>
 simp -dsimp -implicitDefEqProofs
 refine yc (ybj up) ?_
 cases h2 : inRange up 0 100000 with
 | false=>simp -dsimp -implicitDefEqProofs; exact no (by simp [yge,lev,h2])
 | true =>
 simp -dsimp -implicitDefEqProofs
 refine yc (ybj down) ?_
 cases h3 : inRange down 0 100000 with
 | false=>simp -dsimp -implicitDefEqProofs; exact no (by simp [yge,lev,h3])
 | true =>
 have f:=ydY h1
 have f1:=f.gts; have f2:=f.opn; have f3:=f.wid; have f4:=f.crs
 have u:=yF.1 h2; have d:=yF.1 h3
 simp -dsimp -implicitDefEqProofs
 have hh : ycb w up down = up - (if w.Crest < down then down else w.Crest):=rfl
 have hd : -100000 ≤ ycb w up down ∧ ycb w up down ≤ 100000:=by rw [hh]; split <;> omega
 rw [← hh]
 generalize (if w.Crest < down then down else w.Crest) = c at *
 refine ⟨by unfold inI; omega,?_⟩
 by_cases h4 : ycb w up down ≤ 0
 ·have no2:=no (by simp [yge]; omega)
  refine ⟨fun h5=>?_,fun h5=>?_⟩ <;> first | exact no2 | omega
 ·have m1:=yl3 (a:=w.Open) (b:=w.Width) (A:=80) (B:=1000) (by omega) (by omega)
  have r1:=yoK (n:=ycb w up down) (by omega) (by omega)
  have m2:=yl3 (a:=w.Open * w.Width) (b:=yb7 (ycb w up down)) (A:=80000) (B:=1000) (by omega) r1
  have m3 : 0 ≤ (w.Open * w.Width * yb7 (ycb w up down)).tdiv 10 ∧ (w.Open * w.Width * yb7 (ycb w up down)).tdiv 10 ≤ 8000000:=by
   rw [Int.tdiv_eq_ediv_of_nonneg m2.1]; omega
  have yes : yaD w up down = (w.Open * w.Width * yb7 (ycb w up down)).tdiv 10:=by
   have : yge w up down = true:=by simp [yge,lev,h1,h2,h3]; omega
   simp [yaD,this]
  refine ⟨fun h5=>(by omega),fun h5=>?_⟩
  refine ⟨by unfold inI; omega,?_⟩
  refine yaC (yuZ (ycb w up down)) ?_
  simp -dsimp -implicitDefEqProofs
  exact ⟨by unfold inI; omega,by unfold inI; omega,yes⟩
theorem ywE (n a b : Int) : yB Tryz.prog 261 [.c (.i n),.c (.i a),.c (.i b)] (.c (.i (if b < a ∨ n < a then a else if b < n then b else n))):=by
 refine yh ytu ?_
 simp -dsimp -implicitDefEqProofs
 refine ⟨fun h1=>⟨fun h2 h3 h4=>by omega,fun h2=>⟨fun h3=>?_,fun h3=>?_⟩⟩,fun h1 h2 h3=>by omega⟩
 ·rw [if_neg (by omega),if_pos h3]
 ·rw [if_neg (by omega),if_neg (by omega)]
theorem yjZ (w : Weir) (o : Int) : yB Tryz.prog 242 [.agg (w.enc.map .c),.c (.i o)] (.agg ((ybU w o).enc.map .c)):=by
 refine yh ynD ?_
 have no : (yaH w && inRange o 0 (10 * w.Gates)) = false → ybU w o = w:=fun h=>by simp [ybU,h]
 simp -dsimp -implicitDefEqProofs
 refine yc (ydW w) ?_
 cases h1 : yaH w with
 | false=>simp -dsimp -implicitDefEqProofs; simp [no (by simp [h1])]
 | true =>
 have f:=ydY h1
 have f1:=f.gts; have f2:=f.opn; have f3:=f.stp
 simp -dsimp -implicitDefEqProofs
 refine ⟨by unfold inI; omega,?_⟩
 refine yc (yC o 0 (10 * w.Gates)) ?_
 cases h2 : inRange o 0 (10 * w.Gates) with
 | false=>simp -dsimp -implicitDefEqProofs; simp [no (by simp [h2])]
 | true =>
 have u:=yF.1 h2
 have yes : ybU w o = w.opened (yn4 w o):=by simp [ybU,h1,h2]
 rw [yes]
 simp -dsimp -implicitDefEqProofs
 refine ⟨by unfold inI; omega,by unfold inI; omega,?_⟩
 refine yc (ywE o (w.Open - w.Step) (w.Open + w.Step)) ?_
 simp -dsimp -implicitDefEqProofs
 unfold yn4
 simp only
 repeat' split
 all_goals omega
theorem ykj (w : Weir) (o : Int) : yB Tryz.prog 188 [.agg (w.enc.map .c),.c (.i o)] (.agg ((ybU w o).enc.map .c)):=by
 refine yh ym5 ?_
 have no : (yaH w && inRange o 0 (10 * w.Gates)) = false → ybU w o = w:=fun h=>by simp [ybU,h]
 simp -dsimp -implicitDefEqProofs
 refine yc (yd2 w) ?_
 cases h1 : yaH w with
 | false=>simp -dsimp -implicitDefEqProofs; simp [no (by simp [h1])]
 | true =>
 have f:=ydY h1
 have f1:=f.gts; have f2:=f.opn; have f3:=f.stp
 simp -dsimp -implicitDefEqProofs
 refine ⟨by unfold inI; omega,?_⟩
 refine yc (yD o 0 (10 * w.Gates)) ?_
 cases h2 : inRange o 0 (10 * w.Gates) with
 | false=>simp -dsimp -implicitDefEqProofs; simp [no (by simp [h2])]
 | true =>
 have u:=yF.1 h2
 have yes : ybU w o = w.opened (yn4 w o):=by simp [ybU,h1,h2]
 rw [yes]
 simp -dsimp -implicitDefEqProofs
 refine ⟨by unfold inI; omega,by unfold inI; omega,?_⟩
 unfold yn4
 simp only
 repeat' split
 all_goals omega
theorem ysh (w : Weir) (up down q : Int) : yB Tryz.prog 243 [.agg (w.enc.map .c),.c (.i up),.c (.i down),.c (.i q)] (.c (.i (ycK w up down q))):=by
 refine yh yp3 ?_
 have no : (yaH w && lev up && lev down) = false → ycK w up down q = 0:=fun h=>by simp [ycK,h]
 simp -dsimp -implicitDefEqProofs
 refine yc (ydW w) ?_
 cases h1 : yaH w with
 | false=>simp -dsimp -implicitDefEqProofs; exact no (by simp [h1])
 | true =>
 simp -dsimp -implicitDefEqProofs
 refine yc (yC up 0 100000) ?_
 cases h2 : inRange up 0 100000 with
 | false=>simp -dsimp -implicitDefEqProofs; exact no (by simp [lev,h2])
 | true =>
 simp -dsimp -implicitDefEqProofs
 refine yc (yC down 0 100000) ?_
 cases h3 : inRange down 0 100000 with
 | false=>simp -dsimp -implicitDefEqProofs; exact no (by simp [lev,h3])
 | true =>
 have f:=ydY h1
 have f1:=f.gts; have f2:=f.opn; have f3:=f.stp
 obtain ⟨n,hn⟩ : ∃ n : Nat,n = (10 * w.Gates).toNat:=⟨_,rfl⟩
 have hn2 : 10 * w.Gates = (n : Int):=by omega
 have yes : ycK w up down q = yfC w up down q n 0:=by rw [hn]; simp [ycK,h1,h2,h3,lev]
 rw [yes]
 simp -dsimp -implicitDefEqProofs
 rw [hn2]
 refine ⟨by unfold inI; omega,?_⟩
 refine yg (ι:=Nat × Int) (fun z=>z.1 ≤ n + 1 ∧ (z.1 ≤ n → yfC w up down q (n - z.1) z.1 = yfC w up down q n 0) ∧ (n < z.1 → yfC w up down q n 0 = n)) (fun z=>yO [(1,.c (.i up)),(2,.c (.i down)),(3,.c (.i q)),(4,.box 4 0),(8,.c (.i 0)),(9,.c (.i n)),(10,.c (.i z.1))] [(4,.box [.c (.i w.Gates),.c (.i z.2),.c (.i w.Step),.c (.i w.Crest),.c (.i w.Width)])]) (fun z=>n + 1 - z.1) (0,w.Open) ⟨by simp,by simp,by simp⟩ (by apply yj <;> simp [Obj.leO]) ?_
 rintro ⟨k,o⟩ ⟨h0,hk,he⟩
 simp only at h0 hk he
 rcases Nat.lt_or_ge n k with hlt | hge
 ·have q1 : ((k : Int) ≤ (n : Int)) = False:=by simp; omega
  have q2 : (k ≤ n) = False:=by simp; omega
  simp -dsimp -implicitDefEqProofs [q1,q2]
  exact (he hlt)
 ·have q1 : ((k : Int) ≤ (n : Int)) = True:=by simp; omega
  have q2 : (k ≤ n) = True:=by simp; omega
  simp -dsimp -implicitDefEqProofs [q1,q2]
  refine yc (ygM (w.opened k) up down) ?_
  simp -dsimp -implicitDefEqProofs
  have hok:=hk hge
  refine ⟨fun hg=>?_,fun hg=>?_⟩
  ·rw [← hok,yrA hge hg]
  ·refine ⟨by unfold inI; omega,k + 1,⟨by omega,fun h=>by rw [yt5 (by omega) hg,hok],fun h=>?_⟩,by omega,k,?_⟩
   ·rw [← hok,show k = n by omega]; simp [yfC]
   ·apply yj <;> simp [Obj.leO]
theorem ysH (w : Weir) (up down q : Int) : yB Tryz.prog 189 [.agg (w.enc.map .c),.c (.i up),.c (.i down),.c (.i q)] (.c (.i (ycK w up down q))):=by
 refine yh yp2 ?_
 have no : (yaH w && lev up && lev down) = false → ycK w up down q = 0:=fun h=>by simp [ycK,h]
 simp -dsimp -implicitDefEqProofs
 refine yc (yd2 w) ?_
 cases h1 : yaH w with
 | false=>simp -dsimp -implicitDefEqProofs; exact no (by simp [h1])
 | true =>
 simp -dsimp -implicitDefEqProofs
 refine yc (ybj up) ?_
 cases h2 : inRange up 0 100000 with
 | false=>simp -dsimp -implicitDefEqProofs; exact no (by simp [lev,h2])
 | true =>
 simp -dsimp -implicitDefEqProofs
 refine yc (ybj down) ?_
 cases h3 : inRange down 0 100000 with
 | false=>simp -dsimp -implicitDefEqProofs; exact no (by simp [lev,h3])
 | true =>
 have f:=ydY h1
 have f1:=f.gts; have f2:=f.opn; have f3:=f.stp
 obtain ⟨n,hn⟩ : ∃ n : Nat,n = (10 * w.Gates).toNat:=⟨_,rfl⟩
 have hn2 : 10 * w.Gates = (n : Int):=by omega
 have yes : ycK w up down q = yfC w up down q n 0:=by rw [hn]; simp [ycK,h1,h2,h3,lev]
 rw [yes]
 simp -dsimp -implicitDefEqProofs
 refine yg (ι:=Nat × Int) (fun z=>z.1 ≤ n ∧ yfC w up down q (n - z.1) z.1 = yfC w up down q n 0) (fun z=>yO [(1,.c (.i up)),(2,.c (.i down)),(3,.c (.i q)),(4,.box 4 0),(8,.c (.i 0)),(9,.c (.i z.1))] [(4,.box [.c (.i w.Gates),.c (.i z.2),.c (.i w.Step),.c (.i w.Crest),.c (.i w.Width)])]) (fun z=>n - z.1) (0,w.Open) ⟨by simp,by simp⟩ (by apply yj <;> simp [Obj.leO]) ?_
 rintro ⟨k,o⟩ ⟨h0,hk⟩
 simp only at h0 hk
 rcases Nat.lt_or_ge k n with hlt | hge
 ·have q1 : ((k : Int) < (n : Int)) = True:=by simp; omega
  simp -dsimp -implicitDefEqProofs [hn2,q1,hlt]
  refine ⟨by unfold inI; omega,?_⟩
  refine yc (ygS (w.opened k) up down) ?_
  simp -dsimp -implicitDefEqProofs
  refine ⟨fun hg=>?_,fun hg=>?_⟩
  ·rw [← hk,yrA h0 hg]
  ·refine ⟨by unfold inI; omega,k + 1,⟨by omega,by rw [yt5 hlt hg,hk]⟩,by omega,k,?_⟩
   apply yj <;> simp [Obj.leO]
 ·have q1 : ((k : Int) < (n : Int)) = False:=by simp; omega
  have q2 : (k < n) = False:=by simp; omega
  simp -dsimp -implicitDefEqProofs [hn2,q1,q2]
  refine ⟨by unfold inI; omega,?_⟩
  rw [← hk,show k = n by omega]; simp [yfC]
theorem ynk (r : Rule) (l q : Int) : yB Tryz.prog 244 [.agg (r.enc.map .c),.c (.i l),.c (.i q)] (.c (.i (yaU r l q))):=by
 refine yh ylA ?_
 have no : wants r l q = false → yaU r l q = 0:=fun h=>by simp [yaU,h]
 simp -dsimp -implicitDefEqProofs
 refine yc (yji r) ?_
 cases h1 : yca r with
 | false=>simp -dsimp -implicitDefEqProofs; exact no (by simp [wants,h1])
 | true =>
 simp -dsimp -implicitDefEqProofs
 refine yc (yC q 0 1000000000) ?_
 cases h2 : inRange q 0 1000000000 with
 | false=>simp -dsimp -implicitDefEqProofs; exact no (by simp [wants,h2])
 | true =>
 simp -dsimp -implicitDefEqProofs
 refine yc (yC l 0 100000) ?_
 cases h3 : inRange l 0 100000 with
 | false=>simp -dsimp -implicitDefEqProofs; exact no (by simp [wants,lev,h3])
 | true =>
 have f:=yrx h1
 have f1:=f.low; have f2:=f.hig; have f3:=f.lh
 have u:=yF.1 h2; have d:=yF.1 h3
 by_cases h4 : l ≤ r.Low
 ·simp -dsimp -implicitDefEqProofs [h4]
  exact no (by simp [wants]; omega)
 have h4':=Int.not_le.1 h4
 have yes : yaU r l q = if 2 * q < (q * (l - r.Low)).tdiv (r.High - r.Low) then 2 * q else (q * (l - r.Low)).tdiv (r.High - r.Low):=by
  have : wants r l q = true:=by simp [wants,lev,h1,h2,h3,h4']
  simp [yaU,this]
 have m1:=yl3 (a:=q) (b:=l - r.Low) (A:=1000000000) (B:=100000) (by omega) (by omega)
 have m2 : 0 ≤ (q * (l - r.Low)).tdiv (r.High - r.Low) ∧ (q * (l - r.Low)).tdiv (r.High - r.Low) ≤ 100000000000000:=by
  rw [Int.tdiv_eq_ediv_of_nonneg m1.1]
  refine ⟨Int.ediv_nonneg m1.1 (by omega),Int.le_trans (Int.ediv_le_self _ m1.1) (by omega)⟩
 rw [yes]
 simp -dsimp -implicitDefEqProofs [h4,h4']
 exact ⟨by unfold inI; omega,by unfold inI; omega,by unfold inI; omega,by omega,by unfold inI; omega,by unfold inI; omega⟩
theorem yni (r : Rule) (l q : Int) : yB Tryz.prog 190 [.agg (r.enc.map .c),.c (.i l),.c (.i q)] (.c (.i (yaU r l q))):=by
 refine yh ykY ?_
 have no : wants r l q = false → yaU r l q = 0:=fun h=>by simp [yaU,h]
 simp -dsimp -implicitDefEqProofs
 refine yc (yiX r) ?_
 cases h1 : yca r with
 | false=>simp -dsimp -implicitDefEqProofs; exact no (by simp [wants,h1])
 | true =>
 simp -dsimp -implicitDefEqProofs
 refine yc (yD q 0 1000000000) ?_
 cases h2 : inRange q 0 1000000000 with
 | false=>simp -dsimp -implicitDefEqProofs; exact no (by simp [wants,h2])
 | true =>
 simp -dsimp -implicitDefEqProofs
 refine yc (ybj l) ?_
 cases h3 : inRange l 0 100000 with
 | false=>simp -dsimp -implicitDefEqProofs; exact no (by simp [wants,lev,h3])
 | true =>
 have f:=yrx h1
 have f1:=f.low; have f2:=f.hig; have f3:=f.lh
 have u:=yF.1 h2; have d:=yF.1 h3
 by_cases h4 : l ≤ r.Low
 ·simp -dsimp -implicitDefEqProofs [h4]
  exact no (by simp [wants]; omega)
 have h4':=Int.not_le.1 h4
 have yes : yaU r l q = if 2 * q < (q * (l - r.Low)).tdiv (r.High - r.Low) then 2 * q else (q * (l - r.Low)).tdiv (r.High - r.Low):=by
  have : wants r l q = true:=by simp [wants,lev,h1,h2,h3,h4']
  simp [yaU,this]
 have m1:=yl3 (a:=q) (b:=l - r.Low) (A:=1000000000) (B:=100000) (by omega) (by omega)
 have m2 : 0 ≤ (q * (l - r.Low)).tdiv (r.High - r.Low) ∧ (q * (l - r.Low)).tdiv (r.High - r.Low) ≤ 100000000000000:=by
  rw [Int.tdiv_eq_ediv_of_nonneg m1.1]
  refine ⟨Int.ediv_nonneg m1.1 (by omega),Int.le_trans (Int.ediv_le_self _ m1.1) (by omega)⟩
 rw [yes]
 simp -dsimp -implicitDefEqProofs [h4,h4']
 refine ⟨by unfold inI; omega,by unfold inI; omega,by unfold inI; omega,by unfold inI; omega,by omega,by unfold inI; omega,?_⟩
 repeat' split
 all_goals omega
theorem yoD (w : Weir) (r : Rule) (up down q : Int) : yB Tryz.prog 196 [.agg (w.enc.map .c),.agg (r.enc.map .c),.c (.i up),.c (.i down),.c (.i q)] (.agg ((ybb w r up down q).enc.map .c)):=by
 refine yh yl9 ?_
 have no : ybC w r up down q = false → ybb w r up down q = w:=fun h=>by simp [ybb,h]
 simp -dsimp -implicitDefEqProofs
 refine yc (ydW w) ?_
 cases h1 : yaH w with
 | false=>simp -dsimp -implicitDefEqProofs; simp [no (by simp [ybC,h1])]
 | true =>
 simp -dsimp -implicitDefEqProofs
 refine yc (yji r) ?_
 cases h2 : yca r with
 | false=>simp -dsimp -implicitDefEqProofs; simp [no (by simp [ybC,h2])]
 | true =>
 simp -dsimp -implicitDefEqProofs
 refine yc (yC q 0 1000000000) ?_
 cases h3 : inRange q 0 1000000000 with
 | false=>simp -dsimp -implicitDefEqProofs; simp [no (by simp [ybC,h3])]
 | true =>
 simp -dsimp -implicitDefEqProofs
 refine yc (yC up 0 100000) ?_
 cases h4 : inRange up 0 100000 with
 | false=>simp -dsimp -implicitDefEqProofs; simp [no (by simp [ybC,lev,h4])]
 | true =>
 simp -dsimp -implicitDefEqProofs
 refine yc (yC down 0 100000) ?_
 cases h5 : inRange down 0 100000 with
 | false=>simp -dsimp -implicitDefEqProofs; simp [no (by simp [ybC,lev,h5])]
 | true =>
 have f:=ydY h1
 have f1:=f.gts
 have hc : ybC w r up down q = true:=by simp [ybC,lev,h1,h2,h3,h4,h5]
 by_cases h6 : r.Flood ≤ up
 ·have yes : ybb w r up down q = ybU w (10 * w.Gates):=by simp [ybb,hc,h6]
  rw [yes]
  simp -dsimp -implicitDefEqProofs [h6]
  refine ⟨by unfold inI; omega,?_⟩
  refine yc (yjZ w (10 * w.Gates)) ?_
  simp -dsimp -implicitDefEqProofs
 ·have yes : ybb w r up down q = ybU w (ycK w up down (yaU r up q)):=by simp [ybb,hc,h6]
  rw [yes]
  simp -dsimp -implicitDefEqProofs [h6]
  refine yb1 (ynk r up q) ?_
  simp -dsimp -implicitDefEqProofs
  refine yb1 (ysh w up down (yaU r up q)) ?_
  simp -dsimp -implicitDefEqProofs
  refine yb1 (yjZ w (ycK w up down (yaU r up q))) ?_
  simp -dsimp -implicitDefEqProofs
theorem yql (w : Weir) (r : Rule) (up down q : Int) : yB Tryz.prog 103 [.agg (w.enc.map .c),.agg (r.enc.map .c),.c (.i up),.c (.i down),.c (.i q)] (.agg ((ybb w r up down q).enc.map .c)):=by
 refine yh ymj ?_
 have no : ybC w r up down q = false → ybb w r up down q = w:=fun h=>by simp [ybb,h]
 simp -dsimp -implicitDefEqProofs
 refine yc (yd2 w) ?_
 cases h1 : yaH w with
 | false=>simp -dsimp -implicitDefEqProofs; simp [no (by simp [ybC,h1])]
 | true =>
 simp -dsimp -implicitDefEqProofs
 refine yc (yiX r) ?_
 cases h2 : yca r with
 | false=>simp -dsimp -implicitDefEqProofs; simp [no (by simp [ybC,h2])]
 | true =>
 simp -dsimp -implicitDefEqProofs
 refine yc (yD q 0 1000000000) ?_
 cases h3 : inRange q 0 1000000000 with
 | false=>simp -dsimp -implicitDefEqProofs; simp [no (by simp [ybC,h3])]
 | true =>
 simp -dsimp -implicitDefEqProofs
 refine yc (ybj up) ?_
 cases h4 : inRange up 0 100000 with
 | false=>simp -dsimp -implicitDefEqProofs; simp [no (by simp [ybC,lev,h4])]
 | true =>
 simp -dsimp -implicitDefEqProofs
 refine yc (ybj down) ?_
 cases h5 : inRange down 0 100000 with
 | false=>simp -dsimp -implicitDefEqProofs; simp [no (by simp [ybC,lev,h5])]
 | true =>
 have f:=ydY h1
 have f1:=f.gts
 have hc : ybC w r up down q = true:=by simp [ybC,lev,h1,h2,h3,h4,h5]
 by_cases h6 : r.Flood ≤ up
 ·have yes : ybb w r up down q = ybU w (10 * w.Gates):=by simp [ybb,hc,h6]
  rw [yes]
  simp -dsimp -implicitDefEqProofs [h6]
  refine ⟨by unfold inI; omega,?_⟩
  refine yc (ykj w (10 * w.Gates)) ?_
  simp -dsimp -implicitDefEqProofs
 ·have yes : ybb w r up down q = ybU w (ycK w up down (yaU r up q)):=by simp [ybb,hc,h6]
  rw [yes]
  simp -dsimp -implicitDefEqProofs [h6]
  refine yb1 (yni r up q) ?_
  simp -dsimp -implicitDefEqProofs
  refine yb1 (ysH w up down (yaU r up q)) ?_
  simp -dsimp -implicitDefEqProofs
  refine yb1 (ykj w (ycK w up down (yaU r up q))) ?_
  simp -dsimp -implicitDefEqProofs
theorem ynL (a b : Reach) (w : Weir) (ha : a.small) (hb : b.small) : yB Tryz.prog 198 [.agg (a.enc.map .c),.agg (b.enc.map .c),.agg (w.enc.map .c)] (.tup [.agg ((yau a b w).1.enc.map .c),.agg ((yau a b w).2.1.enc.map .c),.c (.i (yau a b w).2.2)]):=by
 refine yh ykF ?_
 have no : (yR a && yR b && yaH w) = false → yau a b w = (a,b,0):=fun h=>by simp [yau,h]
 simp -dsimp -implicitDefEqProofs
 refine yc (yby a) ?_
 cases h1 : yR a with
 | false =>
  rw [no (by simp [h1])]
  simp -dsimp -implicitDefEqProofs
  refine yY (ya5 a ha) ?_
  simp -dsimp -implicitDefEqProofs
  refine yY (ya5 b hb) ?_
  simp -dsimp -implicitDefEqProofs
 | true =>
 simp -dsimp -implicitDefEqProofs
 refine yc (yby b) ?_
 cases h2 : yR b with
 | false =>
  rw [no (by simp [h2])]
  simp -dsimp -implicitDefEqProofs
  refine yY (ya5 a ha) ?_
  simp -dsimp -implicitDefEqProofs
  refine yY (ya5 b hb) ?_
  simp -dsimp -implicitDefEqProofs
 | true =>
 simp -dsimp -implicitDefEqProofs
 refine yc (ydW w) ?_
 cases h3 : yaH w with
 | false =>
  rw [no (by simp [h3])]
  simp -dsimp -implicitDefEqProofs
  refine yY (ya5 a ha) ?_
  simp -dsimp -implicitDefEqProofs
  refine yY (ya5 b hb) ?_
  simp -dsimp -implicitDefEqProofs
 | true =>
 have yes : yau a b w = ybK a b (yaD w (yal a) (yal b)) (yac a.Table w.Crest):=by simp [yau,h1,h2,h3]
 rw [yes]
 simp -dsimp -implicitDefEqProofs
 refine yaC (yel a) ?_
 simp -dsimp -implicitDefEqProofs
 refine yaC (yel b) ?_
 simp -dsimp -implicitDefEqProofs
 refine yaC (ygM w (yal a) (yal b)) ?_
 simp -dsimp -implicitDefEqProofs
 refine yb1 (yh5 a.Table w.Crest) ?_
 simp -dsimp -implicitDefEqProofs
 have hP:=yuG a b (yaD w (yal a) (yal b)) (yac a.Table w.Crest) ha hb
 refine yY hP ?_
 generalize ybK a b (yaD w (yal a) (yal b)) (yac a.Table w.Crest) = z at *
 simp -dsimp -implicitDefEqProofs
theorem yne (a b : Reach) (w : Weir) (ha : a.small) (hb : b.small) : yB Tryz.prog 105 [.agg (a.enc.map .c),.agg (b.enc.map .c),.agg (w.enc.map .c)] (.tup [.agg ((yau a b w).1.enc.map .c),.agg ((yau a b w).2.1.enc.map .c),.c (.i (yau a b w).2.2)]):=by
 refine yh ykG ?_
 have no : (yR a && yR b && yaH w) = false → yau a b w = (a,b,0):=fun h=>by simp [yau,h]
 simp -dsimp -implicitDefEqProofs
 refine yc (ybX a) ?_
 cases h1 : yR a with
 | false =>
  rw [no (by simp [h1])]
  simp -dsimp -implicitDefEqProofs
  refine yY (ybo a ha) ?_
  simp -dsimp -implicitDefEqProofs
  refine yY (ybo b hb) ?_
  simp -dsimp -implicitDefEqProofs
 | true =>
 simp -dsimp -implicitDefEqProofs
 refine yc (ybX b) ?_
 cases h2 : yR b with
 | false =>
  rw [no (by simp [h2])]
  simp -dsimp -implicitDefEqProofs
  refine yY (ybo a ha) ?_
  simp -dsimp -implicitDefEqProofs
  refine yY (ybo b hb) ?_
  simp -dsimp -implicitDefEqProofs
 | true =>
 simp -dsimp -implicitDefEqProofs
 refine yc (yd2 w) ?_
 cases h3 : yaH w with
 | false =>
  rw [no (by simp [h3])]
  simp -dsimp -implicitDefEqProofs
  refine yY (ybo a ha) ?_
  simp -dsimp -implicitDefEqProofs
  refine yY (ybo b hb) ?_
  simp -dsimp -implicitDefEqProofs
 | true =>
 have yes : yau a b w = ybK a b (yaD w (yal a) (yal b)) (yac a.Table w.Crest):=by simp [yau,h1,h2,h3]
 rw [yes]
 simp -dsimp -implicitDefEqProofs
 refine yb1 (yeo a) ?_
 simp -dsimp -implicitDefEqProofs
 refine yb1 (yeo b) ?_
 simp -dsimp -implicitDefEqProofs
 refine yb1 (ygS w (yal a) (yal b)) ?_
 simp -dsimp -implicitDefEqProofs
 refine yb1 (yhS a.Table w.Crest) ?_
 simp -dsimp -implicitDefEqProofs
 have hP:=yux a b (yaD w (yal a) (yal b)) (yac a.Table w.Crest) ha hb
 refine yY hP ?_
 generalize ybK a b (yaD w (yal a) (yal b)) (yac a.Table w.Crest) = z at *
 simp -dsimp -implicitDefEqProofs
def yhZ (w : Work) (v : Weir) : Work:=⟨w.Lock,v,w.Rule,w.Pauses,w.Turn,w.Calls⟩
def dR (rs : List Reach) (k : Nat) : Reach:=rs.getD k default
def dW (ws : List Work) (k : Nat) : Work:=ws.getD k default
def yc2 (q : Int) (rs : List Reach) (ws : List Work) (k : Nat) : Weir:=ybb (dW ws k).Weir (dW ws k).Rule (yal (dR rs k)) (yal (dR rs (k + 1))) q
def through (q : Int) (rs : List Reach) (ws : List Work) (k : Nat) : Reach × Reach × Int:=yau (dR rs k) (dR rs (k + 1)) (yc2 q rs ws k)
def yah (q : Int) (rs : List Reach) (ws : List Work) : Nat → List Reach × List Work
 | 0=>(rs,ws)
 | k + 1=>(((yah q rs ws k).1.set k (through q (yah q rs ws k).1 (yah q rs ws k).2 k).1).set (k + 1) (through q (yah q rs ws k).1 (yah q rs ws k).2 k).2.1,
     (yah q rs ws k).2.set k (yhZ (dW (yah q rs ws k).2 k) (yc2 q (yah q rs ws k).1 (yah q rs ws k).2 k)))
def ycg (x : Waterway) (q : Int) : Bool:=yar x && inRange q 0 1000000000
def stR (x : Waterway) (q : Int) : List Reach:=(yah q x.Reaches x.Works x.Works.length).1
def stW (x : Waterway) (q : Int) : List Work:=(yah q x.Reaches x.Works x.Works.length).2
def ysP (rs : List Reach) (ws : List Work) (ys : List Way) (n : Nat) : Reach × Int :=
 yao (dR rs n) (yaD (dW ws (n - 1)).Weir (yal (dR rs n)) 0) (yac (dR rs n).Table (ys.getD n default).Bed)
def yaW (x : Waterway) (q : Int) : Waterway :=
 if ycg x q then ⟨x.Time,(stR x q).set (x.Reaches.length - 1) (ysP (stR x q) (stW x q) x.Ways (x.Reaches.length - 1)).1,x.Ways,stW x q,x.Movers,x.Arrived,x.Entered,x.Tariff,x.Book,x.Passings,x.Start,x.In,x.Out + (ysP (stR x q) (stW x q) x.Ways (x.Reaches.length - 1)).2⟩ else x
theorem yeK {q : Int} {rs : List Reach} {ws : List Work} : ∀ k : Nat,(yah q rs ws k).1.length = rs.length ∧ (yah q rs ws k).2.length = ws.length
 | 0=>⟨rfl,rfl⟩
 | k + 1=>by
  obtain ⟨h1,h2⟩:=yeK (q:=q) (rs:=rs) (ws:=ws) k
  simp [yah,h1,h2]
theorem ykk {rs : List Reach} {k : Nat} (h : k < rs.length) : rs[k]? = some (dR rs k):=by
 rw [dR,List.getD_eq_getElem?_getD,List.getElem?_eq_getElem h]; rfl
theorem ytH {ws : List Work} {k : Nat} (h : k < ws.length) : ws[k]? = some (dW ws k):=by
 rw [dW,List.getD_eq_getElem?_getD,List.getElem?_eq_getElem h]; rfl
theorem ykb {r : Reach} {a k : Int} (h : r.small) : (yao r a k).1.small:=by
 unfold yao; split <;> exact h
theorem ys9 {a b : Reach} {q k : Int} (ha : a.small) (hb : b.small) : (ybK a b q k).1.small ∧ (ybK a b q k).2.1.small:=by
 unfold ybK
 split
 ·exact ⟨ykb ha,yse hb⟩
 ·exact ⟨ha,hb⟩
theorem yxu {a b : Reach} {w : Weir} (ha : a.small) (hb : b.small) : (yau a b w).1.small ∧ (yau a b w).2.1.small:=by
 unfold yau
 split
 ·exact ys9 ha hb
 ·exact ⟨ha,hb⟩
theorem yur (r : Reach) (a k : Int) : yaZ (yao r a k).1 = yaZ r:=by
 unfold yao; split <;> rfl
theorem yAF (a b : Reach) (q k : Int) : yaZ (ybK a b q k).1 = yaZ a ∧ yaZ (ybK a b q k).2.1 = yaZ b:=by
 unfold ybK
 split
 ·exact ⟨yur _ _ _,yy0 _ _⟩
 ·exact ⟨rfl,rfl⟩
theorem yBF (a b : Reach) (w : Weir) : yaZ (yau a b w).1 = yaZ a ∧ yaZ (yau a b w).2.1 = yaZ b:=by
 unfold yau
 split
 ·exact yAF _ _ _ _
 ·exact ⟨rfl,rfl⟩
theorem yjs {α : Type} {t : α → Nat} {l : List α} {k : Nat} {a b : α} (h : l[k]? = some a) (e : t b = t a) : yd0 t (l.set k b) = yd0 t l:=by
 obtain ⟨hk,rfl⟩:=List.getElem?_eq_some_iff.1 h
 have : (l.set k b).map t = l.map t:=by
  rw [List.map_set,e]
  apply List.ext_getElem?
  intro i
  rw [List.getElem?_set]
  split
  ·rename_i hi; subst hi; simp [hk]
  ·rfl
 unfold yd0
 rw [this,List.length_set]
theorem yhL {α : Type} {sm : α → Prop} {l : List α} {k : Nat} {b : α} (h : ycs sm l) (e : sm b) : ycs sm (l.set k b) :=
 ⟨by simpa using h.1,fun x hx=>by
  rcases List.mem_or_eq_of_mem_set hx with hx | hx
  ·exact h.2 x hx
  ·rw [hx]; exact e⟩
theorem yg0 {q : Int} {rs : List Reach} {ws : List Work} (hr : ycN rs) (hw : yc8 ws) (hn : ws.length < rs.length) : ∀ k : Nat,k ≤ ws.length →
 ycN (yah q rs ws k).1 ∧ yc8 (yah q rs ws k).2 ∧ ydQ (yah q rs ws k).1 = ydQ rs ∧ yeJ (yah q rs ws k).2 = yeJ ws
 | 0,_=>⟨hr,hw,rfl,rfl⟩
 | k + 1,hk=>by
  obtain ⟨a,b,c,d⟩:=yg0 (q:=q) hr hw hn k (by omega)
  obtain ⟨l1,l2⟩:=yeK (q:=q) (rs:=rs) (ws:=ws) k
  simp only [yah]
  generalize (yah q rs ws k).1 = rs' at *
  generalize (yah q rs ws k).2 = ws' at *
  have r1:=ykk (rs:=rs') (k:=k) (by omega)
  have r2:=ykk (rs:=rs') (k:=k + 1) (by omega)
  have w1:=ytH (ws:=ws') (k:=k) (by omega)
  have t:=yBF (dR rs' k) (dR rs' (k + 1)) (yc2 q rs' ws' k)
  have s:=yxu (w:=yc2 q rs' ws' k) (a.2 _ (List.mem_of_getElem? r1)) (a.2 _ (List.mem_of_getElem? r2))
  refine ⟨yhL (yhL a s.1) s.2,yhL b (show Work.small (dW ws' k) from b.2 _ (List.mem_of_getElem? w1)),?_,?_⟩
  ·rw [← c]
   have h2 : (rs'.set k (through q rs' ws' k).1)[k + 1]? = some (dR rs' (k + 1)):=by rw [List.getElem?_set_ne (by omega)]; exact r2
   exact (yjs h2 t.2).trans (yjs r1 t.1)
  ·rw [← d]
   exact yjs w1 rfl
structure PartLens (x : Waterway) : Prop where
 two : 2 ≤ x.Reaches.length
 ways : x.Ways.length = x.Reaches.length
 mvs : x.Movers.length = x.Reaches.length
 wks : x.Works.length + 1 = x.Reaches.length
theorem yln {x : Waterway} (h : yar x = true) : PartLens x:=by
 simp only [yar,Bool.and_eq_true] at h
 obtain ⟨⟨⟨⟨⟨⟨⟨h1,h2⟩,h3⟩,h4⟩,h5⟩,h6⟩,h7⟩,h8⟩:=h
 simp only [ybi,Bool.and_eq_true,decide_eq_true_eq] at h2
 obtain ⟨⟨⟨⟨⟨⟨p1,p2⟩,p3⟩,p4⟩,p5⟩,p6⟩,p7⟩:=h2
 exact ⟨p2,p3,p4,p5⟩
theorem ytZ {x : Waterway} {q : Int} (h : x.small) : (yaW x q).small:=by
 unfold yaW
 split
 ·rename_i hc
  simp only [ycg,Bool.and_eq_true] at hc
  have pl:=yln hc.1
  have p1:=pl.wks; have p2:=pl.two
  obtain ⟨s1,s2,s3,s4,s5,s6,s7,s8,s9⟩:=h
  obtain ⟨a,b,c,d⟩:=yg0 (q:=q) s1 s3 (by omega) _ (Nat.le_refl _)
  obtain ⟨l1,l2⟩:=yeK (q:=q) (rs:=x.Reaches) (ws:=x.Works) x.Works.length
  exact ⟨yhL a (ykb (a.2 _ (List.mem_of_getElem? (ykk (by have : (stR x q).length = x.Reaches.length:=l1; omega))))),s2,b,s4,s5,s6,s7,s8,s9⟩
 ·exact h
theorem yl8 (x : Waterway) (q : Int) (hs : x.small) (h : ycp x ≤ 1048576) : wm9 (yaW x q) 1 ≤ 4000000000000000000:=by
 have h2 : ycp (yaW x q) = ycp x:=by
  unfold yaW
  split
  ·rename_i hc
   simp only [ycg,Bool.and_eq_true] at hc
   have pl:=yln hc.1
   have p1:=pl.wks; have p2:=pl.two
   obtain ⟨s1,s2,s3,s4,s5,s6,s7,s8,s9⟩:=hs
   obtain ⟨a,b,c,d⟩:=yg0 (q:=q) s1 s3 (by omega) _ (Nat.le_refl _)
   obtain ⟨l1,l2⟩:=yeK (q:=q) (rs:=x.Reaches) (ws:=x.Works) x.Works.length
   have e : ydQ ((stR x q).set (x.Reaches.length - 1) (ysP (stR x q) (stW x q) x.Ways (x.Reaches.length - 1)).1) = ydQ x.Reaches:=by
    rw [← c]
    exact yjs (ykk (by have : (stR x q).length = x.Reaches.length:=l1; omega)) (yur _ _ _)
   unfold ycp
   simp only [e]
   rw [show yeJ (stW x q) = yeJ x.Works from d]
  ·rfl
 have:=yAl (yaW x q) 1
 omega
theorem yxK (es : List Work) (hl : es.length ≤ 1048576) : ybh Tryz.prog 180 [.c (.sl 22 (es.map Work.enc))] (.c (.ow 22 (es.map Work.enc))):=by
 refine yan ydu ?_
 simp -dsimp -implicitDefEqProofs [ybJ,yt]
 omega
theorem yoY (r : Reach) (a k : Int) : 0 ≤ (yao r a k).2 ∧ (yao r a k).2 ≤ 1000000000:=by
 unfold yao
 split
 ·rename_i h
  simp only [ye1,Bool.and_eq_true,decide_eq_true_eq] at h
  have f:=ydd h.1.1
  have hv:=yF.1 (show inRange r.Volume 0 1000000000 = true from f.vol)
  have h2:=h.2
  simp only [takeN]
  repeat' split
  all_goals omega
 ·simp
def ycU (rs : List Reach) : List (List C):=rs.map Reach.enc
def ygA (ws : List Work) : List (List C):=ws.map Work.enc
theorem yhj {rs : List Reach} {k : Nat} {r : Reach} (h : rs[k]? = some r) : (ycU rs)[k]? = some r.enc:=by unfold ycU; rw [List.getElem?_map,h]; rfl
theorem yk0 {ws : List Work} {k : Nat} {w : Work} (h : ws[k]? = some w) : (ygA ws)[k]? = some w.enc:=by unfold ygA; rw [List.getElem?_map,h]; rfl
theorem yjJ {rs : List Reach} {k : Nat} {r : Reach} : (ycU rs).set k r.enc = ycU (rs.set k r):=by unfold ycU; rw [List.map_set]
theorem yr3 {ws : List Work} {k : Nat} {w : Work} : (ygA ws).set k w.enc = ygA (ws.set k w):=by unfold ygA; rw [List.map_set]
theorem ybE {rs : List Reach} : (ycU rs).length = rs.length:=by simp [ycU]
theorem ycB {ws : List Work} : (ygA ws).length = ws.length:=by simp [ygA]
theorem yls {x : Waterway} {q : Int} (h : ycg x q = false) : yaW x q = x:=by simp [yaW,h]
set_option maxRecDepth 20000 in
theorem yBn (x : Waterway) (q : Int) (hl : x.small) : yB Tryz.prog 109 [.agg (x.enc.map .c),.c (.i q)] (.agg ((yaW x q).enc.map .c)):=by
 have hl0:=hl
 obtain ⟨s1,s2,s3,s4,s5,s6,s7,s8,s9⟩:=hl
 have s11:=s1.1; have s31:=s3.1
 refine yh ys2 ?_
 simp -dsimp -implicitDefEqProofs
 refine yc (yns x hl0) ?_
 cases h : yar x with
 | false=>simp -dsimp -implicitDefEqProofs; simp [yls,ycg,h]
 | true =>
 simp -dsimp -implicitDefEqProofs
 refine yc (yC q 0 1000000000) ?_
 cases hq : inRange q 0 1000000000 with
 | false=>simp -dsimp -implicitDefEqProofs; simp [yls,ycg,hq]
 | true =>
 have hc : ycg x q = true:=by simp [ycg,h,hq]
 have hw:=yqj h
 have pl:=yln h
 have p1:=pl.two; have p2:=pl.ways; have p3:=pl.wks
 have e : yaW x q = ⟨x.Time,(stR x q).set (x.Reaches.length - 1) (ysP (stR x q) (stW x q) x.Ways (x.Reaches.length - 1)).1,x.Ways,stW x q,x.Movers,x.Arrived,x.Entered,x.Tariff,x.Book,x.Passings,x.Start,x.In,x.Out + (ysP (stR x q) (stW x q) x.Ways (x.Reaches.length - 1)).2⟩:=by simp [yaW,hc]
 rw [e]
 simp -dsimp -implicitDefEqProofs
 refine yjo (yyV x.Reaches s11) (by simp) rfl (by simp [yU]) ?_
 simp -dsimp -implicitDefEqProofs
 refine yjo (yxK x.Works s31) (by simp) rfl (by simp [yU]) ?_
 simp -dsimp -implicitDefEqProofs
 intro hlen
 refine yg (ι:=Nat) (fun k=>k ≤ x.Works.length) (fun k=>yO [(1,.c (.i q)),(2,.box 2 0),(4,.box 4 0),(5,.box 5 0),(34,.own 31 22 x.Works.length),(35,.c (.i x.Works.length)),(36,.c (.i k))] [(2,.box (x.enc.map .c)),(4,.box [.c (.i 0),.nil 3,.nil 2,.nil 22,.nil 1,.nil 2,.nil 1,.c (.i 0),.c (.i 0),.nil 1,.nil 1,.nil 5,.nil 4,.c (.i 0),.c (.i 0),.c (.i 0)]),(5,.box [.c (.i x.Time),.own 27 3 x.Reaches.length,.c (.sl 2 (x.Ways.map Way.enc)),.own 31 22 x.Works.length,.c (.sl 1 (x.Movers.map yZ)),.c (.sl 2 (x.Arrived.map Train.enc)),.c (.sl 1 (x.Entered.map yJ)),.c (.i x.Tariff.Base),.c (.i x.Tariff.PerArea),.c (.sl 1 (x.Tariff.PerClass.map yJ)),.c (.sl 1 (x.Tariff.Weights.map yJ)),.c (.sl 5 (x.Book.map Entry.enc)),.c (.sl 4 (x.Passings.map Passing.enc)),.c (.i x.Start),.c (.i x.In),.c (.i x.Out)]),(27,.row 3 (ycU (yah q x.Reaches x.Works k).1)),(31,.row 22 (ygA (yah q x.Reaches x.Works k).2))]) (fun k=>x.Works.length - k) 0 (by simp) (by apply yj <;> simp [yah,ycU,ygA,yt]) ?_
 rintro k hk
 obtain ⟨l1,l2⟩:=yeK (q:=q) (rs:=x.Reaches) (ws:=x.Works) k
 obtain ⟨a1,a2,_,_⟩:=yg0 (q:=q) s1 s3 (by omega) k hk
 have hst1 : (yah q x.Reaches x.Works (k + 1)).1 = ((yah q x.Reaches x.Works k).1.set k (through q (yah q x.Reaches x.Works k).1 (yah q x.Reaches x.Works k).2 k).1).set (k + 1) (through q (yah q x.Reaches x.Works k).1 (yah q x.Reaches x.Works k).2 k).2.1:=rfl
 have hst2 : (yah q x.Reaches x.Works (k + 1)).2 = (yah q x.Reaches x.Works k).2.set k (yhZ (dW (yah q x.Reaches x.Works k).2 k) (yc2 q (yah q x.Reaches x.Works k).1 (yah q x.Reaches x.Works k).2 k)):=rfl
 rcases Nat.lt_or_ge k x.Works.length with klt | kge
 ·obtain ⟨rs2,hrs2⟩ : ∃ r,(yah q x.Reaches x.Works (k + 1)).1 = r:=⟨_,rfl⟩
  obtain ⟨ws2,hws2⟩ : ∃ r,(yah q x.Reaches x.Works (k + 1)).2 = r:=⟨_,rfl⟩
  rw [hrs2] at hst1
  rw [hws2] at hst2
  generalize (yah q x.Reaches x.Works k).1 = rs at *
  generalize (yah q x.Reaches x.Works k).2 = ws at *
  have r1:=ykk (rs:=rs) (k:=k) (by omega)
  have r2:=ykk (rs:=rs) (k:=k + 1) (by omega)
  have w1:=ytH (ws:=ws) (k:=k) (by omega)
  have sr1:=a1.2 _ (List.mem_of_getElem? r1)
  have sr2:=a1.2 _ (List.mem_of_getElem? r2)
  have sw1:=a2.2 _ (List.mem_of_getElem? w1)
  have hnw : yc2 q rs ws k = ybb (dW ws k).Weir (dW ws k).Rule (yal (dR rs k)) (yal (dR rs (k + 1))) q:=rfl
  have hth : through q rs ws k = yau (dR rs k) (dR rs (k + 1)) (yc2 q rs ws k):=rfl
  rw [hth] at hst1
  have hLT:=ynL (dR rs k) (dR rs (k + 1)) (yc2 q rs ws k) sr1 sr2
  generalize yc2 q rs ws k = nw at *
  have ar1:=yhj r1
  have ar2:=yhj r2
  have aw1:=yk0 w1
  generalize dR rs k = ra at *
  generalize dR rs (k + 1) = rb at *
  generalize dW ws k = wk at *
  generalize yau ra rb nw = LT at *
  obtain ⟨k',hk'⟩ : ∃ k',k' = k + 1:=⟨_,rfl⟩
  have ek : ((k : Int) + 1) = (k' : Int):=by omega
  rw [← hk'] at ar2 hst1
  have sR : ∀ (rs : List Reach) (j : Nat) (r : Reach),(ycU rs).set j [.sl 2 (r.Table.map Point.enc),.i r.Volume,.sl 1 (r.Pipe.map yJ)] = ycU (rs.set j r):=fun _ _ _=>yjJ
  have sW:=yr3 (ws:=ws) (k:=k) (w:=yhZ wk nw)
  rw [← hst2] at sW
  simp only [Reach.enc] at ar1 ar2
  simp only [Work.enc,yhZ] at aw1 sW
  have gr1:=(List.getElem?_eq_some_iff.1 ar1).2
  have gr2:=(List.getElem?_eq_some_iff.1 ar2).2
  have gw1:=(List.getElem?_eq_some_iff.1 aw1).2
  have n1 : k < x.Reaches.length:=by omega
  have n2 : k' < x.Reaches.length:=by omega
  simp -dsimp -implicitDefEqProofs [ybE,ycB,l1,l2,ar1,gr1,ar2,gr2,aw1,gw1,klt,yG klt,n1,n2,ek]
  refine ⟨by unfold inI; omega,?_⟩
  refine ya2 (yel ra) (by simp -dsimp -implicitDefEqProofs) (.inr rfl) ?_
  simp -dsimp -implicitDefEqProofs
  refine ya2 (yel rb) (by simp -dsimp -implicitDefEqProofs) (.inr rfl) ?_
  simp -dsimp -implicitDefEqProofs
  have hSW:=yoD wk.Weir wk.Rule (yal ra) (yal rb) q
  rw [← hnw] at hSW
  refine ya2 (hSW) (by simp -dsimp -implicitDefEqProofs) (.inr rfl) ?_
  simp -dsimp -implicitDefEqProofs [ybE,ycB,l1,l2,ar1,gr1,ar2,gr2,aw1,gw1,klt,n1,n2,ek]
  refine ⟨by unfold inI; omega,?_⟩
  refine ya2 (hLT) (by simp -dsimp -implicitDefEqProofs) (.inl rfl) ?_
  have hset : ((ycU rs).set k [.sl 2 (LT.1.Table.map Point.enc),.i LT.1.Volume,.sl 1 (LT.1.Pipe.map yJ)]).set k' [.sl 2 (LT.2.1.Table.map Point.enc),.i LT.2.1.Volume,.sl 1 (LT.2.1.Pipe.map yJ)] = ycU rs2:=by rw [sR,sR,hst1]
  have hgs : ∀ (X : List C) (h),((ycU rs).set k X)[k']'h = [.sl 2 (rb.Table.map Point.enc),.i rb.Volume,.sl 1 (rb.Pipe.map yJ)]:=fun X h=>by rw [List.getElem_set_ne (by omega)]; exact gr2
  simp -dsimp -implicitDefEqProofs [ybE,ycB,l1,l2,ar1,gr1,ar2,gr2,aw1,gw1,klt,n1,n2,ek,hset,sW,hgs]
  refine ⟨by unfold inI; omega,k + 1,klt,by omega,?_⟩
  apply yj <;> simp [hset,sW,hrs2,hws2,ek,hgs]
 ·have hkn : k = x.Works.length:=by omega
  subst hkn
  have hR : (yah q x.Reaches x.Works x.Works.length).1 = stR x q:=rfl
  have hW : (yah q x.Reaches x.Works x.Works.length).2 = stW x q:=rfl
  rw [hR] at l1 a1
  rw [hW] at l2 a2
  rw [hR,hW]
  generalize stR x q = rs at *
  generalize stW x q = ws at *
  obtain ⟨n,hn⟩ : ∃ n,n = x.Reaches.length - 1:=⟨_,rfl⟩
  have en : ((x.Reaches.length : Int) - 1) = (n : Int):=by omega
  obtain ⟨m,hm⟩ : ∃ m,m = n - 1:=⟨_,rfl⟩
  have em : ((n : Int) - 1) = (m : Int):=by omega
  rw [← hn]
  have r1:=ykk (rs:=rs) (k:=n) (by omega)
  have w1:=ytH (ws:=ws) (k:=m) (by omega)
  have hy : x.Ways[n]? = some (x.Ways.getD n default):=by rw [List.getD_eq_getElem?_getD,List.getElem?_eq_getElem (by omega)]; rfl
  have sr1:=a1.2 _ (List.mem_of_getElem? r1)
  have hT : ysP rs ws x.Ways n = yao (dR rs n) (yaD (dW ws m).Weir (yal (dR rs n)) 0) (yac (dR rs n).Table (x.Ways.getD n default).Bed):=by rw [hm]; rfl
  rw [hT]
  have ar1:=yhj r1
  have aw1:=yk0 w1
  generalize dR rs n = ra at *
  generalize dW ws m = wk at *
  generalize x.Ways.getD n default = wy at *
  have gy:=(List.getElem?_eq_some_iff.1 hy).2
  have sR : ∀ (rs : List Reach) (j : Nat) (r : Reach),(ycU rs).set j [.sl 2 (r.Table.map Point.enc),.i r.Volume,.sl 1 (r.Pipe.map yJ)] = ycU (rs.set j r):=fun _ _ _=>yjJ
  simp only [Reach.enc] at ar1
  simp only [Work.enc] at aw1
  have gr1:=(List.getElem?_eq_some_iff.1 ar1).2
  have gw1:=(List.getElem?_eq_some_iff.1 aw1).2
  have n1 : n < x.Reaches.length:=by omega
  have n2 : m < x.Works.length:=by omega
  have n3 : n < x.Ways.length:=by omega
  simp -dsimp -implicitDefEqProofs [ybE,ycB,l1,l2,ar1,gr1,aw1,gw1,n1,n2,n3,hy,gy,en,em]
  intro hlen2
  refine ⟨by unfold inI; omega,by unfold inI; omega,?_⟩
  refine ⟨_,_,yel ra,by simp -dsimp -implicitDefEqProofs,.inr rfl,?_⟩
  simp -dsimp -implicitDefEqProofs
  refine ⟨_,_,ygM wk.Weir (yal ra) 0,by simp -dsimp -implicitDefEqProofs [aw1,gw1,gr1,n2],.inr rfl,?_⟩
  simp -dsimp -implicitDefEqProofs [n3,hy,gy]
  refine ya2 (yh5 ra.Table wy.Bed) (by simp -dsimp -implicitDefEqProofs) (.inr rfl) ?_
  simp -dsimp -implicitDefEqProofs
  have hP:=yj4 ra (yaD wk.Weir (yal ra) 0) (yac ra.Table wy.Bed) sr1
  have hto:=yoY ra (yaD wk.Weir (yal ra) 0) (yac ra.Table wy.Bed)
  refine ya2 (hP) (by simp -dsimp -implicitDefEqProofs) (.inl rfl) ?_
  generalize yao ra (yaD wk.Weir (yal ra) 0) (yac ra.Table wy.Bed) = z at *
  have w5:=hw.out
  simp -dsimp -implicitDefEqProofs [ybE,l1,n1,gr1,ar1,sR]
  refine ⟨by unfold inI; omega,?_,(List.take_of_length_le (by show (ygA ws).length ≤ _; rw [ycB]; omega)).symm⟩
  rw [List.take_of_length_le (by rw [ybE,List.length_set]; omega)]
  exact sR rs n z.1
theorem ynb (x : Waterway) (q : Int) (hl : x.small) : ybh Tryz.prog 39 [.agg (x.enc.map .c),.c (.i q)] (.agg ((yaW x q).yI.map .c)):=by
 have hp:=ytZ (q:=q) hl
 have hpc:=yBn x q hl
 refine yan ylH ?_
 simp -dsimp -implicitDefEqProofs
 refine yS hpc ?_
 generalize yaW x q = r at *
 simp -dsimp -implicitDefEqProofs
 refine yQ (ypi r hp) (by simp) (yb5 (Waterway.yad r)) (by simp [yU]) ?_
 simp -dsimp -implicitDefEqProofs [yt]
set_option maxRecDepth 20000 in
theorem ynA (x : Waterway) (q : Int) (hl : x.small) : yB Tryz.prog 38 [.agg (x.enc.map .c),.c (.i q)] (.agg ((yaW x q).enc.map .c)):=by
 have hl0:=hl
 obtain ⟨s1,s2,s3,s4,s5,s6,s7,s8,s9⟩:=hl
 have s11:=s1.1; have s31:=s3.1
 refine yh ykQ ?_
 simp -dsimp -implicitDefEqProofs
 have hco:=yxC x hl0
 simp only [Waterway.yAY] at hco
 refine yjo hco (by simp) rfl (by simp [yU,em]) ?_
 simp -dsimp -implicitDefEqProofs [yt]
 refine yaQ (ym6 x hl0) (by simp -dsimp -implicitDefEqProofs) rfl ?_
 cases h : yar x with
 | false=>simp -dsimp -implicitDefEqProofs [yt,yag ywd]; simp [yls,ycg,h]
 | true =>
 simp -dsimp -implicitDefEqProofs
 refine yaQ (yD q 0 1000000000) (by simp -dsimp -implicitDefEqProofs) rfl ?_
 cases hq : inRange q 0 1000000000 with
 | false=>simp -dsimp -implicitDefEqProofs [yt,yag ywd]; simp [yls,ycg,hq]
 | true =>
 have hc : ycg x q = true:=by simp [ycg,h,hq]
 have hw:=yqj h
 have pl:=yln h
 have p1:=pl.two; have p2:=pl.ways; have p3:=pl.wks
 have e : yaW x q = ⟨x.Time,(stR x q).set (x.Reaches.length - 1) (ysP (stR x q) (stW x q) x.Ways (x.Reaches.length - 1)).1,x.Ways,stW x q,x.Movers,x.Arrived,x.Entered,x.Tariff,x.Book,x.Passings,x.Start,x.In,x.Out + (ysP (stR x q) (stW x q) x.Ways (x.Reaches.length - 1)).2⟩:=by simp [yaW,hc]
 rw [e]
 simp -dsimp -implicitDefEqProofs
 refine yg (ι:=Nat) (fun k=>k ≤ x.Works.length) (fun k=>yO [(1,.c (.i q)),(2,.box 2 0),(4,.box 4 0),(5,.box 5 0),(6,.c (.i k))] [(2,.box (x.enc.map .c)),(4,.box [.c (.i 0),.nil 3,.nil 2,.nil 22,.nil 1,.nil 2,.nil 1,.c (.i 0),.c (.i 0),.nil 1,.nil 1,.nil 5,.nil 4,.c (.i 0),.c (.i 0),.c (.i 0)]),(5,.box [.c (.i x.Time),.own 20016 3 x.Reaches.length,.own 30016 2 x.Ways.length,.own 40016 22 x.Works.length,.own 50016 1 x.Movers.length,.own 60016 2 x.Arrived.length,.own 70016 1 x.Entered.length,.c (.i x.Tariff.Base),.c (.i x.Tariff.PerArea),.own 100016 1 x.Tariff.PerClass.length,.own 110016 1 x.Tariff.Weights.length,.own 120016 5 x.Book.length,.own 130016 4 x.Passings.length,.c (.i x.Start),.c (.i x.In),.c (.i x.Out)]),(20016,.row 3 (ycU (yah q x.Reaches x.Works k).1)),(40016,.row 22 (ygA (yah q x.Reaches x.Works k).2)),(30016,.row 2 (x.Ways.map Way.enc)),(50016,.tr 1 0 (x.Movers.map em)),(60016,.row 2 (x.Arrived.map Train.enc)),(70016,.row 1 (x.Entered.map yJ)),(100016,.row 1 (x.Tariff.PerClass.map yJ)),(110016,.row 1 (x.Tariff.Weights.map yJ)),(120016,.row 5 (x.Book.map Entry.enc)),(130016,.row 4 (x.Passings.map Passing.enc))]) (fun k=>x.Works.length - k) 0 (by simp) (by apply yj <;> simp [Obj.leO,yah,ycU,ygA,yt]) ?_
 rintro k hk
 obtain ⟨l1,l2⟩:=yeK (q:=q) (rs:=x.Reaches) (ws:=x.Works) k
 obtain ⟨a1,a2,_,_⟩:=yg0 (q:=q) s1 s3 (by omega) k hk
 have hst1 : (yah q x.Reaches x.Works (k + 1)).1 = ((yah q x.Reaches x.Works k).1.set k (through q (yah q x.Reaches x.Works k).1 (yah q x.Reaches x.Works k).2 k).1).set (k + 1) (through q (yah q x.Reaches x.Works k).1 (yah q x.Reaches x.Works k).2 k).2.1:=rfl
 have hst2 : (yah q x.Reaches x.Works (k + 1)).2 = (yah q x.Reaches x.Works k).2.set k (yhZ (dW (yah q x.Reaches x.Works k).2 k) (yc2 q (yah q x.Reaches x.Works k).1 (yah q x.Reaches x.Works k).2 k)):=rfl
 rcases Nat.lt_or_ge k x.Works.length with klt | kge
 ·obtain ⟨rs2,hrs2⟩ : ∃ r,(yah q x.Reaches x.Works (k + 1)).1 = r:=⟨_,rfl⟩
  obtain ⟨ws2,hws2⟩ : ∃ r,(yah q x.Reaches x.Works (k + 1)).2 = r:=⟨_,rfl⟩
  rw [hrs2] at hst1
  rw [hws2] at hst2
  generalize (yah q x.Reaches x.Works k).1 = rs at *
  generalize (yah q x.Reaches x.Works k).2 = ws at *
  have r1:=ykk (rs:=rs) (k:=k) (by omega)
  have r2:=ykk (rs:=rs) (k:=k + 1) (by omega)
  have w1:=ytH (ws:=ws) (k:=k) (by omega)
  have sr1:=a1.2 _ (List.mem_of_getElem? r1)
  have sr2:=a1.2 _ (List.mem_of_getElem? r2)
  have sw1:=a2.2 _ (List.mem_of_getElem? w1)
  have hnw : yc2 q rs ws k = ybb (dW ws k).Weir (dW ws k).Rule (yal (dR rs k)) (yal (dR rs (k + 1))) q:=rfl
  have hth : through q rs ws k = yau (dR rs k) (dR rs (k + 1)) (yc2 q rs ws k):=rfl
  rw [hth] at hst1
  have hLT:=yne (dR rs k) (dR rs (k + 1)) (yc2 q rs ws k) sr1 sr2
  generalize yc2 q rs ws k = nw at *
  have ar1:=yhj r1
  have ar2:=yhj r2
  have aw1:=yk0 w1
  generalize dR rs k = ra at *
  generalize dR rs (k + 1) = rb at *
  generalize dW ws k = wk at *
  generalize yau ra rb nw = LT at *
  obtain ⟨k',hk'⟩ : ∃ k',k' = k + 1:=⟨_,rfl⟩
  have ek : ((k : Int) + 1) = (k' : Int):=by omega
  rw [← hk'] at ar2 hst1
  have sR : ∀ (rs : List Reach) (j : Nat) (r : Reach),(ycU rs).set j [.sl 2 (r.Table.map Point.enc),.i r.Volume,.sl 1 (r.Pipe.map yJ)] = ycU (rs.set j r):=fun _ _ _=>yjJ
  have sW:=yr3 (ws:=ws) (k:=k) (w:=yhZ wk nw)
  rw [← hst2] at sW
  simp only [Reach.enc] at ar1 ar2
  simp only [Work.enc,yhZ] at aw1 sW
  have gr1:=(List.getElem?_eq_some_iff.1 ar1).2
  have gr2:=(List.getElem?_eq_some_iff.1 ar2).2
  have gw1:=(List.getElem?_eq_some_iff.1 aw1).2
  have n1 : k < x.Reaches.length:=by omega
  have n2 : k' < x.Reaches.length:=by omega
  simp -dsimp -implicitDefEqProofs [ybE,ycB,l1,l2,ar1,gr1,ar2,gr2,aw1,gw1,klt,yG klt,n1,n2,ek]
  intro hlen
  refine ya2 (yeo ra) (by simp -dsimp -implicitDefEqProofs [ar1,gr1,n1,ybE,l1]) (.inr rfl) ?_
  simp -dsimp -implicitDefEqProofs [ybE,ycB,l1,l2,ar1,gr1,ar2,gr2,aw1,gw1,klt,n1,n2,ek]
  refine ⟨by unfold inI; omega,?_⟩
  refine ya2 (yeo rb) (by simp -dsimp -implicitDefEqProofs [ar2,gr2,n2]) (.inr rfl) ?_
  simp -dsimp -implicitDefEqProofs [aw1,gw1,klt]
  have hSW:=yql wk.Weir wk.Rule (yal ra) (yal rb) q
  rw [← hnw] at hSW
  refine ya2 (hSW) (by simp -dsimp -implicitDefEqProofs [aw1,gw1,klt]) (.inr rfl) ?_
  have sW2 : ∀ h,((ygA ws).set k [.i wk.Lock.Length,.i wk.Lock.Width,.i wk.Lock.SillAbove,.i wk.Lock.SillBelow,.i wk.Lock.Base,.i wk.Lock.Area,.i wk.Lock.Rate,.i wk.Lock.Water,.i wk.Lock.Gate,.sl 2 (wk.Lock.Inside.map Train.enc),.i nw.Gates,.i nw.Open,.i nw.Step,.i nw.Crest,.i nw.Width,.i wk.Rule.Low,.i wk.Rule.High,.i wk.Rule.Flood,.sl 2 (wk.Pauses.map Pause.enc),.b wk.Turn.Up,.i wk.Turn.Count,.sl 4 (wk.Calls.map CallT.enc)])[k]'h = [.i wk.Lock.Length,.i wk.Lock.Width,.i wk.Lock.SillAbove,.i wk.Lock.SillBelow,.i wk.Lock.Base,.i wk.Lock.Area,.i wk.Lock.Rate,.i wk.Lock.Water,.i wk.Lock.Gate,.sl 2 (wk.Lock.Inside.map Train.enc),.i nw.Gates,.i nw.Open,.i nw.Step,.i nw.Crest,.i nw.Width,.i wk.Rule.Low,.i wk.Rule.High,.i wk.Rule.Flood,.sl 2 (wk.Pauses.map Pause.enc),.b wk.Turn.Up,.i wk.Turn.Count,.sl 4 (wk.Calls.map CallT.enc)]:=fun h=>by rw [List.getElem_set_self]
  simp -dsimp -implicitDefEqProofs [ybE,ycB,l1,l2,ar1,gr1,ar2,gr2,aw1,gw1,klt,n1,n2,ek]
  refine ⟨by unfold inI; omega,?_⟩
  refine ya2 (hLT) (by simp -dsimp -implicitDefEqProofs [ar1,gr1,ar2,gr2,n1,n2,sW2,klt]) (.inl rfl) ?_
  have hset : ((ycU rs).set k [.sl 2 (LT.1.Table.map Point.enc),.i LT.1.Volume,.sl 1 (LT.1.Pipe.map yJ)]).set k' [.sl 2 (LT.2.1.Table.map Point.enc),.i LT.2.1.Volume,.sl 1 (LT.2.1.Pipe.map yJ)] = ycU rs2:=by rw [sR,sR,hst1]
  have hgs : ∀ (X : List C) (h),((ycU rs).set k X)[k']'h = [.sl 2 (rb.Table.map Point.enc),.i rb.Volume,.sl 1 (rb.Pipe.map yJ)]:=fun X h=>by rw [List.getElem_set_ne (by omega)]; exact gr2
  simp -dsimp -implicitDefEqProofs [ybE,ycB,l1,l2,ar1,gr1,ar2,gr2,aw1,gw1,klt,n1,n2,ek,hset,sW,hgs]
  refine ⟨by unfold inI; omega,k + 1,klt,by omega,?_⟩
  apply yj <;> simp [Obj.leO,hset,sW,hrs2,hws2,ek,hgs]
 ·have hkn : k = x.Works.length:=by omega
  subst hkn
  have hR : (yah q x.Reaches x.Works x.Works.length).1 = stR x q:=rfl
  have hW : (yah q x.Reaches x.Works x.Works.length).2 = stW x q:=rfl
  rw [hR] at l1 a1
  rw [hW] at l2 a2
  rw [hR,hW]
  generalize stR x q = rs at *
  generalize stW x q = ws at *
  obtain ⟨n,hn⟩ : ∃ n,n = x.Reaches.length - 1:=⟨_,rfl⟩
  have en : ((x.Reaches.length : Int) - 1) = (n : Int):=by omega
  obtain ⟨m,hm⟩ : ∃ m,m = n - 1:=⟨_,rfl⟩
  have em : ((n : Int) - 1) = (m : Int):=by omega
  rw [← hn]
  have r1:=ykk (rs:=rs) (k:=n) (by omega)
  have w1:=ytH (ws:=ws) (k:=m) (by omega)
  have hy : x.Ways[n]? = some (x.Ways.getD n default):=by rw [List.getD_eq_getElem?_getD,List.getElem?_eq_getElem (by omega)]; rfl
  have sr1:=a1.2 _ (List.mem_of_getElem? r1)
  have hT : ysP rs ws x.Ways n = yao (dR rs n) (yaD (dW ws m).Weir (yal (dR rs n)) 0) (yac (dR rs n).Table (x.Ways.getD n default).Bed):=by rw [hm]; rfl
  rw [hT]
  have ar1:=yhj r1
  have aw1:=yk0 w1
  generalize dR rs n = ra at *
  generalize dW ws m = wk at *
  generalize x.Ways.getD n default = wy at *
  have gy:=(List.getElem?_eq_some_iff.1 hy).2
  have sR : ∀ (rs : List Reach) (j : Nat) (r : Reach),(ycU rs).set j [.sl 2 (r.Table.map Point.enc),.i r.Volume,.sl 1 (r.Pipe.map yJ)] = ycU (rs.set j r):=fun _ _ _=>yjJ
  simp only [Reach.enc] at ar1
  simp only [Work.enc] at aw1
  have gr1:=(List.getElem?_eq_some_iff.1 ar1).2
  have gw1:=(List.getElem?_eq_some_iff.1 aw1).2
  have n1 : n < x.Reaches.length:=by omega
  have n2 : m < x.Works.length:=by omega
  have n3 : n < x.Ways.length:=by omega
  simp -dsimp -implicitDefEqProofs [ybE,ycB,l1,l2,ar1,gr1,aw1,gw1,n1,n2,n3,hy,gy,en,em]
  intro hlen2 hlen3
  refine ⟨by unfold inI; omega,by unfold inI; omega,?_⟩
  refine ya2 (yeo ra) (by simp -dsimp -implicitDefEqProofs) (.inr rfl) ?_
  simp -dsimp -implicitDefEqProofs
  refine ya2 (ygS wk.Weir (yal ra) 0) (by simp -dsimp -implicitDefEqProofs [aw1,gw1,gr1,n2]) (.inr rfl) ?_
  simp -dsimp -implicitDefEqProofs [n3,hy,gy]
  refine ya2 (yhS ra.Table wy.Bed) (by simp -dsimp -implicitDefEqProofs) (.inr rfl) ?_
  simp -dsimp -implicitDefEqProofs
  have hP:=yk8 ra (yaD wk.Weir (yal ra) 0) (yac ra.Table wy.Bed) sr1
  have hto:=yoY ra (yaD wk.Weir (yal ra) 0) (yac ra.Table wy.Bed)
  refine ya2 (hP) (by simp -dsimp -implicitDefEqProofs) (.inl rfl) ?_
  generalize yao ra (yaD wk.Weir (yal ra) 0) (yac ra.Table wy.Bed) = z at *
  have w5:=hw.out
  simp -dsimp -implicitDefEqProofs [ybE,l1,n1,gr1,ar1,sR,yt,yag ywd]
  refine ⟨by unfold inI; omega,?_,(List.take_of_length_le (by show (ygA ws).length ≤ _; rw [ycB]; omega)).symm⟩
  rw [List.take_of_length_le (by rw [ybE,List.length_set]; omega)]
  exact sR rs n z.1
set_option maxRecDepth 40000 in
theorem yjN (x0 : Waterway) (x1 : Int) : yB Tryz.prog 6 [.agg (x0.enc.map .c),.c (.i x1)] (.c (.b true)):=by
 refine yh ygQ ?_
 simp -dsimp -implicitDefEqProofs
 refine yc (yq5 x0 1048576 (by omega) (by omega)) ?_
 simp -dsimp -implicitDefEqProofs
 intro hsz0
 have hl0:=yzy yqh (by omega) (by omega) hsz0
 have ht:=ynf x0 1048576 (by omega) (by omega) hsz0
 have hwm:=yAl x0 1
 have hO:=ynb x0 x1 hl0
 have hS:=ynA x0 x1 hl0
 have hM:=yl8 x0 x1 hl0 (by omega)
 refine yS (yib x0 hl0) ?_
 simp -dsimp -implicitDefEqProofs
 refine yS hS ?_
 generalize yaW x0 x1 = r at *
 simp -dsimp -implicitDefEqProofs
 refine yQ (ytB x0 hl0) (by simp) (yb5 (Waterway.yad x0)) (by simp [yU]) ?_
 simp -dsimp -implicitDefEqProofs
 have hP : yB Tryz.prog 39 [.agg (x0.enc.map .c),.c (.i x1)] (.agg (r.enc.map .c)):=hO.pure (by simp [AV.shr,AV.ysI,ybQ,C.shr,yag Reach.yaa,yag Work.yaa,yag ycu,yag Train.yaa,yag Passing.yaa])
 refine yQ hO (by simp -dsimp -implicitDefEqProofs [yt,yag Reach.yaa,yag Work.yaa,yag ycu,yag Train.yaa,yag Passing.yaa,yag CallT.yaa]) (yb5 (Waterway.yad r)) (by simp [yU]) ?_
 simp -dsimp -implicitDefEqProofs
 refine yaQ (yfL r r) (by simp -dsimp -implicitDefEqProofs [yt,yag Reach.yaa,yag Work.yaa,yag ycu,yag Train.yaa,yag Passing.yaa,yag CallT.yaa]) rfl ?_
 simp -dsimp -implicitDefEqProofs
 refine yyA (yib x0 hl0) ?_
 simp -dsimp -implicitDefEqProofs
 refine ⟨_,_,yfL x0 x0,by simp -dsimp -implicitDefEqProofs [yt,yag Reach.yaa,yag Work.yaa,yag ycu,yag Train.yaa,yag Passing.yaa,yag CallT.yaa],.inr rfl,?_⟩
 simp -dsimp -implicitDefEqProofs
 refine yg1 (ups:=[none,some (20023,.tr 3 1 (yaA ycQ yay 1 x0.Reaches)),some (30023,.row 2 (marked ydz 2 [] (wm1 x0 1) x0.Ways.length)),some (40023,.tr 22 1 (yaA ydH yaJ (wm2 x0 1) x0.Works)),some (50023,.tr 1 1 (yaA ycj yap (wm3 x0 1) x0.Movers)),some (60023,.tr 2 1 (yaA ybN yE (wm4 x0 1) x0.Arrived)),some (70023,.row 1 (marked yJ 1 [] (wm5 x0 1) x0.Entered.length)),none,none,some (100023,.row 1 (marked yJ 1 [] (wm6 x0 1) x0.Tariff.PerClass.length)),some (110023,.row 1 (marked yJ 1 [] (wm6 x0 1 + x0.Tariff.PerClass.length) x0.Tariff.Weights.length)),some (120023,.row 5 (marked yjL 5 [] (wm7 x0 1) x0.Book.length)),some (130023,.tr 4 1 (yaA ybL yae (wm8 x0 1) x0.Passings)),none,none,none]) (yi8 x0 1 (by omega) (by omega)) (by simp -dsimp -implicitDefEqProofs) rfl rfl
  ⟨yb6 rfl,yf9 (rows:=x0.Reaches.map Reach.yI) (by simp -dsimp -implicitDefEqProofs) rfl rfl rfl (by simp) (by simp [yH]) rfl rfl,ybY (rows:=x0.Ways.map Way.enc) (by simp -dsimp -implicitDefEqProofs) rfl rfl (by simp) (by simp [yM]) rfl rfl,yf9 (rows:=x0.Works.map Work.yI) (by simp -dsimp -implicitDefEqProofs) rfl rfl rfl (by simp) (by simp [yH]) rfl rfl,yf9 (rows:=x0.Movers.map yax) (by simp -dsimp -implicitDefEqProofs) rfl rfl rfl (by simp) (by simp [yH]) rfl rfl,yf9 (rows:=x0.Arrived.map Train.yI) (by simp -dsimp -implicitDefEqProofs) rfl rfl rfl (by simp) (by simp [yH]) rfl rfl,ybY (rows:=x0.Entered.map yJ) (by simp -dsimp -implicitDefEqProofs) rfl rfl (by simp) (by simp [yM]) rfl rfl,yb6 rfl,yb6 rfl,ybY (rows:=x0.Tariff.PerClass.map yJ) (by simp -dsimp -implicitDefEqProofs) rfl rfl (by simp) (by simp [yM]) rfl rfl,ybY (rows:=x0.Tariff.Weights.map yJ) (by simp -dsimp -implicitDefEqProofs) rfl rfl (by simp) (by simp [yM]) rfl rfl,ybY (rows:=x0.Book.map Entry.enc) (by simp -dsimp -implicitDefEqProofs) rfl rfl (by simp) (by simp [yM]) rfl rfl,yf9 (rows:=x0.Passings.map Passing.yI) (by simp -dsimp -implicitDefEqProofs) rfl rfl rfl (by simp) (by simp [yH]) rfl rfl,yb6 rfl,yb6 rfl,yb6 rfl,trivial⟩ (by simp [ydf]) ?_
 have w9 : 0 ≤ wm9 x0 1:=by have:=wkB x0 (k:=1) (by omega); obtain ⟨b0,b1,b2,b3,b4,b5,b6,b7,b8,b9⟩:=this; omega
 have n1 : (wm9 x0 1 < 0) = False:=by simp; omega
 simp -dsimp -implicitDefEqProofs [n1]
 refine yaQ (yfL r r) (by simp -dsimp -implicitDefEqProofs [yt,yag Reach.yaa,yag Work.yaa,yag ycu,yag Train.yaa,yag Passing.yaa,yag CallT.yaa]) rfl ?_
 simp -dsimp -implicitDefEqProofs
 refine yg1 (ups:=[none,some (20026,.tr 3 1 (yaA ycQ yay 1 r.Reaches)),some (30026,.row 2 (marked ydz 2 [] (wm1 r 1) r.Ways.length)),some (40026,.tr 22 1 (yaA ydH yaJ (wm2 r 1) r.Works)),some (50026,.tr 1 1 (yaA ycj yap (wm3 r 1) r.Movers)),some (60026,.tr 2 1 (yaA ybN yE (wm4 r 1) r.Arrived)),some (70026,.row 1 (marked yJ 1 [] (wm5 r 1) r.Entered.length)),none,none,some (100026,.row 1 (marked yJ 1 [] (wm6 r 1) r.Tariff.PerClass.length)),some (110026,.row 1 (marked yJ 1 [] (wm6 r 1 + r.Tariff.PerClass.length) r.Tariff.Weights.length)),some (120026,.row 5 (marked yjL 5 [] (wm7 r 1) r.Book.length)),some (130026,.tr 4 1 (yaA ybL yae (wm8 r 1) r.Passings)),none,none,none]) (yi8 r 1 (by omega) (by omega)) (by simp -dsimp -implicitDefEqProofs) rfl rfl
  ⟨yb6 rfl,yf9 (rows:=r.Reaches.map Reach.yI) (by simp -dsimp -implicitDefEqProofs) rfl rfl rfl (by simp) (by simp [yH]) rfl rfl,ybY (rows:=r.Ways.map Way.enc) (by simp -dsimp -implicitDefEqProofs) rfl rfl (by simp) (by simp [yM]) rfl rfl,yf9 (rows:=r.Works.map Work.yI) (by simp -dsimp -implicitDefEqProofs) rfl rfl rfl (by simp) (by simp [yH]) rfl rfl,yf9 (rows:=r.Movers.map yax) (by simp -dsimp -implicitDefEqProofs) rfl rfl rfl (by simp) (by simp [yH]) rfl rfl,yf9 (rows:=r.Arrived.map Train.yI) (by simp -dsimp -implicitDefEqProofs) rfl rfl rfl (by simp) (by simp [yH]) rfl rfl,ybY (rows:=r.Entered.map yJ) (by simp -dsimp -implicitDefEqProofs) rfl rfl (by simp) (by simp [yM]) rfl rfl,yb6 rfl,yb6 rfl,ybY (rows:=r.Tariff.PerClass.map yJ) (by simp -dsimp -implicitDefEqProofs) rfl rfl (by simp) (by simp [yM]) rfl rfl,ybY (rows:=r.Tariff.Weights.map yJ) (by simp -dsimp -implicitDefEqProofs) rfl rfl (by simp) (by simp [yM]) rfl rfl,ybY (rows:=r.Book.map Entry.enc) (by simp -dsimp -implicitDefEqProofs) rfl rfl (by simp) (by simp [yM]) rfl rfl,yf9 (rows:=r.Passings.map Passing.yI) (by simp -dsimp -implicitDefEqProofs) rfl rfl rfl (by simp) (by simp [yH]) rfl rfl,yb6 rfl,yb6 rfl,yb6 rfl,trivial⟩ (by simp [ydf]) ?_
 have v9 : 0 ≤ wm9 r 1:=by have:=wkB r (k:=1) (by omega); obtain ⟨b0,b1,b2,b3,b4,b5,b6,b7,b8,b9⟩:=this; omega
 have n2 : (wm9 r 1 < 0) = False:=by simp; omega
 simp -dsimp -implicitDefEqProofs
 have hH:=yp9 r 1 (by omega) (by omega)
 unfold yAe at hH
 refine yaQ (hH) (by simp -dsimp -implicitDefEqProofs [yd6,yrQ,yba ykO,yba ymN,yba ykc,yba yh9,yba yiO,yba yiY]) rfl ?_
 simp -dsimp -implicitDefEqProofs [n2]
 refine yS (yib x0 hl0) ?_
 simp -dsimp -implicitDefEqProofs
 refine yS hP ?_
 simp -dsimp -implicitDefEqProofs
 refine yaQ (yfL r r) (by simp -dsimp -implicitDefEqProofs [yt,yag Reach.yaa,yag Work.yaa,yag ycu,yag Train.yaa,yag Passing.yaa,yag CallT.yaa]) rfl ?_
 simp -dsimp -implicitDefEqProofs
 refine yaQ (hH) (by simp -dsimp -implicitDefEqProofs [yd6,yrQ,yba ykO,yba ymN,yba ykc,yba yh9,yba yiO,yba yiY]) rfl ?_
 simp -dsimp -implicitDefEqProofs [n2]
theorem yye {xs : List C} (h : Fits [.i,.i,.i,.i,.i] xs) : ∃ e : Entry,xs = e.enc:=by
 obtain ⟨c0,ys,rfl,h0,h⟩:=h.cons_inv
 obtain ⟨c1,ys,rfl,h1,h⟩:=h.cons_inv
 obtain ⟨c2,ys,rfl,h2,h⟩:=h.cons_inv
 obtain ⟨c3,ys,rfl,h3,h⟩:=h.cons_inv
 obtain ⟨c4,ys,rfl,h4,h⟩:=h.cons_inv
 obtain rfl:=h.ycx
 obtain ⟨n0,rfl⟩:=h0.yaT
 obtain ⟨n1,rfl⟩:=h1.yaT
 obtain ⟨n2,rfl⟩:=h2.yaT
 obtain ⟨n3,rfl⟩:=h3.yaT
 obtain ⟨n4,rfl⟩:=h4.yaT
 exact ⟨⟨n0,n1,n2,n3,n4⟩,rfl⟩
theorem ykL {xs : List C} (h : Fits [.i] xs) : ∃ n : Int,xs = yJ n:=by
 obtain ⟨c0,ys,rfl,h0,h⟩:=h.cons_inv
 obtain rfl:=h.ycx
 obtain ⟨n0,rfl⟩:=h0.yaT
 exact ⟨n0,rfl⟩
theorem yBG {xs : List C} (h : Fits [.i,.i] xs) : ∃ e : Way,xs = e.enc:=by
 obtain ⟨c0,ys,rfl,h0,h⟩:=h.cons_inv
 obtain ⟨c1,ys,rfl,h1,h⟩:=h.cons_inv
 obtain rfl:=h.ycx
 obtain ⟨n0,rfl⟩:=h0.yaT
 obtain ⟨n1,rfl⟩:=h1.yaT
 exact ⟨⟨n0,n1⟩,rfl⟩
theorem yAu {xs : List C} (h : Fits [.i,.i,.i,.i,.i,.i] xs) : ∃ e : Boat,xs = e.enc:=by
 obtain ⟨c0,ys,rfl,h0,h⟩:=h.cons_inv
 obtain ⟨c1,ys,rfl,h1,h⟩:=h.cons_inv
 obtain ⟨c2,ys,rfl,h2,h⟩:=h.cons_inv
 obtain ⟨c3,ys,rfl,h3,h⟩:=h.cons_inv
 obtain ⟨c4,ys,rfl,h4,h⟩:=h.cons_inv
 obtain ⟨c5,ys,rfl,h5,h⟩:=h.cons_inv
 obtain rfl:=h.ycx
 obtain ⟨n0,rfl⟩:=h0.yaT
 obtain ⟨n1,rfl⟩:=h1.yaT
 obtain ⟨n2,rfl⟩:=h2.yaT
 obtain ⟨n3,rfl⟩:=h3.yaT
 obtain ⟨n4,rfl⟩:=h4.yaT
 obtain ⟨n5,rfl⟩:=h5.yaT
 exact ⟨⟨n0,n1,n2,n3,n4,n5⟩,rfl⟩
theorem yjF {xs : List C} (h : Fits [.sl [.i,.i,.i,.i,.i,.i]] xs) : ∃ e : List Boat,xs = yai e:=by
 obtain ⟨c0,ys,rfl,h0,h⟩:=h.cons_inv
 obtain rfl:=h.ycx
 obtain ⟨n0,rfl⟩:=h0.ycq Boat.enc fun _ h=>yAu h
 exact ⟨n0,rfl⟩
theorem yrO {xs : List C} (h : Fits [.b,.sl [.sl [.i,.i,.i,.i,.i,.i]]] xs) : ∃ e : Train,xs = e.enc:=by
 obtain ⟨c0,ys,rfl,h0,h⟩:=h.cons_inv
 obtain ⟨c1,ys,rfl,h1,h⟩:=h.cons_inv
 obtain rfl:=h.ycx
 obtain ⟨n0,rfl⟩:=h0.yuo
 obtain ⟨n1,rfl⟩:=h1.ycq yai fun _ h=>yjF h
 exact ⟨⟨n0,n1⟩,rfl⟩
theorem yyj {xs : List C} (h : Fits [.b,.sl [.sl [.i,.i,.i,.i,.i,.i]],.i] xs) : ∃ e : Mover,xs = e.enc:=by
 obtain ⟨c0,ys,rfl,h0,h⟩:=h.cons_inv
 obtain ⟨c1,ys,rfl,h1,h⟩:=h.cons_inv
 obtain ⟨c2,ys,rfl,h2,h⟩:=h.cons_inv
 obtain rfl:=h.ycx
 obtain ⟨n0,rfl⟩:=h0.yuo
 obtain ⟨n1,rfl⟩:=h1.ycq yai fun _ h=>yjF h
 obtain ⟨n2,rfl⟩:=h2.yaT
 exact ⟨⟨⟨n0,n1⟩,n2⟩,rfl⟩
theorem yxJ {xs : List C} (h : Fits [.i,.i] xs) : ∃ e : Point,xs = e.enc:=by
 obtain ⟨c0,ys,rfl,h0,h⟩:=h.cons_inv
 obtain ⟨c1,ys,rfl,h1,h⟩:=h.cons_inv
 obtain rfl:=h.ycx
 obtain ⟨n0,rfl⟩:=h0.yaT
 obtain ⟨n1,rfl⟩:=h1.yaT
 exact ⟨⟨n0,n1⟩,rfl⟩
theorem yxz {xs : List C} (h : Fits [.sl [.i,.i],.i,.sl [.i]] xs) : ∃ e : Reach,xs = e.enc:=by
 obtain ⟨c0,ys,rfl,h0,h⟩:=h.cons_inv
 obtain ⟨c1,ys,rfl,h1,h⟩:=h.cons_inv
 obtain ⟨c2,ys,rfl,h2,h⟩:=h.cons_inv
 obtain rfl:=h.ycx
 obtain ⟨n0,rfl⟩:=h0.ycq Point.enc fun _ h=>yxJ h
 obtain ⟨n1,rfl⟩:=h1.yaT
 obtain ⟨n2,rfl⟩:=h2.ycq yJ fun _ h=>ykL h
 exact ⟨⟨n0,n1,n2⟩,rfl⟩
theorem yxt {xs : List C} (h : Fits [.i,.i] xs) : ∃ e : Pause,xs = e.enc:=by
 obtain ⟨c0,ys,rfl,h0,h⟩:=h.cons_inv
 obtain ⟨c1,ys,rfl,h1,h⟩:=h.cons_inv
 obtain rfl:=h.ycx
 obtain ⟨n0,rfl⟩:=h0.yaT
 obtain ⟨n1,rfl⟩:=h1.yaT
 exact ⟨⟨n0,n1⟩,rfl⟩
theorem yz8 {xs : List C} (h : Fits [.b,.sl [.sl [.i,.i,.i,.i,.i,.i]],.i,.i] xs) : ∃ e : CallT,xs = e.enc:=by
 obtain ⟨c0,ys,rfl,h0,h⟩:=h.cons_inv
 obtain ⟨c1,ys,rfl,h1,h⟩:=h.cons_inv
 obtain ⟨c2,ys,rfl,h2,h⟩:=h.cons_inv
 obtain ⟨c3,ys,rfl,h3,h⟩:=h.cons_inv
 obtain rfl:=h.ycx
 obtain ⟨n0,rfl⟩:=h0.yuo
 obtain ⟨n1,rfl⟩:=h1.ycq yai fun _ h=>yjF h
 obtain ⟨n2,rfl⟩:=h2.yaT
 obtain ⟨n3,rfl⟩:=h3.yaT
 exact ⟨⟨⟨n0,n1⟩,n2,n3⟩,rfl⟩
theorem yy3 {xs : List C} (h : Fits [.i,.i,.i,.i,.i,.i,.i,.i,.i,.sl [.b,.sl [.sl [.i,.i,.i,.i,.i,.i]]],.i,.i,.i,.i,.i,.i,.i,.i,.sl [.i,.i],.b,.i,.sl [.b,.sl [.sl [.i,.i,.i,.i,.i,.i]],.i,.i]] xs) : ∃ e : Work,xs = e.enc:=by
 obtain ⟨c0,ys,rfl,h0,h⟩:=h.cons_inv
 obtain ⟨c1,ys,rfl,h1,h⟩:=h.cons_inv
 obtain ⟨c2,ys,rfl,h2,h⟩:=h.cons_inv
 obtain ⟨c3,ys,rfl,h3,h⟩:=h.cons_inv
 obtain ⟨c4,ys,rfl,h4,h⟩:=h.cons_inv
 obtain ⟨c5,ys,rfl,h5,h⟩:=h.cons_inv
 obtain ⟨c6,ys,rfl,h6,h⟩:=h.cons_inv
 obtain ⟨c7,ys,rfl,h7,h⟩:=h.cons_inv
 obtain ⟨c8,ys,rfl,h8,h⟩:=h.cons_inv
 obtain ⟨c9,ys,rfl,h9,h⟩:=h.cons_inv
 obtain ⟨c10,ys,rfl,h10,h⟩:=h.cons_inv
 obtain ⟨c11,ys,rfl,h11,h⟩:=h.cons_inv
 obtain ⟨c12,ys,rfl,h12,h⟩:=h.cons_inv
 obtain ⟨c13,ys,rfl,h13,h⟩:=h.cons_inv
 obtain ⟨c14,ys,rfl,h14,h⟩:=h.cons_inv
 obtain ⟨c15,ys,rfl,h15,h⟩:=h.cons_inv
 obtain ⟨c16,ys,rfl,h16,h⟩:=h.cons_inv
 obtain ⟨c17,ys,rfl,h17,h⟩:=h.cons_inv
 obtain ⟨c18,ys,rfl,h18,h⟩:=h.cons_inv
 obtain ⟨c19,ys,rfl,h19,h⟩:=h.cons_inv
 obtain ⟨c20,ys,rfl,h20,h⟩:=h.cons_inv
 obtain ⟨c21,ys,rfl,h21,h⟩:=h.cons_inv
 obtain rfl:=h.ycx
 obtain ⟨n0,rfl⟩:=h0.yaT
 obtain ⟨n1,rfl⟩:=h1.yaT
 obtain ⟨n2,rfl⟩:=h2.yaT
 obtain ⟨n3,rfl⟩:=h3.yaT
 obtain ⟨n4,rfl⟩:=h4.yaT
 obtain ⟨n5,rfl⟩:=h5.yaT
 obtain ⟨n6,rfl⟩:=h6.yaT
 obtain ⟨n7,rfl⟩:=h7.yaT
 obtain ⟨n8,rfl⟩:=h8.yaT
 obtain ⟨n9,rfl⟩:=h9.ycq Train.enc fun _ h=>yrO h
 obtain ⟨n10,rfl⟩:=h10.yaT
 obtain ⟨n11,rfl⟩:=h11.yaT
 obtain ⟨n12,rfl⟩:=h12.yaT
 obtain ⟨n13,rfl⟩:=h13.yaT
 obtain ⟨n14,rfl⟩:=h14.yaT
 obtain ⟨n15,rfl⟩:=h15.yaT
 obtain ⟨n16,rfl⟩:=h16.yaT
 obtain ⟨n17,rfl⟩:=h17.yaT
 obtain ⟨n18,rfl⟩:=h18.ycq Pause.enc fun _ h=>yxt h
 obtain ⟨n19,rfl⟩:=h19.yuo
 obtain ⟨n20,rfl⟩:=h20.yaT
 obtain ⟨n21,rfl⟩:=h21.ycq CallT.enc fun _ h=>yz8 h
 exact ⟨⟨⟨n0,n1,n2,n3,n4,n5,n6,n7,n8,n9⟩,⟨n10,n11,n12,n13,n14⟩,⟨n15,n16,n17⟩,n18,⟨n19,n20⟩,n21⟩,rfl⟩
theorem ywg {xs : List C} (h : Fits [.sl [.b,.sl [.sl [.i,.i,.i,.i,.i,.i]],.i]] xs) : ∃ e : List Mover,xs = yZ e:=by
 obtain ⟨c0,ys,rfl,h0,h⟩:=h.cons_inv
 obtain rfl:=h.ycx
 obtain ⟨n0,rfl⟩:=h0.ycq Mover.enc fun _ h=>yyj h
 exact ⟨n0,rfl⟩
theorem yuj {xs : List C} (h : Fits [.i,.i,.b,.sl [.sl [.i,.i,.i,.i,.i,.i]]] xs) : ∃ e : Passing,xs = e.enc:=by
 obtain ⟨c0,ys,rfl,h0,h⟩:=h.cons_inv
 obtain ⟨c1,ys,rfl,h1,h⟩:=h.cons_inv
 obtain ⟨c2,ys,rfl,h2,h⟩:=h.cons_inv
 obtain ⟨c3,ys,rfl,h3,h⟩:=h.cons_inv
 obtain rfl:=h.ycx
 obtain ⟨n0,rfl⟩:=h0.yaT
 obtain ⟨n1,rfl⟩:=h1.yaT
 obtain ⟨n2,rfl⟩:=h2.yuo
 obtain ⟨n3,rfl⟩:=h3.ycq yai fun _ h=>yjF h
 exact ⟨⟨n0,n1,⟨n2,n3⟩⟩,rfl⟩
theorem ysY {xs : List C} (h : Fits [.i,.sl [.sl [.i,.i],.i,.sl [.i]],.sl [.i,.i],.sl [.i,.i,.i,.i,.i,.i,.i,.i,.i,.sl [.b,.sl [.sl [.i,.i,.i,.i,.i,.i]]],.i,.i,.i,.i,.i,.i,.i,.i,.sl [.i,.i],.b,.i,.sl [.b,.sl [.sl [.i,.i,.i,.i,.i,.i]],.i,.i]],.sl [.sl [.b,.sl [.sl [.i,.i,.i,.i,.i,.i]],.i]],.sl [.b,.sl [.sl [.i,.i,.i,.i,.i,.i]]],.sl [.i],.i,.i,.sl [.i],.sl [.i],.sl [.i,.i,.i,.i,.i],.sl [.i,.i,.b,.sl [.sl [.i,.i,.i,.i,.i,.i]]],.i,.i,.i] xs) : ∃ e : Waterway,xs = e.enc:=by
 obtain ⟨c0,ys,rfl,h0,h⟩:=h.cons_inv
 obtain ⟨c1,ys,rfl,h1,h⟩:=h.cons_inv
 obtain ⟨c2,ys,rfl,h2,h⟩:=h.cons_inv
 obtain ⟨c3,ys,rfl,h3,h⟩:=h.cons_inv
 obtain ⟨c4,ys,rfl,h4,h⟩:=h.cons_inv
 obtain ⟨c5,ys,rfl,h5,h⟩:=h.cons_inv
 obtain ⟨c6,ys,rfl,h6,h⟩:=h.cons_inv
 obtain ⟨c7,ys,rfl,h7,h⟩:=h.cons_inv
 obtain ⟨c8,ys,rfl,h8,h⟩:=h.cons_inv
 obtain ⟨c9,ys,rfl,h9,h⟩:=h.cons_inv
 obtain ⟨c10,ys,rfl,h10,h⟩:=h.cons_inv
 obtain ⟨c11,ys,rfl,h11,h⟩:=h.cons_inv
 obtain ⟨c12,ys,rfl,h12,h⟩:=h.cons_inv
 obtain ⟨c13,ys,rfl,h13,h⟩:=h.cons_inv
 obtain ⟨c14,ys,rfl,h14,h⟩:=h.cons_inv
 obtain ⟨c15,ys,rfl,h15,h⟩:=h.cons_inv
 obtain rfl:=h.ycx
 obtain ⟨n0,rfl⟩:=h0.yaT
 obtain ⟨n1,rfl⟩:=h1.ycq Reach.enc fun _ h=>yxz h
 obtain ⟨n2,rfl⟩:=h2.ycq Way.enc fun _ h=>yBG h
 obtain ⟨n3,rfl⟩:=h3.ycq Work.enc fun _ h=>yy3 h
 obtain ⟨n4,rfl⟩:=h4.ycq yZ fun _ h=>ywg h
 obtain ⟨n5,rfl⟩:=h5.ycq Train.enc fun _ h=>yrO h
 obtain ⟨n6,rfl⟩:=h6.ycq yJ fun _ h=>ykL h
 obtain ⟨n7,rfl⟩:=h7.yaT
 obtain ⟨n8,rfl⟩:=h8.yaT
 obtain ⟨n9,rfl⟩:=h9.ycq yJ fun _ h=>ykL h
 obtain ⟨n10,rfl⟩:=h10.ycq yJ fun _ h=>ykL h
 obtain ⟨n11,rfl⟩:=h11.ycq Entry.enc fun _ h=>yye h
 obtain ⟨n12,rfl⟩:=h12.ycq Passing.enc fun _ h=>yuj h
 obtain ⟨n13,rfl⟩:=h13.yaT
 obtain ⟨n14,rfl⟩:=h14.yaT
 obtain ⟨n15,rfl⟩:=h15.yaT
 exact ⟨⟨n0,n1,n2,n3,n4,n5,n6,⟨n7,n8,n9,n10⟩,n11,n12,n13,n14,n15⟩,rfl⟩
theorem ygT : IsLaw Rows.fnExactSteerWeirsSpec Tryz.f6.params.size:=by
 refine ⟨rfl,fun H ds h=>?_⟩
 match ds,h with
 | [d0,d1],_=>rfl
theorem ygc : LawFacts Tryz.prog Tryz.f6 (Tryz.f6.resultTypes.getD 0 0) [(true,[.i,.sl [.sl [.i,.i],.i,.sl [.i]],.sl [.i,.i],.sl [.i,.i,.i,.i,.i,.i,.i,.i,.i,.sl [.b,.sl [.sl [.i,.i,.i,.i,.i,.i]]],.i,.i,.i,.i,.i,.i,.i,.i,.sl [.i,.i],.b,.i,.sl [.b,.sl [.sl [.i,.i,.i,.i,.i,.i]],.i,.i]],.sl [.sl [.b,.sl [.sl [.i,.i,.i,.i,.i,.i]],.i]],.sl [.b,.sl [.sl [.i,.i,.i,.i,.i,.i]]],.sl [.i],.i,.i,.sl [.i],.sl [.i],.sl [.i,.i,.i,.i,.i],.sl [.i,.i,.b,.sl [.sl [.i,.i,.i,.i,.i,.i]]],.i,.i,.i]),(false,[.i])] :=
 ⟨yrS,by kernel_rfl,by kernel_rfl,by kernel_rfl,by kernel_rfl⟩
set_option maxRecDepth 100000 in
theorem ygP (os : Os) (started : os.Started) (H : Type) (enc : TypeId × Value → H) :
 ReturnsInHanded {} Tryz.checked os 6 .any (Rows.fnExactSteerWeirsSpec.pre6 enc Tryz.prog Tryz.f6 Rows.fnExactSteerWeirsRow.domain false) (Rows.fnExactSteerWeirsSpec.post enc Tryz.prog Tryz.f6 false true false false):=by
 refine law_lifted (C:=Tryz.checked) yt1 started (by kernel_rfl) Tryz.func6
  (ChangeSpec.witness6 (enc:=enc) (C:=Tryz.checked) false ⟨#[],#[.agg #[.int .i64 0,.slice none 0 0,.slice none 0 0,.slice none 0 0,.slice none 0 0,.slice none 0 0,.slice none 0 0,.int .i64 0,.int .i64 0,.slice none 0 0,.slice none 0 0,.slice none 0 0,.slice none 0 0,.int .i64 0,.int .i64 0,.int .i64 0],.int .i64 0],[]⟩ 8 (by kernel_rfl) (by kernel_rfl) (by kernel_rfl) (by kernel_rfl)) ygT ygc ?_
 rintro avs ⟨a,avs0,rfl,ha,b,avs1,rfl,hb,rfl⟩
 cases ha with
 | st h0 =>
  cases hb with
  | one h1 =>
   obtain ⟨x0,rfl⟩:=ysY h0
   obtain ⟨x1,rfl⟩:=h1.yaT
   exact yjN x0 x1
theorem yg3 : ypf Tryz.prog 6 Tryz.f6 Rows.fnExactSteerWeirsSpec Rows.fnExactSteerWeirsRow = true:=by kernel_rfl
theorem yg8 : Tryz.pinned.checked.prog.funcNamed Rows.fnExactSteerWeirsRow.func = some 6:=by kernel_rfl
theorem yhN : Tryz.f6.isInstance Tryz.pinned.checked.prog Rows.fnExactSteerWeirsRow.origin Rows.fnExactSteerWeirsRow.targs:=(of_decide_eq_true (by kernel_rfl))
theorem yh6 : Tryz.f6.isWrapper Tryz.pinned.checked.prog Rows.fnExactSteerWeirsRow.wrapper Rows.fnExactSteerWeirsRow.mainSum:=by
 unfold Func.isWrapper; first | (rw [if_pos (by decide +kernel)]; kernel_rfl) | (rw [if_neg (by decide +kernel)]; exact ⟨rfl,rfl⟩)
theorem FnExactSteerWeirs_holds : Rows.FnExactSteerWeirsSaid :=
 OpenClaim.holds_of_wide (p:=Tryz.pinned) (s:=Rows.fnExactSteerWeirsSpec) (c:=Rows.fnExactSteerWeirsRow) 6 Tryz.f6 rfl rfl rfl rfl rfl rfl rfl ⟨rfl,rfl,rfl,rfl,rfl⟩ rfl rfl rfl rfl rfl yg8 Tryz.func6
  (yyi yxx yg3 ⟨rfl,rfl,rfl,rfl,rfl,rfl,rfl,rfl⟩) yhN yh6 (fun os started H enc _=>ygP os started H enc)
end Go.Proofs.YtefegahoniahkaaGreat
