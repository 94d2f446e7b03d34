/- What the law FnExactEnterTrain stands on: contracts of functions, what each answers as plain Lean, in short form (names, layout). -/
import Derived.Test.YtefegahoniahkaaGreatSExactEnterTrain3
set_option linter.all false
namespace Go.Proofs.YtefegahoniahkaaGreat
open Go.RowKit
open Go.ChangeShapes Go.WideShapes
theorem yuE (xs : List CallT) (k : Int) (h0 : 0 ≤ k) (h1 : k + cnt yaI xs ≤ 8000000000000000000) : yB Tryz.prog 156 [.c (.sl 4 (yaA yie yaI k xs)),.c (.i k)] (.c (.i (k + cnt yaI xs))):=by
 refine yh ymg ?_
 simp -dsimp -implicitDefEqProofs
 refine yg (ι:=Nat) (fun i=>i ≤ xs.length) (fun i=>yO [(0,.c (.sl 4 (yaA yie yaI k xs))),(1,.c (.i (k + yaK yaI xs i))),(5,.c (.i i))] []) (fun i=>xs.length - i) 0 (by simp) (by apply yj <;> simp [ya0]) ?_
 rintro i hi
 rcases Nat.lt_or_ge i xs.length with hlt | hge
 ·obtain ⟨e,he⟩ : ∃ e,xs[i]? = some e:=⟨_,List.getElem?_eq_getElem hlt⟩
  have hg:=yfH (f:=yie) (n:=yaI) (k:=k) he
  have hc:=ya1 (n:=yaI) he
  have hle:=ybS (n:=yaI) (xs:=xs) (i:=i + 1)
  have hn : yaI e = 1 + cnt nB e.Train.Rows + 1 + 1:=rfl
  simp only [yie] at hg
  generalize hK : (k + (yaK yaI xs i : Int)) = K at *
  have hk : 0 ≤ K:=by omega
  simp -dsimp -implicitDefEqProofs [yH,yG hlt,hg]
  intro hlen
  repeat (refine ⟨by first | exact hlt | (unfold inI; omega) | exact ybA (by omega),?_⟩)
  refine yc (yfS e.Train.Rows (K + 1) (by omega) (by omega)) ?_
  have n1 : (K + 1 + (cnt nB e.Train.Rows : Int) < 0) = False:=by simp; omega
  simp -dsimp -implicitDefEqProofs [n1,yH,yG hlt,hg]
  repeat (refine ⟨by first | exact hlt | (unfold inI; omega) | exact ybA (by omega) | exact yw hlt hlen,?_⟩)
  refine ⟨i + 1,hlt,by omega,?_⟩
  apply yj <;> simp <;> omega
 ·have : i = xs.length:=by omega
  subst this
  simp -dsimp -implicitDefEqProofs [yH]
  rw [ybl (Nat.le_refl _)]
  intro _; rfl
@[simp] def Lock.yI (e : Lock) : List C:=[.i e.Length,.i e.Width,.i e.SillAbove,.i e.SillBelow,.i e.Base,.i e.Area,.i e.Rate,.i e.Water,.i e.Gate,.ot 2 (e.Inside.map Train.yI)]
theorem Lock.yaa (e : Lock) : ybQ e.yI = some e.enc:=by simp [Lock.yI,ybQ,ydl Train.yaa]
theorem Lock.yad (e : Lock) : ∀ c ∈ e.yI,c.closed:=by
 simp only [Lock.yI,List.mem_cons,List.not_mem_nil,or_false,forall_eq_or_imp,forall_eq]
 exact ⟨by simp [C.closed],by simp [C.closed],by simp [C.closed],by simp [C.closed],by simp [C.closed],by simp [C.closed],by simp [C.closed],by simp [C.closed],by simp [C.closed],ybn Train.yad _ _⟩
set_option maxRecDepth 20000 in
theorem yzM (e : Lock) (hl : Lock.small e) : ybh Tryz.prog 123 [.agg (e.enc.map .c)] (.agg (e.yI.map .c)):=by
 refine yan ykg ?_
 simp -dsimp -implicitDefEqProofs
 refine yQ (ypF e.Inside hl) (by simp) (ybn Train.yad _ _) (by simp [yU]) ?_
 simp -dsimp -implicitDefEqProofs [yt]
@[simp] def Work.yI (e : Work) : List C:=[.i e.Lock.Length,.i e.Lock.Width,.i e.Lock.SillAbove,.i e.Lock.SillBelow,.i e.Lock.Base,.i e.Lock.Area,.i e.Lock.Rate,.i e.Lock.Water,.i e.Lock.Gate,.ot 2 (e.Lock.Inside.map Train.yI),.i e.Weir.Gates,.i e.Weir.Open,.i e.Weir.Step,.i e.Weir.Crest,.i e.Weir.Width,.i e.Rule.Low,.i e.Rule.High,.i e.Rule.Flood,.ow 2 (e.Pauses.map Pause.enc),.b e.Turn.Up,.i e.Turn.Count,.ot 4 (e.Calls.map CallT.yI)]
theorem Work.yaa (e : Work) : ybQ e.yI = some e.enc:=by simp [Work.yI,ybQ,ydl Train.yaa,ydl CallT.yaa]
theorem Work.yad (e : Work) : ∀ c ∈ e.yI,c.closed:=by
 simp only [Work.yI,List.mem_cons,List.not_mem_nil,or_false,forall_eq_or_imp,forall_eq]
 exact ⟨by simp [C.closed],by simp [C.closed],by simp [C.closed],by simp [C.closed],by simp [C.closed],by simp [C.closed],by simp [C.closed],by simp [C.closed],by simp [C.closed],ybn Train.yad _ _,by simp [C.closed],by simp [C.closed],by simp [C.closed],by simp [C.closed],by simp [C.closed],by simp [C.closed],by simp [C.closed],by simp [C.closed],by simp [C.closed],by simp [C.closed],by simp [C.closed],ybn CallT.yad _ _⟩
set_option maxRecDepth 20000 in
theorem yAJ (e : Work) (hl : Work.small e) : ybh Tryz.prog 48 [.agg (e.enc.map .c)] (.agg (e.yI.map .c)):=by
 refine yan yka ?_
 simp -dsimp -implicitDefEqProofs
 refine yQ (yzM e.Lock hl.1) (by simp) (yb5 (Lock.yad _)) (by simp [yU]) ?_
 simp -dsimp -implicitDefEqProofs [yt]
 refine yc (yuN e.Weir) ?_
 simp -dsimp -implicitDefEqProofs
 refine yc (yvb e.Rule) ?_
 simp -dsimp -implicitDefEqProofs
 refine yQ (yvP e.Pauses hl.2.1) (by simp) (by simp [AV.closed,AV.ya7,C.closed]) (by simp [yU]) ?_
 simp -dsimp -implicitDefEqProofs [yt]
 refine yc (ytT e.Turn) ?_
 simp -dsimp -implicitDefEqProofs
 refine yQ (yyc e.Calls hl.2.2) (by simp) (ybn CallT.yad _ _) (by simp [yU]) ?_
 simp -dsimp -implicitDefEqProofs [yt]
set_option maxRecDepth 20000 in
theorem yyw (xs : List Work) (hl : yc8 xs) : ybh Tryz.prog 14 [.c (.sl 22 (xs.map Work.enc))] (.c (.ot 22 (xs.map Work.yI))):=by
 refine yan yjm ?_
 simp -dsimp -implicitDefEqProofs
 intro hlen
 have hl1:=hl.1
 refine ⟨by omega,?_⟩
 refine yg (ι:=Nat) (fun k=>k ≤ xs.length) (fun k=>yO [(0,.c (.sl 22 (xs.map Work.enc))),(3,.own 7 22 xs.length),(4,.c (.i k))] [(7,.tr 22 0 (partly Work.yI [.i 0,.i 0,.i 0,.i 0,.i 0,.i 0,.i 0,.i 0,.i 0,.sl 2 [],.i 0,.i 0,.i 0,.i 0,.i 0,.i 0,.i 0,.i 0,.sl 2 [],.b false,.i 0,.sl 4 []] xs k))]) (fun k=>xs.length - k) 0 (by simp) (by apply yj <;> simp [yab,Obj.leO]) ?_
 rintro k hk
 rcases Nat.lt_or_ge k xs.length with hlt | hge
 ·obtain ⟨e,he⟩ : ∃ e,xs[k]? = some e:=⟨_,List.getElem?_eq_getElem hlt⟩
  have hs:=yaj (f:=Work.yI) (z:=[.i 0,.i 0,.i 0,.i 0,.i 0,.i 0,.i 0,.i 0,.i 0,.sl 2 [],.i 0,.i 0,.i 0,.i 0,.i 0,.i 0,.i 0,.i 0,.sl 2 [],.b false,.i 0,.sl 4 []]) he
  have hd:=yav (f:=Work.yI) (z:=[.i 0,.i 0,.i 0,.i 0,.i 0,.i 0,.i 0,.i 0,.i 0,.sl 2 [],.i 0,.i 0,.i 0,.i 0,.i 0,.i 0,.i 0,.i 0,.sl 2 [],.b false,.i 0,.sl 4 []]) (n:=22) rfl hlt
  simp only [Work.yI] at hs
  simp -dsimp -implicitDefEqProofs [he,yG hlt]
  intro _
  refine yQ (yAJ e (hl.2 e (List.mem_of_getElem? he))) (by simp) (yb5 (Work.yad _)) (by simp [yU]) ?_
  simp -dsimp -implicitDefEqProofs [yG hlt,yak hk,yt,hd,hs]
  exact ⟨hlt,yw hlt hlen,k + 1,hlt,by omega,by apply yj <;> simp [Obj.leO]⟩
 ·simp -dsimp -implicitDefEqProofs [yaB hge]
  intro _
  rw [yam hge,yt]
def yaJ (e : Work) : Nat:=1 + 1 + 1 + 1 + 1 + 1 + 1 + 1 + 1 + cnt yE e.Lock.Inside + 1 + 1 + 1 + 1 + 1 + 1 + 1 + 1 + 2 * e.Pauses.length + 1 + 1 + cnt yaI e.Calls
def ydH (k : Int) (e : Work) : List C:=[.i k,.i (k + 1),.i (k + 1 + 1),.i (k + 1 + 1 + 1),.i (k + 1 + 1 + 1 + 1),.i (k + 1 + 1 + 1 + 1 + 1),.i (k + 1 + 1 + 1 + 1 + 1 + 1),.i (k + 1 + 1 + 1 + 1 + 1 + 1 + 1),.i (k + 1 + 1 + 1 + 1 + 1 + 1 + 1 + 1),.ot 2 (yaA ybN yE (k + 1 + 1 + 1 + 1 + 1 + 1 + 1 + 1 + 1) e.Lock.Inside),.i (k + 1 + 1 + 1 + 1 + 1 + 1 + 1 + 1 + 1 + (cnt yE e.Lock.Inside : Int)),.i (k + 1 + 1 + 1 + 1 + 1 + 1 + 1 + 1 + 1 + (cnt yE e.Lock.Inside : Int) + 1),.i (k + 1 + 1 + 1 + 1 + 1 + 1 + 1 + 1 + 1 + (cnt yE e.Lock.Inside : Int) + 1 + 1),.i (k + 1 + 1 + 1 + 1 + 1 + 1 + 1 + 1 + 1 + (cnt yE e.Lock.Inside : Int) + 1 + 1 + 1),.i (k + 1 + 1 + 1 + 1 + 1 + 1 + 1 + 1 + 1 + (cnt yE e.Lock.Inside : Int) + 1 + 1 + 1 + 1),.i (k + 1 + 1 + 1 + 1 + 1 + 1 + 1 + 1 + 1 + (cnt yE e.Lock.Inside : Int) + 1 + 1 + 1 + 1 + 1),.i (k + 1 + 1 + 1 + 1 + 1 + 1 + 1 + 1 + 1 + (cnt yE e.Lock.Inside : Int) + 1 + 1 + 1 + 1 + 1 + 1),.i (k + 1 + 1 + 1 + 1 + 1 + 1 + 1 + 1 + 1 + (cnt yE e.Lock.Inside : Int) + 1 + 1 + 1 + 1 + 1 + 1 + 1),.ow 2 (marked ybT 2 [] (k + 1 + 1 + 1 + 1 + 1 + 1 + 1 + 1 + 1 + (cnt yE e.Lock.Inside : Int) + 1 + 1 + 1 + 1 + 1 + 1 + 1 + 1) e.Pauses.length),.b (decide ((k + 1 + 1 + 1 + 1 + 1 + 1 + 1 + 1 + 1 + (cnt yE e.Lock.Inside : Int) + 1 + 1 + 1 + 1 + 1 + 1 + 1 + 1 + 2 * (e.Pauses.length : Int)).tmod 3 = 0)),.i (k + 1 + 1 + 1 + 1 + 1 + 1 + 1 + 1 + 1 + (cnt yE e.Lock.Inside : Int) + 1 + 1 + 1 + 1 + 1 + 1 + 1 + 1 + 2 * (e.Pauses.length : Int) + 1),.ot 4 (yaA yeu yaI (k + 1 + 1 + 1 + 1 + 1 + 1 + 1 + 1 + 1 + (cnt yE e.Lock.Inside : Int) + 1 + 1 + 1 + 1 + 1 + 1 + 1 + 1 + 2 * (e.Pauses.length : Int) + 1 + 1) e.Calls)]
def yhn (k : Int) (e : Work) : List C:=[.i k,.i (k + 1),.i (k + 1 + 1),.i (k + 1 + 1 + 1),.i (k + 1 + 1 + 1 + 1),.i (k + 1 + 1 + 1 + 1 + 1),.i (k + 1 + 1 + 1 + 1 + 1 + 1),.i (k + 1 + 1 + 1 + 1 + 1 + 1 + 1),.i (k + 1 + 1 + 1 + 1 + 1 + 1 + 1 + 1),.sl 2 (yaA yfm yE (k + 1 + 1 + 1 + 1 + 1 + 1 + 1 + 1 + 1) e.Lock.Inside),.i (k + 1 + 1 + 1 + 1 + 1 + 1 + 1 + 1 + 1 + (cnt yE e.Lock.Inside : Int)),.i (k + 1 + 1 + 1 + 1 + 1 + 1 + 1 + 1 + 1 + (cnt yE e.Lock.Inside : Int) + 1),.i (k + 1 + 1 + 1 + 1 + 1 + 1 + 1 + 1 + 1 + (cnt yE e.Lock.Inside : Int) + 1 + 1),.i (k + 1 + 1 + 1 + 1 + 1 + 1 + 1 + 1 + 1 + (cnt yE e.Lock.Inside : Int) + 1 + 1 + 1),.i (k + 1 + 1 + 1 + 1 + 1 + 1 + 1 + 1 + 1 + (cnt yE e.Lock.Inside : Int) + 1 + 1 + 1 + 1),.i (k + 1 + 1 + 1 + 1 + 1 + 1 + 1 + 1 + 1 + (cnt yE e.Lock.Inside : Int) + 1 + 1 + 1 + 1 + 1),.i (k + 1 + 1 + 1 + 1 + 1 + 1 + 1 + 1 + 1 + (cnt yE e.Lock.Inside : Int) + 1 + 1 + 1 + 1 + 1 + 1),.i (k + 1 + 1 + 1 + 1 + 1 + 1 + 1 + 1 + 1 + (cnt yE e.Lock.Inside : Int) + 1 + 1 + 1 + 1 + 1 + 1 + 1),.sl 2 (marked ybT 2 [] (k + 1 + 1 + 1 + 1 + 1 + 1 + 1 + 1 + 1 + (cnt yE e.Lock.Inside : Int) + 1 + 1 + 1 + 1 + 1 + 1 + 1 + 1) e.Pauses.length),.b (decide ((k + 1 + 1 + 1 + 1 + 1 + 1 + 1 + 1 + 1 + (cnt yE e.Lock.Inside : Int) + 1 + 1 + 1 + 1 + 1 + 1 + 1 + 1 + 2 * (e.Pauses.length : Int)).tmod 3 = 0)),.i (k + 1 + 1 + 1 + 1 + 1 + 1 + 1 + 1 + 1 + (cnt yE e.Lock.Inside : Int) + 1 + 1 + 1 + 1 + 1 + 1 + 1 + 1 + 2 * (e.Pauses.length : Int) + 1),.sl 4 (yaA yie yaI (k + 1 + 1 + 1 + 1 + 1 + 1 + 1 + 1 + 1 + (cnt yE e.Lock.Inside : Int) + 1 + 1 + 1 + 1 + 1 + 1 + 1 + 1 + 2 * (e.Pauses.length : Int) + 1 + 1) e.Calls)]
theorem ymN (k : Int) (e : Work) : ybQ (ydH k e) = some (yhn k e):=by simp [ydH,yhn,ybQ,C.shr,yba yiY,yba yh9]
set_option maxRecDepth 20000 in
theorem yvp (xs : List Work) (k : Int) (h0 : 0 ≤ k) (h1 : k + cnt yaJ xs ≤ 8000000000000000000) :
 InF Tryz.prog 24 (.c (ct 22 (xs.map Work.yI))) (.c (ct 22 (yaA ydH yaJ k xs))) [.c (.i k)] (.c (.i (k + cnt yaJ xs))):=by
 rcases Nat.eq_zero_or_pos xs.length with hx | hx
 ·have : xs = []:=List.length_eq_zero_iff.1 hx
  subst this
  refine ybO yg6 (by simp) (by simp) rfl fun hwf=>?_
  simp -dsimp -implicitDefEqProofs [yeZ,yaA,cnt]
  refine yg (ι:=Unit) (fun _=>True) (fun _=>yO [(0,.c (.sl 22 [])),(1,.c (.i k)),(5,.c (.i 0)),(1000000,.c (.sl 22 []))] []) (fun _=>0) () trivial (by apply yj <;> simp) ?_
  rintro _ _
  simp -dsimp -implicitDefEqProofs
 ·rw [ycP (by simpa using hx),ycP (by rw [yH]; exact hx)]
  refine ybO yg6 (by simp) (by simp) rfl fun hwf=>?_
  simp -dsimp -implicitDefEqProofs [yeZ]
  refine yg (ι:=Nat) (fun i=>i ≤ xs.length) (fun i=>yO [(0,.own 0 22 xs.length),(1,.c (.i (k + yaK yaJ xs i))),(5,.c (.i i)),(1000000,.own 0 22 xs.length)] [(0,.tr 22 0 (ycA ydH Work.yI yaJ k xs i))]) (fun i=>xs.length - i) 0 (by simp) (by apply yj <;> simp [ydh,ya0,Obj.leO]) ?_
  rintro i hi
  rcases Nat.lt_or_ge i xs.length with hlt | hge
  ·obtain ⟨e,he⟩ : ∃ e,xs[i]? = some e:=⟨_,List.getElem?_eq_getElem hlt⟩
   have hg:=yd5 (f:=ydH) (g:=Work.yI) (n:=yaJ) (k:=k) he
   have hl:=yd1 (f:=ydH) (g:=Work.yI) (n:=yaJ) (k:=k) (xs:=xs) (i:=i)
   have hs:=yd3 (f:=ydH) (g:=Work.yI) (n:=yaJ) (k:=k) he
   have hc:=ya1 (n:=yaJ) he
   have hle:=ybS (n:=yaJ) (xs:=xs) (i:=i + 1)
   have hn : yaJ e = 1 + 1 + 1 + 1 + 1 + 1 + 1 + 1 + 1 + cnt yE e.Lock.Inside + 1 + 1 + 1 + 1 + 1 + 1 + 1 + 1 + 2 * e.Pauses.length + 1 + 1 + cnt yaI e.Calls:=rfl
   generalize hM : ycA ydH Work.yI yaJ k xs i = M at *
   generalize hK : (k + (yaK yaJ xs i : Int)) = K at *
   have hlt2 : i < M.length:=by omega
   have g1 : M[i] = Work.yI e:=(List.getElem?_eq_some_iff.1 hg).2
   have hself : ∀ a,(M.set i a)[i]? = some a:=fun a=>List.getElem?_set_self hlt2
   have hgetD : ∀ a,(M.set i a)[i]?.getD [] = a:=fun a=>by rw [hself]; rfl
   simp only [Work.yI] at hg g1
   have hk : 0 ≤ K:=by omega
   simp -dsimp -implicitDefEqProofs [yG hlt,hg,hl,hlt2,g1,hself,setAt]
   intro hlen
   repeat (refine ⟨by first | exact hlt | (unfold inI; omega) | exact ybA (by omega),?_⟩)
   refine yb3 (k0:=22) (j:=9) (i:=(i : Int)) (r:=[.i K,.i (K + 1),.i (K + 1 + 1),.i (K + 1 + 1 + 1),.i (K + 1 + 1 + 1 + 1),.i (K + 1 + 1 + 1 + 1 + 1),.i (K + 1 + 1 + 1 + 1 + 1 + 1),.i (K + 1 + 1 + 1 + 1 + 1 + 1 + 1),.i (K + 1 + 1 + 1 + 1 + 1 + 1 + 1 + 1),.ot 2 (e.Lock.Inside.map Train.yI),.i e.Weir.Gates,.i e.Weir.Open,.i e.Weir.Step,.i e.Weir.Crest,.i e.Weir.Width,.i e.Rule.Low,.i e.Rule.High,.i e.Rule.Flood,.ow 2 (e.Pauses.map Pause.enc),.b e.Turn.Up,.i e.Turn.Count,.ot 4 (e.Calls.map CallT.yI)]) (c:=.ot 2 (e.Lock.Inside.map Train.yI)) (c':=.ot 2 (yaA ybN yE (K + 1 + 1 + 1 + 1 + 1 + 1 + 1 + 1 + 1) e.Lock.Inside)) (ylT e.Lock.Inside (K + 1 + 1 + 1 + 1 + 1 + 1 + 1 + 1 + 1) (by omega) (by omega)) (by simp) rfl rfl rfl (by first | exact hself _ | simpa using hg) rfl ⟨_,by rw [yH]; simp,rfl,rfl,rfl⟩ (by simp [C.sz]) ?_
   simp -dsimp -implicitDefEqProofs [setAt,hself,hlt2,hl]
   repeat (refine ⟨by first | exact hlt | (unfold inI; omega) | exact ybA (by omega),?_⟩)
   refine yb3 (k0:=22) (j:=18) (i:=(i : Int)) (r:=[.i K,.i (K + 1),.i (K + 1 + 1),.i (K + 1 + 1 + 1),.i (K + 1 + 1 + 1 + 1),.i (K + 1 + 1 + 1 + 1 + 1),.i (K + 1 + 1 + 1 + 1 + 1 + 1),.i (K + 1 + 1 + 1 + 1 + 1 + 1 + 1),.i (K + 1 + 1 + 1 + 1 + 1 + 1 + 1 + 1),.ot 2 (yaA ybN yE (K + 1 + 1 + 1 + 1 + 1 + 1 + 1 + 1 + 1) e.Lock.Inside),.i (K + 1 + 1 + 1 + 1 + 1 + 1 + 1 + 1 + 1 + (cnt yE e.Lock.Inside : Int)),.i (K + 1 + 1 + 1 + 1 + 1 + 1 + 1 + 1 + 1 + (cnt yE e.Lock.Inside : Int) + 1),.i (K + 1 + 1 + 1 + 1 + 1 + 1 + 1 + 1 + 1 + (cnt yE e.Lock.Inside : Int) + 1 + 1),.i (K + 1 + 1 + 1 + 1 + 1 + 1 + 1 + 1 + 1 + (cnt yE e.Lock.Inside : Int) + 1 + 1 + 1),.i (K + 1 + 1 + 1 + 1 + 1 + 1 + 1 + 1 + 1 + (cnt yE e.Lock.Inside : Int) + 1 + 1 + 1 + 1),.i (K + 1 + 1 + 1 + 1 + 1 + 1 + 1 + 1 + 1 + (cnt yE e.Lock.Inside : Int) + 1 + 1 + 1 + 1 + 1),.i (K + 1 + 1 + 1 + 1 + 1 + 1 + 1 + 1 + 1 + (cnt yE e.Lock.Inside : Int) + 1 + 1 + 1 + 1 + 1 + 1),.i (K + 1 + 1 + 1 + 1 + 1 + 1 + 1 + 1 + 1 + (cnt yE e.Lock.Inside : Int) + 1 + 1 + 1 + 1 + 1 + 1 + 1),.ow 2 (e.Pauses.map Pause.enc),.b e.Turn.Up,.i e.Turn.Count,.ot 4 (e.Calls.map CallT.yI)]) (c:=.ow 2 (e.Pauses.map Pause.enc)) (c':=.ow 2 (marked ybT 2 [] (K + 1 + 1 + 1 + 1 + 1 + 1 + 1 + 1 + 1 + (cnt yE e.Lock.Inside : Int) + 1 + 1 + 1 + 1 + 1 + 1 + 1 + 1) e.Pauses.length)) (ys7 e.Pauses (K + 1 + 1 + 1 + 1 + 1 + 1 + 1 + 1 + 1 + (cnt yE e.Lock.Inside : Int) + 1 + 1 + 1 + 1 + 1 + 1 + 1 + 1) (by omega) (by omega)) (by simp) rfl rfl rfl (by first | exact hself _ | simpa using hg) rfl ⟨_,by rw [yM]; simp,rfl,rfl,rfl⟩ (by simp [C.sz]) ?_
   simp -dsimp -implicitDefEqProofs [setAt,hself,hlt2,hl]
   repeat (refine ⟨by first | exact hlt | (unfold inI; omega) | exact ybA (by omega),?_⟩)
   refine yb3 (k0:=22) (j:=21) (i:=(i : Int)) (r:=[.i K,.i (K + 1),.i (K + 1 + 1),.i (K + 1 + 1 + 1),.i (K + 1 + 1 + 1 + 1),.i (K + 1 + 1 + 1 + 1 + 1),.i (K + 1 + 1 + 1 + 1 + 1 + 1),.i (K + 1 + 1 + 1 + 1 + 1 + 1 + 1),.i (K + 1 + 1 + 1 + 1 + 1 + 1 + 1 + 1),.ot 2 (yaA ybN yE (K + 1 + 1 + 1 + 1 + 1 + 1 + 1 + 1 + 1) e.Lock.Inside),.i (K + 1 + 1 + 1 + 1 + 1 + 1 + 1 + 1 + 1 + (cnt yE e.Lock.Inside : Int)),.i (K + 1 + 1 + 1 + 1 + 1 + 1 + 1 + 1 + 1 + (cnt yE e.Lock.Inside : Int) + 1),.i (K + 1 + 1 + 1 + 1 + 1 + 1 + 1 + 1 + 1 + (cnt yE e.Lock.Inside : Int) + 1 + 1),.i (K + 1 + 1 + 1 + 1 + 1 + 1 + 1 + 1 + 1 + (cnt yE e.Lock.Inside : Int) + 1 + 1 + 1),.i (K + 1 + 1 + 1 + 1 + 1 + 1 + 1 + 1 + 1 + (cnt yE e.Lock.Inside : Int) + 1 + 1 + 1 + 1),.i (K + 1 + 1 + 1 + 1 + 1 + 1 + 1 + 1 + 1 + (cnt yE e.Lock.Inside : Int) + 1 + 1 + 1 + 1 + 1),.i (K + 1 + 1 + 1 + 1 + 1 + 1 + 1 + 1 + 1 + (cnt yE e.Lock.Inside : Int) + 1 + 1 + 1 + 1 + 1 + 1),.i (K + 1 + 1 + 1 + 1 + 1 + 1 + 1 + 1 + 1 + (cnt yE e.Lock.Inside : Int) + 1 + 1 + 1 + 1 + 1 + 1 + 1),.ow 2 (marked ybT 2 [] (K + 1 + 1 + 1 + 1 + 1 + 1 + 1 + 1 + 1 + (cnt yE e.Lock.Inside : Int) + 1 + 1 + 1 + 1 + 1 + 1 + 1 + 1) e.Pauses.length),.b (decide ((K + 1 + 1 + 1 + 1 + 1 + 1 + 1 + 1 + 1 + (cnt yE e.Lock.Inside : Int) + 1 + 1 + 1 + 1 + 1 + 1 + 1 + 1 + 2 * (e.Pauses.length : Int)).tmod 3 = 0)),.i (K + 1 + 1 + 1 + 1 + 1 + 1 + 1 + 1 + 1 + (cnt yE e.Lock.Inside : Int) + 1 + 1 + 1 + 1 + 1 + 1 + 1 + 1 + 2 * (e.Pauses.length : Int) + 1),.ot 4 (e.Calls.map CallT.yI)]) (c:=.ot 4 (e.Calls.map CallT.yI)) (c':=.ot 4 (yaA yeu yaI (K + 1 + 1 + 1 + 1 + 1 + 1 + 1 + 1 + 1 + (cnt yE e.Lock.Inside : Int) + 1 + 1 + 1 + 1 + 1 + 1 + 1 + 1 + 2 * (e.Pauses.length : Int) + 1 + 1) e.Calls)) (yve e.Calls (K + 1 + 1 + 1 + 1 + 1 + 1 + 1 + 1 + 1 + (cnt yE e.Lock.Inside : Int) + 1 + 1 + 1 + 1 + 1 + 1 + 1 + 1 + 2 * (e.Pauses.length : Int) + 1 + 1) (by omega) (by omega)) (by simp) rfl rfl rfl (by first | exact hself _ | simpa using hg) rfl ⟨_,by rw [yH]; simp,rfl,rfl,rfl⟩ (by simp [C.sz]) ?_
   simp -dsimp -implicitDefEqProofs [setAt,hself,hlt2,hl]
   repeat (refine ⟨by first | exact hlt | (unfold inI; omega) | exact ybA (by omega) | exact yw hlt hlen,?_⟩)
   refine ⟨i + 1,hlt,by omega,?_⟩
   simp only [ydH] at hs
   apply yj <;> simp [Obj.leO,hs,hself] <;> omega
  ·have : i = xs.length:=by omega
   subst this
   simp -dsimp -implicitDefEqProofs
   intro _
   rw [yd9 (Nat.le_refl _),ybl (Nat.le_refl _),List.take_of_length_le (by rw [yH]; exact Nat.le_refl _)]
   exact ⟨rfl,rfl⟩
set_option maxRecDepth 20000 in
theorem ytK (xs : List Work) (k : Int) (h0 : 0 ≤ k) (h1 : k + cnt yaJ xs ≤ 8000000000000000000) : yB Tryz.prog 71 [.c (.sl 22 (yaA yhn yaJ k xs)),.c (.i k)] (.c (.i (k + cnt yaJ xs))):=by
 refine yh ymp ?_
 simp -dsimp -implicitDefEqProofs
 refine yg (ι:=Nat) (fun i=>i ≤ xs.length) (fun i=>yO [(0,.c (.sl 22 (yaA yhn yaJ k xs))),(1,.c (.i (k + yaK yaJ xs i))),(5,.c (.i i))] []) (fun i=>xs.length - i) 0 (by simp) (by apply yj <;> simp [ya0]) ?_
 rintro i hi
 rcases Nat.lt_or_ge i xs.length with hlt | hge
 ·obtain ⟨e,he⟩ : ∃ e,xs[i]? = some e:=⟨_,List.getElem?_eq_getElem hlt⟩
  have hg:=yfH (f:=yhn) (n:=yaJ) (k:=k) he
  have hc:=ya1 (n:=yaJ) he
  have hle:=ybS (n:=yaJ) (xs:=xs) (i:=i + 1)
  have hn : yaJ e = 1 + 1 + 1 + 1 + 1 + 1 + 1 + 1 + 1 + cnt yE e.Lock.Inside + 1 + 1 + 1 + 1 + 1 + 1 + 1 + 1 + 2 * e.Pauses.length + 1 + 1 + cnt yaI e.Calls:=rfl
  simp only [yhn] at hg
  generalize hK : (k + (yaK yaJ xs i : Int)) = K at *
  have hk : 0 ≤ K:=by omega
  simp -dsimp -implicitDefEqProofs [yH,yG hlt,hg]
  intro hlen
  repeat (refine ⟨by first | exact hlt | (unfold inI; omega) | exact ybA (by omega),?_⟩)
  refine yc (ylK e.Lock.Inside (K + 1 + 1 + 1 + 1 + 1 + 1 + 1 + 1 + 1) (by omega) (by omega)) ?_
  have n9 : (K + 1 + 1 + 1 + 1 + 1 + 1 + 1 + 1 + 1 + (cnt yE e.Lock.Inside : Int) < 0) = False:=by simp; omega
  simp -dsimp -implicitDefEqProofs [n9,yH,yG hlt,hg]
  repeat (refine ⟨by first | exact hlt | (unfold inI; omega) | exact ybA (by omega),?_⟩)
  refine yc (ysU e.Pauses.length (K + 1 + 1 + 1 + 1 + 1 + 1 + 1 + 1 + 1 + (cnt yE e.Lock.Inside : Int) + 1 + 1 + 1 + 1 + 1 + 1 + 1 + 1) (by omega) (by omega)) ?_
  have n18 : (K + 1 + 1 + 1 + 1 + 1 + 1 + 1 + 1 + 1 + (cnt yE e.Lock.Inside : Int) + 1 + 1 + 1 + 1 + 1 + 1 + 1 + 1 + 2 * (e.Pauses.length : Int) < 0) = False:=by simp; omega
  simp -dsimp -implicitDefEqProofs [n18,yH,yG hlt,hg]
  repeat (refine ⟨by first | exact hlt | (unfold inI; omega) | exact ybA (by omega),?_⟩)
  refine yc (yuE e.Calls (K + 1 + 1 + 1 + 1 + 1 + 1 + 1 + 1 + 1 + (cnt yE e.Lock.Inside : Int) + 1 + 1 + 1 + 1 + 1 + 1 + 1 + 1 + 2 * (e.Pauses.length : Int) + 1 + 1) (by omega) (by omega)) ?_
  have n21 : (K + 1 + 1 + 1 + 1 + 1 + 1 + 1 + 1 + 1 + (cnt yE e.Lock.Inside : Int) + 1 + 1 + 1 + 1 + 1 + 1 + 1 + 1 + 2 * (e.Pauses.length : Int) + 1 + 1 + (cnt yaI e.Calls : Int) < 0) = False:=by simp; omega
  simp -dsimp -implicitDefEqProofs [n21,yH,yG hlt,hg]
  repeat (refine ⟨by first | exact hlt | (unfold inI; omega) | exact ybA (by omega) | exact yw hlt hlen,?_⟩)
  refine ⟨i + 1,hlt,by omega,?_⟩
  apply yj <;> simp <;> omega
 ·have : i = xs.length:=by omega
  subst this
  simp -dsimp -implicitDefEqProofs [yH]
  rw [ybl (Nat.le_refl _)]
  intro _; rfl
def yax (xs : List Mover) : List C:=[.ot 3 (xs.map Mover.yI)]
theorem ycu (xs : List Mover) : ybQ (yax xs) = some (yZ xs):=by simp [yax,ybQ,ydl Mover.yaa]
theorem yk2 (xs : List Mover) : ∀ c ∈ yax xs,c.closed:=by
 intro c hc
 simp only [yax,List.mem_singleton] at hc
 subst hc
 exact ybn Mover.yad _ _
def fMs (k : Int) (e : Mover) : List C:=[.b (decide (k.tmod 3 = 0)),.sl 1 (yaA fBs nB (k + 1) e.Train.Rows),.i (k + 1 + (cnt nB e.Train.Rows : Int))]
theorem yCY (k : Int) (e : Mover) : ybQ (fM k e) = some (fMs k e):=by simp [fM,fMs,ybQ,C.shr,yba ysu]
theorem ytc (xs : List Mover) (k : Int) (h0 : 0 ≤ k) (h1 : k + cnt nM xs ≤ 8000000000000000000) : yB Tryz.prog 157 [.c (.sl 3 (yaA fMs nM k xs)),.c (.i k)] (.c (.i (k + cnt nM xs))):=by
 refine yh ykK ?_
 simp -dsimp -implicitDefEqProofs
 refine yg (ι:=Nat) (fun i=>i ≤ xs.length) (fun i=>yO [(0,.c (.sl 3 (yaA fMs nM k xs))),(1,.c (.i (k + yaK nM xs i))),(5,.c (.i i))] []) (fun i=>xs.length - i) 0 (by simp) (by apply yj <;> simp [ya0]) ?_
 rintro i hi
 rcases Nat.lt_or_ge i xs.length with hlt | hge
 ·obtain ⟨e,he⟩ : ∃ e,xs[i]? = some e:=⟨_,List.getElem?_eq_getElem hlt⟩
  have hg:=yfH (f:=fMs) (n:=nM) (k:=k) he
  have hc:=ya1 (n:=nM) he
  have hle:=ybS (n:=nM) (xs:=xs) (i:=i + 1)
  have hn : nM e = 1 + cnt nB e.Train.Rows + 1:=rfl
  simp only [fMs] at hg
  generalize hK : (k + (yaK nM xs i : Int)) = K at *
  have hk : 0 ≤ K:=by omega
  simp -dsimp -implicitDefEqProofs [yH,yG hlt,hg]
  intro hlen
  repeat (refine ⟨by first | exact hlt | (unfold inI; omega) | exact ybA (by omega),?_⟩)
  refine yc (yfS e.Train.Rows (K + 1) (by omega) (by omega)) ?_
  have n1 : (K + 1 + (cnt nB e.Train.Rows : Int) < 0) = False:=by simp; omega
  simp -dsimp -implicitDefEqProofs [n1,yH,yG hlt,hg]
  repeat (refine ⟨by first | exact hlt | (unfold inI; omega) | exact ybA (by omega) | exact yw hlt hlen,?_⟩)
  refine ⟨i + 1,hlt,by omega,?_⟩
  apply yj <;> simp <;> omega
 ·have : i = xs.length:=by omega
  subst this
  simp -dsimp -implicitDefEqProofs [yH]
  rw [ybl (Nat.le_refl _)]
  intro _; rfl
theorem ytU (xs : List (List Mover)) (hl : ye2 xs) : ybh Tryz.prog 86 [.c (.sl 1 (xs.map yZ))] (.c (.ot 1 (xs.map yax))):=by
 refine yan ygW ?_
 simp -dsimp -implicitDefEqProofs
 intro hlen
 have hl1:=hl.1
 refine ⟨by omega,?_⟩
 refine yg (ι:=Nat) (fun k=>k ≤ xs.length) (fun k=>yO [(0,.c (.sl 1 (xs.map yZ))),(3,.own 7 1 xs.length),(4,.c (.i k))] [(7,.tr 1 0 (partly yax [.sl 3 []] xs k))]) (fun k=>xs.length - k) 0 (by simp) (by apply yj <;> simp [yab,Obj.leO]) ?_
 rintro k hk
 rcases Nat.lt_or_ge k xs.length with hlt | hge
 ·obtain ⟨e,he⟩ : ∃ e,xs[k]? = some e:=⟨_,List.getElem?_eq_getElem hlt⟩
  have hs:=yaj (f:=yax) (z:=[.sl 3 []]) he
  have hd : ((partly yax [.sl 3 []] xs k)[k]?.getD []).set 0 (.ot 3 (e.map Mover.yI)) = yax e:=by
   have:=ydK (f:=yax) (z:=[.sl 3 []]) (n:=1) rfl (fun _=>rfl) hlt
   obtain ⟨x,hx⟩:=List.length_eq_one_iff.1 this
   rw [hx]; rfl
  simp -dsimp -implicitDefEqProofs [he,yG hlt]
  intro _
  refine yQ (yvD e (hl.2 e (List.mem_of_getElem? he))) (by simp) (ybn Mover.yad _ _) (by simp [yU]) ?_
  simp -dsimp -implicitDefEqProofs [yG hlt,yak hk,yt,setAt,hd,hs]
  exact ⟨hlt,yw hlt hlen,k + 1,hlt,by omega,by apply yj <;> simp [Obj.leO]⟩
 ·simp -dsimp -implicitDefEqProofs [yaB hge]
  intro _
  rw [yam hge,yt]
def yap (r : List Mover) : Nat:=cnt nM r
def ycj (k : Int) (r : List Mover) : List C:=[.ot 3 (yaA fM nM k r)]
def yeX (k : Int) (r : List Mover) : List C:=[.sl 3 (yaA fMs nM k r)]
theorem ykc (k : Int) (e : List Mover) : ybQ (ycj k e) = some (yeX k e):=by simp [ycj,yeX,ybQ,C.shr,yba yCY]
theorem yq3 (xs : List (List Mover)) (k : Int) (h0 : 0 ≤ k) (h1 : k + cnt yap xs ≤ 8000000000000000000) :
 InF Tryz.prog 66 (.c (ct 1 (xs.map yax))) (.c (ct 1 (yaA ycj yap k xs))) [.c (.i k)] (.c (.i (k + cnt yap xs))):=by
 rcases Nat.eq_zero_or_pos xs.length with hx | hx
 ·have : xs = []:=List.length_eq_zero_iff.1 hx
  subst this
  refine ybO yf8 (by simp) (by simp) rfl fun hwf=>?_
  simp -dsimp -implicitDefEqProofs [ydL,yaA,cnt]
  refine yg (ι:=Unit) (fun _=>True) (fun _=>yO [(0,.c (.sl 1 [])),(1,.c (.i k)),(5,.c (.i 0)),(1000000,.c (.sl 1 []))] []) (fun _=>0) () trivial (by apply yj <;> simp) ?_
  rintro _ _
  simp -dsimp -implicitDefEqProofs
 ·rw [ycP (by simpa using hx),ycP (by rw [yH]; exact hx)]
  refine ybO yf8 (by simp) (by simp) rfl fun hwf=>?_
  simp -dsimp -implicitDefEqProofs [ydL]
  refine yg (ι:=Nat) (fun i=>i ≤ xs.length) (fun i=>yO [(0,.own 0 1 xs.length),(1,.c (.i (k + yaK yap xs i))),(5,.c (.i i)),(1000000,.own 0 1 xs.length)] [(0,.tr 1 0 (ycA ycj yax yap k xs i))]) (fun i=>xs.length - i) 0 (by simp) (by apply yj <;> simp [ydh,ya0,Obj.leO]) ?_
  rintro i hi
  rcases Nat.lt_or_ge i xs.length with hlt | hge
  ·obtain ⟨e,he⟩ : ∃ e,xs[i]? = some e:=⟨_,List.getElem?_eq_getElem hlt⟩
   have hg:=yd5 (f:=ycj) (g:=yax) (n:=yap) (k:=k) he
   have hl:=yd1 (f:=ycj) (g:=yax) (n:=yap) (k:=k) (xs:=xs) (i:=i)
   have hs:=yd3 (f:=ycj) (g:=yax) (n:=yap) (k:=k) he
   have hc:=ya1 (n:=yap) he
   have hle:=ybS (n:=yap) (xs:=xs) (i:=i + 1)
   have hn : yap e = cnt nM e:=rfl
   generalize hM : ycA ycj yax yap k xs i = M at *
   generalize hK : (k + (yaK yap xs i : Int)) = K at *
   have hlt2 : i < M.length:=by omega
   have g1 : M[i] = yax e:=(List.getElem?_eq_some_iff.1 hg).2
   have hself : ∀ a,(M.set i a)[i]? = some a:=fun a=>List.getElem?_set_self hlt2
   have hgetD : ∀ a,(M.set i a)[i]?.getD [] = a:=fun a=>by rw [hself]; rfl
   simp only [yax] at hg g1
   have hk : 0 ≤ K:=by omega
   simp -dsimp -implicitDefEqProofs [yG hlt,hg,hl,hlt2,g1,hself,setAt]
   intro hlen
   repeat (refine ⟨by first | exact hlt | (unfold inI; omega) | exact ybA (by omega),?_⟩)
   refine yb3 (k0:=1) (j:=0) (i:=(i : Int)) (r:=[.ot 3 (e.map Mover.yI)]) (c:=.ot 3 (e.map Mover.yI)) (c':=.ot 3 (yaA fM nM K e)) (ytw e (K) (by omega) (by omega)) (by simp) rfl rfl rfl (by first | exact hself _ | simpa using hg) rfl ⟨_,by rw [yH]; simp,rfl,rfl,rfl⟩ (by simp [C.sz]) ?_
   simp -dsimp -implicitDefEqProofs [setAt,hself,hlt2,hl]
   repeat (refine ⟨by first | exact hlt | (unfold inI; omega) | exact ybA (by omega) | exact yw hlt hlen,?_⟩)
   refine ⟨i + 1,hlt,by omega,?_⟩
   simp only [ycj] at hs
   apply yj <;> simp [Obj.leO,hs,hself] <;> omega
  ·have : i = xs.length:=by omega
   subst this
   simp -dsimp -implicitDefEqProofs
   intro _
   rw [yd9 (Nat.le_refl _),ybl (Nat.le_refl _),List.take_of_length_le (by rw [yH]; exact Nat.le_refl _)]
   exact ⟨rfl,rfl⟩
theorem yqF (xs : List (List Mover)) (k : Int) (h0 : 0 ≤ k) (h1 : k + cnt yap xs ≤ 8000000000000000000) : yB Tryz.prog 72 [.c (.sl 1 (yaA yeX yap k xs)),.c (.i k)] (.c (.i (k + cnt yap xs))):=by
 refine yh ykA ?_
 simp -dsimp -implicitDefEqProofs
 refine yg (ι:=Nat) (fun i=>i ≤ xs.length) (fun i=>yO [(0,.c (.sl 1 (yaA yeX yap k xs))),(1,.c (.i (k + yaK yap xs i))),(5,.c (.i i))] []) (fun i=>xs.length - i) 0 (by simp) (by apply yj <;> simp [ya0]) ?_
 rintro i hi
 rcases Nat.lt_or_ge i xs.length with hlt | hge
 ·obtain ⟨e,he⟩ : ∃ e,xs[i]? = some e:=⟨_,List.getElem?_eq_getElem hlt⟩
  have hg:=yfH (f:=yeX) (n:=yap) (k:=k) he
  have hc:=ya1 (n:=yap) he
  have hle:=ybS (n:=yap) (xs:=xs) (i:=i + 1)
  have hn : yap e = cnt nM e:=rfl
  simp only [yeX] at hg
  generalize hK : (k + (yaK yap xs i : Int)) = K at *
  have hk : 0 ≤ K:=by omega
  simp -dsimp -implicitDefEqProofs [yH,yG hlt,hg]
  intro hlen
  repeat (refine ⟨by first | exact hlt | (unfold inI; omega) | exact ybA (by omega),?_⟩)
  refine yc (ytc e (K) (by omega) (by omega)) ?_
  have n0 : (K + (cnt nM e : Int) < 0) = False:=by simp; omega
  simp -dsimp -implicitDefEqProofs [n0,yH,yG hlt,hg]
  repeat (refine ⟨by first | exact hlt | (unfold inI; omega) | exact ybA (by omega) | exact yw hlt hlen,?_⟩)
  refine ⟨i + 1,hlt,by omega,?_⟩
  apply yj <;> simp <;> omega
 ·have : i = xs.length:=by omega
  subst this
  simp -dsimp -implicitDefEqProofs [yH]
  rw [ybl (Nat.le_refl _)]
  intro _; rfl
@[simp] def Passing.yI (e : Passing) : List C:=[.i e.Time,.i e.Work,.b e.Train.Up,.ot 1 (e.Train.Rows.map yT)]
theorem Passing.yaa (e : Passing) : ybQ e.yI = some e.enc:=by simp [Passing.yI,ybQ,ydl yeg]
theorem Passing.yad (e : Passing) : ∀ c ∈ e.yI,c.closed:=by
 simp only [Passing.yI,List.mem_cons,List.not_mem_nil,or_false,forall_eq_or_imp,forall_eq]
 exact ⟨by simp [C.closed],by simp [C.closed],by simp [C.closed],ybn ygL _ _⟩
theorem yuq (e : Passing) (hl : Passing.small e) : ybh Tryz.prog 166 [.agg (e.enc.map .c)] (.agg (e.yI.map .c)):=by
 refine yan yg7 ?_
 simp -dsimp -implicitDefEqProofs
 refine yQ (yjE e.Train hl) (by simp) (yb5 (Train.yad _)) (by simp [yU]) ?_
 simp -dsimp -implicitDefEqProofs [yt]
theorem ysg (xs : List Passing) (hl : yeB xs) : ybh Tryz.prog 89 [.c (.sl 4 (xs.map Passing.enc))] (.c (.ot 4 (xs.map Passing.yI))):=by
 refine yan ygz ?_
 simp -dsimp -implicitDefEqProofs
 intro hlen
 have hl1:=hl.1
 refine ⟨by omega,?_⟩
 refine yg (ι:=Nat) (fun k=>k ≤ xs.length) (fun k=>yO [(0,.c (.sl 4 (xs.map Passing.enc))),(3,.own 7 4 xs.length),(4,.c (.i k))] [(7,.tr 4 0 (partly Passing.yI [.i 0,.i 0,.b false,.sl 1 []] xs k))]) (fun k=>xs.length - k) 0 (by simp) (by apply yj <;> simp [yab,Obj.leO]) ?_
 rintro k hk
 rcases Nat.lt_or_ge k xs.length with hlt | hge
 ·obtain ⟨e,he⟩ : ∃ e,xs[k]? = some e:=⟨_,List.getElem?_eq_getElem hlt⟩
  have hs:=yaj (f:=Passing.yI) (z:=[.i 0,.i 0,.b false,.sl 1 []]) he
  have hd:=yav (f:=Passing.yI) (z:=[.i 0,.i 0,.b false,.sl 1 []]) (n:=4) rfl hlt
  simp only [Passing.yI] at hs
  simp -dsimp -implicitDefEqProofs [he,yG hlt]
  intro _
  refine yQ (yuq e (hl.2 e (List.mem_of_getElem? he))) (by simp) (yb5 (Passing.yad _)) (by simp [yU]) ?_
  simp -dsimp -implicitDefEqProofs [yG hlt,yak hk,yt,hd,hs]
  exact ⟨hlt,yw hlt hlen,k + 1,hlt,by omega,by apply yj <;> simp [Obj.leO]⟩
 ·simp -dsimp -implicitDefEqProofs [yaB hge]
  intro _
  rw [yam hge,yt]
def yae (e : Passing) : Nat:=1 + 1 + 1 + cnt nB e.Train.Rows
def ybL (k : Int) (e : Passing) : List C:=[.i k,.i (k + 1),.b (decide ((k + 1 + 1).tmod 3 = 0)),.ot 1 (yaA fB nB (k + 1 + 1 + 1) e.Train.Rows)]
def ydN (k : Int) (e : Passing) : List C:=[.i k,.i (k + 1),.b (decide ((k + 1 + 1).tmod 3 = 0)),.sl 1 (yaA fBs nB (k + 1 + 1 + 1) e.Train.Rows)]
theorem yiO (k : Int) (e : Passing) : ybQ (ybL k e) = some (ydN k e):=by simp [ybL,ydN,ybQ,C.shr,yba ysu]
theorem ypA (xs : List Passing) (k : Int) (h0 : 0 ≤ k) (h1 : k + cnt yae xs ≤ 8000000000000000000) :
 InF Tryz.prog 68 (.c (ct 4 (xs.map Passing.yI))) (.c (ct 4 (yaA ybL yae k xs))) [.c (.i k)] (.c (.i (k + cnt yae xs))):=by
 rcases Nat.eq_zero_or_pos xs.length with hx | hx
 ·have : xs = []:=List.length_eq_zero_iff.1 hx
  subst this
  refine ybO yfG (by simp) (by simp) rfl fun hwf=>?_
  simp -dsimp -implicitDefEqProofs [ydA,yaA,cnt]
  refine yg (ι:=Unit) (fun _=>True) (fun _=>yO [(0,.c (.sl 4 [])),(1,.c (.i k)),(5,.c (.i 0)),(1000000,.c (.sl 4 []))] []) (fun _=>0) () trivial (by apply yj <;> simp) ?_
  rintro _ _
  simp -dsimp -implicitDefEqProofs
 ·rw [ycP (by simpa using hx),ycP (by rw [yH]; exact hx)]
  refine ybO yfG (by simp) (by simp) rfl fun hwf=>?_
  simp -dsimp -implicitDefEqProofs [ydA]
  refine yg (ι:=Nat) (fun i=>i ≤ xs.length) (fun i=>yO [(0,.own 0 4 xs.length),(1,.c (.i (k + yaK yae xs i))),(5,.c (.i i)),(1000000,.own 0 4 xs.length)] [(0,.tr 4 0 (ycA ybL Passing.yI yae k xs i))]) (fun i=>xs.length - i) 0 (by simp) (by apply yj <;> simp [ydh,ya0,Obj.leO]) ?_
  rintro i hi
  rcases Nat.lt_or_ge i xs.length with hlt | hge
  ·obtain ⟨e,he⟩ : ∃ e,xs[i]? = some e:=⟨_,List.getElem?_eq_getElem hlt⟩
   have hg:=yd5 (f:=ybL) (g:=Passing.yI) (n:=yae) (k:=k) he
   have hl:=yd1 (f:=ybL) (g:=Passing.yI) (n:=yae) (k:=k) (xs:=xs) (i:=i)
   have hs:=yd3 (f:=ybL) (g:=Passing.yI) (n:=yae) (k:=k) he
   have hc:=ya1 (n:=yae) he
   have hle:=ybS (n:=yae) (xs:=xs) (i:=i + 1)
   have hn : yae e = 1 + 1 + 1 + cnt nB e.Train.Rows:=rfl
   generalize hM : ycA ybL Passing.yI yae k xs i = M at *
   generalize hK : (k + (yaK yae xs i : Int)) = K at *
   have hlt2 : i < M.length:=by omega
   have g1 : M[i] = Passing.yI e:=(List.getElem?_eq_some_iff.1 hg).2
   have hself : ∀ a,(M.set i a)[i]? = some a:=fun a=>List.getElem?_set_self hlt2
   have hgetD : ∀ a,(M.set i a)[i]?.getD [] = a:=fun a=>by rw [hself]; rfl
   simp only [Passing.yI] at hg g1
   have hk : 0 ≤ K:=by omega
   simp -dsimp -implicitDefEqProofs [yG hlt,hg,hl,hlt2,g1,hself,setAt]
   intro hlen
   repeat (refine ⟨by first | exact hlt | (unfold inI; omega) | exact ybA (by omega),?_⟩)
   refine yb3 (k0:=4) (j:=3) (i:=(i : Int)) (r:=[.i K,.i (K + 1),.b (decide ((K + 1 + 1).tmod 3 = 0)),.ot 1 (e.Train.Rows.map yT)]) (c:=.ot 1 (e.Train.Rows.map yT)) (c':=.ot 1 (yaA fB nB (K + 1 + 1 + 1) e.Train.Rows)) (yfJ e.Train.Rows (K + 1 + 1 + 1) (by omega) (by omega)) (by simp) rfl rfl rfl (by first | exact hself _ | simpa using hg) rfl ⟨_,by rw [yH]; simp,rfl,rfl,rfl⟩ (by simp [C.sz]) ?_
   simp -dsimp -implicitDefEqProofs [setAt,hself,hlt2,hl]
   repeat (refine ⟨by first | exact hlt | (unfold inI; omega) | exact ybA (by omega) | exact yw hlt hlen,?_⟩)
   refine ⟨i + 1,hlt,by omega,?_⟩
   simp only [ybL] at hs
   apply yj <;> simp [Obj.leO,hs,hself] <;> omega
  ·have : i = xs.length:=by omega
   subst this
   simp -dsimp -implicitDefEqProofs
   intro _
   rw [yd9 (Nat.le_refl _),ybl (Nat.le_refl _),List.take_of_length_le (by rw [yH]; exact Nat.le_refl _)]
   exact ⟨rfl,rfl⟩
theorem yol (xs : List Passing) (k : Int) (h0 : 0 ≤ k) (h1 : k + cnt yae xs ≤ 8000000000000000000) : yB Tryz.prog 77 [.c (.sl 4 (yaA ydN yae k xs)),.c (.i k)] (.c (.i (k + cnt yae xs))):=by
 refine yh yjK ?_
 simp -dsimp -implicitDefEqProofs
 refine yg (ι:=Nat) (fun i=>i ≤ xs.length) (fun i=>yO [(0,.c (.sl 4 (yaA ydN yae k xs))),(1,.c (.i (k + yaK yae xs i))),(5,.c (.i i))] []) (fun i=>xs.length - i) 0 (by simp) (by apply yj <;> simp [ya0]) ?_
 rintro i hi
 rcases Nat.lt_or_ge i xs.length with hlt | hge
 ·obtain ⟨e,he⟩ : ∃ e,xs[i]? = some e:=⟨_,List.getElem?_eq_getElem hlt⟩
  have hg:=yfH (f:=ydN) (n:=yae) (k:=k) he
  have hc:=ya1 (n:=yae) he
  have hle:=ybS (n:=yae) (xs:=xs) (i:=i + 1)
  have hn : yae e = 1 + 1 + 1 + cnt nB e.Train.Rows:=rfl
  simp only [ydN] at hg
  generalize hK : (k + (yaK yae xs i : Int)) = K at *
  have hk : 0 ≤ K:=by omega
  simp -dsimp -implicitDefEqProofs [yH,yG hlt,hg]
  intro hlen
  repeat (refine ⟨by first | exact hlt | (unfold inI; omega) | exact ybA (by omega),?_⟩)
  refine yc (yfS e.Train.Rows (K + 1 + 1 + 1) (by omega) (by omega)) ?_
  have n3 : (K + 1 + 1 + 1 + (cnt nB e.Train.Rows : Int) < 0) = False:=by simp; omega
  simp -dsimp -implicitDefEqProofs [n3,yH,yG hlt,hg]
  repeat (refine ⟨by first | exact hlt | (unfold inI; omega) | exact ybA (by omega) | exact yw hlt hlen,?_⟩)
  refine ⟨i + 1,hlt,by omega,?_⟩
  apply yj <;> simp <;> omega
 ·have : i = xs.length:=by omega
  subst this
  simp -dsimp -implicitDefEqProofs [yH]
  rw [ybl (Nat.le_refl _)]
  intro _; rfl
@[simp] def Waterway.yI (e : Waterway) : List C:=[.i e.Time,.ot 3 (e.Reaches.map Reach.yI),.ow 2 (e.Ways.map Way.enc),.ot 22 (e.Works.map Work.yI),.ot 1 (e.Movers.map yax),.ot 2 (e.Arrived.map Train.yI),.ow 1 (e.Entered.map yJ),.i e.Tariff.Base,.i e.Tariff.PerArea,.ow 1 (e.Tariff.PerClass.map yJ),.ow 1 (e.Tariff.Weights.map yJ),.ow 5 (e.Book.map Entry.enc),.ot 4 (e.Passings.map Passing.yI),.i e.Start,.i e.In,.i e.Out]
theorem Waterway.yaa (e : Waterway) : ybQ e.yI = some e.enc:=by simp [Waterway.yI,ybQ,ydl Reach.yaa,ydl Work.yaa,ydl ycu,ydl Train.yaa,ydl Passing.yaa]
theorem Waterway.yad (e : Waterway) : ∀ c ∈ e.yI,c.closed:=by
 simp only [Waterway.yI,List.mem_cons,List.not_mem_nil,or_false,forall_eq_or_imp,forall_eq]
 exact ⟨by simp [C.closed],ybn Reach.yad _ _,by simp [C.closed],ybn Work.yad _ _,ybn yk2 _ _,ybn Train.yad _ _,by simp [C.closed],by simp [C.closed],by simp [C.closed],by simp [C.closed],by simp [C.closed],by simp [C.closed],ybn Passing.yad _ _,by simp [C.closed],by simp [C.closed],by simp [C.closed]⟩
set_option maxRecDepth 20000 in
theorem ytB (e : Waterway) (hl : Waterway.small e) : ybh Tryz.prog 31 [.agg (e.enc.map .c)] (.agg (e.yI.map .c)):=by
 refine yan ygH ?_
 simp -dsimp -implicitDefEqProofs
 refine yQ (ywx e.Reaches hl.1) (by simp) (ybn Reach.yad _ _) (by simp [yU]) ?_
 simp -dsimp -implicitDefEqProofs [yt]
 refine yQ (yzG e.Ways hl.2.1) (by simp) (by simp [AV.closed,AV.ya7,C.closed]) (by simp [yU]) ?_
 simp -dsimp -implicitDefEqProofs [yt]
 refine yQ (yyw e.Works hl.2.2.1) (by simp) (ybn Work.yad _ _) (by simp [yU]) ?_
 simp -dsimp -implicitDefEqProofs [yt]
 refine yQ (ytU e.Movers hl.2.2.2.1) (by simp) (ybn yk2 _ _) (by simp [yU]) ?_
 simp -dsimp -implicitDefEqProofs [yt]
 refine yQ (ypF e.Arrived hl.2.2.2.2.1) (by simp) (ybn Train.yad _ _) (by simp [yU]) ?_
 simp -dsimp -implicitDefEqProofs [yt]
 refine yQ (ylr e.Entered hl.2.2.2.2.2.1.1) (by simp) (by simp [AV.closed,AV.ya7,C.closed]) (by simp [yU]) ?_
 simp -dsimp -implicitDefEqProofs [yt]
 refine yQ (yv6 e.Tariff hl.2.2.2.2.2.2.1) (by simp) (yb5 (Tariff.yad _)) (by simp [yU]) ?_
 simp -dsimp -implicitDefEqProofs [yt]
 refine yQ (yvX e.Book hl.2.2.2.2.2.2.2.1.1) (by simp) (by simp [AV.closed,AV.ya7,C.closed]) (by simp [yU]) ?_
 simp -dsimp -implicitDefEqProofs [yt]
 refine yQ (ysg e.Passings hl.2.2.2.2.2.2.2.2) (by simp) (ybn Passing.yad _ _) (by simp [yU]) ?_
 simp -dsimp -implicitDefEqProofs [yt]
theorem yAp (es : List Point) (hl : es.length ≤ 1048576) : ybh Tryz.prog 257 [.c (.sl 2 (es.map Point.enc))] (.c (.ow 2 (es.map Point.enc))):=by
 refine yan yc4 ?_
 simp -dsimp -implicitDefEqProofs [ybv,yt]
 omega
theorem yk9 (es : List Int) (hl : es.length ≤ 1048576) : ybh Tryz.prog 139 [.c (.sl 1 (es.map yJ))] (.c (.ow 1 (es.map yJ))):=by
 refine yan ygh ?_
 simp -dsimp -implicitDefEqProofs [ydx,yt]
 omega
theorem yx7 (es : List Pause) (hl : es.length ≤ 1048576) : ybh Tryz.prog 220 [.c (.sl 2 (es.map Pause.enc))] (.c (.ow 2 (es.map Pause.enc))):=by
 refine yan yc7 ?_
 simp -dsimp -implicitDefEqProofs [ybt,yt]
 omega
theorem yyE (es : List Way) (hl : es.length ≤ 1048576) : ybh Tryz.prog 135 [.c (.sl 2 (es.map Way.enc))] (.c (.ow 2 (es.map Way.enc))):=by
 refine yan ydE ?_
 simp -dsimp -implicitDefEqProofs [ybZ,yt]
 omega
theorem yz5 (es : List Entry) (hl : es.length ≤ 1048576) : ybh Tryz.prog 141 [.c (.sl 5 (es.map Entry.enc))] (.c (.ow 5 (es.map Entry.enc))):=by
 refine yan yc5 ?_
 simp -dsimp -implicitDefEqProofs [ybu,yt]
 omega
theorem ygB (e : Reach) (hl : Reach.small e) : ybh Tryz.prog 218 [.agg (e.enc.map .c)] (.agg (e.yI.map .c)):=by
 refine yan yms ?_
 simp -dsimp -implicitDefEqProofs
 refine yfW (yAp e.Table hl.1.1) (by simp ) (by simp [AV.closed,AV.ya7,C.closed]) (by simp [yU]) ?_
 simp -dsimp -implicitDefEqProofs [yt]
 refine yfW (yk9 e.Pipe hl.2.1) (by simp ) (by simp [AV.closed,AV.ya7,C.closed]) (by simp [yU]) ?_
 simp -dsimp -implicitDefEqProofs [yt]
theorem yrb (xs : List Reach) (hl : ycN xs) : ybh Tryz.prog 134 [.c (.sl 3 (xs.map Reach.enc))] (.c (.ot 3 (xs.map Reach.yI))):=by
 refine yan yku ?_
 simp -dsimp -implicitDefEqProofs
 intro hlen
 have hl1:=hl.1
 refine ⟨by omega,?_⟩
 intro _
 refine yg (ι:=Nat) (fun k=>k ≤ xs.length) (fun k=>yO [(3,.own 8 3 k),(9,.c (.sl 3 (xs.map Reach.enc))),(10,.c (.i xs.length)),(11,.c (.i k))] [(8,.tr 3 0 ((xs.take k).map Reach.yI))]) (fun k=>xs.length - k) 0 (by simp) (by apply yj <;> simp [Obj.leO]) ?_
 rintro k hk
 rcases Nat.lt_or_ge k xs.length with hlt | hge
 ·obtain ⟨e,he⟩ : ∃ e,xs[k]? = some e:=⟨_,List.getElem?_eq_getElem hlt⟩
  have hs : xs.take (k + 1) = xs.take k ++ [e]:=by rw [List.take_succ,he]; rfl
  have he2:=hl.2 e (List.mem_of_getElem? he)
  have g1:=(List.getElem?_eq_some_iff.1 he).2
  simp -dsimp -implicitDefEqProofs [he,g1,hlt,yG hlt]
  refine yQ (ygB e he2) (by simp) (yb5 (Reach.yad e)) (by simp [yU]) ?_
  simp -dsimp -implicitDefEqProofs [yt,Nat.min_eq_left hk,yeh]
  refine ⟨by omega,yw hlt hlen,k + 1,hlt,by omega,?_⟩
  have hs2 : (xs.map Reach.yI).take (k + 1) = (xs.map Reach.yI).take k ++ [Reach.yI e]:=by rw [← List.map_take,← List.map_take,hs,List.map_append]; rfl
  apply yj <;> simp [Obj.leO,hs2]
 ·have : k = xs.length:=by omega
  subst this
  simp -dsimp -implicitDefEqProofs [yt]
  try simp
theorem ykW (xs : List Train) (hl : ybV xs) : ybh Tryz.prog 138 [.c (.sl 2 (xs.map Train.enc))] (.c (.ot 2 (xs.map Train.yI))):=by
 refine yan ylm ?_
 simp -dsimp -implicitDefEqProofs
 intro hlen
 have hl1:=hl.1
 refine yfV (k0:=2) 3 2 (by simp) (by simp) (by decide) ?_
 refine yg (ι:=Nat) (fun k=>k ≤ xs.length) (fun k=>yO [(3,.own 3 2 k),(6,.c (.sl 2 (xs.map Train.enc))),(7,.c (.i xs.length)),(8,.c (.i k))] [(3,.tr 2 0 ((xs.take k).map Train.yI))]) (fun k=>xs.length - k) 0 (by simp) (by apply yj <;> simp [Obj.leO]) ?_
 rintro k hk
 rcases Nat.lt_or_ge k xs.length with hlt | hge
 ·obtain ⟨e,he⟩ : ∃ e,xs[k]? = some e:=⟨_,List.getElem?_eq_getElem hlt⟩
  have hs : xs.take (k + 1) = xs.take k ++ [e]:=by rw [List.take_succ,he]; rfl
  have he2:=hl.2 e (List.mem_of_getElem? he)
  have g1:=(List.getElem?_eq_some_iff.1 he).2
  simp -dsimp -implicitDefEqProofs [he,g1,hlt,yG hlt]
  refine yQ (ygJ e he2) (by simp) (yb5 (Train.yad e)) (by simp [yU]) ?_
  simp -dsimp -implicitDefEqProofs [yt,Nat.min_eq_left hk,yeh]
  refine ⟨by omega,yw hlt hlen,k + 1,hlt,by omega,?_⟩
  have hs2 : (xs.map Train.yI).take (k + 1) = (xs.map Train.yI).take k ++ [Train.yI e]:=by rw [← List.map_take,← List.map_take,hs,List.map_append]; rfl
  apply yj <;> simp [Obj.leO,hs2]
 ·have : k = xs.length:=by omega
  subst this
  simp -dsimp -implicitDefEqProofs [yt]
  try simp
theorem yuP (xs : List CallT) (hl : yfi xs) : ybh Tryz.prog 221 [.c (.sl 4 (xs.map CallT.enc))] (.c (.ot 4 (xs.map CallT.yI))):=by
 refine yan ymx ?_
 simp -dsimp -implicitDefEqProofs
 intro hlen
 have hl1:=hl.1
 refine yfV (k0:=4) 3 4 (by simp) (by simp) (by decide) ?_
 refine yg (ι:=Nat) (fun k=>k ≤ xs.length) (fun k=>yO [(3,.own 3 4 k),(6,.c (.sl 4 (xs.map CallT.enc))),(7,.c (.i xs.length)),(8,.c (.i k))] [(3,.tr 4 0 ((xs.take k).map CallT.yI))]) (fun k=>xs.length - k) 0 (by simp) (by apply yj <;> simp [Obj.leO]) ?_
 rintro k hk
 rcases Nat.lt_or_ge k xs.length with hlt | hge
 ·obtain ⟨e,he⟩ : ∃ e,xs[k]? = some e:=⟨_,List.getElem?_eq_getElem hlt⟩
  have hs : xs.take (k + 1) = xs.take k ++ [e]:=by rw [List.take_succ,he]; rfl
  have he2:=hl.2 e (List.mem_of_getElem? he)
  have g1:=(List.getElem?_eq_some_iff.1 he).2
  simp -dsimp -implicitDefEqProofs [he,g1,hlt,yG hlt]
  refine yfW (ygJ e.Train he2) (by simp) (yb5 (Train.yad e.Train)) (by simp [yU]) ?_
  simp -dsimp -implicitDefEqProofs [yt,Nat.min_eq_left hk,yeh]
  refine ⟨by omega,yw hlt hlen,k + 1,hlt,by omega,?_⟩
  have hs2 : (xs.map CallT.yI).take (k + 1) = (xs.map CallT.yI).take k ++ [CallT.yI e]:=by rw [← List.map_take,← List.map_take,hs,List.map_append]; rfl
  apply yj <;> simp [Obj.leO,hs2]
 ·have : k = xs.length:=by omega
  subst this
  simp -dsimp -implicitDefEqProofs [yt]
  try simp
theorem ysV (xs : List Mover) (hl : yfK xs) : ybh Tryz.prog 137 [.c (.sl 3 (xs.map Mover.enc))] (.c (.ot 3 (xs.map Mover.yI))):=by
 refine yan ylu ?_
 simp -dsimp -implicitDefEqProofs
 intro hlen
 have hl1:=hl.1
 refine yfV (k0:=3) 3 3 (by simp) (by simp) (by decide) ?_
 refine yg (ι:=Nat) (fun k=>k ≤ xs.length) (fun k=>yO [(3,.own 3 3 k),(6,.c (.sl 3 (xs.map Mover.enc))),(7,.c (.i xs.length)),(8,.c (.i k))] [(3,.tr 3 0 ((xs.take k).map Mover.yI))]) (fun k=>xs.length - k) 0 (by simp) (by apply yj <;> simp [Obj.leO]) ?_
 rintro k hk
 rcases Nat.lt_or_ge k xs.length with hlt | hge
 ·obtain ⟨e,he⟩ : ∃ e,xs[k]? = some e:=⟨_,List.getElem?_eq_getElem hlt⟩
  have hs : xs.take (k + 1) = xs.take k ++ [e]:=by rw [List.take_succ,he]; rfl
  have he2:=hl.2 e (List.mem_of_getElem? he)
  have g1:=(List.getElem?_eq_some_iff.1 he).2
  simp -dsimp -implicitDefEqProofs [he,g1,hlt,yG hlt]
  refine yfW (ygJ e.Train he2) (by simp) (yb5 (Train.yad e.Train)) (by simp [yU]) ?_
  simp -dsimp -implicitDefEqProofs [yt,Nat.min_eq_left hk,yeh]
  refine ⟨by omega,yw hlt hlen,k + 1,hlt,by omega,?_⟩
  have hs2 : (xs.map Mover.yI).take (k + 1) = (xs.map Mover.yI).take k ++ [Mover.yI e]:=by rw [← List.map_take,← List.map_take,hs,List.map_append]; rfl
  apply yj <;> simp [Obj.leO,hs2]
 ·have : k = xs.length:=by omega
  subst this
  simp -dsimp -implicitDefEqProofs [yt]
  try simp
theorem yws (e : Lock) (hl : Lock.small e) : ybh Tryz.prog 219 [.agg (e.enc.map .c)] (.agg (e.yI.map .c)):=by
 refine yan ym9 ?_
 simp -dsimp -implicitDefEqProofs
 refine yQ (ykW e.Inside hl) (by simp) (ybn Train.yad _ _) (by simp [yU]) ?_
 simp -dsimp -implicitDefEqProofs [yt]
theorem ysT (e : Tariff) (hl : Tariff.small e) : ybh Tryz.prog 140 [.agg (e.enc.map .c)] (.agg (e.yI.map .c)):=by
 refine yan ylf ?_
 simp -dsimp -implicitDefEqProofs
 refine yQ (yk9 e.PerClass hl.1) (by simp ) (by simp [AV.closed,AV.ya7,C.closed]) (by simp [yU]) ?_
 simp -dsimp -implicitDefEqProofs [yt]
 refine yQ (yk9 e.Weights hl.2) (by simp ) (by simp [AV.closed,AV.ya7,C.closed]) (by simp [yU]) ?_
 simp -dsimp -implicitDefEqProofs [yt]
theorem yuM (xs : List Work) (hl : yc8 xs) : ybh Tryz.prog 136 [.c (.sl 22 (xs.map Work.enc))] (.c (.ot 22 (xs.map Work.yI))):=by
 refine yan ymk ?_
 simp -dsimp -implicitDefEqProofs
 intro hlen
 have hl1:=hl.1
 refine yfV (k0:=22) 3 22 (by simp) (by simp) (by decide) ?_
 refine yg (ι:=Nat) (fun k=>k ≤ xs.length) (fun k=>yO [(3,.own 3 22 k),(6,.c (.sl 22 (xs.map Work.enc))),(7,.c (.i xs.length)),(8,.c (.i k))] [(3,.tr 22 0 ((xs.take k).map Work.yI))]) (fun k=>xs.length - k) 0 (by simp) (by apply yj <;> simp [Obj.leO]) ?_
 rintro k hk
 rcases Nat.lt_or_ge k xs.length with hlt | hge
 ·obtain ⟨e,he⟩ : ∃ e,xs[k]? = some e:=⟨_,List.getElem?_eq_getElem hlt⟩
  have hs : xs.take (k + 1) = xs.take k ++ [e]:=by rw [List.take_succ,he]; rfl
  have he2:=hl.2 e (List.mem_of_getElem? he)
  have g1:=(List.getElem?_eq_some_iff.1 he).2
  simp -dsimp -implicitDefEqProofs [he,g1,hlt,yG hlt]
  refine yQ (yws e.Lock he2.1) (by simp) (yb5 (Lock.yad _)) (by simp [yU]) ?_
  simp -dsimp -implicitDefEqProofs [yt]
  refine yQ (yx7 e.Pauses he2.2.1.1) (by simp ) (by simp [AV.closed,AV.ya7,C.closed]) (by simp [yU]) ?_
  simp -dsimp -implicitDefEqProofs [yt]
  refine yQ (yuP e.Calls he2.2.2) (by simp) (ybn CallT.yad _ _) (by simp [yU]) ?_
  simp -dsimp -implicitDefEqProofs [yt,Nat.min_eq_left hk]
  refine ⟨by omega,yw hlt hlen,k + 1,hlt,by omega,?_⟩
  have hs2 : (xs.map Work.yI).take (k + 1) = (xs.map Work.yI).take k ++ [Work.yI e]:=by rw [← List.map_take,← List.map_take,hs,List.map_append]; rfl
  apply yj <;> simp [Obj.leO,hs2]
 ·have : k = xs.length:=by omega
  subst this
  simp -dsimp -implicitDefEqProofs [yt]
  try simp
set_option maxRecDepth 20000 in
theorem ypi (x : Waterway) (hl : x.small) : ybh Tryz.prog 52 [.agg (x.enc.map .c)] (.agg (x.yI.map .c)):=by
 obtain ⟨s1,s2,s3,s4,s5,s6,s7,s8,s9⟩:=hl
 have s41:=s4.1
 have s91:=s9.1
 refine yan yjQ ?_
 simp -dsimp -implicitDefEqProofs
 refine yQ (yrb x.Reaches s1) (by simp) (ybn Reach.yad _ _) (by simp [yU]) ?_
 simp -dsimp -implicitDefEqProofs [yt]
 refine yQ (yyE x.Ways s2.1) (by simp ) (by simp [AV.closed,AV.ya7,C.closed]) (by simp [yU]) ?_
 simp -dsimp -implicitDefEqProofs [yt]
 refine yQ (yuM x.Works s3) (by simp) (ybn Work.yad _ _) (by simp [yU]) ?_
 simp -dsimp -implicitDefEqProofs [yt]
 intro hlen
 refine ⟨by omega,?_⟩
 intro _
 refine yg (ι:=Nat) (fun k=>k ≤ x.Movers.length) (fun k=>yO [(1,.box 1 0),(2,.box 2 0),(3,.own 24 1 x.Movers.length),(26,.c (.sl 1 (x.Movers.map yZ))),(27,.c (.i x.Movers.length)),(28,.c (.i k))] [(1,.box [.c (.i x.Time),.own 11 3 x.Reaches.length,.own 15 2 x.Ways.length,.own 19 22 x.Works.length,.c (.sl 1 (x.Movers.map yZ)),.c (.sl 2 (x.Arrived.map Train.enc)),.c (.sl 1 (x.Entered.map yJ)),.c (.i x.Tariff.Base),.c (.i x.Tariff.PerArea),.c (.sl 1 (x.Tariff.PerClass.map yJ)),.c (.sl 1 (x.Tariff.Weights.map yJ)),.c (.sl 5 (x.Book.map Entry.enc)),.c (.sl 4 (x.Passings.map Passing.enc)),.c (.i x.Start),.c (.i x.In),.c (.i x.Out)]),(2,.box [.c (.i 0),.nil 3,.nil 2,.nil 22,.nil 1,.nil 2,.nil 1,.c (.i 0),.c (.i 0),.nil 1,.nil 1,.nil 5,.nil 4,.c (.i 0),.c (.i 0),.c (.i 0)]),(11,.tr 3 0 (x.Reaches.map Reach.yI)),(15,.row 2 (x.Ways.map Way.enc)),(19,.tr 22 0 (x.Works.map Work.yI)),(24,.tr 1 0 (partly yax [.sl 3 []] x.Movers k))]) (fun k=>x.Movers.length - k) 0 (by simp) (by apply yj <;> simp [yab,Obj.leO]) ?_
 rintro k hk
 rcases Nat.lt_or_ge k x.Movers.length with hlt | hge
 ·obtain ⟨e,he⟩ : ∃ e,x.Movers[k]? = some e:=⟨_,List.getElem?_eq_getElem hlt⟩
  have hs:=yaj (f:=yax) (z:=[.sl 3 []]) he
  have hd : ((partly yax [.sl 3 []] x.Movers k)[k]?.getD []).set 0 (.ot 3 (e.map Mover.yI)) = yax e:=by
   have:=ydK (f:=yax) (z:=[.sl 3 []]) (n:=1) rfl (fun _=>rfl) hlt
   obtain ⟨y,hy⟩:=List.length_eq_one_iff.1 this
   rw [hy]; rfl
  simp -dsimp -implicitDefEqProofs [he,yG hlt]
  refine yQ (ysV e (s4.2 e (List.mem_of_getElem? he))) (by simp) (ybn Mover.yad _ _) (by simp [yU]) ?_
  simp -dsimp -implicitDefEqProofs [yG hlt,yak hk,yt,setAt,hd,hs]
  exact ⟨hlt,yw hlt hlen,k + 1,hlt,by omega,by apply yj <;> simp [Obj.leO]⟩
 have hke : k = x.Movers.length:=by omega
 subst hke
 simp -dsimp -implicitDefEqProofs [yam (Nat.le_refl _),yt]
 refine yQ (ykW x.Arrived s5) (by simp) (ybn Train.yad _ _) (by simp [yU]) ?_
 simp -dsimp -implicitDefEqProofs [yt]
 refine yQ (yk9 x.Entered s6.1) (by simp ) (by simp [AV.closed,AV.ya7,C.closed]) (by simp [yU]) ?_
 simp -dsimp -implicitDefEqProofs [yt]
 refine yQ (ysT x.Tariff s7) (by simp) (yb5 (Tariff.yad _)) (by simp [yU]) ?_
 simp -dsimp -implicitDefEqProofs [yt]
 refine yQ (yz5 x.Book s8.1) (by simp ) (by simp [AV.closed,AV.ya7,C.closed]) (by simp [yU]) ?_
 simp -dsimp -implicitDefEqProofs [yt]
 intro hlen2
 refine yfV (k0:=4) 6 4 (by simp) (by simp) (by decide) ?_
 refine yg (ι:=Nat) (fun k=>k ≤ x.Passings.length) (fun k=>yO [(1,.box 1 0),(2,.box 2 0),(6,.own 6 4 k),(58,.c (.sl 4 (x.Passings.map Passing.enc))),(59,.c (.i x.Passings.length)),(60,.c (.i k))] [(1,.box [.c (.i x.Time),.own 11 3 x.Reaches.length,.own 15 2 x.Ways.length,.own 19 22 x.Works.length,.own 24 1 x.Movers.length,.own 43 2 x.Arrived.length,.own 47 1 x.Entered.length,.c (.i x.Tariff.Base),.c (.i x.Tariff.PerArea),.own 30051 1 x.Tariff.PerClass.length,.own 40051 1 x.Tariff.Weights.length,.own 55 5 x.Book.length,.c (.sl 4 (x.Passings.map Passing.enc)),.c (.i x.Start),.c (.i x.In),.c (.i x.Out)]),(2,.box [.c (.i 0),.nil 3,.nil 2,.nil 22,.nil 1,.nil 2,.nil 1,.c (.i 0),.c (.i 0),.nil 1,.nil 1,.nil 5,.nil 4,.c (.i 0),.c (.i 0),.c (.i 0)]),(11,.tr 3 0 (x.Reaches.map Reach.yI)),(15,.row 2 (x.Ways.map Way.enc)),(19,.tr 22 0 (x.Works.map Work.yI)),(24,.tr 1 0 (x.Movers.map yax)),(43,.tr 2 0 (x.Arrived.map Train.yI)),(47,.row 1 (x.Entered.map yJ)),(30051,.row 1 (x.Tariff.PerClass.map yJ)),(40051,.row 1 (x.Tariff.Weights.map yJ)),(55,.row 5 (x.Book.map Entry.enc)),(6,.tr 4 0 ((x.Passings.take k).map Passing.yI))]) (fun k=>x.Passings.length - k) 0 (by simp) (by apply yj <;> simp [Obj.leO]) ?_
 rintro k hk2
 rcases Nat.lt_or_ge k x.Passings.length with hlt | hge2
 ·obtain ⟨e,he⟩ : ∃ e,x.Passings[k]? = some e:=⟨_,List.getElem?_eq_getElem hlt⟩
  have hs : x.Passings.take (k + 1) = x.Passings.take k ++ [e]:=by rw [List.take_succ,he]; rfl
  have he2:=s9.2 e (List.mem_of_getElem? he)
  have g1:=(List.getElem?_eq_some_iff.1 he).2
  simp -dsimp -implicitDefEqProofs [he,g1,hlt,yG hlt]
  refine yfW (ygJ e.Train he2) (by simp) (yb5 (Train.yad e.Train)) (by simp [yU]) ?_
  simp -dsimp -implicitDefEqProofs [yt,Nat.min_eq_left hk2,yeh]
  refine ⟨by omega,yw hlt hlen2,k + 1,hlt,by omega,?_⟩
  have hs2 : (x.Passings.map Passing.yI).take (k + 1) = (x.Passings.map Passing.yI).take k ++ [Passing.yI e]:=by rw [← List.map_take,← List.map_take,hs,List.map_append]; rfl
  apply yj <;> simp [Obj.leO,hs2]
 have hke2 : k = x.Passings.length:=by omega
 subst hke2
 simp -dsimp -implicitDefEqProofs [yt]
theorem ymv (e : Reach) (hl : Reach.small e) : ybh Tryz.prog 114 [.agg (e.enc.map .c)] (.agg (e.yI.map .c)):=by
 have h1:=hl.1.1
 have h2:=hl.2.1
 refine yan yoO ?_
 simp -dsimp -implicitDefEqProofs [yi7,yt]
 exact ⟨by omega,by omega⟩
theorem ybo (e : Reach) (hl : Reach.small e) : yB Tryz.prog 114 [.agg (e.enc.map .c)] (.agg (e.enc.map .c)):=(ymv e hl).pure (by simp [AV.shr,AV.ysI,ybQ,C.shr])
theorem yxF (e : Mover) (hl : Mover.small e) : yB Tryz.prog 116 [.agg (e.enc.map .c)] (.agg (e.enc.map .c)):=by
 refine yh yp1 ?_
 simp -dsimp -implicitDefEqProofs
 refine yY (ygX e.Train hl) ?_
 simp -dsimp -implicitDefEqProofs
set_option maxRecDepth 20000 in
theorem yxT (e : Lock) (hl : Lock.small e) : yB Tryz.prog 203 [.agg (e.enc.map .c)] (.agg (e.enc.map .c)):=by
 have hl1:=hl.1
 have hsm:=hl.2
 refine yh ypn ?_
 simp -dsimp -implicitDefEqProofs
 refine yg (ι:=Nat) (fun k=>k ≤ e.Inside.length) (fun k=>yO [(1,.box 1 0),(2,.box 2 0),(3,.own 5 2 k),(4,.c (.i k))] [(1,.box [.c (.i e.Length),.c (.i e.Width),.c (.i e.SillAbove),.c (.i e.SillBelow),.c (.i e.Base),.c (.i e.Area),.c (.i e.Rate),.c (.i e.Water),.c (.i e.Gate),.c (.sl 2 (e.Inside.map Train.enc))]),(2,.box [.c (.i 0),.c (.i 0),.c (.i 0),.c (.i 0),.c (.i 0),.c (.i 0),.c (.i 0),.c (.i 0),.c (.i 0),.nil 2]),(5,.row 2 ((e.Inside.take k).map Train.enc))]) (fun k=>e.Inside.length - k) 0 (by simp) (by apply yj <;> simp [Obj.leO]) ?_
 rintro k hk
 rcases Nat.lt_or_ge k e.Inside.length with klt | kge
 ·obtain ⟨e1,he⟩ : ∃ e1,e.Inside[k]? = some e1:=⟨_,List.getElem?_eq_getElem klt⟩
  have he2:=hsm e1 (List.mem_of_getElem? he)
  have g1:=(List.getElem?_eq_some_iff.1 he).2
  have hs2 : (e.Inside.map Train.enc).take (k + 1) = (e.Inside.map Train.enc).take k ++ [Train.enc e1]:=by rw [List.take_succ,List.getElem?_map,he]; rfl
  simp -dsimp -implicitDefEqProofs [he,g1,klt,yG klt]
  intro hlen
  refine yS (ygX e1 he2) ?_
  simp -dsimp -implicitDefEqProofs [he,g1,klt,yG klt,yt,Nat.min_eq_left hk]
  refine ⟨by omega,yw klt hlen,k + 1,klt,by omega,?_⟩
  apply yj <;> simp [Obj.leO,hs2]
 have ek : k = e.Inside.length:=by omega
 subst ek
 simp -dsimp -implicitDefEqProofs [yt]
set_option maxRecDepth 20000 in
theorem yq8 (w : Work) (hl : Work.small w) : yB Tryz.prog 115 [.agg (w.enc.map .c)] (.agg (w.enc.map .c)):=by
 obtain ⟨s1,s2,s3⟩:=hl
 have hl1:=s3.1
 have hp1:=s2.1
 have hsm:=s3.2
 refine yh ykE ?_
 simp -dsimp -implicitDefEqProofs
 refine yS (yxT w.Lock s1) ?_
 simp -dsimp -implicitDefEqProofs [yt]
 refine ⟨by omega,?_⟩
 refine yg (ι:=Nat) (fun k=>k ≤ w.Calls.length) (fun k=>yO [(1,.box 1 0),(2,.box 2 0),(3,.box 3 0),(4,.c (.i k))] [(1,.box (w.enc.map .c)),(2,.box [.c (.i 0),.c (.i 0),.c (.i 0),.c (.i 0),.c (.i 0),.c (.i 0),.c (.i 0),.c (.i 0),.c (.i 0),.nil 2,.c (.i 0),.c (.i 0),.c (.i 0),.c (.i 0),.c (.i 0),.c (.i 0),.c (.i 0),.c (.i 0),.nil 2,.c (.b false),.c (.i 0),.nil 4]),(3,.box ((w.enc.map .c).set 18 (.own 11 2 w.Pauses.length) |>.set 21 (.own 16 4 k))),(11,.row 2 (w.Pauses.map Pause.enc)),(16,.row 4 ((w.Calls.take k).map CallT.enc))]) (fun k=>w.Calls.length - k) 0 (by simp) (by apply yj <;> simp [Obj.leO]) ?_
 rintro k hk
 rcases Nat.lt_or_ge k w.Calls.length with klt | kge
 ·obtain ⟨e1,he⟩ : ∃ e1,w.Calls[k]? = some e1:=⟨_,List.getElem?_eq_getElem klt⟩
  have he2:=hsm e1 (List.mem_of_getElem? he)
  have g1:=(List.getElem?_eq_some_iff.1 he).2
  have hs2 : (w.Calls.map CallT.enc).take (k + 1) = (w.Calls.map CallT.enc).take k ++ [CallT.enc e1]:=by rw [List.take_succ,List.getElem?_map,he]; rfl
  simp -dsimp -implicitDefEqProofs [he,g1,klt,yG klt]
  intro hlen
  refine yS (ygX e1.Train he2) ?_
  simp -dsimp -implicitDefEqProofs [he,g1,klt,yG klt,yt,Nat.min_eq_left hk]
  refine ⟨by omega,yw klt hlen,k + 1,klt,by omega,?_⟩
  apply yj <;> simp [Obj.leO,hs2]
 have ek : k = w.Calls.length:=by omega
 subst ek
 simp -dsimp -implicitDefEqProofs [yt]
def em (l : List Mover) : List C:=[.ow 3 (l.map Mover.enc)]
theorem ywd (l : List Mover) : ybQ (em l) = some (yZ l):=rfl
def Waterway.yAY (e : Waterway) : List C:=[.i e.Time,.ow 3 (e.Reaches.map Reach.enc),.ow 2 (e.Ways.map Way.enc),.ow 22 (e.Works.map Work.enc),.ot 1 (e.Movers.map em),.ow 2 (e.Arrived.map Train.enc),.ow 1 (e.Entered.map yJ),.i e.Tariff.Base,.i e.Tariff.PerArea,.ow 1 (e.Tariff.PerClass.map yJ),.ow 1 (e.Tariff.Weights.map yJ),.ow 5 (e.Book.map Entry.enc),.ow 4 (e.Passings.map Passing.enc),.i e.Start,.i e.In,.i e.Out]
set_option maxRecDepth 20000 in
theorem yxC (x : Waterway) (hl : x.small) : ybh Tryz.prog 43 [.agg (x.enc.map .c)] (.agg (x.yAY.map .c)):=by
 obtain ⟨s1,s2,s3,s4,s5,s6,s7,s8,s9⟩:=hl
 have t1:=s1.1; have t2:=s2.1; have t3:=s3.1; have t4:=s4.1; have t5:=s5.1; have t6:=s6.1; have t8:=s8.1; have t9:=s9.1
 have t71:=s7.1; have t72:=s7.2
 refine yan ynX ?_
 simp -dsimp -implicitDefEqProofs
 refine yg (ι:=Nat) (fun k=>k ≤ x.Reaches.length) (fun k=>yO [(1,.box 1 0),(2,.box 2 0),(3,.box 3 0),(4,.c (.i k))] [(1,.box [.c (.i x.Time),.c (.sl 3 (x.Reaches.map Reach.enc)),.c (.sl 2 (x.Ways.map Way.enc)),.c (.sl 22 (x.Works.map Work.enc)),.c (.sl 1 (x.Movers.map yZ)),.c (.sl 2 (x.Arrived.map Train.enc)),.c (.sl 1 (x.Entered.map yJ)),.c (.i x.Tariff.Base),.c (.i x.Tariff.PerArea),.c (.sl 1 (x.Tariff.PerClass.map yJ)),.c (.sl 1 (x.Tariff.Weights.map yJ)),.c (.sl 5 (x.Book.map Entry.enc)),.c (.sl 4 (x.Passings.map Passing.enc)),.c (.i x.Start),.c (.i x.In),.c (.i x.Out)]),(2,.box [.c (.i 0),.nil 3,.nil 2,.nil 22,.nil 1,.nil 2,.nil 1,.c (.i 0),.c (.i 0),.nil 1,.nil 1,.nil 5,.nil 4,.c (.i 0),.c (.i 0),.c (.i 0)]),(3,.box [.c (.i x.Time),.own 13 3 k,.c (.sl 2 (x.Ways.map Way.enc)),.c (.sl 22 (x.Works.map Work.enc)),.c (.sl 1 (x.Movers.map yZ)),.c (.sl 2 (x.Arrived.map Train.enc)),.c (.sl 1 (x.Entered.map yJ)),.c (.i x.Tariff.Base),.c (.i x.Tariff.PerArea),.c (.sl 1 (x.Tariff.PerClass.map yJ)),.c (.sl 1 (x.Tariff.Weights.map yJ)),.c (.sl 5 (x.Book.map Entry.enc)),.c (.sl 4 (x.Passings.map Passing.enc)),.c (.i x.Start),.c (.i x.In),.c (.i x.Out)]),(13,.row 3 ((x.Reaches.take k).map Reach.enc))]) (fun k=>x.Reaches.length - k) 0 (by simp) (by apply yj <;> simp [Obj.leO]) ?_
 rintro k hk
 rcases Nat.lt_or_ge k x.Reaches.length with klt | kge
 ·obtain ⟨e1,he⟩ : ∃ e1,x.Reaches[k]? = some e1:=⟨_,List.getElem?_eq_getElem klt⟩
  have he2:=s1.2 e1 (List.mem_of_getElem? he)
  have g1:=(List.getElem?_eq_some_iff.1 he).2
  have hs2 : (x.Reaches.map Reach.enc).take (k + 1) = (x.Reaches.map Reach.enc).take k ++ [Reach.enc e1]:=by rw [List.take_succ,List.getElem?_map,he]; rfl
  simp -dsimp -implicitDefEqProofs [he,g1,klt,yG klt]
  intro hlen
  refine yY (ybo e1 he2) ?_
  simp -dsimp -implicitDefEqProofs [he,g1,klt,yG klt,yt,Nat.min_eq_left hk,yeh]
  refine ⟨by omega,yw klt hlen,k + 1,klt,by omega,?_⟩
  apply yj <;> simp [Obj.leO,hs2]
 have ek : k = x.Reaches.length:=by omega
 subst ek
 simp -dsimp -implicitDefEqProofs [yt]
 intro _
 refine ⟨by omega,?_⟩
 refine yg (ι:=Nat) (fun k=>k ≤ x.Works.length) (fun k=>yO [(1,.box 1 0),(2,.box 2 0),(3,.box 3 0),(5,.c (.i k))] [(1,.box [.c (.i x.Time),.c (.sl 3 (x.Reaches.map Reach.enc)),.c (.sl 2 (x.Ways.map Way.enc)),.c (.sl 22 (x.Works.map Work.enc)),.c (.sl 1 (x.Movers.map yZ)),.c (.sl 2 (x.Arrived.map Train.enc)),.c (.sl 1 (x.Entered.map yJ)),.c (.i x.Tariff.Base),.c (.i x.Tariff.PerArea),.c (.sl 1 (x.Tariff.PerClass.map yJ)),.c (.sl 1 (x.Tariff.Weights.map yJ)),.c (.sl 5 (x.Book.map Entry.enc)),.c (.sl 4 (x.Passings.map Passing.enc)),.c (.i x.Start),.c (.i x.In),.c (.i x.Out)]),(2,.box [.c (.i 0),.nil 3,.nil 2,.nil 22,.nil 1,.nil 2,.nil 1,.c (.i 0),.c (.i 0),.nil 1,.nil 1,.nil 5,.nil 4,.c (.i 0),.c (.i 0),.c (.i 0)]),(3,.box [.c (.i x.Time),.own 13 3 x.Reaches.length,.own 33 2 x.Ways.length,.own 38 22 k,.c (.sl 1 (x.Movers.map yZ)),.c (.sl 2 (x.Arrived.map Train.enc)),.c (.sl 1 (x.Entered.map yJ)),.c (.i x.Tariff.Base),.c (.i x.Tariff.PerArea),.c (.sl 1 (x.Tariff.PerClass.map yJ)),.c (.sl 1 (x.Tariff.Weights.map yJ)),.c (.sl 5 (x.Book.map Entry.enc)),.c (.sl 4 (x.Passings.map Passing.enc)),.c (.i x.Start),.c (.i x.In),.c (.i x.Out)]),(13,.row 3 (x.Reaches.map Reach.enc)),(33,.row 2 (x.Ways.map Way.enc)),(38,.row 22 ((x.Works.take k).map Work.enc))]) (fun k=>x.Works.length - k) 0 (by simp) (by apply yj <;> simp [Obj.leO]) ?_
 rintro k hk
 rcases Nat.lt_or_ge k x.Works.length with klt | kge
 ·obtain ⟨e1,he⟩ : ∃ e1,x.Works[k]? = some e1:=⟨_,List.getElem?_eq_getElem klt⟩
  have he2:=s3.2 e1 (List.mem_of_getElem? he)
  have g1:=(List.getElem?_eq_some_iff.1 he).2
  have hs2 : (x.Works.map Work.enc).take (k + 1) = (x.Works.map Work.enc).take k ++ [Work.enc e1]:=by rw [List.take_succ,List.getElem?_map,he]; rfl
  simp -dsimp -implicitDefEqProofs [he,g1,klt,yG klt]
  intro hlen
  refine yY (yq8 e1 he2) ?_
  simp -dsimp -implicitDefEqProofs [he,g1,klt,yG klt,yt,Nat.min_eq_left hk,yeh]
  refine ⟨by omega,yw klt hlen,k + 1,klt,by omega,?_⟩
  apply yj <;> simp [Obj.leO,hs2]
 have ek : k = x.Works.length:=by omega
 subst ek
 simp -dsimp -implicitDefEqProofs [yt]
 intro _
 refine yg (ι:=Nat) (fun k=>k ≤ x.Movers.length) (fun k=>yO [(1,.box 1 0),(2,.box 2 0),(3,.box 3 0),(6,.c (.i k))] [(1,.box [.c (.i x.Time),.c (.sl 3 (x.Reaches.map Reach.enc)),.c (.sl 2 (x.Ways.map Way.enc)),.c (.sl 22 (x.Works.map Work.enc)),.c (.sl 1 (x.Movers.map yZ)),.c (.sl 2 (x.Arrived.map Train.enc)),.c (.sl 1 (x.Entered.map yJ)),.c (.i x.Tariff.Base),.c (.i x.Tariff.PerArea),.c (.sl 1 (x.Tariff.PerClass.map yJ)),.c (.sl 1 (x.Tariff.Weights.map yJ)),.c (.sl 5 (x.Book.map Entry.enc)),.c (.sl 4 (x.Passings.map Passing.enc)),.c (.i x.Start),.c (.i x.In),.c (.i x.Out)]),(2,.box [.c (.i 0),.nil 3,.nil 2,.nil 22,.nil 1,.nil 2,.nil 1,.c (.i 0),.c (.i 0),.nil 1,.nil 1,.nil 5,.nil 4,.c (.i 0),.c (.i 0),.c (.i 0)]),(3,.box [.c (.i x.Time),.own 13 3 x.Reaches.length,.own 33 2 x.Ways.length,.own 38 22 x.Works.length,.own 58 1 k,.c (.sl 2 (x.Arrived.map Train.enc)),.c (.sl 1 (x.Entered.map yJ)),.c (.i x.Tariff.Base),.c (.i x.Tariff.PerArea),.c (.sl 1 (x.Tariff.PerClass.map yJ)),.c (.sl 1 (x.Tariff.Weights.map yJ)),.c (.sl 5 (x.Book.map Entry.enc)),.c (.sl 4 (x.Passings.map Passing.enc)),.c (.i x.Start),.c (.i x.In),.c (.i x.Out)]),(13,.row 3 (x.Reaches.map Reach.enc)),(33,.row 2 (x.Ways.map Way.enc)),(38,.row 22 (x.Works.map Work.enc)),(58,if k = 0 then .row 1 [] else .tr 1 0 ((x.Movers.take k).map em))]) (fun k=>x.Movers.length - k) 0 (by simp) (by apply yj <;> simp [Obj.leO]) ?_
 rintro k hk
 rcases Nat.lt_or_ge k x.Movers.length with klt | kge
 ·obtain ⟨l,hl⟩ : ∃ l,x.Movers[k]? = some l:=⟨_,List.getElem?_eq_getElem klt⟩
  have hls:=s4.2 l (List.mem_of_getElem? hl)
  have hll:=hls.1
  have g1:=(List.getElem?_eq_some_iff.1 hl).2
  have hs2 : (x.Movers.map em).take (k + 1) = (x.Movers.map em).take k ++ [em l]:=by rw [List.take_succ,List.getElem?_map,hl]; rfl
  simp -dsimp -implicitDefEqProofs [hl,g1,klt,yG klt]
  intro hlen
  generalize hZ : (if k = 0 then Obj.row 1 [] else .tr 1 0 ((x.Movers.map em).take k)) = Z
  have hz1 : Z.leO Z:=by rw [← hZ]; split <;> first | rfl | exact ⟨rfl,rfl⟩
  have hz2 : ∀ i,Z.kill i = Z:=by intro i; rw [← hZ]; split <;> rfl
  have hz3 : ∀ L,Z.ygy L = true:=by intro L; rw [← hZ]; split <;> rfl
  simp only [Obj.leO] at hz1
  simp only [Obj.ygy] at hz3
  refine yg (ι:=Nat) (fun i=>i ≤ l.length) (fun i=>yO [(1,.box 1 0),(2,.box 2 0),(3,.box 3 0),(6,.c (.i k)),(7,.own 67 3 i),(8,.c (.i i))] [(1,.box [.c (.i x.Time),.c (.sl 3 (x.Reaches.map Reach.enc)),.c (.sl 2 (x.Ways.map Way.enc)),.c (.sl 22 (x.Works.map Work.enc)),.c (.sl 1 (x.Movers.map yZ)),.c (.sl 2 (x.Arrived.map Train.enc)),.c (.sl 1 (x.Entered.map yJ)),.c (.i x.Tariff.Base),.c (.i x.Tariff.PerArea),.c (.sl 1 (x.Tariff.PerClass.map yJ)),.c (.sl 1 (x.Tariff.Weights.map yJ)),.c (.sl 5 (x.Book.map Entry.enc)),.c (.sl 4 (x.Passings.map Passing.enc)),.c (.i x.Start),.c (.i x.In),.c (.i x.Out)]),(2,.box [.c (.i 0),.nil 3,.nil 2,.nil 22,.nil 1,.nil 2,.nil 1,.c (.i 0),.c (.i 0),.nil 1,.nil 1,.nil 5,.nil 4,.c (.i 0),.c (.i 0),.c (.i 0)]),(3,.box [.c (.i x.Time),.own 13 3 x.Reaches.length,.own 33 2 x.Ways.length,.own 38 22 x.Works.length,.own 58 1 k,.c (.sl 2 (x.Arrived.map Train.enc)),.c (.sl 1 (x.Entered.map yJ)),.c (.i x.Tariff.Base),.c (.i x.Tariff.PerArea),.c (.sl 1 (x.Tariff.PerClass.map yJ)),.c (.sl 1 (x.Tariff.Weights.map yJ)),.c (.sl 5 (x.Book.map Entry.enc)),.c (.sl 4 (x.Passings.map Passing.enc)),.c (.i x.Start),.c (.i x.In),.c (.i x.Out)]),(13,.row 3 (x.Reaches.map Reach.enc)),(33,.row 2 (x.Ways.map Way.enc)),(38,.row 22 (x.Works.map Work.enc)),(58,Z),(67,.row 3 ((l.take i).map Mover.enc))]) (fun i=>l.length - i) 0 (by simp) (by apply yj <;> simp [Obj.leO,hz1,hz2,hz3]) ?_
  rintro i hi
  rcases Nat.lt_or_ge i l.length with ilt | ige
  ·obtain ⟨m,hm⟩ : ∃ m,l[i]? = some m:=⟨_,List.getElem?_eq_getElem ilt⟩
   have hms:=hls.2 m (List.mem_of_getElem? hm)
   have g2:=(List.getElem?_eq_some_iff.1 hm).2
   have hs3 : (l.map Mover.enc).take (i + 1) = (l.map Mover.enc).take i ++ [Mover.enc m]:=by rw [List.take_succ,List.getElem?_map,hm]; rfl
   simp -dsimp -implicitDefEqProofs [hl,hm,g1,g2,klt,yG klt,ilt,yG ilt]
   intro hlen2
   refine yS (yxF m hms) ?_
   simp -dsimp -implicitDefEqProofs [yt,Nat.min_eq_left hi]
   refine ⟨by omega,yw ilt hlen2,i + 1,ilt,by omega,?_⟩
   apply yj <;> simp [Obj.leO,hs3,hz1,hz2,hz3]
  have ei : i = l.length:=by omega
  subst ei
  simp -dsimp -implicitDefEqProofs [hl,g1,klt,yG klt,yt,hz2]
  intro _
  subst hZ
  rcases Nat.eq_zero_or_pos k with e0 | e0
  ·subst e0
   have hs3 : (x.Movers.map em).take 1 = [em l]:=by simpa using hs2
   simp -dsimp -implicitDefEqProofs [yt]
   refine ⟨by unfold inI; omega,1,klt,by omega,?_⟩
   apply yj <;> simp [Obj.leO,hs3,em]
  ·have hne : (k = 0) = False:=by simp; omega
   simp -dsimp -implicitDefEqProofs [hne,yt,Nat.min_eq_left hk]
   refine ⟨by omega,yw klt hlen,k + 1,klt,by omega,?_⟩
   apply yj <;> simp [Obj.leO,hs2,em]
 have ek : k = x.Movers.length:=by omega
 subst ek
 simp -dsimp -implicitDefEqProofs [yt]
 intro _
 have hif : (if x.Movers = [] then Obj.row 1 [] else .tr 1 0 (x.Movers.map em)) = (if x.Movers.length = 0 then Obj.row 1 [] else .tr 1 0 (x.Movers.map em)):=by cases x.Movers <;> simp
 generalize hZ : (if x.Movers.length = 0 then Obj.row 1 [] else .tr 1 0 (x.Movers.map em)) = Z at hif
 have hz1 : Z.leO Z:=by rw [← hZ]; split <;> first | rfl | exact ⟨rfl,rfl⟩
 have hz2 : ∀ i,Z.kill i = Z:=by intro i; rw [← hZ]; split <;> rfl
 have hz3 : ∀ L,Z.ygy L = true:=by intro L; rw [← hZ]; split <;> rfl
 simp only [Obj.leO] at hz1
 simp only [Obj.ygy] at hz3
 refine yg (ι:=Nat) (fun k=>k ≤ x.Arrived.length) (fun k=>yO [(1,.box 1 0),(2,.box 2 0),(3,.box 3 0),(9,.c (.i k))] [(1,.box [.c (.i x.Time),.c (.sl 3 (x.Reaches.map Reach.enc)),.c (.sl 2 (x.Ways.map Way.enc)),.c (.sl 22 (x.Works.map Work.enc)),.c (.sl 1 (x.Movers.map yZ)),.c (.sl 2 (x.Arrived.map Train.enc)),.c (.sl 1 (x.Entered.map yJ)),.c (.i x.Tariff.Base),.c (.i x.Tariff.PerArea),.c (.sl 1 (x.Tariff.PerClass.map yJ)),.c (.sl 1 (x.Tariff.Weights.map yJ)),.c (.sl 5 (x.Book.map Entry.enc)),.c (.sl 4 (x.Passings.map Passing.enc)),.c (.i x.Start),.c (.i x.In),.c (.i x.Out)]),(2,.box [.c (.i 0),.nil 3,.nil 2,.nil 22,.nil 1,.nil 2,.nil 1,.c (.i 0),.c (.i 0),.nil 1,.nil 1,.nil 5,.nil 4,.c (.i 0),.c (.i 0),.c (.i 0)]),(3,.box [.c (.i x.Time),.own 13 3 x.Reaches.length,.own 33 2 x.Ways.length,.own 38 22 x.Works.length,.own 58 1 x.Movers.length,.own 96 2 k,.c (.sl 1 (x.Entered.map yJ)),.c (.i x.Tariff.Base),.c (.i x.Tariff.PerArea),.c (.sl 1 (x.Tariff.PerClass.map yJ)),.c (.sl 1 (x.Tariff.Weights.map yJ)),.c (.sl 5 (x.Book.map Entry.enc)),.c (.sl 4 (x.Passings.map Passing.enc)),.c (.i x.Start),.c (.i x.In),.c (.i x.Out)]),(13,.row 3 (x.Reaches.map Reach.enc)),(33,.row 2 (x.Ways.map Way.enc)),(38,.row 22 (x.Works.map Work.enc)),(58,Z),(96,.row 2 ((x.Arrived.take k).map Train.enc))]) (fun k=>x.Arrived.length - k) 0 (by simp) (by apply yj <;> simp [Obj.leO,hif,hz1,hz2,hz3]) ?_
 rintro k hk
 rcases Nat.lt_or_ge k x.Arrived.length with klt | kge
 ·obtain ⟨e1,he⟩ : ∃ e1,x.Arrived[k]? = some e1:=⟨_,List.getElem?_eq_getElem klt⟩
  have he2:=s5.2 e1 (List.mem_of_getElem? he)
  have g1:=(List.getElem?_eq_some_iff.1 he).2
  have hs2 : (x.Arrived.map Train.enc).take (k + 1) = (x.Arrived.map Train.enc).take k ++ [Train.enc e1]:=by rw [List.take_succ,List.getElem?_map,he]; rfl
  simp -dsimp -implicitDefEqProofs [he,g1,klt,yG klt]
  intro hlen
  refine yY (ygX e1 he2) ?_
  simp -dsimp -implicitDefEqProofs [he,g1,klt,yG klt,yt,Nat.min_eq_left hk,yeh]
  refine ⟨by omega,yw klt hlen,k + 1,klt,by omega,?_⟩
  apply yj <;> simp [Obj.leO,hif,hz1,hz2,hz3,hs2]
 have ek : k = x.Arrived.length:=by omega
 subst ek
 simp -dsimp -implicitDefEqProofs [yt]
 intro _
 refine ⟨by omega,by omega,by omega,by omega,?_⟩
 refine yg (ι:=Nat) (fun k=>k ≤ x.Passings.length) (fun k=>yO [(1,.box 1 0),(2,.box 2 0),(3,.box 3 0),(10,.c (.i k))] [(1,.box [.c (.i x.Time),.c (.sl 3 (x.Reaches.map Reach.enc)),.c (.sl 2 (x.Ways.map Way.enc)),.c (.sl 22 (x.Works.map Work.enc)),.c (.sl 1 (x.Movers.map yZ)),.c (.sl 2 (x.Arrived.map Train.enc)),.c (.sl 1 (x.Entered.map yJ)),.c (.i x.Tariff.Base),.c (.i x.Tariff.PerArea),.c (.sl 1 (x.Tariff.PerClass.map yJ)),.c (.sl 1 (x.Tariff.Weights.map yJ)),.c (.sl 5 (x.Book.map Entry.enc)),.c (.sl 4 (x.Passings.map Passing.enc)),.c (.i x.Start),.c (.i x.In),.c (.i x.Out)]),(2,.box [.c (.i 0),.nil 3,.nil 2,.nil 22,.nil 1,.nil 2,.nil 1,.c (.i 0),.c (.i 0),.nil 1,.nil 1,.nil 5,.nil 4,.c (.i 0),.c (.i 0),.c (.i 0)]),(3,.box [.c (.i x.Time),.own 13 3 x.Reaches.length,.own 33 2 x.Ways.length,.own 38 22 x.Works.length,.own 58 1 x.Movers.length,.own 96 2 x.Arrived.length,.own 116 1 x.Entered.length,.c (.i x.Tariff.Base),.c (.i x.Tariff.PerArea),.own 121 1 x.Tariff.PerClass.length,.own 128 1 x.Tariff.Weights.length,.own 135 5 x.Book.length,.own 140 4 k,.c (.i x.Start),.c (.i x.In),.c (.i x.Out)]),(13,.row 3 (x.Reaches.map Reach.enc)),(33,.row 2 (x.Ways.map Way.enc)),(38,.row 22 (x.Works.map Work.enc)),(58,Z),(96,.row 2 (x.Arrived.map Train.enc)),(116,.row 1 (x.Entered.map yJ)),(121,.row 1 (x.Tariff.PerClass.map yJ)),(128,.row 1 (x.Tariff.Weights.map yJ)),(135,.row 5 (x.Book.map Entry.enc)),(140,.row 4 ((x.Passings.take k).map Passing.enc))]) (fun k=>x.Passings.length - k) 0 (by simp) (by apply yj <;> simp [Obj.leO,hif,hz1,hz2,hz3]) ?_
 rintro k hk
 rcases Nat.lt_or_ge k x.Passings.length with klt | kge
 ·obtain ⟨e1,he⟩ : ∃ e1,x.Passings[k]? = some e1:=⟨_,List.getElem?_eq_getElem klt⟩
  have he2:=s9.2 e1 (List.mem_of_getElem? he)
  have g1:=(List.getElem?_eq_some_iff.1 he).2
  have hs2 : (x.Passings.map Passing.enc).take (k + 1) = (x.Passings.map Passing.enc).take k ++ [Passing.enc e1]:=by rw [List.take_succ,List.getElem?_map,he]; rfl
  simp -dsimp -implicitDefEqProofs [he,g1,klt,yG klt]
  intro hlen
  refine yS (ygX e1.Train he2) ?_
  simp -dsimp -implicitDefEqProofs [he,g1,klt,yG klt,yt,Nat.min_eq_left hk,yeh]
  refine ⟨by omega,yw klt hlen,k + 1,klt,by omega,?_⟩
  apply yj <;> simp [Obj.leO,hif,hz1,hz2,hz3,hs2]
 have ek : k = x.Passings.length:=by omega
 subst ek
 simp -dsimp -implicitDefEqProofs [yt]
 intro _
 subst hZ
 by_cases e : x.Movers.length = 0
 ·have e2 : x.Movers = []:=List.length_eq_zero_iff.1 e
  simp [Waterway.yAY,e2,yt]
 ·simp [Waterway.yAY,e,yt]
def yd0 {α : Type} (t : α → Nat) (xs : List α) : Nat:=xs.length + (xs.map t).sum
def ycz {α : Type} (f : α → Int → Int) (t : α → Nat) : Prop:=∀ x l,0 ≤ l → l ≤ 1048576 → 0 ≤ f x l → f x l + t x ≤ l
theorem yaV {a : Int} {f : Int → Int} (h : 0 ≤ ybm a f) : 0 ≤ a ∧ ybm a f = f a:=by
 rcases Int.lt_or_le a 0 with e | e
 ·rw [yK e] at h; omega
 ·exact ⟨e,yu e⟩
theorem yhx {α : Type} : ycz (fun (xs : List α) l=>szS xs.length l) (fun xs=>xs.length):=by
 intro xs l h0 h1 h
 simp only [szS] at h ⊢
 split at h
 ·omega
 ·rename_i h2; rw [if_neg h2]; omega
theorem yn7 {α : Type} {f : α → Int → Int} {t : α → Nat} (hf : ycz f t) : ∀ (xs : List α) (l : Int),0 ≤ l → l ≤ 1048576 → 0 ≤ yaw f xs l → yaw f xs l + ((xs.map t).sum : Nat) ≤ l
 | [],l,_,_,_=>by simp [yaw]
 | x :: xs,l,h0,h1,h=>by
  simp only [yaw] at h ⊢
  obtain ⟨p,e⟩:=yaV h
  rw [e] at h ⊢
  have h2:=hf x l h0 h1 p
  have h3:=yn7 hf xs (f x l) p (by omega) h
  simp only [List.map_cons,List.sum_cons,Int.natCast_add]; omega
theorem ye8 {α : Type} {f : α → Int → Int} {t : α → Nat} (hf : ycz f t) : ycz (yeE f) (yd0 t):=by
 intro xs l h0 h1 h
 unfold yeE at h ⊢
 obtain ⟨p,e⟩:=yaV h
 rw [e] at h ⊢
 have h2:=yhx xs l h0 h1 p
 have h3:=yn7 hf xs _ p (by simp only at h2 ⊢; omega) h
 unfold yd0
 simp only at h2
 omega
theorem ydt {α : Type} {n t : α → Nat} (h : ∀ x,n x ≤ 27 * (1 + t x)) : ∀ xs : List α,cnt n xs ≤ 27 * yd0 t xs
 | []=>by simp [cnt]
 | x :: xs=>by
  have h1:=ydt h xs
  have h2:=h x
  simp only [cnt,yd0,List.map_cons,List.sum_cons,List.length_cons] at h1 ⊢
  omega
def ydD (xs : List Int) : Nat:=xs.length
theorem ygx : ycz yhJ ydD:=yhx
def ykt (xs : List Entry) : Nat:=xs.length
theorem yqX : ycz ygY ykt:=yhx
def yju (xs : List Boat) : Nat:=xs.length
theorem ytl : ycz yex yju:=yhx
def yeT : List (List Boat) → Nat:=yd0 yju
theorem yqw : ycz yeb yeT:=ye8 ytl
theorem yxg (r : List Boat) : nB r ≤ 27 * (1 + yju r):=by unfold nB yju; omega
def yci (e : Train) : Nat:=yeT e.Rows
theorem yfQ : ycz yb2 yci:=by
 intro e l h0 h1 h
 unfold yb2 at h ⊢
 obtain ⟨p0,e0⟩:=yaV h
 rw [e0] at h ⊢
 have t0:=yqw e.Rows _ h0 h1 p0
 unfold yci
 omega
def yhw (xs : List Point) : Nat:=xs.length
theorem yrs : ycz yg2 yhw:=yhx
def yaZ (e : Reach) : Nat:=yhw e.Table + ydD e.Pipe
theorem ys5 : ycz ycy yaZ:=by
 intro e l h0 h1 h
 unfold ycy at h ⊢
 obtain ⟨p0,e0⟩:=yaV h
 rw [e0] at h ⊢
 have t0:=yrs e.Table _ h0 h1 p0
 obtain ⟨p1,e1⟩:=yaV h
 rw [e1] at h ⊢
 have t1:=ygx e.Pipe _ p0 (by omega) p1
 unfold yaZ
 omega
def ydQ : List Reach → Nat:=yd0 yaZ
theorem yqR : ycz yd8 ydQ:=ye8 ys5
theorem yum (e : Reach) : yay e ≤ 27 * (1 + yaZ e):=by
 have : yhw e.Table = e.Table.length:=rfl
 have : ydD e.Pipe = e.Pipe.length:=rfl
 simp only [yay,yaZ]
 omega
def yox (xs : List Way) : Nat:=xs.length
theorem yu8 : ycz yk3 yox:=yhx
def ykC (xs : List Pause) : Nat:=xs.length
theorem yqQ : ycz yhi ykC:=yhx
def yf0 : List Train → Nat:=yd0 yci
theorem yke : ycz ydk yf0:=ye8 yfQ
theorem ymK (e : Train) : yE e ≤ 27 * (1 + yci e):=by
 have:=ydt yxg e.Rows
 simp only [yE,yci,yeT]
 omega
def ylq (e : Lock) : Nat:=yf0 e.Inside
theorem yuX : ycz ygm ylq:=by
 intro e l h0 h1 h
 unfold ygm at h ⊢
 obtain ⟨p0,e0⟩:=yaV h
 rw [e0] at h ⊢
 have t0:=yke e.Inside _ h0 h1 p0
 unfold ylq
 omega
def yiS (e : CallT) : Nat:=yci e.Train
theorem ytP : ycz ydJ yiS:=by
 intro e l h0 h1 h
 unfold ydJ at h ⊢
 obtain ⟨p0,e0⟩:=yaV h
 rw [e0] at h ⊢
 have t0:=yfQ e.Train _ h0 h1 p0
 unfold yiS
 omega
def yl4 : List CallT → Nat:=yd0 yiS
theorem ytn : ycz yfd yl4:=ye8 ytP
theorem ywA (e : CallT) : yaI e ≤ 27 * (1 + yiS e):=by
 have:=ydt yxg e.Train.Rows
 simp only [yaI,yiS,yci,yeT]
 omega
def yg5 (e : Work) : Nat:=ylq e.Lock + ykC e.Pauses + yl4 e.Calls
theorem yus : ycz ycY yg5:=by
 intro e l h0 h1 h
 unfold ycY at h ⊢
 obtain ⟨p0,e0⟩:=yaV h
 rw [e0] at h ⊢
 have t0:=yuX e.Lock _ h0 h1 p0
 obtain ⟨p1,e1⟩:=yaV h
 rw [e1] at h ⊢
 have t1:=yqQ e.Pauses _ p0 (by omega) p1
 obtain ⟨p2,e2⟩:=yaV h
 rw [e2] at h ⊢
 have t2:=ytn e.Calls _ p1 (by omega) p2
 unfold yg5
 omega
def yeJ : List Work → Nat:=yd0 yg5
theorem ytv : ycz yfc yeJ:=ye8 yus
theorem yvC (e : Work) : yaJ e ≤ 27 * (1 + yg5 e):=by
 have:=ydt ymK e.Lock.Inside
 have : ykC e.Pauses = e.Pauses.length:=rfl
 have:=ydt ywA e.Calls
 simp only [yaJ,yg5,ylq,yf0,yl4]
 omega
def yhg (e : Mover) : Nat:=yci e.Train
theorem ysK : ycz ycV yhg:=by
 intro e l h0 h1 h
 unfold ycV at h ⊢
 obtain ⟨p0,e0⟩:=yaV h
 rw [e0] at h ⊢
 have t0:=yfQ e.Train _ h0 h1 p0
 unfold yhg
 omega
def ygb : List Mover → Nat:=yd0 yhg
theorem yq0 : ycz ycf ygb:=ye8 ysK
theorem nM_le (e : Mover) : nM e ≤ 27 * (1 + yhg e):=by
 have:=ydt yxg e.Train.Rows
 simp only [nM,yhg,yci,yeT]
 omega
def yiG : List (List Mover) → Nat:=yd0 ygb
theorem yow : ycz ydg yiG:=ye8 yq0
theorem ytr (r : List Mover) : yap r ≤ 27 * (1 + ygb r):=by have:=ydt nM_le r; unfold yap ygb; omega
def yhC (e : Tariff) : Nat:=ydD e.PerClass + ydD e.Weights
theorem yqO : ycz ydq yhC:=by
 intro e l h0 h1 h
 unfold ydq at h ⊢
 obtain ⟨p0,e0⟩:=yaV h
 rw [e0] at h ⊢
 have t0:=ygx e.PerClass _ h0 h1 p0
 obtain ⟨p1,e1⟩:=yaV h
 rw [e1] at h ⊢
 have t1:=ygx e.Weights _ p0 (by omega) p1
 unfold yhC
 omega
def ydZ (e : Passing) : Nat:=yci e.Train
theorem yoT : ycz ybM ydZ:=by
 intro e l h0 h1 h
 unfold ybM at h ⊢
 obtain ⟨p0,e0⟩:=yaV h
 rw [e0] at h ⊢
 have t0:=yfQ e.Train _ h0 h1 p0
 unfold ydZ
 omega
def yhy : List Passing → Nat:=yd0 ydZ
theorem ym7 : ycz ycH yhy:=ye8 yoT
theorem yrm (e : Passing) : yae e ≤ 27 * (1 + ydZ e):=by
 have:=ydt yxg e.Train.Rows
 simp only [yae,ydZ,yci,yeT]
 omega
def ycp (e : Waterway) : Nat:=ydQ e.Reaches + yox e.Ways + yeJ e.Works + yiG e.Movers + yf0 e.Arrived + ydD e.Entered + yhC e.Tariff + ykt e.Book + yhy e.Passings
theorem ynf : ycz yaX ycp:=by
 intro e l h0 h1 h
 unfold yaX at h ⊢
 obtain ⟨p0,e0⟩:=yaV h
 rw [e0] at h ⊢
 have t0:=yqR e.Reaches _ h0 h1 p0
 obtain ⟨p1,e1⟩:=yaV h
 rw [e1] at h ⊢
 have t1:=yu8 e.Ways _ p0 (by omega) p1
 obtain ⟨p2,e2⟩:=yaV h
 rw [e2] at h ⊢
 have t2:=ytv e.Works _ p1 (by omega) p2
 obtain ⟨p3,e3⟩:=yaV h
 rw [e3] at h ⊢
 have t3:=yow e.Movers _ p2 (by omega) p3
 obtain ⟨p4,e4⟩:=yaV h
 rw [e4] at h ⊢
 have t4:=yke e.Arrived _ p3 (by omega) p4
 obtain ⟨p5,e5⟩:=yaV h
 rw [e5] at h ⊢
 have t5:=ygx e.Entered _ p4 (by omega) p5
 obtain ⟨p6,e6⟩:=yaV h
 rw [e6] at h ⊢
 have t6:=yqO e.Tariff _ p5 (by omega) p6
 obtain ⟨p7,e7⟩:=yaV h
 rw [e7] at h ⊢
 have t7:=yqX e.Book _ p6 (by omega) p7
 obtain ⟨p8,e8⟩:=yaV h
 rw [e8] at h ⊢
 have t8:=ym7 e.Passings _ p7 (by omega) p8
 unfold ycp
 omega
def hsW (x : Waterway) : List H:=[.p (.i x.Time),.t 3 (x.Reaches.map Reach.yI),.w 2 (x.Ways.map Way.enc),.t 22 (x.Works.map Work.yI),.t 1 (x.Movers.map yax),.t 2 (x.Arrived.map Train.yI),.w 1 (x.Entered.map yJ),
 .p (.i x.Tariff.Base),.p (.i x.Tariff.PerArea),.w 1 (x.Tariff.PerClass.map yJ),.w 1 (x.Tariff.Weights.map yJ),.w 5 (x.Book.map Entry.enc),.t 4 (x.Passings.map Passing.yI),.p (.i x.Start),.p (.i x.In),.p (.i x.Out)]
def wm1 (x : Waterway) (k : Int) : Int:=k + cnt yay x.Reaches
def wm2 (x : Waterway) (k : Int) : Int:=wm1 x k + 2 * x.Ways.length
def wm3 (x : Waterway) (k : Int) : Int:=wm2 x k + cnt yaJ x.Works
def wm4 (x : Waterway) (k : Int) : Int:=wm3 x k + cnt yap x.Movers
def wm5 (x : Waterway) (k : Int) : Int:=wm4 x k + cnt yE x.Arrived
def wm6 (x : Waterway) (k : Int) : Int:=wm5 x k + x.Entered.length
def wm7 (x : Waterway) (k : Int) : Int:=wm6 x k + nT x.Tariff
def wm8 (x : Waterway) (k : Int) : Int:=wm7 x k + 5 * x.Book.length
def wm9 (x : Waterway) (k : Int) : Int:=wm8 x k + cnt yae x.Passings
def hsM (x : Waterway) (k : Int) : List H:=[.p (.i x.Time),.t 3 (yaA ycQ yay k x.Reaches),.w 2 (marked ydz 2 [] (wm1 x k) x.Ways.length),.t 22 (yaA ydH yaJ (wm2 x k) x.Works),.t 1 (yaA ycj yap (wm3 x k) x.Movers),.t 2 (yaA ybN yE (wm4 x k) x.Arrived),.w 1 (marked yJ 1 [] (wm5 x k) x.Entered.length),
 .p (.i x.Tariff.Base),.p (.i x.Tariff.PerArea),.w 1 (marked yJ 1 [] (wm6 x k) x.Tariff.PerClass.length),.w 1 (marked yJ 1 [] (wm6 x k + x.Tariff.PerClass.length) x.Tariff.Weights.length),.w 5 (marked yjL 5 [] (wm7 x k) x.Book.length),.t 4 (yaA ybL yae (wm8 x k) x.Passings),.p (.i x.Start),.p (.i x.In),.p (.i x.Out)]
theorem yhc {id k n : Nat} {mk : Int → List C} {c j : Int} {rows : List (List C)} (h : n = rows.length) : hv id k (marked mk c [] j n) = hv id k rows:=yy6 (by rw [yM,h])
theorem ylR {α : Type} {id k : Nat} {f : Int → α → List C} {n : α → Nat} {j : Int} {g : α → List C} {xs : List α} : hv id k (yaA f n j xs) = hv id k (xs.map g):=yy6 (by rw [yH,List.length_map])
structure WkB (x : Waterway) (k : Int) : Prop where
 b0 : 0 ≤ k
 b1 : k ≤ wm1 x k
 b2 : wm1 x k ≤ wm2 x k
 b3 : wm2 x k ≤ wm3 x k
 b4 : wm3 x k ≤ wm4 x k
 b5 : wm4 x k ≤ wm5 x k
 b6 : wm5 x k ≤ wm6 x k
 b7 : wm6 x k ≤ wm7 x k
 b8 : wm7 x k ≤ wm8 x k
 b9 : wm8 x k ≤ wm9 x k
theorem wkB (x : Waterway) {k : Int} (h : 0 ≤ k) : WkB x k:=by
 refine ⟨h,?_,?_,?_,?_,?_,?_,?_,?_,?_⟩ <;> simp only [wm1,wm2,wm3,wm4,wm5,wm6,wm7,wm8,wm9,nT] <;> omega
set_option maxRecDepth 20000 in
theorem yi8 (x : Waterway) (k : Int) (h0 : 0 ≤ k) (h1 : wm9 x k ≤ 4000000000000000000) :
 InF Tryz.prog 26 (.agg (((hsW x).map H.c).map .c)) (.agg (((hsM x k).map H.c).map .c)) [.c (.i k)] (.c (.i (wm9 x k))):=by
 obtain ⟨b0,b1,b2,b3,b4,b5,b6,b7,b8,b9⟩:=wkB x h0
 have e1 : wm1 x k = k + cnt yay x.Reaches:=rfl
 have e2 : wm2 x k = wm1 x k + 2 * x.Ways.length:=rfl
 have e3 : wm3 x k = wm2 x k + cnt yaJ x.Works:=rfl
 have e4 : wm4 x k = wm3 x k + cnt yap x.Movers:=rfl
 have e5 : wm5 x k = wm4 x k + cnt yE x.Arrived:=rfl
 have e6 : wm6 x k = wm5 x k + x.Entered.length:=rfl
 have e7 : wm7 x k = wm6 x k + nT x.Tariff:=rfl
 have e8 : wm8 x k = wm7 x k + 5 * x.Book.length:=rfl
 have e9 : wm9 x k = wm8 x k + cnt yae x.Passings:=rfl
 have m1:=yty x.Reaches k h0 (by omega)
 have m2:=yvz x.Ways (wm1 x k) (by omega) (by omega)
 have m3:=yvp x.Works (wm2 x k) (by omega) (by omega)
 have m4:=yq3 x.Movers (wm3 x k) (by omega) (by omega)
 have m5:=ylT x.Arrived (wm4 x k) (by omega) (by omega)
 have m6:=ycr x.Entered (wm5 x k) (by omega) (by omega)
 have m7:=ysc x.Tariff (wm6 x k) (by omega) (by omega)
 have m8:=ysZ x.Book (wm7 x k) (by omega) (by omega)
 have m9:=ypA x.Passings (wm8 x k) (by omega) (by omega)
 rw [← e1] at m1; rw [← e2] at m2; rw [← e3] at m3; rw [← e4] at m4; rw [← e5] at m5; rw [← e6] at m6; rw [← e7] at m7; rw [← e8] at m8; rw [← e9] at m9
 refine yEO yjR (by simp) (by simp [hsW,okH,H.ok]) rfl fun hwf=>?_
 simp -dsimp -implicitDefEqProofs [yfE,hsW]
 refine ygZ (ver:=0) m1 (by simp) (by simp [yH]) (by simp) rfl rfl ?_
 simp -dsimp -implicitDefEqProofs
 refine yl7 m2 (by simp) (by simp [yM]) (by simp) rfl rfl ?_
 simp -dsimp -implicitDefEqProofs
 refine ygZ (ver:=0) m3 (by simp) (by simp [yH]) (by simp) rfl rfl ?_
 simp -dsimp -implicitDefEqProofs
 refine ygZ (ver:=0) m4 (by simp) (by simp [yH]) (by simp) rfl rfl ?_
 simp -dsimp -implicitDefEqProofs
 refine ygZ (ver:=0) m5 (by simp) (by simp [yH]) (by simp) rfl rfl ?_
 simp -dsimp -implicitDefEqProofs
 refine yl7 m6 (by simp) (by simp [yM]) (by simp) rfl rfl ?_
 simp -dsimp -implicitDefEqProofs
 refine yzw m7 (by decide) rfl rfl (by simp) (by simp) (by simp [yM]) (by simp [yM]) (by simp) rfl rfl ?_
 simp -dsimp -implicitDefEqProofs
 refine yl7 m8 (by simp) (by simp [yM]) (by simp) rfl rfl ?_
 simp -dsimp -implicitDefEqProofs
 refine ygZ (ver:=0) m9 (by simp) (by simp [yH]) (by simp) rfl rfl ?_
 simp -dsimp -implicitDefEqProofs
 refine yDB ?_ ?_ ?_
 ·simp [hsM]
  exact ⟨ylR.symm,(yhc (by simp)).symm,ylR.symm,ylR.symm,ylR.symm,(yhc (by simp)).symm,(yhc (by simp)).symm,(yhc (by simp)).symm,(yhc (by simp)).symm,ylR.symm⟩
 ·simp [hsM,yxj,lieH]
  exact ⟨⟨1,rfl⟩,⟨1,rfl⟩,⟨1,rfl⟩,⟨1,rfl⟩,⟨1,rfl⟩⟩
 ·simp [yml]
def yAe (x : Waterway) (k : Int) : List C:=[.i x.Time,.sl 3 (yaA yfZ yay k x.Reaches),.sl 2 (marked ydz 2 [] (wm1 x k) x.Ways.length),.sl 22 (yaA yhn yaJ (wm2 x k) x.Works),.sl 1 (yaA yeX yap (wm3 x k) x.Movers),.sl 2 (yaA yfm yE (wm4 x k) x.Arrived),.sl 1 (marked yJ 1 [] (wm5 x k) x.Entered.length),
 .i x.Tariff.Base,.i x.Tariff.PerArea,.sl 1 (marked yJ 1 [] (wm6 x k) x.Tariff.PerClass.length),.sl 1 (marked yJ 1 [] (wm6 x k + x.Tariff.PerClass.length) x.Tariff.Weights.length),.sl 5 (marked yjL 5 [] (wm7 x k) x.Book.length),.sl 4 (yaA ydN yae (wm8 x k) x.Passings),.i x.Start,.i x.In,.i x.Out]
theorem ysr (e : Tariff) (b p : Int) (k : Int) (h0 : 0 ≤ k) (h1 : k + nT e ≤ 4000000000000000000) : yB Tryz.prog 75 [.agg [.c (.i b),.c (.i p),.c (.sl 1 (marked yJ 1 [] k e.PerClass.length)),.c (.sl 1 (marked yJ 1 [] (k + e.PerClass.length) e.Weights.length))],.c (.i k)] (.c (.i (k + nT e))):=by
 refine yh ykH ?_
 unfold nT at h1 ⊢
 simp -dsimp -implicitDefEqProofs
 refine yc (yh1 e.PerClass.length k h0 (by omega)) ?_
 have n1 : (k + (e.PerClass.length : Int) < 0) = False:=by simp; omega
 simp -dsimp -implicitDefEqProofs [n1]
 refine yc (yh1 e.Weights.length (k + e.PerClass.length) (by omega) (by omega)) ?_
 have n2 : (k + (e.PerClass.length : Int) + (e.Weights.length : Int) < 0) = False:=by simp; omega
 simp -dsimp -implicitDefEqProofs [n2]
 omega
set_option maxRecDepth 20000 in
theorem yp9 (x : Waterway) (k : Int) (h0 : 0 ≤ k) (h1 : wm9 x k ≤ 4000000000000000000) : yB Tryz.prog 27 [.agg ((yAe x k).map .c),.c (.i k)] (.c (.i (wm9 x k))):=by
 obtain ⟨b0,b1,b2,b3,b4,b5,b6,b7,b8,b9⟩:=wkB x h0
 have e1 : wm1 x k = k + cnt yay x.Reaches:=rfl
 have e2 : wm2 x k = wm1 x k + 2 * x.Ways.length:=rfl
 have e3 : wm3 x k = wm2 x k + cnt yaJ x.Works:=rfl
 have e4 : wm4 x k = wm3 x k + cnt yap x.Movers:=rfl
 have e5 : wm5 x k = wm4 x k + cnt yE x.Arrived:=rfl
 have e6 : wm6 x k = wm5 x k + x.Entered.length:=rfl
 have e7 : wm7 x k = wm6 x k + nT x.Tariff:=rfl
 have e8 : wm8 x k = wm7 x k + 5 * x.Book.length:=rfl
 have e9 : wm9 x k = wm8 x k + cnt yae x.Passings:=rfl
 have m1:=yr8 x.Reaches k h0 (by omega)
 have m2:=ywa x.Ways.length (wm1 x k) (by omega) (by omega)
 have m3:=ytK x.Works (wm2 x k) (by omega) (by omega)
 have m4:=yqF x.Movers (wm3 x k) (by omega) (by omega)
 have m5:=ylK x.Arrived (wm4 x k) (by omega) (by omega)
 have m6:=yh1 x.Entered.length (wm5 x k) (by omega) (by omega)
 have m7:=ysr x.Tariff x.Tariff.Base x.Tariff.PerArea (wm6 x k) (by omega) (by omega)
 have m8:=ysf x.Book.length (wm7 x k) (by omega) (by omega)
 have m9:=yol x.Passings (wm8 x k) (by omega) (by omega)
 rw [← e1] at m1; rw [← e2] at m2; rw [← e3] at m3; rw [← e4] at m4; rw [← e5] at m5; rw [← e6] at m6; rw [← e7] at m7; rw [← e8] at m8; rw [← e9] at m9
 have n1 : (wm1 x k < 0) = False:=by simp; omega
 have n2 : (wm2 x k < 0) = False:=by simp; omega
 have n3 : (wm3 x k < 0) = False:=by simp; omega
 have n4 : (wm4 x k < 0) = False:=by simp; omega
 have n5 : (wm5 x k < 0) = False:=by simp; omega
 have n6 : (wm6 x k < 0) = False:=by simp; omega
 have n7 : (wm7 x k < 0) = False:=by simp; omega
 have n8 : (wm8 x k < 0) = False:=by simp; omega
 have n9 : (wm9 x k < 0) = False:=by simp; omega
 clear e1 e2 e3 e4 e5 e6 e7 e8 e9
 unfold yAe
 refine yh yjM ?_
 simp -dsimp -implicitDefEqProofs
 refine yc m1 ?_
 simp -dsimp -implicitDefEqProofs [n1]
 refine yc m2 ?_
 simp -dsimp -implicitDefEqProofs [n2]
 refine yc m3 ?_
 simp -dsimp -implicitDefEqProofs [n3]
 refine yc m4 ?_
 simp -dsimp -implicitDefEqProofs [n4]
 refine yc m5 ?_
 simp -dsimp -implicitDefEqProofs [n5]
 refine yc m6 ?_
 simp -dsimp -implicitDefEqProofs [n6]
 refine yc m7 ?_
 simp -dsimp -implicitDefEqProofs [n7]
 refine yc m8 ?_
 simp -dsimp -implicitDefEqProofs [n8]
 refine yc m9 ?_
 simp -dsimp -implicitDefEqProofs [n9]
theorem yAl (x : Waterway) (k : Int) : wm9 x k ≤ k + 27 * (ycp x : Int):=by
 have a1:=ydt yum x.Reaches
 have a2:=ydt yvC x.Works
 have a3:=ydt ytr x.Movers
 have a4:=ydt ymK x.Arrived
 have a5:=ydt yrm x.Passings
 have b1 : ydQ x.Reaches = yd0 yaZ x.Reaches:=rfl
 have b2 : yeJ x.Works = yd0 yg5 x.Works:=rfl
 have b3 : yiG x.Movers = yd0 ygb x.Movers:=rfl
 have b4 : yf0 x.Arrived = yd0 yci x.Arrived:=rfl
 have b5 : yhy x.Passings = yd0 ydZ x.Passings:=rfl
 have c1 : yox x.Ways = x.Ways.length:=rfl
 have c2 : ydD x.Entered = x.Entered.length:=rfl
 have c3 : ykt x.Book = x.Book.length:=rfl
 have c4 : ydD x.Tariff.PerClass = x.Tariff.PerClass.length:=rfl
 have c5 : ydD x.Tariff.Weights = x.Tariff.Weights.length:=rfl
 simp only [wm1,wm2,wm3,wm4,wm5,wm6,wm7,wm8,wm9,nT,ycp,yhC]
 omega
theorem yrQ {α : Type} {f : Int → α → List C} {n : α → Nat} {k : Int} {xs : List α} : (yaA f n k xs).take xs.length = yaA f n k xs:=List.take_of_length_le (by rw [yH]; exact Nat.le_refl _)
theorem yO3 (m : Int) (h0 : 0 ≤ m) (h1 : m ≤ 2097152) : ybh Tryz.prog 173 [.nil 1,.c (.i m)] (.c (.ow 1 [])):=by
 refine yan yOA ?_
 simp -dsimp -implicitDefEqProofs
 exact ⟨h0,fun _=>⟨by unfold inI; omega,by unfold inI; omega,fun h=>⟨h0,by omega,by omega⟩⟩⟩
def yO7 (a b : Nat) (k : Nat) : Int:=if k = 0 then 0 else if k = 1 then a else a + b
def yO6 (a b : List Int) (k : Nat) : List Int:=if k = 0 then [] else if k = 1 then a else a ++ b
theorem yOW (a b : List Int) (ha : a.length ≤ 1048576) (hb : b.length ≤ 1048576) :
 ybh Tryz.prog 95 [.c (.sl 1 [[.sl 1 (a.map yJ)],[.sl 1 (b.map yJ)]])] (.c (.ow 1 ((a ++ b).map yJ))):=by
 refine yan yOx ?_
 simp -dsimp -implicitDefEqProofs
 refine fun _=>yg (ι:=Nat) (fun k=>k ≤ 2) (fun k=>yO [(0,.c (.sl 1 [[.sl 1 (a.map yJ)],[.sl 1 (b.map yJ)]])),(3,.c (.i (yO7 a.length b.length k))),(9,.c (.sl 1 [[.sl 1 (a.map yJ)],[.sl 1 (b.map yJ)]])),(10,.c (.i 2)),(11,.c (.i k))] []) (fun k=>2 - k) 0 (by simp) (by apply yj <;> simp [yO7]) ?_
 intro k hk
 obtain rfl | rfl | rfl : k = 0 ∨ k = 1 ∨ k = 2:=by omega
 ·simp -dsimp -implicitDefEqProofs [yO7]
  refine fun _=>⟨by unfold inI; omega,by unfold inI; omega,1,by omega,by omega,?_⟩
  apply yj <;> simp
 ·simp -dsimp -implicitDefEqProofs [yO7]
  refine fun _=>⟨by unfold inI; omega,by omega,fun _=>⟨by unfold inI; omega,2,by omega,by omega,?_⟩⟩
  apply yj <;> simp
 ·simp -dsimp -implicitDefEqProofs [yO7]
  first
   | refine yQ (yO3 (a.length + b.length) (by omega) (by omega)) (by simp ) (by simp [AV.closed,AV.ya7,C.closed]) (by simp [yU]) ?_
   | refine yfW (yO3 (a.length + b.length) (by omega) (by omega)) (by simp ) (by simp [AV.closed,AV.ya7,C.closed]) (by simp [yU]) ?_
  simp -dsimp -implicitDefEqProofs
  refine fun _=>yg (ι:=Nat) (fun k=>k ≤ 2) (fun k=>yO [(6,.own 24 1 (yO6 a b k).length),(25,.c (.sl 1 [[.sl 1 (a.map yJ)],[.sl 1 (b.map yJ)]])),(26,.c (.i 2)),(27,.c (.i k))] [(24,.row 1 ((yO6 a b k).map yJ))]) (fun k=>2 - k) 0 (by simp) (by apply yj <;> simp [yO6]) ?_
  intro k hk
  obtain rfl | rfl | rfl : k = 0 ∨ k = 1 ∨ k = 2:=by omega
  ·simp -dsimp -implicitDefEqProofs [yO6]
   refine ⟨by omega,by unfold inI; omega,1,by omega,by omega,?_⟩
   apply yj <;> simp
  ·simp -dsimp -implicitDefEqProofs [yO6]
   refine ⟨by omega,by unfold inI; omega,2,by omega,by omega,?_⟩
   apply yj <;> simp
  ·simp -dsimp -implicitDefEqProofs [yO6]
   rw [List.take_of_length_le (by simp)]
theorem yO5 (es : List (List Mover)) (hl : es.length ≤ 1048576) : ybh Tryz.prog 171 [.c (.sl 1 (es.map yZ))] (.c (.ot 1 (es.map yZ))):=by
 refine yan yOo ?_
 simp -dsimp -implicitDefEqProofs [yOm,yt]
 omega
theorem yO9 (es : List Mover) : yB Tryz.prog 172 [.c (.sl 3 (es.map Mover.enc))] (.clip 3 (es.map Mover.enc)):=by
 refine yh yOp ?_
 simp -dsimp -implicitDefEqProofs [yOn,yt]
def yOq (x : Waterway) (k : Nat) (m : Mover) : Waterway:={ x with Movers:=x.Movers.set k (x.Movers.getD k [] ++ [m]) }
def yOr (x : Waterway) (k : Nat) (m : Mover) : List C:=[.i x.Time,.sl 3 (x.Reaches.map Reach.enc),.sl 2 (x.Ways.map Way.enc),.sl 22 (x.Works.map Work.enc),.ot 1 ((x.Movers.map yZ).set k [.ow 3 ((x.Movers.getD k [] ++ [m]).map Mover.enc)]),.sl 2 (x.Arrived.map Train.enc),.sl 1 (x.Entered.map yJ),.i x.Tariff.Base,.i x.Tariff.PerArea,.sl 1 (x.Tariff.PerClass.map yJ),.sl 1 (x.Tariff.Weights.map yJ),.sl 5 (x.Book.map Entry.enc),.sl 4 (x.Passings.map Passing.enc),.i x.Start,.i x.In,.i x.Out]
set_option maxRecDepth 20000 in
theorem yO0 (x : Waterway) (k : Nat) (l : List Mover) (m : Mover) (hs : x.Movers.length ≤ 1048576) (hk : x.Movers[k]? = some l) (hll : l.length ≤ 1048576) :
 ybh Tryz.prog 94 [.agg (x.enc.map .c),.c (.i k),.agg (m.enc.map .c)] (.agg ((yOr x k m).map .c)):=by
 have kl:=(List.getElem?_eq_some_iff.1 hk).1
 have gl:=(List.getElem?_eq_some_iff.1 hk).2
 refine yan yOP ?_
 simp -dsimp -implicitDefEqProofs
 refine yjo (yO5 x.Movers hs) (by simp) rfl (by simp [yU]) ?_
 simp -dsimp -implicitDefEqProofs [yt,hk,gl,kl,yG kl]
 refine yY (yO9 l) ?_
 simp -dsimp -implicitDefEqProofs [yt,hk,gl,kl,yG kl,yOr]
 refine ⟨by omega,?_⟩
 have e1 : ∀ y : List C,List.take (l.length + 1) (List.map Mover.enc l ++ [y]) = List.map Mover.enc l ++ [y]:=fun y=>List.take_of_length_le (by simp)
 have e2 : ∀ y : List C,List.take x.Movers.length ((List.map yZ x.Movers).set k y) = (List.map yZ x.Movers).set k y:=fun y=>List.take_of_length_le (by simp)
 simp [setAt,hk,gl,kl,yZ,e1,e2]
theorem yOT (xs : List (List Mover)) : ykv (xs.map yZ) = some (xs.map yZ):=by
 induction xs with
 | nil=>rfl
 | cons a xs ih=>rw [List.map_cons]; simp only [ykv,ih]; rfl
theorem yO1 {rows rs : List (List C)} {r s : List C} (h : ykv rows = some rs) (hr : ybQ r = some s) (k : Nat) : ykv (rows.set k r) = some (rs.set k s):=by
 induction rows generalizing rs k with
 | nil=>simp only [ykv,Option.some.injEq] at h; subst h; rfl
 | cons a l ih =>
  simp only [ykv] at h
  cases ha : ybQ a with
  | none=>rw [ha] at h; cases h
  | some x =>
   cases hl : ykv l with
   | none=>rw [ha,hl] at h; cases h
   | some y =>
    rw [ha,hl] at h
    simp only [Option.some.injEq] at h
    subst h
    cases k with
    | zero=>simp only [List.set_cons_zero,ykv,hr,hl]
    | succ k=>simp only [List.set_cons_succ,ykv,ha,ih hl k]
theorem yOU (x : Waterway) (k : Nat) (m : Mover) : ykv ((x.Movers.map yZ).set k [.ow 3 ((x.Movers.getD k [] ++ [m]).map Mover.enc)]) = some ((yOq x k m).Movers.map yZ):=by
 rw [yO1 (yOT x.Movers) (s:=yZ (x.Movers.getD k [] ++ [m])) rfl k]
 simp [yOq,List.map_set]
def yOI (x : Waterway) (t : Train) : Nat:=if t.Up then x.Reaches.length - 1 else 0
def yOM (x : Waterway) (t : Train) : Int:=if t.Up then (x.Ways.getD (x.Reaches.length - 1) ⟨0,0⟩).Long else 0
def yOl (x : Waterway) (t : Train) : Waterway:={ yOq x (yOI x t) ⟨t,yOM x t⟩ with Entered:=x.Entered ++ yaY t }
def yOs (x : Waterway) (i : Int) : Bool:=!decide (i ∈ x.Entered)
def yOk (x : Waterway) (t : Train) : Waterway × Bool:=if yar x && yP t && (yaY t).all (yOs x) && yar (yOl x t) then (yOl x t,true) else (x,false)
structure EntFacts (x : Waterway) (t : Train) : Prop where
 two : 2 ≤ x.Reaches.length
 ways : x.Ways.length = x.Reaches.length
 mvs : x.Movers.length = x.Reaches.length
 few : ∀ (k : Nat) (l : List Mover),x.Movers[k]? = some l → l.length ≤ 24
 ent : x.Entered.length ≤ 2000
 ids : (yaY t).length ≤ 6
 kl : yOI x t < x.Movers.length
theorem yOO {x : Waterway} {t : Train} (h : yar x = true) (ht : yP t = true) : EntFacts x t:=by
 have hh:=h
 simp only [yar,Bool.and_eq_true] at h
 obtain ⟨⟨⟨⟨⟨⟨⟨h1,h2⟩,h3⟩,h4⟩,h5⟩,h6⟩,h7⟩,h8⟩:=h
 simp only [ybi,Bool.and_eq_true,decide_eq_true_eq] at h2
 obtain ⟨⟨⟨⟨⟨⟨p1,p2⟩,p3⟩,p4⟩,p5⟩,p6⟩,p7⟩:=h2
 refine ⟨p2,p3,p4,fun k l hk=>?_,?_,?_,?_⟩
 ·have kl:=(List.getElem?_eq_some_iff.1 hk).1
  have gl:=(List.getElem?_eq_some_iff.1 hk).2
  have:=List.all_eq_true.1 p6 (x.Ways[k]'(by omega),l) (List.mem_iff_getElem.2 ⟨k,by simp; omega,by simp [gl]⟩)
  simp only [yb8,Bool.and_eq_true,decide_eq_true_eq] at this
  exact this.1.2
 ·simp only [ybW,Bool.and_eq_true,decide_eq_true_eq] at h3
  omega
 ·simp only [yaY,ht,if_true]
  simp only [yP,Bool.and_eq_true,inRange,decide_eq_true_eq] at ht
  simp; omega
 ·unfold yOI; split <;> omega
theorem yOJ {x : Waterway} {t : Train} (F : EntFacts x t) (h : x.small) (ht : t.small) : (yOl x t).small:=by
 obtain ⟨s1,s2,s3,s4,s5,s6,s7,s8,s9⟩:=h
 have kl:=F.kl
 obtain ⟨l,hl⟩ : ∃ l,x.Movers[yOI x t]? = some l:=⟨_,List.getElem?_eq_getElem kl⟩
 have hll:=F.few _ _ hl
 refine ⟨s1,s2,s3,⟨by simp [yOl,yOq]; exact s4.1,fun y hy=>?_⟩,s5,⟨by simp [yOl]; have:=F.ent; have:=F.ids; omega,fun y hy=>trivial⟩,s7,s8,s9⟩
 have hlm:=List.mem_of_getElem? hl
 rcases List.mem_or_eq_of_mem_set hy with e | e
 ·exact s4.2 y e
 ·subst e
  rw [List.getD_eq_getElem?_getD,hl]
  refine ⟨by simp; omega,fun m hm=>?_⟩
  rcases List.mem_append.1 hm with e | e
  ·exact (s4.2 l hlm).2 m e
  ·rw [List.mem_singleton.1 e]; exact ht
theorem yOy (x : Waterway) (t : Train) : (yOl x t).enc = [.i x.Time,.sl 3 (x.Reaches.map Reach.enc),.sl 2 (x.Ways.map Way.enc),.sl 22 (x.Works.map Work.enc),.sl 1 ((yOq x (yOI x t) ⟨t,yOM x t⟩).Movers.map yZ),.sl 2 (x.Arrived.map Train.enc),.sl 1 ((x.Entered ++ yaY t).map yJ),.i x.Tariff.Base,.i x.Tariff.PerArea,.sl 1 (x.Tariff.PerClass.map yJ),.sl 1 (x.Tariff.Weights.map yJ),.sl 5 (x.Book.map Entry.enc),.sl 4 (x.Passings.map Passing.enc),.i x.Start,.i x.In,.i x.Out]:=rfl
theorem yOu (x : Waterway) (K : Nat) (t : Train) (p : Int) : ykv ((x.Movers.map yZ).set K [.ow 3 ((x.Movers[K]?.getD []).map Mover.enc ++ [[.b t.Up,.sl 1 (t.Rows.map yai),.i p]])]) = some ((yOq x K ⟨t,p⟩).Movers.map yZ):=by
 rw [← yOU]
 simp [Mover.enc,List.getD_eq_getElem?_getD,Train.enc]
theorem yOS (x : Waterway) (K : Nat) (y : List C) : List.take x.Movers.length ((x.Movers.map yZ).set K y) = (x.Movers.map yZ).set K y:=List.take_of_length_le (by simp)
theorem yOv (a b : List Int) : List.take (a.length + b.length) (a.map yJ ++ b.map yJ) = a.map yJ ++ b.map yJ:=List.take_of_length_le (by simp)
theorem yO4 (l : List Int) : AV.closed (.c (.ow 1 (l.map yJ))):=by simp [AV.closed,AV.ya7,C.closed]
set_option maxRecDepth 20000 in
theorem yOR (x : Waterway) (t : Train) (hs : x.small) (ht : t.small) :
 ybh Tryz.prog 33 [.agg (x.enc.map .c),.agg (t.enc.map .c)] (.tup [.agg ((yOk x t).1.yI.map .c),.c (.b (yOk x t).2)]):=by
 have hW:=yns x hs
 have hC:=ypi x hs
 have hT:=ydp t ht
 have hI:=yuz t ht
 have no1 : yar x = false → yOk x t = (x,false):=fun h=>by simp [yOk,h]
 have no2 : yP t = false → yOk x t = (x,false):=fun h=>by simp [yOk,h]
 refine yan yON ?_
 simp -dsimp -implicitDefEqProofs
 refine yaQ (hW) (by simp -dsimp -implicitDefEqProofs) rfl ?_
 cases hok : yar x with
 | false =>
  rw [no1 hok]
  simp -dsimp -implicitDefEqProofs
  refine yQ hC (by simp -dsimp -implicitDefEqProofs) (yb5 (Waterway.yad x)) (by simp [yU]) ?_
  simp -dsimp -implicitDefEqProofs [yt]
  refine yfg ?_
  simp -dsimp -implicitDefEqProofs [yt]
 | true =>
 simp -dsimp -implicitDefEqProofs
 refine yaQ (hT) (by simp -dsimp -implicitDefEqProofs) rfl ?_
 cases htk : yP t with
 | false =>
  rw [no2 htk]
  simp -dsimp -implicitDefEqProofs
  refine yQ hC (by simp -dsimp -implicitDefEqProofs) (yb5 (Waterway.yad x)) (by simp [yU]) ?_
  simp -dsimp -implicitDefEqProofs [yt]
  refine yfg ?_
  simp -dsimp -implicitDefEqProofs [yt]
 | true =>
 have F:=yOO hok htk
 simp -dsimp -implicitDefEqProofs
 refine yaP (hI) (by simp -dsimp -implicitDefEqProofs) rfl ?_
 have no3 : (yaY t).all (yOs x) = false → yOk x t = (x,false):=fun h=>by simp only [yOk,h,Bool.and_false,Bool.false_and]; rfl
 simp -dsimp -implicitDefEqProofs
 intro hlen
 refine yg (ι:=Nat) (fun k=>k ≤ (yaY t).length ∧ ∀ i ∈ (yaY t).take k,yOs x i = true) (fun k=>yO [(2,.box 2 0),(3,.box 3 0),(4,.box 4 0),(5,.c (.b false)),(6,.c (.sl 1 ((yaY t).map yJ))),(24,.c (.sl 1 ((yaY t).map yJ))),(25,.c (.i (yaY t).length)),(26,.c (.i k))] [(2,.box [.c (.i x.Time),.c (.sl 3 (x.Reaches.map Reach.enc)),.c (.sl 2 (x.Ways.map Way.enc)),.c (.sl 22 (x.Works.map Work.enc)),.c (.sl 1 (x.Movers.map yZ)),.c (.sl 2 (x.Arrived.map Train.enc)),.c (.sl 1 (x.Entered.map yJ)),.c (.i x.Tariff.Base),.c (.i x.Tariff.PerArea),.c (.sl 1 (x.Tariff.PerClass.map yJ)),.c (.sl 1 (x.Tariff.Weights.map yJ)),.c (.sl 5 (x.Book.map Entry.enc)),.c (.sl 4 (x.Passings.map Passing.enc)),.c (.i x.Start),.c (.i x.In),.c (.i x.Out)]),(3,.box [.c (.b t.Up),.c (.sl 1 (t.Rows.map yai))]),(4,.box [.c (.i 0),.nil 3,.nil 2,.nil 22,.nil 1,.nil 2,.nil 1,.c (.i 0),.c (.i 0),.nil 1,.nil 1,.nil 5,.nil 4,.c (.i 0),.c (.i 0),.c (.i 0)])]) (fun k=>(yaY t).length - k) 0 (by simp) (by apply yj <;> simp) ?_
 rintro k ⟨hk,hall⟩
 rcases Nat.lt_or_ge k (yaY t).length with klt | kge
 ·obtain ⟨i,hi⟩ : ∃ i,(yaY t)[k]? = some i:=⟨_,List.getElem?_eq_getElem klt⟩
  have g1:=(List.getElem?_eq_some_iff.1 hi).2
  simp -dsimp -implicitDefEqProofs [hi,g1,klt,yG klt]
  refine yaQ (ypJ x.Entered i) (by simp -dsimp -implicitDefEqProofs) rfl ?_
  cases hin : decide (i ∈ x.Entered) with
  | true =>
   rw [no3 (all_false (p:=yOs x) hi (by simp only [yOs,hin]; rfl))]
   simp -dsimp -implicitDefEqProofs
   refine yQ hC (by simp -dsimp -implicitDefEqProofs) (yb5 (Waterway.yad x)) (by simp [yU]) ?_
   simp -dsimp -implicitDefEqProofs [yt]
   refine yfg ?_
   simp -dsimp -implicitDefEqProofs [yt]
  | false =>
   have hall':=yL (p:=yOs x) hi hall (by simp only [yOs,hin]; rfl)
   simp -dsimp -implicitDefEqProofs
   refine ⟨yw klt hlen,k + 1,⟨klt,hall'⟩,by omega,?_⟩
   apply yj <;> simp
 have hall2 : (yaY t).all (yOs x) = true:=yX (p:=yOs x) kge hall
 have hes:=yOJ F hs ht
 have hV:=yns (yOl x t) hes
 have hC2:=ypi (yOl x t) hes
 rw [yOy] at hV hC2
 have no4 : yar (yOl x t) = false → yOk x t = (x,false):=fun h=>by simp only [yOk,h,Bool.and_false]; rfl
 have yes : yar (yOl x t) = true → yOk x t = (yOl x t,true):=fun h=>by simp only [yOk,hok,htk,hall2,h,Bool.and_true,if_true]
 have kl:=F.kl
 obtain ⟨l,hl⟩ : ∃ l,x.Movers[yOI x t]? = some l:=⟨_,List.getElem?_eq_getElem kl⟩
 have hll:=F.few _ _ hl
 have f1:=F.two
 have f2:=F.ways
 have f3:=F.mvs
 have f4:=F.ent
 have f5:=F.ids
 have s41:=hs.2.2.2.1.1
 have hM:=yO0 x (yOI x t) l ⟨t,yOM x t⟩ s41 hl (by omega)
 simp -dsimp -implicitDefEqProofs [yaB kge]
 cases hup : t.Up with
 | true =>
  obtain ⟨w,hw⟩ : ∃ w,x.Ways[x.Reaches.length - 1]? = some w:=⟨_,List.getElem?_eq_getElem (by omega)⟩
  have ek : yOI x t = x.Reaches.length - 1:=by simp [yOI,hup]
  have ep : yOM x t = w.Long:=by simp [yOM,hup,hw]
  rw [ek,ep] at hM hV hC2
  rw [show ((x.Reaches.length - 1 : Nat) : Int) = (x.Reaches.length : Int) - 1 from by omega] at hM
  simp -dsimp -implicitDefEqProofs [hw,hup]
  refine fun _=>⟨by unfold inI; omega,by omega,by omega,?_⟩
  try simp only [hup] at hM hV hC2
  refine yjo hM (by simp -dsimp -implicitDefEqProofs [hup]) rfl (by simp [yU,yOr]) ?_
  simp -dsimp -implicitDefEqProofs [yOr]
  refine yQ (yOW x.Entered (yaY t) (by omega) (by omega)) (by simp -dsimp -implicitDefEqProofs) (yO4 _) (by simp [yU]) ?_
  simp -dsimp -implicitDefEqProofs [yt]
  refine yaQ (hV) (by simp -dsimp -implicitDefEqProofs [yt,yOu,yOS,yOv]) rfl ?_
  cases hv : yar (yOl x t) with
  | false =>
   rw [no4 hv]
   simp -dsimp -implicitDefEqProofs
   refine yQ hC (by simp -dsimp -implicitDefEqProofs) (yb5 (Waterway.yad x)) (by simp [yU]) ?_
   simp -dsimp -implicitDefEqProofs [yt]
   refine yfg ?_
   simp -dsimp -implicitDefEqProofs [yt]
  | true =>
   rw [yes hv]
   simp -dsimp -implicitDefEqProofs
   refine yQ hC2 (by simp -dsimp -implicitDefEqProofs [yt,yOu,yOS,yOv]) (yb5 (Waterway.yad (yOl x t))) (by simp [yU]) ?_
   simp -dsimp -implicitDefEqProofs [yt]
   refine yfg ?_
   simp -dsimp -implicitDefEqProofs [yt]
 | false =>
  have ek : yOI x t = 0:=by simp [yOI,hup]
  have ep : yOM x t = 0:=by simp [yOM,hup]
  rw [ek,ep] at hM hV hC2
  simp -dsimp -implicitDefEqProofs [hup]
  refine yjo hM (by simp -dsimp -implicitDefEqProofs [hup]) rfl (by simp [yU,yOr]) ?_
  simp -dsimp -implicitDefEqProofs [yOr]
  refine yQ (yOW x.Entered (yaY t) (by omega) (by omega)) (by simp -dsimp -implicitDefEqProofs) (yO4 _) (by simp [yU]) ?_
  simp -dsimp -implicitDefEqProofs [yt]
  refine yaQ (hV) (by simp -dsimp -implicitDefEqProofs [yt,yOu,yOS,yOv]) rfl ?_
  cases hv : yar (yOl x t) with
  | false =>
   rw [no4 hv]
   simp -dsimp -implicitDefEqProofs
   refine yQ hC (by simp -dsimp -implicitDefEqProofs) (yb5 (Waterway.yad x)) (by simp [yU]) ?_
   simp -dsimp -implicitDefEqProofs [yt]
   refine yfg ?_
   simp -dsimp -implicitDefEqProofs [yt]
  | true =>
   rw [yes hv]
   simp -dsimp -implicitDefEqProofs
   refine yQ hC2 (by simp -dsimp -implicitDefEqProofs [yt,yOu,yOS,yOv]) (yb5 (Waterway.yad (yOl x t))) (by simp [yU]) ?_
   simp -dsimp -implicitDefEqProofs [yt]
   refine yfg ?_
   simp -dsimp -implicitDefEqProofs [yt]
theorem yOY {x : Waterway} {K : Nat} {l : List Mover} {t : Train} {p : Int} (hl : x.Movers[K]? = some l) : ykv (List.take x.Movers.length (setAt (setAt (x.Movers.map em) K 0 C.jk) K 0 (.ow 3 (List.take (l.length + 1) (l.map Mover.enc ++ [[.b t.Up,.sl 1 (t.Rows.map yai),.i p]]))))) = some ((yOq x K ⟨t,p⟩).Movers.map yZ):=by
 have kl:=(List.getElem?_eq_some_iff.1 hl).1
 have gl:=(List.getElem?_eq_some_iff.1 hl).2
 have e1 : List.take (l.length + 1) (l.map Mover.enc ++ [[.b t.Up,.sl 1 (t.Rows.map yai),.i p]]) = (l ++ [(⟨t,p⟩ : Mover)]).map Mover.enc:=by
  rw [List.take_of_length_le (by simp)]; simp [Mover.enc,Train.enc]
 rw [e1]
 have e2 : ∀ c : C,setAt (setAt (x.Movers.map em) K 0 C.jk) K 0 c = (x.Movers.map em).set K [c]:=by
  intro c; simp [setAt,hl,gl,kl,em]
 rw [e2,List.take_of_length_le (by simp),yO1 (yag ywd x.Movers) (s:=yZ (l ++ [(⟨t,p⟩ : Mover)])) rfl K]
 simp [yOq,List.map_set,hl]
set_option maxRecDepth 20000 in
theorem yOQ (x : Waterway) (t : Train) (hs : x.small) (ht : t.small) :
 yB Tryz.prog 30 [.agg (x.enc.map .c),.agg (t.enc.map .c)] (.tup [.agg ((yOk x t).1.enc.map .c),.c (.b (yOk x t).2)]):=by
 have hco:=yxC x hs
 have hco2:=hco
 simp only [Waterway.yAY] at hco
 have no1 : yar x = false → yOk x t = (x,false):=fun h=>by simp [yOk,h]
 have no2 : yP t = false → yOk x t = (x,false):=fun h=>by simp [yOk,h]
 have no3 : (yaY t).all (yOs x) = false → yOk x t = (x,false):=fun h=>by simp only [yOk,h,Bool.and_false,Bool.false_and]; rfl
 refine yh yOL ?_
 simp -dsimp -implicitDefEqProofs
 refine yjo hco (by simp) rfl (by simp [yU,em]) ?_
 simp -dsimp -implicitDefEqProofs [yt]
 refine yaQ (ym6 x hs) (by simp -dsimp -implicitDefEqProofs) rfl ?_
 cases hok : yar x with
 | false=>rw [no1 hok]; simp -dsimp -implicitDefEqProofs [yt,yag ywd]
 | true =>
 simp -dsimp -implicitDefEqProofs
 refine yaQ (yds t ht) (by simp -dsimp -implicitDefEqProofs) rfl ?_
 cases htk : yP t with
 | false=>rw [no2 htk]; simp -dsimp -implicitDefEqProofs [yt,yag ywd]
 | true =>
 have F:=yOO hok htk
 simp -dsimp -implicitDefEqProofs
 refine yaP (yvW t ht) (by simp -dsimp -implicitDefEqProofs) rfl ?_
 simp -dsimp -implicitDefEqProofs
 refine yg (ι:=Nat) (fun k=>k ≤ (yaY t).length ∧ ∀ i ∈ (yaY t).take k,yOs x i = true) (fun k=>yO [(2,.box 2 0),(3,.box 3 0),(4,.box 4 0),(5,.c (.b false)),(6,.box 6 0),(7,.c (.sl 1 ((yaY t).map yJ))),(8,.c (.i k))] [(2,.box (x.enc.map .c)),(3,.box (t.enc.map .c)),(4,.box [.c (.i 0),.nil 3,.nil 2,.nil 22,.nil 1,.nil 2,.nil 1,.c (.i 0),.c (.i 0),.nil 1,.nil 1,.nil 5,.nil 4,.c (.i 0),.c (.i 0),.c (.i 0)]),(6,.box [.c (.i x.Time),.own 20012 3 x.Reaches.length,.own 30012 2 x.Ways.length,.own 40012 22 x.Works.length,.own 50012 1 x.Movers.length,.own 60012 2 x.Arrived.length,.own 70012 1 x.Entered.length,.c (.i x.Tariff.Base),.c (.i x.Tariff.PerArea),.own 100012 1 x.Tariff.PerClass.length,.own 110012 1 x.Tariff.Weights.length,.own 120012 5 x.Book.length,.own 130012 4 x.Passings.length,.c (.i x.Start),.c (.i x.In),.c (.i x.Out)]),(20012,.row 3 (x.Reaches.map Reach.enc)),(40012,.row 22 (x.Works.map Work.enc)),(30012,.row 2 (x.Ways.map Way.enc)),(50012,.tr 1 0 (x.Movers.map em)),(60012,.row 2 (x.Arrived.map Train.enc)),(70012,.row 1 (x.Entered.map yJ)),(100012,.row 1 (x.Tariff.PerClass.map yJ)),(110012,.row 1 (x.Tariff.Weights.map yJ)),(120012,.row 5 (x.Book.map Entry.enc)),(130012,.row 4 (x.Passings.map Passing.enc))]) (fun k=>(yaY t).length - k) 0 (by simp) (by apply yj <;> simp) ?_
 rintro k ⟨hk,hall⟩
 rcases Nat.lt_or_ge k (yaY t).length with klt | kge
 ·obtain ⟨i,hi⟩ : ∃ i,(yaY t)[k]? = some i:=⟨_,List.getElem?_eq_getElem klt⟩
  have g1:=(List.getElem?_eq_some_iff.1 hi).2
  simp -dsimp -implicitDefEqProofs [hi,g1,klt,yG klt]
  intro hlen
  refine yg (ι:=Nat) (fun j=>j ≤ x.Entered.length ∧ ∀ e ∈ x.Entered.take j,(fun e=>!decide (e = i)) e = true) (fun j=>yO [(2,.box 2 0),(3,.box 3 0),(4,.box 4 0),(5,.c (.b false)),(6,.box 6 0),(7,.c (.sl 1 ((yaY t).map yJ))),(8,.c (.i k)),(9,.c (.i j))] [(2,.box (x.enc.map .c)),(3,.box (t.enc.map .c)),(4,.box [.c (.i 0),.nil 3,.nil 2,.nil 22,.nil 1,.nil 2,.nil 1,.c (.i 0),.c (.i 0),.nil 1,.nil 1,.nil 5,.nil 4,.c (.i 0),.c (.i 0),.c (.i 0)]),(6,.box [.c (.i x.Time),.own 20012 3 x.Reaches.length,.own 30012 2 x.Ways.length,.own 40012 22 x.Works.length,.own 50012 1 x.Movers.length,.own 60012 2 x.Arrived.length,.own 70012 1 x.Entered.length,.c (.i x.Tariff.Base),.c (.i x.Tariff.PerArea),.own 100012 1 x.Tariff.PerClass.length,.own 110012 1 x.Tariff.Weights.length,.own 120012 5 x.Book.length,.own 130012 4 x.Passings.length,.c (.i x.Start),.c (.i x.In),.c (.i x.Out)]),(20012,.row 3 (x.Reaches.map Reach.enc)),(40012,.row 22 (x.Works.map Work.enc)),(30012,.row 2 (x.Ways.map Way.enc)),(50012,.tr 1 0 (x.Movers.map em)),(60012,.row 2 (x.Arrived.map Train.enc)),(70012,.row 1 (x.Entered.map yJ)),(100012,.row 1 (x.Tariff.PerClass.map yJ)),(110012,.row 1 (x.Tariff.Weights.map yJ)),(120012,.row 5 (x.Book.map Entry.enc)),(130012,.row 4 (x.Passings.map Passing.enc))]) (fun j=>x.Entered.length - j) 0 (by simp) (by apply yj <;> simp) ?_
  rintro j ⟨hj,hallj⟩
  rcases Nat.lt_or_ge j x.Entered.length with jlt | jge
  ·obtain ⟨e,he⟩ : ∃ e,x.Entered[j]? = some e:=⟨_,List.getElem?_eq_getElem jlt⟩
   have g2:=(List.getElem?_eq_some_iff.1 he).2
   simp -dsimp -implicitDefEqProofs [hi,g1,klt,yG klt,he,g2,jlt,yG jlt]
   have hem:=List.mem_of_getElem? he
   refine fun hlen5=>⟨fun hc=>?_,fun hc=>?_⟩
   ·rw [no3 (all_false (p:=yOs x) hi (by simp only [yOs,← hc,hem,decide_true,Bool.not_true]))]
    simp [yt,yag ywd]
   ·have hall5:=yL (p:=fun e=>!decide (e = i)) he hallj (by simp [hc])
    refine ⟨yw jlt hlen5,j + 1,⟨jlt,fun a ha=>by simpa using hall5 a ha⟩,by omega,?_⟩
    apply yj <;> simp
  simp -dsimp -implicitDefEqProofs [yaB jge]
  intro hlen5
  have hni : yOs x i = true:=by
   simp only [yOs,Bool.not_eq_true',decide_eq_false_iff_not]
   intro hm
   have:=hallj i (by rw [List.take_of_length_le jge]; exact hm)
   simp at this
  have hall':=yL (p:=yOs x) hi hall hni
  refine ⟨yw klt hlen,k + 1,⟨klt,hall'⟩,by omega,?_⟩
  apply yj <;> simp
 have hall2 : (yaY t).all (yOs x) = true:=yX (p:=yOs x) kge hall
 have s11:=hs.1.1
 have no4 : yar (yOl x t) = false → yOk x t = (x,false):=fun h=>by simp only [yOk,h,Bool.and_false]; rfl
 have yes : yar (yOl x t) = true → yOk x t = (yOl x t,true):=fun h=>by simp only [yOk,hok,htk,hall2,h,Bool.and_true,if_true]
 have f1:=F.two
 have f2:=F.ways
 have f3:=F.mvs
 have f4:=F.ent
 have f5:=F.ids
 simp -dsimp -implicitDefEqProofs [yaB kge]
 refine fun _=>⟨by omega,fun _=>⟨by unfold inI; omega,⟨fun hup=>⟨by omega,by omega,by omega,?_⟩,fun hup=>?_⟩⟩⟩
 ·obtain ⟨w,hw⟩ : ∃ w,x.Ways[x.Reaches.length - 1]? = some w:=⟨_,List.getElem?_eq_getElem (by omega)⟩
  obtain ⟨l,hl⟩ : ∃ l,x.Movers[x.Reaches.length - 1]? = some l:=⟨_,List.getElem?_eq_getElem (by omega)⟩
  have hll:=F.few _ _ hl
  refine ya2 (ygX t ht) (by simp -dsimp -implicitDefEqProofs) (.inl rfl) ?_
  simp -dsimp -implicitDefEqProofs [hw,hl,em]
  refine ⟨by omega,by omega,by omega,by omega,by omega,by simp [setAt]; omega,?_⟩
  have ek : yOI x t = x.Reaches.length - 1:=by simp [yOI,hup]
  have ep : yOM x t = w.Long:=by simp [yOM,hup,hw]
  have hes:=yOJ F hs ht
  have hV:=ym6 (yOl x t) hes
  rw [yOy,ek,ep] at hV
  refine yaQ (hV) (by simp -dsimp -implicitDefEqProofs [yt,yOY hl,yOv]) rfl ?_
  cases hv : yar (yOl x t) with
  | false =>
   rw [no4 hv]
   simp -dsimp -implicitDefEqProofs
   refine yjo hco (by simp) rfl (by simp [yU,em]) ?_
   simp -dsimp -implicitDefEqProofs [yt,yag ywd]
  | true =>
   rw [yes hv]
   simp -dsimp -implicitDefEqProofs
   have he:=yOy x t
   rw [ek,ep] at he
   simp only [Waterway.enc,List.cons.injEq,C.i.injEq,C.sl.injEq,true_and,and_true] at he
   obtain ⟨e0,e1,e2,e3,e4,e5,e6,e7,e8,e9,e10,e11,e12,e13,e14,e15⟩:=he
   simp only [e0,e1,e2,e3,e4,e5,e6,e7,e8,e9,e10,e11,e12,e13,e14,e15,yOY hl,yt,yOv,List.map_append,yza]
   simp
 ·obtain ⟨l,hl⟩ : ∃ l,x.Movers[0]? = some l:=⟨_,List.getElem?_eq_getElem (by omega)⟩
  have hll:=F.few _ _ hl
  refine ⟨by omega,?_⟩
  refine ya2 (ygX t ht) (by simp -dsimp -implicitDefEqProofs) (.inl rfl) ?_
  simp -dsimp -implicitDefEqProofs [hl,em]
  refine ⟨by omega,by omega,by simp [setAt]; omega,?_⟩
  have ek : yOI x t = 0:=by simp [yOI,hup]
  have ep : yOM x t = 0:=by simp [yOM,hup]
  have hes:=yOJ F hs ht
  have hV:=ym6 (yOl x t) hes
  rw [yOy,ek,ep] at hV
  refine yaQ (hV) (by simp -dsimp -implicitDefEqProofs [yt,yOY hl,yOv]) rfl ?_
  cases hv : yar (yOl x t) with
  | false =>
   rw [no4 hv]
   simp -dsimp -implicitDefEqProofs
   refine yjo hco (by simp) rfl (by simp [yU,em]) ?_
   simp -dsimp -implicitDefEqProofs [yt,yag ywd]
  | true =>
   rw [yes hv]
   simp -dsimp -implicitDefEqProofs
   have he:=yOy x t
   rw [ek,ep] at he
   simp only [Waterway.enc,List.cons.injEq,C.i.injEq,C.sl.injEq,true_and,and_true] at he
   obtain ⟨e0,e1,e2,e3,e4,e5,e6,e7,e8,e9,e10,e11,e12,e13,e14,e15⟩:=he
   simp only [e0,e1,e2,e3,e4,e5,e6,e7,e8,e9,e10,e11,e12,e13,e14,e15,yOY hl,yt,yOv,List.map_append,yza]
   simp
theorem yO2 {α : Type} (f : α → Nat) (y : α) : ∀ (xs : List α) (k : Nat),((xs.set k y).map f).sum ≤ (xs.map f).sum + f y
 | [],k=>by simp
 | a :: l,0=>by simp only [List.set_cons_zero,List.map_cons,List.sum_cons]; omega
 | a :: l,k + 1=>by have:=yO2 f y l k; simp only [List.set_cons_succ,List.map_cons,List.sum_cons]; omega
theorem yO8 {α : Type} (f : α → Nat) {xs : List α} {k : Nat} {y : α} (h : xs[k]? = some y) : f y ≤ (xs.map f).sum:=by
 induction xs generalizing k with
 | nil=>simp at h
 | cons a l ih =>
  cases k with
  | zero=>simp at h; subst h; simp only [List.map_cons,List.sum_cons]; omega
  | succ k=>have:=ih (k:=k) (by simpa using h); simp only [List.map_cons,List.sum_cons]; omega
theorem yOZ (x : Waterway) (t : Train) (h : ycp x + yci t ≤ 1048576) : wm9 (yOk x t).1 1 ≤ 4000000000000000000:=by
 have h2 : ycp (yOk x t).1 ≤ 4194304:=by
  unfold yOk
  split
  ·rename_i hc
   simp only [Bool.and_eq_true] at hc
   have F:=yOO hc.1.1.1 hc.1.1.2
   obtain ⟨l,hl⟩ : ∃ l,x.Movers[yOI x t]? = some l:=⟨_,List.getElem?_eq_getElem F.kl⟩
   have q1:=yO2 ygb (l ++ [(⟨t,yOM x t⟩ : Mover)]) x.Movers (yOI x t)
   have q2:=yO8 ygb hl
   have q3 : ygb (l ++ [(⟨t,yOM x t⟩ : Mover)]) = ygb l + 1 + yci t:=by
    simp only [ygb,yd0,List.map_append,List.sum_append,List.length_append,List.map_cons,List.map_nil,List.sum_cons,List.sum_nil,List.length_cons,List.length_nil,yhg]; omega
   have q4 : yiG (yOl x t).Movers = x.Movers.length + ((x.Movers.set (yOI x t) (l ++ [(⟨t,yOM x t⟩ : Mover)])).map ygb).sum:=by
    simp only [yiG,yd0,yOl,yOq,List.length_set,List.getD_eq_getElem?_getD,hl,Option.getD_some]
   have q5 : yiG x.Movers = x.Movers.length + (x.Movers.map ygb).sum:=rfl
   have q6 : ydD (yOl x t).Entered = x.Entered.length + (yaY t).length:=by simp [ydD,yOl]
   have q7 : ydD x.Entered = x.Entered.length:=rfl
   have q8:=F.ids
   have q9 : ycp (yOl x t) = ydQ x.Reaches + yox x.Ways + yeJ x.Works + yiG (yOl x t).Movers + yf0 x.Arrived + ydD (yOl x t).Entered + yhC x.Tariff + ykt x.Book + yhy x.Passings:=rfl
   have q10 : ycp x = ydQ x.Reaches + yox x.Ways + yeJ x.Works + yiG x.Movers + yf0 x.Arrived + ydD x.Entered + yhC x.Tariff + ykt x.Book + yhy x.Passings:=rfl
   show ycp (yOl x t) ≤ 4194304
   omega
  ·show ycp x ≤ 4194304
   omega
 have:=yAl (yOk x t).1 1
 omega
set_option maxRecDepth 40000 in
theorem yOK (x0 : Waterway) (x1 : Train) : yB Tryz.prog 4 [.agg (x0.enc.map .c),.agg (x1.enc.map .c)] (.c (.b true)):=by
 refine yh yOz ?_
 simp -dsimp -implicitDefEqProofs
 refine yc (yq5 x0 1048576 (by omega) (by omega)) ?_
 simp -dsimp -implicitDefEqProofs
 intro hsz0
 have hl0:=yzy yqh (by omega) (by omega) hsz0
 have t0:=ynf x0 1048576 (by omega) (by omega) hsz0
 refine yc (yhF x1 _ (by omega) (by omega)) ?_
 simp -dsimp -implicitDefEqProofs
 intro hsz1
 have hl1:=yzy ye7 (by omega) (by omega) hsz1
 have t1:=yfQ x1 _ (by omega) (by omega) hsz1
 have hwm:=yAl x0 1
 have hO:=yOR x0 x1 hl0 hl1
 have hS:=yOQ x0 x1 hl0 hl1
 have hM:=yOZ x0 x1 (by omega)
 refine yY (yib x0 hl0) ?_
 simp -dsimp -implicitDefEqProofs
 refine yY (yjt x1 hl1) ?_
 simp -dsimp -implicitDefEqProofs
 refine yY hS ?_
 generalize yOk x0 x1 = R at *
 obtain ⟨r,b⟩:=R
 dsimp only at hM hO hS
 simp -dsimp -implicitDefEqProofs
 refine yQ (ytB x0 hl0) (by simp) (yb5 (Waterway.yad x0)) (by simp [yU]) ?_
 simp -dsimp -implicitDefEqProofs
 refine yQ (yjE x1 hl1) (by simp) (yb5 (Train.yad x1)) (by simp [yU]) ?_
 simp -dsimp -implicitDefEqProofs
 have hP : yB Tryz.prog 33 [.agg (x0.enc.map .c),.agg (x1.enc.map .c)] (.tup [.agg (r.enc.map .c),.c (.b b)]):=hO.pure (by simp [AV.shr,AV.ysI,AV.yAK,ybQ,C.shr,yag Reach.yaa,yag Work.yaa,yag ycu,yag Train.yaa,yag Passing.yaa])
 refine yQ hO (by simp -dsimp -implicitDefEqProofs [yt,yag Reach.yaa,yag Work.yaa,yag ycu,yag Train.yaa,yag Passing.yaa,yag CallT.yaa,yag yeg]) (fun x hx=>by
  rcases List.mem_cons.1 hx with rfl | hx
  ·exact yb5 (Waterway.yad r)
  ·rcases List.mem_cons.1 hx with rfl | hx
   ·simp [AV.ya7,C.closed]
   ·cases hx) (by simp [yU]) ?_
 simp -dsimp -implicitDefEqProofs
 refine yaQ (yfL r r) (by simp -dsimp -implicitDefEqProofs [yt,yag Reach.yaa,yag Work.yaa,yag ycu,yag Train.yaa,yag Passing.yaa,yag CallT.yaa,yag yeg]) rfl ?_
 simp -dsimp -implicitDefEqProofs
 refine yyA (yib x0 hl0) ?_
 simp -dsimp -implicitDefEqProofs
 refine ⟨_,_,yfL x0 x0,by simp -dsimp -implicitDefEqProofs [yt,yag Reach.yaa,yag Work.yaa,yag ycu,yag Train.yaa,yag Passing.yaa,yag CallT.yaa,yag yeg],.inr rfl,?_⟩
 simp -dsimp -implicitDefEqProofs
 refine yyA (yjt x1 hl1) ?_
 simp -dsimp -implicitDefEqProofs
 refine ⟨_,_,yjG x1 x1,by simp -dsimp -implicitDefEqProofs [yt,yag Reach.yaa,yag Work.yaa,yag ycu,yag Train.yaa,yag Passing.yaa,yag CallT.yaa,yag yeg],.inr rfl,?_⟩
 simp -dsimp -implicitDefEqProofs
 have c1:=ydt yxg x1.Rows
 have u1 : yci x1 = yd0 yju x1.Rows:=rfl
 have w9 : 0 ≤ wm9 x0 1:=by have:=wkB x0 (k:=1) (by omega); obtain ⟨b0,b1,b2,b3,b4,b5,b6,b7,b8,b9⟩:=this; omega
 refine yg1 (ups:=[none,some (20036,.tr 3 1 (yaA ycQ yay 1 x0.Reaches)),some (30036,.row 2 (marked ydz 2 [] (wm1 x0 1) x0.Ways.length)),some (40036,.tr 22 1 (yaA ydH yaJ (wm2 x0 1) x0.Works)),some (50036,.tr 1 1 (yaA ycj yap (wm3 x0 1) x0.Movers)),some (60036,.tr 2 1 (yaA ybN yE (wm4 x0 1) x0.Arrived)),some (70036,.row 1 (marked yJ 1 [] (wm5 x0 1) x0.Entered.length)),none,none,some (100036,.row 1 (marked yJ 1 [] (wm6 x0 1) x0.Tariff.PerClass.length)),some (110036,.row 1 (marked yJ 1 [] (wm6 x0 1 + x0.Tariff.PerClass.length) x0.Tariff.Weights.length)),some (120036,.row 5 (marked yjL 5 [] (wm7 x0 1) x0.Book.length)),some (130036,.tr 4 1 (yaA ybL yae (wm8 x0 1) x0.Passings)),none,none,none]) (yi8 x0 1 (by omega) (by omega)) (by simp -dsimp -implicitDefEqProofs) rfl rfl
  ⟨yb6 rfl,yf9 (rows:=x0.Reaches.map Reach.yI) (by simp -dsimp -implicitDefEqProofs) rfl rfl rfl (by simp) (by simp [yH]) rfl rfl,ybY (rows:=x0.Ways.map Way.enc) (by simp -dsimp -implicitDefEqProofs) rfl rfl (by simp) (by simp [yM]) rfl rfl,yf9 (rows:=x0.Works.map Work.yI) (by simp -dsimp -implicitDefEqProofs) rfl rfl rfl (by simp) (by simp [yH]) rfl rfl,yf9 (rows:=x0.Movers.map yax) (by simp -dsimp -implicitDefEqProofs) rfl rfl rfl (by simp) (by simp [yH]) rfl rfl,yf9 (rows:=x0.Arrived.map Train.yI) (by simp -dsimp -implicitDefEqProofs) rfl rfl rfl (by simp) (by simp [yH]) rfl rfl,ybY (rows:=x0.Entered.map yJ) (by simp -dsimp -implicitDefEqProofs) rfl rfl (by simp) (by simp [yM]) rfl rfl,yb6 rfl,yb6 rfl,ybY (rows:=x0.Tariff.PerClass.map yJ) (by simp -dsimp -implicitDefEqProofs) rfl rfl (by simp) (by simp [yM]) rfl rfl,ybY (rows:=x0.Tariff.Weights.map yJ) (by simp -dsimp -implicitDefEqProofs) rfl rfl (by simp) (by simp [yM]) rfl rfl,ybY (rows:=x0.Book.map Entry.enc) (by simp -dsimp -implicitDefEqProofs) rfl rfl (by simp) (by simp [yM]) rfl rfl,yf9 (rows:=x0.Passings.map Passing.yI) (by simp -dsimp -implicitDefEqProofs) rfl rfl rfl (by simp) (by simp [yH]) rfl rfl,yb6 rfl,yb6 rfl,yb6 rfl,trivial⟩ (by simp [ydf]) ?_
 simp -dsimp -implicitDefEqProofs
 generalize hk : wm9 x0 1 = k1 at *
 refine yg1 (ups:=[none,some (20038,.tr 1 1 (yaA fB nB k1 x1.Rows))]) (yOX x1 k1 (by omega) (by omega)) (by simp) rfl rfl
  ⟨yb6 rfl,yf9 (rows:=x1.Rows.map yT) (by simp -dsimp -implicitDefEqProofs) rfl rfl rfl (by simp) (by simp [yH]) rfl rfl,trivial⟩ (by simp [ydf]) ?_
 have n1 : (k1 + (cnt nB x1.Rows : Int) < 0) = False:=by simp; omega
 simp -dsimp -implicitDefEqProofs [n1]
 refine yaQ (yfL r r) (by simp -dsimp -implicitDefEqProofs [yt,yag Reach.yaa,yag Work.yaa,yag ycu,yag Train.yaa,yag Passing.yaa,yag CallT.yaa,yag yeg]) rfl ?_
 simp -dsimp -implicitDefEqProofs
 refine yg1 (ups:=[none,some (10020042,.tr 3 1 (yaA ycQ yay 1 r.Reaches)),some (10030042,.row 2 (marked ydz 2 [] (wm1 r 1) r.Ways.length)),some (10040042,.tr 22 1 (yaA ydH yaJ (wm2 r 1) r.Works)),some (10050042,.tr 1 1 (yaA ycj yap (wm3 r 1) r.Movers)),some (10060042,.tr 2 1 (yaA ybN yE (wm4 r 1) r.Arrived)),some (10070042,.row 1 (marked yJ 1 [] (wm5 r 1) r.Entered.length)),none,none,some (10100042,.row 1 (marked yJ 1 [] (wm6 r 1) r.Tariff.PerClass.length)),some (10110042,.row 1 (marked yJ 1 [] (wm6 r 1 + r.Tariff.PerClass.length) r.Tariff.Weights.length)),some (10120042,.row 5 (marked yjL 5 [] (wm7 r 1) r.Book.length)),some (10130042,.tr 4 1 (yaA ybL yae (wm8 r 1) r.Passings)),none,none,none]) (yi8 r 1 (by omega) (by omega)) (by simp -dsimp -implicitDefEqProofs) rfl rfl
  ⟨yb6 rfl,yf9 (rows:=r.Reaches.map Reach.yI) (by simp -dsimp -implicitDefEqProofs) rfl rfl rfl (by simp) (by simp [yH]) rfl rfl,ybY (rows:=r.Ways.map Way.enc) (by simp -dsimp -implicitDefEqProofs) rfl rfl (by simp) (by simp [yM]) rfl rfl,yf9 (rows:=r.Works.map Work.yI) (by simp -dsimp -implicitDefEqProofs) rfl rfl rfl (by simp) (by simp [yH]) rfl rfl,yf9 (rows:=r.Movers.map yax) (by simp -dsimp -implicitDefEqProofs) rfl rfl rfl (by simp) (by simp [yH]) rfl rfl,yf9 (rows:=r.Arrived.map Train.yI) (by simp -dsimp -implicitDefEqProofs) rfl rfl rfl (by simp) (by simp [yH]) rfl rfl,ybY (rows:=r.Entered.map yJ) (by simp -dsimp -implicitDefEqProofs) rfl rfl (by simp) (by simp [yM]) rfl rfl,yb6 rfl,yb6 rfl,ybY (rows:=r.Tariff.PerClass.map yJ) (by simp -dsimp -implicitDefEqProofs) rfl rfl (by simp) (by simp [yM]) rfl rfl,ybY (rows:=r.Tariff.Weights.map yJ) (by simp -dsimp -implicitDefEqProofs) rfl rfl (by simp) (by simp [yM]) rfl rfl,ybY (rows:=r.Book.map Entry.enc) (by simp -dsimp -implicitDefEqProofs) rfl rfl (by simp) (by simp [yM]) rfl rfl,yf9 (rows:=r.Passings.map Passing.yI) (by simp -dsimp -implicitDefEqProofs) rfl rfl rfl (by simp) (by simp [yH]) rfl rfl,yb6 rfl,yb6 rfl,yb6 rfl,trivial⟩ (by simp [ydf]) ?_
 have v9 : 0 ≤ wm9 r 1:=by have:=wkB r (k:=1) (by omega); obtain ⟨b0,b1,b2,b3,b4,b5,b6,b7,b8,b9⟩:=this; omega
 have n2 : (wm9 r 1 < 0) = False:=by simp; omega
 simp -dsimp -implicitDefEqProofs
 have hH:=yp9 r 1 (by omega) (by omega)
 unfold yAe at hH
 refine yaQ (hH) (by simp -dsimp -implicitDefEqProofs [yd6,yrQ,yba ykO,yba ymN,yba ykc,yba yh9,yba yiO,yba yiY]) rfl ?_
 simp -dsimp -implicitDefEqProofs [n2]
 refine yY (yib x0 hl0) ?_
 simp -dsimp -implicitDefEqProofs
 refine yY (yjt x1 hl1) ?_
 simp -dsimp -implicitDefEqProofs
 refine yY hP ?_
 simp -dsimp -implicitDefEqProofs
 refine yaQ (yfL r r) (by simp -dsimp -implicitDefEqProofs [yt,yag Reach.yaa,yag Work.yaa,yag ycu,yag Train.yaa,yag Passing.yaa,yag CallT.yaa,yag yeg]) rfl ?_
 simp -dsimp -implicitDefEqProofs
 refine yaQ (hH) (by simp -dsimp -implicitDefEqProofs [yd6,yrQ,yba ykO,yba ymN,yba ykc,yba yh9,yba yiO,yba yiY]) rfl ?_
 simp -dsimp -implicitDefEqProofs [n2]
theorem yye {xs : List C} (h : Fits [.i,.i,.i,.i,.i] xs) : ∃ e : Entry,xs = e.enc:=by
 obtain ⟨c0,ys,rfl,h0,h⟩:=h.cons_inv
 obtain ⟨c1,ys,rfl,h1,h⟩:=h.cons_inv
 obtain ⟨c2,ys,rfl,h2,h⟩:=h.cons_inv
 obtain ⟨c3,ys,rfl,h3,h⟩:=h.cons_inv
 obtain ⟨c4,ys,rfl,h4,h⟩:=h.cons_inv
 obtain rfl:=h.ycx
 obtain ⟨n0,rfl⟩:=h0.yaT
 obtain ⟨n1,rfl⟩:=h1.yaT
 obtain ⟨n2,rfl⟩:=h2.yaT
 obtain ⟨n3,rfl⟩:=h3.yaT
 obtain ⟨n4,rfl⟩:=h4.yaT
 exact ⟨⟨n0,n1,n2,n3,n4⟩,rfl⟩
theorem ykL {xs : List C} (h : Fits [.i] xs) : ∃ n : Int,xs = yJ n:=by
 obtain ⟨c0,ys,rfl,h0,h⟩:=h.cons_inv
 obtain rfl:=h.ycx
 obtain ⟨n0,rfl⟩:=h0.yaT
 exact ⟨n0,rfl⟩
theorem yBG {xs : List C} (h : Fits [.i,.i] xs) : ∃ e : Way,xs = e.enc:=by
 obtain ⟨c0,ys,rfl,h0,h⟩:=h.cons_inv
 obtain ⟨c1,ys,rfl,h1,h⟩:=h.cons_inv
 obtain rfl:=h.ycx
 obtain ⟨n0,rfl⟩:=h0.yaT
 obtain ⟨n1,rfl⟩:=h1.yaT
 exact ⟨⟨n0,n1⟩,rfl⟩
theorem yAu {xs : List C} (h : Fits [.i,.i,.i,.i,.i,.i] xs) : ∃ e : Boat,xs = e.enc:=by
 obtain ⟨c0,ys,rfl,h0,h⟩:=h.cons_inv
 obtain ⟨c1,ys,rfl,h1,h⟩:=h.cons_inv
 obtain ⟨c2,ys,rfl,h2,h⟩:=h.cons_inv
 obtain ⟨c3,ys,rfl,h3,h⟩:=h.cons_inv
 obtain ⟨c4,ys,rfl,h4,h⟩:=h.cons_inv
 obtain ⟨c5,ys,rfl,h5,h⟩:=h.cons_inv
 obtain rfl:=h.ycx
 obtain ⟨n0,rfl⟩:=h0.yaT
 obtain ⟨n1,rfl⟩:=h1.yaT
 obtain ⟨n2,rfl⟩:=h2.yaT
 obtain ⟨n3,rfl⟩:=h3.yaT
 obtain ⟨n4,rfl⟩:=h4.yaT
 obtain ⟨n5,rfl⟩:=h5.yaT
 exact ⟨⟨n0,n1,n2,n3,n4,n5⟩,rfl⟩
theorem yjF {xs : List C} (h : Fits [.sl [.i,.i,.i,.i,.i,.i]] xs) : ∃ e : List Boat,xs = yai e:=by
 obtain ⟨c0,ys,rfl,h0,h⟩:=h.cons_inv
 obtain rfl:=h.ycx
 obtain ⟨n0,rfl⟩:=h0.ycq Boat.enc fun _ h=>yAu h
 exact ⟨n0,rfl⟩
theorem yrO {xs : List C} (h : Fits [.b,.sl [.sl [.i,.i,.i,.i,.i,.i]]] xs) : ∃ e : Train,xs = e.enc:=by
 obtain ⟨c0,ys,rfl,h0,h⟩:=h.cons_inv
 obtain ⟨c1,ys,rfl,h1,h⟩:=h.cons_inv
 obtain rfl:=h.ycx
 obtain ⟨n0,rfl⟩:=h0.yuo
 obtain ⟨n1,rfl⟩:=h1.ycq yai fun _ h=>yjF h
 exact ⟨⟨n0,n1⟩,rfl⟩
theorem yyj {xs : List C} (h : Fits [.b,.sl [.sl [.i,.i,.i,.i,.i,.i]],.i] xs) : ∃ e : Mover,xs = e.enc:=by
 obtain ⟨c0,ys,rfl,h0,h⟩:=h.cons_inv
 obtain ⟨c1,ys,rfl,h1,h⟩:=h.cons_inv
 obtain ⟨c2,ys,rfl,h2,h⟩:=h.cons_inv
 obtain rfl:=h.ycx
 obtain ⟨n0,rfl⟩:=h0.yuo
 obtain ⟨n1,rfl⟩:=h1.ycq yai fun _ h=>yjF h
 obtain ⟨n2,rfl⟩:=h2.yaT
 exact ⟨⟨⟨n0,n1⟩,n2⟩,rfl⟩
theorem yxJ {xs : List C} (h : Fits [.i,.i] xs) : ∃ e : Point,xs = e.enc:=by
 obtain ⟨c0,ys,rfl,h0,h⟩:=h.cons_inv
 obtain ⟨c1,ys,rfl,h1,h⟩:=h.cons_inv
 obtain rfl:=h.ycx
 obtain ⟨n0,rfl⟩:=h0.yaT
 obtain ⟨n1,rfl⟩:=h1.yaT
 exact ⟨⟨n0,n1⟩,rfl⟩
theorem yxz {xs : List C} (h : Fits [.sl [.i,.i],.i,.sl [.i]] xs) : ∃ e : Reach,xs = e.enc:=by
 obtain ⟨c0,ys,rfl,h0,h⟩:=h.cons_inv
 obtain ⟨c1,ys,rfl,h1,h⟩:=h.cons_inv
 obtain ⟨c2,ys,rfl,h2,h⟩:=h.cons_inv
 obtain rfl:=h.ycx
 obtain ⟨n0,rfl⟩:=h0.ycq Point.enc fun _ h=>yxJ h
 obtain ⟨n1,rfl⟩:=h1.yaT
 obtain ⟨n2,rfl⟩:=h2.ycq yJ fun _ h=>ykL h
 exact ⟨⟨n0,n1,n2⟩,rfl⟩
theorem yxt {xs : List C} (h : Fits [.i,.i] xs) : ∃ e : Pause,xs = e.enc:=by
 obtain ⟨c0,ys,rfl,h0,h⟩:=h.cons_inv
 obtain ⟨c1,ys,rfl,h1,h⟩:=h.cons_inv
 obtain rfl:=h.ycx
 obtain ⟨n0,rfl⟩:=h0.yaT
 obtain ⟨n1,rfl⟩:=h1.yaT
 exact ⟨⟨n0,n1⟩,rfl⟩
end Go.Proofs.YtefegahoniahkaaGreat
