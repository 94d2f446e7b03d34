/- What the law FnExactSailAll stands on: contracts of functions, what each answers as plain Lean, in short form (names, layout). -/
import Derived.Test.YtjojilkdkgmbgaaGreatSExactSailAll1
set_option linter.all false
namespace Go.Proofs.YtjojilkdkgmbgaaGreat
open Go.RowKit
theorem yak {α : Type} {f : α → List C} {z : List C} {es : List α} {k : Nat} (h : k ≤ es.length) : (partly f z es k).length = es.length:=by
 simp [partly]; omega
theorem yab {α : Type} {f : α → List C} {z : List C} {es : List α} : partly f z es 0 = List.replicate es.length z:=by simp [partly]
theorem yam {α : Type} {f : α → List C} {z : List C} {es : List α} {k : Nat} (h : es.length ≤ k) : partly f z es k = es.map f:=by
 simp [partly,List.take_of_length_le h,Nat.sub_eq_zero_of_le h]
theorem yaj {α : Type} {f : α → List C} {z : List C} {es : List α} {k : Nat} {e : α} (h : es[k]? = some e) : (partly f z es k).set k (f e) = partly f z es (k + 1):=by
 have hk:=(List.getElem?_eq_some_iff.1 h).1
 have he:=(List.getElem?_eq_some_iff.1 h).2
 unfold partly
 rw [List.set_append_right _ _ (by simp; omega)]
 have h1 : ((es.take k).map f).length = k:=by simp; omega
 rw [h1,Nat.sub_self,show es.length - k = (es.length - (k + 1)) + 1 by omega,List.replicate_succ,List.set_cons_zero,List.take_succ_eq_append_getElem hk,he]
 simp
theorem ydK {α : Type} {f : α → List C} {z : List C} {es : List α} {k n : Nat} (hz : z.length = n) (hf : ∀ e,(f e).length = n) (h : k < es.length) : ((partly f z es k)[k]?.getD []).length = n:=by
 unfold partly
 rw [List.getElem?_append_right (by simp; omega)]
 have h1 : ((es.take k).map f).length = k:=by simp; omega
 rw [h1,Nat.sub_self,List.getElem?_replicate,if_pos (by omega)]
 exact hz
theorem yav {α : Type} {f : α → List C} {z : List C} {es : List α} {k n : Nat} (hz : z.length = n) (h : k < es.length) : ((partly f z es k)[k]?.getD []).drop n = []:=by
 apply List.drop_eq_nil_of_le
 unfold partly
 rw [List.getElem?_append_right (by simp; omega)]
 have h1 : ((es.take k).map f).length = k:=by simp; omega
 rw [h1,Nat.sub_self,List.getElem?_replicate,if_pos (by omega)]
 simp [hz]
theorem yw {k n : Nat} (hk : k < n) (h : n ≤ maxLen) : inI ((k : Int) + 1):=by unfold maxLen at h; unfold inI; omega
def szS (n : Nat) (left : Int) : Int:=if left - n < 0 then -1 else left - n
theorem yvG (es : List Entry) (hl : es.length ≤ 1048576) : yB Tryz.prog 37 [.c (.sl 5 (es.map Entry.enc))] (.c (.sl 5 (es.map Entry.enc))):=by
 refine yh yiv ?_
 simp -dsimp -implicitDefEqProofs
 intro hlen
 refine ⟨by omega,?_⟩
 refine yg (ι:=Nat) (fun k=>k ≤ es.length) (fun k=>yO [(0,.c (.sl 5 (es.map Entry.enc))),(3,.own 7 5 es.length),(4,.c (.i k))] [(7,.row 5 (partly Entry.enc [.i 0,.i 0,.i 0,.i 0,.i 0] es k))]) (fun k=>es.length - k) 0 (by simp) (by apply yj <;> simp [yab]) ?_
 rintro k hk
 rcases Nat.lt_or_ge k es.length with hlt | hge
 ·obtain ⟨e,he⟩ : ∃ e,es[k]? = some e:=⟨_,List.getElem?_eq_getElem hlt⟩
  have hs:=yaj (f:=Entry.enc) (z:=[.i 0,.i 0,.i 0,.i 0,.i 0]) he
  have hd:=yav (f:=Entry.enc) (z:=[.i 0,.i 0,.i 0,.i 0,.i 0]) (n:=5) rfl hlt
  simp only [Entry.enc] at hs
  simp -dsimp -implicitDefEqProofs [he,yG hlt]
  refine fun _=>yaP (yrC e) (by simp) rfl ?_
  simp -dsimp -implicitDefEqProofs [yG hlt,yak hk,hd,hs]
  refine ⟨hlt,yw hlt hlen,k + 1,hlt,by omega,by apply yj <;> simp⟩
 ·simp -dsimp -implicitDefEqProofs [yaB hge]
  intro _
  rw [yam hge,List.take_of_length_le (by simp)]
theorem yaR {α : Type} {l m : List α} {k : Nat} {e f : α} (he : l[k]? = some e) (hf : m[k]? = some f) (h : l.take k = m.take k) (hef : e = f) : l.take (k + 1) = m.take (k + 1):=by
 rw [List.take_succ,List.take_succ,he,hf,h,hef]
theorem ybG {α : Type} {l m : List α} {k : Nat} {e f : α} (he : l[k]? = some e) (hf : m[k]? = some f) (hef : e ≠ f) : l ≠ m:=by
 rintro rfl
 rw [he] at hf
 exact hef (Option.some.inj hf)
theorem ybf {α : Type} {l m : List α} {k : Nat} (hl : l.length ≤ k) (hm : l.length = m.length) (h : l.take k = m.take k) : l = m:=by
 rwa [List.take_of_length_le hl,List.take_of_length_le (by omega)] at h
theorem ywt (es fs : List Entry) : yB Tryz.prog 51 [.c (.sl 5 (es.map Entry.enc)),.c (.sl 5 (fs.map Entry.enc))] (.c (.b (decide (es = fs)))):=by
 refine yh ynh ?_
 simp -dsimp -implicitDefEqProofs
 intro hl1 hl2
 refine ⟨fun h e=>h (by rw [e]),fun hlen=>?_⟩
 have hlen' : es.length = fs.length:=by omega
 refine yg (ι:=Nat) (fun k=>k ≤ es.length ∧ es.take k = fs.take k) (fun k=>yO [(0,.c (.sl 5 (es.map Entry.enc))),(1,.c (.sl 5 (fs.map Entry.enc))),(5,.c (.i k))] []) (fun k=>es.length - k) 0 (by simp) (by apply yj <;> simp) ?_
 rintro k ⟨hk,htk⟩
 rcases Nat.lt_or_ge k es.length with hlt | hge
 ·obtain ⟨e,he⟩ : ∃ e,es[k]? = some e:=⟨_,List.getElem?_eq_getElem hlt⟩
  obtain ⟨f,hf⟩ : ∃ f,fs[k]? = some f:=⟨_,List.getElem?_eq_getElem (by omega)⟩
  simp -dsimp -implicitDefEqProofs [he,hf,yG hlt,yG (hlen' ▸ hlt)]
  intro _
  refine yaC (yxo e f) ?_
  simp -dsimp -implicitDefEqProofs
  refine ⟨fun h=>ybG he hf h,fun h=>⟨yw hlt hl1,k + 1,⟨hlt,yaR he hf htk h⟩,by omega,by apply yj <;> simp⟩⟩
 ·simp -dsimp -implicitDefEqProofs [yaB hge]
  intro _
  exact ybf hge hlen' htk
theorem yuL (es : List Entry) : yB Tryz.prog 87 [.c (.sl 5 (es.map Entry.enc))] (.c (.b (yht es))):=by
 refine yh yro ?_
 simp -dsimp -implicitDefEqProofs
 refine yg (ι:=Nat) (fun k=>k ≤ es.length ∧ ∀ e ∈ es.take k,ycl e = true) (fun k=>yO [(0,.c (.sl 5 (es.map Entry.enc))),(3,.c (.i k))] []) (fun k=>es.length - k) 0 (by simp) (by apply yj <;> simp) ?_
 rintro k ⟨hk,hall⟩
 rcases Nat.lt_or_ge k es.length with hlt | hge
 ·obtain ⟨e,he⟩ : ∃ e,es[k]? = some e:=⟨_,List.getElem?_eq_getElem hlt⟩
  simp -dsimp -implicitDefEqProofs [he,yG hlt]
  intro hlen
  refine yc (ysd e) ?_
  simp -dsimp -implicitDefEqProofs
  refine ⟨fun h1=>by simp [yht,all_false he h1],fun h1=>?_⟩
  exact ⟨yw hlt hlen,k + 1,⟨by omega,yL he hall h1⟩,by omega,by apply yj <;> simp⟩
 ·simp -dsimp -implicitDefEqProofs [yaB hge]
  have:=yX hge hall
  simp only [yht,this,Bool.and_true]
  intro _
  exact decide_eq_decide.2 (by omega)
abbrev yJ (n : Int) : List C:=[.i n]
theorem yz0 (es : List Int) (left : Int) (h0 : 0 ≤ left) (h1 : left ≤ 1048576) : yB Tryz.prog 22 [.c (.sl 1 (es.map yJ)),.c (.i left)] (.c (.i (szS es.length left))):=by
 refine yh yrh ?_
 simp -dsimp -implicitDefEqProofs [yj7,szS]
 intro hl
 unfold maxLen at hl
 refine ⟨by unfold inI; omega,fun h=>?_,fun h=>?_⟩ <;> intros <;> omega
theorem ylC (es : List Int) (hl : es.length ≤ 1048576) : yB Tryz.prog 35 [.c (.sl 1 (es.map yJ))] (.c (.sl 1 (es.map yJ))):=by
 refine yh yjT ?_
 simp -dsimp -implicitDefEqProofs
 intro hlen
 refine ⟨by omega,?_⟩
 refine yg (ι:=Nat) (fun k=>k ≤ es.length) (fun k=>yO [(0,.c (.sl 1 (es.map yJ))),(3,.own 7 1 es.length),(4,.c (.i k))] [(7,.row 1 (partly yJ [.i 0] es k))]) (fun k=>es.length - k) 0 (by simp) (by apply yj <;> simp [yab]) ?_
 rintro k hk
 rcases Nat.lt_or_ge k es.length with hlt | hge
 ·obtain ⟨e,he⟩ : ∃ e,es[k]? = some e:=⟨_,List.getElem?_eq_getElem hlt⟩
  have hs:=yaj (f:=yJ) (z:=[.i 0]) he
  have hd : ((partly yJ [.i 0] es k)[k]?.getD []).set 0 (.i e) = [.i e]:=by
   have:=ydK (f:=yJ) (z:=[.i 0]) (n:=1) rfl (fun _=>rfl) hlt
   obtain ⟨x,hx⟩:=List.length_eq_one_iff.1 this
   rw [hx]; rfl
  simp -dsimp -implicitDefEqProofs [he,yG hlt]
  intro _
  rw [hd,show (partly yJ [.i 0] es k).set k [.i e] = partly yJ [.i 0] es (k + 1) from hs]
  exact ⟨by rw [yak hk]; exact hlt,yw hlt hlen,k + 1,hlt,by omega,by apply yj <;> simp⟩
 ·simp -dsimp -implicitDefEqProofs [yaB hge]
  intro _
  rw [yam hge,List.take_of_length_le (by simp)]
theorem ykZ (es fs : List Int) : yB Tryz.prog 49 [.c (.sl 1 (es.map yJ)),.c (.sl 1 (fs.map yJ))] (.c (.b (decide (es = fs)))):=by
 refine yh yqx ?_
 simp -dsimp -implicitDefEqProofs
 intro hl1 hl2
 refine ⟨fun h e=>h (by rw [e]),fun hlen=>?_⟩
 have hlen' : es.length = fs.length:=by omega
 refine yg (ι:=Nat) (fun k=>k ≤ es.length ∧ es.take k = fs.take k) (fun k=>yO [(0,.c (.sl 1 (es.map yJ))),(1,.c (.sl 1 (fs.map yJ))),(5,.c (.i k))] []) (fun k=>es.length - k) 0 (by simp) (by apply yj <;> simp) ?_
 rintro k ⟨hk,htk⟩
 rcases Nat.lt_or_ge k es.length with hlt | hge
 ·obtain ⟨e,he⟩ : ∃ e,es[k]? = some e:=⟨_,List.getElem?_eq_getElem hlt⟩
  obtain ⟨f,hf⟩ : ∃ f,fs[k]? = some f:=⟨_,List.getElem?_eq_getElem (by omega)⟩
  simp -dsimp -implicitDefEqProofs [he,hf,yG hlt,yG (hlen' ▸ hlt)]
  intro _
  refine ⟨fun h=>ybG he hf h,fun h=>⟨yw hlt hl1,k + 1,⟨hlt,yaR he hf htk h⟩,by omega,by apply yj <;> simp⟩⟩
 ·simp -dsimp -implicitDefEqProofs [yaB hge]
  intro _
  exact ybf hge hlen' htk
structure Tariff where
 Base : Int
 PerArea : Int
 PerClass : List Int
 Weights : List Int
 deriving DecidableEq
@[simp] def Tariff.enc (t : Tariff) : List C:=[.i t.Base,.i t.PerArea,.sl 1 (t.PerClass.map yJ),.sl 1 (t.Weights.map yJ)]
def Tariff.small (t : Tariff) : Prop:=t.PerClass.length ≤ 1048576 ∧ t.Weights.length ≤ 1048576
theorem ywB (t : Tariff) (h : t.small) : yB Tryz.prog 36 [.agg (t.enc.map .c)] (.agg (t.enc.map .c)):=by
 refine yh yil ?_
 simp -dsimp -implicitDefEqProofs
 refine yS (ylC t.PerClass h.1) ?_
 simp -dsimp -implicitDefEqProofs
 refine yS (ylC t.Weights h.2) ?_
 simp -dsimp -implicitDefEqProofs
theorem yv1 (t u : Tariff) : yB Tryz.prog 50 [.agg (t.enc.map .c),.agg (u.enc.map .c)] (.c (.b (decide (t = u)))):=by
 refine yh ym8 ?_
 obtain ⟨t1,t2,t3,t4⟩:=t
 obtain ⟨u1,u2,u3,u4⟩:=u
 simp -dsimp -implicitDefEqProofs [yiy,Tariff.mk.injEq]
 refine ⟨fun h=>by simp [h],fun h=>⟨fun h1=>by simp [h1],fun h1=>?_⟩⟩
 refine yc (ykZ t3 u3) ?_
 simp -dsimp -implicitDefEqProofs
 refine ⟨fun h2 _ _ h3=>absurd h3 h2,fun h2=>?_⟩
 refine yc (ykZ t4 u4) ?_
 simp -dsimp -implicitDefEqProofs
 simp [h,h1,h2]
theorem ypy {l : List Int} {k : Nat} {x : Int} (h : l[k]? = some x) : (l.take (k + 1)).sum = (l.take k).sum + x:=by
 rw [List.take_succ,h]; simp
def sumTo (l : List Int) (k : Nat) : Int:=(l.take k).sum
theorem yf6 {l : List Int} : sumTo l 0 = 0:=rfl
theorem yia {l : List Int} {k : Nat} {x : Int} (h : l[k]? = some x) : sumTo l (k + 1) = sumTo l k + x:=ypy h
theorem ymm {l : List Int} {k : Nat} (h : l.length ≤ k) : sumTo l k = l.sum:=by unfold sumTo; rw [List.take_of_length_le h]
def ya9 (t : Tariff) : Bool:=inRange t.Base 0 10000 && inRange t.PerArea 0 100 && decide (t.PerClass.length = 3) && inRange t.Weights.length 1 11 &&
 t.PerClass.all (fun n=>inRange n 0 10000) && t.Weights.all (fun n=>inRange n 0 1000) && decide (0 < t.Weights.sum)
theorem yF {n a b : Int} : inRange n a b = true ↔ a ≤ n ∧ n ≤ b:=by simp [inRange]
theorem ycG {n a b : Int} : inRange n a b = false ↔ n < a ∨ b < n:=by
 simp only [inRange,Bool.and_eq_false_iff,decide_eq_false_iff_not]; omega
theorem yjC : ∀ {l : List Int} {b : Int},(∀ x ∈ l,inRange x 0 b = true) → 0 ≤ l.sum ∧ l.sum ≤ b * l.length
 | [],b,_=>by simp
 | x :: l,b,h=>by
  have h1:=yjC (l:=l) (b:=b) fun y hy=>h y (by simp [hy])
  have h2:=yF.1 (h x (by simp))
  simp only [List.sum_cons,List.length_cons,Int.natCast_add,Int.natCast_one,Int.mul_add,Int.mul_one]
  omega
theorem yqB (t : Tariff) : yB Tryz.prog 103 [.agg (t.enc.map .c)] (.c (.b (ya9 t))):=by
 refine yh ynP ?_
 simp -dsimp -implicitDefEqProofs
 refine yc (yC t.Base 0 10000) ?_
 simp -dsimp -implicitDefEqProofs
 refine ⟨fun h1=>?_,fun h1=>by simp [ya9,h1]⟩
 refine yc (yC t.PerArea 0 100) ?_
 simp -dsimp -implicitDefEqProofs
 refine ⟨fun h2=>?_,fun h2=>by simp [ya9,h2]⟩
 intro hc
 refine ⟨fun h3 hw=>⟨fun h4 _=>⟨fun h5=>?_,fun h5 _=>?_⟩,fun h4=>?_⟩,fun h3=>?_⟩
 ·have : inRange t.Weights.length 1 11 = false:=ycG.2 (by omega)
  simp [ya9,this]
 ·have h3' : t.PerClass.length = 3:=by omega
  have h6 : inRange t.Weights.length 1 11 = true:=yF.2 (by omega)
  refine yg (ι:=Nat) (fun k=>k ≤ t.PerClass.length ∧ ∀ n ∈ t.PerClass.take k,inRange n 0 10000 = true) (fun k=>yO [(1,.box 1 0),(37,.c (.sl 1 (t.PerClass.map yJ))),(38,.c (.i t.PerClass.length)),(39,.c (.i k))] [(1,.box (t.enc.map .c))]) (fun k=>t.PerClass.length - k) 0 (by simp) (by apply yj <;> simp) ?_
  rintro k ⟨hk,hall⟩
  rcases Nat.lt_or_ge k t.PerClass.length with hlt | hge
  ·obtain ⟨e,he⟩ : ∃ e,t.PerClass[k]? = some e:=⟨_,List.getElem?_eq_getElem hlt⟩
   simp -dsimp -implicitDefEqProofs [he,yG hlt]
   refine yc (yC e 0 10000) ?_
   simp -dsimp -implicitDefEqProofs
   refine ⟨fun h1=>by simp [ya9,all_false (p:=fun n=>inRange n 0 10000) he h1],fun h1=>?_⟩
   exact ⟨yw hlt hc,k + 1,⟨by omega,yL (p:=fun n=>inRange n 0 10000) he hall h1⟩,by omega,by apply yj <;> simp⟩
  ·have h7:=yX (p:=fun n=>inRange n 0 10000) hge hall
   simp -dsimp -implicitDefEqProofs [yaB hge]
   intro _
   refine yg (ι:=Nat) (fun k=>k ≤ t.Weights.length ∧ ∀ n ∈ t.Weights.take k,inRange n 0 1000 = true) (fun k=>yO [(5,.c (.i (t.Weights.take k).sum)),(48,.c (.sl 1 (t.Weights.map yJ))),(49,.c (.i t.Weights.length)),(50,.c (.i k))] []) (fun k=>t.Weights.length - k) 0 (by simp) (by apply yj <;> simp) ?_
   rintro k ⟨hk,hall⟩
   rcases Nat.lt_or_ge k t.Weights.length with hlt | hge
   ·obtain ⟨e,he⟩ : ∃ e,t.Weights[k]? = some e:=⟨_,List.getElem?_eq_getElem hlt⟩
    simp -dsimp -implicitDefEqProofs [he,yG hlt]
    refine yc (yC e 0 1000) ?_
    simp -dsimp -implicitDefEqProofs [he,yG hlt]
    refine ⟨fun h1=>by simp [ya9,all_false (p:=fun n=>inRange n 0 1000) he h1],fun h1=>?_⟩
    have hs:=yjC hall
    have hx:=yF.1 h1
    have hl : (t.Weights.take k).length ≤ 11:=by simp; omega
    exact ⟨by unfold inI; omega,yw hlt hw,k + 1,⟨by omega,yL (p:=fun n=>inRange n 0 1000) he hall h1⟩,by omega,by apply yj <;> simp [ypy he]⟩
   ·have h8:=yX (p:=fun n=>inRange n 0 1000) hge hall
    simp -dsimp -implicitDefEqProofs [yaB hge]
    rw [List.take_of_length_le hge]
    simp [ya9,h1,h2,h3',h6,h7,h8]
 ·have : inRange t.Weights.length 1 11 = false:=ycG.2 (by omega)
  simp [ya9,this]
 ·have : ¬ t.PerClass.length = 3:=by omega
  simp [ya9,this]
theorem yre (t : Tariff) : yB Tryz.prog 88 [.agg (t.enc.map .c)] (.c (.b (ya9 t))):=by
 refine yh ynI ?_
 simp -dsimp -implicitDefEqProofs
 refine yc (yD t.Base 0 10000) ?_
 simp -dsimp -implicitDefEqProofs
 refine ⟨fun h1=>?_,fun h1=>by simp [ya9,h1]⟩
 refine yc (yD t.PerArea 0 100) ?_
 simp -dsimp -implicitDefEqProofs
 refine ⟨fun h2=>?_,fun h2=>by simp [ya9,h2]⟩
 intro hc
 refine ⟨fun h3 hw=>?_,fun h3=>?_⟩
 ·have h3' : t.PerClass.length = 3:=by omega
  refine yc (yD t.Weights.length 1 11) ?_
  simp -dsimp -implicitDefEqProofs
  refine ⟨fun h6=>?_,fun h6=>?_⟩
  ·simp [ya9,h6]
  have h6':=yF.1 h6
  refine yg (ι:=Nat) (fun k=>k ≤ t.PerClass.length ∧ ∀ n ∈ t.PerClass.take k,inRange n 0 10000 = true) (fun k=>yO [(1,.box 1 0),(3,.c (.i k))] [(1,.box (t.enc.map .c))]) (fun k=>t.PerClass.length - k) 0 (by simp) (by apply yj <;> simp) ?_
  rintro k ⟨hk,hall⟩
  rcases Nat.lt_or_ge k t.PerClass.length with hlt | hge
  ·obtain ⟨e,he⟩ : ∃ e,t.PerClass[k]? = some e:=⟨_,List.getElem?_eq_getElem hlt⟩
   have hlt3 : ((k : Int) < 3) = True:=by simp; omega
   simp -dsimp -implicitDefEqProofs [he,hlt3,yG hlt]
   refine yc (yD e 0 10000) ?_
   simp -dsimp -implicitDefEqProofs
   refine ⟨fun h1=>by simp [ya9,all_false (p:=fun n=>inRange n 0 10000) he h1],fun h1=>?_⟩
   exact ⟨yw hlt hc,k + 1,⟨by omega,yL (p:=fun n=>inRange n 0 10000) he hall h1⟩,by omega,by apply yj <;> simp⟩
  ·have h7:=yX (p:=fun n=>inRange n 0 10000) hge hall
   have hge3 : ((k : Int) < 3) = False:=by simp; omega
   simp -dsimp -implicitDefEqProofs [hge3]
   refine yg (ι:=Nat) (fun k=>k ≤ t.Weights.length ∧ ∀ n ∈ t.Weights.take k,inRange n 0 1000 = true) (fun k=>yO [(1,.box 1 0),(4,.c (.i (t.Weights.take k).sum)),(5,.c (.i k))] [(1,.box (t.enc.map .c))]) (fun k=>t.Weights.length - k) 0 (by simp) (by apply yj <;> simp) ?_
   rintro k ⟨hk,hall⟩
   rcases Nat.lt_or_ge k t.Weights.length with hlt | hge
   ·obtain ⟨e,he⟩ : ∃ e,t.Weights[k]? = some e:=⟨_,List.getElem?_eq_getElem hlt⟩
    simp -dsimp -implicitDefEqProofs [he,yG hlt]
    intro _
    refine yc (yD e 0 1000) ?_
    simp -dsimp -implicitDefEqProofs [he,yG hlt]
    refine ⟨fun h1=>by simp [ya9,all_false (p:=fun n=>inRange n 0 1000) he h1],fun h1=>?_⟩
    have hs:=yjC hall
    have hx:=yF.1 h1
    have hl : (t.Weights.take k).length ≤ 11:=by simp; omega
    exact ⟨by unfold inI; omega,yw hlt hw,k + 1,⟨by omega,yL (p:=fun n=>inRange n 0 1000) he hall h1⟩,by omega,by apply yj <;> simp [ypy he]⟩
   ·have h8:=yX (p:=fun n=>inRange n 0 1000) hge hall
    simp -dsimp -implicitDefEqProofs [yaB hge]
    rw [List.take_of_length_le hge]
    simp [ya9,h1,h2,h3',h6,h7,h8]
 ·have : ¬ t.PerClass.length = 3:=by omega
  simp [ya9,this]
def marked (mk : Int → List C) (c : Int) (rows : List (List C)) (k : Int) (i : Nat) : List (List C):=(List.range i).map (fun (j : Nat)=>mk (k + c * j)) ++ rows.drop i
theorem ydX {mk : Int → List C} {c : Int} {rows : List (List C)} {k : Int} : marked mk c rows k 0 = rows:=by simp [marked]
theorem yeV {mk : Int → List C} {c : Int} {rows : List (List C)} {k : Int} {i : Nat} (h : i ≤ rows.length) : (marked mk c rows k i).length = rows.length:=by simp [marked]; omega
theorem yeI {mk : Int → List C} {c : Int} {rows : List (List C)} {k : Int} {i : Nat} (h : i = rows.length) : marked mk c rows k i = marked mk c [] k rows.length:=by subst h; simp [marked]
theorem yeR {mk : Int → List C} {c : Int} {rows : List (List C)} {k : Int} {i : Nat} {r : List C} (h : rows[i]? = some r) : (marked mk c rows k i)[i]? = some r:=by
 unfold marked
 rw [List.getElem?_append_right (by simp)]
 simpa using h
theorem ye0 {mk : Int → List C} {c : Int} {rows : List (List C)} {k : Int} {i : Nat} (h : i < rows.length) : (marked mk c rows k i).set i (mk (k + c * i)) = marked mk c rows k (i + 1):=by
 unfold marked
 rw [List.set_append_right _ _ (by simp),List.length_map,List.length_range,Nat.sub_self,List.drop_eq_getElem_cons h,List.set_cons_zero,List.range_succ,List.map_append,List.append_assoc]
 rfl
theorem yfU {mk : Int → List C} {c : Int} {k : Int} {n i : Nat} (h : i < n) : (marked mk c [] k n)[i]? = some (mk (k + c * i)):=by
 unfold marked
 simp [h]
theorem yM {mk : Int → List C} {c : Int} {k : Int} {n : Nat} : (marked mk c [] k n).length = n:=by simp [marked]
theorem yd6 {mk : Int → List C} {c : Int} {k : Int} {n : Nat} : (marked mk c [] k n).take n = marked mk c [] k n:=List.take_of_length_le (by rw [yM]; exact Nat.le_refl _)
theorem ylr (es : List Int) (hl : es.length ≤ 1048576) : ybh Tryz.prog 35 [.c (.sl 1 (es.map yJ))] (.c (.ow 1 (es.map yJ))):=by
 refine yan yjT ?_
 simp -dsimp -implicitDefEqProofs
 intro hlen
 refine ⟨by omega,?_⟩
 refine yg (ι:=Nat) (fun k=>k ≤ es.length) (fun k=>yO [(0,.c (.sl 1 (es.map yJ))),(3,.own 7 1 es.length),(4,.c (.i k))] [(7,.row 1 (partly yJ [.i 0] es k))]) (fun k=>es.length - k) 0 (by simp) (by apply yj <;> simp [yab]) ?_
 rintro k hk
 rcases Nat.lt_or_ge k es.length with hlt | hge
 ·obtain ⟨e,he⟩ : ∃ e,es[k]? = some e:=⟨_,List.getElem?_eq_getElem hlt⟩
  have hs:=yaj (f:=yJ) (z:=[.i 0]) he
  have hd : ((partly yJ [.i 0] es k)[k]?.getD []).set 0 (.i e) = [.i e]:=by
   have:=ydK (f:=yJ) (z:=[.i 0]) (n:=1) rfl (fun _=>rfl) hlt
   obtain ⟨x,hx⟩:=List.length_eq_one_iff.1 this
   rw [hx]; rfl
  simp -dsimp -implicitDefEqProofs [he,yG hlt]
  intro _
  rw [hd,show (partly yJ [.i 0] es k).set k [.i e] = partly yJ [.i 0] es (k + 1) from hs]
  exact ⟨by rw [yak hk]; exact hlt,yw hlt hlen,k + 1,hlt,by omega,by apply yj <;> simp⟩
 ·simp -dsimp -implicitDefEqProofs [yaB hge]
  intro _
  rw [yam hge,List.take_of_length_le (by simp)]
theorem ycr (xs : List Int) (k : Int) (h0 : 0 ≤ k) (h1 : k + xs.length ≤ 8000000000000000000) :
 InF Tryz.prog 65 (.c (cw 1 (xs.map yJ))) (.c (cw 1 (marked yJ 1 [] k xs.length))) [.c (.i k)] (.c (.i (k + xs.length))):=by
 rcases Nat.eq_zero_or_pos xs.length with hx | hx
 ·have : xs = []:=List.length_eq_zero_iff.1 hx
  subst this
  refine ybO yiA (by simp) (by simp) rfl fun hwf=>?_
  simp -dsimp -implicitDefEqProofs [yfw,marked]
  refine yg (ι:=Unit) (fun _=>True) (fun _=>yO [(0,.c (.sl 1 [])),(1,.c (.i k)),(5,.c (.i 0)),(1000000,.c (.sl 1 []))] []) (fun _=>0) () trivial (by apply yj <;> simp) ?_
  rintro _ _
  simp -dsimp -implicitDefEqProofs
 ·rw [yb4 (by simpa using hx),yb4 (by rw [yM]; exact hx)]
  refine ybO yiA (by simp) (by simp) rfl fun hwf=>?_
  simp -dsimp -implicitDefEqProofs [yfw]
  refine yg (ι:=Nat) (fun i=>i ≤ xs.length) (fun i=>yO [(0,.own 0 1 xs.length),(1,.c (.i (k + i))),(5,.c (.i i)),(1000000,.own 0 1 xs.length)] [(0,.row 1 (marked yJ 1 (xs.map yJ) k i))]) (fun i=>xs.length - i) 0 (by simp) (by apply yj <;> simp [ydX]) ?_
  rintro i hi
  rcases Nat.lt_or_ge i xs.length with hlt | hge
  ·obtain ⟨e,he⟩ : ∃ e,xs[i]? = some e:=⟨_,List.getElem?_eq_getElem hlt⟩
   have hg:=yeR (mk:=yJ) (c:=1) (k:=k) (rows:=xs.map yJ) (i:=i) (r:=[.i e]) (by simp [he])
   have hl:=yeV (mk:=yJ) (c:=1) (k:=k) (rows:=xs.map yJ) (i:=i) (by simpa using hi)
   have hs:=ye0 (mk:=yJ) (c:=1) (k:=k) (rows:=xs.map yJ) (i:=i) (by simpa using hlt)
   rw [List.length_map] at hl
   simp only [Int.one_mul,yJ] at hs
   simp -dsimp -implicitDefEqProofs [yG hlt,hg,hl]
   intro hlen
   refine ⟨hlt,by unfold inI; omega,by unfold inI; omega,i + 1,hlt,by omega,?_⟩
   apply yj <;> simp [hs] <;> omega
  ·have : i = xs.length:=by omega
   subst this
   simp -dsimp -implicitDefEqProofs
   intro _
   have e:=yeI (mk:=yJ) (c:=1) (rows:=xs.map yJ) (k:=k) (i:=xs.length) (by simp)
   rw [e,List.length_map,List.take_of_length_le (by rw [yM]; exact Nat.le_refl _)]
theorem yh1 (n : Nat) (k : Int) (h0 : 0 ≤ k) (h1 : k + n ≤ 8000000000000000000) : yB Tryz.prog 74 [.c (.sl 1 (marked yJ 1 [] k n)),.c (.i k)] (.c (.i (k + n))):=by
 refine yh yno ?_
 simp -dsimp -implicitDefEqProofs
 refine yg (ι:=Nat) (fun i=>i ≤ n) (fun i=>yO [(0,.c (.sl 1 (marked yJ 1 [] k n))),(1,.c (.i (k + i))),(5,.c (.i i))] []) (fun i=>n - i) 0 (by simp) (by apply yj <;> simp) ?_
 rintro i hi
 rcases Nat.lt_or_ge i n with hlt | hge
 ·have hg:=yfU (mk:=yJ) (c:=1) (k:=k) hlt
  simp only [Int.one_mul] at hg
  simp -dsimp -implicitDefEqProofs [yM,yG hlt,hg]
  intro hlen
  refine ⟨by unfold inI; omega,by unfold inI; omega,i + 1,hlt,by omega,?_⟩
  apply yj <;> simp <;> omega
 ·have : i = n:=by omega
  subst this
  simp -dsimp -implicitDefEqProofs [yM]
def ybm (a : Int) (f : Int → Int) : Int:=if a < 0 then -1 else f a
def yaw {α : Type} (f : α → Int → Int) : List α → Int → Int
 | [],l=>l
 | x :: xs,l=>ybm (f x l) (yaw f xs)
def yeE {α : Type} (f : α → Int → Int) (xs : List α) (l : Int) : Int:=ybm (szS xs.length l) (yaw f xs)
def yey {α : Type} (f : α → Int → Int) (sm : α → Prop) : Prop:=∀ x l,0 ≤ l → l ≤ 1048576 → f x l = -1 ∨ (0 ≤ f x l ∧ f x l ≤ l ∧ sm x)
def ycs {α : Type} (sm : α → Prop) (xs : List α) : Prop:=xs.length ≤ 1048576 ∧ ∀ x ∈ xs,sm x
theorem yK {a : Int} {f : Int → Int} (h : a < 0) : ybm a f = -1:=by simp [ybm,h]
theorem yu {a : Int} {f : Int → Int} (h : 0 ≤ a) : ybm a f = f a:=by simp [ybm,Int.not_lt.2 h]
theorem yhU {α : Type} : yey (fun (xs : List α) l=>szS xs.length l) (ycs fun _ : α=>True):=by
 intro xs l h0 h1
 simp only [szS]
 unfold ycs
 split
 ·exact .inl rfl
 ·exact .inr ⟨by omega,by omega,by omega,fun _ _=>trivial⟩
theorem yzy {α : Type} {f : α → Int → Int} {sm : α → Prop} (h : yey f sm) {x : α} {l : Int} (h0 : 0 ≤ l) (h1 : l ≤ 1048576) (hp : 0 ≤ f x l) : sm x:=by
 rcases h x l h0 h1 with e | ⟨_,_,e⟩
 ·omega
 ·exact e
theorem yin {α : Type} {f : α → Int → Int} {sm : α → Prop} (h : yey f sm) (x : α) {l : Int} (h0 : 0 ≤ l) (h1 : l ≤ 1048576) (hp : 0 ≤ f x l) : f x l ≤ 1048576:=by
 rcases h x l h0 h1 with e | ⟨_,e,_⟩
 ·omega
 ·omega
theorem yrK {α : Type} {f : α → Int → Int} {sm : α → Prop} (h : yey f sm) : ∀ (xs : List α) (l : Int),0 ≤ l → l ≤ 1048576 → yaw f xs l = -1 ∨ (0 ≤ yaw f xs l ∧ yaw f xs l ≤ l ∧ ∀ x ∈ xs,sm x)
 | [],l,h0,h1=>.inr ⟨h0,Int.le_refl _,by simp⟩
 | x :: xs,l,h0,h1=>by
  simp only [yaw]
  rcases h x l h0 h1 with e | ⟨e1,e2,e3⟩
  ·exact .inl (yK (by omega))
  ·rw [yu e1]
   rcases yrK h xs (f x l) e1 (by omega) with e | ⟨e4,e5,e6⟩
   ·exact .inl e
   ·exact .inr ⟨e4,by omega,by simp; exact ⟨e3,e6⟩⟩
theorem ygj {α : Type} {f : α → Int → Int} {sm : α → Prop} (h : yey f sm) : yey (yeE f) (ycs sm):=by
 intro xs l h0 h1
 unfold yeE
 rcases yhU xs l h0 h1 with e | ⟨e1,e2,e3⟩
 ·exact .inl (yK (by simp only at e; omega))
 ·simp only at e1 e2
  rw [yu e1]
  rcases yrK h xs _ e1 (by omega) with e | ⟨e4,e5,e6⟩
  ·exact .inl e
  ·exact .inr ⟨e4,by omega,e3.1,e6⟩
structure Boat where
 Id : Int
 Length : Int
 Width : Int
 Draught : Int
 Speed : Int
 Class : Int
 deriving DecidableEq,Inhabited
@[simp] def Boat.enc (e : Boat) : List C:=[.i e.Id,.i e.Length,.i e.Width,.i e.Draught,.i e.Speed,.i e.Class]
-- Boat
theorem yud (e : Boat) : yB Tryz.prog 303 [.agg (e.enc.map .c)] (.agg (e.enc.map .c)):=by
 refine yh yq9 ?_
 simp -dsimp -implicitDefEqProofs
theorem yyR (a b : Boat) : yB Tryz.prog 306 [.agg (a.enc.map .c),.agg (b.enc.map .c)] (.c (.b (decide (a = b)))):=by
 refine yh yq1 ?_
 obtain ⟨a0,a1,a2,a3,a4,a5⟩:=a
 obtain ⟨b0,b1,b2,b3,b4,b5⟩:=b
 simp -dsimp -implicitDefEqProofs [yj8,Boat.mk.injEq]
 refine ⟨fun h=>by simp_all,fun h0=>?_⟩
 refine ⟨fun h=>by simp_all,fun h1=>?_⟩
 refine ⟨fun h=>by simp_all,fun h2=>?_⟩
 refine ⟨fun h=>by simp_all,fun h3=>?_⟩
 refine ⟨fun h=>by simp_all,fun h4=>?_⟩
 refine ⟨fun h=>by simp_all,fun h5=>?_⟩
 simp_all
-- []Boat
def yex (xs : List Boat) (l : Int) : Int:=szS xs.length l
def ygC : List Boat → Prop:=ycs fun _=>True
theorem ymH : yey yex ygC:=yhU
theorem yvS (xs : List Boat) (l : Int) (h0 : 0 ≤ l) (h1 : l ≤ 1048576) : yB Tryz.prog 259 [.c (.sl 6 (xs.map Boat.enc)),.c (.i l)] (.c (.i (yex xs l))):=by
 refine yh yoU ?_
 simp -dsimp -implicitDefEqProofs [yi3,yex,szS]
 intro hl
 unfold maxLen at hl
 refine ⟨by unfold inI; omega,fun h=>?_,fun h=>?_⟩ <;> intros <;> omega
theorem yxQ (xs : List Boat) (hl : ygC xs) : yB Tryz.prog 263 [.c (.sl 6 (xs.map Boat.enc))] (.c (.sl 6 (xs.map Boat.enc))):=by
 refine yh yiM ?_
 simp -dsimp -implicitDefEqProofs
 intro hlen
 have hl1:=hl.1
 refine ⟨by omega,?_⟩
 refine yg (ι:=Nat) (fun k=>k ≤ xs.length) (fun k=>yO [(0,.c (.sl 6 (xs.map Boat.enc))),(3,.own 7 6 xs.length),(4,.c (.i k))] [(7,.row 6 (partly Boat.enc [.i 0,.i 0,.i 0,.i 0,.i 0,.i 0] xs k))]) (fun k=>xs.length - k) 0 (by simp) (by apply yj <;> simp [yab]) ?_
 rintro k hk
 rcases Nat.lt_or_ge k xs.length with hlt | hge
 ·obtain ⟨e,he⟩ : ∃ e,xs[k]? = some e:=⟨_,List.getElem?_eq_getElem hlt⟩
  have hs:=yaj (f:=Boat.enc) (z:=[.i 0,.i 0,.i 0,.i 0,.i 0,.i 0]) he
  have hd:=yav (f:=Boat.enc) (z:=[.i 0,.i 0,.i 0,.i 0,.i 0,.i 0]) (n:=6) rfl hlt
  simp only [Boat.enc] at hs
  simp -dsimp -implicitDefEqProofs [he,yG hlt]
  refine fun _=>yaP (yud e ) (by simp) rfl ?_
  simp -dsimp -implicitDefEqProofs [yG hlt,yak hk,hd,hs]
  exact ⟨hlt,yw hlt hlen,k + 1,hlt,by omega,by apply yj <;> simp⟩
 ·simp -dsimp -implicitDefEqProofs [yaB hge]
  intro _
  rw [yam hge,List.take_of_length_le (by simp)]
theorem yxD (es fs : List Boat) : yB Tryz.prog 268 [.c (.sl 6 (es.map Boat.enc)),.c (.sl 6 (fs.map Boat.enc))] (.c (.b (decide (es = fs)))):=by
 refine yh yoL ?_
 simp -dsimp -implicitDefEqProofs
 intro hl1 hl2
 refine ⟨fun h e=>h (by rw [e]),fun hlen=>?_⟩
 have hlen' : es.length = fs.length:=by omega
 refine yg (ι:=Nat) (fun k=>k ≤ es.length ∧ es.take k = fs.take k) (fun k=>yO [(0,.c (.sl 6 (es.map Boat.enc))),(1,.c (.sl 6 (fs.map Boat.enc))),(5,.c (.i k))] []) (fun k=>es.length - k) 0 (by simp) (by apply yj <;> simp) ?_
 rintro k ⟨hk,htk⟩
 rcases Nat.lt_or_ge k es.length with hlt | hge
 ·obtain ⟨e,he⟩ : ∃ e,es[k]? = some e:=⟨_,List.getElem?_eq_getElem hlt⟩
  obtain ⟨f,hf⟩ : ∃ f,fs[k]? = some f:=⟨_,List.getElem?_eq_getElem (by omega)⟩
  simp -dsimp -implicitDefEqProofs [he,hf,yG hlt,yG (hlen' ▸ hlt)]
  intro _
  refine yaC (yyR e f) ?_
  simp -dsimp -implicitDefEqProofs
  refine ⟨fun h=>ybG he hf h,fun h=>⟨yw hlt hl1,k + 1,⟨hlt,yaR he hf htk h⟩,by omega,by apply yj <;> simp⟩⟩
 ·simp -dsimp -implicitDefEqProofs [yaB hge]
  intro _
  exact ybf hge hlen' htk
abbrev yai (xs : List Boat) : List C:=[.sl 6 (xs.map Boat.enc)]
-- [][]Boat
def yeb : List (List Boat) → Int → Int:=yeE yex
def yej : List (List Boat) → Prop:=ycs ygC
theorem ysL : yey yeb yej:=ygj ymH
theorem yt7 (xs : List (List Boat)) (l : Int) (h0 : 0 ≤ l) (h1 : l ≤ 1048576) : yB Tryz.prog 171 [.c (.sl 1 (xs.map yai)),.c (.i l)] (.c (.i (yeb xs l))):=by
 refine yh ynp ?_
 simp -dsimp -implicitDefEqProofs
 intro hl
 have hs : szS xs.length l = if l - xs.length < 0 then -1 else l - xs.length:=rfl
 refine ⟨by unfold maxLen at hl; unfold inI; omega,fun h=>?_,fun h=>?_⟩
 ·simp [yeb,yeE,ybm,hs,h]
 have h' : 0 ≤ l - xs.length:=by omega
 have e0 : yeb xs l = yaw yex xs (l - xs.length):=by
  have : szS xs.length l = l - xs.length:=by rw [hs,if_neg (by omega)]
  simp only [yeb,yeE]
  rw [this,yu h']
 refine yg (ι:=Nat × Int) (fun p=>p.1 ≤ xs.length ∧ 0 ≤ p.2 ∧ p.2 ≤ 1048576 ∧ yaw yex (xs.drop p.1) p.2 = yeb xs l) (fun p=>yO [(0,.c (.sl 1 (xs.map yai))),(1,.c (.i p.2)),(5,.c (.i p.1))] []) (fun p=>xs.length - p.1) (0,l - xs.length) ⟨by simp,h',by simp only; omega,by simp [e0]⟩ (by apply yj <;> simp) ?_
 rintro ⟨k,q⟩ ⟨hk,hq0,hq1,hf⟩
 simp only at hk hq0 hq1 hf
 rcases Nat.lt_or_ge k xs.length with hlt | hge
 ·obtain ⟨e,he⟩ : ∃ e,xs[k]? = some e:=⟨_,List.getElem?_eq_getElem hlt⟩
  have hd : xs.drop k = e :: xs.drop (k + 1):=by
   rw [List.drop_eq_getElem_cons hlt,(List.getElem?_eq_some_iff.1 he).2]
  rw [hd,yaw] at hf
  simp -dsimp -implicitDefEqProofs [he,yG hlt]
  refine fun _=>yaQ (yvS e q hq0 hq1) (by simp) rfl ?_
  simp -dsimp -implicitDefEqProofs
  refine ⟨fun h=>by rw [← hf,yK h],fun h=>⟨yw hlt hl,k + 1,⟨yex e q,?_⟩⟩⟩
  rw [yu h] at hf
  have hle : yex e q ≤ 1048576:=by
   rcases ymH e q hq0 hq1 with e1 | e1
   ·omega
   ·omega
  exact ⟨⟨hlt,h,hle,hf⟩,by omega,by apply yj <;> simp⟩
 ·simp -dsimp -implicitDefEqProofs [yaB hge]
  rw [List.drop_of_length_le hge] at hf
  intro _
  first | simpa [yaw] using hf | simpa [yaw] using hf.symm
theorem ywr (xs : List (List Boat)) (hl : yej xs) : yB Tryz.prog 185 [.c (.sl 1 (xs.map yai))] (.c (.sl 1 (xs.map yai))):=by
 refine yh yim ?_
 simp -dsimp -implicitDefEqProofs
 intro hlen
 have hl1:=hl.1
 refine ⟨by omega,yQd ?_⟩
 simp -dsimp -implicitDefEqProofs
 refine yg (ι:=Nat) (fun k=>k ≤ xs.length) (fun k=>yO [(0,.c (.sl 1 (xs.map yai))),(3,.own 7 1 xs.length),(4,.c (.i k))] [(7,.row 1 (partly yai [.sl 6 []] xs k))]) (fun k=>xs.length - k) 0 (by simp) (by apply yj <;> simp [yab]) ?_
 rintro k hk
 rcases Nat.lt_or_ge k xs.length with hlt | hge
 ·obtain ⟨e,he⟩ : ∃ e,xs[k]? = some e:=⟨_,List.getElem?_eq_getElem hlt⟩
  have hs:=yaj (f:=yai) (z:=[.sl 6 []]) he
  have hd : ((partly yai [.sl 6 []] xs k)[k]?.getD []).set 0 (.sl 6 (e.map Boat.enc)) = [.sl 6 (e.map Boat.enc)]:=by
   have:=ydK (f:=yai) (z:=[.sl 6 []]) (n:=1) rfl (fun _=>rfl) hlt
   obtain ⟨x,hx⟩:=List.length_eq_one_iff.1 this
   rw [hx]; rfl
  have hs2 : (partly yai [.sl 6 []] xs k).set k [.sl 6 (e.map Boat.enc)] = partly yai [.sl 6 []] xs (k + 1):=hs
  simp -dsimp -implicitDefEqProofs [he,yG hlt]
  refine fun _=>yaP (yxQ e (hl.2 e (List.mem_of_getElem? he))) (by simp) rfl ?_
  simp -dsimp -implicitDefEqProofs [yG hlt,yak hk,hd,hs2]
  exact ⟨hlt,yw hlt hlen,k + 1,hlt,by omega,by apply yj <;> simp⟩
 ·simp -dsimp -implicitDefEqProofs [yaB hge]
  intro _
  rw [yam hge,List.take_of_length_le (by simp)]
theorem yvt (es fs : List (List Boat)) : yB Tryz.prog 202 [.c (.sl 1 (es.map yai)),.c (.sl 1 (fs.map yai))] (.c (.b (decide (es = fs)))):=by
 refine yh ync ?_
 simp -dsimp -implicitDefEqProofs
 intro hl1 hl2
 refine ⟨fun h e=>h (by rw [e]),fun hlen=>?_⟩
 have hlen' : es.length = fs.length:=by omega
 refine yg (ι:=Nat) (fun k=>k ≤ es.length ∧ es.take k = fs.take k) (fun k=>yO [(0,.c (.sl 1 (es.map yai))),(1,.c (.sl 1 (fs.map yai))),(5,.c (.i k))] []) (fun k=>es.length - k) 0 (by simp) (by apply yj <;> simp) ?_
 rintro k ⟨hk,htk⟩
 rcases Nat.lt_or_ge k es.length with hlt | hge
 ·obtain ⟨e,he⟩ : ∃ e,es[k]? = some e:=⟨_,List.getElem?_eq_getElem hlt⟩
  obtain ⟨f,hf⟩ : ∃ f,fs[k]? = some f:=⟨_,List.getElem?_eq_getElem (by omega)⟩
  simp -dsimp -implicitDefEqProofs [he,hf,yG hlt,yG (hlen' ▸ hlt)]
  intro _
  refine yaC (yxD e f) ?_
  simp -dsimp -implicitDefEqProofs
  refine ⟨fun h=>ybG he hf h,fun h=>⟨yw hlt hl1,k + 1,⟨hlt,yaR he hf htk h⟩,by omega,by apply yj <;> simp⟩⟩
 ·simp -dsimp -implicitDefEqProofs [yaB hge]
  intro _
  exact ybf hge hlen' htk
structure Train where
 Up : Bool
 Rows : List (List Boat)
 deriving DecidableEq,Inhabited
@[simp] def Train.enc (e : Train) : List C:=[.b e.Up,.sl 1 (e.Rows.map yai)]
-- Train
def yb2 (e : Train) (l : Int) : Int:=ybm (yeb e.Rows l) fun l=>l
def Train.small (e : Train) : Prop:=yej e.Rows
theorem ye7 : yey yb2 Train.small:=by
 intro e l h0 h1
 unfold yb2
 rcases ysL e.Rows _ h0 h1 with e0 | ⟨a0,b0,s0⟩
 ·exact .inl (yK (by omega))
 rw [yu a0]
 exact .inr ⟨a0,by omega,s0⟩
theorem yhF (e : Train) (l : Int) (h0 : 0 ≤ l) (h1 : l ≤ 1048576) : yB Tryz.prog 85 [.agg (e.enc.map .c),.c (.i l)] (.c (.i (yb2 e l))):=by
 refine yh ypX ?_
 simp -dsimp -implicitDefEqProofs
 refine yc (yt7 e.Rows _ h0 h1) ?_
 simp -dsimp -implicitDefEqProofs
 refine ⟨fun h=>by simp [yb2,yK h],fun p0=>?_⟩
 simp [yb2,yu p0]
theorem yjt (e : Train) (hl : Train.small e) : yB Tryz.prog 97 [.agg (e.enc.map .c)] (.agg (e.enc.map .c)):=by
 refine yh yiU ?_
 simp -dsimp -implicitDefEqProofs
 refine yS (ywr e.Rows hl) ?_
 simp -dsimp -implicitDefEqProofs
theorem yjG (a b : Train) : yB Tryz.prog 114 [.agg (a.enc.map .c),.agg (b.enc.map .c)] (.c (.b (decide (a = b)))):=by
 refine yh yoZ ?_
 obtain ⟨a0,a1⟩:=a
 obtain ⟨b0,b1⟩:=b
 simp -dsimp -implicitDefEqProofs [yiE,Train.mk.injEq]
 refine ⟨fun h=>by simp_all,fun h0=>?_⟩
 refine yc (yvt a1 b1) ?_
 simp -dsimp -implicitDefEqProofs
 refine ⟨fun h=>by simp_all,fun h1=>?_⟩
 simp_all
structure Mover where
 Train : Train
 Place : Int
 deriving DecidableEq,Inhabited
@[simp] def Mover.enc (e : Mover) : List C:=[.b e.Train.Up,.sl 1 (e.Train.Rows.map yai),.i e.Place]
-- Mover
def ycV (e : Mover) (l : Int) : Int:=ybm (yb2 e.Train l) fun l=>l
def Mover.small (e : Mover) : Prop:=e.Train.small
theorem ymQ : yey ycV Mover.small:=by
 intro e l h0 h1
 unfold ycV
 rcases ye7 e.Train _ h0 h1 with e0 | ⟨a0,b0,s0⟩
 ·exact .inl (yK (by omega))
 rw [yu a0]
 exact .inr ⟨a0,by omega,s0⟩
theorem yvT (e : Mover) (l : Int) (h0 : 0 ≤ l) (h1 : l ≤ 1048576) : yB Tryz.prog 170 [.agg (e.enc.map .c),.c (.i l)] (.c (.i (ycV e l))):=by
 refine yh ypW ?_
 simp -dsimp -implicitDefEqProofs
 refine yc (yhF e.Train _ h0 h1) ?_
 simp -dsimp -implicitDefEqProofs
 refine ⟨fun h=>by simp [ycV,yK h],fun p0=>?_⟩
 simp [ycV,yu p0]
theorem yyk (e : Mover) (hl : Mover.small e) : yB Tryz.prog 184 [.agg (e.enc.map .c)] (.agg (e.enc.map .c)):=by
 refine yh yiQ ?_
 simp -dsimp -implicitDefEqProofs
 refine yS (yjt e.Train hl) ?_
 simp -dsimp -implicitDefEqProofs
theorem yxY (a b : Mover) : yB Tryz.prog 201 [.agg (a.enc.map .c),.agg (b.enc.map .c)] (.c (.b (decide (a = b)))):=by
 refine yh yoz ?_
 obtain ⟨a0,a1⟩:=a
 obtain ⟨b0,b1⟩:=b
 simp -dsimp -implicitDefEqProofs [yiH,Mover.mk.injEq]
 refine yc (yjG a0 b0) ?_
 simp -dsimp -implicitDefEqProofs
 refine ⟨fun h=>by simp_all,fun h0=>?_⟩
 refine ⟨fun h=>by simp_all,fun h1=>?_⟩
 simp_all
theorem yxA (xs : List Boat) (hl : ygC xs) : ybh Tryz.prog 263 [.c (.sl 6 (xs.map Boat.enc))] (.c (.ow 6 (xs.map Boat.enc))):=by
 refine yan yiM ?_
 simp -dsimp -implicitDefEqProofs
 intro hlen
 have hl1:=hl.1
 refine ⟨by omega,?_⟩
 refine yg (ι:=Nat) (fun k=>k ≤ xs.length) (fun k=>yO [(0,.c (.sl 6 (xs.map Boat.enc))),(3,.own 7 6 xs.length),(4,.c (.i k))] [(7,.row 6 (partly Boat.enc [.i 0,.i 0,.i 0,.i 0,.i 0,.i 0] xs k))]) (fun k=>xs.length - k) 0 (by simp) (by apply yj <;> simp [yab]) ?_
 rintro k hk
 rcases Nat.lt_or_ge k xs.length with hlt | hge
 ·obtain ⟨e,he⟩ : ∃ e,xs[k]? = some e:=⟨_,List.getElem?_eq_getElem hlt⟩
  have hs:=yaj (f:=Boat.enc) (z:=[.i 0,.i 0,.i 0,.i 0,.i 0,.i 0]) he
  have hd:=yav (f:=Boat.enc) (z:=[.i 0,.i 0,.i 0,.i 0,.i 0,.i 0]) (n:=6) rfl hlt
  simp only [Boat.enc] at hs
  simp -dsimp -implicitDefEqProofs [he,yG hlt]
  refine fun _=>yaP (yud e ) (by simp) rfl ?_
  simp -dsimp -implicitDefEqProofs [yG hlt,yak hk,hd,hs]
  exact ⟨hlt,yw hlt hlen,k + 1,hlt,by omega,by apply yj <;> simp⟩
 ·simp -dsimp -implicitDefEqProofs [yaB hge]
  intro _
  rw [yam hge,List.take_of_length_le (by simp)]
theorem yag {α : Type} {f g : α → List C} (h : ∀ x,ybQ (f x) = some (g x)) : ∀ (l : List α),ykv (l.map f) = some (l.map g)
 | []=>rfl
 | x :: l=>by simp [ykv,h x,yag h l]
theorem ydl {α : Type} {f g : α → List C} {k : Nat} (h : ∀ x,ybQ (f x) = some (g x)) (l : List α) : (C.ot k (l.map f)).shr = some (.sl k (l.map g)):=by simp [C.shr,yag h l]
def yT (xs : List Boat) : List C:=[.ow 6 (xs.map Boat.enc)]
theorem yeg (xs : List Boat) : ybQ (yT xs) = some (yai xs):=rfl
theorem yvU (xs : List (List Boat)) (hl : yej xs) : ybh Tryz.prog 185 [.c (.sl 1 (xs.map yai))] (.c (.ot 1 (xs.map yT))):=by
 refine yan yim ?_
 simp -dsimp -implicitDefEqProofs
 intro hlen
 have hl1:=hl.1
 refine ⟨by omega,yQd ?_⟩
 simp -dsimp -implicitDefEqProofs
 refine yg (ι:=Nat) (fun k=>k ≤ xs.length) (fun k=>yO [(0,.c (.sl 1 (xs.map yai))),(3,.own 7 1 xs.length),(4,.c (.i k))] [(7,.tr 1 0 (partly yT [.sl 6 []] xs k))]) (fun k=>xs.length - k) 0 (by simp) (by apply yj <;> simp [yab,Obj.leO]) ?_
 rintro k hk
 rcases Nat.lt_or_ge k xs.length with hlt | hge
 ·obtain ⟨e,he⟩ : ∃ e,xs[k]? = some e:=⟨_,List.getElem?_eq_getElem hlt⟩
  have hs:=yaj (f:=yT) (z:=[.sl 6 []]) he
  have hd : ((partly yT [.sl 6 []] xs k)[k]?.getD []).set 0 (.ow 6 (e.map Boat.enc)) = yT e:=by
   have:=ydK (f:=yT) (z:=[.sl 6 []]) (n:=1) rfl (fun _=>rfl) hlt
   obtain ⟨x,hx⟩:=List.length_eq_one_iff.1 this
   rw [hx]; rfl
  simp -dsimp -implicitDefEqProofs [he,yG hlt]
  intro _
  refine yQ (yxA e (hl.2 e (List.mem_of_getElem? he))) (by simp ) (by simp [AV.closed,AV.ya7,C.closed]) (by simp [yU]) ?_
  simp -dsimp -implicitDefEqProofs [yG hlt,yak hk,yt,setAt,hd,hs]
  exact ⟨hlt,yw hlt hlen,k + 1,hlt,by omega,by apply yj <;> simp [Obj.leO]⟩
 ·simp -dsimp -implicitDefEqProofs [yaB hge]
  intro _
  rw [yam hge,yt]
@[simp] def Train.yI (e : Train) : List C:=[.b e.Up,.ot 1 (e.Rows.map yT)]
theorem Train.yaa (e : Train) : ybQ e.yI = some e.enc:=by simp [Train.yI,ybQ,ydl yeg]
theorem yjE (e : Train) (hl : Train.small e) : ybh Tryz.prog 97 [.agg (e.enc.map .c)] (.agg (e.yI.map .c)):=by
 refine yan yiU ?_
 simp -dsimp -implicitDefEqProofs
 refine yQ (yvU e.Rows hl) (by simp) (by simp [AV.closed,AV.ya7,C.closed,yT]) (by simp [yU]) ?_
 simp -dsimp -implicitDefEqProofs [yt]
def yaA {α : Type} (f : Int → α → List C) (n : α → Nat) : Int → List α → List (List C)
 | _,[]=>[]
 | k,x :: l=>f k x :: yaA f n (k + n x) l
def cnt {α : Type} (n : α → Nat) (l : List α) : Nat:=(l.map n).sum
theorem yH {α : Type} {f : Int → α → List C} {n : α → Nat} : ∀ {l : List α} {k : Int},(yaA f n k l).length = l.length
 | [],_=>rfl
 | x :: l,k=>by simp [yaA,yH (l:=l)]
theorem yrw {α : Type} {f : Int → α → List C} {n : α → Nat} {x : α} : ∀ {l : List α} {k : Int},yaA f n k (l ++ [x]) = yaA f n k l ++ [f (k + cnt n l) x]
 | [],k=>by simp [yaA,cnt]
 | y :: l,k=>by
  simp only [List.cons_append,yaA,yrw (l:=l)]
  simp [cnt,Int.add_assoc]
def ycA {α : Type} (f : Int → α → List C) (g : α → List C) (n : α → Nat) (k : Int) (xs : List α) (i : Nat) : List (List C):=yaA f n k (xs.take i) ++ (xs.drop i).map g
def yaK {α : Type} (n : α → Nat) (xs : List α) (i : Nat) : Nat:=cnt n (xs.take i)
section
variable {α : Type} {f : Int → α → List C} {g : α → List C} {n : α → Nat} {k : Int} {xs : List α} {i : Nat} {x : α}
theorem ya0 : yaK n xs 0 = 0:=rfl
theorem ya1 (h : xs[i]? = some x) : yaK n xs (i + 1) = yaK n xs i + n x:=by
 unfold yaK cnt; rw [List.take_succ,h,List.map_append,List.sum_append]; simp
theorem ybl (h : xs.length ≤ i) : yaK n xs i = cnt n xs:=by unfold yaK; rw [List.take_of_length_le h]
theorem ybS : yaK n xs i ≤ cnt n xs:=by
 unfold yaK cnt
 conv=>rhs; rw [← List.take_append_drop i xs]
 rw [List.map_append,List.sum_append]; omega
theorem ydh : ycA f g n k xs 0 = xs.map g:=by simp [ycA,yaA]
theorem yd1 : (ycA f g n k xs i).length = xs.length:=by
 unfold ycA; rw [List.length_append,yH,List.length_map,← List.length_append,List.take_append_drop]
theorem yd9 (h : xs.length ≤ i) : ycA f g n k xs i = yaA f n k xs:=by
 unfold ycA; rw [List.take_of_length_le h,List.drop_of_length_le h]; simp
theorem yd5 (h : xs[i]? = some x) : (ycA f g n k xs i)[i]? = some (g x):=by
 have hlt:=(List.getElem?_eq_some_iff.1 h).1
 have e : (yaA f n k (xs.take i)).length = i:=by rw [yH,List.length_take]; omega
 unfold ycA
 rw [List.getElem?_append_right (by omega),e,Nat.sub_self,List.getElem?_map,List.getElem?_drop,Nat.add_zero,h]; rfl
theorem yd3 (h : xs[i]? = some x) : (ycA f g n k xs i).set i (f (k + yaK n xs i) x) = ycA f g n k xs (i + 1):=by
 have hlt:=(List.getElem?_eq_some_iff.1 h).1
 have e : (yaA f n k (xs.take i)).length = i:=by rw [yH,List.length_take]; omega
 unfold ycA yaK
 rw [List.set_append_right _ _ (by omega),e,Nat.sub_self,List.drop_eq_getElem_cons hlt,(List.getElem?_eq_some_iff.1 h).2,List.map_cons,List.set_cons_zero,List.take_succ,h]
 simp only [Option.toList_some]
 rw [yrw,List.append_assoc]; rfl
end
theorem yfH {α : Type} {f : Int → α → List C} {n : α → Nat} : ∀ {xs : List α} {k : Int} {i : Nat} {x : α},xs[i]? = some x → (yaA f n k xs)[i]? = some (f (k + yaK n xs i) x)
 | y :: l,k,0,x,h=>by simp at h; subst h; simp [yaA,yaK,cnt]
 | y :: l,k,i + 1,x,h=>by
  simp only [yaA,List.getElem?_cons_succ]
  rw [yfH (xs:=l) (k:=k + n y) (i:=i) (x:=x) (by simpa using h)]
  congr 2
  unfold yaK cnt
  simp only [List.take_succ_cons,List.map_cons,List.sum_cons,Int.natCast_add]; omega
def mkB (k : Int) : List C:=[.i k,.i (k + 1),.i (k + 1 + 1),.i (k + 1 + 1 + 1),.i (k + 1 + 1 + 1 + 1),.i (k + 1 + 1 + 1 + 1 + 1)]
theorem yvd (xs : List Boat) (k : Int) (h0 : 0 ≤ k) (h1 : k + 6 * xs.length ≤ 8000000000000000000) :
 InF Tryz.prog 222 (.c (cw 6 (xs.map Boat.enc))) (.c (cw 6 (marked mkB 6 [] k xs.length))) [.c (.i k)] (.c (.i (k + 6 * xs.length))):=by
 rcases Nat.eq_zero_or_pos xs.length with hx | hx
 ·have : xs = []:=List.length_eq_zero_iff.1 hx
  subst this
  refine ybO yhb (by simp) (by simp) rfl fun hwf=>?_
  simp -dsimp -implicitDefEqProofs [yeO,marked]
  refine yg (ι:=Unit) (fun _=>True) (fun _=>yO [(0,.c (.sl 6 [])),(1,.c (.i k)),(5,.c (.i 0)),(1000000,.c (.sl 6 []))] []) (fun _=>0) () trivial (by apply yj <;> simp) ?_
  rintro _ _
  simp -dsimp -implicitDefEqProofs
 ·rw [yb4 (by simpa using hx),yb4 (by rw [yM]; exact hx)]
  refine ybO yhb (by simp) (by simp) rfl fun hwf=>?_
  simp -dsimp -implicitDefEqProofs [yeO]
  refine yg (ι:=Nat) (fun i=>i ≤ xs.length) (fun i=>yO [(0,.own 0 6 xs.length),(1,.c (.i (k + 6 * i))),(5,.c (.i i)),(1000000,.own 0 6 xs.length)] [(0,.row 6 (marked mkB 6 (xs.map Boat.enc) k i))]) (fun i=>xs.length - i) 0 (by simp) (by apply yj <;> simp [ydX]) ?_
  rintro i hi
  rcases Nat.lt_or_ge i xs.length with hlt | hge
  ·obtain ⟨e,he⟩ : ∃ e,xs[i]? = some e:=⟨_,List.getElem?_eq_getElem hlt⟩
   have hg:=yeR (mk:=mkB) (c:=6) (k:=k) (rows:=xs.map Boat.enc) (i:=i) (r:=e.enc) (by simp [he])
   have hl:=yeV (mk:=mkB) (c:=6) (k:=k) (rows:=xs.map Boat.enc) (i:=i) (by simpa using hi)
   have hs:=ye0 (mk:=mkB) (c:=6) (k:=k) (rows:=xs.map Boat.enc) (i:=i) (by simpa using hlt)
   rw [List.length_map] at hl
   generalize marked mkB 6 (xs.map Boat.enc) k i = M at *
   have hlt2 : i < M.length:=by omega
   have hself : ∀ a,(M.set i a)[i]? = some a:=fun a=>List.getElem?_set_self hlt2
   simp only [mkB] at hs
   simp only [Boat.enc] at hg
   simp -dsimp -implicitDefEqProofs [yG hlt,hg,hl,hlt2,hself]
   intro hlen
   refine ⟨hlt,by unfold inI; omega,hlt,by unfold inI; omega,hlt,by unfold inI; omega,hlt,by unfold inI; omega,hlt,by unfold inI; omega,hlt,by unfold inI; omega,by unfold inI; omega,i + 1,hlt,by omega,?_⟩
   apply yj <;> simp [hs,hself] <;> omega
  ·have : i = xs.length:=by omega
   subst this
   simp -dsimp -implicitDefEqProofs
   intro _
   have e:=yeI (mk:=mkB) (c:=6) (rows:=xs.map Boat.enc) (k:=k) (i:=xs.length) (by simp)
   rw [e,List.length_map,List.take_of_length_le (by rw [yM]; exact Nat.le_refl _)]
def nB (r : List Boat) : Nat:=6 * r.length
def fB (k : Int) (r : List Boat) : List C:=[.ow 6 (marked mkB 6 [] k r.length)]
theorem yfJ (xs : List (List Boat)) (k : Int) (h0 : 0 ≤ k) (h1 : k + cnt nB xs ≤ 8000000000000000000) :
 InF Tryz.prog 145 (.c (ct 1 (xs.map yT))) (.c (ct 1 (yaA fB nB k xs))) [.c (.i k)] (.c (.i (k + cnt nB xs))):=by
 rcases Nat.eq_zero_or_pos xs.length with hx | hx
 ·have : xs = []:=List.length_eq_zero_iff.1 hx
  subst this
  refine ybO ygG (by simp) (by simp) rfl fun hwf=>?_
  simp -dsimp -implicitDefEqProofs [yem,yaA,cnt]
  refine yg (ι:=Unit) (fun _=>True) (fun _=>yO [(0,.c (.sl 1 [])),(1,.c (.i k)),(5,.c (.i 0)),(1000000,.c (.sl 1 []))] []) (fun _=>0) () trivial (by apply yj <;> simp) ?_
  rintro _ _
  simp -dsimp -implicitDefEqProofs
 ·rw [ycP (by simpa using hx),ycP (by rw [yH]; exact hx)]
  refine ybO ygG (by simp) (by simp) rfl fun hwf=>?_
  simp -dsimp -implicitDefEqProofs [yem]
  refine yg (ι:=Nat) (fun i=>i ≤ xs.length) (fun i=>yO [(0,.own 0 1 xs.length),(1,.c (.i (k + yaK nB xs i))),(5,.c (.i i)),(1000000,.own 0 1 xs.length)] [(0,.tr 1 0 (ycA fB yT nB k xs i))]) (fun i=>xs.length - i) 0 (by simp) (by apply yj <;> simp [ydh,ya0,Obj.leO]) ?_
  rintro i hi
  rcases Nat.lt_or_ge i xs.length with hlt | hge
  ·obtain ⟨e,he⟩ : ∃ e,xs[i]? = some e:=⟨_,List.getElem?_eq_getElem hlt⟩
   have hg:=yd5 (f:=fB) (g:=yT) (n:=nB) (k:=k) he
   have hl:=yd1 (f:=fB) (g:=yT) (n:=nB) (k:=k) (xs:=xs) (i:=i)
   have hs:=yd3 (f:=fB) (g:=yT) (n:=nB) (k:=k) he
   have hc:=ya1 (n:=nB) he
   have hle:=ybS (n:=nB) (xs:=xs) (i:=i + 1)
   have hn : nB e = 6 * e.length:=rfl
   generalize hM : ycA fB yT nB k xs i = M at *
   have hlt2 : i < M.length:=by omega
   have g1 : M[i] = yT e:=(List.getElem?_eq_some_iff.1 hg).2
   have hself : ∀ a,(M.set i a)[i]? = some a:=fun a=>List.getElem?_set_self hlt2
   simp -dsimp -implicitDefEqProofs [yG hlt,hg,hl,hlt2,g1,yT]
   intro hlen
   refine ⟨hlt,yb3 (k0:=1) (ver:=0) (j:=0) (i:=(i : Int)) (rows:=M) (r:=yT e) (c:=.ow 6 (e.map Boat.enc)) (c':=.ow 6 (marked mkB 6 [] (k + yaK nB xs i) e.length)) (yvd e (k + yaK nB xs i) (by omega) (by omega)) (by simp) rfl rfl rfl (by simpa using hg) rfl ⟨_,by rw [yM]; simp,rfl,rfl,rfl⟩ (by simp [C.sz]) ?_⟩
   have e0 : (yT e).set 0 (.ow 6 (marked mkB 6 [] (k + yaK nB xs i) e.length)) = fB (k + yaK nB xs i) e:=rfl
   rw [e0]
   simp -dsimp -implicitDefEqProofs
   refine ⟨yw hlt hlen,i + 1,hlt,by omega,?_⟩
   apply yj <;> simp [Obj.leO,hs] <;> omega
  ·have : i = xs.length:=by omega
   subst this
   simp -dsimp -implicitDefEqProofs
   intro _
   rw [yd9 (Nat.le_refl _),ybl (Nat.le_refl _),List.take_of_length_le (by rw [yH]; exact Nat.le_refl _)]
   exact ⟨rfl,rfl⟩
theorem yvh {α : Type} {B : Nat} : ∀ {l : List (List α)},(∀ r ∈ l,r.length ≤ B) → l.flatten.length ≤ l.length * B
 | [],_=>by simp
 | r :: l,h=>by
  have h1:=yvh (l:=l) fun x hx=>h x (by simp [hx])
  have h2:=h r (by simp)
  simp only [List.flatten_cons,List.length_append,List.length_cons,Nat.add_mul,Nat.one_mul]
  omega
def heads {α : Type} (l : List (List α)) (k : Nat) : List α:=(l.take k).flatten
theorem yeU {α : Type} {l : List (List α)} : heads l 0 = []:=rfl
theorem yhH {α : Type} {l : List (List α)} {k : Nat} {r : List α} (h : l[k]? = some r) : heads l (k + 1) = heads l k ++ r:=by
 unfold heads; rw [List.take_succ,h]; simp
theorem yjI {α : Type} {l : List (List α)} {k : Nat} (h : l.length ≤ k) : heads l k = l.flatten:=by
 unfold heads; rw [List.take_of_length_le h]
theorem yi0 {α : Type} {l : List (List α)} (h : ycs (ycs fun _ : α=>True) l) (k : Nat) : (heads l k).length ≤ 1099511627776:=by
 have h1:=yvh (l:=l.take k) (B:=1048576) fun r hr=>(h.2 r (List.mem_of_mem_take hr)).1
 have h2:=h.1
 have h3 : (l.take k).length ≤ 1048576:=by simp; omega
 have h4:=Nat.mul_le_mul_right 1048576 h3
 unfold heads
 omega
def Train.yas (t : Train) : List Boat:=t.Rows.flatten
theorem yzj {t : Train} (h : t.small) : t.yas.length ≤ 1099511627776:=by
 have:=yi0 h t.Rows.length
 rwa [yjI (Nat.le_refl _)] at this
theorem yoX (t : Train) (h : t.small) : yB Tryz.prog 92 [.agg (t.enc.map .c)] (.c (.sl 6 (t.yas.map Boat.enc))):=by
 refine yh ynj ?_
 simp -dsimp -implicitDefEqProofs
 refine yg (ι:=Nat) (fun k=>k ≤ t.Rows.length) (fun k=>yO [(1,.box 1 0),(3,.own 5 6 (heads t.Rows k).length),(4,.c (.i k))] [(1,.box (t.enc.map .c)),(5,.row 6 ((heads t.Rows k).map Boat.enc))]) (fun k=>t.Rows.length - k) 0 (by simp) (by apply yj <;> simp [yeU]) ?_
 rintro k hk
 rcases Nat.lt_or_ge k t.Rows.length with hlt | hge
 ·obtain ⟨r,hr⟩ : ∃ r,t.Rows[k]? = some r:=⟨_,List.getElem?_eq_getElem hlt⟩
  have hb:=yi0 h (k + 1)
  have hf:=yhH hr
  rw [hf,List.length_append] at hb
  have hm:=h.1
  simp -dsimp -implicitDefEqProofs [hr,yG hlt]
  intro hlen
  refine ⟨by omega,yw hlt hlen,k + 1,hlt,by omega,?_⟩
  apply yj <;> simp [hf]
 ·simp -dsimp -implicitDefEqProofs [yaB hge]
  rw [yjI hge]
  intro _
  rw [List.take_of_length_le (by rw [List.length_map]; exact Nat.le_refl _)]; rfl
def ybr (b : Boat) : Bool:=inRange b.Id 1 9999 && inRange b.Length 1 200 && inRange b.Width 1 30 && inRange b.Draught 1 100 && inRange b.Speed 1 50 && inRange b.Class 0 2
theorem yvm (b : Boat) : yB Tryz.prog 173 [.agg (b.enc.map .c)] (.c (.b (ybr b))):=by
 refine yh yrf ?_
 simp -dsimp -implicitDefEqProofs
 refine yc (yD b.Id 1 9999) ?_
 simp -dsimp -implicitDefEqProofs
 refine ⟨fun h=>?_,fun h=>by simp [ybr,h]⟩
 refine yc (yD b.Length 1 200) ?_
 simp -dsimp -implicitDefEqProofs
 refine ⟨fun h1=>?_,fun h1=>by simp [ybr,h1]⟩
 refine yc (yD b.Width 1 30) ?_
 simp -dsimp -implicitDefEqProofs
 refine ⟨fun h2=>?_,fun h1=>by simp [ybr,h1]⟩
 refine yc (yD b.Draught 1 100) ?_
 simp -dsimp -implicitDefEqProofs
 refine ⟨fun h3=>?_,fun h1=>by simp [ybr,h1]⟩
 refine yc (yD b.Speed 1 50) ?_
 simp -dsimp -implicitDefEqProofs
 refine ⟨fun h4=>?_,fun h1=>by simp [ybr,h1]⟩
 refine yc (yD b.Class 0 2) ?_
 simp -dsimp -implicitDefEqProofs
 simp [ybr,h,h1,h2,h3,h4]
theorem yuc (b : Boat) : yB Tryz.prog 188 [.agg (b.enc.map .c)] (.c (.b (ybr b))):=by
 refine yh yqo ?_
 simp -dsimp -implicitDefEqProofs
 refine yc (yC b.Id 1 9999) ?_
 simp -dsimp -implicitDefEqProofs
 refine ⟨fun h=>?_,fun h=>by simp [ybr,h]⟩
 refine yc (yC b.Length 1 200) ?_
 simp -dsimp -implicitDefEqProofs
 refine ⟨fun h1=>?_,fun h1=>by simp [ybr,h1]⟩
 refine yc (yC b.Width 1 30) ?_
 simp -dsimp -implicitDefEqProofs
 refine ⟨fun h2=>?_,fun h1=>by simp [ybr,h1]⟩
 refine yc (yC b.Draught 1 100) ?_
 simp -dsimp -implicitDefEqProofs
 refine ⟨fun h3=>?_,fun h1=>by simp [ybr,h1]⟩
 refine yc (yC b.Speed 1 50) ?_
 simp -dsimp -implicitDefEqProofs
 refine ⟨fun h4=>?_,fun h1=>by simp [ybr,h1]⟩
 refine yc (yC b.Class 0 2) ?_
 simp -dsimp -implicitDefEqProofs
 simp [ybr,h,h1,h2,h3,h4]
def indexOf (l : List Int) (n : Int) : Int:=match l.findIdx? (fun x=>n == x) with | some i=>i | none=>-1
theorem yph {l : List Int} {n : Int} : (0 ≤ indexOf l n) = (n ∈ l):=by
 unfold indexOf
 cases h : l.findIdx? (fun x=>n == x) with
 | none =>
  rw [List.findIdx?_eq_none_iff] at h
  show (0 ≤ (-1 : Int)) = _
  simp only [eq_iff_iff]
  refine ⟨fun h1=>by omega,fun hm=>?_⟩
  have:=h n hm
  simp at this
 | some i =>
  rw [List.findIdx?_eq_some_iff_getElem] at h
  obtain ⟨hi,h1,_⟩:=h
  simp only [eq_iff_iff]
  refine ⟨fun _=>?_,fun _=>by omega⟩
  have : n = l[i]:=by simpa using h1
  rw [this]; exact List.getElem_mem _
theorem yww {l : List Int} {n : Int} {k : Nat} (h : l[k]? = some n) (hn : ∀ x ∈ l.take k,n ≠ x) : indexOf l n = k:=by
 unfold indexOf
 have : l.findIdx? (fun x=>n == x) = some k:=by
  rw [List.findIdx?_eq_some_iff_getElem]
  obtain ⟨hk1,hk2⟩:=List.getElem?_eq_some_iff.1 h
  refine ⟨hk1,by simp [hk2],fun j hj=>?_⟩
  have:=hn (l[j]'(by omega)) (List.mem_take_iff_getElem.2 ⟨j,by omega,rfl⟩)
  simpa using this
 rw [this]
theorem yv9 {l : List Int} {n : Int} {k : Nat} (hk : l.length ≤ k) (hn : ∀ x ∈ l.take k,n ≠ x) : indexOf l n = -1:=by
 rw [List.take_of_length_le hk] at hn
 unfold indexOf
 have : l.findIdx? (fun x=>n == x) = none:=by
  rw [List.findIdx?_eq_none_iff]
  intro x hx
  simpa using hn x hx
 rw [this]
theorem yzA {l : List Int} {n x : Int} {k : Nat} (h : l[k]? = some x) (hx : n ≠ x) (hn : ∀ x ∈ l.take k,n ≠ x) : ∀ x ∈ l.take (k + 1),n ≠ x:=by
 intro y hy
 rw [List.take_succ,h] at hy
 rcases List.mem_append.1 hy with h1 | h1
 ·exact hn y h1
 ·simp at h1; rw [h1]; exact hx
theorem yBu (l : List Int) (n : Int) : yB Tryz.prog 109 [.c (.sl 1 (l.map yJ)),.c (.i n)] (.c (.i (indexOf l n))):=by
 refine yh ygi ?_
 simp -dsimp -implicitDefEqProofs
 intro hlen
 refine yg (ι:=Nat) (fun k=>k ≤ l.length ∧ ∀ x ∈ l.take k,n ≠ x) (fun k=>yO [(0,.c (.sl 1 (l.map yJ))),(1,.c (.i n)),(7,.c (.i l.length)),(8,.c (.i k))] []) (fun k=>l.length - k) 0 (by simp) (by apply yj <;> simp) ?_
 rintro k ⟨hk,hn⟩
 rcases Nat.lt_or_ge k l.length with hlt | hge
 ·obtain ⟨x,hx⟩ : ∃ x,l[k]? = some x:=⟨_,List.getElem?_eq_getElem hlt⟩
  simp -dsimp -implicitDefEqProofs [hx,yG hlt]
  refine ⟨fun h=>?_,fun h=>⟨yw hlt hlen,k + 1,⟨hlt,yzA hx h hn⟩,by omega,by apply yj <;> simp⟩⟩
  exact yww (h ▸ hx) hn
 ·simp -dsimp -implicitDefEqProofs [yaB hge]
  exact yv9 hge hn
theorem ypJ (l : List Int) (n : Int) : yB Tryz.prog 42 [.c (.sl 1 (l.map yJ)),.c (.i n)] (.c (.b (decide (n ∈ l)))):=by
 refine yh yfu ?_
 simp -dsimp -implicitDefEqProofs
 refine yc (yBu l n) ?_
 simp -dsimp -implicitDefEqProofs [yph]
def yfy (b : Boat) : Int:=b.Id
def full (r : List Boat) : Bool:=decide (r.length ≠ 0)
theorem ytQ {r : List Boat} : full r = true ↔ r.length ≠ 0:=by simp [full]
def yP (t : Train) : Bool:=t.Rows.all full && t.yas.all ybr && decide ((t.yas.map yfy).Nodup) && inRange t.yas.length 1 6
theorem ykm {l : List Boat} {k : Nat} {b : Boat} (h : l[k]? = some b) : (((l.take (k + 1)).map yfy).Nodup ↔ ((l.take k).map yfy).Nodup ∧ b.Id ∉ (l.take k).map yfy):=by
 rw [List.take_succ,h,List.map_append]
 simp only [Option.toList_some,List.map_cons,List.map_nil,List.nodup_append,List.nodup_cons,List.not_mem_nil,not_false_eq_true,List.nodup_nil,and_self,true_and,List.mem_singleton,forall_eq,yfy]
 constructor
 ·rintro ⟨h1,h2⟩; exact ⟨h1,fun hm=>h2 _ hm rfl⟩
 ·rintro ⟨h1,h2⟩; exact ⟨h1,fun x hx e=>h2 (e ▸ hx)⟩
theorem yyf {l : List Boat} {k : Nat} (h : ¬ ((l.take k).map yfy).Nodup) : ¬ (l.map yfy).Nodup:=by
 intro hn
 refine h ?_
 rw [← List.take_append_drop k l,List.map_append] at hn
 exact (List.nodup_append.1 hn).1
def yry (l : List Boat) (k : Nat) : List Int:=(l.take k).map yfy
theorem yds (t : Train) (h : t.small) : yB Tryz.prog 89 [.agg (t.enc.map .c)] (.c (.b (yP t))):=by
 refine yh yoi ?_
 simp -dsimp -implicitDefEqProofs
 refine yS (yoX t h) ?_
 simp -dsimp -implicitDefEqProofs
 refine yg (ι:=Nat) (fun k=>k ≤ t.Rows.length ∧ ∀ r ∈ t.Rows.take k,full r = true) (fun k=>yO [(1,.box 1 0),(3,.c (.sl 6 (t.yas.map Boat.enc))),(4,.c (.i k))] [(1,.box (t.enc.map .c))]) (fun k=>t.Rows.length - k) 0 (by simp) (by apply yj <;> simp) ?_
 rintro k ⟨hk,hall⟩
 rcases Nat.lt_or_ge k t.Rows.length with hlt | hge
 ·obtain ⟨r,hr⟩ : ∃ r,t.Rows[k]? = some r:=⟨_,List.getElem?_eq_getElem hlt⟩
  simp -dsimp -implicitDefEqProofs [hr,yG hlt]
  intro hlen _
  refine ⟨fun h0=>?_,fun h0=>?_⟩
  ·have : t.Rows.all full = false:=all_false (p:=full) hr (by simp [full,h0])
   simp only [yP,this,Bool.false_and]
  ·exact ⟨yw hlt hlen,k + 1,⟨by omega,yL (p:=full) hr hall (by simp [full,h0])⟩,by omega,by apply yj <;> simp⟩
 ·have hrows:=yX (p:=full) hge hall
  simp -dsimp -implicitDefEqProofs [yaB hge]
  intro _
  have hbl:=yzj h
  refine yg (ι:=Nat) (fun k=>k ≤ t.yas.length ∧ (∀ b ∈ t.yas.take k,ybr b = true) ∧ (yry t.yas k).Nodup) (fun k=>yO [(3,.c (.sl 6 (t.yas.map Boat.enc))),(5,.c (.i k))] []) (fun k=>t.yas.length - k) 0 (by simp [yry]) (by apply yj <;> simp) ?_
  rintro k ⟨hk,hok,hnd⟩
  have fin : t.yas.length ≤ 6 → k = t.yas.length → yP t = inRange t.yas.length 1 6:=by
   intro h6 e
   have h1:=yX (p:=ybr) (by omega) hok
   rw [e,yry,List.take_length] at hnd
   simp [yP,hrows,h1,hnd]
  rcases Nat.lt_or_ge k t.yas.length with hlt | hge
  ·obtain ⟨b,hb⟩ : ∃ b,t.yas[k]? = some b:=⟨_,List.getElem?_eq_getElem hlt⟩
   by_cases h6 : t.yas.length ≤ 6
   ·have h6' : ((t.yas.length : Int) ≤ 6) = True:=by simp; omega
    simp -dsimp -implicitDefEqProofs [hb,yG hlt,h6']
    intro hlen
    refine yc (yvm b) ?_
    simp -dsimp -implicitDefEqProofs
    refine ⟨fun h1=>?_,fun h1=>?_⟩
    ·have : t.yas.all ybr = false:=all_false (p:=ybr) hb h1
     simp only [yP,this,Bool.false_and,Bool.and_false]
    have hok':=yL (p:=ybr) hb hok h1
    refine yg (ι:=Nat) (fun i=>i ≤ k ∧ b.Id ∉ yry t.yas i) (fun i=>yO [(3,.c (.sl 6 (t.yas.map Boat.enc))),(5,.c (.i k)),(6,.c (.i i))] []) (fun i=>k - i) 0 (by simp [yry]) (by apply yj <;> simp) ?_
    rintro i ⟨hi,hni⟩
    rcases Nat.lt_or_ge i k with hlt2 | hge2
    ·obtain ⟨c,hc⟩ : ∃ c,t.yas[i]? = some c:=⟨_,List.getElem?_eq_getElem (by omega)⟩
     have hi3 : (i : Int) < t.yas.length:=by omega
     simp -dsimp -implicitDefEqProofs [hb,hc,yG hlt,yG hlt2,hi3]
     refine ⟨fun h2=>?_,fun h2=>?_⟩
     ·have : ¬ (t.yas.map yfy).Nodup:=by
       refine yyf (k:=k + 1) fun hn=>?_
       refine ((ykm hb).1 hn).2 ?_
       rw [← h2]
       exact List.mem_map.2 ⟨c,List.mem_iff_getElem?.2 ⟨i,by rw [List.getElem?_take,if_pos hlt2]; exact hc⟩,rfl⟩
      simp [yP,this]
     ·refine ⟨by unfold inI; omega,i + 1,⟨hlt2,?_⟩,by omega,by apply yj <;> simp⟩
      rw [yry,List.take_succ,hc,List.map_append]
      simp only [List.mem_append,Option.toList_some,List.map_cons,List.map_nil,List.mem_singleton,yfy]
      rintro (h3 | h3)
      ·exact hni h3
      ·exact h2 h3.symm
    ·simp -dsimp -implicitDefEqProofs [yaB hge2]
     have e : i = k:=by omega
     rw [e] at hni
     exact ⟨by unfold inI; omega,k + 1,⟨hlt,hok',(ykm hb).2 ⟨hnd,hni⟩⟩,by omega,by apply yj <;> simp⟩
   ·have h6' : ((t.yas.length : Int) ≤ 6) = False:=by simp; omega
    simp -dsimp -implicitDefEqProofs [hb,yG hlt,h6']
    intro hlen
    refine yc (yD t.yas.length 1 6) ?_
    simp -dsimp -implicitDefEqProofs
    have h7 : inRange t.yas.length 1 6 = false:=ycG.2 (by omega)
    simp only [yP,h7,Bool.and_false]
  ·simp -dsimp -implicitDefEqProofs [yaB hge]
   intro hlen
   refine yc (yD t.yas.length 1 6) ?_
   simp -dsimp -implicitDefEqProofs
   by_cases h6 : t.yas.length ≤ 6
   ·rw [fin h6 (by omega)]
   ·have h7 : inRange t.yas.length 1 6 = false:=ycG.2 (by omega)
    simp only [yP,h7,Bool.and_false]
theorem yvl {t : Train} {k : Nat} {r : List Boat} (h : t.Rows[k]? = some r) : ∃ m,t.yas = heads t.Rows k ++ r ++ m:=by
 refine ⟨(t.Rows.drop (k + 1)).flatten,?_⟩
 unfold Train.yas
 conv=>lhs; rw [← List.take_append_drop (k + 1) t.Rows]
 rw [List.flatten_append,← yhH h]; rfl
theorem yBC {t : Train} {k : Nat} {r : List Boat} (h : t.Rows[k]? = some r) (h0 : r.length = 0) : yP t = false:=by
 have : t.Rows.all full = false:=all_false (p:=full) h (by simp [full,h0])
 simp only [yP,this,Bool.false_and]
theorem yD8 {t : Train} (h : 6 < t.yas.length) : yP t = false:=by
 have h7 : inRange t.yas.length 1 6 = false:=ycG.2 (by omega)
 simp only [yP,h7,Bool.and_false]
theorem yBq {t : Train} {b : Boat} (hb : b ∈ t.yas) (h : ybr b = false) : yP t = false:=by
 obtain ⟨i,hi⟩:=List.getElem?_of_mem hb
 have : t.yas.all ybr = false:=all_false (p:=ybr) hi h
 simp only [yP,this,Bool.false_and,Bool.and_false]
theorem yEq {t : Train} (h : ¬ (t.yas.map yfy).Nodup) : yP t = false:=by simp [yP,h]
def yfA (l : List Boat) : List (List C):=(l.map yfy).map yJ ++ List.replicate (6 - l.length) [.i 0]
theorem yzV {l : List Boat} (h : l.length ≤ 6) : (yfA l).length = 6:=by simp [yfA]; omega
theorem yyx {l : List Boat} {n : Nat} (h : n = l.length) : (yfA l).take n = (l.map yfy).map yJ:=by
 subst h; unfold yfA; rw [List.take_append_of_le_length (by simp),List.take_of_length_le (by simp)]
theorem yyK {l : List Boat} {b : Boat} (h : l.length < 6) : (yfA l).set l.length [.i b.Id] = yfA (l ++ [b]):=by
 unfold yfA
 rw [List.set_append_right _ _ (by simp)]
 have h1 : ((l.map yfy).map yJ).length = l.length:=by simp
 rw [h1,Nat.sub_self,show 6 - l.length = (6 - (l.length + 1)) + 1 by omega,List.replicate_succ,List.set_cons_zero]
 simp [yfy]
theorem yzC {l : List Boat} (h : l.length < 6) : (yfA l)[l.length]?.getD [] = [.i 0]:=by
 unfold yfA
 rw [List.getElem?_append_right (by simp)]
 have h1 : ((l.map yfy).map yJ).length = l.length:=by simp
 rw [h1,Nat.sub_self,List.getElem?_replicate,if_pos (by omega)]; rfl
theorem yzu : yfA [] = List.replicate 6 [.i 0]:=rfl
structure Met (l : List Boat) : Prop where
 ok : ∀ b ∈ l,ybr b = true
 nd : (l.map yfy).Nodup
 len : l.length ≤ 6
theorem Met.snoc {l : List Boat} {b : Boat} (h : Met l) (h1 : ybr b = true) (h2 : b.Id ∉ l.map yfy) (h3 : l.length < 6) : Met (l ++ [b]):=by
 refine ⟨?_,?_,by simp; omega⟩
 ·intro x hx
  rcases List.mem_append.1 hx with hx | hx
  ·exact h.ok x hx
  ·rw [List.mem_singleton.1 hx]; exact h1
 ·have:=@ykm (l ++ [b]) l.length b (by simp)
  rw [show l.length + 1 = (l ++ [b]).length by simp,List.take_length] at this
  rw [this,List.take_left']
  ·exact ⟨h.nd,h2⟩
  ·rfl
def yfe (t : Train) (k : Nat) (r : List Boat) (j : Nat) : List Boat:=heads t.Rows k ++ r.take j
theorem yoG {t : Train} {k : Nat} {r : List Boat} : yfe t k r 0 = heads t.Rows k:=by simp [yfe]
theorem yvY {t : Train} {k : Nat} {r : List Boat} {j : Nat} {b : Boat} (h : r[j]? = some b) : yfe t k r (j + 1) = yfe t k r j ++ [b]:=by
 unfold yfe; rw [List.take_succ,h]; simp
theorem yrL {t : Train} {k : Nat} {r : List Boat} {j : Nat} (hr : t.Rows[k]? = some r) (h : r.length ≤ j) : yfe t k r j = heads t.Rows (k + 1):=by
 unfold yfe; rw [List.take_of_length_le h,yhH hr]
theorem yxV {t : Train} {k : Nat} {r : List Boat} {j : Nat} (h : j ≤ r.length) : (yfe t k r j).length = (heads t.Rows k).length + j:=by
 unfold yfe; simp; omega
theorem ydp (t : Train) (h : t.small) : yB Tryz.prog 104 [.agg (t.enc.map .c)] (.c (.b (yP t))):=by
 refine yh yoE ?_
 simp -dsimp -implicitDefEqProofs
 intro hlen
 refine ⟨fun h0 _=>⟨fun h1=>?_,fun h1 _=>?_⟩,fun h0=>?_⟩
 ·by_cases h2 : yP t = false
  ·exact h2
  ·exfalso
   have h3 : yP t = true:=by simpa using h2
   simp only [yP,Bool.and_eq_true,List.all_eq_true] at h3
   obtain ⟨⟨⟨h4,_⟩,_⟩,h5⟩:=h3
   have h6:=yF.1 h5
   have : ∀ l : List (List Boat),(∀ r ∈ l,full r = true) → l.length ≤ l.flatten.length:=by
    intro l
    induction l with
    | nil=>simp
    | cons r l ih =>
     intro hl
     have e1:=ih fun x hx=>hl x (by simp [hx])
     have e2:=ytQ.1 (hl r (by simp))
     simp only [List.length_cons,List.flatten_cons,List.length_append]; omega
   have:=this t.Rows h4
   unfold Train.yas at h6
   omega
 ·refine yg (ι:=Nat) (fun k=>k ≤ t.Rows.length ∧ (∀ r ∈ t.Rows.take k,full r = true) ∧ Met (heads t.Rows k)) (fun k=>yO [(3,.row 3 1 0 0),(4,.c (.i (heads t.Rows k).length)),(20,.c (.sl 1 (t.Rows.map yai))),(21,.c (.i t.Rows.length)),(22,.c (.i k))] [(3,.row 1 (yfA (heads t.Rows k)))]) (fun k=>t.Rows.length - k) 0 ⟨by simp,by simp,by simp [yeU],by simp [yeU],by simp [yeU]⟩ (by apply yj <;> simp [yeU,yzu]) ?_
  rintro k ⟨hk,hall,hm⟩
  rcases Nat.lt_or_ge k t.Rows.length with hlt | hge
  ·obtain ⟨r,hr⟩ : ∃ r,t.Rows[k]? = some r:=⟨_,List.getElem?_eq_getElem hlt⟩
   have hml:=hm.len
   have hrs:=(h.2 r (List.mem_of_getElem? hr)).1
   obtain ⟨rest,hsp⟩:=yvl hr
   simp -dsimp -implicitDefEqProofs [hr,yG hlt]
   intro hrl
   refine ⟨fun hr0 _=>⟨by unfold inI; omega,fun h6=>?_,fun h6 _=>?_⟩,fun hr0=>?_⟩
   ·refine yD8 ?_
    rw [hsp]; simp only [List.length_append]; omega
   ·refine yg (ι:=Nat) (fun j=>j ≤ r.length ∧ Met (yfe t k r j)) (fun j=>yO [(3,.row 3 1 0 0),(4,.c (.i (yfe t k r j).length)),(20,.c (.sl 1 (t.Rows.map yai))),(21,.c (.i t.Rows.length)),(22,.c (.i k)),(36,.c (.sl 6 (r.map Boat.enc))),(37,.c (.i r.length)),(38,.c (.i j))] [(3,.row 1 (yfA (yfe t k r j)))]) (fun j=>r.length - j) 0 ⟨by simp,by rw [yoG]; exact hm⟩ (by apply yj <;> simp [yoG]) ?_
    rintro j ⟨hj,hmj⟩
    rcases Nat.lt_or_ge j r.length with hlt2 | hge2
    ·obtain ⟨b,hb⟩ : ∃ b,r[j]? = some b:=⟨_,List.getElem?_eq_getElem hlt2⟩
     have hsl:=yxV (t:=t) (k:=k) hj
     have hlt6 : (yfe t k r j).length < 6:=by omega
     have hmem : b ∈ t.yas:=by
      rw [hsp]; simp only [List.mem_append]; exact .inl (.inr (List.mem_of_getElem? hb))
     simp -dsimp -implicitDefEqProofs [hb,yG hlt2]
     refine yaC (yuc b) ?_
     simp -dsimp -implicitDefEqProofs
     refine ⟨fun h2=>?_,fun h2=>yBq hmem h2⟩
     have hsn:=yzV hmj.len
     refine ⟨by omega,hsn,?_⟩
     refine ⟨_,_,ypJ ((yfe t k r j).map yfy) b.Id,by simp [yyx],.inr rfl,?_⟩
     simp -dsimp -implicitDefEqProofs [yG hlt2,yzC hlt6,yyK hlt6]
     refine ⟨fun x hx he=>yEq fun hn=>?_,fun h3=>?_⟩
     ·have hsp2 : t.yas = yfe t k r j ++ (b :: (r.drop (j + 1) ++ rest)):=by
       rw [hsp]; unfold yfe
       have : r = r.take j ++ b :: r.drop (j + 1):=by
        conv=>lhs; rw [← List.take_append_drop j r]
        rw [List.drop_eq_getElem_cons hlt2,(List.getElem?_eq_some_iff.1 hb).2]
       conv=>lhs; rw [this]
       simp
      rw [hsp2,List.map_append,List.map_cons] at hn
      exact (List.nodup_append.1 hn).2.2 _ (List.mem_map_of_mem hx) _ (List.mem_cons_self) he
     ·have hni : b.Id ∉ (yfe t k r j).map yfy:=by
       intro hm'
       obtain ⟨x,hx,he⟩:=List.mem_map.1 hm'
       exact h3 x hx he
      have hs1:=yvY (t:=t) (k:=k) hb
      refine ⟨by omega,by omega,by unfold inI; omega,by unfold inI; omega,j + 1,⟨hlt2,by rw [hs1]; exact hmj.snoc h2 hni hlt6⟩,by omega,?_⟩
      apply yj <;> simp [hs1]
    ·simp -dsimp -implicitDefEqProofs [yaB hge2]
     rw [yrL hr hge2] at hmj
     refine ⟨by unfold inI; omega,k + 1,⟨hlt,yL (p:=full) hr hall (by simp [full,hr0]),hmj⟩,by omega,?_⟩
     apply yj <;> simp [yrL hr hge2]
   ·exact yBC hr (by simp [hr0])
  ·simp -dsimp -implicitDefEqProofs [yaB hge]
   rw [yjI hge] at hm
   have hr1:=yX (p:=full) hge hall
   have hb1 : t.yas.all ybr = true:=List.all_eq_true.2 hm.ok
   have hl1 : 0 < t.yas.length:=by
    obtain ⟨r,l,e⟩:=List.exists_cons_of_ne_nil h0
    have:=ytQ.1 (List.all_eq_true.1 hr1 r (by rw [e]; simp))
    unfold Train.yas
    rw [e]; simp only [List.flatten_cons,List.length_append]; omega
   have hl2 : t.yas.length ≤ 6:=hm.len
   have h7 : inRange t.yas.length 1 6 = true:=yF.2 (by omega)
   have hn1 : (t.yas.map yfy).Nodup:=hm.nd
   simp [yP,hr1,hb1,hn1,h7]
 ·have : t.yas = []:=by simp [Train.yas,h0]
  have h7 : inRange t.yas.length 1 6 = false:=by rw [this]; rfl
  simp only [yP,h7,Bool.and_false]
def ybk (m : Mover) (w : Way) : Bool:=yjg w && yP m.Train && inRange m.Place 0 w.Long
theorem yr9 (m : Mover) (w : Way) (h : m.small) : yB Tryz.prog 217 [.agg (m.enc.map .c),.agg (w.enc.map .c)] (.c (.b (ybk m w))):=by
 refine yh ypL ?_
 simp -dsimp -implicitDefEqProofs
 refine yc (ypN w) ?_
 simp -dsimp -implicitDefEqProofs
 refine ⟨fun h1=>?_,fun h1=>by simp [ybk,h1]⟩
 refine yc (ydp m.Train h) ?_
 simp -dsimp -implicitDefEqProofs
 refine ⟨fun h2=>?_,fun h2=>by simp [ybk,h2]⟩
 refine yc (yC m.Place 0 w.Long) ?_
 simp -dsimp -implicitDefEqProofs
 simp [ybk,h1,h2]
theorem yk6 (m : Mover) (w : Way) (h : m.small) : yB Tryz.prog 123 [.agg (m.enc.map .c),.agg (w.enc.map .c)] (.c (.b (ybk m w))):=by
 refine yh ypB ?_
 simp -dsimp -implicitDefEqProofs
 refine yc (ynZ w) ?_
 simp -dsimp -implicitDefEqProofs
 refine ⟨fun h1=>?_,fun h1=>by simp [ybk,h1]⟩
 refine yc (yds m.Train h) ?_
 simp -dsimp -implicitDefEqProofs
 refine ⟨fun h2=>?_,fun h2=>by simp [ybk,h2]⟩
 refine yc (yD m.Place 0 w.Long) ?_
 simp -dsimp -implicitDefEqProofs
 simp [ybk,h1,h2]
def endOf (t : Train) (w : Way) : Int:=if t.Up then 0 else w.Long
theorem yRE (t : Train) (w : Way) : yB Tryz.prog 221 [.agg (t.enc.map .c),.agg (w.enc.map .c)] (.c (.i (endOf t w))):=by
 refine yh yQY ?_
 simp -dsimp -implicitDefEqProofs
 exact ⟨fun h=>by simp [endOf,h],fun h=>by simp [endOf,h]⟩
def AtEnd (m : Mover) (w : Way) : Bool:=ybk m w && decide (m.Place = endOf m.Train w)
theorem yRj (m : Mover) (w : Way) (h : m.small) : yB Tryz.prog 139 [.agg (m.enc.map .c),.agg (w.enc.map .c)] (.c (.b (AtEnd m w))):=by
 refine yh yQW ?_
 simp -dsimp -implicitDefEqProofs
 refine yyA (yr9 m w h) ?_
 simp -dsimp -implicitDefEqProofs
 refine ⟨fun h1=>?_,fun h1=>by simp [AtEnd,h1]⟩
 refine yyA (yRE m.Train w) ?_
 simp -dsimp -implicitDefEqProofs
 simp [AtEnd,h1]
theorem yRk (m : Mover) (w : Way) (h : m.small) : yB Tryz.prog 56 [.agg (m.enc.map .c),.agg (w.enc.map .c)] (.c (.b (AtEnd m w))):=by
 refine yh yQ1 ?_
 simp -dsimp -implicitDefEqProofs
 refine yc (yk6 m w h) ?_
 simp -dsimp -implicitDefEqProofs
 refine ⟨fun h1=>by simp [AtEnd,h1],fun h1=>?_⟩
 exact ⟨fun h2=>by simp [AtEnd,endOf,h1,h2],fun h2=>by simp [AtEnd,endOf,h1,h2]⟩
def maxOf (f : Boat → Int) (l : List Boat) (z : Int) : Int:=l.foldl (fun m b=>if m < f b then f b else m) z
def minOf (f : Boat → Int) (l : List Boat) (z : Int) : Int:=l.foldl (fun m b=>if f b < m then f b else m) z
def yP9 (f : Boat → Int) (l : List Boat) (z : Int) (k : Nat) : Int:=maxOf f (l.take k) z
def yLK (f : Boat → Int) (l : List Boat) (z : Int) (k : Nat) : Int:=minOf f (l.take k) z
theorem yPJ {f : Boat → Int} {l : List Boat} {z : Int} : yP9 f l z 0 = z:=rfl
theorem yL8 {f : Boat → Int} {l : List Boat} {z : Int} : yLK f l z 0 = z:=rfl
theorem yQw {f : Boat → Int} {l : List Boat} {z : Int} {k : Nat} {b : Boat} (h : l[k]? = some b) : yP9 f l z (k + 1) = if yP9 f l z k < f b then f b else yP9 f l z k:=by
 unfold yP9 maxOf; rw [List.take_succ,h,List.foldl_append]; rfl
theorem yL1 {f : Boat → Int} {l : List Boat} {z : Int} {k : Nat} {b : Boat} (h : l[k]? = some b) : yLK f l z (k + 1) = if f b < yLK f l z k then f b else yLK f l z k:=by
 unfold yLK minOf; rw [List.take_succ,h,List.foldl_append]; rfl
theorem yQQ {f : Boat → Int} {l : List Boat} {z : Int} {k : Nat} (h : l.length ≤ k) : yP9 f l z k = maxOf f l z:=by
 unfold yP9; rw [List.take_of_length_le h]
theorem yMj {f : Boat → Int} {l : List Boat} {z : Int} {k : Nat} (h : l.length ≤ k) : yLK f l z k = minOf f l z:=by
 unfold yLK; rw [List.take_of_length_le h]
theorem yRc {f : Boat → Int} {a b : Int} : ∀ {l : List Boat} {z : Int},(∀ x ∈ l,a ≤ f x ∧ f x ≤ b) → a ≤ z → z ≤ b → a ≤ maxOf f l z ∧ maxOf f l z ≤ b
 | [],z,_,h1,h2=>⟨h1,h2⟩
 | x :: l,z,h,h1,h2=>by
  have:=h x (by simp)
  unfold maxOf
  rw [List.foldl_cons]
  refine yRc (l:=l) (fun y hy=>h y (by simp [hy])) ?_ ?_ <;> split <;> omega
theorem yMv {f : Boat → Int} {a b : Int} : ∀ {l : List Boat} {z : Int},(∀ x ∈ l,a ≤ f x ∧ f x ≤ b) → a ≤ z → z ≤ b → a ≤ minOf f l z ∧ minOf f l z ≤ b
 | [],z,_,h1,h2=>⟨h1,h2⟩
 | x :: l,z,h,h1,h2=>by
  have:=h x (by simp)
  unfold minOf
  rw [List.foldl_cons]
  refine yMv (l:=l) (fun y hy=>h y (by simp [hy])) ?_ ?_ <;> split <;> omega
structure TrainFacts (t : Train) : Prop where
 rows : ∀ r ∈ t.Rows,full r = true
 ok : ∀ b ∈ t.yas,ybr b = true
 nd : (t.yas.map yfy).Nodup
 pos : 1 ≤ t.yas.length
 len : t.yas.length ≤ 6
theorem yhY {t : Train} (h : yP t = true) : TrainFacts t:=by
 simp only [yP,Bool.and_eq_true,List.all_eq_true,decide_eq_true_eq] at h
 obtain ⟨⟨⟨h1,h2⟩,h3⟩,h4⟩:=h
 have h5:=yF.1 h4
 exact ⟨h1,h2,h3,by omega,by omega⟩
theorem yMg {b : Boat} (h : ybr b = true) : (1 ≤ b.Id ∧ b.Id ≤ 9999) ∧ (1 ≤ b.Length ∧ b.Length ≤ 200) ∧ (1 ≤ b.Width ∧ b.Width ≤ 30) ∧ (1 ≤ b.Draught ∧ b.Draught ≤ 100) ∧ (1 ≤ b.Speed ∧ b.Speed ≤ 50) ∧ (0 ≤ b.Class ∧ b.Class ≤ 2):=by
 simp only [ybr,Bool.and_eq_true] at h
 obtain ⟨⟨⟨⟨⟨h1,h2⟩,h3⟩,h4⟩,h5⟩,h6⟩:=h
 exact ⟨yF.1 h1,yF.1 h2,yF.1 h3,yF.1 h4,yF.1 h5,yF.1 h6⟩
theorem yya (t : Train) (h : t.small) : yB Tryz.prog 108 [.agg (t.enc.map .c)] (.c (.sl 6 (t.yas.map Boat.enc))):=by
 refine yh yoM ?_
 simp -dsimp -implicitDefEqProofs
 intro hlen
 refine ymd (k0:=6) 3 6 (by simp) (by simp) (by decide) ?_
 refine yg (ι:=Nat) (fun k=>k ≤ t.Rows.length) (fun k=>yO [(3,.own 3 6 (heads t.Rows k).length),(7,.c (.sl 1 (t.Rows.map yai))),(8,.c (.i t.Rows.length)),(9,.c (.i k))] [(3,.row 6 ((heads t.Rows k).map Boat.enc))]) (fun k=>t.Rows.length - k) 0 (by simp) (by apply yj <;> simp [yeU]) ?_
 rintro k hk
 rcases Nat.lt_or_ge k t.Rows.length with hlt | hge
 ·obtain ⟨r,hr⟩ : ∃ r,t.Rows[k]? = some r:=⟨_,List.getElem?_eq_getElem hlt⟩
  have hb:=yi0 h (k + 1)
  have hf:=yhH hr
  rw [hf,List.length_append] at hb
  simp -dsimp -implicitDefEqProofs [hr,yG hlt]
  refine ⟨by omega,yw hlt hlen,k + 1,hlt,by omega,?_⟩
  apply yj <;> simp [hf]
 ·simp -dsimp -implicitDefEqProofs [yaB hge]
  rw [yjI hge]
  rw [List.take_of_length_le (by rw [List.length_map]; exact Nat.le_refl _)]; rfl
def yPe (t : Train) : Int:=if yP t then maxOf Boat.Draught t.yas 0 else 0
theorem yPU (t : Train) (h : t.small) : yB Tryz.prog 279 [.agg (t.enc.map .c)] (.c (.i (yPe t))):=by
 refine yh yQk ?_
 simp -dsimp -implicitDefEqProofs
 refine yc (ydp t h) ?_
 simp -dsimp -implicitDefEqProofs
 refine ⟨fun h1=>by simp [yPe,h1],fun h1=>?_⟩
 refine yS (yya t h) ?_
 simp -dsimp -implicitDefEqProofs
 intro hlen
 refine yg (ι:=Nat) (fun k=>k ≤ t.yas.length) (fun k=>yO [(3,.c (.i (yP9 Boat.Draught t.yas 0 k))),(10,.c (.sl 6 (t.yas.map Boat.enc))),(11,.c (.i t.yas.length)),(12,.c (.i k))] []) (fun k=>t.yas.length - k) 0 (by simp) (by apply yj <;> simp [yPJ]) ?_
 rintro k hk
 rcases Nat.lt_or_ge k t.yas.length with hlt | hge
 ·obtain ⟨b,hb⟩ : ∃ b,t.yas[k]? = some b:=⟨_,List.getElem?_eq_getElem hlt⟩
  simp -dsimp -implicitDefEqProofs [hb,yG hlt]
  refine ⟨yw hlt hlen,k + 1,hlt,by omega,?_⟩
  apply yj <;> simp [yQw hb]
 ·simp -dsimp -implicitDefEqProofs [yaB hge]
  simp [yPe,h1,yQQ hge]
theorem yPR (t : Train) (h : t.small) : yB Tryz.prog 209 [.agg (t.enc.map .c)] (.c (.i (yPe t))):=by
 refine yh yQh ?_
 simp -dsimp -implicitDefEqProofs
 refine yS (yoX t h) ?_
 simp -dsimp -implicitDefEqProofs
 refine yg (ι:=Nat) (fun k=>k ≤ t.yas.length ∧ (k ≠ 0 → yP t = true)) (fun k=>yO [(1,.box 1 0),(3,.c (.i (yP9 Boat.Draught t.yas 0 k))),(4,.c (.sl 6 (t.yas.map Boat.enc))),(5,.c (.i k))] [(1,.box (t.enc.map .c))]) (fun k=>t.yas.length - k) 0 (by simp) (by apply yj <;> simp [yPJ]) ?_
 rintro k ⟨hk,hok⟩
 rcases Nat.lt_or_ge k t.yas.length with hlt | hge
 ·obtain ⟨b,hb⟩ : ∃ b,t.yas[k]? = some b:=⟨_,List.getElem?_eq_getElem hlt⟩
  simp -dsimp -implicitDefEqProofs [hb,yG hlt]
  intro hlen
  refine yc (yds t h) ?_
  simp -dsimp -implicitDefEqProofs [hb,yG hlt]
  refine ⟨fun h1=>?_,fun h1=>?_⟩
  ·refine ⟨yw hlt hlen,k + 1,⟨hlt,fun _=>h1⟩,by omega,?_⟩
   apply yj <;> simp [yQw hb]
  ·have : k = 0:=by
    rcases Nat.eq_zero_or_pos k with e | e
    ·exact e
    ·rw [hok (by omega)] at h1; cases h1
   subst this
   simp [yPe,h1,yPJ]
 ·simp -dsimp -implicitDefEqProofs [yaB hge]
  intro _
  by_cases h1 : yP t = true
  ·simp [yPe,h1,yQQ hge]
  ·have h2 : k = 0:=by
    rcases Nat.eq_zero_or_pos k with e | e
    ·exact e
    ·exact absurd (hok (by omega)) h1
   subst h2
   simp [yPe,h1,yPJ]
def yMM (f : Boat → Int) (l : List Boat) : Int:=match l with | b :: _=>f b | []=>0
def yPn (t : Train) : Int:=if yP t then minOf Boat.Speed t.yas (yMM Boat.Speed t.yas) else 0
theorem yNi {l : List Boat} {b : Boat} (h : l[0]? = some b) (f : Boat → Int) : yMM f l = f b:=by
 cases l with
 | nil=>simp at h
 | cons x l=>simp at h; rw [h]; rfl
theorem yLO {t : Train} (h : TrainFacts t) : ∃ r b,t.Rows[0]? = some r ∧ r[0]? = some b ∧ t.yas[0]? = some b:=by
 have h1:=h.pos
 cases hr : t.Rows with
 | nil=>unfold Train.yas at h1; rw [hr] at h1; simp at h1
 | cons r l =>
  have h2:=ytQ.1 (h.rows r (by rw [hr]; simp))
  cases r with
  | nil=>simp at h2
  | cons b r=>exact ⟨b :: r,b,rfl,rfl,by unfold Train.yas; rw [hr]; rfl⟩
theorem yQb (t : Train) (h : t.small) : yB Tryz.prog 280 [.agg (t.enc.map .c)] (.c (.i (yPn t))):=by
 refine yh yQy ?_
 simp -dsimp -implicitDefEqProofs
 refine yc (ydp t h) ?_
 simp -dsimp -implicitDefEqProofs
 refine ⟨fun h1=>by simp [yPn,h1],fun h1=>?_⟩
 obtain ⟨r,b0,e1,e2,e3⟩:=yLO (yhY h1)
 have l1 : 0 < t.Rows.length:=(List.getElem?_eq_some_iff.1 e1).1
 have l2 : 0 < r.length:=(List.getElem?_eq_some_iff.1 e2).1
 have f1:=(List.getElem?_eq_some_iff.1 e1).2
 have f2:=(List.getElem?_eq_some_iff.1 e2).2
 simp -dsimp -implicitDefEqProofs [e1,e2,l1,l2,f1,f2]
 refine yS (yya t h) ?_
 simp -dsimp -implicitDefEqProofs
 intro hlen
 refine yg (ι:=Nat) (fun k=>k ≤ t.yas.length) (fun k=>yO [(3,.c (.i (yLK Boat.Speed t.yas b0.Speed k))),(17,.c (.sl 6 (t.yas.map Boat.enc))),(18,.c (.i t.yas.length)),(19,.c (.i k))] []) (fun k=>t.yas.length - k) 0 (by simp) (by apply yj <;> simp [yL8]) ?_
 rintro k hk
 rcases Nat.lt_or_ge k t.yas.length with hlt | hge
 ·obtain ⟨b,hb⟩ : ∃ b,t.yas[k]? = some b:=⟨_,List.getElem?_eq_getElem hlt⟩
  simp -dsimp -implicitDefEqProofs [hb,yG hlt]
  refine ⟨yw hlt hlen,k + 1,hlt,by omega,?_⟩
  apply yj <;> simp [yL1 hb]
 ·simp -dsimp -implicitDefEqProofs [yaB hge]
  simp [yPn,h1,yMj hge,yNi e3]
theorem yQc (t : Train) (h : t.small) : yB Tryz.prog 210 [.agg (t.enc.map .c)] (.c (.i (yPn t))):=by
 refine yh yQp ?_
 simp -dsimp -implicitDefEqProofs
 refine yS (yoX t h) ?_
 simp -dsimp -implicitDefEqProofs
 refine yc (yds t h) ?_
 simp -dsimp -implicitDefEqProofs
 refine ⟨fun h1=>by simp [yPn,h1],fun h1=>?_⟩
 obtain ⟨r,b0,e1,e2,e3⟩:=yLO (yhY h1)
 have l1 : 0 < t.yas.length:=(List.getElem?_eq_some_iff.1 e3).1
 have f3:=(List.getElem?_eq_some_iff.1 e3).2
 simp -dsimp -implicitDefEqProofs [e3,l1,f3]
 refine yg (ι:=Nat) (fun k=>k ≤ t.yas.length) (fun k=>yO [(3,.c (.sl 6 (t.yas.map Boat.enc))),(4,.c (.i (yLK Boat.Speed t.yas b0.Speed k))),(5,.c (.i k))] []) (fun k=>t.yas.length - k) 0 (by simp) (by apply yj <;> simp [yL8]) ?_
 rintro k hk
 rcases Nat.lt_or_ge k t.yas.length with hlt | hge
 ·obtain ⟨b,hb⟩ : ∃ b,t.yas[k]? = some b:=⟨_,List.getElem?_eq_getElem hlt⟩
  simp -dsimp -implicitDefEqProofs [hb,yG hlt]
  intro hlen
  refine ⟨yw hlt hlen,k + 1,hlt,by omega,?_⟩
  apply yj <;> simp [yL1 hb]
 ·simp -dsimp -implicitDefEqProofs [yaB hge]
  intro _
  simp [yPn,h1,yMj hge,yNi e3]
theorem yQf (t : Train) : 0 ≤ yPe t ∧ yPe t ≤ 100:=by
 unfold yPe
 split
 ·rename_i h
  have hf:=yhY h
  exact yRc (fun x hx=>by have:=yMg (hf.ok x hx); omega) (by omega) (by omega)
 ·omega
theorem yP7 (t : Train) : 0 ≤ yPn t ∧ yPn t ≤ 50:=by
 unfold yPn
 split
 ·rename_i h
  have hf:=yhY h
  obtain ⟨r,b0,e1,e2,e3⟩:=yLO hf
  have:=yMg (hf.ok b0 (List.mem_of_getElem? e3))
  exact yMv (fun x hx=>by have:=yMg (hf.ok x hx); omega) (by rw [yNi e3]; omega) (by rw [yNi e3]; omega)
 ·omega
def yPm (t : Train) (depth : Int) : Int:=if yP t && inRange depth 0 1000000000 && decide (yPe t ≤ depth) then if 2 * depth < 3 * yPe t then (yPn t + 1).tdiv 2 else yPn t else 0
theorem yQz {t : Train} {d : Int} (h : yP t = false) : yPm t d = 0:=by simp [yPm,h]
theorem yQs {t : Train} {d : Int} (h : inRange d 0 1000000000 = false) : yPm t d = 0:=by simp [yPm,h]
theorem yQE {t : Train} {d : Int} (h : d < yPe t) : yPm t d = 0:=by
 have : ¬ yPe t ≤ d:=by omega
 simp [yPm,this]
theorem yRe (t : Train) (d : Int) (h : t.small) : yB Tryz.prog 219 [.agg (t.enc.map .c),.c (.i d)] (.c (.i (yPm t d))):=by
 refine yh yQJ ?_
 have hd:=yQf t
 have hs:=yP7 t
 simp -dsimp -implicitDefEqProofs
 refine yc (ydp t h) ?_
 simp -dsimp -implicitDefEqProofs
 refine ⟨fun h1=>?_,fun h1=>yQz h1⟩
 refine yc (yC d 0 1000000000) ?_
 simp -dsimp -implicitDefEqProofs
 refine ⟨fun h2=>?_,fun h2=>yQs h2⟩
 have h2':=yF.1 h2
 refine yc (yPU t h) ?_
 simp -dsimp -implicitDefEqProofs
 refine ⟨fun h3=>yQE h3,fun h3=>?_⟩
 refine ⟨by unfold inI; omega,?_⟩
 refine yc (yPU t h) ?_
 simp -dsimp -implicitDefEqProofs
 refine ⟨by unfold inI; omega,fun h4=>?_,fun h4=>?_⟩
 ·refine yaQ (yQb t h) (by simp) rfl ?_
  simp -dsimp -implicitDefEqProofs
  have ht : (yPn t + 1).tdiv 2 = (yPn t + 1) / 2:=Int.tdiv_eq_ediv_of_nonneg (by omega)
  exact ⟨by unfold inI; omega,by rw [ht]; unfold inI; omega,by simp [yPm,h1,h2,h3,h4]⟩
 ·refine yaQ (yQb t h) (by simp) rfl ?_
  simp -dsimp -implicitDefEqProofs
  have h4' : ¬ 2 * d < 3 * yPe t:=by omega
  simp [yPm,h1,h2,h3,h4']
theorem yRg (t : Train) (d : Int) (h : t.small) : yB Tryz.prog 125 [.agg (t.enc.map .c),.c (.i d)] (.c (.i (yPm t d))):=by
 refine yh yQP ?_
 have hd:=yQf t
 have hs:=yP7 t
 simp -dsimp -implicitDefEqProofs
 refine yc (yds t h) ?_
 simp -dsimp -implicitDefEqProofs
 refine ⟨fun h1=>?_,fun h1=>yQz h1⟩
 refine yc (yD d 0 1000000000) ?_
 simp -dsimp -implicitDefEqProofs
 refine ⟨fun h2=>?_,fun h2=>yQs h2⟩
 have h2':=yF.1 h2
 refine yc (yPR t h) ?_
 simp -dsimp -implicitDefEqProofs
 refine ⟨fun h3=>yQE h3,fun h3=>?_⟩
 refine ⟨by unfold inI; omega,?_⟩
 refine yc (yPR t h) ?_
 simp -dsimp -implicitDefEqProofs
 refine ⟨by unfold inI; omega,fun h4=>?_,fun h4=>?_⟩
 ·refine yaQ (yQc t h) (by simp) rfl ?_
  simp -dsimp -implicitDefEqProofs
  have ht : (yPn t + 1).tdiv 2 = (yPn t + 1) / 2:=Int.tdiv_eq_ediv_of_nonneg (by omega)
  exact ⟨by unfold inI; omega,by rw [ht]; unfold inI; omega,by simp [yPm,h1,h2,h3,h4]⟩
 ·refine yaQ (yQc t h) (by simp) rfl ?_
  simp -dsimp -implicitDefEqProofs
  have h4' : ¬ 2 * d < 3 * yPe t:=by omega
  simp [yPm,h1,h2,h3,h4']
def yhJ (xs : List Int) (l : Int) : Int:=szS xs.length l
def ykx : List Int → Prop:=ycs fun _=>True
theorem yeY : yey yhJ ykx:=yhU
theorem yjw (xs : List Int) (l : Int) (h0 : 0 ≤ l) (h1 : l ≤ 1048576) : yB Tryz.prog 22 [.c (.sl 1 (xs.map yJ)),.c (.i l)] (.c (.i (yhJ xs l))):=yz0 xs l h0 h1
structure Point where
 X : Int
 Y : Int
 deriving DecidableEq,Inhabited
@[simp] def Point.enc (e : Point) : List C:=[.i e.X,.i e.Y]
-- Point
theorem yrB (e : Point) : yB Tryz.prog 260 [.agg (e.enc.map .c)] (.agg (e.enc.map .c)):=by
 refine yh ypj ?_
 simp -dsimp -implicitDefEqProofs
theorem yyp (a b : Point) : yB Tryz.prog 265 [.agg (a.enc.map .c),.agg (b.enc.map .c)] (.c (.b (decide (a = b)))):=by
 refine yh yoo ?_
 obtain ⟨a0,a1⟩:=a
 obtain ⟨b0,b1⟩:=b
 simp -dsimp -implicitDefEqProofs [yiZ,Point.mk.injEq]
 refine ⟨fun h=>by simp_all,fun h0=>?_⟩
 refine ⟨fun h=>by simp_all,fun h1=>?_⟩
 simp_all
-- []Point
def yg2 (xs : List Point) (l : Int) : Int:=szS xs.length l
def yfO : List Point → Prop:=ycs fun _=>True
theorem ylh : yey yg2 yfO:=yhU
theorem yuC (xs : List Point) (l : Int) (h0 : 0 ≤ l) (h1 : l ≤ 1048576) : yB Tryz.prog 166 [.c (.sl 2 (xs.map Point.enc)),.c (.i l)] (.c (.i (yg2 xs l))):=by
 refine yh ynd ?_
 simp -dsimp -implicitDefEqProofs [yiq,yg2,szS]
 intro hl
 unfold maxLen at hl
 refine ⟨by unfold inI; omega,fun h=>?_,fun h=>?_⟩ <;> intros <;> omega
theorem yvM (xs : List Point) (hl : yfO xs) : yB Tryz.prog 177 [.c (.sl 2 (xs.map Point.enc))] (.c (.sl 2 (xs.map Point.enc))):=by
 refine yh yiu ?_
 simp -dsimp -implicitDefEqProofs
 intro hlen
 have hl1:=hl.1
 refine ⟨by omega,?_⟩
 refine yg (ι:=Nat) (fun k=>k ≤ xs.length) (fun k=>yO [(0,.c (.sl 2 (xs.map Point.enc))),(3,.own 7 2 xs.length),(4,.c (.i k))] [(7,.row 2 (partly Point.enc [.i 0,.i 0] xs k))]) (fun k=>xs.length - k) 0 (by simp) (by apply yj <;> simp [yab]) ?_
 rintro k hk
 rcases Nat.lt_or_ge k xs.length with hlt | hge
 ·obtain ⟨e,he⟩ : ∃ e,xs[k]? = some e:=⟨_,List.getElem?_eq_getElem hlt⟩
  have hs:=yaj (f:=Point.enc) (z:=[.i 0,.i 0]) he
  have hd:=yav (f:=Point.enc) (z:=[.i 0,.i 0]) (n:=2) rfl hlt
  simp only [Point.enc] at hs
  simp -dsimp -implicitDefEqProofs [he,yG hlt]
  refine fun _=>yaP (yrB e ) (by simp) rfl ?_
  simp -dsimp -implicitDefEqProofs [yG hlt,yak hk,hd,hs]
  exact ⟨hlt,yw hlt hlen,k + 1,hlt,by omega,by apply yj <;> simp⟩
 ·simp -dsimp -implicitDefEqProofs [yaB hge]
  intro _
  rw [yam hge,List.take_of_length_le (by simp)]
theorem yvv (es fs : List Point) : yB Tryz.prog 194 [.c (.sl 2 (es.map Point.enc)),.c (.sl 2 (fs.map Point.enc))] (.c (.b (decide (es = fs)))):=by
 refine yh ynO ?_
 simp -dsimp -implicitDefEqProofs
 intro hl1 hl2
 refine ⟨fun h e=>h (by rw [e]),fun hlen=>?_⟩
 have hlen' : es.length = fs.length:=by omega
 refine yg (ι:=Nat) (fun k=>k ≤ es.length ∧ es.take k = fs.take k) (fun k=>yO [(0,.c (.sl 2 (es.map Point.enc))),(1,.c (.sl 2 (fs.map Point.enc))),(5,.c (.i k))] []) (fun k=>es.length - k) 0 (by simp) (by apply yj <;> simp) ?_
 rintro k ⟨hk,htk⟩
 rcases Nat.lt_or_ge k es.length with hlt | hge
 ·obtain ⟨e,he⟩ : ∃ e,es[k]? = some e:=⟨_,List.getElem?_eq_getElem hlt⟩
  obtain ⟨f,hf⟩ : ∃ f,fs[k]? = some f:=⟨_,List.getElem?_eq_getElem (by omega)⟩
  simp -dsimp -implicitDefEqProofs [he,hf,yG hlt,yG (hlen' ▸ hlt)]
  intro _
  refine yaC (yyp e f) ?_
  simp -dsimp -implicitDefEqProofs
  refine ⟨fun h=>ybG he hf h,fun h=>⟨yw hlt hl1,k + 1,⟨hlt,yaR he hf htk h⟩,by omega,by apply yj <;> simp⟩⟩
 ·simp -dsimp -implicitDefEqProofs [yaB hge]
  intro _
  exact ybf hge hlen' htk
structure Reach where
 Table : List Point
 Volume : Int
 Pipe : List Int
 deriving DecidableEq,Inhabited
@[simp] def Reach.enc (e : Reach) : List C:=[.sl 2 (e.Table.map Point.enc),.i e.Volume,.sl 1 (e.Pipe.map yJ)]
-- Reach
def ycy (e : Reach) (l : Int) : Int:=ybm (yg2 e.Table l) fun l=>ybm (yhJ e.Pipe l) fun l=>l
def Reach.small (e : Reach) : Prop:=yfO e.Table ∧ ykx e.Pipe
theorem ymW : yey ycy Reach.small:=by
 intro e l h0 h1
 unfold ycy
 rcases ylh e.Table _ h0 h1 with e0 | ⟨a0,b0,s0⟩
 ·exact .inl (yK (by omega))
 rw [yu a0]
 rcases yeY e.Pipe _ a0 (by omega) with e1 | ⟨a1,b1,s1⟩
 ·exact .inl (yK (by omega))
 rw [yu a1]
 exact .inr ⟨a1,by omega,s0,s1⟩
theorem yvH (e : Reach) (l : Int) (h0 : 0 ≤ l) (h1 : l ≤ 1048576) : yB Tryz.prog 82 [.agg (e.enc.map .c),.c (.i l)] (.c (.i (ycy e l))):=by
 refine yh ypp ?_
 simp -dsimp -implicitDefEqProofs
 refine yc (yuC e.Table _ h0 h1) ?_
 simp -dsimp -implicitDefEqProofs
 refine ⟨fun h=>by simp [ycy,yK h],fun p0=>?_⟩
 have q0:=yin ylh e.Table h0 h1 p0
 refine yc (yjw e.Pipe _ p0 q0) ?_
 simp -dsimp -implicitDefEqProofs
 refine ⟨fun h=>by simp [ycy,yu p0,yK h],fun p1=>?_⟩
 simp [ycy,yu p0,yu p1]
theorem yxy (e : Reach) (hl : Reach.small e) : yB Tryz.prog 93 [.agg (e.enc.map .c)] (.agg (e.enc.map .c)):=by
 refine yh yiN ?_
 simp -dsimp -implicitDefEqProofs
 refine yS (yvM e.Table (hl.1)) ?_
 simp -dsimp -implicitDefEqProofs
 refine yS (ylC e.Pipe (hl.2.1)) ?_
 simp -dsimp -implicitDefEqProofs
theorem yx6 (a b : Reach) : yB Tryz.prog 110 [.agg (a.enc.map .c),.agg (b.enc.map .c)] (.c (.b (decide (a = b)))):=by
 refine yh yn6 ?_
 obtain ⟨a0,a1,a2⟩:=a
 obtain ⟨b0,b1,b2⟩:=b
 simp -dsimp -implicitDefEqProofs [yjl,Reach.mk.injEq]
 refine yc (yvv a0 b0) ?_
 simp -dsimp -implicitDefEqProofs
 refine ⟨fun h=>by simp_all,fun h0=>?_⟩
 refine ⟨fun h=>by simp_all,fun h1=>?_⟩
 refine yc (ykZ a2 b2) ?_
 simp -dsimp -implicitDefEqProofs
 refine ⟨fun h=>by simp_all,fun h2=>?_⟩
 simp_all
def ygg (p : Point) : Bool:=inRange p.X 0 1000000000 && inRange p.Y 0 1000000000
def follows (a b : Point) : Bool:=decide (a.X < b.X) && decide (a.Y ≤ b.Y)
def yhD (l : List Point) (k : Nat) : Bool :=
 match l[k]? with
 | some p=>ygg p && (match k with
  | 0=>true
  | j + 1=>match l[j]? with
   | some q=>follows q p
   | none=>false)
 | none=>true
def upTo (l : List Point) : Nat → Bool
 | 0=>true
 | k + 1=>upTo l k && yhD l k
def yaM (l : List Point) : Bool:=upTo l l.length && inRange l.length 2 20
theorem yhk {l : List Point} {p : Point} (h : l[0]? = some p) : yhD l 0 = ygg p:=by simp [yhD,h]
theorem yea {l : List Point} {k : Nat} {p q : Point} (h : l[k + 1]? = some p) (hq : l[k]? = some q) : yhD l (k + 1) = (ygg p && follows q p):=by simp [yhD,h,hq]
theorem yoy {l : List Point} : ∀ {k n : Nat},k < n → yhD l k = false → upTo l n = false
 | k,0,h,_=>by omega
 | k,n + 1,h,hs=>by
  simp only [upTo]
  rcases Nat.lt_or_ge k n with h1 | h1
  ·rw [yoy h1 hs]; rfl
  ·have : k = n:=by omega
   subst this
   rw [hs,Bool.and_false]
theorem yjy {l : List Point} {k : Nat} (h : upTo l k = true) (hs : yhD l k = true) : upTo l (k + 1) = true:=by simp [upTo,h,hs]
theorem ynS {l : List Point} {k : Nat} (h : k < l.length) (hs : yhD l k = false) : yaM l = false:=by simp [yaM,yoy h hs]
theorem yzH {l : List Point} (h : inRange l.length 2 20 = false) : yaM l = false:=by simp [yaM,h]
theorem yh0 (l : List Point) : yB Tryz.prog 278 [.c (.sl 2 (l.map Point.enc))] (.c (.b (yaM l))):=by
 refine yh ypw ?_
 simp -dsimp -implicitDefEqProofs
 intro hlen
 refine ⟨fun h0 _=>⟨fun h1=>?_,fun h1 _=>?_⟩,fun h0=>?_⟩
 ·exact yzH (ycG.2 (by omega))
 ·refine yg (ι:=Nat) (fun k=>k ≤ l.length ∧ upTo l k = true) (fun k=>yO [(0,.c (.sl 2 (l.map Point.enc))),(13,.c (.sl 2 (l.map Point.enc))),(14,.c (.i l.length)),(15,.c (.i k))] []) (fun k=>l.length - k) 0 ⟨by simp,rfl⟩ (by apply yj <;> simp) ?_
  rintro k ⟨hk,hup⟩
  rcases Nat.lt_or_ge k l.length with hlt | hge
  ·obtain ⟨p,hp⟩ : ∃ p,l[k]? = some p:=⟨_,List.getElem?_eq_getElem hlt⟩
   have hbad : ygg p = false → yaM l = false:=fun e=>ynS hlt (by
    cases k with
    | zero=>rw [yhk hp,e]
    | succ j=>rw [yea hp (List.getElem?_eq_getElem (by omega)),e,Bool.false_and])
   cases k with
   | zero =>
    have f1:=(List.getElem?_eq_some_iff.1 hp).2
    simp -dsimp -implicitDefEqProofs [hp,hlt,f1]
    refine yc (yC p.X 0 1000000000) ?_
    simp -dsimp -implicitDefEqProofs
    refine ⟨fun h2=>?_,fun h2=>hbad (by simp [ygg,h2])⟩
    refine yc (yC p.Y 0 1000000000) ?_
    simp -dsimp -implicitDefEqProofs
    refine ⟨fun h3=>hbad (by simp [ygg,h3]),fun h3=>?_⟩
    have hpt : ygg p = true:=by simp [ygg,h2,h3]
    exact ⟨by unfold inI; omega,1,⟨hlt,yjy hup (by rw [yhk hp,hpt])⟩,by omega,by apply yj <;> simp⟩
   | succ j =>
    obtain ⟨q,hq⟩ : ∃ q,l[j]? = some q:=⟨_,List.getElem?_eq_getElem (by omega)⟩
    have hj : (j : Int) + 1 < l.length:=by omega
    have hj2 : (j : Int) < l.length:=by omega
    have hj3 : (0 : Int) < j + 1:=by omega
    have hj4 : (0 : Int) ≤ j + 1:=by omega
    have hj5 : ((j : Int) + 1).toNat = j + 1:=by omega
    simp -dsimp -implicitDefEqProofs [hp,hq,hj,hj2,hj3,hj4,hj5]
    refine yc (yC p.X 0 1000000000) ?_
    simp -dsimp -implicitDefEqProofs
    refine ⟨fun h2=>?_,fun h2=>hbad (by simp [ygg,h2])⟩
    refine yc (yC p.Y 0 1000000000) ?_
    simp -dsimp -implicitDefEqProofs [hp,hq,hj,hj2,hj3,hj4,hj5]
    refine ⟨fun h3=>hbad (by simp [ygg,h3]),fun h3=>?_⟩
    have hpt : ygg p = true:=by simp [ygg,h2,h3]
    have hbad2 : follows q p = false → yaM l = false:=fun e=>ynS hlt (by rw [yea hp hq,e,Bool.and_false])
    refine ⟨by unfold inI; omega,fun h4=>⟨by unfold inI; omega,fun h5=>?_,fun h5=>?_⟩,fun h4=>?_⟩
    ·exact hbad2 (by simp [follows]; omega)
    ·have hf : follows q p = true:=by simp [follows,h4,h5]
     exact ⟨by unfold inI; omega,j + 2,⟨hlt,yjy hup (by rw [yea hp hq,hpt,hf]; rfl)⟩,by omega,by apply yj <;> simp; omega⟩
    ·exact hbad2 (by simp [follows]; omega)
  ·simp -dsimp -implicitDefEqProofs [yaB hge]
   have e : k = l.length:=by omega
   subst e
   have h7 : inRange l.length 2 20 = true:=yF.2 (by omega)
   simp [yaM,hup,h7]
 ·exact yzH (ycG.2 (by omega))
theorem yh7 (l : List Point) : yB Tryz.prog 207 [.c (.sl 2 (l.map Point.enc))] (.c (.b (yaM l))):=by
 refine yh yp7 ?_
 simp -dsimp -implicitDefEqProofs
 refine yg (ι:=Nat) (fun k=>k ≤ l.length ∧ upTo l k = true) (fun k=>yO [(0,.c (.sl 2 (l.map Point.enc))),(3,.c (.i k))] []) (fun k=>l.length - k) 0 ⟨by simp,rfl⟩ (by apply yj <;> simp) ?_
 rintro k ⟨hk,hup⟩
 rcases Nat.lt_or_ge k l.length with hlt | hge
 ·obtain ⟨p,hp⟩ : ∃ p,l[k]? = some p:=⟨_,List.getElem?_eq_getElem hlt⟩
  have hbad : ygg p = false → yaM l = false:=fun e=>ynS hlt (by
   cases k with
   | zero=>rw [yhk hp,e]
   | succ j=>rw [yea hp (List.getElem?_eq_getElem (by omega)),e,Bool.false_and])
  cases k with
  | zero =>
   have f1:=(List.getElem?_eq_some_iff.1 hp).2
   simp -dsimp -implicitDefEqProofs [hp,hlt,f1]
   intro hlen
   refine yaC (yD p.X 0 1000000000) ?_
   simp -dsimp -implicitDefEqProofs [hp,hlt,f1]
   refine ⟨fun h2=>?_,fun h2=>hbad (by simp [ygg,h2])⟩
   refine yaC (yD p.Y 0 1000000000) ?_
   simp -dsimp -implicitDefEqProofs [hp,hlt,f1]
   refine ⟨fun h3=>?_,fun h3=>hbad (by simp [ygg,h3])⟩
   have hpt : ygg p = true:=by simp [ygg,h2,h3]
   exact ⟨by unfold inI; omega,1,⟨hlt,yjy hup (by rw [yhk hp,hpt])⟩,by omega,by apply yj <;> simp⟩
  | succ j =>
   obtain ⟨q,hq⟩ : ∃ q,l[j]? = some q:=⟨_,List.getElem?_eq_getElem (by omega)⟩
   have hj : (j : Int) + 1 < l.length:=by omega
   have hj2 : (j : Int) < l.length:=by omega
   have hj3 : (0 : Int) < j + 1:=by omega
   have hj4 : (0 : Int) ≤ j + 1:=by omega
   have hj5 : ((j : Int) + 1).toNat = j + 1:=by omega
   simp -dsimp -implicitDefEqProofs [hp,hq,hj,hj2,hj3,hj4,hj5]
   intro hlen
   refine yaC (yD p.X 0 1000000000) ?_
   simp -dsimp -implicitDefEqProofs [hp,hq,hj,hj2,hj3,hj4,hj5]
   refine ⟨fun h2=>?_,fun h2=>hbad (by simp [ygg,h2])⟩
   refine yaC (yD p.Y 0 1000000000) ?_
   simp -dsimp -implicitDefEqProofs [hp,hq,hj,hj2,hj3,hj4,hj5]
   refine ⟨fun h3=>?_,fun h3=>hbad (by simp [ygg,h3])⟩
   have hpt : ygg p = true:=by simp [ygg,h2,h3]
   unfold maxLen at hlen
   have hbad2 : follows q p = false → yaM l = false:=fun e=>ynS hlt (by rw [yea hp hq,e,Bool.and_false])
   refine ⟨by unfold inI; omega,fun h4=>⟨by unfold inI; omega,fun h5=>?_,fun h5=>?_⟩,fun h4=>?_⟩
   ·exact hbad2 (by simp [follows]; omega)
   ·have hf : follows q p = true:=by simp [follows,h4,h5]
    exact ⟨by unfold inI; omega,j + 2,⟨hlt,yjy hup (by rw [yea hp hq,hpt,hf]; rfl)⟩,by omega,by apply yj <;> simp; omega⟩
   ·exact hbad2 (by simp [follows]; omega)
 ·simp -dsimp -implicitDefEqProofs [yaB hge]
  intro hlen
  refine yc (yD l.length 2 20) ?_
  simp -dsimp -implicitDefEqProofs
  have e : k = l.length:=by omega
  subst e
  simp [yaM,hup]
def amount (n : Int) : Bool:=inRange n 0 1000000000
def yda (r : Reach) : Int:=r.Volume + r.Pipe.sum
def yR (r : Reach) : Bool:=yaM r.Table && amount r.Volume && decide (r.Pipe.length ≤ 12) && r.Pipe.all amount && decide (yda r ≤ 1000000000)
theorem ykq : ∀ {l : List Int},(∀ x ∈ l,amount x = true) → 0 ≤ l.sum
 | [],_=>by simp
 | x :: l,h=>by
  have h1:=ykq (l:=l) fun y hy=>h y (by simp [hy])
  have h2:=yF.1 (show inRange x 0 1000000000 = true from h x (by simp))
  simp only [List.sum_cons]; omega
theorem yx8 {l : List Int} (k : Nat) : l.sum = sumTo l k + (l.drop k).sum:=by
 unfold sumTo
 conv=>lhs; rw [← List.take_append_drop k l]
 rw [List.sum_append]
theorem yEn {r : Reach} {k : Nat} {x : Int} (hx : r.Pipe[k]? = some x) (h : 1000000000 < r.Volume + sumTo r.Pipe k + x) : yR r = false:=by
 cases hr : yR r with
 | false=>rfl
 | true =>
  exfalso
  simp only [yR,Bool.and_eq_true,List.all_eq_true,decide_eq_true_eq] at hr
  obtain ⟨⟨_,h1⟩,h2⟩:=hr
  have h3:=ykq (l:=r.Pipe.drop (k + 1)) fun y hy=>h1 y (List.mem_of_mem_drop hy)
  have h4:=yx8 (l:=r.Pipe) (k + 1)
  rw [yia hx] at h4
  unfold yda at h2
  omega
theorem yrR {r : Reach} {k : Nat} {x : Int} (hx : r.Pipe[k]? = some x) (h : amount x = false) : yR r = false:=by
 have : r.Pipe.all amount = false:=all_false (p:=amount) hx h
 simp [yR,this]
theorem yby (r : Reach) : yB Tryz.prog 218 [.agg (r.enc.map .c)] (.c (.b (yR r))):=by
 refine yh yo5 ?_
 simp -dsimp -implicitDefEqProofs
 refine yc (yh0 r.Table) ?_
 simp -dsimp -implicitDefEqProofs
 refine ⟨fun h1=>?_,fun h1=>by simp [yR,h1]⟩
 refine yc (yC r.Volume 0 1000000000) ?_
 simp -dsimp -implicitDefEqProofs
 refine ⟨fun h2 hlen=>⟨fun h3=>?_,fun h3=>⟨?_,fun _=>?_⟩⟩,fun h2=>by simp [yR,amount,h2]⟩
 ·have : ¬ r.Pipe.length ≤ 12:=by omega
  simp [yR,this]
 ·have:=yF.1 h2
  unfold inI; omega
 have h2':=yF.1 h2
 refine yg (ι:=Nat) (fun k=>k ≤ r.Pipe.length ∧ (∀ n ∈ r.Pipe.take k,amount n = true) ∧ 0 ≤ sumTo r.Pipe k ∧ r.Volume + sumTo r.Pipe k ≤ 1000000000) (fun k=>yO [(3,.c (.i (1000000000 - r.Volume - sumTo r.Pipe k))),(26,.c (.sl 1 (r.Pipe.map yJ))),(27,.c (.i r.Pipe.length)),(28,.c (.i k))] []) (fun k=>r.Pipe.length - k) 0 ⟨by simp,by simp,by simp [yf6],by simp only [yf6]; omega⟩ (by apply yj <;> simp [yf6]) ?_
 rintro k ⟨hk,hall,hs0,hs⟩
 rcases Nat.lt_or_ge k r.Pipe.length with hlt | hge
 ·obtain ⟨x,hx⟩ : ∃ x,r.Pipe[k]? = some x:=⟨_,List.getElem?_eq_getElem hlt⟩
  simp -dsimp -implicitDefEqProofs [hx,yG hlt]
  refine ⟨fun h4=>⟨fun h5=>?_,fun h5=>?_⟩,fun h4=>?_⟩
  ·exact yEn hx (by omega)
  ·have ha : amount x = true:=yF.2 (by omega)
   have e1:=yia hx
   refine ⟨by unfold inI; omega,yw hlt hlen,k + 1,⟨hlt,yL (p:=amount) hx hall ha,by rw [e1]; omega,by rw [e1]; omega⟩,by omega,?_⟩
   apply yj <;> simp [e1]; omega
  ·exact yrR hx (ycG.2 (by omega))
 ·simp -dsimp -implicitDefEqProofs [yaB hge]
  have h6:=yX (p:=amount) hge hall
  rw [ymm hge] at hs
  simp [yR,h1,show amount r.Volume = true from h2,h6,yda,hs]
  omega
theorem ymX {l : List Int} (h : ∀ n ∈ l,amount n = true) (hl : l.length ≤ 12) (k : Nat) : 0 ≤ sumTo l k ∧ sumTo l k ≤ 12000000000:=by
 have h1:=yjC (l:=l.take k) (b:=1000000000) fun x hx=>h x (List.mem_of_mem_take hx)
 have h2 : (l.take k).length ≤ 12:=by simp; omega
 unfold sumTo
 omega
theorem yoR (r : Reach) (hv : amount r.Volume = true) (hl : r.Pipe.length ≤ 12) (hp : ∀ n ∈ r.Pipe,amount n = true) : yB Tryz.prog 208 [.agg (r.enc.map .c)] (.c (.i (yda r))):=by
 refine yh yrp ?_
 have hv':=yF.1 (show inRange r.Volume 0 1000000000 = true from hv)
 simp -dsimp -implicitDefEqProofs
 refine yg (ι:=Nat) (fun k=>k ≤ r.Pipe.length) (fun k=>yO [(1,.box 1 0),(3,.c (.i (r.Volume + sumTo r.Pipe k))),(4,.c (.i k))] [(1,.box (r.enc.map .c))]) (fun k=>r.Pipe.length - k) 0 (by simp) (by apply yj <;> simp [yf6]) ?_
 rintro k hk
 rcases Nat.lt_or_ge k r.Pipe.length with hlt | hge
 ·obtain ⟨x,hx⟩ : ∃ x,r.Pipe[k]? = some x:=⟨_,List.getElem?_eq_getElem hlt⟩
  have e1:=yia hx
  have b1:=ymX hp hl (k + 1)
  rw [e1] at b1
  simp -dsimp -implicitDefEqProofs [hx,yG hlt]
  intro hlen
  refine ⟨by unfold inI; omega,yw hlt hlen,k + 1,hlt,by omega,?_⟩
  apply yj <;> simp [e1]; omega
 ·simp -dsimp -implicitDefEqProofs [yaB hge]
  intro _
  rw [ymm hge]; rfl
theorem ybX (r : Reach) : yB Tryz.prog 124 [.agg (r.enc.map .c)] (.c (.b (yR r))):=by
 refine yh ynW ?_
 simp -dsimp -implicitDefEqProofs
 refine yc (yh7 r.Table) ?_
 simp -dsimp -implicitDefEqProofs
 refine ⟨fun h1=>?_,fun h1=>by simp [yR,h1]⟩
 refine yc (yD r.Volume 0 1000000000) ?_
 simp -dsimp -implicitDefEqProofs
 refine ⟨fun h2 hlen=>⟨fun h3=>?_,fun h3=>?_⟩,fun h2=>by simp [yR,amount,h2]⟩
 ·have : ¬ r.Pipe.length ≤ 12:=by omega
  simp [yR,this]
 refine yg (ι:=Nat) (fun k=>k ≤ r.Pipe.length ∧ (∀ n ∈ r.Pipe.take k,amount n = true)) (fun k=>yO [(1,.box 1 0),(3,.c (.i k))] [(1,.box (r.enc.map .c))]) (fun k=>r.Pipe.length - k) 0 ⟨by simp,by simp⟩ (by apply yj <;> simp) ?_
 rintro k ⟨hk,hall⟩
 rcases Nat.lt_or_ge k r.Pipe.length with hlt | hge
 ·obtain ⟨x,hx⟩ : ∃ x,r.Pipe[k]? = some x:=⟨_,List.getElem?_eq_getElem hlt⟩
  simp -dsimp -implicitDefEqProofs [hx,yG hlt]
  intro _
  refine yc (yD x 0 1000000000) ?_
  simp -dsimp -implicitDefEqProofs
  refine ⟨fun h4=>yrR hx h4,fun h4=>?_⟩
  exact ⟨yw hlt hlen,k + 1,⟨hlt,yL (p:=amount) hx hall h4⟩,by omega,by apply yj <;> simp⟩
 ·simp -dsimp -implicitDefEqProofs [yaB hge]
  intro _
  have h6:=yX (p:=amount) hge hall
  refine yc (yoR r h2 (by omega) (List.all_eq_true.1 h6)) ?_
  simp -dsimp -implicitDefEqProofs
  have h3' : r.Pipe.length ≤ 12:=by omega
  simp [yR,h1,show amount r.Volume = true from h2,h6,h3']
theorem yw7 {α : Type} {p : α → Bool} : ∀ {l : List α} {k : Nat} {q : α},k ≤ (l.takeWhile p).length → l[k]? = some q → p q = true → k + 1 ≤ (l.takeWhile p).length
 | [],k,q,_,h,_=>by simp at h
 | x :: l,0,q,_,h,hq=>by
  simp at h; subst h
  simp [List.takeWhile_cons,hq]
 | x :: l,k + 1,q,hk,h,hq=>by
  rw [List.takeWhile_cons] at hk ⊢
  split at hk
  ·rename_i hx
   rw [if_pos hx]
   have:=yw7 (l:=l) (k:=k) (by simpa using hk) (by simpa using h) hq
   simp only [List.length_cons]; omega
  ·simp at hk
theorem yxb {α : Type} {p : α → Bool} : ∀ {l : List α} {k : Nat} {q : α},k ≤ (l.takeWhile p).length → l[k]? = some q → p q = false → (l.takeWhile p).length = k
 | [],k,q,_,h,_=>by simp at h
 | x :: l,0,q,_,h,hq=>by
  simp at h; subst h
  simp [List.takeWhile_cons,hq]
 | x :: l,k + 1,q,hk,h,hq=>by
  rw [List.takeWhile_cons] at hk ⊢
  split at hk
  ·rename_i hx
   rw [if_pos hx]
   have:=yxb (l:=l) (k:=k) (by simpa using hk) (by simpa using h) hq
   simp only [List.length_cons]; omega
  ·simp at hk
def seg (l : List Point) (x : Int) : Nat:=(l.tail.takeWhile fun q=>decide (q.X ≤ x)).length
theorem seg_next {l : List Point} {x : Int} {k : Nat} {q : Point} (hk : k ≤ seg l x) (hq : l[k + 1]? = some q) (h : q.X ≤ x) : k + 1 ≤ seg l x :=
 yw7 hk (by rw [List.getElem?_tail]; exact hq) (by simp [h])
theorem yu5 {l : List Point} {x : Int} {k : Nat} {q : Point} (hk : k ≤ seg l x) (hq : l[k + 1]? = some q) (h : x < q.X) : seg l x = k :=
 yxb hk (by rw [List.getElem?_tail]; exact hq) (by simp; omega)
theorem yop {l : List Point} : ∀ {n k : Nat},upTo l n = true → k < n → yhD l k = true
 | 0,k,_,h=>by omega
 | n + 1,k,h,hk=>by
  simp only [upTo,Bool.and_eq_true] at h
  rcases Nat.lt_or_ge k n with h1 | h1
  ·exact yop h.1 h1
  ·have : k = n:=by omega
   subst this; exact h.2
structure TableFacts (l : List Point) : Prop where
 len : 2 ≤ l.length ∧ l.length ≤ 20
 pt : ∀ (k : Nat) (p : Point),l[k]? = some p → (0 ≤ p.X ∧ p.X ≤ 1000000000) ∧ (0 ≤ p.Y ∧ p.Y ≤ 1000000000)
 up : ∀ (k : Nat) (p q : Point),l[k]? = some p → l[k + 1]? = some q → p.X < q.X ∧ p.Y ≤ q.Y
theorem yeM {l : List Point} (h : yaM l = true) : TableFacts l:=by
 simp only [yaM,Bool.and_eq_true] at h
 obtain ⟨h1,h2⟩:=h
 have h3:=yF.1 h2
 refine ⟨by omega,fun k p hp=>?_,fun k p q hp hq=>?_⟩
 ·have hk:=(List.getElem?_eq_some_iff.1 hp).1
  have hs:=yop h1 hk
  have : ygg p = true:=by
   cases k with
   | zero=>rw [yhk hp] at hs; exact hs
   | succ j =>
    rw [yea hp (List.getElem?_eq_getElem (by omega)),Bool.and_eq_true] at hs
    exact hs.1
  simp only [ygg,Bool.and_eq_true] at this
  exact ⟨yF.1 this.1,yF.1 this.2⟩
 ·have hk:=(List.getElem?_eq_some_iff.1 hq).1
  have hs:=yop h1 hk
  rw [yea hq hp,Bool.and_eq_true] at hs
  have:=hs.2
  simpa [follows] using this
def yi6 (p q : Point) (x : Int) : Int:=p.Y + ((x - p.X) * (q.Y - p.Y)).tdiv (q.X - p.X)
def ybq (l : List Point) (k : Nat) : Point:=l[k]?.getD default
theorem ybc {l : List Point} {k : Nat} {p : Point} (h : l[k]? = some p) : ybq l k = p:=by simp [ybq,h]
def yac (l : List Point) (x : Int) : Int :=
 if yaM l then if x ≤ (ybq l 0).X then (ybq l 0).Y else if (ybq l (l.length - 1)).X ≤ x then (ybq l (l.length - 1)).Y else yi6 (ybq l (seg l x)) (ybq l (seg l x + 1)) x
 else 0
theorem ytV {l : List Point} (tf : TableFacts l) {k : Nat} {p q : Point} (hp : l[k]? = some p) (hq : l[k + 1]? = some q) {x v : Int} (hx : p.X ≤ x) (h4 : x < q.X) (hv : v = p.Y + ((x - p.X) * (q.Y - p.Y)).tdiv (q.X - p.X)) :
 inI (x - p.X) ∧ inI (q.Y - p.Y) ∧ inI ((x - p.X) * (q.Y - p.Y)) ∧ inI (q.X - p.X) ∧ ¬q.X - p.X = 0 ∧ inI (((x - p.X) * (q.Y - p.Y)).tdiv (q.X - p.X)) ∧ inI (p.Y + ((x - p.X) * (q.Y - p.Y)).tdiv (q.X - p.X)) ∧ v = p.Y + ((x - p.X) * (q.Y - p.Y)).tdiv (q.X - p.X):=by
 have b1:=tf.pt k p hp
 have b2:=tf.pt (k + 1) q hq
 have b3:=tf.up k p q hp hq
 have c1 : 0 ≤ (x - p.X) * (q.Y - p.Y):=Int.mul_nonneg (by omega) (by omega)
 have c2 : (x - p.X) * (q.Y - p.Y) ≤ 1000000000 * 1000000000:=Int.mul_le_mul (by omega) (by omega) (by omega) (by omega)
 have c3 : ((x - p.X) * (q.Y - p.Y)).tdiv (q.X - p.X) = ((x - p.X) * (q.Y - p.Y)) / (q.X - p.X):=Int.tdiv_eq_ediv_of_nonneg c1
 have c4 : 0 ≤ ((x - p.X) * (q.Y - p.Y)) / (q.X - p.X):=Int.ediv_nonneg c1 (by omega)
 have c5 : ((x - p.X) * (q.Y - p.Y)) / (q.X - p.X) ≤ (x - p.X) * (q.Y - p.Y):=Int.ediv_le_self _ c1
 refine ⟨by unfold inI; omega,by unfold inI; omega,by unfold inI; omega,by unfold inI; omega,by omega,?_,?_,hv⟩
 ·rw [c3]; unfold inI; omega
 ·rw [c3]; unfold inI; omega
theorem yh5 (l : List Point) (x : Int) : yB Tryz.prog 312 [.c (.sl 2 (l.map Point.enc)),.c (.i x)] (.c (.i (yac l x))):=by
 refine yh yom ?_
 simp -dsimp -implicitDefEqProofs
 refine yc (yh0 l) ?_
 cases h1 : yaM l with
 | false =>
  simp -dsimp -implicitDefEqProofs
  simp [yac,h1]
 | true =>
  have tf:=yeM h1
  obtain ⟨hl1,hl2⟩:=tf.len
  obtain ⟨p0,e0⟩ : ∃ p,l[0]? = some p:=⟨_,List.getElem?_eq_getElem (by omega)⟩
  obtain ⟨pe,ee⟩ : ∃ p,l[l.length - 1]? = some p:=⟨_,List.getElem?_eq_getElem (by omega)⟩
  have f0:=(List.getElem?_eq_some_iff.1 e0).2
  have l0 : 0 < l.length:=by omega
  have l1 : (1 : Int) ≤ l.length:=by omega
  have l2 : (l.length : Int) - 1 < l.length:=by omega
  have l3 : inI ((l.length : Int) - 1):=by unfold inI; omega
  simp -dsimp -implicitDefEqProofs [e0,ee,f0,l0,l1,l2,l3]
  have a0 : ybq l 0 = p0:=ybc e0
  have ae : ybq l (l.length - 1) = pe:=ybc ee
  refine fun _=>⟨fun h2=>by simp [yac,h1,a0,h2],fun h2=>⟨fun h3=>?_,fun h3=>?_⟩⟩
  ·have : ¬ x ≤ p0.X:=by omega
   simp [yac,h1,a0,ae,this,h3]
  have hv : yac l x = yi6 (ybq l (seg l x)) (ybq l (seg l x + 1)) x:=by
   have g1 : ¬ x ≤ p0.X:=by omega
   have g2 : ¬ pe.X ≤ x:=by omega
   simp [yac,h1,a0,ae,g1,g2]
  refine yg (ι:=Nat) (fun k=>k + 2 ≤ l.length ∧ k ≤ seg l x ∧ (ybq l k).X ≤ x) (fun k=>yO [(0,.c (.sl 2 (l.map Point.enc))),(1,.c (.i x)),(6,.c (.i k))] []) (fun k=>l.length - k) 0 ⟨hl1,Nat.zero_le _,by rw [a0]; omega⟩ (by apply yj <;> simp) ?_
  rintro k ⟨hk,hs,hx⟩
  obtain ⟨p,hp⟩ : ∃ p,l[k]? = some p:=⟨_,List.getElem?_eq_getElem (by omega)⟩
  obtain ⟨q,hq⟩ : ∃ p,l[k + 1]? = some p:=⟨_,List.getElem?_eq_getElem (by omega)⟩
  rw [ybc hp] at hx
  have i1 : (k : Int) + 1 < l.length:=by omega
  have i2 : (k : Int) < l.length:=by omega
  have i3 : (0 : Int) ≤ k + 1:=by omega
  have i4 : ((k : Int) + 1).toNat = k + 1:=by omega
  have i5 : inI ((k : Int) + 1):=by unfold inI; omega
  simp -dsimp -implicitDefEqProofs [hp,hq,i1,i2,i3,i4,i5]
  refine ⟨fun h4=>⟨k + 1,⟨?_,seg_next hs hq h4,by rw [ybc hq]; exact h4⟩,by omega,by apply yj <;> simp⟩,fun h4=>?_⟩
  ·rcases Nat.lt_or_ge (k + 2) l.length with g | g
   ·omega
   ·have e : l.length - 1 = k + 1:=by omega
    rw [e,hq] at ee
    cases ee
    omega
  ·exact ytV tf hp hq hx h4 (by rw [hv,yu5 hs hq h4,ybc hp,ybc hq]; rfl)
theorem yhS (l : List Point) (x : Int) : yB Tryz.prog 285 [.c (.sl 2 (l.map Point.enc)),.c (.i x)] (.c (.i (yac l x))):=by
 refine yh yoq ?_
 simp -dsimp -implicitDefEqProofs
 refine yc (yh7 l) ?_
 cases h1 : yaM l with
 | false =>
  simp -dsimp -implicitDefEqProofs
  simp [yac,h1]
 | true =>
  have tf:=yeM h1
  obtain ⟨hl1,hl2⟩:=tf.len
  obtain ⟨p0,e0⟩ : ∃ p,l[0]? = some p:=⟨_,List.getElem?_eq_getElem (by omega)⟩
  obtain ⟨pe,ee⟩ : ∃ p,l[l.length - 1]? = some p:=⟨_,List.getElem?_eq_getElem (by omega)⟩
  have f0:=(List.getElem?_eq_some_iff.1 e0).2
  have l0 : 0 < l.length:=by omega
  have l1 : (1 : Int) ≤ l.length:=by omega
  have l2 : (l.length : Int) - 1 < l.length:=by omega
  have l3 : inI ((l.length : Int) - 1):=by unfold inI; omega
  simp -dsimp -implicitDefEqProofs [e0,ee,f0,l0,l1,l2,l3]
  have a0 : ybq l 0 = p0:=ybc e0
  have ae : ybq l (l.length - 1) = pe:=ybc ee
  refine fun _=>⟨fun h2=>by simp [yac,h1,a0,h2],fun h2=>⟨fun h3=>?_,fun h3=>?_⟩⟩
  ·have : ¬ x ≤ p0.X:=by omega
   simp [yac,h1,a0,ae,this,h3]
  have hv : yac l x = yi6 (ybq l (seg l x)) (ybq l (seg l x + 1)) x:=by
   have g1 : ¬ x ≤ p0.X:=by omega
   have g2 : ¬ pe.X ≤ x:=by omega
   simp [yac,h1,a0,ae,g1,g2]
  refine yg (ι:=Nat) (fun k=>k + 2 ≤ l.length ∧ k ≤ seg l x ∧ (ybq l k).X ≤ x) (fun k=>yO [(0,.c (.sl 2 (l.map Point.enc))),(1,.c (.i x)),(6,.c (.i k))] []) (fun k=>l.length - k) 0 ⟨hl1,Nat.zero_le _,by rw [a0]; omega⟩ (by apply yj <;> simp) ?_
  rintro k ⟨hk,hs,hx⟩
  obtain ⟨p,hp⟩ : ∃ p,l[k]? = some p:=⟨_,List.getElem?_eq_getElem (by omega)⟩
  obtain ⟨q,hq⟩ : ∃ p,l[k + 1]? = some p:=⟨_,List.getElem?_eq_getElem (by omega)⟩
  rw [ybc hp] at hx
  have i1 : (k : Int) + 1 < l.length:=by omega
  have i2 : (k : Int) < l.length:=by omega
  have i3 : (0 : Int) ≤ k + 1:=by omega
  have i4 : ((k : Int) + 1).toNat = k + 1:=by omega
  have i5 : inI ((k : Int) + 1):=by unfold inI; omega
  simp -dsimp -implicitDefEqProofs [hp,hq,i1,i2,i3,i4,i5]
  refine ⟨fun h4=>⟨k + 1,⟨?_,seg_next hs hq h4,by rw [ybc hq]; exact h4⟩,by omega,by apply yj <;> simp⟩,fun h4=>?_⟩
  ·rcases Nat.lt_or_ge (k + 2) l.length with g | g
   ·omega
   ·have e : l.length - 1 = k + 1:=by omega
    rw [e,hq] at ee
    cases ee
    omega
  ·exact ytV tf hp hq hx h4 (by rw [hv,yu5 hs hq h4,ybc hp,ybc hq]; rfl)
def least (f : Int → Bool) (lo : Int) : Nat → Int
 | 0=>lo
 | n + 1=>if f lo then lo else least f (lo + 1) n
theorem yuK {f : Int → Bool} : ∀ {n : Nat} {lo p : Int},lo ≤ p → p ≤ lo + n → f p = true → (∀ z,lo ≤ z → z < p → f z = false) → least f lo n = p
 | 0,lo,p,h1,h2,h3,h4=>by simp only [least]; omega
 | n + 1,lo,p,h1,h2,h3,h4=>by
  simp only [least]
  by_cases e : lo = p
  ·subst e; rw [if_pos h3]
  ·rw [if_neg (by rw [h4 lo (Int.le_refl _) (by omega)]; simp)]
   exact yuK (by omega) (by omega) h3 fun z hz1 hz2=>h4 z (by omega) hz2
theorem yyt {a b d : Int} (ha : 0 ≤ a) (hab : a ≤ b) (hd : 0 < d) : a.tdiv d ≤ b.tdiv d:=by
 rw [Int.tdiv_eq_ediv_of_nonneg ha,Int.tdiv_eq_ediv_of_nonneg (by omega)]
 exact Int.ediv_le_ediv hd hab
theorem ykl {l : List Point} (tf : TableFacts l) {k : Nat} {p q : Point} (hp : l[k]? = some p) (hq : l[k + 1]? = some q) {x y : Int} (hx : p.X ≤ x) (hxy : x ≤ y) : yi6 p q x ≤ yi6 p q y:=by
 have b3:=tf.up k p q hp hq
 unfold yi6
 have c1 : 0 ≤ (x - p.X) * (q.Y - p.Y):=Int.mul_nonneg (by omega) (by omega)
 have c2 : (x - p.X) * (q.Y - p.Y) ≤ (y - p.X) * (q.Y - p.Y):=Int.mul_le_mul_of_nonneg_right (by omega) (by omega)
 have:=yyt c1 c2 (show 0 < q.X - p.X by omega)
 omega
theorem yvy {l : List Point} (tf : TableFacts l) {k : Nat} {p q : Point} (hp : l[k]? = some p) (hq : l[k + 1]? = some q) : yi6 p q p.X = p.Y ∧ yi6 p q q.X = q.Y:=by
 have b3:=tf.up k p q hp hq
 unfold yi6
 refine ⟨by simp,?_⟩
 rw [Int.mul_tdiv_cancel_left _ (by omega)]
 omega
theorem yzF {α : Type} {p : α → Bool} : ∀ {l : List α} {i : Nat} {q : α},i < (l.takeWhile p).length → l[i]? = some q → p q = true
 | [],i,q,h,_=>by simp at h
 | x :: l,i,q,h,hq=>by
  rw [List.takeWhile_cons] at h
  split at h
  ·rename_i hx
   cases i with
   | zero=>simp at hq; subst hq; exact hx
   | succ i=>exact yzF (l:=l) (i:=i) (by simpa using h) (by simpa using hq)
  ·simp at h
theorem yzc {α : Type} {p : α → Bool} : ∀ {l : List α} {q : α},l[(l.takeWhile p).length]? = some q → p q = false
 | [],q,h=>by simp at h
 | x :: l,q,h=>by
  rw [List.takeWhile_cons] at h
  split at h
  ·exact yzc (l:=l) (by simpa using h)
  ·rename_i hx
   simp at h; subst h; simpa using hx
theorem yfb {l : List Point} (tf : TableFacts l) : ∀ {j i : Nat} {p q : Point},i ≤ j → l[i]? = some p → l[j]? = some q → p.X ≤ q.X ∧ p.Y ≤ q.Y
 | 0,i,p,q,h,hp,hq=>by
  have : i = 0:=by omega
  subst this; rw [hp] at hq; cases hq; omega
 | j + 1,i,p,q,h,hp,hq=>by
  rcases Nat.lt_or_ge j i with h1 | h1
  ·have : i = j + 1:=by omega
   subst this; rw [hp] at hq; cases hq; omega
  ·have hj:=(List.getElem?_eq_some_iff.1 hq).1
   obtain ⟨r,hr⟩ : ∃ r,l[j]? = some r:=⟨_,List.getElem?_eq_getElem (by omega)⟩
   have e1:=yfb tf h1 hp hr
   have e2:=tf.up j r q hr hq
   omega
theorem yD2 {l : List Point} (tf : TableFacts l) {x : Int} (h0 : (ybq l 0).X ≤ x) (h1 : x < (ybq l (l.length - 1)).X) : ∃ p q,l[seg l x]? = some p ∧ l[seg l x + 1]? = some q ∧ p.X ≤ x ∧ x < q.X:=by
 obtain ⟨hl1,hl2⟩:=tf.len
 have hlen : seg l x ≤ l.length - 1:=by
  unfold seg
  have:=(List.takeWhile_sublist (fun q : Point=>decide (q.X ≤ x)) (l:=l.tail)).length_le
  simpa using this
 obtain ⟨e,he⟩ : ∃ e,l[l.length - 1]? = some e:=⟨_,List.getElem?_eq_getElem (by omega)⟩
 rw [ybc he] at h1
 have hp : ∀ p,l[seg l x]? = some p → p.X ≤ x:=by
  intro p hp
  cases hs : seg l x with
  | zero=>rw [hs] at hp; rw [ybc hp] at h0; exact h0
  | succ j =>
   rw [hs] at hp
   have:=yzF (p:=fun q : Point=>decide (q.X ≤ x)) (l:=l.tail) (i:=j) (q:=p) (by show j < seg l x; omega) (by rw [List.getElem?_tail]; exact hp)
   simpa using this
 have hlt : seg l x < l.length - 1:=by
  rcases Nat.lt_or_ge (seg l x) (l.length - 1) with h | h
  ·exact h
  ·have e1 : seg l x = l.length - 1:=by omega
   have:=hp e (by rw [e1]; exact he)
   omega
 obtain ⟨p,hp'⟩ : ∃ p,l[seg l x]? = some p:=⟨_,List.getElem?_eq_getElem (by omega)⟩
 obtain ⟨q,hq'⟩ : ∃ p,l[seg l x + 1]? = some p:=⟨_,List.getElem?_eq_getElem (by omega)⟩
 refine ⟨p,q,hp',hq',hp p hp',?_⟩
 have:=yzc (p:=fun q : Point=>decide (q.X ≤ x)) (l:=l.tail) (q:=q) (by rw [List.getElem?_tail]; exact hq')
 simp at this
 omega
theorem yul {l : List Point} (h : yaM l = true) {x : Int} (h0 : (ybq l 0).X < x) (h1 : x < (ybq l (l.length - 1)).X) : yac l x = yi6 (ybq l (seg l x)) (ybq l (seg l x + 1)) x:=by
 have g1 : ¬ x ≤ (ybq l 0).X:=by omega
 have g2 : ¬ (ybq l (l.length - 1)).X ≤ x:=by omega
 simp [yac,h,g1,g2]
theorem yh8 {l : List Point} (h : yaM l = true) {x : Int} (h0 : x ≤ (ybq l 0).X) : yac l x = (ybq l 0).Y:=by simp [yac,h,h0]
theorem yhp {l : List Point} (h : yaM l = true) {x : Int} (h1 : (ybq l (l.length - 1)).X ≤ x) : yac l x = (ybq l (l.length - 1)).Y:=by
 have tf:=yeM h
 obtain ⟨hl1,hl2⟩:=tf.len
 obtain ⟨e,he⟩ : ∃ e,l[l.length - 1]? = some e:=⟨_,List.getElem?_eq_getElem (by omega)⟩
 obtain ⟨p,hp⟩ : ∃ e,l[0]? = some e:=⟨_,List.getElem?_eq_getElem (by omega)⟩
 obtain ⟨q,hq⟩ : ∃ e,l[1]? = some e:=⟨_,List.getElem?_eq_getElem (by omega)⟩
 have e1:=tf.up 0 p q hp hq
 have e2:=yfb tf (show 1 ≤ l.length - 1 by omega) hq he
 have g1 : ¬ x ≤ (ybq l 0).X:=by rw [ybc hp]; rw [ybc he] at h1; omega
 simp [yac,h,g1,h1]
theorem yjh {l : List Point} (h : yaM l = true) {x : Int} (h0 : (ybq l 0).X < x) (h1 : x < (ybq l (l.length - 1)).X) :
 ∃ p q,l[seg l x]? = some p ∧ l[seg l x + 1]? = some q ∧ p.X ≤ x ∧ x < q.X ∧ yac l x = yi6 p q x ∧ p.Y ≤ yac l x ∧ yac l x ≤ q.Y:=by
 have tf:=yeM h
 obtain ⟨p,q,e1,e2,e3,e4⟩:=yD2 tf (Int.le_of_lt h0) h1
 have hv:=yul h h0 h1
 rw [ybc e1,ybc e2] at hv
 have hen:=yvy tf e1 e2
 have m1:=ykl tf e1 e2 (Int.le_refl _) e3
 have m2:=ykl tf e1 e2 e3 (Int.le_of_lt e4)
 exact ⟨p,q,e1,e2,e3,e4,hv,by rw [hv]; omega,by rw [hv]; omega⟩
theorem yzK {l : List Point} (tf : TableFacts l) {x y : Int} (hxy : x ≤ y) {p q : Point} (hp : l[seg l x]? = some p) (hx : p.X ≤ x) (hq : l[seg l y + 1]? = some q) (hy : y < q.X) : seg l x ≤ seg l y:=by
 rcases Nat.lt_or_ge (seg l y) (seg l x) with h | h
 ·have:=yfb tf (show seg l y + 1 ≤ seg l x by omega) hq hp
  omega
 ·exact h
theorem yk4 {l : List Point} (h : yaM l = true) {x y : Int} (hxy : x ≤ y) : yac l x ≤ yac l y:=by
 have tf:=yeM h
 obtain ⟨hl1,hl2⟩:=tf.len
 obtain ⟨e,he⟩ : ∃ e,l[l.length - 1]? = some e:=⟨_,List.getElem?_eq_getElem (by omega)⟩
 obtain ⟨f,hf⟩ : ∃ e,l[0]? = some e:=⟨_,List.getElem?_eq_getElem (by omega)⟩
 have hfe:=yfb tf (Nat.zero_le _) hf he
 rcases Int.lt_or_le (ybq l 0).X y with hy | hy
 ·rcases Int.lt_or_le y (ybq l (l.length - 1)).X with hy2 | hy2
  ·obtain ⟨p',q',a1,a2,a3,a4,a5,a6,a7⟩:=yjh h hy hy2
   rcases Int.lt_or_le (ybq l 0).X x with hx | hx
   ·obtain ⟨p,q,b1,b2,b3,b4,b5,b6,b7⟩:=yjh h hx (by omega)
    have hs:=yzK tf hxy b1 b3 a2 a4
    rcases Nat.lt_or_ge (seg l x) (seg l y) with hlt | hge
    ·have:=yfb tf (show seg l x + 1 ≤ seg l y by omega) b2 a1
     omega
    ·have e1 : seg l x = seg l y:=by omega
     rw [e1] at b1 b2
     rw [b1] at a1; cases a1
     rw [b2] at a2; cases a2
     rw [a5,b5]
     exact ykl tf b1 b2 b3 hxy
   ·rw [yh8 h hx,ybc hf]
    have:=yfb tf (Nat.zero_le _) hf a1
    omega
  ·rw [yhp h hy2,ybc he]
   rcases Int.lt_or_le (ybq l 0).X x with hx | hx
   ·rcases Int.lt_or_le x (ybq l (l.length - 1)).X with hx2 | hx2
    ·obtain ⟨p,q,b1,b2,b3,b4,b5,b6,b7⟩:=yjh h hx hx2
     have hk:=(List.getElem?_eq_some_iff.1 b2).1
     have:=yfb tf (show seg l x + 1 ≤ l.length - 1 by omega) b2 he
     omega
    ·rw [yhp h hx2,ybc he]; omega
   ·rw [yh8 h hx,ybc hf]; omega
 ·rw [yh8 h hy,yh8 h (by omega)]; omega
def yc0 (l : List Point) (y : Int) : Int × Bool :=
 if yaM l = true ∧ y ≤ (ybq l (l.length - 1)).Y then (least (fun z=>decide (y ≤ yac l z)) (ybq l 0).X ((ybq l (l.length - 1)).X - (ybq l 0).X).toNat,true) else (0,false)
theorem yo8 {l : List Point} {y : Int} (h : yaM l = false) : yc0 l y = (0,false):=by simp [yc0,h]
theorem ymR {l : List Point} {y : Int} (h : (ybq l (l.length - 1)).Y < y) : yc0 l y = (0,false):=by
 have : ¬ y ≤ (ybq l (l.length - 1)).Y:=by omega
 simp [yc0,this]
theorem yoQ {l : List Point} {y p : Int} (h : yaM l = true) (hy : y ≤ (ybq l (l.length - 1)).Y) (h0 : (ybq l 0).X ≤ p) (h1 : p ≤ (ybq l (l.length - 1)).X) (hp : y ≤ yac l p) (hz : ∀ z,(ybq l 0).X ≤ z → z < p → yac l z < y) : yc0 l y = (p,true):=by
 simp only [yc0,h,hy,and_self,if_true]
 rw [yuK (p:=p) h0 (by omega) (by simp [hp]) fun z z1 z2=>by have:=hz z z1 z2; simp; omega]
theorem yhB {l : List Point} (h1 : yaM l = true) : ∃ p0 pe,l[0]? = some p0 ∧ l[l.length - 1]? = some pe ∧ ybq l 0 = p0 ∧ ybq l (l.length - 1) = pe ∧ 0 ≤ p0.X ∧ p0.X ≤ pe.X ∧ pe.X ≤ 1000000000 ∧ 2 ≤ l.length ∧ l.length ≤ 20 ∧ 0 ≤ pe.Y ∧ pe.Y ≤ 1000000000:=by
 have tf:=yeM h1
 obtain ⟨hl1,hl2⟩:=tf.len
 obtain ⟨p0,e0⟩ : ∃ p,l[0]? = some p:=⟨_,List.getElem?_eq_getElem (by omega)⟩
 obtain ⟨pe,ee⟩ : ∃ p,l[l.length - 1]? = some p:=⟨_,List.getElem?_eq_getElem (by omega)⟩
 have b1:=tf.pt _ _ e0
 have b2:=tf.pt _ _ ee
 have b3:=yfb tf (Nat.zero_le _) e0 ee
 exact ⟨p0,pe,e0,ee,ybc e0,ybc ee,b1.1.1,b3.1,b2.1.2,hl1,hl2,b2.2.1,b2.2.2⟩
theorem ysM (l : List Point) (y : Int) : yB Tryz.prog 289 [.c (.sl 2 (l.map Point.enc)),.c (.i y)] (.tup [.c (.i (yc0 l y).1),.c (.b (yc0 l y).2)]):=by
 refine yh ypO ?_
 simp -dsimp -implicitDefEqProofs
 refine yc (yh0 l) ?_
 cases h1 : yaM l with
 | false =>
  simp -dsimp -implicitDefEqProofs
  simp [yo8 h1]
 | true =>
  obtain ⟨p0,pe,e0,ee,a0,ae,b1,b2,b3,hl1,hl2,b4,b5⟩:=yhB h1
  have f0:=(List.getElem?_eq_some_iff.1 e0).2
  have l0 : 0 < l.length:=by omega
  have l1 : (1 : Int) ≤ l.length:=by omega
  have l2 : (l.length : Int) - 1 < l.length:=by omega
  have l3 : inI ((l.length : Int) - 1):=by unfold inI; omega
  simp -dsimp -implicitDefEqProofs [e0,ee,f0,l0,l1,l2,l3]
  refine fun _=>⟨fun h2=>?_,fun h2 _=>?_⟩
  ·simp [ymR (show (ybq l (l.length - 1)).Y < y by rw [ae]; exact h2)]
  have hy : y ≤ (ybq l (l.length - 1)).Y:=by rw [ae]; omega
  have he : y ≤ yac l pe.X:=by rw [yhp h1 (by rw [ae]; exact Int.le_refl _),ae]; rw [ae] at hy; exact hy
  have hz : ∀ z,p0.X ≤ z → z < p0.X → yac l z < y:=fun z z1 z2=>absurd z2 (by omega)
  have hz' : ∀ z,p0.X ≤ z → z ≤ p0.X - 1 → yac l z < y:=fun z z1 z2=>absurd z2 (by omega)
  refine yg (ι:=Int × Int) (fun p=>p0.X ≤ p.1 ∧ p.1 ≤ p.2 ∧ p.2 ≤ pe.X ∧ y ≤ yac l p.2 ∧ ∀ z,p0.X ≤ z → z < p.1 → yac l z < y) (fun p=>yO [(0,.c (.sl 2 (l.map Point.enc))),(1,.c (.i y)),(6,.c (.i p.1)),(7,.c (.i p.2))] []) (fun p=>(p.2 - p.1).toNat) (p0.X,pe.X) ⟨Int.le_refl _,b2,Int.le_refl _,he,hz⟩ (by apply yj <;> simp) ?_
  rintro ⟨lo,hi⟩ ⟨c1,c2,c3,c4,c5⟩
  simp only at c1 c2 c3 c4 c5
  have hq : (lo + hi).tdiv 2 = (lo + hi) / 2:=Int.tdiv_eq_ediv_of_nonneg (by omega)
  simp -dsimp -implicitDefEqProofs
  refine ⟨fun h4=>⟨by unfold inI; omega,by rw [hq]; unfold inI; omega,?_⟩,fun h4=>?_⟩
  ·refine yaQ (yh5 l ((lo + hi).tdiv 2)) (by simp) rfl ?_
   simp -dsimp -implicitDefEqProofs
   rw [hq]
   refine ⟨fun h5=>?_,fun h5=>?_⟩
   ·exact ⟨lo,(lo + hi) / 2,⟨c1,by omega,by omega,h5,c5⟩,by omega,by apply yj <;> simp⟩
   ·refine ⟨by unfold inI; omega,(lo + hi) / 2 + 1,hi,⟨by omega,by omega,c3,c4,fun z z1 z2=>?_⟩,by omega,by apply yj <;> simp⟩
    have:=yk4 h1 (show z ≤ (lo + hi) / 2 by omega)
    omega
  ·have e : hi = lo:=by omega
   subst e
   rw [yoQ h1 hy (by rw [a0]; exact c1) (by rw [ae]; exact c3) c4 (by rw [a0]; exact c5)]
   simp
theorem ytD (l : List Point) (y : Int) : yB Tryz.prog 228 [.c (.sl 2 (l.map Point.enc)),.c (.i y)] (.tup [.c (.i (yc0 l y).1),.c (.b (yc0 l y).2)]):=by
 refine yh ypC ?_
 simp -dsimp -implicitDefEqProofs
 refine yc (yh7 l) ?_
 cases h1 : yaM l with
 | false =>
  simp -dsimp -implicitDefEqProofs
  simp [yo8 h1]
 | true =>
  obtain ⟨p0,pe,e0,ee,a0,ae,b1,b2,b3,hl1,hl2,b4,b5⟩:=yhB h1
  have f0:=(List.getElem?_eq_some_iff.1 e0).2
  have l0 : 0 < l.length:=by omega
  have l1 : (1 : Int) ≤ l.length:=by omega
  have l2 : (l.length : Int) - 1 < l.length:=by omega
  have l3 : inI ((l.length : Int) - 1):=by unfold inI; omega
  simp -dsimp -implicitDefEqProofs [e0,ee,f0,l0,l1,l2,l3]
  refine fun _=>⟨fun h2=>?_,fun h2=>?_⟩
  ·simp [ymR (show (ybq l (l.length - 1)).Y < y by rw [ae]; exact h2)]
  have hy : y ≤ (ybq l (l.length - 1)).Y:=by rw [ae]; omega
  have he : y ≤ yac l pe.X:=by rw [yhp h1 (by rw [ae]; exact Int.le_refl _),ae]; rw [ae] at hy; exact hy
  have hz : ∀ z,p0.X ≤ z → z < p0.X → yac l z < y:=fun z z1 z2=>absurd z2 (by omega)
  have hz' : ∀ z,p0.X ≤ z → z ≤ p0.X - 1 → yac l z < y:=fun z z1 z2=>absurd z2 (by omega)
  refine ⟨by unfold inI; omega,fun _=>?_⟩
  refine yg (ι:=Int × Int) (fun p=>p0.X - 1 ≤ p.1 ∧ p.1 < p.2 ∧ p.2 ≤ pe.X ∧ y ≤ yac l p.2 ∧ ∀ z,p0.X ≤ z → z ≤ p.1 → yac l z < y) (fun p=>yO [(0,.c (.sl 2 (l.map Point.enc))),(1,.c (.i y)),(6,.c (.i p.1)),(7,.c (.i p.2))] []) (fun p=>(p.2 - p.1).toNat) (p0.X - 1,pe.X) ⟨Int.le_refl _,by simp only; omega,Int.le_refl _,he,hz'⟩ (by apply yj <;> simp) ?_
  rintro ⟨lo,hi⟩ ⟨c1,c2,c3,c4,c5⟩
  simp only at c1 c2 c3 c4 c5
  have hq : (hi - lo).tdiv 2 = (hi - lo) / 2:=Int.tdiv_eq_ediv_of_nonneg (by omega)
  simp -dsimp -implicitDefEqProofs
  refine ⟨by unfold inI; omega,fun h4=>⟨by unfold inI; omega,by rw [hq]; unfold inI; omega,by rw [hq]; unfold inI; omega,?_⟩,fun h4=>?_⟩
  ·refine yaQ (yhS l (lo + (hi - lo).tdiv 2)) (by simp) rfl ?_
   simp -dsimp -implicitDefEqProofs
   rw [hq]
   refine ⟨fun h5=>?_,fun h5=>?_⟩
   ·exact ⟨lo,lo + (hi - lo) / 2,⟨c1,by omega,by omega,h5,c5⟩,by omega,by apply yj <;> simp⟩
   ·refine ⟨lo + (hi - lo) / 2,hi,⟨by omega,by omega,c3,c4,fun z z1 z2=>?_⟩,by omega,by apply yj <;> simp⟩
    have:=yk4 h1 (show z ≤ lo + (hi - lo) / 2 by omega)
    omega
  ·have e : hi = lo + 1:=by omega
   subst e
   rw [yoQ h1 hy (by rw [a0]; omega) (by rw [ae]; exact c3) c4 (by rw [a0]; exact fun z z1 z2=>c5 z z1 (by omega))]
   simp
theorem yRd {l : List Point} {y : Int} (h : (yc0 l y).2 = true) : yaM l = true ∧ 0 ≤ (yc0 l y).1 ∧ (yc0 l y).1 ≤ 1000000000:=by
 unfold yc0 at h ⊢
 split at h
 ·rename_i hh
  obtain ⟨p0,pe,e0,ee,a0,ae,b1,b2,b3,hl1,hl2,b4,b5⟩:=yhB hh.1
  rw [if_pos hh]
  have : ∀ (f : Int → Bool) (n : Nat) (lo : Int),lo ≤ least f lo n ∧ least f lo n ≤ lo + n:=by
   intro f n
   induction n with
   | zero=>intro lo; simp [least]
   | succ n ih =>
    intro lo
    simp only [least]
    have:=ih (lo + 1)
    split <;> omega
  have:=this (fun z=>decide (y ≤ yac l z)) ((ybq l (l.length - 1)).X - (ybq l 0).X).toNat (ybq l 0).X
  rw [a0,ae] at this
  simp only [a0,ae]
  exact ⟨hh.1,by omega,by omega⟩
 ·simp at h
def yal (r : Reach) : Int:=if yR r then (if (yc0 r.Table r.Volume).2 then (yc0 r.Table r.Volume).1 else (ybq r.Table (r.Table.length - 1)).X) else 0
theorem yQo (r : Reach) : 0 ≤ yal r ∧ yal r ≤ 1000000000:=by
 unfold yal
 split
 ·rename_i h
  have ht : yaM r.Table = true:=by simp [yR] at h; exact h.1.1.1.1
  obtain ⟨p0,pe,e0,ee,a0,ae,b1,b2,b3,hl1,hl2,b4,b5⟩:=yhB ht
  split
  ·rename_i hp; have:=yRd hp; omega
  ·rw [ae]; omega
 ·omega
theorem yel (r : Reach) : yB Tryz.prog 245 [.agg (r.enc.map .c)] (.c (.i (yal r))):=by
 refine yh yqa ?_
 simp -dsimp -implicitDefEqProofs
 refine yc (yby r) ?_
 cases h : yR r with
 | false=>simp -dsimp -implicitDefEqProofs; simp [yal,h]
 | true =>
  have ht : yaM r.Table = true:=by simp [yR] at h; exact h.1.1.1.1
  obtain ⟨p0,pe,e0,ee,a0,ae,b1,b2,b3,hl1,hl2,b4,b5⟩:=yhB ht
  simp -dsimp -implicitDefEqProofs
  refine yc (ysM r.Table r.Volume) ?_
  cases hp : (yc0 r.Table r.Volume).2 with
  | false =>
   have l2 : (r.Table.length : Int) - 1 < r.Table.length:=by omega
   have l3 : inI ((r.Table.length : Int) - 1):=by unfold inI; omega
   have l1 : (1 : Int) ≤ r.Table.length:=by omega
   simp -dsimp -implicitDefEqProofs [hp,ee,l1,l2,l3]
   intro _
   simp [yal,h,hp,ae]
  | true=>simp -dsimp -implicitDefEqProofs [hp]; simp [yal,h,hp]
theorem yeo (r : Reach) : yB Tryz.prog 155 [.agg (r.enc.map .c)] (.c (.i (yal r))):=by
 refine yh ypl ?_
 simp -dsimp -implicitDefEqProofs
 refine yc (ybX r) ?_
 cases h : yR r with
 | false=>simp -dsimp -implicitDefEqProofs; simp [yal,h]
 | true =>
  have ht : yaM r.Table = true:=by simp [yR] at h; exact h.1.1.1.1
  obtain ⟨p0,pe,e0,ee,a0,ae,b1,b2,b3,hl1,hl2,b4,b5⟩:=yhB ht
  simp -dsimp -implicitDefEqProofs
  refine yc (ytD r.Table r.Volume) ?_
  cases hp : (yc0 r.Table r.Volume).2 with
  | false =>
   have l2 : (r.Table.length : Int) - 1 < r.Table.length:=by omega
   have l3 : inI ((r.Table.length : Int) - 1):=by unfold inI; omega
   have l1 : (1 : Int) ≤ r.Table.length:=by omega
   simp -dsimp -implicitDefEqProofs [hp,ee,l1,l2,l3]
   intro _
   simp [yal,h,hp,ae]
  | true=>simp -dsimp -implicitDefEqProofs [hp]; simp [yal,h,hp]
def yPl (w : Way) (r : Reach) : Int:=if yjg w = true ∧ yR r = true then (if 0 < yal r - w.Bed then yal r - w.Bed else 0) else 0
theorem yQj {w : Way} (h : yjg w = true) : (1 ≤ w.Long ∧ w.Long ≤ 10000) ∧ 0 ≤ w.Bed ∧ w.Bed ≤ 100000:=by
 simp only [yjg,Bool.and_eq_true] at h
 exact ⟨yF.1 h.1,yF.1 h.2⟩
theorem yQU (w : Way) (r : Reach) : yB Tryz.prog 220 [.agg (w.enc.map .c),.agg (r.enc.map .c)] (.c (.i (yPl w r))):=by
 refine yh yQB ?_
 simp -dsimp -implicitDefEqProofs
 refine yc (ypN w) ?_
 simp -dsimp -implicitDefEqProofs
 refine ⟨fun h1=>?_,fun h1=>by simp [yPl,h1]⟩
 refine yc (yby r) ?_
 simp -dsimp -implicitDefEqProofs
 refine ⟨fun h2=>by simp [yPl,h2],fun h2=>?_⟩
 refine yaC (yel r) ?_
 simp -dsimp -implicitDefEqProofs
 have hl:=yQo r
 have hb:=yQj h1
 exact ⟨by unfold inI; omega,by simp [yPl,h1,h2]⟩
end Go.Proofs.YtjojilkdkgmbgaaGreat
