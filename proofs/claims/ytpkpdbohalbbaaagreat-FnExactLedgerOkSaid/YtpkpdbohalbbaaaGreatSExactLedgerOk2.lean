/- What the law FnExactLedgerOk stands on: contracts of functions, what each answers as plain Lean, in short form (names, layout). -/
import Derived.Test.YtpkpdbohalbbaaaGreatSExactLedgerOk1
set_option linter.all false
namespace Go.Proofs.YtpkpdbohalbbaaaGreat
open Go.RowKit
theorem ySN {t : Int} {ws : List Int} (h : yR8 t ws = true) : ShareFacts t ws:=by
 simp only [yR8,Bool.and_eq_true,decide_eq_true_eq,List.all_eq_true] at h
 obtain ⟨⟨⟨⟨h1,h2⟩,h3⟩,h4⟩,h5⟩:=h
 have hr : ∀ w ∈ ws,0 ≤ w ∧ w ≤ 1000000:=fun w hw=>yF.1 (h4 w hw)
 have hs:=sum_bnd hr
 exact ⟨yF.1 h1,⟨h2,h3⟩,hr,by omega⟩
theorem ySi {t s w : Int} (ht : 0 ≤ t ∧ t ≤ 1000000000) (hs : 1 ≤ s) (hw : 0 ≤ w ∧ w ≤ 1000000) : 0 ≤ quota t s w ∧ quota t s w ≤ 1000000000000000 ∧ 0 ≤ ySp t s w ∧ ySp t s w < s ∧ s * quota t s w + ySp t s w = t * w ∧ 0 ≤ t * w ∧ t * w ≤ 1000000000000000:=by
 have h0 : 0 ≤ t * w:=Int.mul_nonneg ht.1 hw.1
 have h1 : t * w ≤ 1000000000 * 1000000:=Int.mul_le_mul ht.2 hw.2 hw.1 (by omega)
 unfold quota ySp
 rw [Int.tdiv_eq_ediv_of_nonneg h0,Int.tmod_eq_emod_of_nonneg h0]
 have a1:=Int.emod_nonneg (t * w) (show s ≠ 0 by omega)
 have a2:=Int.emod_lt_of_pos (t * w) (show 0 < s by omega)
 have a3:=Int.mul_ediv_add_emod (t * w) s
 have a4 : 0 ≤ t * w / s:=Int.ediv_nonneg h0 (by omega)
 have a5 : t * w / s ≤ t * w:=Int.ediv_le_self _ h0
 exact ⟨a4,by omega,a1,a2,a3,h0,by omega⟩
theorem yTw {t s : Int} (ht : 0 ≤ t ∧ t ≤ 1000000000) (hs : 1 ≤ s) : ∀ {ws : List Int},(∀ w ∈ ws,0 ≤ w ∧ w ≤ 1000000) → s * (ws.map (quota t s)).sum + (ws.map (ySp t s)).sum = t * ws.sum
 | [],_=>by simp
 | w :: ws,h=>by
  have ih:=yTw ht hs (ws:=ws) fun x hx=>h x (by simp [hx])
  have q:=(ySi (t:=t) (s:=s) ht hs (h w (by simp))).2.2.2.2.1
  simp only [List.map_cons,List.sum_cons,Int.mul_add]
  omega
theorem yTv {t : Int} {ws : List Int} (h : ShareFacts t ws) : 0 ≤ ySb t ws ∧ ySb t ws < ws.length:=by
 have hs:=yTw h.tot h.sum.1 h.rng
 have hr:=sum_bnd (l:=ws.map (ySp t ws.sum)) (m:=ws.sum - 1) (fun x hx=>by
  obtain ⟨w,hw,rfl⟩:=List.mem_map.1 hx
  have:=ySi h.tot h.sum.1 (h.rng w hw)
  omega)
 rw [List.length_map] at hr
 have e : ws.sum * ySb t ws = (ws.map (ySp t ws.sum)).sum:=by
  unfold ySb; rw [Int.mul_sub,Int.mul_comm ws.sum t]; omega
 have hp:=h.sum.1
 have hl:=h.len.1
 constructor
 ·rcases Int.lt_or_le (ySb t ws) 0 with h1 | h1
  ·have:=Int.mul_neg_of_pos_of_neg (show 0 < ws.sum by omega) h1
   omega
  ·exact h1
 ·rcases Int.lt_or_le (ySb t ws) ws.length with h1 | h1
  ·exact h1
  ·have h2:=Int.mul_le_mul_of_nonneg_left h1 (show 0 ≤ ws.sum by omega)
   have h3 : (ws.sum - 1) * (ws.length : Int) < ws.sum * (ws.length : Int):=Int.mul_lt_mul_of_pos_right (by omega) (by omega)
   omega
theorem yTl {t : Int} {ws : List Int} (h : yR8 t ws = true) : yR3 t ws = ySt (ws.map (quota t ws.sum)) (ySh (ws.map (ySp t ws.sum)) ws.length) (ySb t ws).toNat:=by
 have f:=ySN h
 have hl:=yTv f
 have hR : ∀ x,0 ≤ vAt (ws.map (ySp t ws.sum)) x:=by
  intro x
  unfold vAt
  cases hx : (ws.map (ySp t ws.sum))[x]? with
  | none=>simp
  | some r =>
   rw [List.getElem?_map,Option.map_eq_some_iff] at hx
   obtain ⟨w,hw,rfl⟩:=hx
   exact (ySi f.tot f.sum.1 (f.rng w (List.mem_of_getElem? hw))).2.2.1
 have key:=yTN (Q:=ws.map (quota t ws.sum)) hR (ySb t ws).toNat 0 (by rw [List.length_map]; omega)
 rw [yTL,yTk,List.length_map,Nat.zero_add] at key
 rw [yR3,if_pos h,key]
def yR5 (x : Nat) : List C:=[.i x]
theorem yT7 (t s : Int) (ws : List Int) (ht : 0 ≤ t ∧ t ≤ 1000000000) (hs : 1 ≤ s) (hs2 : s ≤ 12000000) (hw : ∀ w ∈ ws,0 ≤ w ∧ w ≤ 1000000) (x y : Nat) (hx : x < ws.length) (hy : y < ws.length) :
 yB Tryz.prog 167 [.c (.i x),.c (.i y),.elt [.i t],.elt [.sl 1 (ws.map yJ)],.elt [.i s]] (.c (.i (vAt (ws.map (ySp t s)) y - vAt (ws.map (ySp t s)) x))):=by
 obtain ⟨wx,hwx⟩ : ∃ e,ws[x]? = some e:=⟨_,List.getElem?_eq_getElem hx⟩
 obtain ⟨wy,hwy⟩ : ∃ e,ws[y]? = some e:=⟨_,List.getElem?_eq_getElem hy⟩
 have g1:=(List.getElem?_eq_some_iff.1 hwx).2
 have g2:=(List.getElem?_eq_some_iff.1 hwy).2
 have q1:=ySi ht hs (hw wx (List.mem_of_getElem? hwx))
 have q2:=ySi ht hs (hw wy (List.mem_of_getElem? hwy))
 have e1 : vAt (ws.map (ySp t s)) x = ySp t s wx:=ySA (by simp [hwx])
 have e2 : vAt (ws.map (ySp t s)) y = ySp t s wy:=ySA (by simp [hwy])
 rw [e1,e2]
 unfold ySp at *
 refine yh yS7 ?_
 simp -dsimp -implicitDefEqProofs [ySy,hwx,hwy,g1,g2,hx,hy]
 refine ⟨by unfold inI; omega,by omega,by unfold inI; omega,by unfold inI; omega,by omega,by unfold inI; omega,by unfold inI; omega⟩
def yS6 (R : List Int) (i n : Nat) : List Nat:=ySh R i ++ List.range' i (n - i)
def ySw (l1 l2 : List Nat) (i n : Nat) : List Nat:=(l1 ++ i :: l2) ++ List.range' (i + 1) (n - (i + 1))
theorem yUh {R : List Int} {n : Nat} (h : 1 ≤ n) : yS6 R 1 n = List.range n:=by
 have : ySh R 1 = [0]:=rfl
 unfold yS6
 rw [this,List.range_eq_range',show n = (n - 1) + 1 by omega,List.range'_succ]; simp
theorem yUe {R : List Int} {n : Nat} : yS6 R n n = ySh R n:=by simp [yS6]
theorem yUk {R : List Int} {i n : Nat} (h : i < n) : yS6 R i n = ySw (ySh R i) [] i n:=by
 unfold yS6 ySw
 rw [show n - i = (n - (i + 1)) + 1 by omega,List.range'_succ]; simp
theorem yTQ {R : List Int} {i n : Nat} {l1 l2 : List Nat} (h : ySh R (i + 1) = l1 ++ i :: l2) : ySw l1 l2 i n = yS6 R (i + 1) n:=by unfold yS6 ySw; rw [h]
theorem yUf {i n : Nat} {l1 l2 : List Nat} (h : l1.length + l2.length = i) (h2 : i < n) : (ySw l1 l2 i n).length = n:=by simp [ySw]; omega
theorem yUd {i n y : Nat} {l l2 : List Nat} : (ySw (l ++ [y]) l2 i n)[l.length + 1]? = some i ∧ (ySw (l ++ [y]) l2 i n)[l.length]? = some y ∧
 ((ySw (l ++ [y]) l2 i n).set (l.length + 1) y).set l.length i = ySw l (y :: l2) i n:=by
 unfold ySw
 simp only [List.append_assoc,List.cons_append,List.nil_append]
 refine ⟨by simp [List.getElem?_append],by simp [List.getElem?_append],?_⟩
 simp [List.set_append]
theorem yUb (R : List Int) (n : Nat) (hn : 1 ≤ n) (hn2 : n ≤ 1000) (f : Nat) (a b c : List C) (hf : ∃ fn,Tryz.prog.funcs[f]? = some fn ∧ fn.body.isSome = true ∧ (fn.name != "runtime.NumGoroutine") = true)
 (hc : ∀ x y : Nat,x < n → y < n → yB Tryz.prog f [.c (.i x),.c (.i y),.elt a,.elt b,.elt c] (.c (.i (vAt R y - vAt R x)))) :
 InF Tryz.prog 179 (.c (cw 1 ((List.range n).map yR5))) (.c (cw 1 ((ySh R n).map yR5))) [.c (.i 0),.c (.i n),.fn f [.elt a,.elt b,.elt c]] (.tup []):=by
 have hon:=ySo R n
 rw [yb4 (by simp; omega),yb4 (by rw [List.length_map,hon.len]; omega)]
 refine ybO yKZ (by simp) (by simp) rfl fun hwf=>?_
 simp -dsimp -implicitDefEqProofs
 refine ⟨by unfold inI; omega,?_⟩
 refine yg (ι:=Nat) (fun i=>1 ≤ i ∧ i ≤ n) (fun i=>yO [(0,.own 0 1 n),(1,.c (.i 0)),(2,.c (.i n)),(3,.fn f [.elt a,.elt b,.elt c]),(8,.c (.i i)),(1000000,.own 0 1 n)] [(0,.row 1 ((yS6 R i n).map yR5))]) (fun i=>n - i) 1 ⟨Nat.le_refl _,hn⟩ (by apply yj <;> simp [yUh hn]) ?_
 rintro i ⟨hi1,hi⟩
 have fi:=ySo R i
 rcases Nat.lt_or_ge i n with hlt | hge
 ·simp -dsimp -implicitDefEqProofs [yG hlt]
  rw [yUk hlt]
  have hsuc : ySh R (i + 1) = yUg R i (ySh R i):=rfl
  generalize ySh R i = P at *
  refine yg (ι:=List Nat × List Nat) (fun p=>p.1 ++ p.2 = P ∧ ∀ x ∈ p.2,vAt R x < vAt R i) (fun p=>yO [(0,.own 0 1 n),(1,.c (.i 0)),(2,.c (.i n)),(3,.fn f [.elt a,.elt b,.elt c]),(8,.c (.i i)),(9,.c (.i p.1.length)),(1000000,.own 0 1 n)] [(0,.row 1 ((ySw p.1 p.2 i n).map yR5))]) (fun p=>p.1.length) (P,[]) ⟨by simp,by simp⟩ (by apply yj <;> simp [fi.len]) ?_
  rintro ⟨l1,l2⟩ ⟨he,h2⟩
  simp only at he h2
  rcases List.eq_nil_or_concat l1 with e | ⟨l,y,e⟩
  ·subst e
   have hins:=yUa (R:=R) (i:=i) fi.pw he h2 (fun l y h=>by simp at h)
   rw [← hsuc] at hins
   have hend:=yTQ (n:=n) hins
   simp -dsimp -implicitDefEqProofs
   refine ⟨by unfold inI; omega,i + 1,⟨by omega,by omega⟩,by omega,?_⟩
   apply yj <;> simp [hend]
  ·rw [List.concat_eq_append] at e
   subst e
   have hlen:=yUf (n:=n) (l1:=l ++ [y]) (l2:=l2) (by rw [← List.length_append,he,fi.len]) hlt
   have hyP : y < i:=fi.lt y (by rw [← he]; simp)
   obtain ⟨w1,w2,w3⟩:=yUd (i:=i) (n:=n) (y:=y) (l:=l) (l2:=l2)
   have hend:=fun h=>yTQ (n:=n) (R:=R) (l1:=l ++ [y]) (l2:=l2) (i:=i) (by rw [hsuc]; exact yUa (R:=R) (i:=i) fi.pw he h2 h)
   have hll : l.length + 1 < n:=by rw [← hlen]; exact (List.getElem?_eq_some_iff.1 w1).1
   have e0 : (((l ++ [y]).length : Nat) : Int) = ((l.length + 1 : Nat) : Int):=by simp
   rw [e0]
   generalize ySw (l ++ [y]) l2 i n = M at *
   obtain ⟨m,hm⟩ : ∃ m,m = l.length:=⟨_,rfl⟩
   obtain ⟨j,hj⟩ : ∃ j,j = l.length + 1:=⟨_,rfl⟩
   rw [← hj] at w1 w3 hll ⊢
   rw [← hm] at w2 w3
   have v1:=(List.getElem?_eq_some_iff.1 w1).2
   have v2:=(List.getElem?_eq_some_iff.1 w2).2
   have k1 : j < M.length:=(List.getElem?_eq_some_iff.1 w1).1
   have k2 : m < M.length:=(List.getElem?_eq_some_iff.1 w2).1
   have ej : ((j : Int) - 1) = (m : Int):=by omega
   have j0 : 0 < j:=by omega
   have mn : m < n:=by omega
   have hf' : ∃ fn,Tryz.prog.funcs[f]? = some fn ∧ fn.body.isSome = true ∧ ¬fn.name = "runtime.NumGoroutine":=by simpa using hf
   simp -dsimp -implicitDefEqProofs [j0,ej,w1,w2,v1,v2,k1,k2,yR5,hll,mn]
   refine ⟨by unfold inI; omega,hf',?_⟩
   first
    | refine yaQ (hc i y (by omega) (by omega)) (by simp) rfl ?_
    | refine yaP (hc i y (by omega) (by omega)) (by simp) rfl ?_
    | refine ⟨_,_,hc i y (by omega) (by omega),by simp,.inr rfl,?_⟩
    | refine ⟨_,_,hc i y (by omega) (by omega),by simp,.inl rfl,?_⟩
    | refine ya2 (hc i y (by omega) (by omega)) (by simp) (.inr rfl) ?_
    | refine ya2 (hc i y (by omega) (by omega)) (by simp) (.inl rfl) ?_
   have hr2 : ∀ h,((M.map yR5).set j [C.i y])[m]'h = [C.i y]:=by intro h; rw [List.getElem_set_ne (by omega)]; simp [v2,yR5]
   have hs3 : ((M.map yR5).set j [C.i y]).set m [C.i i] = (ySw l (y :: l2) i n).map yR5:=by rw [← w3,List.map_set,List.map_set]; rfl
   simp -dsimp -implicitDefEqProofs [ej,w1,w2,v1,v2,k1,k2,hll,mn,hr2,hs3]
   refine ⟨fun hcm=>?_,fun hcm=>?_⟩
   ·refine ⟨by unfold inI; omega,l,y :: l2,⟨by rw [← he]; simp,fun x hx=>?_⟩,by omega,?_⟩
    ·rcases List.mem_cons.1 hx with hx | hx
     ·subst hx; omega
     ·exact h2 x hx
    ·apply yj <;> simp [yR5,w1,w2,v1,v2,← hm,hr2,hs3]
   ·have hM:=hend fun l' y' h=>by
     have:=(List.append_inj' h rfl).2
     simp at this; subst this; omega
    refine ⟨by unfold inI; omega,i + 1,⟨by omega,by omega⟩,by omega,?_⟩
    apply yj <;> simp [hM]
 ·have : i = n:=by omega
  subst this
  simp -dsimp -implicitDefEqProofs
  rw [yUe]
  refine ⟨by rw [List.take_of_length_le (by rw [List.length_map,fi.len]; exact Nat.le_refl _)],?_⟩
  simp [yml]
theorem yUm (R : List Int) (n : Nat) (hn : 1 ≤ n) (hn2 : n ≤ 19) (f : Nat) (a b c : List C) (hf : ∃ fn,Tryz.prog.funcs[f]? = some fn ∧ fn.body.isSome = true ∧ (fn.name != "runtime.NumGoroutine") = true)
 (hc : ∀ x y : Nat,x < n → y < n → yB Tryz.prog f [.c (.i x),.c (.i y),.elt a,.elt b,.elt c] (.c (.i (vAt R y - vAt R x)))) :
 InF Tryz.prog 177 (.c (cw 1 ((List.range n).map yR5))) (.c (cw 1 ((ySh R n).map yR5))) [.c (.i n),.fn f [.elt a,.elt b,.elt c]] (.tup []):=by
 have hon:=ySo R n
 have hi:=yUb R n hn (by omega) f a b c hf hc
 have hcw : cw 1 ((ySh R n).map yR5) = .ow 1 ((ySh R n).map yR5):=yb4 (by rw [List.length_map,hon.len]; omega)
 have hcw0 : cw 1 ((List.range n).map yR5) = .ow 1 ((List.range n).map yR5):=yb4 (by simp; omega)
 have n1 : ((20 : Int) ≤ (n : Int)) = False:=by simp; omega
 have n2 : ((20 : Int) < (n : Int)) = False:=by simp; omega
 have n3 : (20 ≤ n) = False:=by simp; omega
 have n4 : (20 < n) = False:=by simp; omega
 rw [hcw,hcw0]
 refine ybO yK5 (by simp) (by simp) rfl fun hwf=>?_
 simp -dsimp -implicitDefEqProofs
 refine yg (ι:=Unit) (fun _=>True) (fun _=>yO [(0,.own 0 1 n),(1,.c (.i n)),(2,.fn f [.elt a,.elt b,.elt c]),(6,.c (.i 20)),(7,.c (.i 0)),(8,.c (.i 20)),(1000000,.own 0 1 n)] [(0,.row 1 ((List.range n).map yR5))]) (fun _=>0) () trivial (by apply yj <;> simp) ?_
 rintro _ _
 simp -dsimp -implicitDefEqProofs [n1,n3]
 refine ycW (up:=some (0,.row 1 ((ySh R n).map yR5))) hi (by simp) rfl rfl (ybY (rows:=(List.range n).map yR5) (by simp) rfl rfl (by simp) (by simp [hon.len]) rfl rfl) ?_
 simp -dsimp -implicitDefEqProofs
 refine yg (ι:=Unit) (fun _=>True) (fun _=>yO [(0,.own 0 1 n),(1,.c (.i n)),(6,.c (.i 20)),(1000000,.own 0 1 n)] [(0,.row 1 ((ySh R n).map yR5))]) (fun _=>0) () trivial (by apply yj <;> simp) ?_
 rintro _ _
 simp -dsimp -implicitDefEqProofs [n2,n4]
 exact ⟨by rw [List.take_of_length_le (by rw [List.length_map,hon.len]; exact Nat.le_refl _)],by simp [yml]⟩
theorem yTT (R : List Int) (n : Nat) (hn : 1 ≤ n) (hn2 : n ≤ 19) (f : Nat) (a b c : List C) (hf : ∃ fn,Tryz.prog.funcs[f]? = some fn ∧ fn.body.isSome = true ∧ (fn.name != "runtime.NumGoroutine") = true)
 (hc : ∀ x y : Nat,x < n → y < n → yB Tryz.prog f [.c (.i x),.c (.i y),.elt a,.elt b,.elt c] (.c (.i (vAt R y - vAt R x)))) :
 InF Tryz.prog 166 (.c (cw 1 ((List.range n).map yR5))) (.c (cw 1 ((ySh R n).map yR5))) [.fn f [.elt a,.elt b,.elt c]] (.tup []):=by
 have hon:=ySo R n
 have hi:=yUm R n hn (by omega) f a b c hf hc
 have hcw : cw 1 ((ySh R n).map yR5) = .ow 1 ((ySh R n).map yR5):=yb4 (by rw [List.length_map,hon.len]; omega)
 have hcw0 : cw 1 ((List.range n).map yR5) = .ow 1 ((List.range n).map yR5):=yb4 (by simp; omega)
 rw [hcw,hcw0]
 refine ybO yK1 (by simp) (by simp) rfl fun hwf=>?_
 simp -dsimp -implicitDefEqProofs
 intro _
 refine ycW (up:=some (0,.row 1 ((ySh R n).map yR5))) hi (by simp) rfl rfl (ybY (rows:=(List.range n).map yR5) (by simp) rfl rfl (by simp) (by simp [hon.len]) rfl rfl) ?_
 simp -dsimp -implicitDefEqProofs
 exact ⟨by rw [List.take_of_length_le (by rw [List.length_map,hon.len]; exact Nat.le_refl _)],by simp [yml]⟩
theorem ySa {t : Int} {ws : List Int} (h : yR8 t ws = false) : yR3 t ws = []:=by simp [yR3,h]
theorem yTY {ws : List Int} {k : Nat} (h12 : ws.length ≤ 12) (h : ∀ x ∈ ws.take k,inRange x 0 1000000 = true) : 0 ≤ sumTo ws k ∧ sumTo ws k ≤ 12000000:=by
 have:=sum_bnd (l:=ws.take k) (m:=1000000) fun x hx=>yF.1 (h x hx)
 have e : (ws.take k).length ≤ 12:=by rw [List.length_take]; omega
 unfold sumTo
 omega
theorem yTX {Q : List Int} {o : List Nat} {m : Int} (hm : 0 ≤ m) (hQ : ∀ x ∈ Q,0 ≤ x ∧ x ≤ m) : ∀ (j : Nat),∀ x ∈ ySt Q o j,0 ≤ x ∧ x ≤ m + j
 | 0,x,hx=>by have:=hQ x hx; omega
 | j + 1,x,hx=>by
  have ih:=yTX hm hQ (o:=o) j
  have e2 : ((j + 1 : Nat) : Int) = j + 1:=by simp
  cases h : o[j]? with
  | none =>
   have hl : o.length ≤ j:=by simpa using h
   have e : ySt Q o (j + 1) = ySt Q o j:=by unfold ySt; rw [List.take_of_length_le (by omega),List.take_of_length_le hl]
   rw [e] at hx
   have:=ih x hx
   omega
  | some a =>
   rw [yS0 h] at hx
   rcases List.mem_or_eq_of_mem_set hx with hx | rfl
   ·have:=ih x hx; omega
   ·have : 0 ≤ vAt (ySt Q o j) a ∧ vAt (ySt Q o j) a ≤ m + j:=by
     unfold vAt
     cases hv : (ySt Q o j)[a]? with
     | none=>simp; omega
     | some v=>exact ih v (List.mem_of_getElem? hv)
    omega
theorem yTH (t : Int) (ws : List Int) : ybh Tryz.prog 131 [.c (.i t),.c (.sl 1 (ws.map yJ))] (.c (.ow 1 ((yR3 t ws).map yJ))):=by
 refine yan yTp ?_
 simp -dsimp -implicitDefEqProofs
 refine yc (yC t 0 1000000000) ?_
 cases ht : inRange t 0 1000000000 with
 | false=>simp -dsimp -implicitDefEqProofs; rw [ySa (by simp [yR8,ht])]
 | true =>
 simp -dsimp -implicitDefEqProofs
 refine fun hlen=>⟨fun h1=>?_,fun h1=>?_⟩
 rotate_left
 ·rw [ySa (by simp [yR8]; omega)]
 refine fun _=>⟨fun h12=>by rw [ySa (by simp [yR8]; omega)],fun h12=>?_⟩
 have h12 : ws.length ≤ 12:=by omega
 have h1 : 1 ≤ ws.length:=by omega
 refine fun _=>yg (ι:=Nat) (fun k=>k ≤ ws.length ∧ ∀ x ∈ ws.take k,inRange x 0 1000000 = true) (fun k=>yO [(2,.box 2 0),(3,.box 3 0),(5,.box 5 0),(27,.c (.sl 1 (ws.map yJ))),(28,.c (.i ws.length)),(29,.c (.i k))] [(2,.box [.c (.i t)]),(3,.box [.c (.sl 1 (ws.map yJ))]),(5,.box [.c (.i (sumTo ws k))])]) (fun k=>ws.length - k) 0 (by simp) (by apply yj <;> simp [yf6]) ?_
 rintro k ⟨hk,hall⟩
 rcases Nat.lt_or_ge k ws.length with hlt | hge
 ·obtain ⟨x,hx⟩ : ∃ x,ws[k]? = some x:=⟨_,List.getElem?_eq_getElem hlt⟩
  have g1:=(List.getElem?_eq_some_iff.1 hx).2
  simp -dsimp -implicitDefEqProofs [hx,g1,yG hlt,hlt]
  refine yc (yC x 0 1000000) ?_
  cases hr : inRange x 0 1000000 with
  | false=>simp -dsimp -implicitDefEqProofs; rw [ySa (by have:=all_false (p:=fun w=>inRange w 0 1000000) hx hr; simp [yR8,this])]
  | true =>
   simp -dsimp -implicitDefEqProofs
   have hall':=yL (p:=fun n=>inRange n 0 1000000) hx hall hr
   have hs:=yTY h12 hall'
   rw [yia hx] at hs
   refine ⟨by unfold inI; omega,yw hlt hlen,k + 1,⟨hlt,hall'⟩,by omega,?_⟩
   apply yj <;> simp [yia hx]
 ·have hall2:=yX (p:=fun n=>inRange n 0 1000000) hge hall
  simp -dsimp -implicitDefEqProofs [yaB hge]
  rw [ymm hge]
  refine ⟨fun h0=>by rw [ySa (by simp [yR8,h0])],fun h0=>?_⟩
  have hok : yR8 t ws = true:=by simp [yR8,ht,h12,h1,hall2,h0]
  have f:=ySN hok
  have hlft:=yTv f
  rw [yTl hok]
  have ft:=f.tot; have fs:=f.sum; have frng:=f.rng
  refine fun _=>⟨by omega,fun _=>⟨by omega,fun _=>?_⟩⟩
  obtain ⟨Q,hQd⟩ : ∃ Q,Q = ws.map (quota t ws.sum):=⟨_,rfl⟩
  have hQl : Q.length = ws.length:=by rw [hQd,List.length_map]
  have hQr : ∀ q ∈ Q,0 ≤ q ∧ q ≤ 1000000000000000:=fun q hq=>by
   rw [hQd] at hq
   obtain ⟨w,hw,rfl⟩:=List.mem_map.1 hq
   have:=ySi ft fs.1 (frng w hw)
   omega
  have hrest : ySb t ws = t - Q.sum:=by rw [hQd]; rfl
  rw [← hQd]
  refine yg (ι:=Nat) (fun k=>k ≤ ws.length) (fun k=>yO [(2,.box 2 0),(3,.box 3 0),(5,.box 5 0),(8,.own 44 1 ws.length),(9,.own 47 1 ws.length),(10,.c (.i (t - sumTo Q k))),(49,.c (.sl 1 (ws.map yJ))),(50,.c (.i ws.length)),(51,.c (.i k))]
   [(2,.box [.c (.i t)]),(3,.box [.c (.sl 1 (ws.map yJ))]),(5,.box [.c (.i ws.sum)]),(44,.row 1 (partly yJ [.i 0] Q k)),(47,.row 1 (partly yR5 [.i 0] (List.range ws.length) k))]) (fun k=>ws.length - k) 0 (by simp) (by apply yj <;> simp [yf6,yab,hQl]) ?_
  clear hall hk hge k
  rintro k hk
  rcases Nat.lt_or_ge k ws.length with hlt | hge
  ·obtain ⟨w,hw⟩ : ∃ x,ws[k]? = some x:=⟨_,List.getElem?_eq_getElem hlt⟩
   have g1:=(List.getElem?_eq_some_iff.1 hw).2
   have hQ : Q[k]? = some (quota t ws.sum w):=by rw [hQd]; simp [hw]
   have hO : (List.range ws.length)[k]? = some k:=by simp [hlt]
   have q1:=ySi ft fs.1 (frng w (List.mem_of_getElem? hw))
   have hs1:=yaj (f:=yJ) (z:=[.i 0]) hQ
   have hs2:=yaj (f:=yR5) (z:=[.i 0]) hO
   have hl1:=yak (f:=yJ) (z:=[.i 0]) (es:=Q) (k:=k) (by omega)
   have hl2:=yak (f:=yR5) (z:=[.i 0]) (es:=List.range ws.length) (k:=k) (by simp; omega)
   have hd1 : ((partly yJ [.i 0] Q k)[k]?.getD []).set 0 (.i (quota t ws.sum w)) = [.i (quota t ws.sum w)]:=by
    have:=ydK (f:=yJ) (z:=[.i 0]) (n:=1) (es:=Q) (k:=k) rfl (fun _=>rfl) (by omega)
    obtain ⟨x,hx⟩:=List.length_eq_one_iff.1 this
    rw [hx]; rfl
   have hd2 : ((partly yR5 [.i 0] (List.range ws.length) k)[k]?.getD []).set 0 (.i k) = [.i k]:=by
    have:=ydK (f:=yR5) (z:=[.i 0]) (n:=1) (es:=List.range ws.length) (k:=k) rfl (fun _=>rfl) (by simp; omega)
    obtain ⟨x,hx⟩:=List.length_eq_one_iff.1 this
    rw [hx]; rfl
   rw [List.length_range] at hl2
   have hsum:=yia hQ
   have hb1:=sum_bnd (l:=Q.take k) (m:=1000000000000000) fun x hx=>hQr x (List.mem_of_mem_take hx)
   have hbl : (Q.take k).length ≤ 12:=by rw [List.length_take]; omega
   have hb1' : 0 ≤ sumTo Q k ∧ sumTo Q k ≤ 12000000000000000:=by unfold sumTo; omega
   have hqd : (t * w).tdiv ws.sum = quota t ws.sum w:=rfl
   have hs1' : (partly yJ [.i 0] Q k).set k [.i (quota t ws.sum w)] = partly yJ [.i 0] Q (k + 1):=hs1
   have hs2' : (partly yR5 [.i 0] (List.range ws.length) k).set k [.i k] = partly yR5 [.i 0] (List.range ws.length) (k + 1):=hs2
   have hself : (partly yJ [.i 0] Q (k + 1))[k]? = some [.i (quota t ws.sum w)]:=by rw [← hs1']; exact List.getElem?_set_self (by omega)
   generalize partly yJ [.i 0] Q k = A at *
   generalize hA' : partly yJ [.i 0] Q (k + 1) = A' at *
   generalize partly yR5 [.i 0] (List.range ws.length) k = B at *
   generalize hB' : partly yR5 [.i 0] (List.range ws.length) (k + 1) = B' at *
   have hk1 : k < A.length:=by omega
   have hk2 : k < B.length:=by omega
   have hd1' : A[k].set 0 (C.i (quota t ws.sum w)) = [C.i (quota t ws.sum w)]:=by rw [List.getElem?_eq_getElem hk1] at hd1; exact hd1
   have hd2' : B[k].set 0 (C.i k) = [C.i k]:=by rw [List.getElem?_eq_getElem hk2] at hd2; exact hd2
   simp -dsimp -implicitDefEqProofs [hw,g1,yG hlt,hlt,hqd,hl1,hl2,hd1',hd2',hs1',hs2',hself,hQl]
   have hl3 : A'.length = Q.length:=by rw [← hs1',List.length_set,hl1]
   refine ⟨by unfold inI; omega,by omega,by unfold inI; omega,by omega,?_⟩
   refine ⟨by unfold inI; omega,?_⟩
   refine ⟨by unfold inI; omega,k + 1,hlt,by omega,?_⟩
   apply yj <;> simp [hd1',hd2',hs1',hs2',hsum,hA',hB']
   omega
  ·have hkn : k = ws.length:=by omega
   subst hkn
   have p1:=yam (f:=yJ) (z:=[.i 0]) (es:=Q) (k:=ws.length) (by omega)
   have p2:=yam (f:=yR5) (z:=[.i 0]) (es:=List.range ws.length) (k:=ws.length) (by simp)
   simp -dsimp -implicitDefEqProofs [p1,p2]
   rw [ymm (by omega),← hrest]
   have hord:=ySo (ws.map (ySp t ws.sum)) ws.length
   have hR : (ws.map (ySp t ws.sum)).length = ws.length:=by simp
   have hcmp:=yT7 t ws.sum ws ft fs.1 fs.2 frng
   have hsort:=yTT (ws.map (ySp t ws.sum)) ws.length h1 (by omega) 167 [.i t] [.sl 1 (ws.map yJ)] [.i ws.sum] ⟨Tryz.f167,Tryz.func167,rfl,by decide⟩ hcmp
   generalize ySh (ws.map (ySp t ws.sum)) ws.length = o at *
   refine yMY (up:=some (47,.row 1 (o.map yR5))) hsort ⟨yNu ⟨yMz (by simp) (by simp [ydf]),yMz (by simp) (by simp [ydf]),yMz (by simp) (by simp [ydf]),trivial⟩,trivial⟩ (by rw [yb4 (by rw [List.length_map,hord.len]; omega)]; simp [C.closed,yR5]) rfl (ybY (rows:=(List.range ws.length).map yR5) (by simp) rfl rfl (by simp) (by simp [hord.len]) rfl rfl) ?_
   have hp1 : ∀ x ∈ o,x < Q.length:=fun x hx=>by have:=hord.lt x hx; omega
   simp -dsimp -implicitDefEqProofs
   have hn0 : ((ySb t ws).toNat : Int) = ySb t ws:=Int.toNat_of_nonneg hlft.1
   have hnl : (ySb t ws).toNat < ws.length:=by omega
   rw [← hn0]
   generalize (ySb t ws).toNat = n at *
   have hshl : ∀ j : Nat,(ySt Q o j).length = ws.length:=fun j=>by rw [yTa,hQl]
   refine yg (ι:=Nat) (fun j=>j ≤ n) (fun j=>yO [(8,.own 44 1 ws.length),(9,.own 47 1 ws.length),(10,.c (.i n)),(13,.c (.i j))] [(44,.row 1 ((ySt Q o j).map yJ)),(47,.row 1 (o.map yR5))]) (fun j=>n - j) 0 (by simp) (by apply yj <;> simp [yTL]) ?_
   rintro j hj
   rcases Nat.lt_or_ge j n with hlt | hge
   ·have hjo : j < o.length:=by rw [hord.len]; omega
    obtain ⟨a,ha⟩ : ∃ a,o[j]? = some a:=⟨_,List.getElem?_eq_getElem hjo⟩
    have ga:=(List.getElem?_eq_some_iff.1 ha).2
    have hal:=hord.lt a (List.mem_of_getElem? ha)
    have hss:=yS0 (out:=Q) ha
    have hl:=hshl j
    have hbd:=yTX (o:=o) (m:=1000000000000000) (by omega) hQr j
    generalize ySt Q o j = S at *
    obtain ⟨v,hv⟩ : ∃ v,S[a]? = some v:=⟨_,List.getElem?_eq_getElem (by omega)⟩
    have gv:=(List.getElem?_eq_some_iff.1 hv).2
    have hvv:=ySA hv
    have hb:=hbd v (List.mem_of_getElem? hv)
    have hs4 : (S.map yJ).set a [.i (v + 1)] = (ySt Q o (j + 1)).map yJ:=by rw [hss,hvv,List.map_set]
    have hln : j < ws.length:=by omega
    have hal2 : a < S.length:=by omega
    simp -dsimp -implicitDefEqProofs [ha,ga,yG hlt,hlt,hjo,yR5,hv,gv,hal,hal2,hln,hs4]
    refine ⟨by unfold inI; omega,by unfold inI; omega,j + 1,hlt,by omega,?_⟩
    apply yj <;> simp
   ·have : j = n:=by omega
    subst this
    simp -dsimp -implicitDefEqProofs
    rw [List.take_of_length_le (by rw [List.length_map,hshl]; exact Nat.le_refl _)]
theorem ySJ (t : Int) (ws : List Int) : (yR3 t ws).length ≤ 12:=by
 cases h : yR8 t ws with
 | false=>rw [ySa h]; simp
 | true=>rw [yTl h,yTa,List.length_map]; exact (ySN h).len.2
theorem yTu (t : Int) (ws : List Int) : yB Tryz.prog 131 [.c (.i t),.c (.sl 1 (ws.map yJ))] (.c (.sl 1 ((yR3 t ws).map yJ))):=(yTH t ws).pure (by simp)
def pre (l : List Int) (k : Nat) : List Int:=l.take k
theorem yUl {l : List Int} : pre l 0 = []:=rfl
theorem yT9 {l : List Int} {k : Nat} (h : k ≤ l.length) : (pre l k).length = k:=by simp [pre]; omega
theorem yTW {l : List Int} {k : Nat} {x : Int} (h : l[k]? = some x) : pre l (k + 1) = pre l k ++ [x]:=by unfold pre; rw [List.take_succ,h]; rfl
theorem yT8 {l : List Int} {k : Nat} (h : l.length ≤ k) : pre l k = l:=by unfold pre; exact List.take_of_length_le h
structure Picks (t : Int) (ws : List Int) (m : Nat) (out rest : List Int) : Prop where
 lo : out.length = ws.length
 lr : rest.length = ws.length
 all : ySX m out rest = yR3 t ws
 few : m ≤ 12
 rng : ∀ x ∈ out,0 ≤ x ∧ x ≤ 1000000000000100 - m
theorem Picks.next {t : Int} {ws : List Int} {m : Nat} {out rest : List Int} (h : Picks t ws (m + 1) out rest) (hp : 1 ≤ ws.length) :
 Picks t ws m (out.set (yR4 rest ws.length) (vAt out (yR4 rest ws.length) + 1)) (rest.set (yR4 rest ws.length) (-1)):=by
 have hl:=h.lr
 refine ⟨by rw [List.length_set]; exact h.lo,by rw [List.length_set]; exact hl,?_,by have:=h.few; omega,fun x hx=>?_⟩
 ·rw [← h.all,ySX,hl]
 ·have e : ((m + 1 : Nat) : Int) = m + 1:=by simp
  have r:=h.rng
  rw [e] at r
  rcases List.mem_or_eq_of_mem_set hx with hx | rfl
  ·have:=r x hx; omega
  ·have hlt : yR4 rest ws.length < out.length:=by rw [h.lo,← hl]; exact ySG (by omega) (by omega)
   have:=r (vAt out (yR4 rest ws.length)) (by unfold vAt; rw [List.getElem?_eq_getElem hlt]; exact List.getElem_mem hlt)
   omega
set_option maxRecDepth 4000 in
theorem yTI (t : Int) (ws : List Int) (hl : ws.length ≤ 1048576) : yB Tryz.prog 120 [.c (.i t),.c (.sl 1 (ws.map yJ))] (.c (.sl 1 ((yR3 t ws).map yJ))):=by
 refine yh yTr ?_
 simp -dsimp -implicitDefEqProofs
 refine yg (ι:=Nat) (fun k=>k ≤ ws.length ∧ (∀ x ∈ ws.take k,inRange x 0 1000000 = true) ∧ (k ≠ 0 → ws.length ≤ 12)) (fun k=>yO [(0,.c (.i t)),(1,.c (.sl 1 (ws.map yJ))),(5,.own 13 1 0),(6,.own 14 1 0),(7,.c (.i (sumTo ws k))),(8,.c (.i k))] [(13,.row 1 []),(14,.row 1 [])]) (fun k=>ws.length - k) 0 (by simp) (by apply yj <;> simp [yf6]) ?_
 rintro k ⟨hk,hall,h12'⟩
 rcases Nat.lt_or_ge k ws.length with hlt | hge
 ·obtain ⟨x,hx⟩ : ∃ x,ws[k]? = some x:=⟨_,List.getElem?_eq_getElem hlt⟩
  have g1:=(List.getElem?_eq_some_iff.1 hx).2
  simp -dsimp -implicitDefEqProofs [hx,yG hlt,g1,hlt]
  intro hlen
  refine yc (yD x 0 1000000) ?_
  cases h1 : inRange x 0 1000000 with
  | false=>simp -dsimp -implicitDefEqProofs; rw [ySa (by have:=all_false (p:=fun w=>inRange w 0 1000000) hx h1; simp [yR8,this])]
  | true =>
   simp -dsimp -implicitDefEqProofs [hx,yG hlt,g1,hlt]
   refine fun _=>⟨fun h12=>?_,fun h12=>?_⟩
   ·rw [ySa (by simp [yR8]; omega)]
   have h12 : ws.length ≤ 12:=by omega
   have hall':=yL (p:=fun n=>inRange n 0 1000000) hx hall h1
   have hs:=yTY h12 hall'
   rw [yia hx] at hs
   exact ⟨by unfold inI; omega,yw hlt hlen,k + 1,⟨hlt,hall',fun _=>h12⟩,by omega,by apply yj <;> simp [yia hx]⟩
 ·have hall2:=yX (p:=fun n=>inRange n 0 1000000) hge hall
  have h12 : ws.length ≤ 12:=by
   rcases Nat.eq_zero_or_pos k with e | e
   ·omega
   ·exact h12' (by omega)
  simp -dsimp -implicitDefEqProofs [yaB hge]
  rw [ymm hge]
  clear hall hk hge h12'
  refine fun hlen=>⟨fun h0=>?_,fun h0=>by rw [ySa (by simp [yR8,h0])]⟩
  refine yc (yD t 0 1000000000) ?_
  cases ht : inRange t 0 1000000000 with
  | false=>simp -dsimp -implicitDefEqProofs; rw [ySa (by simp [yR8,ht])]
  | true =>
  have h1 : 1 ≤ ws.length:=by
   rcases Nat.eq_zero_or_pos ws.length with e | e
   ·rw [List.length_eq_zero_iff.1 e] at h0; simp at h0
   ·exact e
  have hok : yR8 t ws = true:=by simp [yR8,ht,h12,h1,hall2,h0]
  have f:=ySN hok
  have hlft:=yTv f
  have ft:=f.tot; have fs:=f.sum; have frng:=f.rng
  have hSO : yR3 t ws = ySX (ySb t ws).toNat (ws.map (quota t ws.sum)) (ws.map (ySp t ws.sum)):=by rw [yR3,if_pos hok]
  obtain ⟨Q,hQd⟩ : ∃ Q,Q = ws.map (quota t ws.sum):=⟨_,rfl⟩
  obtain ⟨R,hRd⟩ : ∃ R,R = ws.map (ySp t ws.sum):=⟨_,rfl⟩
  have hQl : Q.length = ws.length:=by rw [hQd,List.length_map]
  have hRl : R.length = ws.length:=by rw [hRd,List.length_map]
  have hQr : ∀ q ∈ Q,0 ≤ q ∧ q ≤ 1000000000000000:=fun q hq=>by
   rw [hQd] at hq
   obtain ⟨w,hw,rfl⟩:=List.mem_map.1 hq
   have:=ySi ft fs.1 (frng w hw)
   omega
  have hrest : ySb t ws = t - Q.sum:=by rw [hQd]; rfl
  rw [← hQd,← hRd] at hSO
  simp -dsimp -implicitDefEqProofs
  refine yg (ι:=Nat) (fun k=>k ≤ ws.length) (fun k=>yO [(0,.c (.i t)),(1,.c (.sl 1 (ws.map yJ))),(5,.own 13 1 k),(6,.own 14 1 k),(7,.c (.i ws.sum)),(9,.c (.i (t - sumTo Q k))),(10,.c (.i k))]
   [(13,.row 1 ((pre Q k).map yJ)),(14,.row 1 ((pre R k).map yJ))]) (fun k=>ws.length - k) 0 (by simp) (by apply yj <;> simp [yf6,yUl]) ?_
  rintro k hk
  rcases Nat.lt_or_ge k ws.length with hlt | hge
  ·obtain ⟨w,hw⟩ : ∃ x,ws[k]? = some x:=⟨_,List.getElem?_eq_getElem hlt⟩
   have g1:=(List.getElem?_eq_some_iff.1 hw).2
   have hQ : Q[k]? = some (quota t ws.sum w):=by rw [hQd]; simp [hw]
   have hR : R[k]? = some (ySp t ws.sum w):=by rw [hRd]; simp [hw]
   have q1:=ySi ft fs.1 (frng w (List.mem_of_getElem? hw))
   have hsum:=yia hQ
   have hb1:=sum_bnd (l:=pre Q k) (m:=1000000000000000) fun x hx=>hQr x (List.mem_of_mem_take hx)
   have hbl : (pre Q k).length = k:=yT9 (by omega)
   have hbr : (pre R k).length = k:=yT9 (by omega)
   have hb1' : 0 ≤ sumTo Q k ∧ sumTo Q k ≤ 12000000000000000:=by
    have : sumTo Q k = (pre Q k).sum:=rfl
    omega
   have hqd : (t * w).tdiv ws.sum = quota t ws.sum w:=rfl
   have hrd : (t * w).tmod ws.sum = ySp t ws.sum w:=rfl
   have tQ:=yTW hQ
   have tR:=yTW hR
   generalize pre Q k = A at *
   generalize pre R k = B at *
   have hgk : (A.map yJ ++ [[C.i (quota t ws.sum w)]])[k]? = some [C.i (quota t ws.sum w)]:=by rw [List.getElem?_append_right (by simp [hbl])]; simp [hbl]
   have hkl : k < A.length + 1:=by omega
   simp -dsimp -implicitDefEqProofs [hw,g1,yG hlt,hlt,hqd,hrd,hbl,hbr,hgk]
   refine fun hlen=>⟨by unfold inI; omega,by omega,by unfold inI; omega,by omega,by unfold inI; omega,by omega,by unfold inI; omega,by omega,by omega,by unfold inI; omega,by unfold inI; omega,k + 1,hlt,by omega,?_⟩
   apply yj <;> simp [tQ,tR,hsum,hbl,hbr]
   omega
  ·have : k = ws.length:=by omega
   subst this
   simp -dsimp -implicitDefEqProofs [yT8 (l:=Q) (k:=ws.length) (by omega),yT8 (l:=R) (k:=ws.length) (by omega)]
   rw [ymm (by omega),← hrest]
   have hn0 : ((ySb t ws).toNat : Int) = ySb t ws:=Int.toNat_of_nonneg hlft.1
   have hnl : (ySb t ws).toNat < ws.length:=by omega
   have hP : Picks t ws (ySb t ws).toNat Q R:=⟨hQl,hRl,hSO.symm,by omega,fun x hx=>by have:=hQr x hx; omega⟩
   rw [← hn0]
   generalize (ySb t ws).toNat = n at *
   refine fun hlen=>yg (ι:=Nat × List Int × List Int) (fun p=>Picks t ws p.1 p.2.1 p.2.2) (fun p=>yO [(5,.own 13 1 ws.length),(6,.own 14 1 ws.length),(9,.c (.i p.1))] [(13,.row 1 (p.2.1.map yJ)),(14,.row 1 (p.2.2.map yJ))]) (fun p=>p.1) (n,Q,R) hP (by apply yj <;> simp) ?_
   rintro ⟨m,out,rest⟩ hM
   simp only at hM
   have hlo:=hM.lo; have hlr:=hM.lr
   rcases Nat.eq_zero_or_pos m with e | e
   ·subst e
    have hall:=hM.all
    rw [ySX] at hall
    simp -dsimp -implicitDefEqProofs
    rw [List.take_of_length_le (by rw [List.length_map,hlo]; exact Nat.le_refl _),hall]
   ·obtain ⟨m,rfl⟩ : ∃ j,m = j + 1:=⟨m - 1,by omega⟩
    have hN:=hM.next h1
    simp -dsimp -implicitDefEqProofs
    refine yg (ι:=Nat) (fun k=>1 ≤ k ∧ k ≤ ws.length) (fun k=>yO [(5,.own 13 1 ws.length),(6,.own 14 1 ws.length),(9,.c (.i ((m + 1 : Nat) : Int))),(11,.c (.i (yR4 rest k : Nat))),(12,.c (.i k))] [(13,.row 1 (out.map yJ)),(14,.row 1 (rest.map yJ))]) (fun k=>ws.length - k) 1 ⟨Nat.le_refl _,h1⟩ (by apply yj <;> simp [ySk,yT1]) ?_
    rintro k ⟨hk1,hk⟩
    rcases Nat.lt_or_ge k ws.length with hlt | hge
    ·obtain ⟨x,hx⟩ : ∃ x,rest[k]? = some x:=⟨_,List.getElem?_eq_getElem (by omega)⟩
     have i1:=ySG (l:=rest) (by omega) (k:=k) (by omega)
     obtain ⟨p,hp⟩ : ∃ p,rest[yR4 rest k]? = some p:=⟨_,List.getElem?_eq_getElem i1⟩
     have g1:=(List.getElem?_eq_some_iff.1 hx).2
     have g2:=(List.getElem?_eq_some_iff.1 hp).2
     have e1 : yR4 rest (k + 1) = if p < x then k else yR4 rest k:=by rw [ySk,ySA hx,ySA hp]
     generalize yR4 rest k = u at *
     have j1 : ((u : Nat) : Int) < (ws.length : Int):=by omega
     have hlt' : k < rest.length:=by omega
     simp -dsimp -implicitDefEqProofs [hx,hp,g1,g2,i1,hlt,hlt',j1,yG hlt]
     refine fun hl=>⟨fun c1=>?_,fun c1=>?_⟩
     all_goals
      refine ⟨yw hlt hl,k + 1,⟨by omega,hlt⟩,by omega,?_⟩
      apply yj <;> simp [e1] <;> (repeat' split) <;> omega
    ·have : k = ws.length:=by omega
     subst this
     have i1:=ySG (l:=rest) (by omega) (k:=ws.length) (by omega)
     have hN':=hN
     generalize yR4 rest ws.length = u at *
     obtain ⟨v,hv⟩ : ∃ p,out[u]? = some p:=⟨_,List.getElem?_eq_getElem (by omega)⟩
     obtain ⟨p,hp⟩ : ∃ p,rest[u]? = some p:=⟨_,List.getElem?_eq_getElem i1⟩
     have g1:=(List.getElem?_eq_some_iff.1 hv).2
     have g2:=(List.getElem?_eq_some_iff.1 hp).2
     rw [ySA hv] at hN
     have hb:=hM.rng v (List.mem_of_getElem? hv)
     have hfew:=hM.few
     have j1 : u < ws.length:=by omega
     have j2 : u < out.length:=by omega
     have s1 : (out.map yJ).set u [.i (v + 1)] = (out.set u (v + 1)).map yJ:=by rw [List.map_set]
     have s2 : (rest.map yJ).set u [.i (-1)] = (rest.set u (-1)).map yJ:=by rw [List.map_set]
     generalize out.set u (v + 1) = out' at *
     generalize rest.set u (-1) = rest' at *
     simp -dsimp -implicitDefEqProofs [hv,hp,g1,g2,j1,j2,i1,s1,s2,hlo,hlr]
     have hmm : ((m + 1 : Nat) : Int) = m + 1:=by simp
     rw [hmm] at hb
     refine fun _=>⟨by unfold inI; omega,by unfold inI; omega,m,out',rest',hN,by omega,?_⟩
     apply yj <;> simp
def ybm (a : Int) (f : Int → Int) : Int:=if a < 0 then -1 else f a
def yaw {α : Type} (f : α → Int → Int) : List α → Int → Int
 | [],l=>l
 | x :: xs,l=>ybm (f x l) (yaw f xs)
def yeE {α : Type} (f : α → Int → Int) (xs : List α) (l : Int) : Int:=ybm (szS xs.length l) (yaw f xs)
def yey {α : Type} (f : α → Int → Int) (sm : α → Prop) : Prop:=∀ x l,0 ≤ l → l ≤ 1048576 → f x l = -1 ∨ (0 ≤ f x l ∧ f x l ≤ l ∧ sm x)
def ycs {α : Type} (sm : α → Prop) (xs : List α) : Prop:=xs.length ≤ 1048576 ∧ ∀ x ∈ xs,sm x
theorem yK {a : Int} {f : Int → Int} (h : a < 0) : ybm a f = -1:=by simp [ybm,h]
theorem yu {a : Int} {f : Int → Int} (h : 0 ≤ a) : ybm a f = f a:=by simp [ybm,Int.not_lt.2 h]
theorem yhU {α : Type} : yey (fun (xs : List α) l=>szS xs.length l) (ycs fun _ : α=>True):=by
 intro xs l h0 h1
 simp only [szS]
 unfold ycs
 split
 ·exact .inl rfl
 ·exact .inr ⟨by omega,by omega,by omega,fun _ _=>trivial⟩
theorem yzy {α : Type} {f : α → Int → Int} {sm : α → Prop} (h : yey f sm) {x : α} {l : Int} (h0 : 0 ≤ l) (h1 : l ≤ 1048576) (hp : 0 ≤ f x l) : sm x:=by
 rcases h x l h0 h1 with e | ⟨_,_,e⟩
 ·omega
 ·exact e
theorem yin {α : Type} {f : α → Int → Int} {sm : α → Prop} (h : yey f sm) (x : α) {l : Int} (h0 : 0 ≤ l) (h1 : l ≤ 1048576) (hp : 0 ≤ f x l) : f x l ≤ 1048576:=by
 rcases h x l h0 h1 with e | ⟨_,e,_⟩
 ·omega
 ·omega
theorem yrK {α : Type} {f : α → Int → Int} {sm : α → Prop} (h : yey f sm) : ∀ (xs : List α) (l : Int),0 ≤ l → l ≤ 1048576 → yaw f xs l = -1 ∨ (0 ≤ yaw f xs l ∧ yaw f xs l ≤ l ∧ ∀ x ∈ xs,sm x)
 | [],l,h0,h1=>.inr ⟨h0,Int.le_refl _,by simp⟩
 | x :: xs,l,h0,h1=>by
  simp only [yaw]
  rcases h x l h0 h1 with e | ⟨e1,e2,e3⟩
  ·exact .inl (yK (by omega))
  ·rw [yu e1]
   rcases yrK h xs (f x l) e1 (by omega) with e | ⟨e4,e5,e6⟩
   ·exact .inl e
   ·exact .inr ⟨e4,by omega,by simp; exact ⟨e3,e6⟩⟩
theorem ygj {α : Type} {f : α → Int → Int} {sm : α → Prop} (h : yey f sm) : yey (yeE f) (ycs sm):=by
 intro xs l h0 h1
 unfold yeE
 rcases yhU xs l h0 h1 with e | ⟨e1,e2,e3⟩
 ·exact .inl (yK (by simp only at e; omega))
 ·simp only at e1 e2
  rw [yu e1]
  rcases yrK h xs _ e1 (by omega) with e | ⟨e4,e5,e6⟩
  ·exact .inl e
  ·exact .inr ⟨e4,by omega,e3.1,e6⟩
structure Boat where
 Id : Int
 Length : Int
 Width : Int
 Draught : Int
 Speed : Int
 Class : Int
 deriving DecidableEq,Inhabited
@[simp] def Boat.enc (e : Boat) : List C:=[.i e.Id,.i e.Length,.i e.Width,.i e.Draught,.i e.Speed,.i e.Class]
-- Boat
theorem yud (e : Boat) : yB Tryz.prog 171 [.agg (e.enc.map .c)] (.agg (e.enc.map .c)):=by
 refine yh yq9 ?_
 simp -dsimp -implicitDefEqProofs
theorem yyR (a b : Boat) : yB Tryz.prog 172 [.agg (a.enc.map .c),.agg (b.enc.map .c)] (.c (.b (decide (a = b)))):=by
 refine yh yq1 ?_
 obtain ⟨a0,a1,a2,a3,a4,a5⟩:=a
 obtain ⟨b0,b1,b2,b3,b4,b5⟩:=b
 simp -dsimp -implicitDefEqProofs [yj8,Boat.mk.injEq]
 refine ⟨fun h=>by simp_all,fun h0=>?_⟩
 refine ⟨fun h=>by simp_all,fun h1=>?_⟩
 refine ⟨fun h=>by simp_all,fun h2=>?_⟩
 refine ⟨fun h=>by simp_all,fun h3=>?_⟩
 refine ⟨fun h=>by simp_all,fun h4=>?_⟩
 refine ⟨fun h=>by simp_all,fun h5=>?_⟩
 simp_all
-- []Boat
def yex (xs : List Boat) (l : Int) : Int:=szS xs.length l
def ygC : List Boat → Prop:=ycs fun _=>True
theorem ymH : yey yex ygC:=yhU
theorem yvS (xs : List Boat) (l : Int) (h0 : 0 ≤ l) (h1 : l ≤ 1048576) : yB Tryz.prog 135 [.c (.sl 6 (xs.map Boat.enc)),.c (.i l)] (.c (.i (yex xs l))):=by
 refine yh yoU ?_
 simp -dsimp -implicitDefEqProofs [yi3,yex,szS]
 intro hl
 unfold maxLen at hl
 refine ⟨by unfold inI; omega,fun h=>?_,fun h=>?_⟩ <;> intros <;> omega
theorem yxQ (xs : List Boat) (hl : ygC xs) : yB Tryz.prog 140 [.c (.sl 6 (xs.map Boat.enc))] (.c (.sl 6 (xs.map Boat.enc))):=by
 refine yh yiM ?_
 simp -dsimp -implicitDefEqProofs
 intro hlen
 have hl1:=hl.1
 refine ⟨by omega,?_⟩
 refine yg (ι:=Nat) (fun k=>k ≤ xs.length) (fun k=>yO [(0,.c (.sl 6 (xs.map Boat.enc))),(3,.own 7 6 xs.length),(4,.c (.i k))] [(7,.row 6 (partly Boat.enc [.i 0,.i 0,.i 0,.i 0,.i 0,.i 0] xs k))]) (fun k=>xs.length - k) 0 (by simp) (by apply yj <;> simp [yab]) ?_
 rintro k hk
 rcases Nat.lt_or_ge k xs.length with hlt | hge
 ·obtain ⟨e,he⟩ : ∃ e,xs[k]? = some e:=⟨_,List.getElem?_eq_getElem hlt⟩
  have hs:=yaj (f:=Boat.enc) (z:=[.i 0,.i 0,.i 0,.i 0,.i 0,.i 0]) he
  have hd:=yav (f:=Boat.enc) (z:=[.i 0,.i 0,.i 0,.i 0,.i 0,.i 0]) (n:=6) rfl hlt
  simp only [Boat.enc] at hs
  simp -dsimp -implicitDefEqProofs [he,yG hlt]
  refine fun _=>yaP (yud e ) (by simp) rfl ?_
  simp -dsimp -implicitDefEqProofs [yG hlt,yak hk,hd,hs]
  exact ⟨hlt,yw hlt hlen,k + 1,hlt,by omega,by apply yj <;> simp⟩
 ·simp -dsimp -implicitDefEqProofs [yaB hge]
  intro _
  rw [yam hge,List.take_of_length_le (by simp)]
theorem yxD (es fs : List Boat) : yB Tryz.prog 144 [.c (.sl 6 (es.map Boat.enc)),.c (.sl 6 (fs.map Boat.enc))] (.c (.b (decide (es = fs)))):=by
 refine yh yoL ?_
 simp -dsimp -implicitDefEqProofs
 intro hl1 hl2
 refine ⟨fun h e=>h (by rw [e]),fun hlen=>?_⟩
 have hlen' : es.length = fs.length:=by omega
 refine yg (ι:=Nat) (fun k=>k ≤ es.length ∧ es.take k = fs.take k) (fun k=>yO [(0,.c (.sl 6 (es.map Boat.enc))),(1,.c (.sl 6 (fs.map Boat.enc))),(5,.c (.i k))] []) (fun k=>es.length - k) 0 (by simp) (by apply yj <;> simp) ?_
 rintro k ⟨hk,htk⟩
 rcases Nat.lt_or_ge k es.length with hlt | hge
 ·obtain ⟨e,he⟩ : ∃ e,es[k]? = some e:=⟨_,List.getElem?_eq_getElem hlt⟩
  obtain ⟨f,hf⟩ : ∃ f,fs[k]? = some f:=⟨_,List.getElem?_eq_getElem (by omega)⟩
  simp -dsimp -implicitDefEqProofs [he,hf,yG hlt,yG (hlen' ▸ hlt)]
  intro _
  refine yaC (yyR e f) ?_
  simp -dsimp -implicitDefEqProofs
  refine ⟨fun h=>ybG he hf h,fun h=>⟨yw hlt hl1,k + 1,⟨hlt,yaR he hf htk h⟩,by omega,by apply yj <;> simp⟩⟩
 ·simp -dsimp -implicitDefEqProofs [yaB hge]
  intro _
  exact ybf hge hlen' htk
abbrev yai (xs : List Boat) : List C:=[.sl 6 (xs.map Boat.enc)]
-- [][]Boat
def yeb : List (List Boat) → Int → Int:=yeE yex
def yej : List (List Boat) → Prop:=ycs ygC
theorem ysL : yey yeb yej:=ygj ymH
theorem yt7 (xs : List (List Boat)) (l : Int) (h0 : 0 ≤ l) (h1 : l ≤ 1048576) : yB Tryz.prog 92 [.c (.sl 1 (xs.map yai)),.c (.i l)] (.c (.i (yeb xs l))):=by
 refine yh ynp ?_
 simp -dsimp -implicitDefEqProofs
 intro hl
 have hs : szS xs.length l = if l - xs.length < 0 then -1 else l - xs.length:=rfl
 refine ⟨by unfold maxLen at hl; unfold inI; omega,fun h=>?_,fun h=>?_⟩
 ·simp [yeb,yeE,ybm,hs,h]
 have h' : 0 ≤ l - xs.length:=by omega
 have e0 : yeb xs l = yaw yex xs (l - xs.length):=by
  have : szS xs.length l = l - xs.length:=by rw [hs,if_neg (by omega)]
  simp only [yeb,yeE]
  rw [this,yu h']
 refine yg (ι:=Nat × Int) (fun p=>p.1 ≤ xs.length ∧ 0 ≤ p.2 ∧ p.2 ≤ 1048576 ∧ yaw yex (xs.drop p.1) p.2 = yeb xs l) (fun p=>yO [(0,.c (.sl 1 (xs.map yai))),(1,.c (.i p.2)),(5,.c (.i p.1))] []) (fun p=>xs.length - p.1) (0,l - xs.length) ⟨by simp,h',by simp only; omega,by simp [e0]⟩ (by apply yj <;> simp) ?_
 rintro ⟨k,q⟩ ⟨hk,hq0,hq1,hf⟩
 simp only at hk hq0 hq1 hf
 rcases Nat.lt_or_ge k xs.length with hlt | hge
 ·obtain ⟨e,he⟩ : ∃ e,xs[k]? = some e:=⟨_,List.getElem?_eq_getElem hlt⟩
  have hd : xs.drop k = e :: xs.drop (k + 1):=by
   rw [List.drop_eq_getElem_cons hlt,(List.getElem?_eq_some_iff.1 he).2]
  rw [hd,yaw] at hf
  simp -dsimp -implicitDefEqProofs [he,yG hlt]
  refine fun _=>yaQ (yvS e q hq0 hq1) (by simp) rfl ?_
  simp -dsimp -implicitDefEqProofs
  refine ⟨fun h=>by rw [← hf,yK h],fun h=>⟨yw hlt hl,k + 1,⟨yex e q,?_⟩⟩⟩
  rw [yu h] at hf
  have hle : yex e q ≤ 1048576:=by
   rcases ymH e q hq0 hq1 with e1 | e1
   ·omega
   ·omega
  exact ⟨⟨hlt,h,hle,hf⟩,by omega,by apply yj <;> simp⟩
 ·simp -dsimp -implicitDefEqProofs [yaB hge]
  rw [List.drop_of_length_le hge] at hf
  intro _
  first | simpa [yaw] using hf | simpa [yaw] using hf.symm
theorem ywr (xs : List (List Boat)) (hl : yej xs) : yB Tryz.prog 103 [.c (.sl 1 (xs.map yai))] (.c (.sl 1 (xs.map yai))):=by
 refine yh yim ?_
 simp -dsimp -implicitDefEqProofs
 intro hlen
 have hl1:=hl.1
 refine ⟨by omega,yQd ?_⟩
 simp -dsimp -implicitDefEqProofs
 refine yg (ι:=Nat) (fun k=>k ≤ xs.length) (fun k=>yO [(0,.c (.sl 1 (xs.map yai))),(3,.own 7 1 xs.length),(4,.c (.i k))] [(7,.row 1 (partly yai [.sl 6 []] xs k))]) (fun k=>xs.length - k) 0 (by simp) (by apply yj <;> simp [yab]) ?_
 rintro k hk
 rcases Nat.lt_or_ge k xs.length with hlt | hge
 ·obtain ⟨e,he⟩ : ∃ e,xs[k]? = some e:=⟨_,List.getElem?_eq_getElem hlt⟩
  have hs:=yaj (f:=yai) (z:=[.sl 6 []]) he
  have hd : ((partly yai [.sl 6 []] xs k)[k]?.getD []).set 0 (.sl 6 (e.map Boat.enc)) = [.sl 6 (e.map Boat.enc)]:=by
   have:=ydK (f:=yai) (z:=[.sl 6 []]) (n:=1) rfl (fun _=>rfl) hlt
   obtain ⟨x,hx⟩:=List.length_eq_one_iff.1 this
   rw [hx]; rfl
  have hs2 : (partly yai [.sl 6 []] xs k).set k [.sl 6 (e.map Boat.enc)] = partly yai [.sl 6 []] xs (k + 1):=hs
  simp -dsimp -implicitDefEqProofs [he,yG hlt]
  refine fun _=>yaP (yxQ e (hl.2 e (List.mem_of_getElem? he))) (by simp) rfl ?_
  simp -dsimp -implicitDefEqProofs [yG hlt,yak hk,hd,hs2]
  exact ⟨hlt,yw hlt hlen,k + 1,hlt,by omega,by apply yj <;> simp⟩
 ·simp -dsimp -implicitDefEqProofs [yaB hge]
  intro _
  rw [yam hge,List.take_of_length_le (by simp)]
theorem yvt (es fs : List (List Boat)) : yB Tryz.prog 113 [.c (.sl 1 (es.map yai)),.c (.sl 1 (fs.map yai))] (.c (.b (decide (es = fs)))):=by
 refine yh ync ?_
 simp -dsimp -implicitDefEqProofs
 intro hl1 hl2
 refine ⟨fun h e=>h (by rw [e]),fun hlen=>?_⟩
 have hlen' : es.length = fs.length:=by omega
 refine yg (ι:=Nat) (fun k=>k ≤ es.length ∧ es.take k = fs.take k) (fun k=>yO [(0,.c (.sl 1 (es.map yai))),(1,.c (.sl 1 (fs.map yai))),(5,.c (.i k))] []) (fun k=>es.length - k) 0 (by simp) (by apply yj <;> simp) ?_
 rintro k ⟨hk,htk⟩
 rcases Nat.lt_or_ge k es.length with hlt | hge
 ·obtain ⟨e,he⟩ : ∃ e,es[k]? = some e:=⟨_,List.getElem?_eq_getElem hlt⟩
  obtain ⟨f,hf⟩ : ∃ f,fs[k]? = some f:=⟨_,List.getElem?_eq_getElem (by omega)⟩
  simp -dsimp -implicitDefEqProofs [he,hf,yG hlt,yG (hlen' ▸ hlt)]
  intro _
  refine yaC (yxD e f) ?_
  simp -dsimp -implicitDefEqProofs
  refine ⟨fun h=>ybG he hf h,fun h=>⟨yw hlt hl1,k + 1,⟨hlt,yaR he hf htk h⟩,by omega,by apply yj <;> simp⟩⟩
 ·simp -dsimp -implicitDefEqProofs [yaB hge]
  intro _
  exact ybf hge hlen' htk
structure Train where
 Up : Bool
 Rows : List (List Boat)
 deriving DecidableEq,Inhabited
@[simp] def Train.enc (e : Train) : List C:=[.b e.Up,.sl 1 (e.Rows.map yai)]
-- Train
def yb2 (e : Train) (l : Int) : Int:=ybm (yeb e.Rows l) fun l=>l
def Train.small (e : Train) : Prop:=yej e.Rows
theorem ye7 : yey yb2 Train.small:=by
 intro e l h0 h1
 unfold yb2
 rcases ysL e.Rows _ h0 h1 with e0 | ⟨a0,b0,s0⟩
 ·exact .inl (yK (by omega))
 rw [yu a0]
 exact .inr ⟨a0,by omega,s0⟩
theorem yhF (e : Train) (l : Int) (h0 : 0 ≤ l) (h1 : l ≤ 1048576) : yB Tryz.prog 51 [.agg (e.enc.map .c),.c (.i l)] (.c (.i (yb2 e l))):=by
 refine yh ypX ?_
 simp -dsimp -implicitDefEqProofs
 refine yc (yt7 e.Rows _ h0 h1) ?_
 simp -dsimp -implicitDefEqProofs
 refine ⟨fun h=>by simp [yb2,yK h],fun p0=>?_⟩
 simp [yb2,yu p0]
theorem yjt (e : Train) (hl : Train.small e) : yB Tryz.prog 58 [.agg (e.enc.map .c)] (.agg (e.enc.map .c)):=by
 refine yh yiU ?_
 simp -dsimp -implicitDefEqProofs
 refine yS (ywr e.Rows hl) ?_
 simp -dsimp -implicitDefEqProofs
theorem yjG (a b : Train) : yB Tryz.prog 66 [.agg (a.enc.map .c),.agg (b.enc.map .c)] (.c (.b (decide (a = b)))):=by
 refine yh yoZ ?_
 obtain ⟨a0,a1⟩:=a
 obtain ⟨b0,b1⟩:=b
 simp -dsimp -implicitDefEqProofs [yiE,Train.mk.injEq]
 refine ⟨fun h=>by simp_all,fun h0=>?_⟩
 refine yc (yvt a1 b1) ?_
 simp -dsimp -implicitDefEqProofs
 refine ⟨fun h=>by simp_all,fun h1=>?_⟩
 simp_all
structure Mover where
 Train : Train
 Place : Int
 deriving DecidableEq,Inhabited
@[simp] def Mover.enc (e : Mover) : List C:=[.b e.Train.Up,.sl 1 (e.Train.Rows.map yai),.i e.Place]
-- Mover
def ycV (e : Mover) (l : Int) : Int:=ybm (yb2 e.Train l) fun l=>l
def Mover.small (e : Mover) : Prop:=e.Train.small
theorem ymQ : yey ycV Mover.small:=by
 intro e l h0 h1
 unfold ycV
 rcases ye7 e.Train _ h0 h1 with e0 | ⟨a0,b0,s0⟩
 ·exact .inl (yK (by omega))
 rw [yu a0]
 exact .inr ⟨a0,by omega,s0⟩
theorem yvT (e : Mover) (l : Int) (h0 : 0 ≤ l) (h1 : l ≤ 1048576) : yB Tryz.prog 91 [.agg (e.enc.map .c),.c (.i l)] (.c (.i (ycV e l))):=by
 refine yh ypW ?_
 simp -dsimp -implicitDefEqProofs
 refine yc (yhF e.Train _ h0 h1) ?_
 simp -dsimp -implicitDefEqProofs
 refine ⟨fun h=>by simp [ycV,yK h],fun p0=>?_⟩
 simp [ycV,yu p0]
theorem yyk (e : Mover) (hl : Mover.small e) : yB Tryz.prog 102 [.agg (e.enc.map .c)] (.agg (e.enc.map .c)):=by
 refine yh yiQ ?_
 simp -dsimp -implicitDefEqProofs
 refine yS (yjt e.Train hl) ?_
 simp -dsimp -implicitDefEqProofs
theorem yxY (a b : Mover) : yB Tryz.prog 112 [.agg (a.enc.map .c),.agg (b.enc.map .c)] (.c (.b (decide (a = b)))):=by
 refine yh yoz ?_
 obtain ⟨a0,a1⟩:=a
 obtain ⟨b0,b1⟩:=b
 simp -dsimp -implicitDefEqProofs [yiH,Mover.mk.injEq]
 refine yc (yjG a0 b0) ?_
 simp -dsimp -implicitDefEqProofs
 refine ⟨fun h=>by simp_all,fun h0=>?_⟩
 refine ⟨fun h=>by simp_all,fun h1=>?_⟩
 simp_all
theorem yvh {α : Type} {B : Nat} : ∀ {l : List (List α)},(∀ r ∈ l,r.length ≤ B) → l.flatten.length ≤ l.length * B
 | [],_=>by simp
 | r :: l,h=>by
  have h1:=yvh (l:=l) fun x hx=>h x (by simp [hx])
  have h2:=h r (by simp)
  simp only [List.flatten_cons,List.length_append,List.length_cons,Nat.add_mul,Nat.one_mul]
  omega
def heads {α : Type} (l : List (List α)) (k : Nat) : List α:=(l.take k).flatten
theorem yeU {α : Type} {l : List (List α)} : heads l 0 = []:=rfl
theorem yhH {α : Type} {l : List (List α)} {k : Nat} {r : List α} (h : l[k]? = some r) : heads l (k + 1) = heads l k ++ r:=by
 unfold heads; rw [List.take_succ,h]; simp
theorem yjI {α : Type} {l : List (List α)} {k : Nat} (h : l.length ≤ k) : heads l k = l.flatten:=by
 unfold heads; rw [List.take_of_length_le h]
theorem yi0 {α : Type} {l : List (List α)} (h : ycs (ycs fun _ : α=>True) l) (k : Nat) : (heads l k).length ≤ 1099511627776:=by
 have h1:=yvh (l:=l.take k) (B:=1048576) fun r hr=>(h.2 r (List.mem_of_mem_take hr)).1
 have h2:=h.1
 have h3 : (l.take k).length ≤ 1048576:=by simp; omega
 have h4:=Nat.mul_le_mul_right 1048576 h3
 unfold heads
 omega
def Train.yas (t : Train) : List Boat:=t.Rows.flatten
theorem yzj {t : Train} (h : t.small) : t.yas.length ≤ 1099511627776:=by
 have:=yi0 h t.Rows.length
 rwa [yjI (Nat.le_refl _)] at this
theorem yoX (t : Train) (h : t.small) : yB Tryz.prog 93 [.agg (t.enc.map .c)] (.c (.sl 6 (t.yas.map Boat.enc))):=by
 refine yh ynj ?_
 simp -dsimp -implicitDefEqProofs
 refine yg (ι:=Nat) (fun k=>k ≤ t.Rows.length) (fun k=>yO [(1,.box 1 0),(3,.own 5 6 (heads t.Rows k).length),(4,.c (.i k))] [(1,.box (t.enc.map .c)),(5,.row 6 ((heads t.Rows k).map Boat.enc))]) (fun k=>t.Rows.length - k) 0 (by simp) (by apply yj <;> simp [yeU]) ?_
 rintro k hk
 rcases Nat.lt_or_ge k t.Rows.length with hlt | hge
 ·obtain ⟨r,hr⟩ : ∃ r,t.Rows[k]? = some r:=⟨_,List.getElem?_eq_getElem hlt⟩
  have hb:=yi0 h (k + 1)
  have hf:=yhH hr
  rw [hf,List.length_append] at hb
  have hm:=h.1
  simp -dsimp -implicitDefEqProofs [hr,yG hlt]
  intro hlen
  refine ⟨by omega,yw hlt hlen,k + 1,hlt,by omega,?_⟩
  apply yj <;> simp [hf]
 ·simp -dsimp -implicitDefEqProofs [yaB hge]
  rw [yjI hge]
  intro _
  rw [List.take_of_length_le (by rw [List.length_map]; exact Nat.le_refl _)]; rfl
def ybr (b : Boat) : Bool:=inRange b.Id 1 9999 && inRange b.Length 1 200 && inRange b.Width 1 30 && inRange b.Draught 1 100 && inRange b.Speed 1 50 && inRange b.Class 0 2
theorem yvm (b : Boat) : yB Tryz.prog 136 [.agg (b.enc.map .c)] (.c (.b (ybr b))):=by
 refine yh yrf ?_
 simp -dsimp -implicitDefEqProofs
 refine yc (yD b.Id 1 9999) ?_
 simp -dsimp -implicitDefEqProofs
 refine ⟨fun h=>?_,fun h=>by simp [ybr,h]⟩
 refine yc (yD b.Length 1 200) ?_
 simp -dsimp -implicitDefEqProofs
 refine ⟨fun h1=>?_,fun h1=>by simp [ybr,h1]⟩
 refine yc (yD b.Width 1 30) ?_
 simp -dsimp -implicitDefEqProofs
 refine ⟨fun h2=>?_,fun h1=>by simp [ybr,h1]⟩
 refine yc (yD b.Draught 1 100) ?_
 simp -dsimp -implicitDefEqProofs
 refine ⟨fun h3=>?_,fun h1=>by simp [ybr,h1]⟩
 refine yc (yD b.Speed 1 50) ?_
 simp -dsimp -implicitDefEqProofs
 refine ⟨fun h4=>?_,fun h1=>by simp [ybr,h1]⟩
 refine yc (yD b.Class 0 2) ?_
 simp -dsimp -implicitDefEqProofs
 simp [ybr,h,h1,h2,h3,h4]
theorem yuc (b : Boat) : yB Tryz.prog 126 [.agg (b.enc.map .c)] (.c (.b (ybr b))):=by
 refine yh yqo ?_
 simp -dsimp -implicitDefEqProofs
 refine yc (yC b.Id 1 9999) ?_
 simp -dsimp -implicitDefEqProofs
 refine ⟨fun h=>?_,fun h=>by simp [ybr,h]⟩
 refine yc (yC b.Length 1 200) ?_
 simp -dsimp -implicitDefEqProofs
 refine ⟨fun h1=>?_,fun h1=>by simp [ybr,h1]⟩
 refine yc (yC b.Width 1 30) ?_
 simp -dsimp -implicitDefEqProofs
 refine ⟨fun h2=>?_,fun h1=>by simp [ybr,h1]⟩
 refine yc (yC b.Draught 1 100) ?_
 simp -dsimp -implicitDefEqProofs
 refine ⟨fun h3=>?_,fun h1=>by simp [ybr,h1]⟩
 refine yc (yC b.Speed 1 50) ?_
 simp -dsimp -implicitDefEqProofs
 refine ⟨fun h4=>?_,fun h1=>by simp [ybr,h1]⟩
 refine yc (yC b.Class 0 2) ?_
 simp -dsimp -implicitDefEqProofs
 simp [ybr,h,h1,h2,h3,h4]
def indexOf (l : List Int) (n : Int) : Int:=match l.findIdx? (fun x=>n == x) with | some i=>i | none=>-1
theorem yph {l : List Int} {n : Int} : (0 ≤ indexOf l n) = (n ∈ l):=by
 unfold indexOf
 cases h : l.findIdx? (fun x=>n == x) with
 | none =>
  rw [List.findIdx?_eq_none_iff] at h
  show (0 ≤ (-1 : Int)) = _
  simp only [eq_iff_iff]
  refine ⟨fun h1=>by omega,fun hm=>?_⟩
  have:=h n hm
  simp at this
 | some i =>
  rw [List.findIdx?_eq_some_iff_getElem] at h
  obtain ⟨hi,h1,_⟩:=h
  simp only [eq_iff_iff]
  refine ⟨fun _=>?_,fun _=>by omega⟩
  have : n = l[i]:=by simpa using h1
  rw [this]; exact List.getElem_mem _
theorem yww {l : List Int} {n : Int} {k : Nat} (h : l[k]? = some n) (hn : ∀ x ∈ l.take k,n ≠ x) : indexOf l n = k:=by
 unfold indexOf
 have : l.findIdx? (fun x=>n == x) = some k:=by
  rw [List.findIdx?_eq_some_iff_getElem]
  obtain ⟨hk1,hk2⟩:=List.getElem?_eq_some_iff.1 h
  refine ⟨hk1,by simp [hk2],fun j hj=>?_⟩
  have:=hn (l[j]'(by omega)) (List.mem_take_iff_getElem.2 ⟨j,by omega,rfl⟩)
  simpa using this
 rw [this]
theorem yv9 {l : List Int} {n : Int} {k : Nat} (hk : l.length ≤ k) (hn : ∀ x ∈ l.take k,n ≠ x) : indexOf l n = -1:=by
 rw [List.take_of_length_le hk] at hn
 unfold indexOf
 have : l.findIdx? (fun x=>n == x) = none:=by
  rw [List.findIdx?_eq_none_iff]
  intro x hx
  simpa using hn x hx
 rw [this]
theorem yzA {l : List Int} {n x : Int} {k : Nat} (h : l[k]? = some x) (hx : n ≠ x) (hn : ∀ x ∈ l.take k,n ≠ x) : ∀ x ∈ l.take (k + 1),n ≠ x:=by
 intro y hy
 rw [List.take_succ,h] at hy
 rcases List.mem_append.1 hy with h1 | h1
 ·exact hn y h1
 ·simp at h1; rw [h1]; exact hx
theorem yBu (l : List Int) (n : Int) : yB Tryz.prog 133 [.c (.sl 1 (l.map yJ)),.c (.i n)] (.c (.i (indexOf l n))):=by
 refine yh ygi ?_
 simp -dsimp -implicitDefEqProofs
 intro hlen
 refine yg (ι:=Nat) (fun k=>k ≤ l.length ∧ ∀ x ∈ l.take k,n ≠ x) (fun k=>yO [(0,.c (.sl 1 (l.map yJ))),(1,.c (.i n)),(7,.c (.i l.length)),(8,.c (.i k))] []) (fun k=>l.length - k) 0 (by simp) (by apply yj <;> simp) ?_
 rintro k ⟨hk,hn⟩
 rcases Nat.lt_or_ge k l.length with hlt | hge
 ·obtain ⟨x,hx⟩ : ∃ x,l[k]? = some x:=⟨_,List.getElem?_eq_getElem hlt⟩
  simp -dsimp -implicitDefEqProofs [hx,yG hlt]
  refine ⟨fun h=>?_,fun h=>⟨yw hlt hlen,k + 1,⟨hlt,yzA hx h hn⟩,by omega,by apply yj <;> simp⟩⟩
  exact yww (h ▸ hx) hn
 ·simp -dsimp -implicitDefEqProofs [yaB hge]
  exact yv9 hge hn
theorem ypJ (l : List Int) (n : Int) : yB Tryz.prog 85 [.c (.sl 1 (l.map yJ)),.c (.i n)] (.c (.b (decide (n ∈ l)))):=by
 refine yh yfu ?_
 simp -dsimp -implicitDefEqProofs
 refine yc (yBu l n) ?_
 simp -dsimp -implicitDefEqProofs [yph]
def yfy (b : Boat) : Int:=b.Id
def full (r : List Boat) : Bool:=decide (r.length ≠ 0)
theorem ytQ {r : List Boat} : full r = true ↔ r.length ≠ 0:=by simp [full]
def yP (t : Train) : Bool:=t.Rows.all full && t.yas.all ybr && decide ((t.yas.map yfy).Nodup) && inRange t.yas.length 1 6
theorem ykm {l : List Boat} {k : Nat} {b : Boat} (h : l[k]? = some b) : (((l.take (k + 1)).map yfy).Nodup ↔ ((l.take k).map yfy).Nodup ∧ b.Id ∉ (l.take k).map yfy):=by
 rw [List.take_succ,h,List.map_append]
 simp only [Option.toList_some,List.map_cons,List.map_nil,List.nodup_append,List.nodup_cons,List.not_mem_nil,not_false_eq_true,List.nodup_nil,and_self,true_and,List.mem_singleton,forall_eq,yfy]
 constructor
 ·rintro ⟨h1,h2⟩; exact ⟨h1,fun hm=>h2 _ hm rfl⟩
 ·rintro ⟨h1,h2⟩; exact ⟨h1,fun x hx e=>h2 (e ▸ hx)⟩
theorem yyf {l : List Boat} {k : Nat} (h : ¬ ((l.take k).map yfy).Nodup) : ¬ (l.map yfy).Nodup:=by
 intro hn
 refine h ?_
 rw [← List.take_append_drop k l,List.map_append] at hn
 exact (List.nodup_append.1 hn).1
def yry (l : List Boat) (k : Nat) : List Int:=(l.take k).map yfy
theorem yds (t : Train) (h : t.small) : yB Tryz.prog 94 [.agg (t.enc.map .c)] (.c (.b (yP t))):=by
 refine yh yoi ?_
 simp -dsimp -implicitDefEqProofs
 refine yS (yoX t h) ?_
 simp -dsimp -implicitDefEqProofs
 refine yg (ι:=Nat) (fun k=>k ≤ t.Rows.length ∧ ∀ r ∈ t.Rows.take k,full r = true) (fun k=>yO [(1,.box 1 0),(3,.c (.sl 6 (t.yas.map Boat.enc))),(4,.c (.i k))] [(1,.box (t.enc.map .c))]) (fun k=>t.Rows.length - k) 0 (by simp) (by apply yj <;> simp) ?_
 rintro k ⟨hk,hall⟩
 rcases Nat.lt_or_ge k t.Rows.length with hlt | hge
 ·obtain ⟨r,hr⟩ : ∃ r,t.Rows[k]? = some r:=⟨_,List.getElem?_eq_getElem hlt⟩
  simp -dsimp -implicitDefEqProofs [hr,yG hlt]
  intro hlen _
  refine ⟨fun h0=>?_,fun h0=>?_⟩
  ·have : t.Rows.all full = false:=all_false (p:=full) hr (by simp [full,h0])
   simp only [yP,this,Bool.false_and]
  ·exact ⟨yw hlt hlen,k + 1,⟨by omega,yL (p:=full) hr hall (by simp [full,h0])⟩,by omega,by apply yj <;> simp⟩
 ·have hrows:=yX (p:=full) hge hall
  simp -dsimp -implicitDefEqProofs [yaB hge]
  intro _
  have hbl:=yzj h
  refine yg (ι:=Nat) (fun k=>k ≤ t.yas.length ∧ (∀ b ∈ t.yas.take k,ybr b = true) ∧ (yry t.yas k).Nodup) (fun k=>yO [(3,.c (.sl 6 (t.yas.map Boat.enc))),(5,.c (.i k))] []) (fun k=>t.yas.length - k) 0 (by simp [yry]) (by apply yj <;> simp) ?_
  rintro k ⟨hk,hok,hnd⟩
  have fin : t.yas.length ≤ 6 → k = t.yas.length → yP t = inRange t.yas.length 1 6:=by
   intro h6 e
   have h1:=yX (p:=ybr) (by omega) hok
   rw [e,yry,List.take_length] at hnd
   simp [yP,hrows,h1,hnd]
  rcases Nat.lt_or_ge k t.yas.length with hlt | hge
  ·obtain ⟨b,hb⟩ : ∃ b,t.yas[k]? = some b:=⟨_,List.getElem?_eq_getElem hlt⟩
   by_cases h6 : t.yas.length ≤ 6
   ·have h6' : ((t.yas.length : Int) ≤ 6) = True:=by simp; omega
    simp -dsimp -implicitDefEqProofs [hb,yG hlt,h6']
    intro hlen
    refine yc (yvm b) ?_
    simp -dsimp -implicitDefEqProofs
    refine ⟨fun h1=>?_,fun h1=>?_⟩
    ·have : t.yas.all ybr = false:=all_false (p:=ybr) hb h1
     simp only [yP,this,Bool.false_and,Bool.and_false]
    have hok':=yL (p:=ybr) hb hok h1
    refine yg (ι:=Nat) (fun i=>i ≤ k ∧ b.Id ∉ yry t.yas i) (fun i=>yO [(3,.c (.sl 6 (t.yas.map Boat.enc))),(5,.c (.i k)),(6,.c (.i i))] []) (fun i=>k - i) 0 (by simp [yry]) (by apply yj <;> simp) ?_
    rintro i ⟨hi,hni⟩
    rcases Nat.lt_or_ge i k with hlt2 | hge2
    ·obtain ⟨c,hc⟩ : ∃ c,t.yas[i]? = some c:=⟨_,List.getElem?_eq_getElem (by omega)⟩
     have hi3 : (i : Int) < t.yas.length:=by omega
     simp -dsimp -implicitDefEqProofs [hb,hc,yG hlt,yG hlt2,hi3]
     refine ⟨fun h2=>?_,fun h2=>?_⟩
     ·have : ¬ (t.yas.map yfy).Nodup:=by
       refine yyf (k:=k + 1) fun hn=>?_
       refine ((ykm hb).1 hn).2 ?_
       rw [← h2]
       exact List.mem_map.2 ⟨c,List.mem_iff_getElem?.2 ⟨i,by rw [List.getElem?_take,if_pos hlt2]; exact hc⟩,rfl⟩
      simp [yP,this]
     ·refine ⟨by unfold inI; omega,i + 1,⟨hlt2,?_⟩,by omega,by apply yj <;> simp⟩
      rw [yry,List.take_succ,hc,List.map_append]
      simp only [List.mem_append,Option.toList_some,List.map_cons,List.map_nil,List.mem_singleton,yfy]
      rintro (h3 | h3)
      ·exact hni h3
      ·exact h2 h3.symm
    ·simp -dsimp -implicitDefEqProofs [yaB hge2]
     have e : i = k:=by omega
     rw [e] at hni
     exact ⟨by unfold inI; omega,k + 1,⟨hlt,hok',(ykm hb).2 ⟨hnd,hni⟩⟩,by omega,by apply yj <;> simp⟩
   ·have h6' : ((t.yas.length : Int) ≤ 6) = False:=by simp; omega
    simp -dsimp -implicitDefEqProofs [hb,yG hlt,h6']
    intro hlen
    refine yc (yD t.yas.length 1 6) ?_
    simp -dsimp -implicitDefEqProofs
    have h7 : inRange t.yas.length 1 6 = false:=ycG.2 (by omega)
    simp only [yP,h7,Bool.and_false]
  ·simp -dsimp -implicitDefEqProofs [yaB hge]
   intro hlen
   refine yc (yD t.yas.length 1 6) ?_
   simp -dsimp -implicitDefEqProofs
   by_cases h6 : t.yas.length ≤ 6
   ·rw [fin h6 (by omega)]
   ·have h7 : inRange t.yas.length 1 6 = false:=ycG.2 (by omega)
    simp only [yP,h7,Bool.and_false]
theorem yvl {t : Train} {k : Nat} {r : List Boat} (h : t.Rows[k]? = some r) : ∃ m,t.yas = heads t.Rows k ++ r ++ m:=by
 refine ⟨(t.Rows.drop (k + 1)).flatten,?_⟩
 unfold Train.yas
 conv=>lhs; rw [← List.take_append_drop (k + 1) t.Rows]
 rw [List.flatten_append,← yhH h]; rfl
theorem yBC {t : Train} {k : Nat} {r : List Boat} (h : t.Rows[k]? = some r) (h0 : r.length = 0) : yP t = false:=by
 have : t.Rows.all full = false:=all_false (p:=full) h (by simp [full,h0])
 simp only [yP,this,Bool.false_and]
theorem yD8 {t : Train} (h : 6 < t.yas.length) : yP t = false:=by
 have h7 : inRange t.yas.length 1 6 = false:=ycG.2 (by omega)
 simp only [yP,h7,Bool.and_false]
theorem yBq {t : Train} {b : Boat} (hb : b ∈ t.yas) (h : ybr b = false) : yP t = false:=by
 obtain ⟨i,hi⟩:=List.getElem?_of_mem hb
 have : t.yas.all ybr = false:=all_false (p:=ybr) hi h
 simp only [yP,this,Bool.false_and,Bool.and_false]
theorem yEq {t : Train} (h : ¬ (t.yas.map yfy).Nodup) : yP t = false:=by simp [yP,h]
def yfA (l : List Boat) : List (List C):=(l.map yfy).map yJ ++ List.replicate (6 - l.length) [.i 0]
theorem yzV {l : List Boat} (h : l.length ≤ 6) : (yfA l).length = 6:=by simp [yfA]; omega
theorem yyx {l : List Boat} {n : Nat} (h : n = l.length) : (yfA l).take n = (l.map yfy).map yJ:=by
 subst h; unfold yfA; rw [List.take_append_of_le_length (by simp),List.take_of_length_le (by simp)]
theorem yyK {l : List Boat} {b : Boat} (h : l.length < 6) : (yfA l).set l.length [.i b.Id] = yfA (l ++ [b]):=by
 unfold yfA
 rw [List.set_append_right _ _ (by simp)]
 have h1 : ((l.map yfy).map yJ).length = l.length:=by simp
 rw [h1,Nat.sub_self,show 6 - l.length = (6 - (l.length + 1)) + 1 by omega,List.replicate_succ,List.set_cons_zero]
 simp [yfy]
theorem yzC {l : List Boat} (h : l.length < 6) : (yfA l)[l.length]?.getD [] = [.i 0]:=by
 unfold yfA
 rw [List.getElem?_append_right (by simp)]
 have h1 : ((l.map yfy).map yJ).length = l.length:=by simp
 rw [h1,Nat.sub_self,List.getElem?_replicate,if_pos (by omega)]; rfl
theorem yzu : yfA [] = List.replicate 6 [.i 0]:=rfl
structure Met (l : List Boat) : Prop where
 ok : ∀ b ∈ l,ybr b = true
 nd : (l.map yfy).Nodup
 len : l.length ≤ 6
theorem Met.snoc {l : List Boat} {b : Boat} (h : Met l) (h1 : ybr b = true) (h2 : b.Id ∉ l.map yfy) (h3 : l.length < 6) : Met (l ++ [b]):=by
 refine ⟨?_,?_,by simp; omega⟩
 ·intro x hx
  rcases List.mem_append.1 hx with hx | hx
  ·exact h.ok x hx
  ·rw [List.mem_singleton.1 hx]; exact h1
 ·have:=@ykm (l ++ [b]) l.length b (by simp)
  rw [show l.length + 1 = (l ++ [b]).length by simp,List.take_length] at this
  rw [this,List.take_left']
  ·exact ⟨h.nd,h2⟩
  ·rfl
def yfe (t : Train) (k : Nat) (r : List Boat) (j : Nat) : List Boat:=heads t.Rows k ++ r.take j
theorem yoG {t : Train} {k : Nat} {r : List Boat} : yfe t k r 0 = heads t.Rows k:=by simp [yfe]
theorem yvY {t : Train} {k : Nat} {r : List Boat} {j : Nat} {b : Boat} (h : r[j]? = some b) : yfe t k r (j + 1) = yfe t k r j ++ [b]:=by
 unfold yfe; rw [List.take_succ,h]; simp
theorem yrL {t : Train} {k : Nat} {r : List Boat} {j : Nat} (hr : t.Rows[k]? = some r) (h : r.length ≤ j) : yfe t k r j = heads t.Rows (k + 1):=by
 unfold yfe; rw [List.take_of_length_le h,yhH hr]
theorem yxV {t : Train} {k : Nat} {r : List Boat} {j : Nat} (h : j ≤ r.length) : (yfe t k r j).length = (heads t.Rows k).length + j:=by
 unfold yfe; simp; omega
theorem ydp (t : Train) (h : t.small) : yB Tryz.prog 79 [.agg (t.enc.map .c)] (.c (.b (yP t))):=by
 refine yh yoE ?_
 simp -dsimp -implicitDefEqProofs
 intro hlen
 refine ⟨fun h0 _=>⟨fun h1=>?_,fun h1 _=>?_⟩,fun h0=>?_⟩
 ·by_cases h2 : yP t = false
  ·exact h2
  ·exfalso
   have h3 : yP t = true:=by simpa using h2
   simp only [yP,Bool.and_eq_true,List.all_eq_true] at h3
   obtain ⟨⟨⟨h4,_⟩,_⟩,h5⟩:=h3
   have h6:=yF.1 h5
   have : ∀ l : List (List Boat),(∀ r ∈ l,full r = true) → l.length ≤ l.flatten.length:=by
    intro l
    induction l with
    | nil=>simp
    | cons r l ih =>
     intro hl
     have e1:=ih fun x hx=>hl x (by simp [hx])
     have e2:=ytQ.1 (hl r (by simp))
     simp only [List.length_cons,List.flatten_cons,List.length_append]; omega
   have:=this t.Rows h4
   unfold Train.yas at h6
   omega
 ·refine yg (ι:=Nat) (fun k=>k ≤ t.Rows.length ∧ (∀ r ∈ t.Rows.take k,full r = true) ∧ Met (heads t.Rows k)) (fun k=>yO [(3,.row 3 1 0 0),(4,.c (.i (heads t.Rows k).length)),(20,.c (.sl 1 (t.Rows.map yai))),(21,.c (.i t.Rows.length)),(22,.c (.i k))] [(3,.row 1 (yfA (heads t.Rows k)))]) (fun k=>t.Rows.length - k) 0 ⟨by simp,by simp,by simp [yeU],by simp [yeU],by simp [yeU]⟩ (by apply yj <;> simp [yeU,yzu]) ?_
  rintro k ⟨hk,hall,hm⟩
  rcases Nat.lt_or_ge k t.Rows.length with hlt | hge
  ·obtain ⟨r,hr⟩ : ∃ r,t.Rows[k]? = some r:=⟨_,List.getElem?_eq_getElem hlt⟩
   have hml:=hm.len
   have hrs:=(h.2 r (List.mem_of_getElem? hr)).1
   obtain ⟨rest,hsp⟩:=yvl hr
   simp -dsimp -implicitDefEqProofs [hr,yG hlt]
   intro hrl
   refine ⟨fun hr0 _=>⟨by unfold inI; omega,fun h6=>?_,fun h6 _=>?_⟩,fun hr0=>?_⟩
   ·refine yD8 ?_
    rw [hsp]; simp only [List.length_append]; omega
   ·refine yg (ι:=Nat) (fun j=>j ≤ r.length ∧ Met (yfe t k r j)) (fun j=>yO [(3,.row 3 1 0 0),(4,.c (.i (yfe t k r j).length)),(20,.c (.sl 1 (t.Rows.map yai))),(21,.c (.i t.Rows.length)),(22,.c (.i k)),(36,.c (.sl 6 (r.map Boat.enc))),(37,.c (.i r.length)),(38,.c (.i j))] [(3,.row 1 (yfA (yfe t k r j)))]) (fun j=>r.length - j) 0 ⟨by simp,by rw [yoG]; exact hm⟩ (by apply yj <;> simp [yoG]) ?_
    rintro j ⟨hj,hmj⟩
    rcases Nat.lt_or_ge j r.length with hlt2 | hge2
    ·obtain ⟨b,hb⟩ : ∃ b,r[j]? = some b:=⟨_,List.getElem?_eq_getElem hlt2⟩
     have hsl:=yxV (t:=t) (k:=k) hj
     have hlt6 : (yfe t k r j).length < 6:=by omega
     have hmem : b ∈ t.yas:=by
      rw [hsp]; simp only [List.mem_append]; exact .inl (.inr (List.mem_of_getElem? hb))
     simp -dsimp -implicitDefEqProofs [hb,yG hlt2]
     refine yaC (yuc b) ?_
     simp -dsimp -implicitDefEqProofs
     refine ⟨fun h2=>?_,fun h2=>yBq hmem h2⟩
     have hsn:=yzV hmj.len
     refine ⟨by omega,hsn,?_⟩
     refine ⟨_,_,ypJ ((yfe t k r j).map yfy) b.Id,by simp [yyx],.inr rfl,?_⟩
     simp -dsimp -implicitDefEqProofs [yG hlt2,yzC hlt6,yyK hlt6]
     refine ⟨fun x hx he=>yEq fun hn=>?_,fun h3=>?_⟩
     ·have hsp2 : t.yas = yfe t k r j ++ (b :: (r.drop (j + 1) ++ rest)):=by
       rw [hsp]; unfold yfe
       have : r = r.take j ++ b :: r.drop (j + 1):=by
        conv=>lhs; rw [← List.take_append_drop j r]
        rw [List.drop_eq_getElem_cons hlt2,(List.getElem?_eq_some_iff.1 hb).2]
       conv=>lhs; rw [this]
       simp
      rw [hsp2,List.map_append,List.map_cons] at hn
      exact (List.nodup_append.1 hn).2.2 _ (List.mem_map_of_mem hx) _ (List.mem_cons_self) he
     ·have hni : b.Id ∉ (yfe t k r j).map yfy:=by
       intro hm'
       obtain ⟨x,hx,he⟩:=List.mem_map.1 hm'
       exact h3 x hx he
      have hs1:=yvY (t:=t) (k:=k) hb
      refine ⟨by omega,by omega,by unfold inI; omega,by unfold inI; omega,j + 1,⟨hlt2,by rw [hs1]; exact hmj.snoc h2 hni hlt6⟩,by omega,?_⟩
      apply yj <;> simp [hs1]
    ·simp -dsimp -implicitDefEqProofs [yaB hge2]
     rw [yrL hr hge2] at hmj
     refine ⟨by unfold inI; omega,k + 1,⟨hlt,yL (p:=full) hr hall (by simp [full,hr0]),hmj⟩,by omega,?_⟩
     apply yj <;> simp [yrL hr hge2]
   ·exact yBC hr (by simp [hr0])
  ·simp -dsimp -implicitDefEqProofs [yaB hge]
   rw [yjI hge] at hm
   have hr1:=yX (p:=full) hge hall
   have hb1 : t.yas.all ybr = true:=List.all_eq_true.2 hm.ok
   have hl1 : 0 < t.yas.length:=by
    obtain ⟨r,l,e⟩:=List.exists_cons_of_ne_nil h0
    have:=ytQ.1 (List.all_eq_true.1 hr1 r (by rw [e]; simp))
    unfold Train.yas
    rw [e]; simp only [List.flatten_cons,List.length_append]; omega
   have hl2 : t.yas.length ≤ 6:=hm.len
   have h7 : inRange t.yas.length 1 6 = true:=yF.2 (by omega)
   have hn1 : (t.yas.map yfy).Nodup:=hm.nd
   simp [yP,hr1,hb1,hn1,h7]
 ·have : t.yas = []:=by simp [Train.yas,h0]
  have h7 : inRange t.yas.length 1 6 = false:=by rw [this]; rfl
  simp only [yP,h7,Bool.and_false]
def ybk (m : Mover) (w : Way) : Bool:=yjg w && yP m.Train && inRange m.Place 0 w.Long
theorem yr9 (m : Mover) (w : Way) (h : m.small) : yB Tryz.prog 124 [.agg (m.enc.map .c),.agg (w.enc.map .c)] (.c (.b (ybk m w))):=by
 refine yh ypL ?_
 simp -dsimp -implicitDefEqProofs
 refine yc (ypN w) ?_
 simp -dsimp -implicitDefEqProofs
 refine ⟨fun h1=>?_,fun h1=>by simp [ybk,h1]⟩
 refine yc (ydp m.Train h) ?_
 simp -dsimp -implicitDefEqProofs
 refine ⟨fun h2=>?_,fun h2=>by simp [ybk,h2]⟩
 refine yc (yC m.Place 0 w.Long) ?_
 simp -dsimp -implicitDefEqProofs
 simp [ybk,h1,h2]
theorem yk6 (m : Mover) (w : Way) (h : m.small) : yB Tryz.prog 117 [.agg (m.enc.map .c),.agg (w.enc.map .c)] (.c (.b (ybk m w))):=by
 refine yh ypB ?_
 simp -dsimp -implicitDefEqProofs
 refine yc (ynZ w) ?_
 simp -dsimp -implicitDefEqProofs
 refine ⟨fun h1=>?_,fun h1=>by simp [ybk,h1]⟩
 refine yc (yds m.Train h) ?_
 simp -dsimp -implicitDefEqProofs
 refine ⟨fun h2=>?_,fun h2=>by simp [ybk,h2]⟩
 refine yc (yD m.Place 0 w.Long) ?_
 simp -dsimp -implicitDefEqProofs
 simp [ybk,h1,h2]
def maxOf (f : Boat → Int) (l : List Boat) (z : Int) : Int:=l.foldl (fun m b=>if m < f b then f b else m) z
def minOf (f : Boat → Int) (l : List Boat) (z : Int) : Int:=l.foldl (fun m b=>if f b < m then f b else m) z
def yP9 (f : Boat → Int) (l : List Boat) (z : Int) (k : Nat) : Int:=maxOf f (l.take k) z
def yLK (f : Boat → Int) (l : List Boat) (z : Int) (k : Nat) : Int:=minOf f (l.take k) z
theorem yPJ {f : Boat → Int} {l : List Boat} {z : Int} : yP9 f l z 0 = z:=rfl
theorem yL8 {f : Boat → Int} {l : List Boat} {z : Int} : yLK f l z 0 = z:=rfl
theorem yQw {f : Boat → Int} {l : List Boat} {z : Int} {k : Nat} {b : Boat} (h : l[k]? = some b) : yP9 f l z (k + 1) = if yP9 f l z k < f b then f b else yP9 f l z k:=by
 unfold yP9 maxOf; rw [List.take_succ,h,List.foldl_append]; rfl
theorem yL1 {f : Boat → Int} {l : List Boat} {z : Int} {k : Nat} {b : Boat} (h : l[k]? = some b) : yLK f l z (k + 1) = if f b < yLK f l z k then f b else yLK f l z k:=by
 unfold yLK minOf; rw [List.take_succ,h,List.foldl_append]; rfl
theorem yQQ {f : Boat → Int} {l : List Boat} {z : Int} {k : Nat} (h : l.length ≤ k) : yP9 f l z k = maxOf f l z:=by
 unfold yP9; rw [List.take_of_length_le h]
theorem yMj {f : Boat → Int} {l : List Boat} {z : Int} {k : Nat} (h : l.length ≤ k) : yLK f l z k = minOf f l z:=by
 unfold yLK; rw [List.take_of_length_le h]
theorem yRc {f : Boat → Int} {a b : Int} : ∀ {l : List Boat} {z : Int},(∀ x ∈ l,a ≤ f x ∧ f x ≤ b) → a ≤ z → z ≤ b → a ≤ maxOf f l z ∧ maxOf f l z ≤ b
 | [],z,_,h1,h2=>⟨h1,h2⟩
 | x :: l,z,h,h1,h2=>by
  have:=h x (by simp)
  unfold maxOf
  rw [List.foldl_cons]
  refine yRc (l:=l) (fun y hy=>h y (by simp [hy])) ?_ ?_ <;> split <;> omega
theorem yMv {f : Boat → Int} {a b : Int} : ∀ {l : List Boat} {z : Int},(∀ x ∈ l,a ≤ f x ∧ f x ≤ b) → a ≤ z → z ≤ b → a ≤ minOf f l z ∧ minOf f l z ≤ b
 | [],z,_,h1,h2=>⟨h1,h2⟩
 | x :: l,z,h,h1,h2=>by
  have:=h x (by simp)
  unfold minOf
  rw [List.foldl_cons]
  refine yMv (l:=l) (fun y hy=>h y (by simp [hy])) ?_ ?_ <;> split <;> omega
structure TrainFacts (t : Train) : Prop where
 rows : ∀ r ∈ t.Rows,full r = true
 ok : ∀ b ∈ t.yas,ybr b = true
 nd : (t.yas.map yfy).Nodup
 pos : 1 ≤ t.yas.length
 len : t.yas.length ≤ 6
theorem yhY {t : Train} (h : yP t = true) : TrainFacts t:=by
 simp only [yP,Bool.and_eq_true,List.all_eq_true,decide_eq_true_eq] at h
 obtain ⟨⟨⟨h1,h2⟩,h3⟩,h4⟩:=h
 have h5:=yF.1 h4
 exact ⟨h1,h2,h3,by omega,by omega⟩
theorem yMg {b : Boat} (h : ybr b = true) : (1 ≤ b.Id ∧ b.Id ≤ 9999) ∧ (1 ≤ b.Length ∧ b.Length ≤ 200) ∧ (1 ≤ b.Width ∧ b.Width ≤ 30) ∧ (1 ≤ b.Draught ∧ b.Draught ≤ 100) ∧ (1 ≤ b.Speed ∧ b.Speed ≤ 50) ∧ (0 ≤ b.Class ∧ b.Class ≤ 2):=by
 simp only [ybr,Bool.and_eq_true] at h
 obtain ⟨⟨⟨⟨⟨h1,h2⟩,h3⟩,h4⟩,h5⟩,h6⟩:=h
 exact ⟨yF.1 h1,yF.1 h2,yF.1 h3,yF.1 h4,yF.1 h5,yF.1 h6⟩
theorem yya (t : Train) (h : t.small) : yB Tryz.prog 104 [.agg (t.enc.map .c)] (.c (.sl 6 (t.yas.map Boat.enc))):=by
 refine yh yoM ?_
 simp -dsimp -implicitDefEqProofs
 intro hlen
 refine ymd (k0:=6) 3 6 (by simp) (by simp) (by decide) ?_
 refine yg (ι:=Nat) (fun k=>k ≤ t.Rows.length) (fun k=>yO [(3,.own 3 6 (heads t.Rows k).length),(7,.c (.sl 1 (t.Rows.map yai))),(8,.c (.i t.Rows.length)),(9,.c (.i k))] [(3,.row 6 ((heads t.Rows k).map Boat.enc))]) (fun k=>t.Rows.length - k) 0 (by simp) (by apply yj <;> simp [yeU]) ?_
 rintro k hk
 rcases Nat.lt_or_ge k t.Rows.length with hlt | hge
 ·obtain ⟨r,hr⟩ : ∃ r,t.Rows[k]? = some r:=⟨_,List.getElem?_eq_getElem hlt⟩
  have hb:=yi0 h (k + 1)
  have hf:=yhH hr
  rw [hf,List.length_append] at hb
  simp -dsimp -implicitDefEqProofs [hr,yG hlt]
  refine ⟨by omega,yw hlt hlen,k + 1,hlt,by omega,?_⟩
  apply yj <;> simp [hf]
 ·simp -dsimp -implicitDefEqProofs [yaB hge]
  rw [yjI hge]
  rw [List.take_of_length_le (by rw [List.length_map]; exact Nat.le_refl _)]; rfl
def yMM (f : Boat → Int) (l : List Boat) : Int:=match l with | b :: _=>f b | []=>0
theorem yNi {l : List Boat} {b : Boat} (h : l[0]? = some b) (f : Boat → Int) : yMM f l = f b:=by
 cases l with
 | nil=>simp at h
 | cons x l=>simp at h; rw [h]; rfl
theorem yLO {t : Train} (h : TrainFacts t) : ∃ r b,t.Rows[0]? = some r ∧ r[0]? = some b ∧ t.yas[0]? = some b:=by
 have h1:=h.pos
 cases hr : t.Rows with
 | nil=>unfold Train.yas at h1; rw [hr] at h1; simp at h1
 | cons r l =>
  have h2:=ytQ.1 (h.rows r (by rw [hr]; simp))
  cases r with
  | nil=>simp at h2
  | cons b r=>exact ⟨b :: r,b,rfl,rfl,by unfold Train.yas; rw [hr]; rfl⟩
def yhJ (xs : List Int) (l : Int) : Int:=szS xs.length l
def ykx : List Int → Prop:=ycs fun _=>True
theorem yeY : yey yhJ ykx:=yhU
theorem yjw (xs : List Int) (l : Int) (h0 : 0 ≤ l) (h1 : l ≤ 1048576) : yB Tryz.prog 17 [.c (.sl 1 (xs.map yJ)),.c (.i l)] (.c (.i (yhJ xs l))):=yz0 xs l h0 h1
structure Point where
 X : Int
 Y : Int
 deriving DecidableEq,Inhabited
@[simp] def Point.enc (e : Point) : List C:=[.i e.X,.i e.Y]
-- Point
theorem yrB (e : Point) : yB Tryz.prog 137 [.agg (e.enc.map .c)] (.agg (e.enc.map .c)):=by
 refine yh ypj ?_
 simp -dsimp -implicitDefEqProofs
theorem yyp (a b : Point) : yB Tryz.prog 141 [.agg (a.enc.map .c),.agg (b.enc.map .c)] (.c (.b (decide (a = b)))):=by
 refine yh yoo ?_
 obtain ⟨a0,a1⟩:=a
 obtain ⟨b0,b1⟩:=b
 simp -dsimp -implicitDefEqProofs [yiZ,Point.mk.injEq]
 refine ⟨fun h=>by simp_all,fun h0=>?_⟩
 refine ⟨fun h=>by simp_all,fun h1=>?_⟩
 simp_all
-- []Point
def yg2 (xs : List Point) (l : Int) : Int:=szS xs.length l
def yfO : List Point → Prop:=ycs fun _=>True
theorem ylh : yey yg2 yfO:=yhU
theorem yuC (xs : List Point) (l : Int) (h0 : 0 ≤ l) (h1 : l ≤ 1048576) : yB Tryz.prog 87 [.c (.sl 2 (xs.map Point.enc)),.c (.i l)] (.c (.i (yg2 xs l))):=by
 refine yh ynd ?_
 simp -dsimp -implicitDefEqProofs [yiq,yg2,szS]
 intro hl
 unfold maxLen at hl
 refine ⟨by unfold inI; omega,fun h=>?_,fun h=>?_⟩ <;> intros <;> omega
theorem yvM (xs : List Point) (hl : yfO xs) : yB Tryz.prog 95 [.c (.sl 2 (xs.map Point.enc))] (.c (.sl 2 (xs.map Point.enc))):=by
 refine yh yiu ?_
 simp -dsimp -implicitDefEqProofs
 intro hlen
 have hl1:=hl.1
 refine ⟨by omega,?_⟩
 refine yg (ι:=Nat) (fun k=>k ≤ xs.length) (fun k=>yO [(0,.c (.sl 2 (xs.map Point.enc))),(3,.own 7 2 xs.length),(4,.c (.i k))] [(7,.row 2 (partly Point.enc [.i 0,.i 0] xs k))]) (fun k=>xs.length - k) 0 (by simp) (by apply yj <;> simp [yab]) ?_
 rintro k hk
 rcases Nat.lt_or_ge k xs.length with hlt | hge
 ·obtain ⟨e,he⟩ : ∃ e,xs[k]? = some e:=⟨_,List.getElem?_eq_getElem hlt⟩
  have hs:=yaj (f:=Point.enc) (z:=[.i 0,.i 0]) he
  have hd:=yav (f:=Point.enc) (z:=[.i 0,.i 0]) (n:=2) rfl hlt
  simp only [Point.enc] at hs
  simp -dsimp -implicitDefEqProofs [he,yG hlt]
  refine fun _=>yaP (yrB e ) (by simp) rfl ?_
  simp -dsimp -implicitDefEqProofs [yG hlt,yak hk,hd,hs]
  exact ⟨hlt,yw hlt hlen,k + 1,hlt,by omega,by apply yj <;> simp⟩
 ·simp -dsimp -implicitDefEqProofs [yaB hge]
  intro _
  rw [yam hge,List.take_of_length_le (by simp)]
theorem yvv (es fs : List Point) : yB Tryz.prog 105 [.c (.sl 2 (es.map Point.enc)),.c (.sl 2 (fs.map Point.enc))] (.c (.b (decide (es = fs)))):=by
 refine yh ynO ?_
 simp -dsimp -implicitDefEqProofs
 intro hl1 hl2
 refine ⟨fun h e=>h (by rw [e]),fun hlen=>?_⟩
 have hlen' : es.length = fs.length:=by omega
 refine yg (ι:=Nat) (fun k=>k ≤ es.length ∧ es.take k = fs.take k) (fun k=>yO [(0,.c (.sl 2 (es.map Point.enc))),(1,.c (.sl 2 (fs.map Point.enc))),(5,.c (.i k))] []) (fun k=>es.length - k) 0 (by simp) (by apply yj <;> simp) ?_
 rintro k ⟨hk,htk⟩
 rcases Nat.lt_or_ge k es.length with hlt | hge
 ·obtain ⟨e,he⟩ : ∃ e,es[k]? = some e:=⟨_,List.getElem?_eq_getElem hlt⟩
  obtain ⟨f,hf⟩ : ∃ f,fs[k]? = some f:=⟨_,List.getElem?_eq_getElem (by omega)⟩
  simp -dsimp -implicitDefEqProofs [he,hf,yG hlt,yG (hlen' ▸ hlt)]
  intro _
  refine yaC (yyp e f) ?_
  simp -dsimp -implicitDefEqProofs
  refine ⟨fun h=>ybG he hf h,fun h=>⟨yw hlt hl1,k + 1,⟨hlt,yaR he hf htk h⟩,by omega,by apply yj <;> simp⟩⟩
 ·simp -dsimp -implicitDefEqProofs [yaB hge]
  intro _
  exact ybf hge hlen' htk
structure Reach where
 Table : List Point
 Volume : Int
 Pipe : List Int
 deriving DecidableEq,Inhabited
@[simp] def Reach.enc (e : Reach) : List C:=[.sl 2 (e.Table.map Point.enc),.i e.Volume,.sl 1 (e.Pipe.map yJ)]
-- Reach
def ycy (e : Reach) (l : Int) : Int:=ybm (yg2 e.Table l) fun l=>ybm (yhJ e.Pipe l) fun l=>l
def Reach.small (e : Reach) : Prop:=yfO e.Table ∧ ykx e.Pipe
theorem ymW : yey ycy Reach.small:=by
 intro e l h0 h1
 unfold ycy
 rcases ylh e.Table _ h0 h1 with e0 | ⟨a0,b0,s0⟩
 ·exact .inl (yK (by omega))
 rw [yu a0]
 rcases yeY e.Pipe _ a0 (by omega) with e1 | ⟨a1,b1,s1⟩
 ·exact .inl (yK (by omega))
 rw [yu a1]
 exact .inr ⟨a1,by omega,s0,s1⟩
theorem yvH (e : Reach) (l : Int) (h0 : 0 ≤ l) (h1 : l ≤ 1048576) : yB Tryz.prog 48 [.agg (e.enc.map .c),.c (.i l)] (.c (.i (ycy e l))):=by
 refine yh ypp ?_
 simp -dsimp -implicitDefEqProofs
 refine yc (yuC e.Table _ h0 h1) ?_
 simp -dsimp -implicitDefEqProofs
 refine ⟨fun h=>by simp [ycy,yK h],fun p0=>?_⟩
 have q0:=yin ylh e.Table h0 h1 p0
 refine yc (yjw e.Pipe _ p0 q0) ?_
 simp -dsimp -implicitDefEqProofs
 refine ⟨fun h=>by simp [ycy,yu p0,yK h],fun p1=>?_⟩
 simp [ycy,yu p0,yu p1]
theorem yxy (e : Reach) (hl : Reach.small e) : yB Tryz.prog 54 [.agg (e.enc.map .c)] (.agg (e.enc.map .c)):=by
 refine yh yiN ?_
 simp -dsimp -implicitDefEqProofs
 refine yS (yvM e.Table (hl.1)) ?_
 simp -dsimp -implicitDefEqProofs
 refine yS (ylC e.Pipe (hl.2.1)) ?_
 simp -dsimp -implicitDefEqProofs
theorem yx6 (a b : Reach) : yB Tryz.prog 62 [.agg (a.enc.map .c),.agg (b.enc.map .c)] (.c (.b (decide (a = b)))):=by
 refine yh yn6 ?_
 obtain ⟨a0,a1,a2⟩:=a
 obtain ⟨b0,b1,b2⟩:=b
 simp -dsimp -implicitDefEqProofs [yjl,Reach.mk.injEq]
 refine yc (yvv a0 b0) ?_
 simp -dsimp -implicitDefEqProofs
 refine ⟨fun h=>by simp_all,fun h0=>?_⟩
 refine ⟨fun h=>by simp_all,fun h1=>?_⟩
 refine yc (ykZ a2 b2) ?_
 simp -dsimp -implicitDefEqProofs
 refine ⟨fun h=>by simp_all,fun h2=>?_⟩
 simp_all
def ygg (p : Point) : Bool:=inRange p.X 0 1000000000 && inRange p.Y 0 1000000000
def follows (a b : Point) : Bool:=decide (a.X < b.X) && decide (a.Y ≤ b.Y)
def yhD (l : List Point) (k : Nat) : Bool :=
 match l[k]? with
 | some p=>ygg p && (match k with
  | 0=>true
  | j + 1=>match l[j]? with
   | some q=>follows q p
   | none=>false)
 | none=>true
def upTo (l : List Point) : Nat → Bool
 | 0=>true
 | k + 1=>upTo l k && yhD l k
def yaM (l : List Point) : Bool:=upTo l l.length && inRange l.length 2 20
theorem yhk {l : List Point} {p : Point} (h : l[0]? = some p) : yhD l 0 = ygg p:=by simp [yhD,h]
theorem yea {l : List Point} {k : Nat} {p q : Point} (h : l[k + 1]? = some p) (hq : l[k]? = some q) : yhD l (k + 1) = (ygg p && follows q p):=by simp [yhD,h,hq]
theorem yoy {l : List Point} : ∀ {k n : Nat},k < n → yhD l k = false → upTo l n = false
 | k,0,h,_=>by omega
 | k,n + 1,h,hs=>by
  simp only [upTo]
  rcases Nat.lt_or_ge k n with h1 | h1
  ·rw [yoy h1 hs]; rfl
  ·have : k = n:=by omega
   subst this
   rw [hs,Bool.and_false]
theorem yjy {l : List Point} {k : Nat} (h : upTo l k = true) (hs : yhD l k = true) : upTo l (k + 1) = true:=by simp [upTo,h,hs]
theorem ynS {l : List Point} {k : Nat} (h : k < l.length) (hs : yhD l k = false) : yaM l = false:=by simp [yaM,yoy h hs]
theorem yzH {l : List Point} (h : inRange l.length 2 20 = false) : yaM l = false:=by simp [yaM,h]
theorem yh0 (l : List Point) : yB Tryz.prog 175 [.c (.sl 2 (l.map Point.enc))] (.c (.b (yaM l))):=by
 refine yh ypw ?_
 simp -dsimp -implicitDefEqProofs
 intro hlen
 refine ⟨fun h0 _=>⟨fun h1=>?_,fun h1 _=>?_⟩,fun h0=>?_⟩
 ·exact yzH (ycG.2 (by omega))
 ·refine yg (ι:=Nat) (fun k=>k ≤ l.length ∧ upTo l k = true) (fun k=>yO [(0,.c (.sl 2 (l.map Point.enc))),(13,.c (.sl 2 (l.map Point.enc))),(14,.c (.i l.length)),(15,.c (.i k))] []) (fun k=>l.length - k) 0 ⟨by simp,rfl⟩ (by apply yj <;> simp) ?_
  rintro k ⟨hk,hup⟩
  rcases Nat.lt_or_ge k l.length with hlt | hge
  ·obtain ⟨p,hp⟩ : ∃ p,l[k]? = some p:=⟨_,List.getElem?_eq_getElem hlt⟩
   have hbad : ygg p = false → yaM l = false:=fun e=>ynS hlt (by
    cases k with
    | zero=>rw [yhk hp,e]
    | succ j=>rw [yea hp (List.getElem?_eq_getElem (by omega)),e,Bool.false_and])
   cases k with
   | zero =>
    have f1:=(List.getElem?_eq_some_iff.1 hp).2
    simp -dsimp -implicitDefEqProofs [hp,hlt,f1]
    refine yc (yC p.X 0 1000000000) ?_
    simp -dsimp -implicitDefEqProofs
    refine ⟨fun h2=>?_,fun h2=>hbad (by simp [ygg,h2])⟩
    refine yc (yC p.Y 0 1000000000) ?_
    simp -dsimp -implicitDefEqProofs
    refine ⟨fun h3=>hbad (by simp [ygg,h3]),fun h3=>?_⟩
    have hpt : ygg p = true:=by simp [ygg,h2,h3]
    exact ⟨by unfold inI; omega,1,⟨hlt,yjy hup (by rw [yhk hp,hpt])⟩,by omega,by apply yj <;> simp⟩
   | succ j =>
    obtain ⟨q,hq⟩ : ∃ q,l[j]? = some q:=⟨_,List.getElem?_eq_getElem (by omega)⟩
    have hj : (j : Int) + 1 < l.length:=by omega
    have hj2 : (j : Int) < l.length:=by omega
    have hj3 : (0 : Int) < j + 1:=by omega
    have hj4 : (0 : Int) ≤ j + 1:=by omega
    have hj5 : ((j : Int) + 1).toNat = j + 1:=by omega
    simp -dsimp -implicitDefEqProofs [hp,hq,hj,hj2,hj3,hj4,hj5]
    refine yc (yC p.X 0 1000000000) ?_
    simp -dsimp -implicitDefEqProofs
    refine ⟨fun h2=>?_,fun h2=>hbad (by simp [ygg,h2])⟩
    refine yc (yC p.Y 0 1000000000) ?_
    simp -dsimp -implicitDefEqProofs [hp,hq,hj,hj2,hj3,hj4,hj5]
    refine ⟨fun h3=>hbad (by simp [ygg,h3]),fun h3=>?_⟩
    have hpt : ygg p = true:=by simp [ygg,h2,h3]
    have hbad2 : follows q p = false → yaM l = false:=fun e=>ynS hlt (by rw [yea hp hq,e,Bool.and_false])
    refine ⟨by unfold inI; omega,fun h4=>⟨by unfold inI; omega,fun h5=>?_,fun h5=>?_⟩,fun h4=>?_⟩
    ·exact hbad2 (by simp [follows]; omega)
    ·have hf : follows q p = true:=by simp [follows,h4,h5]
     exact ⟨by unfold inI; omega,j + 2,⟨hlt,yjy hup (by rw [yea hp hq,hpt,hf]; rfl)⟩,by omega,by apply yj <;> simp; omega⟩
    ·exact hbad2 (by simp [follows]; omega)
  ·simp -dsimp -implicitDefEqProofs [yaB hge]
   have e : k = l.length:=by omega
   subst e
   have h7 : inRange l.length 2 20 = true:=yF.2 (by omega)
   simp [yaM,hup,h7]
 ·exact yzH (ycG.2 (by omega))
theorem yh7 (l : List Point) : yB Tryz.prog 173 [.c (.sl 2 (l.map Point.enc))] (.c (.b (yaM l))):=by
 refine yh yp7 ?_
 simp -dsimp -implicitDefEqProofs
 refine yg (ι:=Nat) (fun k=>k ≤ l.length ∧ upTo l k = true) (fun k=>yO [(0,.c (.sl 2 (l.map Point.enc))),(3,.c (.i k))] []) (fun k=>l.length - k) 0 ⟨by simp,rfl⟩ (by apply yj <;> simp) ?_
 rintro k ⟨hk,hup⟩
 rcases Nat.lt_or_ge k l.length with hlt | hge
 ·obtain ⟨p,hp⟩ : ∃ p,l[k]? = some p:=⟨_,List.getElem?_eq_getElem hlt⟩
  have hbad : ygg p = false → yaM l = false:=fun e=>ynS hlt (by
   cases k with
   | zero=>rw [yhk hp,e]
   | succ j=>rw [yea hp (List.getElem?_eq_getElem (by omega)),e,Bool.false_and])
  cases k with
  | zero =>
   have f1:=(List.getElem?_eq_some_iff.1 hp).2
   simp -dsimp -implicitDefEqProofs [hp,hlt,f1]
   intro hlen
   refine yaC (yD p.X 0 1000000000) ?_
   simp -dsimp -implicitDefEqProofs [hp,hlt,f1]
   refine ⟨fun h2=>?_,fun h2=>hbad (by simp [ygg,h2])⟩
   refine yaC (yD p.Y 0 1000000000) ?_
   simp -dsimp -implicitDefEqProofs [hp,hlt,f1]
   refine ⟨fun h3=>?_,fun h3=>hbad (by simp [ygg,h3])⟩
   have hpt : ygg p = true:=by simp [ygg,h2,h3]
   exact ⟨by unfold inI; omega,1,⟨hlt,yjy hup (by rw [yhk hp,hpt])⟩,by omega,by apply yj <;> simp⟩
  | succ j =>
   obtain ⟨q,hq⟩ : ∃ q,l[j]? = some q:=⟨_,List.getElem?_eq_getElem (by omega)⟩
   have hj : (j : Int) + 1 < l.length:=by omega
   have hj2 : (j : Int) < l.length:=by omega
   have hj3 : (0 : Int) < j + 1:=by omega
   have hj4 : (0 : Int) ≤ j + 1:=by omega
   have hj5 : ((j : Int) + 1).toNat = j + 1:=by omega
   simp -dsimp -implicitDefEqProofs [hp,hq,hj,hj2,hj3,hj4,hj5]
   intro hlen
   refine yaC (yD p.X 0 1000000000) ?_
   simp -dsimp -implicitDefEqProofs [hp,hq,hj,hj2,hj3,hj4,hj5]
   refine ⟨fun h2=>?_,fun h2=>hbad (by simp [ygg,h2])⟩
   refine yaC (yD p.Y 0 1000000000) ?_
   simp -dsimp -implicitDefEqProofs [hp,hq,hj,hj2,hj3,hj4,hj5]
   refine ⟨fun h3=>?_,fun h3=>hbad (by simp [ygg,h3])⟩
   have hpt : ygg p = true:=by simp [ygg,h2,h3]
   unfold maxLen at hlen
   have hbad2 : follows q p = false → yaM l = false:=fun e=>ynS hlt (by rw [yea hp hq,e,Bool.and_false])
   refine ⟨by unfold inI; omega,fun h4=>⟨by unfold inI; omega,fun h5=>?_,fun h5=>?_⟩,fun h4=>?_⟩
   ·exact hbad2 (by simp [follows]; omega)
   ·have hf : follows q p = true:=by simp [follows,h4,h5]
    exact ⟨by unfold inI; omega,j + 2,⟨hlt,yjy hup (by rw [yea hp hq,hpt,hf]; rfl)⟩,by omega,by apply yj <;> simp; omega⟩
   ·exact hbad2 (by simp [follows]; omega)
 ·simp -dsimp -implicitDefEqProofs [yaB hge]
  intro hlen
  refine yc (yD l.length 2 20) ?_
  simp -dsimp -implicitDefEqProofs
  have e : k = l.length:=by omega
  subst e
  simp [yaM,hup]
def amount (n : Int) : Bool:=inRange n 0 1000000000
def yda (r : Reach) : Int:=r.Volume + r.Pipe.sum
def yR (r : Reach) : Bool:=yaM r.Table && amount r.Volume && decide (r.Pipe.length ≤ 12) && r.Pipe.all amount && decide (yda r ≤ 1000000000)
theorem ykq : ∀ {l : List Int},(∀ x ∈ l,amount x = true) → 0 ≤ l.sum
 | [],_=>by simp
 | x :: l,h=>by
  have h1:=ykq (l:=l) fun y hy=>h y (by simp [hy])
  have h2:=yF.1 (show inRange x 0 1000000000 = true from h x (by simp))
  simp only [List.sum_cons]; omega
theorem yx8 {l : List Int} (k : Nat) : l.sum = sumTo l k + (l.drop k).sum:=by
 unfold sumTo
 conv=>lhs; rw [← List.take_append_drop k l]
 rw [List.sum_append]
theorem yEn {r : Reach} {k : Nat} {x : Int} (hx : r.Pipe[k]? = some x) (h : 1000000000 < r.Volume + sumTo r.Pipe k + x) : yR r = false:=by
 cases hr : yR r with
 | false=>rfl
 | true =>
  exfalso
  simp only [yR,Bool.and_eq_true,List.all_eq_true,decide_eq_true_eq] at hr
  obtain ⟨⟨_,h1⟩,h2⟩:=hr
  have h3:=ykq (l:=r.Pipe.drop (k + 1)) fun y hy=>h1 y (List.mem_of_mem_drop hy)
  have h4:=yx8 (l:=r.Pipe) (k + 1)
  rw [yia hx] at h4
  unfold yda at h2
  omega
theorem yrR {r : Reach} {k : Nat} {x : Int} (hx : r.Pipe[k]? = some x) (h : amount x = false) : yR r = false:=by
 have : r.Pipe.all amount = false:=all_false (p:=amount) hx h
 simp [yR,this]
theorem yby (r : Reach) : yB Tryz.prog 157 [.agg (r.enc.map .c)] (.c (.b (yR r))):=by
 refine yh yo5 ?_
 simp -dsimp -implicitDefEqProofs
 refine yc (yh0 r.Table) ?_
 simp -dsimp -implicitDefEqProofs
 refine ⟨fun h1=>?_,fun h1=>by simp [yR,h1]⟩
 refine yc (yC r.Volume 0 1000000000) ?_
 simp -dsimp -implicitDefEqProofs
 refine ⟨fun h2 hlen=>⟨fun h3=>?_,fun h3=>⟨?_,fun _=>?_⟩⟩,fun h2=>by simp [yR,amount,h2]⟩
 ·have : ¬ r.Pipe.length ≤ 12:=by omega
  simp [yR,this]
 ·have:=yF.1 h2
  unfold inI; omega
 have h2':=yF.1 h2
 refine yg (ι:=Nat) (fun k=>k ≤ r.Pipe.length ∧ (∀ n ∈ r.Pipe.take k,amount n = true) ∧ 0 ≤ sumTo r.Pipe k ∧ r.Volume + sumTo r.Pipe k ≤ 1000000000) (fun k=>yO [(3,.c (.i (1000000000 - r.Volume - sumTo r.Pipe k))),(26,.c (.sl 1 (r.Pipe.map yJ))),(27,.c (.i r.Pipe.length)),(28,.c (.i k))] []) (fun k=>r.Pipe.length - k) 0 ⟨by simp,by simp,by simp [yf6],by simp only [yf6]; omega⟩ (by apply yj <;> simp [yf6]) ?_
 rintro k ⟨hk,hall,hs0,hs⟩
 rcases Nat.lt_or_ge k r.Pipe.length with hlt | hge
 ·obtain ⟨x,hx⟩ : ∃ x,r.Pipe[k]? = some x:=⟨_,List.getElem?_eq_getElem hlt⟩
  simp -dsimp -implicitDefEqProofs [hx,yG hlt]
  refine ⟨fun h4=>⟨fun h5=>?_,fun h5=>?_⟩,fun h4=>?_⟩
  ·exact yEn hx (by omega)
  ·have ha : amount x = true:=yF.2 (by omega)
   have e1:=yia hx
   refine ⟨by unfold inI; omega,yw hlt hlen,k + 1,⟨hlt,yL (p:=amount) hx hall ha,by rw [e1]; omega,by rw [e1]; omega⟩,by omega,?_⟩
   apply yj <;> simp [e1]; omega
  ·exact yrR hx (ycG.2 (by omega))
 ·simp -dsimp -implicitDefEqProofs [yaB hge]
  have h6:=yX (p:=amount) hge hall
  rw [ymm hge] at hs
  simp [yR,h1,show amount r.Volume = true from h2,h6,yda,hs]
  omega
theorem ymX {l : List Int} (h : ∀ n ∈ l,amount n = true) (hl : l.length ≤ 12) (k : Nat) : 0 ≤ sumTo l k ∧ sumTo l k ≤ 12000000000:=by
 have h1:=yjC (l:=l.take k) (b:=1000000000) fun x hx=>h x (List.mem_of_mem_take hx)
 have h2 : (l.take k).length ≤ 12:=by simp; omega
 unfold sumTo
 omega
theorem yoR (r : Reach) (hv : amount r.Volume = true) (hl : r.Pipe.length ≤ 12) (hp : ∀ n ∈ r.Pipe,amount n = true) : yB Tryz.prog 146 [.agg (r.enc.map .c)] (.c (.i (yda r))):=by
 refine yh yrp ?_
 have hv':=yF.1 (show inRange r.Volume 0 1000000000 = true from hv)
 simp -dsimp -implicitDefEqProofs
 refine yg (ι:=Nat) (fun k=>k ≤ r.Pipe.length) (fun k=>yO [(1,.box 1 0),(3,.c (.i (r.Volume + sumTo r.Pipe k))),(4,.c (.i k))] [(1,.box (r.enc.map .c))]) (fun k=>r.Pipe.length - k) 0 (by simp) (by apply yj <;> simp [yf6]) ?_
 rintro k hk
 rcases Nat.lt_or_ge k r.Pipe.length with hlt | hge
 ·obtain ⟨x,hx⟩ : ∃ x,r.Pipe[k]? = some x:=⟨_,List.getElem?_eq_getElem hlt⟩
  have e1:=yia hx
  have b1:=ymX hp hl (k + 1)
  rw [e1] at b1
  simp -dsimp -implicitDefEqProofs [hx,yG hlt]
  intro hlen
  refine ⟨by unfold inI; omega,yw hlt hlen,k + 1,hlt,by omega,?_⟩
  apply yj <;> simp [e1]; omega
 ·simp -dsimp -implicitDefEqProofs [yaB hge]
  intro _
  rw [ymm hge]; rfl
theorem ybX (r : Reach) : yB Tryz.prog 145 [.agg (r.enc.map .c)] (.c (.b (yR r))):=by
 refine yh ynW ?_
 simp -dsimp -implicitDefEqProofs
 refine yc (yh7 r.Table) ?_
 simp -dsimp -implicitDefEqProofs
 refine ⟨fun h1=>?_,fun h1=>by simp [yR,h1]⟩
 refine yc (yD r.Volume 0 1000000000) ?_
 simp -dsimp -implicitDefEqProofs
 refine ⟨fun h2 hlen=>⟨fun h3=>?_,fun h3=>?_⟩,fun h2=>by simp [yR,amount,h2]⟩
 ·have : ¬ r.Pipe.length ≤ 12:=by omega
  simp [yR,this]
 refine yg (ι:=Nat) (fun k=>k ≤ r.Pipe.length ∧ (∀ n ∈ r.Pipe.take k,amount n = true)) (fun k=>yO [(1,.box 1 0),(3,.c (.i k))] [(1,.box (r.enc.map .c))]) (fun k=>r.Pipe.length - k) 0 ⟨by simp,by simp⟩ (by apply yj <;> simp) ?_
 rintro k ⟨hk,hall⟩
 rcases Nat.lt_or_ge k r.Pipe.length with hlt | hge
 ·obtain ⟨x,hx⟩ : ∃ x,r.Pipe[k]? = some x:=⟨_,List.getElem?_eq_getElem hlt⟩
  simp -dsimp -implicitDefEqProofs [hx,yG hlt]
  intro _
  refine yc (yD x 0 1000000000) ?_
  simp -dsimp -implicitDefEqProofs
  refine ⟨fun h4=>yrR hx h4,fun h4=>?_⟩
  exact ⟨yw hlt hlen,k + 1,⟨hlt,yL (p:=amount) hx hall h4⟩,by omega,by apply yj <;> simp⟩
 ·simp -dsimp -implicitDefEqProofs [yaB hge]
  intro _
  have h6:=yX (p:=amount) hge hall
  refine yc (yoR r h2 (by omega) (List.all_eq_true.1 h6)) ?_
  simp -dsimp -implicitDefEqProofs
  have h3' : r.Pipe.length ≤ 12:=by omega
  simp [yR,h1,show amount r.Volume = true from h2,h6,h3']
theorem yUq {t : Train} (h : TrainFacts t) : t.Rows.length ≤ 6:=by
 have : ∀ l : List (List Boat),(∀ r ∈ l,full r = true) → l.length ≤ l.flatten.length:=by
  intro l
  induction l with
  | nil=>simp
  | cons r l ih =>
   intro hl
   have e1:=ih fun x hx=>hl x (by simp [hx])
   have e2:=ytQ.1 (hl r (by simp))
   simp only [List.length_cons,List.flatten_cons,List.length_append]; omega
 have h1:=this t.Rows h.rows
 have h2:=h.len
 unfold Train.yas at h2
 omega
theorem ySZ {t : Train} (h : TrainFacts t) {k : Nat} {r : List Boat} (hr : t.Rows[k]? = some r) : 1 ≤ r.length ∧ r.length ≤ 6 ∧ ∀ b ∈ r,ybr b = true:=by
 have h1:=ytQ.1 (h.rows r (List.mem_of_getElem? hr))
 obtain ⟨m,e⟩:=yvl hr
 have h2:=h.len
 rw [e] at h2
 simp only [List.length_append] at h2
 exact ⟨by omega,by omega,fun b hb=>h.ok b (by rw [e]; simp [hb])⟩
def sumF {α : Type} (f : α → Int) (l : List α) (k : Nat) : Int:=((l.take k).map f).sum
theorem ySm {α : Type} {f : α → Int} {l : List α} : sumF f l 0 = 0:=rfl
theorem ySD {α : Type} {f : α → Int} {l : List α} {k : Nat} {x : α} (h : l[k]? = some x) : sumF f l (k + 1) = sumF f l k + f x:=by
 unfold sumF; rw [List.take_succ,h,List.map_append,List.sum_append]; simp
theorem ySC {α : Type} {f : α → Int} {l : List α} {k : Nat} (h : l.length ≤ k) : sumF f l k = (l.map f).sum:=by
 unfold sumF; rw [List.take_of_length_le h]
theorem yTS {α : Type} {f : α → Int} {l : List α} {c : Int} (hc : 0 ≤ c) (h : ∀ x ∈ l,0 ≤ f x ∧ f x ≤ c) : ∀ k : Nat,0 ≤ sumF f l k ∧ sumF f l k ≤ c * k
 | 0=>by simp [ySm]
 | k + 1=>by
  have ih:=yTS hc h k
  have e : c * ((k + 1 : Nat) : Int) = c * k + c:=by rw [Int.natCast_add,Int.mul_add]; simp
  cases hk : l[k]? with
  | none =>
   have : l.length ≤ k:=by simpa using hk
   have e2 : sumF f l (k + 1) = sumF f l k:=by unfold sumF; rw [List.take_of_length_le (by omega),List.take_of_length_le this]
   rw [e2,e]; omega
  | some x =>
   have:=h x (List.mem_of_getElem? hk)
   rw [ySD hk,e]; omega
def rowLen (r : List Boat) : Int:=maxOf Boat.Length r 0
def yR1 (t : Train) : Int:=if yP t then (t.Rows.map rowLen).sum else 0
theorem yUi {r : List Boat} (h : ∀ b ∈ r,ybr b = true) : 0 ≤ rowLen r ∧ rowLen r ≤ 200 :=
 yRc (fun x hx=>by have:=yMg (h x hx); omega) (by omega) (by omega)
theorem yST {t : Train} (h : TrainFacts t) {k : Nat} (hk : k ≤ t.Rows.length) : 0 ≤ sumF rowLen t.Rows k ∧ sumF rowLen t.Rows k ≤ 1200:=by
 have h1:=yTS (f:=rowLen) (l:=t.Rows) (c:=200) (by omega) (fun r hr=>by
  obtain ⟨i,hi⟩:=List.getElem?_of_mem hr
  exact yUi (ySZ h hi).2.2) k
 have:=yUq h
 omega
theorem yTV (t : Train) : 0 ≤ yR1 t ∧ yR1 t ≤ 1200:=by
 unfold yR1
 split
 ·rename_i h
  have:=yST (yhY h) (Nat.le_refl _)
  rw [ySC (Nat.le_refl _)] at this; exact this
 ·omega
theorem yTJ (t : Train) (h : t.small) : yB Tryz.prog 168 [.agg (t.enc.map .c)] (.c (.i (yR1 t))):=by
 refine yh yTs ?_
 simp -dsimp -implicitDefEqProofs
 refine yc (ydp t h) ?_
 simp -dsimp -implicitDefEqProofs
 refine ⟨fun h1=>by simp [yR1,h1],fun h1 hlen=>?_⟩
 have tf:=yhY h1
 refine yg (ι:=Nat) (fun k=>k ≤ t.Rows.length) (fun k=>yO [(3,.c (.i (sumF rowLen t.Rows k))),(13,.c (.sl 1 (t.Rows.map yai))),(14,.c (.i t.Rows.length)),(15,.c (.i k))] []) (fun k=>t.Rows.length - k) 0 (by simp) (by apply yj <;> simp [ySm]) ?_
 rintro k hk
 rcases Nat.lt_or_ge k t.Rows.length with hlt | hge
 ·obtain ⟨r,hr⟩ : ∃ r,t.Rows[k]? = some r:=⟨_,List.getElem?_eq_getElem hlt⟩
  simp -dsimp -implicitDefEqProofs [hr,yG hlt]
  intro hrl
  refine yg (ι:=Nat) (fun j=>j ≤ r.length) (fun j=>yO [(3,.c (.i (sumF rowLen t.Rows k))),(13,.c (.sl 1 (t.Rows.map yai))),(14,.c (.i t.Rows.length)),(15,.c (.i k)),(6,.c (.i (yP9 Boat.Length r 0 j))),(19,.c (.sl 6 (r.map Boat.enc))),(20,.c (.i r.length)),(21,.c (.i j))] []) (fun j=>r.length - j) 0 (by simp) (by apply yj <;> simp [yPJ]) ?_
  rintro j hj
  rcases Nat.lt_or_ge j r.length with hlt2 | hge2
  ·obtain ⟨b,hb⟩ : ∃ b,r[j]? = some b:=⟨_,List.getElem?_eq_getElem hlt2⟩
   simp -dsimp -implicitDefEqProofs [hb,yG hlt2]
   refine ⟨yw hlt2 hrl,j + 1,hlt2,by omega,?_⟩
   apply yj <;> simp [yQw hb]
  ·simp -dsimp -implicitDefEqProofs [yaB hge2]
   have b1:=yST tf hk
   have b2:=yST tf (show k + 1 ≤ t.Rows.length from hlt)
   have e:=ySD (f:=rowLen) hr
   rw [yQQ hge2]
   have e' : sumF rowLen t.Rows (k + 1) = sumF rowLen t.Rows k + maxOf Boat.Length r 0:=e
   refine ⟨by unfold inI; omega,yw hlt hlen,k + 1,hlt,by omega,?_⟩
   apply yj <;> simp [e']
 ·simp -dsimp -implicitDefEqProofs [yaB hge]
  simp [yR1,h1,ySC hge]
theorem yTF (t : Train) (h : t.small) : yB Tryz.prog 154 [.agg (t.enc.map .c)] (.c (.i (yR1 t))):=by
 refine yh yTq ?_
 simp -dsimp -implicitDefEqProofs
 refine yg (ι:=Nat) (fun k=>k ≤ t.Rows.length ∧ (k ≠ 0 → yP t = true)) (fun k=>yO [(1,.box 1 0),(3,.c (.i (sumF rowLen t.Rows k))),(4,.c (.i k))] [(1,.box (t.enc.map .c))]) (fun k=>t.Rows.length - k) 0 (by simp) (by apply yj <;> simp [ySm]) ?_
 rintro k ⟨hk,hok⟩
 have fin : yP t = false → k = 0:=fun h1=>by
  rcases Nat.eq_zero_or_pos k with e | e
  ·exact e
  ·rw [hok (by omega)] at h1; cases h1
 rcases Nat.lt_or_ge k t.Rows.length with hlt | hge
 ·obtain ⟨r,hr⟩ : ∃ r,t.Rows[k]? = some r:=⟨_,List.getElem?_eq_getElem hlt⟩
  simp -dsimp -implicitDefEqProofs [hr,yG hlt]
  intro hlen
  refine yc (yds t h) ?_
  simp -dsimp -implicitDefEqProofs [hr,yG hlt]
  refine ⟨fun h1=>?_,fun h1=>?_⟩
  ·have tf:=yhY h1
   refine yg (ι:=Nat) (fun j=>j ≤ r.length) (fun j=>yO [(1,.box 1 0),(3,.c (.i (sumF rowLen t.Rows k))),(4,.c (.i k)),(5,.c (.i (yP9 Boat.Length r 0 j))),(6,.c (.i j))] [(1,.box (t.enc.map .c))]) (fun j=>r.length - j) 0 (by simp) (by apply yj <;> simp [yPJ]) ?_
   rintro j hj
   rcases Nat.lt_or_ge j r.length with hlt2 | hge2
   ·obtain ⟨b,hb⟩ : ∃ b,r[j]? = some b:=⟨_,List.getElem?_eq_getElem hlt2⟩
    simp -dsimp -implicitDefEqProofs [hr,yG hlt,hb,yG hlt2]
    intro hrl
    refine ⟨yw hlt2 hrl,j + 1,hlt2,by omega,?_⟩
    apply yj <;> simp [yQw hb]
   ·simp -dsimp -implicitDefEqProofs [hr,yG hlt,yaB hge2]
    have b1:=yST tf hk
    have b2:=yST tf (show k + 1 ≤ t.Rows.length from hlt)
    have e' : sumF rowLen t.Rows (k + 1) = sumF rowLen t.Rows k + maxOf Boat.Length r 0:=ySD (f:=rowLen) hr
    rw [yQQ hge2]
    refine fun _=>⟨by unfold inI; omega,yw hlt hlen,k + 1,⟨hlt,fun _=>h1⟩,by omega,?_⟩
    apply yj <;> simp [e']
  ·have:=fin h1
   subst this
   simp [yR1,h1,ySm]
 ·simp -dsimp -implicitDefEqProofs [yaB hge]
  intro _
  by_cases h1 : yP t = true
  ·simp [yR1,h1,ySC hge]
  ·have:=fin (by simpa using h1)
   subst this
   simp [yR1,h1,ySm]
def ySr (r : List Boat) : Int:=(r.map Boat.Width).sum
def yT4 (l : List (List Boat)) : Int:=l.foldl (fun m r=>if m < ySr r then ySr r else m) 0
def ySf (l : List (List Boat)) (k : Nat) : Int:=yT4 (l.take k)
theorem ySv {l : List (List Boat)} : ySf l 0 = 0:=rfl
theorem yTj {l : List (List Boat)} {k : Nat} {r : List Boat} (h : l[k]? = some r) : ySf l (k + 1) = if ySf l k < ySr r then ySr r else ySf l k:=by
 unfold ySf yT4; rw [List.take_succ,h,List.foldl_append]; rfl
theorem yTA {l : List (List Boat)} {k : Nat} (h : l.length ≤ k) : ySf l k = yT4 l:=by
 unfold ySf; rw [List.take_of_length_le h]
def yR6 (t : Train) : Int:=if yP t then yT4 t.Rows else 0
theorem yTB {r : List Boat} (h : ∀ b ∈ r,ybr b = true) (h6 : r.length ≤ 6) {k : Nat} (hk : k ≤ r.length) : 0 ≤ sumF Boat.Width r k ∧ sumF Boat.Width r k ≤ 180:=by
 have:=yTS (f:=Boat.Width) (l:=r) (c:=30) (by omega) (fun b hb=>by have:=yMg (h b hb); omega) k
 omega
theorem yUo {l : List (List Boat)} (h : ∀ r ∈ l,0 ≤ ySr r ∧ ySr r ≤ 180) : 0 ≤ yT4 l ∧ yT4 l ≤ 180:=by
 unfold yT4
 have : ∀ (l : List (List Boat)) (z : Int),(∀ r ∈ l,0 ≤ ySr r ∧ ySr r ≤ 180) → 0 ≤ z → z ≤ 180 → 0 ≤ l.foldl (fun m r=>if m < ySr r then ySr r else m) z ∧ l.foldl (fun m r=>if m < ySr r then ySr r else m) z ≤ 180:=by
  intro l
  induction l with
  | nil=>intro z _ h1 h2; exact ⟨h1,h2⟩
  | cons r l ih =>
   intro z h h1 h2
   have:=h r (by simp)
   rw [List.foldl_cons]
   refine ih _ (fun y hy=>h y (by simp [hy])) ?_ ?_ <;> split <;> omega
 exact this l 0 h (by omega) (by omega)
theorem yT5 (t : Train) : 0 ≤ yR6 t ∧ yR6 t ≤ 180:=by
 unfold yR6
 split
 ·rename_i h
  refine yUo fun r hr=>?_
  obtain ⟨i,hi⟩:=List.getElem?_of_mem hr
  obtain ⟨a1,a2,a3⟩:=ySZ (yhY h) hi
  have:=yTB a3 a2 (Nat.le_refl _)
  rw [ySC (Nat.le_refl _)] at this; exact this
 ·omega
theorem yTU (t : Train) (h : t.small) : yB Tryz.prog 169 [.agg (t.enc.map .c)] (.c (.i (yR6 t))):=by
 refine yh yTC ?_
 simp -dsimp -implicitDefEqProofs
 refine yc (ydp t h) ?_
 simp -dsimp -implicitDefEqProofs
 refine ⟨fun h1=>by simp [yR6,h1],fun h1 hlen=>?_⟩
 have tf:=yhY h1
 refine yg (ι:=Nat) (fun k=>k ≤ t.Rows.length) (fun k=>yO [(3,.c (.i (ySf t.Rows k))),(13,.c (.sl 1 (t.Rows.map yai))),(14,.c (.i t.Rows.length)),(15,.c (.i k))] []) (fun k=>t.Rows.length - k) 0 (by simp) (by apply yj <;> simp [ySv]) ?_
 rintro k hk
 rcases Nat.lt_or_ge k t.Rows.length with hlt | hge
 ·obtain ⟨r,hr⟩ : ∃ r,t.Rows[k]? = some r:=⟨_,List.getElem?_eq_getElem hlt⟩
  obtain ⟨a1,a2,a3⟩:=ySZ tf hr
  simp -dsimp -implicitDefEqProofs [hr,yG hlt]
  intro hrl
  refine yg (ι:=Nat) (fun j=>j ≤ r.length) (fun j=>yO [(3,.c (.i (ySf t.Rows k))),(13,.c (.sl 1 (t.Rows.map yai))),(14,.c (.i t.Rows.length)),(15,.c (.i k)),(6,.c (.i (sumF Boat.Width r j))),(19,.c (.sl 6 (r.map Boat.enc))),(20,.c (.i r.length)),(21,.c (.i j))] []) (fun j=>r.length - j) 0 (by simp) (by apply yj <;> simp [ySm]) ?_
  rintro j hj
  rcases Nat.lt_or_ge j r.length with hlt2 | hge2
  ·obtain ⟨b,hb⟩ : ∃ b,r[j]? = some b:=⟨_,List.getElem?_eq_getElem hlt2⟩
   have b1:=yTB a3 a2 (show j + 1 ≤ r.length from hlt2)
   have e:=ySD (f:=Boat.Width) hb
   simp -dsimp -implicitDefEqProofs [hb,yG hlt2]
   refine ⟨by unfold inI; omega,yw hlt2 hrl,j + 1,hlt2,by omega,?_⟩
   apply yj <;> simp [e]
  ·simp -dsimp -implicitDefEqProofs [yaB hge2]
   rw [ySC hge2]
   have e : ySf t.Rows (k + 1) = if ySf t.Rows k < (r.map Boat.Width).sum then (r.map Boat.Width).sum else ySf t.Rows k:=yTj hr
   refine ⟨yw hlt hlen,k + 1,hlt,by omega,?_⟩
   apply yj <;> simp [e]
 ·simp -dsimp -implicitDefEqProofs [yaB hge]
  simp [yR6,h1,yTA hge]
theorem yTR (t : Train) (h : t.small) : yB Tryz.prog 155 [.agg (t.enc.map .c)] (.c (.i (yR6 t))):=by
 refine yh yTz ?_
 simp -dsimp -implicitDefEqProofs
 refine yg (ι:=Nat) (fun k=>k ≤ t.Rows.length ∧ (k ≠ 0 → yP t = true)) (fun k=>yO [(1,.box 1 0),(3,.c (.i (ySf t.Rows k))),(4,.c (.i k))] [(1,.box (t.enc.map .c))]) (fun k=>t.Rows.length - k) 0 (by simp) (by apply yj <;> simp [ySv]) ?_
 rintro k ⟨hk,hok⟩
 have fin : yP t = false → k = 0:=fun h1=>by
  rcases Nat.eq_zero_or_pos k with e | e
  ·exact e
  ·rw [hok (by omega)] at h1; cases h1
 rcases Nat.lt_or_ge k t.Rows.length with hlt | hge
 ·obtain ⟨r,hr⟩ : ∃ r,t.Rows[k]? = some r:=⟨_,List.getElem?_eq_getElem hlt⟩
  simp -dsimp -implicitDefEqProofs [hr,yG hlt]
  intro hlen
  refine yc (yds t h) ?_
  simp -dsimp -implicitDefEqProofs [hr,yG hlt]
  refine ⟨fun h1=>?_,fun h1=>?_⟩
  ·have tf:=yhY h1
   obtain ⟨a1,a2,a3⟩:=ySZ tf hr
   refine yg (ι:=Nat) (fun j=>j ≤ r.length) (fun j=>yO [(1,.box 1 0),(3,.c (.i (ySf t.Rows k))),(4,.c (.i k)),(5,.c (.i (sumF Boat.Width r j))),(6,.c (.i j))] [(1,.box (t.enc.map .c))]) (fun j=>r.length - j) 0 (by simp) (by apply yj <;> simp [ySm]) ?_
   rintro j hj
   rcases Nat.lt_or_ge j r.length with hlt2 | hge2
   ·obtain ⟨b,hb⟩ : ∃ b,r[j]? = some b:=⟨_,List.getElem?_eq_getElem hlt2⟩
    have b1:=yTB a3 a2 (show j + 1 ≤ r.length from hlt2)
    have e:=ySD (f:=Boat.Width) hb
    simp -dsimp -implicitDefEqProofs [hr,yG hlt,hb,yG hlt2]
    intro hrl
    refine ⟨by unfold inI; omega,yw hlt2 hrl,j + 1,hlt2,by omega,?_⟩
    apply yj <;> simp [e]
   ·simp -dsimp -implicitDefEqProofs [hr,yG hlt,yaB hge2]
    have e : ySf t.Rows (k + 1) = if ySf t.Rows k < (r.map Boat.Width).sum then (r.map Boat.Width).sum else ySf t.Rows k:=yTj hr
    rw [ySC hge2]
    refine fun _=>⟨yw hlt hlen,k + 1,⟨hlt,fun _=>h1⟩,by omega,?_⟩
    apply yj <;> simp [e]
  ·have:=fin h1
   subst this
   simp [yR6,h1,ySv]
 ·simp -dsimp -implicitDefEqProofs [yaB hge]
  intro _
  by_cases h1 : yP t = true
  ·simp [yR6,h1,yTA hge]
  ·have:=fin (by simpa using h1)
   subst this
   simp [yR6,h1,ySv]
def yK3 (t : Train) : Int:=if yP t then minOf Boat.Class t.yas (yMM Boat.Class t.yas) else -1
theorem yMC {t : Train} (h : yP t = true) : 0 ≤ yK3 t ∧ yK3 t ≤ 2:=by
 unfold yK3
 rw [if_pos h]
 have hf:=yhY h
 obtain ⟨r,b0,e1,e2,e3⟩:=yLO hf
 have:=yMg (hf.ok b0 (List.mem_of_getElem? e3))
 exact yMv (fun x hx=>by have:=yMg (hf.ok x hx); omega) (by rw [yNi e3]; omega) (by rw [yNi e3]; omega)
theorem yKT (t : Train) (h : t.small) : yB Tryz.prog 170 [.agg (t.enc.map .c)] (.c (.i (yK3 t))):=by
 refine yh yMa ?_
 simp -dsimp -implicitDefEqProofs
 refine yc (ydp t h) ?_
 simp -dsimp -implicitDefEqProofs
 refine ⟨fun h1=>by simp [yK3,h1],fun h1=>?_⟩
 obtain ⟨r,b0,e1,e2,e3⟩:=yLO (yhY h1)
 have l1 : 0 < t.Rows.length:=(List.getElem?_eq_some_iff.1 e1).1
 have l2 : 0 < r.length:=(List.getElem?_eq_some_iff.1 e2).1
 have f1:=(List.getElem?_eq_some_iff.1 e1).2
 have f2:=(List.getElem?_eq_some_iff.1 e2).2
 simp -dsimp -implicitDefEqProofs [e1,e2,l1,l2,f1,f2]
 refine yS (yya t h) ?_
 simp -dsimp -implicitDefEqProofs
 intro hlen
 refine yg (ι:=Nat) (fun k=>k ≤ t.yas.length) (fun k=>yO [(3,.c (.i (yLK Boat.Class t.yas b0.Class k))),(17,.c (.sl 6 (t.yas.map Boat.enc))),(18,.c (.i t.yas.length)),(19,.c (.i k))] []) (fun k=>t.yas.length - k) 0 (by simp) (by apply yj <;> simp [yL8]) ?_
 rintro k hk
 rcases Nat.lt_or_ge k t.yas.length with hlt | hge
 ·obtain ⟨b,hb⟩ : ∃ b,t.yas[k]? = some b:=⟨_,List.getElem?_eq_getElem hlt⟩
  simp -dsimp -implicitDefEqProofs [hb,yG hlt]
  refine ⟨yw hlt hlen,k + 1,hlt,by omega,?_⟩
  apply yj <;> simp [yL1 hb]
 ·simp -dsimp -implicitDefEqProofs [yaB hge]
  simp [yK3,h1,yMj hge,yNi e3]
theorem yMm (t : Train) (h : t.small) : yB Tryz.prog 156 [.agg (t.enc.map .c)] (.c (.i (yK3 t))):=by
 refine yh yL3 ?_
 simp -dsimp -implicitDefEqProofs
 refine yS (yoX t h) ?_
 simp -dsimp -implicitDefEqProofs
 refine yc (yds t h) ?_
 simp -dsimp -implicitDefEqProofs
 refine ⟨fun h1=>by simp [yK3,h1],fun h1=>?_⟩
 obtain ⟨r,b0,e1,e2,e3⟩:=yLO (yhY h1)
 have l1 : 0 < t.yas.length:=(List.getElem?_eq_some_iff.1 e3).1
 have f3:=(List.getElem?_eq_some_iff.1 e3).2
 simp -dsimp -implicitDefEqProofs [e3,l1,f3]
 refine yg (ι:=Nat) (fun k=>k ≤ t.yas.length) (fun k=>yO [(3,.c (.sl 6 (t.yas.map Boat.enc))),(4,.c (.i (yLK Boat.Class t.yas b0.Class k))),(5,.c (.i k))] []) (fun k=>t.yas.length - k) 0 (by simp) (by apply yj <;> simp [yL8]) ?_
 rintro k hk
 rcases Nat.lt_or_ge k t.yas.length with hlt | hge
 ·obtain ⟨b,hb⟩ : ∃ b,t.yas[k]? = some b:=⟨_,List.getElem?_eq_getElem hlt⟩
  simp -dsimp -implicitDefEqProofs [hb,yG hlt]
  intro hlen
  refine ⟨yw hlt hlen,k + 1,hlt,by omega,?_⟩
  apply yj <;> simp [yL1 hb]
 ·simp -dsimp -implicitDefEqProofs [yaB hge]
  intro _
  simp [yK3,h1,yMj hge,yNi e3]
def ydq (e : Tariff) (l : Int) : Int:=ybm (yhJ e.PerClass l) fun l=>ybm (yhJ e.Weights l) fun l=>l
theorem ylo : yey ydq Tariff.small:=by
 intro e l h0 h1
 unfold ydq
 rcases yeY e.PerClass _ h0 h1 with e0 | ⟨a0,b0,s0⟩
 ·exact .inl (yK (by omega))
 rw [yu a0]
 rcases yeY e.Weights _ a0 (by omega) with e1 | ⟨a1,b1,s1⟩
 ·exact .inl (yK (by omega))
 rw [yu a1]
 exact .inr ⟨a1,by omega,s0.1,s1.1⟩
theorem yuv (e : Tariff) (l : Int) (h0 : 0 ≤ l) (h1 : l ≤ 1048576) : yB Tryz.prog 18 [.agg (e.enc.map .c),.c (.i l)] (.c (.i (ydq e l))):=by
 refine yh yng ?_
 simp -dsimp -implicitDefEqProofs
 refine yc (yjw e.PerClass _ h0 h1) ?_
 simp -dsimp -implicitDefEqProofs
 refine ⟨fun h=>by simp [ydq,yK h],fun p0=>?_⟩
 have q0:=yin yeY e.PerClass h0 h1 p0
 refine yc (yjw e.Weights _ p0 q0) ?_
 simp -dsimp -implicitDefEqProofs
 refine ⟨fun h=>by simp [ydq,yu p0,yK h],fun p1=>?_⟩
 simp [ydq,yu p0,yu p1]
structure TariffFacts (t : Tariff) : Prop where
 base : 0 ≤ t.Base ∧ t.Base ≤ 10000
 area : 0 ≤ t.PerArea ∧ t.PerArea ≤ 100
 three : t.PerClass.length = 3
 cls : ∀ x ∈ t.PerClass,0 ≤ x ∧ x ≤ 10000
 wlen : 1 ≤ t.Weights.length ∧ t.Weights.length ≤ 11
 wts : ∀ x ∈ t.Weights,0 ≤ x ∧ x ≤ 1000
 sum : 0 < t.Weights.sum
theorem yT0 {t : Tariff} (h : ya9 t = true) : TariffFacts t:=by
 simp only [ya9,Bool.and_eq_true,List.all_eq_true,decide_eq_true_eq] at h
 obtain ⟨⟨⟨⟨⟨⟨h1,h2⟩,h3⟩,h4⟩,h5⟩,h6⟩,h7⟩:=h
 have h4:=yF.1 h4
 exact ⟨yF.1 h1,yF.1 h2,h3,fun x hx=>yF.1 (h5 x hx),by omega,fun x hx=>yF.1 (h6 x hx),h7⟩
def yR9 (t : Tariff) (x : Train) : Int:=if ya9 t && yP x then t.Base + (t.PerArea * yR1 x * yR6 x).tdiv 100 + t.PerClass[(yK3 x).toNat]?.getD 0 else 0
theorem yTm {t : Tariff} {x : Train} (h1 : ya9 t = true) (h2 : yP x = true) :
 ∃ c,t.PerClass[(yK3 x).toNat]? = some c ∧ 0 ≤ yK3 x ∧ yK3 x < t.PerClass.length ∧ inI (t.PerArea * yR1 x) ∧ inI (t.PerArea * yR1 x * yR6 x) ∧ inI ((t.PerArea * yR1 x * yR6 x).tdiv 100) ∧
  inI (t.Base + (t.PerArea * yR1 x * yR6 x).tdiv 100) ∧ inI (t.Base + (t.PerArea * yR1 x * yR6 x).tdiv 100 + c) ∧ 0 ≤ t.Base + (t.PerArea * yR1 x * yR6 x).tdiv 100 + c ∧ t.Base + (t.PerArea * yR1 x * yR6 x).tdiv 100 + c ≤ 1000000:=by
 have tf:=yT0 h1
 have a1:=yTV x
 have a2:=yT5 x
 have a3:=yMC h2
 have b1:=tf.base; have b2:=tf.area; have b3:=tf.three
 obtain ⟨c,hc⟩ : ∃ c,t.PerClass[(yK3 x).toNat]? = some c:=⟨_,List.getElem?_eq_getElem (by omega)⟩
 have b4:=tf.cls c (List.mem_of_getElem? hc)
 have e1 : 0 ≤ t.PerArea * yR1 x:=Int.mul_nonneg b2.1 a1.1
 have e2 : t.PerArea * yR1 x ≤ 100 * 1200:=Int.mul_le_mul b2.2 a1.2 a1.1 (by omega)
 have e3 : 0 ≤ t.PerArea * yR1 x * yR6 x:=Int.mul_nonneg e1 a2.1
 have e4 : t.PerArea * yR1 x * yR6 x ≤ 120000 * 180:=Int.mul_le_mul (by omega) a2.2 a2.1 (by omega)
 have e5 : (t.PerArea * yR1 x * yR6 x).tdiv 100 = (t.PerArea * yR1 x * yR6 x) / 100:=Int.tdiv_eq_ediv_of_nonneg e3
 rw [e5]
 refine ⟨c,hc,a3.1,by omega,?_,?_,?_,?_,?_,by omega,by omega⟩ <;> unfold inI <;> omega
theorem yTZ (t : Tariff) (x : Train) (h : x.small) : yB Tryz.prog 132 [.agg (t.enc.map .c),.agg (x.enc.map .c)] (.c (.i (yR9 t x))):=by
 refine yh yTE ?_
 simp -dsimp -implicitDefEqProofs
 refine yc (yqB t) ?_
 cases h1 : ya9 t with
 | false=>simp -dsimp -implicitDefEqProofs; simp [yR9,h1]
 | true =>
  simp -dsimp -implicitDefEqProofs
  refine yc (ydp x h) ?_
  cases h2 : yP x with
  | false=>simp -dsimp -implicitDefEqProofs; simp [yR9,h2]
  | true =>
   obtain ⟨c,hc,c1,c2,c3,c4,c5,c6,c7,_,_⟩:=yTm h1 h2
   simp -dsimp -implicitDefEqProofs
   refine yaC (yTJ x h) ?_
   simp -dsimp -implicitDefEqProofs
   refine ⟨c3,?_⟩
   refine yaC (yTU x h) ?_
   simp -dsimp -implicitDefEqProofs
   refine ⟨c4,c5,c6,?_⟩
   refine yaC (yKT x h) ?_
   have hg:=(List.getElem?_eq_some_iff.1 hc).2
   simp -dsimp -implicitDefEqProofs [hc,c1,c2,hg]
   exact ⟨c7,by simp [yR9,h1,h2,hc]⟩
theorem yT2 (t : Tariff) (x : Train) (h : x.small) : yB Tryz.prog 121 [.agg (t.enc.map .c),.agg (x.enc.map .c)] (.c (.i (yR9 t x))):=by
 refine yh yTG ?_
 simp -dsimp -implicitDefEqProofs
 refine yc (yre t) ?_
 cases h1 : ya9 t with
 | false=>simp -dsimp -implicitDefEqProofs; simp [yR9,h1]
 | true =>
  simp -dsimp -implicitDefEqProofs
  refine yc (yds x h) ?_
  cases h2 : yP x with
  | false=>simp -dsimp -implicitDefEqProofs; simp [yR9,h2]
  | true =>
   obtain ⟨c,hc,c1,c2,c3,c4,c5,c6,c7,_,_⟩:=yTm h1 h2
   simp -dsimp -implicitDefEqProofs
   refine yaC (yTF x h) ?_
   simp -dsimp -implicitDefEqProofs
   refine ⟨c3,?_⟩
   refine yaC (yTR x h) ?_
   simp -dsimp -implicitDefEqProofs
   refine ⟨c4,c5,c6,?_⟩
   refine yaC (yMm x h) ?_
   have hg:=(List.getElem?_eq_some_iff.1 hc).2
   simp -dsimp -implicitDefEqProofs [hc,c1,c2,hg]
   exact ⟨c7,by simp [yR9,h1,h2,hc]⟩
theorem ymz {α β : Type} {f : α → β} {l : List α} : (l.map f).take l.length = l.map f:=List.take_of_length_le (by simp)
def yaY (t : Train) : List Int:=if yP t then t.yas.map yfy else []
def yfv (t : Train) (k : Nat) : List Int:=(t.yas.take k).map yfy
theorem ygs {t : Train} : yfv t 0 = []:=rfl
theorem ymO {t : Train} {k : Nat} {b : Boat} (h : t.yas[k]? = some b) : yfv t (k + 1) = yfv t k ++ [b.Id]:=by
 unfold yfv; rw [List.take_succ,h,List.map_append]; rfl
theorem yo4 {t : Train} {k : Nat} (h : t.yas.length ≤ k) : yfv t k = t.yas.map yfy:=by
 unfold yfv; rw [List.take_of_length_le h]
theorem yp8 {t : Train} {k : Nat} (h : k ≤ t.yas.length) : (yfv t k).length = k:=by
 unfold yfv; simp; omega
theorem yuz (t : Train) (h : t.small) : yB Tryz.prog 61 [.agg (t.enc.map .c)] (.c (.sl 1 ((yaY t).map yJ))):=by
 refine yh ysm ?_
 simp -dsimp -implicitDefEqProofs
 refine yc (ydp t h) ?_
 cases h1 : yP t with
 | false=>simp -dsimp -implicitDefEqProofs; simp [yaY,h1]
 | true =>
  have tf:=yhY h1
  have h6:=tf.len
  simp -dsimp -implicitDefEqProofs
  refine yS (yya t h) ?_
  simp -dsimp -implicitDefEqProofs
  intro hlen
  refine ymd (k0:=1) 3 1 (by simp) (by simp) (by decide) ?_
  refine yg (ι:=Nat) (fun k=>k ≤ t.yas.length) (fun k=>yO [(3,.own 3 1 (yfv t k).length),(10,.c (.sl 6 (t.yas.map Boat.enc))),(11,.c (.i t.yas.length)),(12,.c (.i k))] [(3,.row 1 ((yfv t k).map yJ))]) (fun k=>t.yas.length - k) 0 (by simp) (by apply yj <;> simp [ygs]) ?_
  rintro k hk
  have hkl:=yp8 hk
  rcases Nat.lt_or_ge k t.yas.length with hlt | hge
  ·obtain ⟨b,hb⟩ : ∃ b,t.yas[k]? = some b:=⟨_,List.getElem?_eq_getElem hlt⟩
   simp -dsimp -implicitDefEqProofs [hb,yG hlt]
   refine ⟨by omega,yw hlt hlen,k + 1,hlt,by omega,?_⟩
   apply yj <;> simp [ymO hb]
  ·simp -dsimp -implicitDefEqProofs [yaB hge]
   rw [ymz,yo4 hge]
   simp [yaY,h1]
theorem yvW (t : Train) (h : t.small) : yB Tryz.prog 53 [.agg (t.enc.map .c)] (.c (.sl 1 ((yaY t).map yJ))):=by
 refine yh ysG ?_
 simp -dsimp -implicitDefEqProofs
 refine yS (yoX t h) ?_
 simp -dsimp -implicitDefEqProofs
 refine yg (ι:=Nat) (fun k=>k ≤ t.yas.length ∧ (k ≠ 0 → yP t = true)) (fun k=>yO [(1,.box 1 0),(3,.own 6 1 (yfv t k).length),(4,.c (.sl 6 (t.yas.map Boat.enc))),(5,.c (.i k))] [(1,.box (t.enc.map .c)),(6,.row 1 ((yfv t k).map yJ))]) (fun k=>t.yas.length - k) 0 (by simp) (by apply yj <;> simp [ygs]) ?_
 rintro k ⟨hk,hok⟩
 have hkl:=yp8 hk
 have fin : yP t = false → k = 0:=fun h1=>by
  rcases Nat.eq_zero_or_pos k with e | e
  ·exact e
  ·rw [hok (by omega)] at h1; cases h1
 rcases Nat.lt_or_ge k t.yas.length with hlt | hge
 ·obtain ⟨b,hb⟩ : ∃ b,t.yas[k]? = some b:=⟨_,List.getElem?_eq_getElem hlt⟩
  simp -dsimp -implicitDefEqProofs [hb,yG hlt]
  intro hlen
  refine yc (yds t h) ?_
  cases h1 : yP t with
  | false =>
   have:=fin h1
   subst this
   simp -dsimp -implicitDefEqProofs
   simp [yaY,h1,ygs]
  | true =>
   have h6:=(yhY h1).len
   simp -dsimp -implicitDefEqProofs [hb,yG hlt]
   refine ⟨by omega,yw hlt hlen,k + 1,by first | exact ⟨hlt,fun _=>h1⟩ | exact hlt,by omega,?_⟩
   apply yj <;> simp [ymO hb]
 ·simp -dsimp -implicitDefEqProofs [yaB hge]
  intro _
  rw [ymz]
  by_cases h1 : yP t = true
  ·rw [yo4 hge]; simp [yaY,h1]
  ·have:=fin (by simpa using h1)
   subst this
   simp [yaY,h1,ygs]
theorem ytb {t : Train} (h : yP t = true) : (yaY t).length ≤ 6:=by
 have:=(yhY h).len
 simp [yaY,h]; omega
theorem yEL {t : Train} (h : yP t = true) : (yaY t).Nodup:=by
 have:=(yhY h).nd
 simp only [yaY,h,if_true]; exact this
def ySl (l : List Int) (t w : Int) : Nat → List Entry
 | 0=>[]
 | k + 1=>ySl l t w k ++ (if 0 < vAt l k then [⟨0,k + 1,vAt l k,t,w⟩] else [])
theorem yTn {l : List Int} {t w : Int} : ySl l t w 0 = []:=rfl
theorem ySV {l : List Int} {t w : Int} {k : Nat} : ySl l t w (k + 1) = ySl l t w k ++ (if 0 < vAt l k then [⟨0,k + 1,vAt l k,t,w⟩] else []):=rfl
theorem ySP {l : List Int} {t w : Int} : ∀ k : Nat,(ySl l t w k).length ≤ k
 | 0=>by simp [ySl]
 | k + 1=>by
  have:=ySP (l:=l) (t:=t) (w:=w) k
  rw [ySV,List.length_append]
  split <;> simp <;> omega
def ySq (t : Tariff) (x : Train) (n : Int) : Bool:=ya9 t && yP x && inRange n 0 1000000
def yR0 (t : Tariff) (x : Train) (n : Int) : List Entry:=if ySq t x n then ySl (yR3 (yR9 t x) t.Weights) n (vAt (yaY x) 0) (yR3 (yR9 t x) t.Weights).length else []
theorem yTh {t : Tariff} {x : Train} {n : Int} (h : ySq t x n = false) : yR0 t x n = []:=by simp [yR0,h]
theorem yTP {x : Train} (h : yP x = true) : ∃ w,(yaY x)[0]? = some w:=by
 have tf:=yhY h
 have h1:=tf.pos
 refine ⟨_,List.getElem?_eq_getElem (show 0 < (yaY x).length by rw [yaY,if_pos h,List.length_map]; omega)⟩
theorem yTf (t : Tariff) (x : Train) (n : Int) (hx : x.small) : ybh Tryz.prog 84 [.agg (t.enc.map .c),.agg (x.enc.map .c),.c (.i n)] (.c (.ow 5 ((yR0 t x n).map Entry.enc))):=by
 refine yan yS1 ?_
 simp -dsimp -implicitDefEqProofs
 refine yc (yqB t) ?_
 cases h1 : ya9 t with
 | false=>simp -dsimp -implicitDefEqProofs; rw [yTh (by simp [ySq,h1])]
 | true =>
 simp -dsimp -implicitDefEqProofs
 refine yc (ydp x hx) ?_
 cases h2 : yP x with
 | false=>simp -dsimp -implicitDefEqProofs; rw [yTh (by simp [ySq,h2])]
 | true =>
 simp -dsimp -implicitDefEqProofs
 refine yc (yC n 0 1000000) ?_
 cases h3 : inRange n 0 1000000 with
 | false=>simp -dsimp -implicitDefEqProofs; rw [yTh (by simp [ySq,h3])]
 | true =>
 simp -dsimp -implicitDefEqProofs
 have hok : ySq t x n = true:=by simp [ySq,h1,h2,h3]
 have he : yR0 t x n = ySl (yR3 (yR9 t x) t.Weights) n (vAt (yaY x) 0) (yR3 (yR9 t x) t.Weights).length:=by rw [yR0,if_pos hok]
 obtain ⟨w,hw⟩:=yTP h2
 rw [ySA hw] at he
 rw [he]
 refine yS (yuz x hx) ?_
 have gw:=(List.getElem?_eq_some_iff.1 hw).2
 have lw:=(List.getElem?_eq_some_iff.1 hw).1
 simp -dsimp -implicitDefEqProofs [hw,gw,lw]
 refine yaC (yTZ t x hx) ?_
 simp -dsimp -implicitDefEqProofs
 refine yyA (yTu (yR9 t x) t.Weights) ?_
 have hsl:=ySJ (yR9 t x) t.Weights
 generalize yR3 (yR9 t x) t.Weights = sh at *
 simp -dsimp -implicitDefEqProofs
 intro hlen
 refine ymd (k0:=5) 8 5 (by simp) (by simp) (by decide) ?_
 refine yg (ι:=Nat) (fun k=>k ≤ sh.length) (fun k=>yO [(2,.c (.i n)),(7,.c (.i w)),(8,.own 8 5 (ySl sh n w k).length),(33,.c (.sl 1 (sh.map yJ))),(34,.c (.i sh.length)),(35,.c (.i k))] [(8,.row 5 ((ySl sh n w k).map Entry.enc))]) (fun k=>sh.length - k) 0 (by simp) (by apply yj <;> simp [yTn]) ?_
 rintro k hk
 have htl:=ySP (l:=sh) (t:=n) (w:=w) k
 rcases Nat.lt_or_ge k sh.length with hlt | hge
 ·obtain ⟨v,hv⟩ : ∃ v,sh[k]? = some v:=⟨_,List.getElem?_eq_getElem hlt⟩
  have gv:=(List.getElem?_eq_some_iff.1 hv).2
  have hs:=ySV (l:=sh) (t:=n) (w:=w) (k:=k)
  rw [ySA hv] at hs
  simp -dsimp -implicitDefEqProofs [hv,gv,yG hlt,hlt]
  refine ⟨fun h0=>?_,fun h0=>?_⟩
  ·rw [if_pos (by omega)] at hs
   refine ⟨by unfold inI; omega,by omega,yw hlt hlen,k + 1,hlt,by omega,?_⟩
   apply yj <;> simp [hs]
  ·rw [if_neg (by omega),List.append_nil] at hs
   refine ⟨yw hlt hlen,k + 1,hlt,by omega,?_⟩
   apply yj <;> simp [hs]
 ·have : k = sh.length:=by omega
  subst this
  simp -dsimp -implicitDefEqProofs [yt]
theorem ySQ (t : Tariff) (x : Train) (n : Int) : (yR0 t x n).length ≤ 12:=by
 unfold yR0
 split
 ·have h1:=ySP (l:=yR3 (yR9 t x) t.Weights) (t:=n) (w:=vAt (yaY x) 0) (yR3 (yR9 t x) t.Weights).length
  have h2:=ySJ (yR9 t x) t.Weights
  omega
 ·simp
theorem ySz (t : Tariff) (x : Train) (n : Int) (hx : x.small) : yB Tryz.prog 84 [.agg (t.enc.map .c),.agg (x.enc.map .c),.c (.i n)] (.c (.sl 5 ((yR0 t x n).map Entry.enc))):=(yTf t x n hx).pure (by simp)
theorem ySB (t : Tariff) (x : Train) (n : Int) (ht : t.small) (hx : x.small) : yB Tryz.prog 76 [.agg (t.enc.map .c),.agg (x.enc.map .c),.c (.i n)] (.c (.sl 5 ((yR0 t x n).map Entry.enc))):=by
 refine yh yS4 ?_
 simp -dsimp -implicitDefEqProofs
 refine yc (yre t) ?_
 cases h1 : ya9 t with
 | false=>simp -dsimp -implicitDefEqProofs; rw [yTh (by simp [ySq,h1])]
 | true =>
 simp -dsimp -implicitDefEqProofs
 refine yc (yds x hx) ?_
 cases h2 : yP x with
 | false=>simp -dsimp -implicitDefEqProofs; rw [yTh (by simp [ySq,h2])]
 | true =>
 simp -dsimp -implicitDefEqProofs
 refine yc (yD n 0 1000000) ?_
 cases h3 : inRange n 0 1000000 with
 | false=>simp -dsimp -implicitDefEqProofs; rw [yTh (by simp [ySq,h3])]
 | true =>
 simp -dsimp -implicitDefEqProofs
 have hok : ySq t x n = true:=by simp [ySq,h1,h2,h3]
 have he : yR0 t x n = ySl (yR3 (yR9 t x) t.Weights) n (vAt (yaY x) 0) (yR3 (yR9 t x) t.Weights).length:=by rw [yR0,if_pos hok]
 obtain ⟨w,hw⟩:=yTP h2
 rw [ySA hw] at he
 rw [he]
 have gw:=(List.getElem?_eq_some_iff.1 hw).2
 have lw:=(List.getElem?_eq_some_iff.1 hw).1
 refine yaC (yT2 t x hx) ?_
 simp -dsimp -implicitDefEqProofs
 refine yyA (yTI (yR9 t x) t.Weights ht.2) ?_
 have hsl:=ySJ (yR9 t x) t.Weights
 generalize yR3 (yR9 t x) t.Weights = sh at *
 simp -dsimp -implicitDefEqProofs
 refine yg (ι:=Nat) (fun k=>k ≤ sh.length) (fun k=>yO [(2,.c (.i n)),(4,.box 4 0),(7,.own 10 5 (ySl sh n w k).length),(8,.c (.sl 1 (sh.map yJ))),(9,.c (.i k))] [(4,.box (x.enc.map .c)),(10,.row 5 ((ySl sh n w k).map Entry.enc))]) (fun k=>sh.length - k) 0 (by simp) (by apply yj <;> simp [yTn]) ?_
 rintro k hk
 have htl:=ySP (l:=sh) (t:=n) (w:=w) k
 rcases Nat.lt_or_ge k sh.length with hlt | hge
 ·obtain ⟨v,hv⟩ : ∃ v,sh[k]? = some v:=⟨_,List.getElem?_eq_getElem hlt⟩
  have gv:=(List.getElem?_eq_some_iff.1 hv).2
  have hs:=ySV (l:=sh) (t:=n) (w:=w) (k:=k)
  rw [ySA hv] at hs
  simp -dsimp -implicitDefEqProofs [hv,gv,yG hlt,hlt]
  refine fun hlen=>⟨fun h0=>?_,fun h0=>?_⟩
  ·rw [if_pos (by omega)] at hs
   refine ⟨by unfold inI; omega,?_⟩
   refine yY (yvW x hx) ?_
   simp -dsimp -implicitDefEqProofs [hw,gw,lw]
   refine ⟨by omega,yw hlt hlen,k + 1,hlt,by omega,?_⟩
   apply yj <;> simp [hs]
  ·rw [if_neg (by omega),List.append_nil] at hs
   refine ⟨yw hlt hlen,k + 1,hlt,by omega,?_⟩
   apply yj <;> simp [hs]
 ·have : k = sh.length:=by omega
  subst this
  simp -dsimp -implicitDefEqProofs [yt]
theorem yUr (m : Int) (h0 : 0 ≤ m) (h1 : m ≤ 2097152) : ybh Tryz.prog 165 [.nil 5,.c (.i m)] (.c (.ow 5 [])):=by
 refine yan ySg ?_
 simp -dsimp -implicitDefEqProofs
 exact ⟨h0,fun _=>⟨by unfold inI; omega,by unfold inI; omega,fun h=>⟨h0,by omega,by omega⟩⟩⟩
theorem yTd (es : List Entry) (hl : es.length ≤ 2097152) : ybh Tryz.prog 130 [.c (.sl 5 (es.map Entry.enc))] (.c (.ow 5 (es.map Entry.enc))):=by
 refine yan yc5 ?_
 simp -dsimp -implicitDefEqProofs [ybu,yt]
 omega
def lens (a b : Nat) (k : Nat) : Int:=if k = 0 then 0 else if k = 1 then a else a + b
def yTK (a b : List Entry) (k : Nat) : List Entry:=if k = 0 then [] else if k = 1 then a else a ++ b
theorem yT6 (a b : List Entry) (ha : a.length ≤ 1048576) (hb : b.length ≤ 1048576) :
 ybh Tryz.prog 129 [.c (.sl 1 [[.sl 5 (a.map Entry.enc)],[.sl 5 (b.map Entry.enc)]])] (.c (.ow 5 ((a ++ b).map Entry.enc))):=by
 refine yan ySd ?_
 simp -dsimp -implicitDefEqProofs
 refine fun _=>yg (ι:=Nat) (fun k=>k ≤ 2) (fun k=>yO [(0,.c (.sl 1 [[.sl 5 (a.map Entry.enc)],[.sl 5 (b.map Entry.enc)]])),(3,.c (.i (lens a.length b.length k))),(9,.c (.sl 1 [[.sl 5 (a.map Entry.enc)],[.sl 5 (b.map Entry.enc)]])),(10,.c (.i 2)),(11,.c (.i k))] []) (fun k=>2 - k) 0 (by simp) (by apply yj <;> simp [lens]) ?_
 intro k hk
 obtain rfl | rfl | rfl : k = 0 ∨ k = 1 ∨ k = 2:=by omega
 ·simp -dsimp -implicitDefEqProofs [lens]
  refine fun _=>⟨by unfold inI; omega,by unfold inI; omega,1,by omega,by omega,?_⟩
  apply yj <;> simp
 ·simp -dsimp -implicitDefEqProofs [lens]
  refine fun _=>⟨by unfold inI; omega,by omega,fun _=>⟨by unfold inI; omega,2,by omega,by omega,?_⟩⟩
  apply yj <;> simp
 ·simp -dsimp -implicitDefEqProofs [lens]
  refine yQ (yUr (a.length + b.length) (by omega) (by omega)) (by simp ) (by simp [AV.closed,AV.ya7,C.closed]) (by simp [yU]) ?_
  simp -dsimp -implicitDefEqProofs
  refine fun _=>yg (ι:=Nat) (fun k=>k ≤ 2) (fun k=>yO [(6,.own 24 5 (yTK a b k).length),(25,.c (.sl 1 [[.sl 5 (a.map Entry.enc)],[.sl 5 (b.map Entry.enc)]])),(26,.c (.i 2)),(27,.c (.i k))] [(24,.row 5 ((yTK a b k).map Entry.enc))]) (fun k=>2 - k) 0 (by simp) (by apply yj <;> simp [yTK]) ?_
  intro k hk
  obtain rfl | rfl | rfl : k = 0 ∨ k = 1 ∨ k = 2:=by omega
  ·simp -dsimp -implicitDefEqProofs [yTK]
   refine ⟨by omega,by unfold inI; omega,1,by omega,by omega,?_⟩
   apply yj <;> simp
  ·simp -dsimp -implicitDefEqProofs [yTK]
   refine ⟨by omega,by unfold inI; omega,2,by omega,by omega,?_⟩
   apply yj <;> simp
  ·simp -dsimp -implicitDefEqProofs [yTK]
   rw [List.take_of_length_le (by simp)]
def yR7 (book more : List Entry) : List Entry × Bool:=if yht book && yht (book ++ more) then (book ++ more,true) else (book,false)
theorem yTb (a b : List Entry) (ha : a.length ≤ 1048576) (hb : b.length ≤ 1048576) :
 ybh Tryz.prog 83 [.c (.sl 5 (a.map Entry.enc)),.c (.sl 5 (b.map Entry.enc))] (.tup [.c (.ow 5 ((yR7 a b).1.map Entry.enc)),.c (.b (yR7 a b).2)]):=by
 have hcat:=yT6 a b ha hb
 have hp : yR7 a b = if yht a && yht (a ++ b) then (a ++ b,true) else (a,false):=rfl
 have hn : 2000 < b.length → yht (a ++ b) = false:=fun h=>by simp [yht]; omega
 generalize a ++ b = c at hcat hp hn
 refine yan yS2 ?_
 simp -dsimp -implicitDefEqProofs
 refine yc (yvn a) ?_
 cases h : yht a with
 | false =>
  simp -dsimp -implicitDefEqProofs
  refine yQ (yTd a (by omega)) (by simp ) (by simp [AV.closed,AV.ya7,C.closed]) (by simp [yU]) ?_
  simp -dsimp -implicitDefEqProofs
  simp [hp,h,yt]
 | true =>
  simp -dsimp -implicitDefEqProofs
  refine fun _=>⟨fun h2=>?_,fun h2=>?_⟩
  ·skip
   refine yQ (hcat) (by simp ) (by simp [AV.closed,AV.ya7,C.closed]) (by simp [yU]) ?_
   simp -dsimp -implicitDefEqProofs
   refine yaQ (yvn c) (by simp [yt]) rfl ?_
   cases h3 : yht c with
   | false =>
    simp -dsimp -implicitDefEqProofs
    refine yQ (yTd a (by omega)) (by simp ) (by simp [AV.closed,AV.ya7,C.closed]) (by simp [yU]) ?_
    simp -dsimp -implicitDefEqProofs
    simp [hp,h,h3,yt]
   | true =>
    simp -dsimp -implicitDefEqProofs
    refine yQ (hcat) (by simp ) (by simp [AV.closed,AV.ya7,C.closed]) (by simp [yU]) ?_
    simp -dsimp -implicitDefEqProofs
    simp [hp,h,h3,yt]
  ·skip
   have h3:=hn (by omega)
   refine yQ (yTd a (by omega)) (by simp ) (by simp [AV.closed,AV.ya7,C.closed]) (by simp [yU]) ?_
   simp -dsimp -implicitDefEqProofs
   simp [hp,h,h3,yt]
theorem ySI (a b : List Entry) (ha : a.length ≤ 1048576) (hb : b.length ≤ 1048576) :
 yB Tryz.prog 75 [.c (.sl 5 (a.map Entry.enc)),.c (.sl 5 (b.map Entry.enc))] (.tup [.c (.sl 5 ((yR7 a b).1.map Entry.enc)),.c (.b (yR7 a b).2)]):=by
 have hp : yR7 a b = if yht a && yht (a ++ b) then (a ++ b,true) else (a,false):=rfl
 have e1 : a.map Entry.enc ++ b.map Entry.enc = (a ++ b).map Entry.enc:=List.map_append.symm
 have e2 : a.length + b.length = (a ++ b).length:=List.length_append.symm
 generalize a ++ b = c at hp e1 e2
 refine yh yS5 ?_
 simp -dsimp -implicitDefEqProofs
 refine ⟨by omega,by omega,?_⟩
 rw [e1,e2]
 refine yc (yuL a) ?_
 cases h : yht a with
 | false =>
  simp -dsimp -implicitDefEqProofs
  simp [hp,h,yt]; omega
 | true =>
  simp -dsimp -implicitDefEqProofs
  refine yaQ (yuL c) (by simp [yt]) rfl ?_
  cases h3 : yht c with
  | false =>
   simp -dsimp -implicitDefEqProofs
   simp [hp,h,h3,yt]; omega
  | true =>
   simp -dsimp -implicitDefEqProofs
   simp [hp,h,h3,yt]
theorem ySx (a b : List Entry) (ha : a.length ≤ 1048576) (hb : b.length ≤ 1048576) :
 yB Tryz.prog 83 [.c (.sl 5 (a.map Entry.enc)),.c (.sl 5 (b.map Entry.enc))] (.tup [.c (.sl 5 ((yR7 a b).1.map Entry.enc)),.c (.b (yR7 a b).2)]):=(yTb a b ha hb).pure (by simp [AV.shr,AV.yAK,AV.ysI,C.shr])
def ydk : List Train → Int → Int:=yeE yb2
def ybV : List Train → Prop:=ycs Train.small
theorem yhu : yey ydk ybV:=ygj ye7
end Go.Proofs.YtpkpdbohalbbaaaGreat
