/- What the law FnOnlyWater stands on: the machine, in short form (names, layout). -/
import Derived.Test.YtpiplmnecmkafaaGreatSOnlyWaterA1
import Derived.Laws.BytesString
import Derived.Orders
set_option linter.all false
namespace Go.Proofs.YtpiplmnecmkafaaGreat
open Go.RowKit
section
variable {P : Program} {g : Ghost} {o : Oper} {s : St} {a : Act} {w : World} {blk : Lay} {K : St → Prop}
theorem ydS (e : TypeId) (cells : Array Value) (w : World) : (newRow e cells).run P w = .ok ⟨w.heap.size,0,none⟩ (w.alloc (.cells cells e)):=by
 simp [newRow]
theorem yhI (h : Repr g s a w blk) (hd : ∀ i,o.dst = some i → i < g.N) {o' : Obj} {V : Nat → AV} {v : Value} {arr : Array Value} {e : TypeId} {w1 : World}
 (hr : (execOp a.eval o).run P w1 = .ok (.value v) (w.alloc (.cells arr e)))
 (ok : ∀ w' G' O' blk',Keeps w w' (Good g s.objs blk w) G' s.objs O' blk blk' → w'.heap[w.heap.size]? = some (.cells arr e (0,0)) → yco w' G' O' blk' noF (some w.heap.size) o')
 (hv : ∀ (d : Nat) G' (O' : Nat → Obj) (blk' : Nat → Option Nat),O' d = o' → blk' d = some w.heap.size → (w.alloc (.cells arr e)).heap[w.heap.size]? = some (.cells arr e (0,0)) → RV (w.alloc (.cells arr e)) G' O' blk' v (V d))
 (hK : newP s o.dst o' V K) : yN P g o a w1 K:=by
 unfold newP at hK
 split at hK
 ·rename_i d hdst
  obtain ⟨h0,hK⟩:=hK
  have:=h.alloc (d:=d) (ydG h0) ok
  refine ⟨_,_,hr,_,blk.upd d (some w.heap.size) noF,hK,?_⟩
  have hput:=this.put (d:=some d) (v:=v) (x:=V d) (by rw [← hdst]; exact hd) (hv d _ _ _ (by simp [upd]) (by rw [Lay.yaG,if_pos rfl]) (heap_alloc_new w _))
  rw [hdst]
  exact hput
 ·exact hK.elim
theorem yEt (h : Repr g s a w blk) (hd : ∀ i,o.dst = some i → i < g.N) {t : TypeId} {n : Nat} {p : Operand} {xp : X} (ho : o.op = .box t p)
 (hp : cx p = some xp) (hK : yyl n s o.dst (s.ev xp) K) : yN P g o a w K:=by
 have ep:=h.ev hp
 obtain ⟨_,hok,hK⟩:=hK
 obtain ⟨h1,h2⟩:=yhP ep hok
 refine yhI (v:=.pointer (some ⟨w.heap.size,0,none⟩)) (arr:=(a.eval p).cells) (e:=t) h hd ?_ ?_ ?_ hK
 ·simp [execOp,ho,Instr.box,newVar,ydS]
 ·intro w' G' O' blk' KK hh
  exact ⟨_,_,_,rfl,hh,h1,fun j x hx=>let ⟨u,hu,hr⟩:=h2 j x hx; ⟨u,by simpa using hu,hr.keep KK⟩⟩
 ·intro d G' O' blk' hO hb _
  exact ⟨_,_,hO,hb,rfl⟩
theorem yhQ : ∀ {l : List Value} {ks : List Nat} {zs : List AV},yer l ks = some zs → zs.length = l.length ∧ ∀ (j : Nat) (x : AV),zs[j]? = some x → ∃ v k,l[j]? = some v ∧ ylO k v = some x
 | [],[],cs,h=>by cases h; exact ⟨rfl,fun j c hj=>by simp at hj⟩
 | x :: l,k :: ks,cs,h=>by
  simp only [yer] at h
  split at h
  ·rename_i c1 cs1 h1 h2
   cases h
   obtain ⟨hl,hg⟩:=yhQ h2
   refine ⟨by simp [hl],fun j c hj=>?_⟩
   cases j with
   | zero=>simp at hj; subst hj; exact ⟨x,k,rfl,h1⟩
   | succ j=>exact hg j c (by simpa using hj)
  ·cases h
 | [],_ :: _,cs,h=>by simp [yer] at h
 | _ :: _,[],cs,h=>by simp [yer] at h
theorem yup {G : Nat → Prop} {O : Nat → Obj} {bl : Nat → Option Nat} {v : Value} {x : AV} (h : yjA v = some x) : RV1 w G O bl v x:=by
 unfold yjA at h
 split at h
 ·split at h
  ·cases h; exact Rd.i ‹_›
  ·cases h
 ·split at h
  ·rename_i n hn
   cases h
   show Rd _ _ _ _
   have : (Value.int .u8 n) = .int .u8 (n.toNat : Int):=by congr; omega
   rw [this]
   exact .u (by omega)
  ·cases h
 ·cases h; exact Rd.b
 ·split at h
  ·cases h; exact Rd.s ‹_›
  ·cases h
 ·cases h; exact rfl
 ·cases h; trivial
 ·cases h
theorem ylF {G : Nat → Prop} {O : Nat → Obj} {bl : Nat → Option Nat} {k : Nat} {v : Value} {x : AV} (h : ylO k v = some x) : RV1 w G O bl v x:=by
 unfold ylO at h
 split at h
 ·cases h; exact rfl
 ·exact yup h
theorem yyN (h : Repr g s a w blk) (hd : ∀ i,o.dst = some i → i < g.N) {t : TypeId} {i : TypeInfo} {z : Value} {zs : List AV} (ho : o.op = .alloc t) (hi : P.info? t = some i) (hz : i.zero = some z)
 {ks : List Nat} (hzs : yer z.cells.toList ks = some zs) (hK : newP s o.dst (.box zs) (fun d=>.box d 0) K) : yN P g o a w K:=by
 obtain ⟨h1,h2⟩:=yhQ hzs
 refine yhI (v:=.pointer (some ⟨w.heap.size,0,none⟩)) (arr:=z.cells) (e:=t) h hd ?_ ?_ ?_ hK
 ·simp [execOp,ho,Instr.alloc,zeroValue,typeInfo,hi,hz,newVar,ydS]
 ·intro w' G' O' blk' KK hh
  exact ⟨_,_,_,rfl,hh,by simpa using h1.symm,fun j x hx=>let ⟨u,k,hu,hr⟩:=h2 j x hx; ⟨u,by simpa using hu,ylF hr⟩⟩
 ·intro d G' O' blk' hO hb _
  exact ⟨_,_,hO,hb,rfl⟩
theorem yl1 {G : Nat → Prop} {v : Value} {c : C} (h : yhs v c = true) : Rd w G v c:=by
 unfold yhs at h
 split at h
 ·simp at h; obtain ⟨rfl,rfl⟩:=h; exact .i ⟨by omega,by omega⟩
 ·simp at h; obtain ⟨rfl,rfl⟩:=h; exact Rd.u (n:=0) (by decide)
 ·simp at h; subst h; exact .b
 ·simp at h; obtain ⟨rfl,rfl⟩:=h; exact .s (by simp)
 ·simp at h; subst h
  exact .sl (fun _ _=>default) rfl (Nat.le_refl _) (by unfold maxLen; omega) (by simp) (by simp) (by simp) (by simp)
 ·cases h
theorem ygo : ∀ {l : List Value} {cs : List C},ygD l cs = true → cs.length = l.length ∧ ∀ (j : Nat) (c : C),cs[j]? = some c → ∃ v,l[j]? = some v ∧ yhs v c = true
 | [],[],h=>⟨rfl,fun j c hj=>by simp at hj⟩
 | x :: l,c :: cs,h=>by
  simp only [ygD,Bool.and_eq_true] at h
  obtain ⟨hl,hg⟩:=ygo h.2
  refine ⟨by simp [hl],fun j c hj=>?_⟩
  cases j with
  | zero=>simp at hj; subst hj; exact ⟨x,rfl,h.1⟩
  | succ j=>exact hg j c (by simpa using hj)
theorem yAG {v : Value} {k : Nat} {c : C} (h : yAL v k = some c) : yhs v c = true:=by
 unfold yAL at h
 split at h
 ·split at h
  ·rename_i e; cases h; simp [yhs,e]
  ·cases h
 ·split at h
  ·rename_i e; cases h; simp [yhs,e]
  ·cases h
 ·split at h
  ·cases h
  ·rename_i b e; cases h; simp at e; simp [yhs,e]
 ·split at h
  ·rename_i e; cases h; simp [yhs,e]
  ·cases h
 ·cases h; rfl
 ·cases h
theorem ylV : ∀ {l : List Value} {ks : List Nat} {cs : List C},ymc l ks = some cs → ygD l cs = true
 | [],[],cs,h=>by cases h; rfl
 | v :: l,k :: ks,cs,h=>by
  simp only [ymc] at h
  split at h
  ·rename_i c1 cs1 h1 h2
   cases h
   simp [ygD,yAG h1,ylV h2]
  ·cases h
theorem flat_get {α : Type} {k n : Nat} {z : List α} (hz : z.length = k) {i j : Nat} {c : α} (hi : i < n) (hj : z[j]? = some c) : (List.replicate n z).flatten[i * k + j]? = some c:=by
 induction n generalizing i with
 | zero=>omega
 | succ n ih =>
  rw [List.replicate_succ,List.flatten_cons]
  have hjk : j < k:=by rw [← hz]; exact (List.getElem?_eq_some_iff.1 hj).1
  cases i with
  | zero=>rw [Nat.zero_mul,Nat.zero_add,List.getElem?_append_left (by omega)]; exact hj
  | succ i =>
   rw [List.getElem?_append_right (by rw [hz,Nat.add_mul]; omega),hz,Nat.add_mul,Nat.one_mul]
   rw [show i * k + k + j - k = i * k + j from by omega]
   exact ih (by omega)
theorem yyg (h : Repr g s a w blk) (hd : ∀ i,o.dst = some i → i < g.N) {t : TypeId} {i : TypeInfo} {z : Value} {k n : Nat} {cs : List C} (ho : o.op = .alloc t) (hi : P.info? t = some i) (hz : i.zero = some z)
 (hzs : ygD z.cells.toList (List.replicate n cs).flatten = true) (hk : cs.length = k) (hK : newP s o.dst (.row k (List.replicate n cs)) (fun d=>.row d k 0 0) K) : yN P g o a w K:=by
 obtain ⟨h1,h2⟩:=ygo hzs
 refine yhI (v:=.pointer (some ⟨w.heap.size,0,none⟩)) (arr:=z.cells) (e:=t) h hd ?_ ?_ ?_ hK
 ·simp [execOp,ho,Instr.alloc,zeroValue,typeInfo,hi,hz,newVar,ydS]
 ·intro w' G' O' blk' KK hh
  refine .inr ⟨_,_,_,rfl,hh,?_,fun r hr=>by rw [(List.mem_replicate.1 hr).2]; exact hk,fun i2 r j c hr hc=>?_⟩
  ·have : (List.replicate n cs).flatten.length = n * k:=by simp [hk]
   rw [List.length_replicate]
   rw [this,Array.length_toList] at h1
   omega
  ·have hi2 : i2 < n:=by have:=(List.getElem?_eq_some_iff.1 hr).1; simpa using this
   rw [List.getElem?_replicate,if_pos hi2] at hr
   cases hr
   obtain ⟨u,hu,hr⟩:=h2 _ c (flat_get hk hi2 hc)
   exact ⟨u,by simpa using hu,yl1 hr⟩
 ·intro d G' O' blk' hO hb _
  exact ⟨_,_,by rw [hO]; rfl,hb,by simp⟩
theorem yqy {z : Array Value} {k n : Nat} (hz : z.size = k) {i j : Nat} (hi : i < n) (hj : j < k) : (madeCells z (n * k))[i * k + j]? = z[j]?:=by
 have h1 : (i + 1) * k ≤ n * k:=Nat.mul_le_mul_right _ hi
 rw [Nat.add_mul,Nat.one_mul] at h1
 have h2 : (i * k + j) % k = j:=by rw [Nat.add_comm,Nat.add_mul_mod_self_right,Nat.mod_eq_of_lt hj]
 unfold madeCells
 simp [hz,h2,show i * k + j < n * k from by omega,getElem!_pos,hj]
theorem yDi (h : Repr g s a w blk) (hd : ∀ i,o.dst = some i → i < g.N) {t e : TypeId} {i : TypeInfo} {z : Value} {cs : List C} {p q : Operand} {xp xq : X} (ho : o.op = .makeSlice t p q) (ht : P.underlying t = some (.slice e)) (hi : P.info? e = some i) (hz : i.zero = some z)
 (hzs : ygD z.cells.toList cs = true) (hsz : z.cells.size = i.size) (hp : cx p = some xp) (hq : cx q = some xq) (hK : ysJ i.size i.bytes cs s o.dst (s.ev xp) (s.ev xq) K) : yN P g o a w K:=by
 have ep:=h.ev hp; have eq:=h.ev hq
 revert hK ep eq
 generalize s.ev xp = vp; generalize s.ev xq = vq
 intro hK ep eq
 unfold ysJ at hK
 split at hK
 ·rename_i n m
  obtain ⟨h0,h1,h2,hK⟩:=hK
  obtain ⟨e1,_⟩:=ep.int; obtain ⟨e2,i2⟩:=eq.int
  have hm : m ≤ 9223372036854775807:=i2.2
  have hr:=run_make (P:=P) w t e i z ht hi hz .i64 .i64 n m h0 h1 h2 hm
  obtain ⟨z1,z2⟩:=ygo hzs
  have z3 : cs.length = i.size:=by rw [z1,Array.length_toList,hsz]
  rcases hK with hK | hK
  case inr =>
   split at hK
   case h_2=>exact hK.elim
   rename_i k0
   refine yhI h hd (v:=.slice (some ⟨w.heap.size,0,none⟩) n.toNat m.toNat) (arr:=madeCells z.cells (m.toNat * i.size)) (e:=e) (by simp [execOp,ho,e1,e2,hr]) ?_ ?_ hK
   ·intro w' G' O' blk' KK hh
    refine .inr ⟨_,_,_,rfl,hh,?_,fun r hr=>by rw [(List.mem_replicate.1 hr).2]; exact z3,fun _ _=>.slice none 0 0,fun _ _=>noF,fun _ _ _ h=>h.elim,fun _ _ _ _ _ h=>h.elim,fun i2 r hr j c hc=>?_,fun i2 r hr j c hc=>?_⟩
    ·rw [size_madeCells,List.length_replicate]
     exact Nat.mul_le_mul_right _ (by omega)
    ·have hi2 : i2 < n.toNat:=by have:=(List.getElem?_eq_some_iff.1 hr).1; simpa using this
     have hj : j < 1:=by
      rw [List.getElem?_replicate,if_pos hi2] at hr
      cases hr
      exact (List.getElem?_eq_some_iff.1 hc).1
     have hj0 : j = 0:=by omega
     subst hj0
     obtain ⟨u,hu,hru⟩:=z2 0 _ rfl
     have hu0 : u = .slice none 0 0:=by
      unfold yhs at hru
      split at hru <;> first | rfl | cases hru | (simp at *; done) | contradiction
     subst hu0
     rw [yqy hsz (by omega) (by rw [← z3]; exact hj)]; simpa using hu
    ·have hi2 : i2 < n.toNat:=by have:=(List.getElem?_eq_some_iff.1 hr).1; simpa using this
     rw [List.getElem?_replicate,if_pos hi2] at hr
     cases hr
     have hj : j < 1:=(List.getElem?_eq_some_iff.1 hc).1
     have hj0 : j = 0:=by omega
     subst hj0
     cases hc
     exact .ow0
   ·intro d G' O' blk' hO hb hh
    exact ⟨_,by rw [hO]; rfl,by simp,.inr ⟨_,_,_,_,hb,rfl,by omega,by unfold maxLen; omega,hh,by rw [size_madeCells]; exact Nat.le_refl _⟩⟩
  refine yhI h hd (v:=.slice (some ⟨w.heap.size,0,none⟩) n.toNat m.toNat) (arr:=madeCells z.cells (m.toNat * i.size)) (e:=e) (by simp [execOp,ho,e1,e2,hr]) ?_ ?_ hK
  ·intro w' G' O' blk' KK hh
   refine .inr ⟨_,_,_,rfl,hh,?_,fun r hr=>by rw [(List.mem_replicate.1 hr).2]; exact z3,fun i2 r j c hr hc=>?_⟩
   ·rw [size_madeCells,List.length_replicate]
    exact Nat.mul_le_mul_right _ (by omega)
   ·have hi2 : i2 < n.toNat:=by have:=(List.getElem?_eq_some_iff.1 hr).1; simpa using this
    rw [List.getElem?_replicate,if_pos hi2] at hr
    cases hr
    obtain ⟨u,hu,hru⟩:=z2 j c hc
    have hj : j < i.size:=by rw [← z3]; exact (List.getElem?_eq_some_iff.1 hc).1
    exact ⟨u,by rw [yqy hsz (by omega) hj]; simpa using hu,yl1 hru⟩
  ·intro d G' O' blk' hO hb hh
   exact ⟨_,by rw [hO]; rfl,by simp,.inr ⟨_,_,_,_,hb,rfl,by omega,by unfold maxLen; omega,hh,by rw [size_madeCells]; exact Nat.le_refl _⟩⟩
 ·exact hK.elim
theorem yCn (h : Repr g s a w blk) (hd : ∀ i,o.dst = some i → i < g.N) {f : Int → Int → Int} {op : Value → Value → Sem Value} {l : List Operand} {xs : List X} (hop : ∀ m n,op (.int .i64 m) (.int .i64 n) = pure (.int .i64 (f m n)))
 (hin : ∀ m n,inI m → inI n → inI (f m n))
 (hr : ∀ v vs,l.map a.eval = v :: vs → ∀ r,(vs.foldlM op v).run P w = .ok r w → (execOp a.eval o).run P w = .ok (.value r) w)
 (hx : cxs l = some xs) (hK : mmP f (xs.map s.ev) fun v=>K (s.put o.dst v)) : yN P g o a w K:=by
 obtain ⟨hl,hg⟩:=h.evs hx
 revert hK hl hg
 generalize xs.map s.ev = avs; generalize hvs : l.map a.eval = vs
 intro hK hl hg
 have key : ∀ (avs : List AV) (ns : List Int),intsOf avs = some ns → ∀ vs : List Value,vs.length = avs.length → (∀ (j : Nat) (x : AV),avs[j]? = some x → ∃ u,vs[j]? = some u ∧ RVs g s w blk u x) →
  vs = ns.map (fun n=>Value.int .i64 n) ∧ ∀ n ∈ ns,inI n:=by
  intro avs
  induction avs with
  | nil=>intro ns hns vs hl _; cases hns; exact ⟨by simpa using hl,by simp⟩
  | cons x avs ih =>
   intro ns hns vs hl hg
   cases vs with
   | nil=>simp at hl
   | cons v vs =>
    obtain ⟨u,hu,hru⟩:=hg 0 x rfl
    simp only [List.getElem?_cons_zero,Option.some.injEq] at hu
    subst hu
    cases x with
    | c y=>cases y with
     | i n =>
      simp only [intsOf,Option.map_eq_some_iff] at hns
      obtain ⟨ns',h1,rfl⟩:=hns
      obtain ⟨h2,h3⟩:=ih ns' h1 vs (by simpa using hl) (fun j x hj=>by simpa using hg (j + 1) x (by simpa using hj))
      obtain ⟨e,hb⟩:=hru.int
      exact ⟨by rw [e,h2]; rfl,by simpa using ⟨hb,h3⟩⟩
     | _=>simp [intsOf] at hns
    | _=>simp [intsOf] at hns
 unfold mmP at hK
 split at hK
 ·rename_i n r hns
  obtain ⟨hvs',hb⟩:=key _ _ hns vs hl hg
  have fold : ∀ (r : List Int) (n : Int),inI n → (∀ m ∈ r,inI m) → ((r.map (fun n=>Value.int .i64 n)).foldlM op (.int .i64 n)).run P w = .ok (.int .i64 (r.foldl f n)) w ∧ inI (r.foldl f n):=by
   intro r
   induction r with
   | nil=>intro n hn _; exact ⟨rfl,hn⟩
   | cons m r ih =>
    intro n hn hr
    have:=ih (f n m) (hin n m hn (hr m (by simp))) (fun q hq=>hr q (by simp [hq]))
    simp only [List.map_cons,List.foldlM_cons,hop,List.foldl_cons,pure_bind]
    exact this
  have:=fold r n (hb n (by simp)) (fun m hm=>hb m (by simp [hm]))
  exact yN.val h hd (hr _ _ (by rw [hvs,hvs']; rfl) _ this.1) (.mkI this.2) hK
 ·exact hK.elim
theorem mn_ok (h : Repr g s a w blk) (hd : ∀ i,o.dst = some i → i < g.N) {l : Array Operand} {ts : Array TypeId} {xs : List X} (ho : o.op = .call { callee:=.builtin .min,args:=l,argTypes:=ts })
 (hx : cxs l.toList = some xs) (hK : mmP (fun x y=>if y < x then y else x) (xs.map s.ev) fun v=>K (s.put o.dst v)) : yN P g o a w K:=by
 refine yCn h hd (op:=Builtin.min2) (fun m n=>rfl) (fun m n hm hn=>by split <;> assumption) (fun v vs hv r hr=>?_) hx hK
 simp [execOp,ho,resolve,invoke,builtin,Builtin.min_,hv,hr]
theorem mx_ok (h : Repr g s a w blk) (hd : ∀ i,o.dst = some i → i < g.N) {l : Array Operand} {ts : Array TypeId} {xs : List X} (ho : o.op = .call { callee:=.builtin .max,args:=l,argTypes:=ts })
 (hx : cxs l.toList = some xs) (hK : mmP (fun x y=>if x < y then y else x) (xs.map s.ev) fun v=>K (s.put o.dst v)) : yN P g o a w K:=by
 refine yCn h hd (op:=Builtin.max2) (fun m n=>rfl) (fun m n hm hn=>by split <;> assumption) (fun v vs hv r hr=>?_) hx hK
 simp [execOp,ho,resolve,invoke,builtin,Builtin.max_,hv,hr]
theorem yk7 {f : Nat} {fn : Func} (hf : P.funcs[f]? = some fn) (hb : fn.body.isSome = true) (hn : (fn.name != "runtime.NumGoroutine") = true) (args : Array Value) (w : World) :
 (callFunc f args).run P w = .ok (.enter f args) w:=by
 have h1 : fn.name ≠ "runtime.NumGoroutine":=by simpa using hn
 have h2 : fn.body ≠ none:=by intro e; simp [e] at hb
 simp [callFunc,hf,h1,h2]
theorem yBj (h : Repr g s a w blk) (hd : ∀ i,o.dst = some i → i < g.N) {f : Nat} {fn : Func} {l : Array Operand} {ts : Array TypeId} {xs : List X} (ho : o.op = .call { callee:=.value (.func f),args:=l,argTypes:=ts })
 (hf : P.funcs[f]? = some fn) (hb : fn.body.isSome = true) (hn : (fn.name != "runtime.NumGoroutine") = true)
 (hx : yvI P ts.toList l.toList = some xs ∨ cxs l.toList = some xs) (hK : yfo P f (xs.map s.ev) o.dst s K) : yN P g o a w K:=by
 obtain ⟨hl,hg⟩ : (l.toList.map a.eval).length = (xs.map s.ev).length ∧ ∀ (j : Nat) (x : AV),(xs.map s.ev)[j]? = some x → ∃ u,(l.toList.map a.eval)[j]? = some u ∧ RVs g s w blk u x:=by
  rcases hx with hx | hx
  ·exact h.evts hx
  ·exact h.evs hx
 have:=hK g a w blk h hd (l.map a.eval) (by simpa using hl) (fun j x hj=>by
  obtain ⟨u,hu,hr⟩:=hg j x hj
  exact ⟨u,by simpa using hu,hr⟩)
 refine ⟨.enter f (l.map a.eval),w,?_,this⟩
 have e1 : a.eval (.func f) = .func (.func f) #[] #[]:=rfl
 simp [execOp,ho,resolve,Deferred.ofValue,e1,invoke,yk7 hf hb hn]
theorem yzh (h : Repr g s a w blk) (hd : ∀ i,o.dst = some i → i < g.N) {q : Operand} {xq : X} {l : Array Operand} {ts : Array TypeId} {xs : List X} (ho : o.op = .call { callee:=.value q,args:=l,argTypes:=ts })
 (hq : cx q = some xq) (hx : cxs l.toList = some xs) (hK : yiV P (s.ev xq) (xs.map s.ev) o.dst s K) : yN P g o a w K:=by
 obtain ⟨hl,hg⟩:=h.evs hx
 have eq:=h.ev hq
 unfold yiV at hK
 split at hK
 ·rename_i f cs he
  rw [he] at eq
  obtain ⟨⟨fn,hf,hb,hn⟩,hK⟩:=hK
  obtain ⟨arr,hfv,hs,hc⟩:=eq
  have:=hK g a w blk h hd (l.map a.eval ++ arr) (by simp at hl; simp [hs,hl]) (fun j x hj=>by
   by_cases hlt : j < (xs.map s.ev).length
   ·rw [List.getElem?_append_left hlt] at hj
    obtain ⟨u,hu,hr⟩:=hg j x hj
    refine ⟨u,?_,hr⟩
    rw [Array.getElem?_append_left (by simp at hl hlt ⊢; omega)]
    simpa using hu
   ·rw [List.getElem?_append_right (by omega)] at hj
    obtain ⟨u,hu,hr⟩:=hc _ x hj
    refine ⟨u,?_,RVs.of1 hr⟩
    rw [Array.getElem?_append_right (by simp at hl hlt ⊢; omega)]
    rw [← hu]; congr 1; simp at hl ⊢; omega)
  refine ⟨.enter f (l.map a.eval ++ arr),w,?_,this⟩
  simp [execOp,ho,resolve,Deferred.ofValue,hfv,invoke,yk7 hf hb hn]
 ·exact hK.elim
theorem yVf : ∀ {l : List (Int × Int)} {j i : Nat} {p : Int × Int},l[i]? = some p → (mpL j l)[i]? = some ⟨.int .i64 p.1,.int .i64 p.2,j + i⟩
 | [],j,i,p,h=>by simp at h
 | q :: l,j,0,p,h=>by simp at h; subst h; rfl
 | q :: l,j,i + 1,p,h=>by
  have:=yVf (l:=l) (j:=j + 1) (i:=i) (by simpa using h)
  rw [show j + 1 + i = j + (i + 1) by omega] at this
  simpa [mpL] using this
theorem yVc : ∀ (l : List (Int × Int)) (j : Nat) (p : Int × Int),mpL j (l ++ [p]) = mpL j l ++ [⟨.int .i64 p.1,.int .i64 p.2,j + l.length⟩]
 | [],_,_=>rfl
 | q :: l,j,p=>by
  have:=yVc l (j + 1) p
  simp only [List.cons_append,mpL,this,List.length_cons]
  rw [show j + 1 + l.length = j + (l.length + 1) by omega]
theorem yVe : ∀ (l : List (Int × Int)) (j i : Nat) (v : Int),mpL j (yUF l i v) = (mpL j l).modify i fun e=>{ e with val:=.int .i64 v }
 | [],j,i,v=>by simp [yUF,mpL]
 | q :: l,j,0,v=>by simp [yUF,mpL]
 | q :: l,j,i + 1,v=>by
  have:=yVe l (j + 1) i v
  unfold yUF at this ⊢
  simp [mpL,this]
theorem yU4 (n : Int) : ∀ (l : List (Int × Int)) (j j0 : Nat),Instr.findNow (.int .i64) (.int .i64 n) (mpL j0 l) j = some ((yUu n j l).map fun p=>(p.1,.int .i64 p.2))
 | [],_,_=>rfl
 | q :: l,j,j0=>by
  simp only [mpL,Instr.findNow,Instr.sameNow,if_true,yUu]
  by_cases e : n = q.1
  ·subst e; simp
  ·have e2 : (n == q.1) = false:=by simpa using e
   simp only [e2,if_neg e]
   exact yU4 n l (j + 1) (j0 + 1)
theorem yUR (n : Int) : ∀ {l : List (Int × Int)} {j : Nat} {p : Nat × Int},yUu n j l = some p → j ≤ p.1 ∧ l[p.1 - j]? = some (n,p.2)
 | [],j,p,h=>by cases h
 | q :: l,j,p,h=>by
  simp only [yUu] at h
  split at h
  ·rename_i e
   cases h
   refine ⟨Nat.le_refl _,?_⟩
   simp [e]
  ·obtain ⟨h1,h2⟩:=yUR n h
   refine ⟨by omega,?_⟩
   rw [show p.1 - j = (p.1 - (j + 1)) + 1 by omega]
   simpa using h2
theorem Repr.map (h : Repr g s a w blk) {id b : Nat} {kvs : List (Int × Int)} (hO : s.ob id = .mp kvs) (hb : blk id = some b) :
 w.heap[b]? = some (.map (mpL 0 kvs).toArray kvs.length) ∧ ∀ p,p ∈ kvs → inI p.1 ∧ inI p.2:=by
 have h0:=h.objs id
 rw [show s.objs id = _ from hO] at h0
 obtain ⟨g1,e1,e2,e3⟩:=h0
 rw [hb] at e1; cases e1
 exact ⟨e2,e3⟩
theorem Repr.yVm (h : Repr g s a w blk) {id b : Nat} {kvs kvs' : List (Int × Int)} (hO : s.ob id = .mp kvs) (hb : blk id = some b) (hin : ∀ p,p ∈ kvs' → inI p.1 ∧ inI p.2) :
 Repr g (s.yat id (.mp kvs')) a { w with heap:=w.heap.setIfInBounds b (.map (mpL 0 kvs').toArray kvs'.length) } blk:=by
 obtain ⟨hm,_⟩:=h.map hO hb
 have hO' : s.objs id = .mp kvs:=hO
 have hlive : s.objs id ≠ .none:=by rw [hO']; simp
 have hlt:=yw0 hm
 have hup : ∀ i,(s.yat id (.mp kvs')).objs i = if i = id then .mp kvs' else s.objs i:=fun i=>rfl
 have hoff : Off (fun q=>q = b) w { w with heap:=w.heap.setIfInBounds b (.map (mpL 0 kvs').toArray kvs'.length) }:=by
  refine ⟨rfl,rfl,rfl,by simp,fun k _ hk=>?_,fun k arr e hk hc=>?_⟩
  ·show (w.heap.setIfInBounds b _)[k]? = _
   rw [Array.getElem?_setIfInBounds,if_neg (fun e=>hk e.symm)]
  ·have hk : k = b:=hk
   subst hk
   rw [hm] at hc; cases hc
 have key:=(h.ywN [] (fun i=>i = id) (objs':=(s.yat id (.mp kvs')).objs) (L':=blk) (X:=fun q=>q = b) hoff
  (fun q hq=>⟨id,.inl rfl,hlive,.inl (by rw [hq]; exact hb)⟩)
  (fun i hi=>⟨by rw [hup,if_neg hi]; simp [Obj.ydm],rfl,rfl⟩)
  (fun i b' hi _ hf=>.inl ⟨i,.inl hi,by rw [hi]; exact hlive,hf⟩)
  (fun i j b' hi hj _ _ _ _=>hi.trans hj.symm)
  (fun i b' hi _ hr=>h.apart i b' (by rw [hi]; exact hlive) hr)
  (fun i hi _ _=>by
   subst hi
   rw [hup,if_pos rfl,hO']
   exact ⟨trivial,rfl⟩)
  (fun i k v' rows hi _ hk=>by
   subst hi
   rw [hO'] at hk; cases hk)
  (fun G' K hN hM i hi=>by
   subst hi
   rw [hup,if_pos rfl]
   refine ⟨b,hb,?_,hin⟩
   show (w.heap.setIfInBounds b _)[b]? = _
   rw [Array.getElem?_setIfInBounds,if_pos rfl,if_pos hlt])).1
 exact key
theorem Repr.allocMap (h : Repr g s a w blk) {d : Nat} (hd : s.ob d = .none) :
 Repr g ⟨s.env,upd d (.mp []) s.objs⟩ a (w.alloc (.map #[] 0)) (blk.upd d (some w.heap.size) noF):=by
 have hO : ∀ i,upd d (.mp []) s.objs i = if i = d then .mp [] else s.objs i:=fun i=>rfl
 have hd' : s.objs d = .none:=hd
 have hoff : Off noF w (w.alloc (.map #[] 0)):=(Off.refl noF w).alloc _
 refine h.turn [] (fun i=>i = d) hoff (fun q hq=>hq.elim) (fun i hi=>?_) (fun i b hi _ hf=>?_) (fun i j b hi hj _ _ _ _=>hi.trans hj.symm) (fun i b hi _ hr=>?_) (fun i hi _ hl=>?_) (fun i k v rows hi _ hk=>?_) (fun G' K i hi=>?_)
 ·exact ⟨by simp [hO,hi,Obj.ydm],by rw [Lay.yaG,if_neg hi],by rw [Lay.ybI,if_neg hi]⟩
 ·subst hi
  rw [Lay.yn2,if_pos rfl] at hf
  rcases hf with hf | hf
  ·cases hf; exact .inr ⟨Nat.le_refl _,by simp⟩
  ·exact hf.elim
 ·subst hi
  rw [Lay.ybI,if_pos rfl]; exact id
 ·subst hi; exact absurd hd' hl
 ·subst hi; rw [hd'] at hk; cases hk
 ·subst hi
  rw [hO,if_pos rfl,Lay.ybI,if_pos rfl,Lay.yaG,if_pos rfl]
  exact ⟨_,rfl,heap_alloc_new w _,fun p hp=>by cases hp⟩
theorem yVr (h : Repr g s a w blk) (hd : ∀ i,o.dst = some i → i < g.N) {t : TypeId} (ho : o.op = .makeMap t none) (hK : newP s o.dst (.mp []) (fun d=>.mpr d) K) : yN P g o a w K:=by
 unfold newP at hK
 split at hK
 ·rename_i d hdst
  obtain ⟨h0,hK⟩:=hK
  have:=h.allocMap (d:=d) (ydG h0)
  refine ⟨.value (.map (some w.heap.size)),w.alloc (.map #[] 0),?_,_,blk.upd d (some w.heap.size) noF,hK,?_⟩
  ·simp [execOp,ho,Instr.makeMap]
  ·have hput:=this.put (d:=some d) (v:=.map (some w.heap.size)) (x:=.mpr d) (by rw [← hdst]; exact hd) ⟨w.heap.size,[],by simp [upd],by show (blk.upd _ _ _).root d = _; rw [Lay.yaG,if_pos rfl],rfl⟩
   rw [hdst]
   exact hput
 ·exact hK.elim
theorem yUZ {t : TypeId} (h : yUV P t = true) : ∃ k e,P.underlying t = some (.map k e) ∧ P.underlying k = some (.int .i64) ∧ ∀ w : World,(zeroValue e).run P w = .ok (.int .i64 0) w:=by
 unfold yUV at h
 split at h
 ·rename_i k e ht
  rw [Bool.and_eq_true] at h
  obtain ⟨h1,h2⟩:=h
  refine ⟨k,e,ht,?_,fun w=>?_⟩
  ·split at h1
   ·assumption
   ·cases h1
  ·split at h2
   ·rename_i i hi
    split at h2
    ·rename_i hz
     simp [zeroValue,typeInfo,hi,hz]
    ·cases h2
   ·cases h2
 ·cases h
theorem yVp (h : Repr g s a w blk) (hd : ∀ i,o.dst = some i → i < g.N) {t : TypeId} {p q r : Operand} {xp xq xr : X} (ho : o.op = .mapUpdate t p q r) (ht : yUV P t = true) (hp : cx p = some xp) (hq : cx q = some xq) (hr : cx r = some xr)
 (hK : yVb s (s.ev xp) (s.ev xq) (s.ev xr) fun s'=>K (s'.put o.dst .und)) : yN P g o a w K:=by
 have ep:=h.ev hp; have eq:=h.ev hq; have er:=h.ev hr
 obtain ⟨kt,et,ht1,ht2,ht3⟩:=yUZ ht
 unfold yVb at hK
 split at hK
 case h_2=>exact hK.elim
 rename_i id n v hx hy hz
 rw [hx] at ep; rw [hy] at eq; rw [hz] at er
 obtain ⟨b,kvs',hO',hb,e1⟩:=ep
 obtain ⟨e2,hn⟩:=eq.int
 obtain ⟨e3,hv⟩:=er.int
 split at hK
 case h_2=>exact hK.elim
 rename_i kvs hO
 obtain ⟨hm,hin⟩:=h.map hO hb
 have hfind:=MapKept.run_findKey (w:=w) ht2 (yU4 n kvs 0 0)
 have hchk:=MapKept.run_checkKey (P:=P) (w:=w) (k:=.int .i64 n) ht2 rfl false 9999
 cases hf : yUu n 0 kvs with
 | some r =>
  obtain ⟨j1,j2⟩:=yUR n hf
  rw [Nat.sub_zero] at j2
  have j3:=yVf (j:=0) j2
  rw [Nat.zero_add] at j3
  have hkt:=MapKept.run_keyThatStays (P:=P) (w:=w) (d:=.int .i64) (k:=.int .i64 n) rfl
  have he : yUP n v kvs = yUF kvs r.1 v:=by unfold yUP; rw [hf]
  rw [he] at hK
  have hk2 : (yUF kvs r.1 v).length = kvs.length:=by simp [yUF]
  have hmod : (mpL 0 kvs).modify r.1 (fun e=>{ e with key:=.int .i64 n,val:=.int .i64 v }) = mpL 0 (yUF kvs r.1 v):=by
   rw [yVe]
   apply List.ext_getElem?
   intro i
   rw [List.getElem?_modify,List.getElem?_modify]
   split
   ·rename_i e; subst e; rw [j3]; rfl
   ·rfl
  have hset:=MapKept.run_setObj_map (P:=P) (.map (mpL 0 (yUF kvs r.1 v)).toArray kvs.length) hm
  have hr2:=h.yVm (kvs':=yUF kvs r.1 v) hO hb (fun p hp=>by
   unfold yUF at hp
   obtain ⟨i,hi⟩:=List.getElem?_of_mem hp
   rw [List.getElem?_modify] at hi
   cases hg : kvs[i]? with
   | none=>rw [hg] at hi; split at hi <;> cases hi
   | some q =>
    rw [hg] at hi
    have hq:=hin q (List.mem_of_getElem? hg)
    split at hi
    ·cases hi; exact ⟨hq.1,hv⟩
    ·cases hi; exact hq)
  rw [hk2] at hr2
  rw [hf] at hfind
  simp only [Option.map_some] at hfind
  refine ⟨.skip,_,?_,_,blk,hK,hr2.put (v:=undef) (x:=.und) hd (show undef = undef from rfl)⟩
  simp [execOp,ho,e1,e2,e3,Instr.mapUpdate,run_underlying ht1,MapKept.run_getObj_map hm,hchk,hfind,j3,hkt,hmod,hset,Result.andThen]
 | none =>
  have he : yUP n v kvs = kvs ++ [(n,v)]:=by unfold yUP; rw [hf]
  rw [he] at hK
  rw [hf] at hfind
  simp only [Option.map_none] at hfind
  have hset:=MapKept.run_setObj_map (P:=P) (.map (mpL 0 (kvs ++ [(n,v)])).toArray (kvs.length + 1)) hm
  have hpush : mpL 0 kvs ++ [⟨.int .i64 n,.int .i64 v,kvs.length⟩] = mpL 0 (kvs ++ [(n,v)]):=by
   rw [yVc,Nat.zero_add]
  have hr2:=h.yVm (kvs':=kvs ++ [(n,v)]) hO hb (fun p hp=>by
   rcases List.mem_append.1 hp with h | h
   ·exact hin p h
   ·rw [List.mem_singleton.1 h]; exact ⟨hn,hv⟩)
  rw [List.length_append] at hr2
  refine ⟨.skip,_,?_,_,blk,hK,hr2.put (v:=undef) (x:=.und) hd (show undef = undef from rfl)⟩
  simp [execOp,ho,e1,e2,e3,Instr.mapUpdate,run_underlying ht1,MapKept.run_getObj_map hm,hchk,hfind,hpush,hset,Result.andThen]
theorem yWa {fn : Func} {n : Nat} (h : yWc fn = some n) : fn.body.isNone = true ∧ (fn.name == "runtime.NumGoroutine") = false ∧ Extern.findNext fn = none ∧ Extern.find fn = some (if n = 0 then Extern.BytealgCount.count else Extern.BytealgIndexByte.indexByte):=by
 unfold yWc at h
 split at h
 ·rename_i hb
  rw [Bool.and_eq_true,beq_iff_eq] at hb
  obtain ⟨hb,ho⟩:=hb
  split at h
  ·rename_i hn
   rw [beq_iff_eq] at hn
   cases h
   refine ⟨hb,by rw [hn]; decide,?_,?_⟩
   ·unfold Extern.findNext; rw [hn,ho]; kernel_rfl
   ·unfold Extern.find; rw [hn,ho]; kernel_rfl
  ·split at h
   ·rename_i hn
    rw [beq_iff_eq] at hn
    cases h
    refine ⟨hb,by rw [hn]; decide,?_,?_⟩
    ·unfold Extern.findNext; rw [hn,ho]; kernel_rfl
    ·unfold Extern.find; rw [hn,ho]; kernel_rfl
   ·cases h
 ·cases h
theorem yV6 (l : List UInt8) (c : UInt8) : Lib.indexByte l c ≤ l.length:=by
 induction l with
 | nil=>simp [Lib.indexByte]
 | cons b l ih =>
  unfold Lib.indexByte
  split
  ·simp; omega
  ·split
   ·simp; omega
   ·simp only [List.length_cons]; omega
theorem yWe (h : Repr g s a w blk) (hd : ∀ i,o.dst = some i → i < g.N) {f n : Nat} {fn : Func} {p q : Operand} {ts : Array TypeId} {xp xq : X} (ho : o.op = .call { callee:=.value (.func f),args:=#[p,q],argTypes:=ts })
 (hf : P.funcs[f]? = some fn) (he : yWc fn = some n) (hp : cx p = some xp) (hq : cx q = some xq) (hK : yV9 n (s.ev xp) (s.ev xq) fun v=>K (s.put o.dst v)) : yN P g o a w K:=by
 have ep:=h.ev hp; have eq:=h.ev hq
 obtain ⟨h1,h2,h3,h4⟩:=yWa he
 unfold yV9 at hK
 split at hK
 case h_2=>exact hK.elim
 rename_i bs c hx hy
 rw [hx] at ep; rw [hy] at eq
 generalize hvp : a.eval p = vp at ep
 generalize hvq : a.eval q = vq at eq
 have ep : Rd w (Good g s.objs blk w) vp (.s bs):=ep
 have eq : Rd w (Good g s.objs blk w) vq (.u c):=eq
 cases ep with
 | s hs =>
  cases eq with
  | u hc =>
   have e1 : a.eval (.func f) = .func (.func f) #[] #[]:=rfl
   have e2 : (c : Int).toNat.toUInt8 = c.toUInt8:=rfl
   have hlen : bs.data.toList.length = bs.size:=rfl
   have r1 : Lib.countByte bs.data.toList c.toUInt8 ≤ bs.data.toList.length:=List.count_le_length
   have r2:=yV6 bs.data.toList c.toUInt8
   have r3:=Lib.indexByte_ge bs.data.toList c.toUInt8
   unfold maxLen at hs
   refine yN.val h hd (v:=.int .i64 (if n = 0 then (Lib.countByte bs.data.toList c.toUInt8 : Int) else Lib.indexByte bs.data.toList c.toUInt8)) ?_ (.mkI ?_) hK
   ·by_cases hn : n = 0
    ·rw [if_pos hn] at h4
     simp [execOp,ho,resolve,Deferred.ofValue,e1,invoke,hvp,hvq,run_callFunc_extern hf h2 h1 h3 h4,Lib.run_countString,Result.andThen,hn]
    ·rw [if_neg hn] at h4
     simp [execOp,ho,resolve,Deferred.ofValue,e1,invoke,hvp,hvq,run_callFunc_extern hf h2 h1 h3 h4,Lib.run_indexByteString,Result.andThen,hn]
   ·unfold inI
    split <;> omega
theorem yVs (h : Repr g s a w blk) (hd : ∀ i,o.dst = some i → i < g.N) {t : TypeId} {p q : Operand} {xp xq : X} (ho : o.op = .lookup t p q false) (ht : yUV P t = true) (hp : cx p = some xp) (hq : cx q = some xq)
 (hK : yVa s (s.ev xp) (s.ev xq) fun v=>K (s.put o.dst v)) : yN P g o a w K:=by
 have ep:=h.ev hp; have eq:=h.ev hq
 obtain ⟨kt,et,ht1,ht2,ht3⟩:=yUZ ht
 unfold yVa at hK
 split at hK
 case h_2=>exact hK.elim
 rename_i id n hx hy
 rw [hx] at ep; rw [hy] at eq
 obtain ⟨b,kvs',hO',hb,e1⟩:=ep
 obtain ⟨e2,hn⟩:=eq.int
 split at hK
 case h_2=>exact hK.elim
 rename_i kvs hO
 obtain ⟨hm,hin⟩:=h.map hO hb
 have hfind:=MapKept.run_findKey (w:=w) ht2 (yU4 n kvs 0 0)
 have hchk:=fun em=>MapKept.run_checkKey (P:=P) (w:=w) (k:=.int .i64 n) ht2 rfl em 9999
 have hv : inI (yUz n kvs):=by
  unfold yUz
  cases hr : yUu n 0 kvs with
  | none=>simp only; unfold inI; omega
  | some r =>
   obtain ⟨j1,j2⟩:=yUR n hr
   exact (hin _ (List.mem_of_getElem? j2)).2
 refine yN.val h hd (v:=.int .i64 (yUz n kvs)) ?_ (RVs.mkI hv) hK
 unfold yUz
 cases hr : yUu n 0 kvs with
 | none =>
  rw [hr] at hfind
  simp [execOp,ho,e1,e2,Instr.lookup,run_underlying ht1,MapKept.run_getObj_map hm,hchk,hfind,ht3,Result.andThen]
 | some r =>
  rw [hr] at hfind
  simp [execOp,ho,e1,e2,Instr.lookup,run_underlying ht1,MapKept.run_getObj_map hm,hchk,hfind,Result.andThen]
end
end Go.Proofs.YtpiplmnecmkafaaGreat
namespace Go.Proofs.YtpiplmnecmkafaaGreat
open Go.RowKit
section
variable {P : Program} {g : Ghost} {o : Oper} {s : St} {a : Act} {w : World} {blk : Lay} {K : St → Prop}
theorem yj2 (off : Nat) : ∀ (vs : List Value) (n : Nat) (cs : Array Value),((vs.zipIdx n).foldl (fun (cs : Array Value) (p : Value × Nat)=>cs.setIfInBounds (off + p.2) p.1) cs).size = cs.size ∧
 ∀ j,off + n + vs.length ≤ cs.size → ((vs.zipIdx n).foldl (fun (cs : Array Value) (p : Value × Nat)=>cs.setIfInBounds (off + p.2) p.1) cs)[j]? = if off + n ≤ j ∧ j < off + n + vs.length then vs[j - (off + n)]? else cs[j]?
 | [],n,cs=>⟨rfl,fun j _=>by rw [if_neg (by simp)]; rfl⟩
 | v :: vs,n,cs=>by
  obtain ⟨h1,h2⟩:=yj2 off vs (n + 1) (cs.setIfInBounds (off + n) v)
  simp only [List.zipIdx_cons,List.foldl_cons]
  refine ⟨by rw [h1]; simp,fun j hj=>?_⟩
  rw [h2 j (by simp at hj ⊢; omega)]
  simp only [List.length_cons] at hj ⊢
  by_cases e1 : off + (n + 1) ≤ j ∧ j < off + (n + 1) + vs.length
  ·rw [if_pos e1,if_pos (by omega)]
   rw [show j - (off + n) = (j - (off + (n + 1))) + 1 from by omega,List.getElem?_cons_succ]
  ·rw [if_neg e1,Array.getElem?_setIfInBounds]
   by_cases e2 : off + n = j
   ·rw [if_pos e2,if_pos (by omega),if_pos (by omega),← e2,Nat.sub_self]; rfl
   ·rw [if_neg e2,if_neg (by omega)]
theorem yr0 (off : Nat) (cs cells : Array Value) (h : off + cs.size ≤ cells.size) :
 (cs.zipIdx.foldl (fun cs (c,j)=>cs.setIfInBounds (off + j) c) cells).size = cells.size ∧
 ∀ j : Nat,(cs.zipIdx.foldl (fun cs (c,j)=>cs.setIfInBounds (off + j) c) cells)[j]? = if off ≤ j ∧ j < off + cs.size then cs[j - off]? else cells[j]?:=by
 have e : cs.zipIdx.foldl (fun cs (c,j)=>cs.setIfInBounds (off + j) c) cells = (cs.toList.zipIdx 0).foldl (fun (cs : Array Value) (p : Value × Nat)=>cs.setIfInBounds (off + p.2) p.1) cells:=by
  rw [← Array.foldl_toList]; simp
 obtain ⟨h1,h2⟩:=yj2 off cs.toList 0 cells
 rw [e]
 refine ⟨h1,fun j=>?_⟩
 rw [h2 j (by simpa using h)]
 simp
theorem yuJ (h : Repr g s a w blk) {places : List (Nat × Nat)} : ∀ (parts : List (Nat × Operand)) (ps : List (Nat × Nat × X)) (l : List AV) (cells : Array Value) (K : List AV → Prop),yy9 places parts = some ps →
 cells.size = l.length → (∀ (j : Nat) (x : AV),l[j]? = some x → ∃ u,cells[j]? = some u ∧ RV1 w (Good g s.objs blk w) s.objs blk u x) → yfh s ps l K →
 ∃ (l' : List AV) (cells' : Array Value),K l' ∧ Instr.fill (fun i=>places[i]?) cells (parts.map fun p=>(p.1,a.eval p.2)) = some cells' ∧ cells'.size = l'.length ∧
  ∀ (j : Nat) (x : AV),l'[j]? = some x → ∃ u,cells'[j]? = some u ∧ RV1 w (Good g s.objs blk w) s.objs blk u x
 | [],ps,l,cells,K,hb,hs,hr,hK=>by
  cases hb
  exact ⟨l,cells,hK,rfl,hs,hr⟩
 | (i,o) :: parts,ps,l,cells,K,hb,hs,hr,hK=>by
  simp only [yy9] at hb
  split at hb
  ·rename_i off n x xs h1 h2 h3
   cases hb
   obtain ⟨k1,k2,k3,hK⟩:=hK
   obtain ⟨c1,c2⟩:=yhP (h.ev h2) k2
   obtain ⟨f1,f2⟩:=yr0 off (a.eval o).cells cells (by omega)
   obtain ⟨l',cells',r1,r2,r3,r4⟩:=yuJ h parts xs _ ((a.eval o).cells.zipIdx.foldl (fun cs (c,j)=>cs.setIfInBounds (off + j) c) cells) K h3 (by rw [f1]; simp; omega) (by
    intro j y hy
    rw [f2]
    rw [yfq l _ off n k1 k3] at hy
    by_cases e1 : j < off
    ·rw [if_pos e1] at hy; rw [if_neg (by omega)]; exact hr j y hy
    ·rw [if_neg e1] at hy
     by_cases e2 : j < off + n
     ·rw [if_pos e2] at hy; rw [if_pos (by omega)]
      obtain ⟨u,hu,hru⟩:=c2 _ y hy
      exact ⟨u,by simpa using hu,hru⟩
     ·rw [if_neg e2] at hy; rw [if_neg (by omega)]; exact hr j y hy) hK
   refine ⟨l',cells',r1,?_,r3,r4⟩
   simp only [List.map_cons,Instr.fill,h1]
   rw [if_neg (by simp; omega)]
   exact r2
  ·cases hb
theorem yC2 (h : Repr g s a w blk) (hd : ∀ i,o.dst = some i → i < g.N) {t : TypeId} {it : TypeInfo} {fields : Array Field} {z : Value} {parts : Array (Nat × Operand)} {places : List (Nat × Nat)} {ps : List (Nat × Nat × X)} {zs : List AV}
 (ho : o.op = .build t parts) (hi : P.info? t = some it) (ht : P.underlying t = some (.struct fields)) (hz : it.zero = some z) (hp : fields.toList.mapM (fun f=>(P.info? f.type).map fun i=>(f.offset,i.size)) = some places)
 {ks : List Nat} (hb : yy9 places parts.toList = some ps) (hzs : yer z.cells.toList ks = some zs) (hK : yfh s ps zs fun l=>K (s.put o.dst (.agg l))) : yN P g o a w K:=by
 obtain ⟨c1,c2⟩:=yhQ hzs
 obtain ⟨l',cells',r1,r2,r3,r4⟩:=yuJ h parts.toList ps zs z.cells _ hb (by simpa using c1.symm) (fun j x hx=>by
  obtain ⟨u,k,hu,hr⟩:=c2 j x hx
  exact ⟨u,by simpa using hu,ylF hr⟩) hK
 have hbuilt : P.built t (parts.map fun (i,x)=>(i,a.eval x)).toList = some cells':=by
  simp only [Program.built,hi,ht,hz,hp]
  simpa using r2
 have hr:=run_build (P:=P) w t (parts.map fun (i,x)=>(i,a.eval x)) cells' hbuilt
 refine yN.ycR h hd r1 (v:=.agg cells') ?_ ⟨cells',rfl,r3,r4⟩
 simp only [execOp,ho,Sem.run_bind,hr,Result.andThen_ok,Sem.run_pure]
theorem yp6 (k : Nat) : ∀ (vs : List Value) (m : Nat) (cells : Array Value),(∀ v ∈ vs,v.cells.size = k) → cells.size = (m + vs.length) * k →
 ∃ cells' : Array Value,Instr.fill (fun i=>some (i * k,k)) cells ((vs.zipIdx m).map fun p=>(p.2,p.1)) = some cells' ∧ cells'.size = cells.size ∧ (∀ j,j < m * k → cells'[j]? = cells[j]?) ∧
  ∀ (i : Nat) (v : Value) (j : Nat),vs[i]? = some v → j < k → cells'[(m + i) * k + j]? = v.cells[j]?
 | [],m,cells,_,_=>⟨cells,rfl,rfl,fun _ _=>rfl,fun i v j h=>by simp at h⟩
 | v :: vs,m,cells,hk,hs=>by
  have hv:=hk v (by simp)
  have hmul : (m + (vs.length + 1)) * k = m * k + k + vs.length * k:=by rw [Nat.add_mul,Nat.add_mul,Nat.one_mul]; omega
  simp only [List.length_cons] at hs
  obtain ⟨f1,f2⟩:=yr0 (m * k) v.cells cells (by omega)
  obtain ⟨cells',r1,r2,r3,r4⟩:=yp6 k vs (m + 1) (v.cells.zipIdx.foldl (fun cs (c,j)=>cs.setIfInBounds (m * k + j) c) cells) (fun u hu=>hk u (by simp [hu])) (by rw [f1,hs]; congr 1; omega)
  have hm1 : (m + 1) * k = m * k + k:=by rw [Nat.add_mul,Nat.one_mul]
  refine ⟨cells',?_,by rw [r2,f1],fun j hj=>?_,fun i u j hu hj=>?_⟩
  ·simp only [List.zipIdx_cons,List.map_cons,Instr.fill]
   rw [if_neg (by simp; omega)]
   exact r1
  ·rw [r3 j (by omega),f2 j,if_neg (by omega)]
  ·cases i with
   | zero =>
    simp at hu; subst hu
    rw [Nat.add_zero,r3 _ (by omega),f2,if_pos (by omega)]
    congr 1; omega
   | succ i =>
    have:=r4 i u j (by simpa using hu) hj
    rw [show m + 1 + i = m + (i + 1) from by omega] at this
    exact this
theorem ypY : ∀ (parts : List (Nat × Operand)) (m : Nat) (xs : List X),ypr m parts = some xs → xs.length = parts.length ∧ (parts.map fun p=>(p.1,a.eval p.2)) = (((parts.map fun p=>a.eval p.2).zipIdx m).map fun p=>(p.2,p.1)) ∧ cxs (parts.map (·.2)) = some xs
 | [],m,xs,h=>by cases h; exact ⟨rfl,rfl,rfl⟩
 | (i,o) :: parts,m,xs,h=>by
  simp only [ypr] at h
  split at h
  ·rename_i e
   split at h
   ·rename_i x xs' h1 h2
    cases h
    obtain ⟨r1,r2,r3⟩:=ypY parts (m + 1) xs' h2
    subst e
    refine ⟨by simp [r1],by simp only [List.map_cons,List.zipIdx_cons]; rw [r2],by simp only [List.map_cons,cxs,h1,r3]⟩
   ·cases h
  ·cases h
theorem yAD {x : AV} {r : List C} {v : Value} (h : RVs g s w blk v x) (hx : x.rowOf = some r) : v.cells.size = r.length ∧ ∀ (j : Nat) (c : C),r[j]? = some c → ∃ u,v.cells[j]? = some u ∧ Rd w (Good g s.objs blk w) u c:=by
 obtain ⟨h1,h2⟩:=ynY hx
 have hok : x.cellsOf.all AV.yaE = true:=by
  rw [List.all_eq_true]
  intro y hy
  obtain ⟨j,hj⟩:=List.getElem?_of_mem hy
  have hjl : j < r.length:=by rw [h1]; exact (List.getElem?_eq_some_iff.1 hj).1
  obtain ⟨y',h3,h4⟩:=h2 j _ (List.getElem?_eq_getElem hjl)
  rw [hj] at h3; cases h3
  cases y <;> simp [AV.toC] at h4 <;> rfl
 obtain ⟨c1,c2⟩:=yhP h hok
 refine ⟨by omega,fun j c hj=>?_⟩
 obtain ⟨y,h3,h4⟩:=h2 j c hj
 obtain ⟨u,hu,hr⟩:=c2 j y h3
 exact ⟨u,by simpa using hu,yjr hr h4⟩
theorem ypg : ∀ {l : List AV} {rows : List (List C)},AV.rowsOf l = some rows → rows.length = l.length ∧ ∀ (j : Nat) (r : List C),rows[j]? = some r → ∃ x,l[j]? = some x ∧ x.rowOf = some r
 | [],cs,h=>by cases h; exact ⟨rfl,fun j c hj=>by simp at hj⟩
 | x :: l,cs,h=>by
  simp only [AV.rowsOf] at h
  split at h
  ·rename_i c1 cs1 h1 h2
   cases h
   obtain ⟨hl,hg⟩:=ypg h2
   refine ⟨by simp [hl],fun j c hj=>?_⟩
   cases j with
   | zero=>simp at hj; subst hj; exact ⟨x,rfl,h1⟩
   | succ j=>exact hg j c (by simpa using hj)
  ·cases h
theorem yn5 {s : St} : ∀ {l : List AV} {p : List C × List Nat},pkl s l = some p → l.all AV.yaE = true
 | [],_,_=>rfl
 | x :: l,p,h=>by
  simp only [pkl] at h
  split at h
  ·rename_i c a cs as h1 h2
   have:=yn5 h2
   have hx : x.yaE = true:=by
    revert h1
    cases x <;> simp [pk1,AV.yaE]
   simp [hx,this]
  ·cases h
theorem yzQ (h : Repr g s a w blk) : ∀ {l : List AV} {us : List Value} {rows : List (List C)} {ids : List Nat},pks s l = some (rows,ids) →
 (∀ (j : Nat) (x : AV),l[j]? = some x → ∃ u,us[j]? = some u ∧ RVs g s w blk u x) → ids.Nodup →
 ∃ Fs : Nat → Nat → Nat → Prop,rows.length = l.length ∧ (∀ (i : Nat) (r : List C),rows[i]? = some r → ∃ u,us[i]? = some u ∧ u.cells.size = r.length ∧ ∀ (j : Nat) (c : C),r[j]? = some c → ∃ z,u.cells[j]? = some z ∧ OT w (Good g s.objs blk w) z c (Fs i j)) ∧
  (∀ i j y,Fs i j y → ∃ i0,i0 ∈ ids ∧ s.objs i0 ≠ .none ∧ blk.fp i0 y) ∧ (∀ i j i' j' y,Fs i j y → Fs i' j' y → i = i' ∧ j = j')
 | [],us,rows,ids,hp,_,_=>by
  cases hp
  exact ⟨fun _ _=>noF,rfl,fun j c hj=>by simp at hj,fun _ _ _ h=>h.elim,fun _ _ _ _ _ h=>h.elim⟩
 | x :: l,us,rows,ids,hp,hv,hnd=>by
  simp only [pks] at hp
  split at hp
  ·rename_i c a1 cs1 as1 h1 h2
   cases hp
   obtain ⟨u0,hu0,hr0⟩:=hv 0 x rfl
   have hnd':=List.nodup_append.1 hnd
   obtain ⟨c1,c2⟩:=yhP hr0 (yn5 h1)
   obtain ⟨F0,f1,f2,f3,f4⟩:=yvJ h (us:=u0.cells.toList) h1 c2 hnd'.1
   obtain ⟨Fs,e1,e2,e3,e4⟩:=yzQ h (us:=us.tail) h2 (fun j y hj=>by
    obtain ⟨u,hu,hr⟩:=hv (j + 1) y (by simpa using hj)
    exact ⟨u,by simpa [List.getElem?_tail] using hu,hr⟩) hnd'.2.1
   refine ⟨fun i=>match i with | 0=>F0 | i + 1=>Fs i,by simp [e1],fun i r hi=>?_,fun i j y hy=>?_,fun i j i' j' y hy hy'=>?_⟩
   ·cases i with
    | zero =>
     simp at hi; subst hi
     refine ⟨u0,hu0,by omega,fun j c' hj=>?_⟩
     obtain ⟨z,hz,ho⟩:=f2 j c' hj
     exact ⟨z,by simpa using hz,ho⟩
    | succ i =>
     obtain ⟨u,hu,hr⟩:=e2 i r (by simpa using hi)
     exact ⟨u,by simpa [List.getElem?_tail] using hu,hr⟩
   ·cases i with
    | zero=>obtain ⟨i0,m1,m2⟩:=f3 j y hy; exact ⟨i0,List.mem_append_left _ m1,m2⟩
    | succ i=>obtain ⟨i0,m1,m2⟩:=e3 i j y hy; exact ⟨i0,List.mem_append_right _ m1,m2⟩
   ·have cross : ∀ j i j',F0 j y → Fs i j' y → False:=by
     intro j i j' q1 q2
     obtain ⟨i0,m1,m2,m3⟩:=f3 j y q1
     obtain ⟨i1,n1,n2,n3⟩:=e3 i j' y q2
     have:=h.inj i0 i1 y m2 n2 m3 n3
     subst this
     exact hnd'.2.2 i0 m1 i0 n1 rfl
    cases i with
    | zero=>cases i' with
     | zero=>exact ⟨rfl,f4 j j' y hy hy'⟩
     | succ i'=>exact (cross j i' j' hy hy').elim
    | succ i=>cases i' with
     | zero=>exact (cross j' i j hy' hy).elim
     | succ i'=>obtain ⟨q1,q2⟩:=e4 i j i' j' y hy hy'; exact ⟨by rw [q1],q2⟩
  ·cases hp
theorem St.yzp (l : List Nat) (s : St) (i : Nat) : (s.drops l).ob i = if i ∈ l then .none else (s.objs i).kills l:=St.ydR l s i
theorem Repr.yxU (h : Repr g s a w blk) {d k : Nat} {ids : List Nat} {rows : List (List C)} {arr : Array Value} {e : TypeId} (hd : (s.drops ids).ob d = .none) (hsz : rows.length * k ≤ arr.size) (hk : ∀ r,r ∈ rows → r.length = k) {Fs : Nat → Nat → Nat → Prop}
 (hot : ∀ (i : Nat) (r : List C),rows[i]? = some r → ∀ (j : Nat) (c : C),r[j]? = some c → ∃ u,arr[i * k + j]? = some u ∧ OT w (Good g s.objs blk w) u c (Fs i j))
 (hF : ∀ i j y,Fs i j y → ∃ i0,i0 ∈ ids ∧ s.objs i0 ≠ .none ∧ blk.fp i0 y) (hdis : ∀ i j i' j' y,Fs i j y → Fs i' j' y → i = i' ∧ j = j') :
 ∃ L' : Lay,L' d = some w.heap.size ∧ Repr g ⟨(s.drops ids).env,upd d (.tr k 0 rows) (s.drops ids).objs⟩ a (w.alloc (.cells arr e)) L':=by
 have hup : ∀ (o' : Obj) j,upd d o' (s.drops ids).objs j = if j = d then o' else (s.drops ids).objs j:=fun _ _=>rfl
 have hoff : Off noF w (w.alloc (.cells arr e)):=(Off.refl noF w).alloc _
 have henv : (s.drops ids).env = fun t=>(s.env t).kills ids:=by funext t; exact St.yjz ids s t
 have hdn : d ∉ ids → s.objs d = .none:=by
  intro hm
  rw [St.yzp,if_neg hm] at hd
  cases hs : s.objs d with
  | none=>rfl
  | _=>exact absurd hd ((Obj.ydO ids _).2 (by rw [hs]; simp))
 refine ⟨blk.upd d (some w.heap.size) (fun y=>∃ i0,i0 ∈ ids ∧ s.objs i0 ≠ .none ∧ blk.fp i0 y),by show (blk.upd _ _ _).root d = _; rw [Lay.yaG,if_pos rfl],?_⟩
 rw [henv]
 refine h.turn ids (fun j=>j = d) hoff (fun y hy=>hy.elim) (fun j hj=>?_) (fun j y hj _ hf=>?_) (fun j j' y hj hj' _ _ _ _=>hj.trans hj'.symm) (fun j y hj _ hr'=>?_) (fun j hj hm hl=>?_) (fun j k' v' rows' hj hm hk=>?_) (fun G' K j hj=>?_)
 ·exact ⟨by rw [hup,if_neg hj,St.ydR],by rw [Lay.yaG,if_neg hj],by rw [Lay.ybI,if_neg hj]⟩
 ·subst hj
  rw [Lay.yn2,if_pos rfl] at hf
  rcases hf with hf | ⟨i0,m1,m2,m3⟩
  ·cases hf; exact .inr ⟨Nat.le_refl _,by simp⟩
  ·exact .inl ⟨i0,.inr m1,m2,m3⟩
 ·subst hj
  rw [Lay.yaG,if_pos rfl] at hr'
  cases hr'
  rw [Lay.ybI,if_pos rfl]
  rintro ⟨i0,m1,m2,m3⟩
  have:=(h.new i0 _ m2 m3).2; omega
 ·subst hj; exact absurd (hdn hm) hl
 ·subst hj; rw [hdn hm] at hk; cases hk
 ·subst hj
  rw [hup,if_pos rfl,Lay.yaG,if_pos rfl,Lay.ybI,if_pos rfl]
  refine .inr ⟨_,arr,e,rfl,heap_alloc_new w _,hsz,hk,fun i2 j2=>(arr[i2 * k + j2]?).getD undef,Fs,fun i2 j2 y hy=>⟨hF i2 j2 y hy,?_⟩,hdis,fun i2 r hr j2 c hc=>?_,fun i2 r hr j2 c hc=>?_⟩
  ·obtain ⟨i0,m1,m2,m3⟩:=hF i2 j2 y hy
   have:=(h.new i0 y m2 m3).2
   omega
  ·obtain ⟨u,hu,_⟩:=hot i2 r hr j2 c hc
   dsimp only; rw [hu]; rfl
  ·obtain ⟨u,hu,ho⟩:=hot i2 r hr j2 c hc
   dsimp only; rw [hu]
   refine ho.mono K.good K.cell (fun _ h=>h) fun y hy=>?_
   obtain ⟨i0,m1,m2,m3⟩:=hF i2 j2 y hy
   exact Below.heap_alloc w _ y (h.new i0 y m2 m3).2
theorem yEF (h : Repr g s a w blk) (hd : ∀ i,o.dst = some i → i < g.N) {t e : TypeId} {i : TypeInfo} {z : Value} {n : Nat} {parts : Array (Nat × Operand)} {xs : List X} (ho : o.op = .buildSlice t n parts) (ht : P.underlying t = some (.slice e)) (hi : P.info? e = some i) (hz : i.zero = some z)
 (hx : ypr 0 parts.toList = some xs) (hn : xs.length = n) (hmax : n * i.size ≤ 1000) (hpos : 0 < i.size) (hK : ynF i.size (xs.map s.ev) s o.dst K) : yN P g o a w K:=by
 obtain ⟨p1,p2,p3⟩:=ypY (a:=a) parts.toList 0 xs hx
 obtain ⟨e1,e2⟩:=h.evs p3
 unfold ynF at hK
 split at hK
 ·rename_i rows hrows
  obtain ⟨hk,hK⟩:=hK
  obtain ⟨g1,g2⟩:=ypg hrows
  have hlen : rows.length = n:=by rw [g1,List.length_map,hn]
  have hvals : ∀ (q : Nat) (r : List C),rows[q]? = some r → ∃ v,((parts.toList.map (·.2)).map a.eval)[q]? = some v ∧ v.cells.size = r.length ∧ ∀ (j : Nat) (c : C),r[j]? = some c → ∃ u,v.cells[j]? = some u ∧ Rd w (Good g s.objs blk w) u c:=by
   intro q r hq
   obtain ⟨x,hx1,hx2⟩:=g2 q r hq
   obtain ⟨v,hv,hr⟩:=e2 q x hx1
   exact ⟨v,hv,yAD hr hx2⟩
  have hvl : ((parts.toList.map (·.2)).map a.eval).length = n:=by rw [e1,List.length_map,hn]
  obtain ⟨cells',f1,f2,f3,f4⟩:=yp6 i.size ((parts.toList.map (·.2)).map a.eval) 0 ((Array.range (n * i.size)).map ((if n * i.size = 0 then #[] else z.cells)[·% (if n * i.size = 0 then #[] else z.cells).size]!)) (by
   intro v hv
   obtain ⟨q,hq⟩:=List.getElem?_of_mem hv
   have hql : q < rows.length:=by rw [hlen,← hvl]; exact (List.getElem?_eq_some_iff.1 hq).1
   obtain ⟨v',h1,h2,_⟩:=hvals q _ (List.getElem?_eq_getElem hql)
   rw [hq] at h1; cases h1
   rw [h2]; exact hk _ (List.getElem_mem hql)) (by rw [Nat.zero_add,hvl]; simp)
  have hparts : parts.toList.map (fun x=>(x.1,a.eval x.2)) = ((((parts.toList.map (·.2)).map a.eval).zipIdx 0).map fun p=>(p.2,p.1)):=by
   rw [List.map_map]; exact p2
  rw [← hparts] at f1
  refine yhI h hd (v:=.slice (some ⟨w.heap.size,0,none⟩) n n) (arr:=cells') (e:=e) ?_ ?_ ?_ hK
  ·have hbig : ¬ (n * i.size > 2 ^ 24):=by omega
   by_cases h0 : n * i.size = 0
   ·simp only [h0,if_true,Array.range_zero',Array.map_empty] at f1
    simp [execOp,ho,Instr.buildSlice,run_underlying ht,ya4 hi,h0,f1,ydS,Array.range_zero']
   ·simp only [h0,if_false] at f1
    simp [execOp,ho,Instr.buildSlice,run_underlying ht,ya4 hi,h0,hbig,zeroValue,typeInfo,hi,hz,f1,ydS]
  ·intro w' G' O' blk' KK hh
   refine .inr ⟨_,_,_,rfl,hh,by rw [f2,hlen]; simp,hk,fun q r j c hq hj=>?_⟩
   obtain ⟨v,h1,h2,h3⟩:=hvals q r hq
   obtain ⟨u,hu,hr⟩:=h3 j c hj
   have hjk : j < i.size:=by rw [← hk r (List.mem_of_getElem? hq)]; exact (List.getElem?_eq_some_iff.1 hj).1
   have:=f4 q v j h1 hjk
   rw [Nat.zero_add] at this
   exact ⟨u,by rw [this]; exact hu,hr.mono KK.good KK.cell⟩
  ·intro d G' O' blk' hO hb hh
   refine ⟨_,by rw [hO]; rfl,Nat.le_refl _,.inr ⟨_,n,_,_,hb,by rw [hlen],by omega,?_,hh,by rw [f2]; simp⟩⟩
   have : n * 1 ≤ n * i.size:=Nat.mul_le_mul_left _ hpos
   unfold maxLen; omega
 ·split at hK
  case h_2=>exact hK.elim
  rename_i rows ids hpk
  obtain ⟨hk,hnd,hK⟩:=hK
  obtain ⟨Fs,g1,g2,g3,g4⟩:=yzQ h hpk e2 hnd
  have hlen : rows.length = n:=by rw [g1,List.length_map,hn]
  have hvl : ((parts.toList.map (·.2)).map a.eval).length = n:=by rw [e1,List.length_map,hn]
  obtain ⟨cells',f1,f2,f3,f4⟩:=yp6 i.size ((parts.toList.map (·.2)).map a.eval) 0 ((Array.range (n * i.size)).map ((if n * i.size = 0 then #[] else z.cells)[·% (if n * i.size = 0 then #[] else z.cells).size]!)) (by
   intro v hv
   obtain ⟨q,hq⟩:=List.getElem?_of_mem hv
   have hql : q < rows.length:=by rw [hlen,← hvl]; exact (List.getElem?_eq_some_iff.1 hq).1
   obtain ⟨v',h1,h2,_⟩:=g2 q _ (List.getElem?_eq_getElem hql)
   rw [hq] at h1; cases h1
   rw [h2]; exact hk _ (List.getElem_mem hql)) (by rw [Nat.zero_add,hvl]; simp)
  have hparts : parts.toList.map (fun x=>(x.1,a.eval x.2)) = ((((parts.toList.map (·.2)).map a.eval).zipIdx 0).map fun p=>(p.2,p.1)):=by
   rw [List.map_map]; exact p2
  rw [← hparts] at f1
  have hrun : (execOp a.eval o).run P w = .ok (.value (.slice (some ⟨w.heap.size,0,none⟩) n n)) (w.alloc (.cells cells' e)):=by
   have hbig : ¬ (n * i.size > 2 ^ 24):=by omega
   by_cases h0 : n * i.size = 0
   ·simp only [h0,if_true,Array.range_zero',Array.map_empty] at f1
    simp [execOp,ho,Instr.buildSlice,run_underlying ht,ya4 hi,h0,f1,ydS,Array.range_zero']
   ·simp only [h0,if_false] at f1
    simp [execOp,ho,Instr.buildSlice,run_underlying ht,ya4 hi,h0,hbig,zeroValue,typeInfo,hi,hz,f1,ydS]
  unfold newP at hK
  split at hK
  ·rename_i d hdst
   obtain ⟨hd0,hK⟩:=hK
   obtain ⟨L',hL,hre⟩:=h.yxU (d:=d) (k:=i.size) (arr:=cells') (e:=e) (Fs:=Fs) (ydG hd0) (by rw [f2,hlen]; simp) hk (fun i2 r hr j c hc=>by
    obtain ⟨v,h1,h2,h3⟩:=g2 i2 r hr
    obtain ⟨u,hu,ho⟩:=h3 j c hc
    have hjk : j < i.size:=by rw [← hk r (List.mem_of_getElem? hr)]; exact (List.getElem?_eq_some_iff.1 hc).1
    have:=f4 i2 v j h1 hjk
    rw [Nat.zero_add] at this
    exact ⟨u,by rw [this]; exact hu,ho⟩) g3 g4
   refine ⟨_,_,hrun,_,L',hK,?_⟩
   have hput:=hre.put (d:=some d) (v:=.slice (some ⟨w.heap.size,0,none⟩) n n) (x:=.own d i.size rows.length) (by rw [← hdst]; exact hd) (by
    refine ⟨rows.length,by simp [upd,Obj.ybP],Nat.le_refl _,.inr ⟨_,n,cells',e,hL,by rw [hlen],by omega,?_,heap_alloc_new w _,by rw [f2]; simp⟩⟩
    have : n * 1 ≤ n * i.size:=Nat.mul_le_mul_left _ hpos
    unfold maxLen; omega)
   rw [hdst]
   exact hput
  ·exact hK.elim
end
end Go.Proofs.YtpiplmnecmkafaaGreat
namespace Go.Proofs.YtpiplmnecmkafaaGreat
open Go.RowKit
theorem Rd.cut {w : World} {G : Nat → Prop} {ad : Option Addr} {len cap k : Nat} {rows : List (List C)} (h : Rd w G (.slice ad len cap) (.sl k rows)) {l q m : Nat} (h1 : l ≤ q) (h2 : q ≤ len) (h3 : q ≤ m) (h4 : m ≤ cap) :
 Rd w G (.slice (if m = l then ad else ad.map (·.add (l * k))) (q - l) (m - l)) (.sl k ((rows.take q).drop l)):=by
 cases h with
 | sl vals e1 e2 e3 e4 e5 e6 e7 =>
  have get : ∀ i r,((rows.take q).drop l)[i]? = some r → rows[l + i]? = some r ∧ l + i < q:=by
   intro i r hr
   rw [List.getElem?_drop,List.getElem?_take] at hr
   split at hr
   ·exact ⟨hr,‹_›⟩
   ·cases hr
  refine .sl (fun i j=>vals (l + i) j) (by simp; omega) (by omega) (by omega) (fun r hr=>?_) (fun hl=>?_) (fun i r hr j c hc=>?_) (fun i r hr j c hc=>?_)
  ·exact e4 r (List.mem_of_mem_take (List.mem_of_mem_drop hr))
  ·rw [if_neg (by omega)]
   have:=e5 (by omega)
   cases ad <;> simp_all
  ·obtain ⟨hr',hlt⟩:=get i r hr
   obtain ⟨ad',rfl,hg,hcell⟩:=e6 _ r hr' j c hc
   refine ⟨ad'.add (l * k),by rw [if_neg (by omega)]; rfl,by rw [block_add]; exact hg,?_⟩
   rw [add_add,← hcell]
   congr 2
   rw [Nat.add_mul]; omega
  ·exact e7 _ r (get i r hr).1 j c hc
section
variable {P : Program} {g : Ghost} {o : Oper} {s : St} {a : Act} {w : World} {blk : Lay} {K : St → Prop}
theorem ycC {n : Int} {y : Nat} {code : BoundsCode} (h0 : 0 ≤ n) (h1 : n ≤ y) (w : World) : (Instr.sliceBound (.int .i64 n) y code).run P w = .ok n.toNat w:=by
 simp [Instr.sliceBound,asIntOf,h0,h1]
theorem ytm {t e : TypeId} {i : TypeInfo} (ht : P.underlying t = some (.slice e)) (hi : P.info? e = some i) (ad : Option Addr) (len cap : Nat) {l h : Int} (h0 : 0 ≤ l) (h1 : l ≤ h) (h2 : h ≤ cap) (w : World) :
 (Instr.sliceAt t (.slice ad len cap) (some (.int .i64 l)) (some (.int .i64 h)) none).run P w = .ok (.slice (if cap = l.toNat then ad else ad.map (·.add (l.toNat * i.size))) (h.toNat - l.toNat) (cap - l.toNat)) w:=by
 have b1:=ycC (P:=P) (n:=h) (y:=cap) (code:=.sliceAcap) (by omega) h2 w
 have b2:=ycC (P:=P) (n:=l) (y:=h.toNat) (code:=.sliceB) h0 (by omega) w
 simp [Instr.sliceAt,Instr.slice,run_underlying ht,Instr.sliceBounds,b1,b2,ya4 hi]
theorem ykD {t e : TypeId} {i : TypeInfo} (ht : P.underlying t = some (.slice e)) (hi : P.info? e = some i) (ad : Option Addr) (len cap : Nat) {l : Int} (h0 : 0 ≤ l) (h1 : l ≤ len) (w : World) :
 (Instr.sliceAt t (.slice ad len cap) (some (.int .i64 l)) none none).run P w = .ok (.slice (if cap = l.toNat then ad else ad.map (·.add (l.toNat * i.size))) (len - l.toNat) (cap - l.toNat)) w:=by
 have b2:=ycC (P:=P) (n:=l) (y:=len) (code:=.sliceB) h0 h1 w
 simp [Instr.sliceAt,Instr.slice,run_underlying ht,Instr.sliceBounds,b2,ya4 hi]
theorem yif {t e : TypeId} {i : TypeInfo} (ht : P.underlying t = some (.slice e)) (hi : P.info? e = some i) (ad : Option Addr) (len cap : Nat) {h : Int} (h0 : 0 ≤ h) (h1 : h ≤ cap) (w : World) :
 (Instr.sliceAt t (.slice ad len cap) none (some (.int .i64 h)) none).run P w = .ok (.slice (if cap = 0 then ad else ad.map (·.add (0 * i.size))) h.toNat cap) w:=by
 have b1:=ycC (P:=P) (n:=h) (y:=cap) (code:=.sliceAcap) h0 h1 w
 simp [Instr.sliceAt,Instr.slice,run_underlying ht,Instr.sliceBounds,b1,ya4 hi]
theorem yqg {t e : TypeId} {i : TypeInfo} (ht : P.underlying t = some (.slice e)) (hi : P.info? e = some i) (ad : Option Addr) (len cap : Nat) {h m : Int} (h0 : 0 ≤ h) (h1 : h ≤ m) (h2 : m ≤ cap) (w : World) :
 (Instr.sliceAt t (.slice ad len cap) none (some (.int .i64 h)) (some (.int .i64 m))).run P w = .ok (.slice (if m.toNat = 0 then ad else ad.map (·.add (0 * i.size))) h.toNat m.toNat) w:=by
 have b1:=ycC (P:=P) (n:=m) (y:=cap) (code:=.slice3Acap) (by omega) h2 w
 have b2:=ycC (P:=P) (n:=h) (y:=m.toNat) (code:=.slice3B) h0 (by omega) w
 simp [Instr.sliceAt,Instr.slice,run_underlying ht,Instr.sliceBounds,b1,b2,ya4 hi]
theorem ycm (ad : Option Addr) (k : Nat) (c : Prop) [Decidable c] : (if c then ad else ad.map (·.add (0 * k))) = ad:=by
 rw [Nat.zero_mul]
 cases ad <;> simp [Addr.add]
theorem ytq (h : Repr g s a w blk) (hd : ∀ i,o.dst = some i → i < g.N) {t e : TypeId} {k : Nat} {p : Operand} {lo hi mx : Option Operand} {xp : X} {xl xh xm : Option X} (ho : o.op = .slice t p lo hi mx) (ht : P.underlying t = some (.slice e)) (hk : yfp P e = some k)
 (hp : cx p = some xp) (hl : ∀ y,lo = some y → ∃ x,xl = some x ∧ cx y = some x) (hh : ∀ y,hi = some y → ∃ x,xh = some x ∧ cx y = some x) (hm : ∀ y,mx = some y → ∃ x,xm = some x ∧ cx y = some x)
 (nl : lo = none → xl = none) (nh : hi = none → xh = none) (nm : mx = none → xm = none)
 (hK : yig k (s.ev xp) (xl.map s.ev) (xh.map s.ev) (xm.map s.ev) fun v=>K (s.put o.dst v)) : yN P g o a w K:=by
 obtain ⟨i,hi',rfl⟩:=yd7 hk
 have ep:=h.ev hp
 have rl : ∀ n : Int,xl.map s.ev = some (.c (.i n)) → lo.map a.eval = some (.int .i64 n):=by
  intro n hn
  cases lo with
  | none=>rw [nl rfl] at hn; cases hn
  | some y =>
   obtain ⟨x,rfl,hx⟩:=hl y rfl
   have:=h.ev hx
   simp only [Option.map_some,Option.some.injEq] at hn
   rw [hn] at this
   simp [this.int.1]
 have rh : ∀ n : Int,xh.map s.ev = some (.c (.i n)) → hi.map a.eval = some (.int .i64 n):=by
  intro n hn
  cases hi with
  | none=>rw [nh rfl] at hn; cases hn
  | some y =>
   obtain ⟨x,rfl,hx⟩:=hh y rfl
   have:=h.ev hx
   simp only [Option.map_some,Option.some.injEq] at hn
   rw [hn] at this
   simp [this.int.1]
 have rm : ∀ n : Int,xm.map s.ev = some (.c (.i n)) → mx.map a.eval = some (.int .i64 n):=by
  intro n hn
  cases mx with
  | none=>rw [nm rfl] at hn; cases hn
  | some y =>
   obtain ⟨x,rfl,hx⟩:=hm y rfl
   have:=h.ev hx
   simp only [Option.map_some,Option.some.injEq] at hn
   rw [hn] at this
   simp [this.int.1]
 have ul : xl.map s.ev = none → lo.map a.eval = none:=by
  intro hn
  cases lo with
  | none=>rfl
  | some y=>obtain ⟨x,rfl,hx⟩:=hl y rfl; cases hn
 have uh : xh.map s.ev = none → hi.map a.eval = none:=by
  intro hn
  cases hi with
  | none=>rfl
  | some y=>obtain ⟨x,rfl,hx⟩:=hh y rfl; cases hn
 have um : xm.map s.ev = none → mx.map a.eval = none:=by
  intro hn
  cases mx with
  | none=>rfl
  | some y=>obtain ⟨x,rfl,hx⟩:=hm y rfl; cases hn
 have run : ∀ r,(Instr.sliceAt t (a.eval p) (lo.map a.eval) (hi.map a.eval) (mx.map a.eval)).run P w = .ok r w → (execOp a.eval o).run P w = .ok (.value r) w:=by
  intro r hr
  simp only [execOp,ho,Sem.run_bind,hr,Result.andThen_ok,Sem.run_pure]
 revert hK ep rl rh rm ul uh um run
 generalize s.ev xp = vp; generalize a.eval p = v; generalize xl.map s.ev = vl; generalize xh.map s.ev = vh; generalize xm.map s.ev = vm
 generalize lo.map a.eval = ul; generalize hi.map a.eval = uh; generalize mx.map a.eval = um
 intro hK ep rl rh rm nl nh nm run
 unfold yig at hK
 split at hK
 ·rename_i k' rows l q
  obtain ⟨rfl,h0,h1,h2,hK⟩:=hK
  cases rl _ rfl; cases rh _ rfl; cases nm rfl
  obtain ⟨ad,len,cap,e1,hr⟩ : ∃ ad len cap,v = .slice ad len cap ∧ rows.length = len:=by
   cases ep.c; exact ⟨_,_,_,rfl,‹_›⟩
  subst e1
  have hlc : len ≤ cap:=by cases ep.c; assumption
  refine yN.ycR h hd hK (run _ (ytm ht hi' ad len cap h0 h1 (by omega) w)) (.mk ?_)
  exact Rd.cut ep.c (by omega) (by omega) (by omega) (Nat.le_refl _)
 ·rename_i k' rows l
  obtain ⟨rfl,h0,h1,hK⟩:=hK
  cases rl _ rfl; cases nh rfl; cases nm rfl
  obtain ⟨ad,len,cap,e1,hr⟩ : ∃ ad len cap,v = .slice ad len cap ∧ rows.length = len:=by
   cases ep.c; exact ⟨_,_,_,rfl,‹_›⟩
  subst e1
  have hlc : len ≤ cap:=by cases ep.c; assumption
  refine yN.ycR h hd hK (run _ (ykD ht hi' ad len cap h0 (by omega) w)) (.mk ?_)
  have:=Rd.cut ep.c (l:=l.toNat) (q:=len) (m:=cap) (by omega) (Nat.le_refl _) hlc (Nat.le_refl _)
  rwa [List.take_of_length_le (by omega)] at this
 ·rename_i k' rows q
  obtain ⟨rfl,h0,h1,hK⟩:=hK
  cases nl rfl; cases rh _ rfl; cases nm rfl
  obtain ⟨ad,len,cap,e1,hr⟩ : ∃ ad len cap,v = .slice ad len cap ∧ rows.length = len:=by
   cases ep.c; exact ⟨_,_,_,rfl,‹_›⟩
  subst e1
  have hlc : len ≤ cap:=by cases ep.c; assumption
  have hrun:=yif (P:=P) ht hi' ad len cap h0 (by omega) w
  rw [ycm] at hrun
  refine yN.ycR h hd hK (run _ hrun) (.mk ?_)
  have:=Rd.cut ep.c (l:=0) (q:=q.toNat) (m:=cap) (by omega) (by omega) (by omega) (Nat.le_refl _)
  rw [ycm] at this
  exact this
 ·rename_i k' rows q m
  obtain ⟨rfl,h0,rfl,h1,hK⟩:=hK
  cases nl rfl; cases rh _ rfl; cases rm _ rfl
  obtain ⟨ad,len,cap,e1,hr⟩ : ∃ ad len cap,v = .slice ad len cap ∧ rows.length = len:=by
   cases ep.c; exact ⟨_,_,_,rfl,‹_›⟩
  subst e1
  have hlc : len ≤ cap:=by cases ep.c; assumption
  have hrun:=yqg (P:=P) ht hi' ad len cap h0 (Int.le_refl _) (by omega) w
  rw [ycm] at hrun
  have:=Rd.cut ep.c (l:=0) (q:=q.toNat) (m:=q.toNat) (by omega) (by omega) (by omega) (by omega)
  rw [ycm] at this
  exact yN.ycR h hd hK (run _ hrun) ⟨ad,_,rfl,this⟩
 ·rename_i id k' n q
  obtain ⟨rfl,h0,h1,hK⟩:=hK
  cases nl rfl; cases rh _ rfl; cases nm rfl
  obtain ⟨m0,hO,hn,hv⟩:=ep
  rcases hv with ⟨hb,rfl,A0,rfl⟩ | ⟨b,cap,arr,e',hb,rfl,h2,h3,h4,h5⟩
  ·have hrun:=yif (P:=P) ht hi' A0 0 0 h0 (by omega) w
   rw [ycm] at hrun
   have e0 : q.toNat = 0:=by omega
   rw [e0] at hrun
   exact yN.ycR h hd hK (run _ hrun) ⟨m0,hO,by omega,.inl ⟨hb,by omega,A0,rfl⟩⟩
  ·have hrun:=yif (P:=P) ht hi' (some ⟨b,0,none⟩) n cap h0 (by omega) w
   rw [ycm] at hrun
   exact yN.ycR h hd hK (run _ hrun) ⟨m0,hO,by omega,.inr ⟨b,cap,arr,e',hb,rfl,by omega,h3,h4,h5⟩⟩
 ·rename_i id k' n l
  obtain ⟨rfl,h0,h1,hK⟩:=hK
  cases rl _ rfl; cases nh rfl; cases nm rfl
  obtain ⟨m0,hO,hn,hv⟩:=ep
  rcases hv with ⟨hb,rfl,A0,rfl⟩ | ⟨b,cap,arr,e',hb,rfl,h2,h3,h4,h5⟩
  ·have hrun:=ykD (P:=P) ht hi' A0 0 0 h0 (by omega) w
   exact yN.ycR h hd hK (run _ hrun) ⟨m0,_,_,hO,by omega,rfl,by omega,by unfold maxLen; omega,fun hp=>by omega⟩
  ·have hrun:=ykD (P:=P) ht hi' (some ⟨b,0,none⟩) n cap h0 (by omega) w
   refine yN.ycR h hd hK (run _ hrun) ⟨m0,_,_,hO,by omega,rfl,by omega,by omega,fun hp=>⟨b,hb,?_⟩⟩
   rw [if_neg (by omega)]; simp [add_lit]
 ·rename_i id k' n l q
  obtain ⟨rfl,h0,h1,h1',hK⟩:=hK
  cases rl _ rfl; cases rh _ rfl; cases nm rfl
  obtain ⟨m0,hO,hn,hv⟩:=ep
  rcases hv with ⟨hb,rfl,A0,rfl⟩ | ⟨b,cap,arr,e',hb,rfl,h2,h3,h4,h5⟩
  ·have hrun:=ytm (P:=P) ht hi' A0 0 0 h0 h1 (by omega) w
   exact yN.ycR h hd hK (run _ hrun) ⟨m0,_,_,hO,by omega,rfl,by omega,by unfold maxLen; omega,fun hp=>by omega⟩
  ·have hrun:=ytm (P:=P) ht hi' (some ⟨b,0,none⟩) n cap h0 h1 (by omega) w
   refine yN.ycR h hd hK (run _ hrun) ⟨m0,_,_,hO,by omega,rfl,by omega,by omega,fun hp=>⟨b,hb,?_⟩⟩
   rw [if_neg (by omega)]; simp [add_lit]
 ·rename_i q
  obtain ⟨rfl,hK⟩:=hK
  cases nl rfl; cases rh _ rfl; cases nm rfl
  cases ep
  have hrun:=yif (P:=P) ht hi' none 0 0 (Int.le_refl _) (by omega) w
  rw [ycm] at hrun
  exact yN.ycR h hd hK (run _ hrun) rfl
 ·rename_i q m
  obtain ⟨rfl,rfl,hK⟩:=hK
  cases nl rfl; cases rh _ rfl; cases rm _ rfl
  cases ep
  have hrun:=yqg (P:=P) ht hi' none 0 0 (Int.le_refl _) (Int.le_refl _) (by omega) w
  rw [ycm] at hrun
  exact yN.ycR h hd hK (run _ hrun) rfl
 ·exact hK.elim
theorem yCA (h : Repr g s a w blk) (hd : ∀ i,o.dst = some i → i < g.N) {t e : TypeId} {k n : Nat} {p q : Operand} {xp xq : X} (ho : o.op = .slice t p none (some q) none) (ht : P.underlying t = some (.array n e)) (hk : yfp P e = some k)
 (hp : cx p = some xp) (hq : cx q = some xq) (hn : n ≤ maxLen)
 (hK : ymA k n s (s.ev xp) (s.ev xq) fun v=>K (s.put o.dst v)) : yN P g o a w K:=by
 obtain ⟨i,hi',rfl⟩:=yd7 hk
 have ep:=h.ev hp; have eq:=h.ev hq
 unfold ymA at hK
 split at hK
 ·rename_i id k' j q' hx1 hx2
  rw [hx1] at ep; rw [hx2] at eq
  split at hK
  ·rename_i k2 rows hO
   obtain ⟨rfl,rfl,h0,h1,h2,hK⟩:=hK
   obtain ⟨b,rows',hO',hb,e1⟩:=ep
   have e3 : k2 = i.size:=by
    have : (s.ob id).ybP = some (i.size,rows'):=hO'
    rw [hO] at this; simp [Obj.ybP] at this; exact this.1
   subst e3
   obtain ⟨e2,_⟩:=eq.int
   obtain ⟨arr,e',r1,r2,r3,r4⟩:=h.row hO hb
   have hrun : (execOp a.eval o).run P w = .ok (.value (.slice (some ⟨b,0,none⟩) q'.toNat n)) w:=by
    have b1:=ycC (P:=P) (n:=q') (y:=n) (code:=.sliceAlen) h0 (by omega) w
    have e4 : a.eval p = .pointer (some ⟨b,0,none⟩):=by simpa using e1
    simp [execOp,ho,Instr.sliceAt,run_underlying ht,Instr.sureAddr,e4,e2,Instr.sliceBounds,b1,ya4 hi',Addr.add]
   refine yN.ycR h hd hK hrun ⟨rows.length,by rw [show s.objs id = _ from hO]; rfl,by omega,.inr ⟨b,n,arr,e',hb,rfl,by omega,hn,r1,by rw [← h2]; exact r2⟩⟩
  ·exact hK.elim
 ·exact hK.elim
theorem ywc (h : Repr g s a w blk) (hd : ∀ i,o.dst = some i → i < g.N) {t : TypeId} {p : Operand} {lo hi : Option Operand} {xp : X} {xl xh : Option X} (ho : o.op = .slice t p lo hi none) (ht : P.underlying t = some .string)
 (hp : cx p = some xp) (hl : ∀ y,lo = some y → ∃ x,xl = some x ∧ cx y = some x) (hh : ∀ y,hi = some y → ∃ x,xh = some x ∧ cx y = some x)
 (nl : lo = none → xl = none) (nh : hi = none → xh = none)
 (hK : ymC (s.ev xp) (xl.map s.ev) (xh.map s.ev) fun v=>K (s.put o.dst v)) : yN P g o a w K:=by
 have ep:=h.ev hp
 have rl : ∀ n : Int,xl.map s.ev = some (.c (.i n)) → lo.map a.eval = some (.int .i64 n):=by
  intro n hn
  cases lo with
  | none=>rw [nl rfl] at hn; cases hn
  | some y =>
   obtain ⟨x,rfl,hx⟩:=hl y rfl
   have:=h.ev hx
   simp only [Option.map_some,Option.some.injEq] at hn
   rw [hn] at this
   simp [this.int.1]
 have rh : ∀ n : Int,xh.map s.ev = some (.c (.i n)) → hi.map a.eval = some (.int .i64 n):=by
  intro n hn
  cases hi with
  | none=>rw [nh rfl] at hn; cases hn
  | some y =>
   obtain ⟨x,rfl,hx⟩:=hh y rfl
   have:=h.ev hx
   simp only [Option.map_some,Option.some.injEq] at hn
   rw [hn] at this
   simp [this.int.1]
 have ul : xl.map s.ev = none → lo.map a.eval = none:=by
  intro hn
  cases lo with
  | none=>rfl
  | some y=>obtain ⟨x,rfl,hx⟩:=hl y rfl; cases hn
 have uh : xh.map s.ev = none → hi.map a.eval = none:=by
  intro hn
  cases hi with
  | none=>rfl
  | some y=>obtain ⟨x,rfl,hx⟩:=hh y rfl; cases hn
 have run : ∀ r,(Instr.sliceAt t (a.eval p) (lo.map a.eval) (hi.map a.eval) none).run P w = .ok r w → (execOp a.eval o).run P w = .ok (.value r) w:=by
  intro r hr
  simp only [execOp,ho,Sem.run_bind,Option.map_none,hr,Result.andThen_ok,Sem.run_pure]
 revert hK ep rl rh ul uh run
 generalize s.ev xp = vp; generalize a.eval p = v; generalize xl.map s.ev = vl; generalize xh.map s.ev = vh
 generalize lo.map a.eval = ul; generalize hi.map a.eval = uh
 intro hK ep rl rh nl nh run
 unfold ymC at hK
 split at hK
 ·rename_i bs l q
  obtain ⟨h0,h1,h2,hK⟩:=hK
  cases rl _ rfl; cases rh _ rfl
  obtain ⟨rfl,hs⟩:=ep.str
  have b1:=ycC (P:=P) (n:=q) (y:=bs.size) (code:=.sliceAlen) (by omega) h2 w
  have b2:=ycC (P:=P) (n:=l) (y:=q.toNat) (code:=.sliceB) h0 (by omega) w
  refine yN.ycR h hd hK (run (.string (bs.extract l.toNat q.toNat)) ?_) (.mk (.s (by simp; omega)))
  simp [Instr.sliceAt,Instr.slice,run_underlying ht,Instr.sliceBounds,b1,b2]
 ·rename_i bs l
  obtain ⟨h0,h1,hK⟩:=hK
  cases rl _ rfl; cases nh rfl
  obtain ⟨rfl,hs⟩:=ep.str
  have b2:=ycC (P:=P) (n:=l) (y:=bs.size) (code:=.sliceB) h0 (by omega) w
  refine yN.ycR h hd hK (run (.string (bs.extract l.toNat bs.size)) ?_) (.mk (.s (by simp; omega)))
  simp [Instr.sliceAt,Instr.slice,run_underlying ht,Instr.sliceBounds,b2]
 ·rename_i bs q
  obtain ⟨h0,h1,hK⟩:=hK
  cases nl rfl; cases rh _ rfl
  obtain ⟨rfl,hs⟩:=ep.str
  have b1:=ycC (P:=P) (n:=q) (y:=bs.size) (code:=.sliceAlen) (by omega) h1 w
  refine yN.ycR h hd hK (run (.string (bs.extract 0 q.toNat)) ?_) (.mk (.s (by simp; omega)))
  simp [Instr.sliceAt,Instr.slice,run_underlying ht,Instr.sliceBounds,b1]
 ·exact hK.elim
end
end Go.Proofs.YtpiplmnecmkafaaGreat
namespace Go.Proofs.YtpiplmnecmkafaaGreat
open Go.RowKit
def yik : Bool → World → (Nat → Prop) → Value → C → (Nat → Prop) → Prop
 | true,w,G,u,c,_=>Rd w G u c
 | false,w,G,u,c,F=>OT w G u c F
theorem yik.ot {fl : Bool} {w : World} {G : Nat → Prop} {u : Value} {c : C} {F : Nat → Prop} (h : yik fl w G u c F) : OT w G u c F:=by
 cases fl
 ·exact h
 ·exact .sh h
theorem yik.yBR {fl : Bool} {w : World} {G : Nat → Prop} {u : Value} {c : C} {F : Nat → Prop} (h : Rd w G u c) : yik fl w G u c F:=by
 cases fl
 ·exact .sh h
 ·exact h
def mkO : Bool → Nat → List (List C) → Obj
 | true,k,r=>.row k r
 | false,k,r=>.tr k 0 r
theorem yqe (fl : Bool) (k : Nat) (r : List (List C)) : (mkO fl k r).ybP = some (k,r.length):=by cases fl <;> rfl
section
variable {g : Ghost} {s : St} {a : Act} {w : World} {blk : Lay}
theorem Repr.virt (h : Repr g s a w blk) {d k : Nat} (fl : Bool) (hd : s.ob d = .none) :
 Repr g ⟨s.env,upd d (mkO fl k []) s.objs⟩ a w (blk.upd d none noF):=by
 have hO : ∀ i,upd d (mkO fl k []) s.objs i = if i = d then mkO fl k [] else s.objs i:=fun i=>rfl
 have hd' : s.objs d = .none:=hd
 refine h.turn [] (fun i=>i = d) (Off.refl noF w) (fun q hq=>hq.elim) (fun i hi=>?_) (fun i b hi _ hf=>?_) (fun i j b hi hj _ _ _ _=>hi.trans hj.symm) (fun i b hi _ hr=>?_) (fun i hi _ hl=>?_) (fun i k v rows hi _ hk=>?_) (fun G' K i hi=>?_)
 ·exact ⟨by simp [hO,hi,Obj.ydm],by rw [Lay.yaG,if_neg hi],by rw [Lay.ybI,if_neg hi]⟩
 ·subst hi
  rw [Lay.yn2,if_pos rfl] at hf
  rcases hf with hf | hf
  ·cases hf
  ·exact hf.elim
 ·subst hi
  rw [Lay.yaG,if_pos rfl] at hr; cases hr
 ·subst hi; exact absurd hd' hl
 ·subst hi; rw [hd'] at hk; cases hk
 ·subst hi
  rw [hO,if_pos rfl,Lay.ybI,if_pos rfl,Lay.yaG,if_pos rfl]
  cases fl
  ·exact .inl ⟨rfl,rfl⟩
  ·exact .inl ⟨rfl,rfl⟩
theorem yxf {G : Nat → Prop} {ad : Addr} {len cap k : Nat} {rows : List (List C)} (h : Rd w G (.slice (some ad) len cap) (.sl k rows)) :
 ∃ news : List Value,news.length = len * k ∧ (∀ j u,news[j]? = some u → w.cell? (ad.add j) = some u) ∧
  ∀ (i : Nat) (r : List C) (j : Nat) (c : C),rows[i]? = some r → r[j]? = some c → ∃ u,news[i * k + j]? = some u ∧ Rd w G u c:=by
 cases h with
 | sl vals e1 e2 e3 e4 e5 e6 e7 =>
  have key : ∀ (i : Nat) (r : List C) (j : Nat) (c : C),rows[i]? = some r → r[j]? = some c → w.cell? (ad.add (i * k + j)) = some (vals i j):=by
   intro i r j c hr hc
   obtain ⟨ad',e,_,hcell⟩:=e6 i r hr j c hc
   cases e; exact hcell
  have bound : ∀ (i : Nat) (r : List C) (j : Nat) (c : C),rows[i]? = some r → r[j]? = some c → i * k + j < len * k:=by
   intro i r j c hr hc
   have h1 : i < rows.length:=(List.getElem?_eq_some_iff.1 hr).1
   have h2 : j < k:=by rw [← e4 r (List.mem_of_getElem? hr)]; exact (List.getElem?_eq_some_iff.1 hc).1
   have h3 : (i + 1) * k ≤ len * k:=Nat.mul_le_mul_right _ (by omega)
   rw [Nat.add_mul,Nat.one_mul] at h3
   omega
  refine ⟨(List.range (len * k)).map fun j=>(w.cell? (ad.add j)).getD undef,by simp,fun j u hu=>?_,fun i r j c hr hc=>?_⟩
  ·have hj : j < len * k:=by have:=(List.getElem?_eq_some_iff.1 hu).1; simpa using this
   have hk : 0 < k:=by rcases Nat.eq_zero_or_pos k with e | e; ·subst e; omega
                       ·exact e
   have hi : j / k < rows.length:=by rw [e1]; exact Nat.div_lt_of_lt_mul (by rw [Nat.mul_comm]; exact hj)
   have hr:=List.getElem?_eq_getElem hi
   have hm : j % k < (rows[j / k]).length:=by rw [e4 _ (List.getElem_mem hi)]; exact Nat.mod_lt _ hk
   have:=key _ _ (j % k) _ hr (List.getElem?_eq_getElem hm)
   rw [show j / k * k + j % k = j from by rw [Nat.mul_comm]; exact Nat.div_add_mod j k] at this
   simp only [List.getElem?_map,List.getElem?_range hj,Option.map_some,this,Option.getD_some,Option.some.injEq] at hu
   rw [this,hu]
  ·have:=key i r j c hr hc
   refine ⟨vals i j,?_,e7 i r hr j c hc⟩
   simp [List.getElem?_range (bound i r j c hr hc),this]
theorem yt3 (h : Repr g s a w blk) {id k b : Nat} {rows : List (List C)} (hO : s.ob id = .row k rows) (hb : blk id = some b) {lo n : Nat} (hn : lo + n ≤ rows.length) :
 ∃ news : List Value,news.length = ((rows.drop lo).take n).length * k ∧ (∀ j u,news[j]? = some u → w.cell? ((⟨b,lo * k,none⟩ : Addr).add j) = some u) ∧ (∀ r,r ∈ (rows.drop lo).take n → r.length = k) ∧
  ∀ (i : Nat) (r : List C) (j : Nat) (c : C),((rows.drop lo).take n)[i]? = some r → r[j]? = some c → ∃ u,news[i * k + j]? = some u ∧ Rd w (Good g s.objs blk w) u c:=by
 obtain ⟨arr,e,r1,r2,r3,r4⟩:=h.row hO hb
 have hlen : ((rows.drop lo).take n).length = n:=by simp; omega
 have hle : (lo + n) * k ≤ rows.length * k:=Nat.mul_le_mul_right _ hn
 rw [Nat.add_mul] at hle
 refine ⟨(arr.toList.drop (lo * k)).take (n * k),by rw [hlen]; simp; omega,fun j u hu=>?_,fun r hr=>r3 r (List.mem_of_mem_drop (List.mem_of_mem_take hr)),fun i r j c hr hc=>?_⟩
 ·rw [List.getElem?_take] at hu
  split at hu
  ·rw [List.getElem?_drop] at hu
   rw [add_lit,cell_of w r1]; simpa using hu
  ·cases hu
 ·rw [List.getElem?_take] at hr
  split at hr
  ·rename_i hin
   rw [List.getElem?_drop] at hr
   obtain ⟨u,hu,hru⟩:=r4 _ r j c hr hc
   have hj : j < k:=by rw [← r3 r (List.mem_of_getElem? hr)]; exact (List.getElem?_eq_some_iff.1 hc).1
   have h5 : (i + 1) * k ≤ n * k:=Nat.mul_le_mul_right _ hin
   rw [Nat.add_mul,Nat.one_mul] at h5
   refine ⟨u,?_,hru⟩
   rw [List.getElem?_take,if_pos (by omega),List.getElem?_drop]
   rw [show lo * k + (i * k + j) = (lo + i) * k + j by rw [Nat.add_mul]; omega]
   simpa using hu
  ·cases hr
def yuk (fl : Bool) (w : World) (G : Nat → Prop) (v : Value) (k : Nat) (new : List (List C)) (Fn : Nat → Nat → Nat → Prop) : Prop :=
 ∃ A c,v = .slice A new.length c ∧ (A = none → new = []) ∧ (∀ r,r ∈ new → r.length = k) ∧ ∀ ad,A = some ad → ∃ news : List Value,news.length = new.length * k ∧ (∀ j u,news[j]? = some u → w.cell? (ad.add j) = some u) ∧
     ∀ (i : Nat) (r : List C) (j : Nat) (c : C),new[i]? = some r → r[j]? = some c → ∃ u,news[i * k + j]? = some u ∧ yik fl w G u c (Fn i j)
theorem src_ok (h : Repr g s a w blk) {v : Value} {y : AV} {k : Nat} {new : List (List C)} (hv : RVs g s w blk v y) (hs : yaF s k y = some new) : yuk true w (Good g s.objs blk w) v k new (fun _ _=>noF):=by
 have rd : ∀ rows,Rd w (Good g s.objs blk w) v (.sl k rows) → new = rows → yuk true w (Good g s.objs blk w) v k new (fun _ _=>noF):=by
  intro rows hr e
  subst e
  have hr':=hr
  cases hr with
  | sl vals e1 e2 e3 e4 e5 e6 e7 =>
   rename_i A len cap
   subst e1
   refine ⟨A,cap,rfl,fun e=>?_,e4,fun ad e=>?_⟩
   ·subst e
    have : ¬ 0 < new.length:=fun hl=>by simpa using e5 hl
    exact List.eq_nil_of_length_eq_zero (by omega)
   ·subst e; exact yxf hr'
 unfold yaF at hs
 split at hs
 ·rename_i k' rows
  split at hs
  ·rename_i e; subst e; cases hs; exact rd _ hv.c rfl
  ·cases hs
 ·rename_i k' rows
  split at hs
  ·rename_i e; subst e; cases hs; obtain ⟨_,_,_,hr⟩:=hv; exact rd _ hr rfl
  ·cases hs
 ·rename_i id k' n
  split at hs
  ·rename_i k2 rows hO
   split at hs
   ·rename_i e; subst e; cases hs
    obtain ⟨m,hO',hn,hval⟩:=hv
    have e3 : k2 = k' ∧ rows.length = m:=by
     have : (s.ob id).ybP = some (k',m):=hO'
     rw [hO] at this; simpa [Obj.ybP] using this
    obtain ⟨rfl,rfl⟩:=e3
    have hlen : (rows.take n).length = n:=by simp; omega
    rcases hval with ⟨hb,rfl,A0,rfl⟩ | ⟨b,cap,arr,e,hb,rfl,h1,h2,h3,h4⟩
    ·exact ⟨A0,0,by simp,fun _=>by simp,fun r hr=>by simp at hr,fun ad e=>⟨[],by simp,fun j u hu=>by simp at hu,fun i r j c hr=>by simp at hr⟩⟩
    ·obtain ⟨news,n1,n2,n3,n4⟩:=yt3 h hO hb (lo:=0) (n:=n) (by omega)
     simp only [List.drop_zero] at n1 n3 n4
     refine ⟨some ⟨b,0,none⟩,cap,by rw [hlen],fun e=>(by cases e),n3,fun ad e=>?_⟩
     cases e
     exact ⟨news,n1,by simpa using n2,n4⟩
   ·cases hs
  ·cases hs
 ·rename_i id k' lo n
  split at hs
  ·rename_i k2 rows hO
   split at hs
   ·rename_i e; subst e; cases hs
    obtain ⟨m,A,c,hO',hn,rfl,h1,h2,h3⟩:=hv
    have e3 : k2 = k' ∧ rows.length = m:=by
     have : (s.ob id).ybP = some (k',m):=hO'
     rw [hO] at this; simpa [Obj.ybP] using this
    obtain ⟨rfl,rfl⟩:=e3
    have hlen : ((rows.drop lo).take n).length = n:=by simp; omega
    rcases Nat.eq_zero_or_pos n with h0 | h0
    ·subst h0
     exact ⟨A,c,by simp,fun _=>by simp,fun r hr=>by simp at hr,fun ad e=>⟨[],by simp,fun j u hu=>by simp at hu,fun i r j c hr=>by simp at hr⟩⟩
    ·obtain ⟨b,hb,rfl⟩:=h3 h0
     obtain ⟨news,n1,n2,n3,n4⟩:=yt3 h hO hb (lo:=lo) (n:=n) hn
     refine ⟨_,c,by rw [hlen],fun e=>(by cases e),n3,fun ad e=>?_⟩
     cases e
     exact ⟨news,n1,n2,n4⟩
   ·cases hs
  ·cases hs
 ·cases hs
  cases hv
  exact ⟨none,0,rfl,fun _=>rfl,fun r hr=>by simp at hr,fun ad e=>by cases e⟩
 ·cases hs
theorem yAr (h : Repr g s a w blk) {v : Value} {y : AV} {k idy : Nat} {new : List (List C)} (hv : RVs g s w blk v y) (hs : yfD s k y = some (idy,new)) :
 s.objs idy ≠ .none ∧ ∃ Fn : Nat → Nat → Nat → Prop,yuk false w (Good g s.objs blk w) v k new Fn ∧ (∀ i j x,Fn i j x → blk.sub idy x) ∧ (∀ i j i' j' x,Fn i j x → Fn i' j' x → i = i' ∧ j = j'):=by
 unfold yfD at hs
 split at hs
 ·rename_i id k' n
  split at hs
  ·rename_i k2 ver rows hO
   split at hs
   ·rename_i e; subst e; cases hs
    refine ⟨by rw [show s.objs idy = _ from hO]; simp,?_⟩
    obtain ⟨m,hO',hn,hval⟩:=hv
    have e3 : k2 = k' ∧ rows.length = m:=by
     have : (s.ob idy).ybP = some (k',m):=hO'
     rw [hO] at this; simpa [Obj.ybP] using this
    obtain ⟨rfl,rfl⟩:=e3
    have hlen : (rows.take n).length = n:=by simp; omega
    rcases hval with ⟨hb,rfl,A0,rfl⟩ | ⟨b,cap,arr,e,hb,rfl,h1,h2,h3,h4⟩
    ·exact ⟨fun _ _=>noF,⟨A0,0,by simp,fun _=>by simp,fun r hr=>by simp at hr,fun ad e=>⟨[],by simp,fun j u hu=>by simp at hu,fun i r j c hr=>by simp at hr⟩⟩,fun _ _ _ h=>h.elim,fun _ _ _ _ _ h=>h.elim⟩
    ·obtain ⟨arr',e',r1,r2,r3,vals,Fs,r4,r5,r6,r7⟩:=h.tree hO hb
     rw [h3] at r1; cases r1
     have hle : n * k2 ≤ rows.length * k2:=Nat.mul_le_mul_right _ hn
     refine ⟨Fs,⟨some ⟨b,0,none⟩,cap,by rw [hlen],fun e=>(by cases e),fun r hr=>r3 r (List.mem_of_mem_take hr),fun ad e=>?_⟩,fun i j x hx=>(r4 i j x hx).1,r5⟩
     cases e
     refine ⟨arr.toList.take (n * k2),by rw [hlen]; simp; omega,fun j u hu=>?_,fun i r j c hr hc=>?_⟩
     ·rw [List.getElem?_take] at hu
      split at hu
      ·rw [add_lit,Nat.zero_add,cell_of w h3]; simpa using hu
      ·cases hu
     ·rw [List.getElem?_take] at hr
      split at hr
      ·rename_i hin
       have hj : j < k2:=by rw [← r3 r (List.mem_of_getElem? hr)]; exact (List.getElem?_eq_some_iff.1 hc).1
       have h5 : (i + 1) * k2 ≤ n * k2:=Nat.mul_le_mul_right _ hin
       rw [Nat.add_mul,Nat.one_mul] at h5
       exact ⟨_,by rw [List.getElem?_take,if_pos (by omega)]; simpa using r6 i r hr j c hc,r7 i r hr j c hc⟩
      ·cases hr
   ·cases hs
  ·cases hs
 ·cases hs
end
end Go.Proofs.YtpiplmnecmkafaaGreat
namespace Go.Proofs.YtpiplmnecmkafaaGreat
open Go.RowKit
section
variable {P : Program} {g : Ghost} {o : Oper} {s : St} {a : Act} {w : World} {blk : Lay} {K : St → Prop}
theorem yl5 (t ty e e' : TypeId) (i : TypeInfo) (ht : P.underlying t = some (.slice e)) (hi : P.info? e = some i)
 (q sLen sCap : Nat) (cur : Array Value) (hg : w.heap[q]? = some (.cells cur e' (0,0)))
 (ad : Addr) (m c : Nat) (news : List Value) (hl : news.length = m * i.size) (hnews : ∀ j u,news[j]? = some u → w.cell? (ad.add j) = some u) (h1 : ∀ u ∈ news,u.oneCell' = true)
 (hroom : sLen + m ≤ sCap) (hfit : sLen * i.size + news.length ≤ cur.size) :
 (Builtin.append_ #[t,t] ty #[.slice (some ⟨q,0,none⟩) sLen sCap,.slice (some ad) m c]).run P w =
  .ok (.slice (some ⟨q,0,none⟩) (sLen + m) sCap) (w.setRow q (cur.toList.take (sLen * i.size) ++ news ++ cur.toList.drop (sLen * i.size + news.length)).toArray):=by
 have hf:=run_firstCells_some (P:=P) w i.size m ad m c news hl hnews
 have hst:=run_storeCells_at P q (sLen * i.size) e' news 0 cur w hg (by simpa using hfit) h1
 simp only [Nat.add_zero] at hst
 simp [Builtin.append_,run_underlying ht,sizeOf,typeInfo,hi,Builtin.lenOf,hroom,hf,add_lit,hst]
theorem yfz (t ty e : TypeId) (i : TypeInfo) (ht : P.underlying t = some (.slice e)) (hi : P.info? e = some i) (A : Option Addr) (n cap c : Nat) (hn : n ≤ cap) :
 (Builtin.append_ #[t,t] ty #[.slice A n cap,.slice none 0 c]).run P w = .ok (.slice A n cap) w:=by
 cases A <;> simp [Builtin.append_,run_underlying ht,sizeOf,typeInfo,hi,Builtin.lenOf,Builtin.firstCells,hn,storeCells]
theorem yhd (t ty e : TypeId) (i : TypeInfo) (ht : P.underlying t = some (.slice e)) (hi : P.info? e = some i) (A0 : Option Addr) (ad : Addr) (c : Nat) :
 (Builtin.append_ #[t,t] ty #[.slice A0 0 0,.slice (some ad) 0 c]).run P w = .ok (.slice A0 0 0) w:=by
 cases A0 <;> simp [Builtin.append_,run_underlying ht,sizeOf,typeInfo,hi,Builtin.lenOf,Builtin.firstCells,loadCells,loadCellsFrom,storeCells]
theorem yx2 {G : Nat → Prop} {k : Nat} {rows new : List (List C)} {olds news rest : List Value} (ho : olds.length = rows.length * k) (h1 : ∀ (i : Nat) (r : List C) (j : Nat) (c : C),rows[i]? = some r → r[j]? = some c → ∃ u,olds[i * k + j]? = some u ∧ Rd w G u c)
 (h2 : ∀ (i : Nat) (r : List C) (j : Nat) (c : C),new[i]? = some r → r[j]? = some c → ∃ u,news[i * k + j]? = some u ∧ Rd w G u c) :
 ∀ (i : Nat) (r : List C) (j : Nat) (c : C),(rows ++ new)[i]? = some r → r[j]? = some c → ∃ u,(olds ++ news ++ rest)[i * k + j]? = some u ∧ Rd w G u c:=by
 intro i r j c hr hc
 by_cases hi : i < rows.length
 ·rw [List.getElem?_append_left hi] at hr
  obtain ⟨u,hu,hru⟩:=h1 i r j c hr hc
  have : i * k + j < olds.length:=(List.getElem?_eq_some_iff.1 hu).1
  exact ⟨u,by rw [List.append_assoc,List.getElem?_append_left this]; exact hu,hru⟩
 ·rw [List.getElem?_append_right (by omega)] at hr
  obtain ⟨u,hu,hru⟩:=h2 _ r j c hr hc
  have hlt : (i - rows.length) * k + j < news.length:=(List.getElem?_eq_some_iff.1 hu).1
  have e1 : i * k + j = olds.length + ((i - rows.length) * k + j):=by
   rw [ho,Nat.sub_mul]
   have : rows.length * k ≤ i * k:=Nat.mul_le_mul_right _ (by omega)
   omega
  refine ⟨u,?_,hru⟩
  rw [e1,List.append_assoc,List.getElem?_append_right (by omega),Nat.add_sub_cancel_left,List.getElem?_append_left hlt]
  exact hu
theorem yxn {G : Nat → Prop} {k : Nat} {rows new : List (List C)} {olds news : List Value} {z : Array Value} {cap : Nat} (ho : olds.length = rows.length * k) (hn : news.length = new.length * k) (hz : z.size = k) (hcap : rows.length + new.length ≤ cap)
 (hro : ∀ r,r ∈ rows → r.length = k) (hrn : ∀ r,r ∈ new → r.length = k)
 (h1 : ∀ (i : Nat) (r : List C) (j : Nat) (c : C),rows[i]? = some r → r[j]? = some c → ∃ u,olds[i * k + j]? = some u ∧ Rd w G u c)
 (h2 : ∀ (i : Nat) (r : List C) (j : Nat) (c : C),new[i]? = some r → r[j]? = some c → ∃ u,news[i * k + j]? = some u ∧ Rd w G u c) :
 (olds.toArray ++ news.toArray ++ Builtin.zeroCells z (cap - (rows.length + new.length))).size = cap * k ∧ (rows ++ new).length * k ≤ (olds.toArray ++ news.toArray ++ Builtin.zeroCells z (cap - (rows.length + new.length))).size ∧
 (∀ r,r ∈ rows ++ new → r.length = k) ∧
 ∀ (i : Nat) (r : List C) (j : Nat) (c : C),(rows ++ new)[i]? = some r → r[j]? = some c → ∃ u,(olds.toArray ++ news.toArray ++ Builtin.zeroCells z (cap - (rows.length + new.length)))[i * k + j]? = some u ∧ Rd w G u c:=by
 have hsz : (olds.toArray ++ news.toArray ++ Builtin.zeroCells z (cap - (rows.length + new.length))).size = cap * k:=by
  simp only [Array.size_append,List.size_toArray,size_zeroCells,hz,ho,hn,← Nat.add_mul]
  congr 1; omega
 refine ⟨hsz,?_,fun r hr=>?_,fun i r j c hr hc=>?_⟩
 ·rw [hsz,List.length_append]; exact Nat.mul_le_mul_right _ hcap
 ·rcases List.mem_append.1 hr with h | h
  ·exact hro r h
  ·exact hrn r h
 ·obtain ⟨u,hu,hru⟩:=yx2 (rest:=(Builtin.zeroCells z (cap - (rows.length + new.length))).toList) ho h1 h2 i r j c hr hc
  refine ⟨u,?_,hru⟩
  rw [← hu,← Array.getElem?_toList]
  simp
theorem ysF {G G' : Nat → Prop} {w' : World} {k : Nat} {rows : List (List C)} {f : Nat → Option Value} (hm : ∀ u c,Rd w G u c → Rd w' G' u c)
 (h1 : ∀ (i : Nat) (r : List C) (j : Nat) (c : C),rows[i]? = some r → r[j]? = some c → ∃ u,f (i * k + j) = some u ∧ Rd w G u c) :
 ∀ (i : Nat) (r : List C) (j : Nat) (c : C),rows[i]? = some r → r[j]? = some c → ∃ u,f (i * k + j) = some u ∧ Rd w' G' u c:=by
 intro i r j c hr hc
 obtain ⟨u,hu,hru⟩:=h1 i r j c hr hc
 exact ⟨u,hu,hm u c hru⟩
theorem yha {t ty e : TypeId} {i : TypeInfo} {z : Value} (ht : P.underlying t = some (.slice e)) (hi : P.info? e = some i) (hz : i.zero = some z) (hsz : z.cells.size = i.size) (hby : 0 < i.bytes)
 {v : Value} {hb : Option Nat} {n : Nat} {olds : List Value}
 (hv : (hb = none ∧ (∃ A0,v = .slice A0 0 0) ∧ n = 0 ∧ olds = []) ∨ ∃ b cap arr e',hb = some b ∧ v = .slice (some ⟨b,0,none⟩) n cap ∧ w.heap[b]? = some (.cells arr e' (0,0)) ∧ n ≤ cap ∧ cap ≤ maxLen ∧ cap * i.size ≤ arr.size ∧ olds = arr.toList.take (n * i.size))
 {A : Option Addr} {m c : Nat} (hA : A = none → m = 0) {news : List Value} (hn0 : A = none → news = []) (hnl : news.length = m * i.size) (hnews : ∀ ad,A = some ad → ∀ j u,news[j]? = some u → w.cell? (ad.add j) = some u) (hone : ∀ u ∈ news,u.oneCell' = true)
 (hbig : (n + m) * i.bytes ≤ 140737488355328) :
 ∃ (r : Value) (w' : World) (X : Nat → Prop),(Builtin.append_ #[t,t] ty #[v,.slice A m c]).run P w = .ok r w' ∧ Off X w w' ∧ (∀ q,X q → hb = some q) ∧
  ((hb = none ∧ (∃ A0,r = .slice A0 0 0) ∧ n + m = 0 ∧ w' = w) ∨ ∃ b' cap' arr' e'',r = .slice (some ⟨b',0,none⟩) (n + m) cap' ∧ w'.heap[b']? = some (.cells arr' e'' (0,0)) ∧ n + m ≤ cap' ∧ cap' ≤ maxLen ∧ cap' * i.size ≤ arr'.size ∧
   (hb = some b' ∨ (w.heap.size ≤ b' ∧ b' < w'.heap.size)) ∧ ∀ (q : Nat) (u : Value),(olds ++ news)[q]? = some u → arr'[q]? = some u):=by
 have hlen : n + m ≤ maxLen:=by
  have:=Nat.le_trans (Nat.le_mul_of_pos_right (n + m) hby) hbig
  unfold maxLen; omega
 rcases hv with ⟨rfl,⟨A0,rfl⟩,rfl,rfl⟩ | ⟨b,cap,arr,e',rfl,rfl,h3,h1,h2,h4,rfl⟩
 ·rcases Nat.eq_zero_or_pos m with h0 | h0
  ·subst h0
   refine ⟨.slice A0 0 0,w,noF,?_,Off.refl _ _,fun q hq=>hq.elim,.inl ⟨rfl,⟨A0,rfl⟩,rfl,rfl⟩⟩
   cases A with
   | none=>exact yfz t ty e i ht hi A0 0 0 c (Nat.le_refl _)
   | some ad=>exact yhd t ty e i ht hi A0 ad c
  ·cases A with
   | none=>have:=hA rfl; omega
   | some ad =>
    simp only [Nat.zero_add] at hlen hbig ⊢
    have hr : (Builtin.append_ #[t,t] ty #[.slice A0 0 0,.slice (some ad) m c]).run P w = .ok (.slice (some ⟨w.heap.size,0,none⟩) m (grownCap w m 0 e)) (w.drew.alloc (.cells (news.toArray ++ Builtin.zeroCells z.cells (grownCap w m 0 e - m)) e)):=by
     cases A0 with
     | none=>exact run_append_nil (P:=P) w t ty e i z ht hi hz ad m c news hnl (hnews ad rfl) h0 (by unfold maxLen at hlen; omega) (by omega)
     | some bd =>
      have:=run_append_grow (P:=P) w t ty e i z ht hi hz bd 0 0 [] (by simp) (by simp) ad m c news hnl (hnews ad rfl) (by simpa using h0) (by unfold maxLen at hlen; simp; omega) (growslice_fits (by simpa using h0) (by simpa using hbig))
      simpa using this
    have hcap:=grownCap_ge w m 0 e
    have hcapm:=grownCap_le_maxLen w m 0 e hlen
    have hnew:=heap_alloc_new w.drew (.cells (news.toArray ++ Builtin.zeroCells z.cells (grownCap w m 0 e - m)) e)
    refine ⟨_,_,noF,hr,(Off.refl noF w).drew.alloc _,fun q hq=>hq.elim,.inr ⟨w.heap.size,_,_,e,rfl,hnew,hcap,hcapm,?_,.inr ⟨Nat.le_refl _,by simp⟩,fun q u hu=>?_⟩⟩
    ·simp only [Array.size_append,List.size_toArray,size_zeroCells,hsz,hnl,← Nat.add_mul]
     exact Nat.mul_le_mul_right _ (by omega)
    ·rw [List.nil_append] at hu
     have hq:=(List.getElem?_eq_some_iff.1 hu).1
     rw [Array.getElem?_append_left (by simpa using hq)]
     simpa using hu
 ·have hle : n * i.size ≤ arr.size:=Nat.le_trans (Nat.mul_le_mul_right _ h1) h4
  have hol : (arr.toList.take (n * i.size)).length = n * i.size:=by simp; omega
  have hold : ∀ (q : Nat) (u : Value),(arr.toList.take (n * i.size))[q]? = some u → arr[q]? = some u:=by
   intro q u hu
   rw [List.getElem?_take] at hu
   split at hu
   ·simpa using hu
   ·cases hu
  cases A with
  | none =>
   have hm:=hA rfl
   subst hm
   have hr:=yfz (P:=P) (w:=w) t ty e i ht hi (some ⟨b,0,none⟩) n cap c h1
   refine ⟨_,_,noF,hr,Off.refl _ _,fun q hq=>hq.elim,.inr ⟨b,cap,arr,e',rfl,h3,h1,h2,h4,.inl rfl,fun q u hu=>?_⟩⟩
   rw [hn0 rfl,List.append_nil] at hu
   exact hold q u hu
  | some ad =>
   by_cases hroom : n + m ≤ cap
   ·have hfit0 : (n + m) * i.size ≤ arr.size:=Nat.le_trans (Nat.mul_le_mul_right _ hroom) h4
    have hfit : n * i.size + news.length ≤ arr.size:=by rw [hnl,← Nat.add_mul]; exact hfit0
    have hr:=yl5 (P:=P) (w:=w) t ty e e' i ht hi b n cap arr h3 ad m c news hnl (hnews ad rfl) hone hroom hfit
    have hset:=setRow_heap w b arr (arr.toList.take (n * i.size) ++ news ++ arr.toList.drop (n * i.size + news.length)).toArray e' (0,0) h3
    have hsz2 : (arr.toList.take (n * i.size) ++ news ++ arr.toList.drop (n * i.size + news.length)).toArray.size = arr.size:=by simp; omega
    refine ⟨_,_,fun q=>q = b,hr,yhq w b arr _ e' h3 hsz2,fun q hq=>by rw [hq],.inr ⟨b,cap,_,e',rfl,hset,hroom,h2,by rw [hsz2]; exact h4,.inl rfl,fun q u hu=>?_⟩⟩
    have hq:=(List.getElem?_eq_some_iff.1 hu).1
    rw [List.getElem?_toArray,List.getElem?_append_left hq]
    exact hu
   ·have hr:=run_append_grow (P:=P) w t ty e i z ht hi hz ⟨b,0,none⟩ n cap _ hol (fun j u hu=>by
     rw [add_lit,Nat.zero_add,cell_of w h3]; exact hold j u hu) ad m c news hnl (hnews ad rfl) (by omega) (by unfold maxLen at hlen; omega) (growslice_fits (by omega) hbig)
    have hcap:=grownCap_ge w (n + m) cap e
    have hcapm:=grownCap_le_maxLen w (n + m) cap e hlen
    have hnew:=heap_alloc_new w.drew (.cells ((arr.toList.take (n * i.size)).toArray ++ news.toArray ++ Builtin.zeroCells z.cells (grownCap w (n + m) cap e - (n + m))) e)
    refine ⟨_,_,noF,hr,(Off.refl noF w).drew.alloc _,fun q hq=>hq.elim,.inr ⟨w.heap.size,_,_,e,rfl,hnew,hcap,hcapm,?_,.inr ⟨Nat.le_refl _,by simp⟩,fun q u hu=>?_⟩⟩
    ·simp only [Array.size_append,List.size_toArray,size_zeroCells,hsz,hnl,hol,← Nat.add_mul]
     exact Nat.mul_le_mul_right _ (by omega)
    ·have hq:=(List.getElem?_eq_some_iff.1 hu).1
     rw [Array.getElem?_append_left (by simpa using hq)]
     rw [← hu,← Array.getElem?_toList]
     simp
theorem Repr.append (h : Repr g s a w blk) (fl : Bool) {t k : Nat} {ids : List Nat} {rows new : List (List C)} {olds news : List Value} {w' : World} {X : Nat → Prop} {Fo Fn : Nat → Nat → Nat → Prop} {r : Value} {hb : Option Nat}
 (ht : t ∈ ids ∨ s.objs t = .none) (hol : olds.length = rows.length * k) (hro : ∀ r,r ∈ rows → r.length = k) (hrn : ∀ r,r ∈ new → r.length = k)
 (ho : ∀ (i : Nat) (r : List C) (j : Nat) (c : C),rows[i]? = some r → r[j]? = some c → ∃ u,olds[i * k + j]? = some u ∧ yik fl w (Good g s.objs blk w) u c (Fo i j))
 (hn : ∀ (i : Nat) (r : List C) (j : Nat) (c : C),new[i]? = some r → r[j]? = some c → ∃ u,news[i * k + j]? = some u ∧ yik fl w (Good g s.objs blk w) u c (Fn i j))
 (hbo : ∀ q,hb = some q → ∃ i0,i0 ∈ ids ∧ s.objs i0 ≠ .none ∧ blk.root i0 = some q)
 (hFo : ∀ i j x,Fo i j x → ∃ i0,i0 ∈ ids ∧ s.objs i0 ≠ .none ∧ blk.sub i0 x) (hFn : ∀ i j x,Fn i j x → ∃ i0,i0 ∈ ids ∧ s.objs i0 ≠ .none ∧ blk.sub i0 x)
 (dOO : ∀ i j i' j' x,Fo i j x → Fo i' j' x → i = i' ∧ j = j') (dNN : ∀ i j i' j' x,Fn i j x → Fn i' j' x → i = i' ∧ j = j') (dON : ∀ i j i' j' x,Fo i j x → Fn i' j' x → False)
 (hoff : Off X w w') (hX : ∀ q,X q → hb = some q)
 (hview : (hb = none ∧ (∃ A0,r = .slice A0 0 0) ∧ rows.length + new.length = 0 ∧ w' = w) ∨ ∃ b' cap' arr' e'',r = .slice (some ⟨b',0,none⟩) (rows.length + new.length) cap' ∧ w'.heap[b']? = some (.cells arr' e'' (0,0)) ∧ rows.length + new.length ≤ cap' ∧ cap' ≤ maxLen ∧ cap' * k ≤ arr'.size ∧
  (hb = some b' ∨ (w.heap.size ≤ b' ∧ b' < w'.heap.size)) ∧ ∀ (q : Nat) (u : Value),(olds ++ news)[q]? = some u → arr'[q]? = some u) :
 ∃ L' : Lay,Repr g ⟨fun q=>(s.env q).kills ids,upd t (mkO fl k (rows ++ new)) (s.drops ids).objs⟩ a w' L' ∧
  ∀ G' (O' : Nat → Obj),O' t = mkO fl k (rows ++ new) → RV w' G' O' L' r (.own t k (rows.length + new.length)):=by
 have hup : ∀ (o' : Obj) j,upd t o' (s.drops ids).objs j = if j = t then o' else (s.drops ids).objs j:=fun _ _=>rfl
 have hsub : ∀ x,(∃ i0,i0 ∈ ids ∧ s.objs i0 ≠ .none ∧ blk.sub i0 x) → x < w.heap.size ∧ ¬ X x ∧ ∀ q,hb = some q → x ≠ q:=by
  rintro x ⟨i0,m1,m2,m3⟩
  have hq : ∀ q,hb = some q → x ≠ q:=by
   rintro q hq rfl
   obtain ⟨i1,n1,n2,n3⟩:=hbo x hq
   have:=h.inj i0 i1 x m2 n2 (.inr m3) (.inl n3)
   subst this
   exact h.apart i0 x m2 n3 m3
  exact ⟨(h.new i0 x m2 (.inr m3)).2,fun hx=>hq x (hX x hx) rfl,hq⟩
 have common : ∀ (root : Option Nat) (S : Nat → Prop),
  (∀ x,(root = some x ∨ S x) → (∃ i0,i0 ∈ ids ∧ s.objs i0 ≠ .none ∧ blk.fp i0 x) ∨ (w.heap.size ≤ x ∧ x < w'.heap.size)) → (∀ x,root = some x → ¬ S x) →
  (∀ G' objs',Keeps w w' (Good g s.objs blk w) G' (yed s.objs ids) objs' blk (blk.upd t root S) → yco w' G' objs' (blk.upd t root S) S root (mkO fl k (rows ++ new))) →
  Repr g ⟨fun q=>(s.env q).kills ids,upd t (mkO fl k (rows ++ new)) (s.drops ids).objs⟩ a w' (blk.upd t root S):=by
  intro root S horg hap hok
  refine h.turn ids (fun j=>j = t) hoff (fun y hy=>?_) (fun j hj=>?_) (fun j y hj _ hf=>?_) (fun j j' y hj hj' _ _ _ _=>hj.trans hj'.symm) (fun j y hj _ hr'=>?_) (fun j hj hm hl=>?_) (fun j k' v' rows' hj hm hk=>?_) (fun G' K j hj=>?_)
  ·obtain ⟨i0,m1,m2,m3⟩:=hbo y (hX y hy)
   exact ⟨i0,.inr m1,m2,.inl m3⟩
  ·exact ⟨by rw [hup,if_neg hj,St.ydR],by rw [Lay.yaG,if_neg hj],by rw [Lay.ybI,if_neg hj]⟩
  ·subst hj
   rw [Lay.yn2,if_pos rfl] at hf
   rcases horg y hf with ⟨i0,m1,m2,m3⟩ | h2
   ·exact .inl ⟨i0,.inr m1,m2,m3⟩
   ·exact .inr h2
  ·subst hj
   rw [Lay.yaG,if_pos rfl] at hr'
   rw [Lay.ybI,if_pos rfl]
   exact hap y hr'
  ·subst hj; exact absurd (ht.resolve_left hm) hl
  ·subst hj; rw [ht.resolve_left hm] at hk; cases hk
  ·subst hj
   rw [hup,if_pos rfl,Lay.yaG,if_pos rfl,Lay.ybI,if_pos rfl]
   exact hok _ _ K
 rcases hview with ⟨hbn,⟨A0,rfl⟩,h0,rfl⟩ | ⟨b',cap',arr',e'',rfl,v1,v2,v3,v4,v5,v6⟩
 ·have hr0 : rows = []:=List.eq_nil_of_length_eq_zero (by omega)
  have hn0 : new = []:=List.eq_nil_of_length_eq_zero (by omega)
  subst hr0; subst hn0
  refine ⟨blk.upd t none noF,common none noF (fun x hx=>hx.elim (fun h=>by cases h) (fun h=>h.elim)) (fun x hx=>by cases hx) (fun G' objs' K=>?_),fun G' O' hO=>?_⟩
  ·cases fl
   ·exact .inl ⟨rfl,rfl⟩
   ·exact .inl ⟨rfl,rfl⟩
  ·exact ⟨0,by rw [hO,yqe]; rfl,by simp,.inl ⟨by show (blk.upd _ _ _).root t = _; rw [Lay.yaG,if_pos rfl],rfl,A0,rfl⟩⟩
 ·have hb'ne : ∀ x,(∃ i0,i0 ∈ ids ∧ s.objs i0 ≠ .none ∧ blk.sub i0 x) → x ≠ b':=by
   rintro x hx rfl
   rcases v5 with h5 | h5
   ·exact (hsub x hx).2.2 x h5 rfl
   ·have:=(hsub x hx).1; omega
  let Fs : Nat → Nat → Nat → Prop:=fun i j=>if i < rows.length then Fo i j else Fn (i - rows.length) j
  have hFs : ∀ i j x,Fs i j x → ∃ i0,i0 ∈ ids ∧ s.objs i0 ≠ .none ∧ blk.sub i0 x:=by
   intro i j x hx
   simp only [Fs] at hx
   split at hx
   ·exact hFo _ _ _ hx
   ·exact hFn _ _ _ hx
  have cells : ∀ (i : Nat) (r : List C),(rows ++ new)[i]? = some r → ∀ (j : Nat) (c : C),r[j]? = some c → ∃ u,arr'[i * k + j]? = some u ∧ yik fl w (Good g s.objs blk w) u c (Fs i j):=by
   intro i r hr j c hc
   by_cases hi : i < rows.length
   ·rw [List.getElem?_append_left hi] at hr
    obtain ⟨u,hu,hru⟩:=ho i r j c hr hc
    have hq:=(List.getElem?_eq_some_iff.1 hu).1
    exact ⟨u,v6 _ u (by rw [List.getElem?_append_left hq]; exact hu),by simp only [Fs]; rw [if_pos hi]; exact hru⟩
   ·rw [List.getElem?_append_right (by omega)] at hr
    obtain ⟨u,hu,hru⟩:=hn _ r j c hr hc
    have e1 : i * k + j = olds.length + ((i - rows.length) * k + j):=by
     rw [hol,Nat.sub_mul]
     have : rows.length * k ≤ i * k:=Nat.mul_le_mul_right _ (by omega)
     omega
    exact ⟨u,v6 _ u (by rw [e1,List.getElem?_append_right (by omega),Nat.add_sub_cancel_left]; exact hu),by simp only [Fs]; rw [if_neg hi]; exact hru⟩
  have lens : ∀ r,r ∈ rows ++ new → r.length = k:=by
   intro r hr
   rcases List.mem_append.1 hr with h1 | h1
   ·exact hro r h1
   ·exact hrn r h1
  have hsz : (rows ++ new).length * k ≤ arr'.size:=Nat.le_trans (Nat.mul_le_mul_right _ (by rw [List.length_append]; exact v2)) v4
  refine ⟨blk.upd t (some b') (fun x=>∃ i0,i0 ∈ ids ∧ s.objs i0 ≠ .none ∧ blk.sub i0 x),common (some b') _ (fun x hx=>?_) (fun x hx hs=>by cases hx; exact hb'ne _ hs rfl) (fun G' objs' K=>?_),fun G' O' hO=>?_⟩
  ·rcases hx with hx | ⟨i0,m1,m2,m3⟩
   ·cases hx
    rcases v5 with h5 | h5
    ·obtain ⟨i0,m1,m2,m3⟩:=hbo _ h5
     exact .inl ⟨i0,m1,m2,.inl m3⟩
    ·exact .inr h5
   ·exact .inl ⟨i0,m1,m2,.inr m3⟩
  ·cases fl
   ·refine .inr ⟨b',arr',e'',rfl,v1,hsz,lens,fun i j=>(arr'[i * k + j]?).getD undef,Fs,fun i j x hx=>⟨hFs i j x hx,hb'ne x (hFs i j x hx)⟩,fun i j i' j' x hx hx'=>?_,fun i r hr j c hc=>?_,fun i r hr j c hc=>?_⟩
    ·simp only [Fs] at hx hx'
     split at hx <;> split at hx'
     ·exact dOO _ _ _ _ x hx hx'
     ·exact (dON _ _ _ _ x hx hx').elim
     ·exact (dON _ _ _ _ x hx' hx).elim
     ·have:=dNN _ _ _ _ x hx hx'; omega
    ·obtain ⟨u,hu,_⟩:=cells i r hr j c hc
     dsimp only; rw [hu]; rfl
    ·obtain ⟨u,hu,hru⟩:=cells i r hr j c hc
     dsimp only; rw [hu]
     exact (yik.ot hru).mono K.good K.cell (fun _ h=>h) fun x hx=>hoff.block x (hsub x (hFs i j x hx)).1 (hsub x (hFs i j x hx)).2.1
   ·refine .inr ⟨b',arr',e'',rfl,v1,hsz,lens,fun i r j c hr hc=>?_⟩
    obtain ⟨u,hu,hru⟩:=cells i r hr j c hc
    exact ⟨u,hu,Rd.mono hru K.good K.cell⟩
  ·exact ⟨rows.length + new.length,by rw [hO,yqe,List.length_append],Nat.le_refl _,.inr ⟨b',cap',arr',e'',by show (blk.upd _ _ _).root t = _; rw [Lay.yaG,if_pos rfl],rfl,v2,v3,v1,v4⟩⟩
theorem yzY {fl : Bool} {G : Nat → Prop} {k : Nat} {new : List (List C)} {news : List Value} {Fn : Nat → Nat → Nat → Prop} (n1 : news.length = new.length * k) (hrn : ∀ r,r ∈ new → r.length = k)
 (n3 : ∀ (i : Nat) (r : List C) (j : Nat) (c : C),new[i]? = some r → r[j]? = some c → ∃ u,news[i * k + j]? = some u ∧ yik fl w G u c (Fn i j)) : ∀ u ∈ news,u.oneCell' = true:=by
 intro u hu
 obtain ⟨j,hj⟩:=List.getElem?_of_mem hu
 have hj1 : j < new.length * k:=by rw [← n1]; exact (List.getElem?_eq_some_iff.1 hj).1
 have hk : 0 < k:=by rcases Nat.eq_zero_or_pos k with e0 | e0; ·rw [e0] at hj1; omega
                     ·exact e0
 have hq : j / k < new.length:=Nat.div_lt_of_lt_mul (by rw [Nat.mul_comm]; exact hj1)
 have hm : j % k < (new[j / k]).length:=by rw [hrn _ (List.getElem_mem hq)]; exact Nat.mod_lt _ hk
 obtain ⟨u',hu',hru⟩:=n3 _ _ (j % k) _ (List.getElem?_eq_getElem hq) (List.getElem?_eq_getElem hm)
 rw [show j / k * k + j % k = j from by rw [Nat.mul_comm]; exact Nat.div_add_mod j k,hj] at hu'
 cases hu'
 exact hru.ot.one
theorem yuk.news {fl : Bool} {G : Nat → Prop} {v : Value} {k : Nat} {new : List (List C)} {Fn : Nat → Nat → Nat → Prop} (h : yuk fl w G v k new Fn) :
 ∃ A c,∃ news : List Value,v = .slice A new.length c ∧ (A = none → new.length = 0) ∧ (A = none → news = []) ∧ news.length = new.length * k ∧ (∀ ad,A = some ad → ∀ j u,news[j]? = some u → w.cell? (ad.add j) = some u) ∧ (∀ u ∈ news,u.oneCell' = true) ∧ (∀ r,r ∈ new → r.length = k) ∧
  ∀ (i : Nat) (r : List C) (j : Nat) (c : C),new[i]? = some r → r[j]? = some c → ∃ u,news[i * k + j]? = some u ∧ yik fl w G u c (Fn i j):=by
 obtain ⟨A,c,hv,h0,hrn,hA⟩:=h
 cases A with
 | none =>
  have:=h0 rfl
  subst this
  exact ⟨none,c,[],hv,fun _=>rfl,fun _=>rfl,by simp,fun ad e=>(by cases e),by simp,hrn,fun i r j c hr=>by simp at hr⟩
 | some ad =>
  obtain ⟨news,n1,n2,n3⟩:=hA ad rfl
  exact ⟨some ad,c,news,hv,fun e=>(by cases e),fun e=>(by cases e),n1,fun ad' e=>(by cases e; exact n2),yzY n1 hrn n3,hrn,n3⟩
theorem ykX (h : Repr g s a w blk) {id k n : Nat} {v : Value} (hv : RVs g s w blk v (.own id k n)) {rows : List (List C)} (fl : Bool) (hO : s.ob id = .row k rows ∨ (fl = false ∧ ∃ ver,s.ob id = .tr k ver rows)) (hn : n = rows.length) :
 ∃ (hb : Option Nat) (olds : List Value) (Fo : Nat → Nat → Nat → Prop),((hb = none ∧ (∃ A0,v = .slice A0 0 0) ∧ n = 0 ∧ olds = []) ∨ ∃ b cap arr e',hb = some b ∧ v = .slice (some ⟨b,0,none⟩) n cap ∧ w.heap[b]? = some (.cells arr e' (0,0)) ∧ n ≤ cap ∧ cap ≤ maxLen ∧ cap * k ≤ arr.size ∧ olds = arr.toList.take (n * k)) ∧
  olds.length = rows.length * k ∧ (∀ r,r ∈ rows → r.length = k) ∧ (∀ (i : Nat) (r : List C) (j : Nat) (c : C),rows[i]? = some r → r[j]? = some c → ∃ u,olds[i * k + j]? = some u ∧ yik fl w (Good g s.objs blk w) u c (Fo i j)) ∧
  (∀ q,hb = some q → blk.root id = some q) ∧ (∀ i j x,Fo i j x → blk.sub id x) ∧ (∀ i j i' j' x,Fo i j x → Fo i' j' x → i = i' ∧ j = j'):=by
 subst hn
 obtain ⟨m,hdim,hn,hval⟩:=hv
 rcases hval with ⟨hb,h0,A0,rfl⟩ | ⟨b,cap,arr,e,hb,rfl,h1,h2,h3,h4⟩
 ·have : rows = []:=List.eq_nil_of_length_eq_zero h0
  subst this
  exact ⟨none,[],fun _ _=>noF,.inl ⟨rfl,⟨A0,rfl⟩,rfl,rfl⟩,by simp,by simp,fun i r j c hr=>by simp at hr,fun q hq=>(by cases hq),fun _ _ _ h=>h.elim,fun _ _ _ _ _ h=>h.elim⟩
 ·have hle : rows.length * k ≤ arr.size:=Nat.le_trans (Nat.mul_le_mul_right _ h1) h4
  have get : ∀ (i : Nat) (r : List C) (j : Nat) (c : C) (u : Value),rows[i]? = some r → r[j]? = some c → r.length = k → arr[i * k + j]? = some u → (arr.toList.take (rows.length * k))[i * k + j]? = some u:=by
   intro i r j c u hr hc hk hu
   have hi2 : i < rows.length:=(List.getElem?_eq_some_iff.1 hr).1
   have hj2 : j < k:=by rw [← hk]; exact (List.getElem?_eq_some_iff.1 hc).1
   have h5 : (i + 1) * k ≤ rows.length * k:=Nat.mul_le_mul_right _ hi2
   rw [Nat.add_mul,Nat.one_mul] at h5
   rw [List.getElem?_take,if_pos (by omega)]; simpa using hu
  rcases hO with hO | ⟨hfl,ver,hO⟩
  ·obtain ⟨arr',e',r1,r2,r3,r4⟩:=h.row hO hb
   rw [h3] at r1; cases r1
   refine ⟨some b,_,fun _ _=>noF,.inr ⟨b,cap,arr,e,rfl,rfl,h3,h1,h2,h4,rfl⟩,by simp; omega,r3,fun i r j c hr hc=>?_,fun q hq=>by cases hq; exact hb,fun _ _ _ h=>h.elim,fun _ _ _ _ _ h=>h.elim⟩
   obtain ⟨u,hu,hru⟩:=r4 i r j c hr hc
   exact ⟨u,get i r j c u hr hc (r3 r (List.mem_of_getElem? hr)) hu,.yBR hru⟩
  ·subst hfl
   obtain ⟨arr',e',r1,r2,r3,vals,Fs,r4,r5,r6,r7⟩:=h.tree hO hb
   rw [h3] at r1; cases r1
   refine ⟨some b,_,Fs,.inr ⟨b,cap,arr,e,rfl,rfl,h3,h1,h2,h4,rfl⟩,by simp; omega,r3,fun i r j c hr hc=>?_,fun q hq=>by cases hq; exact hb,fun i j x hx=>(r4 i j x hx).1,r5⟩
   exact ⟨_,get i r j c _ hr hc (r3 r (List.mem_of_getElem? hr)) (r6 i r hr j c hc),r7 i r hr j c hc⟩
theorem yor (s : St) (id : Nat) (o : Obj) : (⟨fun q=>(s.env q).kills [id],upd id o (s.drops [id]).objs⟩ : St) = s.renew id o:=by
 unfold St.renew
 congr 1
 funext i
 unfold upd
 split
 ·rfl
 ·rename_i hi
  show (s.drop id).objs i = _
  unfold St.drop St.renew upd
  simp [hi]
theorem yqT (s : St) (id idy : Nat) (hne : id ≠ idy) (o : Obj) : (⟨fun q=>(s.env q).kills [idy,id],upd id o (s.drops [idy,id]).objs⟩ : St) = (s.drop idy).renew id o:=by
 unfold St.renew
 congr 1
 funext i
 unfold upd
 split
 ·rfl
 ·rename_i hi
  show ((s.drop idy).drop id).objs i = _
  conv=>lhs; unfold St.drop St.renew upd
  simp [hi,St.drop,St.renew,upd]
theorem Repr.yDw (h : Repr g s a w blk) {id k0 ver : Nat} {rows : List (List C)} (hO : s.ob id = .tr k0 ver rows) {i : Int} {j k n : Nat} {v : Value} (hv : RVs g s w blk v (.sub id ver i j k n)) {c : C} (hc : cellAt rows i.toNat j = some c) (fl : Bool) {rs : List (List C)} (hcs : c = (if fl then .ow k rs else .ot k rs)) {d : Nat} (hd : (s.ob d).isNone = true) :
 ∃ L' : Lay,Repr g ⟨s.env,upd d (mkO fl k rs) (upd id (.tr k0 (ver + 1) (setAt rows i.toNat j .jk)) s.objs)⟩ a w L' ∧ ∀ G' (O' : Nat → Obj),O' d = mkO fl k rs → RV w G' O' L' v (.own d k rs.length):=by
 obtain ⟨q,r,c',A,cap,F,e1,e2,e3,e4,e5,rfl,e6,e7,e8,e9⟩:=h.sub0 hO hv
 obtain ⟨r',f1,f2⟩:=ye6 hc
 rw [e3] at f1; cases f1
 rw [e4] at f2; cases f2
 have hO' : s.objs id = .tr k0 ver rows:=hO
 have hlive : s.objs id ≠ .none:=by rw [hO']; simp
 have hd' : s.objs d = .none:=ydG hd
 have hne : d ≠ id:=by rintro rfl; exact hlive hd'
 obtain ⟨arr0,e0,t1,t2,t3,vals0,Fs0,t4,t5,t6,t7⟩:=h.tree hO e1
 have hrl : r.length = k0:=t3 r (List.mem_of_getElem? e3)
 have hjr : j < r.length:=(List.getElem?_eq_some_iff.1 e4).1
 have hir : i.toNat < rows.length:=(List.getElem?_eq_some_iff.1 e3).1
 have hgr : rows.getD i.toNat [] = r:=by simp [List.getD,e3]
 have hcell:=t6 _ _ e3 _ _ e4
 rw [cell_of w t1,hcell] at e2
 have hot:=t7 _ _ e3 _ _ e4
 rw [Option.some.inj e2] at hot
 -- the block of the slice,and what its cells own
 obtain ⟨root,S,hrS,hobj,hrv⟩ : ∃ (root : Option Nat) (S : Nat → Prop),(∀ x,(root = some x ∨ S x) → Fs0 i.toNat j x) ∧
  (∀ G' (O' : Nat → Obj) (bl : Nat → Option Nat),(∀ b,Good g s.objs blk w b → G' b) → (∀ x,root = some x → ¬ S x) ∧ yco w G' O' bl S root (mkO fl k rs)) ∧
  (∀ G' (O' : Nat → Obj) (bl : Nat → Option Nat),O' d = mkO fl k rs → bl d = root → RV w G' O' bl (.slice A n cap) (.own d k rs.length)):=by
  have hnl : n = rs.length:=by subst hcs; cases fl <;> simp [C.sz] at e5 <;> omega
  cases fl with
  | true =>
   simp only [if_true] at hcs
   subst hcs
   cases hot with
   | sh h=>cases h
   | ow0 =>
    exact ⟨none,noF,fun x hx=>hx.elim (fun h=>by cases h) (fun h=>h.elim),fun G' O' bl _=>⟨fun x hx=>(by cases hx),.inl ⟨rfl,rfl⟩⟩,fun G' O' bl hO hb=>⟨0,by rw [hO]; rfl,Nat.le_refl _,.inl ⟨hb,rfl,_,rfl⟩⟩⟩
   | ow vals h1 h2 h3 h4 h5 h6 h7 h8 h9 =>
    rename_i b arr e
    subst h2
    refine ⟨some b,noF,fun x hx=>hx.elim (fun h=>by cases h; exact h7) (fun h=>h.elim),fun G' O' bl hG=>⟨fun x hx h=>h,.inr ⟨b,arr,e,rfl,h1,Nat.le_trans (Nat.mul_le_mul_right _ h3) h5,h6,fun i r j c hr hc=>⟨_,h8 i r hr j c hc,(h9 i r hr j c hc).mono hG (fun _ _ _ h=>h)⟩⟩⟩,fun G' O' bl hO hb=>?_⟩
    exact ⟨rs.length,by rw [hO]; rfl,Nat.le_refl _,.inr ⟨b,cap,arr,e,hb,rfl,h3,h4,h1,h5⟩⟩
  | false =>
   simp only [if_false,Bool.false_eq_true] at hcs
   subst hcs
   cases hot with
   | sh h=>cases h
   | ot0 =>
    exact ⟨none,noF,fun x hx=>hx.elim (fun h=>by cases h) (fun h=>h.elim),fun G' O' bl _=>⟨fun x hx=>(by cases hx),.inl ⟨rfl,rfl⟩⟩,fun G' O' bl hO hb=>⟨0,by rw [hO]; rfl,Nat.le_refl _,.inl ⟨hb,rfl,_,rfl⟩⟩⟩
   | ot vals Fs h1 h2 h3 h4 h5 h6 h7 h8 h9 h10 h11 =>
    rename_i b arr e
    subst h2
    refine ⟨some b,fun x=>∃ i j,Fs i j x,fun x hx=>?_,fun G' O' bl hG=>⟨fun x hx ⟨i,j,hs⟩=>?_,.inr ⟨b,arr,e,rfl,h1,Nat.le_trans (Nat.mul_le_mul_right _ h3) h5,h6,vals,Fs,fun i j x hx=>⟨⟨i,j,hx⟩,(h8 i j x hx).2⟩,h9,h10,fun i r hr j c hc=>(h11 i r hr j c hc).mono hG (fun _ _ _ h=>h) (fun _ h=>h) (fun _ _=>rfl)⟩⟩,fun G' O' bl hO hb=>?_⟩
    ·rcases hx with hx | ⟨i,j,hs⟩
     ·cases hx; exact h7
     ·exact (h8 i j x hs).1
    ·cases hx; exact (h8 i j _ hs).2 rfl
    ·exact ⟨rs.length,by rw [hO]; rfl,Nat.le_refl _,.inr ⟨b,cap,arr,e,hb,rfl,h3,h4,h1,h5⟩⟩
 have hup : ∀ x,upd d (mkO fl k rs) (upd id (.tr k0 (ver + 1) (setAt rows i.toNat j .jk)) s.objs) x = if x = d then mkO fl k rs else if x = id then .tr k0 (ver + 1) (setAt rows i.toNat j .jk) else s.objs x:=fun _=>rfl
 let L' : Lay:=(blk.upd id (blk.root id) (fun x=>blk.sub id x ∧ ¬ Fs0 i.toNat j x)).upd d root S
 have Ld : L'.root d = root ∧ L'.sub d = S:=⟨by simp only [L']; rw [Lay.yaG,if_pos rfl],by simp only [L']; rw [Lay.ybI,if_pos rfl]⟩
 have Li : L'.root id = blk.root id ∧ L'.sub id = fun x=>blk.sub id x ∧ ¬ Fs0 i.toNat j x:=⟨by simp only [L']; rw [Lay.yaG,if_neg (Ne.symm hne),Lay.yaG,if_pos rfl],by simp only [L']; rw [Lay.ybI,if_neg (Ne.symm hne),Lay.ybI,if_pos rfl]⟩
 have hFsub : ∀ x,Fs0 i.toNat j x → blk.sub id x:=fun x hx=>(t4 _ _ x hx).1
 refine ⟨L',h.turn [] (fun x=>x = d ∨ x = id) (Off.refl noF w) (fun x hx=>hx.elim) (fun x hx=>?_) (fun x y hx _ hf=>?_) (fun x y z hx hy hlx hly hfx hfy=>?_) (fun x y hx _ hr=>?_) (fun x hx _ hl=>?_) (fun x k' v' rows' hx _ hk=>?_) (fun G' K x hx=>?_),fun G' O' hO=>hrv G' O' L' hO Ld.1⟩
 ·have h1 : x ≠ d:=fun e=>hx (.inl e)
  have h2 : x ≠ id:=fun e=>hx (.inr e)
  refine ⟨by rw [hup,if_neg h1,if_neg h2]; simp [Obj.ydm],?_,?_⟩
  ·simp only [L']; rw [Lay.yaG,if_neg h1,Lay.yaG,if_neg h2]
  ·simp only [L']; rw [Lay.ybI,if_neg h1,Lay.ybI,if_neg h2]
 ·refine .inl ⟨id,.inl (.inr rfl),hlive,?_⟩
  rcases hx with rfl | rfl
  ·unfold Lay.fp at hf
   rw [Ld.1,Ld.2] at hf
   exact .inr (hFsub y (hrS y hf))
  ·unfold Lay.fp at hf
   rw [Li.1,Li.2] at hf
   rcases hf with hf | hf
   ·exact .inl hf
   ·exact .inr hf.1
 ·have cross : L'.fp d z → L'.fp id z → False:=by
   intro h1 h2
   unfold Lay.fp at h1 h2
   rw [Ld.1,Ld.2] at h1
   rw [Li.1,Li.2] at h2
   have hz:=hrS z h1
   rcases h2 with h2 | h2
   ·exact h.apart id z hlive h2 (hFsub z hz)
   ·exact h2.2 hz
  rcases hx with rfl | rfl <;> rcases hy with rfl | rfl
  ·rfl
  ·exact (cross hfx hfy).elim
  ·exact (cross hfy hfx).elim
  ·rfl
 ·rcases hx with rfl | rfl
  ·rw [Ld.1] at hr; rw [Ld.2]
   exact (hobj (Good g s.objs blk w) s.objs blk (fun _ h=>h)).1 y hr
  ·rw [Li.1] at hr; rw [Li.2]
   exact fun hs=>h.apart x y hlive hr hs.1
 ·rcases hx with rfl | rfl
  ·exact absurd hd' hl
  ·rw [hup,if_neg (Ne.symm hne),if_pos rfl,hO',Li.1]
   exact ⟨⟨rfl,by simp [setAt],by omega,fun e=>by omega⟩,rfl⟩
 ·rcases hx with rfl | rfl
  ·rw [hd'] at hk; cases hk
  ·rw [hup,if_neg (Ne.symm hne),if_pos rfl]
   rw [hO'] at hk; cases hk
   intro e; cases e
 ·rcases hx with rfl | rfl
  ·rw [hup,if_pos rfl,Ld.1,Ld.2]
   exact (hobj _ _ _ K.good).2
  ·rw [hup,if_neg (Ne.symm hne),if_pos rfl,Li.1,Li.2,e1]
   refine .inr ⟨q,arr0,e0,rfl,t1,by simpa [setAt] using t2,fun r2 hr2=>?_,vals0,fun i2 j2 x=>Fs0 i2 j2 x ∧ ¬ (i2 = i.toNat ∧ j2 = j),fun i2 j2 x hx=>⟨⟨(t4 _ _ x hx.1).1,fun hs=>hx.2 (t5 _ _ _ _ x hx.1 hs)⟩,(t4 _ _ x hx.1).2⟩,fun i2 j2 i3 j3 x hx hx'=>t5 _ _ _ _ x hx.1 hx'.1,fun i2 r2 hr2 j2 c2 hc2=>?_,fun i2 r2 hr2 j2 c2 hc2=>?_⟩
   ·rcases List.mem_or_eq_of_mem_set hr2 with h5 | h5
    ·exact t3 r2 h5
    ·rw [h5,List.length_set,hgr]; exact hrl
   ·unfold setAt at hr2
    rw [List.getElem?_set] at hr2
    by_cases e2 : i.toNat = i2
    ·subst e2
     rw [if_pos rfl,if_pos hir] at hr2
     cases hr2
     rw [hgr,List.getElem?_set] at hc2
     by_cases e3' : j = j2
     ·subst e3'; exact hcell
     ·rw [if_neg e3'] at hc2
      exact t6 _ _ e3 _ _ hc2
    ·rw [if_neg e2] at hr2
     exact t6 _ _ hr2 _ _ hc2
   ·have other : ∀ {i2 j2 : Nat} {r2 : List C} {c2 : C},rows[i2]? = some r2 → r2[j2]? = some c2 → ¬ (i2 = i.toNat ∧ j2 = j) → OT w G' (vals0 i2 j2) c2 (fun x=>Fs0 i2 j2 x ∧ ¬ (i2 = i.toNat ∧ j2 = j)):=by
     intro i2 j2 r2 c2 hr2 hc2 hne
     exact (t7 _ _ hr2 _ _ hc2).mono K.good K.cell (fun x hx=>⟨hx,hne⟩) fun y hy=>rfl
    unfold setAt at hr2
    rw [List.getElem?_set] at hr2
    by_cases e2' : i.toNat = i2
    ·subst e2'
     rw [if_pos rfl,if_pos hir] at hr2
     cases hr2
     rw [hgr,List.getElem?_set] at hc2
     by_cases e3' : j = j2
     ·subst e3'
      rw [if_pos rfl,if_pos hjr] at hc2
      cases hc2
      have:=t7 _ _ e3 _ _ e4
      exact .jk this.one this.cells
     ·rw [if_neg e3'] at hc2
      exact other e3 hc2 (fun h=>e3' h.2.symm)
    ·rw [if_neg e2'] at hr2
     exact other hr2 hc2 (fun h=>e2' h.1.symm)
theorem yD7 (h : Repr g s a w blk) (hd : ∀ i,o.dst = some i → i < g.N) {t e : TypeId} {i : TypeInfo} {z : Value} {p q : Operand} {xp xq : X} (ho : o.op = .call { callee:=.builtin .append,args:=#[p,q],argTypes:=#[t,t] })
 (ht : P.underlying t = some (.slice e)) (hi : P.info? e = some i) (hz : i.zero = some z) (hsz : z.cells.size = i.size) (hby : 0 < i.bytes)
 (hp : cxt P t p = some xp) (hq : cxt P t q = some xq) (hK : yiK i.size i.bytes s o.dst (s.ev xp) (s.ev xq) K) : yN P g o a w K:=by
 have ep:=h.evt hp; have eq:=h.evt hq
 have run : ∀ r w',(Builtin.append_ #[t,t] o.type #[a.eval p,a.eval q]).run P w = .ok r w' → (execOp a.eval o).run P w = .ok (.value r) w':=by
  intro r w' hr
  simp [execOp,ho,resolve,invoke,builtin,hr]
 unfold yiK at hK
 split at hK
 ·rename_i new hnew
  obtain ⟨A,c,news,hA,n0,n0',n1,n2,n3,n4,n5⟩:=(src_ok h eq hnew).news
  rw [hA] at run
  generalize s.ev xp = vp at hK ep
  generalize a.eval p = v at ep run
  split at hK
  ·-- nil
   rename_i kn
   obtain ⟨hb,hK⟩:=hK
   cases ep
   unfold newP at hK
   split at hK
   case h_2=>exact hK.elim
   rename_i d hdst
   obtain ⟨hd0,hK⟩:=hK
   obtain ⟨r,w',X,v1,v2,v3,v4⟩:=yha (w:=w) (ty:=o.type) ht hi hz hsz hby (v:=.slice none 0 0) (hb:=none) (n:=0) (olds:=[]) (.inl ⟨rfl,⟨none,rfl⟩,rfl,rfl⟩) n0 n0' n1 n2 n3 (by rw [Nat.zero_add]; exact hb) (c:=c)
   obtain ⟨L',hre,hrv⟩:=h.append true (t:=d) (ids:=[]) (rows:=[]) (olds:=[]) (Fo:=fun _ _=>noF) (Fn:=fun _ _=>noF) (.inr (ydG hd0)) (by simp) (by simp) n4 (fun i r j c hr=>by simp at hr) n5 (fun q hq=>by cases hq) (fun _ _ _ h=>h.elim) (fun _ _ _ h=>h.elim) (fun _ _ _ _ _ h=>h.elim) (fun _ _ _ _ _ h=>h.elim) (fun _ _ _ _ _ h=>h.elim) v2 v3 (by simpa using v4)
   refine ⟨_,_,run _ _ v1,_,L',hK,?_⟩
   have hput:=hre.put (d:=some d) (v:=r) (x:=.own d i.size new.length) (by rw [← hdst]; exact hd) (by
    have:=hrv (Good g (upd d (mkO true i.size ([] ++ new)) (s.drops []).objs) L' w') (upd d (mkO true i.size ([] ++ new)) (s.drops []).objs) (by simp [upd])
    simp only [List.nil_append,List.length_nil,Nat.zero_add] at this ⊢
    exact this)
   rw [hdst]
   exact hput
  ·-- a slice without room behind it
   rename_i k' rows
   obtain ⟨rfl,h0',hb,hK⟩:=hK
   obtain ⟨B,n,rfl,hrd⟩:=ep
   rcases Nat.eq_zero_or_pos new.length with hz0 | h0
   ·have hr0 : rows.length = 0:=by omega
    have hn0 : n = 0:=by cases hrd with | sl vals e1 e2 e3 e4 e5 e6 e7=>omega
    subst hn0
    have hnn : new = []:=List.eq_nil_of_length_eq_zero hz0
    have hrr : rows = []:=List.eq_nil_of_length_eq_zero hr0
    subst hnn; subst hrr
    have hr : (Builtin.append_ #[t,t] o.type #[.slice B 0 0,.slice A 0 c]).run P w = .ok (.slice B 0 0) w:=by
     cases A with
     | none=>exact yfz t o.type e i ht hi B 0 0 c (Nat.le_refl _)
     | some ad=>exact yhd t o.type e i ht hi B ad c
    unfold newP at hK
    split at hK
    ·rename_i d hdst
     obtain ⟨hd0,hK⟩:=hK
     have hv:=h.virt (d:=d) (k:=i.size) true (ydG hd0)
     refine ⟨_,_,run _ _ hr,_,blk.upd d none noF,hK,?_⟩
     have hput:=hv.put (d:=some d) (v:=.slice B 0 0) (x:=.own d i.size 0) (by rw [← hdst]; exact hd) ⟨0,by simp [upd,mkO,Obj.ybP],Nat.le_refl _,.inl ⟨by show (blk.upd _ _ _).root d = _; rw [Lay.yaG,if_pos rfl],rfl,B,rfl⟩⟩
     rw [hdst]; exact hput
    ·exact hK.elim
   cases A with
   | none=>have:=n0 rfl; omega
   | some ad =>
    have hrows : rows.length = n ∧ (∀ r,r ∈ rows → r.length = i.size) ∧ n ≤ maxLen:=by
     cases hrd with
     | sl vals e1 e2 e3 e4 e5 e6 e7=>exact ⟨e1,e4,by omega⟩
    obtain ⟨hrl,hro,hnm⟩:=hrows
    have hlen : rows.length + new.length ≤ maxLen:=by
     have:=Nat.le_trans (Nat.le_mul_of_pos_right (rows.length + new.length) hby) hb
     unfold maxLen; omega
    have hold : ∃ (bd : Addr) (olds : List Value),(B = some bd ∨ rows = []) ∧ olds.length = rows.length * i.size ∧ (∀ j u,olds[j]? = some u → w.cell? (bd.add j) = some u) ∧
     ∀ (i2 : Nat) (r : List C) (j : Nat) (c : C),rows[i2]? = some r → r[j]? = some c → ∃ u,olds[i2 * i.size + j]? = some u ∧ Rd w (Good g s.objs blk w) u c:=by
     cases B with
     | none =>
      have : rows = []:=by
       cases hrd with
       | sl vals e1 e2 e3 e4 e5 e6 e7 =>
        have : ¬ 0 < n:=fun hl=>by simpa using e5 hl
        exact List.eq_nil_of_length_eq_zero (by omega)
      subst this
      exact ⟨ad,[],.inr rfl,by simp,by simp,fun i2 r j c hr=>by simp at hr⟩
     | some bd =>
      obtain ⟨olds,o1,o2,o3⟩:=yxf hrd
      exact ⟨bd,olds,.inl rfl,by rw [hrl]; exact o1,o2,o3⟩
    obtain ⟨bd,olds,hB,o1,o2,o3⟩:=hold
    have hcap:=grownCap_ge w (rows.length + new.length) n e
    have hcapm:=grownCap_le_maxLen w (rows.length + new.length) n e hlen
    obtain ⟨a1,a2,a3,a4⟩:=yxn (w:=w) (G:=Good g s.objs blk w) (rows:=rows) (olds:=olds) (cap:=grownCap w (rows.length + new.length) n e) (z:=z.cells) o1 n1 hsz hcap hro n4 o3 n5
    have hr : (Builtin.append_ #[t,t] o.type #[.slice B n n,.slice (some ad) new.length c]).run P w = .ok (.slice (some ⟨w.heap.size,0,none⟩) (rows.length + new.length) (grownCap w (rows.length + new.length) n e))
     (w.drew.alloc (.cells (olds.toArray ++ news.toArray ++ Builtin.zeroCells z.cells (grownCap w (rows.length + new.length) n e - (rows.length + new.length))) e)):=by
     subst hrl
     rcases hB with rfl | rfl
     ·exact run_append_grow (P:=P) w t o.type e i z ht hi hz bd rows.length rows.length olds o1 o2 ad new.length c news n1 (n2 ad rfl) (by omega) (by unfold maxLen at hlen; omega) (growslice_fits (by omega) hb)
     ·cases B with
      | none =>
       have:=run_append_nil (P:=P) w t o.type e i z ht hi hz ad new.length c news n1 (n2 ad rfl) h0 (by unfold maxLen at hlen; simp at hlen; omega) (by simp at hb; omega)
       have ho : olds = []:=List.eq_nil_of_length_eq_zero (by simpa using o1)
       subst ho
       simpa using this
      | some bd' =>
       have ho : olds = []:=List.eq_nil_of_length_eq_zero (by simpa using o1)
       subst ho
       exact run_append_grow (P:=P) w t o.type e i z ht hi hz bd' 0 0 [] (by simp) (by simp) ad new.length c news n1 (n2 ad rfl) (by simpa using h0) (by unfold maxLen at hlen; simp at hlen ⊢; omega) (growslice_fits (by simpa using h0) hb)
    refine yhI h.drew hd (e:=e) (run _ _ hr) ?_ ?_ hK
    ·intro w' G' O' blk' KK hh
     exact .inr ⟨_,_,_,rfl,hh,a2,a3,ysF (w:=w) (G:=Good g s.objs blk w) (fun u c hr=>(Rd.mono (w':=w.drew) hr (fun _ h=>h) (fun _ _ _ h=>h)).mono KK.good KK.cell) a4⟩
    ·intro d G' O' blk' hO hb' hh
     exact ⟨rows.length + new.length,by rw [hO]; simp [Obj.ybP],Nat.le_refl _,.inr ⟨_,_,_,_,hb',rfl,hcap,hcapm,hh,by rw [a1]; exact Nat.le_refl _⟩⟩
  ·-- a row of the call's own
   rename_i id k' n
   split at hK
   ·rename_i k2 rows hO
    obtain ⟨rfl,rfl,hb,hK⟩:=hK
    have hk2 : k2 = i.size:=by
     obtain ⟨m,hdim,_⟩:=ep
     have : (s.ob id).ybP = some (i.size,m):=hdim
     rw [hO] at this; simp [Obj.ybP] at this; exact this.1
    subst hk2
    obtain ⟨hb0,olds,Fo,u1,u2,u3,u4,u5,u6,u7⟩:=ykX h ep true (.inl hO) rfl
    have hlive : s.objs id ≠ .none:=by rw [show s.objs id = _ from hO]; simp
    obtain ⟨r,w',X,v1,v2,v3,v4⟩:=yha (w:=w) (ty:=o.type) ht hi hz hsz hby u1 n0 n0' n1 n2 n3 hb (c:=c)
    obtain ⟨L',hre,hrv⟩:=h.append true (t:=id) (ids:=[id]) (Fo:=fun _ _=>noF) (Fn:=fun _ _=>noF) (.inl (by simp)) u2 u3 n4 u4 n5 (fun q hq=>⟨id,by simp,hlive,u5 q hq⟩) (fun _ _ _ h=>h.elim) (fun _ _ _ h=>h.elim) (fun _ _ _ _ _ h=>h.elim) (fun _ _ _ _ _ h=>h.elim) (fun _ _ _ _ _ h=>h.elim) v2 v3 v4
    rw [yor] at hre
    refine ⟨_,_,run _ _ v1,_,L',hK,hre.put hd (hrv _ _ ?_)⟩
    simp [St.renew,upd,mkO]
   ·rename_i k2 ver rows hO
    obtain ⟨rfl,rfl,hb,hK⟩:=hK
    have hk2 : k2 = i.size:=by
     obtain ⟨m,hdim,_⟩:=ep
     have : (s.ob id).ybP = some (i.size,m):=hdim
     rw [hO] at this; simp [Obj.ybP] at this; exact this.1
    subst hk2
    obtain ⟨hb0,olds,Fo,u1,u2,u3,u4,u5,u6,u7⟩:=ykX h ep false (.inr ⟨rfl,ver,hO⟩) rfl
    have hlive : s.objs id ≠ .none:=by rw [show s.objs id = _ from hO]; simp
    obtain ⟨r,w',X,v1,v2,v3,v4⟩:=yha (w:=w) (ty:=o.type) ht hi hz hsz hby u1 n0 n0' n1 n2 n3 hb (c:=c)
    obtain ⟨L',hre,hrv⟩:=h.append false (t:=id) (ids:=[id]) (Fo:=Fo) (Fn:=fun _ _=>noF) (.inl (by simp)) u2 u3 n4 u4 (fun i r j c hr hc=>let ⟨u,hu,hru⟩:=n5 i r j c hr hc; ⟨u,hu,hru.ot⟩) (fun q hq=>⟨id,by simp,hlive,u5 q hq⟩) (fun i j x hx=>⟨id,by simp,hlive,u6 i j x hx⟩) (fun _ _ _ h=>h.elim) u7 (fun _ _ _ _ _ h=>h.elim) (fun _ _ _ _ _ _ h=>h.elim) v2 v3 v4
    rw [yor] at hre
    refine ⟨_,_,run _ _ v1,_,L',hK,hre.put hd (hrv _ _ ?_)⟩
    simp [St.renew,upd,mkO]
   ·exact hK.elim
  ·-- a slice in a cell of a tree
   rename_i id ver i' j k' n
   split at hK
   case h_2=>exact hK.elim
   rename_i k0 ver' rows hO
   obtain ⟨rfl,hK⟩:=hK
   have fin : ∀ (fl : Bool) (rs : List (List C)) (cc : C),cellAt rows i'.toNat j = some cc → cc = (if fl then .ow i.size rs else .ot i.size rs) → k' = i.size → (rs.length + new.length) * i.bytes ≤ 140737488355328 → ∀ d,o.dst = some d → (s.ob d).isNone = true →
    K (((s.yat id (.tr k0 (ver' + 1) (setAt rows i'.toNat j .jk))).renew d (mkO fl i.size (rs ++ new))).put (some d) (.own d i.size (rs.length + new.length))) → yN P g o a w K:=by
    clear hK
    intro fl rs cc hc hcc hk' hb d hdst hd0 hK
    subst hk'
    obtain ⟨L1,hr1,hrv1⟩:=h.yDw hO ep hc fl hcc hd0
    have hrv1:=hrv1 (Good g (upd d (mkO fl i.size rs) (upd id (.tr k0 (ver' + 1) (setAt rows i'.toNat j .jk)) s.objs)) L1 w) (upd d (mkO fl i.size rs) (upd id (.tr k0 (ver' + 1) (setAt rows i'.toNat j .jk)) s.objs)) (by simp [upd])
    have hsrc : yaF ⟨s.env,upd d (mkO fl i.size rs) (upd id (.tr k0 (ver' + 1) (setAt rows i'.toNat j .jk)) s.objs)⟩ i.size (s.ev xq) = some new:=by
     rw [← hnew]
     have hob : ∀ x k3 r3,s.ob x = .row k3 r3 → (⟨s.env,upd d (mkO fl i.size rs) (upd id (.tr k0 (ver' + 1) (setAt rows i'.toNat j .jk)) s.objs)⟩ : St).ob x = .row k3 r3:=by
      intro x k3 r3 hx
      have h1 : x ≠ d:=by rintro rfl; rw [ydG hd0] at hx; cases hx
      have h2 : x ≠ id:=by rintro rfl; rw [hO] at hx; cases hx
      show upd d _ _ x = _
      rw [yaq,if_neg h1,yaq,if_neg h2]; exact hx
     revert hnew
     cases s.ev xq with
     | own x k3 n3 =>
      intro hnew
      simp only [yaF] at hnew ⊢
      split at hnew
      ·rename_i k4 r4 hx; rw [hob x k4 r4 hx]
      ·cases hnew
     | cut x k3 l3 n3 =>
      intro hnew
      simp only [yaF] at hnew ⊢
      split at hnew
      ·rename_i k4 r4 hx; rw [hob x k4 r4 hx]
      ·cases hnew
     | c y=>intro _; cases y <;> rfl
     | _=>intro _; rfl
    have eq1:=hr1.evt hq
    obtain ⟨A',c',news',hA',n0,n0',n1,n2,n3,n4,n5⟩:=(src_ok hr1 eq1 hsrc).news
    rw [hA] at hA'
    cases hA'
    have hlive : (⟨s.env,upd d (mkO fl i.size rs) (upd id (.tr k0 (ver' + 1) (setAt rows i'.toNat j .jk)) s.objs)⟩ : St).objs d ≠ .none:=by
     show upd d _ _ d ≠ _
     rw [yaq,if_pos rfl]; cases fl <;> simp [mkO]
    obtain ⟨hb0,olds,Fo,u1,u2,u3,u4,u5,u6,u7⟩:=ykX hr1 hrv1 fl (by cases fl with | false=>exact .inr ⟨rfl,0,by simp [St.ob,upd,mkO]⟩ | true=>exact .inl (by simp [St.ob,upd,mkO])) rfl
    obtain ⟨r,w',X,v1,v2,v3,v4⟩:=yha (w:=w) (ty:=o.type) ht hi hz hsz hby u1 n0 n0' n1 n2 n3 hb (c:=c)
    obtain ⟨L',hre,hrv⟩:=hr1.append fl (t:=d) (ids:=[d]) (Fo:=Fo) (Fn:=fun _ _=>noF) (.inl (by simp)) u2 u3 n4 u4 (fun i r j c hr hc=>let ⟨u,hu,hru⟩:=n5 i r j c hr hc; ⟨u,hu,.yBR hru⟩) (fun q hq=>⟨d,by simp,hlive,u5 q hq⟩) (fun i j x hx=>⟨d,by simp,hlive,u6 i j x hx⟩) (fun _ _ _ h=>h.elim) u7 (fun _ _ _ _ _ h=>h.elim) (fun _ _ _ _ _ _ h=>h.elim) v2 v3 v4
    rw [yor] at hre
    have hst : (⟨s.env,upd d (mkO fl i.size rs) (upd id (.tr k0 (ver' + 1) (setAt rows i'.toNat j .jk)) s.objs)⟩ : St).renew d (mkO fl i.size (rs ++ new)) = (s.yat id (.tr k0 (ver' + 1) (setAt rows i'.toNat j .jk))).renew d (mkO fl i.size (rs ++ new)):=by
     unfold St.renew St.yat
     congr 1
     funext x
     unfold upd
     split
     ·rfl
     ·rename_i hx; simp only [if_neg hx]
    rw [hst] at hre
    refine ⟨_,_,run _ _ v1,_,L',hK,?_⟩
    rw [hdst]
    exact hre.put (by rw [← hdst]; exact hd) (hrv _ _ (by simp [St.renew,upd]))
   split at hK
   ·rename_i k2 rs hc
    obtain ⟨hk',hk2,hb,hK⟩:=hK
    subst hk2
    split at hK
    ·rename_i d hdst
     exact fin true rs _ hc rfl hk' hb d hdst hK.1 hK.2
    ·exact hK.elim
   ·rename_i k2 rs hc
    obtain ⟨hk',hk2,hb,hK⟩:=hK
    subst hk2
    split at hK
    ·rename_i d hdst
     exact fin false rs _ hc rfl hk' hb d hdst hK.1 hK.2
    ·exact hK.elim
   ·exact hK.elim
  ·exact hK.elim
 ·split at hK
  case h_2=>exact hK.elim
  rename_i idy new hsrc
  obtain ⟨hly,Fn,hso,hFn,hdn⟩:=yAr h eq hsrc
  obtain ⟨A,c,news,hA,n0,n0',n1,n2,n3,n4,n5⟩:=hso.news
  rw [hA] at run
  generalize s.ev xp = vp at hK ep
  generalize a.eval p = v at ep run
  split at hK
  ·rename_i kn
   obtain ⟨hb,hK⟩:=hK
   cases ep
   unfold newP at hK
   split at hK
   case h_2=>exact hK.elim
   rename_i d hdst
   obtain ⟨hd0,hK⟩:=hK
   have hd1 : d ∈ [idy] ∨ s.objs d = .none:=by
    by_cases hdy : d = idy
    ·exact .inl (by simp [hdy])
    ·refine .inr ?_
     have:=ydG hd0
     rw [show (s.drop idy).ob d = (s.objs d).kill idy by simp [St.drop,St.renew,St.ob,upd,hdy]] at this
     cases hs : s.objs d with
     | none=>rfl
     | _=>exact absurd this ((Obj.ymB idy _).2 (by rw [hs]; simp))
   obtain ⟨r,w',X,v1,v2,v3,v4⟩:=yha (w:=w) (ty:=o.type) ht hi hz hsz hby (v:=.slice none 0 0) (hb:=none) (n:=0) (olds:=[]) (.inl ⟨rfl,⟨none,rfl⟩,rfl,rfl⟩) n0 n0' n1 n2 n3 (by rw [Nat.zero_add]; exact hb) (c:=c)
   obtain ⟨L',hre,hrv⟩:=h.append false (t:=d) (ids:=[idy]) (rows:=[]) (olds:=[]) (Fo:=fun _ _=>noF) (Fn:=Fn) hd1 (by simp) (by simp) n4 (fun i r j c hr=>by simp at hr) n5 (fun q hq=>by cases hq) (fun _ _ _ h=>h.elim) (fun i j x hx=>⟨idy,by simp,hly,hFn i j x hx⟩) (fun _ _ _ _ _ h=>h.elim) hdn (fun _ _ _ _ _ h=>h.elim) v2 v3 (by simpa using v4)
   refine ⟨_,_,run _ _ v1,_,L',hK,?_⟩
   have hput:=hre.put (d:=some d) (v:=r) (x:=.own d i.size new.length) (by rw [← hdst]; exact hd) (by
    have:=hrv (Good g (upd d (mkO false i.size ([] ++ new)) (s.drops [idy]).objs) L' w') (upd d (mkO false i.size ([] ++ new)) (s.drops [idy]).objs) (by simp [upd])
    simp only [List.nil_append,List.length_nil,Nat.zero_add] at this ⊢
    exact this)
   rw [hdst]
   exact hput
  ·rename_i id k' n
   obtain ⟨hne,hK⟩:=hK
   have fin : ∀ (rows : List (List C)),(s.ob id = .row i.size rows ∨ (false = false ∧ ∃ ver,s.ob id = .tr i.size ver rows)) → s.objs id ≠ .none → k' = i.size → n = rows.length → (rows.length + new.length) * i.bytes ≤ 140737488355328 →
    K (((s.drop idy).renew id (.tr i.size 0 (rows ++ new))).put o.dst (.own id i.size (rows.length + new.length))) → yN P g o a w K:=by
    clear hK
    intro rows hO hlive hk' hn hb hK
    subst hk'; subst hn
    obtain ⟨hb0,olds,Fo,u1,u2,u3,u4,u5,u6,u7⟩:=ykX h ep false hO rfl
    obtain ⟨r,w',X,v1,v2,v3,v4⟩:=yha (w:=w) (ty:=o.type) ht hi hz hsz hby u1 n0 n0' n1 n2 n3 hb (c:=c)
    obtain ⟨L',hre,hrv⟩:=h.append false (t:=id) (ids:=[idy,id]) (Fo:=Fo) (Fn:=Fn) (.inl (by simp)) u2 u3 n4 u4 n5 (fun q hq=>⟨id,by simp,hlive,u5 q hq⟩) (fun i j x hx=>⟨id,by simp,hlive,u6 i j x hx⟩) (fun i j x hx=>⟨idy,by simp,hly,hFn i j x hx⟩) u7 hdn (fun i j i' j' x hx hx'=>hne (h.inj id idy x hlive hly (.inr (u6 i j x hx)) (.inr (hFn i' j' x hx')))) v2 v3 v4
    rw [yqT s id idy hne] at hre
    refine ⟨_,_,run _ _ v1,_,L',hK,hre.put hd (hrv _ _ ?_)⟩
    simp [St.renew,upd,mkO]
   split at hK
   ·rename_i k2 rows hO
    obtain ⟨rfl,hn,hb,hK⟩:=hK
    have hk2 : k2 = i.size:=by
     obtain ⟨m,hdim,_⟩:=ep
     have : (s.ob id).ybP = some (i.size,m):=hdim
     rw [hO] at this; simp [Obj.ybP] at this; exact this.1
    subst hk2
    exact fin rows (.inl hO) (by rw [show s.objs id = _ from hO]; simp) rfl hn hb hK
   ·rename_i k2 ver rows hO
    obtain ⟨rfl,hn,hb,hK⟩:=hK
    have hk2 : k2 = i.size:=by
     obtain ⟨m,hdim,_⟩:=ep
     have : (s.ob id).ybP = some (i.size,m):=hdim
     rw [hO] at this; simp [Obj.ybP] at this; exact this.1
    subst hk2
    exact fin rows (.inr ⟨rfl,ver,hO⟩) (by rw [show s.objs id = _ from hO]; simp) rfl hn hb hK
   ·exact hK.elim
  ·exact hK.elim
theorem yuR (w : World) (t ty e : TypeId) (i : TypeInfo) (ht : P.underlying t = some (.slice e)) (hi : P.info? e = some i) {B A : Option Addr} {n bc m c : Nat} {news : List Value} (hl : news.length = min m n * i.size) (h0 : A = none → min m n = 0) (hnews : ∀ ad,A = some ad → ∀ j u,news[j]? = some u → w.cell? (ad.add j) = some u) {w' : World}
 (hst : ∀ b,B = some b → (storeCells b news).run P w = .ok () w') (hB : B = none → w' = w) :
 (Builtin.copy_ #[t,t] ty #[.slice B n bc,.slice A m c]).run P w = .ok (goInt ((min m n : Nat) : Int)) w':=by
 have hmm : Nat.min m n = min m n:=rfl
 have hf : (Builtin.firstCells i.size (min m n) (.slice A m c)).run P w = .ok news.toArray w:=by
  cases A with
  | none =>
   have:=h0 rfl
   have hn : news = []:=List.eq_nil_of_length_eq_zero (by rw [hl,this]; simp)
   subst hn
   simp [Builtin.firstCells,this]
  | some ad=>exact run_firstCells_some (P:=P) w i.size (min m n) ad m c news hl (hnews ad rfl)
 cases B with
 | none =>
  rw [hB rfl]
  simp [Builtin.copy_,run_underlying ht,sizeOf,typeInfo,hi,Builtin.lenOf,hmm,hf]
 | some b =>
  have:=hst b rfl
  simp [Builtin.copy_,run_underlying ht,sizeOf,typeInfo,hi,Builtin.lenOf,hmm,hf,this]
end
section
variable {P : Program} {g : Ghost} {o : Oper} {s : St} {a : Act} {w : World} {blk : Lay} {K : St → Prop}
theorem yAB {t u ty e : TypeId} {i : TypeInfo} {z : Value} {ik : IntKind} (ht : P.underlying t = some (.slice e)) (hu : P.underlying u = some (.int ik)) (hi : P.info? e = some i) (hz : i.zero = some z)
 {m : Int} (h0 : 0 < m) (h63 : m ≤ 9223372036854775807) (h48 : m.toNat * i.bytes ≤ 140737488355328) (hs : 0 < i.size) :
 (Builtin.append_ #[t,u] ty #[.slice none 0 0,.int .i64 m]).run P w =
  .ok (.slice (some ⟨w.heap.size,0,none⟩) m.toNat (grownCap w m.toNat 0 e)) (w.drew.alloc (.cells (Builtin.zeroCells z.cells m.toNat ++ Builtin.zeroCells z.cells (grownCap w m.toNat 0 e - m.toNat)) e)):=by
 obtain ⟨n,rfl⟩:=Int.eq_ofNat_of_zero_le (Int.le_of_lt h0)
 simp only [Int.ofNat_eq_coe,Int.toNat_natCast] at *
 have hn : n ≠ 0:=by omega
 have h63' : ¬ (9223372036854775807 < (n : Int)):=by omega
 have hw : IntKind.i64.wrap (n : Int) = n:=by unfold IntKind.wrap; simp [IntKind.bits,IntKind.signed]; omega
 have hb : ¬ (281474976710656 < (n : Int) * (i.bytes : Int)):=by
  have h:=Int.ofNat_le.2 h48
  rw [Int.natCast_mul] at h
  omega
 have hq : n * i.size ≠ 0:=by have:=Nat.mul_pos (by omega : 0 < n) hs; omega
 have h48' : ¬ (281474976710656 < Builtin.nextslicecap n 0 * i.bytes):=by rw [nextslicecap_zero (by omega)]; omega
 simp [Builtin.append_,run_underlying ht,run_underlying hu,sizeOf,typeInfo,zeroValue,hi,hz,Builtin.lenOf,hn,h63',h48',Question.forced,run_firstCells_none,newRow,grownCap,asInt,asIntOf,hw,hb,hq]
 intro h; omega
theorem yBD (h : Repr g s a w blk) (hd : ∀ i,o.dst = some i → i < g.N) {t u e : TypeId} {i : TypeInfo} {z : Value} {p q : Operand} {xp : X} {op : IOp} (ho : o.op = .call { callee:=.builtin .append,args:=#[p,q],argTypes:=#[t,u] })
 (ht : P.underlying t = some (.slice e)) (hi : P.info? e = some i) (hz : i.zero = some z) (hp : cxt P t p = some xp) (hc : yzW P u e i z xp q = some op) (hK : yV P o.dst op s K) : yN P g o a w K:=by
 unfold yzW at hc
 split at hc
 case h_2=>cases hc
 rename_i ik hu
 split at hc
 case h_2=>cases hc
 rename_i xn hn
 split at hc
 case isFalse=>cases hc
 rename_i hif
 obtain ⟨hsz,hs,hby⟩:=hif
 simp only [Option.map_eq_some_iff] at hc
 obtain ⟨cs,hcs,rfl⟩:=hc
 simp only [yV] at hK
 have ep:=h.evt hp; have eq:=h.ev hn
 have run : ∀ r w',(Builtin.append_ #[t,u] o.type #[a.eval p,a.eval q]).run P w = .ok r w' → (execOp a.eval o).run P w = .ok (.value r) w':=by
  intro r w' hr
  simp [execOp,ho,resolve,invoke,builtin,hr]
 revert hK ep eq run
 generalize s.ev xp = vp; generalize s.ev xn = vn
 generalize a.eval p = v; generalize a.eval q = v2
 intro hK ep eq run
 unfold yrV at hK
 split at hK
 case h_2=>exact hK.elim
 rename_i kn m
 obtain ⟨h0,h1,hK⟩:=hK
 cases ep
 obtain ⟨e2,i2⟩:=eq.int
 subst e2
 obtain ⟨z1,z2⟩:=ygo (ylV hcs)
 have z3 : cs.length = i.size:=by rw [z1,Array.length_toList,hsz]
 rcases Int.lt_or_eq_of_le h0 with hm | hm
 ·have hr:=yAB (P:=P) (w:=w) (ty:=o.type) ht hu hi hz hm i2.2 h1 hs
  have hmx : m.toNat ≤ maxLen:=by
   have:=Nat.le_trans (Nat.le_mul_of_pos_right m.toNat hby) h1
   unfold maxLen; omega
  have hcap:=grownCap_ge w m.toNat 0 e
  have hcapm:=grownCap_le_maxLen w m.toNat 0 e hmx
  have hdr : w.drew.heap.size = w.heap.size:=rfl
  refine yhI (w:=w.drew) h.drew hd (w1:=w) (v:=.slice (some ⟨w.heap.size,0,none⟩) m.toNat (grownCap w m.toNat 0 e)) (arr:=Builtin.zeroCells z.cells m.toNat ++ Builtin.zeroCells z.cells (grownCap w m.toNat 0 e - m.toNat)) (e:=e) (run _ _ hr) ?_ ?_ hK
  ·intro w' G' O' blk' KK hh
   refine .inr ⟨_,_,_,rfl,hh,?_,fun r hr=>by rw [(List.mem_replicate.1 hr).2]; exact z3,fun i2 r j c hr hc=>?_⟩
   ·simp only [Array.size_append,size_zeroCells,hsz,List.length_replicate]
    exact Nat.le_add_right _ _
   ·have hi2 : i2 < m.toNat:=by have:=(List.getElem?_eq_some_iff.1 hr).1; simpa using this
    rw [List.getElem?_replicate,if_pos hi2] at hr
    cases hr
    obtain ⟨u,hu,hru⟩:=z2 j c hc
    have hj : j < i.size:=by rw [← z3]; exact (List.getElem?_eq_some_iff.1 hc).1
    refine ⟨u,?_,yl1 hru⟩
    have hlt : i2 * i.size + j < (Builtin.zeroCells z.cells m.toNat).size:=by
     rw [size_zeroCells,hsz]
     have:=Nat.mul_le_mul_right i.size (show i2 + 1 ≤ m.toNat by omega)
     rw [Nat.add_mul] at this; omega
    rw [Array.getElem?_append_left hlt]
    have hmod : (i2 * i.size + j) % i.size = j:=by rw [Nat.mul_comm,Nat.mul_add_mod]; exact Nat.mod_eq_of_lt hj
    have hlt2 : i2 * i.size + j < m.toNat * i.size:=by rw [size_zeroCells,hsz] at hlt; exact hlt
    have hu2 : z.cells[j]? = some u:=by simpa using hu
    simp [Builtin.zeroCells,hsz,hlt2,hmod,hu2,getElem!_def]
  ·intro d G' O' blk' hO hb hh
   exact ⟨_,by rw [hO]; rfl,by simp,.inr ⟨_,_,_,_,hb,rfl,hcap,hcapm,hh,by simp only [Array.size_append,size_zeroCells,hsz,← Nat.add_mul]; exact Nat.mul_le_mul_right _ (by omega)⟩⟩
 ·subst hm
  have hr : (Builtin.append_ #[t,u] o.type #[.slice none 0 0,.int .i64 0]).run P w = .ok (.slice none 0 0) w:=by
   have hw : IntKind.i64.wrap (0 : Int) = 0:=by unfold IntKind.wrap; simp [IntKind.bits,IntKind.signed]
   simp [Builtin.append_,run_underlying ht,run_underlying hu,sizeOf,typeInfo,zeroValue,hi,hz,asInt,asIntOf,hw]
  unfold newP at hK
  split at hK
  ·rename_i d hdst
   obtain ⟨hd0,hK⟩:=hK
   have hv:=h.virt (d:=d) (k:=i.size) true (ydG hd0)
   refine ⟨_,_,run _ _ hr,_,blk.upd d none noF,hK,?_⟩
   have hput:=hv.put (d:=some d) (v:=.slice none 0 0) (x:=.own d i.size 0) (by rw [← hdst]; exact hd) ⟨0,by simp [upd,mkO,Obj.ybP],Nat.le_refl _,.inl ⟨by show (blk.upd _ _ _).root d = _; rw [Lay.yaG,if_pos rfl],rfl,none,rfl⟩⟩
   rw [hdst]; exact hput
  ·exact hK.elim
end
end Go.Proofs.YtpiplmnecmkafaaGreat
namespace Go.Proofs.YtpiplmnecmkafaaGreat
open Go.RowKit
section
variable {P : Program} {g : Ghost} {o : Oper} {s : St} {a : Act} {w : World} {blk : Lay} {K : St → Prop}
theorem fold_push : ∀ (l : List UInt8) (acc : ByteArray),(l.map fun b=>(b.toNat : Int)).foldl (fun r n=>r.push (UInt8.ofNat n.toNat)) acc = ⟨acc.data ++ l.toArray⟩
 | [],acc=>by simp
 | b :: l,acc=>by
  simp only [List.map_cons,List.foldl_cons]
  rw [fold_push l]
  have : (acc.push (UInt8.ofNat (b.toNat : Int).toNat)).data = acc.data.push b:=by
   simp [ByteArray.push]
  rw [this]
  simp
theorem yBz (h : Repr g s a w blk) {v : Value} {y : AV} {k : Nat} {new : List (List C)} (hv : RVs g s w blk v y) (hs : yaF s k y = some new) : new.length ≤ maxLen:=by
 have rd : ∀ rows,Rd w (Good g s.objs blk w) v (.sl k rows) → rows.length ≤ maxLen:=by
  intro rows hr
  cases hr; omega
 unfold yaF at hs
 split at hs
 ·split at hs
  ·rename_i e; subst e; cases hs; exact rd _ hv.c
  ·cases hs
 ·split at hs
  ·rename_i e; subst e; cases hs; obtain ⟨_,_,_,hr⟩:=hv; exact rd _ hr
  ·cases hs
 ·split at hs
  ·split at hs
   ·cases hs
    obtain ⟨m,_,hn,hval⟩:=hv
    rcases hval with ⟨_,h0,_⟩ | ⟨_,_,_,_,_,_,h1,h2,_⟩
    ·rw [List.length_take]; unfold maxLen; omega
    ·rw [List.length_take]; omega
   ·cases hs
  ·cases hs
 ·split at hs
  ·split at hs
   ·cases hs
    obtain ⟨m,A,c,_,_,_,h1,h2,_⟩:=hv
    rw [List.length_take]; omega
   ·cases hs
  ·cases hs
 ·cases hs; simp
 ·cases hs
theorem wrap_u64 {n : Int} (h0 : 0 ≤ n) (h1 : n ≤ 9223372036854775807) : IntKind.u64.wrap n = n:=by
 simp only [IntKind.wrap,IntKind.bits,IntKind.signed]
 simp
 omega
theorem yod (h : Repr g s a w blk) (hd : ∀ i,o.dst = some i → i < g.N) {n : Nat} {t u : TypeId} {p : Operand} {xp : X} (ho : o.op = .convert t u p)
 (hn : (n = 0 ∧ (isByte P t || isInt P t) = true ∧ isInt P u = true) ∨ (n = 1 ∧ (isByte P t || isInt P t) = true ∧ isByte P u = true) ∨ (n = 2 ∧ ∃ e,P.underlying t = some (.slice e) ∧ P.underlying u = some .string ∧ isByte P e = true)
  ∨ (n = 0 ∧ ymD P t = true ∧ isInt P u = true) ∨ (n = 3 ∧ isInt P t = true ∧ ymD P u = true))
 (hp : cx p = some xp) (hK : yen n s (s.ev xp) fun v=>K (s.put o.dst v)) : yN P g o a w K:=by
 have ep:=h.ev hp
 have hint : ∀ {t : TypeId},isInt P t = true → P.underlying t = some (.int .i64):=by
  intro t ht; unfold isInt at ht; split at ht
  ·assumption
  ·cases ht
 have hbyte : ∀ {t : TypeId},isByte P t = true → P.underlying t = some (.int .u8):=by
  intro t ht; unfold isByte at ht; split at ht
  ·assumption
  ·cases ht
 have hsrc : (isByte P t || isInt P t) = true → ∃ k,P.underlying t = some (.int k):=by
  intro ht
  simp only [Bool.or_eq_true] at ht
  rcases ht with ht | ht
  ·exact ⟨_,hbyte ht⟩
  ·exact ⟨_,hint ht⟩
 have run : ∀ (k k' : IntKind) (m : Int),(∃ k0,P.underlying t = some (.int k0)) → P.underlying u = some (.int k') → a.eval p = .int k m → (execOp a.eval o).run P w = .ok (.value (.int k' (k'.wrap m))) w:=by
  intro k k' m ⟨k0,h0⟩ h1 e1
  simp [execOp,ho,e1,convert,run_underlying h0,run_underlying h1,Conv.intToInt]
 have hwide : ∀ {t : TypeId},ymD P t = true → P.underlying t = some (.int .u64):=by
  intro t ht; unfold ymD at ht; split at ht
  ·assumption
  ·cases ht
 have zero : ∀ (k0 : ∃ k,P.underlying t = some (.int k)) (h1 : isInt P u = true),yen 0 s (s.ev xp) (fun v=>K (s.put o.dst v)) → yN P g o a w K:=by
  intro k0 h1 hK
  unfold yen at hK
  simp only at hK
  split at hK
  ·rename_i m hm
   rw [hm] at ep
   obtain ⟨e1,hlt⟩:=ep.byte
   refine yN.ycR h hd hK (run _ _ _ k0 (hint h1) e1) ?_
   rw [yfr (by unfold inI; omega)]
   exact .mkI (by unfold inI; omega)
  ·rename_i m hm
   rw [hm] at ep
   obtain ⟨e1,hin⟩:=ep.int
   refine yN.ycR h hd hK (run _ _ _ k0 (hint h1) e1) ?_
   rw [yfr hin]
   exact .mkI hin
  ·rename_i m hm
   rw [hm] at ep
   obtain ⟨e1,hlt⟩:=ep.wide
   refine yN.ycR h hd hK.2 (run _ _ _ k0 (hint h1) e1) ?_
   have:=hK.1
   rw [yfr (by unfold inI; omega)]
   exact .mkI (by unfold inI; omega)
  ·exact hK.elim
 rcases hn with ⟨rfl,h0,h1⟩ | ⟨rfl,h0,h1⟩ | ⟨rfl,e,h0,h1,h2⟩ | ⟨rfl,h0,h1⟩ | ⟨rfl,h0,h1⟩
 ·exact zero (hsrc h0) h1 hK
 ·unfold yen at hK
  simp only at hK
  split at hK
  ·rename_i m hm
   rw [hm] at ep
   obtain ⟨e1,hlt⟩:=ep.byte
   refine yN.ycR h hd hK (run _ _ _ (hsrc h0) (hbyte h1) e1) ?_
   rw [wrap_u8,show (m : Int) % 256 = m by omega]
   exact .mk (.u hlt)
  ·rename_i m hm
   rw [hm] at ep
   obtain ⟨e1,hin⟩:=ep.int
   refine yN.ycR h hd hK (run _ _ _ (hsrc h0) (hbyte h1) e1) ?_
   rw [wrap_u8,show m % 256 = ((m % 256).toNat : Int) by omega]
   exact .mk (.u (by omega))
  ·exact hK.elim
 ·unfold yen at hK
  simp only at hK
  split at hK
  ·rename_i rows hrows
   obtain ⟨l,rfl,hK⟩:=hK
   obtain ⟨A,c,news,hA,n0,n0',n1,n2,n3,n4,n5⟩:=(src_ok h ep hrows).news
   have hnews : news = l.map fun b=>Value.int .u8 b.toNat:=by
    apply List.ext_getElem?
    intro q
    rcases Nat.lt_or_ge q l.length with hq | hq
    ·obtain ⟨z,hz,hr⟩:=n5 q [.u l[q].toNat] 0 (.u l[q].toNat) (by simp [yvZ,hq]) rfl
     simp only [Nat.mul_one,Nat.add_zero] at hz
     cases hr
     rw [hz]; simp [hq]
    ·rw [List.getElem?_eq_none (by rw [n1]; simpa using hq),List.getElem?_eq_none (by simpa using hq)]
   have hmax : l.length ≤ maxLen:=by have:=yBz h ep hrows; simpa using this
   have hcv : (convert t u (.slice A (l.map yvZ).length c)).run P w = .ok (.string ⟨l.toArray⟩) w:=by
    have hcs : (convert t u (.slice A (l.map yvZ).length c)).run P w = (Conv.bytesToString (.slice A (l.map yvZ).length c)).run P w:=by
     simp [convert,run_underlying h0,run_underlying h1,run_underlying (hbyte h2)]
    rw [hcs,List.length_map]
    cases A with
    | none =>
     have : l = []:=by have:=n0 rfl; simpa using this
     subst this
     rfl
    | some ad =>
     have hld:=run_loadCells_list (P:=P) w ad news (n2 ad rfl)
     rw [hnews,List.length_map,show (l.map fun b=>Value.int .u8 b.toNat) = (l.map fun b=>(b.toNat : Int)).map (Value.int .u8) by rw [List.map_map]; rfl] at hld
     rw [run_bytesToString w ad l.length c _ hld,fold_push]
     simp
   have hrun : (execOp a.eval o).run P w = .ok (.value (.string ⟨l.toArray⟩)) w:=by
    simp only [execOp,ho,hA,Sem.run_bind,hcv,Result.andThen_ok,Sem.run_pure]
   exact yN.ycR h hd hK hrun (.mk (.s (by simpa [ByteArray.size] using hmax)))
  ·exact hK.elim
 ·exact zero ⟨_,hwide h0⟩ h1 hK
 ·unfold yen at hK
  simp only at hK
  split at hK
  ·rename_i m hm
   rw [hm] at ep
   obtain ⟨e1,hin⟩:=ep.int
   obtain ⟨h3,hK⟩:=hK
   unfold inI at hin
   refine yN.ycR h hd hK (run _ _ _ ⟨_,hint h0⟩ (hwide h1) e1) ?_
   rw [wrap_u64 h3 hin.2,show m = (m.toNat : Int) by omega]
   exact .mk (.q (by omega))
  ·exact hK.elim
theorem cp_ok (h : Repr g s a w blk) (hd : ∀ i,o.dst = some i → i < g.N) {t e : TypeId} {k : Nat} {p q : Operand} {xp xq : X} (ho : o.op = .call { callee:=.builtin .copy,args:=#[p,q],argTypes:=#[t,t] })
 (ht : P.underlying t = some (.slice e)) (hk : yfp P e = some k)
 (hp : cx p = some xp) (hq : cx q = some xq) (hK : cpP k s o.dst (s.ev xp) (s.ev xq) K) : yN P g o a w K:=by
 obtain ⟨i,hi,rfl⟩:=yd7 hk
 have ep:=h.ev hp; have eq:=h.ev hq
 have run : ∀ r w',(Builtin.copy_ #[t,t] o.type #[a.eval p,a.eval q]).run P w = .ok r w' → (execOp a.eval o).run P w = .ok (.value r) w':=by
  intro r w' hr
  simp [execOp,ho,resolve,invoke,builtin,hr]
 unfold cpP at hK
 split at hK
 ·rename_i new hnew
  obtain ⟨A,c,news,hA,n0,n0',n1,n2,n3,n4,n5⟩:=(src_ok h eq hnew).news
  split at hK
  ·rename_i id k' n hx
   split at hK
   ·rename_i k2 rows hO
    obtain ⟨rfl,hle,hK⟩:=hK
    rw [hx] at ep
    obtain ⟨m,hdim,hn,hval⟩:=ep
    have hk2 : k2 = i.size ∧ rows.length = m:=by
     have : (s.ob id).ybP = some (i.size,m):=hdim
     rw [hO] at this; simpa [Obj.ybP] using this
    obtain ⟨rfl,rfl⟩:=hk2
    have hlive : s.ob id ≠ .none:=by rw [hO]; simp
    have hmin : min new.length n * i.size ≤ news.length:=by rw [n1]; exact Nat.mul_le_mul_right _ (by omega)
    have hgi : ∀ (x : Nat),goInt x = .int .i64 x:=fun _=>rfl
    have hcpl : (news.take (min new.length n * i.size)).length = min new.length n * i.size:=by simp; omega
    rcases hval with ⟨hb,rfl,A0,hv⟩ | ⟨b,cap,arr,e',hb,hv,h1,h2,h3,h4⟩
    ·have hr:=yuR (P:=P) w t o.type e i ht hi (B:=A0) (A:=A) (n:=0) (bc:=0) (m:=new.length) (c:=c) (news:=[]) (by simp) (fun e=>by simp) (fun _ _ j u hu=>by simp at hu) (w':=w) (fun b _=>by simp [storeCells]) (fun _=>rfl)
     rw [← hv,← hA] at hr
     have e1 : new.take 0 ++ rows.drop (min new.length 0) = rows:=by simp
     rw [e1] at hK
     refine ⟨_,_,run _ _ hr,_,blk,hK,?_⟩
     have : s.yat id (.row i.size rows) = s:=by
      unfold St.yat
      congr 1
      funext x
      unfold upd
      split
      ·rename_i hx'; rw [hx']; exact hO.symm
      ·rfl
     rw [this]
     refine h.put hd ?_
     rw [hgi]
     exact .mkI (by unfold inI; omega)
    ·obtain ⟨arr',e2,r1,r2,r3,r4⟩:=h.row hO hb
     rw [h3] at r1; cases r1
     have hfit : 0 + (news.take (min new.length n * i.size)).length ≤ arr.size:=by
      rw [hcpl,Nat.zero_add]
      exact Nat.le_trans (Nat.mul_le_mul_right _ (by omega)) h4
     have hst:=run_storeCells_at P b 0 e' (news.take (min new.length n * i.size)) 0 arr w h3 (by simpa using hfit) (fun u hu=>n3 u (List.mem_of_mem_take hu))
     simp only [Nat.add_zero,Nat.zero_add] at hst
     have hr:=yuR (P:=P) w t o.type e i ht hi (B:=some ⟨b,0,none⟩) (A:=A) (n:=n) (bc:=cap) (m:=new.length) (c:=c) (news:=news.take (min new.length n * i.size)) hcpl (fun e=>by rw [n0 e]; simp) (fun ad had j u hu=>by
      rw [List.getElem?_take] at hu
      split at hu
      ·exact n2 ad had j u hu
      ·cases hu) (fun b0 hb0=>by cases hb0; exact hst) (fun e=>by cases e)
     rw [← hv,← hA] at hr
     refine ⟨_,_,run _ _ hr,_,blk,hK,?_⟩
     have hsz2 : (arr.toList.take 0 ++ news.take (min new.length n * i.size) ++ arr.toList.drop (0 + (news.take (min new.length n * i.size)).length)).toArray.size = arr.size:=ycI arr _ 0 _ rfl hfit
     have hre:=h.setRow (o':=.row i.size (new.take n ++ rows.drop (min new.length n))) hlive hb h3 hsz2 (by rw [hO]; exact ⟨_,rfl,by simp; omega⟩) (fun k v rows e=>by rw [hO] at e; cases e) (fun w' G' O' KK hh _=>by
      refine .inr ⟨b,_,e',rfl,hh,by rw [hsz2]; simp; refine Nat.le_trans (Nat.mul_le_mul_right _ ?_) r2; omega,fun r hr=>?_,fun i2 r j c2 hr hc=>?_⟩
      ·rcases List.mem_append.1 hr with h5 | h5
       ·exact n4 r (List.mem_of_mem_take h5)
       ·exact r3 r (List.mem_of_mem_drop h5)
      ·rw [ydU _ _ _ _ rfl hfit,if_neg (by omega),hcpl]
       simp only [Nat.zero_add,Nat.sub_zero]
       by_cases hi2 : i2 < min new.length n
       ·rw [List.getElem?_append_left (by simp; omega),List.getElem?_take,if_pos (by omega)] at hr
        obtain ⟨u,hu,hru⟩:=n5 i2 r j c2 hr hc
        have hj : j < i.size:=by rw [← n4 r (List.mem_of_getElem? hr)]; exact (List.getElem?_eq_some_iff.1 hc).1
        have h5 : (i2 + 1) * i.size ≤ min new.length n * i.size:=Nat.mul_le_mul_right _ hi2
        rw [Nat.add_mul,Nat.one_mul] at h5
        exact ⟨u,by rw [if_pos (by omega),List.getElem?_take,if_pos (by omega)]; exact hu,Rd.mono hru KK.good KK.cell⟩
       ·rw [List.getElem?_append_right (by simp; omega),List.getElem?_drop,List.length_take] at hr
        rw [show min new.length n + (i2 - min n new.length) = i2 by omega] at hr
        obtain ⟨u,hu,hru⟩:=r4 i2 r j c2 hr hc
        have h5 : min new.length n * i.size ≤ i2 * i.size:=Nat.mul_le_mul_right _ (by omega)
        exact ⟨u,by rw [if_neg (by omega)]; exact hu,hru.mono KK.good KK.cell⟩)
     simp only [Nat.zero_add] at hre
     refine hre.put hd ?_
     rw [hgi]
     exact .mkI (by unfold maxLen at h2; unfold inI; omega)
   ·exact hK.elim
  ·exact hK.elim
 ·exact hK.elim
theorem yuu (h : Repr g s a w blk) (hd : ∀ i,o.dst = some i → i < g.N) {op : IOp} {c : Call} (ho : o.op = .call c) (hc : ypv P c = some op) (hK : yV P o.dst op s K) : yN P g o a w K:=by
 obtain ⟨callee,args,ts⟩:=c
 obtain ⟨args⟩:=args
 obtain ⟨ts⟩:=ts
 unfold ypv at hc
 simp only at hc
 split at hc
 ·split at hc
  ·rename_i x t
   split at hc
   ·rename_i e xx ht hx
    cases hc
    exact yDK h hd ho ht hx hK
   ·rename_i xx ht hx
    cases hc
    exact yBl h hd ho ht hx hK
   ·cases hc
  ·cases hc
 ·split at hc
  ·rename_i x y t u
   split at hc
   ·rename_i e xx yy ht hx hy
    split at hc
    ·rename_i i hi
     split at hc
     ·rename_i z hz
      split at hc
      ·rename_i hif
       obtain ⟨rfl,h1,h2,h3⟩:=hif
       cases hc
       exact yD7 h hd ho ht hi hz h2 h3 hx hy hK
      ·exact yBD h hd ho ht hi hz hx hc hK
     ·cases hc
    ·cases hc
   ·cases hc
  ·cases hc
 ·simp only [Option.map_eq_some_iff] at hc
  obtain ⟨y,hy,rfl⟩:=hc
  exact mn_ok h hd ho hy hK
 ·simp only [Option.map_eq_some_iff] at hc
  obtain ⟨y,hy,rfl⟩:=hc
  exact mx_ok h hd ho hy hK
 ·split at hc
  ·rename_i x t
   split at hc
   ·rename_i e xx ht hx
    cases hc
    exact yCZ h hd ho ht hx hK
   ·cases hc
  ·cases hc
 ·split at hc
  ·rename_i x y t u
   split at hc
   ·rename_i e xx yy ht hx hy
    split at hc
    ·rename_i e2
     subst e2
     split at hc
     ·rename_i k hk
      cases hc
      exact cp_ok h hd ho ht hk hx hy hK
     ·cases hc
    ·cases hc
   ·cases hc
  ·cases hc
 ·rename_i f
  split at hc
  ·rename_i fn ys hf hy
   split at hc
   ·rename_i hif
    cases hc
    simp only [Bool.and_eq_true] at hif
    refine yBj h hd ho hf hif.1 hif.2 ?_ hK
    split at hy
    ·rename_i xs hxs; cases hy; exact .inl hxs
    ·exact .inr hy
   ·split at hc
    ·rename_i n x y he hl
     cases hc
     cases args with
     | nil=>cases hl
     | cons p l =>
      cases l with
      | nil=>simp at hl
      | cons q l =>
       cases l with
       | nil =>
        simp only [List.map_cons,List.map_nil,List.cons.injEq,and_true] at hl
        exact yWe h hd ho hf he hl.1 hl.2 hK
       | cons _ _=>simp at hl
    ·cases hc
  ·cases hc
 ·rename_i f _
  split at hc
  ·rename_i x xs hx hxs
   cases hc
   exact yzh h hd ho hx hxs hK
  ·cases hc
 ·cases hc
theorem yWb (h : Repr g s a w blk) (hd : ∀ i,o.dst = some i → i < g.N) {op : IOp} (hc : yV5 P o = some op) (hK : yV P o.dst op s K) : yN P g o a w K:=by
 unfold yV5 at hc
 split at hc
 ·rename_i x ho
  simp only [Option.map_eq_some_iff] at hc
  obtain ⟨y,hy,rfl⟩:=hc
  exact yBJ h hd (.inl ho) hy hK
 ·rename_i x ho
  simp only [Option.map_eq_some_iff] at hc
  obtain ⟨y,hy,rfl⟩:=hc
  exact yBJ h hd (.inr ho) hy hK
 ·rename_i c x y ho
  split at hc
  ·rename_i h1 h2 h3
   cases hc
   exact yBx h hd ho h1 h2 h3 hK
  ·cases hc
 ·rename_i bop t x y t' ho
  split at hc
  ·rename_i ik ht
   split at hc
   ·rename_i h1 h2
    split at hc
    ·cases hc; exact ysR h hd ho h1 h2 hK
    ·cases hc; exact ysR h hd ho h1 h2 hK
    ·cases hc; exact ysR h hd ho h1 h2 hK
    ·cases hc; exact ysR h hd ho h1 h2 hK
    ·split at hc
     ·cases hc; exact yA6 h hd ho h1 h2 hK
     ·split at hc
      ·cases hc; exact yAQ h hd ho h1 h2 hK
      ·cases hc; exact yDA h hd ho h1 h2 hK
   ·rename_i h1 h2
    simp only [Option.map_eq_some_iff] at hc
    obtain ⟨n,hn,rfl⟩:=hc
    exact yA4 h hd ho h1 hn hK
   ·cases hc
  ·rename_i ht
   split at hc
   ·rename_i h1 h2
    cases hc
    exact seq_ok (neg:=false) h hd ho ht h1 h2 hK
   ·rename_i h1 h2
    cases hc
    exact seq_ok (neg:=true) h hd ho ht h1 h2 hK
   ·rename_i h1 h2
    cases hc
    exact yAN h hd ho ht h1 h2 hK
   ·cases hc
  ·rename_i ht
   split at hc
   ·rename_i h1 h2
    cases hc
    exact yzZ (neg:=false) h hd ho ht h1 h2 hK
   ·rename_i h1 h2
    cases hc
    exact yzZ (neg:=true) h hd ho ht h1 h2 hK
   ·cases hc
  ·rename_i ht
   split at hc
   ·rename_i hst
    split at hc
    ·rename_i h1 h2
     cases hc
     exact yRB (neg:=false) h hd ho ht hst h1 h2 hK
    ·rename_i h1 h2
     cases hc
     exact yRB (neg:=true) h hd ho ht hst h1 h2 hK
    ·cases hc
   ·cases hc
  ·rename_i ht
   split at hc
   ·rename_i h1
    cases hc
    exact yCU h hd ho ht h1 hK
   ·cases hc
  ·cases hc
 ·rename_i t ho
  cases hc
  exact yVr h hd ho hK
 ·rename_i t m k v ho
  split at hc
  ·rename_i ht
   split at hc
   ·rename_i h1 h2 h3
    cases hc
    exact yVp h hd ho ht h1 h2 h3 hK
   ·cases hc
  ·cases hc
 ·rename_i t m k ho
  split at hc
  ·rename_i ht
   split at hc
   ·rename_i h1 h2
    cases hc
    exact yVs h hd ho ht h1 h2 hK
   ·cases hc
  ·cases hc
 ·rename_i t x ho
  simp only [Option.map_eq_some_iff] at hc
  obtain ⟨y,hy,rfl⟩:=hc
  exact yEB h hd ho hy hK
 ·rename_i t x ho
  simp only [Option.map_eq_some_iff] at hc
  obtain ⟨y,hy,rfl⟩:=hc
  exact yDE h hd ho hy hK
 ·rename_i t x y ho
  split at hc
  ·rename_i ht h1 h2
   simp only [Option.map_eq_some_iff] at hc
   obtain ⟨k,hk,rfl⟩:=hc
   exact yEb h hd ho ht hk h1 h2 hK
  ·rename_i ht h1 h2
   simp only [Option.map_eq_some_iff] at hc
   obtain ⟨k,hk,rfl⟩:=hc
   exact yEI h hd ho ht hk h1 h2 hK
  ·cases hc
 ·rename_i t x f ho
  split at hc
  ·rename_i fs xx ht hx
   split at hc
   ·rename_i fl hf
    split at hc
    ·rename_i n hn
     cases hc
     exact yDz h hd ho ht hf hn hx hK
    ·cases hc
   ·cases hc
  ·cases hc
 ·rename_i t x ho
  split at hc
  ·rename_i h1 h2 h3
   cases hc
   exact yDC h hd ho h1 h3 h2 hK
  ·rename_i h1 h2
   cases hc
   exact yEj h hd ho h1 h2 hK
  ·cases hc
 ·rename_i t x v ho
  split at hc
  ·rename_i h1 h2 h3 h4
   cases hc
   exact yDv h hd ho h4 h2 h3 hK
  ·rename_i h1 h2 h3 h4
   cases hc
   exact yDl h hd ho h4 h2 h3 hK
  ·cases hc
 ·rename_i t x ho
  split at hc
  ·rename_i h1 h2
   cases hc
   exact yEt h hd ho h1 hK
  ·cases hc
 ·rename_i t ho
  split at hc
  ·rename_i i n e hi ht
   split at hc
   ·rename_i z j hz hj
    split at hc
    ·rename_i y hy
     split at hc
     ·rename_i cs hcs
      split at hc
      ·rename_i hif
       cases hc
       simp only [Bool.and_eq_true,beq_iff_eq] at hif
       exact yyg h hd ho hi hz hif.1 hif.2 hK
      ·cases hc
     ·cases hc
    ·cases hc
   ·cases hc
  ·rename_i i d _ hi ht
   split at hc
   ·rename_i z hz
    simp only [Option.map_eq_some_iff] at hc
    obtain ⟨zs,hzs,rfl⟩:=hc
    exact yyN h hd ho hi hz hzs hK
   ·cases hc
  ·cases hc
 ·rename_i t l c ho
  split at hc
  ·rename_i e xl xc ht hl hc'
   split at hc
   ·rename_i i hi
    split at hc
    ·rename_i z hz
     split at hc
     ·rename_i hif
      simp only [Option.map_eq_some_iff] at hc
      obtain ⟨cs,hcs,rfl⟩:=hc
      exact yDi h hd ho ht hi hz (ylV hcs) hif.1 hl hc' hK
     ·cases hc
    ·cases hc
   ·cases hc
  ·cases hc
 ·rename_i t n parts ho
  split at hc
  ·rename_i e xs ht hx
   split at hc
   ·rename_i i hi
    split at hc
    ·rename_i z hz
     split at hc
     ·rename_i hif
      cases hc
      exact yEF h hd ho ht hi hz hx hif.1 hif.2.1 hif.2.2.1 hK
     ·cases hc
    ·cases hc
   ·cases hc
  ·cases hc
 ·rename_i t parts ho
  split at hc
  ·rename_i it fields hi ht
   split at hc
   ·rename_i z places hz hp
    split at hc
    ·rename_i ps zs hps hzs
     cases hc
     exact yC2 h hd ho hi ht hz hp hps hzs hK
    ·cases hc
   ·cases hc
  ·cases hc
 ·rename_i t x lo hi mx ho
  split at hc
  ·rename_i e xx ht hx
   split at hc
   ·rename_i k y hk hl hh hm
    cases hc
    cases lo <;> simp at hl
    cases mx <;> simp at hm
    cases hi with
    | none=>simp at hh
    | some y' =>
     simp only [Option.map_some,Option.some.injEq] at hh
     exact ytq (xl:=none) (xm:=none) (xh:=some y) h hd ho ht hk hx (fun _ e=>by cases e) (fun _ e=>by cases e; exact ⟨_,rfl,hh⟩) (fun _ e=>by cases e) (fun _=>rfl) (fun e=>by cases e) (fun _=>rfl) hK
   ·rename_i k y hk hl hh hm
    cases hc
    cases hi <;> simp at hh
    cases mx <;> simp at hm
    cases lo with
    | none=>simp at hl
    | some y' =>
     simp only [Option.map_some,Option.some.injEq] at hl
     exact ytq (xl:=some y) (xm:=none) (xh:=none) h hd ho ht hk hx (fun _ e=>by cases e; exact ⟨_,rfl,hl⟩) (fun _ e=>by cases e) (fun _ e=>by cases e) (fun e=>by cases e) (fun _=>rfl) (fun _=>rfl) hK
   ·rename_i k y y2 hk hl hh hm
    cases hc
    cases mx <;> simp at hm
    cases lo with
    | none=>simp at hl
    | some y' =>
     simp only [Option.map_some,Option.some.injEq] at hl
     cases hi with
     | none=>simp at hh
     | some y2' =>
      simp only [Option.map_some,Option.some.injEq] at hh
      exact ytq (xl:=some y) (xm:=none) (xh:=some y2) h hd ho ht hk hx (fun _ e=>by cases e; exact ⟨_,rfl,hl⟩) (fun _ e=>by cases e; exact ⟨_,rfl,hh⟩) (fun _ e=>by cases e) (fun e=>by cases e) (fun e=>by cases e) (fun _=>rfl) hK
   ·rename_i k y y2 hk hl hh hm
    cases hc
    cases lo <;> simp at hl
    cases mx with
    | none=>simp at hm
    | some y' =>
     simp only [Option.map_some,Option.some.injEq] at hm
     cases hi with
     | none=>simp at hh
     | some y2' =>
      simp only [Option.map_some,Option.some.injEq] at hh
      exact ytq (xl:=none) (xm:=some y2) (xh:=some y) h hd ho ht hk hx (fun _ e=>by cases e) (fun _ e=>by cases e; exact ⟨_,rfl,hh⟩) (fun _ e=>by cases e; exact ⟨_,rfl,hm⟩) (fun _=>rfl) (fun e=>by cases e) (fun e=>by cases e) hK
   ·cases hc
  ·rename_i n e xx ht hx
   split at hc
   ·rename_i k y hk hl hh hm
    split at hc
    ·rename_i hn
     cases hc
     cases lo <;> simp at hl
     cases mx <;> simp at hm
     cases hi with
     | none=>simp at hh
     | some y' =>
      simp only [Option.map_some,Option.some.injEq] at hh
      exact yCA h hd ho ht hk hx hh hn hK
    ·cases hc
   ·cases hc
  ·rename_i xx ht hx
   split at hc
   ·rename_i y hl hh
    cases hc
    cases lo <;> simp at hl
    cases hi with
    | none=>simp at hh
    | some y' =>
     simp only [Option.map_some,Option.some.injEq] at hh
     exact ywc (xl:=none) (xh:=some y) h hd ho ht hx (fun _ e=>by cases e) (fun _ e=>by cases e; exact ⟨_,rfl,hh⟩) (fun _=>rfl) (fun e=>by cases e) hK
   ·rename_i y hl hh
    cases hc
    cases hi <;> simp at hh
    cases lo with
    | none=>simp at hl
    | some y' =>
     simp only [Option.map_some,Option.some.injEq] at hl
     exact ywc (xl:=some y) (xh:=none) h hd ho ht hx (fun _ e=>by cases e; exact ⟨_,rfl,hl⟩) (fun _ e=>by cases e) (fun e=>by cases e) (fun _=>rfl) hK
   ·rename_i y y2 hl hh
    cases hc
    cases lo with
    | none=>simp at hl
    | some y' =>
     simp only [Option.map_some,Option.some.injEq] at hl
     cases hi with
     | none=>simp at hh
     | some y2' =>
      simp only [Option.map_some,Option.some.injEq] at hh
      exact ywc (xl:=some y) (xh:=some y2) h hd ho ht hx (fun _ e=>by cases e; exact ⟨_,rfl,hl⟩) (fun _ e=>by cases e; exact ⟨_,rfl,hh⟩) (fun e=>by cases e) (fun e=>by cases e) hK
   ·cases hc
  ·cases hc
 ·rename_i x ho
  simp only [Option.map_eq_some_iff] at hc
  obtain ⟨y,hy,rfl⟩:=hc
  exact yDU h hd ho hy hK
 ·rename_i t u x ho
  split at hc
  ·rename_i y hy
   split at hc
   ·rename_i hif
    cases hc
    simp only [Bool.and_eq_true] at hif
    exact yod h hd ho (.inl ⟨rfl,hif.1,hif.2⟩) hy hK
   ·split at hc
    ·rename_i hif
     cases hc
     simp only [Bool.and_eq_true] at hif
     exact yod h hd ho (.inr (.inl ⟨rfl,hif.1,hif.2⟩)) hy hK
    ·split at hc
     ·rename_i hif
      cases hc
      simp only [Bool.and_eq_true] at hif
      exact yod h hd ho (.inr (.inr (.inr (.inl ⟨rfl,hif.1,hif.2⟩)))) hy hK
     split at hc
     ·rename_i hif
      cases hc
      simp only [Bool.and_eq_true] at hif
      exact yod h hd ho (.inr (.inr (.inr (.inr ⟨rfl,hif.1,hif.2⟩)))) hy hK
     split at hc
     ·rename_i e h1 h2
      split at hc
      ·rename_i hb
       cases hc
       exact yod h hd ho (.inr (.inr (.inl ⟨rfl,e,h1,h2,hb⟩))) hy hK
      ·cases hc
     ·cases hc
  ·cases hc
 ·rename_i f first captured ho
  split at hc
  ·rename_i xs hf hx
   cases hc
   exact yEc h hd ho hf hx hK.1 hK.2
  ·cases hc
 ·cases hc; exact hK.elim
 ·cases hc; exact hK.elim
 ·rename_i c ho
  exact yuu h hd ho hc hK
 ·rename_i x i ho
  simp only [Option.map_eq_some_iff] at hc
  obtain ⟨y,hy,rfl⟩:=hc
  exact yDF h hd ho hy hK
 ·rename_i t x i ho
  split at hc
  ·rename_i ht h1 h2
   cases hc
   exact yD3 h hd ho ht h1 h2 hK
  ·cases hc
 ·cases hc
theorem step_ok (h : Repr g s a w blk) (hd : ∀ i,o.dst = some i → i < g.N) {op : IOp} (hc : yoC P o = some op) (hK : yV P o.dst op s K) : yN P g o a w K:=by
 unfold yoC at hc
 cases h0 : yV5 P o with
 | some q =>
  rw [h0] at hc
  cases hc
  exact yWb h hd h0 hK
 | none =>
  rw [h0] at hc
  cases hc
  exact hK.elim
theorem yr4 {N : Nat} {Q : Exit → Act → World → Prop} {ops : Array Oper} (hN : g.N = N) : ∀ {l : List Oper} {is : List Ins} {s : St} {a : Act} {w : World} {blk : Lay} {K : St → Prop},ye3 P N ops l = some is → Repr g s a w blk → wpI P is s K →
 (∀ s' blk' a' w',K s' → Repr g s' a' w' blk' → Q .normal a' w') → wpList P ops Q l a w
 | [],is,s,a,w,blk,K,hc,h,hK,hQ=>by
  cases hc
  exact hQ _ _ _ _ hK h
 | o :: l,is,s,a,w,blk,K,hc,h,hK,hQ=>by
  simp only [ye3] at hc
  split at hc
  ·rename_i i is' h1 h2
   cases hc
   have ih:=fun {s : St} {a : Act} {w : World} {blk : Lay} {K : St → Prop}=>yr4 (Q:=Q) (ops:=ops) hN (l:=l) (is:=is') (s:=s) (a:=a) (w:=w) (blk:=blk) (K:=K) h2
   have hd : ∀ i,o.dst = some i → i < g.N:=by
    intro j hj
    unfold yeq at h1
    split at h1
    ·split at h1
     ·rename_i e; rw [e] at hj; cases hj
     ·rename_i d e
      by_cases hlt : d < N
      ·rw [e] at hj; cases hj; rw [hN]; exact hlt
      ·rw [if_neg hlt] at h1; cases h1
    ·cases h1
   obtain ⟨op,hop,hid,hiop,hg⟩ : ∃ op,yoC P o = some op ∧ i.d = o.dst ∧ i.op = op ∧ ((o.guard = none ∧ i.g = none) ∨ ∃ j want t,o.guard = some (j,want) ∧ (ops[j]?).bind (·.dst) = some t ∧ t < ycZ ∧ i.g = some (t,want)):=by
    unfold yeq at h1
    split at h1
    ·rename_i op hop
     refine ⟨op,hop,?_⟩
     split at h1
     ·rename_i e
      split at h1
      ·rename_i eg; cases h1; exact ⟨e.symm,rfl,.inl ⟨eg,rfl⟩⟩
      ·rename_i j want eg
       split at h1
       ·rename_i t ht
        split at h1
        ·rename_i hlt; cases h1; exact ⟨e.symm,rfl,.inr ⟨j,want,t,eg,ht,hlt,rfl⟩⟩
        ·cases h1
       ·cases h1
     ·rename_i d e
      split at h1
      ·split at h1
       ·rename_i eg; cases h1; exact ⟨e.symm,rfl,.inl ⟨eg,rfl⟩⟩
       ·rename_i j want eg
        split at h1
        ·rename_i t ht
         split at h1
         ·rename_i hlt; cases h1; exact ⟨e.symm,rfl,.inr ⟨j,want,t,eg,ht,hlt,rfl⟩⟩
         ·cases h1
        ·cases h1
      ·cases h1
    ·cases h1
   have doit : yV P o.dst op s (fun s'=>wpI P is' s' K) → o.wp P a w (wpList P ops Q l) Q:=fun hs =>
    (step_ok h hd hop hs).wp fun s' blk' a' w' k r=>ih r k hQ
   have skip : wpI P is' (s.put o.dst .und) K → wpList P ops Q l (a.put o.dst undef) w:=fun hs =>
    ih (h.put hd (v:=undef) (x:=.und) (show undef = undef from rfl)) hs hQ
   rcases hg with ⟨e1,e2⟩ | ⟨j,want,t,e1,e2,htl,e3⟩
   ·unfold wpList
    rw [if_pos (by simp [Region.wanted,e1])]
    simp only [wpI,e2,hid,hiop] at hK
    exact .inl (doit hK)
   ·simp only [wpI,e3,hid,hiop] at hK
    have hy : ∀ v : Bool,a.tmps.getD t undef = .bool v → yielded ops a.tmps j = some v:=by
     intro v hv
     unfold yielded
     rw [e2]
     simp only [Option.bind_some]
     have : a.tmps[t]? = some (.bool v):=by
      rw [Array.getD_eq_getD_getElem?] at hv
      cases hq : a.tmps[t]? with
      | none=>rw [hq] at hv; simp [undef] at hv
      | some u=>rw [hq] at hv; simp at hv; rw [hv]
     rw [this]
    have hen:=h.at_ htl
    unfold ydy at hK
    split at hK
    ·rename_i v hv
     rw [hv] at hen
     have hb:=hen.bool
     unfold wpList
     by_cases e : v = want
     ·rw [if_pos (by simp [Region.wanted,e1,hy v hb,e])]
      exact .inl (doit (hK.1 e))
     ·rw [if_neg (by simp [Region.wanted,e1,hy v hb,e])]
      exact skip (hK.2 (by cases v <;> cases want <;> simp_all))
    ·rename_i hv
     rw [hv] at hen
     have hu : a.tmps.getD t undef = undef:=hen
     have hyn : yielded ops a.tmps j = none:=by
      unfold yielded
      rw [e2]
      simp only [Option.bind_some]
      cases hq : a.tmps[t]? with
      | none=>rfl
      | some u =>
       have : u = undef:=by rw [Array.getD_eq_getD_getElem?,hq] at hu; simpa using hu
       rw [this]; rfl
     unfold wpList
     rw [if_neg (by simp [Region.wanted,e1,hyn])]
     exact skip hK
    ·exact hK.elim
  ·cases hc
end
end Go.Proofs.YtpiplmnecmkafaaGreat
namespace Go.Proofs.YtpiplmnecmkafaaGreat
open Go.RowKit
section
variable {g : Ghost} {s s' : St} {a : Act} {w : World} {blk : Lay}
theorem Repr.call (h : Repr g s a w blk) {w' : World} (hb : Below w.heap.size w w') : Repr g s a w' blk:=by
 have:=h.turn [] (fun _=>False) (objs':=s.objs) (w':=w') (L':=blk) (X:=noF) (.of_below _ hb) (fun _ hq=>hq.elim) (fun i _=>⟨by simp [Obj.ydm],rfl,rfl⟩) (fun _ _ h=>h.elim) (fun _ _ _ h=>h.elim) (fun _ _ h=>h.elim) (fun _ h=>h.elim) (fun _ _ _ _ h=>h.elim) (fun _ _ _ h=>h.elim)
 exact this
end
def noO : Nat → Obj:=fun _=>.none
def noB : Nat → Option Nat:=fun _=>none
def yB (P : Program) (f : Nat) (args : List AV) (res : AV) : Prop :=
 ∀ (w : World) (G : Nat → Prop),(∀ b,G b → b < w.heap.size) → ∀ vs : Array Value,vs.size = args.length →
  (∀ (j : Nat) (x : AV),args[j]? = some x → ∃ u : Value,vs[j]? = some u ∧ RV w G noO noB u x) →
  Calls P f vs w fun e w'=>∃ v,e = .returned v ∧ Below w.heap.size w w' ∧ RV w' (fun b=>G b ∨ (w.heap.size ≤ b ∧ b < w'.heap.size)) noO noB v res
def out1 (s : St) (x y : AV) : Prop :=
 match x with
 | .c z=>y = .c z
 | .clip k rows=>y = .c (.sl k rows) ∨ y = .clip k rows
 | .nil _=>(∃ k,y = .c (.sl k [])) ∨ ∃ k,y = .nil k
 | .own id k n=>match s.ob id with
  | .row _ rows=>y = .c (.sl k (rows.take n))
  | .tr _ _ rows=>match ykv (rows.take n) with
   | some r=>y = .c (.sl k r)
   | none=>False
  | _=>False
 | .cut id k lo n=>match s.ob id with
  | .row _ rows=>y = .c (.sl k ((rows.drop lo).take n))
  | _=>False
 | .sub id ver i j _ _=>match s.ob id with
  | .tr _ ver' rows=>ver' = ver ∧ match cellAt rows i.toNat j with
   | some c=>match c.shr with
    | some z=>y = .c z
    | none=>False
   | none=>False
  | _=>False
 | .elt cs=>y = .elt cs
 | _=>False
def yeH (s : St) : List AV → List AV → Prop
 | [],[]=>True
 | x :: l,y :: l'=>out1 s x y ∧ yeH s l l'
 | _,_=>False
def ydb (s : St) (x y : AV) : Prop :=
 match x with
 | .agg l=>match y with
  | .agg l'=>yeH s l l'
  | _=>False
 | .fn f l=>match y with
  | .fn f' l'=>f = f' ∧ yeH s l l'
  | _=>False
 | .box id off=>match s.ob id with
  | .box cells=>match y with
   | .elt cs=>yeH s (cells.drop off) (cs.map .c)
   | _=>False
  | _=>False
 | x=>out1 s x y
def ybD (s : St) : List AV → List AV → Prop
 | [],[]=>True
 | x :: l,y :: l'=>ydb s x y ∧ ybD s l l'
 | _,_=>False
def AV.ypu : AV → Bool
 | .c _ | .clip _ _ | .nil _ | .elt _=>true
 | _=>false
def AV.ycJ : AV → Bool
 | .agg l | .fn _ l=>l.all AV.ypu
 | x=>x.ypu
def AV.ylP : AV → Bool
 | .c (.sl _ _)=>false
 | .c _=>true
 | _=>false
def AV.ynQ : AV → Bool
 | .agg l=>l.all AV.ylP
 | x=>x.ylP
def AV.scalar : AV → Bool
 | .tup l=>l.all AV.ynQ
 | x=>x.ynQ
def AV.wf1 : AV → Prop
 | .c z=>z.WF
 | .elt cs=>∀ z,z ∈ cs → z.WF
 | _=>True
def AV.wf : AV → Prop
 | .agg l | .fn _ l=>∀ y,y ∈ l → y.wf1
 | x=>x.wf1
def ygO : List AV → Prop
 | []=>True
 | x :: l=>x.wf ∧ ygO l
section
variable {g : Ghost} {s : St} {a : Act} {w : World} {blk : Lay} {v : Value} {x y : AV}
def All (g : Ghost) (w : World) (b : Nat) : Prop:=(g.G0 b ∨ g.F0 b) ∨ (g.w0.heap.size ≤ b ∧ b < w.heap.size)
theorem yfn (b : Nat) (h : Good g s.objs blk w b) : All g w b:=h.1
theorem yok (h : Repr g s a w blk) {id b : Nat} (hl : s.objs id ≠ .none) (hf : blk.fp id b) : All g w b:=by
 obtain ⟨h1,h2⟩:=h.new id b hl hf
 rcases h1 with h1 | h1
 ·exact .inl (.inr h1)
 ·exact .inr ⟨h1,h2⟩
theorem yAI (h : Repr g s a w blk) {b : Nat} (hb : All g w b) : b < w.heap.size:=by
 rcases hb with (e | e) | e
 ·have:=h.g0 b e; have:=h.below.size; omega
 ·have:=h.f0 b e; have:=h.below.size; omega
 ·exact e.2
theorem yzq {G G' : Nat → Prop} {O O' : Nat → Obj} {bl bl' : Nat → Option Nat} (hG : ∀ b,G b → G' b) (hx : x.ypu = true) (h : RV1 w G O bl v x) : RV1 w G' O' bl' v x:=by
 cases x <;> simp [AV.ypu] at hx
 ·exact Rd.mono h hG (fun _ _ _ h=>h)
 ·exact h
 ·obtain ⟨a,n,e,hr⟩:=h; exact ⟨a,n,e,hr.mono hG (fun _ _ _ h=>h)⟩
 ·obtain ⟨ad,e,hc⟩:=h; exact ⟨ad,e,fun j c hj=>let ⟨hg,u,hu,hr⟩:=hc j c hj; ⟨hG _ hg,u,hu,hr.mono hG (fun _ _ _ h=>h)⟩⟩
theorem ykz {G : Nat → Prop} {A : Option Addr} {k : Nat} : Rd w G (.slice A 0 0) (.sl k []):=.sl (fun _ _=>default) rfl (Nat.le_refl _) (by unfold maxLen; omega) (by simp) (by simp) (by simp) (by simp)
theorem yNY (h : Repr g s a w blk) {G' : Nat → Prop} (hG : ∀ b,Good g s.objs blk w b → G' b) (hF : ∀ id,id ∈ x.ya8 → s.objs id ≠ .none → ∀ b,blk.fp id b → G' b) (hx : RV1 w (Good g s.objs blk w) s.objs blk v x) (ho : out1 s x y) : RV1 w G' noO noB v y:=by
 unfold out1 at ho
 split at ho
 ·subst ho; exact Rd.mono hx hG (fun _ _ _ h=>h)
 ·obtain ⟨a',n',e',hr⟩:=hx
  rcases ho with rfl | rfl
  ·exact Rd.mono hr hG (fun _ _ _ h=>h)
  ·exact ⟨a',n',e',Rd.mono hr hG (fun _ _ _ h=>h)⟩
 ·rcases ho with ⟨k,rfl⟩ | ⟨k,rfl⟩
  ·cases hx
   exact ykz
  ·exact hx
 ·rename_i id k n
  split at ho
  ·rename_i k2 rows hO
   subst ho
   have hk : k2 = k:=by
    obtain ⟨m,hd,_⟩:=hx
    have : (s.ob id).ybP = some (k,m):=hd
    rw [hO] at this; simp [Obj.ybP] at this; exact this.1
   subst hk
   obtain ⟨_,hl,hot⟩:=yiT h hx (c:=.ow k2 (rows.take n)) (ids:=[id]) (by simp [pk1,hO])
   exact hot.ypM rfl hG (fun b hb=>hF id (by simp [AV.ya8]) hl b hb)
  ·rename_i k2 ver rows hO
   split at ho
   ·rename_i r hr
    subst ho
    have hk : k2 = k:=by
     obtain ⟨m,hd,_⟩:=hx
     have : (s.ob id).ybP = some (k,m):=hd
     rw [hO] at this; simp [Obj.ybP] at this; exact this.1
    subst hk
    obtain ⟨_,hl,hot⟩:=yiT h hx (c:=.ot k2 (rows.take n)) (ids:=[id]) (by simp [pk1,hO])
    exact hot.ypM (by simp [C.shr,hr]) hG (fun b hb=>hF id (by simp [AV.ya8]) hl b hb)
   ·exact ho.elim
  ·exact ho.elim
 ·rename_i id k lo n
  split at ho
  ·rename_i k2 rows hO
   subst ho
   obtain ⟨m,A,c,hd,hle,rfl,h1,h2,h3⟩:=hx
   have hk : k2 = k ∧ rows.length = m:=by
    have : (s.ob id).ybP = some (k,m):=hd
    rw [hO] at this; simpa [Obj.ybP] using this
   obtain ⟨rfl,rfl⟩:=hk
   have hlen : ((rows.drop lo).take n).length = n:=by simp; omega
   rcases Nat.eq_zero_or_pos n with h0 | h0
   ·subst h0
    simp only [List.take_zero]
    exact Rd.sl (fun _ _=>default) rfl h1 h2 (by simp) (by simp) (by simp) (by simp)
   ·obtain ⟨b,hb,rfl⟩:=h3 h0
    obtain ⟨arr,e,r1,r2,r3,r4⟩:=h.row hO hb
    have hl : s.objs id ≠ .none:=by rw [show s.objs id = _ from hO]; simp
    have get : ∀ (i : Nat) (r : List C),((rows.drop lo).take n)[i]? = some r → rows[lo + i]? = some r:=by
     intro i r hr
     rw [List.getElem?_take] at hr
     split at hr
     ·rw [List.getElem?_drop] at hr; exact hr
     ·cases hr
    refine Rd.sl (fun i j=>(arr[(lo + i) * k2 + j]?).getD default) hlen h1 h2 (fun r hr=>r3 r (List.mem_of_mem_drop (List.mem_of_mem_take hr))) (fun _=>rfl) (fun i r hr j c hc=>?_) (fun i r hr j c hc=>?_)
    ·obtain ⟨u,hu,hru⟩:=r4 _ r j c (get i r hr) hc
     refine ⟨_,rfl,hF id (by simp [AV.ya8]) hl b (.inl hb),?_⟩
     rw [add_lit,cell_of w r1,show lo * k2 + (i * k2 + j) = (lo + i) * k2 + j by rw [Nat.add_mul]; omega,hu]; rfl
    ·obtain ⟨u,hu,hru⟩:=r4 _ r j c (get i r hr) hc
     rw [hu]
     exact hru.mono hG (fun _ _ _ h=>h)
  ·exact ho.elim
 ·rename_i id ver i j k n
  split at ho
  ·rename_i k0 ver' rows hO
   obtain ⟨rfl,ho⟩:=ho
   split at ho
   ·rename_i c hc
    split at ho
    ·rename_i z hz
     subst ho
     obtain ⟨q,r,c',A,cap,F,e1,e2,e3,e4,e5,e6,e7,e8,e9,e10⟩:=h.sub0 hO (RVs.of1 hx)
     obtain ⟨r',f1,f2⟩:=ye6 hc
     rw [e3] at f1; cases f1
     rw [e4] at f2; cases f2
     have hl : s.objs id ≠ .none:=by rw [show s.objs id = _ from hO]; simp
     exact e9.ypM hz hG (fun b hb=>hF id (by simp [AV.ya8]) hl b (.inr (e10 b hb).1))
    ·exact ho.elim
   ·exact ho.elim
  ·exact ho.elim
 ·subst ho
  obtain ⟨ad,e,hc⟩:=hx
  exact ⟨ad,e,fun j c hj=>let ⟨hg,u,hu,hr⟩:=hc j c hj; ⟨hG _ hg,u,hu,hr.mono hG (fun _ _ _ h=>h)⟩⟩
 ·exact ho.elim
theorem ynV (h : Repr g s a w blk) {G' : Nat → Prop} (hG : ∀ b,All g w b → G' b) (hx : RV1 w (Good g s.objs blk w) s.objs blk v x) (ho : out1 s x y) : RV1 w G' noO noB v y :=
 yNY h (fun b hb=>hG b (yfn b hb)) (fun _ _ hl b hb=>hG b (yok h hl hb)) hx ho
theorem yfT : ∀ {l l' : List AV},yeH s l l' → l'.length = l.length ∧ ∀ (j : Nat) (y : AV),l'[j]? = some y → ∃ x,l[j]? = some x ∧ out1 s x y
 | [],[],_=>⟨rfl,fun j y hj=>by simp at hj⟩
 | x :: l,y :: l',h=>by
  obtain ⟨h1,h2⟩:=yfT h.2
  refine ⟨by simp [h1],fun j z hj=>?_⟩
  cases j with
  | zero=>simp at hj; subst hj; exact ⟨x,rfl,h.1⟩
  | succ j=>exact h2 j z (by simpa using hj)
theorem yeN : ∀ {l l' : List AV},ybD s l l' → l'.length = l.length ∧ ∀ (j : Nat) (y : AV),l'[j]? = some y → ∃ x,l[j]? = some x ∧ ydb s x y
 | [],[],_=>⟨rfl,fun j y hj=>by simp at hj⟩
 | x :: l,y :: l',h=>by
  obtain ⟨h1,h2⟩:=yeN h.2
  refine ⟨by simp [h1],fun j z hj=>?_⟩
  cases j with
  | zero=>simp at hj; subst hj; exact ⟨x,rfl,h.1⟩
  | succ j=>exact h2 j z (by simpa using hj)
theorem ysv {G : Nat → Prop} {O : Nat → Obj} {bl : Nat → Option Nat} (h : RV1 w G O bl v x) : RV w G O bl v x:=by
 cases x <;> first | exact h | exact h.elim
theorem yw5 {G : Nat → Prop} {O : Nat → Obj} {bl : Nat → Option Nat} (h : RV1 w G O bl v x) : RV2 w G O bl v x:=by
 cases x <;> first | exact h | exact h.elim
theorem yje {G : Nat → Prop} {O : Nat → Obj} {bl : Nat → Option Nat} (h : RV2 w G O bl v x) : RV w G O bl v x:=by
 cases x <;> first | exact h | exact h.elim
theorem yly (h : Repr g s a w blk) {G' : Nat → Prop} (hG : ∀ b,All g w b → G' b) (hx : RVs g s w blk v x) (ho : ydb s x y) : RV2 w G' noO noB v y:=by
 unfold ydb at ho
 split at ho
 ·rename_i l
  split at ho
  ·rename_i l'
   obtain ⟨arr,e,hs,hl⟩:=hx
   obtain ⟨h1,h2⟩:=yfT ho
   refine ⟨arr,e,by omega,fun j z hj=>?_⟩
   obtain ⟨x,hx,hxy⟩:=h2 j z hj
   obtain ⟨u,hu,hru⟩:=hl j x hx
   exact ⟨u,hu,ynV h hG hru hxy⟩
  ·exact ho.elim
 ·rename_i f l
  split at ho
  ·rename_i f' l'
   obtain ⟨rfl,ho⟩:=ho
   obtain ⟨arr,e,hs,hl⟩:=hx
   obtain ⟨h1,h2⟩:=yfT ho
   refine ⟨arr,e,by omega,fun j z hj=>?_⟩
   obtain ⟨x,hx,hxy⟩:=h2 j z hj
   obtain ⟨u,hu,hru⟩:=hl j x hx
   exact ⟨u,hu,ynV h hG hru hxy⟩
  ·exact ho.elim
 ·rename_i id off
  split at ho
  ·rename_i cells hO
   split at ho
   ·rename_i cs
    obtain ⟨b,cells',hO',hb,rfl⟩:=hx
    obtain ⟨arr,e,r1,r2,r3⟩:=h.box hO hb
    have hl : s.objs id ≠ .none:=by rw [show s.objs id = _ from hO]; simp
    obtain ⟨h1,h2⟩:=yfT ho
    refine ⟨_,rfl,fun j c hj=>?_⟩
    obtain ⟨x,hx,hxy⟩:=h2 j (.c c) (by simp [hj])
    rw [List.getElem?_drop] at hx
    obtain ⟨u,hu,hru⟩:=r3 _ x hx
    refine ⟨hG b (yok h hl (.inl hb)),u,by rw [add_lit,cell_of w r1]; exact hu,?_⟩
    exact ynV h hG hru hxy
   ·exact ho.elim
  ·exact ho.elim
 ·refine yw5 (ynV h hG ?_ ho)
  cases x <;> first | exact hx | exact ho.elim | (rename_i h1 h2 h3; exact (h1 _ rfl).elim) | (rename_i h1 h2 h3; exact (h2 _ _ rfl).elim)
theorem ynR {G' : Nat → Prop} (hG : ∀ b,Good g s.objs blk w b → G' b) (hx : RVs g s w blk v x) (hd : x.ycJ = true) (ho : ydb s x y) : RV w G' noO noB v y:=by
 have one : ∀ {v : Value} {x y : AV},x.ypu = true → RV1 w (Good g s.objs blk w) s.objs blk v x → out1 s x y → RV1 w G' noO noB v y:=by
  intro v x y hd hx ho
  have:=yzq (O':=noO) (bl':=noB) hG hd hx
  cases x <;> simp [AV.ypu] at hd
  ·cases ho; exact this
  ·rcases ho with ⟨k,rfl⟩ | ⟨k,rfl⟩
   ·cases hx
    exact ykz
   ·exact this
  ·rcases ho with rfl | rfl
   ·obtain ⟨_,_,_,hr⟩:=this; exact hr
   ·exact this
  ·cases ho; exact this
 cases x
 case agg l =>
  unfold ydb at ho
  simp only at ho
  split at ho
  ·rename_i l'
   obtain ⟨arr,e,hs,hl⟩:=hx
   obtain ⟨h1,h2⟩:=yfT ho
   refine ⟨arr,e,by omega,fun j z hj=>?_⟩
   obtain ⟨x,hx,hxy⟩:=h2 j z hj
   obtain ⟨u,hu,hru⟩:=hl j x hx
   exact ⟨u,hu,one (List.all_eq_true.1 hd x (List.mem_of_getElem? hx)) hru hxy⟩
  ·exact ho.elim
 case fn f l =>
  unfold ydb at ho
  simp only at ho
  split at ho
  ·rename_i f' l'
   obtain ⟨rfl,ho⟩:=ho
   obtain ⟨arr,e,hs,hl⟩:=hx
   obtain ⟨h1,h2⟩:=yfT ho
   refine ⟨arr,e,by omega,fun j z hj=>?_⟩
   obtain ⟨x,hx,hxy⟩:=h2 j z hj
   obtain ⟨u,hu,hru⟩:=hl j x hx
   exact ⟨u,hu,one (List.all_eq_true.1 hd x (List.mem_of_getElem? hx)) hru hxy⟩
  ·exact ho.elim
 case c z =>
  have ho' : out1 s (.c z) y:=ho
  exact ysv (one (x:=.c z) rfl (RVs.one1 hx rfl) ho')
 case nil k =>
  have ho' : out1 s (.nil k) y:=ho
  exact ysv (one (x:=.nil k) rfl (RVs.one1 hx rfl) ho')
 case clip k rows =>
  have ho' : out1 s (.clip k rows) y:=ho
  exact ysv (one (x:=.clip k rows) rfl (RVs.one1 hx rfl) ho')
 case elt cs =>
  have ho' : out1 s (.elt cs) y:=ho
  exact ysv (one (x:=.elt cs) rfl (RVs.one1 hx rfl) ho')
 all_goals exact absurd hd (by simp [AV.ycJ,AV.ypu])
theorem yqd {G G' : Nat → Prop} {O : Nat → Obj} {bl : Nat → Option Nat} (hG : ∀ b,G b → G' b) (h : RV1 w G noO noB v x) : RV1 w G' O bl v x:=by
 cases x with
 | any=>trivial
 | und=>exact h
 | c x=>exact Rd.mono h hG (fun _ _ _ h=>h)
 | nil k=>exact h
 | clip k rows=>obtain ⟨a,n,e,hr⟩:=h; exact ⟨a,n,e,hr.mono hG (fun _ _ _ h=>h)⟩
 | box id off=>obtain ⟨b,cells,ho,r⟩:=h; cases ho
 | row id k i off=>obtain ⟨b,cells,ho,r⟩:=h; cases ho
 | elt cs=>obtain ⟨ad,e,hc⟩:=h; exact ⟨ad,e,fun j c hj=>let ⟨hg,u,hu,hr⟩:=hc j c hj; ⟨hG _ hg,u,hu,hr.mono hG (fun _ _ _ h=>h)⟩⟩
 | own id k n=>obtain ⟨rows,ho,r⟩:=h; cases ho
 | sub id ver i j k n=>obtain ⟨_,_,_,ho,r⟩:=h; cases ho
 | yc3 id ver i j k i' off=>obtain ⟨_,_,_,ho,r⟩:=h; cases ho
 | mpr id=>obtain ⟨_,_,ho,r⟩:=h; cases ho
 | gl b o=>exact ⟨hG _ h.1,h.2⟩
 | cut id k lo n=>obtain ⟨_,_,_,ho,r⟩:=h; cases ho
 | fn f l=>exact h
 | agg l=>exact h
 | tup l=>exact h
theorem yui {G G' : Nat → Prop} {O : Nat → Obj} {bl : Nat → Option Nat} (hG : ∀ b,G b → G' b) (h : RV2 w G noO noB v x) : RV2 w G' O bl v x:=by
 cases x
 case agg l=>obtain ⟨arr,e,hs,hl⟩:=h; exact ⟨arr,e,hs,fun j x hj=>let ⟨u,hu,hr⟩:=hl j x hj; ⟨u,hu,yqd hG hr⟩⟩
 case fn f l=>obtain ⟨arr,e,hs,hl⟩:=h; exact ⟨arr,e,hs,fun j x hj=>let ⟨u,hu,hr⟩:=hl j x hj; ⟨u,hu,yqd hG hr⟩⟩
 all_goals (simp only [RV2] at h ⊢; exact yqd hG h)
theorem yk5 {G G' : Nat → Prop} {O : Nat → Obj} {bl : Nat → Option Nat} (hG : ∀ b,G b → G' b) (h : RV w G noO noB v x) : RV w G' O bl v x:=by
 cases x
 case tup l=>obtain ⟨arr,e,hs,hl⟩:=h; exact ⟨arr,e,hs,fun j x hj=>let ⟨u,hu,hr⟩:=hl j x hj; ⟨u,hu,yui hG hr⟩⟩
 all_goals (simp only [RV] at h ⊢; exact yui hG h)
theorem ypV {G G' : Nat → Prop} {O : Nat → Obj} {bl : Nat → Option Nat} (hx : x.ylP = true) (h : RV1 w G noO noB v x) : RV1 w G' O bl v x:=by
 cases x <;> simp [AV.ylP] at hx
 rename_i c
 have hr : Rd w G v c:=h
 cases c <;> simp at hx <;> cases hr
 ·exact Rd.i ‹_›
 ·exact Rd.b
 ·exact Rd.u ‹_›
 ·exact Rd.q ‹_›
 ·exact Rd.s ‹_›
theorem yoI {G G' : Nat → Prop} {O : Nat → Obj} {bl : Nat → Option Nat} (hx : x.ynQ = true) (h : RV2 w G noO noB v x) : RV2 w G' O bl v x:=by
 cases x
 case agg l=>obtain ⟨arr,e,hs,hl⟩:=h; exact ⟨arr,e,hs,fun j x hj=>let ⟨u,hu,hr⟩:=hl j x hj; ⟨u,hu,ypV (List.all_eq_true.1 hx x (List.mem_of_getElem? hj)) hr⟩⟩
 case fn f l=>simp [AV.ynQ,AV.ylP] at hx
 all_goals (simp only [RV2] at h ⊢; exact ypV hx h)
theorem yjx {G G' : Nat → Prop} {O : Nat → Obj} {bl : Nat → Option Nat} (hx : x.scalar = true) (h : RV w G noO noB v x) : RV w G' O bl v x:=by
 cases x
 case tup l=>obtain ⟨arr,e,hs,hl⟩:=h; exact ⟨arr,e,hs,fun j x hj=>let ⟨u,hu,hr⟩:=hl j x hj; ⟨u,hu,yoI (List.all_eq_true.1 hx x (List.mem_of_getElem? hj)) hr⟩⟩
 all_goals (simp only [RV] at h ⊢; exact yoI hx h)
end
section
variable {P : Program} {f : Nat} {s : St} {d : Option Nat} {avs args : List AV} {res : AV} {K : St → Prop}
theorem yaQ (hp : yB P f args res) (ho : ybD s avs args) (hs : res.scalar = true) (hK : K (s.put d res)) : yfo P f avs d s K:=by
 intro g a w blk h hd vs hvs hv
 obtain ⟨h1,h2⟩:=yeN ho
 refine (hp w (All g w) (fun b hb=>yAI h hb) vs (by omega) (fun j y hj=>?_)).mono ?_
 ·obtain ⟨x,hx,hxy⟩:=h2 j y hj
  obtain ⟨u,hu,hru⟩:=hv j x hx
  exact ⟨u,hu,yje (yly h (fun _ h=>h) hru hxy)⟩
 ·rintro e w' ⟨v,rfl,hb,hr⟩
  exact ⟨v,rfl,_,blk,hK,(h.call hb).put hd (yjx hs hr)⟩
theorem yaP (hp : yB P f args res) (ho : ybD s avs args) (hdat : avs.all AV.ycJ = true) (hK : K (s.put d res)) : yfo P f avs d s K:=by
 intro g a w blk h hd vs hvs hv
 obtain ⟨h1,h2⟩:=yeN ho
 refine (hp w (Good g s.objs blk w) (fun b hb=>yhz h hb) vs (by omega) (fun j y hj=>?_)).mono ?_
 ·obtain ⟨x,hx,hxy⟩:=h2 j y hj
  obtain ⟨u,hu,hru⟩:=hv j x hx
  exact ⟨u,hu,ynR (fun _ h=>h) hru (List.all_eq_true.1 hdat x (List.mem_of_getElem? hx)) hxy⟩
 ·rintro e w' ⟨v,rfl,hb,hr⟩
  have h':=h.call hb
  refine ⟨v,rfl,_,blk,hK,h'.put hd (yk5 (fun b hb'=>?_) hr)⟩
  rcases hb' with hg | ⟨e1,e2⟩
  ·refine ⟨?_,hg.2⟩
   rcases hg.1 with e | e
   ·exact .inl e
   ·exact .inr ⟨e.1,by have:=hb.size; omega⟩
  ·refine ⟨.inr ⟨by have:=h.below.size; omega,e2⟩,fun id hid e=>?_⟩
   have:=(h.new id b hid e).2
   omega
end
end Go.Proofs.YtpiplmnecmkafaaGreat
namespace Go.Proofs.YtpiplmnecmkafaaGreat
open Go.RowKit
def ycF (ob : Nat → Obj) : St:=⟨fun _=>.any,ob⟩
def yrT (P : Program) (f : Nat) (avs : List AV) (ob : Nat → Obj) (k : AV → Prop) : Prop :=
 ∃ args res,yB P f args res ∧ ybD (ycF ob) avs args ∧ (avs.all AV.ycJ = true ∨ res.scalar = true) ∧ k res
def yhG (P : Program) (f : AV) (avs : List AV) (ob : Nat → Obj) (k : AV → Prop) : Prop :=
 match f with
 | .fn f l=>(∃ fn,P.funcs[f]? = some fn ∧ fn.body.isSome = true ∧ (fn.name != "runtime.NumGoroutine") = true) ∧ yrT P f (avs ++ l) ob k
 | _=>False
def yaO (P : Program) (op : IOp) (ev : X → AV) (ob : Nat → Obj) (k : AV → Prop) : Prop :=
 match op with
 | .mv x=>k (ev x)
 | .pick c a b=>yf1 (ev c) (ev a) (ev b) k
 | .bin op x y=>ypb op (ev x) (ev y) k
 | .beq n x y=>ynB n (ev x) (ev y) k
 | .not x=>notP (ev x) k
 | .neg x=>ypq (ev x) k
 | .idx n x i=>yiC n (ycF ob) (ev x) (ev i) k
 | .ida m n x i=>ypc m n (ev x) (ev i) k
 | .fld off x=>yjb off (ycF ob) (ev x) k
 | .ld1 x=>yhV (ycF ob) (ev x) k
 | .ldn n x=>yhX n (ycF ob) (ev x) k
 | .slc n x lo hi mx=>yig n (ev x) (lo.map ev) (hi.map ev) (mx.map ev) k
 | .sla m n x h=>ymA m n (ycF ob) (ev x) (ev h) k
 | .len x=>yhK (ycF ob) (ev x) k
 | .slen x=>yiR (ev x) k
 | .mn xs=>mmP (fun x y=>if y < x then y else x) (xs.map ev) k
 | .mx xs=>mmP (fun x y=>if x < y then y else x) (xs.map ev) k
 | .ext i x=>ynG i (ev x) k
 | .call f xs=>yrT P f (xs.map ev) ob k
 | .ixs x i=>yqc (ev x) (ev i) k
 | .nck x=>ymF (ev x) k
 | .cvt 0 x=>yen 0 (ycF ob) (ev x) k
 | .cvt 1 x=>yen 1 (ycF ob) (ev x) k
 | .cvt 3 x=>yen 3 (ycF ob) (ev x) k
 | .seq n x y=>ynl n (ev x) (ev y) k
 | .eqn n q x y=>yQC n q (ev x) (ev y) k
 | .scat x y=>yjd (ev x) (ev y) k
 | .bit op x y=>yiP op (ev x) (ev y) k
 | .binu op x y=>yeG op (ev x) (ev y) k
 | .binw op x y=>yip op (ev x) (ev y) k
 | .sls x lo hi=>ymC (ev x) (lo.map ev) (hi.map ev) k
 | .mkf f xs=>(xs.map ev).all AV.yaE = true ∧ k (.fn f (xs.map ev))
 | .bld zs ps=>yfh ⟨fun t=>ev (.t t),ob⟩ ps zs fun l=>k (.agg l)
 | .callv f xs=>yhG P (ev f) (xs.map ev) ob k
 | _=>False
def yhl (P : Program) (i : Ins) (ev : X → AV) (ob : Nat → Obj) (k : AV → Prop) : Prop :=
 match i.g with
 | none=>yaO P i.op ev ob k
 | some (t,want)=>ydy (ev (.t t)) want (yaO P i.op ev ob k) (k .und)
def wpQ (P : Program) : List Ins → St → (St → Prop) → Prop
 | [],s,K=>K s
 | i :: l,s,K=>yhl P i s.ev s.objs fun v=>wpQ P l (s.put i.d v) K
section
variable {P : Program} {g : Ghost} {s : St} {a : Act} {w : World} {blk : Lay} {ev ev' : X → AV} {ob : Nat → Obj} {k : AV → Prop}
theorem ypt {x : X} (hk : ∀ a,ev (.k a) = ev' (.k a)) (h : ∀ t,t ∈ x.tm → ev (.t t) = ev' (.t t)) : ev x = ev' x:=by
 cases x with
 | t n=>exact h n (by simp [X.tm])
 | k a=>exact hk a
theorem yut {x : Option X} (hk : ∀ a,ev (.k a) = ev' (.k a)) (h : ∀ t,t ∈ X.tmo x → ev (.t t) = ev' (.t t)) : x.map ev = x.map ev':=by
 cases x with
 | none=>rfl
 | some x=>simp only [Option.map_some]; rw [ypt hk h]
theorem yz6 (hk : ∀ a,ev (.k a) = ev' (.k a)) : ∀ {xs : List X},(∀ t,t ∈ xs.flatMap X.tm → ev (.t t) = ev' (.t t)) → xs.map ev = xs.map ev'
 | [],_=>rfl
 | x :: xs,h=>by
  simp only [List.map_cons]
  rw [ypt hk (fun t ht=>h t (by simp [ht])),yz6 hk (xs:=xs) (fun t ht=>h t (by rw [List.flatMap_cons]; exact List.mem_append_right _ ht))]
theorem yfj {s s' : St} {K : List AV → Prop} : ∀ {ps : List (Nat × Nat × X)} {l : List AV},(∀ x,x ∈ ps.map (fun p=>p.2.2) → s.ev x = s'.ev x) → yfh s ps l K = yfh s' ps l K
 | [],l,_=>rfl
 | (o,n,x) :: ps,l,h=>by
  simp only [yfh]
  rw [h x (by simp),yfj (ps:=ps) (fun y hy=>h y (by simp at hy ⊢; exact .inr hy))]
theorem yp5 {op : IOp} {l : List Nat} (hl : op.reads = some l) (hk : ∀ a,ev (.k a) = ev' (.k a)) (h : ∀ t,t ∈ l → ev (.t t) = ev' (.t t)) : yaO P op ev ob k = yaO P op ev' ob k:=by
 unfold IOp.reads at hl
 split at hl <;> first | cases hl | skip
 all_goals simp only [yaO]
 all_goals first
  | rw [ypt hk h]
  | rw [h _ (by simp)]
  | rw [yz6 hk h]
  | (rename_i f xs; rw [ypt (x:=f) hk (fun t ht=>h t (by simp [ht])),yz6 (xs:=xs) hk (fun t ht=>h t (List.mem_append_right _ ht))])
  | (rename_i zs ps; refine yfj fun x hx=>?_; cases x with
   | t n=>exact h n (List.mem_flatMap.2 ⟨_,hx,by simp [X.tm]⟩)
   | k a=>rfl)
  | (rename_i c a b; rw [ypt (x:=c) hk (fun t ht=>h t (by simp [ht])),ypt (x:=a) hk (fun t ht=>h t (by simp [ht])),ypt (x:=b) hk (fun t ht=>h t (by simp [ht]))])
  | (rename_i x y; rw [ypt (x:=x) hk (fun t ht=>h t (by simp [ht])),ypt (x:=y) hk (fun t ht=>h t (by simp [ht]))])
  | (rename_i x lo hi; rw [ypt (x:=x) hk (fun t ht=>h t (by simp [ht])),yut (x:=lo) hk (fun t ht=>h t (by simp [ht])),yut (x:=hi) hk (fun t ht=>h t (by simp [ht]))])
  | (rename_i x lo hi m; rw [ypt (x:=x) hk (fun t ht=>h t (by simp [ht])),yut (x:=lo) hk (fun t ht=>h t (by simp [ht])),yut (x:=hi) hk (fun t ht=>h t (by simp [ht])),yut (x:=m) hk (fun t ht=>h t (by simp [ht]))])
theorem yvu {i : Ins} {l : List Nat} (hl : i.reads = some l) (hk : ∀ a,ev (.k a) = ev' (.k a)) (h : ∀ t,t ∈ l → ev (.t t) = ev' (.t t)) : yhl P i ev ob k = yhl P i ev' ob k:=by
 unfold Ins.reads at hl
 simp only [Option.map_eq_some_iff] at hl
 obtain ⟨m,hm,rfl⟩:=hl
 unfold yhl
 cases hg : i.g with
 | none=>rw [hg] at h; exact yp5 hm hk h
 | some p =>
  obtain ⟨t,want⟩:=p
  rw [hg] at h
  simp only at h ⊢
  rw [h t (by simp),yp5 hm hk (fun t ht=>h t (by simp [ht]))]
theorem ylg (s : St) : ∀ (l l' : List AV),yeH (ycF s.objs) l l' = yeH s l l'
 | [],[]=>rfl
 | [],_ :: _=>rfl
 | _ :: _,[]=>rfl
 | x :: l,y :: l'=>by
  simp only [yeH,ylg s l l']
  rfl
theorem yBr (s : St) (x y : AV) : ydb (ycF s.objs) x y = ydb s x y:=by
 have e : ∀ id,(ycF s.objs).ob id = s.ob id:=fun _=>rfl
 unfold ydb
 split
 ·split
  ·exact ylg s _ _
  ·rfl
 ·split
  ·rw [ylg]
  ·rfl
 ·rw [e]
  split
  ·split
   ·exact ylg s _ _
   ·rfl
  ·rfl
 ·rfl
theorem ydC (s : St) : ∀ (l l' : List AV),ybD (ycF s.objs) l l' = ybD s l l'
 | [],[]=>rfl
 | [],_ :: _=>rfl
 | _ :: _,[]=>rfl
 | x :: l,y :: l'=>by
  simp only [ybD,ydC s l l',yBr]
theorem yrc {op : IOp} {l : List Nat} (hl : op.reads = some l) {d : Option Nat} {K : St → Prop} (h : yaO P op s.ev s.objs fun v=>K (s.put d v)) : yV P d op s K:=by
 unfold IOp.reads at hl
 split at hl <;> first | cases hl | skip
 all_goals simp only [yaO] at h
 all_goals simp only [yV]
 all_goals first
  | exact h
  | (obtain ⟨args,res,h1,h2,h3,h4⟩:=h
     rw [ydC] at h2
     rcases h3 with h3 | h3
     ·exact yaP h1 h2 h3 h4
     ·exact yaQ h1 h2 h3 h4)
  | (rename_i f xs
     revert h
     generalize s.ev f = fv
     intro h
     unfold yhG at h
     unfold yiV
     split at h
     ·obtain ⟨hf,args,res,h1,h2,h3,h4⟩:=h
      rw [ydC] at h2
      refine ⟨hf,?_⟩
      rcases h3 with h3 | h3
      ·exact yaP h1 h2 h3 h4
      ·exact yaQ h1 h2 h3 h4
     ·exact h.elim)
  | (rw [← yfj (s:=⟨fun t=>s.ev (.t t),s.objs⟩) (s':=s) (fun x _=>by cases x <;> rfl)]; exact h)
def ycE (F : (AV → Prop) → Prop) : Prop:=∀ k : AV → Prop,F k → ∃ r,k r ∧ ∀ k' : AV → Prop,k' r → F k'
theorem ycE.ybB (r : AV) : ycE fun k=>k r:=fun _ h=>⟨r,h,fun _ h=>h⟩
theorem ycE.yaz : ycE fun _=>False:=fun _ h=>h.elim
theorem ycE.and (p : Prop) {F : (AV → Prop) → Prop} (h : ycE F) : ycE fun k=>p ∧ F k:=fun k ⟨hp,hk⟩=>let ⟨r,h1,h2⟩:=h k hk; ⟨r,h1,fun k' h'=>⟨hp,h2 k' h'⟩⟩
theorem ycE.imp {p : Prop} (hp : p) {F : (AV → Prop) → Prop} (h : ycE F) : ycE fun k=>p → F k:=fun k hk=>let ⟨r,h1,h2⟩:=h k (hk hp); ⟨r,h1,fun k' h' _=>h2 k' h'⟩
theorem yxP (c a b : AV) : ycE (yf1 c a b):=by
 unfold yf1
 split
 ·split
  ·exact .ybB _
  ·rename_i t _ _ _
   intro k h
   cases t
   ·exact ⟨_,h.2 rfl,fun k' h'=>⟨fun e=>(by cases e),fun _=>h'⟩⟩
   ·exact ⟨_,h.1 rfl,fun k' h'=>⟨fun _=>h',fun e=>(by cases e)⟩⟩
 ·exact .yaz
theorem yAo (op : BinOp) (x y : AV) : ycE (ypb op x y):=by
 unfold ypb
 split
 ·unfold yky
  split <;> first | exact .ybB _ | exact .yaz | exact .and _ (.ybB _) | exact .and _ (.and _ (.ybB _))
 ·exact .yaz
theorem yAE (n : Bool) (x y : AV) : ycE (ynB n x y):=by
 unfold ynB; split <;> first | exact .ybB _ | exact .yaz
theorem yzz (x : AV) : ycE (notP x):=by unfold notP; split <;> first | exact .ybB _ | exact .yaz
theorem yyM (x : AV) : ycE (ypq x):=by unfold ypq; split <;> first | exact .and _ (.ybB _) | exact .yaz
theorem yzo (n : Nat) (s : St) (x y : AV) : ycE (yiC n s x y):=by
 unfold yiC
 split
 case h_5=>split <;> first | exact .and _ (.and _ (.and _ (.and _ (.ybB _)))) | exact .yaz
 all_goals first | exact .and _ (.and _ (.and _ (.ybB _))) | exact .yaz
theorem yAA (m n : Nat) (x y : AV) : ycE (ypc m n x y):=by unfold ypc; split <;> first | exact .and _ (.and _ (.and _ (.and _ (.ybB _)))) | exact .yaz
theorem yzi (n : Nat) (s : St) (x : AV) : ycE (yjb n s x):=by
 unfold yjb
 split
 case h_4=>split <;> first | exact .and _ (.ybB _) | exact .yaz
 all_goals first | exact .ybB _ | exact .yaz
theorem yzS (x : AV) : ycE (ymF x):=by unfold ymF; split <;> first | exact .ybB _ | exact .yaz
theorem yo3 (n : Nat) (hn : n = 0 ∨ n = 1 ∨ n = 3) (s : St) (x : AV) : ycE (yen n s x):=by
 rcases hn with rfl | rfl | rfl
 ·unfold yen; simp only; split <;> first | exact .ybB _ | exact .and _ (.ybB _) | exact .yaz
 ·unfold yen; simp only; split <;> first | exact .ybB _ | exact .yaz
 ·unfold yen; simp only; split <;> first | exact .and _ (.ybB _) | exact .yaz
theorem yRz (n : Bool) (q : Nat) (x y : AV) : ycE (yQC n q x y):=by
 unfold yQC
 split
 ·split
  ·rename_i m n' _ _
   by_cases h : m.length = q ∧ n'.length = q
   ·simp only [h.1,h.2,true_and]; exact .ybB _
   ·have : ∀ k : Prop,(m.length = q ∧ n'.length = q ∧ k) = False:=fun k=>by simp only [eq_iff_iff,iff_false]; exact fun e=>h ⟨e.1,e.2.1⟩
    simp only [this]; exact .yaz
  ·exact .yaz
 ·exact .yaz
theorem yz9 (n : Bool) (x y : AV) : ycE (ynl n x y):=by unfold ynl; split <;> first | exact .ybB _ | exact .yaz
theorem yxX (x y : AV) : ycE (yjd x y):=by unfold yjd; split <;> first | exact .and _ (.ybB _) | exact .yaz
theorem yz1 (op : BinOp) (x y : AV) : ycE (yiP op x y):=by
 unfold yiP; split
 ·split <;> first | exact .ybB _ | exact .and _ (.ybB _) | exact .yaz
 ·split <;> first | exact .ybB _ | exact .and _ (.ybB _) | exact .yaz
 ·exact .yaz
theorem yxs (op : BinOp) (x y : AV) : ycE (yeG op x y):=by
 unfold yeG; split
 ·split <;> first | exact .ybB _ | exact .yaz
 ·exact .yaz
theorem yyn (op : BinOp) (x y : AV) : ycE (yip op x y):=by
 unfold yip; split
 ·split <;> first | exact .ybB _ | exact .yaz
 ·exact .yaz
theorem yAa (x : AV) (lo hi : Option AV) : ycE (ymC x lo hi):=by
 unfold ymC
 split <;> first | exact .yaz | exact .and _ (.and _ (.ybB _)) | exact .and _ (.and _ (.and _ (.ybB _)))
theorem yyY (s : St) (x : AV) : ycE (yhV s x):=by
 unfold yhV; split
 ·split
  ·split <;> first | exact .ybB _ | exact .yaz
  ·exact .yaz
 ·split <;> first | exact .and _ (.and _ (.and _ (.ybB _))) | exact .yaz
 ·split
  ·refine .and _ ?_
   split <;> first | exact .and _ (.and _ (.and _ (.ybB _))) | exact .yaz
  ·exact .yaz
 ·split <;> first | exact .ybB _ | exact .yaz
 ·exact .yaz
theorem yzR (n : Nat) (s : St) (x : AV) : ycE (yhX n s x):=by
 unfold yhX; split
 ·split <;> first | exact .and _ (.ybB _) | exact .yaz
 ·split <;> first | exact .and _ (.and _ (.and _ (.ybB _))) | exact .yaz
 ·split
  ·refine .and _ ?_
   split <;> first | exact .and _ (.and _ (.and _ (.ybB _))) | exact .yaz
  ·exact .yaz
 ·exact .and _ (.ybB _)
 ·exact .yaz
theorem yAC (n : Nat) (x : AV) (lo hi m : Option AV) : ycE (yig n x lo hi m):=by
 unfold yig
 split <;> first | exact .yaz | exact .and _ (.ybB _) | exact .and _ (.and _ (.ybB _)) | exact .and _ (.and _ (.and _ (.ybB _))) | exact .and _ (.and _ (.and _ (.and _ (.ybB _)))) | exact .and _ (.and _ (.and _ (.and _ (.and _ (.ybB _)))))
theorem yAy (m n : Nat) (s : St) (x y : AV) : ycE (ymA m n s x y):=by
 unfold ymA
 split
 ·split <;> first | exact .yaz | exact .and _ (.and _ (.and _ (.and _ (.and _ (.ybB _)))))
 ·exact .yaz
theorem yAZ (f : Int → Int → Int) (l : List AV) : ycE (mmP f l):=by unfold mmP; split <;> first | exact .ybB _ | exact .yaz
theorem yzr (i : Nat) (x : AV) : ycE (ynG i x):=by
 unfold ynG; split
 ·split <;> first | exact .ybB _ | exact .yaz
 ·exact .yaz
theorem yzN (x y : AV) : ycE (yqc x y):=by unfold yqc; split <;> first | exact .and _ (.and _ (.ybB _)) | exact .yaz
theorem yrz (f : Nat) (avs : List AV) (ob : Nat → Obj) : ycE (yrT P f avs ob) :=
 fun _ ⟨args,res,h1,h2,h3,h4⟩=>⟨res,h4,fun _ h'=>⟨args,res,h1,h2,h3,h'⟩⟩
theorem ywn (f : AV) (avs : List AV) (ob : Nat → Obj) : ycE (yhG P f avs ob):=by
 unfold yhG; split
 ·exact .and _ (yrz _ _ _)
 ·exact .yaz
theorem yrW (s : St) : ∀ (ps : List (Nat × Nat × X)) (l : List AV),ycE fun k=>yfh s ps l fun l=>k (.agg l)
 | [],l=>.ybB _
 | (o,n,x) :: ps,l=>by
  simp only [yfh]
  exact .and _ (.and _ (.and _ (yrW s ps _)))
theorem yyI (h : Repr g s a w blk) {v : Value} {x : AV} (hx : RVs g s w blk v x) : ycE (yhK s x):=by
 have rd : ∀ {n : Nat} {rows : List (List C)},Rd w (Good g s.objs blk w) v (.sl n rows) → rows.length ≤ maxLen:=by
  intro n rows hr
  cases hr; omega
 unfold yhK
 split
 ·exact .imp (rd hx.c) (.ybB _)
 ·obtain ⟨_,_,_,hr⟩:=hx
  exact .imp (rd hr) (.ybB _)
 ·rename_i id n m
  obtain ⟨rows,_,_,hh⟩:=hx
  refine .imp ?_ (.ybB _)
  rcases hh with ⟨_,e0,_⟩ | ⟨_,_,_,_,_,_,e1,e2,_⟩
  ·omega
  ·omega
 ·obtain ⟨_,_,_,_,_,_,h1,h2,_⟩:=hx
  exact .imp (by omega) (.ybB _)
 ·split
  ·rename_i k0 ver' rows hO
   intro k hk
   obtain ⟨rfl,hk⟩:=hk
   obtain ⟨A,cap,_,hm⟩:=ymT h hO hx
   exact ⟨_,hk hm,fun k' h'=>⟨rfl,fun _=>h'⟩⟩
  ·exact .yaz
 ·exact .ybB _
 ·exact .yaz
theorem yx4 {v : Value} {x : AV} (h : RVs g s w blk v x) : ycE (yiR x):=by
 unfold yiR
 split
 ·exact .imp h.str.2 (.ybB _)
 ·exact .yaz
theorem yxi (h : Repr g s a w blk) (t : Nat) : RVs g s w blk (g.val a t) (s.ev (.t t)):=h.env t
theorem yvq (h : Repr g s a w blk) {op : IOp} {l : List Nat} (hl : op.reads = some l) : ycE (yaO P op s.ev s.objs):=by
 unfold IOp.reads at hl
 split at hl <;> first | cases hl | skip
 all_goals unfold yaO
 all_goals first
  | exact .ybB _
  | exact yzz _
  | exact yyM _
  | exact yzi _ _ _
  | exact yyY _ _
  | exact yzR _ _ _
  | exact yzr _ _
  | exact yyI (s:=s) h (yxi h _)
  | exact yx4 (yxi h _)
  | exact yzS _
  | exact yo3 _ (.inl rfl) _ _
  | exact yo3 _ (.inr (.inl rfl)) _ _
  | exact yo3 _ (.inr (.inr rfl)) _ _
  | exact yz9 _ _ _
  | exact yRz _ _ _ _
  | exact yxX _ _
  | exact yz1 _ _ _
  | exact yxs _ _ _
  | exact yyn _ _ _
  | exact yAa _ _ _
  | exact .and _ (.ybB _)
  | exact yxP _ _ _
  | exact yAo _ _ _
  | exact yAE _ _ _
  | exact yzo _ _ _ _
  | exact yAA _ _ _ _
  | exact yzN _ _
  | exact yAC _ _ _ _ _
  | exact yAy _ _ _ _ _
  | exact yAZ _ _
  | exact yrz _ _ _
  | exact ywn _ _ _
  | exact yrW _ _ _
theorem yu1 (h : Repr g s a w blk) {i : Ins} {l : List Nat} (hl : i.reads = some l) : ycE (yhl P i s.ev s.objs):=by
 unfold Ins.reads at hl
 simp only [Option.map_eq_some_iff] at hl
 obtain ⟨m,hm,_⟩:=hl
 have hd:=yvq (P:=P) h hm
 unfold yhl
 cases hg : i.g with
 | none=>exact hd
 | some p =>
  obtain ⟨t,want⟩:=p
  simp only
  unfold ydy
  intro k hk
  split at hk
  ·rename_i v hv
   by_cases e : v = want
   ·obtain ⟨r,h1,h2⟩:=hd k (hk.1 e)
    exact ⟨r,h1,fun k' h'=>⟨fun _=>h2 k' h',fun e'=>(by subst e; cases v <;> cases e')⟩⟩
   ·exact ⟨.und,hk.2 (by cases v <;> cases want <;> simp_all),fun k' h'=>⟨fun e'=>absurd e' e,fun _=>h'⟩⟩
  ·exact ⟨.und,hk,fun k' h'=>h'⟩
  ·exact hk.elim
end
end Go.Proofs.YtpiplmnecmkafaaGreat
namespace Go.Proofs.YtpiplmnecmkafaaGreat
open Go.RowKit
def stE (s : St) (is : List Ins) (r : Nat → AV) (E : Nat → Bool) : St :=
 ⟨fun t=>match (List.range is.length).find? (fun i=>E i && (is[i]?).bind (·.d) == some t) with
  | some i=>r i
  | none=>s.env t,s.objs⟩
section
variable {P : Program} {g : Ghost} {N : Nat} {s : St} {a : Act} {w : World} {blk : Lay} {ops : Array Oper}
theorem ye9 : ∀ {l : List Oper} {is : List Ins},ye3 P N ops l = some is → is.length = l.length ∧ ∀ (j : Nat) (o : Oper),l[j]? = some o → ∃ i,is[j]? = some i ∧ yeq P N ops o = some i
 | [],is,h=>by cases h; exact ⟨rfl,fun j o hj=>by simp at hj⟩
 | o :: l,is,h=>by
  simp only [ye3] at h
  split at h
  ·rename_i i is' h1 h2
   cases h
   obtain ⟨e1,e2⟩:=ye9 h2
   refine ⟨by simp [e1],fun j o' hj=>?_⟩
   cases j with
   | zero=>simp at hj; subst hj; exact ⟨i,rfl,h1⟩
   | succ j=>exact e2 j o' (by simpa using hj)
  ·cases h
theorem ymL {o : Oper} {i : Ins} (h1 : yeq P N ops o = some i) : (∀ d,o.dst = some d → d < N) ∧ ∃ op,yoC P o = some op ∧ i.d = o.dst ∧ i.op = op ∧
 ((o.guard = none ∧ i.g = none) ∨ ∃ j want t,o.guard = some (j,want) ∧ (ops[j]?).bind (·.dst) = some t ∧ t < ycZ ∧ i.g = some (t,want)):=by
 constructor
 ·intro j hj
  unfold yeq at h1
  split at h1
  ·split at h1
   ·rename_i e; rw [e] at hj; cases hj
   ·rename_i d e
    by_cases hlt : d < N
    ·rw [e] at hj; cases hj; exact hlt
    ·rw [if_neg hlt] at h1; cases h1
  ·cases h1
 ·unfold yeq at h1
  split at h1
  ·rename_i op hop
   refine ⟨op,hop,?_⟩
   split at h1
   ·rename_i e
    split at h1
    ·rename_i eg; cases h1; exact ⟨e.symm,rfl,.inl ⟨eg,rfl⟩⟩
    ·rename_i j want eg
     split at h1
     ·rename_i t ht
      split at h1
      ·rename_i hlt; cases h1; exact ⟨e.symm,rfl,.inr ⟨j,want,t,eg,ht,hlt,rfl⟩⟩
      ·cases h1
     ·cases h1
   ·rename_i d e
    split at h1
    ·split at h1
     ·rename_i eg; cases h1; exact ⟨e.symm,rfl,.inl ⟨eg,rfl⟩⟩
     ·rename_i j want eg
      split at h1
      ·rename_i t ht
       split at h1
       ·rename_i hlt; cases h1; exact ⟨e.symm,rfl,.inr ⟨j,want,t,eg,ht,hlt,rfl⟩⟩
       ·cases h1
      ·cases h1
    ·cases h1
  ·cases h1
theorem yon (hN : g.N = N) (h : Repr g s a w blk) {o : Oper} {i : Ins} (hc : yeq P N ops o = some i) {l : List Nat} (hl : i.reads = some l) {r : AV} (hv : ∀ k' : AV → Prop,k' r → yhl P i s.ev s.objs k') :
 (Region.wanted o (yielded ops a.tmps) = true ∧ yN P g o a w (fun s'=>s' = s.put i.d r)) ∨
 (Region.wanted o (yielded ops a.tmps) = false ∧ Repr g (s.put i.d r) (a.put o.dst undef) w blk):=by
 obtain ⟨hd0,op,hop,hid,hiop,hg⟩:=ymL hc
 have hd : ∀ d,o.dst = some d → d < g.N:=by rw [hN]; exact hd0
 unfold Ins.reads at hl
 simp only [Option.map_eq_some_iff] at hl
 obtain ⟨m,hm,_⟩:=hl
 have doit : yaO P i.op s.ev s.objs (fun v=>v = r) → yN P g o a w (fun s'=>s' = s.put i.d r):=by
  intro hval
  refine step_ok h hd hop ?_
  rw [← hiop]
  refine yrc hm ?_
  rw [← hid]
  obtain ⟨r',hr',hall⟩:=yvq (P:=P) h hm _ hval
  exact hall _ (by rw [hr'])
 rcases hg with ⟨e1,e2⟩ | ⟨j,want,t,e1,e2,htl,e3⟩
 ·refine .inl ⟨by simp [Region.wanted,e1],doit ?_⟩
  have:=hv (fun v=>v = r) rfl
  unfold yhl at this
  rw [e2] at this
  exact this
 ·have hq:=hv (fun v=>v = r) rfl
  unfold yhl at hq
  rw [e3] at hq
  simp only [St.ev] at hq
  have hen:=h.at_ htl
  have hy : ∀ v : Bool,a.tmps.getD t undef = .bool v → yielded ops a.tmps j = some v:=by
   intro v hv
   unfold yielded
   rw [e2]
   simp only [Option.bind_some]
   have : a.tmps[t]? = some (.bool v):=by
    rw [Array.getD_eq_getD_getElem?] at hv
    cases hq : a.tmps[t]? with
    | none=>rw [hq] at hv; simp [undef] at hv
    | some u=>rw [hq] at hv; simp at hv; rw [hv]
   rw [this]
  unfold ydy at hq
  split at hq
  ·rename_i v hvv
   rw [hvv] at hen
   have hb:=hen.bool
   by_cases e : v = want
   ·exact .inl ⟨by simp [Region.wanted,e1,hy v hb,e],doit (hq.1 e)⟩
   ·have hr:=hq.2 (by cases v <;> cases want <;> simp_all)
    refine .inr ⟨by simp [Region.wanted,e1,hy v hb,e],?_⟩
    rw [← hr,hid]
    exact h.put hd (v:=undef) (x:=.und) (show undef = undef from rfl)
  ·rename_i hvv
   rw [hvv] at hen
   have hu : a.tmps.getD t undef = undef:=hen
   have hyn : yielded ops a.tmps j = none:=by
    unfold yielded
    rw [e2]
    simp only [Option.bind_some]
    cases hq : a.tmps[t]? with
    | none=>rfl
    | some u =>
     have : u = undef:=by rw [Array.getD_eq_getD_getElem?,hq] at hu; simpa using hu
     rw [this]; rfl
   refine .inr ⟨by simp [Region.wanted,e1,hyn],?_⟩
   rw [← hq,hid]
   exact h.put hd (v:=undef) (x:=.und) (show undef = undef from rfl)
  ·exact hq.elim
theorem yN.some_ {o : Oper} {K : St → Prop} (h : yN P g o a w K) : ∃ s' a' w' blk',K s' ∧ Repr g s' a' w' blk':=by
 obtain ⟨nx,w',hr,h⟩:=h
 cases nx with
 | value v=>obtain ⟨s',blk',k,r⟩:=h; exact ⟨_,_,_,_,k,r⟩
 | skip=>obtain ⟨s',blk',k,r⟩:=h; exact ⟨_,_,_,_,k,r⟩
 | enter f args =>
  obtain ⟨e,w2,fr,⟨v,_,s',blk',k,r⟩,_⟩:=h []
  exact ⟨_,_,_,_,k,r⟩
 | _=>exact h.elim
theorem ywL {is : List Ins} {r : Nat → AV} {E : Nat → Bool} {m : Nat} {i : Ins} (hi : is[m]? = some i) (hm : E m = false) (hdist : ∀ (j : Nat) (x : Ins),is[j]? = some x → j ≠ m → x.d.isNone = true ∨ x.d ≠ i.d) :
 stE s is r (fun j=>E j || j == m) = (stE s is r E).put i.d (r m):=by
 have hml : m < is.length:=(List.getElem?_eq_some_iff.1 hi).1
 cases hd : i.d with
 | none =>
  show stE s is r (fun j=>E j || j == m) = stE s is r E
  unfold stE
  congr 1
  funext t
  have : (fun j=>(E j || j == m) && (is[j]?).bind (·.d) == some t) = fun j=>E j && (is[j]?).bind (·.d) == some t:=by
   funext j
   by_cases e : j = m
   ·subst e; simp [hi,hd]
   ·have : (j == m) = false:=by simpa using e
    rw [this,Bool.or_false]
  rw [this]
 | some d =>
  show stE s is r (fun j=>E j || j == m) = ⟨upd d (r m) (stE s is r E).env,(stE s is r E).objs⟩
  unfold stE
  congr 1
  funext t
  rw [yaq]
  by_cases e : t = d
  ·subst e
   rw [if_pos rfl]
   have : (List.range is.length).find? (fun j=>(E j || j == m) && (is[j]?).bind (·.d) == some t) = some m:=by
    rw [List.find?_eq_some_iff_append]
    refine ⟨by simp [hi,hd],List.range m,(List.range is.length).drop (m + 1),?_,?_⟩
    ·conv=>lhs; rw [← List.take_append_drop m (List.range is.length)]
     congr 1
     ·rw [List.take_range,Nat.min_eq_left (by omega)]
     ·rw [List.drop_eq_getElem_cons (by simpa using hml)]; simp
    ·intro j hj
     have hjm : j ≠ m:=by have:=List.mem_range.1 hj; omega
     cases hx : is[j]? with
     | none=>simp
     | some x =>
      rcases hdist j x hx hjm with h1 | h1
      ·have : x.d = none:=by simpa using h1
       simp [this]
      ·have : x.d ≠ some t:=by rw [← hd]; exact h1
       simp [this]
   rw [this]
  ·rw [if_neg e]
   have : (fun j=>(E j || j == m) && (is[j]?).bind (·.d) == some t) = fun j=>E j && (is[j]?).bind (·.d) == some t:=by
    funext j
    by_cases e2 : j = m
    ·subst e2; simp [hi,hd,Ne.symm e]
    ·have : (j == m) = false:=by simpa using e2
     rw [this,Bool.or_false]
   rw [this]
theorem yhm {is : List Ins} {r r' : Nat → AV} {E E' : Nat → Bool} (h : ∀ j,j < is.length → E j = E' j ∧ (E j = true → r j = r' j)) : stE s is r E = stE s is r' E':=by
 unfold stE
 congr 1
 funext t
 have : ∀ l : List Nat,(∀ j ∈ l,j < is.length) → (match l.find? (fun i=>E i && (is[i]?).bind (·.d) == some t) with | some i=>r i | none=>s.env t) = (match l.find? (fun i=>E' i && (is[i]?).bind (·.d) == some t) with | some i=>r' i | none=>s.env t):=by
  intro l
  induction l with
  | nil=>intro _; rfl
  | cons j l ih =>
   intro hl
   obtain ⟨h1,h2⟩:=h j (hl j (by simp))
   simp only [List.find?_cons,← h1]
   cases hE : (E j && (is[j]?).bind (·.d) == some t) with
   | true =>
    simp only
    have : E j = true:=by revert hE; cases E j <;> simp
    exact h2 this
   | false=>exact ih (fun q hq=>hl q (by simp [hq]))
 exact this _ (fun j hj=>List.mem_range.1 hj)
theorem yqf {is : List Ins} {r : Nat → AV} : stE s is r (fun j=>decide (j < 0)) = s:=by
 obtain ⟨env,objs⟩:=s
 unfold stE
 congr 1
 funext t
 have : (List.range is.length).find? (fun i=>decide (i < 0) && (is[i]?).bind (·.d) == some t) = none:=by
  rw [List.find?_eq_none]
  intro j _
  simp
 rw [this]
structure QuietInfo (ops : Array Oper) (is : List Ins) : Prop where
 len : is.length = ops.size
 rd : ∀ (j : Nat) (i : Ins),is[j]? = some i → i.reads.isSome = true
 back : ∀ (j : Nat) (o : Oper),ops[j]? = some o → ∀ e ∈ o.after,Region.binds .any e = true → e.on < j
 dist : ∀ (i j : Nat) (x y : Ins),i < j → is[i]? = some x → is[j]? = some y → x.d.isNone = true ∨ x.d ≠ y.d
 pair : ∀ (i j : Nat) (x y : Ins) (o : Oper),i < j → is[i]? = some x → is[j]? = some y → ops[j]? = some o → yta o i = true ∨ indep x y = true
theorem yvK {is : List Ins} (hl : is.length = ops.size) (h : ysk ops is = true) : QuietInfo ops is:=by
 unfold ysk at h
 rw [Bool.and_eq_true,List.all_eq_true,List.all_eq_true] at h
 obtain ⟨h1,h2⟩:=h
 have key : ∀ (j : Nat) (o : Oper) (y : Ins),ops[j]? = some o → is[j]? = some y → (∀ e ∈ o.after,Region.binds .any e = true → e.on < j) ∧ ∀ (i : Nat) (x : Ins),i < j → is[i]? = some x → ys3 o i x y = true:=by
  intro j o y ho hy
  have hj : j < ops.size:=(Array.getElem?_eq_some_iff.1 ho).1
  have:=h2 j (List.mem_range.2 hj)
  rw [ho,hy] at this
  simp only [Bool.and_eq_true,Array.all_eq_true',Bool.or_eq_true,Bool.not_eq_true',decide_eq_true_eq,List.all_eq_true] at this
  refine ⟨fun e he hb=>?_,fun i x hi hx=>?_⟩
  ·rcases this.1 e he with e1 | e1
   ·rw [hb] at e1; cases e1
   ·exact e1
  ·have:=this.2 i (List.mem_range.2 hi)
   rw [hx] at this
   exact this
 refine ⟨hl,fun j i hi=>h1 i (List.mem_of_getElem? hi),fun j o ho=>?_,fun i j x y hij hx hy=>?_,fun i j x y o hij hx hy ho=>?_⟩
 ·have hj : j < is.length:=by rw [hl]; exact (Array.getElem?_eq_some_iff.1 ho).1
  exact (key j o _ ho (List.getElem?_eq_getElem hj)).1
 ·have hj : j < ops.size:=by rw [← hl]; exact (List.getElem?_eq_some_iff.1 hy).1
  have:=(key j _ y (Array.getElem?_eq_getElem hj) hy).2 i x hij hx
  simp only [ys3,Bool.and_eq_true,Bool.or_eq_true,bne_iff_ne] at this
  exact this.1
 ·have:=(key j o y ho hy).2 i x hij hx
  simp only [ys3,Bool.and_eq_true,Bool.or_eq_true,bne_iff_ne] at this
  exact this.2
theorem yt8 (hN : g.N = N) {is : List Ins} {K : St → Prop} (hc : ye3 P N ops ops.toList = some is) (hq : QuietInfo ops is) (h : Repr g s a w blk) (hw : wpQ P is s K) :
 ∃ r : Nat → AV,K (stE s is r (fun j=>decide (j < is.length))) ∧ ∀ (j : Nat) (i : Ins),is[j]? = some i → ∀ k' : AV → Prop,k' (r j) → yhl P i (stE s is r (fun q=>decide (q < j))).ev s.objs k':=by
 obtain ⟨hlen,hget⟩:=ye9 hc
 have key : ∀ m,m ≤ is.length → ∃ r : Nat → AV,wpQ P (is.drop m) (stE s is r (fun j=>decide (j < m))) K ∧ (∃ a' w' blk',Repr g (stE s is r (fun j=>decide (j < m))) a' w' blk') ∧
  ∀ (j : Nat) (i : Ins),j < m → is[j]? = some i → ∀ k' : AV → Prop,k' (r j) → yhl P i (stE s is r (fun q=>decide (q < j))).ev s.objs k':=by
  intro m
  induction m with
  | zero=>intro _; exact ⟨fun _=>.any,by rw [yqf]; exact hw,⟨a,w,blk,by rw [yqf]; exact h⟩,fun j i hj=>by omega⟩
  | succ m ih =>
   intro hm
   obtain ⟨r,h1,⟨a1,w1,blk1,h2⟩,h3⟩:=ih (by omega)
   have hi:=List.getElem?_eq_getElem (show m < is.length by omega)
   revert hi
   generalize is[m] = i
   intro hi
   have hdrop : is.drop m = i :: is.drop (m + 1):=by
    rw [List.drop_eq_getElem_cons (by omega)]
    congr 1
    rw [List.getElem?_eq_getElem (by omega)] at hi
    exact Option.some.inj hi
   rw [hdrop] at h1
   obtain ⟨l,hl⟩:=Option.isSome_iff_exists.1 (hq.rd m i hi)
   obtain ⟨rm,k1,k2⟩:=yu1 (P:=P) h2 hl _ h1
   let r' : Nat → AV:=fun j=>if j = m then rm else r j
   have hsame : ∀ q,q ≤ m → stE s is r (fun j=>decide (j < q)) = stE s is r' (fun j=>decide (j < q)):=fun q hq=>yhm fun j _=>⟨rfl,fun hj=>by
    have : j < q:=by simpa using hj
    simp only [r']; rw [if_neg (by omega)]⟩
   have hdist : ∀ (j : Nat) (x : Ins),is[j]? = some x → j ≠ m → x.d.isNone = true ∨ x.d ≠ i.d:=by
    intro j x hx hjm
    rcases Nat.lt_or_gt_of_ne hjm with e | e
    ·exact hq.dist j m x i e hx hi
    ·rcases hq.dist m j i x e hi hx with e2 | e2
     ·have : i.d = none:=by simpa using e2
      rw [this]
      cases hxd : x.d with
      | none=>exact .inl rfl
      | some _=>exact .inr (by simp)
     ·exact .inr (Ne.symm e2)
   have hput : stE s is r' (fun j=>decide (j < m + 1)) = (stE s is r (fun j=>decide (j < m))).put i.d rm:=by
    have e1 : stE s is r' (fun j=>decide (j < m + 1)) = stE s is r' (fun j=>decide (j < m) || j == m):=yhm fun j _=>⟨by
     by_cases e1 : j < m
     ·simp [e1]; omega
     ·by_cases e2 : j = m
      ·simp [e2]
      ·have : ¬ j < m + 1:=by omega
       simp [e1,e2,this],fun _=>rfl⟩
    rw [e1,ywL hi (by simp) hdist,hsame m (Nat.le_refl _)]
    simp [r']
   have hmo : m < ops.size:=by rw [← hq.len]; omega
   obtain ⟨i',hi',hci⟩:=hget m _ (by rw [Array.getElem?_toList]; exact Array.getElem?_eq_getElem hmo)
   rw [hi] at hi'; cases hi'
   refine ⟨r',by rw [hput]; exact k1,?_,fun j x hj hx k' hk'=>?_⟩
   ·rw [hput]
    rcases yon (ops:=ops) hN h2 hci hl k2 with ⟨_,ho⟩ | ⟨_,ho⟩
    ·obtain ⟨s',a',w',blk',e,hr⟩:=ho.some_
     rw [e] at hr
     exact ⟨a',w',blk',hr⟩
    ·exact ⟨_,_,_,ho⟩
   ·by_cases e : j = m
    ·subst e
     rw [hi] at hx; cases hx
     rw [← hsame _ (Nat.le_refl _)]
     exact k2 k' (by simpa [r'] using hk')
    ·rw [← hsame j (by omega)]
     exact h3 j x (by omega) hx k' (by simpa [r',e] using hk')
 obtain ⟨r,h1,_,h3⟩:=key is.length (Nat.le_refl _)
 rw [List.drop_length] at h1
 exact ⟨r,h1,fun j i hi=>h3 j i (List.getElem?_eq_some_iff.1 hi).1 hi⟩
theorem yrI {md : Region.Mode} {e : Edge} (h : Region.binds .any e = true) : Region.binds md e = true:=by
 unfold Region.binds at *
 split at h
 ·cases h
 ·cases h
 ·rfl
def yst (md : Region.Mode) (ops : Array Oper) (rk : Nat → Nat) : Prop :=
 ∀ (j : Nat) (o : Oper),ops[j]? = some o → ∀ e ∈ o.after,Region.binds md e = true → rk e.on < rk j ∧ e.on < ops.size
theorem yrJ {md : Region.Mode} {rk : Nat → Nat} (h : ytx md ops rk = true) : yst md ops rk:=by
 intro j o ho e he hb
 unfold ytx at h
 rw [List.all_eq_true] at h
 have:=h j (List.mem_range.2 (Array.getElem?_eq_some_iff.1 ho).1)
 rw [ho] at this
 simp only [Array.all_eq_true',Bool.or_eq_true,Bool.not_eq_true',Bool.and_eq_true,decide_eq_true_eq] at this
 rcases this e he with h1 | h1
 ·rw [hb] at h1; cases h1
 ·exact h1
theorem yvw {is : List Ins} (hq : QuietInfo ops is) : yst .any ops (fun j=>j):=by
 intro j o ho e he hb
 have h1:=hq.back j o ho e he hb
 exact ⟨h1,Nat.lt_trans h1 (Array.getElem?_eq_some_iff.1 ho).1⟩
theorem yyv {md : Region.Mode} {rk : Nat → Nat} (hrk : yst md ops rk) (hN : g.N = N) {is : List Ins} {Q : Exit → Act → World → Prop} (hc : ye3 P N ops ops.toList = some is) (hq : QuietInfo ops is) {r : Nat → AV}
 (hdet : ∀ (j : Nat) (i : Ins),is[j]? = some i → ∀ k' : AV → Prop,k' (r j) → yhl P i (stE s is r (fun q=>decide (q < j))).ev s.objs k')
 (hQ : ∀ a' w' blk',Repr g (stE s is r (fun j=>decide (j < is.length))) a' w' blk' → Q .normal a' w') :
 ∀ (fuel : Nat) (listed : Array Bool) (a : Act) (w : World) (blk : Lay),listed.size = ops.size → (∀ (j : Nat) (o : Oper),ops[j]? = some o → listed.getD j true = true → ∀ e ∈ o.after,Region.binds .any e = true → listed.getD e.on false = true) →
  Repr g (stE s is r (fun j=>listed.getD j false)) a w blk → ((List.range ops.size).filter fun j=>!listed.getD j true).length = fuel → wpAny P md ops Q fuel listed a w:=by
 obtain ⟨hlen,hget⟩:=ye9 hc
 intro fuel
 have done : ∀ (listed : Array Bool) (a : Act) (w : World) (blk : Lay),listed.size = ops.size → Repr g (stE s is r (fun j=>listed.getD j false)) a w blk → Region.ready md ops listed = [] → Q .normal a w:=by
  intro listed a w blk hs hr hnil
  refine hQ a w blk ?_
  have hall : ∀ j,j < ops.size → listed.getD j false = true:=by
   have key : ∀ n j,rk j = n → j < ops.size → listed.getD j false = true:=by
    intro n
    induction n using Nat.strongRecOn with
    | _ n ih =>
     intro j hn hj
     cases hl : listed.getD j false with
     | true=>rfl
     | false =>
      exfalso
      have : j ∈ Region.ready md ops listed:=by
       unfold Region.ready
       rw [List.mem_filter]
       refine ⟨List.mem_range.2 hj,?_⟩
       have h1 : listed.getD j true = false:=by
        rw [Array.getD_eq_getD_getElem?,Array.getElem?_eq_getElem (by omega)] at hl ⊢
        simpa using hl
       rw [Array.getElem?_eq_getElem hj]
       simp only [h1,Option.map_some,Option.getD_some,Bool.not_false,Bool.true_and,Array.all_eq_true',Bool.or_eq_true,Bool.not_eq_true']
       intro e he
       cases hb : Region.binds md e with
       | false=>exact .inl rfl
       | true =>
        obtain ⟨h2,h3⟩:=hrk j _ (Array.getElem?_eq_getElem hj) e he hb
        exact .inr (ih _ (hn ▸ h2) e.on rfl h3)
      rw [hnil] at this
      cases this
   exact fun j hj=>key _ j rfl hj
  rw [yhm (E':=fun j=>decide (j < is.length)) (r':=r)] at hr
  ·exact hr
  ·intro j hj
   refine ⟨?_,fun _=>rfl⟩
   rw [hall j (by rw [← hq.len]; exact hj)]
   simp [hj]
 induction fuel with
 | zero =>
  intro listed a w blk hs hdown hr hcount
  have hnil : Region.ready md ops listed = []:=by
   rw [List.length_eq_zero_iff,List.filter_eq_nil_iff] at hcount
   unfold Region.ready
   rw [List.filter_eq_nil_iff]
   intro j hj
   have:=hcount j hj
   simp only [Bool.not_eq_true',Bool.not_eq_false] at this
   simp [this]
  exact ⟨hnil,done listed a w blk hs hr hnil⟩
 | succ fuel ih =>
  intro listed a w blk hs hdown hr hcount
  refine ⟨fun hnil=>done listed a w blk hs hr hnil,fun i hi=>?_⟩
  unfold Region.ready at hi
  rw [List.mem_filter] at hi
  obtain ⟨hi1,hi2⟩:=hi
  have hio:=List.mem_range.1 hi1
  have ho:=Array.getElem?_eq_getElem hio
  revert ho
  generalize ops[i] = o
  intro ho
  rw [ho] at hi2
  simp only [Option.map_some,Option.getD_some,Bool.and_eq_true,Bool.not_eq_true',Array.all_eq_true',Bool.or_eq_true] at hi2
  obtain ⟨hnl,haft⟩:=hi2
  have hnl2 : listed.getD i false = false:=by
   rw [Array.getD_eq_getD_getElem?,Array.getElem?_eq_getElem (by omega)] at hnl ⊢
   simpa using hnl
  obtain ⟨x,hx,hcx⟩:=hget i o (by rw [Array.getElem?_toList]; exact ho)
  obtain ⟨l,hl⟩:=Option.isSome_iff_exists.1 (hq.rd i x hx)
  -- the temporaries that it looks at hold what they hold in the text's order
  have hagree : ∀ t,t ∈ l → (stE s is r (fun q=>decide (q < i))).env t = (stE s is r (fun j=>listed.getD j false)).env t:=by
   intro t ht
   have : ∀ j,j < is.length → (is[j]?).bind (·.d) = some t → decide (j < i) = listed.getD j false:=by
    intro j hj hjt
    have hxj:=List.getElem?_eq_getElem hj
    revert hxj
    generalize is[j] = y
    intro hxj
    rw [hxj] at hjt
    simp only [Option.bind_some] at hjt
    have hrd : x.rd = l:=by simp [Ins.rd,hl]
    rcases Nat.lt_trichotomy j i with e | e | e
    ·simp only [e,decide_true]
     rcases hq.pair j i y x o e hxj hx ho with e1 | e1
     ·unfold yta at e1
      rw [Array.any_eq_true'] at e1
      obtain ⟨ed,hed,e2⟩:=e1
      simp only [Bool.and_eq_true,beq_iff_eq] at e2
      rcases haft ed hed with e3 | e3
      ·rw [yrI e2.2] at e3; cases e3
      ·rw [← e2.1]; exact e3.symm
     ·simp only [indep,hjt,hrd,Bool.and_eq_true] at e1
      have:=e1.1
      simp only [Bool.not_eq_true',List.contains_eq_mem,decide_eq_false_iff_not] at this
      exact absurd ht this
    ·subst e
     simp [hnl2]
    ·simp only [show ¬ j < i from by omega,decide_false]
     have hjo:=List.getElem?_eq_getElem hj
     have hoj:=Array.getElem?_eq_getElem (show j < ops.size by rw [← hq.len]; exact hj)
     cases hlj : listed.getD j false with
     | false=>rfl
     | true =>
      exfalso
      rcases hq.pair i j x y _ e hx hxj hoj with e1 | e1
      ·unfold yta at e1
       rw [Array.any_eq_true'] at e1
       obtain ⟨ed,hed,e2⟩:=e1
       simp only [Bool.and_eq_true,beq_iff_eq] at e2
       have hlj2 : listed.getD j true = true:=by
        have hjs : j < listed.size:=by rw [hs,← hq.len]; exact hj
        rw [Array.getD_eq_getD_getElem?,Array.getElem?_eq_getElem hjs] at hlj ⊢
        simpa using hlj
       have:=hdown j _ hoj hlj2 ed hed e2.2
       rw [e2.1,hnl2] at this
       cases this
      ·simp only [indep,hjt,hrd,Bool.and_eq_true] at e1
       have:=e1.2
       simp only [Bool.not_eq_true',List.contains_eq_mem,decide_eq_false_iff_not] at this
       exact absurd ht this
   simp only [stE]
   have : ∀ L : List Nat,(∀ j ∈ L,j < is.length) → L.find? (fun q=>decide (q < i) && (is[q]?).bind (·.d) == some t) = L.find? (fun q=>listed.getD q false && (is[q]?).bind (·.d) == some t):=by
    intro L
    induction L with
    | nil=>intro _; rfl
    | cons j L ihL =>
     intro hL
     simp only [List.find?_cons]
     have e : (decide (j < i) && (is[j]?).bind (·.d) == some t) = (listed.getD j false && (is[j]?).bind (·.d) == some t):=by
      by_cases e2 : (is[j]?).bind (·.d) = some t
      ·rw [this j (hL j (by simp)) e2]
      ·rw [show ((is[j]?).bind (·.d) == some t) = false from beq_eq_false_iff_ne.2 e2,Bool.and_false,Bool.and_false]
     rw [e,ihL (fun q hq=>hL q (by simp [hq]))]
   rw [this _ (fun j hj=>List.mem_range.1 hj)]
  have hv : ∀ k' : AV → Prop,k' (r i) → yhl P x (stE s is r (fun j=>listed.getD j false)).ev (stE s is r (fun j=>listed.getD j false)).objs k':=by
   intro k' hk'
   have:=hdet i x hx k' hk'
   exact (yvu (ev:=(stE s is r (fun q=>decide (q < i))).ev) (ev':=(stE s is r (fun j=>listed.getD j false)).ev) hl (fun _=>rfl) (fun t ht=>hagree t ht)).mp this
  have hdist : ∀ (j : Nat) (y : Ins),is[j]? = some y → j ≠ i → y.d.isNone = true ∨ y.d ≠ x.d:=by
   intro j y hy hji
   rcases Nat.lt_or_gt_of_ne hji with e | e
   ·exact hq.dist j i y x e hy hx
   ·rcases hq.dist i j x y e hx hy with e2 | e2
    ·have : x.d = none:=by simpa using e2
     rw [this]
     cases hxd : y.d with
     | none=>exact .inl rfl
     | some _=>exact .inr (by simp)
    ·exact .inr (Ne.symm e2)
  have hnext : ∀ j,(listed.setIfInBounds i true).getD j false = (listed.getD j false || j == i):=by
   intro j
   rw [Array.getD_eq_getD_getElem?,Array.getElem?_setIfInBounds]
   by_cases e : i = j
   ·subst e; simp [hs,hio]
   ·have e2 : (j == i) = false:=by simpa using Ne.symm e
    rw [if_neg e,← Array.getD_eq_getD_getElem?,e2,Bool.or_false]
  have hnext2 : ∀ j,j ≠ i → (listed.setIfInBounds i true).getD j true = listed.getD j true:=by
   intro j e
   rw [Array.getD_eq_getD_getElem?,Array.getElem?_setIfInBounds,if_neg (Ne.symm e),← Array.getD_eq_getD_getElem?]
  have cont : ∀ a' w' blk',Repr g ((stE s is r (fun j=>listed.getD j false)).put x.d (r i)) a' w' blk' → wpAny P md ops Q fuel (listed.setIfInBounds i true) a' w':=by
   intro a' w' blk' hr'
   refine ih (listed.setIfInBounds i true) a' w' blk' (by simpa using hs) ?_ ?_ ?_
   ·intro j o' hj hlj e he hb
    rw [hnext]
    by_cases e1 : j = i
    ·subst e1
     rw [ho] at hj; cases hj
     rcases haft e he with e3 | e3
     ·rw [yrI hb] at e3; cases e3
     ·rw [e3]; rfl
    ·rw [hnext2 j e1] at hlj
     rw [hdown j o' hj hlj e he hb]; rfl
   ·have e1 : stE s is r (fun j=>(listed.setIfInBounds i true).getD j false) = stE s is r (fun j=>listed.getD j false || j == i):=yhm fun j _=>⟨hnext j,fun _=>rfl⟩
    rw [e1,ywL hx hnl2 hdist]
    exact hr'
   ·have : ((List.range ops.size).filter fun j=>!listed.getD j true).length = ((List.range ops.size).filter fun j=>!(listed.setIfInBounds i true).getD j true).length + 1:=by
     have hcnt : ∀ L : List Nat,L.Nodup → i ∈ L → (L.filter fun j=>!listed.getD j true).length = (L.filter fun j=>!(listed.setIfInBounds i true).getD j true).length + 1:=by
      intro L hnd hmem
      induction L with
      | nil=>cases hmem
      | cons q L ihL =>
       rw [List.nodup_cons] at hnd
       have hset : (listed.setIfInBounds i true).getD i true = true:=by
        rw [Array.getD_eq_getD_getElem?,Array.getElem?_setIfInBounds,if_pos rfl]; simp [hs,hio]
       by_cases e : q = i
       ·subst e
        have same : (L.filter fun j=>!listed.getD j true) = (L.filter fun j=>!(listed.setIfInBounds q true).getD j true):=by
         apply List.filter_congr
         intro j hj
         have : j ≠ q:=fun e=>hnd.1 (e ▸ hj)
         rw [hnext2 j this]
        rw [List.filter_cons,List.filter_cons,hnl,hset,same]
        simp
       ·have:=ihL hnd.2 (by rcases List.mem_cons.1 hmem with e1 | e1; ·exact absurd e1.symm e
                            ·exact e1)
        rw [List.filter_cons,List.filter_cons,hnext2 q e]
        split
        ·rw [List.length_cons,List.length_cons,this]
        ·exact this
     exact hcnt _ List.nodup_range hi1
    omega
  unfold wpOp
  rw [ho]
  rcases yon (ops:=ops) hN hr hcx hl hv with ⟨e,hok⟩ | ⟨e,hrr⟩
  ·simp only [e,if_true]
   exact .inl (hok.wp fun s' blk' a' w' hs' hr'=>cont a' w' blk' (by rw [hs'] at hr'; exact hr'))
  ·simp only [e]
   exact cont _ _ _ hrr
theorem ypx (hN : g.N = N) {id : Nat} {is : List Ins} {K : St → Prop} {Q : Exit → Act → World → Prop} (hc : ywM P N ops = some is) (h : Repr g s a w blk) (hw : wpQ P is s K)
 (hQ : ∀ s' a' w' blk',K s' → Repr g s' a' w' blk' → Q .normal a' w') : (Code.region id ops true).wp P Q a w:=by
 unfold ywM at hc
 split at hc
 ·rename_i is' hci
  split at hc
  ·rename_i hif
   cases hc
   rw [Bool.and_eq_true] at hif
   have hlen:=(ye9 hci).1
   have hq:=yvK (by rw [hlen]; simp) hif.1
   have h1 : Repr g s a { w with drawn:=w.drawn + 1 } blk:=h.drew
   obtain ⟨r,hK,hdet⟩:=yt8 hN hci hq h1 hw
   refine wp_region_draw fun t=>?_
   have base : ∀ (md : Region.Mode) (rk : Nat → Nat) (t : Nat),yst md ops rk → wpOps P ops Q (Region.linearise md ops t) a { w with drawn:=w.drawn + 1 }:=by
    intro md rk t hrk
    refine wpAny_sound ops.size t _ a _ (yyv hrk hN hci hq hdet (fun a' w' blk' hr=>hQ _ a' w' blk' hK hr) ops.size (Array.replicate ops.size false) a _ blk (by simp) ?_ ?_ ?_)
    ·intro j o hj hl
     exfalso
     have hlt : j < ops.size:=(Array.getElem?_eq_some_iff.1 hj).1
     rw [Array.getD_eq_getD_getElem?] at hl
     simp [hlt] at hl
    ·have e : stE s is r (fun j=>(Array.replicate ops.size false).getD j false) = stE s is r (fun j=>decide (j < 0)):=yhm fun j _=>⟨by
      rw [Array.getD_eq_getD_getElem?,Array.getElem?_replicate]
      split <;> simp,fun hj=>by
      exfalso
      revert hj
      rw [Array.getD_eq_getD_getElem?,Array.getElem?_replicate]
      split <;> simp⟩
     rw [e,yqf]
     exact h1
    ·have : ((List.range ops.size).filter fun j=>!(Array.replicate ops.size false).getD j true) = List.range ops.size:=by
      rw [List.filter_eq_self]
      intro j hj
      have hlt:=List.mem_range.1 hj
      rw [Array.getD_eq_getD_getElem?]
      simp [hlt]
     rw [this,List.length_range]
   unfold Region.schedule
   split
   ·exact base .any (fun j=>j) t (yvw hq)
   ·rename_i hn
    have hd : yp4 ops = true:=by
     have:=hif.2
     simp only [Bool.or_eq_true,Bool.not_eq_true'] at this hn
     rcases this with h1 | h1
     ·exact absurd h1 (by simpa using hn)
     ·exact h1
    unfold yp4 at hd
    rw [Bool.and_eq_true] at hd
    split
    ·exact base .text (fun j=>j) _ (yrJ hd.1)
    ·exact base .gc _ _ (yrJ hd.2)
  ·cases hc
 ·cases hc
end
end Go.Proofs.YtpiplmnecmkafaaGreat
