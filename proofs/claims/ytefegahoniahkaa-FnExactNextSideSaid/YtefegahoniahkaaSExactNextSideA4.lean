/- What the law FnExactNextSide stands on: the machine, in short form (names, layout). -/
import Derived.Test.YtefegahoniahkaaSExactNextSideA3
set_option linter.all false
namespace Go.Proofs.Ytefegahoniahkaa
open Go.RowKit
structure Tag {α : Type} (K : α) : Type where
def ysE (P : Program) (f : Nat) (xs : List AV) (d : Option Nat) (s : St) (K : St → Prop) (_ : Tag K) : Prop:=yfD P f xs d s K
def yqk (P : Program) (f : Nat) (xs : List AV) (ob : Nat → Obj) (k : AV → Prop) (_ : Tag k) : Prop:=ykF P f xs ob k
def loopT (P : Program) (N : Nat) (c : SC) (s : St) (Q : Ex → St → Prop) (_ : Tag Q) : Prop:=yjE P N c s Q
section
variable {P : Program} {N : Nat}
@[congr] theorem yti {d : Option Nat} {op op' : IOp} {s : St} {K : St → Prop} (h : op = op') : yA P d op s K = yA P d op' s K:=by rw [h]
@[congr] theorem yw0 {op op' : IOp} {ev : X → AV} {ob : Nat → Obj} {k : AV → Prop} (h : op = op') : yY P op ev ob k = yY P op' ev ob k:=by rw [h]
@[congr] theorem ywb {Q Q' : Ex → St → Prop} {e : Ex} {s s' : St} (h : s = s') : Ex.then Q Q' e s = Ex.then Q Q' e s':=by rw [h]
@[congr] theorem yrI {Q : Ex → St → Prop} {n : Nat} {e : Ex} {s s' : St} (h : s = s') : Ex.inBlock n Q e s = Ex.inBlock n Q e s':=by rw [h]
@[congr] theorem yvG {s s' : St} {d : Option Nat} {o o' : Obj} {v : Nat → AV} {K : St → Prop} (h : s = s') (h2 : o = o') : newP s d o v K = newP s' d o' v K:=by rw [h,h2]
@[congr] theorem ytk {s : St} {ps : List (Nat × Nat × X)} {l l' : List AV} {K : List AV → Prop} (h : l = l') : ycF s ps l K = ycF s ps l' K:=by rw [h]
@[congr] theorem yz0 {c : SC} {s s' : St} {Q : Ex → St → Prop} (h : s = s') : wpS P N c s Q = wpS P N c s' Q:=by rw [h]
@[congr] theorem yAp {l : List Ins} {s s' : St} {K : St → Prop} (h : s = s') : wpI P l s K = wpI P l s' K:=by rw [h]
@[congr] theorem yAH {n : Nat} {l : List RIns} {h : List (Nat × Lab)} {s s' : St} {K : St → Prop} (hs : s = s') : wpE P n l h s K = wpE P n l h s' K:=by rw [hs]
@[congr] theorem yx1 {l : List Ins} {s s' : St} {K : St → Prop} (h : s = s') : wpQ P l s K = wpQ P l s' K:=by rw [h]
@[congr] theorem yur {c c' a a' b b' : AV} {k : AV → Prop} (h1 : c = c') (h2 : a = a') (h3 : b = b') : ydc c a b k = ydc c' a' b' k:=by rw [h1,h2,h3]
@[congr] theorem yvJ {o : BinOp} {a a' b b' : AV} {k : AV → Prop} (h2 : a = a') (h3 : b = b') : yi4 o a b k = yi4 o a' b' k:=by rw [h2,h3]
@[congr] theorem yxq {o : Bool} {a a' b b' : AV} {k : AV → Prop} (h2 : a = a') (h3 : b = b') : yh7 o a b k = yh7 o a' b' k:=by rw [h2,h3]
@[congr] theorem yvL {a a' : AV} {k : AV → Prop} (h2 : a = a') : ylc a k = ylc a' k:=by rw [h2]
@[congr] theorem yvj {a a' : AV} {k : AV → Prop} (h2 : a = a') : notP a k = notP a' k:=by rw [h2]
@[congr] theorem yvS {a a' : AV} {k : AV → Prop} (h2 : a = a') : yi7 a k = yi7 a' k:=by rw [h2]
@[congr] theorem yxC {o : Nat} {s : St} {a a' b b' : AV} {k : AV → Prop} (h2 : a = a') (h3 : b = b') : yeX o s a b k = yeX o s a' b' k:=by rw [h2,h3]
@[congr] theorem yxG {o n : Nat} {a a' b b' : AV} {k : AV → Prop} (h2 : a = a') (h3 : b = b') : yiu o n a b k = yiu o n a' b' k:=by rw [h2,h3]
@[congr] theorem yxp {o : Nat} {s : St} {a a' : AV} {k : AV → Prop} (h2 : a = a') : yfz o s a k = yfz o s a' k:=by rw [h2]
@[congr] theorem ywN {s : St} {a a' : AV} {k : AV → Prop} (h2 : a = a') : yeI s a k = yeI s a' k:=by rw [h2]
@[congr] theorem ywS {o : Nat} {s : St} {a a' : AV} {k : AV → Prop} (h2 : a = a') : yeG o s a k = yeG o s a' k:=by rw [h2]
@[congr] theorem yw7 {s : St} {a a' b b' : AV} {k : St → Prop} (h2 : a = a') (h3 : b = b') : yeH s a b k = yeH s a' b' k:=by rw [h2,h3]
@[congr] theorem yv4 {o : Nat} {s : St} {a a' b b' : AV} {k : St → Prop} (h2 : a = a') (h3 : b = b') : ygv o s a b k = ygv o s a' b' k:=by rw [h2,h3]
@[congr] theorem ywI {o : Nat} {s : St} {d : Option Nat} {a a' : AV} {k : St → Prop} (h2 : a = a') : yoX o s d a k = yoX o s d a' k:=by rw [h2]
@[congr] theorem ywm {o n : Nat} {z : List C} {s : St} {d : Option Nat} {a a' b b' : AV} {k : St → Prop} (h2 : a = a') (h3 : b = b') : ylq o n z s d a b k = ylq o n z s d a' b' k:=by rw [h2,h3]
@[congr] theorem yxH {o : Nat} {s : St} {d : Option Nat} {a a' : List AV} {k : St → Prop} (h2 : a = a') : yh5 o a s d k = yh5 o a' s d k:=by rw [h2]
@[congr] theorem yw9 {o : Nat} {a a' : AV} {l l' h h' m m' : Option AV} {k : AV → Prop} (h2 : a = a') (h3 : l = l') (h4 : h = h') (h5 : m = m') : yeJ o a l h m k = yeJ o a' l' h' m' k:=by rw [h2,h3,h4,h5]
@[congr] theorem yvM {o n : Nat} {s : St} {a a' b b' : AV} {k : AV → Prop} (h2 : a = a') (h3 : b = b') : yhi o n s a b k = yhi o n s a' b' k:=by rw [h2,h3]
@[congr] theorem ywr {s : St} {a a' : AV} {k : AV → Prop} (h2 : a = a') : yem s a k = yem s a' k:=by rw [h2]
@[congr] theorem yuo {a a' : AV} {k : AV → Prop} (h2 : a = a') : ye0 a k = ye0 a' k:=by rw [h2]
@[congr] theorem ywF {o n : Nat} {s : St} {d : Option Nat} {a a' b b' : AV} {k : St → Prop} (h2 : a = a') (h3 : b = b') : ye4 o n s d a b k = ye4 o n s d a' b' k:=by rw [h2,h3]
@[congr] theorem yyg {f : Int → Int → Int} {a a' : List AV} {k : AV → Prop} (h2 : a = a') : mmP f a k = mmP f a' k:=by rw [h2]
@[congr] theorem yvR {o : Nat} {a a' : AV} {k : AV → Prop} (h2 : a = a') : yia o a k = yia o a' k:=by rw [h2]
@[congr] theorem yv0 {a a' b b' : AV} {k : AV → Prop} (h2 : a = a') (h3 : b = b') : yji a b k = yji a' b' k:=by rw [h2,h3]
@[congr] theorem ysr {f f' : AV} {l l' : List AV} {d : Option Nat} {s : St} {K : St → Prop} (h : f = f') (h2 : l = l') : yfc P f l d s K = yfc P f' l' d s K:=by rw [h,h2]
@[congr] theorem yyb {o : Nat} {s : St} {d : Option Nat} {a a' b b' : AV} {k : St → Prop} (h2 : a = a') (h3 : b = b') : cpP o s d a b k = cpP o s d a' b' k:=by rw [h2,h3]
@[congr] theorem ywd {a a' : AV} {k : AV → Prop} (h2 : a = a') : yj5 a k = yj5 a' k:=by rw [h2]
@[congr] theorem ywT {a a' : AV} {k : AV → Prop} (h2 : a = a') : yhA a k = yhA a' k:=by rw [h2]
@[congr] theorem yvf {o : Bool} {a a' b b' : AV} {k : AV → Prop} (h2 : a = a') (h3 : b = b') : yig o a b k = yig o a' b' k:=by rw [h2,h3]
@[congr] theorem yuX {a a' b b' : AV} {k : AV → Prop} (h2 : a = a') (h3 : b = b') : yfu a b k = yfu a' b' k:=by rw [h2,h3]
@[congr] theorem yv2 {a a' : AV} {l l' h h' : Option AV} {k : AV → Prop} (h2 : a = a') (h3 : l = l') (h4 : h = h') : yho a l h k = yho a' l' h' k:=by rw [h2,h3,h4]
@[congr] theorem yvU {o : BinOp} {a a' b b' : AV} {k : AV → Prop} (h2 : a = a') (h3 : b = b') : yfl o a b k = yfl o a' b' k:=by rw [h2,h3]
@[congr] theorem yuw {o : BinOp} {a a' b b' : AV} {k : AV → Prop} (h2 : a = a') (h3 : b = b') : ycc o a b k = ycc o a' b' k:=by rw [h2,h3]
@[congr] theorem ysV {o : BinOp} {a a' b b' : AV} {k : AV → Prop} (h2 : a = a') (h3 : b = b') : yeN o a b k = yeN o a' b' k:=by rw [h2,h3]
@[congr] theorem yvs {o : Nat} {s : St} {a a' : AV} {k : AV → Prop} (h2 : a = a') : ybX o s a k = ybX o s a' k:=by rw [h2]
@[congr] theorem ysz {a a' : AV} {v : Bool} {A B : Prop} (h : a = a') : yby a v A B = yby a' v A B:=by rw [h]
@[congr] theorem ys6 {a a' : AV} {A B : Prop} (h : a = a') : yf2 a A B = yf2 a' A B:=by rw [h]
@[simp ↓] theorem yz1 {s : St} {Q : Ex → St → Prop} : wpS P N .skip s Q = Q .normal s:=rfl
@[simp ↓] theorem wpS_reg {l : List Ins} {s : St} {Q : Ex → St → Prop} : wpS P N (.reg l) s Q = wpI P l s (Q .normal):=rfl
@[simp ↓] theorem yzh {l : List Ins} {s : St} {Q : Ex → St → Prop} : wpS P N (.regq l) s Q = wpQ P l s (Q .normal):=rfl
@[simp ↓] theorem yzT {l : List RIns} {s : St} {Q : Ex → St → Prop} : wpS P N (.rege l) s Q = wpE P 0 l [] s (Q .normal):=rfl
@[simp ↓] theorem wpS_seq {a b : SC} {s : St} {Q : Ex → St → Prop} : wpS P N (.seq a b) s Q = wpS P N a s (Ex.then (fun _ s'=>wpS P N b s' Q) Q):=rfl
@[simp ↓] theorem wpS_cond {x : X} {a b : SC} {s : St} {Q : Ex → St → Prop} : wpS P N (.cond x a b) s Q = yf2 (s.ev x) (wpS P N a s Q) (wpS P N b s Q):=rfl
@[simp ↓] theorem yw3 {n : Nat} {c : SC} {s : St} {Q : Ex → St → Prop} : wpS P N (.block n c) s Q = wpS P N c s (Ex.inBlock n Q):=rfl
@[simp ↓] theorem yz4 {c : SC} {s : St} {Q : Ex → St → Prop} : wpS P N (.loop c) s Q = loopT P N c s Q ⟨⟩:=rfl
@[simp ↓] theorem yzO {n : Nat} {s : St} {Q : Ex → St → Prop} : wpS P N (.exit n) s Q = Q (.exit n) s:=rfl
@[simp ↓] theorem wpS_ret {s : St} {Q : Ex → St → Prop} : wpS P N .ret s Q = Q .ret s:=rfl
@[simp ↓] theorem yr7 {Q Q' : Ex → St → Prop} {s : St} : Ex.then Q Q' .normal s = Q .normal s:=rfl
@[simp ↓] theorem yvF {Q Q' : Ex → St → Prop} {n : Nat} {s : St} : Ex.then Q Q' (.exit n) s = Q' (.exit n) s:=rfl
@[simp ↓] theorem yzD {Q Q' : Ex → St → Prop} {s : St} : Ex.then Q Q' .ret s = Q' .ret s:=rfl
@[simp ↓] theorem yo6 {Q : Ex → St → Prop} {n : Nat} {s : St} : Ex.inBlock n Q .normal s = Q .normal s:=rfl
@[simp ↓] theorem yr0 {Q : Ex → St → Prop} {n : Nat} {s : St} : Ex.inBlock n Q .ret s = Q .ret s:=rfl
@[simp ↓] theorem yqY {Q : Ex → St → Prop} {n m : Nat} {s : St} : Ex.inBlock n Q (.exit m) s = if m = n then Q .normal s else Q (.exit m) s:=rfl
@[simp ↓] theorem wpI_nil {s : St} {K : St → Prop} : wpI P [] s K = K s:=rfl
@[simp ↓] theorem yyN {d : Option Nat} {op : IOp} {l : List Ins} {s : St} {K : St → Prop} : wpI P (⟨none,d,op⟩ :: l) s K = yA P d op s fun s'=>wpI P l s' K:=rfl
def ybj (x : AV) (t : Nat) (want : Bool) (s : St) (A B : St → Prop) : Prop :=
 match x with
 | .c (.b v)=>(v = want → A (s.put (some t) (.c (.b want)))) ∧ (v = (!want) → B (s.put (some t) (.c (.b (!want)))))
 | .und=>B s
 | _=>False
theorem yg7 {s : St} {t : Nat} {v : AV} (h : s.env t = v) : s.put (some t) v = s:=by
 obtain ⟨env,objs⟩:=s
 simp only [St.put]
 congr 1
 funext n
 unfold upd
 split
 ·rename_i e; subst e; exact h.symm
 ·rfl
theorem yhz {t : Nat} {want : Bool} {s : St} {A B : St → Prop} : yby (s.env t) want (A s) (B s) = ybj (s.env t) t want s A B:=by
 unfold yby ybj
 cases h : s.env t with
 | c x=>cases x with
  | b v =>
   apply propext
   constructor
   ·rintro ⟨h1,h2⟩
    exact ⟨fun e=>by rw [yg7 (by rw [h,e])]; exact h1 e,fun e=>by rw [yg7 (by rw [h,e])]; exact h2 e⟩
   ·rintro ⟨h1,h2⟩
    refine ⟨fun e=>?_,fun e=>?_⟩
    ·have:=h1 e; rwa [yg7 (by rw [h,e])] at this
    ·have:=h2 e; rwa [yg7 (by rw [h,e])] at this
  | _=>rfl
 | _=>rfl
@[congr] theorem yrS {a a' : AV} {t : Nat} {v : Bool} {s : St} {A B : St → Prop} (h : a = a') : ybj a t v s A B = ybj a' t v s A B:=by rw [h]
@[simp] theorem yz2 {t : Nat} {v want : Bool} {s : St} {A B : St → Prop} : ybj (.c (.b v)) t want s A B = ((v = want → A (s.put (some t) (.c (.b want)))) ∧ (v = (!want) → B (s.put (some t) (.c (.b (!want)))))):=rfl
@[simp high] theorem yvh {t : Nat} {s : St} {A B : St → Prop} : ybj (.c (.b true)) t true s A B = A (s.put (some t) (.c (.b true))):=by simp [ybj]
@[simp high] theorem yxs {t : Nat} {s : St} {A B : St → Prop} : ybj (.c (.b true)) t false s A B = B (s.put (some t) (.c (.b true))):=by simp [ybj]
@[simp high] theorem ywM {t : Nat} {s : St} {A B : St → Prop} : ybj (.c (.b false)) t true s A B = B (s.put (some t) (.c (.b false))):=by simp [ybj]
@[simp high] theorem yvm {t : Nat} {s : St} {A B : St → Prop} : ybj (.c (.b false)) t false s A B = A (s.put (some t) (.c (.b false))):=by simp [ybj]
@[simp] theorem yth {t : Nat} {want : Bool} {s : St} {A B : St → Prop} : ybj .und t want s A B = B s:=rfl
@[simp ↓] theorem ywl {t : Nat} {v : Bool} {d : Option Nat} {op : IOp} {l : List Ins} {s : St} {K : St → Prop} :
 wpI P (⟨some (t,v),d,op⟩ :: l) s K = ybj (s.env t) t v s (fun s=>yA P d op s fun s'=>wpI P l s' K) (fun s=>wpI P l (s.put d .und) K) :=
 yhz (A:=fun s=>yA P d op s fun s'=>wpI P l s' K) (B:=fun s=>wpI P l (s.put d .und) K)
@[simp ↓] theorem wpQ_nil {s : St} {K : St → Prop} : wpQ P [] s K = K s:=rfl
@[simp ↓] theorem yzL {d : Option Nat} {op : IOp} {l : List Ins} {s : St} {K : St → Prop} : wpQ P (⟨none,d,op⟩ :: l) s K = yY P op s.ev s.objs fun v=>wpQ P l (s.put d v) K:=rfl
@[simp ↓] theorem yvl {t : Nat} {v : Bool} {d : Option Nat} {op : IOp} {l : List Ins} {s : St} {K : St → Prop} :
 wpQ P (⟨some (t,v),d,op⟩ :: l) s K = ybj (s.env t) t v s (fun s=>yY P op s.ev s.objs fun v=>wpQ P l (s.put d v) K) (fun s=>wpQ P l (s.put d .und) K):=by
 have e : wpQ P (⟨some (t,v),d,op⟩ :: l) s K = yby (s.env t) v (yY P op s.ev s.objs fun v=>wpQ P l (s.put d v) K) (wpQ P l (s.put d .und) K):=rfl
 rw [e]
 exact yhz (A:=fun s=>yY P op s.ev s.objs fun v=>wpQ P l (s.put d v) K) (B:=fun s=>wpQ P l (s.put d .und) K)
@[simp ↓] theorem wpE_nil {n : Nat} {h : List (Nat × Lab)} {s : St} {K : St → Prop} : wpE P n [] h s K = K s:=by simp only [wpE]
@[simp] theorem yvg {a0} : (IOp.mv a0).yE = false:=rfl
@[simp] theorem yua {a0} : (IOp.neg a0).yE = false:=rfl
@[simp] theorem yuG {a0} : (IOp.isn a0).yE = false:=rfl
@[simp] theorem yuK {a0 a1} : (IOp.fld a0 a1).yE = false:=rfl
@[simp] theorem yuZ {a0} : (IOp.ld1 a0).yE = false:=rfl
@[simp] theorem ys9 {a0 a1} : (IOp.ldn a0 a1).yE = false:=rfl
@[simp] theorem ytn {a0 a1} : (IOp.ext a0 a1).yE = false:=rfl
@[simp] theorem yuI {a0} : (IOp.len a0).yE = false:=rfl
@[simp] theorem yss {a0} : (IOp.slen a0).yE = false:=rfl
@[simp] theorem ytc {a0} : (IOp.nck a0).yE = false:=rfl
@[simp] theorem yuJ {a0} : (IOp.cap a0).yE = false:=rfl
@[simp] theorem ysJ {a0 a1} : (IOp.cvt a0 a1).yE = false:=rfl
@[simp] theorem ytm {a0 a1 a2} : (IOp.seq a0 a1 a2).yE = false:=rfl
@[simp] theorem ysk {a0 a1} : (IOp.scat a0 a1).yE = false:=rfl
@[simp] theorem yuP {a0 a1 a2} : (IOp.bit a0 a1 a2).yE = false:=rfl
@[simp] theorem yr4 {a0 a1 a2} : (IOp.binu a0 a1 a2).yE = false:=rfl
@[simp] theorem yse {a0 a1 a2} : (IOp.binw a0 a1 a2).yE = false:=rfl
@[simp] theorem ysR {a0 a1 a2} : (IOp.bin a0 a1 a2).yE = false:=rfl
@[simp] theorem yuY {a0 a1 a2} : (IOp.beq a0 a1 a2).yE = false:=rfl
@[simp] theorem ysZ {a0 a1} : (IOp.ixs a0 a1).yE = false:=rfl
@[simp] theorem ytr {a0 a1 a2} : (IOp.idx a0 a1 a2).yE = false:=rfl
@[simp] theorem ytH {a0 a1 a2 a3} : (IOp.ida a0 a1 a2 a3).yE = false:=rfl
@[simp] theorem ytp {a0 a1 a2 a3} : (IOp.sla a0 a1 a2 a3).yE = false:=rfl
@[simp] theorem ysB {a0 a1 a2} : (IOp.pick a0 a1 a2).yE = false:=rfl
@[simp] theorem yty {a0 a1 a2} : (IOp.sls a0 a1 a2).yE = false:=rfl
@[simp] theorem yuU {a0 a1 a2 a3 a4} : (IOp.slc a0 a1 a2 a3 a4).yE = false:=rfl
@[simp] theorem ywL {a0} : (IOp.mn a0).yE = false:=rfl
@[simp] theorem yu6 {a0} : (IOp.mx a0).yE = false:=rfl
@[simp] theorem yt9 {a0 a1} : (IOp.mkf a0 a1).yE = false:=rfl
@[simp] theorem ytD {a0 a1} : (IOp.bld a0 a1).yE = false:=rfl
@[simp] theorem yue {a0} : (IOp.not a0).yE = false:=rfl
theorem ypK {i : Ins} {s : St} {kN : St → Prop} (h : i.op.yE = false) : mkE P i s kN = False:=by
 obtain ⟨g,d,op⟩:=i
 unfold mkE
 split
 ·rename_i e; simp only at e h; rw [e] at h; cases h
 ·rfl
theorem mkE_g {p : Nat × Bool} {d : Option Nat} {op : IOp} {s : St} {kN : St → Prop} : mkE P ⟨some p,d,op⟩ s kN = False:=rfl
def ymD (P : Program) (f : Nat) (xs : List AV) (d : Option Nat) (s : St) (k : AV → Prop) (kN : St → Prop) (_ : Tag (k,kN)) : Prop :=
 ykF P f xs s.objs k ∨ match d with
  | some d=>∃ args res,yjK P f args res ∧ ybq s xs args ∧ (res.closed ∨ xs.all AV.ycN = true) ∧ yeA s (res.yas d) ∧ kN (s.take d res)
  | none=>False
theorem yH {f : Nat} {d : Option Nat} {xs args : List AV} {res : AV} {s : St} {k : AV → Prop} {kN : St → Prop} {T : Tag (k,kN)} (hp : yR P f args res) (ho : ybq s xs args) (hc : xs.all AV.ycN = true ∨ res.scalar = true) (hK : k res) : ymD P f xs d s k kN T :=
 .inl ⟨args,res,hp,by rw [ybC]; exact ho,hc,hK⟩
@[simp ↓] theorem wpE_q {n : Nat} {h : List (Nat × Lab)} {d : Option Nat} {op : IOp} {l : List RIns} {s : St} {K : St → Prop} (ho : op.yE = false) : wpE P n (⟨0,false,[],⟨none,d,op⟩⟩ :: l) h s K = yY P op s.ev s.objs fun v=>wpE P (n + 1) l h (s.put d v) K:=by
 have e : wpE P n (⟨0,false,[],⟨none,d,op⟩⟩ :: l) h s K = ((yY P op s.ev s.objs fun v=>true = true ∧ wpE P (n + 1) l h (s.put d v) K) ∨ mkE P ⟨none,d,op⟩ s fun s'=>true = true ∧ wpE P (n + 1) l h s' K):=by rw [wpE]; first | done | rfl
 rw [e,ypK ho]; simp only [true_and,or_false]
@[simp ↓ low] theorem wpE_qn {n : Nat} {nt : Bool} {chk : List Nat} {h : List (Nat × Lab)} {d : Option Nat} {op : IOp} {l : List RIns} {s : St} {K : St → Prop} (ho : op.yE = false) : wpE P n (⟨0,nt,chk,⟨none,d,op⟩⟩ :: l) h s K =
 yY P op s.ev s.objs fun v=>ycr chk h (yb9 ⟨none,d,op⟩ s v) = true ∧ wpE P (n + 1) l (yaV nt n (yb9 ⟨none,d,op⟩ s v) h) (s.put d v) K:=by
 have e : wpE P n (⟨0,nt,chk,⟨none,d,op⟩⟩ :: l) h s K = ((yY P op s.ev s.objs fun v=>ycr chk h (yb9 ⟨none,d,op⟩ s v) = true ∧ wpE P (n + 1) l (yaV nt n (yb9 ⟨none,d,op⟩ s v) h) (s.put d v) K) ∨ mkE P ⟨none,d,op⟩ s fun s'=>ycr chk h ([],true) = true ∧ wpE P (n + 1) l (yaV nt n ([],true) h) s' K):=by rw [wpE]; first | done | rfl
 rw [e,ypK ho,or_false]
@[simp ↓] theorem wpE_qc {n f : Nat} {h : List (Nat × Lab)} {d : Option Nat} {xs : List X} {l : List RIns} {s : St} {K : St → Prop} : wpE P n (⟨0,false,[],⟨none,d,.call f xs⟩⟩ :: l) h s K =
 ymD P f (xs.map s.ev) d s (fun v=>wpE P (n + 1) l h (s.put d v) K) (fun s'=>wpE P (n + 1) l h s' K) ⟨⟩:=by
 have e : wpE P n (⟨0,false,[],⟨none,d,.call f xs⟩⟩ :: l) h s K = ((ykF P f (xs.map s.ev) s.objs fun v=>true = true ∧ wpE P (n + 1) l h (s.put d v) K) ∨ mkE P ⟨none,d,.call f xs⟩ s fun s'=>true = true ∧ wpE P (n + 1) l h s' K):=by rw [wpE]; first | done | rfl
 rw [e]
 cases d <;> (unfold ymD mkE; simp only [true_and])
@[simp ↓] theorem wpE_qg {n : Nat} {nt : Bool} {chk : List Nat} {h : List (Nat × Lab)} {t : Nat} {b : Bool} {d : Option Nat} {op : IOp} {l : List RIns} {s : St} {K : St → Prop} : wpE P n (⟨0,nt,chk,⟨some (t,b),d,op⟩⟩ :: l) h s K =
 ybj (s.env t) t b s (fun s=>yY P op s.ev s.objs fun v=>ycr chk h (yb9 ⟨some (t,b),d,op⟩ s v) = true ∧ wpE P (n + 1) l (yaV nt n (yb9 ⟨some (t,b),d,op⟩ s v) h) (s.put d v) K)
  (fun s=>ycr chk h (yb9 ⟨some (t,b),d,op⟩ s .und) = true ∧ wpE P (n + 1) l (yaV nt n (yb9 ⟨some (t,b),d,op⟩ s .und) h) (s.put d .und) K):=by
 have e : wpE P n (⟨0,nt,chk,⟨some (t,b),d,op⟩⟩ :: l) h s K = (yby (s.env t) b (yY P op s.ev s.objs fun v=>ycr chk h (yb9 ⟨some (t,b),d,op⟩ s v) = true ∧ wpE P (n + 1) l (yaV nt n (yb9 ⟨some (t,b),d,op⟩ s v) h) (s.put d v) K)
  (ycr chk h (yb9 ⟨some (t,b),d,op⟩ s .und) = true ∧ wpE P (n + 1) l (yaV nt n (yb9 ⟨some (t,b),d,op⟩ s .und) h) (s.put d .und) K) ∨ mkE P ⟨some (t,b),d,op⟩ s fun s'=>ycr chk h ([],true) = true ∧ wpE P (n + 1) l (yaV nt n ([],true) h) s' K):=by rw [wpE]; first | done | rfl
 rw [e,mkE_g,or_false]
 exact yhz (A:=fun s=>yY P op s.ev s.objs fun v=>ycr chk h (yb9 ⟨some (t,b),d,op⟩ s v) = true ∧ wpE P (n + 1) l (yaV nt n (yb9 ⟨some (t,b),d,op⟩ s v) h) (s.put d v) K)
  (B:=fun s=>ycr chk h (yb9 ⟨some (t,b),d,op⟩ s .und) = true ∧ wpE P (n + 1) l (yaV nt n (yb9 ⟨some (t,b),d,op⟩ s .und) h) (s.put d .und) K)
@[simp ↓] theorem wpE_m {n : Nat} {nt : Bool} {chk : List Nat} {h : List (Nat × Lab)} {i : Ins} {l : List RIns} {s : St} {K : St → Prop} : wpE P n (⟨1,nt,chk,i⟩ :: l) h s K =
 (ycr chk h (yo5 i) = true ∧ ycG P i.d i.op s fun s'=>wpE P (n + 1) l (yaV nt n (yo5 i) h) s' K):=by rw [wpE]; first | done | rfl
@[simp ↓] theorem wpE_e {n : Nat} {nt : Bool} {chk : List Nat} {h : List (Nat × Lab)} {g : Option (Nat × Bool)} {d : Option Nat} {op : IOp} {l : List RIns} {s : St} {K : St → Prop} (ho : op.yE = false) : wpE P n (⟨2,nt,chk,⟨g,d,op⟩⟩ :: l) h s K =
 (ycr chk h (ylu ⟨g,d,op⟩ s) = true ∧ yA P d op s fun s'=>wpE P (n + 1) l (yaV nt n (ylu ⟨g,d,op⟩ s) h) s' K):=by
 have e : wpE P n (⟨2,nt,chk,⟨g,d,op⟩⟩ :: l) h s K = if op.yE then ynI P ⟨g,d,op⟩ s fun lab s'=>ycr chk h lab = true ∧ wpE P (n + 1) l (yaV nt n lab h) s' K
  else ycr chk h (ylu ⟨g,d,op⟩ s) = true ∧ yA P d op s fun s'=>wpE P (n + 1) l (yaV nt n (ylu ⟨g,d,op⟩ s) h) s' K:=by rw [wpE]; first | done | rfl
 rw [e,if_neg (by simp [ho])]
@[simp] theorem ytv {a0 a1} : (IOp.st1 a0 a1).yE = false:=rfl
@[simp] theorem ytA {a0 a1 a2} : (IOp.stn a0 a1 a2).yE = false:=rfl
@[simp] theorem yuh {a0 a1 a2 a3} : (IOp.app a0 a1 a2 a3).yE = false:=rfl
@[simp] theorem yxi {a0 a1 a2} : (IOp.cp a0 a1 a2).yE = false:=rfl
@[simp] theorem yt1 {a0 a1} : (IOp.bsl a0 a1).yE = false:=rfl
def turnT (P : Program) (f : Nat) (d : Option Nat) (xs : List X) (s : St) (K : Lab → St → Prop) (_ : Tag K) : Prop:=ynI P ⟨none,d,.call f xs⟩ s K
@[simp ↓] theorem wpE_t {n f : Nat} {nt : Bool} {chk : List Nat} {h : List (Nat × Lab)} {d : Option Nat} {xs : List X} {l : List RIns} {s : St} {K : St → Prop} : wpE P n (⟨2,nt,chk,⟨none,d,.call f xs⟩⟩ :: l) h s K =
 turnT P f d xs s (fun lab s'=>ycr chk h lab = true ∧ wpE P (n + 1) l (yaV nt n lab h) s' K) ⟨⟩:=by
 have e : wpE P n (⟨2,nt,chk,⟨none,d,.call f xs⟩⟩ :: l) h s K = if (IOp.call f xs).yE then ynI P ⟨none,d,.call f xs⟩ s fun lab s'=>ycr chk h lab = true ∧ wpE P (n + 1) l (yaV nt n lab h) s' K
  else ycr chk h (ylu ⟨none,d,.call f xs⟩ s) = true ∧ yA P d (.call f xs) s fun s'=>wpE P (n + 1) l (yaV nt n (ylu ⟨none,d,.call f xs⟩ s) h) s' K:=by rw [wpE]; first | done | rfl
 rw [e,if_pos (show (IOp.call f xs).yE = true from rfl)]; rfl
@[congr] theorem yuE {d : Option Nat} {op op' : IOp} {s : St} {K : St → Prop} (h : op = op') : ycG P d op s K = ycG P d op' s K:=by rw [h]
@[congr] theorem yxo {k : Nat} {xs xs' : List AV} {s : St} {d : Option Nat} {K : St → Prop} (h : xs = xs') : yll k xs s d K = yll k xs' s d K:=by rw [h]
@[congr] theorem ysc {f f' : AV} {l l' : List AV} {ob : Nat → Obj} {k : AV → Prop} (h : f = f') (h2 : l = l') : yef P f l ob k = yef P f' l' ob k:=by rw [h,h2]
@[simp ↓] theorem ysf {d : Option Nat} {s : St} {K : St → Prop} {zs : List AV} : ycG P d (.alloc zs) s K = newP s d (.box zs) (fun d=>.box d 0) K:=rfl
@[simp ↓] theorem yrs {d : Option Nat} {s : St} {K : St → Prop} {n m : Nat} {z : List C} : ycG P d (.alloca n m z) s K = newP s d (.row n (List.replicate m z)) (fun d=>.row d n 0 0) K:=rfl
@[simp ↓] theorem ywh {d : Option Nat} {s : St} {K : St → Prop} {n b : Nat} {z : List C} {l c : X} : ycG P d (.mks n b z l c) s K = ylq n b z s d (s.ev l) (s.ev c) K:=rfl
@[simp ↓] theorem ywq {d : Option Nat} {s : St} {K : St → Prop} {n : Nat} {xs : List X} : ycG P d (.bsl n xs) s K = yll n (xs.map s.ev) s d K:=rfl
def ypw (k : Nat) (s : St) (d : Option Nat) (K : St → Prop) : Option (List (List C)) → Prop
 | some rows=>(∀ r ∈ rows,r.length = k) ∧ newP s d (.row k rows) (fun d=>.own d k rows.length) K
 | none=>False
@[congr] theorem ywZ {k : Nat} {s : St} {d : Option Nat} {K : St → Prop} {o o' : Option (List (List C))} (h : o = o') : ypw k s d K o = ypw k s d K o':=by rw [h]
@[simp] theorem bslF_eq {k : Nat} {xs : List AV} {s : St} {d : Option Nat} {K : St → Prop} : yll k xs s d K = ypw k s d K (AV.rowsOf xs):=by
 unfold yll ypw; cases AV.rowsOf xs <;> rfl
@[simp] theorem yw4 {k : Nat} {s : St} {d : Option Nat} {K : St → Prop} {rows : List (List C)} : ypw k s d K (some rows) = ((∀ r ∈ rows,r.length = k) ∧ newP s d (.row k rows) (fun d=>.own d k rows.length) K):=rfl
@[simp ↓] theorem ywR {f : Nat} {l xs : List AV} {ob : Nat → Obj} {k : AV → Prop} : yef P (.fn f l) xs ob k = ((∃ fn,P.funcs[f]? = some fn ∧ fn.body.isSome = true ∧ (fn.name != "runtime.NumGoroutine") = true) ∧ yqk P f (xs ++ l) ob k ⟨⟩):=rfl
@[simp] theorem noteL_f {n : Nat} {lab : Lab} {h : List (Nat × Lab)} : yaV false n lab h = h:=rfl
@[simp] theorem noteL_t {n : Nat} {lab : Lab} {h : List (Nat × Lab)} : yaV true n lab h = (n,lab) :: h:=rfl
@[simp] theorem yyR {lab : Lab} {h : List (Nat × Lab)} : ycr [] h lab = true:=rfl
@[simp] theorem yxD {i : Nat} {l : List Nat} {lab : Lab} {h : List (Nat × Lab)} : ycr (i :: l) h lab = (yc6 (look ([],true) h i) lab && ycr l h lab):=rfl
@[simp] theorem yxc {a b : Lab} : yc6 a b = ((a.1.all fun i=>!b.1.contains i) && b.2):=rfl
@[simp] theorem labM_eq {g : Option (Nat × Bool)} {d : Nat} {op : IOp} : yo5 ⟨g,some d,op⟩ = ([2 * d,2 * d + 1],true):=rfl
@[simp] theorem yzm {i : Ins} {s : St} {v : AV} : yb9 i s v = ((if yiq i.op s then [] else lw ((i.op.xs.map s.ev).flatMap AV.ids)) ++ lk ((v :: i.op.xs.map s.ev).flatMap AV.ids),(v :: i.op.xs.map s.ev).all AV.cl):=rfl
@[simp] theorem labE_eq {i : Ins} {s : St} : ylu i s = (lw (wOf i.op s ++ i.d.toList) ++ lk (kOf i.op s ++ i.d.toList),true):=rfl
@[simp] theorem lw_nil : lw [] = []:=rfl
@[simp] theorem lw_cons {i : Nat} {l : List Nat} : lw (i :: l) = 2 * i :: lw l:=rfl
@[simp] theorem lw_app {l l' : List Nat} : lw (l ++ l') = lw l ++ lw l':=List.map_append
@[simp] theorem lk_nil : lk [] = []:=rfl
@[simp] theorem lk_cons {i : Nat} {l : List Nat} : lk (i :: l) = (2 * i + 1) :: lk l:=rfl
@[simp] theorem lk_app {l l' : List Nat} : lk (l ++ l') = lk l ++ lk l':=List.map_append
attribute [simp] yiq AV.yhN ymJ
@[simp] theorem kOf_st1 {s : St} {x v : X} : kOf (.st1 x v) s = if yhl s (s.ev x) then (s.ev v).ids else []:=rfl
@[simp] theorem kOf_stn {s : St} {n : Nat} {x v : X} : kOf (.stn n x v) s = if yhl s (s.ev x) then (s.ev v).ids else []:=rfl
@[simp] theorem kOf_cp {s : St} {k : Nat} {x v : X} : kOf (.cp k x v) s = []:=rfl
@[simp] theorem kOf_app {s : St} {k b : Nat} {x y : X} : kOf (.app k b x y) s = ymJ (s.ev x) (wOf (.app k b x y) s):=rfl
@[simp] theorem kOf_bsl {s : St} {k : Nat} {xs : List X} : kOf (.bsl k xs) s = wOf (.bsl k xs) s:=rfl
def yno (y : AV) : Option (List (List C)) → List Nat
 | some _=>[]
 | none=>y.ids
@[simp] theorem ysm {y : AV} {r : List (List C)} : yno y (some r) = []:=rfl
@[simp] theorem yrT {y : AV} : yno y none = y.ids:=rfl
@[simp] theorem wOf_app {s : St} {k b : Nat} {x y : X} : wOf (.app k b x y) s = (s.ev x).ids ++ yno (s.ev y) (yT s k (s.ev y)):=by
 simp only [wOf]; cases yT s k (s.ev y) <;> rfl
@[simp] theorem wOf_st1 {s : St} {x v : X} : wOf (.st1 x v) s = (s.ev x).ids ++ (if yhl s (s.ev x) then (s.ev v).ids else []):=rfl
@[simp] theorem wOf_stn {s : St} {n : Nat} {x v : X} : wOf (.stn n x v) s = (s.ev x).ids ++ (if yhl s (s.ev x) then (s.ev v).ids else []):=rfl
@[simp] theorem wOf_cp {s : St} {k : Nat} {x v : X} : wOf (.cp k x v) s = (s.ev x).ids:=rfl
def ypV (k n id k' : Nat) (j h : Int) (K : AV → Prop) : Obj → Prop
 | .row _ rows=>k' = k ∧ j = 0 ∧ 0 ≤ h ∧ h ≤ rows.length ∧ rows.length = n ∧ K (.own id k h.toNat)
 | _=>False
@[congr] theorem ywE {k n id k' : Nat} {j h : Int} {K : AV → Prop} {o o' : Obj} (e : o = o') : ypV k n id k' j h K o = ypV k n id k' j h K o':=by rw [e]
@[simp] theorem yzx {k n : Nat} {s : St} {id k' : Nat} {j h : Int} {K : AV → Prop} : yhi k n s (.row id k' j 0) (.c (.i h)) K = ypV k n id k' j h K (s.ob id):=by
 simp only [yhi,ypV]; cases s.ob id <;> rfl
@[simp] theorem yym {k n id k' q : Nat} {j h : Int} {K : AV → Prop} {rows : List (List C)} : ypV k n id k' j h K (.row q rows) = (k' = k ∧ j = 0 ∧ 0 ≤ h ∧ h ≤ rows.length ∧ rows.length = n ∧ K (.own id k h.toNat)):=rfl
@[simp] theorem yxN {s : St} {id k o : Nat} {i : Int} : yhl s (.row id k i o) = (s.ob id).tree:=rfl
@[simp] theorem yzW {s : St} {id o : Nat} : yhl s (.box id o) = false:=rfl
@[simp] theorem yvd {s : St} {id ver : Nat} {i : Int} {j k : Nat} {i' : Int} {o : Nat} : yhl s (.ya4 id ver i j k i' o) = false:=rfl
@[simp] theorem yAe {k : Nat} {r : List (List C)} : (Obj.row k r).tree = false:=rfl
@[simp] theorem tree_tr {k v : Nat} {r : List (List C)} : (Obj.tr k v r).tree = true:=rfl
attribute [simp] IOp.xs
@[simp] theorem ids_any : AV.any.ids = []:=rfl
@[simp] theorem ids_und : AV.und.ids = []:=rfl
@[simp] theorem ids_c {x : C} : (AV.c x).ids = []:=rfl
@[simp] theorem ids_nil {k : Nat} : (AV.nil k).ids = []:=rfl
@[simp] theorem yAI {k : Nat} {r : List (List C)} : (AV.clip k r).ids = []:=rfl
@[simp] theorem ids_elt {r : List C} : (AV.elt r).ids = []:=rfl
@[simp] theorem ids_box {i o : Nat} : (AV.box i o).ids = [i]:=rfl
@[simp] theorem ids_row {i k o : Nat} {j : Int} : (AV.row i k j o).ids = [i]:=rfl
@[simp] theorem ids_own {i k n : Nat} : (AV.own i k n).ids = [i]:=rfl
@[simp] theorem ids_cut {i k l n : Nat} : (AV.cut i k l n).ids = [i]:=rfl
@[simp] theorem ids_sub {i ver : Nat} {n : Int} {j k m : Nat} : (AV.sub i ver n j k m).ids = [i]:=rfl
@[simp] theorem yyG {i ver : Nat} {n : Int} {j k : Nat} {m : Int} {o : Nat} : (AV.ya4 i ver n j k m o).ids = [i]:=rfl
@[simp] theorem ids_agg {l : List AV} : (AV.agg l).ids = l.flatMap AV.yau:=rfl
@[simp] theorem ids_fn {f : Nat} {l : List AV} : (AV.fn f l).ids = l.flatMap AV.yau:=rfl
@[simp] theorem ids_tup {l : List AV} : (AV.tup l).ids = l.flatMap AV.yaW:=rfl
@[simp] theorem yzz {l : List C} : (l.map AV.c).flatMap AV.yau = []:=by
 rw [List.flatMap_eq_nil_iff]; intro x hx; obtain ⟨c,_,rfl⟩:=List.mem_map.1 hx; rfl
attribute [simp] AV.yau AV.yan AV.yaW AV.cl AV.cl2 AV.cl1
@[simp] theorem cl1_map {l : List C} : (l.map AV.c).all AV.cl1 = true:=by
 rw [List.all_eq_true]; intro x hx; obtain ⟨c,_,rfl⟩:=List.mem_map.1 hx; rfl
@[simp] theorem yAN {b want : Bool} {A B : Prop} : yby (.c (.b b)) want A B = ((b = want → A) ∧ (b = (!want) → B)):=rfl
@[simp] theorem yuW {want : Bool} {A B : Prop} : yby .und want A B = B:=rfl
@[simp high] theorem condP_t {A B : Prop} : yf2 (.c (.b true)) A B = A:=by simp [yf2]
@[simp high] theorem condP_f {A B : Prop} : yf2 (.c (.b false)) A B = B:=by simp [yf2]
@[simp] theorem condP_b {b : Bool} {A B : Prop} : yf2 (.c (.b b)) A B = ((b = true → A) ∧ (b = false → B)):=rfl
section
variable {d : Option Nat} {s : St} {K : St → Prop} {ev : X → AV} {ob : Nat → Obj} {k : AV → Prop}
@[simp ↓] theorem step_mv {x : X} : yA P d (.mv x) s K = K (s.put d (s.ev x)):=rfl
@[simp ↓] theorem yxd {a b c : X} : yA P d (.pick a b c) s K = ydc (s.ev a) (s.ev b) (s.ev c) fun v=>K (s.put d v):=rfl
@[simp ↓] theorem yAd {o : BinOp} {a b : X} : yA P d (.bin o a b) s K = yi4 o (s.ev a) (s.ev b) fun v=>K (s.put d v):=rfl
@[simp ↓] theorem yyI {o : Bool} {a b : X} : yA P d (.beq o a b) s K = yh7 o (s.ev a) (s.ev b) fun v=>K (s.put d v):=rfl
@[simp ↓] theorem yAm {a : X} : yA P d (.isn a) s K = ylc (s.ev a) fun v=>K (s.put d v):=rfl
@[simp ↓] theorem yxV {a : X} : yA P d (.not a) s K = notP (s.ev a) fun v=>K (s.put d v):=rfl
@[simp ↓] theorem yAC {a : X} : yA P d (.neg a) s K = yi7 (s.ev a) fun v=>K (s.put d v):=rfl
@[simp ↓] theorem yxL {n : Nat} {a b : X} : yA P d (.idx n a b) s K = yeX n s (s.ev a) (s.ev b) fun v=>K (s.put d v):=rfl
@[simp ↓] theorem yzR {m n : Nat} {a b : X} : yA P d (.ida m n a b) s K = yiu m n (s.ev a) (s.ev b) fun v=>K (s.put d v):=rfl
@[simp ↓] theorem yzX {n : Nat} {a : X} : yA P d (.fld n a) s K = yfz n s (s.ev a) fun v=>K (s.put d v):=rfl
@[simp ↓] theorem yzj {a : X} : yA P d (.ld1 a) s K = yeI s (s.ev a) fun v=>K (s.put d v):=rfl
@[simp ↓] theorem yyL {n : Nat} {a : X} : yA P d (.ldn n a) s K = yeG n s (s.ev a) fun v=>K (s.put d v):=rfl
@[simp ↓] theorem yAF {a b : X} : yA P d (.st1 a b) s K = yeH s (s.ev a) (s.ev b) fun s'=>K (s'.put d .und):=rfl
@[simp ↓] theorem yzl {n : Nat} {a b : X} : yA P d (.stn n a b) s K = ygv n s (s.ev a) (s.ev b) fun s'=>K (s'.put d .und):=rfl
@[simp ↓] theorem yyD {n : Nat} {a : X} : yA P d (.box n a) s K = yoX n s d (s.ev a) K:=rfl
@[simp ↓] theorem ytu {zs : List AV} : yA P d (.alloc zs) s K = newP s d (.box zs) (fun d=>.box d 0) K:=rfl
@[simp ↓] theorem ysF {n m : Nat} {z : List C} : yA P d (.alloca n m z) s K = newP s d (.row n (List.replicate m z)) (fun d=>.row d n 0 0) K:=rfl
@[simp ↓] theorem yAz {n b : Nat} {z : List C} {l c : X} : yA P d (.mks n b z l c) s K = ylq n b z s d (s.ev l) (s.ev c) K:=rfl
@[simp ↓] theorem yzG {n : Nat} {xs : List X} : yA P d (.bsl n xs) s K = yh5 n (xs.map s.ev) s d K:=rfl
@[simp ↓] theorem yy3 {zs : List AV} {ps : List (Nat × Nat × X)} : yA P d (.bld zs ps) s K = ycF s ps zs fun l=>K (s.put d (.agg l)):=rfl
@[simp ↓] theorem yyy {n : Nat} {x : X} {lo hi m : Option X} : yA P d (.slc n x lo hi m) s K = yeJ n (s.ev x) (lo.map s.ev) (hi.map s.ev) (m.map s.ev) fun v=>K (s.put d v):=rfl
@[simp ↓] theorem yyF {n m : Nat} {x h : X} : yA P d (.sla n m x h) s K = yhi n m s (s.ev x) (s.ev h) fun v=>K (s.put d v):=rfl
@[simp ↓] theorem yz5 {x : X} : yA P d (.len x) s K = yem s (s.ev x) fun v=>K (s.put d v):=rfl
@[simp ↓] theorem ywV {x : X} : yA P d (.slen x) s K = ye0 (s.ev x) fun v=>K (s.put d v):=rfl
@[simp ↓] theorem ywj {n b : Nat} {z : List C} {x y : X} : yA P d (.appz n b z x y) s K = yko n b z s d (s.ev x) (s.ev y) K:=rfl
@[congr] theorem yt7 {o n : Nat} {z : List C} {s : St} {d : Option Nat} {a a' b b' : AV} {k : St → Prop} (h2 : a = a') (h3 : b = b') : yko o n z s d a b k = yko o n z s d a' b' k:=by rw [h2,h3]
@[simp] theorem yyj {k b : Nat} {z : List C} {s : St} {d : Option Nat} {j : Nat} {m : Int} {K : St → Prop} : yko k b z s d (.nil j) (.c (.i m)) K = (0 ≤ m ∧ m.toNat * b ≤ 140737488355328 ∧ newP s d (.row k (List.replicate m.toNat z)) (fun d=>.own d k m.toNat) K):=rfl
@[simp ↓] theorem yz7 {n b : Nat} {x y : X} : yA P d (.app n b x y) s K = ye4 n b s d (s.ev x) (s.ev y) K:=rfl
@[simp ↓] theorem step_mn {xs : List X} : yA P d (.mn xs) s K = mmP (fun x y=>if y < x then y else x) (xs.map s.ev) fun v=>K (s.put d v):=rfl
@[simp ↓] theorem step_mx {xs : List X} : yA P d (.mx xs) s K = mmP (fun x y=>if x < y then y else x) (xs.map s.ev) fun v=>K (s.put d v):=rfl
@[simp ↓] theorem yz9 {n : Nat} {x : X} : yA P d (.ext n x) s K = yia n (s.ev x) fun v=>K (s.put d v):=rfl
@[simp ↓] theorem yxu {f : Nat} {xs : List X} : yA P d (.call f xs) s K = ysE P f (xs.map s.ev) d s K ⟨⟩:=rfl
@[simp ↓] theorem yx2 {x i : X} : yA P d (.ixs x i) s K = yji (s.ev x) (s.ev i) fun v=>K (s.put d v):=rfl
@[simp ↓] theorem ytE {f : X} {xs : List X} : yA P d (.callv f xs) s K = yfc P (s.ev f) (xs.map s.ev) d s K:=rfl
@[simp ↓] theorem step_cp {n : Nat} {a b : X} : yA P d (.cp n a b) s K = cpP n s d (s.ev a) (s.ev b) K:=rfl
@[simp ↓] theorem yxM {a : X} : yA P d (.cap a) s K = yj5 (s.ev a) fun v=>K (s.put d v):=rfl
@[simp ↓] theorem yxK {a : X} : yA P d (.nck a) s K = yhA (s.ev a) fun v=>K (s.put d v):=rfl
@[simp ↓] theorem step_seq {o : Bool} {a b : X} : yA P d (.seq o a b) s K = yig o (s.ev a) (s.ev b) fun v=>K (s.put d v):=rfl
@[simp ↓] theorem yvu {a b : X} : yA P d (.scat a b) s K = yfu (s.ev a) (s.ev b) fun v=>K (s.put d v):=rfl
@[simp ↓] theorem yxT {x : X} {lo hi : Option X} : yA P d (.sls x lo hi) s K = yho (s.ev x) (lo.map s.ev) (hi.map s.ev) fun v=>K (s.put d v):=rfl
@[simp ↓] theorem yyn {o : BinOp} {a b : X} : yA P d (.bit o a b) s K = yfl o (s.ev a) (s.ev b) fun v=>K (s.put d v):=rfl
@[simp ↓] theorem yu4 {o : BinOp} {a b : X} : yA P d (.binu o a b) s K = ycc o (s.ev a) (s.ev b) fun v=>K (s.put d v):=rfl
@[simp ↓] theorem yv8 {o : BinOp} {a b : X} : yA P d (.binw o a b) s K = yeN o (s.ev a) (s.ev b) fun v=>K (s.put d v):=rfl
@[simp ↓] theorem yxS {n : Nat} {a : X} : yA P d (.cvt n a) s K = ybX n s (s.ev a) fun v=>K (s.put d v):=rfl
@[simp ↓] theorem yyv {f : Nat} {xs : List X} : yA P d (.mkf f xs) s K = ((xs.map s.ev).all AV.yS = true ∧ K (s.put d (.fn f (xs.map s.ev)))):=rfl
@[simp ↓] theorem val_nck {a : X} : yY P (.nck a) ev ob k = yhA (ev a) k:=rfl
@[simp ↓] theorem yAJ {a : X} : yY P (.cvt 0 a) ev ob k = ybX 0 (ya9 ob) (ev a) k:=rfl
@[simp ↓] theorem yyz {a : X} : yY P (.cvt 1 a) ev ob k = ybX 1 (ya9 ob) (ev a) k:=rfl
@[simp ↓] theorem yzN {a : X} : yY P (.cvt 3 a) ev ob k = ybX 3 (ya9 ob) (ev a) k:=rfl
@[simp ↓] theorem val_seq {o : Bool} {a b : X} : yY P (.seq o a b) ev ob k = yig o (ev a) (ev b) k:=rfl
@[simp ↓] theorem yxZ {a b : X} : yY P (.scat a b) ev ob k = yfu (ev a) (ev b) k:=rfl
@[simp ↓] theorem val_sls {x : X} {lo hi : Option X} : yY P (.sls x lo hi) ev ob k = yho (ev x) (lo.map ev) (hi.map ev) k:=rfl
@[simp ↓] theorem val_bit {o : BinOp} {a b : X} : yY P (.bit o a b) ev ob k = yfl o (ev a) (ev b) k:=rfl
@[simp ↓] theorem yzA {o : BinOp} {a b : X} : yY P (.binu o a b) ev ob k = ycc o (ev a) (ev b) k:=rfl
@[simp ↓] theorem yzg {o : BinOp} {a b : X} : yY P (.binw o a b) ev ob k = yeN o (ev a) (ev b) k:=rfl
@[simp ↓] theorem val_mkf {f : Nat} {xs : List X} : yY P (.mkf f xs) ev ob k = ((xs.map ev).all AV.yS = true ∧ k (.fn f (xs.map ev))):=rfl
@[simp ↓] theorem val_mv {x : X} : yY P (.mv x) ev ob k = k (ev x):=rfl
@[simp ↓] theorem yyE {a b c : X} : yY P (.pick a b c) ev ob k = ydc (ev a) (ev b) (ev c) k:=rfl
@[simp ↓] theorem val_bin {o : BinOp} {a b : X} : yY P (.bin o a b) ev ob k = yi4 o (ev a) (ev b) k:=rfl
@[simp ↓] theorem val_beq {o : Bool} {a b : X} : yY P (.beq o a b) ev ob k = yh7 o (ev a) (ev b) k:=rfl
@[simp ↓] theorem val_not {a : X} : yY P (.not a) ev ob k = notP (ev a) k:=rfl
@[simp ↓] theorem val_neg {a : X} : yY P (.neg a) ev ob k = yi7 (ev a) k:=rfl
@[simp ↓] theorem val_idx {n : Nat} {a b : X} : yY P (.idx n a b) ev ob k = yeX n (ya9 ob) (ev a) (ev b) k:=rfl
@[simp ↓] theorem val_ida {m n : Nat} {a b : X} : yY P (.ida m n a b) ev ob k = yiu m n (ev a) (ev b) k:=rfl
@[simp ↓] theorem val_fld {n : Nat} {a : X} : yY P (.fld n a) ev ob k = yfz n (ya9 ob) (ev a) k:=rfl
@[simp ↓] theorem val_ld1 {a : X} : yY P (.ld1 a) ev ob k = yeI (ya9 ob) (ev a) k:=rfl
@[simp ↓] theorem val_ldn {n : Nat} {a : X} : yY P (.ldn n a) ev ob k = yeG n (ya9 ob) (ev a) k:=rfl
@[simp ↓] theorem val_slc {n : Nat} {x : X} {lo hi m : Option X} : yY P (.slc n x lo hi m) ev ob k = yeJ n (ev x) (lo.map ev) (hi.map ev) (m.map ev) k:=rfl
@[simp ↓] theorem val_sla {m n : Nat} {x h : X} : yY P (.sla m n x h) ev ob k = yhi m n (ya9 ob) (ev x) (ev h) k:=rfl
@[simp ↓] theorem val_len {x : X} : yY P (.len x) ev ob k = yem (ya9 ob) (ev x) k:=rfl
@[simp ↓] theorem yzK {x : X} : yY P (.slen x) ev ob k = ye0 (ev x) k:=rfl
@[simp ↓] theorem val_mn {xs : List X} : yY P (.mn xs) ev ob k = mmP (fun x y=>if y < x then y else x) (xs.map ev) k:=rfl
@[simp ↓] theorem val_mx {xs : List X} : yY P (.mx xs) ev ob k = mmP (fun x y=>if x < y then y else x) (xs.map ev) k:=rfl
@[simp ↓] theorem val_ext {n : Nat} {x : X} : yY P (.ext n x) ev ob k = yia n (ev x) k:=rfl
@[simp ↓] theorem yyp {f : Nat} {xs : List X} : yY P (.call f xs) ev ob k = yqk P f (xs.map ev) ob k ⟨⟩:=rfl
@[simp ↓] theorem val_bld {zs : List AV} {ps : List (Nat × Nat × X)} : yY P (.bld zs ps) ev ob k = ycF ⟨fun t=>ev (.t t),ob⟩ ps zs fun l=>k (.agg l):=rfl
@[simp ↓] theorem yxk {f : X} {xs : List X} : yY P (.callv f xs) ev ob k = yef P (ev f) (xs.map ev) ob k:=rfl
@[simp ↓] theorem step_bad : yA P d .bad s K = False:=rfl
@[simp ↓] theorem val_ixs {x i : X} : yY P (.ixs x i) ev ob k = yji (ev x) (ev i) k:=rfl
end
@[simp] theorem ev_t {s : St} {n : Nat} : s.ev (.t n) = s.env n:=rfl
@[simp] theorem ev_k {s : St} {a : AV} : s.ev (.k a) = a:=rfl
@[simp] theorem yzu {s : St} {v : AV} : s.put none v = s:=rfl
@[simp] theorem put_env {s : St} {d t : Nat} {v : AV} : (s.put (some d) v).env t = if t = d then v else s.env t:=rfl
attribute [simp] yac
@[simp] theorem put_ob {s : St} {d : Option Nat} {id : Nat} {v : AV} : (s.put d v).ob id = s.ob id:=by cases d <;> rfl
@[simp] theorem yvt {s : St} {id t : Nat} {o : Obj} : (s.yP id o).env t = s.env t:=rfl
@[simp] theorem yyC {s : St} {id i : Nat} {o : Obj} : (s.yP id o).ob i = if i = id then o else s.ob i:=rfl
@[simp] theorem ytB {s : St} {id i : Nat} {o : Obj} : (s.yP id o).objs i = if i = id then o else s.objs i:=rfl
@[simp] theorem yv9 {s : St} {id t : Nat} {o : Obj} : (s.renew id o).env t = (s.env t).kill id:=rfl
@[simp] theorem yAf {s : St} {id i : Nat} {o : Obj} : (s.renew id o).ob i = if i = id then o else (s.ob i).kill id:=rfl
@[simp] theorem ytw {s : St} {id i : Nat} {o : Obj} : (s.renew id o).objs i = if i = id then o else (s.objs i).kill id:=rfl
@[simp] theorem obSt_ob {f : Nat → Obj} {i : Nat} : (ya9 f).ob i = f i:=rfl
@[simp] theorem objs_ob {s : St} {i : Nat} : s.objs i = s.ob i:=rfl
@[simp] theorem yx5 {L : List (Nat × AV)} {O : List (Nat × Obj)} {t : Nat} : (yaS L O).env t = look .any L t:=rfl
@[simp] theorem stOf_ob {L : List (Nat × AV)} {O : List (Nat × Obj)} {t : Nat} : (yaS L O).ob t = look .none O t:=rfl
@[simp] theorem yuD {l : List AV} {t : Nat} : (yhk l).env t = (l[t]?).getD .any:=rfl
@[simp] theorem ywf {l : List AV} {t : Nat} : (yhk l).ob t = .none:=rfl
@[simp] theorem mk_env {e : Nat → AV} {o : Nat → Obj} {t : Nat} : (St.mk e o).env t = e t:=rfl
@[simp] theorem mk_ob {e : Nat → AV} {o : Nat → Obj} {t : Nat} : (St.mk e o).ob t = o t:=rfl
@[simp] theorem look_nil {α : Type} {d : α} {t : Nat} : look d [] t = d:=rfl
@[simp] theorem ysY {α : Type} {d v : α} {k t : Nat} {l : List (Nat × α)} : look d ((k,v) :: l) t = if t = k then v else look d l t:=rfl
@[simp] theorem upd_app {α : Type} {k : Nat} {v : α} {f : Nat → α} {n : Nat} : upd k v f n = if n = k then v else f n:=rfl
@[simp] theorem isNone_none : Obj.none.isNone = true:=rfl
@[simp] theorem ysN {l : List AV} : (Obj.box l).isNone = false:=rfl
@[simp] theorem yt4 {k : Nat} {l : List (List C)} : (Obj.row k l).isNone = false:=rfl
@[simp] theorem ywA {k v : Nat} {l : List (List C)} : (Obj.tr k v l).isNone = false:=rfl
@[simp] theorem yAt {s : St} {id t : Nat} : (s.drop id).env t = (s.env t).kill id:=rfl
@[simp] theorem drop_ob {s : St} {id i : Nat} : (s.drop id).ob i = if i = id then .none else (s.ob i).kill id:=rfl
@[simp] theorem yvr {s : St} {id i : Nat} : (s.drop id).objs i = if i = id then .none else (s.ob i).kill id:=rfl
@[simp] theorem yvc {s : St} : s.drops [] = s:=rfl
@[simp] theorem ytX {s : St} {i : Nat} {l : List Nat} : s.drops (i :: l) = (s.drop i).drops l:=rfl
@[simp ↓] theorem yu7 {s : St} {d : Nat} {o : Obj} {v : Nat → AV} {K : St → Prop} : newP s (some d) o v K = ((s.ob d).isNone = true ∧ K ((s.yP d o).put (some d) (v d))):=rfl
@[simp] theorem pickP_t {a b : AV} {k : AV → Prop} : ydc (.c (.b true)) a b k = k a:=by
 unfold ydc; simp only; split <;> simp
@[simp] theorem pickP_f {a b : AV} {k : AV → Prop} : ydc (.c (.b false)) a b k = k b:=by
 unfold ydc; simp only; split <;> simp
@[simp] theorem yu8 {t x y : Bool} {k : AV → Prop} : ydc (.c (.b t)) (.c (.b x)) (.c (.b y)) k = k (.c (.b (cond t x y))):=rfl
@[simp] theorem binP_ii {o : BinOp} {a b : Int} {k : AV → Prop} : yi4 o (.c (.i a)) (.c (.i b)) k = ygC o a b k:=rfl
@[simp] theorem yxP {a b : Int} {k : AV → Prop} : ygC .add a b k = (inI (a + b) ∧ k (.c (.i (a + b)))):=rfl
@[simp] theorem yzn {a b : Int} {k : AV → Prop} : ygC .sub a b k = (inI (a - b) ∧ k (.c (.i (a - b)))):=rfl
@[simp] theorem yy6 {a b : Int} {k : AV → Prop} : ygC .mul a b k = (inI (a * b) ∧ k (.c (.i (a * b)))):=rfl
@[simp] theorem yx7 {a b : Int} {k : AV → Prop} : ygC .quo a b k = (b ≠ 0 ∧ inI (a.tdiv b) ∧ k (.c (.i (a.tdiv b)))):=rfl
@[simp] theorem yz6 {a b : Int} {k : AV → Prop} : ygC .rem a b k = (b ≠ 0 ∧ inI (a.tmod b) ∧ k (.c (.i (a.tmod b)))):=rfl
@[simp] theorem yys {a b : Int} {k : AV → Prop} : ygC .eql a b k = k (.c (.b (decide (a = b)))):=rfl
@[simp] theorem yAq {a b : Int} {k : AV → Prop} : ygC .neq a b k = k (.c (.b (!decide (a = b)))):=rfl
@[simp] theorem yAB {a b : Int} {k : AV → Prop} : ygC .lss a b k = k (.c (.b (decide (a < b)))):=rfl
@[simp] theorem yx4 {a b : Int} {k : AV → Prop} : ygC .leq a b k = k (.c (.b (decide (a ≤ b)))):=rfl
@[simp] theorem yAr {a b : Int} {k : AV → Prop} : ygC .gtr a b k = k (.c (.b (decide (b < a)))):=rfl
@[simp] theorem yx6 {a b : Int} {k : AV → Prop} : ygC .geq a b k = k (.c (.b (decide (b ≤ a)))):=rfl
@[simp] theorem beqP_ff {a b : Bool} {k : AV → Prop} : yh7 false (.c (.b a)) (.c (.b b)) k = k (.c (.b (decide (a = b)))):=rfl
@[simp] theorem beqP_tt {a b : Bool} {k : AV → Prop} : yh7 true (.c (.b a)) (.c (.b b)) k = k (.c (.b (!decide (a = b)))):=rfl
@[simp] theorem notP_b {a : Bool} {k : AV → Prop} : notP (.c (.b a)) k = k (.c (.b !a)):=rfl
@[simp] theorem negP_i {a : Int} {k : AV → Prop} : yi7 (.c (.i a)) k = (inI (-a) ∧ k (.c (.i (-a)))):=rfl
@[simp] theorem isnP_sl {n : Nat} {rows : List (List C)} {k : AV → Prop} : ylc (.c (.sl n rows)) k = ∀ v : Bool,(v = true → rows = []) → k (.c (.b v)):=rfl
@[simp] theorem yAb {n : Nat} {k : AV → Prop} : ylc (.nil n) k = k (.c (.b true)):=rfl
@[simp] theorem yyY {id q n : Nat} {k : AV → Prop} : ylc (.own id q n) k = ∀ v : Bool,(v = true → n = 0) → k (.c (.b v)):=rfl
@[simp] theorem idxP_sl {m m' : Nat} {rows : List (List C)} {n : Int} {s : St} {k : AV → Prop} : yeX m s (.c (.sl m' rows)) (.c (.i n)) k = (m' = m ∧ 0 ≤ n ∧ n < rows.length ∧ k (.elt (rows.getD n.toNat []))):=rfl
@[simp] theorem yxF {m m' : Nat} {rows : List (List C)} {n : Int} {s : St} {k : AV → Prop} : yeX m s (.clip m' rows) (.c (.i n)) k = (m' = m ∧ 0 ≤ n ∧ n < rows.length ∧ k (.elt (rows.getD n.toNat []))):=rfl
@[simp] theorem yzv {id m m' r : Nat} {n : Int} {s : St} {k : AV → Prop} : yeX m s (.own id m' r) (.c (.i n)) k = (m' = m ∧ 0 ≤ n ∧ n < (r : Int) ∧ k (.row id m n 0)):=rfl
@[simp] theorem yy0 {id m m' lo r : Nat} {n : Int} {s : St} {k : AV → Prop} : yeX m s (.cut id m' lo r) (.c (.i n)) k = (m' = m ∧ 0 ≤ n ∧ n < (r : Int) ∧ k (.row id m (lo + n) 0)):=rfl
def yoc (m : Nat) (id ver : Nat) (i : Int) (j m' r : Nat) (n : Int) (k : AV → Prop) : Obj → Prop
 | .tr _ ver' _=>ver' = ver ∧ m' = m ∧ 0 ≤ n ∧ n < (r : Int) ∧ k (.ya4 id ver i j m n 0)
 | _=>False
@[congr] theorem yvH {m id ver : Nat} {i : Int} {j m' r : Nat} {n : Int} {k : AV → Prop} {a a' : Obj} (h : a = a') : yoc m id ver i j m' r n k a = yoc m id ver i j m' r n k a':=by rw [h]
@[simp] theorem yx9 {m id ver : Nat} {i : Int} {j m' r : Nat} {n : Int} {s : St} {k : AV → Prop} : yeX m s (.sub id ver i j m' r) (.c (.i n)) k = yoc m id ver i j m' r n k (s.ob id):=by first | rfl | (simp only [yeX,yoc]; done) | (simp only [yeX,yoc]; rfl)
@[simp] theorem idxT_tr {m id ver k0 ver' : Nat} {i : Int} {j m' r : Nat} {n : Int} {rows : List (List C)} {k : AV → Prop} : yoc m id ver i j m' r n k (.tr k0 ver' rows) = (ver' = ver ∧ m' = m ∧ 0 ≤ n ∧ n < (r : Int) ∧ k (.ya4 id ver i j m n 0)):=rfl
@[simp] theorem yyH {id m m' n : Nat} {j q : Int} {k : AV → Prop} : yiu m n (.row id m' j 0) (.c (.i q)) k = (m' = m ∧ j = 0 ∧ 0 ≤ q ∧ q < (n : Int) ∧ k (.row id m q 0)):=rfl
@[simp] theorem yyV {off id o : Nat} {s : St} {k : AV → Prop} : yfz off s (.box id o) k = k (.box id (o + off)):=rfl
@[simp] theorem yyU {off id m o : Nat} {i : Int} {s : St} {k : AV → Prop} : yfz off s (.row id m i o) k = k (.row id m i (o + off)):=rfl
@[simp] theorem yyx {off : Nat} {cs : List C} {s : St} {k : AV → Prop} : yfz off s (.elt cs) k = k (.elt (cs.drop off)):=rfl
def yoj (off id ver : Nat) (i : Int) (j q : Nat) (i' : Int) (o : Nat) (k : AV → Prop) : Obj → Prop
 | .tr _ ver' _=>ver' = ver ∧ k (.ya4 id ver i j q i' (o + off))
 | _=>False
@[congr] theorem yww {off id ver : Nat} {i : Int} {j q : Nat} {i' : Int} {o : Nat} {k : AV → Prop} {a a' : Obj} (h : a = a') : yoj off id ver i j q i' o k a = yoj off id ver i j q i' o k a':=by rw [h]
@[simp] theorem yv6 {off id ver : Nat} {i : Int} {j q : Nat} {i' : Int} {o : Nat} {s : St} {k : AV → Prop} : yfz off s (.ya4 id ver i j q i' o) k = yoj off id ver i j q i' o k (s.ob id):=by first | rfl | (simp only [yfz,yoj]; done) | (simp only [yfz,yoj]; rfl)
@[simp] theorem fldT_tr {off id ver k0 ver' : Nat} {i : Int} {j q : Nat} {i' : Int} {o : Nat} {rows : List (List C)} {k : AV → Prop} : yoj off id ver i j q i' o k (.tr k0 ver' rows) = (ver' = ver ∧ k (.ya4 id ver i j q i' (o + off))):=rfl
@[simp] theorem av_i {id ver : Nat} {i : Int} {j : Nat} {n : Int} : (C.i n).av id ver i j = .c (.i n):=rfl
@[simp] theorem av_b {id ver : Nat} {i : Int} {j : Nat} {n : Bool} : (C.b n).av id ver i j = .c (.b n):=rfl
@[simp] theorem av_u {id ver : Nat} {i : Int} {j : Nat} {n : Nat} : (C.u n).av id ver i j = .c (.u n):=rfl
@[simp] theorem av_q {id ver : Nat} {i : Int} {j : Nat} {n : Nat} : (C.q n).av id ver i j = .c (.q n):=rfl
@[simp] theorem av_s {id ver : Nat} {i : Int} {j : Nat} {n : ByteArray} : (C.s n).av id ver i j = .c (.s n):=rfl
@[simp] theorem av_sl {id ver : Nat} {i : Int} {j k : Nat} {r : List (List C)} : (C.sl k r).av id ver i j = .c (.sl k r):=rfl
@[simp] theorem av_ow {id ver : Nat} {i : Int} {j k : Nat} {r : List (List C)} : (C.ow k r).av id ver i j = .sub id ver i j k r.length:=rfl
@[simp] theorem av_ot {id ver : Nat} {i : Int} {j k : Nat} {r : List (List C)} : (C.ot k r).av id ver i j = .sub id ver i j k r.length:=rfl
@[simp] theorem av_jk {id ver : Nat} {i : Int} {j : Nat} : C.jk.av id ver i j = .any:=rfl
@[simp] theorem av2_i {n : Int} : (C.i n).av2 = .c (.i n):=rfl
@[simp] theorem av2_b {n : Bool} : (C.b n).av2 = .c (.b n):=rfl
@[simp] theorem av2_u {n : Nat} : (C.u n).av2 = .c (.u n):=rfl
@[simp] theorem av2_q {n : Nat} : (C.q n).av2 = .c (.q n):=rfl
@[simp] theorem av2_s {n : ByteArray} : (C.s n).av2 = .c (.s n):=rfl
@[simp] theorem av2_sl {k : Nat} {r : List (List C)} : (C.sl k r).av2 = .c (.sl k r):=rfl
@[simp] theorem avs_nil {id ver : Nat} {i : Int} {j : Nat} : avs id ver i j [] = []:=rfl
@[simp] theorem yzp {id ver : Nat} {i : Int} {j : Nat} {c : C} {l : List C} : avs id ver i j (c :: l) = c.av id ver i j :: avs id ver i (j + 1) l:=rfl
@[simp] theorem yxA {rows : List (List C)} {i j : Nat} : cellAt rows i j = (rows[i]?).bind (·[j]?):=by unfold cellAt; cases rows[i]? <;> rfl
@[simp] theorem yzM {s : St} {x : C} {cs : List C} {k : AV → Prop} : yeI s (.elt (x :: cs)) k = k (.c x):=rfl
@[simp] theorem yxQ {n : Nat} {s : St} {cs : List C} {k : AV → Prop} : yeG n s (.elt cs) k = (n ≤ cs.length ∧ k (.agg ((cs.take n).map .c))):=rfl
def ykA (k : AV → Prop) (o : Nat) : Obj → Prop
 | .box cells=>match cells[o]? with
  | some v=>k v
  | none=>False
 | _=>False
@[congr] theorem ys8 {o : Nat} {a a' : Obj} {k : AV → Prop} (h : a = a') : ykA k o a = ykA k o a':=by rw [h]
@[simp] theorem yAs {s : St} {id o : Nat} {k : AV → Prop} : yeI s (.box id o) k = ykA k o (s.ob id):=rfl
def ymj (k : AV → Prop) : Option AV → Prop | some v=>k v | none=>False
@[congr] theorem yvN {a a' : Option AV} {k : AV → Prop} (h : a = a') : ymj k a = ymj k a':=by rw [h]
@[simp] theorem yve {v : AV} {k : AV → Prop} : ymj k (some v) = k v:=rfl
@[simp] theorem ywJ {o : Nat} {cells : List AV} {k : AV → Prop} : ykA k o (.box cells) = ymj k cells[o]?:=by first | rfl | (simp only [ykA,ymj]; done) | (simp only [ykA,ymj]; rfl)
def ykP (k : AV → Prop) (n o : Nat) : Obj → Prop
 | .box cells=>o + n ≤ cells.length ∧ k (.agg ((cells.drop o).take n))
 | _=>False
@[congr] theorem yrO {n o : Nat} {a a' : Obj} {k : AV → Prop} (h : a = a') : ykP k n o a = ykP k n o a':=by rw [h]
@[simp] theorem yAL {s : St} {id o n : Nat} {k : AV → Prop} : yeG n s (.box id o) k = ykP k n o (s.ob id):=rfl
@[simp] theorem ytY {n o : Nat} {cells : List AV} {k : AV → Prop} : ykP k n o (.box cells) = (o + n ≤ cells.length ∧ k (.agg ((cells.drop o).take n))):=rfl
def yiE (k : AV → Prop) (m : Nat) (i : Int) (o id : Nat) : Obj → Prop
 | .row k' rows=>k' = m ∧ i.toNat < rows.length ∧ o < m ∧ k (.c ((rows.getD i.toNat []).getD o default))
 | .tr k' ver rows=>k' = m ∧ i.toNat < rows.length ∧ o < m ∧ k (((rows.getD i.toNat []).getD o default).av id ver i o)
 | _=>False
@[congr] theorem ytL {m o id : Nat} {i : Int} {a a' : Obj} {k : AV → Prop} (h : a = a') : yiE k m i o id a = yiE k m i o id a':=by rw [h]
@[simp] theorem yzC {s : St} {id m o : Nat} {i : Int} {k : AV → Prop} : yeI s (.row id m i o) k = yiE k m i o id (s.ob id):=by first | rfl | (simp only [yeI,yiE]; done) | (simp only [yeI,yiE]; rfl)
@[simp] theorem yyi {m m' ver o id : Nat} {i : Int} {rows : List (List C)} {k : AV → Prop} : yiE k m i o id (.tr m' ver rows) = (m' = m ∧ i.toNat < rows.length ∧ o < m ∧ k (((rows.getD i.toNat []).getD o default).av id ver i o)):=rfl
@[simp] theorem yvx {m m' o id : Nat} {i : Int} {rows : List (List C)} {k : AV → Prop} : yiE k m i o id (.row m' rows) = (m' = m ∧ i.toNat < rows.length ∧ o < m ∧ k (.c ((rows.getD i.toNat []).getD o default))):=rfl
def ygw (k : AV → Prop) (n m : Nat) (i : Int) (o id : Nat) : Obj → Prop
 | .row k' rows=>k' = m ∧ i.toNat < rows.length ∧ o + n ≤ m ∧ k (.agg ((((rows.getD i.toNat []).drop o).take n).map .c))
 | .tr k' ver rows=>k' = m ∧ i.toNat < rows.length ∧ o + n ≤ m ∧ k (.agg (avs id ver i o (((rows.getD i.toNat []).drop o).take n)))
 | _=>False
@[congr] theorem ysg {n m o id : Nat} {i : Int} {a a' : Obj} {k : AV → Prop} (h : a = a') : ygw k n m i o id a = ygw k n m i o id a':=by rw [h]
@[simp] theorem yyt {s : St} {id m o n : Nat} {i : Int} {k : AV → Prop} : yeG n s (.row id m i o) k = ygw k n m i o id (s.ob id):=by first | rfl | (simp only [yeG,ygw]; done) | (simp only [yeG,ygw]; rfl)
@[simp] theorem yxn {n m m' ver o id : Nat} {i : Int} {rows : List (List C)} {k : AV → Prop} : ygw k n m i o id (.tr m' ver rows) = (m' = m ∧ i.toNat < rows.length ∧ o + n ≤ m ∧ k (.agg (avs id ver i o (((rows.getD i.toNat []).drop o).take n)))):=rfl
def yms (k : AV → Prop) (ver q : Nat) (i : Int) (j : Nat) (i' : Int) (o : Nat) : Obj → Prop
 | .tr _ ver' rows=>ver' = ver ∧ match cellAt rows i.toNat j with
  | some (.ow k' rs)=>k' = q ∧ i'.toNat < rs.length ∧ o < q ∧ k (.c ((rs.getD i'.toNat []).getD o default))
  | some (.ot k' rs)=>k' = q ∧ i'.toNat < rs.length ∧ o < q ∧ k ((rs.getD i'.toNat []).getD o default).av2
  | _=>False
 | _=>False
@[congr] theorem yva {ver q : Nat} {i : Int} {j : Nat} {i' : Int} {o : Nat} {a a' : Obj} {k : AV → Prop} (h : a = a') : yms k ver q i j i' o a = yms k ver q i j i' o a':=by rw [h]
@[simp] theorem ywY {s : St} {id ver q : Nat} {i : Int} {j : Nat} {i' : Int} {o : Nat} {k : AV → Prop} : yeI s (.ya4 id ver i j q i' o) k = yms k ver q i j i' o (s.ob id):=by first | rfl | (simp only [yeI,yms]; done) | (simp only [yeI,yms]; rfl)
def srC (k : AV → Prop) (q : Nat) (i' : Int) (o : Nat) : Option C → Prop
 | some (.ow k' rs)=>k' = q ∧ i'.toNat < rs.length ∧ o < q ∧ k (.c ((rs.getD i'.toNat []).getD o default))
 | some (.ot k' rs)=>k' = q ∧ i'.toNat < rs.length ∧ o < q ∧ k ((rs.getD i'.toNat []).getD o default).av2
 | _=>False
@[congr] theorem yAg {q : Nat} {i' : Int} {o : Nat} {a a' : Option C} {k : AV → Prop} (h : a = a') : srC k q i' o a = srC k q i' o a':=by rw [h]
@[simp] theorem srLd_tr {k0 ver' ver q : Nat} {i : Int} {j : Nat} {i' : Int} {o : Nat} {rows : List (List C)} {k : AV → Prop} : yms k ver q i j i' o (.tr k0 ver' rows) = (ver' = ver ∧ srC k q i' o (cellAt rows i.toNat j)):=by first | rfl | (simp only [yms,srC]; done) | (simp only [yms,srC]; rfl)
@[simp] theorem srC_ow {k' q : Nat} {i' : Int} {o : Nat} {rs : List (List C)} {k : AV → Prop} : srC k q i' o (some (.ow k' rs)) = (k' = q ∧ i'.toNat < rs.length ∧ o < q ∧ k (.c ((rs.getD i'.toNat []).getD o default))):=rfl
@[simp] theorem srC_ot {k' q : Nat} {i' : Int} {o : Nat} {rs : List (List C)} {k : AV → Prop} : srC k q i' o (some (.ot k' rs)) = (k' = q ∧ i'.toNat < rs.length ∧ o < q ∧ k ((rs.getD i'.toNat []).getD o default).av2):=rfl
def yhX (k : AV → Prop) (n ver q : Nat) (i : Int) (j : Nat) (i' : Int) (o : Nat) : Obj → Prop
 | .tr _ ver' rows=>ver' = ver ∧ match cellAt rows i.toNat j with
  | some (.ow k' rs)=>k' = q ∧ i'.toNat < rs.length ∧ o + n ≤ q ∧ k (.agg ((((rs.getD i'.toNat []).drop o).take n).map .c))
  | some (.ot k' rs)=>k' = q ∧ i'.toNat < rs.length ∧ o + n ≤ q ∧ k (.agg ((((rs.getD i'.toNat []).drop o).take n).map C.av2))
  | _=>False
 | _=>False
@[congr] theorem yuv {n ver q : Nat} {i : Int} {j : Nat} {i' : Int} {o : Nat} {a a' : Obj} {k : AV → Prop} (h : a = a') : yhX k n ver q i j i' o a = yhX k n ver q i j i' o a':=by rw [h]
@[simp] theorem yxB {s : St} {n id ver q : Nat} {i : Int} {j : Nat} {i' : Int} {o : Nat} {k : AV → Prop} : yeG n s (.ya4 id ver i j q i' o) k = yhX k n ver q i j i' o (s.ob id):=by first | rfl | (simp only [yeG,yhX]; done) | (simp only [yeG,yhX]; rfl)
def ym5 (k : AV → Prop) (n q : Nat) (i' : Int) (o : Nat) : Option C → Prop
 | some (.ow k' rs)=>k' = q ∧ i'.toNat < rs.length ∧ o + n ≤ q ∧ k (.agg ((((rs.getD i'.toNat []).drop o).take n).map .c))
 | some (.ot k' rs)=>k' = q ∧ i'.toNat < rs.length ∧ o + n ≤ q ∧ k (.agg ((((rs.getD i'.toNat []).drop o).take n).map C.av2))
 | _=>False
@[congr] theorem ywQ {n q : Nat} {i' : Int} {o : Nat} {a a' : Option C} {k : AV → Prop} (h : a = a') : ym5 k n q i' o a = ym5 k n q i' o a':=by rw [h]
@[simp] theorem yy5 {n k0 ver' ver q : Nat} {i : Int} {j : Nat} {i' : Int} {o : Nat} {rows : List (List C)} {k : AV → Prop} : yhX k n ver q i j i' o (.tr k0 ver' rows) = (ver' = ver ∧ ym5 k n q i' o (cellAt rows i.toNat j)):=by first | rfl | (simp only [yhX,ym5]; done) | (simp only [yhX,ym5]; rfl)
@[simp] theorem srCn_ow {n k' q : Nat} {i' : Int} {o : Nat} {rs : List (List C)} {k : AV → Prop} : ym5 k n q i' o (some (.ow k' rs)) = (k' = q ∧ i'.toNat < rs.length ∧ o + n ≤ q ∧ k (.agg ((((rs.getD i'.toNat []).drop o).take n).map .c))):=rfl
@[simp] theorem srCn_ot {n k' q : Nat} {i' : Int} {o : Nat} {rs : List (List C)} {k : AV → Prop} : ym5 k n q i' o (some (.ot k' rs)) = (k' = q ∧ i'.toNat < rs.length ∧ o + n ≤ q ∧ k (.agg ((((rs.getD i'.toNat []).drop o).take n).map C.av2))):=rfl
@[simp] theorem yta {n m m' o id : Nat} {i : Int} {rows : List (List C)} {k : AV → Prop} : ygw k n m i o id (.row m' rows) = (m' = m ∧ i.toNat < rows.length ∧ o + n ≤ m ∧ k (.agg ((((rows.getD i.toNat []).drop o).take n).map .c))):=rfl
def ynO (K : St → Prop) (s : St) (id o : Nat) (v : AV) : Obj → Prop
 | .box cells=>o < cells.length ∧ v.yS = true ∧ K (s.yP id (.box (cells.set o v)))
 | _=>False
@[congr] theorem ysS {s : St} {id o : Nat} {v : AV} {a a' : Obj} {K : St → Prop} (h : a = a') : ynO K s id o v a = ynO K s id o v a':=by rw [h]
@[simp] theorem yzb {s : St} {id o : Nat} {v : AV} {K : St → Prop} : yeH s (.box id o) v K = ynO K s id o v (s.ob id):=rfl
@[simp] theorem yxy {s : St} {id o : Nat} {v : AV} {cells : List AV} {K : St → Prop} : ynO K s id o v (.box cells) = (o < cells.length ∧ v.yS = true ∧ K (s.yP id (.box (cells.set o v)))):=rfl
def yfG (K : St → Prop) (s : St) (id m : Nat) (i : Int) (o : Nat) (v : AV) : Obj → Prop
 | .row k' rows=>match v.toC with
  | some c=>k' = m ∧ i.toNat < rows.length ∧ o < m ∧ K (s.yP id (.row m (rows.set i.toNat ((rows.getD i.toNat []).set o c))))
  | none=>False
 | .tr k' ver rows=>match pk1 s v with
  | some (c,ids)=>k' = m ∧ i.toNat < rows.length ∧ o < m ∧ ids.Nodup ∧ id ∉ ids ∧ K ((s.drops ids).yP id (.tr m (ver + 1) (setAt rows i.toNat o c)))
  | none=>False
 | _=>False
@[congr] theorem yte {s : St} {id m o : Nat} {i : Int} {v : AV} {a a' : Obj} {K : St → Prop} (h : a = a') : yfG K s id m i o v a = yfG K s id m i o v a':=by rw [h]
@[simp] theorem yx0 {s : St} {id m o : Nat} {i : Int} {v : AV} {K : St → Prop} : yeH s (.row id m i o) v K = yfG K s id m i o v (s.ob id):=by first | rfl | (simp only [yeH,yfG]; done) | (simp only [yeH,yfG]; rfl)
@[simp] theorem yvk {s : St} {id m m' o : Nat} {i : Int} {c : C} {rows : List (List C)} {K : St → Prop} : yfG K s id m i o (.c c) (.row m' rows) = (m' = m ∧ i.toNat < rows.length ∧ o < m ∧ K (s.yP id (.row m (rows.set i.toNat ((rows.getD i.toNat []).set o c))))):=rfl
@[simp] theorem ytI {s : St} {id m m' o n : Nat} {i : Int} {rows : List (List C)} {K : St → Prop} : yfG K s id m i o (.nil n) (.row m' rows) = (m' = m ∧ i.toNat < rows.length ∧ o < m ∧ K (s.yP id (.row m (rows.set i.toNat ((rows.getD i.toNat []).set o (.sl n [])))))):=rfl
@[simp] theorem ys7 {s : St} {id m m' o n : Nat} {i : Int} {rows r : List (List C)} {K : St → Prop} : yfG K s id m i o (.clip n r) (.row m' rows) = (m' = m ∧ i.toNat < rows.length ∧ o < m ∧ K (s.yP id (.row m (rows.set i.toNat ((rows.getD i.toNat []).set o (.sl n r)))))):=rfl
def yoA (K : St → Prop) (s : St) (id m : Nat) (i : Int) (o m' ver : Nat) (rows : List (List C)) : Option (C × List Nat) → Prop
 | some (c,ids)=>m' = m ∧ i.toNat < rows.length ∧ o < m ∧ ids.Nodup ∧ id ∉ ids ∧ K ((s.drops ids).yP id (.tr m (ver + 1) (setAt rows i.toNat o c)))
 | none=>False
@[congr] theorem ywG {s : St} {id m m' ver o : Nat} {i : Int} {rows : List (List C)} {K : St → Prop} {a a' : Option (C × List Nat)} (h : a = a') : yoA K s id m i o m' ver rows a = yoA K s id m i o m' ver rows a':=by rw [h]
@[simp] theorem yy4 {s : St} {id m m' ver o : Nat} {i : Int} {v : AV} {rows : List (List C)} {K : St → Prop} : yfG K s id m i o v (.tr m' ver rows) = yoA K s id m i o m' ver rows (pk1 s v):=by first | rfl | (simp only [yfG,yoA]; done) | (simp only [yfG,yoA]; rfl)
@[simp] theorem yxb {s : St} {id m m' ver o : Nat} {i : Int} {rows : List (List C)} {c : C} {ids : List Nat} {K : St → Prop} : yoA K s id m i o m' ver rows (some (c,ids)) = (m' = m ∧ i.toNat < rows.length ∧ o < m ∧ ids.Nodup ∧ id ∉ ids ∧ K ((s.drops ids).yP id (.tr m (ver + 1) (setAt rows i.toNat o c)))):=rfl
@[simp] theorem plain_i {n : Int} : (C.i n).plain = true:=rfl
@[simp] theorem plain_b {n : Bool} : (C.b n).plain = true:=rfl
@[simp] theorem plain_u {n : Nat} : (C.u n).plain = true:=rfl
@[simp] theorem plain_q {n : Nat} : (C.q n).plain = true:=rfl
@[simp] theorem plain_s {n : ByteArray} : (C.s n).plain = true:=rfl
@[simp] theorem yz3 {k : Nat} {r : List (List C)} : (C.sl k r).plain = true:=rfl
@[simp] theorem pk1_c {s : St} {x : C} : pk1 s (.c x) = if x.plain then some (x,[]) else none:=rfl
@[simp] theorem yyZ {s : St} {k : Nat} {r : List (List C)} : pk1 s (.clip k r) = some (.sl k r,[]):=rfl
@[simp] theorem pk1_nil {s : St} {k : Nat} : pk1 s (.nil k) = some (.sl k [],[]):=rfl
def pkO (k id n : Nat) : Obj → Option (C × List Nat)
 | .row k' rows=>if k' = k then some (.ow k (rows.take n),[id]) else none
 | .tr k' _ rows=>if k' = k then some (.ot k (rows.take n),[id]) else none
 | _=>none
@[simp] theorem pk1_own {s : St} {id k n : Nat} : pk1 s (.own id k n) = pkO k id n (s.ob id):=by first | rfl | (simp only [pk1,pkO]; done) | (simp only [pk1,pkO]; rfl)
@[simp] theorem pkO_row {k id n k' : Nat} {rows : List (List C)} : pkO k id n (.row k' rows) = if k' = k then some (.ow k (rows.take n),[id]) else none:=rfl
@[simp] theorem pkO_tr {k id n k' ver : Nat} {rows : List (List C)} : pkO k id n (.tr k' ver rows) = if k' = k then some (.ot k (rows.take n),[id]) else none:=rfl
@[simp] theorem pkl_nil {s : St} : pkl s [] = some ([],[]):=rfl
@[simp] theorem yzH {s : St} {x : AV} {l : List AV} : pkl s (x :: l) = (pk1 s x).bind fun p=>(pkl s l).map fun q=>(p.1 :: q.1,p.2 ++ q.2):=by
 simp only [pkl]; cases pk1 s x <;> cases pkl s l <;> rfl
@[simp] theorem pkl_map {s : St} {l : List C} (h : l.all C.plain = true) : pkl s (l.map .c) = some (l,[]):=by
 induction l with
 | nil=>rfl
 | cons x l ih =>
  simp only [List.all_cons,Bool.and_eq_true] at h
  simp [ih h.2,h.1]
@[simp] theorem pks_nil {s : St} : pks s [] = some ([],[]):=rfl
@[simp] theorem yAx {s : St} {x : AV} {l : List AV} : pks s (x :: l) = (pkl s x.cellsOf).bind fun p=>(pks s l).map fun q=>(p.1 :: q.1,p.2 ++ q.2):=by
 simp only [pks]; cases pkl s x.cellsOf <;> cases pks s l <;> rfl
def ylQ (K : St → Prop) (s : St) (id ver q : Nat) (i : Int) (j : Nat) (i' : Int) (o : Nat) (v : AV) : Obj → Prop
 | .tr k0 ver' rows=>ver' = ver ∧ match cellAt rows i.toNat j with
  | some (.ow k' rs)=>match v.toC with
   | some c=>k' = q ∧ i'.toNat < rs.length ∧ o < q ∧ K (s.yP id (.tr k0 (ver + 1) (setAt rows i.toNat j (.ow q (setAt rs i'.toNat o c)))))
   | none=>False
  | _=>False
 | _=>False
@[congr] theorem ywp {s : St} {id ver q : Nat} {i : Int} {j : Nat} {i' : Int} {o : Nat} {v : AV} {a a' : Obj} {K : St → Prop} (h : a = a') : ylQ K s id ver q i j i' o v a = ylQ K s id ver q i j i' o v a':=by rw [h]
@[simp] theorem ywz {s : St} {id ver q : Nat} {i : Int} {j : Nat} {i' : Int} {o : Nat} {v : AV} {K : St → Prop} : yeH s (.ya4 id ver i j q i' o) v K = ylQ K s id ver q i j i' o v (s.ob id):=by first | rfl | (simp only [yeH,ylQ]; done) | (simp only [yeH,ylQ]; rfl)
def ykr (K : St → Prop) (s : St) (id ver q k0 : Nat) (rows : List (List C)) (i : Int) (j : Nat) (i' : Int) (o : Nat) (c : C) : Option C → Prop
 | some (.ow k' rs)=>k' = q ∧ i'.toNat < rs.length ∧ o < q ∧ K (s.yP id (.tr k0 (ver + 1) (setAt rows i.toNat j (.ow q (setAt rs i'.toNat o c)))))
 | _=>False
@[congr] theorem ytZ {s : St} {id ver q k0 : Nat} {rows : List (List C)} {i : Int} {j : Nat} {i' : Int} {o : Nat} {c : C} {K : St → Prop} {a a' : Option C} (h : a = a') : ykr K s id ver q k0 rows i j i' o c a = ykr K s id ver q k0 rows i j i' o c a':=by rw [h]
@[simp] theorem srSt_tr {s : St} {id ver q k0 ver' : Nat} {i : Int} {j : Nat} {i' : Int} {o : Nat} {c : C} {rows : List (List C)} {K : St → Prop} : ylQ K s id ver q i j i' o (.c c) (.tr k0 ver' rows) = (ver' = ver ∧ ykr K s id ver q k0 rows i j i' o c (cellAt rows i.toNat j)):=by first | rfl | (simp only [ylQ,ykr,AV.toC]; done) | (simp only [ylQ,ykr,AV.toC]; rfl)
@[simp] theorem yyB {s : St} {id ver q k0 k' : Nat} {rows rs : List (List C)} {i : Int} {j : Nat} {i' : Int} {o : Nat} {c : C} {K : St → Prop} : ykr K s id ver q k0 rows i j i' o c (some (.ow k' rs)) = (k' = q ∧ i'.toNat < rs.length ∧ o < q ∧ K (s.yP id (.tr k0 (ver + 1) (setAt rows i.toNat j (.ow q (setAt rs i'.toNat o c)))))):=rfl
def ylr (K : St → Prop) (s : St) (id o n : Nat) (l : List AV) : Obj → Prop
 | .box cells=>o + n ≤ cells.length ∧ l.all AV.yS = true ∧ K (s.yP id (.box (cells.take o ++ l ++ cells.drop (o + n))))
 | _=>False
@[congr] theorem ysD {s : St} {id o n : Nat} {l : List AV} {a a' : Obj} {K : St → Prop} (h : a = a') : ylr K s id o n l a = ylr K s id o n l a':=by rw [h]
@[simp] theorem yy1 {s : St} {id o n : Nat} {l : List AV} {K : St → Prop} : ygv n s (.box id o) (.agg l) K = (l.length = n ∧ ylr K s id o n l (s.ob id)):=rfl
@[simp] theorem ysQ {s : St} {id o n : Nat} {l cells : List AV} {K : St → Prop} : ylr K s id o n l (.box cells) = (o + n ≤ cells.length ∧ l.all AV.yS = true ∧ K (s.yP id (.box (cells.take o ++ l ++ cells.drop (o + n))))):=rfl
def ydi (K : St → Prop) (s : St) (id m : Nat) (i : Int) (o n : Nat) (l : List AV) : Obj → Prop
 | .row k' rows=>match AV.yca l with
  | some cs=>k' = m ∧ i.toNat < rows.length ∧ o + n ≤ m ∧ K (s.yP id (.row m (rows.set i.toNat ((rows.getD i.toNat []).take o ++ cs ++ (rows.getD i.toNat []).drop (o + n)))))
  | none=>False
 | .tr k' ver rows=>match pkl s l with
  | some (cs,ids)=>k' = m ∧ i.toNat < rows.length ∧ o + n ≤ m ∧ ids.Nodup ∧ id ∉ ids ∧ K ((s.drops ids).yP id (.tr m (ver + 1) (rows.set i.toNat ((rows.getD i.toNat []).take o ++ cs ++ (rows.getD i.toNat []).drop (o + n)))))
  | none=>False
 | _=>False
@[congr] theorem yr9 {s : St} {id m o n : Nat} {i : Int} {l : List AV} {a a' : Obj} {K : St → Prop} (h : a = a') : ydi K s id m i o n l a = ydi K s id m i o n l a':=by rw [h]
@[simp] theorem yyr {s : St} {id m o n : Nat} {i : Int} {l : List AV} {K : St → Prop} : ygv n s (.row id m i o) (.agg l) K = (l.length = n ∧ ydi K s id m i o n l (s.ob id)):=by first | rfl | (simp only [ygv,ydi]; done) | (simp only [ygv,ydi]; rfl)
def yhs (K : St → Prop) (s : St) (id m : Nat) (i : Int) (o n m' : Nat) (rows : List (List C)) : Option (List C) → Prop
 | some cs=>m' = m ∧ i.toNat < rows.length ∧ o + n ≤ m ∧ K (s.yP id (.row m (rows.set i.toNat ((rows.getD i.toNat []).take o ++ cs ++ (rows.getD i.toNat []).drop (o + n)))))
 | none=>False
@[congr] theorem yrY {s : St} {id m m' o n : Nat} {i : Int} {rows : List (List C)} {K : St → Prop} {a a' : Option (List C)} (h : a = a') : yhs K s id m i o n m' rows a = yhs K s id m i o n m' rows a':=by rw [h]
@[simp] theorem yt5 {s : St} {id m m' o n : Nat} {i : Int} {l : List AV} {rows : List (List C)} {K : St → Prop} : ydi K s id m i o n l (.row m' rows) = yhs K s id m i o n m' rows (AV.yca l):=by first | rfl | (simp only [ydi,yhs]; done) | (simp only [ydi,yhs]; rfl)
@[simp] theorem ysC {s : St} {id m m' o n : Nat} {i : Int} {cs : List C} {rows : List (List C)} {K : St → Prop} : yhs K s id m i o n m' rows (some cs) =
 (m' = m ∧ i.toNat < rows.length ∧ o + n ≤ m ∧ K (s.yP id (.row m (rows.set i.toNat ((rows.getD i.toNat []).take o ++ cs ++ (rows.getD i.toNat []).drop (o + n)))))):=rfl
def ykk (K : St → Prop) (s : St) (id m : Nat) (i : Int) (o n m' ver : Nat) (rows : List (List C)) : Option (List C × List Nat) → Prop
 | some (cs,ids)=>m' = m ∧ i.toNat < rows.length ∧ o + n ≤ m ∧ ids.Nodup ∧ id ∉ ids ∧ K ((s.drops ids).yP id (.tr m (ver + 1) (rows.set i.toNat ((rows.getD i.toNat []).take o ++ cs ++ (rows.getD i.toNat []).drop (o + n)))))
 | none=>False
@[congr] theorem ys4 {s : St} {id m m' ver o n : Nat} {i : Int} {rows : List (List C)} {K : St → Prop} {a a' : Option (List C × List Nat)} (h : a = a') : ykk K s id m i o n m' ver rows a = ykk K s id m i o n m' ver rows a':=by rw [h]
@[simp] theorem yxv {s : St} {id m m' ver o n : Nat} {i : Int} {l : List AV} {rows : List (List C)} {K : St → Prop} : ydi K s id m i o n l (.tr m' ver rows) = ykk K s id m i o n m' ver rows (pkl s l):=by first | rfl | (simp only [ydi,ykk]; done) | (simp only [ydi,ykk]; rfl)
@[simp] theorem ytt {s : St} {id m m' ver o n : Nat} {i : Int} {cs : List C} {ids : List Nat} {rows : List (List C)} {K : St → Prop} : ykk K s id m i o n m' ver rows (some (cs,ids)) =
 (m' = m ∧ i.toNat < rows.length ∧ o + n ≤ m ∧ ids.Nodup ∧ id ∉ ids ∧ K ((s.drops ids).yP id (.tr m (ver + 1) (rows.set i.toNat ((rows.getD i.toNat []).take o ++ cs ++ (rows.getD i.toNat []).drop (o + n)))))):=rfl
@[simp] theorem yAu : AV.yca [] = some []:=rfl
@[simp] theorem toCs_c {x : C} {l : List AV} : AV.yca (.c x :: l) = (AV.yca l).map (x :: ·):=by simp only [AV.yca,AV.toC]; cases AV.yca l <;> rfl
@[simp] theorem toCs_n {n : Nat} {l : List AV} : AV.yca (.nil n :: l) = (AV.yca l).map (.sl n [] :: ·):=by simp only [AV.yca,AV.toC]; cases AV.yca l <;> rfl
@[simp] theorem toCs_cl {n : Nat} {r : List (List C)} {l : List AV} : AV.yca (.clip n r :: l) = (AV.yca l).map (.sl n r :: ·):=by simp only [AV.yca,AV.toC]; cases AV.yca l <;> rfl
@[simp] theorem yyo {a b c : Nat} {l : List AV} : AV.yca (.own a b c :: l) = none:=by first | rfl | (simp only [AV.yca,AV.toC]; done) | (simp only [AV.yca,AV.toC]; rfl)
@[simp] theorem yzP {l : List C} : AV.yca (l.map .c) = some l:=by
 induction l with
 | nil=>rfl
 | cons x l ih=>simp [ih]
@[simp] theorem yqa {l : List C} : (l.map AV.c).all AV.yS = true:=by simp [List.all_eq_true]; intro x _; rfl
@[simp] theorem yzB {x : C} : (AV.c x).yS = true:=rfl
@[simp] theorem yuQ {n : Nat} : (AV.nil n).yS = true:=rfl
@[simp] theorem yrW {n : Nat} {r : List (List C)} : (AV.clip n r).yS = true:=rfl
@[simp] theorem yul {a b : Nat} : (AV.box a b).yS = true:=rfl
@[simp] theorem yt6 {a b o : Nat} {i : Int} : (AV.row a b i o).yS = true:=rfl
@[simp] theorem yup {cs : List C} : (AV.elt cs).yS = true:=rfl
@[simp] theorem ysW {a b c : Nat} : (AV.own a b c).yS = true:=rfl
@[simp] theorem yr6 {l : List AV} : (AV.agg l).cellsOf = l:=rfl
@[simp] theorem yxa {x : C} : (AV.c x).cellsOf = [.c x]:=rfl
@[simp] theorem cellsOf_nil {n : Nat} : (AV.nil n).cellsOf = [.nil n]:=rfl
@[simp] theorem yri {n : Nat} {r : List (List C)} : (AV.clip n r).cellsOf = [.clip n r]:=rfl
@[simp] theorem yr3 {a b : Nat} : (AV.box a b).cellsOf = [.box a b]:=rfl
@[simp] theorem ysl {a b c : Nat} : (AV.own a b c).cellsOf = [.own a b c]:=rfl
@[simp ↓] theorem boxP_eq {n : Nat} {s : St} {d : Option Nat} {x : AV} {K : St → Prop} : yoX n s d x K = (x.cellsOf.length = n ∧ x.cellsOf.all AV.yS = true ∧ newP s d (.box x.cellsOf) (fun d=>.box d 0) K):=rfl
@[simp] theorem mksP_eq {k b : Nat} {z : List C} {s : St} {d : Option Nat} {n m : Int} {K : St → Prop} : ylq k b z s d (.c (.i n)) (.c (.i m)) K =
 (0 ≤ n ∧ n ≤ m ∧ (b : Int) * m ≤ 281474976710656 ∧ newP s d (.row k (List.replicate n.toNat z)) (fun d=>.own d k n.toNat) K):=rfl
def ylY (k : Nat) (s : St) (d : Option Nat) (K : St → Prop) (xs : List AV) : Option (List (List C)) → Prop
 | some rows=>(∀ r ∈ rows,r.length = k) ∧ newP s d (.row k rows) (fun d=>.own d k rows.length) K
 | none=>match pks s xs with
  | some (rows,ids)=>(∀ r ∈ rows,r.length = k) ∧ ids.Nodup ∧ newP (s.drops ids) d (.tr k 0 rows) (fun d=>.own d k rows.length) K
  | none=>False
@[congr] theorem ywX {k : Nat} {s : St} {d : Option Nat} {K : St → Prop} {xs : List AV} {a a' : Option (List (List C))} (h : a = a') : ylY k s d K xs a = ylY k s d K xs a':=by rw [h]
@[simp] theorem bslP_eq {k : Nat} {xs : List AV} {s : St} {d : Option Nat} {K : St → Prop} : yh5 k xs s d K = ylY k s d K xs (AV.rowsOf xs):=by unfold yh5 ylY; cases AV.rowsOf xs <;> rfl
@[simp] theorem yvb {k : Nat} {s : St} {d : Option Nat} {K : St → Prop} {xs : List AV} {rows : List (List C)} : ylY k s d K xs (some rows) = ((∀ r ∈ rows,r.length = k) ∧ newP s d (.row k rows) (fun d=>.own d k rows.length) K):=rfl
def yor (k : Nat) (s : St) (d : Option Nat) (K : St → Prop) : Option (List (List C) × List Nat) → Prop
 | some (rows,ids)=>(∀ r ∈ rows,r.length = k) ∧ ids.Nodup ∧ newP (s.drops ids) d (.tr k 0 rows) (fun d=>.own d k rows.length) K
 | none=>False
@[congr] theorem yv7 {k : Nat} {s : St} {d : Option Nat} {K : St → Prop} {a a' : Option (List (List C) × List Nat)} (h : a = a') : yor k s d K a = yor k s d K a':=by rw [h]
@[simp] theorem ywn {k : Nat} {s : St} {d : Option Nat} {K : St → Prop} {xs : List AV} : ylY k s d K xs none = yor k s d K (pks s xs):=by first | rfl | (simp only [ylY,yor]; done) | (simp only [ylY,yor]; rfl)
@[simp] theorem yvQ {k : Nat} {s : St} {d : Option Nat} {K : St → Prop} {rows : List (List C)} {ids : List Nat} : yor k s d K (some (rows,ids)) = ((∀ r ∈ rows,r.length = k) ∧ ids.Nodup ∧ newP (s.drops ids) d (.tr k 0 rows) (fun d=>.own d k rows.length) K):=rfl
@[simp] theorem ytV : AV.rowsOf [] = some []:=rfl
@[simp] theorem yr5 {x : AV} {l : List AV} : AV.rowsOf (x :: l) = (x.rowOf).bind fun r=>(AV.rowsOf l).map (r :: ·):=by
 simp only [AV.rowsOf]; cases x.rowOf <;> cases AV.rowsOf l <;> rfl
@[simp] theorem rowOf_c {x : C} : (AV.c x).rowOf = some [x]:=rfl
@[simp] theorem yvz {n : Nat} : (AV.nil n).rowOf = some [.sl n []]:=rfl
@[simp] theorem ywo {a b c : Nat} : (AV.own a b c).rowOf = none:=rfl
@[simp] theorem yxw {l : List AV} : (AV.agg l).rowOf = AV.yca l:=rfl
@[simp] theorem slcP_1 {k k' : Nat} {rows : List (List C)} {l h : Int} {K : AV → Prop} : yeJ k (.c (.sl k' rows)) (some (.c (.i l))) (some (.c (.i h))) none K = (k' = k ∧ 0 ≤ l ∧ l ≤ h ∧ h ≤ rows.length ∧ K (.c (.sl k ((rows.take h.toNat).drop l.toNat)))):=rfl
@[simp] theorem slcP_2 {k k' : Nat} {rows : List (List C)} {l : Int} {K : AV → Prop} : yeJ k (.c (.sl k' rows)) (some (.c (.i l))) none none K = (k' = k ∧ 0 ≤ l ∧ l ≤ rows.length ∧ K (.c (.sl k (rows.drop l.toNat)))):=rfl
@[simp] theorem slcP_3 {k k' : Nat} {rows : List (List C)} {h : Int} {K : AV → Prop} : yeJ k (.c (.sl k' rows)) none (some (.c (.i h))) none K = (k' = k ∧ 0 ≤ h ∧ h ≤ rows.length ∧ K (.c (.sl k (rows.take h.toNat)))):=rfl
@[simp] theorem slcP_4 {k k' : Nat} {rows : List (List C)} {h m : Int} {K : AV → Prop} : yeJ k (.c (.sl k' rows)) none (some (.c (.i h))) (some (.c (.i m))) K = (k' = k ∧ 0 ≤ h ∧ h = m ∧ h ≤ rows.length ∧ K (.clip k (rows.take h.toNat))):=rfl
@[simp] theorem slcP_5 {k k' id n : Nat} {h : Int} {K : AV → Prop} : yeJ k (.own id k' n) none (some (.c (.i h))) none K = (k' = k ∧ 0 ≤ h ∧ h ≤ (n : Int) ∧ K (.own id k h.toNat)):=rfl
@[simp] theorem slcP_6 {k k' id n : Nat} {l : Int} {K : AV → Prop} : yeJ k (.own id k' n) (some (.c (.i l))) none none K = (k' = k ∧ 0 ≤ l ∧ l ≤ (n : Int) ∧ K (.cut id k l.toNat (n - l.toNat))):=rfl
@[simp] theorem slcP_7 {k k' id n : Nat} {l h : Int} {K : AV → Prop} : yeJ k (.own id k' n) (some (.c (.i l))) (some (.c (.i h))) none K = (k' = k ∧ 0 ≤ l ∧ l ≤ h ∧ h ≤ (n : Int) ∧ K (.cut id k l.toNat (h.toNat - l.toNat))):=rfl
@[simp] theorem slcP_8 {k n : Nat} {h : Int} {K : AV → Prop} : yeJ k (.nil n) none (some (.c (.i h))) none K = (h = 0 ∧ K (.nil k)):=rfl
@[simp] theorem slcP_9 {k n : Nat} {h m : Int} {K : AV → Prop} : yeJ k (.nil n) none (some (.c (.i h))) (some (.c (.i m))) K = (h = 0 ∧ m = 0 ∧ K (.nil k)):=rfl
@[simp] theorem yAh {s : St} {id k lo n : Nat} {K : AV → Prop} : yem s (.cut id k lo n) K = (n ≤ maxLen → K (.c (.i n))):=rfl
def yoQ (ver n : Nat) (K : AV → Prop) : Obj → Prop
 | .tr _ ver' _=>ver' = ver ∧ (n ≤ maxLen → K (.c (.i n)))
 | _=>False
@[congr] theorem yvW {ver n : Nat} {K : AV → Prop} {a a' : Obj} (h : a = a') : yoQ ver n K a = yoQ ver n K a':=by rw [h]
@[simp] theorem yzs {s : St} {id ver : Nat} {i : Int} {j k n : Nat} {K : AV → Prop} : yem s (.sub id ver i j k n) K = yoQ ver n K (s.ob id):=by first | rfl | (simp only [yem,yoQ]; done) | (simp only [yem,yoQ]; rfl)
@[simp] theorem lenT_tr {ver n k0 ver' : Nat} {rows : List (List C)} {K : AV → Prop} : yoQ ver n K (.tr k0 ver' rows) = (ver' = ver ∧ (n ≤ maxLen → K (.c (.i n)))):=rfl
@[simp] theorem lenP_sl {k : Nat} {rows : List (List C)} {s : St} {K : AV → Prop} : yem s (.c (.sl k rows)) K = (rows.length ≤ maxLen → K (.c (.i rows.length))):=rfl
@[simp] theorem yws {k : Nat} {rows : List (List C)} {s : St} {K : AV → Prop} : yem s (.clip k rows) K = (rows.length ≤ maxLen → K (.c (.i rows.length))):=rfl
@[simp] theorem yyu {id k n : Nat} {s : St} {K : AV → Prop} : yem s (.own id k n) K = (n ≤ maxLen → K (.c (.i n))):=rfl
@[simp] theorem yyT {s : St} {n : Nat} {K : AV → Prop} : yem s (.nil n) K = K (.c (.i 0)):=rfl
@[simp] theorem slenP_s {bs : ByteArray} {K : AV → Prop} : ye0 (.c (.s bs)) K = (bs.size ≤ maxLen → K (.c (.i bs.size))):=rfl
def mmK (f : Int → Int → Int) (K : AV → Prop) : Option (List Int) → Prop
 | some (n :: r)=>K (.c (.i (r.foldl f n)))
 | _=>False
@[congr] theorem yzf {f : Int → Int → Int} {K : AV → Prop} {a a' : Option (List Int)} (h : a = a') : mmK f K a = mmK f K a':=by rw [h]
@[simp] theorem mmP_eq {f : Int → Int → Int} {l : List AV} {K : AV → Prop} : mmP f l K = mmK f K (intsOf l):=rfl
@[simp] theorem yy2 {f : Int → Int → Int} {n : Int} {r : List Int} {K : AV → Prop} : mmK f K (some (n :: r)) = K (.c (.i (r.foldl f n))):=rfl
@[simp] theorem ytj : intsOf [] = some []:=rfl
@[simp] theorem ysw {n : Int} {l : List AV} : intsOf (.c (.i n) :: l) = (intsOf l).map (n :: ·):=rfl
@[simp] theorem yy9 {i : Nat} {l : List AV} {K : AV → Prop} : yia i (.tup l) K = ymj K l[i]?:=by unfold yia ymj; simp only; cases l[i]? <;> rfl
@[simp] theorem ixsP_eq {bs : ByteArray} {n : Int} {K : AV → Prop} : yji (.c (.s bs)) (.c (.i n)) K = (0 ≤ n ∧ n < bs.size ∧ K (.c (.u (bs[n.toNat]?.getD 0).toNat))):=rfl
def yhM (k by_ : Nat) (s : St) (d : Option Nat) (x : AV) (K : St → Prop) (new : List (List C)) : Prop :=
 match x with
  | .nil _=>new.length * by_ ≤ 140737488355328 ∧ newP s d (.row k new) (fun d=>.own d k new.length) K
  | .clip k' rows=>k' = k ∧ (0 < new.length ∨ rows.length = 0) ∧ (rows.length + new.length) * by_ ≤ 140737488355328 ∧ newP s d (.row k (rows ++ new)) (fun d=>.own d k (rows.length + new.length)) K
  | .own id k' n=>match s.ob id with
   | .row _ rows=>k' = k ∧ n = rows.length ∧ (rows.length + new.length) * by_ ≤ 140737488355328 ∧
    K ((s.renew id (.row k (rows ++ new))).put d (.own id k (rows.length + new.length)))
   | .tr _ _ rows=>k' = k ∧ n = rows.length ∧ (rows.length + new.length) * by_ ≤ 140737488355328 ∧
    K ((s.renew id (.tr k 0 (rows ++ new))).put d (.own id k (rows.length + new.length)))
   | _=>False
  | .sub id ver i j k' n=>match s.ob id with
   | .tr k0 ver' rows=>ver' = ver ∧ match cellAt rows i.toNat j with
    | some (.ow k2 rs)=>k' = k ∧ k2 = k ∧ (rs.length + new.length) * by_ ≤ 140737488355328 ∧ match d with
     | some d=>(s.ob d).isNone = true ∧ K (((s.yP id (.tr k0 (ver + 1) (setAt rows i.toNat j .jk))).renew d (.row k (rs ++ new))).put (some d) (.own d k (rs.length + new.length)))
     | none=>False
    | some (.ot k2 rs)=>k' = k ∧ k2 = k ∧ (rs.length + new.length) * by_ ≤ 140737488355328 ∧ match d with
     | some d=>(s.ob d).isNone = true ∧ K (((s.yP id (.tr k0 (ver + 1) (setAt rows i.toNat j .jk))).renew d (.tr k 0 (rs ++ new))).put (some d) (.own d k (rs.length + new.length)))
     | none=>False
    | _=>False
   | _=>False
  | _=>False
def appG (k by_ : Nat) (s : St) (d : Option Nat) (x : AV) (K : St → Prop) (y : AV) : Option (List (List C)) → Prop
 | some new=>yhM k by_ s d x K new
 | none=>match ycX s k y with
  | some (idy,new)=>match x with
   | .nil _=>new.length * by_ ≤ 140737488355328 ∧ newP (s.drop idy) d (.tr k 0 new) (fun d=>.own d k new.length) K
   | .own id k' n=>id ≠ idy ∧ match s.ob id with
    | .row _ rows=>k' = k ∧ n = rows.length ∧ (rows.length + new.length) * by_ ≤ 140737488355328 ∧
     K (((s.drop idy).renew id (.tr k 0 (rows ++ new))).put d (.own id k (rows.length + new.length)))
    | .tr _ _ rows=>k' = k ∧ n = rows.length ∧ (rows.length + new.length) * by_ ≤ 140737488355328 ∧
     K (((s.drop idy).renew id (.tr k 0 (rows ++ new))).put d (.own id k (rows.length + new.length)))
    | _=>False
   | _=>False
  | none=>False
@[congr] theorem yvo {k b : Nat} {s : St} {d : Option Nat} {x y : AV} {K : St → Prop} {a a' : Option (List (List C))} (h : a = a') : appG k b s d x K y a = appG k b s d x K y a':=by rw [h]
@[simp] theorem yza {k b : Nat} {s : St} {d : Option Nat} {x y : AV} {K : St → Prop} : ye4 k b s d x y K = appG k b s d x K y (yT s k y):=by
 unfold ye4 appG yhM
 cases yT s k y with
 | none=>rfl
 | some new=>cases x <;> rfl
@[congr] theorem yxr {k b : Nat} {s : St} {d : Option Nat} {x x' : AV} {K : St → Prop} {new : List (List C)} (h : x = x') : yhM k b s d x K new = yhM k b s d x' K new:=by rw [h]
@[simp] theorem yw2 {k b : Nat} {s : St} {d : Option Nat} {x y : AV} {K : St → Prop} {new : List (List C)} : appG k b s d x K y (some new) = yhM k b s d x K new:=rfl
@[simp] theorem yyP {k b q : Nat} {s : St} {d : Option Nat} {K : St → Prop} {new : List (List C)} : yhM k b s d (.nil q) K new = (new.length * b ≤ 140737488355328 ∧ newP s d (.row k new) (fun d=>.own d k new.length) K):=rfl
@[simp] theorem yw6 {k k' b : Nat} {s : St} {d : Option Nat} {K : St → Prop} {rows new : List (List C)} : yhM k b s d (.clip k' rows) K new =
 (k' = k ∧ (0 < new.length ∨ rows.length = 0) ∧ (rows.length + new.length) * b ≤ 140737488355328 ∧ newP s d (.row k (rows ++ new)) (fun d=>.own d k (rows.length + new.length)) K):=rfl
def ynn (k b : Nat) (s : St) (d : Option Nat) (id k' n : Nat) (new : List (List C)) (K : St → Prop) : Obj → Prop
 | .row _ rows=>k' = k ∧ n = rows.length ∧ (rows.length + new.length) * b ≤ 140737488355328 ∧ K ((s.renew id (.row k (rows ++ new))).put d (.own id k (rows.length + new.length)))
 | .tr _ _ rows=>k' = k ∧ n = rows.length ∧ (rows.length + new.length) * b ≤ 140737488355328 ∧ K ((s.renew id (.tr k 0 (rows ++ new))).put d (.own id k (rows.length + new.length)))
 | _=>False
@[congr] theorem ywD {k b : Nat} {s : St} {d : Option Nat} {id k' n : Nat} {new : List (List C)} {K : St → Prop} {a a' : Obj} (h : a = a') : ynn k b s d id k' n new K a = ynn k b s d id k' n new K a':=by rw [h]
@[simp] theorem yyA {k k' b id n : Nat} {s : St} {d : Option Nat} {K : St → Prop} {new : List (List C)} : yhM k b s d (.own id k' n) K new = ynn k b s d id k' n new K (s.ob id):=by first | rfl | (simp only [yhM,ynn]; done) | (simp only [yhM,ynn]; rfl)
@[simp] theorem yyJ {k k' b id n q : Nat} {s : St} {d : Option Nat} {K : St → Prop} {rows new : List (List C)} : ynn k b s d id k' n new K (.row q rows) =
 (k' = k ∧ n = rows.length ∧ (rows.length + new.length) * b ≤ 140737488355328 ∧ K ((s.renew id (.row k (rows ++ new))).put d (.own id k (rows.length + new.length)))):=rfl
@[simp] theorem appO_tr {k k' b id n q ver : Nat} {s : St} {d : Option Nat} {K : St → Prop} {rows new : List (List C)} : ynn k b s d id k' n new K (.tr q ver rows) =
 (k' = k ∧ n = rows.length ∧ (rows.length + new.length) * b ≤ 140737488355328 ∧ K ((s.renew id (.tr k 0 (rows ++ new))).put d (.own id k (rows.length + new.length)))):=rfl
def ylM (k b : Nat) (s : St) (d id ver : Nat) (i : Int) (j k' : Nat) (new : List (List C)) (K : St → Prop) : Obj → Prop
 | .tr k0 ver' rows=>ver' = ver ∧ match cellAt rows i.toNat j with
  | some (.ow k2 rs)=>k' = k ∧ k2 = k ∧ (rs.length + new.length) * b ≤ 140737488355328 ∧ (s.ob d).isNone = true ∧ K (((s.yP id (.tr k0 (ver + 1) (setAt rows i.toNat j .jk))).renew d (.row k (rs ++ new))).put (some d) (.own d k (rs.length + new.length)))
  | some (.ot k2 rs)=>k' = k ∧ k2 = k ∧ (rs.length + new.length) * b ≤ 140737488355328 ∧ (s.ob d).isNone = true ∧ K (((s.yP id (.tr k0 (ver + 1) (setAt rows i.toNat j .jk))).renew d (.tr k 0 (rs ++ new))).put (some d) (.own d k (rs.length + new.length)))
  | _=>False
 | _=>False
@[congr] theorem yxI {k b : Nat} {s : St} {d id ver : Nat} {i : Int} {j k' : Nat} {new : List (List C)} {K : St → Prop} {a a' : Obj} (h : a = a') : ylM k b s d id ver i j k' new K a = ylM k b s d id ver i j k' new K a':=by rw [h]
@[simp] theorem yAA {k k' b id ver n : Nat} {i : Int} {j : Nat} {s : St} {d : Nat} {K : St → Prop} {new : List (List C)} : yhM k b s (some d) (.sub id ver i j k' n) K new = ylM k b s d id ver i j k' new K (s.ob id):=by first | rfl | (simp only [yhM,ylM]; done) | (simp only [yhM,ylM]; rfl)
def yiI (k b : Nat) (s : St) (d id ver k0 : Nat) (rows : List (List C)) (i : Int) (j k' : Nat) (new : List (List C)) (K : St → Prop) : Option C → Prop
 | some (.ow k2 rs)=>k' = k ∧ k2 = k ∧ (rs.length + new.length) * b ≤ 140737488355328 ∧ (s.ob d).isNone = true ∧ K (((s.yP id (.tr k0 (ver + 1) (setAt rows i.toNat j .jk))).renew d (.row k (rs ++ new))).put (some d) (.own d k (rs.length + new.length)))
 | some (.ot k2 rs)=>k' = k ∧ k2 = k ∧ (rs.length + new.length) * b ≤ 140737488355328 ∧ (s.ob d).isNone = true ∧ K (((s.yP id (.tr k0 (ver + 1) (setAt rows i.toNat j .jk))).renew d (.tr k 0 (rs ++ new))).put (some d) (.own d k (rs.length + new.length)))
 | _=>False
@[congr] theorem yud {k b : Nat} {s : St} {d id ver k0 : Nat} {rows : List (List C)} {i : Int} {j k' : Nat} {new : List (List C)} {K : St → Prop} {a a' : Option C} (h : a = a') : yiI k b s d id ver k0 rows i j k' new K a = yiI k b s d id ver k0 rows i j k' new K a':=by rw [h]
@[simp] theorem appS_tr {k k' b id ver k0 ver' : Nat} {i : Int} {j : Nat} {s : St} {d : Nat} {K : St → Prop} {rows new : List (List C)} : ylM k b s d id ver i j k' new K (.tr k0 ver' rows) = (ver' = ver ∧ yiI k b s d id ver k0 rows i j k' new K (cellAt rows i.toNat j)):=by first | rfl | (simp only [ylM,yiI]; done) | (simp only [ylM,yiI]; rfl)
@[simp] theorem yAG {k k' k2 b id ver k0 : Nat} {i : Int} {j : Nat} {s : St} {d : Nat} {K : St → Prop} {rows rs new : List (List C)} : yiI k b s d id ver k0 rows i j k' new K (some (.ow k2 rs)) = (k' = k ∧ k2 = k ∧ (rs.length + new.length) * b ≤ 140737488355328 ∧ (s.ob d).isNone = true ∧ K (((s.yP id (.tr k0 (ver + 1) (setAt rows i.toNat j .jk))).renew d (.row k (rs ++ new))).put (some d) (.own d k (rs.length + new.length)))):=rfl
@[simp] theorem yyO {k k' k2 b id ver k0 : Nat} {i : Int} {j : Nat} {s : St} {d : Nat} {K : St → Prop} {rows rs new : List (List C)} : yiI k b s d id ver k0 rows i j k' new K (some (.ot k2 rs)) = (k' = k ∧ k2 = k ∧ (rs.length + new.length) * b ≤ 140737488355328 ∧ (s.ob d).isNone = true ∧ K (((s.yP id (.tr k0 (ver + 1) (setAt rows i.toNat j .jk))).renew d (.tr k 0 (rs ++ new))).put (some d) (.own d k (rs.length + new.length)))):=rfl
def ykU (k b : Nat) (s : St) (d : Option Nat) (x : AV) (K : St → Prop) : Option (Nat × List (List C)) → Prop
 | some (idy,new)=>match x with
  | .nil _=>new.length * b ≤ 140737488355328 ∧ newP (s.drop idy) d (.tr k 0 new) (fun d=>.own d k new.length) K
  | .own id k' n=>id ≠ idy ∧ match s.ob id with
   | .row _ rows=>k' = k ∧ n = rows.length ∧ (rows.length + new.length) * b ≤ 140737488355328 ∧
    K (((s.drop idy).renew id (.tr k 0 (rows ++ new))).put d (.own id k (rows.length + new.length)))
   | .tr _ _ rows=>k' = k ∧ n = rows.length ∧ (rows.length + new.length) * b ≤ 140737488355328 ∧
    K (((s.drop idy).renew id (.tr k 0 (rows ++ new))).put d (.own id k (rows.length + new.length)))
   | _=>False
  | _=>False
 | none=>False
@[congr] theorem ywO {k b : Nat} {s : St} {d : Option Nat} {x x' : AV} {K : St → Prop} {a a' : Option (Nat × List (List C))} (h : a = a') (h2 : x = x') : ykU k b s d x K a = ykU k b s d x' K a':=by rw [h,h2]
@[simp] theorem yxg {k b : Nat} {s : St} {d : Option Nat} {x y : AV} {K : St → Prop} : appG k b s d x K y none = ykU k b s d x K (ycX s k y):=by first | rfl | (simp only [appG,ykU]; done) | (simp only [appG,ykU]; rfl)
@[simp] theorem yxY {k b q idy : Nat} {s : St} {d : Option Nat} {K : St → Prop} {new : List (List C)} : ykU k b s d (.nil q) K (some (idy,new)) = (new.length * b ≤ 140737488355328 ∧ newP (s.drop idy) d (.tr k 0 new) (fun d=>.own d k new.length) K):=rfl
def yiZ (k b : Nat) (s : St) (d : Option Nat) (id k' n idy : Nat) (new : List (List C)) (K : St → Prop) : Obj → Prop
 | .row _ rows=>k' = k ∧ n = rows.length ∧ (rows.length + new.length) * b ≤ 140737488355328 ∧
  K (((s.drop idy).renew id (.tr k 0 (rows ++ new))).put d (.own id k (rows.length + new.length)))
 | .tr _ _ rows=>k' = k ∧ n = rows.length ∧ (rows.length + new.length) * b ≤ 140737488355328 ∧
  K (((s.drop idy).renew id (.tr k 0 (rows ++ new))).put d (.own id k (rows.length + new.length)))
 | _=>False
@[congr] theorem yun {k b : Nat} {s : St} {d : Option Nat} {id k' n idy : Nat} {new : List (List C)} {K : St → Prop} {a a' : Obj} (h : a = a') : yiZ k b s d id k' n idy new K a = yiZ k b s d id k' n idy new K a':=by rw [h]
@[simp] theorem yAP {k k' b id n idy : Nat} {s : St} {d : Option Nat} {K : St → Prop} {new : List (List C)} : ykU k b s d (.own id k' n) K (some (idy,new)) = (id ≠ idy ∧ yiZ k b s d id k' n idy new K (s.ob id)):=by first | rfl | (simp only [ykU,yiZ]; done) | (simp only [ykU,yiZ]; rfl)
@[simp] theorem ywx {k k' b id n idy q : Nat} {s : St} {d : Option Nat} {K : St → Prop} {rows new : List (List C)} : yiZ k b s d id k' n idy new K (.row q rows) = (k' = k ∧ n = rows.length ∧ (rows.length + new.length) * b ≤ 140737488355328 ∧
 K (((s.drop idy).renew id (.tr k 0 (rows ++ new))).put d (.own id k (rows.length + new.length)))):=rfl
@[simp] theorem yzq {k k' b id n idy q ver : Nat} {s : St} {d : Option Nat} {K : St → Prop} {rows new : List (List C)} : yiZ k b s d id k' n idy new K (.tr q ver rows) = (k' = k ∧ n = rows.length ∧ (rows.length + new.length) * b ≤ 140737488355328 ∧
 K (((s.drop idy).renew id (.tr k 0 (rows ++ new))).put d (.own id k (rows.length + new.length)))):=rfl
def ykZ (k k' id n : Nat) : Obj → Option (Nat × List (List C))
 | .tr _ _ rows=>if k' = k then some (id,rows.take n) else none
 | _=>none
@[simp] theorem ywa {s : St} {k k' id n : Nat} : ycX s k (.own id k' n) = ykZ k k' id n (s.ob id):=by first | rfl | (simp only [ycX,ykZ]; done) | (simp only [ycX,ykZ]; rfl)
@[simp] theorem yxm {k k' id n q ver : Nat} {rows : List (List C)} : ykZ k k' id n (.tr q ver rows) = if k' = k then some (id,rows.take n) else none:=rfl
@[simp] theorem yub {s : St} {k k' : Nat} {rows : List (List C)} : yT s k (.c (.sl k' rows)) = if k' = k then some rows else none:=rfl
@[simp] theorem yq1 {s : St} {k k' : Nat} {rows : List (List C)} : yT s k (.clip k' rows) = if k' = k then some rows else none:=rfl
@[simp] theorem ysa {s : St} {k n : Nat} : yT s k (.nil n) = some []:=rfl
def yrr (k k' n : Nat) : Obj → Option (List (List C))
 | .row _ rows=>if k' = k then some (rows.take n) else none
 | _=>none
@[simp] theorem yrV {s : St} {k k' id n : Nat} : yT s k (.own id k' n) = yrr k k' n (s.ob id):=by simp only [yT,yrr]; cases s.ob id <;> rfl
@[simp] theorem yzF {k k' n q : Nat} {rows : List (List C)} : yrr k k' n (.row q rows) = if k' = k then some (rows.take n) else none:=rfl
@[simp] theorem srcO_tr {k k' n q ver : Nat} {rows : List (List C)} : yrr k k' n (.tr q ver rows) = none:=rfl
def yk5 (k k' lo n : Nat) : Obj → Option (List (List C))
 | .row _ rows=>if k' = k then some ((rows.drop lo).take n) else none
 | _=>none
@[simp] theorem yrQ {s : St} {k k' id lo n : Nat} : yT s k (.cut id k' lo n) = yk5 k k' lo n (s.ob id):=by first | rfl | (simp only [yT,yk5]; done) | (simp only [yT,yk5]; rfl)
@[simp] theorem yuA {k k' lo n q : Nat} {rows : List (List C)} : yk5 k k' lo n (.row q rows) = if k' = k then some ((rows.drop lo).take n) else none:=rfl
def cpK (k : Nat) (s : St) (d : Option Nat) (x : AV) (K : St → Prop) : Option (List (List C)) → Prop
 | some new=>match x with
  | .own id k' n=>match s.ob id with
   | .row _ rows=>k' = k ∧ n ≤ rows.length ∧ K ((s.yP id (.row k (new.take n ++ rows.drop (min new.length n)))).put d (.c (.i (min new.length n : Nat))))
   | _=>False
  | _=>False
 | none=>False
@[congr] theorem yzc {k : Nat} {s : St} {d : Option Nat} {x : AV} {K : St → Prop} {a a' : Option (List (List C))} (h : a = a') : cpK k s d x K a = cpK k s d x K a':=by rw [h]
@[simp] theorem cpP_eq {k : Nat} {s : St} {d : Option Nat} {x y : AV} {K : St → Prop} : cpP k s d x y K = cpK k s d x K (yT s k y):=by first | rfl | (simp only [cpP,cpK]; done) | (simp only [cpP,cpK]; rfl)
def cpO (k : Nat) (s : St) (d : Option Nat) (id k' n : Nat) (new : List (List C)) (K : St → Prop) : Obj → Prop
 | .row _ rows=>k' = k ∧ n ≤ rows.length ∧ K ((s.yP id (.row k (new.take n ++ rows.drop (min new.length n)))).put d (.c (.i (min new.length n : Nat))))
 | _=>False
@[congr] theorem yAo {k : Nat} {s : St} {d : Option Nat} {id k' n : Nat} {new : List (List C)} {K : St → Prop} {a a' : Obj} (h : a = a') : cpO k s d id k' n new K a = cpO k s d id k' n new K a':=by rw [h]
@[simp] theorem cpK_own {k id k' n : Nat} {s : St} {d : Option Nat} {K : St → Prop} {new : List (List C)} : cpK k s d (.own id k' n) K (some new) = cpO k s d id k' n new K (s.ob id):=by first | rfl | (simp only [cpK,cpO]; done) | (simp only [cpK,cpO]; rfl)
@[simp] theorem cpO_row {k id k' n q : Nat} {s : St} {d : Option Nat} {K : St → Prop} {rows new : List (List C)} : cpO k s d id k' n new K (.row q rows) = (k' = k ∧ n ≤ rows.length ∧ K ((s.yP id (.row k (new.take n ++ rows.drop (min new.length n)))).put d (.c (.i (min new.length n : Nat))))):=rfl
@[simp] theorem yzZ {n : Nat} {K : AV → Prop} : yj5 (.nil n) K = K (.c (.i 0)):=rfl
@[simp] theorem yvD {k : Nat} {rows : List (List C)} {K : AV → Prop} : yj5 (.clip k rows) K = (rows.length ≤ maxLen → K (.c (.i rows.length))):=rfl
@[simp] theorem capP_sl {k : Nat} {rows : List (List C)} {K : AV → Prop} : yj5 (.c (.sl k rows)) K = ∀ n : Nat,rows.length ≤ n → n ≤ maxLen → K (.c (.i n)):=rfl
@[simp] theorem yyf {id k m : Nat} {K : AV → Prop} : yj5 (.own id k m) K = ∀ n : Nat,m ≤ n → n ≤ maxLen → K (.c (.i n)):=rfl
@[simp] theorem yAn {id o : Nat} {K : AV → Prop} : yhA (.box id o) K = K (.box id o):=rfl
@[simp] theorem yyh {id k o : Nat} {i : Int} {K : AV → Prop} : yhA (.row id k i o) K = K (.row id k i o):=rfl
@[simp] theorem yyw {cs : List C} {K : AV → Prop} : yhA (.elt cs) K = K (.elt cs):=rfl
@[simp] theorem seqP_f {a b : ByteArray} {k : AV → Prop} : yig false (.c (.s a)) (.c (.s b)) k = k (.c (.b (decide (a = b)))):=rfl
@[simp] theorem seqP_t {a b : ByteArray} {k : AV → Prop} : yig true (.c (.s a)) (.c (.s b)) k = k (.c (.b !decide (a = b))):=rfl
@[simp] theorem scatP_s {a b : ByteArray} {k : AV → Prop} : yfu (.c (.s a)) (.c (.s b)) k = (a.size + b.size ≤ maxLen ∧ k (.c (.s (a ++ b)))):=rfl
@[simp] theorem slsP_1 {a : ByteArray} {l h : Int} {K : AV → Prop} : yho (.c (.s a)) (some (.c (.i l))) (some (.c (.i h))) K = (0 ≤ l ∧ l ≤ h ∧ h ≤ a.size ∧ K (.c (.s (a.extract l.toNat h.toNat)))):=rfl
@[simp] theorem slsP_2 {a : ByteArray} {l : Int} {K : AV → Prop} : yho (.c (.s a)) (some (.c (.i l))) none K = (0 ≤ l ∧ l ≤ a.size ∧ K (.c (.s (a.extract l.toNat a.size)))):=rfl
@[simp] theorem slsP_3 {a : ByteArray} {h : Int} {K : AV → Prop} : yho (.c (.s a)) none (some (.c (.i h))) K = (0 ≤ h ∧ h ≤ a.size ∧ K (.c (.s (a.extract 0 h.toNat)))):=rfl
@[simp] theorem yyc {a b : Int} {k : AV → Prop} : yfl .and (.c (.i a)) (.c (.i b)) k = k (.c (.i (yrL a b))):=rfl
@[simp] theorem yye {a b : Int} {k : AV → Prop} : yfl .xor (.c (.i a)) (.c (.i b)) k = k (.c (.i (yq0 a b))):=rfl
@[simp] theorem yy7 {a b : Int} {k : AV → Prop} : yfl .shl (.c (.i a)) (.c (.i b)) k = (0 ≤ b ∧ k (.c (.i (yoq a b)))):=rfl
@[simp] theorem yvO {a : Nat} {b : Int} {k : AV → Prop} : yfl .shr (.c (.q a)) (.c (.i b)) k = (0 ≤ b ∧ k (.c (.q (a / 2 ^ (min b.toNat 64))))):=rfl
@[simp] theorem yzr {a b : Int} {k : AV → Prop} : yfl .shr (.c (.i a)) (.c (.i b)) k = (0 ≤ b ∧ k (.c (.i (ymA a b)))):=rfl
@[simp] theorem ywW {a b : Int} {k : AV → Prop} : yeN .add (.c (.i a)) (.c (.i b)) k = k (.c (.i (IntKind.i64.wrap (a + b)))):=rfl
@[simp] theorem yu9 {a b : Int} {k : AV → Prop} : yeN .mul (.c (.i a)) (.c (.i b)) k = k (.c (.i (IntKind.i64.wrap (a * b)))):=rfl
@[simp] theorem yvV {a b : Nat} {k : AV → Prop} : ycc .add (.c (.u a)) (.c (.u b)) k = k (.c (.u ((a + b) % 256))):=rfl
@[simp] theorem yvw {a b : Nat} {k : AV → Prop} : ycc .sub (.c (.u a)) (.c (.u b)) k = k (.c (.u ((a + 256 - b) % 256))):=rfl
@[simp] theorem ywk {a b : Nat} {k : AV → Prop} : ycc .eql (.c (.u a)) (.c (.u b)) k = k (.c (.b (decide (a = b)))):=rfl
@[simp] theorem yvI {a b : Nat} {k : AV → Prop} : ycc .neq (.c (.u a)) (.c (.u b)) k = k (.c (.b (!decide (a = b)))):=rfl
@[simp] theorem ywB {a b : Nat} {k : AV → Prop} : ycc .lss (.c (.u a)) (.c (.u b)) k = k (.c (.b (decide (a < b)))):=rfl
@[simp] theorem yxe {a b : Nat} {k : AV → Prop} : ycc .leq (.c (.u a)) (.c (.u b)) k = k (.c (.b (decide (a ≤ b)))):=rfl
@[simp] theorem yxh {a b : Nat} {k : AV → Prop} : ycc .gtr (.c (.u a)) (.c (.u b)) k = k (.c (.b (decide (b < a)))):=rfl
@[simp] theorem ywu {a b : Nat} {k : AV → Prop} : ycc .geq (.c (.u a)) (.c (.u b)) k = k (.c (.b (decide (b ≤ a)))):=rfl
@[simp] theorem cvtP_0u {s : St} {a : Nat} {k : AV → Prop} : ybX 0 s (.c (.u a)) k = k (.c (.i a)):=rfl
@[simp] theorem cvtP_0q {s : St} {a : Nat} {k : AV → Prop} : ybX 0 s (.c (.q a)) k = (a ≤ 9223372036854775807 ∧ k (.c (.i a))):=rfl
@[simp] theorem cvtP_3i {s : St} {a : Int} {k : AV → Prop} : ybX 3 s (.c (.i a)) k = (0 ≤ a ∧ k (.c (.q a.toNat))):=rfl
@[simp] theorem cvtP_0i {s : St} {a : Int} {k : AV → Prop} : ybX 0 s (.c (.i a)) k = k (.c (.i a)):=rfl
@[simp] theorem cvtP_1u {s : St} {a : Nat} {k : AV → Prop} : ybX 1 s (.c (.u a)) k = k (.c (.u a)):=rfl
@[simp] theorem cvtP_1i {s : St} {a : Int} {k : AV → Prop} : ybX 1 s (.c (.i a)) k = k (.c (.u (a % 256).toNat)):=rfl
def yog (k : AV → Prop) : Option (List (List C)) → Prop
 | some rows=>∃ l : List UInt8,rows = l.map ynm ∧ k (.c (.s ⟨l.toArray⟩))
 | none=>False
@[congr] theorem yw8 {k : AV → Prop} {a a' : Option (List (List C))} (h : a = a') : yog k a = yog k a':=by rw [h]
@[simp] theorem cvtP_2 {s : St} {x : AV} {k : AV → Prop} : ybX 2 s x k = yog k (yT s 1 x):=by first | rfl | (simp only [ybX,yog]; done) | (simp only [ybX,yog]; rfl)
@[simp] theorem ywi {k : AV → Prop} {rows : List (List C)} : yog k (some rows) = ∃ l : List UInt8,rows = l.map ynm ∧ k (.c (.s ⟨l.toArray⟩)):=rfl
@[simp ↓] theorem yvB {P : Program} {f : Nat} {l xs : List AV} {d : Option Nat} {s : St} {K : St → Prop} : yfc P (.fn f l) xs d s K = ((∃ fn,P.funcs[f]? = some fn ∧ fn.body.isSome = true ∧ (fn.name != "runtime.NumGoroutine") = true) ∧ ysE P f (xs ++ l) d s K ⟨⟩):=rfl
@[simp] theorem kill_c {id : Nat} {x : C} : (AV.c x).kill id = .c x:=rfl
@[simp] theorem yzd {id : Nat} : AV.any.kill id = .any:=rfl
@[simp] theorem yxO {id : Nat} : AV.und.kill id = .und:=rfl
@[simp] theorem yx3 {id n : Nat} : (AV.nil n).kill id = .nil n:=rfl
@[simp] theorem yAD {id i k lo n : Nat} : (AV.cut i k lo n).kill id = if i = id then .any else .cut i k lo n:=by
 simp only [AV.kill,AV.yat,AV.ybp]; by_cases h : i = id <;> simp [h]
@[simp] theorem yAK {id i ver : Nat} {n : Int} {j k m : Nat} : (AV.sub i ver n j k m).kill id = if i = id then .any else .sub i ver n j k m:=by
 simp only [AV.kill,AV.yat,AV.ybp]; by_cases h : i = id <;> simp [h]
@[simp] theorem yv5 {id i ver : Nat} {n : Int} {j k : Nat} {m : Int} {o : Nat} : (AV.ya4 i ver n j k m o).kill id = if i = id then .any else .ya4 i ver n j k m o:=by
 simp only [AV.kill,AV.yat,AV.ybp]; by_cases h : i = id <;> simp [h]
@[simp] theorem ywU {id n : Nat} : (AV.nil n).yat id = .nil n:=rfl
@[simp] theorem ywH {id : Nat} : AV.any.yat id = .any:=rfl
@[simp] theorem ytq {id k : Nat} {r : List (List C)} : (AV.clip k r).yat id = .clip k r:=rfl
@[simp] theorem yxt {id : Nat} {r : List C} : (AV.elt r).yat id = .elt r:=rfl
@[simp] theorem yvq {id i k n : Nat} : (AV.own i k n).yat id = if i = id then .any else .own i k n:=by
 simp only [AV.yat,AV.ybp]; by_cases h : i = id <;> simp [h]
@[simp] theorem ywt {id i o : Nat} : (AV.box i o).yat id = if i = id then .any else .box i o:=by
 simp only [AV.yat,AV.ybp]; by_cases h : i = id <;> simp [h]
@[simp] theorem yvT {id i k o : Nat} {n : Int} : (AV.row i k n o).yat id = if i = id then .any else .row i k n o:=by
 simp only [AV.yat,AV.ybp]; by_cases h : i = id <;> simp [h]
@[simp] theorem yxR {id k v : Nat} {l : List (List C)} : (Obj.tr k v l).kill id = .tr k v l:=rfl
@[simp] theorem yxf {id k : Nat} {r : List (List C)} : (AV.clip k r).kill id = .clip k r:=rfl
@[simp] theorem yyX {id : Nat} {r : List C} : (AV.elt r).kill id = .elt r:=rfl
@[simp] theorem yAw {id i o : Nat} : (AV.box i o).kill id = if i = id then .any else .box i o:=by
 simp only [AV.kill,AV.yat,AV.ybp]; by_cases h : i = id <;> simp [h]
@[simp] theorem yzo {id i k n : Nat} : (AV.own i k n).kill id = if i = id then .any else .own i k n:=by
 simp only [AV.kill,AV.yat,AV.ybp]; by_cases h : i = id <;> simp [h]
@[simp] theorem yy8 {id i k o : Nat} {n : Int} : (AV.row i k n o).kill id = if i = id then .any else .row i k n o:=by
 simp only [AV.kill,AV.yat,AV.ybp]; by_cases h : i = id <;> simp [h]
@[simp] theorem kill1_c {id : Nat} {x : C} : (AV.c x).yat id = .c x:=rfl
@[simp] theorem yvX {id : Nat} {l : List C} : (AV.agg (l.map .c)).kill id = .agg (l.map .c):=by simp [AV.kill]
@[simp] theorem yAy {id : Nat} {l : List AV} : (AV.agg l).kill id = .agg (l.map (AV.yat id)):=rfl
@[simp] theorem ywC {id : Nat} {l : List AV} : (Obj.box l).kill id = .box (l.map (AV.yat id)):=rfl
@[simp] theorem yvv {id k : Nat} {l : List (List C)} : (Obj.row k l).kill id = .row k l:=rfl
@[simp] theorem ytP {id : Nat} : Obj.none.kill id = .none:=rfl
@[simp ↓] theorem ywy {s : St} {l : List AV} {K : List AV → Prop} : ycF s [] l K = K l:=rfl
@[simp ↓] theorem yuT {s : St} {o n : Nat} {x : X} {ps : List (Nat × Nat × X)} {l : List AV} {K : List AV → Prop} : ycF s ((o,n,x) :: ps) l K =
 ((s.ev x).cellsOf.length = n ∧ (s.ev x).cellsOf.all AV.yS = true ∧ o + n ≤ l.length ∧ ycF s ps (l.take o ++ (s.ev x).cellsOf ++ l.drop (o + n)) K):=rfl
@[simp] theorem out1_c {s : St} {z : C} {y : AV} : out1 s (.c z) y = (y = .c z):=rfl
@[simp] theorem yvA {s : St} {k : Nat} {r : List (List C)} {y : AV} : out1 s (.clip k r) y = (y = .c (.sl k r)):=rfl
@[simp] theorem yAk {s : St} {n : Nat} {y : AV} : out1 s (.nil n) y = ((∃ k,y = .c (.sl k [])) ∨ ∃ k,y = .nil k):=rfl
@[simp] theorem yzS {s : St} {cs : List C} {y : AV} : out1 s (.elt cs) y = (y = .elt cs):=rfl
def ypx (k : Nat) (y : AV) : Option (List (List C)) → Prop
 | some r=>y = .c (.sl k r)
 | none=>False
@[simp] theorem ywg {k : Nat} {y : AV} {r : List (List C)} : ypx k y (some r) = (y = .c (.sl k r)):=rfl
def yqg (k n : Nat) (y : AV) : Obj → Prop
 | .row _ rows=>y = .c (.sl k (rows.take n))
 | .tr _ _ rows=>ypx k y (yiW (rows.take n))
 | _=>False
@[simp] theorem yo7 {s : St} {id k n : Nat} {y : AV} : out1 s (.own id k n) y = yqg k n y (s.ob id):=by simp only [out1,yqg]; cases s.ob id <;> rfl
@[simp] theorem yzE {k n q : Nat} {rows : List (List C)} {y : AV} : yqg k n y (.row q rows) = (y = .c (.sl k (rows.take n))):=rfl
@[simp] theorem outO_tr {k n q ver : Nat} {rows : List (List C)} {y : AV} : yqg k n y (.tr q ver rows) = ypx k y (yiW (rows.take n)):=rfl
def ykX (k lo n : Nat) (y : AV) : Obj → Prop
 | .row _ rows=>y = .c (.sl k ((rows.drop lo).take n))
 | _=>False
@[simp] theorem yp7 {s : St} {id k lo n : Nat} {y : AV} : out1 s (.cut id k lo n) y = ykX k lo n y (s.ob id):=by simp only [out1,ykX]; cases s.ob id <;> rfl
@[simp] theorem ys3 {k lo n q : Nat} {rows : List (List C)} {y : AV} : ykX k lo n y (.row q rows) = (y = .c (.sl k ((rows.drop lo).take n))):=rfl
def ym2 (y : AV) : Option C → Prop
 | some c=>match c.shr with
  | some z=>y = .c z
  | none=>False
 | none=>False
def yqp (ver : Nat) (i : Int) (j : Nat) (y : AV) : Obj → Prop
 | .tr _ ver' rows=>ver' = ver ∧ ym2 y (cellAt rows i.toNat j)
 | _=>False
@[simp] theorem yqh {s : St} {id ver : Nat} {i : Int} {j k n : Nat} {y : AV} : out1 s (.sub id ver i j k n) y = yqp ver i j y (s.ob id):=by first | rfl | (simp only [out1,yqp,ym2]; done) | (simp only [out1,yqp,ym2]; rfl)
@[simp] theorem outS_tr {ver k0 ver' : Nat} {i : Int} {j : Nat} {y : AV} {rows : List (List C)} : yqp ver i j y (.tr k0 ver' rows) = (ver' = ver ∧ ym2 y (cellAt rows i.toNat j)):=rfl
@[simp] theorem outC_ow {k : Nat} {rows : List (List C)} {y : AV} : ym2 y (some (.ow k rows)) = (y = .c (.sl k rows)):=rfl
@[simp] theorem outC_ot {k : Nat} {rows : List (List C)} {y : AV} : ym2 y (some (.ot k rows)) = ypx k y (yiW rows):=by
 simp only [ym2,C.shr,ypx]; cases yiW rows <;> rfl
@[simp] theorem yvy {s : St} : ycb s [] [] = True:=rfl
@[simp] theorem yuR {s : St} {x y : AV} {l l' : List AV} : ycb s (x :: l) (y :: l') = (out1 s x y ∧ ycb s l l'):=rfl
@[simp] theorem yw1 {s : St} {l : List C} : ycb s (l.map .c) (l.map .c) = True:=by
 induction l with
 | nil=>rfl
 | cons x l ih=>simp [ih]
@[simp] theorem yAE {s : St} {l l' : List AV} : ybi s (.agg l) (.agg l') = ycb s l l':=rfl
@[simp] theorem out2_c {s : St} {z : C} {y : AV} : ybi s (.c z) y = (y = .c z):=rfl
@[simp] theorem yvY {s : St} {k : Nat} {r : List (List C)} {y : AV} : ybi s (.clip k r) y = (y = .c (.sl k r)):=rfl
@[simp] theorem yz8 {s : St} {n : Nat} {y : AV} : ybi s (.nil n) y = ((∃ k,y = .c (.sl k [])) ∨ ∃ k,y = .nil k):=rfl
@[simp] theorem yzV {s : St} {cs : List C} {y : AV} : ybi s (.elt cs) y = (y = .elt cs):=rfl
@[simp] theorem yyd {s : St} {id k lo n : Nat} {y : AV} : ybi s (.cut id k lo n) y = ykX k lo n y (s.ob id):=yp7
@[simp] theorem yyW {s : St} {id ver : Nat} {i : Int} {j k n : Nat} {y : AV} : ybi s (.sub id ver i j k n) y = yqp ver i j y (s.ob id):=yqh (k:=k) (n:=n)
@[simp] theorem out2_fn {s : St} {f f' : Nat} {l l' : List AV} : ybi s (.fn f l) (.fn f' l') = (f = f' ∧ ycb s l l'):=rfl
def yq3 (s : St) (off : Nat) (cs : List C) : Obj → Prop
 | .box cells=>ycb s (cells.drop off) (cs.map .c)
 | _=>False
@[simp] theorem yyk {s : St} {id off : Nat} {cs : List C} : ybi s (.box id off) (.elt cs) = yq3 s off cs (s.ob id):=by first | rfl | (simp only [ybi,yq3]; done) | (simp only [ybi,yq3]; rfl)
@[simp] theorem yzw {s : St} {off : Nat} {cs : List C} {cells : List AV} : yq3 s off cs (.box cells) = ycb s (cells.drop off) (cs.map .c):=rfl
@[simp] theorem yAc {s : St} {id k n : Nat} {y : AV} : ybi s (.own id k n) y = yqg k n y (s.ob id):=yo7
@[simp] theorem ywc {s : St} : ybq s [] [] = True:=rfl
@[simp] theorem yu2 {s : St} {x y : AV} {l l' : List AV} : ybq s (x :: l) (y :: l') = (ybi s x y ∧ ybq s l l'):=rfl
@[simp] theorem yzk {s : St} {r : RS} {y : AV} : yd3 s [r] y = ydj s r y:=rfl
@[simp] theorem yzU {s : St} {r r' : RS} {y : AV} : yd3 s [r,r'] y = ∃ ys,y = .tup ys ∧ ye8 s [r,r'] ys:=rfl
@[simp] theorem yuB {s : St} {r r' r2 : RS} {y : AV} : yd3 s [r,r',r2] y = ∃ ys,y = .tup ys ∧ ye8 s [r,r',r2] ys:=rfl
@[simp] theorem yu0 {s : St} : ye8 s [] [] = True:=rfl
@[simp] theorem yrU {s : St} {r : RS} {rs : List RS} {y : AV} {ys : List AV} : ye8 s (r :: rs) (y :: ys) = (ydj s r y ∧ ye8 s rs ys):=rfl
@[simp] theorem yyl {s : St} {n : Nat} {y : AV} : ydj s (.t n) y = ybi s (s.env n) y:=rfl
def clA (s : St) (k : Nat) (y : AV) : AV → Prop
 | .box id 0=>match s.ob id with
  | .box cells=>cells.length = k ∧ ybi s (.agg cells) y
  | _=>False
 | _=>False
@[congr] theorem yzY {s : St} {k : Nat} {y a a' : AV} (h : a = a') : clA s k y a = clA s k y a':=by rw [h]
@[simp] theorem ywP {s : St} {n k : Nat} {y : AV} : ydj s (.cl n k) y = clA s k y (s.env n):=by
 simp only [ydj,clA]
 cases s.env n with
 | box id o=>cases o <;> rfl
 | _=>rfl
def clO (s : St) (k : Nat) (y : AV) : Obj → Prop
 | .box cells=>cells.length = k ∧ ybi s (.agg cells) y
 | _=>False
@[simp] theorem clA_box {s : St} {k id : Nat} {y : AV} : clA s k y (.box id 0) = clO s k y (s.ob id):=by first | rfl | (simp only [clA,clO]; done) | (simp only [clA,clO]; rfl)
@[simp] theorem clO_box {s : St} {k : Nat} {y : AV} {cells : List AV} : clO s k y (.box cells) = (cells.length = k ∧ ybi s (.agg cells) y):=rfl
end
@[simp] theorem ysq {k k' : Nat} {r r' : List (List C)} : (Obj.row k r).leO (.row k' r') = (Obj.row k r = .row k' r'):=rfl
@[simp] theorem ytJ {k k' v : Nat} {r r' : List (List C)} : (Obj.row k r).leO (.tr k' v r') = (k = k' ∧ r = r'):=rfl
@[simp] theorem ywK {k k' v v' : Nat} {r r' : List (List C)} : (Obj.tr k v r).leO (.tr k' v' r') = (k = k' ∧ r = r'):=rfl
@[simp] theorem yr8 {l l' : List AV} : (Obj.box l).leO (.box l') = (Obj.box l = .box l'):=rfl
def ints (l : List Int) : List (List C):=l.map fun n=>[.i n]
@[simp] theorem ysh {l : List Int} : (ints l).length = l.length:=by simp [ints]
end Go.Proofs.Ytefegahoniahkaa
