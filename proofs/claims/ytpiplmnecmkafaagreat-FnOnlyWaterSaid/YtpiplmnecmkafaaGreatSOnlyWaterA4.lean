/- What the law FnOnlyWater stands on: the machine, in short form (names, layout). -/
import Derived.Test.YtpiplmnecmkafaaGreatSOnlyWaterA3
set_option linter.all false
namespace Go.Proofs.YtpiplmnecmkafaaGreat
open Go.RowKit
structure Tag {α : Type} (K : α) : Type where
def yB9 (P : Program) (f : Nat) (xs : List AV) (d : Option Nat) (s : St) (K : St → Prop) (_ : Tag K) : Prop:=yfo P f xs d s K
def ysj (P : Program) (f : Nat) (xs : List AV) (ob : Nat → Obj) (k : AV → Prop) (_ : Tag k) : Prop:=yrT P f xs ob k
def loopT (P : Program) (N : Nat) (c : SC) (s : St) (Q : Ex → St → Prop) (_ : Tag Q) : Prop:=yld P N c s Q
section
variable {P : Program} {N : Nat}
@[congr] theorem yEJ {d : Option Nat} {op op' : IOp} {s : St} {K : St → Prop} (h : op = op') : yV P d op s K = yV P d op' s K:=by rw [h]
@[congr] theorem yFI {op op' : IOp} {ev : X → AV} {ob : Nat → Obj} {k : AV → Prop} (h : op = op') : yaO P op ev ob k = yaO P op' ev ob k:=by rw [h]
@[congr] theorem yF5 {Q Q' : Ex → St → Prop} {e : Ex} {s s' : St} (h : s = s') : Ex.then Q Q' e s = Ex.then Q Q' e s':=by rw [h]
@[congr] theorem yBa {Q : Ex → St → Prop} {n : Nat} {e : Ex} {s s' : St} (h : s = s') : Ex.inBlock n Q e s = Ex.inBlock n Q e s':=by rw [h]
@[congr] theorem yGY {s s' : St} {d : Option Nat} {o o' : Obj} {v : Nat → AV} {K : St → Prop} (h : s = s') (h2 : o = o') : newP s d o v K = newP s' d o' v K:=by rw [h,h2]
@[congr] theorem yEv {s : St} {ps : List (Nat × Nat × X)} {l l' : List AV} {K : List AV → Prop} (h : l = l') : yfh s ps l K = yfh s ps l' K:=by rw [h]
@[congr] theorem yKK {c : SC} {s s' : St} {Q : Ex → St → Prop} (h : s = s') : wpS P N c s Q = wpS P N c s' Q:=by rw [h]
@[congr] theorem yKG {l : List Ins} {s s' : St} {K : St → Prop} (h : s = s') : wpI P l s K = wpI P l s' K:=by rw [h]
@[congr] theorem yKx {n : Nat} {l : List RIns} {h : List (Nat × Lab)} {s s' : St} {K : St → Prop} (hs : s = s') : wpE P n l h s K = wpE P n l h s' K:=by rw [hs]
@[congr] theorem yKA {l : List Ins} {s s' : St} {K : St → Prop} (h : s = s') : wpQ P l s K = wpQ P l s' K:=by rw [h]
@[congr] theorem yCF {c c' a a' b b' : AV} {k : AV → Prop} (h1 : c = c') (h2 : a = a') (h3 : b = b') : yf1 c a b k = yf1 c' a' b' k:=by rw [h1,h2,h3]
@[congr] theorem yFj {o : BinOp} {a a' b b' : AV} {k : AV → Prop} (h2 : a = a') (h3 : b = b') : ypb o a b k = ypb o a' b' k:=by rw [h2,h3]
@[congr] theorem yG4 {o : Bool} {a a' b b' : AV} {k : AV → Prop} (h2 : a = a') (h3 : b = b') : ynB o a b k = ynB o a' b' k:=by rw [h2,h3]
@[congr] theorem yFg {a a' : AV} {k : AV → Prop} (h2 : a = a') : ytk a k = ytk a' k:=by rw [h2]
@[congr] theorem yFN {a a' : AV} {k : AV → Prop} (h2 : a = a') : notP a k = notP a' k:=by rw [h2]
@[congr] theorem yGF {a a' : AV} {k : AV → Prop} (h2 : a = a') : ypq a k = ypq a' k:=by rw [h2]
@[congr] theorem yFp {o : Nat} {s : St} {a a' b b' : AV} {k : AV → Prop} (h2 : a = a') (h3 : b = b') : yiC o s a b k = yiC o s a' b' k:=by rw [h2,h3]
@[congr] theorem yHi {o n : Nat} {a a' b b' : AV} {k : AV → Prop} (h2 : a = a') (h3 : b = b') : ypc o n a b k = ypc o n a' b' k:=by rw [h2,h3]
@[congr] theorem yHw {o : Nat} {s : St} {a a' : AV} {k : AV → Prop} (h2 : a = a') : yjb o s a k = yjb o s a' k:=by rw [h2]
@[congr] theorem yFi {s : St} {a a' : AV} {k : AV → Prop} (h2 : a = a') : yhV s a k = yhV s a' k:=by rw [h2]
@[congr] theorem yGI {o : Nat} {s : St} {a a' : AV} {k : AV → Prop} (h2 : a = a') : yhX o s a k = yhX o s a' k:=by rw [h2]
@[congr] theorem yF7 {s : St} {a a' b b' : AV} {k : St → Prop} (h2 : a = a') (h3 : b = b') : yhW s a b k = yhW s a' b' k:=by rw [h2,h3]
@[congr] theorem yGc {o : Nat} {s : St} {a a' b b' : AV} {k : St → Prop} (h2 : a = a') (h3 : b = b') : ykn o s a b k = ykn o s a' b' k:=by rw [h2,h3]
@[congr] theorem yFz {o : Nat} {s : St} {d : Option Nat} {a a' : AV} {k : St → Prop} (h2 : a = a') : yyl o s d a k = yyl o s d a' k:=by rw [h2]
@[congr] theorem yHp {o n : Nat} {z : List C} {s : St} {d : Option Nat} {a a' b b' : AV} {k : St → Prop} (h2 : a = a') (h3 : b = b') : ysJ o n z s d a b k = ysJ o n z s d a' b' k:=by rw [h2,h3]
@[congr] theorem yFs {o : Nat} {s : St} {d : Option Nat} {a a' : List AV} {k : St → Prop} (h2 : a = a') : ynF o a s d k = ynF o a' s d k:=by rw [h2]
@[congr] theorem yFf {o : Nat} {a a' : AV} {l l' h h' m m' : Option AV} {k : AV → Prop} (h2 : a = a') (h3 : l = l') (h4 : h = h') (h5 : m = m') : yig o a l h m k = yig o a' l' h' m' k:=by rw [h2,h3,h4,h5]
@[congr] theorem yFG {o n : Nat} {s : St} {a a' b b' : AV} {k : AV → Prop} (h2 : a = a') (h3 : b = b') : ymA o n s a b k = ymA o n s a' b' k:=by rw [h2,h3]
@[congr] theorem yGQ {s : St} {a a' : AV} {k : AV → Prop} (h2 : a = a') : yhK s a k = yhK s a' k:=by rw [h2]
@[congr] theorem yDu {a a' : AV} {k : AV → Prop} (h2 : a = a') : yiR a k = yiR a' k:=by rw [h2]
@[congr] theorem yFP {o n : Nat} {s : St} {d : Option Nat} {a a' b b' : AV} {k : St → Prop} (h2 : a = a') (h3 : b = b') : yiK o n s d a b k = yiK o n s d a' b' k:=by rw [h2,h3]
@[congr] theorem yIH {f : Int → Int → Int} {a a' : List AV} {k : AV → Prop} (h2 : a = a') : mmP f a k = mmP f a' k:=by rw [h2]
@[congr] theorem yE0 {o : Nat} {a a' : AV} {k : AV → Prop} (h2 : a = a') : ynG o a k = ynG o a' k:=by rw [h2]
@[congr] theorem yE2 {a a' b b' : AV} {k : AV → Prop} (h2 : a = a') (h3 : b = b') : yqc a b k = yqc a' b' k:=by rw [h2,h3]
@[congr] theorem yCk {f f' : AV} {l l' : List AV} {d : Option Nat} {s : St} {K : St → Prop} (h : f = f') (h2 : l = l') : yiV P f l d s K = yiV P f' l' d s K:=by rw [h,h2]
@[congr] theorem yHK {o : Nat} {s : St} {d : Option Nat} {a a' b b' : AV} {k : St → Prop} (h2 : a = a') (h3 : b = b') : cpP o s d a b k = cpP o s d a' b' k:=by rw [h2,h3]
@[congr] theorem yFD {a a' : AV} {k : AV → Prop} (h2 : a = a') : yqE a k = yqE a' k:=by rw [h2]
@[congr] theorem yF9 {a a' : AV} {k : AV → Prop} (h2 : a = a') : ymF a k = ymF a' k:=by rw [h2]
@[congr] theorem yVu {s s' : St} {a a' b b' c c' : AV} {K : St → Prop} (h : s = s') (h2 : a = a') (h3 : b = b') (h4 : c = c') : yVb s a b c K = yVb s' a' b' c' K:=by rw [h,h2,h3,h4]
@[congr] theorem yWf {n : Nat} {a a' b b' : AV} {k : AV → Prop} (h2 : a = a') (h3 : b = b') : yV9 n a b k = yV9 n a' b' k:=by rw [h2,h3]
@[congr] theorem yVw {s s' : St} {a a' b b' : AV} {k : AV → Prop} (h : s = s') (h2 : a = a') (h3 : b = b') : yVa s a b k = yVa s' a' b' k:=by rw [h,h2,h3]
@[congr] theorem yFB {o : Bool} {a a' b b' : AV} {k : AV → Prop} (h2 : a = a') (h3 : b = b') : ynl o a b k = ynl o a' b' k:=by rw [h2,h3]
@[congr] theorem yRU {o : Bool} {q : Nat} {a a' b b' : AV} {k : AV → Prop} (h2 : a = a') (h3 : b = b') : yQC o q a b k = yQC o q a' b' k:=by rw [h2,h3]
@[congr] theorem yCB {a a' b b' : AV} {k : AV → Prop} (h2 : a = a') (h3 : b = b') : yjd a b k = yjd a' b' k:=by rw [h2,h3]
@[congr] theorem yFx {a a' : AV} {l l' h h' : Option AV} {k : AV → Prop} (h2 : a = a') (h3 : l = l') (h4 : h = h') : ymC a l h k = ymC a' l' h' k:=by rw [h2,h3,h4]
@[congr] theorem yE3 {o : BinOp} {a a' b b' : AV} {k : AV → Prop} (h2 : a = a') (h3 : b = b') : yiP o a b k = yiP o a' b' k:=by rw [h2,h3]
@[congr] theorem yC5 {o : BinOp} {a a' b b' : AV} {k : AV → Prop} (h2 : a = a') (h3 : b = b') : yeG o a b k = yeG o a' b' k:=by rw [h2,h3]
@[congr] theorem yDG {o : BinOp} {a a' b b' : AV} {k : AV → Prop} (h2 : a = a') (h3 : b = b') : yip o a b k = yip o a' b' k:=by rw [h2,h3]
@[congr] theorem yG6 {o : Nat} {s : St} {a a' : AV} {k : AV → Prop} (h2 : a = a') : yen o s a k = yen o s a' k:=by rw [h2]
@[congr] theorem yCt {a a' : AV} {v : Bool} {A B : Prop} (h : a = a') : ydy a v A B = ydy a' v A B:=by rw [h]
@[congr] theorem yDp {a a' : AV} {A B : Prop} (h : a = a') : yj3 a A B = yj3 a' A B:=by rw [h]
@[simp ↓] theorem yJQ {s : St} {Q : Ex → St → Prop} : wpS P N .skip s Q = Q .normal s:=rfl
@[simp ↓] theorem wpS_reg {l : List Ins} {s : St} {Q : Ex → St → Prop} : wpS P N (.reg l) s Q = wpI P l s (Q .normal):=rfl
@[simp ↓] theorem yJd {l : List Ins} {s : St} {Q : Ex → St → Prop} : wpS P N (.regq l) s Q = wpQ P l s (Q .normal):=rfl
@[simp ↓] theorem yH9 {l : List RIns} {s : St} {Q : Ex → St → Prop} : wpS P N (.rege l) s Q = wpE P 0 l [] s (Q .normal):=rfl
@[simp ↓] theorem wpS_seq {a b : SC} {s : St} {Q : Ex → St → Prop} : wpS P N (.seq a b) s Q = wpS P N a s (Ex.then (fun _ s'=>wpS P N b s' Q) Q):=rfl
@[simp ↓] theorem wpS_cond {x : X} {a b : SC} {s : St} {Q : Ex → St → Prop} : wpS P N (.cond x a b) s Q = yj3 (s.ev x) (wpS P N a s Q) (wpS P N b s Q):=rfl
@[simp ↓] theorem yFr {n : Nat} {c : SC} {s : St} {Q : Ex → St → Prop} : wpS P N (.block n c) s Q = wpS P N c s (Ex.inBlock n Q):=rfl
@[simp ↓] theorem yIs {c : SC} {s : St} {Q : Ex → St → Prop} : wpS P N (.loop c) s Q = loopT P N c s Q ⟨⟩:=rfl
@[simp ↓] theorem yKb {n : Nat} {s : St} {Q : Ex → St → Prop} : wpS P N (.exit n) s Q = Q (.exit n) s:=rfl
@[simp ↓] theorem wpS_ret {s : St} {Q : Ex → St → Prop} : wpS P N .ret s Q = Q .ret s:=rfl
@[simp ↓] theorem yCh {Q Q' : Ex → St → Prop} {s : St} : Ex.then Q Q' .normal s = Q .normal s:=rfl
@[simp ↓] theorem yGy {Q Q' : Ex → St → Prop} {n : Nat} {s : St} : Ex.then Q Q' (.exit n) s = Q' (.exit n) s:=rfl
@[simp ↓] theorem yI9 {Q Q' : Ex → St → Prop} {s : St} : Ex.then Q Q' .ret s = Q' .ret s:=rfl
@[simp ↓] theorem yyU {Q : Ex → St → Prop} {n : Nat} {s : St} : Ex.inBlock n Q .normal s = Q .normal s:=rfl
@[simp ↓] theorem yBO {Q : Ex → St → Prop} {n : Nat} {s : St} : Ex.inBlock n Q .ret s = Q .ret s:=rfl
@[simp ↓] theorem yBB {Q : Ex → St → Prop} {n m : Nat} {s : St} : Ex.inBlock n Q (.exit m) s = if m = n then Q .normal s else Q (.exit m) s:=rfl
@[simp ↓] theorem wpI_nil {s : St} {K : St → Prop} : wpI P [] s K = K s:=rfl
@[simp ↓] theorem yHP {d : Option Nat} {op : IOp} {l : List Ins} {s : St} {K : St → Prop} : wpI P (⟨none,d,op⟩ :: l) s K = yV P d op s fun s'=>wpI P l s' K:=rfl
def ydc (x : AV) (t : Nat) (want : Bool) (s : St) (A B : St → Prop) : Prop :=
 match x with
 | .c (.b v)=>(v = want → A (s.put (some t) (.c (.b want)))) ∧ (v = (!want) → B (s.put (some t) (.c (.b (!want)))))
 | .und=>B s
 | _=>False
theorem ylU {s : St} {t : Nat} {v : AV} (h : s.env t = v) : s.put (some t) v = s:=by
 obtain ⟨env,objs⟩:=s
 simp only [St.put]
 congr 1
 funext n
 unfold upd
 split
 ·rename_i e; subst e; exact h.symm
 ·rfl
theorem yl2 {t : Nat} {want : Bool} {s : St} {A B : St → Prop} : ydy (s.env t) want (A s) (B s) = ydc (s.env t) t want s A B:=by
 unfold ydy ydc
 cases h : s.env t with
 | c x=>cases x with
  | b v =>
   apply propext
   constructor
   ·rintro ⟨h1,h2⟩
    exact ⟨fun e=>by rw [ylU (by rw [h,e])]; exact h1 e,fun e=>by rw [ylU (by rw [h,e])]; exact h2 e⟩
   ·rintro ⟨h1,h2⟩
    refine ⟨fun e=>?_,fun e=>?_⟩
    ·have:=h1 e; rwa [ylU (by rw [h,e])] at this
    ·have:=h2 e; rwa [ylU (by rw [h,e])] at this
  | _=>rfl
 | _=>rfl
@[congr] theorem yCz {a a' : AV} {t : Nat} {v : Bool} {s : St} {A B : St → Prop} (h : a = a') : ydc a t v s A B = ydc a' t v s A B:=by rw [h]
@[simp] theorem yIv {t : Nat} {v want : Bool} {s : St} {A B : St → Prop} : ydc (.c (.b v)) t want s A B = ((v = want → A (s.put (some t) (.c (.b want)))) ∧ (v = (!want) → B (s.put (some t) (.c (.b (!want)))))):=rfl
@[simp high] theorem yHl {t : Nat} {s : St} {A B : St → Prop} : ydc (.c (.b true)) t true s A B = A (s.put (some t) (.c (.b true))):=by simp [ydc]
@[simp high] theorem yGX {t : Nat} {s : St} {A B : St → Prop} : ydc (.c (.b true)) t false s A B = B (s.put (some t) (.c (.b true))):=by simp [ydc]
@[simp high] theorem yHq {t : Nat} {s : St} {A B : St → Prop} : ydc (.c (.b false)) t true s A B = B (s.put (some t) (.c (.b false))):=by simp [ydc]
@[simp high] theorem yFR {t : Nat} {s : St} {A B : St → Prop} : ydc (.c (.b false)) t false s A B = A (s.put (some t) (.c (.b false))):=by simp [ydc]
@[simp] theorem yDh {t : Nat} {want : Bool} {s : St} {A B : St → Prop} : ydc .und t want s A B = B s:=rfl
@[simp ↓] theorem yFh {t : Nat} {v : Bool} {d : Option Nat} {op : IOp} {l : List Ins} {s : St} {K : St → Prop} :
 wpI P (⟨some (t,v),d,op⟩ :: l) s K = ydc (s.env t) t v s (fun s=>yV P d op s fun s'=>wpI P l s' K) (fun s=>wpI P l (s.put d .und) K) :=
 yl2 (A:=fun s=>yV P d op s fun s'=>wpI P l s' K) (B:=fun s=>wpI P l (s.put d .und) K)
@[simp ↓] theorem wpQ_nil {s : St} {K : St → Prop} : wpQ P [] s K = K s:=rfl
@[simp ↓] theorem yJy {d : Option Nat} {op : IOp} {l : List Ins} {s : St} {K : St → Prop} : wpQ P (⟨none,d,op⟩ :: l) s K = yaO P op s.ev s.objs fun v=>wpQ P l (s.put d v) K:=rfl
@[simp ↓] theorem yF0 {t : Nat} {v : Bool} {d : Option Nat} {op : IOp} {l : List Ins} {s : St} {K : St → Prop} :
 wpQ P (⟨some (t,v),d,op⟩ :: l) s K = ydc (s.env t) t v s (fun s=>yaO P op s.ev s.objs fun v=>wpQ P l (s.put d v) K) (fun s=>wpQ P l (s.put d .und) K):=by
 have e : wpQ P (⟨some (t,v),d,op⟩ :: l) s K = ydy (s.env t) v (yaO P op s.ev s.objs fun v=>wpQ P l (s.put d v) K) (wpQ P l (s.put d .und) K):=rfl
 rw [e]
 exact yl2 (A:=fun s=>yaO P op s.ev s.objs fun v=>wpQ P l (s.put d v) K) (B:=fun s=>wpQ P l (s.put d .und) K)
@[simp ↓] theorem wpE_nil {n : Nat} {h : List (Nat × Lab)} {s : St} {K : St → Prop} : wpE P n [] h s K = K s:=by simp only [wpE]
@[simp] theorem yE5 {a0} : (IOp.mv a0).yaf = false:=rfl
@[simp] theorem yCO {a0} : (IOp.neg a0).yaf = false:=rfl
@[simp] theorem yEH {a0} : (IOp.isn a0).yaf = false:=rfl
@[simp] theorem yD1 {a0 a1} : (IOp.fld a0 a1).yaf = false:=rfl
@[simp] theorem yCX {a0} : (IOp.ld1 a0).yaf = false:=rfl
@[simp] theorem yEN {a0 a1} : (IOp.ldn a0 a1).yaf = false:=rfl
@[simp] theorem yC0 {a0 a1} : (IOp.ext a0 a1).yaf = false:=rfl
@[simp] theorem yDQ {a0} : (IOp.len a0).yaf = false:=rfl
@[simp] theorem yBP {a0} : (IOp.slen a0).yaf = false:=rfl
@[simp] theorem yDs {a0} : (IOp.nck a0).yaf = false:=rfl
@[simp] theorem yEz {a0} : (IOp.cap a0).yaf = false:=rfl
@[simp] theorem yC1 {a0 a1} : (IOp.cvt a0 a1).yaf = false:=rfl
@[simp] theorem yEQ {a0 a1 a2} : (IOp.seq a0 a1 a2).yaf = false:=rfl
@[simp] theorem yVq : IOp.mkm.yaf = false:=rfl
@[simp] theorem yVt {a0 a1 a2} : (IOp.mup a0 a1 a2).yaf = false:=rfl
@[simp] theorem yWd {a0 a1 a2} : (IOp.exb a0 a1 a2).yaf = false:=rfl
@[simp] theorem yVo {a0 a1} : (IOp.mlk a0 a1).yaf = false:=rfl
@[simp] theorem yRS {a0 a1 a2 a3} : (IOp.eqn a0 a1 a2 a3).yaf = false:=rfl
@[simp] theorem yCy {a0 a1} : (IOp.scat a0 a1).yaf = false:=rfl
@[simp] theorem yCG {a0 a1 a2} : (IOp.bit a0 a1 a2).yaf = false:=rfl
@[simp] theorem yB0 {a0 a1 a2} : (IOp.binu a0 a1 a2).yaf = false:=rfl
@[simp] theorem yCr {a0 a1 a2} : (IOp.binw a0 a1 a2).yaf = false:=rfl
@[simp] theorem yC9 {a0 a1 a2} : (IOp.bin a0 a1 a2).yaf = false:=rfl
@[simp] theorem yC8 {a0 a1 a2} : (IOp.beq a0 a1 a2).yaf = false:=rfl
@[simp] theorem yDS {a0 a1} : (IOp.ixs a0 a1).yaf = false:=rfl
@[simp] theorem yEV {a0 a1 a2} : (IOp.idx a0 a1 a2).yaf = false:=rfl
@[simp] theorem yCL {a0 a1 a2 a3} : (IOp.ida a0 a1 a2 a3).yaf = false:=rfl
@[simp] theorem yEe {a0 a1 a2 a3} : (IOp.sla a0 a1 a2 a3).yaf = false:=rfl
@[simp] theorem yCm {a0 a1 a2} : (IOp.pick a0 a1 a2).yaf = false:=rfl
@[simp] theorem yDY {a0 a1 a2} : (IOp.sls a0 a1 a2).yaf = false:=rfl
@[simp] theorem yEC {a0 a1 a2 a3 a4} : (IOp.slc a0 a1 a2 a3 a4).yaf = false:=rfl
@[simp] theorem yEW {a0} : (IOp.mn a0).yaf = false:=rfl
@[simp] theorem yGG {a0} : (IOp.mx a0).yaf = false:=rfl
@[simp] theorem yEU {a0 a1} : (IOp.mkf a0 a1).yaf = false:=rfl
@[simp] theorem yEM {a0 a1} : (IOp.bld a0 a1).yaf = false:=rfl
@[simp] theorem yEu {a0} : (IOp.not a0).yaf = false:=rfl
theorem yAw {i : Ins} {s : St} {kN : St → Prop} (h : i.op.yaf = false) : mkE P i s kN = False:=by
 obtain ⟨g,d,op⟩:=i
 unfold mkE
 split
 ·rename_i e; simp only at e h; rw [e] at h; cases h
 ·rfl
theorem mkE_g {p : Nat × Bool} {d : Option Nat} {op : IOp} {s : St} {kN : St → Prop} : mkE P ⟨some p,d,op⟩ s kN = False:=rfl
def ylY (P : Program) (f : Nat) (xs : List AV) (d : Option Nat) (s : St) (k : AV → Prop) (kN : St → Prop) (_ : Tag (k,kN)) : Prop :=
 yrT P f xs s.objs k ∨ match d with
  | some d=>∃ args res,ybh P f args res ∧ ybD s xs args ∧ (res.closed ∨ xs.all AV.ycJ = true) ∧ yU s (res.ya6 d) ∧ kN (s.take d res)
  | none=>False
theorem yfW {f d : Nat} {xs args : List AV} {res : AV} {s : St} {k : AV → Prop} {kN : St → Prop} {T : Tag (k,kN)} (hp : ybh P f args res) (ho : ybD s xs args) (hc : res.closed) (hfr : yU s (res.ya6 d)) (hK : kN (s.take d res)) : ylY P f xs (some d) s k kN T :=
 .inr ⟨args,res,hp,ho,.inl hc,hfr,hK⟩
theorem ya2 {f : Nat} {d : Option Nat} {xs args : List AV} {res : AV} {s : St} {k : AV → Prop} {kN : St → Prop} {T : Tag (k,kN)} (hp : yB P f args res) (ho : ybD s xs args) (hc : xs.all AV.ycJ = true ∨ res.scalar = true) (hK : k res) : ylY P f xs d s k kN T :=
 .inl ⟨args,res,hp,by rw [ydC]; exact ho,hc,hK⟩
@[simp ↓] theorem wpE_q {n : Nat} {h : List (Nat × Lab)} {d : Option Nat} {op : IOp} {l : List RIns} {s : St} {K : St → Prop} (ho : op.yaf = false) : wpE P n (⟨0,false,[],⟨none,d,op⟩⟩ :: l) h s K = yaO P op s.ev s.objs fun v=>wpE P (n + 1) l h (s.put d v) K:=by
 have e : wpE P n (⟨0,false,[],⟨none,d,op⟩⟩ :: l) h s K = ((yaO P op s.ev s.objs fun v=>true = true ∧ wpE P (n + 1) l h (s.put d v) K) ∨ mkE P ⟨none,d,op⟩ s fun s'=>true = true ∧ wpE P (n + 1) l h s' K):=by rw [wpE]; first | done | rfl
 rw [e,yAw ho]; simp only [true_and,or_false]
@[simp ↓ low] theorem wpE_qn {n : Nat} {nt : Bool} {chk : List Nat} {h : List (Nat × Lab)} {d : Option Nat} {op : IOp} {l : List RIns} {s : St} {K : St → Prop} (ho : op.yaf = false) : wpE P n (⟨0,nt,chk,⟨none,d,op⟩⟩ :: l) h s K =
 yaO P op s.ev s.objs fun v=>yfl chk h (yeF ⟨none,d,op⟩ s v) = true ∧ wpE P (n + 1) l (ycn nt n (yeF ⟨none,d,op⟩ s v) h) (s.put d v) K:=by
 have e : wpE P n (⟨0,nt,chk,⟨none,d,op⟩⟩ :: l) h s K = ((yaO P op s.ev s.objs fun v=>yfl chk h (yeF ⟨none,d,op⟩ s v) = true ∧ wpE P (n + 1) l (ycn nt n (yeF ⟨none,d,op⟩ s v) h) (s.put d v) K) ∨ mkE P ⟨none,d,op⟩ s fun s'=>yfl chk h ([],true) = true ∧ wpE P (n + 1) l (ycn nt n ([],true) h) s' K):=by rw [wpE]; first | done | rfl
 rw [e,yAw ho,or_false]
@[simp ↓] theorem wpE_qc {n f : Nat} {h : List (Nat × Lab)} {d : Option Nat} {xs : List X} {l : List RIns} {s : St} {K : St → Prop} : wpE P n (⟨0,false,[],⟨none,d,.call f xs⟩⟩ :: l) h s K =
 ylY P f (xs.map s.ev) d s (fun v=>wpE P (n + 1) l h (s.put d v) K) (fun s'=>wpE P (n + 1) l h s' K) ⟨⟩:=by
 have e : wpE P n (⟨0,false,[],⟨none,d,.call f xs⟩⟩ :: l) h s K = ((yrT P f (xs.map s.ev) s.objs fun v=>true = true ∧ wpE P (n + 1) l h (s.put d v) K) ∨ mkE P ⟨none,d,.call f xs⟩ s fun s'=>true = true ∧ wpE P (n + 1) l h s' K):=by rw [wpE]; first | done | rfl
 rw [e]
 cases d <;> (unfold ylY mkE; simp only [true_and])
@[simp ↓] theorem wpE_qg {n : Nat} {nt : Bool} {chk : List Nat} {h : List (Nat × Lab)} {t : Nat} {b : Bool} {d : Option Nat} {op : IOp} {l : List RIns} {s : St} {K : St → Prop} : wpE P n (⟨0,nt,chk,⟨some (t,b),d,op⟩⟩ :: l) h s K =
 ydc (s.env t) t b s (fun s=>yaO P op s.ev s.objs fun v=>yfl chk h (yeF ⟨some (t,b),d,op⟩ s v) = true ∧ wpE P (n + 1) l (ycn nt n (yeF ⟨some (t,b),d,op⟩ s v) h) (s.put d v) K)
  (fun s=>yfl chk h (yeF ⟨some (t,b),d,op⟩ s .und) = true ∧ wpE P (n + 1) l (ycn nt n (yeF ⟨some (t,b),d,op⟩ s .und) h) (s.put d .und) K):=by
 have e : wpE P n (⟨0,nt,chk,⟨some (t,b),d,op⟩⟩ :: l) h s K = (ydy (s.env t) b (yaO P op s.ev s.objs fun v=>yfl chk h (yeF ⟨some (t,b),d,op⟩ s v) = true ∧ wpE P (n + 1) l (ycn nt n (yeF ⟨some (t,b),d,op⟩ s v) h) (s.put d v) K)
  (yfl chk h (yeF ⟨some (t,b),d,op⟩ s .und) = true ∧ wpE P (n + 1) l (ycn nt n (yeF ⟨some (t,b),d,op⟩ s .und) h) (s.put d .und) K) ∨ mkE P ⟨some (t,b),d,op⟩ s fun s'=>yfl chk h ([],true) = true ∧ wpE P (n + 1) l (ycn nt n ([],true) h) s' K):=by rw [wpE]; first | done | rfl
 rw [e,mkE_g,or_false]
 exact yl2 (A:=fun s=>yaO P op s.ev s.objs fun v=>yfl chk h (yeF ⟨some (t,b),d,op⟩ s v) = true ∧ wpE P (n + 1) l (ycn nt n (yeF ⟨some (t,b),d,op⟩ s v) h) (s.put d v) K)
  (B:=fun s=>yfl chk h (yeF ⟨some (t,b),d,op⟩ s .und) = true ∧ wpE P (n + 1) l (ycn nt n (yeF ⟨some (t,b),d,op⟩ s .und) h) (s.put d .und) K)
@[simp ↓] theorem wpE_m {n : Nat} {nt : Bool} {chk : List Nat} {h : List (Nat × Lab)} {i : Ins} {l : List RIns} {s : St} {K : St → Prop} : wpE P n (⟨1,nt,chk,i⟩ :: l) h s K =
 (yfl chk h (yyb i) = true ∧ yfk P i.d i.op s fun s'=>wpE P (n + 1) l (ycn nt n (yyb i) h) s' K):=by rw [wpE]; first | done | rfl
@[simp ↓] theorem wpE_e {n : Nat} {nt : Bool} {chk : List Nat} {h : List (Nat × Lab)} {g : Option (Nat × Bool)} {d : Option Nat} {op : IOp} {l : List RIns} {s : St} {K : St → Prop} (ho : op.yaf = false) : wpE P n (⟨2,nt,chk,⟨g,d,op⟩⟩ :: l) h s K =
 (yfl chk h (ysi ⟨g,d,op⟩ s) = true ∧ yV P d op s fun s'=>wpE P (n + 1) l (ycn nt n (ysi ⟨g,d,op⟩ s) h) s' K):=by
 have e : wpE P n (⟨2,nt,chk,⟨g,d,op⟩⟩ :: l) h s K = if op.yaf then yw6 P ⟨g,d,op⟩ s fun lab s'=>yfl chk h lab = true ∧ wpE P (n + 1) l (ycn nt n lab h) s' K
  else yfl chk h (ysi ⟨g,d,op⟩ s) = true ∧ yV P d op s fun s'=>wpE P (n + 1) l (ycn nt n (ysi ⟨g,d,op⟩ s) h) s' K:=by rw [wpE]; first | done | rfl
 rw [e,if_neg (by simp [ho])]
@[simp] theorem yD4 {a0 a1} : (IOp.st1 a0 a1).yaf = false:=rfl
@[simp] theorem yCP {a0 a1 a2} : (IOp.stn a0 a1 a2).yaf = false:=rfl
@[simp] theorem yDD {a0 a1 a2 a3} : (IOp.app a0 a1 a2 a3).yaf = false:=rfl
@[simp] theorem yGd {a0 a1 a2} : (IOp.cp a0 a1 a2).yaf = false:=rfl
@[simp] theorem yDe {a0 a1} : (IOp.bsl a0 a1).yaf = false:=rfl
def yadW (P : Program) (f : Nat) (d : Option Nat) (xs : List X) (s : St) (K : Lab → St → Prop) (_ : Tag K) : Prop:=yw6 P ⟨none,d,.call f xs⟩ s K
@[simp ↓] theorem wpE_t {n f : Nat} {nt : Bool} {chk : List Nat} {h : List (Nat × Lab)} {d : Option Nat} {xs : List X} {l : List RIns} {s : St} {K : St → Prop} : wpE P n (⟨2,nt,chk,⟨none,d,.call f xs⟩⟩ :: l) h s K =
 yadW P f d xs s (fun lab s'=>yfl chk h lab = true ∧ wpE P (n + 1) l (ycn nt n lab h) s' K) ⟨⟩:=by
 have e : wpE P n (⟨2,nt,chk,⟨none,d,.call f xs⟩⟩ :: l) h s K = if (IOp.call f xs).yaf then yw6 P ⟨none,d,.call f xs⟩ s fun lab s'=>yfl chk h lab = true ∧ wpE P (n + 1) l (ycn nt n lab h) s' K
  else yfl chk h (ysi ⟨none,d,.call f xs⟩ s) = true ∧ yV P d (.call f xs) s fun s'=>wpE P (n + 1) l (ycn nt n (ysi ⟨none,d,.call f xs⟩ s) h) s' K:=by rw [wpE]; first | done | rfl
 rw [e,if_pos (show (IOp.call f xs).yaf = true from rfl)]; rfl
def yQx (P : Program) (f : Nat) (d : Option Nat) (t : Nat) (b : Bool) (xs : List X) (s : St) (K : St → Prop) (_ : Tag K) : Prop:=∃ s',TrS P ⟨some (t,b),d,.call f xs⟩ s s' ∧ K s'
@[simp ↓] theorem wpE_s {n f : Nat} {nt : Bool} {chk : List Nat} {h : List (Nat × Lab)} {t : Nat} {b : Bool} {d : Option Nat} {xs : List X} {l : List RIns} {s : St} {K : St → Prop} : wpE P n (⟨3,nt,chk,⟨some (t,b),d,.call f xs⟩⟩ :: l) h s K =
 yQx P f d t b xs s (fun s'=>yfl chk h ([],true) = true ∧ wpE P (n + 1) l (ycn nt n ([],true) h) s' K) ⟨⟩:=by
 rw [wpE]; first | done | rfl
@[congr] theorem yRM {f t : Nat} {d : Option Nat} {b : Bool} {xs : List X} {s s' : St} {K : St → Prop} {T : Tag K} (h : s = s') : yQx P f d t b xs s K T = yQx P f d t b xs s' K T:=by rw [h]
@[congr] theorem yDr {d : Option Nat} {op op' : IOp} {s : St} {K : St → Prop} (h : op = op') : yfk P d op s K = yfk P d op' s K:=by rw [h]
@[congr] theorem yFL {k : Nat} {xs xs' : List AV} {s : St} {d : Option Nat} {K : St → Prop} (h : xs = xs') : ysq k xs s d K = ysq k xs' s d K:=by rw [h]
@[congr] theorem yB7 {f f' : AV} {l l' : List AV} {ob : Nat → Obj} {k : AV → Prop} (h : f = f') (h2 : l = l') : yhG P f l ob k = yhG P f' l' ob k:=by rw [h,h2]
@[simp ↓] theorem yBI {d : Option Nat} {s : St} {K : St → Prop} {zs : List AV} : yfk P d (.alloc zs) s K = newP s d (.box zs) (fun d=>.box d 0) K:=rfl
@[simp ↓] theorem yBc {d : Option Nat} {s : St} {K : St → Prop} {n m : Nat} {z : List C} : yfk P d (.alloca n m z) s K = newP s d (.row n (List.replicate m z)) (fun d=>.row d n 0 0) K:=rfl
@[simp ↓] theorem yHm {d : Option Nat} {s : St} {K : St → Prop} {n b : Nat} {z : List C} {l c : X} : yfk P d (.mks n b z l c) s K = ysJ n b z s d (s.ev l) (s.ev c) K:=rfl
@[simp ↓] theorem yGa {d : Option Nat} {s : St} {K : St → Prop} {n : Nat} {xs : List X} : yfk P d (.bsl n xs) s K = ysq n (xs.map s.ev) s d K:=rfl
def yzx (k : Nat) (s : St) (d : Option Nat) (K : St → Prop) : Option (List (List C)) → Prop
 | some rows=>(∀ r ∈ rows,r.length = k) ∧ newP s d (.row k rows) (fun d=>.own d k rows.length) K
 | none=>False
@[congr] theorem yGN {k : Nat} {s : St} {d : Option Nat} {K : St → Prop} {o o' : Option (List (List C))} (h : o = o') : yzx k s d K o = yzx k s d K o':=by rw [h]
@[simp] theorem bslF_eq {k : Nat} {xs : List AV} {s : St} {d : Option Nat} {K : St → Prop} : ysq k xs s d K = yzx k s d K (AV.rowsOf xs):=by
 unfold ysq yzx; cases AV.rowsOf xs <;> rfl
@[simp] theorem yHo {k : Nat} {s : St} {d : Option Nat} {K : St → Prop} {rows : List (List C)} : yzx k s d K (some rows) = ((∀ r ∈ rows,r.length = k) ∧ newP s d (.row k rows) (fun d=>.own d k rows.length) K):=rfl
@[simp ↓] theorem yFo {f : Nat} {l xs : List AV} {ob : Nat → Obj} {k : AV → Prop} : yhG P (.fn f l) xs ob k = ((∃ fn,P.funcs[f]? = some fn ∧ fn.body.isSome = true ∧ (fn.name != "runtime.NumGoroutine") = true) ∧ ysj P f (xs ++ l) ob k ⟨⟩):=rfl
@[simp] theorem noteL_f {n : Nat} {lab : Lab} {h : List (Nat × Lab)} : ycn false n lab h = h:=rfl
@[simp] theorem noteL_t {n : Nat} {lab : Lab} {h : List (Nat × Lab)} : ycn true n lab h = (n,lab) :: h:=rfl
@[simp] theorem yKE {lab : Lab} {h : List (Nat × Lab)} : yfl [] h lab = true:=rfl
@[simp] theorem yGj {i : Nat} {l : List Nat} {lab : Lab} {h : List (Nat × Lab)} : yfl (i :: l) h lab = (yf5 (look ([],true) h i) lab && yfl l h lab):=rfl
@[simp] theorem yGf {a b : Lab} : yf5 a b = ((a.1.all fun i=>!b.1.contains i) && b.2):=rfl
@[simp] theorem labM_eq {g : Option (Nat × Bool)} {d : Nat} {op : IOp} : yyb ⟨g,some d,op⟩ = ([2 * d,2 * d + 1],true):=rfl
@[simp] theorem yI8 {i : Ins} {s : St} {v : AV} : yeF i s v = ((if yoJ i.op s then [] else lw ((i.op.xs.map s.ev).flatMap AV.ids)) ++ lk ((v :: i.op.xs.map s.ev).flatMap AV.ids),(v :: i.op.xs.map s.ev).all AV.cl):=rfl
@[simp] theorem labE_eq {i : Ins} {s : St} : ysi i s = (lw (wOf i.op s ++ i.d.toList) ++ lk (kOf i.op s ++ i.d.toList),true):=rfl
@[simp] theorem lw_nil : lw [] = []:=rfl
@[simp] theorem lw_cons {i : Nat} {l : List Nat} : lw (i :: l) = 2 * i :: lw l:=rfl
@[simp] theorem lw_app {l l' : List Nat} : lw (l ++ l') = lw l ++ lw l':=List.map_append
@[simp] theorem lk_nil : lk [] = []:=rfl
@[simp] theorem lk_cons {i : Nat} {l : List Nat} : lk (i :: l) = (2 * i + 1) :: lk l:=rfl
@[simp] theorem lk_app {l l' : List Nat} : lk (l ++ l') = lk l ++ lk l':=List.map_append
attribute [simp] yoJ AV.ymE ywl
@[simp] theorem kOf_st1 {s : St} {x v : X} : kOf (.st1 x v) s = if yl0 s (s.ev x) then (s.ev v).ids else []:=rfl
@[simp] theorem kOf_stn {s : St} {n : Nat} {x v : X} : kOf (.stn n x v) s = if yl0 s (s.ev x) then (s.ev v).ids else []:=rfl
@[simp] theorem kOf_cp {s : St} {k : Nat} {x v : X} : kOf (.cp k x v) s = []:=rfl
@[simp] theorem kOf_app {s : St} {k b : Nat} {x y : X} : kOf (.app k b x y) s = ywl (s.ev x) (wOf (.app k b x y) s):=rfl
@[simp] theorem kOf_bsl {s : St} {k : Nat} {xs : List X} : kOf (.bsl k xs) s = wOf (.bsl k xs) s:=rfl
def yvL (y : AV) : Option (List (List C)) → List Nat
 | some _=>[]
 | none=>y.ids
@[simp] theorem yCw {y : AV} {r : List (List C)} : yvL y (some r) = []:=rfl
@[simp] theorem yCp {y : AV} : yvL y none = y.ids:=rfl
@[simp] theorem wOf_app {s : St} {k b : Nat} {x y : X} : wOf (.app k b x y) s = (s.ev x).ids ++ yvL (s.ev y) (yaF s k (s.ev y)):=by
 simp only [wOf]; cases yaF s k (s.ev y) <;> rfl
@[simp] theorem wOf_st1 {s : St} {x v : X} : wOf (.st1 x v) s = (s.ev x).ids ++ (if yl0 s (s.ev x) then (s.ev v).ids else []):=rfl
@[simp] theorem wOf_stn {s : St} {n : Nat} {x v : X} : wOf (.stn n x v) s = (s.ev x).ids ++ (if yl0 s (s.ev x) then (s.ev v).ids else []):=rfl
@[simp] theorem wOf_cp {s : St} {k : Nat} {x v : X} : wOf (.cp k x v) s = (s.ev x).ids:=rfl
def yAH (k n id k' : Nat) (j h : Int) (K : AV → Prop) : Obj → Prop
 | .row _ rows=>k' = k ∧ j = 0 ∧ 0 ≤ h ∧ h ≤ rows.length ∧ rows.length = n ∧ K (.own id k h.toNat)
 | _=>False
@[congr] theorem yFc {k n id k' : Nat} {j h : Int} {K : AV → Prop} {o o' : Obj} (e : o = o') : yAH k n id k' j h K o = yAH k n id k' j h K o':=by rw [e]
@[simp] theorem yKf {k n : Nat} {s : St} {id k' : Nat} {j h : Int} {K : AV → Prop} : ymA k n s (.row id k' j 0) (.c (.i h)) K = yAH k n id k' j h K (s.ob id):=by
 simp only [ymA,yAH]; cases s.ob id <;> rfl
@[simp] theorem yKL {k n id k' q : Nat} {j h : Int} {K : AV → Prop} {rows : List (List C)} : yAH k n id k' j h K (.row q rows) = (k' = k ∧ j = 0 ∧ 0 ≤ h ∧ h ≤ rows.length ∧ rows.length = n ∧ K (.own id k h.toNat)):=rfl
@[simp] theorem yJr {s : St} {id k o : Nat} {i : Int} : yl0 s (.row id k i o) = (s.ob id).tree:=rfl
@[simp] theorem yIL {s : St} {id o : Nat} : yl0 s (.box id o) = false:=rfl
@[simp] theorem yGJ {s : St} {id ver : Nat} {i : Int} {j k : Nat} {i' : Int} {o : Nat} : yl0 s (.yc3 id ver i j k i' o) = false:=rfl
@[simp] theorem yIN {k : Nat} {r : List (List C)} : (Obj.row k r).tree = false:=rfl
@[simp] theorem tree_tr {k v : Nat} {r : List (List C)} : (Obj.tr k v r).tree = true:=rfl
attribute [simp] IOp.xs
@[simp] theorem ids_any : AV.any.ids = []:=rfl
@[simp] theorem ids_und : AV.und.ids = []:=rfl
@[simp] theorem ids_c {x : C} : (AV.c x).ids = []:=rfl
@[simp] theorem ids_nil {k : Nat} : (AV.nil k).ids = []:=rfl
@[simp] theorem yHN {k : Nat} {r : List (List C)} : (AV.clip k r).ids = []:=rfl
@[simp] theorem ids_elt {r : List C} : (AV.elt r).ids = []:=rfl
@[simp] theorem ids_box {i o : Nat} : (AV.box i o).ids = [i]:=rfl
@[simp] theorem ids_row {i k o : Nat} {j : Int} : (AV.row i k j o).ids = [i]:=rfl
@[simp] theorem ids_own {i k n : Nat} : (AV.own i k n).ids = [i]:=rfl
@[simp] theorem ids_cut {i k l n : Nat} : (AV.cut i k l n).ids = [i]:=rfl
@[simp] theorem ids_sub {i ver : Nat} {n : Int} {j k m : Nat} : (AV.sub i ver n j k m).ids = [i]:=rfl
@[simp] theorem yIc {i ver : Nat} {n : Int} {j k : Nat} {m : Int} {o : Nat} : (AV.yc3 i ver n j k m o).ids = [i]:=rfl
@[simp] theorem ids_agg {l : List AV} : (AV.agg l).ids = l.flatMap AV.ybz:=rfl
@[simp] theorem ids_fn {f : Nat} {l : List AV} : (AV.fn f l).ids = l.flatMap AV.ybz:=rfl
@[simp] theorem ids_tup {l : List AV} : (AV.tup l).ids = l.flatMap AV.ycw:=rfl
@[simp] theorem yHL {l : List C} : (l.map AV.c).flatMap AV.ybz = []:=by
 rw [List.flatMap_eq_nil_iff]; intro x hx; obtain ⟨c,_,rfl⟩:=List.mem_map.1 hx; rfl
attribute [simp] AV.ybz AV.ya8 AV.ycw AV.cl AV.cl2 AV.cl1
@[simp] theorem cl1_map {l : List C} : (l.map AV.c).all AV.cl1 = true:=by
 rw [List.all_eq_true]; intro x hx; obtain ⟨c,_,rfl⟩:=List.mem_map.1 hx; rfl
@[simp] theorem yJw {b want : Bool} {A B : Prop} : ydy (.c (.b b)) want A B = ((b = want → A) ∧ (b = (!want) → B)):=rfl
@[simp] theorem yD6 {want : Bool} {A B : Prop} : ydy .und want A B = B:=rfl
@[simp high] theorem condP_t {A B : Prop} : yj3 (.c (.b true)) A B = A:=by simp [yj3]
@[simp high] theorem condP_f {A B : Prop} : yj3 (.c (.b false)) A B = B:=by simp [yj3]
@[simp] theorem condP_b {b : Bool} {A B : Prop} : yj3 (.c (.b b)) A B = ((b = true → A) ∧ (b = false → B)):=rfl
section
variable {d : Option Nat} {s : St} {K : St → Prop} {ev : X → AV} {ob : Nat → Obj} {k : AV → Prop}
@[simp ↓] theorem step_mv {x : X} : yV P d (.mv x) s K = K (s.put d (s.ev x)):=rfl
@[simp ↓] theorem yFW {a b c : X} : yV P d (.pick a b c) s K = yf1 (s.ev a) (s.ev b) (s.ev c) fun v=>K (s.put d v):=rfl
@[simp ↓] theorem yJR {o : BinOp} {a b : X} : yV P d (.bin o a b) s K = ypb o (s.ev a) (s.ev b) fun v=>K (s.put d v):=rfl
@[simp ↓] theorem yJs {o : Bool} {a b : X} : yV P d (.beq o a b) s K = ynB o (s.ev a) (s.ev b) fun v=>K (s.put d v):=rfl
@[simp ↓] theorem yKp {a : X} : yV P d (.isn a) s K = ytk (s.ev a) fun v=>K (s.put d v):=rfl
@[simp ↓] theorem yIp {a : X} : yV P d (.not a) s K = notP (s.ev a) fun v=>K (s.put d v):=rfl
@[simp ↓] theorem yIq {a : X} : yV P d (.neg a) s K = ypq (s.ev a) fun v=>K (s.put d v):=rfl
@[simp ↓] theorem yHY {n : Nat} {a b : X} : yV P d (.idx n a b) s K = yiC n s (s.ev a) (s.ev b) fun v=>K (s.put d v):=rfl
@[simp ↓] theorem yIW {m n : Nat} {a b : X} : yV P d (.ida m n a b) s K = ypc m n (s.ev a) (s.ev b) fun v=>K (s.put d v):=rfl
@[simp ↓] theorem yJ5 {n : Nat} {a : X} : yV P d (.fld n a) s K = yjb n s (s.ev a) fun v=>K (s.put d v):=rfl
@[simp ↓] theorem yIS {a : X} : yV P d (.ld1 a) s K = yhV s (s.ev a) fun v=>K (s.put d v):=rfl
@[simp ↓] theorem yH3 {n : Nat} {a : X} : yV P d (.ldn n a) s K = yhX n s (s.ev a) fun v=>K (s.put d v):=rfl
@[simp ↓] theorem yJH {a b : X} : yV P d (.st1 a b) s K = yhW s (s.ev a) (s.ev b) fun s'=>K (s'.put d .und):=rfl
@[simp ↓] theorem yJ6 {n : Nat} {a b : X} : yV P d (.stn n a b) s K = ykn n s (s.ev a) (s.ev b) fun s'=>K (s'.put d .und):=rfl
@[simp ↓] theorem yIm {n : Nat} {a : X} : yV P d (.box n a) s K = yyl n s d (s.ev a) K:=rfl
@[simp ↓] theorem yDm {zs : List AV} : yV P d (.alloc zs) s K = newP s d (.box zs) (fun d=>.box d 0) K:=rfl
@[simp ↓] theorem yBQ {n m : Nat} {z : List C} : yV P d (.alloca n m z) s K = newP s d (.row n (List.replicate m z)) (fun d=>.row d n 0 0) K:=rfl
@[simp ↓] theorem yHF {n b : Nat} {z : List C} {l c : X} : yV P d (.mks n b z l c) s K = ysJ n b z s d (s.ev l) (s.ev c) K:=rfl
@[simp ↓] theorem yJ3 {n : Nat} {xs : List X} : yV P d (.bsl n xs) s K = ynF n (xs.map s.ev) s d K:=rfl
@[simp ↓] theorem yHQ {zs : List AV} {ps : List (Nat × Nat × X)} : yV P d (.bld zs ps) s K = yfh s ps zs fun l=>K (s.put d (.agg l)):=rfl
@[simp ↓] theorem yJA {n : Nat} {x : X} {lo hi m : Option X} : yV P d (.slc n x lo hi m) s K = yig n (s.ev x) (lo.map s.ev) (hi.map s.ev) (m.map s.ev) fun v=>K (s.put d v):=rfl
@[simp ↓] theorem yId {n m : Nat} {x h : X} : yV P d (.sla n m x h) s K = ymA n m s (s.ev x) (s.ev h) fun v=>K (s.put d v):=rfl
@[simp ↓] theorem yJn {x : X} : yV P d (.len x) s K = yhK s (s.ev x) fun v=>K (s.put d v):=rfl
@[simp ↓] theorem yGU {x : X} : yV P d (.slen x) s K = yiR (s.ev x) fun v=>K (s.put d v):=rfl
@[simp ↓] theorem yHh {n b : Nat} {z : List C} {x y : X} : yV P d (.appz n b z x y) s K = yrV n b z s d (s.ev x) (s.ev y) K:=rfl
@[congr] theorem yDR {o n : Nat} {z : List C} {s : St} {d : Option Nat} {a a' b b' : AV} {k : St → Prop} (h2 : a = a') (h3 : b = b') : yrV o n z s d a b k = yrV o n z s d a' b' k:=by rw [h2,h3]
@[simp] theorem yJY {k b : Nat} {z : List C} {s : St} {d : Option Nat} {j : Nat} {m : Int} {K : St → Prop} : yrV k b z s d (.nil j) (.c (.i m)) K = (0 ≤ m ∧ m.toNat * b ≤ 140737488355328 ∧ newP s d (.row k (List.replicate m.toNat z)) (fun d=>.own d k m.toNat) K):=rfl
@[simp ↓] theorem yJD {n b : Nat} {x y : X} : yV P d (.app n b x y) s K = yiK n b s d (s.ev x) (s.ev y) K:=rfl
@[simp ↓] theorem step_mn {xs : List X} : yV P d (.mn xs) s K = mmP (fun x y=>if y < x then y else x) (xs.map s.ev) fun v=>K (s.put d v):=rfl
@[simp ↓] theorem step_mx {xs : List X} : yV P d (.mx xs) s K = mmP (fun x y=>if x < y then y else x) (xs.map s.ev) fun v=>K (s.put d v):=rfl
@[simp ↓] theorem yJS {n : Nat} {x : X} : yV P d (.ext n x) s K = ynG n (s.ev x) fun v=>K (s.put d v):=rfl
@[simp ↓] theorem yGA {f : Nat} {xs : List X} : yV P d (.call f xs) s K = yB9 P f (xs.map s.ev) d s K ⟨⟩:=rfl
@[simp ↓] theorem yIO {x i : X} : yV P d (.ixs x i) s K = yqc (s.ev x) (s.ev i) fun v=>K (s.put d v):=rfl
@[simp ↓] theorem yDL {f : X} {xs : List X} : yV P d (.callv f xs) s K = yiV P (s.ev f) (xs.map s.ev) d s K:=rfl
@[simp ↓] theorem step_cp {n : Nat} {a b : X} : yV P d (.cp n a b) s K = cpP n s d (s.ev a) (s.ev b) K:=rfl
@[simp ↓] theorem yIR {a : X} : yV P d (.cap a) s K = yqE (s.ev a) fun v=>K (s.put d v):=rfl
@[simp ↓] theorem yKD {a : X} : yV P d (.nck a) s K = ymF (s.ev a) fun v=>K (s.put d v):=rfl
@[simp ↓] theorem yVA : yV P d .mkm s K = newP s d (.mp []) (fun d=>.mpr d) K:=rfl
@[simp ↓] theorem yVC {x y z : X} : yV P d (.mup x y z) s K = yVb s (s.ev x) (s.ev y) (s.ev z) fun s'=>K (s'.put d .und):=rfl
@[simp ↓] theorem yWg {n : Nat} {x y : X} : yV P d (.exb n x y) s K = yV9 n (s.ev x) (s.ev y) fun v=>K (s.put d v):=rfl
@[simp] theorem exbP_eq {n : Nat} {bs : ByteArray} {c : Nat} {k : AV → Prop} : yV9 n (.c (.s bs)) (.c (.u c)) k = k (.c (.i (if n = 0 then (Lib.countByte bs.data.toList c.toUInt8 : Int) else Lib.indexByte bs.data.toList c.toUInt8))):=rfl
@[simp ↓] theorem yVz {x y : X} : yV P d (.mlk x y) s K = yVa s (s.ev x) (s.ev y) fun v=>K (s.put d v):=rfl
def Obj.kvs? : Obj → Option (List (Int × Int))
 | .mp l=>some l
 | _=>Option.none
@[simp] theorem kvs_mp {l : List (Int × Int)} : (Obj.mp l).kvs? = some l:=rfl
def mupR (s : St) (id : Nat) (n v : Int) (K : St → Prop) : Option (List (Int × Int)) → Prop
 | some kvs=>K (s.yat id (.mp (yUP n v kvs)))
 | none=>False
def mlkR (n : Int) (k : AV → Prop) : Option (List (Int × Int)) → Prop
 | some kvs=>k (.c (.i (yUz n kvs)))
 | none=>False
@[simp] theorem yVx {s : St} {id : Nat} {n v : Int} {K : St → Prop} {kvs : List (Int × Int)} : mupR s id n v K (some kvs) = K (s.yat id (.mp (yUP n v kvs))):=rfl
@[simp] theorem yVv {n : Int} {k : AV → Prop} {kvs : List (Int × Int)} : mlkR n k (some kvs) = k (.c (.i (yUz n kvs))):=rfl
@[simp ↓] theorem mupP_eq {s : St} {id : Nat} {n v : Int} {K : St → Prop} : yVb s (.mpr id) (.c (.i n)) (.c (.i v)) K = mupR s id n v K (s.ob id).kvs?:=by
 simp only [yVb]
 cases s.ob id <;> rfl
@[simp ↓] theorem mlkP_eq {s : St} {id : Nat} {n : Int} {k : AV → Prop} : yVa s (.mpr id) (.c (.i n)) k = mlkR n k (s.ob id).kvs?:=by
 simp only [yVa]
 cases s.ob id <;> rfl
@[simp ↓] theorem yRZ {o : Bool} {q : Nat} {a b : X} : yV P d (.eqn o q a b) s K = yQC o q (s.ev a) (s.ev b) fun v=>K (s.put d v):=rfl
@[simp ↓] theorem step_seq {o : Bool} {a b : X} : yV P d (.seq o a b) s K = ynl o (s.ev a) (s.ev b) fun v=>K (s.put d v):=rfl
@[simp ↓] theorem yGH {a b : X} : yV P d (.scat a b) s K = yjd (s.ev a) (s.ev b) fun v=>K (s.put d v):=rfl
@[simp ↓] theorem yJl {x : X} {lo hi : Option X} : yV P d (.sls x lo hi) s K = ymC (s.ev x) (lo.map s.ev) (hi.map s.ev) fun v=>K (s.put d v):=rfl
@[simp ↓] theorem yH2 {o : BinOp} {a b : X} : yV P d (.bit o a b) s K = yiP o (s.ev a) (s.ev b) fun v=>K (s.put d v):=rfl
@[simp ↓] theorem yFS {o : BinOp} {a b : X} : yV P d (.binu o a b) s K = yeG o (s.ev a) (s.ev b) fun v=>K (s.put d v):=rfl
@[simp ↓] theorem yHn {o : BinOp} {a b : X} : yV P d (.binw o a b) s K = yip o (s.ev a) (s.ev b) fun v=>K (s.put d v):=rfl
@[simp ↓] theorem yJZ {n : Nat} {a : X} : yV P d (.cvt n a) s K = yen n s (s.ev a) fun v=>K (s.put d v):=rfl
@[simp ↓] theorem yKg {f : Nat} {xs : List X} : yV P d (.mkf f xs) s K = ((xs.map s.ev).all AV.yaE = true ∧ K (s.put d (.fn f (xs.map s.ev)))):=rfl
@[simp ↓] theorem val_nck {a : X} : yaO P (.nck a) ev ob k = ymF (ev a) k:=rfl
@[simp ↓] theorem yJM {a : X} : yaO P (.cvt 0 a) ev ob k = yen 0 (ycF ob) (ev a) k:=rfl
@[simp ↓] theorem yJ0 {a : X} : yaO P (.cvt 1 a) ev ob k = yen 1 (ycF ob) (ev a) k:=rfl
@[simp ↓] theorem yJN {a : X} : yaO P (.cvt 3 a) ev ob k = yen 3 (ycF ob) (ev a) k:=rfl
@[simp ↓] theorem val_eqn {o : Bool} {q : Nat} {a b : X} : yaO P (.eqn o q a b) ev ob k = yQC o q (ev a) (ev b) k:=rfl
@[simp ↓] theorem val_seq {o : Bool} {a b : X} : yaO P (.seq o a b) ev ob k = ynl o (ev a) (ev b) k:=rfl
@[simp ↓] theorem yIB {a b : X} : yaO P (.scat a b) ev ob k = yjd (ev a) (ev b) k:=rfl
@[simp ↓] theorem val_sls {x : X} {lo hi : Option X} : yaO P (.sls x lo hi) ev ob k = ymC (ev x) (lo.map ev) (hi.map ev) k:=rfl
@[simp ↓] theorem val_bit {o : BinOp} {a b : X} : yaO P (.bit o a b) ev ob k = yiP o (ev a) (ev b) k:=rfl
@[simp ↓] theorem yIM {o : BinOp} {a b : X} : yaO P (.binu o a b) ev ob k = yeG o (ev a) (ev b) k:=rfl
@[simp ↓] theorem yIf {o : BinOp} {a b : X} : yaO P (.binw o a b) ev ob k = yip o (ev a) (ev b) k:=rfl
@[simp ↓] theorem val_mkf {f : Nat} {xs : List X} : yaO P (.mkf f xs) ev ob k = ((xs.map ev).all AV.yaE = true ∧ k (.fn f (xs.map ev))):=rfl
@[simp ↓] theorem val_mv {x : X} : yaO P (.mv x) ev ob k = k (ev x):=rfl
@[simp ↓] theorem yHG {a b c : X} : yaO P (.pick a b c) ev ob k = yf1 (ev a) (ev b) (ev c) k:=rfl
@[simp ↓] theorem val_bin {o : BinOp} {a b : X} : yaO P (.bin o a b) ev ob k = ypb o (ev a) (ev b) k:=rfl
@[simp ↓] theorem val_beq {o : Bool} {a b : X} : yaO P (.beq o a b) ev ob k = ynB o (ev a) (ev b) k:=rfl
@[simp ↓] theorem val_not {a : X} : yaO P (.not a) ev ob k = notP (ev a) k:=rfl
@[simp ↓] theorem val_neg {a : X} : yaO P (.neg a) ev ob k = ypq (ev a) k:=rfl
@[simp ↓] theorem val_idx {n : Nat} {a b : X} : yaO P (.idx n a b) ev ob k = yiC n (ycF ob) (ev a) (ev b) k:=rfl
@[simp ↓] theorem val_ida {m n : Nat} {a b : X} : yaO P (.ida m n a b) ev ob k = ypc m n (ev a) (ev b) k:=rfl
@[simp ↓] theorem val_fld {n : Nat} {a : X} : yaO P (.fld n a) ev ob k = yjb n (ycF ob) (ev a) k:=rfl
@[simp ↓] theorem val_ld1 {a : X} : yaO P (.ld1 a) ev ob k = yhV (ycF ob) (ev a) k:=rfl
@[simp ↓] theorem val_ldn {n : Nat} {a : X} : yaO P (.ldn n a) ev ob k = yhX n (ycF ob) (ev a) k:=rfl
@[simp ↓] theorem val_slc {n : Nat} {x : X} {lo hi m : Option X} : yaO P (.slc n x lo hi m) ev ob k = yig n (ev x) (lo.map ev) (hi.map ev) (m.map ev) k:=rfl
@[simp ↓] theorem val_sla {m n : Nat} {x h : X} : yaO P (.sla m n x h) ev ob k = ymA m n (ycF ob) (ev x) (ev h) k:=rfl
@[simp ↓] theorem val_len {x : X} : yaO P (.len x) ev ob k = yhK (ycF ob) (ev x) k:=rfl
@[simp ↓] theorem yI4 {x : X} : yaO P (.slen x) ev ob k = yiR (ev x) k:=rfl
@[simp ↓] theorem val_mn {xs : List X} : yaO P (.mn xs) ev ob k = mmP (fun x y=>if y < x then y else x) (xs.map ev) k:=rfl
@[simp ↓] theorem val_mx {xs : List X} : yaO P (.mx xs) ev ob k = mmP (fun x y=>if x < y then y else x) (xs.map ev) k:=rfl
@[simp ↓] theorem val_ext {n : Nat} {x : X} : yaO P (.ext n x) ev ob k = ynG n (ev x) k:=rfl
@[simp ↓] theorem yIP {f : Nat} {xs : List X} : yaO P (.call f xs) ev ob k = ysj P f (xs.map ev) ob k ⟨⟩:=rfl
@[simp ↓] theorem val_bld {zs : List AV} {ps : List (Nat × Nat × X)} : yaO P (.bld zs ps) ev ob k = yfh ⟨fun t=>ev (.t t),ob⟩ ps zs fun l=>k (.agg l):=rfl
@[simp ↓] theorem yGs {f : X} {xs : List X} : yaO P (.callv f xs) ev ob k = yhG P (ev f) (xs.map ev) ob k:=rfl
@[simp ↓] theorem step_bad : yV P d .bad s K = False:=rfl
@[simp ↓] theorem val_ixs {x i : X} : yaO P (.ixs x i) ev ob k = yqc (ev x) (ev i) k:=rfl
end
@[simp] theorem ev_t {s : St} {n : Nat} : s.ev (.t n) = s.env n:=rfl
@[simp] theorem ev_k {s : St} {a : AV} : s.ev (.k a) = a:=rfl
@[simp] theorem yKy {s : St} {v : AV} : s.put none v = s:=rfl
@[simp] theorem put_env {s : St} {d t : Nat} {v : AV} : (s.put (some d) v).env t = if t = d then v else s.env t:=rfl
attribute [simp] yaS
@[simp] theorem put_ob {s : St} {d : Option Nat} {id : Nat} {v : AV} : (s.put d v).ob id = s.ob id:=by cases d <;> rfl
@[simp] theorem yGm {s : St} {id t : Nat} {o : Obj} : (s.yat id o).env t = s.env t:=rfl
@[simp] theorem yH4 {s : St} {id i : Nat} {o : Obj} : (s.yat id o).ob i = if i = id then o else s.ob i:=rfl
@[simp] theorem yDH {s : St} {id i : Nat} {o : Obj} : (s.yat id o).objs i = if i = id then o else s.objs i:=rfl
@[simp] theorem yF1 {s : St} {id t : Nat} {o : Obj} : (s.renew id o).env t = (s.env t).kill id:=rfl
@[simp] theorem yKt {s : St} {id i : Nat} {o : Obj} : (s.renew id o).ob i = if i = id then o else (s.ob i).kill id:=rfl
@[simp] theorem yCE {s : St} {id i : Nat} {o : Obj} : (s.renew id o).objs i = if i = id then o else (s.objs i).kill id:=rfl
@[simp] theorem obSt_ob {f : Nat → Obj} {i : Nat} : (ycF f).ob i = f i:=rfl
@[simp] theorem objs_ob {s : St} {i : Nat} : s.objs i = s.ob i:=rfl
@[simp] theorem yJv {L : List (Nat × AV)} {O : List (Nat × Obj)} {t : Nat} : (yO L O).env t = look .any L t:=rfl
@[simp] theorem stOf_ob {L : List (Nat × AV)} {O : List (Nat × Obj)} {t : Nat} : (yO L O).ob t = look .none O t:=rfl
@[simp] theorem yCK {l : List AV} {t : Nat} : (yh2 l).env t = (l[t]?).getD .any:=rfl
@[simp] theorem yGO {l : List AV} {t : Nat} : (yh2 l).ob t = .none:=rfl
@[simp] theorem mk_env {e : Nat → AV} {o : Nat → Obj} {t : Nat} : (St.mk e o).env t = e t:=rfl
@[simp] theorem mk_ob {e : Nat → AV} {o : Nat → Obj} {t : Nat} : (St.mk e o).ob t = o t:=rfl
@[simp] theorem look_nil {α : Type} {d : α} {t : Nat} : look d [] t = d:=rfl
@[simp] theorem yCI {α : Type} {d v : α} {k t : Nat} {l : List (Nat × α)} : look d ((k,v) :: l) t = if t = k then v else look d l t:=rfl
@[simp] theorem upd_app {α : Type} {k : Nat} {v : α} {f : Nat → α} {n : Nat} : upd k v f n = if n = k then v else f n:=rfl
@[simp] theorem isNone_none : Obj.none.isNone = true:=rfl
@[simp] theorem yEk {l : List AV} : (Obj.box l).isNone = false:=rfl
@[simp] theorem yDj {k : Nat} {l : List (List C)} : (Obj.row k l).isNone = false:=rfl
@[simp] theorem yEX {k v : Nat} {l : List (List C)} : (Obj.tr k v l).isNone = false:=rfl
@[simp] theorem yIt {s : St} {id t : Nat} : (s.drop id).env t = (s.env t).kill id:=rfl
@[simp] theorem drop_ob {s : St} {id i : Nat} : (s.drop id).ob i = if i = id then .none else (s.ob i).kill id:=rfl
@[simp] theorem yE9 {s : St} {id i : Nat} : (s.drop id).objs i = if i = id then .none else (s.ob i).kill id:=rfl
@[simp] theorem yHy {s : St} : s.drops [] = s:=rfl
@[simp] theorem yDc {s : St} {i : Nat} {l : List Nat} : s.drops (i :: l) = (s.drop i).drops l:=rfl
@[simp ↓] theorem yEY {s : St} {d : Nat} {o : Obj} {v : Nat → AV} {K : St → Prop} : newP s (some d) o v K = ((s.ob d).isNone = true ∧ K ((s.yat d o).put (some d) (v d))):=rfl
@[simp] theorem pickP_t {a b : AV} {k : AV → Prop} : yf1 (.c (.b true)) a b k = k a:=by
 unfold yf1; simp only; split <;> simp
@[simp] theorem pickP_f {a b : AV} {k : AV → Prop} : yf1 (.c (.b false)) a b k = k b:=by
 unfold yf1; simp only; split <;> simp
@[simp] theorem yF4 {t x y : Bool} {k : AV → Prop} : yf1 (.c (.b t)) (.c (.b x)) (.c (.b y)) k = k (.c (.b (cond t x y))):=rfl
@[simp] theorem binP_ii {o : BinOp} {a b : Int} {k : AV → Prop} : ypb o (.c (.i a)) (.c (.i b)) k = yky o a b k:=rfl
@[simp] theorem yKh {a b : Int} {k : AV → Prop} : yky .add a b k = (inI (a + b) ∧ k (.c (.i (a + b)))):=rfl
@[simp] theorem yJG {a b : Int} {k : AV → Prop} : yky .sub a b k = (inI (a - b) ∧ k (.c (.i (a - b)))):=rfl
@[simp] theorem yJh {a b : Int} {k : AV → Prop} : yky .mul a b k = (inI (a * b) ∧ k (.c (.i (a * b)))):=rfl
@[simp] theorem yKJ {a b : Int} {k : AV → Prop} : yky .quo a b k = (b ≠ 0 ∧ inI (a.tdiv b) ∧ k (.c (.i (a.tdiv b)))):=rfl
@[simp] theorem yHW {a b : Int} {k : AV → Prop} : yky .rem a b k = (b ≠ 0 ∧ inI (a.tmod b) ∧ k (.c (.i (a.tmod b)))):=rfl
@[simp] theorem yJm {a b : Int} {k : AV → Prop} : yky .eql a b k = k (.c (.b (decide (a = b)))):=rfl
@[simp] theorem yJj {a b : Int} {k : AV → Prop} : yky .neq a b k = k (.c (.b (!decide (a = b)))):=rfl
@[simp] theorem yKc {a b : Int} {k : AV → Prop} : yky .lss a b k = k (.c (.b (decide (a < b)))):=rfl
@[simp] theorem yKn {a b : Int} {k : AV → Prop} : yky .leq a b k = k (.c (.b (decide (a ≤ b)))):=rfl
@[simp] theorem yJz {a b : Int} {k : AV → Prop} : yky .gtr a b k = k (.c (.b (decide (b < a)))):=rfl
@[simp] theorem yHH {a b : Int} {k : AV → Prop} : yky .geq a b k = k (.c (.b (decide (b ≤ a)))):=rfl
@[simp] theorem beqP_ff {a b : Bool} {k : AV → Prop} : ynB false (.c (.b a)) (.c (.b b)) k = k (.c (.b (decide (a = b)))):=rfl
@[simp] theorem beqP_tt {a b : Bool} {k : AV → Prop} : ynB true (.c (.b a)) (.c (.b b)) k = k (.c (.b (!decide (a = b)))):=rfl
@[simp] theorem notP_b {a : Bool} {k : AV → Prop} : notP (.c (.b a)) k = k (.c (.b !a)):=rfl
@[simp] theorem negP_i {a : Int} {k : AV → Prop} : ypq (.c (.i a)) k = (inI (-a) ∧ k (.c (.i (-a)))):=rfl
@[simp] theorem isnP_sl {n : Nat} {rows : List (List C)} {k : AV → Prop} : ytk (.c (.sl n rows)) k = ∀ v : Bool,(v = true → rows = []) → k (.c (.b v)):=rfl
@[simp] theorem yI3 {n : Nat} {k : AV → Prop} : ytk (.nil n) k = k (.c (.b true)):=rfl
@[simp] theorem yKi {id q n : Nat} {k : AV → Prop} : ytk (.own id q n) k = ∀ v : Bool,(v = true → n = 0) → k (.c (.b v)):=rfl
@[simp] theorem idxP_sl {m m' : Nat} {rows : List (List C)} {n : Int} {s : St} {k : AV → Prop} : yiC m s (.c (.sl m' rows)) (.c (.i n)) k = (m' = m ∧ 0 ≤ n ∧ n < rows.length ∧ k (.elt (rows.getD n.toNat []))):=rfl
@[simp] theorem yHs {m m' : Nat} {rows : List (List C)} {n : Int} {s : St} {k : AV → Prop} : yiC m s (.clip m' rows) (.c (.i n)) k = (m' = m ∧ 0 ≤ n ∧ n < rows.length ∧ k (.elt (rows.getD n.toNat []))):=rfl
@[simp] theorem yJT {id m m' r : Nat} {n : Int} {s : St} {k : AV → Prop} : yiC m s (.own id m' r) (.c (.i n)) k = (m' = m ∧ 0 ≤ n ∧ n < (r : Int) ∧ k (.row id m n 0)):=rfl
@[simp] theorem yKa {id m m' lo r : Nat} {n : Int} {s : St} {k : AV → Prop} : yiC m s (.cut id m' lo r) (.c (.i n)) k = (m' = m ∧ 0 ≤ n ∧ n < (r : Int) ∧ k (.row id m (lo + n) 0)):=rfl
def yx3 (m : Nat) (id ver : Nat) (i : Int) (j m' r : Nat) (n : Int) (k : AV → Prop) : Obj → Prop
 | .tr _ ver' _=>ver' = ver ∧ m' = m ∧ 0 ≤ n ∧ n < (r : Int) ∧ k (.yc3 id ver i j m n 0)
 | _=>False
@[congr] theorem yE4 {m id ver : Nat} {i : Int} {j m' r : Nat} {n : Int} {k : AV → Prop} {a a' : Obj} (h : a = a') : yx3 m id ver i j m' r n k a = yx3 m id ver i j m' r n k a':=by rw [h]
@[simp] theorem yJO {m id ver : Nat} {i : Int} {j m' r : Nat} {n : Int} {s : St} {k : AV → Prop} : yiC m s (.sub id ver i j m' r) (.c (.i n)) k = yx3 m id ver i j m' r n k (s.ob id):=by first | rfl | (simp only [yiC,yx3]; done) | (simp only [yiC,yx3]; rfl)
@[simp] theorem idxT_tr {m id ver k0 ver' : Nat} {i : Int} {j m' r : Nat} {n : Int} {rows : List (List C)} {k : AV → Prop} : yx3 m id ver i j m' r n k (.tr k0 ver' rows) = (ver' = ver ∧ m' = m ∧ 0 ≤ n ∧ n < (r : Int) ∧ k (.yc3 id ver i j m n 0)):=rfl
@[simp] theorem yI2 {id m m' n : Nat} {j q : Int} {k : AV → Prop} : ypc m n (.row id m' j 0) (.c (.i q)) k = (m' = m ∧ j = 0 ∧ 0 ≤ q ∧ q < (n : Int) ∧ k (.row id m q 0)):=rfl
@[simp] theorem yJe {off id o : Nat} {s : St} {k : AV → Prop} : yjb off s (.box id o) k = k (.box id (o + off)):=rfl
@[simp] theorem yKw {off id m o : Nat} {i : Int} {s : St} {k : AV → Prop} : yjb off s (.row id m i o) k = k (.row id m i (o + off)):=rfl
@[simp] theorem yIZ {off : Nat} {cs : List C} {s : St} {k : AV → Prop} : yjb off s (.elt cs) k = k (.elt (cs.drop off)):=rfl
def yyu (off id ver : Nat) (i : Int) (j q : Nat) (i' : Int) (o : Nat) (k : AV → Prop) : Obj → Prop
 | .tr _ ver' _=>ver' = ver ∧ k (.yc3 id ver i j q i' (o + off))
 | _=>False
@[congr] theorem yEZ {off id ver : Nat} {i : Int} {j q : Nat} {i' : Int} {o : Nat} {k : AV → Prop} {a a' : Obj} (h : a = a') : yyu off id ver i j q i' o k a = yyu off id ver i j q i' o k a':=by rw [h]
@[simp] theorem yGP {off id ver : Nat} {i : Int} {j q : Nat} {i' : Int} {o : Nat} {s : St} {k : AV → Prop} : yjb off s (.yc3 id ver i j q i' o) k = yyu off id ver i j q i' o k (s.ob id):=by first | rfl | (simp only [yjb,yyu]; done) | (simp only [yjb,yyu]; rfl)
@[simp] theorem fldT_tr {off id ver k0 ver' : Nat} {i : Int} {j q : Nat} {i' : Int} {o : Nat} {rows : List (List C)} {k : AV → Prop} : yyu off id ver i j q i' o k (.tr k0 ver' rows) = (ver' = ver ∧ k (.yc3 id ver i j q i' (o + off))):=rfl
@[simp] theorem av_i {id ver : Nat} {i : Int} {j : Nat} {n : Int} : (C.i n).av id ver i j = .c (.i n):=rfl
@[simp] theorem av_b {id ver : Nat} {i : Int} {j : Nat} {n : Bool} : (C.b n).av id ver i j = .c (.b n):=rfl
@[simp] theorem av_u {id ver : Nat} {i : Int} {j : Nat} {n : Nat} : (C.u n).av id ver i j = .c (.u n):=rfl
@[simp] theorem av_q {id ver : Nat} {i : Int} {j : Nat} {n : Nat} : (C.q n).av id ver i j = .c (.q n):=rfl
@[simp] theorem av_s {id ver : Nat} {i : Int} {j : Nat} {n : ByteArray} : (C.s n).av id ver i j = .c (.s n):=rfl
@[simp] theorem av_sl {id ver : Nat} {i : Int} {j k : Nat} {r : List (List C)} : (C.sl k r).av id ver i j = .c (.sl k r):=rfl
@[simp] theorem av_ow {id ver : Nat} {i : Int} {j k : Nat} {r : List (List C)} : (C.ow k r).av id ver i j = .sub id ver i j k r.length:=rfl
@[simp] theorem av_ot {id ver : Nat} {i : Int} {j k : Nat} {r : List (List C)} : (C.ot k r).av id ver i j = .sub id ver i j k r.length:=rfl
@[simp] theorem av_jk {id ver : Nat} {i : Int} {j : Nat} : C.jk.av id ver i j = .any:=rfl
@[simp] theorem av2_i {n : Int} : (C.i n).av2 = .c (.i n):=rfl
@[simp] theorem av2_b {n : Bool} : (C.b n).av2 = .c (.b n):=rfl
@[simp] theorem av2_u {n : Nat} : (C.u n).av2 = .c (.u n):=rfl
@[simp] theorem av2_q {n : Nat} : (C.q n).av2 = .c (.q n):=rfl
@[simp] theorem av2_s {n : ByteArray} : (C.s n).av2 = .c (.s n):=rfl
@[simp] theorem av2_sl {k : Nat} {r : List (List C)} : (C.sl k r).av2 = .c (.sl k r):=rfl
@[simp] theorem avs_nil {id ver : Nat} {i : Int} {j : Nat} : avs id ver i j [] = []:=rfl
@[simp] theorem yH1 {id ver : Nat} {i : Int} {j : Nat} {c : C} {l : List C} : avs id ver i j (c :: l) = c.av id ver i j :: avs id ver i (j + 1) l:=rfl
@[simp] theorem yHa {rows : List (List C)} {i j : Nat} : cellAt rows i j = (rows[i]?).bind (·[j]?):=by unfold cellAt; cases rows[i]? <;> rfl
@[simp] theorem yJ1 {s : St} {x : C} {cs : List C} {k : AV → Prop} : yhV s (.elt (x :: cs)) k = k (.c x):=rfl
@[simp] theorem yI7 {n : Nat} {s : St} {cs : List C} {k : AV → Prop} : yhX n s (.elt cs) k = (n ≤ cs.length ∧ k (.agg ((cs.take n).map .c))):=rfl
def yrD (k : AV → Prop) (o : Nat) : Obj → Prop
 | .box cells=>match cells[o]? with
  | some v=>k v
  | none=>False
 | _=>False
@[congr] theorem yEK {o : Nat} {a a' : Obj} {k : AV → Prop} (h : a = a') : yrD k o a = yrD k o a':=by rw [h]
@[simp] theorem yH7 {s : St} {id o : Nat} {k : AV → Prop} : yhV s (.box id o) k = yrD k o (s.ob id):=rfl
def yu2 (k : AV → Prop) : Option AV → Prop | some v=>k v | none=>False
@[congr] theorem yHk {a a' : Option AV} {k : AV → Prop} (h : a = a') : yu2 k a = yu2 k a':=by rw [h]
@[simp] theorem yHu {v : AV} {k : AV → Prop} : yu2 k (some v) = k v:=rfl
@[simp] theorem yF3 {o : Nat} {cells : List AV} {k : AV → Prop} : yrD k o (.box cells) = yu2 k cells[o]?:=by first | rfl | (simp only [yrD,yu2]; done) | (simp only [yrD,yu2]; rfl)
def ysD (k : AV → Prop) (n o : Nat) : Obj → Prop
 | .box cells=>o + n ≤ cells.length ∧ k (.agg ((cells.drop o).take n))
 | _=>False
@[congr] theorem yB3 {n o : Nat} {a a' : Obj} {k : AV → Prop} (h : a = a') : ysD k n o a = ysD k n o a':=by rw [h]
@[simp] theorem yJp {s : St} {id o n : Nat} {k : AV → Prop} : yhX n s (.box id o) k = ysD k n o (s.ob id):=rfl
@[simp] theorem yEd {n o : Nat} {cells : List AV} {k : AV → Prop} : ysD k n o (.box cells) = (o + n ≤ cells.length ∧ k (.agg ((cells.drop o).take n))):=rfl
def ypd (k : AV → Prop) (m : Nat) (i : Int) (o id : Nat) : Obj → Prop
 | .row k' rows=>k' = m ∧ i.toNat < rows.length ∧ o < m ∧ k (.c ((rows.getD i.toNat []).getD o default))
 | .tr k' ver rows=>k' = m ∧ i.toNat < rows.length ∧ o < m ∧ k (((rows.getD i.toNat []).getD o default).av id ver i o)
 | _=>False
@[congr] theorem yET {m o id : Nat} {i : Int} {a a' : Obj} {k : AV → Prop} (h : a = a') : ypd k m i o id a = ypd k m i o id a':=by rw [h]
@[simp] theorem yKB {s : St} {id m o : Nat} {i : Int} {k : AV → Prop} : yhV s (.row id m i o) k = ypd k m i o id (s.ob id):=by first | rfl | (simp only [yhV,ypd]; done) | (simp only [yhV,ypd]; rfl)
@[simp] theorem yHO {m m' ver o id : Nat} {i : Int} {rows : List (List C)} {k : AV → Prop} : ypd k m i o id (.tr m' ver rows) = (m' = m ∧ i.toNat < rows.length ∧ o < m ∧ k (((rows.getD i.toNat []).getD o default).av id ver i o)):=rfl
@[simp] theorem yHr {m m' o id : Nat} {i : Int} {rows : List (List C)} {k : AV → Prop} : ypd k m i o id (.row m' rows) = (m' = m ∧ i.toNat < rows.length ∧ o < m ∧ k (.c ((rows.getD i.toNat []).getD o default))):=rfl
def yks (k : AV → Prop) (n m : Nat) (i : Int) (o id : Nat) : Obj → Prop
 | .row k' rows=>k' = m ∧ i.toNat < rows.length ∧ o + n ≤ m ∧ k (.agg ((((rows.getD i.toNat []).drop o).take n).map .c))
 | .tr k' ver rows=>k' = m ∧ i.toNat < rows.length ∧ o + n ≤ m ∧ k (.agg (avs id ver i o (((rows.getD i.toNat []).drop o).take n)))
 | _=>False
@[congr] theorem yCq {n m o id : Nat} {i : Int} {a a' : Obj} {k : AV → Prop} (h : a = a') : yks k n m i o id a = yks k n m i o id a':=by rw [h]
@[simp] theorem yKl {s : St} {id m o n : Nat} {i : Int} {k : AV → Prop} : yhX n s (.row id m i o) k = yks k n m i o id (s.ob id):=by first | rfl | (simp only [yhX,yks]; done) | (simp only [yhX,yks]; rfl)
@[simp] theorem yHj {n m m' ver o id : Nat} {i : Int} {rows : List (List C)} {k : AV → Prop} : yks k n m i o id (.tr m' ver rows) = (m' = m ∧ i.toNat < rows.length ∧ o + n ≤ m ∧ k (.agg (avs id ver i o (((rows.getD i.toNat []).drop o).take n)))):=rfl
def yuS (k : AV → Prop) (ver q : Nat) (i : Int) (j : Nat) (i' : Int) (o : Nat) : Obj → Prop
 | .tr _ ver' rows=>ver' = ver ∧ match cellAt rows i.toNat j with
  | some (.ow k' rs)=>k' = q ∧ i'.toNat < rs.length ∧ o < q ∧ k (.c ((rs.getD i'.toNat []).getD o default))
  | some (.ot k' rs)=>k' = q ∧ i'.toNat < rs.length ∧ o < q ∧ k ((rs.getD i'.toNat []).getD o default).av2
  | _=>False
 | _=>False
@[congr] theorem yGh {ver q : Nat} {i : Int} {j : Nat} {i' : Int} {o : Nat} {a a' : Obj} {k : AV → Prop} (h : a = a') : yuS k ver q i j i' o a = yuS k ver q i j i' o a':=by rw [h]
@[simp] theorem yFO {s : St} {id ver q : Nat} {i : Int} {j : Nat} {i' : Int} {o : Nat} {k : AV → Prop} : yhV s (.yc3 id ver i j q i' o) k = yuS k ver q i j i' o (s.ob id):=by first | rfl | (simp only [yhV,yuS]; done) | (simp only [yhV,yuS]; rfl)
def srC (k : AV → Prop) (q : Nat) (i' : Int) (o : Nat) : Option C → Prop
 | some (.ow k' rs)=>k' = q ∧ i'.toNat < rs.length ∧ o < q ∧ k (.c ((rs.getD i'.toNat []).getD o default))
 | some (.ot k' rs)=>k' = q ∧ i'.toNat < rs.length ∧ o < q ∧ k ((rs.getD i'.toNat []).getD o default).av2
 | _=>False
@[congr] theorem yJJ {q : Nat} {i' : Int} {o : Nat} {a a' : Option C} {k : AV → Prop} (h : a = a') : srC k q i' o a = srC k q i' o a':=by rw [h]
@[simp] theorem srLd_tr {k0 ver' ver q : Nat} {i : Int} {j : Nat} {i' : Int} {o : Nat} {rows : List (List C)} {k : AV → Prop} : yuS k ver q i j i' o (.tr k0 ver' rows) = (ver' = ver ∧ srC k q i' o (cellAt rows i.toNat j)):=by first | rfl | (simp only [yuS,srC]; done) | (simp only [yuS,srC]; rfl)
@[simp] theorem srC_ow {k' q : Nat} {i' : Int} {o : Nat} {rs : List (List C)} {k : AV → Prop} : srC k q i' o (some (.ow k' rs)) = (k' = q ∧ i'.toNat < rs.length ∧ o < q ∧ k (.c ((rs.getD i'.toNat []).getD o default))):=rfl
@[simp] theorem srC_ot {k' q : Nat} {i' : Int} {o : Nat} {rs : List (List C)} {k : AV → Prop} : srC k q i' o (some (.ot k' rs)) = (k' = q ∧ i'.toNat < rs.length ∧ o < q ∧ k ((rs.getD i'.toNat []).getD o default).av2):=rfl
def ym1 (k : AV → Prop) (n ver q : Nat) (i : Int) (j : Nat) (i' : Int) (o : Nat) : Obj → Prop
 | .tr _ ver' rows=>ver' = ver ∧ match cellAt rows i.toNat j with
  | some (.ow k' rs)=>k' = q ∧ i'.toNat < rs.length ∧ o + n ≤ q ∧ k (.agg ((((rs.getD i'.toNat []).drop o).take n).map .c))
  | some (.ot k' rs)=>k' = q ∧ i'.toNat < rs.length ∧ o + n ≤ q ∧ k (.agg ((((rs.getD i'.toNat []).drop o).take n).map C.av2))
  | _=>False
 | _=>False
@[congr] theorem yEx {n ver q : Nat} {i : Int} {j : Nat} {i' : Int} {o : Nat} {a a' : Obj} {k : AV → Prop} (h : a = a') : ym1 k n ver q i j i' o a = ym1 k n ver q i j i' o a':=by rw [h]
@[simp] theorem yGz {s : St} {n id ver q : Nat} {i : Int} {j : Nat} {i' : Int} {o : Nat} {k : AV → Prop} : yhX n s (.yc3 id ver i j q i' o) k = ym1 k n ver q i j i' o (s.ob id):=by first | rfl | (simp only [yhX,ym1]; done) | (simp only [yhX,ym1]; rfl)
def ywD (k : AV → Prop) (n q : Nat) (i' : Int) (o : Nat) : Option C → Prop
 | some (.ow k' rs)=>k' = q ∧ i'.toNat < rs.length ∧ o + n ≤ q ∧ k (.agg ((((rs.getD i'.toNat []).drop o).take n).map .c))
 | some (.ot k' rs)=>k' = q ∧ i'.toNat < rs.length ∧ o + n ≤ q ∧ k (.agg ((((rs.getD i'.toNat []).drop o).take n).map C.av2))
 | _=>False
@[congr] theorem yFV {n q : Nat} {i' : Int} {o : Nat} {a a' : Option C} {k : AV → Prop} (h : a = a') : ywD k n q i' o a = ywD k n q i' o a':=by rw [h]
@[simp] theorem yH5 {n k0 ver' ver q : Nat} {i : Int} {j : Nat} {i' : Int} {o : Nat} {rows : List (List C)} {k : AV → Prop} : ym1 k n ver q i j i' o (.tr k0 ver' rows) = (ver' = ver ∧ ywD k n q i' o (cellAt rows i.toNat j)):=by first | rfl | (simp only [ym1,ywD]; done) | (simp only [ym1,ywD]; rfl)
@[simp] theorem srCn_ow {n k' q : Nat} {i' : Int} {o : Nat} {rs : List (List C)} {k : AV → Prop} : ywD k n q i' o (some (.ow k' rs)) = (k' = q ∧ i'.toNat < rs.length ∧ o + n ≤ q ∧ k (.agg ((((rs.getD i'.toNat []).drop o).take n).map .c))):=rfl
@[simp] theorem srCn_ot {n k' q : Nat} {i' : Int} {o : Nat} {rs : List (List C)} {k : AV → Prop} : ywD k n q i' o (some (.ot k' rs)) = (k' = q ∧ i'.toNat < rs.length ∧ o + n ≤ q ∧ k (.agg ((((rs.getD i'.toNat []).drop o).take n).map C.av2))):=rfl
@[simp] theorem yDO {n m m' o id : Nat} {i : Int} {rows : List (List C)} {k : AV → Prop} : yks k n m i o id (.row m' rows) = (m' = m ∧ i.toNat < rows.length ∧ o + n ≤ m ∧ k (.agg ((((rows.getD i.toNat []).drop o).take n).map .c))):=rfl
def ywO (K : St → Prop) (s : St) (id o : Nat) (v : AV) : Obj → Prop
 | .box cells=>o < cells.length ∧ v.yaE = true ∧ K (s.yat id (.box (cells.set o v)))
 | _=>False
@[congr] theorem yEG {s : St} {id o : Nat} {v : AV} {a a' : Obj} {K : St → Prop} (h : a = a') : ywO K s id o v a = ywO K s id o v a':=by rw [h]
@[simp] theorem yIV {s : St} {id o : Nat} {v : AV} {K : St → Prop} : yhW s (.box id o) v K = ywO K s id o v (s.ob id):=rfl
@[simp] theorem yGS {s : St} {id o : Nat} {v : AV} {cells : List AV} {K : St → Prop} : ywO K s id o v (.box cells) = (o < cells.length ∧ v.yaE = true ∧ K (s.yat id (.box (cells.set o v)))):=rfl
def yi9 (K : St → Prop) (s : St) (id m : Nat) (i : Int) (o : Nat) (v : AV) : Obj → Prop
 | .row k' rows=>match v.toC with
  | some c=>k' = m ∧ i.toNat < rows.length ∧ o < m ∧ K (s.yat id (.row m (rows.set i.toNat ((rows.getD i.toNat []).set o c))))
  | none=>False
 | .tr k' ver rows=>match pk1 s v with
  | some (c,ids)=>k' = m ∧ i.toNat < rows.length ∧ o < m ∧ ids.Nodup ∧ id ∉ ids ∧ K ((s.drops ids).yat id (.tr m (ver + 1) (setAt rows i.toNat o c)))
  | none=>False
 | _=>False
@[congr] theorem yC3 {s : St} {id m o : Nat} {i : Int} {v : AV} {a a' : Obj} {K : St → Prop} (h : a = a') : yi9 K s id m i o v a = yi9 K s id m i o v a':=by rw [h]
@[simp] theorem yJE {s : St} {id m o : Nat} {i : Int} {v : AV} {K : St → Prop} : yhW s (.row id m i o) v K = yi9 K s id m i o v (s.ob id):=by first | rfl | (simp only [yhW,yi9]; done) | (simp only [yhW,yi9]; rfl)
@[simp] theorem yHg {s : St} {id m m' o : Nat} {i : Int} {c : C} {rows : List (List C)} {K : St → Prop} : yi9 K s id m i o (.c c) (.row m' rows) = (m' = m ∧ i.toNat < rows.length ∧ o < m ∧ K (s.yat id (.row m (rows.set i.toNat ((rows.getD i.toNat []).set o c))))):=rfl
@[simp] theorem yEl {s : St} {id m m' o n : Nat} {i : Int} {rows : List (List C)} {K : St → Prop} : yi9 K s id m i o (.nil n) (.row m' rows) = (m' = m ∧ i.toNat < rows.length ∧ o < m ∧ K (s.yat id (.row m (rows.set i.toNat ((rows.getD i.toNat []).set o (.sl n [])))))):=rfl
@[simp] theorem yC6 {s : St} {id m m' o n : Nat} {i : Int} {rows r : List (List C)} {K : St → Prop} : yi9 K s id m i o (.clip n r) (.row m' rows) = (m' = m ∧ i.toNat < rows.length ∧ o < m ∧ K (s.yat id (.row m (rows.set i.toNat ((rows.getD i.toNat []).set o (.sl n r)))))):=rfl
def yxW (K : St → Prop) (s : St) (id m : Nat) (i : Int) (o m' ver : Nat) (rows : List (List C)) : Option (C × List Nat) → Prop
 | some (c,ids)=>m' = m ∧ i.toNat < rows.length ∧ o < m ∧ ids.Nodup ∧ id ∉ ids ∧ K ((s.drops ids).yat id (.tr m (ver + 1) (setAt rows i.toNat o c)))
 | none=>False
@[congr] theorem yE6 {s : St} {id m m' ver o : Nat} {i : Int} {rows : List (List C)} {K : St → Prop} {a a' : Option (C × List Nat)} (h : a = a') : yxW K s id m i o m' ver rows a = yxW K s id m i o m' ver rows a':=by rw [h]
@[simp] theorem yIa {s : St} {id m m' ver o : Nat} {i : Int} {v : AV} {rows : List (List C)} {K : St → Prop} : yi9 K s id m i o v (.tr m' ver rows) = yxW K s id m i o m' ver rows (pk1 s v):=by first | rfl | (simp only [yi9,yxW]; done) | (simp only [yi9,yxW]; rfl)
@[simp] theorem yFt {s : St} {id m m' ver o : Nat} {i : Int} {rows : List (List C)} {c : C} {ids : List Nat} {K : St → Prop} : yxW K s id m i o m' ver rows (some (c,ids)) = (m' = m ∧ i.toNat < rows.length ∧ o < m ∧ ids.Nodup ∧ id ∉ ids ∧ K ((s.drops ids).yat id (.tr m (ver + 1) (setAt rows i.toNat o c)))):=rfl
@[simp] theorem plain_i {n : Int} : (C.i n).plain = true:=rfl
@[simp] theorem plain_b {n : Bool} : (C.b n).plain = true:=rfl
@[simp] theorem plain_u {n : Nat} : (C.u n).plain = true:=rfl
@[simp] theorem plain_q {n : Nat} : (C.q n).plain = true:=rfl
@[simp] theorem plain_s {n : ByteArray} : (C.s n).plain = true:=rfl
@[simp] theorem yJF {k : Nat} {r : List (List C)} : (C.sl k r).plain = true:=rfl
@[simp] theorem pk1_c {s : St} {x : C} : pk1 s (.c x) = if x.plain then some (x,[]) else none:=rfl
@[simp] theorem yI0 {s : St} {k : Nat} {r : List (List C)} : pk1 s (.clip k r) = some (.sl k r,[]):=rfl
@[simp] theorem pk1_nil {s : St} {k : Nat} : pk1 s (.nil k) = some (.sl k [],[]):=rfl
def pkO (k id n : Nat) : Obj → Option (C × List Nat)
 | .row k' rows=>if k' = k then some (.ow k (rows.take n),[id]) else none
 | .tr k' _ rows=>if k' = k then some (.ot k (rows.take n),[id]) else none
 | _=>none
@[simp] theorem pk1_own {s : St} {id k n : Nat} : pk1 s (.own id k n) = pkO k id n (s.ob id):=by first | rfl | (simp only [pk1,pkO]; done) | (simp only [pk1,pkO]; rfl)
@[simp] theorem pkO_row {k id n k' : Nat} {rows : List (List C)} : pkO k id n (.row k' rows) = if k' = k then some (.ow k (rows.take n),[id]) else none:=rfl
@[simp] theorem pkO_tr {k id n k' ver : Nat} {rows : List (List C)} : pkO k id n (.tr k' ver rows) = if k' = k then some (.ot k (rows.take n),[id]) else none:=rfl
@[simp] theorem pkl_nil {s : St} : pkl s [] = some ([],[]):=rfl
@[simp] theorem yKF {s : St} {x : AV} {l : List AV} : pkl s (x :: l) = (pk1 s x).bind fun p=>(pkl s l).map fun q=>(p.1 :: q.1,p.2 ++ q.2):=by
 simp only [pkl]; cases pk1 s x <;> cases pkl s l <;> rfl
@[simp] theorem pkl_map {s : St} {l : List C} (h : l.all C.plain = true) : pkl s (l.map .c) = some (l,[]):=by
 induction l with
 | nil=>rfl
 | cons x l ih =>
  simp only [List.all_cons,Bool.and_eq_true] at h
  simp [ih h.2,h.1]
@[simp] theorem pks_nil {s : St} : pks s [] = some ([],[]):=rfl
@[simp] theorem yIg {s : St} {x : AV} {l : List AV} : pks s (x :: l) = (pkl s x.cellsOf).bind fun p=>(pks s l).map fun q=>(p.1 :: q.1,p.2 ++ q.2):=by
 simp only [pks]; cases pkl s x.cellsOf <;> cases pks s l <;> rfl
def ytJ (K : St → Prop) (s : St) (id ver q : Nat) (i : Int) (j : Nat) (i' : Int) (o : Nat) (v : AV) : Obj → Prop
 | .tr k0 ver' rows=>ver' = ver ∧ match cellAt rows i.toNat j with
  | some (.ow k' rs)=>match v.toC with
   | some c=>k' = q ∧ i'.toNat < rs.length ∧ o < q ∧ K (s.yat id (.tr k0 (ver + 1) (setAt rows i.toNat j (.ow q (setAt rs i'.toNat o c)))))
   | none=>False
  | _=>False
 | _=>False
@[congr] theorem yFb {s : St} {id ver q : Nat} {i : Int} {j : Nat} {i' : Int} {o : Nat} {v : AV} {a a' : Obj} {K : St → Prop} (h : a = a') : ytJ K s id ver q i j i' o v a = ytJ K s id ver q i j i' o v a':=by rw [h]
@[simp] theorem yGT {s : St} {id ver q : Nat} {i : Int} {j : Nat} {i' : Int} {o : Nat} {v : AV} {K : St → Prop} : yhW s (.yc3 id ver i j q i' o) v K = ytJ K s id ver q i j i' o v (s.ob id):=by first | rfl | (simp only [yhW,ytJ]; done) | (simp only [yhW,ytJ]; rfl)
def yrX (K : St → Prop) (s : St) (id ver q k0 : Nat) (rows : List (List C)) (i : Int) (j : Nat) (i' : Int) (o : Nat) (c : C) : Option C → Prop
 | some (.ow k' rs)=>k' = q ∧ i'.toNat < rs.length ∧ o < q ∧ K (s.yat id (.tr k0 (ver + 1) (setAt rows i.toNat j (.ow q (setAt rs i'.toNat o c)))))
 | _=>False
@[congr] theorem yEm {s : St} {id ver q k0 : Nat} {rows : List (List C)} {i : Int} {j : Nat} {i' : Int} {o : Nat} {c : C} {K : St → Prop} {a a' : Option C} (h : a = a') : yrX K s id ver q k0 rows i j i' o c a = yrX K s id ver q k0 rows i j i' o c a':=by rw [h]
@[simp] theorem srSt_tr {s : St} {id ver q k0 ver' : Nat} {i : Int} {j : Nat} {i' : Int} {o : Nat} {c : C} {rows : List (List C)} {K : St → Prop} : ytJ K s id ver q i j i' o (.c c) (.tr k0 ver' rows) = (ver' = ver ∧ yrX K s id ver q k0 rows i j i' o c (cellAt rows i.toNat j)):=by first | rfl | (simp only [ytJ,yrX,AV.toC]; done) | (simp only [ytJ,yrX,AV.toC]; rfl)
@[simp] theorem yIw {s : St} {id ver q k0 k' : Nat} {rows rs : List (List C)} {i : Int} {j : Nat} {i' : Int} {o : Nat} {c : C} {K : St → Prop} : yrX K s id ver q k0 rows i j i' o c (some (.ow k' rs)) = (k' = q ∧ i'.toNat < rs.length ∧ o < q ∧ K (s.yat id (.tr k0 (ver + 1) (setAt rows i.toNat j (.ow q (setAt rs i'.toNat o c)))))):=rfl
def ysS (K : St → Prop) (s : St) (id o n : Nat) (l : List AV) : Obj → Prop
 | .box cells=>o + n ≤ cells.length ∧ l.all AV.yaE = true ∧ K (s.yat id (.box (cells.take o ++ l ++ cells.drop (o + n))))
 | _=>False
@[congr] theorem yBV {s : St} {id o n : Nat} {l : List AV} {a a' : Obj} {K : St → Prop} (h : a = a') : ysS K s id o n l a = ysS K s id o n l a':=by rw [h]
@[simp] theorem yJo {s : St} {id o n : Nat} {l : List AV} {K : St → Prop} : ykn n s (.box id o) (.agg l) K = (l.length = n ∧ ysS K s id o n l (s.ob id)):=rfl
@[simp] theorem yCD {s : St} {id o n : Nat} {l cells : List AV} {K : St → Prop} : ysS K s id o n l (.box cells) = (o + n ≤ cells.length ∧ l.all AV.yaE = true ∧ K (s.yat id (.box (cells.take o ++ l ++ cells.drop (o + n))))):=rfl
def yf2 (K : St → Prop) (s : St) (id m : Nat) (i : Int) (o n : Nat) (l : List AV) : Obj → Prop
 | .row k' rows=>match AV.yeD l with
  | some cs=>k' = m ∧ i.toNat < rows.length ∧ o + n ≤ m ∧ K (s.yat id (.row m (rows.set i.toNat ((rows.getD i.toNat []).take o ++ cs ++ (rows.getD i.toNat []).drop (o + n)))))
  | none=>False
 | .tr k' ver rows=>match pkl s l with
  | some (cs,ids)=>k' = m ∧ i.toNat < rows.length ∧ o + n ≤ m ∧ ids.Nodup ∧ id ∉ ids ∧ K ((s.drops ids).yat id (.tr m (ver + 1) (rows.set i.toNat ((rows.getD i.toNat []).take o ++ cs ++ (rows.getD i.toNat []).drop (o + n)))))
  | none=>False
 | _=>False
@[congr] theorem yBY {s : St} {id m o n : Nat} {i : Int} {l : List AV} {a a' : Obj} {K : St → Prop} (h : a = a') : yf2 K s id m i o n l a = yf2 K s id m i o n l a':=by rw [h]
@[simp] theorem yJa {s : St} {id m o n : Nat} {i : Int} {l : List AV} {K : St → Prop} : ykn n s (.row id m i o) (.agg l) K = (l.length = n ∧ yf2 K s id m i o n l (s.ob id)):=by first | rfl | (simp only [ykn,yf2]; done) | (simp only [ykn,yf2]; rfl)
def ymh (K : St → Prop) (s : St) (id m : Nat) (i : Int) (o n m' : Nat) (rows : List (List C)) : Option (List C) → Prop
 | some cs=>m' = m ∧ i.toNat < rows.length ∧ o + n ≤ m ∧ K (s.yat id (.row m (rows.set i.toNat ((rows.getD i.toNat []).take o ++ cs ++ (rows.getD i.toNat []).drop (o + n)))))
 | none=>False
@[congr] theorem yCl {s : St} {id m m' o n : Nat} {i : Int} {rows : List (List C)} {K : St → Prop} {a a' : Option (List C)} (h : a = a') : ymh K s id m i o n m' rows a = ymh K s id m i o n m' rows a':=by rw [h]
@[simp] theorem yEg {s : St} {id m m' o n : Nat} {i : Int} {l : List AV} {rows : List (List C)} {K : St → Prop} : yf2 K s id m i o n l (.row m' rows) = ymh K s id m i o n m' rows (AV.yeD l):=by first | rfl | (simp only [yf2,ymh]; done) | (simp only [yf2,ymh]; rfl)
@[simp] theorem yCe {s : St} {id m m' o n : Nat} {i : Int} {cs : List C} {rows : List (List C)} {K : St → Prop} : ymh K s id m i o n m' rows (some cs) =
 (m' = m ∧ i.toNat < rows.length ∧ o + n ≤ m ∧ K (s.yat id (.row m (rows.set i.toNat ((rows.getD i.toNat []).take o ++ cs ++ (rows.getD i.toNat []).drop (o + n)))))):=rfl
def yr6 (K : St → Prop) (s : St) (id m : Nat) (i : Int) (o n m' ver : Nat) (rows : List (List C)) : Option (List C × List Nat) → Prop
 | some (cs,ids)=>m' = m ∧ i.toNat < rows.length ∧ o + n ≤ m ∧ ids.Nodup ∧ id ∉ ids ∧ K ((s.drops ids).yat id (.tr m (ver + 1) (rows.set i.toNat ((rows.getD i.toNat []).take o ++ cs ++ (rows.getD i.toNat []).drop (o + n)))))
 | none=>False
@[congr] theorem yEP {s : St} {id m m' ver o n : Nat} {i : Int} {rows : List (List C)} {K : St → Prop} {a a' : Option (List C × List Nat)} (h : a = a') : yr6 K s id m i o n m' ver rows a = yr6 K s id m i o n m' ver rows a':=by rw [h]
@[simp] theorem yFn {s : St} {id m m' ver o n : Nat} {i : Int} {l : List AV} {rows : List (List C)} {K : St → Prop} : yf2 K s id m i o n l (.tr m' ver rows) = yr6 K s id m i o n m' ver rows (pkl s l):=by first | rfl | (simp only [yf2,yr6]; done) | (simp only [yf2,yr6]; rfl)
@[simp] theorem yCT {s : St} {id m m' ver o n : Nat} {i : Int} {cs : List C} {ids : List Nat} {rows : List (List C)} {K : St → Prop} : yr6 K s id m i o n m' ver rows (some (cs,ids)) =
 (m' = m ∧ i.toNat < rows.length ∧ o + n ≤ m ∧ ids.Nodup ∧ id ∉ ids ∧ K ((s.drops ids).yat id (.tr m (ver + 1) (rows.set i.toNat ((rows.getD i.toNat []).take o ++ cs ++ (rows.getD i.toNat []).drop (o + n)))))):=rfl
@[simp] theorem yIk : AV.yeD [] = some []:=rfl
@[simp] theorem toCs_c {x : C} {l : List AV} : AV.yeD (.c x :: l) = (AV.yeD l).map (x :: ·):=by simp only [AV.yeD,AV.toC]; cases AV.yeD l <;> rfl
@[simp] theorem toCs_n {n : Nat} {l : List AV} : AV.yeD (.nil n :: l) = (AV.yeD l).map (.sl n [] :: ·):=by simp only [AV.yeD,AV.toC]; cases AV.yeD l <;> rfl
@[simp] theorem toCs_cl {n : Nat} {r : List (List C)} {l : List AV} : AV.yeD (.clip n r :: l) = (AV.yeD l).map (.sl n r :: ·):=by simp only [AV.yeD,AV.toC]; cases AV.yeD l <;> rfl
@[simp] theorem yIh {a b c : Nat} {l : List AV} : AV.yeD (.own a b c :: l) = none:=by first | rfl | (simp only [AV.yeD,AV.toC]; done) | (simp only [AV.yeD,AV.toC]; rfl)
@[simp] theorem yIj {l : List C} : AV.yeD (l.map .c) = some l:=by
 induction l with
 | nil=>rfl
 | cons x l ih=>simp [ih]
@[simp] theorem yAn {l : List C} : (l.map AV.c).all AV.yaE = true:=by simp [List.all_eq_true]; intro x _; rfl
@[simp] theorem yJx {x : C} : (AV.c x).yaE = true:=rfl
@[simp] theorem yDX {n : Nat} : (AV.nil n).yaE = true:=rfl
@[simp] theorem yB2 {n : Nat} {r : List (List C)} : (AV.clip n r).yaE = true:=rfl
@[simp] theorem yDI {a b : Nat} : (AV.box a b).yaE = true:=rfl
@[simp] theorem yDa {a b o : Nat} {i : Int} : (AV.row a b i o).yaE = true:=rfl
@[simp] theorem yDW {cs : List C} : (AV.elt cs).yaE = true:=rfl
@[simp] theorem yCQ {a b c : Nat} : (AV.own a b c).yaE = true:=rfl
@[simp] theorem yB1 {l : List AV} : (AV.agg l).cellsOf = l:=rfl
@[simp] theorem yFe {x : C} : (AV.c x).cellsOf = [.c x]:=rfl
@[simp] theorem cellsOf_nil {n : Nat} : (AV.nil n).cellsOf = [.nil n]:=rfl
@[simp] theorem yA1 {n : Nat} {r : List (List C)} : (AV.clip n r).cellsOf = [.clip n r]:=rfl
@[simp] theorem yCa {a b : Nat} : (AV.box a b).cellsOf = [.box a b]:=rfl
@[simp] theorem yCo {a b c : Nat} : (AV.own a b c).cellsOf = [.own a b c]:=rfl
@[simp ↓] theorem boxP_eq {n : Nat} {s : St} {d : Option Nat} {x : AV} {K : St → Prop} : yyl n s d x K = (x.cellsOf.length = n ∧ x.cellsOf.all AV.yaE = true ∧ newP s d (.box x.cellsOf) (fun d=>.box d 0) K):=rfl
def mkT (k k0 n : Nat) (s : St) (d : Option Nat) (K : St → Prop) (_ : Tag K) : Prop:=mkP k [.sl k0 []] n s d K
theorem yQd {k k0 n : Nat} {s : St} {d : Option Nat} {K : St → Prop} {T : Tag K} (h : newP s d (.row k (List.replicate n [.sl k0 []])) (fun d=>.own d k n) K) : mkT k k0 n s d K T:=.inl h
@[congr] theorem yRX {k k0 n n' : Nat} {s s' : St} {d : Option Nat} {K : St → Prop} {T : Tag K} (h : s = s') (h2 : n = n') : mkT k k0 n s d K T = mkT k k0 n' s' d K T:=by rw [h,h2]
def mkX (z : List C) : Prop:=∀ k0,z ≠ [.sl k0 []]
@[simp] theorem mkX_two {a b : C} {l : List C} : mkX (a :: b :: l) = True:=eq_true fun k0 h=>by simp at h
@[simp] theorem mkX_nil : mkX [] = True:=eq_true fun k0 h=>by simp at h
@[simp] theorem mkX_i {a : Int} : mkX [.i a] = True:=eq_true fun k0 h=>by simp at h
@[simp] theorem mkX_b {a : Bool} : mkX [.b a] = True:=eq_true fun k0 h=>by simp at h
@[simp] theorem mkX_u {a : Nat} : mkX [.u a] = True:=eq_true fun k0 h=>by simp at h
@[simp] theorem mkX_q {a : Nat} : mkX [.q a] = True:=eq_true fun k0 h=>by simp at h
@[simp] theorem mkX_s {a : ByteArray} : mkX [.s a] = True:=eq_true fun k0 h=>by simp at h
theorem mkP_x {k n : Nat} {z : List C} {s : St} {d : Option Nat} {K : St → Prop} (h : mkX z) : mkP k z n s d K = newP s d (.row k (List.replicate n z)) (fun d=>.own d k n) K:=by
 unfold mkP
 split
 ·exact absurd rfl (h _)
 ·simp
@[simp] theorem mksP_sl {k b k0 : Nat} {s : St} {d : Option Nat} {n m : Int} {K : St → Prop} : ysJ k b [.sl k0 []] s d (.c (.i n)) (.c (.i m)) K =
 (0 ≤ n ∧ n ≤ m ∧ (b : Int) * m ≤ 281474976710656 ∧ mkT k k0 n.toNat s d K ⟨⟩):=rfl
@[simp] theorem mksP_eq {k b : Nat} {z : List C} {s : St} {d : Option Nat} {n m : Int} {K : St → Prop} (h : mkX z) : ysJ k b z s d (.c (.i n)) (.c (.i m)) K =
 (0 ≤ n ∧ n ≤ m ∧ (b : Int) * m ≤ 281474976710656 ∧ newP s d (.row k (List.replicate n.toNat z)) (fun d=>.own d k n.toNat) K):=by
 show (0 ≤ n ∧ n ≤ m ∧ (b : Int) * m ≤ 281474976710656 ∧ mkP k z n.toNat s d K) = _
 rw [mkP_x h]
def yun (k : Nat) (s : St) (d : Option Nat) (K : St → Prop) (xs : List AV) : Option (List (List C)) → Prop
 | some rows=>(∀ r ∈ rows,r.length = k) ∧ newP s d (.row k rows) (fun d=>.own d k rows.length) K
 | none=>match pks s xs with
  | some (rows,ids)=>(∀ r ∈ rows,r.length = k) ∧ ids.Nodup ∧ newP (s.drops ids) d (.tr k 0 rows) (fun d=>.own d k rows.length) K
  | none=>False
@[congr] theorem yHA {k : Nat} {s : St} {d : Option Nat} {K : St → Prop} {xs : List AV} {a a' : Option (List (List C))} (h : a = a') : yun k s d K xs a = yun k s d K xs a':=by rw [h]
@[simp] theorem bslP_eq {k : Nat} {xs : List AV} {s : St} {d : Option Nat} {K : St → Prop} : ynF k xs s d K = yun k s d K xs (AV.rowsOf xs):=by unfold ynF yun; cases AV.rowsOf xs <;> rfl
@[simp] theorem yF6 {k : Nat} {s : St} {d : Option Nat} {K : St → Prop} {xs : List AV} {rows : List (List C)} : yun k s d K xs (some rows) = ((∀ r ∈ rows,r.length = k) ∧ newP s d (.row k rows) (fun d=>.own d k rows.length) K):=rfl
def yxO (k : Nat) (s : St) (d : Option Nat) (K : St → Prop) : Option (List (List C) × List Nat) → Prop
 | some (rows,ids)=>(∀ r ∈ rows,r.length = k) ∧ ids.Nodup ∧ newP (s.drops ids) d (.tr k 0 rows) (fun d=>.own d k rows.length) K
 | none=>False
@[congr] theorem yFE {k : Nat} {s : St} {d : Option Nat} {K : St → Prop} {a a' : Option (List (List C) × List Nat)} (h : a = a') : yxO k s d K a = yxO k s d K a':=by rw [h]
@[simp] theorem yGn {k : Nat} {s : St} {d : Option Nat} {K : St → Prop} {xs : List AV} : yun k s d K xs none = yxO k s d K (pks s xs):=by first | rfl | (simp only [yun,yxO]; done) | (simp only [yun,yxO]; rfl)
@[simp] theorem yGR {k : Nat} {s : St} {d : Option Nat} {K : St → Prop} {rows : List (List C)} {ids : List Nat} : yxO k s d K (some (rows,ids)) = ((∀ r ∈ rows,r.length = k) ∧ ids.Nodup ∧ newP (s.drops ids) d (.tr k 0 rows) (fun d=>.own d k rows.length) K):=rfl
@[simp] theorem yCN : AV.rowsOf [] = some []:=rfl
@[simp] theorem yCu {x : AV} {l : List AV} : AV.rowsOf (x :: l) = (x.rowOf).bind fun r=>(AV.rowsOf l).map (r :: ·):=by
 simp only [AV.rowsOf]; cases x.rowOf <;> cases AV.rowsOf l <;> rfl
@[simp] theorem rowOf_c {x : C} : (AV.c x).rowOf = some [x]:=rfl
@[simp] theorem yGE {n : Nat} : (AV.nil n).rowOf = some [.sl n []]:=rfl
@[simp] theorem yFT {a b c : Nat} : (AV.own a b c).rowOf = none:=rfl
@[simp] theorem yGi {l : List AV} : (AV.agg l).rowOf = AV.yeD l:=rfl
@[simp] theorem slcP_1 {k k' : Nat} {rows : List (List C)} {l h : Int} {K : AV → Prop} : yig k (.c (.sl k' rows)) (some (.c (.i l))) (some (.c (.i h))) none K = (k' = k ∧ 0 ≤ l ∧ l ≤ h ∧ h ≤ rows.length ∧ K (.c (.sl k ((rows.take h.toNat).drop l.toNat)))):=rfl
@[simp] theorem slcP_2 {k k' : Nat} {rows : List (List C)} {l : Int} {K : AV → Prop} : yig k (.c (.sl k' rows)) (some (.c (.i l))) none none K = (k' = k ∧ 0 ≤ l ∧ l ≤ rows.length ∧ K (.c (.sl k (rows.drop l.toNat)))):=rfl
@[simp] theorem slcP_3 {k k' : Nat} {rows : List (List C)} {h : Int} {K : AV → Prop} : yig k (.c (.sl k' rows)) none (some (.c (.i h))) none K = (k' = k ∧ 0 ≤ h ∧ h ≤ rows.length ∧ K (.c (.sl k (rows.take h.toNat)))):=rfl
@[simp] theorem slcP_4 {k k' : Nat} {rows : List (List C)} {h m : Int} {K : AV → Prop} : yig k (.c (.sl k' rows)) none (some (.c (.i h))) (some (.c (.i m))) K = (k' = k ∧ 0 ≤ h ∧ h = m ∧ h ≤ rows.length ∧ K (.clip k (rows.take h.toNat))):=rfl
@[simp] theorem slcP_5 {k k' id n : Nat} {h : Int} {K : AV → Prop} : yig k (.own id k' n) none (some (.c (.i h))) none K = (k' = k ∧ 0 ≤ h ∧ h ≤ (n : Int) ∧ K (.own id k h.toNat)):=rfl
@[simp] theorem slcP_6 {k k' id n : Nat} {l : Int} {K : AV → Prop} : yig k (.own id k' n) (some (.c (.i l))) none none K = (k' = k ∧ 0 ≤ l ∧ l ≤ (n : Int) ∧ K (.cut id k l.toNat (n - l.toNat))):=rfl
@[simp] theorem slcP_7 {k k' id n : Nat} {l h : Int} {K : AV → Prop} : yig k (.own id k' n) (some (.c (.i l))) (some (.c (.i h))) none K = (k' = k ∧ 0 ≤ l ∧ l ≤ h ∧ h ≤ (n : Int) ∧ K (.cut id k l.toNat (h.toNat - l.toNat))):=rfl
@[simp] theorem slcP_8 {k n : Nat} {h : Int} {K : AV → Prop} : yig k (.nil n) none (some (.c (.i h))) none K = (h = 0 ∧ K (.nil k)):=rfl
@[simp] theorem slcP_9 {k n : Nat} {h m : Int} {K : AV → Prop} : yig k (.nil n) none (some (.c (.i h))) (some (.c (.i m))) K = (h = 0 ∧ m = 0 ∧ K (.nil k)):=rfl
@[simp] theorem yJ2 {s : St} {id k lo n : Nat} {K : AV → Prop} : yhK s (.cut id k lo n) K = (n ≤ maxLen → K (.c (.i n))):=rfl
def yxr (ver n : Nat) (K : AV → Prop) : Obj → Prop
 | .tr _ ver' _=>ver' = ver ∧ (n ≤ maxLen → K (.c (.i n)))
 | _=>False
@[congr] theorem yGD {ver n : Nat} {K : AV → Prop} {a a' : Obj} (h : a = a') : yxr ver n K a = yxr ver n K a':=by rw [h]
@[simp] theorem yJU {s : St} {id ver : Nat} {i : Int} {j k n : Nat} {K : AV → Prop} : yhK s (.sub id ver i j k n) K = yxr ver n K (s.ob id):=by first | rfl | (simp only [yhK,yxr]; done) | (simp only [yhK,yxr]; rfl)
@[simp] theorem lenT_tr {ver n k0 ver' : Nat} {rows : List (List C)} {K : AV → Prop} : yxr ver n K (.tr k0 ver' rows) = (ver' = ver ∧ (n ≤ maxLen → K (.c (.i n)))):=rfl
@[simp] theorem lenP_sl {k : Nat} {rows : List (List C)} {s : St} {K : AV → Prop} : yhK s (.c (.sl k rows)) K = (rows.length ≤ maxLen → K (.c (.i rows.length))):=rfl
@[simp] theorem yG9 {k : Nat} {rows : List (List C)} {s : St} {K : AV → Prop} : yhK s (.clip k rows) K = (rows.length ≤ maxLen → K (.c (.i rows.length))):=rfl
@[simp] theorem yJg {id k n : Nat} {s : St} {K : AV → Prop} : yhK s (.own id k n) K = (n ≤ maxLen → K (.c (.i n))):=rfl
@[simp] theorem yJC {s : St} {n : Nat} {K : AV → Prop} : yhK s (.nil n) K = K (.c (.i 0)):=rfl
@[simp] theorem slenP_s {bs : ByteArray} {K : AV → Prop} : yiR (.c (.s bs)) K = (bs.size ≤ maxLen → K (.c (.i bs.size))):=rfl
def mmK (f : Int → Int → Int) (K : AV → Prop) : Option (List Int) → Prop
 | some (n :: r)=>K (.c (.i (r.foldl f n)))
 | _=>False
@[congr] theorem yKj {f : Int → Int → Int} {K : AV → Prop} {a a' : Option (List Int)} (h : a = a') : mmK f K a = mmK f K a':=by rw [h]
@[simp] theorem mmP_eq {f : Int → Int → Int} {l : List AV} {K : AV → Prop} : mmP f l K = mmK f K (intsOf l):=rfl
@[simp] theorem yJt {f : Int → Int → Int} {n : Int} {r : List Int} {K : AV → Prop} : mmK f K (some (n :: r)) = K (.c (.i (r.foldl f n))):=rfl
@[simp] theorem yDy : intsOf [] = some []:=rfl
@[simp] theorem yBW {n : Int} {l : List AV} : intsOf (.c (.i n) :: l) = (intsOf l).map (n :: ·):=rfl
@[simp] theorem yKz {i : Nat} {l : List AV} {K : AV → Prop} : ynG i (.tup l) K = yu2 K l[i]?:=by unfold ynG yu2; simp only; cases l[i]? <;> rfl
@[simp] theorem ixsP_eq {bs : ByteArray} {n : Int} {K : AV → Prop} : yqc (.c (.s bs)) (.c (.i n)) K = (0 ≤ n ∧ n < bs.size ∧ K (.c (.u (bs[n.toNat]?.getD 0).toNat))):=rfl
def ymt (k by_ : Nat) (s : St) (d : Option Nat) (x : AV) (K : St → Prop) (new : List (List C)) : Prop :=
 match x with
  | .nil _=>new.length * by_ ≤ 140737488355328 ∧ newP s d (.row k new) (fun d=>.own d k new.length) K
  | .clip k' rows=>k' = k ∧ (0 < new.length ∨ rows.length = 0) ∧ (rows.length + new.length) * by_ ≤ 140737488355328 ∧ newP s d (.row k (rows ++ new)) (fun d=>.own d k (rows.length + new.length)) K
  | .own id k' n=>match s.ob id with
   | .row _ rows=>k' = k ∧ n = rows.length ∧ (rows.length + new.length) * by_ ≤ 140737488355328 ∧
    K ((s.renew id (.row k (rows ++ new))).put d (.own id k (rows.length + new.length)))
   | .tr _ _ rows=>k' = k ∧ n = rows.length ∧ (rows.length + new.length) * by_ ≤ 140737488355328 ∧
    K ((s.renew id (.tr k 0 (rows ++ new))).put d (.own id k (rows.length + new.length)))
   | _=>False
  | .sub id ver i j k' n=>match s.ob id with
   | .tr k0 ver' rows=>ver' = ver ∧ match cellAt rows i.toNat j with
    | some (.ow k2 rs)=>k' = k ∧ k2 = k ∧ (rs.length + new.length) * by_ ≤ 140737488355328 ∧ match d with
     | some d=>(s.ob d).isNone = true ∧ K (((s.yat id (.tr k0 (ver + 1) (setAt rows i.toNat j .jk))).renew d (.row k (rs ++ new))).put (some d) (.own d k (rs.length + new.length)))
     | none=>False
    | some (.ot k2 rs)=>k' = k ∧ k2 = k ∧ (rs.length + new.length) * by_ ≤ 140737488355328 ∧ match d with
     | some d=>(s.ob d).isNone = true ∧ K (((s.yat id (.tr k0 (ver + 1) (setAt rows i.toNat j .jk))).renew d (.tr k 0 (rs ++ new))).put (some d) (.own d k (rs.length + new.length)))
     | none=>False
    | _=>False
   | _=>False
  | _=>False
def appG (k by_ : Nat) (s : St) (d : Option Nat) (x : AV) (K : St → Prop) (y : AV) : Option (List (List C)) → Prop
 | some new=>ymt k by_ s d x K new
 | none=>match yfD s k y with
  | some (idy,new)=>match x with
   | .nil _=>new.length * by_ ≤ 140737488355328 ∧ newP (s.drop idy) d (.tr k 0 new) (fun d=>.own d k new.length) K
   | .own id k' n=>id ≠ idy ∧ match s.ob id with
    | .row _ rows=>k' = k ∧ n = rows.length ∧ (rows.length + new.length) * by_ ≤ 140737488355328 ∧
     K (((s.drop idy).renew id (.tr k 0 (rows ++ new))).put d (.own id k (rows.length + new.length)))
    | .tr _ _ rows=>k' = k ∧ n = rows.length ∧ (rows.length + new.length) * by_ ≤ 140737488355328 ∧
     K (((s.drop idy).renew id (.tr k 0 (rows ++ new))).put d (.own id k (rows.length + new.length)))
    | _=>False
   | _=>False
  | none=>False
@[congr] theorem yGZ {k b : Nat} {s : St} {d : Option Nat} {x y : AV} {K : St → Prop} {a a' : Option (List (List C))} (h : a = a') : appG k b s d x K y a = appG k b s d x K y a':=by rw [h]
@[simp] theorem yIJ {k b : Nat} {s : St} {d : Option Nat} {x y : AV} {K : St → Prop} : yiK k b s d x y K = appG k b s d x K y (yaF s k y):=by
 unfold yiK appG ymt
 cases yaF s k y with
 | none=>rfl
 | some new=>cases x <;> rfl
@[congr] theorem yFu {k b : Nat} {s : St} {d : Option Nat} {x x' : AV} {K : St → Prop} {new : List (List C)} (h : x = x') : ymt k b s d x K new = ymt k b s d x' K new:=by rw [h]
@[simp] theorem yGo {k b : Nat} {s : St} {d : Option Nat} {x y : AV} {K : St → Prop} {new : List (List C)} : appG k b s d x K y (some new) = ymt k b s d x K new:=rfl
@[simp] theorem yJV {k b q : Nat} {s : St} {d : Option Nat} {K : St → Prop} {new : List (List C)} : ymt k b s d (.nil q) K new = (new.length * b ≤ 140737488355328 ∧ newP s d (.row k new) (fun d=>.own d k new.length) K):=rfl
@[simp] theorem yGB {k k' b : Nat} {s : St} {d : Option Nat} {K : St → Prop} {rows new : List (List C)} : ymt k b s d (.clip k' rows) K new =
 (k' = k ∧ (0 < new.length ∨ rows.length = 0) ∧ (rows.length + new.length) * b ≤ 140737488355328 ∧ newP s d (.row k (rows ++ new)) (fun d=>.own d k (rows.length + new.length)) K):=rfl
def yvr (k b : Nat) (s : St) (d : Option Nat) (id k' n : Nat) (new : List (List C)) (K : St → Prop) : Obj → Prop
 | .row _ rows=>k' = k ∧ n = rows.length ∧ (rows.length + new.length) * b ≤ 140737488355328 ∧ K ((s.renew id (.row k (rows ++ new))).put d (.own id k (rows.length + new.length)))
 | .tr _ _ rows=>k' = k ∧ n = rows.length ∧ (rows.length + new.length) * b ≤ 140737488355328 ∧ K ((s.renew id (.tr k 0 (rows ++ new))).put d (.own id k (rows.length + new.length)))
 | _=>False
@[congr] theorem yF8 {k b : Nat} {s : St} {d : Option Nat} {id k' n : Nat} {new : List (List C)} {K : St → Prop} {a a' : Obj} (h : a = a') : yvr k b s d id k' n new K a = yvr k b s d id k' n new K a':=by rw [h]
@[simp] theorem yI6 {k k' b id n : Nat} {s : St} {d : Option Nat} {K : St → Prop} {new : List (List C)} : ymt k b s d (.own id k' n) K new = yvr k b s d id k' n new K (s.ob id):=by first | rfl | (simp only [ymt,yvr]; done) | (simp only [ymt,yvr]; rfl)
@[simp] theorem yJP {k k' b id n q : Nat} {s : St} {d : Option Nat} {K : St → Prop} {rows new : List (List C)} : yvr k b s d id k' n new K (.row q rows) =
 (k' = k ∧ n = rows.length ∧ (rows.length + new.length) * b ≤ 140737488355328 ∧ K ((s.renew id (.row k (rows ++ new))).put d (.own id k (rows.length + new.length)))):=rfl
@[simp] theorem appO_tr {k k' b id n q ver : Nat} {s : St} {d : Option Nat} {K : St → Prop} {rows new : List (List C)} : yvr k b s d id k' n new K (.tr q ver rows) =
 (k' = k ∧ n = rows.length ∧ (rows.length + new.length) * b ≤ 140737488355328 ∧ K ((s.renew id (.tr k 0 (rows ++ new))).put d (.own id k (rows.length + new.length)))):=rfl
def ytS (k b : Nat) (s : St) (d id ver : Nat) (i : Int) (j k' : Nat) (new : List (List C)) (K : St → Prop) : Obj → Prop
 | .tr k0 ver' rows=>ver' = ver ∧ match cellAt rows i.toNat j with
  | some (.ow k2 rs)=>k' = k ∧ k2 = k ∧ (rs.length + new.length) * b ≤ 140737488355328 ∧ (s.ob d).isNone = true ∧ K (((s.yat id (.tr k0 (ver + 1) (setAt rows i.toNat j .jk))).renew d (.row k (rs ++ new))).put (some d) (.own d k (rs.length + new.length)))
  | some (.ot k2 rs)=>k' = k ∧ k2 = k ∧ (rs.length + new.length) * b ≤ 140737488355328 ∧ (s.ob d).isNone = true ∧ K (((s.yat id (.tr k0 (ver + 1) (setAt rows i.toNat j .jk))).renew d (.tr k 0 (rs ++ new))).put (some d) (.own d k (rs.length + new.length)))
  | _=>False
 | _=>False
@[congr] theorem yGq {k b : Nat} {s : St} {d id ver : Nat} {i : Int} {j k' : Nat} {new : List (List C)} {K : St → Prop} {a a' : Obj} (h : a = a') : ytS k b s d id ver i j k' new K a = ytS k b s d id ver i j k' new K a':=by rw [h]
@[simp] theorem yIE {k k' b id ver n : Nat} {i : Int} {j : Nat} {s : St} {d : Nat} {K : St → Prop} {new : List (List C)} : ymt k b s (some d) (.sub id ver i j k' n) K new = ytS k b s d id ver i j k' new K (s.ob id):=by first | rfl | (simp only [ymt,ytS]; done) | (simp only [ymt,ytS]; rfl)
def yoA (k b : Nat) (s : St) (d id ver k0 : Nat) (rows : List (List C)) (i : Int) (j k' : Nat) (new : List (List C)) (K : St → Prop) : Option C → Prop
 | some (.ow k2 rs)=>k' = k ∧ k2 = k ∧ (rs.length + new.length) * b ≤ 140737488355328 ∧ (s.ob d).isNone = true ∧ K (((s.yat id (.tr k0 (ver + 1) (setAt rows i.toNat j .jk))).renew d (.row k (rs ++ new))).put (some d) (.own d k (rs.length + new.length)))
 | some (.ot k2 rs)=>k' = k ∧ k2 = k ∧ (rs.length + new.length) * b ≤ 140737488355328 ∧ (s.ob d).isNone = true ∧ K (((s.yat id (.tr k0 (ver + 1) (setAt rows i.toNat j .jk))).renew d (.tr k 0 (rs ++ new))).put (some d) (.own d k (rs.length + new.length)))
 | _=>False
@[congr] theorem yDq {k b : Nat} {s : St} {d id ver k0 : Nat} {rows : List (List C)} {i : Int} {j k' : Nat} {new : List (List C)} {K : St → Prop} {a a' : Option C} (h : a = a') : yoA k b s d id ver k0 rows i j k' new K a = yoA k b s d id ver k0 rows i j k' new K a':=by rw [h]
@[simp] theorem appS_tr {k k' b id ver k0 ver' : Nat} {i : Int} {j : Nat} {s : St} {d : Nat} {K : St → Prop} {rows new : List (List C)} : ytS k b s d id ver i j k' new K (.tr k0 ver' rows) = (ver' = ver ∧ yoA k b s d id ver k0 rows i j k' new K (cellAt rows i.toNat j)):=by first | rfl | (simp only [ytS,yoA]; done) | (simp only [ytS,yoA]; rfl)
@[simp] theorem yHI {k k' k2 b id ver k0 : Nat} {i : Int} {j : Nat} {s : St} {d : Nat} {K : St → Prop} {rows rs new : List (List C)} : yoA k b s d id ver k0 rows i j k' new K (some (.ow k2 rs)) = (k' = k ∧ k2 = k ∧ (rs.length + new.length) * b ≤ 140737488355328 ∧ (s.ob d).isNone = true ∧ K (((s.yat id (.tr k0 (ver + 1) (setAt rows i.toNat j .jk))).renew d (.row k (rs ++ new))).put (some d) (.own d k (rs.length + new.length)))):=rfl
@[simp] theorem yKo {k k' k2 b id ver k0 : Nat} {i : Int} {j : Nat} {s : St} {d : Nat} {K : St → Prop} {rows rs new : List (List C)} : yoA k b s d id ver k0 rows i j k' new K (some (.ot k2 rs)) = (k' = k ∧ k2 = k ∧ (rs.length + new.length) * b ≤ 140737488355328 ∧ (s.ob d).isNone = true ∧ K (((s.yat id (.tr k0 (ver + 1) (setAt rows i.toNat j .jk))).renew d (.tr k 0 (rs ++ new))).put (some d) (.own d k (rs.length + new.length)))):=rfl
def ysz (k b : Nat) (s : St) (d : Option Nat) (x : AV) (K : St → Prop) : Option (Nat × List (List C)) → Prop
 | some (idy,new)=>match x with
  | .nil _=>new.length * b ≤ 140737488355328 ∧ newP (s.drop idy) d (.tr k 0 new) (fun d=>.own d k new.length) K
  | .own id k' n=>id ≠ idy ∧ match s.ob id with
   | .row _ rows=>k' = k ∧ n = rows.length ∧ (rows.length + new.length) * b ≤ 140737488355328 ∧
    K (((s.drop idy).renew id (.tr k 0 (rows ++ new))).put d (.own id k (rows.length + new.length)))
   | .tr _ _ rows=>k' = k ∧ n = rows.length ∧ (rows.length + new.length) * b ≤ 140737488355328 ∧
    K (((s.drop idy).renew id (.tr k 0 (rows ++ new))).put d (.own id k (rows.length + new.length)))
   | _=>False
  | _=>False
 | none=>False
@[congr] theorem yGr {k b : Nat} {s : St} {d : Option Nat} {x x' : AV} {K : St → Prop} {a a' : Option (Nat × List (List C))} (h : a = a') (h2 : x = x') : ysz k b s d x K a = ysz k b s d x' K a':=by rw [h,h2]
@[simp] theorem yG8 {k b : Nat} {s : St} {d : Option Nat} {x y : AV} {K : St → Prop} : appG k b s d x K y none = ysz k b s d x K (yfD s k y):=by first | rfl | (simp only [appG,ysz]; done) | (simp only [appG,ysz]; rfl)
@[simp] theorem yJI {k b q idy : Nat} {s : St} {d : Option Nat} {K : St → Prop} {new : List (List C)} : ysz k b s d (.nil q) K (some (idy,new)) = (new.length * b ≤ 140737488355328 ∧ newP (s.drop idy) d (.tr k 0 new) (fun d=>.own d k new.length) K):=rfl
def ypo (k b : Nat) (s : St) (d : Option Nat) (id k' n idy : Nat) (new : List (List C)) (K : St → Prop) : Obj → Prop
 | .row _ rows=>k' = k ∧ n = rows.length ∧ (rows.length + new.length) * b ≤ 140737488355328 ∧
  K (((s.drop idy).renew id (.tr k 0 (rows ++ new))).put d (.own id k (rows.length + new.length)))
 | .tr _ _ rows=>k' = k ∧ n = rows.length ∧ (rows.length + new.length) * b ≤ 140737488355328 ∧
  K (((s.drop idy).renew id (.tr k 0 (rows ++ new))).put d (.own id k (rows.length + new.length)))
 | _=>False
@[congr] theorem yDb {k b : Nat} {s : St} {d : Option Nat} {id k' n idy : Nat} {new : List (List C)} {K : St → Prop} {a a' : Obj} (h : a = a') : ypo k b s d id k' n idy new K a = ypo k b s d id k' n idy new K a':=by rw [h]
@[simp] theorem yKI {k k' b id n idy : Nat} {s : St} {d : Option Nat} {K : St → Prop} {new : List (List C)} : ysz k b s d (.own id k' n) K (some (idy,new)) = (id ≠ idy ∧ ypo k b s d id k' n idy new K (s.ob id)):=by first | rfl | (simp only [ysz,ypo]; done) | (simp only [ysz,ypo]; rfl)
@[simp] theorem yGv {k k' b id n idy q : Nat} {s : St} {d : Option Nat} {K : St → Prop} {rows new : List (List C)} : ypo k b s d id k' n idy new K (.row q rows) = (k' = k ∧ n = rows.length ∧ (rows.length + new.length) * b ≤ 140737488355328 ∧
 K (((s.drop idy).renew id (.tr k 0 (rows ++ new))).put d (.own id k (rows.length + new.length)))):=rfl
@[simp] theorem yHV {k k' b id n idy q ver : Nat} {s : St} {d : Option Nat} {K : St → Prop} {rows new : List (List C)} : ypo k b s d id k' n idy new K (.tr q ver rows) = (k' = k ∧ n = rows.length ∧ (rows.length + new.length) * b ≤ 140737488355328 ∧
 K (((s.drop idy).renew id (.tr k 0 (rows ++ new))).put d (.own id k (rows.length + new.length)))):=rfl
def ys4 (k k' id n : Nat) : Obj → Option (Nat × List (List C))
 | .tr _ _ rows=>if k' = k then some (id,rows.take n) else none
 | _=>none
@[simp] theorem yHe {s : St} {k k' id n : Nat} : yfD s k (.own id k' n) = ys4 k k' id n (s.ob id):=by first | rfl | (simp only [yfD,ys4]; done) | (simp only [yfD,ys4]; rfl)
@[simp] theorem yGb {k k' id n q ver : Nat} {rows : List (List C)} : ys4 k k' id n (.tr q ver rows) = if k' = k then some (id,rows.take n) else none:=rfl
@[simp] theorem yDd {s : St} {k k' : Nat} {rows : List (List C)} : yaF s k (.c (.sl k' rows)) = if k' = k then some rows else none:=rfl
@[simp] theorem yA9 {s : St} {k k' : Nat} {rows : List (List C)} : yaF s k (.clip k' rows) = if k' = k then some rows else none:=rfl
@[simp] theorem yBS {s : St} {k n : Nat} : yaF s k (.nil n) = some []:=rfl
def yBA (k k' n : Nat) : Obj → Option (List (List C))
 | .row _ rows=>if k' = k then some (rows.take n) else none
 | _=>none
@[simp] theorem yBT {s : St} {k k' id n : Nat} : yaF s k (.own id k' n) = yBA k k' n (s.ob id):=by simp only [yaF,yBA]; cases s.ob id <;> rfl
@[simp] theorem yKu {k k' n q : Nat} {rows : List (List C)} : yBA k k' n (.row q rows) = if k' = k then some (rows.take n) else none:=rfl
@[simp] theorem srcO_tr {k k' n q ver : Nat} {rows : List (List C)} : yBA k k' n (.tr q ver rows) = none:=rfl
def ysl (k k' lo n : Nat) : Obj → Option (List (List C))
 | .row _ rows=>if k' = k then some ((rows.drop lo).take n) else none
 | _=>none
@[simp] theorem yCx {s : St} {k k' id lo n : Nat} : yaF s k (.cut id k' lo n) = ysl k k' lo n (s.ob id):=by first | rfl | (simp only [yaF,ysl]; done) | (simp only [yaF,ysl]; rfl)
@[simp] theorem yEf {k k' lo n q : Nat} {rows : List (List C)} : ysl k k' lo n (.row q rows) = if k' = k then some ((rows.drop lo).take n) else none:=rfl
def cpK (k : Nat) (s : St) (d : Option Nat) (x : AV) (K : St → Prop) : Option (List (List C)) → Prop
 | some new=>match x with
  | .own id k' n=>match s.ob id with
   | .row _ rows=>k' = k ∧ n ≤ rows.length ∧ K ((s.yat id (.row k (new.take n ++ rows.drop (min new.length n)))).put d (.c (.i (min new.length n : Nat))))
   | _=>False
  | _=>False
 | none=>False
@[congr] theorem yKv {k : Nat} {s : St} {d : Option Nat} {x : AV} {K : St → Prop} {a a' : Option (List (List C))} (h : a = a') : cpK k s d x K a = cpK k s d x K a':=by rw [h]
@[simp] theorem cpP_eq {k : Nat} {s : St} {d : Option Nat} {x y : AV} {K : St → Prop} : cpP k s d x y K = cpK k s d x K (yaF s k y):=by first | rfl | (simp only [cpP,cpK]; done) | (simp only [cpP,cpK]; rfl)
def cpO (k : Nat) (s : St) (d : Option Nat) (id k' n : Nat) (new : List (List C)) (K : St → Prop) : Obj → Prop
 | .row _ rows=>k' = k ∧ n ≤ rows.length ∧ K ((s.yat id (.row k (new.take n ++ rows.drop (min new.length n)))).put d (.c (.i (min new.length n : Nat))))
 | _=>False
@[congr] theorem yIl {k : Nat} {s : St} {d : Option Nat} {id k' n : Nat} {new : List (List C)} {K : St → Prop} {a a' : Obj} (h : a = a') : cpO k s d id k' n new K a = cpO k s d id k' n new K a':=by rw [h]
@[simp] theorem cpK_own {k id k' n : Nat} {s : St} {d : Option Nat} {K : St → Prop} {new : List (List C)} : cpK k s d (.own id k' n) K (some new) = cpO k s d id k' n new K (s.ob id):=by first | rfl | (simp only [cpK,cpO]; done) | (simp only [cpK,cpO]; rfl)
@[simp] theorem cpO_row {k id k' n q : Nat} {s : St} {d : Option Nat} {K : St → Prop} {rows new : List (List C)} : cpO k s d id k' n new K (.row q rows) = (k' = k ∧ n ≤ rows.length ∧ K ((s.yat id (.row k (new.take n ++ rows.drop (min new.length n)))).put d (.c (.i (min new.length n : Nat))))):=rfl
@[simp] theorem yII {n : Nat} {K : AV → Prop} : yqE (.nil n) K = K (.c (.i 0)):=rfl
@[simp] theorem yGe {k : Nat} {rows : List (List C)} {K : AV → Prop} : yqE (.clip k rows) K = (rows.length ≤ maxLen → K (.c (.i rows.length))):=rfl
@[simp] theorem capP_sl {k : Nat} {rows : List (List C)} {K : AV → Prop} : yqE (.c (.sl k rows)) K = ∀ n : Nat,rows.length ≤ n → n ≤ maxLen → K (.c (.i n)):=rfl
@[simp] theorem yHU {id k m : Nat} {K : AV → Prop} : yqE (.own id k m) K = ∀ n : Nat,m ≤ n → n ≤ maxLen → K (.c (.i n)):=rfl
@[simp] theorem yJk {id o : Nat} {K : AV → Prop} : ymF (.box id o) K = K (.box id o):=rfl
@[simp] theorem yHD {id k o : Nat} {i : Int} {K : AV → Prop} : ymF (.row id k i o) K = K (.row id k i o):=rfl
@[simp] theorem yKd {cs : List C} {K : AV → Prop} : ymF (.elt cs) K = K (.elt cs):=rfl
@[simp] theorem yRW {o : Bool} {q : Nat} {a b : List AV} {k : AV → Prop} : yQC o q (.agg a) (.agg b) k = (match intsOf a,intsOf b with
 | some m,some n=>m.length = q ∧ n.length = q ∧ k (.c (.b (if o then !decide (m = n) else decide (m = n))))
 | _,_=>False):=rfl
@[simp] theorem seqP_f {a b : ByteArray} {k : AV → Prop} : ynl false (.c (.s a)) (.c (.s b)) k = k (.c (.b (decide (a = b)))):=rfl
@[simp] theorem seqP_t {a b : ByteArray} {k : AV → Prop} : ynl true (.c (.s a)) (.c (.s b)) k = k (.c (.b !decide (a = b))):=rfl
@[simp] theorem scatP_s {a b : ByteArray} {k : AV → Prop} : yjd (.c (.s a)) (.c (.s b)) k = (a.size + b.size ≤ maxLen ∧ k (.c (.s (a ++ b)))):=rfl
@[simp] theorem slsP_1 {a : ByteArray} {l h : Int} {K : AV → Prop} : ymC (.c (.s a)) (some (.c (.i l))) (some (.c (.i h))) K = (0 ≤ l ∧ l ≤ h ∧ h ≤ a.size ∧ K (.c (.s (a.extract l.toNat h.toNat)))):=rfl
@[simp] theorem slsP_2 {a : ByteArray} {l : Int} {K : AV → Prop} : ymC (.c (.s a)) (some (.c (.i l))) none K = (0 ≤ l ∧ l ≤ a.size ∧ K (.c (.s (a.extract l.toNat a.size)))):=rfl
@[simp] theorem slsP_3 {a : ByteArray} {h : Int} {K : AV → Prop} : ymC (.c (.s a)) none (some (.c (.i h))) K = (0 ≤ h ∧ h ≤ a.size ∧ K (.c (.s (a.extract 0 h.toNat)))):=rfl
@[simp] theorem yIn {a b : Int} {k : AV → Prop} : yiP .and (.c (.i a)) (.c (.i b)) k = k (.c (.i (yBs a b))):=rfl
@[simp] theorem yJ7 {a b : Int} {k : AV → Prop} : yiP .xor (.c (.i a)) (.c (.i b)) k = k (.c (.i (yA5 a b))):=rfl
@[simp] theorem yIe {a b : Int} {k : AV → Prop} : yiP .shl (.c (.i a)) (.c (.i b)) k = (0 ≤ b ∧ k (.c (.i (yxZ a b)))):=rfl
@[simp] theorem yGK {a : Nat} {b : Int} {k : AV → Prop} : yiP .shr (.c (.q a)) (.c (.i b)) k = (0 ≤ b ∧ k (.c (.q (a / 2 ^ (min b.toNat 64))))):=rfl
@[simp] theorem yHS {a b : Int} {k : AV → Prop} : yiP .shr (.c (.i a)) (.c (.i b)) k = (0 ≤ b ∧ k (.c (.i (ytW a b)))):=rfl
@[simp] theorem yGp {a b : Int} {k : AV → Prop} : yip .add (.c (.i a)) (.c (.i b)) k = k (.c (.i (IntKind.i64.wrap (a + b)))):=rfl
@[simp] theorem yG7 {a b : Int} {k : AV → Prop} : yip .mul (.c (.i a)) (.c (.i b)) k = k (.c (.i (IntKind.i64.wrap (a * b)))):=rfl
@[simp] theorem yFZ {a b : Nat} {k : AV → Prop} : yeG .add (.c (.u a)) (.c (.u b)) k = k (.c (.u ((a + b) % 256))):=rfl
@[simp] theorem yFH {a b : Nat} {k : AV → Prop} : yeG .sub (.c (.u a)) (.c (.u b)) k = k (.c (.u ((a + 256 - b) % 256))):=rfl
@[simp] theorem yFF {a b : Nat} {k : AV → Prop} : yeG .eql (.c (.u a)) (.c (.u b)) k = k (.c (.b (decide (a = b)))):=rfl
@[simp] theorem yFM {a b : Nat} {k : AV → Prop} : yeG .neq (.c (.u a)) (.c (.u b)) k = k (.c (.b (!decide (a = b)))):=rfl
@[simp] theorem yFk {a b : Nat} {k : AV → Prop} : yeG .lss (.c (.u a)) (.c (.u b)) k = k (.c (.b (decide (a < b)))):=rfl
@[simp] theorem yGC {a b : Nat} {k : AV → Prop} : yeG .leq (.c (.u a)) (.c (.u b)) k = k (.c (.b (decide (a ≤ b)))):=rfl
@[simp] theorem yGg {a b : Nat} {k : AV → Prop} : yeG .gtr (.c (.u a)) (.c (.u b)) k = k (.c (.b (decide (b < a)))):=rfl
@[simp] theorem yFU {a b : Nat} {k : AV → Prop} : yeG .geq (.c (.u a)) (.c (.u b)) k = k (.c (.b (decide (b ≤ a)))):=rfl
@[simp] theorem cvtP_0u {s : St} {a : Nat} {k : AV → Prop} : yen 0 s (.c (.u a)) k = k (.c (.i a)):=rfl
@[simp] theorem cvtP_0q {s : St} {a : Nat} {k : AV → Prop} : yen 0 s (.c (.q a)) k = (a ≤ 9223372036854775807 ∧ k (.c (.i a))):=rfl
@[simp] theorem cvtP_3i {s : St} {a : Int} {k : AV → Prop} : yen 3 s (.c (.i a)) k = (0 ≤ a ∧ k (.c (.q a.toNat))):=rfl
@[simp] theorem cvtP_0i {s : St} {a : Int} {k : AV → Prop} : yen 0 s (.c (.i a)) k = k (.c (.i a)):=rfl
@[simp] theorem cvtP_1u {s : St} {a : Nat} {k : AV → Prop} : yen 1 s (.c (.u a)) k = k (.c (.u a)):=rfl
@[simp] theorem cvtP_1i {s : St} {a : Int} {k : AV → Prop} : yen 1 s (.c (.i a)) k = k (.c (.u (a % 256).toNat)):=rfl
def yxM (k : AV → Prop) : Option (List (List C)) → Prop
 | some rows=>∃ l : List UInt8,rows = l.map yvZ ∧ k (.c (.s ⟨l.toArray⟩))
 | none=>False
@[congr] theorem yGW {k : AV → Prop} {a a' : Option (List (List C))} (h : a = a') : yxM k a = yxM k a':=by rw [h]
@[simp] theorem cvtP_2 {s : St} {x : AV} {k : AV → Prop} : yen 2 s x k = yxM k (yaF s 1 x):=by first | rfl | (simp only [yen,yxM]; done) | (simp only [yen,yxM]; rfl)
@[simp] theorem yFA {k : AV → Prop} {rows : List (List C)} : yxM k (some rows) = ∃ l : List UInt8,rows = l.map yvZ ∧ k (.c (.s ⟨l.toArray⟩)):=rfl
@[simp ↓] theorem yHd {P : Program} {f : Nat} {l xs : List AV} {d : Option Nat} {s : St} {K : St → Prop} : yiV P (.fn f l) xs d s K = ((∃ fn,P.funcs[f]? = some fn ∧ fn.body.isSome = true ∧ (fn.name != "runtime.NumGoroutine") = true) ∧ yB9 P f (xs ++ l) d s K ⟨⟩):=rfl
@[simp] theorem kill_c {id : Nat} {x : C} : (AV.c x).kill id = .c x:=rfl
@[simp] theorem yJ8 {id : Nat} : AV.any.kill id = .any:=rfl
@[simp] theorem yIK {id : Nat} : AV.und.kill id = .und:=rfl
@[simp] theorem yKM {id n : Nat} : (AV.nil n).kill id = .nil n:=rfl
@[simp] theorem yJL {id i k lo n : Nat} : (AV.cut i k lo n).kill id = if i = id then .any else .cut i k lo n:=by
 simp only [AV.kill,AV.ybs,AV.ydj]; by_cases h : i = id <;> simp [h]
@[simp] theorem yH6 {id i ver : Nat} {n : Int} {j k m : Nat} : (AV.sub i ver n j k m).kill id = if i = id then .any else .sub i ver n j k m:=by
 simp only [AV.kill,AV.ybs,AV.ydj]; by_cases h : i = id <;> simp [h]
@[simp] theorem yFl {id i ver : Nat} {n : Int} {j k : Nat} {m : Int} {o : Nat} : (AV.yc3 i ver n j k m o).kill id = if i = id then .any else .yc3 i ver n j k m o:=by
 simp only [AV.kill,AV.ybs,AV.ydj]; by_cases h : i = id <;> simp [h]
@[simp] theorem yHB {id n : Nat} : (AV.nil n).ybs id = .nil n:=rfl
@[simp] theorem yGl {id : Nat} : AV.any.ybs id = .any:=rfl
@[simp] theorem yEs {id k : Nat} {r : List (List C)} : (AV.clip k r).ybs id = .clip k r:=rfl
@[simp] theorem yFv {id : Nat} {r : List C} : (AV.elt r).ybs id = .elt r:=rfl
@[simp] theorem yG1 {id i k n : Nat} : (AV.own i k n).ybs id = if i = id then .any else .own i k n:=by
 simp only [AV.ybs,AV.ydj]; by_cases h : i = id <;> simp [h]
@[simp] theorem yE8 {id i o : Nat} : (AV.box i o).ybs id = if i = id then .any else .box i o:=by
 simp only [AV.ybs,AV.ydj]; by_cases h : i = id <;> simp [h]
@[simp] theorem yG5 {id i k o : Nat} {n : Int} : (AV.row i k n o).ybs id = if i = id then .any else .row i k n o:=by
 simp only [AV.ybs,AV.ydj]; by_cases h : i = id <;> simp [h]
@[simp] theorem yIY {id k v : Nat} {l : List (List C)} : (Obj.tr k v l).kill id = .tr k v l:=rfl
@[simp] theorem yFQ {id k : Nat} {r : List (List C)} : (AV.clip k r).kill id = .clip k r:=rfl
@[simp] theorem yH0 {id : Nat} {r : List C} : (AV.elt r).kill id = .elt r:=rfl
@[simp] theorem yIu {id i o : Nat} : (AV.box i o).kill id = if i = id then .any else .box i o:=by
 simp only [AV.kill,AV.ybs,AV.ydj]; by_cases h : i = id <;> simp [h]
@[simp] theorem yIr {id i k n : Nat} : (AV.own i k n).kill id = if i = id then .any else .own i k n:=by
 simp only [AV.kill,AV.ybs,AV.ydj]; by_cases h : i = id <;> simp [h]
@[simp] theorem yJW {id i k o : Nat} {n : Int} : (AV.row i k n o).kill id = if i = id then .any else .row i k n o:=by
 simp only [AV.kill,AV.ybs,AV.ydj]; by_cases h : i = id <;> simp [h]
@[simp] theorem yVy {id i : Nat} : (AV.mpr i).kill id = if i = id then .any else .mpr i:=by
 simp only [AV.kill,AV.ybs,AV.ydj]; by_cases h : i = id <;> simp [h]
@[simp] theorem kill_gl {id b : Nat} {o : Go.Obj} : (AV.gl b o).kill id = .gl b o:=rfl
@[simp] theorem yVB {id : Nat} {l : List (Int × Int)} : (Obj.mp l).kill id = .mp l:=rfl
@[simp] theorem kill1_c {id : Nat} {x : C} : (AV.c x).ybs id = .c x:=rfl
@[simp] theorem yG3 {id : Nat} {l : List C} : (AV.agg (l.map .c)).kill id = .agg (l.map .c):=by simp [AV.kill]
@[simp] theorem yIC {id : Nat} {l : List AV} : (AV.agg l).kill id = .agg (l.map (AV.ybs id)):=rfl
@[simp] theorem yFy {id : Nat} {l : List AV} : (Obj.box l).kill id = .box (l.map (AV.ybs id)):=rfl
@[simp] theorem yGt {id k : Nat} {l : List (List C)} : (Obj.row k l).kill id = .row k l:=rfl
@[simp] theorem yDk {id : Nat} : Obj.none.kill id = .none:=rfl
@[simp ↓] theorem yFY {s : St} {l : List AV} {K : List AV → Prop} : yfh s [] l K = K l:=rfl
@[simp ↓] theorem yDV {s : St} {o n : Nat} {x : X} {ps : List (Nat × Nat × X)} {l : List AV} {K : List AV → Prop} : yfh s ((o,n,x) :: ps) l K =
 ((s.ev x).cellsOf.length = n ∧ (s.ev x).cellsOf.all AV.yaE = true ∧ o + n ≤ l.length ∧ yfh s ps (l.take o ++ (s.ev x).cellsOf ++ l.drop (o + n)) K):=rfl
@[simp] theorem out1_c {s : St} {z : C} {y : AV} : out1 s (.c z) y = (y = .c z):=rfl
@[simp] theorem yFd {s : St} {k : Nat} {r : List (List C)} {y : AV} : out1 s (.clip k r) y = (y = .c (.sl k r) ∨ y = .clip k r):=rfl
@[simp] theorem yI5 {s : St} {n : Nat} {y : AV} : out1 s (.nil n) y = ((∃ k,y = .c (.sl k [])) ∨ ∃ k,y = .nil k):=rfl
@[simp] theorem yKN {s : St} {cs : List C} {y : AV} : out1 s (.elt cs) y = (y = .elt cs):=rfl
def yza (k : Nat) (y : AV) : Option (List (List C)) → Prop
 | some r=>y = .c (.sl k r)
 | none=>False
@[simp] theorem yG2 {k : Nat} {y : AV} {r : List (List C)} : yza k y (some r) = (y = .c (.sl k r)):=rfl
def yyW (k n : Nat) (y : AV) : Obj → Prop
 | .row _ rows=>y = .c (.sl k (rows.take n))
 | .tr _ _ rows=>yza k y (ykv (rows.take n))
 | _=>False
@[simp] theorem yyD {s : St} {id k n : Nat} {y : AV} : out1 s (.own id k n) y = yyW k n y (s.ob id):=by simp only [out1,yyW]; cases s.ob id <;> rfl
@[simp] theorem yIo {k n q : Nat} {rows : List (List C)} {y : AV} : yyW k n y (.row q rows) = (y = .c (.sl k (rows.take n))):=rfl
@[simp] theorem outO_tr {k n q ver : Nat} {rows : List (List C)} {y : AV} : yyW k n y (.tr q ver rows) = yza k y (ykv (rows.take n)):=rfl
def ysp (k lo n : Nat) (y : AV) : Obj → Prop
 | .row _ rows=>y = .c (.sl k ((rows.drop lo).take n))
 | _=>False
@[simp] theorem yyS {s : St} {id k lo n : Nat} {y : AV} : out1 s (.cut id k lo n) y = ysp k lo n y (s.ob id):=by simp only [out1,ysp]; cases s.ob id <;> rfl
@[simp] theorem yCH {k lo n q : Nat} {rows : List (List C)} {y : AV} : ysp k lo n y (.row q rows) = (y = .c (.sl k ((rows.drop lo).take n))):=rfl
def ywo (y : AV) : Option C → Prop
 | some c=>match c.shr with
  | some z=>y = .c z
  | none=>False
 | none=>False
def yAx (ver : Nat) (i : Int) (j : Nat) (y : AV) : Obj → Prop
 | .tr _ ver' rows=>ver' = ver ∧ ywo y (cellAt rows i.toNat j)
 | _=>False
@[simp] theorem yyO {s : St} {id ver : Nat} {i : Int} {j k n : Nat} {y : AV} : out1 s (.sub id ver i j k n) y = yAx ver i j y (s.ob id):=by first | rfl | (simp only [out1,yAx,ywo]; done) | (simp only [out1,yAx,ywo]; rfl)
@[simp] theorem outS_tr {ver k0 ver' : Nat} {i : Int} {j : Nat} {y : AV} {rows : List (List C)} : yAx ver i j y (.tr k0 ver' rows) = (ver' = ver ∧ ywo y (cellAt rows i.toNat j)):=rfl
@[simp] theorem outC_ow {k : Nat} {rows : List (List C)} {y : AV} : ywo y (some (.ow k rows)) = (y = .c (.sl k rows)):=rfl
@[simp] theorem outC_ot {k : Nat} {rows : List (List C)} {y : AV} : ywo y (some (.ot k rows)) = yza k y (ykv rows):=by
 simp only [ywo,C.shr,yza]; cases ykv rows <;> rfl
@[simp] theorem yGw {s : St} : yeH s [] [] = True:=rfl
@[simp] theorem yEr {s : St} {x y : AV} {l l' : List AV} : yeH s (x :: l) (y :: l') = (out1 s x y ∧ yeH s l l'):=rfl
@[simp] theorem yHx {s : St} {l : List C} : yeH s (l.map .c) (l.map .c) = True:=by
 induction l with
 | nil=>rfl
 | cons x l ih=>simp [ih]
@[simp] theorem yKe {s : St} {l l' : List AV} : ydb s (.agg l) (.agg l') = yeH s l l':=rfl
@[simp] theorem out2_c {s : St} {z : C} {y : AV} : ydb s (.c z) y = (y = .c z):=rfl
@[simp] theorem yFJ {s : St} {k : Nat} {r : List (List C)} {y : AV} : ydb s (.clip k r) y = (y = .c (.sl k r) ∨ y = .clip k r):=rfl
@[simp] theorem yIb {s : St} {n : Nat} {y : AV} : ydb s (.nil n) y = ((∃ k,y = .c (.sl k [])) ∨ ∃ k,y = .nil k):=rfl
@[simp] theorem yJf {s : St} {cs : List C} {y : AV} : ydb s (.elt cs) y = (y = .elt cs):=rfl
@[simp] theorem yIF {s : St} {id k lo n : Nat} {y : AV} : ydb s (.cut id k lo n) y = ysp k lo n y (s.ob id):=yyS
@[simp] theorem yHE {s : St} {id ver : Nat} {i : Int} {j k n : Nat} {y : AV} : ydb s (.sub id ver i j k n) y = yAx ver i j y (s.ob id):=yyO (k:=k) (n:=n)
@[simp] theorem out2_fn {s : St} {f f' : Nat} {l l' : List AV} : ydb s (.fn f l) (.fn f' l') = (f = f' ∧ yeH s l l'):=rfl
def yBm (s : St) (off : Nat) (cs : List C) : Obj → Prop
 | .box cells=>yeH s (cells.drop off) (cs.map .c)
 | _=>False
@[simp] theorem yHT {s : St} {id off : Nat} {cs : List C} : ydb s (.box id off) (.elt cs) = yBm s off cs (s.ob id):=by first | rfl | (simp only [ydb,yBm]; done) | (simp only [ydb,yBm]; rfl)
@[simp] theorem yJi {s : St} {off : Nat} {cs : List C} {cells : List AV} : yBm s off cs (.box cells) = yeH s (cells.drop off) (cs.map .c):=rfl
@[simp] theorem yIi {s : St} {id k n : Nat} {y : AV} : ydb s (.own id k n) y = yyW k n y (s.ob id):=yyD
@[simp] theorem yGu {s : St} : ybD s [] [] = True:=rfl
@[simp] theorem yDT {s : St} {x y : AV} {l l' : List AV} : ybD s (x :: l) (y :: l') = (ydb s x y ∧ ybD s l l'):=rfl
@[simp] theorem yJK {s : St} {r : RS} {y : AV} : yml s [r] y = yf7 s r y:=rfl
@[simp] theorem yID {s : St} {r r' : RS} {y : AV} : yml s [r,r'] y = ∃ ys,y = .tup ys ∧ yi4 s [r,r'] ys:=rfl
@[simp] theorem yCS {s : St} {r r' r2 : RS} {y : AV} : yml s [r,r',r2] y = ∃ ys,y = .tup ys ∧ yi4 s [r,r',r2] ys:=rfl
@[simp] theorem yED {s : St} : yi4 s [] [] = True:=rfl
@[simp] theorem yCf {s : St} {r : RS} {rs : List RS} {y : AV} {ys : List AV} : yi4 s (r :: rs) (y :: ys) = (yf7 s r y ∧ yi4 s rs ys):=rfl
@[simp] theorem yJX {s : St} {n : Nat} {y : AV} : yf7 s (.t n) y = ydb s (s.env n) y:=rfl
def clA (s : St) (k : Nat) (y : AV) : AV → Prop
 | .box id 0=>match s.ob id with
  | .box cells=>cells.length = k ∧ ydb s (.agg cells) y
  | _=>False
 | _=>False
@[congr] theorem yKH {s : St} {k : Nat} {y a a' : AV} (h : a = a') : clA s k y a = clA s k y a':=by rw [h]
@[simp] theorem yFa {s : St} {n k : Nat} {y : AV} : yf7 s (.cl n k) y = clA s k y (s.env n):=by
 simp only [yf7,clA]
 cases s.env n with
 | box id o=>cases o <;> rfl
 | _=>rfl
def clO (s : St) (k : Nat) (y : AV) : Obj → Prop
 | .box cells=>cells.length = k ∧ ydb s (.agg cells) y
 | _=>False
@[simp] theorem clA_box {s : St} {k id : Nat} {y : AV} : clA s k y (.box id 0) = clO s k y (s.ob id):=by first | rfl | (simp only [clA,clO]; done) | (simp only [clA,clO]; rfl)
@[simp] theorem clO_box {s : St} {k : Nat} {y : AV} {cells : List AV} : clO s k y (.box cells) = (cells.length = k ∧ ydb s (.agg cells) y):=rfl
end
@[simp] theorem yBN {k k' : Nat} {r r' : List (List C)} : (Obj.row k r).leO (.row k' r') = (Obj.row k r = .row k' r'):=rfl
@[simp] theorem yES {k k' v : Nat} {r r' : List (List C)} : (Obj.row k r).leO (.tr k' v r') = (k = k' ∧ r = r'):=rfl
@[simp] theorem yFw {k k' v v' : Nat} {r r' : List (List C)} : (Obj.tr k v r).leO (.tr k' v' r') = (k = k' ∧ r = r'):=rfl
@[simp] theorem yCj {l l' : List AV} : (Obj.box l).leO (.box l') = (Obj.box l = .box l'):=rfl
def ints (l : List Int) : List (List C):=l.map fun n=>[.i n]
@[simp] theorem yCb {l : List Int} : (ints l).length = l.length:=by simp [ints]
end Go.Proofs.YtpiplmnecmkafaaGreat
