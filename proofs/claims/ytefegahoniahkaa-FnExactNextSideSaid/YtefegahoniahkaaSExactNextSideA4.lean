/- What the law FnExactNextSide stands on: the machine, in short form (names, layout). -/
import Derived.Test.YtefegahoniahkaaSExactNextSideA3
set_option linter.all false
namespace Go.Proofs.Ytefegahoniahkaa
open Go.RowKit
structure Tag {α : Type} (K : α) : Type where
def ysw (P : Program) (f : Nat) (xs : List AV) (d : Option Nat) (s : St) (K : St → Prop) (_ : Tag K) : Prop:=yfs P f xs d s K
def ypN (P : Program) (f : Nat) (xs : List AV) (ob : Nat → Obj) (k : AV → Prop) (_ : Tag k) : Prop:=ykA P f xs ob k
def loopT (P : Program) (N : Nat) (c : SC) (s : St) (Q : Ex → St → Prop) (_ : Tag Q) : Prop:=yi1 P N c s Q
section
variable {P : Program} {N : Nat}
@[congr] theorem yuA {d : Option Nat} {op op' : IOp} {s : St} {K : St → Prop} (h : op = op') : yA P d op s K = yA P d op' s K:=by rw [h]
@[congr] theorem ywi {op op' : IOp} {ev : X → AV} {ob : Nat → Obj} {k : AV → Prop} (h : op = op') : yY P op ev ob k = yY P op' ev ob k:=by rw [h]
@[congr] theorem ywK {Q Q' : Ex → St → Prop} {e : Ex} {s s' : St} (h : s = s') : Ex.then Q Q' e s = Ex.then Q Q' e s':=by rw [h]
@[congr] theorem yrs {Q : Ex → St → Prop} {n : Nat} {e : Ex} {s s' : St} (h : s = s') : Ex.inBlock n Q e s = Ex.inBlock n Q e s':=by rw [h]
@[congr] theorem ywq {s s' : St} {d : Option Nat} {o o' : Obj} {v : Nat → AV} {K : St → Prop} (h : s = s') (h2 : o = o') : newP s d o v K = newP s' d o' v K:=by rw [h,h2]
@[congr] theorem ytJ {s : St} {ps : List (Nat × Nat × X)} {l l' : List AV} {K : List AV → Prop} (h : l = l') : ycG s ps l K = ycG s ps l' K:=by rw [h]
@[congr] theorem yAH {c : SC} {s s' : St} {Q : Ex → St → Prop} (h : s = s') : wpS P N c s Q = wpS P N c s' Q:=by rw [h]
@[congr] theorem yzK {l : List Ins} {s s' : St} {K : St → Prop} (h : s = s') : wpI P l s K = wpI P l s' K:=by rw [h]
@[congr] theorem yzs {n : Nat} {l : List RIns} {h : List (Nat × Lab)} {s s' : St} {K : St → Prop} (hs : s = s') : wpE P n l h s K = wpE P n l h s' K:=by rw [hs]
@[congr] theorem yxP {l : List Ins} {s s' : St} {K : St → Prop} (h : s = s') : wpQ P l s K = wpQ P l s' K:=by rw [h]
@[congr] theorem yup {c c' a a' b b' : AV} {k : AV → Prop} (h1 : c = c') (h2 : a = a') (h3 : b = b') : ydm c a b k = ydm c' a' b' k:=by rw [h1,h2,h3]
@[congr] theorem ywd {o : BinOp} {a a' b b' : AV} {k : AV → Prop} (h2 : a = a') (h3 : b = b') : yjn o a b k = yjn o a' b' k:=by rw [h2,h3]
@[congr] theorem ywp {o : Bool} {a a' b b' : AV} {k : AV → Prop} (h2 : a = a') (h3 : b = b') : yia o a b k = yia o a' b' k:=by rw [h2,h3]
@[congr] theorem yvR {a a' : AV} {k : AV → Prop} (h2 : a = a') : yld a k = yld a' k:=by rw [h2]
@[congr] theorem yv9 {a a' : AV} {k : AV → Prop} (h2 : a = a') : notP a k = notP a' k:=by rw [h2]
@[congr] theorem ywz {a a' : AV} {k : AV → Prop} (h2 : a = a') : yiO a k = yiO a' k:=by rw [h2]
@[congr] theorem yw9 {o : Nat} {s : St} {a a' b b' : AV} {k : AV → Prop} (h2 : a = a') (h3 : b = b') : yeV o s a b k = yeV o s a' b' k:=by rw [h2,h3]
@[congr] theorem yvZ {o n : Nat} {a a' b b' : AV} {k : AV → Prop} (h2 : a = a') (h3 : b = b') : yiN o n a b k = yiN o n a' b' k:=by rw [h2,h3]
@[congr] theorem yvy {o : Nat} {s : St} {a a' : AV} {k : AV → Prop} (h2 : a = a') : yfl o s a k = yfl o s a' k:=by rw [h2]
@[congr] theorem yvi {s : St} {a a' : AV} {k : AV → Prop} (h2 : a = a') : yeC s a k = yeC s a' k:=by rw [h2]
@[congr] theorem ywD {o : Nat} {s : St} {a a' : AV} {k : AV → Prop} (h2 : a = a') : yej o s a k = yej o s a' k:=by rw [h2]
@[congr] theorem yww {s : St} {a a' b b' : AV} {k : St → Prop} (h2 : a = a') (h3 : b = b') : yex s a b k = yex s a' b' k:=by rw [h2,h3]
@[congr] theorem ywN {o : Nat} {s : St} {a a' b b' : AV} {k : St → Prop} (h2 : a = a') (h3 : b = b') : ygt o s a b k = ygt o s a' b' k:=by rw [h2,h3]
@[congr] theorem yvW {o : Nat} {s : St} {d : Option Nat} {a a' : AV} {k : St → Prop} (h2 : a = a') : yoc o s d a k = yoc o s d a' k:=by rw [h2]
@[congr] theorem ywk {o n : Nat} {z : List C} {s : St} {d : Option Nat} {a a' b b' : AV} {k : St → Prop} (h2 : a = a') (h3 : b = b') : ykK o n z s d a b k = ykK o n z s d a' b' k:=by rw [h2,h3]
@[congr] theorem yv3 {o : Nat} {s : St} {d : Option Nat} {a a' : List AV} {k : St → Prop} (h2 : a = a') : yih o a s d k = yih o a' s d k:=by rw [h2]
@[congr] theorem yxo {o : Nat} {a a' : AV} {l l' h h' m m' : Option AV} {k : AV → Prop} (h2 : a = a') (h3 : l = l') (h4 : h = h') (h5 : m = m') : yed o a l h m k = yed o a' l' h' m' k:=by rw [h2,h3,h4,h5]
@[congr] theorem yvN {o n : Nat} {s : St} {a a' b b' : AV} {k : AV → Prop} (h2 : a = a') (h3 : b = b') : yhu o n s a b k = yhu o n s a' b' k:=by rw [h2,h3]
@[congr] theorem yxF {s : St} {a a' : AV} {k : AV → Prop} (h2 : a = a') : yek s a k = yek s a' k:=by rw [h2]
@[congr] theorem yuk {a a' : AV} {k : AV → Prop} (h2 : a = a') : yfy a k = yfy a' k:=by rw [h2]
@[congr] theorem ywO {o n : Nat} {s : St} {d : Option Nat} {a a' b b' : AV} {k : St → Prop} (h2 : a = a') (h3 : b = b') : yft o n s d a b k = yft o n s d a' b' k:=by rw [h2,h3]
@[congr] theorem yzr {f : Int → Int → Int} {a a' : List AV} {k : AV → Prop} (h2 : a = a') : mmP f a k = mmP f a' k:=by rw [h2]
@[congr] theorem ywQ {o : Nat} {a a' : AV} {k : AV → Prop} (h2 : a = a') : yic o a k = yic o a' k:=by rw [h2]
@[congr] theorem ywl {a a' b b' : AV} {k : AV → Prop} (h2 : a = a') (h3 : b = b') : yjq a b k = yjq a' b' k:=by rw [h2,h3]
@[congr] theorem ysa {f f' : AV} {l l' : List AV} {d : Option Nat} {s : St} {K : St → Prop} (h : f = f') (h2 : l = l') : ye3 P f l d s K = ye3 P f' l' d s K:=by rw [h,h2]
@[congr] theorem yzh {o : Nat} {s : St} {d : Option Nat} {a a' b b' : AV} {k : St → Prop} (h2 : a = a') (h3 : b = b') : cpP o s d a b k = cpP o s d a' b' k:=by rw [h2,h3]
@[congr] theorem ywc {a a' : AV} {k : AV → Prop} (h2 : a = a') : yjV a k = yjV a' k:=by rw [h2]
@[congr] theorem yxy {a a' : AV} {k : AV → Prop} (h2 : a = a') : yhH a k = yhH a' k:=by rw [h2]
@[congr] theorem ywS {o : Bool} {a a' b b' : AV} {k : AV → Prop} (h2 : a = a') (h3 : b = b') : yh9 o a b k = yh9 o a' b' k:=by rw [h2,h3]
@[congr] theorem yur {a a' b b' : AV} {k : AV → Prop} (h2 : a = a') (h3 : b = b') : ye1 a b k = ye1 a' b' k:=by rw [h2,h3]
@[congr] theorem yxq {a a' : AV} {l l' h h' : Option AV} {k : AV → Prop} (h2 : a = a') (h3 : l = l') (h4 : h = h') : yhx a l h k = yhx a' l' h' k:=by rw [h2,h3,h4]
@[congr] theorem yxc {o : BinOp} {a a' b b' : AV} {k : AV → Prop} (h2 : a = a') (h3 : b = b') : yfu o a b k = yfu o a' b' k:=by rw [h2,h3]
@[congr] theorem yu2 {o : BinOp} {a a' b b' : AV} {k : AV → Prop} (h2 : a = a') (h3 : b = b') : ycb o a b k = ycb o a' b' k:=by rw [h2,h3]
@[congr] theorem ys3 {o : BinOp} {a a' b b' : AV} {k : AV → Prop} (h2 : a = a') (h3 : b = b') : yeP o a b k = yeP o a' b' k:=by rw [h2,h3]
@[congr] theorem yv4 {o : Nat} {s : St} {a a' : AV} {k : AV → Prop} (h2 : a = a') : ybX o s a k = ybX o s a' k:=by rw [h2]
@[congr] theorem yse {a a' : AV} {v : Bool} {A B : Prop} (h : a = a') : ybz a v A B = ybz a' v A B:=by rw [h]
@[congr] theorem ytK {a a' : AV} {A B : Prop} (h : a = a') : yf1 a A B = yf1 a' A B:=by rw [h]
@[simp ↓] theorem yy5 {s : St} {Q : Ex → St → Prop} : wpS P N .skip s Q = Q .normal s:=rfl
@[simp ↓] theorem wpS_reg {l : List Ins} {s : St} {Q : Ex → St → Prop} : wpS P N (.reg l) s Q = wpI P l s (Q .normal):=rfl
@[simp ↓] theorem yyJ {l : List Ins} {s : St} {Q : Ex → St → Prop} : wpS P N (.regq l) s Q = wpQ P l s (Q .normal):=rfl
@[simp ↓] theorem yy1 {l : List RIns} {s : St} {Q : Ex → St → Prop} : wpS P N (.rege l) s Q = wpE P 0 l [] s (Q .normal):=rfl
@[simp ↓] theorem wpS_seq {a b : SC} {s : St} {Q : Ex → St → Prop} : wpS P N (.seq a b) s Q = wpS P N a s (Ex.then (fun _ s'=>wpS P N b s' Q) Q):=rfl
@[simp ↓] theorem wpS_cond {x : X} {a b : SC} {s : St} {Q : Ex → St → Prop} : wpS P N (.cond x a b) s Q = yf1 (s.ev x) (wpS P N a s Q) (wpS P N b s Q):=rfl
@[simp ↓] theorem yw5 {n : Nat} {c : SC} {s : St} {Q : Ex → St → Prop} : wpS P N (.block n c) s Q = wpS P N c s (Ex.inBlock n Q):=rfl
@[simp ↓] theorem yx9 {c : SC} {s : St} {Q : Ex → St → Prop} : wpS P N (.loop c) s Q = loopT P N c s Q ⟨⟩:=rfl
@[simp ↓] theorem yzj {n : Nat} {s : St} {Q : Ex → St → Prop} : wpS P N (.exit n) s Q = Q (.exit n) s:=rfl
@[simp ↓] theorem wpS_ret {s : St} {Q : Ex → St → Prop} : wpS P N .ret s Q = Q .ret s:=rfl
@[simp ↓] theorem yr6 {Q Q' : Ex → St → Prop} {s : St} : Ex.then Q Q' .normal s = Q .normal s:=rfl
@[simp ↓] theorem ywI {Q Q' : Ex → St → Prop} {n : Nat} {s : St} : Ex.then Q Q' (.exit n) s = Q' (.exit n) s:=rfl
@[simp ↓] theorem yyZ {Q Q' : Ex → St → Prop} {s : St} : Ex.then Q Q' .ret s = Q' .ret s:=rfl
@[simp ↓] theorem yqO {Q : Ex → St → Prop} {n : Nat} {s : St} : Ex.inBlock n Q .normal s = Q .normal s:=rfl
@[simp ↓] theorem ysC {Q : Ex → St → Prop} {n : Nat} {s : St} : Ex.inBlock n Q .ret s = Q .ret s:=rfl
@[simp ↓] theorem yrl {Q : Ex → St → Prop} {n m : Nat} {s : St} : Ex.inBlock n Q (.exit m) s = if m = n then Q .normal s else Q (.exit m) s:=rfl
@[simp ↓] theorem wpI_nil {s : St} {K : St → Prop} : wpI P [] s K = K s:=rfl
@[simp ↓] theorem yx3 {d : Option Nat} {op : IOp} {l : List Ins} {s : St} {K : St → Prop} : wpI P (⟨none,d,op⟩ :: l) s K = yA P d op s fun s'=>wpI P l s' K:=rfl
def ybs (x : AV) (t : Nat) (want : Bool) (s : St) (A B : St → Prop) : Prop :=
 match x with
 | .c (.b v)=>(v = want → A (s.put (some t) (.c (.b want)))) ∧ (v = (!want) → B (s.put (some t) (.c (.b (!want)))))
 | .und=>B s
 | _=>False
theorem yg5 {s : St} {t : Nat} {v : AV} (h : s.env t = v) : s.put (some t) v = s:=by
 obtain ⟨env,objs⟩:=s
 simp only [St.put]
 congr 1
 funext n
 unfold upd
 split
 ·rename_i e; subst e; exact h.symm
 ·rfl
theorem yhM {t : Nat} {want : Bool} {s : St} {A B : St → Prop} : ybz (s.env t) want (A s) (B s) = ybs (s.env t) t want s A B:=by
 unfold ybz ybs
 cases h : s.env t with
 | c x=>cases x with
  | b v =>
   apply propext
   constructor
   ·rintro ⟨h1,h2⟩
    exact ⟨fun e=>by rw [yg5 (by rw [h,e])]; exact h1 e,fun e=>by rw [yg5 (by rw [h,e])]; exact h2 e⟩
   ·rintro ⟨h1,h2⟩
    refine ⟨fun e=>?_,fun e=>?_⟩
    ·have:=h1 e; rwa [yg5 (by rw [h,e])] at this
    ·have:=h2 e; rwa [yg5 (by rw [h,e])] at this
  | _=>rfl
 | _=>rfl
@[congr] theorem yrO {a a' : AV} {t : Nat} {v : Bool} {s : St} {A B : St → Prop} (h : a = a') : ybs a t v s A B = ybs a' t v s A B:=by rw [h]
@[simp] theorem yAa {t : Nat} {v want : Bool} {s : St} {A B : St → Prop} : ybs (.c (.b v)) t want s A B = ((v = want → A (s.put (some t) (.c (.b want)))) ∧ (v = (!want) → B (s.put (some t) (.c (.b (!want)))))):=rfl
@[simp high] theorem yu7 {t : Nat} {s : St} {A B : St → Prop} : ybs (.c (.b true)) t true s A B = A (s.put (some t) (.c (.b true))):=by simp [ybs]
@[simp high] theorem ywL {t : Nat} {s : St} {A B : St → Prop} : ybs (.c (.b true)) t false s A B = B (s.put (some t) (.c (.b true))):=by simp [ybs]
@[simp high] theorem yxw {t : Nat} {s : St} {A B : St → Prop} : ybs (.c (.b false)) t true s A B = B (s.put (some t) (.c (.b false))):=by simp [ybs]
@[simp high] theorem yxl {t : Nat} {s : St} {A B : St → Prop} : ybs (.c (.b false)) t false s A B = A (s.put (some t) (.c (.b false))):=by simp [ybs]
@[simp] theorem yuw {t : Nat} {want : Bool} {s : St} {A B : St → Prop} : ybs .und t want s A B = B s:=rfl
@[simp ↓] theorem yw7 {t : Nat} {v : Bool} {d : Option Nat} {op : IOp} {l : List Ins} {s : St} {K : St → Prop} :
 wpI P (⟨some (t,v),d,op⟩ :: l) s K = ybs (s.env t) t v s (fun s=>yA P d op s fun s'=>wpI P l s' K) (fun s=>wpI P l (s.put d .und) K) :=
 yhM (A:=fun s=>yA P d op s fun s'=>wpI P l s' K) (B:=fun s=>wpI P l (s.put d .und) K)
@[simp ↓] theorem wpQ_nil {s : St} {K : St → Prop} : wpQ P [] s K = K s:=rfl
@[simp ↓] theorem yzN {d : Option Nat} {op : IOp} {l : List Ins} {s : St} {K : St → Prop} : wpQ P (⟨none,d,op⟩ :: l) s K = yY P op s.ev s.objs fun v=>wpQ P l (s.put d v) K:=rfl
@[simp ↓] theorem yvr {t : Nat} {v : Bool} {d : Option Nat} {op : IOp} {l : List Ins} {s : St} {K : St → Prop} :
 wpQ P (⟨some (t,v),d,op⟩ :: l) s K = ybs (s.env t) t v s (fun s=>yY P op s.ev s.objs fun v=>wpQ P l (s.put d v) K) (fun s=>wpQ P l (s.put d .und) K):=by
 have e : wpQ P (⟨some (t,v),d,op⟩ :: l) s K = ybz (s.env t) v (yY P op s.ev s.objs fun v=>wpQ P l (s.put d v) K) (wpQ P l (s.put d .und) K):=rfl
 rw [e]
 exact yhM (A:=fun s=>yY P op s.ev s.objs fun v=>wpQ P l (s.put d v) K) (B:=fun s=>wpQ P l (s.put d .und) K)
@[simp ↓] theorem wpE_nil {n : Nat} {h : List (Nat × Lab)} {s : St} {K : St → Prop} : wpE P n [] h s K = K s:=by simp only [wpE]
@[simp] theorem ywW {a0} : (IOp.mv a0).yE = false:=rfl
@[simp] theorem ytx {a0} : (IOp.neg a0).yE = false:=rfl
@[simp] theorem ytD {a0} : (IOp.isn a0).yE = false:=rfl
@[simp] theorem yuJ {a0 a1} : (IOp.fld a0 a1).yE = false:=rfl
@[simp] theorem ytn {a0} : (IOp.ld1 a0).yE = false:=rfl
@[simp] theorem ysN {a0 a1} : (IOp.ldn a0 a1).yE = false:=rfl
@[simp] theorem yth {a0 a1} : (IOp.ext a0 a1).yE = false:=rfl
@[simp] theorem yuu {a0} : (IOp.len a0).yE = false:=rfl
@[simp] theorem yr7 {a0} : (IOp.slen a0).yE = false:=rfl
@[simp] theorem yux {a0} : (IOp.nck a0).yE = false:=rfl
@[simp] theorem yuI {a0} : (IOp.cap a0).yE = false:=rfl
@[simp] theorem yuM {a0 a1} : (IOp.cvt a0 a1).yE = false:=rfl
@[simp] theorem yuK {a0 a1 a2} : (IOp.seq a0 a1 a2).yE = false:=rfl
@[simp] theorem ysE {a0 a1} : (IOp.scat a0 a1).yE = false:=rfl
@[simp] theorem yun {a0 a1 a2} : (IOp.bit a0 a1 a2).yE = false:=rfl
@[simp] theorem ysl {a0 a1 a2} : (IOp.binu a0 a1 a2).yE = false:=rfl
@[simp] theorem yrR {a0 a1 a2} : (IOp.binw a0 a1 a2).yE = false:=rfl
@[simp] theorem yuX {a0 a1 a2} : (IOp.bin a0 a1 a2).yE = false:=rfl
@[simp] theorem ytl {a0 a1 a2} : (IOp.beq a0 a1 a2).yE = false:=rfl
@[simp] theorem ysQ {a0 a1} : (IOp.ixs a0 a1).yE = false:=rfl
@[simp] theorem yu0 {a0 a1 a2} : (IOp.idx a0 a1 a2).yE = false:=rfl
@[simp] theorem yt6 {a0 a1 a2 a3} : (IOp.ida a0 a1 a2 a3).yE = false:=rfl
@[simp] theorem ys7 {a0 a1 a2 a3} : (IOp.sla a0 a1 a2 a3).yE = false:=rfl
@[simp] theorem yrX {a0 a1 a2} : (IOp.pick a0 a1 a2).yE = false:=rfl
@[simp] theorem ytH {a0 a1 a2} : (IOp.sls a0 a1 a2).yE = false:=rfl
@[simp] theorem ytp {a0 a1 a2 a3 a4} : (IOp.slc a0 a1 a2 a3 a4).yE = false:=rfl
@[simp] theorem yw6 {a0} : (IOp.mn a0).yE = false:=rfl
@[simp] theorem ywo {a0} : (IOp.mx a0).yE = false:=rfl
@[simp] theorem ysR {a0 a1} : (IOp.mkf a0 a1).yE = false:=rfl
@[simp] theorem yt5 {a0 a1} : (IOp.bld a0 a1).yE = false:=rfl
@[simp] theorem ysM {a0} : (IOp.not a0).yE = false:=rfl
theorem yqq {i : Ins} {s : St} {kN : St → Prop} (h : i.op.yE = false) : mkE P i s kN = False:=by
 obtain ⟨g,d,op⟩:=i
 unfold mkE
 split
 ·rename_i e; simp only at e h; rw [e] at h; cases h
 ·rfl
theorem mkE_g {p : Nat × Bool} {d : Option Nat} {op : IOp} {s : St} {kN : St → Prop} : mkE P ⟨some p,d,op⟩ s kN = False:=rfl
def ymO (P : Program) (f : Nat) (xs : List AV) (d : Option Nat) (s : St) (k : AV → Prop) (kN : St → Prop) (_ : Tag (k,kN)) : Prop :=
 ykA P f xs s.objs k ∨ match d with
  | some d=>∃ args res,yjQ P f args res ∧ ybt s xs args ∧ (res.closed ∨ xs.all AV.ycT = true) ∧ yeI s (res.yar d) ∧ kN (s.take d res)
  | none=>False
theorem yH {f : Nat} {d : Option Nat} {xs args : List AV} {res : AV} {s : St} {k : AV → Prop} {kN : St → Prop} {T : Tag (k,kN)} (hp : yR P f args res) (ho : ybt s xs args) (hc : xs.all AV.ycT = true ∨ res.scalar = true) (hK : k res) : ymO P f xs d s k kN T :=
 .inl ⟨args,res,hp,by rw [ybB]; exact ho,hc,hK⟩
@[simp ↓] theorem wpE_q {n : Nat} {h : List (Nat × Lab)} {d : Option Nat} {op : IOp} {l : List RIns} {s : St} {K : St → Prop} (ho : op.yE = false) : wpE P n (⟨0,false,[],⟨none,d,op⟩⟩ :: l) h s K = yY P op s.ev s.objs fun v=>wpE P (n + 1) l h (s.put d v) K:=by
 have e : wpE P n (⟨0,false,[],⟨none,d,op⟩⟩ :: l) h s K = ((yY P op s.ev s.objs fun v=>true = true ∧ wpE P (n + 1) l h (s.put d v) K) ∨ mkE P ⟨none,d,op⟩ s fun s'=>true = true ∧ wpE P (n + 1) l h s' K):=by rw [wpE]; first | done | rfl
 rw [e,yqq ho]; simp only [true_and,or_false]
@[simp ↓ low] theorem wpE_qn {n : Nat} {nt : Bool} {chk : List Nat} {h : List (Nat × Lab)} {d : Option Nat} {op : IOp} {l : List RIns} {s : St} {K : St → Prop} (ho : op.yE = false) : wpE P n (⟨0,nt,chk,⟨none,d,op⟩⟩ :: l) h s K =
 yY P op s.ev s.objs fun v=>ycF chk h (yb9 ⟨none,d,op⟩ s v) = true ∧ wpE P (n + 1) l (yaR nt n (yb9 ⟨none,d,op⟩ s v) h) (s.put d v) K:=by
 have e : wpE P n (⟨0,nt,chk,⟨none,d,op⟩⟩ :: l) h s K = ((yY P op s.ev s.objs fun v=>ycF chk h (yb9 ⟨none,d,op⟩ s v) = true ∧ wpE P (n + 1) l (yaR nt n (yb9 ⟨none,d,op⟩ s v) h) (s.put d v) K) ∨ mkE P ⟨none,d,op⟩ s fun s'=>ycF chk h ([],true) = true ∧ wpE P (n + 1) l (yaR nt n ([],true) h) s' K):=by rw [wpE]; first | done | rfl
 rw [e,yqq ho,or_false]
@[simp ↓] theorem wpE_qc {n f : Nat} {h : List (Nat × Lab)} {d : Option Nat} {xs : List X} {l : List RIns} {s : St} {K : St → Prop} : wpE P n (⟨0,false,[],⟨none,d,.call f xs⟩⟩ :: l) h s K =
 ymO P f (xs.map s.ev) d s (fun v=>wpE P (n + 1) l h (s.put d v) K) (fun s'=>wpE P (n + 1) l h s' K) ⟨⟩:=by
 have e : wpE P n (⟨0,false,[],⟨none,d,.call f xs⟩⟩ :: l) h s K = ((ykA P f (xs.map s.ev) s.objs fun v=>true = true ∧ wpE P (n + 1) l h (s.put d v) K) ∨ mkE P ⟨none,d,.call f xs⟩ s fun s'=>true = true ∧ wpE P (n + 1) l h s' K):=by rw [wpE]; first | done | rfl
 rw [e]
 cases d <;> (unfold ymO mkE; simp only [true_and])
@[simp ↓] theorem wpE_qg {n : Nat} {nt : Bool} {chk : List Nat} {h : List (Nat × Lab)} {t : Nat} {b : Bool} {d : Option Nat} {op : IOp} {l : List RIns} {s : St} {K : St → Prop} : wpE P n (⟨0,nt,chk,⟨some (t,b),d,op⟩⟩ :: l) h s K =
 ybs (s.env t) t b s (fun s=>yY P op s.ev s.objs fun v=>ycF chk h (yb9 ⟨some (t,b),d,op⟩ s v) = true ∧ wpE P (n + 1) l (yaR nt n (yb9 ⟨some (t,b),d,op⟩ s v) h) (s.put d v) K)
  (fun s=>ycF chk h (yb9 ⟨some (t,b),d,op⟩ s .und) = true ∧ wpE P (n + 1) l (yaR nt n (yb9 ⟨some (t,b),d,op⟩ s .und) h) (s.put d .und) K):=by
 have e : wpE P n (⟨0,nt,chk,⟨some (t,b),d,op⟩⟩ :: l) h s K = (ybz (s.env t) b (yY P op s.ev s.objs fun v=>ycF chk h (yb9 ⟨some (t,b),d,op⟩ s v) = true ∧ wpE P (n + 1) l (yaR nt n (yb9 ⟨some (t,b),d,op⟩ s v) h) (s.put d v) K)
  (ycF chk h (yb9 ⟨some (t,b),d,op⟩ s .und) = true ∧ wpE P (n + 1) l (yaR nt n (yb9 ⟨some (t,b),d,op⟩ s .und) h) (s.put d .und) K) ∨ mkE P ⟨some (t,b),d,op⟩ s fun s'=>ycF chk h ([],true) = true ∧ wpE P (n + 1) l (yaR nt n ([],true) h) s' K):=by rw [wpE]; first | done | rfl
 rw [e,mkE_g,or_false]
 exact yhM (A:=fun s=>yY P op s.ev s.objs fun v=>ycF chk h (yb9 ⟨some (t,b),d,op⟩ s v) = true ∧ wpE P (n + 1) l (yaR nt n (yb9 ⟨some (t,b),d,op⟩ s v) h) (s.put d v) K)
  (B:=fun s=>ycF chk h (yb9 ⟨some (t,b),d,op⟩ s .und) = true ∧ wpE P (n + 1) l (yaR nt n (yb9 ⟨some (t,b),d,op⟩ s .und) h) (s.put d .und) K)
@[simp ↓] theorem wpE_m {n : Nat} {nt : Bool} {chk : List Nat} {h : List (Nat × Lab)} {i : Ins} {l : List RIns} {s : St} {K : St → Prop} : wpE P n (⟨1,nt,chk,i⟩ :: l) h s K =
 (ycF chk h (yoR i) = true ∧ ycx P i.d i.op s fun s'=>wpE P (n + 1) l (yaR nt n (yoR i) h) s' K):=by rw [wpE]; first | done | rfl
@[simp ↓] theorem wpE_e {n : Nat} {nt : Bool} {chk : List Nat} {h : List (Nat × Lab)} {g : Option (Nat × Bool)} {d : Option Nat} {op : IOp} {l : List RIns} {s : St} {K : St → Prop} (ho : op.yE = false) : wpE P n (⟨2,nt,chk,⟨g,d,op⟩⟩ :: l) h s K =
 (ycF chk h (ykS ⟨g,d,op⟩ s) = true ∧ yA P d op s fun s'=>wpE P (n + 1) l (yaR nt n (ykS ⟨g,d,op⟩ s) h) s' K):=by
 have e : wpE P n (⟨2,nt,chk,⟨g,d,op⟩⟩ :: l) h s K = if op.yE then ynW P ⟨g,d,op⟩ s fun lab s'=>ycF chk h lab = true ∧ wpE P (n + 1) l (yaR nt n lab h) s' K
  else ycF chk h (ykS ⟨g,d,op⟩ s) = true ∧ yA P d op s fun s'=>wpE P (n + 1) l (yaR nt n (ykS ⟨g,d,op⟩ s) h) s' K:=by rw [wpE]; first | done | rfl
 rw [e,if_neg (by simp [ho])]
@[simp] theorem yt3 {a0 a1} : (IOp.st1 a0 a1).yE = false:=rfl
@[simp] theorem ytF {a0 a1 a2} : (IOp.stn a0 a1 a2).yE = false:=rfl
@[simp] theorem yuh {a0 a1 a2 a3} : (IOp.app a0 a1 a2 a3).yE = false:=rfl
@[simp] theorem yvb {a0 a1 a2} : (IOp.cp a0 a1 a2).yE = false:=rfl
@[simp] theorem ytv {a0 a1} : (IOp.bsl a0 a1).yE = false:=rfl
def turnT (P : Program) (f : Nat) (d : Option Nat) (xs : List X) (s : St) (K : Lab → St → Prop) (_ : Tag K) : Prop:=ynW P ⟨none,d,.call f xs⟩ s K
@[simp ↓] theorem wpE_t {n f : Nat} {nt : Bool} {chk : List Nat} {h : List (Nat × Lab)} {d : Option Nat} {xs : List X} {l : List RIns} {s : St} {K : St → Prop} : wpE P n (⟨2,nt,chk,⟨none,d,.call f xs⟩⟩ :: l) h s K =
 turnT P f d xs s (fun lab s'=>ycF chk h lab = true ∧ wpE P (n + 1) l (yaR nt n lab h) s' K) ⟨⟩:=by
 have e : wpE P n (⟨2,nt,chk,⟨none,d,.call f xs⟩⟩ :: l) h s K = if (IOp.call f xs).yE then ynW P ⟨none,d,.call f xs⟩ s fun lab s'=>ycF chk h lab = true ∧ wpE P (n + 1) l (yaR nt n lab h) s' K
  else ycF chk h (ykS ⟨none,d,.call f xs⟩ s) = true ∧ yA P d (.call f xs) s fun s'=>wpE P (n + 1) l (yaR nt n (ykS ⟨none,d,.call f xs⟩ s) h) s' K:=by rw [wpE]; first | done | rfl
 rw [e,if_pos (show (IOp.call f xs).yE = true from rfl)]; rfl
@[congr] theorem ysI {d : Option Nat} {op op' : IOp} {s : St} {K : St → Prop} (h : op = op') : ycx P d op s K = ycx P d op' s K:=by rw [h]
@[congr] theorem yxG {k : Nat} {xs xs' : List AV} {s : St} {d : Option Nat} {K : St → Prop} (h : xs = xs') : ylo k xs s d K = ylo k xs' s d K:=by rw [h]
@[congr] theorem yso {f f' : AV} {l l' : List AV} {ob : Nat → Obj} {k : AV → Prop} (h : f = f') (h2 : l = l') : yen P f l ob k = yen P f' l' ob k:=by rw [h,h2]
@[simp ↓] theorem yrP {d : Option Nat} {s : St} {K : St → Prop} {zs : List AV} : ycx P d (.alloc zs) s K = newP s d (.box zs) (fun d=>.box d 0) K:=rfl
@[simp ↓] theorem yrb {d : Option Nat} {s : St} {K : St → Prop} {n m : Nat} {z : List C} : ycx P d (.alloca n m z) s K = newP s d (.row n (List.replicate m z)) (fun d=>.row d n 0 0) K:=rfl
@[simp ↓] theorem yvj {d : Option Nat} {s : St} {K : St → Prop} {n b : Nat} {z : List C} {l c : X} : ycx P d (.mks n b z l c) s K = ykK n b z s d (s.ev l) (s.ev c) K:=rfl
@[simp ↓] theorem yxa {d : Option Nat} {s : St} {K : St → Prop} {n : Nat} {xs : List X} : ycx P d (.bsl n xs) s K = ylo n (xs.map s.ev) s d K:=rfl
def yqi (k : Nat) (s : St) (d : Option Nat) (K : St → Prop) : Option (List (List C)) → Prop
 | some rows=>(∀ r ∈ rows,r.length = k) ∧ newP s d (.row k rows) (fun d=>.own d k rows.length) K
 | none=>False
@[congr] theorem yv6 {k : Nat} {s : St} {d : Option Nat} {K : St → Prop} {o o' : Option (List (List C))} (h : o = o') : yqi k s d K o = yqi k s d K o':=by rw [h]
@[simp] theorem bslF_eq {k : Nat} {xs : List AV} {s : St} {d : Option Nat} {K : St → Prop} : ylo k xs s d K = yqi k s d K (AV.rowsOf xs):=by
 unfold ylo yqi; cases AV.rowsOf xs <;> rfl
@[simp] theorem yxz {k : Nat} {s : St} {d : Option Nat} {K : St → Prop} {rows : List (List C)} : yqi k s d K (some rows) = ((∀ r ∈ rows,r.length = k) ∧ newP s d (.row k rows) (fun d=>.own d k rows.length) K):=rfl
@[simp ↓] theorem yxE {f : Nat} {l xs : List AV} {ob : Nat → Obj} {k : AV → Prop} : yen P (.fn f l) xs ob k = ((∃ fn,P.funcs[f]? = some fn ∧ fn.body.isSome = true ∧ (fn.name != "runtime.NumGoroutine") = true) ∧ ypN P f (xs ++ l) ob k ⟨⟩):=rfl
@[simp] theorem noteL_f {n : Nat} {lab : Lab} {h : List (Nat × Lab)} : yaR false n lab h = h:=rfl
@[simp] theorem noteL_t {n : Nat} {lab : Lab} {h : List (Nat × Lab)} : yaR true n lab h = (n,lab) :: h:=rfl
@[simp] theorem yAO {lab : Lab} {h : List (Nat × Lab)} : ycF [] h lab = true:=rfl
@[simp] theorem yvQ {i : Nat} {l : List Nat} {lab : Lab} {h : List (Nat × Lab)} : ycF (i :: l) h lab = (yc6 (look ([],true) h i) lab && ycF l h lab):=rfl
@[simp] theorem yxi {a b : Lab} : yc6 a b = ((a.1.all fun i=>!b.1.contains i) && b.2):=rfl
@[simp] theorem labM_eq {g : Option (Nat × Bool)} {d : Nat} {op : IOp} : yoR ⟨g,some d,op⟩ = ([2 * d,2 * d + 1],true):=rfl
@[simp] theorem yAK {i : Ins} {s : St} {v : AV} : yb9 i s v = ((if yjl i.op s then [] else lw ((i.op.xs.map s.ev).flatMap AV.ids)) ++ lk ((v :: i.op.xs.map s.ev).flatMap AV.ids),(v :: i.op.xs.map s.ev).all AV.cl):=rfl
@[simp] theorem labE_eq {i : Ins} {s : St} : ykS i s = (lw (wOf i.op s ++ i.d.toList) ++ lk (kOf i.op s ++ i.d.toList),true):=rfl
@[simp] theorem lw_nil : lw [] = []:=rfl
@[simp] theorem lw_cons {i : Nat} {l : List Nat} : lw (i :: l) = 2 * i :: lw l:=rfl
@[simp] theorem lw_app {l l' : List Nat} : lw (l ++ l') = lw l ++ lw l':=List.map_append
@[simp] theorem lk_nil : lk [] = []:=rfl
@[simp] theorem lk_cons {i : Nat} {l : List Nat} : lk (i :: l) = (2 * i + 1) :: lk l:=rfl
@[simp] theorem lk_app {l l' : List Nat} : lk (l ++ l') = lk l ++ lk l':=List.map_append
attribute [simp] yjl AV.yhr ync
@[simp] theorem kOf_st1 {s : St} {x v : X} : kOf (.st1 x v) s = if yhB s (s.ev x) then (s.ev v).ids else []:=rfl
@[simp] theorem kOf_stn {s : St} {n : Nat} {x v : X} : kOf (.stn n x v) s = if yhB s (s.ev x) then (s.ev v).ids else []:=rfl
@[simp] theorem kOf_cp {s : St} {k : Nat} {x v : X} : kOf (.cp k x v) s = []:=rfl
@[simp] theorem kOf_app {s : St} {k b : Nat} {x y : X} : kOf (.app k b x y) s = ync (s.ev x) (wOf (.app k b x y) s):=rfl
@[simp] theorem kOf_bsl {s : St} {k : Nat} {xs : List X} : kOf (.bsl k xs) s = wOf (.bsl k xs) s:=rfl
def ynh (y : AV) : Option (List (List C)) → List Nat
 | some _=>[]
 | none=>y.ids
@[simp] theorem ysF {y : AV} {r : List (List C)} : ynh y (some r) = []:=rfl
@[simp] theorem ysi {y : AV} : ynh y none = y.ids:=rfl
@[simp] theorem wOf_app {s : St} {k b : Nat} {x y : X} : wOf (.app k b x y) s = (s.ev x).ids ++ ynh (s.ev y) (yT s k (s.ev y)):=by
 simp only [wOf]; cases yT s k (s.ev y) <;> rfl
@[simp] theorem wOf_st1 {s : St} {x v : X} : wOf (.st1 x v) s = (s.ev x).ids ++ (if yhB s (s.ev x) then (s.ev v).ids else []):=rfl
@[simp] theorem wOf_stn {s : St} {n : Nat} {x v : X} : wOf (.stn n x v) s = (s.ev x).ids ++ (if yhB s (s.ev x) then (s.ev v).ids else []):=rfl
@[simp] theorem wOf_cp {s : St} {k : Nat} {x v : X} : wOf (.cp k x v) s = (s.ev x).ids:=rfl
def yqA (k n id k' : Nat) (j h : Int) (K : AV → Prop) : Obj → Prop
 | .row _ rows=>k' = k ∧ j = 0 ∧ 0 ≤ h ∧ h ≤ rows.length ∧ rows.length = n ∧ K (.own id k h.toNat)
 | _=>False
@[congr] theorem yw2 {k n id k' : Nat} {j h : Int} {K : AV → Prop} {o o' : Obj} (e : o = o') : yqA k n id k' j h K o = yqA k n id k' j h K o':=by rw [e]
@[simp] theorem yyG {k n : Nat} {s : St} {id k' : Nat} {j h : Int} {K : AV → Prop} : yhu k n s (.row id k' j 0) (.c (.i h)) K = yqA k n id k' j h K (s.ob id):=by
 simp only [yhu,yqA]; cases s.ob id <;> rfl
@[simp] theorem yxY {k n id k' q : Nat} {j h : Int} {K : AV → Prop} {rows : List (List C)} : yqA k n id k' j h K (.row q rows) = (k' = k ∧ j = 0 ∧ 0 ≤ h ∧ h ≤ rows.length ∧ rows.length = n ∧ K (.own id k h.toNat)):=rfl
@[simp] theorem yx4 {s : St} {id k o : Nat} {i : Int} : yhB s (.row id k i o) = (s.ob id).tree:=rfl
@[simp] theorem yyP {s : St} {id o : Nat} : yhB s (.box id o) = false:=rfl
@[simp] theorem yw8 {s : St} {id ver : Nat} {i : Int} {j k : Nat} {i' : Int} {o : Nat} : yhB s (.ya4 id ver i j k i' o) = false:=rfl
@[simp] theorem yzv {k : Nat} {r : List (List C)} : (Obj.row k r).tree = false:=rfl
@[simp] theorem tree_tr {k v : Nat} {r : List (List C)} : (Obj.tr k v r).tree = true:=rfl
attribute [simp] IOp.xs
@[simp] theorem ids_any : AV.any.ids = []:=rfl
@[simp] theorem ids_und : AV.und.ids = []:=rfl
@[simp] theorem ids_c {x : C} : (AV.c x).ids = []:=rfl
@[simp] theorem ids_nil {k : Nat} : (AV.nil k).ids = []:=rfl
@[simp] theorem yxV {k : Nat} {r : List (List C)} : (AV.clip k r).ids = []:=rfl
@[simp] theorem ids_elt {r : List C} : (AV.elt r).ids = []:=rfl
@[simp] theorem ids_box {i o : Nat} : (AV.box i o).ids = [i]:=rfl
@[simp] theorem ids_row {i k o : Nat} {j : Int} : (AV.row i k j o).ids = [i]:=rfl
@[simp] theorem ids_own {i k n : Nat} : (AV.own i k n).ids = [i]:=rfl
@[simp] theorem ids_cut {i k l n : Nat} : (AV.cut i k l n).ids = [i]:=rfl
@[simp] theorem ids_sub {i ver : Nat} {n : Int} {j k m : Nat} : (AV.sub i ver n j k m).ids = [i]:=rfl
@[simp] theorem yzG {i ver : Nat} {n : Int} {j k : Nat} {m : Int} {o : Nat} : (AV.ya4 i ver n j k m o).ids = [i]:=rfl
@[simp] theorem ids_agg {l : List AV} : (AV.agg l).ids = l.flatMap AV.yau:=rfl
@[simp] theorem ids_fn {f : Nat} {l : List AV} : (AV.fn f l).ids = l.flatMap AV.yau:=rfl
@[simp] theorem ids_tup {l : List AV} : (AV.tup l).ids = l.flatMap AV.yaW:=rfl
@[simp] theorem yAn {l : List C} : (l.map AV.c).flatMap AV.yau = []:=by
 rw [List.flatMap_eq_nil_iff]; intro x hx; obtain ⟨c,_,rfl⟩:=List.mem_map.1 hx; rfl
attribute [simp] AV.yau AV.yan AV.yaW AV.cl AV.cl2 AV.cl1
@[simp] theorem cl1_map {l : List C} : (l.map AV.c).all AV.cl1 = true:=by
 rw [List.all_eq_true]; intro x hx; obtain ⟨c,_,rfl⟩:=List.mem_map.1 hx; rfl
@[simp] theorem yyd {b want : Bool} {A B : Prop} : ybz (.c (.b b)) want A B = ((b = want → A) ∧ (b = (!want) → B)):=rfl
@[simp] theorem yu1 {want : Bool} {A B : Prop} : ybz .und want A B = B:=rfl
@[simp high] theorem condP_t {A B : Prop} : yf1 (.c (.b true)) A B = A:=by simp [yf1]
@[simp high] theorem condP_f {A B : Prop} : yf1 (.c (.b false)) A B = B:=by simp [yf1]
@[simp] theorem condP_b {b : Bool} {A B : Prop} : yf1 (.c (.b b)) A B = ((b = true → A) ∧ (b = false → B)):=rfl
section
variable {d : Option Nat} {s : St} {K : St → Prop} {ev : X → AV} {ob : Nat → Obj} {k : AV → Prop}
@[simp ↓] theorem step_mv {x : X} : yA P d (.mv x) s K = K (s.put d (s.ev x)):=rfl
@[simp ↓] theorem ywh {a b c : X} : yA P d (.pick a b c) s K = ydm (s.ev a) (s.ev b) (s.ev c) fun v=>K (s.put d v):=rfl
@[simp ↓] theorem yya {o : BinOp} {a b : X} : yA P d (.bin o a b) s K = yjn o (s.ev a) (s.ev b) fun v=>K (s.put d v):=rfl
@[simp ↓] theorem yAw {o : Bool} {a b : X} : yA P d (.beq o a b) s K = yia o (s.ev a) (s.ev b) fun v=>K (s.put d v):=rfl
@[simp ↓] theorem yy9 {a : X} : yA P d (.isn a) s K = yld (s.ev a) fun v=>K (s.put d v):=rfl
@[simp ↓] theorem yzW {a : X} : yA P d (.not a) s K = notP (s.ev a) fun v=>K (s.put d v):=rfl
@[simp ↓] theorem yyU {a : X} : yA P d (.neg a) s K = yiO (s.ev a) fun v=>K (s.put d v):=rfl
@[simp ↓] theorem yzR {n : Nat} {a b : X} : yA P d (.idx n a b) s K = yeV n s (s.ev a) (s.ev b) fun v=>K (s.put d v):=rfl
@[simp ↓] theorem yyT {m n : Nat} {a b : X} : yA P d (.ida m n a b) s K = yiN m n (s.ev a) (s.ev b) fun v=>K (s.put d v):=rfl
@[simp ↓] theorem yz5 {n : Nat} {a : X} : yA P d (.fld n a) s K = yfl n s (s.ev a) fun v=>K (s.put d v):=rfl
@[simp ↓] theorem yxQ {a : X} : yA P d (.ld1 a) s K = yeC s (s.ev a) fun v=>K (s.put d v):=rfl
@[simp ↓] theorem yxJ {n : Nat} {a : X} : yA P d (.ldn n a) s K = yej n s (s.ev a) fun v=>K (s.put d v):=rfl
@[simp ↓] theorem yxN {a b : X} : yA P d (.st1 a b) s K = yex s (s.ev a) (s.ev b) fun s'=>K (s'.put d .und):=rfl
@[simp ↓] theorem yyk {n : Nat} {a b : X} : yA P d (.stn n a b) s K = ygt n s (s.ev a) (s.ev b) fun s'=>K (s'.put d .und):=rfl
@[simp ↓] theorem yxW {n : Nat} {a : X} : yA P d (.box n a) s K = yoc n s d (s.ev a) K:=rfl
@[simp ↓] theorem yuo {zs : List AV} : yA P d (.alloc zs) s K = newP s d (.box zs) (fun d=>.box d 0) K:=rfl
@[simp ↓] theorem ysy {n m : Nat} {z : List C} : yA P d (.alloca n m z) s K = newP s d (.row n (List.replicate m z)) (fun d=>.row d n 0 0) K:=rfl
@[simp ↓] theorem yyw {n b : Nat} {z : List C} {l c : X} : yA P d (.mks n b z l c) s K = ykK n b z s d (s.ev l) (s.ev c) K:=rfl
@[simp ↓] theorem yx7 {n : Nat} {xs : List X} : yA P d (.bsl n xs) s K = yih n (xs.map s.ev) s d K:=rfl
@[simp ↓] theorem yym {zs : List AV} {ps : List (Nat × Nat × X)} : yA P d (.bld zs ps) s K = ycG s ps zs fun l=>K (s.put d (.agg l)):=rfl
@[simp ↓] theorem yyW {n : Nat} {x : X} {lo hi m : Option X} : yA P d (.slc n x lo hi m) s K = yed n (s.ev x) (lo.map s.ev) (hi.map s.ev) (m.map s.ev) fun v=>K (s.put d v):=rfl
@[simp ↓] theorem yzM {n m : Nat} {x h : X} : yA P d (.sla n m x h) s K = yhu n m s (s.ev x) (s.ev h) fun v=>K (s.put d v):=rfl
@[simp ↓] theorem yyx {x : X} : yA P d (.len x) s K = yek s (s.ev x) fun v=>K (s.put d v):=rfl
@[simp ↓] theorem yw3 {x : X} : yA P d (.slen x) s K = yfy (s.ev x) fun v=>K (s.put d v):=rfl
@[simp ↓] theorem yvO {n b : Nat} {z : List C} {x y : X} : yA P d (.appz n b z x y) s K = ykg n b z s d (s.ev x) (s.ev y) K:=rfl
@[congr] theorem yue {o n : Nat} {z : List C} {s : St} {d : Option Nat} {a a' b b' : AV} {k : St → Prop} (h2 : a = a') (h3 : b = b') : ykg o n z s d a b k = ykg o n z s d a' b' k:=by rw [h2,h3]
@[simp] theorem yzx {k b : Nat} {z : List C} {s : St} {d : Option Nat} {j : Nat} {m : Int} {K : St → Prop} : ykg k b z s d (.nil j) (.c (.i m)) K = (0 ≤ m ∧ m.toNat * b ≤ 140737488355328 ∧ newP s d (.row k (List.replicate m.toNat z)) (fun d=>.own d k m.toNat) K):=rfl
@[simp ↓] theorem yzb {n b : Nat} {x y : X} : yA P d (.app n b x y) s K = yft n b s d (s.ev x) (s.ev y) K:=rfl
@[simp ↓] theorem step_mn {xs : List X} : yA P d (.mn xs) s K = mmP (fun x y=>if y < x then y else x) (xs.map s.ev) fun v=>K (s.put d v):=rfl
@[simp ↓] theorem step_mx {xs : List X} : yA P d (.mx xs) s K = mmP (fun x y=>if x < y then y else x) (xs.map s.ev) fun v=>K (s.put d v):=rfl
@[simp ↓] theorem yz2 {n : Nat} {x : X} : yA P d (.ext n x) s K = yic n (s.ev x) fun v=>K (s.put d v):=rfl
@[simp ↓] theorem yxd {f : Nat} {xs : List X} : yA P d (.call f xs) s K = ysw P f (xs.map s.ev) d s K ⟨⟩:=rfl
@[simp ↓] theorem yz4 {x i : X} : yA P d (.ixs x i) s K = yjq (s.ev x) (s.ev i) fun v=>K (s.put d v):=rfl
@[simp ↓] theorem yuy {f : X} {xs : List X} : yA P d (.callv f xs) s K = ye3 P (s.ev f) (xs.map s.ev) d s K:=rfl
@[simp ↓] theorem step_cp {n : Nat} {a b : X} : yA P d (.cp n a b) s K = cpP n s d (s.ev a) (s.ev b) K:=rfl
@[simp ↓] theorem yAc {a : X} : yA P d (.cap a) s K = yjV (s.ev a) fun v=>K (s.put d v):=rfl
@[simp ↓] theorem yyV {a : X} : yA P d (.nck a) s K = yhH (s.ev a) fun v=>K (s.put d v):=rfl
@[simp ↓] theorem step_seq {o : Bool} {a b : X} : yA P d (.seq o a b) s K = yh9 o (s.ev a) (s.ev b) fun v=>K (s.put d v):=rfl
@[simp ↓] theorem ywf {a b : X} : yA P d (.scat a b) s K = ye1 (s.ev a) (s.ev b) fun v=>K (s.put d v):=rfl
@[simp ↓] theorem yyj {x : X} {lo hi : Option X} : yA P d (.sls x lo hi) s K = yhx (s.ev x) (lo.map s.ev) (hi.map s.ev) fun v=>K (s.put d v):=rfl
@[simp ↓] theorem yAq {o : BinOp} {a b : X} : yA P d (.bit o a b) s K = yfu o (s.ev a) (s.ev b) fun v=>K (s.put d v):=rfl
@[simp ↓] theorem ywn {o : BinOp} {a b : X} : yA P d (.binu o a b) s K = ycb o (s.ev a) (s.ev b) fun v=>K (s.put d v):=rfl
@[simp ↓] theorem yxr {o : BinOp} {a b : X} : yA P d (.binw o a b) s K = yeP o (s.ev a) (s.ev b) fun v=>K (s.put d v):=rfl
@[simp ↓] theorem yyX {n : Nat} {a : X} : yA P d (.cvt n a) s K = ybX n s (s.ev a) fun v=>K (s.put d v):=rfl
@[simp ↓] theorem yzZ {f : Nat} {xs : List X} : yA P d (.mkf f xs) s K = ((xs.map s.ev).all AV.yS = true ∧ K (s.put d (.fn f (xs.map s.ev)))):=rfl
@[simp ↓] theorem val_nck {a : X} : yY P (.nck a) ev ob k = yhH (ev a) k:=rfl
@[simp ↓] theorem yyn {a : X} : yY P (.cvt 0 a) ev ob k = ybX 0 (yba ob) (ev a) k:=rfl
@[simp ↓] theorem yyi {a : X} : yY P (.cvt 1 a) ev ob k = ybX 1 (yba ob) (ev a) k:=rfl
@[simp ↓] theorem yAy {a : X} : yY P (.cvt 3 a) ev ob k = ybX 3 (yba ob) (ev a) k:=rfl
@[simp ↓] theorem val_seq {o : Bool} {a b : X} : yY P (.seq o a b) ev ob k = yh9 o (ev a) (ev b) k:=rfl
@[simp ↓] theorem yyo {a b : X} : yY P (.scat a b) ev ob k = ye1 (ev a) (ev b) k:=rfl
@[simp ↓] theorem val_sls {x : X} {lo hi : Option X} : yY P (.sls x lo hi) ev ob k = yhx (ev x) (lo.map ev) (hi.map ev) k:=rfl
@[simp ↓] theorem val_bit {o : BinOp} {a b : X} : yY P (.bit o a b) ev ob k = yfu o (ev a) (ev b) k:=rfl
@[simp ↓] theorem yye {o : BinOp} {a b : X} : yY P (.binu o a b) ev ob k = ycb o (ev a) (ev b) k:=rfl
@[simp ↓] theorem yz8 {o : BinOp} {a b : X} : yY P (.binw o a b) ev ob k = yeP o (ev a) (ev b) k:=rfl
@[simp ↓] theorem val_mkf {f : Nat} {xs : List X} : yY P (.mkf f xs) ev ob k = ((xs.map ev).all AV.yS = true ∧ k (.fn f (xs.map ev))):=rfl
@[simp ↓] theorem val_mv {x : X} : yY P (.mv x) ev ob k = k (ev x):=rfl
@[simp ↓] theorem yAt {a b c : X} : yY P (.pick a b c) ev ob k = ydm (ev a) (ev b) (ev c) k:=rfl
@[simp ↓] theorem val_bin {o : BinOp} {a b : X} : yY P (.bin o a b) ev ob k = yjn o (ev a) (ev b) k:=rfl
@[simp ↓] theorem val_beq {o : Bool} {a b : X} : yY P (.beq o a b) ev ob k = yia o (ev a) (ev b) k:=rfl
@[simp ↓] theorem val_not {a : X} : yY P (.not a) ev ob k = notP (ev a) k:=rfl
@[simp ↓] theorem val_neg {a : X} : yY P (.neg a) ev ob k = yiO (ev a) k:=rfl
@[simp ↓] theorem val_idx {n : Nat} {a b : X} : yY P (.idx n a b) ev ob k = yeV n (yba ob) (ev a) (ev b) k:=rfl
@[simp ↓] theorem val_ida {m n : Nat} {a b : X} : yY P (.ida m n a b) ev ob k = yiN m n (ev a) (ev b) k:=rfl
@[simp ↓] theorem val_fld {n : Nat} {a : X} : yY P (.fld n a) ev ob k = yfl n (yba ob) (ev a) k:=rfl
@[simp ↓] theorem val_ld1 {a : X} : yY P (.ld1 a) ev ob k = yeC (yba ob) (ev a) k:=rfl
@[simp ↓] theorem val_ldn {n : Nat} {a : X} : yY P (.ldn n a) ev ob k = yej n (yba ob) (ev a) k:=rfl
@[simp ↓] theorem val_slc {n : Nat} {x : X} {lo hi m : Option X} : yY P (.slc n x lo hi m) ev ob k = yed n (ev x) (lo.map ev) (hi.map ev) (m.map ev) k:=rfl
@[simp ↓] theorem val_sla {m n : Nat} {x h : X} : yY P (.sla m n x h) ev ob k = yhu m n (yba ob) (ev x) (ev h) k:=rfl
@[simp ↓] theorem val_len {x : X} : yY P (.len x) ev ob k = yek (yba ob) (ev x) k:=rfl
@[simp ↓] theorem yzF {x : X} : yY P (.slen x) ev ob k = yfy (ev x) k:=rfl
@[simp ↓] theorem val_mn {xs : List X} : yY P (.mn xs) ev ob k = mmP (fun x y=>if y < x then y else x) (xs.map ev) k:=rfl
@[simp ↓] theorem val_mx {xs : List X} : yY P (.mx xs) ev ob k = mmP (fun x y=>if x < y then y else x) (xs.map ev) k:=rfl
@[simp ↓] theorem val_ext {n : Nat} {x : X} : yY P (.ext n x) ev ob k = yic n (ev x) k:=rfl
@[simp ↓] theorem yAM {f : Nat} {xs : List X} : yY P (.call f xs) ev ob k = ypN P f (xs.map ev) ob k ⟨⟩:=rfl
@[simp ↓] theorem val_bld {zs : List AV} {ps : List (Nat × Nat × X)} : yY P (.bld zs ps) ev ob k = ycG ⟨fun t=>ev (.t t),ob⟩ ps zs fun l=>k (.agg l):=rfl
@[simp ↓] theorem yxp {f : X} {xs : List X} : yY P (.callv f xs) ev ob k = yen P (ev f) (xs.map ev) ob k:=rfl
@[simp ↓] theorem step_bad : yA P d .bad s K = False:=rfl
@[simp ↓] theorem val_ixs {x i : X} : yY P (.ixs x i) ev ob k = yjq (ev x) (ev i) k:=rfl
end
@[simp] theorem ev_t {s : St} {n : Nat} : s.ev (.t n) = s.env n:=rfl
@[simp] theorem ev_k {s : St} {a : AV} : s.ev (.k a) = a:=rfl
@[simp] theorem yzB {s : St} {v : AV} : s.put none v = s:=rfl
@[simp] theorem put_env {s : St} {d t : Nat} {v : AV} : (s.put (some d) v).env t = if t = d then v else s.env t:=rfl
attribute [simp] yad
@[simp] theorem put_ob {s : St} {d : Option Nat} {id : Nat} {v : AV} : (s.put d v).ob id = s.ob id:=by cases d <;> rfl
@[simp] theorem yvp {s : St} {id t : Nat} {o : Obj} : (s.yP id o).env t = s.env t:=rfl
@[simp] theorem yAz {s : St} {id i : Nat} {o : Obj} : (s.yP id o).ob i = if i = id then o else s.ob i:=rfl
@[simp] theorem ytd {s : St} {id i : Nat} {o : Obj} : (s.yP id o).objs i = if i = id then o else s.objs i:=rfl
@[simp] theorem yvs {s : St} {id t : Nat} {o : Obj} : (s.renew id o).env t = (s.env t).kill id:=rfl
@[simp] theorem yyQ {s : St} {id i : Nat} {o : Obj} : (s.renew id o).ob i = if i = id then o else (s.ob i).kill id:=rfl
@[simp] theorem yud {s : St} {id i : Nat} {o : Obj} : (s.renew id o).objs i = if i = id then o else (s.objs i).kill id:=rfl
@[simp] theorem obSt_ob {f : Nat → Obj} {i : Nat} : (yba f).ob i = f i:=rfl
@[simp] theorem objs_ob {s : St} {i : Nat} : s.objs i = s.ob i:=rfl
@[simp] theorem yzQ {L : List (Nat × AV)} {O : List (Nat × Obj)} {t : Nat} : (yaV L O).env t = look .any L t:=rfl
@[simp] theorem stOf_ob {L : List (Nat × AV)} {O : List (Nat × Obj)} {t : Nat} : (yaV L O).ob t = look .none O t:=rfl
@[simp] theorem ytP {l : List AV} {t : Nat} : (yhv l).env t = (l[t]?).getD .any:=rfl
@[simp] theorem yvh {l : List AV} {t : Nat} : (yhv l).ob t = .none:=rfl
@[simp] theorem mk_env {e : Nat → AV} {o : Nat → Obj} {t : Nat} : (St.mk e o).env t = e t:=rfl
@[simp] theorem mk_ob {e : Nat → AV} {o : Nat → Obj} {t : Nat} : (St.mk e o).ob t = o t:=rfl
@[simp] theorem look_nil {α : Type} {d : α} {t : Nat} : look d [] t = d:=rfl
@[simp] theorem yta {α : Type} {d v : α} {k t : Nat} {l : List (Nat × α)} : look d ((k,v) :: l) t = if t = k then v else look d l t:=rfl
@[simp] theorem upd_app {α : Type} {k : Nat} {v : α} {f : Nat → α} {n : Nat} : upd k v f n = if n = k then v else f n:=rfl
@[simp] theorem isNone_none : Obj.none.isNone = true:=rfl
@[simp] theorem yuf {l : List AV} : (Obj.box l).isNone = false:=rfl
@[simp] theorem ysO {k : Nat} {l : List (List C)} : (Obj.row k l).isNone = false:=rfl
@[simp] theorem yvw {k v : Nat} {l : List (List C)} : (Obj.tr k v l).isNone = false:=rfl
@[simp] theorem yzq {s : St} {id t : Nat} : (s.drop id).env t = (s.env t).kill id:=rfl
@[simp] theorem drop_ob {s : St} {id i : Nat} : (s.drop id).ob i = if i = id then .none else (s.ob i).kill id:=rfl
@[simp] theorem ywH {s : St} {id i : Nat} : (s.drop id).objs i = if i = id then .none else (s.ob i).kill id:=rfl
@[simp] theorem yvY {s : St} : s.drops [] = s:=rfl
@[simp] theorem ytw {s : St} {i : Nat} {l : List Nat} : s.drops (i :: l) = (s.drop i).drops l:=rfl
@[simp ↓] theorem ywa {s : St} {d : Nat} {o : Obj} {v : Nat → AV} {K : St → Prop} : newP s (some d) o v K = ((s.ob d).isNone = true ∧ K ((s.yP d o).put (some d) (v d))):=rfl
@[simp] theorem pickP_t {a b : AV} {k : AV → Prop} : ydm (.c (.b true)) a b k = k a:=by
 unfold ydm; simp only; split <;> simp
@[simp] theorem pickP_f {a b : AV} {k : AV → Prop} : ydm (.c (.b false)) a b k = k b:=by
 unfold ydm; simp only; split <;> simp
@[simp] theorem ywy {t x y : Bool} {k : AV → Prop} : ydm (.c (.b t)) (.c (.b x)) (.c (.b y)) k = k (.c (.b (cond t x y))):=rfl
@[simp] theorem binP_ii {o : BinOp} {a b : Int} {k : AV → Prop} : yjn o (.c (.i a)) (.c (.i b)) k = ygB o a b k:=rfl
@[simp] theorem yy7 {a b : Int} {k : AV → Prop} : ygB .add a b k = (inI (a + b) ∧ k (.c (.i (a + b)))):=rfl
@[simp] theorem yAv {a b : Int} {k : AV → Prop} : ygB .sub a b k = (inI (a - b) ∧ k (.c (.i (a - b)))):=rfl
@[simp] theorem yyC {a b : Int} {k : AV → Prop} : ygB .mul a b k = (inI (a * b) ∧ k (.c (.i (a * b)))):=rfl
@[simp] theorem yyA {a b : Int} {k : AV → Prop} : ygB .quo a b k = (b ≠ 0 ∧ inI (a.tdiv b) ∧ k (.c (.i (a.tdiv b)))):=rfl
@[simp] theorem yzJ {a b : Int} {k : AV → Prop} : ygB .rem a b k = (b ≠ 0 ∧ inI (a.tmod b) ∧ k (.c (.i (a.tmod b)))):=rfl
@[simp] theorem yyr {a b : Int} {k : AV → Prop} : ygB .eql a b k = k (.c (.b (decide (a = b)))):=rfl
@[simp] theorem yyc {a b : Int} {k : AV → Prop} : ygB .neq a b k = k (.c (.b (!decide (a = b)))):=rfl
@[simp] theorem yz7 {a b : Int} {k : AV → Prop} : ygB .lss a b k = k (.c (.b (decide (a < b)))):=rfl
@[simp] theorem yyf {a b : Int} {k : AV → Prop} : ygB .leq a b k = k (.c (.b (decide (a ≤ b)))):=rfl
@[simp] theorem yzz {a b : Int} {k : AV → Prop} : ygB .gtr a b k = k (.c (.b (decide (b < a)))):=rfl
@[simp] theorem yAN {a b : Int} {k : AV → Prop} : ygB .geq a b k = k (.c (.b (decide (b ≤ a)))):=rfl
@[simp] theorem beqP_ff {a b : Bool} {k : AV → Prop} : yia false (.c (.b a)) (.c (.b b)) k = k (.c (.b (decide (a = b)))):=rfl
@[simp] theorem beqP_tt {a b : Bool} {k : AV → Prop} : yia true (.c (.b a)) (.c (.b b)) k = k (.c (.b (!decide (a = b)))):=rfl
@[simp] theorem notP_b {a : Bool} {k : AV → Prop} : notP (.c (.b a)) k = k (.c (.b !a)):=rfl
@[simp] theorem negP_i {a : Int} {k : AV → Prop} : yiO (.c (.i a)) k = (inI (-a) ∧ k (.c (.i (-a)))):=rfl
@[simp] theorem isnP_sl {n : Nat} {rows : List (List C)} {k : AV → Prop} : yld (.c (.sl n rows)) k = ∀ v : Bool,(v = true → rows = []) → k (.c (.b v)):=rfl
@[simp] theorem yAu {n : Nat} {k : AV → Prop} : yld (.nil n) k = k (.c (.b true)):=rfl
@[simp] theorem yyE {id q n : Nat} {k : AV → Prop} : yld (.own id q n) k = ∀ v : Bool,(v = true → n = 0) → k (.c (.b v)):=rfl
@[simp] theorem idxP_sl {m m' : Nat} {rows : List (List C)} {n : Int} {s : St} {k : AV → Prop} : yeV m s (.c (.sl m' rows)) (.c (.i n)) k = (m' = m ∧ 0 ≤ n ∧ n < rows.length ∧ k (.elt (rows.getD n.toNat []))):=rfl
@[simp] theorem yvm {m m' : Nat} {rows : List (List C)} {n : Int} {s : St} {k : AV → Prop} : yeV m s (.clip m' rows) (.c (.i n)) k = (m' = m ∧ 0 ≤ n ∧ n < rows.length ∧ k (.elt (rows.getD n.toNat []))):=rfl
@[simp] theorem yzS {id m m' r : Nat} {n : Int} {s : St} {k : AV → Prop} : yeV m s (.own id m' r) (.c (.i n)) k = (m' = m ∧ 0 ≤ n ∧ n < (r : Int) ∧ k (.row id m n 0)):=rfl
@[simp] theorem yzl {id m m' lo r : Nat} {n : Int} {s : St} {k : AV → Prop} : yeV m s (.cut id m' lo r) (.c (.i n)) k = (m' = m ∧ 0 ≤ n ∧ n < (r : Int) ∧ k (.row id m (lo + n) 0)):=rfl
def yn9 (m : Nat) (id ver : Nat) (i : Int) (j m' r : Nat) (n : Int) (k : AV → Prop) : Obj → Prop
 | .tr _ ver' _=>ver' = ver ∧ m' = m ∧ 0 ≤ n ∧ n < (r : Int) ∧ k (.ya4 id ver i j m n 0)
 | _=>False
@[congr] theorem ywZ {m id ver : Nat} {i : Int} {j m' r : Nat} {n : Int} {k : AV → Prop} {a a' : Obj} (h : a = a') : yn9 m id ver i j m' r n k a = yn9 m id ver i j m' r n k a':=by rw [h]
@[simp] theorem yzT {m id ver : Nat} {i : Int} {j m' r : Nat} {n : Int} {s : St} {k : AV → Prop} : yeV m s (.sub id ver i j m' r) (.c (.i n)) k = yn9 m id ver i j m' r n k (s.ob id):=by first | rfl | (simp only [yeV,yn9]; done) | (simp only [yeV,yn9]; rfl)
@[simp] theorem idxT_tr {m id ver k0 ver' : Nat} {i : Int} {j m' r : Nat} {n : Int} {rows : List (List C)} {k : AV → Prop} : yn9 m id ver i j m' r n k (.tr k0 ver' rows) = (ver' = ver ∧ m' = m ∧ 0 ≤ n ∧ n < (r : Int) ∧ k (.ya4 id ver i j m n 0)):=rfl
@[simp] theorem yzO {id m m' n : Nat} {j q : Int} {k : AV → Prop} : yiN m n (.row id m' j 0) (.c (.i q)) k = (m' = m ∧ j = 0 ∧ 0 ≤ q ∧ q < (n : Int) ∧ k (.row id m q 0)):=rfl
@[simp] theorem yAJ {off id o : Nat} {s : St} {k : AV → Prop} : yfl off s (.box id o) k = k (.box id (o + off)):=rfl
@[simp] theorem yyL {off id m o : Nat} {i : Int} {s : St} {k : AV → Prop} : yfl off s (.row id m i o) k = k (.row id m i (o + off)):=rfl
@[simp] theorem yx2 {off : Nat} {cs : List C} {s : St} {k : AV → Prop} : yfl off s (.elt cs) k = k (.elt (cs.drop off)):=rfl
def yo5 (off id ver : Nat) (i : Int) (j q : Nat) (i' : Int) (o : Nat) (k : AV → Prop) : Obj → Prop
 | .tr _ ver' _=>ver' = ver ∧ k (.ya4 id ver i j q i' (o + off))
 | _=>False
@[congr] theorem yxA {off id ver : Nat} {i : Int} {j q : Nat} {i' : Int} {o : Nat} {k : AV → Prop} {a a' : Obj} (h : a = a') : yo5 off id ver i j q i' o k a = yo5 off id ver i j q i' o k a':=by rw [h]
@[simp] theorem yxn {off id ver : Nat} {i : Int} {j q : Nat} {i' : Int} {o : Nat} {s : St} {k : AV → Prop} : yfl off s (.ya4 id ver i j q i' o) k = yo5 off id ver i j q i' o k (s.ob id):=by first | rfl | (simp only [yfl,yo5]; done) | (simp only [yfl,yo5]; rfl)
@[simp] theorem fldT_tr {off id ver k0 ver' : Nat} {i : Int} {j q : Nat} {i' : Int} {o : Nat} {rows : List (List C)} {k : AV → Prop} : yo5 off id ver i j q i' o k (.tr k0 ver' rows) = (ver' = ver ∧ k (.ya4 id ver i j q i' (o + off))):=rfl
@[simp] theorem av_i {id ver : Nat} {i : Int} {j : Nat} {n : Int} : (C.i n).av id ver i j = .c (.i n):=rfl
@[simp] theorem av_b {id ver : Nat} {i : Int} {j : Nat} {n : Bool} : (C.b n).av id ver i j = .c (.b n):=rfl
@[simp] theorem av_u {id ver : Nat} {i : Int} {j : Nat} {n : Nat} : (C.u n).av id ver i j = .c (.u n):=rfl
@[simp] theorem av_q {id ver : Nat} {i : Int} {j : Nat} {n : Nat} : (C.q n).av id ver i j = .c (.q n):=rfl
@[simp] theorem av_s {id ver : Nat} {i : Int} {j : Nat} {n : ByteArray} : (C.s n).av id ver i j = .c (.s n):=rfl
@[simp] theorem av_sl {id ver : Nat} {i : Int} {j k : Nat} {r : List (List C)} : (C.sl k r).av id ver i j = .c (.sl k r):=rfl
@[simp] theorem av_ow {id ver : Nat} {i : Int} {j k : Nat} {r : List (List C)} : (C.ow k r).av id ver i j = .sub id ver i j k r.length:=rfl
@[simp] theorem av_ot {id ver : Nat} {i : Int} {j k : Nat} {r : List (List C)} : (C.ot k r).av id ver i j = .sub id ver i j k r.length:=rfl
@[simp] theorem av_jk {id ver : Nat} {i : Int} {j : Nat} : C.jk.av id ver i j = .any:=rfl
@[simp] theorem av2_i {n : Int} : (C.i n).av2 = .c (.i n):=rfl
@[simp] theorem av2_b {n : Bool} : (C.b n).av2 = .c (.b n):=rfl
@[simp] theorem av2_u {n : Nat} : (C.u n).av2 = .c (.u n):=rfl
@[simp] theorem av2_q {n : Nat} : (C.q n).av2 = .c (.q n):=rfl
@[simp] theorem av2_s {n : ByteArray} : (C.s n).av2 = .c (.s n):=rfl
@[simp] theorem av2_sl {k : Nat} {r : List (List C)} : (C.sl k r).av2 = .c (.sl k r):=rfl
@[simp] theorem avs_nil {id ver : Nat} {i : Int} {j : Nat} : avs id ver i j [] = []:=rfl
@[simp] theorem yyy {id ver : Nat} {i : Int} {j : Nat} {c : C} {l : List C} : avs id ver i j (c :: l) = c.av id ver i j :: avs id ver i (j + 1) l:=rfl
@[simp] theorem yve {rows : List (List C)} {i j : Nat} : cellAt rows i j = (rows[i]?).bind (·[j]?):=by unfold cellAt; cases rows[i]? <;> rfl
@[simp] theorem yyF {s : St} {x : C} {cs : List C} {k : AV → Prop} : yeC s (.elt (x :: cs)) k = k (.c x):=rfl
@[simp] theorem yzP {n : Nat} {s : St} {cs : List C} {k : AV → Prop} : yej n s (.elt cs) k = (n ≤ cs.length ∧ k (.agg ((cs.take n).map .c))):=rfl
def ykx (k : AV → Prop) (o : Nat) : Obj → Prop
 | .box cells=>match cells[o]? with
  | some v=>k v
  | none=>False
 | _=>False
@[congr] theorem yuZ {o : Nat} {a a' : Obj} {k : AV → Prop} (h : a = a') : ykx k o a = ykx k o a':=by rw [h]
@[simp] theorem yxK {s : St} {id o : Nat} {k : AV → Prop} : yeC s (.box id o) k = ykx k o (s.ob id):=rfl
def yl6 (k : AV → Prop) : Option AV → Prop | some v=>k v | none=>False
@[congr] theorem yvA {a a' : Option AV} {k : AV → Prop} (h : a = a') : yl6 k a = yl6 k a':=by rw [h]
@[simp] theorem ywr {v : AV} {k : AV → Prop} : yl6 k (some v) = k v:=rfl
@[simp] theorem ywj {o : Nat} {cells : List AV} {k : AV → Prop} : ykx k o (.box cells) = yl6 k cells[o]?:=by first | rfl | (simp only [ykx,yl6]; done) | (simp only [ykx,yl6]; rfl)
def ykQ (k : AV → Prop) (n o : Nat) : Obj → Prop
 | .box cells=>o + n ≤ cells.length ∧ k (.agg ((cells.drop o).take n))
 | _=>False
@[congr] theorem ysx {n o : Nat} {a a' : Obj} {k : AV → Prop} (h : a = a') : ykQ k n o a = ykQ k n o a':=by rw [h]
@[simp] theorem yzc {s : St} {id o n : Nat} {k : AV → Prop} : yej n s (.box id o) k = ykQ k n o (s.ob id):=rfl
@[simp] theorem ytg {n o : Nat} {cells : List AV} {k : AV → Prop} : ykQ k n o (.box cells) = (o + n ≤ cells.length ∧ k (.agg ((cells.drop o).take n))):=rfl
def yiZ (k : AV → Prop) (m : Nat) (i : Int) (o id : Nat) : Obj → Prop
 | .row k' rows=>k' = m ∧ i.toNat < rows.length ∧ o < m ∧ k (.c ((rows.getD i.toNat []).getD o default))
 | .tr k' ver rows=>k' = m ∧ i.toNat < rows.length ∧ o < m ∧ k (((rows.getD i.toNat []).getD o default).av id ver i o)
 | _=>False
@[congr] theorem yul {m o id : Nat} {i : Int} {a a' : Obj} {k : AV → Prop} (h : a = a') : yiZ k m i o id a = yiZ k m i o id a':=by rw [h]
@[simp] theorem yyg {s : St} {id m o : Nat} {i : Int} {k : AV → Prop} : yeC s (.row id m i o) k = yiZ k m i o id (s.ob id):=by first | rfl | (simp only [yeC,yiZ]; done) | (simp only [yeC,yiZ]; rfl)
@[simp] theorem yx6 {m m' ver o id : Nat} {i : Int} {rows : List (List C)} {k : AV → Prop} : yiZ k m i o id (.tr m' ver rows) = (m' = m ∧ i.toNat < rows.length ∧ o < m ∧ k (((rows.getD i.toNat []).getD o default).av id ver i o)):=rfl
@[simp] theorem yv2 {m m' o id : Nat} {i : Int} {rows : List (List C)} {k : AV → Prop} : yiZ k m i o id (.row m' rows) = (m' = m ∧ i.toNat < rows.length ∧ o < m ∧ k (.c ((rows.getD i.toNat []).getD o default))):=rfl
def ygH (k : AV → Prop) (n m : Nat) (i : Int) (o id : Nat) : Obj → Prop
 | .row k' rows=>k' = m ∧ i.toNat < rows.length ∧ o + n ≤ m ∧ k (.agg ((((rows.getD i.toNat []).drop o).take n).map .c))
 | .tr k' ver rows=>k' = m ∧ i.toNat < rows.length ∧ o + n ≤ m ∧ k (.agg (avs id ver i o (((rows.getD i.toNat []).drop o).take n)))
 | _=>False
@[congr] theorem yr5 {n m o id : Nat} {i : Int} {a a' : Obj} {k : AV → Prop} (h : a = a') : ygH k n m i o id a = ygH k n m i o id a':=by rw [h]
@[simp] theorem yAh {s : St} {id m o n : Nat} {i : Int} {k : AV → Prop} : yej n s (.row id m i o) k = ygH k n m i o id (s.ob id):=by first | rfl | (simp only [yej,ygH]; done) | (simp only [yej,ygH]; rfl)
@[simp] theorem ywF {n m m' ver o id : Nat} {i : Int} {rows : List (List C)} {k : AV → Prop} : ygH k n m i o id (.tr m' ver rows) = (m' = m ∧ i.toNat < rows.length ∧ o + n ≤ m ∧ k (.agg (avs id ver i o (((rows.getD i.toNat []).drop o).take n)))):=rfl
def ylH (k : AV → Prop) (ver q : Nat) (i : Int) (j : Nat) (i' : Int) (o : Nat) : Obj → Prop
 | .tr _ ver' rows=>ver' = ver ∧ match cellAt rows i.toNat j with
  | some (.ow k' rs)=>k' = q ∧ i'.toNat < rs.length ∧ o < q ∧ k (.c ((rs.getD i'.toNat []).getD o default))
  | some (.ot k' rs)=>k' = q ∧ i'.toNat < rs.length ∧ o < q ∧ k ((rs.getD i'.toNat []).getD o default).av2
  | _=>False
 | _=>False
@[congr] theorem ywu {ver q : Nat} {i : Int} {j : Nat} {i' : Int} {o : Nat} {a a' : Obj} {k : AV → Prop} (h : a = a') : ylH k ver q i j i' o a = ylH k ver q i j i' o a':=by rw [h]
@[simp] theorem ywR {s : St} {id ver q : Nat} {i : Int} {j : Nat} {i' : Int} {o : Nat} {k : AV → Prop} : yeC s (.ya4 id ver i j q i' o) k = ylH k ver q i j i' o (s.ob id):=by first | rfl | (simp only [yeC,ylH]; done) | (simp only [yeC,ylH]; rfl)
def srC (k : AV → Prop) (q : Nat) (i' : Int) (o : Nat) : Option C → Prop
 | some (.ow k' rs)=>k' = q ∧ i'.toNat < rs.length ∧ o < q ∧ k (.c ((rs.getD i'.toNat []).getD o default))
 | some (.ot k' rs)=>k' = q ∧ i'.toNat < rs.length ∧ o < q ∧ k ((rs.getD i'.toNat []).getD o default).av2
 | _=>False
@[congr] theorem yxS {q : Nat} {i' : Int} {o : Nat} {a a' : Option C} {k : AV → Prop} (h : a = a') : srC k q i' o a = srC k q i' o a':=by rw [h]
@[simp] theorem srLd_tr {k0 ver' ver q : Nat} {i : Int} {j : Nat} {i' : Int} {o : Nat} {rows : List (List C)} {k : AV → Prop} : ylH k ver q i j i' o (.tr k0 ver' rows) = (ver' = ver ∧ srC k q i' o (cellAt rows i.toNat j)):=by first | rfl | (simp only [ylH,srC]; done) | (simp only [ylH,srC]; rfl)
@[simp] theorem srC_ow {k' q : Nat} {i' : Int} {o : Nat} {rs : List (List C)} {k : AV → Prop} : srC k q i' o (some (.ow k' rs)) = (k' = q ∧ i'.toNat < rs.length ∧ o < q ∧ k (.c ((rs.getD i'.toNat []).getD o default))):=rfl
@[simp] theorem srC_ot {k' q : Nat} {i' : Int} {o : Nat} {rs : List (List C)} {k : AV → Prop} : srC k q i' o (some (.ot k' rs)) = (k' = q ∧ i'.toNat < rs.length ∧ o < q ∧ k ((rs.getD i'.toNat []).getD o default).av2):=rfl
def yh1 (k : AV → Prop) (n ver q : Nat) (i : Int) (j : Nat) (i' : Int) (o : Nat) : Obj → Prop
 | .tr _ ver' rows=>ver' = ver ∧ match cellAt rows i.toNat j with
  | some (.ow k' rs)=>k' = q ∧ i'.toNat < rs.length ∧ o + n ≤ q ∧ k (.agg ((((rs.getD i'.toNat []).drop o).take n).map .c))
  | some (.ot k' rs)=>k' = q ∧ i'.toNat < rs.length ∧ o + n ≤ q ∧ k (.agg ((((rs.getD i'.toNat []).drop o).take n).map C.av2))
  | _=>False
 | _=>False
@[congr] theorem ysX {n ver q : Nat} {i : Int} {j : Nat} {i' : Int} {o : Nat} {a a' : Obj} {k : AV → Prop} (h : a = a') : yh1 k n ver q i j i' o a = yh1 k n ver q i j i' o a':=by rw [h]
@[simp] theorem ywB {s : St} {n id ver q : Nat} {i : Int} {j : Nat} {i' : Int} {o : Nat} {k : AV → Prop} : yej n s (.ya4 id ver i j q i' o) k = yh1 k n ver q i j i' o (s.ob id):=by first | rfl | (simp only [yej,yh1]; done) | (simp only [yej,yh1]; rfl)
def ynr (k : AV → Prop) (n q : Nat) (i' : Int) (o : Nat) : Option C → Prop
 | some (.ow k' rs)=>k' = q ∧ i'.toNat < rs.length ∧ o + n ≤ q ∧ k (.agg ((((rs.getD i'.toNat []).drop o).take n).map .c))
 | some (.ot k' rs)=>k' = q ∧ i'.toNat < rs.length ∧ o + n ≤ q ∧ k (.agg ((((rs.getD i'.toNat []).drop o).take n).map C.av2))
 | _=>False
@[congr] theorem ywM {n q : Nat} {i' : Int} {o : Nat} {a a' : Option C} {k : AV → Prop} (h : a = a') : ynr k n q i' o a = ynr k n q i' o a':=by rw [h]
@[simp] theorem yze {n k0 ver' ver q : Nat} {i : Int} {j : Nat} {i' : Int} {o : Nat} {rows : List (List C)} {k : AV → Prop} : yh1 k n ver q i j i' o (.tr k0 ver' rows) = (ver' = ver ∧ ynr k n q i' o (cellAt rows i.toNat j)):=by first | rfl | (simp only [yh1,ynr]; done) | (simp only [yh1,ynr]; rfl)
@[simp] theorem srCn_ow {n k' q : Nat} {i' : Int} {o : Nat} {rs : List (List C)} {k : AV → Prop} : ynr k n q i' o (some (.ow k' rs)) = (k' = q ∧ i'.toNat < rs.length ∧ o + n ≤ q ∧ k (.agg ((((rs.getD i'.toNat []).drop o).take n).map .c))):=rfl
@[simp] theorem srCn_ot {n k' q : Nat} {i' : Int} {o : Nat} {rs : List (List C)} {k : AV → Prop} : ynr k n q i' o (some (.ot k' rs)) = (k' = q ∧ i'.toNat < rs.length ∧ o + n ≤ q ∧ k (.agg ((((rs.getD i'.toNat []).drop o).take n).map C.av2))):=rfl
@[simp] theorem ytC {n m m' o id : Nat} {i : Int} {rows : List (List C)} {k : AV → Prop} : ygH k n m i o id (.row m' rows) = (m' = m ∧ i.toNat < rows.length ∧ o + n ≤ m ∧ k (.agg ((((rows.getD i.toNat []).drop o).take n).map .c))):=rfl
def yns (K : St → Prop) (s : St) (id o : Nat) (v : AV) : Obj → Prop
 | .box cells=>o < cells.length ∧ v.yS = true ∧ K (s.yP id (.box (cells.set o v)))
 | _=>False
@[congr] theorem yuq {s : St} {id o : Nat} {v : AV} {a a' : Obj} {K : St → Prop} (h : a = a') : yns K s id o v a = yns K s id o v a':=by rw [h]
@[simp] theorem yAC {s : St} {id o : Nat} {v : AV} {K : St → Prop} : yex s (.box id o) v K = yns K s id o v (s.ob id):=rfl
@[simp] theorem yvX {s : St} {id o : Nat} {v : AV} {cells : List AV} {K : St → Prop} : yns K s id o v (.box cells) = (o < cells.length ∧ v.yS = true ∧ K (s.yP id (.box (cells.set o v)))):=rfl
def ye2 (K : St → Prop) (s : St) (id m : Nat) (i : Int) (o : Nat) (v : AV) : Obj → Prop
 | .row k' rows=>match v.toC with
  | some c=>k' = m ∧ i.toNat < rows.length ∧ o < m ∧ K (s.yP id (.row m (rows.set i.toNat ((rows.getD i.toNat []).set o c))))
  | none=>False
 | .tr k' ver rows=>match pk1 s v with
  | some (c,ids)=>k' = m ∧ i.toNat < rows.length ∧ o < m ∧ ids.Nodup ∧ id ∉ ids ∧ K ((s.drops ids).yP id (.tr m (ver + 1) (setAt rows i.toNat o c)))
  | none=>False
 | _=>False
@[congr] theorem ytr {s : St} {id m o : Nat} {i : Int} {v : AV} {a a' : Obj} {K : St → Prop} (h : a = a') : ye2 K s id m i o v a = ye2 K s id m i o v a':=by rw [h]
@[simp] theorem yAb {s : St} {id m o : Nat} {i : Int} {v : AV} {K : St → Prop} : yex s (.row id m i o) v K = ye2 K s id m i o v (s.ob id):=by first | rfl | (simp only [yex,ye2]; done) | (simp only [yex,ye2]; rfl)
@[simp] theorem ywt {s : St} {id m m' o : Nat} {i : Int} {c : C} {rows : List (List C)} {K : St → Prop} : ye2 K s id m i o (.c c) (.row m' rows) = (m' = m ∧ i.toNat < rows.length ∧ o < m ∧ K (s.yP id (.row m (rows.set i.toNat ((rows.getD i.toNat []).set o c))))):=rfl
@[simp] theorem yuB {s : St} {id m m' o n : Nat} {i : Int} {rows : List (List C)} {K : St → Prop} : ye2 K s id m i o (.nil n) (.row m' rows) = (m' = m ∧ i.toNat < rows.length ∧ o < m ∧ K (s.yP id (.row m (rows.set i.toNat ((rows.getD i.toNat []).set o (.sl n [])))))):=rfl
@[simp] theorem ysG {s : St} {id m m' o n : Nat} {i : Int} {rows r : List (List C)} {K : St → Prop} : ye2 K s id m i o (.clip n r) (.row m' rows) = (m' = m ∧ i.toNat < rows.length ∧ o < m ∧ K (s.yP id (.row m (rows.set i.toNat ((rows.getD i.toNat []).set o (.sl n r)))))):=rfl
def yoH (K : St → Prop) (s : St) (id m : Nat) (i : Int) (o m' ver : Nat) (rows : List (List C)) : Option (C × List Nat) → Prop
 | some (c,ids)=>m' = m ∧ i.toNat < rows.length ∧ o < m ∧ ids.Nodup ∧ id ∉ ids ∧ K ((s.drops ids).yP id (.tr m (ver + 1) (setAt rows i.toNat o c)))
 | none=>False
@[congr] theorem yw0 {s : St} {id m m' ver o : Nat} {i : Int} {rows : List (List C)} {K : St → Prop} {a a' : Option (C × List Nat)} (h : a = a') : yoH K s id m i o m' ver rows a = yoH K s id m i o m' ver rows a':=by rw [h]
@[simp] theorem yyB {s : St} {id m m' ver o : Nat} {i : Int} {v : AV} {rows : List (List C)} {K : St → Prop} : ye2 K s id m i o v (.tr m' ver rows) = yoH K s id m i o m' ver rows (pk1 s v):=by first | rfl | (simp only [ye2,yoH]; done) | (simp only [ye2,yoH]; rfl)
@[simp] theorem yxf {s : St} {id m m' ver o : Nat} {i : Int} {rows : List (List C)} {c : C} {ids : List Nat} {K : St → Prop} : yoH K s id m i o m' ver rows (some (c,ids)) = (m' = m ∧ i.toNat < rows.length ∧ o < m ∧ ids.Nodup ∧ id ∉ ids ∧ K ((s.drops ids).yP id (.tr m (ver + 1) (setAt rows i.toNat o c)))):=rfl
@[simp] theorem plain_i {n : Int} : (C.i n).plain = true:=rfl
@[simp] theorem plain_b {n : Bool} : (C.b n).plain = true:=rfl
@[simp] theorem plain_u {n : Nat} : (C.u n).plain = true:=rfl
@[simp] theorem plain_q {n : Nat} : (C.q n).plain = true:=rfl
@[simp] theorem plain_s {n : ByteArray} : (C.s n).plain = true:=rfl
@[simp] theorem yyq {k : Nat} {r : List (List C)} : (C.sl k r).plain = true:=rfl
@[simp] theorem pk1_c {s : St} {x : C} : pk1 s (.c x) = if x.plain then some (x,[]) else none:=rfl
@[simp] theorem yyY {s : St} {k : Nat} {r : List (List C)} : pk1 s (.clip k r) = some (.sl k r,[]):=rfl
@[simp] theorem pk1_nil {s : St} {k : Nat} : pk1 s (.nil k) = some (.sl k [],[]):=rfl
def pkO (k id n : Nat) : Obj → Option (C × List Nat)
 | .row k' rows=>if k' = k then some (.ow k (rows.take n),[id]) else none
 | .tr k' _ rows=>if k' = k then some (.ot k (rows.take n),[id]) else none
 | _=>none
@[simp] theorem pk1_own {s : St} {id k n : Nat} : pk1 s (.own id k n) = pkO k id n (s.ob id):=by first | rfl | (simp only [pk1,pkO]; done) | (simp only [pk1,pkO]; rfl)
@[simp] theorem pkO_row {k id n k' : Nat} {rows : List (List C)} : pkO k id n (.row k' rows) = if k' = k then some (.ow k (rows.take n),[id]) else none:=rfl
@[simp] theorem pkO_tr {k id n k' ver : Nat} {rows : List (List C)} : pkO k id n (.tr k' ver rows) = if k' = k then some (.ot k (rows.take n),[id]) else none:=rfl
@[simp] theorem pkl_nil {s : St} : pkl s [] = some ([],[]):=rfl
@[simp] theorem yAp {s : St} {x : AV} {l : List AV} : pkl s (x :: l) = (pk1 s x).bind fun p=>(pkl s l).map fun q=>(p.1 :: q.1,p.2 ++ q.2):=by
 simp only [pkl]; cases pk1 s x <;> cases pkl s l <;> rfl
@[simp] theorem pkl_map {s : St} {l : List C} (h : l.all C.plain = true) : pkl s (l.map .c) = some (l,[]):=by
 induction l with
 | nil=>rfl
 | cons x l ih =>
  simp only [List.all_cons,Bool.and_eq_true] at h
  simp [ih h.2,h.1]
@[simp] theorem pks_nil {s : St} : pks s [] = some ([],[]):=rfl
@[simp] theorem yzC {s : St} {x : AV} {l : List AV} : pks s (x :: l) = (pkl s x.cellsOf).bind fun p=>(pks s l).map fun q=>(p.1 :: q.1,p.2 ++ q.2):=by
 simp only [pks]; cases pkl s x.cellsOf <;> cases pks s l <;> rfl
def ymf (K : St → Prop) (s : St) (id ver q : Nat) (i : Int) (j : Nat) (i' : Int) (o : Nat) (v : AV) : Obj → Prop
 | .tr k0 ver' rows=>ver' = ver ∧ match cellAt rows i.toNat j with
  | some (.ow k' rs)=>match v.toC with
   | some c=>k' = q ∧ i'.toNat < rs.length ∧ o < q ∧ K (s.yP id (.tr k0 (ver + 1) (setAt rows i.toNat j (.ow q (setAt rs i'.toNat o c)))))
   | none=>False
  | _=>False
 | _=>False
@[congr] theorem yvM {s : St} {id ver q : Nat} {i : Int} {j : Nat} {i' : Int} {o : Nat} {v : AV} {a a' : Obj} {K : St → Prop} (h : a = a') : ymf K s id ver q i j i' o v a = ymf K s id ver q i j i' o v a':=by rw [h]
@[simp] theorem yxI {s : St} {id ver q : Nat} {i : Int} {j : Nat} {i' : Int} {o : Nat} {v : AV} {K : St → Prop} : yex s (.ya4 id ver i j q i' o) v K = ymf K s id ver q i j i' o v (s.ob id):=by first | rfl | (simp only [yex,ymf]; done) | (simp only [yex,ymf]; rfl)
def ykH (K : St → Prop) (s : St) (id ver q k0 : Nat) (rows : List (List C)) (i : Int) (j : Nat) (i' : Int) (o : Nat) (c : C) : Option C → Prop
 | some (.ow k' rs)=>k' = q ∧ i'.toNat < rs.length ∧ o < q ∧ K (s.yP id (.tr k0 (ver + 1) (setAt rows i.toNat j (.ow q (setAt rs i'.toNat o c)))))
 | _=>False
@[congr] theorem ysU {s : St} {id ver q k0 : Nat} {rows : List (List C)} {i : Int} {j : Nat} {i' : Int} {o : Nat} {c : C} {K : St → Prop} {a a' : Option C} (h : a = a') : ykH K s id ver q k0 rows i j i' o c a = ykH K s id ver q k0 rows i j i' o c a':=by rw [h]
@[simp] theorem srSt_tr {s : St} {id ver q k0 ver' : Nat} {i : Int} {j : Nat} {i' : Int} {o : Nat} {c : C} {rows : List (List C)} {K : St → Prop} : ymf K s id ver q i j i' o (.c c) (.tr k0 ver' rows) = (ver' = ver ∧ ykH K s id ver q k0 rows i j i' o c (cellAt rows i.toNat j)):=by first | rfl | (simp only [ymf,ykH,AV.toC]; done) | (simp only [ymf,ykH,AV.toC]; rfl)
@[simp] theorem yzu {s : St} {id ver q k0 k' : Nat} {rows rs : List (List C)} {i : Int} {j : Nat} {i' : Int} {o : Nat} {c : C} {K : St → Prop} : ykH K s id ver q k0 rows i j i' o c (some (.ow k' rs)) = (k' = q ∧ i'.toNat < rs.length ∧ o < q ∧ K (s.yP id (.tr k0 (ver + 1) (setAt rows i.toNat j (.ow q (setAt rs i'.toNat o c)))))):=rfl
def yk3 (K : St → Prop) (s : St) (id o n : Nat) (l : List AV) : Obj → Prop
 | .box cells=>o + n ≤ cells.length ∧ l.all AV.yS = true ∧ K (s.yP id (.box (cells.take o ++ l ++ cells.drop (o + n))))
 | _=>False
@[congr] theorem yrY {s : St} {id o n : Nat} {l : List AV} {a a' : Obj} {K : St → Prop} (h : a = a') : yk3 K s id o n l a = yk3 K s id o n l a':=by rw [h]
@[simp] theorem yx8 {s : St} {id o n : Nat} {l : List AV} {K : St → Prop} : ygt n s (.box id o) (.agg l) K = (l.length = n ∧ yk3 K s id o n l (s.ob id)):=rfl
@[simp] theorem yuC {s : St} {id o n : Nat} {l cells : List AV} {K : St → Prop} : yk3 K s id o n l (.box cells) = (o + n ≤ cells.length ∧ l.all AV.yS = true ∧ K (s.yP id (.box (cells.take o ++ l ++ cells.drop (o + n))))):=rfl
def ydh (K : St → Prop) (s : St) (id m : Nat) (i : Int) (o n : Nat) (l : List AV) : Obj → Prop
 | .row k' rows=>match AV.yb8 l with
  | some cs=>k' = m ∧ i.toNat < rows.length ∧ o + n ≤ m ∧ K (s.yP id (.row m (rows.set i.toNat ((rows.getD i.toNat []).take o ++ cs ++ (rows.getD i.toNat []).drop (o + n)))))
  | none=>False
 | .tr k' ver rows=>match pkl s l with
  | some (cs,ids)=>k' = m ∧ i.toNat < rows.length ∧ o + n ≤ m ∧ ids.Nodup ∧ id ∉ ids ∧ K ((s.drops ids).yP id (.tr m (ver + 1) (rows.set i.toNat ((rows.getD i.toNat []).take o ++ cs ++ (rows.getD i.toNat []).drop (o + n)))))
  | none=>False
 | _=>False
@[congr] theorem ysm {s : St} {id m o n : Nat} {i : Int} {l : List AV} {a a' : Obj} {K : St → Prop} (h : a = a') : ydh K s id m i o n l a = ydh K s id m i o n l a':=by rw [h]
@[simp] theorem yAL {s : St} {id m o n : Nat} {i : Int} {l : List AV} {K : St → Prop} : ygt n s (.row id m i o) (.agg l) K = (l.length = n ∧ ydh K s id m i o n l (s.ob id)):=by first | rfl | (simp only [ygt,ydh]; done) | (simp only [ygt,ydh]; rfl)
def yhm (K : St → Prop) (s : St) (id m : Nat) (i : Int) (o n m' : Nat) (rows : List (List C)) : Option (List C) → Prop
 | some cs=>m' = m ∧ i.toNat < rows.length ∧ o + n ≤ m ∧ K (s.yP id (.row m (rows.set i.toNat ((rows.getD i.toNat []).take o ++ cs ++ (rows.getD i.toNat []).drop (o + n)))))
 | none=>False
@[congr] theorem yst {s : St} {id m m' o n : Nat} {i : Int} {rows : List (List C)} {K : St → Prop} {a a' : Option (List C)} (h : a = a') : yhm K s id m i o n m' rows a = yhm K s id m i o n m' rows a':=by rw [h]
@[simp] theorem ytS {s : St} {id m m' o n : Nat} {i : Int} {l : List AV} {rows : List (List C)} {K : St → Prop} : ydh K s id m i o n l (.row m' rows) = yhm K s id m i o n m' rows (AV.yb8 l):=by first | rfl | (simp only [ydh,yhm]; done) | (simp only [ydh,yhm]; rfl)
@[simp] theorem yrQ {s : St} {id m m' o n : Nat} {i : Int} {cs : List C} {rows : List (List C)} {K : St → Prop} : yhm K s id m i o n m' rows (some cs) =
 (m' = m ∧ i.toNat < rows.length ∧ o + n ≤ m ∧ K (s.yP id (.row m (rows.set i.toNat ((rows.getD i.toNat []).take o ++ cs ++ (rows.getD i.toNat []).drop (o + n)))))):=rfl
def ykd (K : St → Prop) (s : St) (id m : Nat) (i : Int) (o n m' ver : Nat) (rows : List (List C)) : Option (List C × List Nat) → Prop
 | some (cs,ids)=>m' = m ∧ i.toNat < rows.length ∧ o + n ≤ m ∧ ids.Nodup ∧ id ∉ ids ∧ K ((s.drops ids).yP id (.tr m (ver + 1) (rows.set i.toNat ((rows.getD i.toNat []).take o ++ cs ++ (rows.getD i.toNat []).drop (o + n)))))
 | none=>False
@[congr] theorem yti {s : St} {id m m' ver o n : Nat} {i : Int} {rows : List (List C)} {K : St → Prop} {a a' : Option (List C × List Nat)} (h : a = a') : ykd K s id m i o n m' ver rows a = ykd K s id m i o n m' ver rows a':=by rw [h]
@[simp] theorem yws {s : St} {id m m' ver o n : Nat} {i : Int} {l : List AV} {rows : List (List C)} {K : St → Prop} : ydh K s id m i o n l (.tr m' ver rows) = ykd K s id m i o n m' ver rows (pkl s l):=by first | rfl | (simp only [ydh,ykd]; done) | (simp only [ydh,ykd]; rfl)
@[simp] theorem yte {s : St} {id m m' ver o n : Nat} {i : Int} {cs : List C} {ids : List Nat} {rows : List (List C)} {K : St → Prop} : ykd K s id m i o n m' ver rows (some (cs,ids)) =
 (m' = m ∧ i.toNat < rows.length ∧ o + n ≤ m ∧ ids.Nodup ∧ id ∉ ids ∧ K ((s.drops ids).yP id (.tr m (ver + 1) (rows.set i.toNat ((rows.getD i.toNat []).take o ++ cs ++ (rows.getD i.toNat []).drop (o + n)))))):=rfl
@[simp] theorem yAx : AV.yb8 [] = some []:=rfl
@[simp] theorem toCs_c {x : C} {l : List AV} : AV.yb8 (.c x :: l) = (AV.yb8 l).map (x :: ·):=by simp only [AV.yb8,AV.toC]; cases AV.yb8 l <;> rfl
@[simp] theorem toCs_n {n : Nat} {l : List AV} : AV.yb8 (.nil n :: l) = (AV.yb8 l).map (.sl n [] :: ·):=by simp only [AV.yb8,AV.toC]; cases AV.yb8 l <;> rfl
@[simp] theorem toCs_cl {n : Nat} {r : List (List C)} {l : List AV} : AV.yb8 (.clip n r :: l) = (AV.yb8 l).map (.sl n r :: ·):=by simp only [AV.yb8,AV.toC]; cases AV.yb8 l <;> rfl
@[simp] theorem yy6 {a b c : Nat} {l : List AV} : AV.yb8 (.own a b c :: l) = none:=by first | rfl | (simp only [AV.yb8,AV.toC]; done) | (simp only [AV.yb8,AV.toC]; rfl)
@[simp] theorem yAA {l : List C} : AV.yb8 (l.map .c) = some l:=by
 induction l with
 | nil=>rfl
 | cons x l ih=>simp [ih]
@[simp] theorem yqE {l : List C} : (l.map AV.c).all AV.yS = true:=by simp [List.all_eq_true]; intro x _; rfl
@[simp] theorem yza {x : C} : (AV.c x).yS = true:=rfl
@[simp] theorem yuG {n : Nat} : (AV.nil n).yS = true:=rfl
@[simp] theorem yr1 {n : Nat} {r : List (List C)} : (AV.clip n r).yS = true:=rfl
@[simp] theorem ysH {a b : Nat} : (AV.box a b).yS = true:=rfl
@[simp] theorem ysV {a b o : Nat} {i : Int} : (AV.row a b i o).yS = true:=rfl
@[simp] theorem yuR {cs : List C} : (AV.elt cs).yS = true:=rfl
@[simp] theorem yuU {a b c : Nat} : (AV.own a b c).yS = true:=rfl
@[simp] theorem ysD {l : List AV} : (AV.agg l).cellsOf = l:=rfl
@[simp] theorem yxv {x : C} : (AV.c x).cellsOf = [.c x]:=rfl
@[simp] theorem cellsOf_nil {n : Nat} : (AV.nil n).cellsOf = [.nil n]:=rfl
@[simp] theorem yrx {n : Nat} {r : List (List C)} : (AV.clip n r).cellsOf = [.clip n r]:=rfl
@[simp] theorem ysu {a b : Nat} : (AV.box a b).cellsOf = [.box a b]:=rfl
@[simp] theorem ysh {a b c : Nat} : (AV.own a b c).cellsOf = [.own a b c]:=rfl
@[simp ↓] theorem boxP_eq {n : Nat} {s : St} {d : Option Nat} {x : AV} {K : St → Prop} : yoc n s d x K = (x.cellsOf.length = n ∧ x.cellsOf.all AV.yS = true ∧ newP s d (.box x.cellsOf) (fun d=>.box d 0) K):=rfl
@[simp] theorem mksP_eq {k b : Nat} {z : List C} {s : St} {d : Option Nat} {n m : Int} {K : St → Prop} : ykK k b z s d (.c (.i n)) (.c (.i m)) K =
 (0 ≤ n ∧ n ≤ m ∧ (b : Int) * m ≤ 281474976710656 ∧ newP s d (.row k (List.replicate n.toNat z)) (fun d=>.own d k n.toNat) K):=rfl
def ylB (k : Nat) (s : St) (d : Option Nat) (K : St → Prop) (xs : List AV) : Option (List (List C)) → Prop
 | some rows=>(∀ r ∈ rows,r.length = k) ∧ newP s d (.row k rows) (fun d=>.own d k rows.length) K
 | none=>match pks s xs with
  | some (rows,ids)=>(∀ r ∈ rows,r.length = k) ∧ ids.Nodup ∧ newP (s.drops ids) d (.tr k 0 rows) (fun d=>.own d k rows.length) K
  | none=>False
@[congr] theorem yvJ {k : Nat} {s : St} {d : Option Nat} {K : St → Prop} {xs : List AV} {a a' : Option (List (List C))} (h : a = a') : ylB k s d K xs a = ylB k s d K xs a':=by rw [h]
@[simp] theorem bslP_eq {k : Nat} {xs : List AV} {s : St} {d : Option Nat} {K : St → Prop} : yih k xs s d K = ylB k s d K xs (AV.rowsOf xs):=by unfold yih ylB; cases AV.rowsOf xs <;> rfl
@[simp] theorem yvk {k : Nat} {s : St} {d : Option Nat} {K : St → Prop} {xs : List AV} {rows : List (List C)} : ylB k s d K xs (some rows) = ((∀ r ∈ rows,r.length = k) ∧ newP s d (.row k rows) (fun d=>.own d k rows.length) K):=rfl
def yoO (k : Nat) (s : St) (d : Option Nat) (K : St → Prop) : Option (List (List C) × List Nat) → Prop
 | some (rows,ids)=>(∀ r ∈ rows,r.length = k) ∧ ids.Nodup ∧ newP (s.drops ids) d (.tr k 0 rows) (fun d=>.own d k rows.length) K
 | none=>False
@[congr] theorem yu4 {k : Nat} {s : St} {d : Option Nat} {K : St → Prop} {a a' : Option (List (List C) × List Nat)} (h : a = a') : yoO k s d K a = yoO k s d K a':=by rw [h]
@[simp] theorem yxu {k : Nat} {s : St} {d : Option Nat} {K : St → Prop} {xs : List AV} : ylB k s d K xs none = yoO k s d K (pks s xs):=by first | rfl | (simp only [ylB,yoO]; done) | (simp only [ylB,yoO]; rfl)
@[simp] theorem yvf {k : Nat} {s : St} {d : Option Nat} {K : St → Prop} {rows : List (List C)} {ids : List Nat} : yoO k s d K (some (rows,ids)) = ((∀ r ∈ rows,r.length = k) ∧ ids.Nodup ∧ newP (s.drops ids) d (.tr k 0 rows) (fun d=>.own d k rows.length) K):=rfl
@[simp] theorem yuQ : AV.rowsOf [] = some []:=rfl
@[simp] theorem ysb {x : AV} {l : List AV} : AV.rowsOf (x :: l) = (x.rowOf).bind fun r=>(AV.rowsOf l).map (r :: ·):=by
 simp only [AV.rowsOf]; cases x.rowOf <;> cases AV.rowsOf l <;> rfl
@[simp] theorem rowOf_c {x : C} : (AV.c x).rowOf = some [x]:=rfl
@[simp] theorem yxj {n : Nat} : (AV.nil n).rowOf = some [.sl n []]:=rfl
@[simp] theorem yv0 {a b c : Nat} : (AV.own a b c).rowOf = none:=rfl
@[simp] theorem yu6 {l : List AV} : (AV.agg l).rowOf = AV.yb8 l:=rfl
@[simp] theorem slcP_1 {k k' : Nat} {rows : List (List C)} {l h : Int} {K : AV → Prop} : yed k (.c (.sl k' rows)) (some (.c (.i l))) (some (.c (.i h))) none K = (k' = k ∧ 0 ≤ l ∧ l ≤ h ∧ h ≤ rows.length ∧ K (.c (.sl k ((rows.take h.toNat).drop l.toNat)))):=rfl
@[simp] theorem slcP_2 {k k' : Nat} {rows : List (List C)} {l : Int} {K : AV → Prop} : yed k (.c (.sl k' rows)) (some (.c (.i l))) none none K = (k' = k ∧ 0 ≤ l ∧ l ≤ rows.length ∧ K (.c (.sl k (rows.drop l.toNat)))):=rfl
@[simp] theorem slcP_3 {k k' : Nat} {rows : List (List C)} {h : Int} {K : AV → Prop} : yed k (.c (.sl k' rows)) none (some (.c (.i h))) none K = (k' = k ∧ 0 ≤ h ∧ h ≤ rows.length ∧ K (.c (.sl k (rows.take h.toNat)))):=rfl
@[simp] theorem slcP_4 {k k' : Nat} {rows : List (List C)} {h m : Int} {K : AV → Prop} : yed k (.c (.sl k' rows)) none (some (.c (.i h))) (some (.c (.i m))) K = (k' = k ∧ 0 ≤ h ∧ h = m ∧ h ≤ rows.length ∧ K (.clip k (rows.take h.toNat))):=rfl
@[simp] theorem slcP_5 {k k' id n : Nat} {h : Int} {K : AV → Prop} : yed k (.own id k' n) none (some (.c (.i h))) none K = (k' = k ∧ 0 ≤ h ∧ h ≤ (n : Int) ∧ K (.own id k h.toNat)):=rfl
@[simp] theorem slcP_6 {k k' id n : Nat} {l : Int} {K : AV → Prop} : yed k (.own id k' n) (some (.c (.i l))) none none K = (k' = k ∧ 0 ≤ l ∧ l ≤ (n : Int) ∧ K (.cut id k l.toNat (n - l.toNat))):=rfl
@[simp] theorem slcP_7 {k k' id n : Nat} {l h : Int} {K : AV → Prop} : yed k (.own id k' n) (some (.c (.i l))) (some (.c (.i h))) none K = (k' = k ∧ 0 ≤ l ∧ l ≤ h ∧ h ≤ (n : Int) ∧ K (.cut id k l.toNat (h.toNat - l.toNat))):=rfl
@[simp] theorem slcP_8 {k n : Nat} {h : Int} {K : AV → Prop} : yed k (.nil n) none (some (.c (.i h))) none K = (h = 0 ∧ K (.nil k)):=rfl
@[simp] theorem slcP_9 {k n : Nat} {h m : Int} {K : AV → Prop} : yed k (.nil n) none (some (.c (.i h))) (some (.c (.i m))) K = (h = 0 ∧ m = 0 ∧ K (.nil k)):=rfl
@[simp] theorem yy2 {s : St} {id k lo n : Nat} {K : AV → Prop} : yek s (.cut id k lo n) K = (n ≤ maxLen → K (.c (.i n))):=rfl
def yoJ (ver n : Nat) (K : AV → Prop) : Obj → Prop
 | .tr _ ver' _=>ver' = ver ∧ (n ≤ maxLen → K (.c (.i n)))
 | _=>False
@[congr] theorem yxb {ver n : Nat} {K : AV → Prop} {a a' : Obj} (h : a = a') : yoJ ver n K a = yoJ ver n K a':=by rw [h]
@[simp] theorem yyu {s : St} {id ver : Nat} {i : Int} {j k n : Nat} {K : AV → Prop} : yek s (.sub id ver i j k n) K = yoJ ver n K (s.ob id):=by first | rfl | (simp only [yek,yoJ]; done) | (simp only [yek,yoJ]; rfl)
@[simp] theorem lenT_tr {ver n k0 ver' : Nat} {rows : List (List C)} {K : AV → Prop} : yoJ ver n K (.tr k0 ver' rows) = (ver' = ver ∧ (n ≤ maxLen → K (.c (.i n)))):=rfl
@[simp] theorem lenP_sl {k : Nat} {rows : List (List C)} {s : St} {K : AV → Prop} : yek s (.c (.sl k rows)) K = (rows.length ≤ maxLen → K (.c (.i rows.length))):=rfl
@[simp] theorem yxC {k : Nat} {rows : List (List C)} {s : St} {K : AV → Prop} : yek s (.clip k rows) K = (rows.length ≤ maxLen → K (.c (.i rows.length))):=rfl
@[simp] theorem yzI {id k n : Nat} {s : St} {K : AV → Prop} : yek s (.own id k n) K = (n ≤ maxLen → K (.c (.i n))):=rfl
@[simp] theorem yAP {s : St} {n : Nat} {K : AV → Prop} : yek s (.nil n) K = K (.c (.i 0)):=rfl
@[simp] theorem slenP_s {bs : ByteArray} {K : AV → Prop} : yfy (.c (.s bs)) K = (bs.size ≤ maxLen → K (.c (.i bs.size))):=rfl
def mmK (f : Int → Int → Int) (K : AV → Prop) : Option (List Int) → Prop
 | some (n :: r)=>K (.c (.i (r.foldl f n)))
 | _=>False
@[congr] theorem yzw {f : Int → Int → Int} {K : AV → Prop} {a a' : Option (List Int)} (h : a = a') : mmK f K a = mmK f K a':=by rw [h]
@[simp] theorem mmP_eq {f : Int → Int → Int} {l : List AV} {K : AV → Prop} : mmP f l K = mmK f K (intsOf l):=rfl
@[simp] theorem yAG {f : Int → Int → Int} {n : Int} {r : List Int} {K : AV → Prop} : mmK f K (some (n :: r)) = K (.c (.i (r.foldl f n))):=rfl
@[simp] theorem yt7 : intsOf [] = some []:=rfl
@[simp] theorem ysA {n : Int} {l : List AV} : intsOf (.c (.i n) :: l) = (intsOf l).map (n :: ·):=rfl
@[simp] theorem yAo {i : Nat} {l : List AV} {K : AV → Prop} : yic i (.tup l) K = yl6 K l[i]?:=by unfold yic yl6; simp only; cases l[i]? <;> rfl
@[simp] theorem ixsP_eq {bs : ByteArray} {n : Int} {K : AV → Prop} : yjq (.c (.s bs)) (.c (.i n)) K = (0 ≤ n ∧ n < bs.size ∧ K (.c (.u (bs[n.toNat]?.getD 0).toNat))):=rfl
def yhP (k by_ : Nat) (s : St) (d : Option Nat) (x : AV) (K : St → Prop) (new : List (List C)) : Prop :=
 match x with
  | .nil _=>new.length * by_ ≤ 140737488355328 ∧ newP s d (.row k new) (fun d=>.own d k new.length) K
  | .clip k' rows=>k' = k ∧ (0 < new.length ∨ rows.length = 0) ∧ (rows.length + new.length) * by_ ≤ 140737488355328 ∧ newP s d (.row k (rows ++ new)) (fun d=>.own d k (rows.length + new.length)) K
  | .own id k' n=>match s.ob id with
   | .row _ rows=>k' = k ∧ n = rows.length ∧ (rows.length + new.length) * by_ ≤ 140737488355328 ∧
    K ((s.renew id (.row k (rows ++ new))).put d (.own id k (rows.length + new.length)))
   | .tr _ _ rows=>k' = k ∧ n = rows.length ∧ (rows.length + new.length) * by_ ≤ 140737488355328 ∧
    K ((s.renew id (.tr k 0 (rows ++ new))).put d (.own id k (rows.length + new.length)))
   | _=>False
  | .sub id ver i j k' n=>match s.ob id with
   | .tr k0 ver' rows=>ver' = ver ∧ match cellAt rows i.toNat j with
    | some (.ow k2 rs)=>k' = k ∧ k2 = k ∧ (rs.length + new.length) * by_ ≤ 140737488355328 ∧ match d with
     | some d=>(s.ob d).isNone = true ∧ K (((s.yP id (.tr k0 (ver + 1) (setAt rows i.toNat j .jk))).renew d (.row k (rs ++ new))).put (some d) (.own d k (rs.length + new.length)))
     | none=>False
    | some (.ot k2 rs)=>k' = k ∧ k2 = k ∧ (rs.length + new.length) * by_ ≤ 140737488355328 ∧ match d with
     | some d=>(s.ob d).isNone = true ∧ K (((s.yP id (.tr k0 (ver + 1) (setAt rows i.toNat j .jk))).renew d (.tr k 0 (rs ++ new))).put (some d) (.own d k (rs.length + new.length)))
     | none=>False
    | _=>False
   | _=>False
  | _=>False
def appG (k by_ : Nat) (s : St) (d : Option Nat) (x : AV) (K : St → Prop) (y : AV) : Option (List (List C)) → Prop
 | some new=>yhP k by_ s d x K new
 | none=>match ycW s k y with
  | some (idy,new)=>match x with
   | .nil _=>new.length * by_ ≤ 140737488355328 ∧ newP (s.drop idy) d (.tr k 0 new) (fun d=>.own d k new.length) K
   | .own id k' n=>id ≠ idy ∧ match s.ob id with
    | .row _ rows=>k' = k ∧ n = rows.length ∧ (rows.length + new.length) * by_ ≤ 140737488355328 ∧
     K (((s.drop idy).renew id (.tr k 0 (rows ++ new))).put d (.own id k (rows.length + new.length)))
    | .tr _ _ rows=>k' = k ∧ n = rows.length ∧ (rows.length + new.length) * by_ ≤ 140737488355328 ∧
     K (((s.drop idy).renew id (.tr k 0 (rows ++ new))).put d (.own id k (rows.length + new.length)))
    | _=>False
   | _=>False
  | none=>False
@[congr] theorem yvq {k b : Nat} {s : St} {d : Option Nat} {x y : AV} {K : St → Prop} {a a' : Option (List (List C))} (h : a = a') : appG k b s d x K y a = appG k b s d x K y a':=by rw [h]
@[simp] theorem yyD {k b : Nat} {s : St} {d : Option Nat} {x y : AV} {K : St → Prop} : yft k b s d x y K = appG k b s d x K y (yT s k y):=by
 unfold yft appG yhP
 cases yT s k y with
 | none=>rfl
 | some new=>cases x <;> rfl
@[congr] theorem yvg {k b : Nat} {s : St} {d : Option Nat} {x x' : AV} {K : St → Prop} {new : List (List C)} (h : x = x') : yhP k b s d x K new = yhP k b s d x' K new:=by rw [h]
@[simp] theorem yvG {k b : Nat} {s : St} {d : Option Nat} {x y : AV} {K : St → Prop} {new : List (List C)} : appG k b s d x K y (some new) = yhP k b s d x K new:=rfl
@[simp] theorem yys {k b q : Nat} {s : St} {d : Option Nat} {K : St → Prop} {new : List (List C)} : yhP k b s d (.nil q) K new = (new.length * b ≤ 140737488355328 ∧ newP s d (.row k new) (fun d=>.own d k new.length) K):=rfl
@[simp] theorem yvv {k k' b : Nat} {s : St} {d : Option Nat} {K : St → Prop} {rows new : List (List C)} : yhP k b s d (.clip k' rows) K new =
 (k' = k ∧ (0 < new.length ∨ rows.length = 0) ∧ (rows.length + new.length) * b ≤ 140737488355328 ∧ newP s d (.row k (rows ++ new)) (fun d=>.own d k (rows.length + new.length)) K):=rfl
def ymS (k b : Nat) (s : St) (d : Option Nat) (id k' n : Nat) (new : List (List C)) (K : St → Prop) : Obj → Prop
 | .row _ rows=>k' = k ∧ n = rows.length ∧ (rows.length + new.length) * b ≤ 140737488355328 ∧ K ((s.renew id (.row k (rows ++ new))).put d (.own id k (rows.length + new.length)))
 | .tr _ _ rows=>k' = k ∧ n = rows.length ∧ (rows.length + new.length) * b ≤ 140737488355328 ∧ K ((s.renew id (.tr k 0 (rows ++ new))).put d (.own id k (rows.length + new.length)))
 | _=>False
@[congr] theorem yw1 {k b : Nat} {s : St} {d : Option Nat} {id k' n : Nat} {new : List (List C)} {K : St → Prop} {a a' : Obj} (h : a = a') : ymS k b s d id k' n new K a = ymS k b s d id k' n new K a':=by rw [h]
@[simp] theorem yAk {k k' b id n : Nat} {s : St} {d : Option Nat} {K : St → Prop} {new : List (List C)} : yhP k b s d (.own id k' n) K new = ymS k b s d id k' n new K (s.ob id):=by first | rfl | (simp only [yhP,ymS]; done) | (simp only [yhP,ymS]; rfl)
@[simp] theorem yy8 {k k' b id n q : Nat} {s : St} {d : Option Nat} {K : St → Prop} {rows new : List (List C)} : ymS k b s d id k' n new K (.row q rows) =
 (k' = k ∧ n = rows.length ∧ (rows.length + new.length) * b ≤ 140737488355328 ∧ K ((s.renew id (.row k (rows ++ new))).put d (.own id k (rows.length + new.length)))):=rfl
@[simp] theorem appO_tr {k k' b id n q ver : Nat} {s : St} {d : Option Nat} {K : St → Prop} {rows new : List (List C)} : ymS k b s d id k' n new K (.tr q ver rows) =
 (k' = k ∧ n = rows.length ∧ (rows.length + new.length) * b ≤ 140737488355328 ∧ K ((s.renew id (.tr k 0 (rows ++ new))).put d (.own id k (rows.length + new.length)))):=rfl
def ymw (k b : Nat) (s : St) (d id ver : Nat) (i : Int) (j k' : Nat) (new : List (List C)) (K : St → Prop) : Obj → Prop
 | .tr k0 ver' rows=>ver' = ver ∧ match cellAt rows i.toNat j with
  | some (.ow k2 rs)=>k' = k ∧ k2 = k ∧ (rs.length + new.length) * b ≤ 140737488355328 ∧ (s.ob d).isNone = true ∧ K (((s.yP id (.tr k0 (ver + 1) (setAt rows i.toNat j .jk))).renew d (.row k (rs ++ new))).put (some d) (.own d k (rs.length + new.length)))
  | some (.ot k2 rs)=>k' = k ∧ k2 = k ∧ (rs.length + new.length) * b ≤ 140737488355328 ∧ (s.ob d).isNone = true ∧ K (((s.yP id (.tr k0 (ver + 1) (setAt rows i.toNat j .jk))).renew d (.tr k 0 (rs ++ new))).put (some d) (.own d k (rs.length + new.length)))
  | _=>False
 | _=>False
@[congr] theorem ywG {k b : Nat} {s : St} {d id ver : Nat} {i : Int} {j k' : Nat} {new : List (List C)} {K : St → Prop} {a a' : Obj} (h : a = a') : ymw k b s d id ver i j k' new K a = ymw k b s d id ver i j k' new K a':=by rw [h]
@[simp] theorem yzd {k k' b id ver n : Nat} {i : Int} {j : Nat} {s : St} {d : Nat} {K : St → Prop} {new : List (List C)} : yhP k b s (some d) (.sub id ver i j k' n) K new = ymw k b s d id ver i j k' new K (s.ob id):=by first | rfl | (simp only [yhP,ymw]; done) | (simp only [yhP,ymw]; rfl)
def yjB (k b : Nat) (s : St) (d id ver k0 : Nat) (rows : List (List C)) (i : Int) (j k' : Nat) (new : List (List C)) (K : St → Prop) : Option C → Prop
 | some (.ow k2 rs)=>k' = k ∧ k2 = k ∧ (rs.length + new.length) * b ≤ 140737488355328 ∧ (s.ob d).isNone = true ∧ K (((s.yP id (.tr k0 (ver + 1) (setAt rows i.toNat j .jk))).renew d (.row k (rs ++ new))).put (some d) (.own d k (rs.length + new.length)))
 | some (.ot k2 rs)=>k' = k ∧ k2 = k ∧ (rs.length + new.length) * b ≤ 140737488355328 ∧ (s.ob d).isNone = true ∧ K (((s.yP id (.tr k0 (ver + 1) (setAt rows i.toNat j .jk))).renew d (.tr k 0 (rs ++ new))).put (some d) (.own d k (rs.length + new.length)))
 | _=>False
@[congr] theorem yuW {k b : Nat} {s : St} {d id ver k0 : Nat} {rows : List (List C)} {i : Int} {j k' : Nat} {new : List (List C)} {K : St → Prop} {a a' : Option C} (h : a = a') : yjB k b s d id ver k0 rows i j k' new K a = yjB k b s d id ver k0 rows i j k' new K a':=by rw [h]
@[simp] theorem appS_tr {k k' b id ver k0 ver' : Nat} {i : Int} {j : Nat} {s : St} {d : Nat} {K : St → Prop} {rows new : List (List C)} : ymw k b s d id ver i j k' new K (.tr k0 ver' rows) = (ver' = ver ∧ yjB k b s d id ver k0 rows i j k' new K (cellAt rows i.toNat j)):=by first | rfl | (simp only [ymw,yjB]; done) | (simp only [ymw,yjB]; rfl)
@[simp] theorem yz1 {k k' k2 b id ver k0 : Nat} {i : Int} {j : Nat} {s : St} {d : Nat} {K : St → Prop} {rows rs new : List (List C)} : yjB k b s d id ver k0 rows i j k' new K (some (.ow k2 rs)) = (k' = k ∧ k2 = k ∧ (rs.length + new.length) * b ≤ 140737488355328 ∧ (s.ob d).isNone = true ∧ K (((s.yP id (.tr k0 (ver + 1) (setAt rows i.toNat j .jk))).renew d (.row k (rs ++ new))).put (some d) (.own d k (rs.length + new.length)))):=rfl
@[simp] theorem yzY {k k' k2 b id ver k0 : Nat} {i : Int} {j : Nat} {s : St} {d : Nat} {K : St → Prop} {rows rs new : List (List C)} : yjB k b s d id ver k0 rows i j k' new K (some (.ot k2 rs)) = (k' = k ∧ k2 = k ∧ (rs.length + new.length) * b ≤ 140737488355328 ∧ (s.ob d).isNone = true ∧ K (((s.yP id (.tr k0 (ver + 1) (setAt rows i.toNat j .jk))).renew d (.tr k 0 (rs ++ new))).put (some d) (.own d k (rs.length + new.length)))):=rfl
def yli (k b : Nat) (s : St) (d : Option Nat) (x : AV) (K : St → Prop) : Option (Nat × List (List C)) → Prop
 | some (idy,new)=>match x with
  | .nil _=>new.length * b ≤ 140737488355328 ∧ newP (s.drop idy) d (.tr k 0 new) (fun d=>.own d k new.length) K
  | .own id k' n=>id ≠ idy ∧ match s.ob id with
   | .row _ rows=>k' = k ∧ n = rows.length ∧ (rows.length + new.length) * b ≤ 140737488355328 ∧
    K (((s.drop idy).renew id (.tr k 0 (rows ++ new))).put d (.own id k (rows.length + new.length)))
   | .tr _ _ rows=>k' = k ∧ n = rows.length ∧ (rows.length + new.length) * b ≤ 140737488355328 ∧
    K (((s.drop idy).renew id (.tr k 0 (rows ++ new))).put d (.own id k (rows.length + new.length)))
   | _=>False
  | _=>False
 | none=>False
@[congr] theorem yxt {k b : Nat} {s : St} {d : Option Nat} {x x' : AV} {K : St → Prop} {a a' : Option (Nat × List (List C))} (h : a = a') (h2 : x = x') : yli k b s d x K a = yli k b s d x' K a':=by rw [h,h2]
@[simp] theorem yw4 {k b : Nat} {s : St} {d : Option Nat} {x y : AV} {K : St → Prop} : appG k b s d x K y none = yli k b s d x K (ycW s k y):=by first | rfl | (simp only [appG,yli]; done) | (simp only [appG,yli]; rfl)
@[simp] theorem yzo {k b q idy : Nat} {s : St} {d : Option Nat} {K : St → Prop} {new : List (List C)} : yli k b s d (.nil q) K (some (idy,new)) = (new.length * b ≤ 140737488355328 ∧ newP (s.drop idy) d (.tr k 0 new) (fun d=>.own d k new.length) K):=rfl
def yjy (k b : Nat) (s : St) (d : Option Nat) (id k' n idy : Nat) (new : List (List C)) (K : St → Prop) : Obj → Prop
 | .row _ rows=>k' = k ∧ n = rows.length ∧ (rows.length + new.length) * b ≤ 140737488355328 ∧
  K (((s.drop idy).renew id (.tr k 0 (rows ++ new))).put d (.own id k (rows.length + new.length)))
 | .tr _ _ rows=>k' = k ∧ n = rows.length ∧ (rows.length + new.length) * b ≤ 140737488355328 ∧
  K (((s.drop idy).renew id (.tr k 0 (rows ++ new))).put d (.own id k (rows.length + new.length)))
 | _=>False
@[congr] theorem yui {k b : Nat} {s : St} {d : Option Nat} {id k' n idy : Nat} {new : List (List C)} {K : St → Prop} {a a' : Obj} (h : a = a') : yjy k b s d id k' n idy new K a = yjy k b s d id k' n idy new K a':=by rw [h]
@[simp] theorem yzi {k k' b id n idy : Nat} {s : St} {d : Option Nat} {K : St → Prop} {new : List (List C)} : yli k b s d (.own id k' n) K (some (idy,new)) = (id ≠ idy ∧ yjy k b s d id k' n idy new K (s.ob id)):=by first | rfl | (simp only [yli,yjy]; done) | (simp only [yli,yjy]; rfl)
@[simp] theorem yvt {k k' b id n idy q : Nat} {s : St} {d : Option Nat} {K : St → Prop} {rows new : List (List C)} : yjy k b s d id k' n idy new K (.row q rows) = (k' = k ∧ n = rows.length ∧ (rows.length + new.length) * b ≤ 140737488355328 ∧
 K (((s.drop idy).renew id (.tr k 0 (rows ++ new))).put d (.own id k (rows.length + new.length)))):=rfl
@[simp] theorem yyI {k k' b id n idy q ver : Nat} {s : St} {d : Option Nat} {K : St → Prop} {rows new : List (List C)} : yjy k b s d id k' n idy new K (.tr q ver rows) = (k' = k ∧ n = rows.length ∧ (rows.length + new.length) * b ≤ 140737488355328 ∧
 K (((s.drop idy).renew id (.tr k 0 (rows ++ new))).put d (.own id k (rows.length + new.length)))):=rfl
def ylv (k k' id n : Nat) : Obj → Option (Nat × List (List C))
 | .tr _ _ rows=>if k' = k then some (id,rows.take n) else none
 | _=>none
@[simp] theorem yvC {s : St} {k k' id n : Nat} : ycW s k (.own id k' n) = ylv k k' id n (s.ob id):=by first | rfl | (simp only [ycW,ylv]; done) | (simp only [ycW,ylv]; rfl)
@[simp] theorem yv8 {k k' id n q ver : Nat} {rows : List (List C)} : ylv k k' id n (.tr q ver rows) = if k' = k then some (id,rows.take n) else none:=rfl
@[simp] theorem ytb {s : St} {k k' : Nat} {rows : List (List C)} : yT s k (.c (.sl k' rows)) = if k' = k then some rows else none:=rfl
@[simp] theorem yrK {s : St} {k k' : Nat} {rows : List (List C)} : yT s k (.clip k' rows) = if k' = k then some rows else none:=rfl
@[simp] theorem yr8 {s : St} {k n : Nat} : yT s k (.nil n) = some []:=rfl
def yrc (k k' n : Nat) : Obj → Option (List (List C))
 | .row _ rows=>if k' = k then some (rows.take n) else none
 | _=>none
@[simp] theorem ysc {s : St} {k k' id n : Nat} : yT s k (.own id k' n) = yrc k k' n (s.ob id):=by simp only [yT,yrc]; cases s.ob id <;> rfl
@[simp] theorem yzH {k k' n q : Nat} {rows : List (List C)} : yrc k k' n (.row q rows) = if k' = k then some (rows.take n) else none:=rfl
@[simp] theorem srcO_tr {k k' n q ver : Nat} {rows : List (List C)} : yrc k k' n (.tr q ver rows) = none:=rfl
def ylk (k k' lo n : Nat) : Obj → Option (List (List C))
 | .row _ rows=>if k' = k then some ((rows.drop lo).take n) else none
 | _=>none
@[simp] theorem yr9 {s : St} {k k' id lo n : Nat} : yT s k (.cut id k' lo n) = ylk k k' lo n (s.ob id):=by first | rfl | (simp only [yT,ylk]; done) | (simp only [yT,ylk]; rfl)
@[simp] theorem yus {k k' lo n q : Nat} {rows : List (List C)} : ylk k k' lo n (.row q rows) = if k' = k then some ((rows.drop lo).take n) else none:=rfl
def cpK (k : Nat) (s : St) (d : Option Nat) (x : AV) (K : St → Prop) : Option (List (List C)) → Prop
 | some new=>match x with
  | .own id k' n=>match s.ob id with
   | .row _ rows=>k' = k ∧ n ≤ rows.length ∧ K ((s.yP id (.row k (new.take n ++ rows.drop (min new.length n)))).put d (.c (.i (min new.length n : Nat))))
   | _=>False
  | _=>False
 | none=>False
@[congr] theorem yxL {k : Nat} {s : St} {d : Option Nat} {x : AV} {K : St → Prop} {a a' : Option (List (List C))} (h : a = a') : cpK k s d x K a = cpK k s d x K a':=by rw [h]
@[simp] theorem cpP_eq {k : Nat} {s : St} {d : Option Nat} {x y : AV} {K : St → Prop} : cpP k s d x y K = cpK k s d x K (yT s k y):=by first | rfl | (simp only [cpP,cpK]; done) | (simp only [cpP,cpK]; rfl)
def cpO (k : Nat) (s : St) (d : Option Nat) (id k' n : Nat) (new : List (List C)) (K : St → Prop) : Obj → Prop
 | .row _ rows=>k' = k ∧ n ≤ rows.length ∧ K ((s.yP id (.row k (new.take n ++ rows.drop (min new.length n)))).put d (.c (.i (min new.length n : Nat))))
 | _=>False
@[congr] theorem yAf {k : Nat} {s : St} {d : Option Nat} {id k' n : Nat} {new : List (List C)} {K : St → Prop} {a a' : Obj} (h : a = a') : cpO k s d id k' n new K a = cpO k s d id k' n new K a':=by rw [h]
@[simp] theorem cpK_own {k id k' n : Nat} {s : St} {d : Option Nat} {K : St → Prop} {new : List (List C)} : cpK k s d (.own id k' n) K (some new) = cpO k s d id k' n new K (s.ob id):=by first | rfl | (simp only [cpK,cpO]; done) | (simp only [cpK,cpO]; rfl)
@[simp] theorem cpO_row {k id k' n q : Nat} {s : St} {d : Option Nat} {K : St → Prop} {rows new : List (List C)} : cpO k s d id k' n new K (.row q rows) = (k' = k ∧ n ≤ rows.length ∧ K ((s.yP id (.row k (new.take n ++ rows.drop (min new.length n)))).put d (.c (.i (min new.length n : Nat))))):=rfl
@[simp] theorem yy4 {n : Nat} {K : AV → Prop} : yjV (.nil n) K = K (.c (.i 0)):=rfl
@[simp] theorem yxB {k : Nat} {rows : List (List C)} {K : AV → Prop} : yjV (.clip k rows) K = (rows.length ≤ maxLen → K (.c (.i rows.length))):=rfl
@[simp] theorem capP_sl {k : Nat} {rows : List (List C)} {K : AV → Prop} : yjV (.c (.sl k rows)) K = ∀ n : Nat,rows.length ≤ n → n ≤ maxLen → K (.c (.i n)):=rfl
@[simp] theorem yAi {id k m : Nat} {K : AV → Prop} : yjV (.own id k m) K = ∀ n : Nat,m ≤ n → n ≤ maxLen → K (.c (.i n)):=rfl
@[simp] theorem yAr {id o : Nat} {K : AV → Prop} : yhH (.box id o) K = K (.box id o):=rfl
@[simp] theorem yAB {id k o : Nat} {i : Int} {K : AV → Prop} : yhH (.row id k i o) K = K (.row id k i o):=rfl
@[simp] theorem yxO {cs : List C} {K : AV → Prop} : yhH (.elt cs) K = K (.elt cs):=rfl
@[simp] theorem seqP_f {a b : ByteArray} {k : AV → Prop} : yh9 false (.c (.s a)) (.c (.s b)) k = k (.c (.b (decide (a = b)))):=rfl
@[simp] theorem seqP_t {a b : ByteArray} {k : AV → Prop} : yh9 true (.c (.s a)) (.c (.s b)) k = k (.c (.b !decide (a = b))):=rfl
@[simp] theorem scatP_s {a b : ByteArray} {k : AV → Prop} : ye1 (.c (.s a)) (.c (.s b)) k = (a.size + b.size ≤ maxLen ∧ k (.c (.s (a ++ b)))):=rfl
@[simp] theorem slsP_1 {a : ByteArray} {l h : Int} {K : AV → Prop} : yhx (.c (.s a)) (some (.c (.i l))) (some (.c (.i h))) K = (0 ≤ l ∧ l ≤ h ∧ h ≤ a.size ∧ K (.c (.s (a.extract l.toNat h.toNat)))):=rfl
@[simp] theorem slsP_2 {a : ByteArray} {l : Int} {K : AV → Prop} : yhx (.c (.s a)) (some (.c (.i l))) none K = (0 ≤ l ∧ l ≤ a.size ∧ K (.c (.s (a.extract l.toNat a.size)))):=rfl
@[simp] theorem slsP_3 {a : ByteArray} {h : Int} {K : AV → Prop} : yhx (.c (.s a)) none (some (.c (.i h))) K = (0 ≤ h ∧ h ≤ a.size ∧ K (.c (.s (a.extract 0 h.toNat)))):=rfl
@[simp] theorem yzy {a b : Int} {k : AV → Prop} : yfu .and (.c (.i a)) (.c (.i b)) k = k (.c (.i (yry a b))):=rfl
@[simp] theorem yzn {a b : Int} {k : AV → Prop} : yfu .xor (.c (.i a)) (.c (.i b)) k = k (.c (.i (yrm a b))):=rfl
@[simp] theorem yxU {a b : Int} {k : AV → Prop} : yfu .shl (.c (.i a)) (.c (.i b)) k = (0 ≤ b ∧ k (.c (.i (yof a b)))):=rfl
@[simp] theorem ywx {a : Nat} {b : Int} {k : AV → Prop} : yfu .shr (.c (.q a)) (.c (.i b)) k = (0 ≤ b ∧ k (.c (.q (a / 2 ^ (min b.toNat 64))))):=rfl
@[simp] theorem yAg {a b : Int} {k : AV → Prop} : yfu .shr (.c (.i a)) (.c (.i b)) k = (0 ≤ b ∧ k (.c (.i (ymm a b)))):=rfl
@[simp] theorem yxD {a b : Int} {k : AV → Prop} : yeP .add (.c (.i a)) (.c (.i b)) k = k (.c (.i (IntKind.i64.wrap (a + b)))):=rfl
@[simp] theorem ywP {a b : Int} {k : AV → Prop} : yeP .mul (.c (.i a)) (.c (.i b)) k = k (.c (.i (IntKind.i64.wrap (a * b)))):=rfl
@[simp] theorem yvP {a b : Nat} {k : AV → Prop} : ycb .add (.c (.u a)) (.c (.u b)) k = k (.c (.u ((a + b) % 256))):=rfl
@[simp] theorem yxg {a b : Nat} {k : AV → Prop} : ycb .sub (.c (.u a)) (.c (.u b)) k = k (.c (.u ((a + 256 - b) % 256))):=rfl
@[simp] theorem yvx {a b : Nat} {k : AV → Prop} : ycb .eql (.c (.u a)) (.c (.u b)) k = k (.c (.b (decide (a = b)))):=rfl
@[simp] theorem yxh {a b : Nat} {k : AV → Prop} : ycb .neq (.c (.u a)) (.c (.u b)) k = k (.c (.b (!decide (a = b)))):=rfl
@[simp] theorem ywY {a b : Nat} {k : AV → Prop} : ycb .lss (.c (.u a)) (.c (.u b)) k = k (.c (.b (decide (a < b)))):=rfl
@[simp] theorem yvd {a b : Nat} {k : AV → Prop} : ycb .leq (.c (.u a)) (.c (.u b)) k = k (.c (.b (decide (a ≤ b)))):=rfl
@[simp] theorem yvL {a b : Nat} {k : AV → Prop} : ycb .gtr (.c (.u a)) (.c (.u b)) k = k (.c (.b (decide (b < a)))):=rfl
@[simp] theorem yvT {a b : Nat} {k : AV → Prop} : ycb .geq (.c (.u a)) (.c (.u b)) k = k (.c (.b (decide (b ≤ a)))):=rfl
@[simp] theorem cvtP_0u {s : St} {a : Nat} {k : AV → Prop} : ybX 0 s (.c (.u a)) k = k (.c (.i a)):=rfl
@[simp] theorem cvtP_0q {s : St} {a : Nat} {k : AV → Prop} : ybX 0 s (.c (.q a)) k = (a ≤ 9223372036854775807 ∧ k (.c (.i a))):=rfl
@[simp] theorem cvtP_3i {s : St} {a : Int} {k : AV → Prop} : ybX 3 s (.c (.i a)) k = (0 ≤ a ∧ k (.c (.q a.toNat))):=rfl
@[simp] theorem cvtP_0i {s : St} {a : Int} {k : AV → Prop} : ybX 0 s (.c (.i a)) k = k (.c (.i a)):=rfl
@[simp] theorem cvtP_1u {s : St} {a : Nat} {k : AV → Prop} : ybX 1 s (.c (.u a)) k = k (.c (.u a)):=rfl
@[simp] theorem cvtP_1i {s : St} {a : Int} {k : AV → Prop} : ybX 1 s (.c (.i a)) k = k (.c (.u (a % 256).toNat)):=rfl
def yoW (k : AV → Prop) : Option (List (List C)) → Prop
 | some rows=>∃ l : List UInt8,rows = l.map yno ∧ k (.c (.s ⟨l.toArray⟩))
 | none=>False
@[congr] theorem ywT {k : AV → Prop} {a a' : Option (List (List C))} (h : a = a') : yoW k a = yoW k a':=by rw [h]
@[simp] theorem cvtP_2 {s : St} {x : AV} {k : AV → Prop} : ybX 2 s x k = yoW k (yT s 1 x):=by first | rfl | (simp only [ybX,yoW]; done) | (simp only [ybX,yoW]; rfl)
@[simp] theorem ywm {k : AV → Prop} {rows : List (List C)} : yoW k (some rows) = ∃ l : List UInt8,rows = l.map yno ∧ k (.c (.s ⟨l.toArray⟩)):=rfl
@[simp ↓] theorem yvF {P : Program} {f : Nat} {l xs : List AV} {d : Option Nat} {s : St} {K : St → Prop} : ye3 P (.fn f l) xs d s K = ((∃ fn,P.funcs[f]? = some fn ∧ fn.body.isSome = true ∧ (fn.name != "runtime.NumGoroutine") = true) ∧ ysw P f (xs ++ l) d s K ⟨⟩):=rfl
@[simp] theorem kill_c {id : Nat} {x : C} : (AV.c x).kill id = .c x:=rfl
@[simp] theorem yxT {id : Nat} : AV.any.kill id = .any:=rfl
@[simp] theorem yzE {id : Nat} : AV.und.kill id = .und:=rfl
@[simp] theorem yyl {id n : Nat} : (AV.nil n).kill id = .nil n:=rfl
@[simp] theorem yAI {id i k lo n : Nat} : (AV.cut i k lo n).kill id = if i = id then .any else .cut i k lo n:=by
 simp only [AV.kill,AV.yat,AV.ybn]; by_cases h : i = id <;> simp [h]
@[simp] theorem yy3 {id i ver : Nat} {n : Int} {j k m : Nat} : (AV.sub i ver n j k m).kill id = if i = id then .any else .sub i ver n j k m:=by
 simp only [AV.kill,AV.yat,AV.ybn]; by_cases h : i = id <;> simp [h]
@[simp] theorem ywX {id i ver : Nat} {n : Int} {j k : Nat} {m : Int} {o : Nat} : (AV.ya4 i ver n j k m o).kill id = if i = id then .any else .ya4 i ver n j k m o:=by
 simp only [AV.kill,AV.yat,AV.ybn]; by_cases h : i = id <;> simp [h]
@[simp] theorem ywb {id n : Nat} : (AV.nil n).yat id = .nil n:=rfl
@[simp] theorem yxH {id : Nat} : AV.any.yat id = .any:=rfl
@[simp] theorem ytc {id k : Nat} {r : List (List C)} : (AV.clip k r).yat id = .clip k r:=rfl
@[simp] theorem yxx {id : Nat} {r : List C} : (AV.elt r).yat id = .elt r:=rfl
@[simp] theorem yv5 {id i k n : Nat} : (AV.own i k n).yat id = if i = id then .any else .own i k n:=by
 simp only [AV.yat,AV.ybn]; by_cases h : i = id <;> simp [h]
@[simp] theorem yv1 {id i o : Nat} : (AV.box i o).yat id = if i = id then .any else .box i o:=by
 simp only [AV.yat,AV.ybn]; by_cases h : i = id <;> simp [h]
@[simp] theorem yvI {id i k o : Nat} {n : Int} : (AV.row i k n o).yat id = if i = id then .any else .row i k n o:=by
 simp only [AV.yat,AV.ybn]; by_cases h : i = id <;> simp [h]
@[simp] theorem yyh {id k v : Nat} {l : List (List C)} : (Obj.tr k v l).kill id = .tr k v l:=rfl
@[simp] theorem yxs {id k : Nat} {r : List (List C)} : (AV.clip k r).kill id = .clip k r:=rfl
@[simp] theorem yAD {id : Nat} {r : List C} : (AV.elt r).kill id = .elt r:=rfl
@[simp] theorem yyb {id i o : Nat} : (AV.box i o).kill id = if i = id then .any else .box i o:=by
 simp only [AV.kill,AV.yat,AV.ybn]; by_cases h : i = id <;> simp [h]
@[simp] theorem yxX {id i k n : Nat} : (AV.own i k n).kill id = if i = id then .any else .own i k n:=by
 simp only [AV.kill,AV.yat,AV.ybn]; by_cases h : i = id <;> simp [h]
@[simp] theorem yz6 {id i k o : Nat} {n : Int} : (AV.row i k n o).kill id = if i = id then .any else .row i k n o:=by
 simp only [AV.kill,AV.yat,AV.ybn]; by_cases h : i = id <;> simp [h]
@[simp] theorem kill1_c {id : Nat} {x : C} : (AV.c x).yat id = .c x:=rfl
@[simp] theorem yu3 {id : Nat} {l : List C} : (AV.agg (l.map .c)).kill id = .agg (l.map .c):=by simp [AV.kill]
@[simp] theorem yzg {id : Nat} {l : List AV} : (AV.agg l).kill id = .agg (l.map (AV.yat id)):=rfl
@[simp] theorem yxm {id : Nat} {l : List AV} : (Obj.box l).kill id = .box (l.map (AV.yat id)):=rfl
@[simp] theorem yvE {id k : Nat} {l : List (List C)} : (Obj.row k l).kill id = .row k l:=rfl
@[simp] theorem ysP {id : Nat} : Obj.none.kill id = .none:=rfl
@[simp ↓] theorem yu5 {s : St} {l : List AV} {K : List AV → Prop} : ycG s [] l K = K l:=rfl
@[simp ↓] theorem ytM {s : St} {o n : Nat} {x : X} {ps : List (Nat × Nat × X)} {l : List AV} {K : List AV → Prop} : ycG s ((o,n,x) :: ps) l K =
 ((s.ev x).cellsOf.length = n ∧ (s.ev x).cellsOf.all AV.yS = true ∧ o + n ≤ l.length ∧ ycG s ps (l.take o ++ (s.ev x).cellsOf ++ l.drop (o + n)) K):=rfl
@[simp] theorem out1_c {s : St} {z : C} {y : AV} : out1 s (.c z) y = (y = .c z):=rfl
@[simp] theorem yvc {s : St} {k : Nat} {r : List (List C)} {y : AV} : out1 s (.clip k r) y = (y = .c (.sl k r)):=rfl
@[simp] theorem yzk {s : St} {n : Nat} {y : AV} : out1 s (.nil n) y = ((∃ k,y = .c (.sl k [])) ∨ ∃ k,y = .nil k):=rfl
@[simp] theorem yzm {s : St} {cs : List C} {y : AV} : out1 s (.elt cs) y = (y = .elt cs):=rfl
def ypP (k : Nat) (y : AV) : Option (List (List C)) → Prop
 | some r=>y = .c (.sl k r)
 | none=>False
@[simp] theorem yvu {k : Nat} {y : AV} {r : List (List C)} : ypP k y (some r) = (y = .c (.sl k r)):=rfl
def yqy (k n : Nat) (y : AV) : Obj → Prop
 | .row _ rows=>y = .c (.sl k (rows.take n))
 | .tr _ _ rows=>ypP k y (yiI (rows.take n))
 | _=>False
@[simp] theorem yqe {s : St} {id k n : Nat} {y : AV} : out1 s (.own id k n) y = yqy k n y (s.ob id):=by simp only [out1,yqy]; cases s.ob id <;> rfl
@[simp] theorem yzp {k n q : Nat} {rows : List (List C)} {y : AV} : yqy k n y (.row q rows) = (y = .c (.sl k (rows.take n))):=rfl
@[simp] theorem outO_tr {k n q ver : Nat} {rows : List (List C)} {y : AV} : yqy k n y (.tr q ver rows) = ypP k y (yiI (rows.take n)):=rfl
def ylf (k lo n : Nat) (y : AV) : Obj → Prop
 | .row _ rows=>y = .c (.sl k ((rows.drop lo).take n))
 | _=>False
@[simp] theorem yqC {s : St} {id k lo n : Nat} {y : AV} : out1 s (.cut id k lo n) y = ylf k lo n y (s.ob id):=by simp only [out1,ylf]; cases s.ob id <;> rfl
@[simp] theorem yt0 {k lo n q : Nat} {rows : List (List C)} {y : AV} : ylf k lo n y (.row q rows) = (y = .c (.sl k ((rows.drop lo).take n))):=rfl
def ynf (y : AV) : Option C → Prop
 | some c=>match c.shr with
  | some z=>y = .c z
  | none=>False
 | none=>False
def yqg (ver : Nat) (i : Int) (j : Nat) (y : AV) : Obj → Prop
 | .tr _ ver' rows=>ver' = ver ∧ ynf y (cellAt rows i.toNat j)
 | _=>False
@[simp] theorem yqK {s : St} {id ver : Nat} {i : Int} {j k n : Nat} {y : AV} : out1 s (.sub id ver i j k n) y = yqg ver i j y (s.ob id):=by first | rfl | (simp only [out1,yqg,ynf]; done) | (simp only [out1,yqg,ynf]; rfl)
@[simp] theorem outS_tr {ver k0 ver' : Nat} {i : Int} {j : Nat} {y : AV} {rows : List (List C)} : yqg ver i j y (.tr k0 ver' rows) = (ver' = ver ∧ ynf y (cellAt rows i.toNat j)):=rfl
@[simp] theorem outC_ow {k : Nat} {rows : List (List C)} {y : AV} : ynf y (some (.ow k rows)) = (y = .c (.sl k rows)):=rfl
@[simp] theorem outC_ot {k : Nat} {rows : List (List C)} {y : AV} : ynf y (some (.ot k rows)) = ypP k y (yiI rows):=by
 simp only [ynf,C.shr,ypP]; cases yiI rows <;> rfl
@[simp] theorem yxe {s : St} : ycc s [] [] = True:=rfl
@[simp] theorem yuP {s : St} {x y : AV} {l l' : List AV} : ycc s (x :: l) (y :: l') = (out1 s x y ∧ ycc s l l'):=rfl
@[simp] theorem yvB {s : St} {l : List C} : ycc s (l.map .c) (l.map .c) = True:=by
 induction l with
 | nil=>rfl
 | cons x l ih=>simp [ih]
@[simp] theorem yyp {s : St} {l l' : List AV} : ybi s (.agg l) (.agg l') = ycc s l l':=rfl
@[simp] theorem out2_c {s : St} {z : C} {y : AV} : ybi s (.c z) y = (y = .c z):=rfl
@[simp] theorem ywU {s : St} {k : Nat} {r : List (List C)} {y : AV} : ybi s (.clip k r) y = (y = .c (.sl k r)):=rfl
@[simp] theorem yxR {s : St} {n : Nat} {y : AV} : ybi s (.nil n) y = ((∃ k,y = .c (.sl k [])) ∨ ∃ k,y = .nil k):=rfl
@[simp] theorem yxZ {s : St} {cs : List C} {y : AV} : ybi s (.elt cs) y = (y = .elt cs):=rfl
@[simp] theorem yAF {s : St} {id k lo n : Nat} {y : AV} : ybi s (.cut id k lo n) y = ylf k lo n y (s.ob id):=yqC
@[simp] theorem yzL {s : St} {id ver : Nat} {i : Int} {j k n : Nat} {y : AV} : ybi s (.sub id ver i j k n) y = yqg ver i j y (s.ob id):=yqK (k:=k) (n:=n)
@[simp] theorem out2_fn {s : St} {f f' : Nat} {l l' : List AV} : ybi s (.fn f l) (.fn f' l') = (f = f' ∧ ycc s l l'):=rfl
def yqX (s : St) (off : Nat) (cs : List C) : Obj → Prop
 | .box cells=>ycc s (cells.drop off) (cs.map .c)
 | _=>False
@[simp] theorem yyK {s : St} {id off : Nat} {cs : List C} : ybi s (.box id off) (.elt cs) = yqX s off cs (s.ob id):=by first | rfl | (simp only [ybi,yqX]; done) | (simp only [ybi,yqX]; rfl)
@[simp] theorem yz9 {s : St} {off : Nat} {cs : List C} {cells : List AV} : yqX s off cs (.box cells) = ycc s (cells.drop off) (cs.map .c):=rfl
@[simp] theorem yAj {s : St} {id k n : Nat} {y : AV} : ybi s (.own id k n) y = yqy k n y (s.ob id):=yqe
@[simp] theorem yxk {s : St} : ybt s [] [] = True:=rfl
@[simp] theorem yum {s : St} {x y : AV} {l l' : List AV} : ybt s (x :: l) (y :: l') = (ybi s x y ∧ ybt s l l'):=rfl
@[simp] theorem yAd {s : St} {r : RS} {y : AV} : ydZ s [r] y = ydc s r y:=rfl
@[simp] theorem yAs {s : St} {r r' : RS} {y : AV} : ydZ s [r,r'] y = ∃ ys,y = .tup ys ∧ yfI s [r,r'] ys:=rfl
@[simp] theorem ytE {s : St} {r r' r2 : RS} {y : AV} : ydZ s [r,r',r2] y = ∃ ys,y = .tup ys ∧ yfI s [r,r',r2] ys:=rfl
@[simp] theorem yuY {s : St} : yfI s [] [] = True:=rfl
@[simp] theorem yrV {s : St} {r : RS} {rs : List RS} {y : AV} {ys : List AV} : yfI s (r :: rs) (y :: ys) = (ydc s r y ∧ yfI s rs ys):=rfl
@[simp] theorem yx0 {s : St} {n : Nat} {y : AV} : ydc s (.t n) y = ybi s (s.env n) y:=rfl
def clA (s : St) (k : Nat) (y : AV) : AV → Prop
 | .box id 0=>match s.ob id with
  | .box cells=>cells.length = k ∧ ybi s (.agg cells) y
  | _=>False
 | _=>False
@[congr] theorem yyM {s : St} {k : Nat} {y a a' : AV} (h : a = a') : clA s k y a = clA s k y a':=by rw [h]
@[simp] theorem yvo {s : St} {n k : Nat} {y : AV} : ydc s (.cl n k) y = clA s k y (s.env n):=by
 simp only [ydc,clA]
 cases s.env n with
 | box id o=>cases o <;> rfl
 | _=>rfl
def clO (s : St) (k : Nat) (y : AV) : Obj → Prop
 | .box cells=>cells.length = k ∧ ybi s (.agg cells) y
 | _=>False
@[simp] theorem clA_box {s : St} {k id : Nat} {y : AV} : clA s k y (.box id 0) = clO s k y (s.ob id):=by first | rfl | (simp only [clA,clO]; done) | (simp only [clA,clO]; rfl)
@[simp] theorem clO_box {s : St} {k : Nat} {y : AV} {cells : List AV} : clO s k y (.box cells) = (cells.length = k ∧ ybi s (.agg cells) y):=rfl
end
@[simp] theorem yr4 {k k' : Nat} {r r' : List (List C)} : (Obj.row k r).leO (.row k' r') = (Obj.row k r = .row k' r'):=rfl
@[simp] theorem ys1 {k k' v : Nat} {r r' : List (List C)} : (Obj.row k r).leO (.tr k' v r') = (k = k' ∧ r = r'):=rfl
@[simp] theorem yvH {k k' v v' : Nat} {r r' : List (List C)} : (Obj.tr k v r).leO (.tr k' v' r') = (k = k' ∧ r = r'):=rfl
@[simp] theorem yrT {l l' : List AV} : (Obj.box l).leO (.box l') = (Obj.box l = .box l'):=rfl
def ints (l : List Int) : List (List C):=l.map fun n=>[.i n]
@[simp] theorem yr3 {l : List Int} : (ints l).length = l.length:=by simp [ints]
end Go.Proofs.Ytefegahoniahkaa
