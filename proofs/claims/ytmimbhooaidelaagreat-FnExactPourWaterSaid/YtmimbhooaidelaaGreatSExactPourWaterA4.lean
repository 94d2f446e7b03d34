/- What the law FnExactPourWater stands on: the machine, in short form (names, layout). -/
import Derived.Test.YtmimbhooaidelaaGreatSExactPourWaterA3
set_option linter.all false
namespace Go.Proofs.YtmimbhooaidelaaGreat
open Go.RowKit
structure Tag {α : Type} (K : α) : Type where
def yFH (P : Program) (f : Nat) (xs : List AV) (d : Option Nat) (s : St) (K : St → Prop) (_ : Tag K) : Prop:=yhW P f xs d s K
def yC3 (P : Program) (f : Nat) (xs : List AV) (ob : Nat → Obj) (k : AV → Prop) (_ : Tag k) : Prop:=yvL P f xs ob k
def loopT (P : Program) (N : Nat) (c : SC) (s : St) (Q : Ex → St → Prop) (_ : Tag Q) : Prop:=ypX P N c s Q
section
variable {P : Program} {N : Nat}
@[congr] theorem yHt {d : Option Nat} {op op' : IOp} {s : St} {K : St → Prop} (h : op = op') : yY P d op s K = yY P d op' s K:=by rw [h]
@[congr] theorem yJD {op op' : IOp} {ev : X → AV} {ob : Nat → Obj} {k : AV → Prop} (h : op = op') : yaI P op ev ob k = yaI P op' ev ob k:=by rw [h]
@[congr] theorem yKR {Q Q' : Ex → St → Prop} {e : Ex} {s s' : St} (h : s = s') : Ex.then Q Q' e s = Ex.then Q Q' e s':=by rw [h]
@[congr] theorem yE6 {Q : Ex → St → Prop} {n : Nat} {e : Ex} {s s' : St} (h : s = s') : Ex.inBlock n Q e s = Ex.inBlock n Q e s':=by rw [h]
@[congr] theorem yIT {s s' : St} {d : Option Nat} {o o' : Obj} {v : Nat → AV} {K : St → Prop} (h : s = s') (h2 : o = o') : newP s d o v K = newP s' d o' v K:=by rw [h,h2]
@[congr] theorem yHh {s : St} {ps : List (Nat × Nat × X)} {l l' : List AV} {K : List AV → Prop} (h : l = l') : ygn s ps l K = ygn s ps l' K:=by rw [h]
@[congr] theorem yOa {c : SC} {s s' : St} {Q : Ex → St → Prop} (h : s = s') : wpS P N c s Q = wpS P N c s' Q:=by rw [h]
@[congr] theorem yNk {l : List Ins} {s s' : St} {K : St → Prop} (h : s = s') : wpI P l s K = wpI P l s' K:=by rw [h]
@[congr] theorem yNw {n : Nat} {l : List RIns} {h : List (Nat × Lab)} {s s' : St} {K : St → Prop} (hs : s = s') : wpE P n l h s K = wpE P n l h s' K:=by rw [hs]
@[congr] theorem yMM {l : List Ins} {s s' : St} {K : St → Prop} (h : s = s') : wpQ P l s K = wpQ P l s' K:=by rw [h]
@[congr] theorem yGp {c c' a a' b b' : AV} {k : AV → Prop} (h1 : c = c') (h2 : a = a') (h3 : b = b') : yiD c a b k = yiD c' a' b' k:=by rw [h1,h2,h3]
@[congr] theorem yKY {o : BinOp} {a a' b b' : AV} {k : AV → Prop} (h2 : a = a') (h3 : b = b') : ytj o a b k = ytj o a' b' k:=by rw [h2,h3]
@[congr] theorem yJ9 {o : Bool} {a a' b b' : AV} {k : AV → Prop} (h2 : a = a') (h3 : b = b') : yrD o a b k = yrD o a' b' k:=by rw [h2,h3]
@[congr] theorem yKU {a a' : AV} {k : AV → Prop} (h2 : a = a') : ywR a k = ywR a' k:=by rw [h2]
@[congr] theorem yJ1 {a a' : AV} {k : AV → Prop} (h2 : a = a') : notP a k = notP a' k:=by rw [h2]
@[congr] theorem yKJ {a a' : AV} {k : AV → Prop} (h2 : a = a') : yuj a k = yuj a' k:=by rw [h2]
@[congr] theorem yKr {o : Nat} {s : St} {a a' b b' : AV} {k : AV → Prop} (h2 : a = a') (h3 : b = b') : yml o s a b k = yml o s a' b' k:=by rw [h2,h3]
@[congr] theorem yJp {o n : Nat} {a a' b b' : AV} {k : AV → Prop} (h2 : a = a') (h3 : b = b') : ysq o n a b k = ysq o n a' b' k:=by rw [h2,h3]
@[congr] theorem yLk {o : Nat} {s : St} {a a' : AV} {k : AV → Prop} (h2 : a = a') : ynl o s a k = ynl o s a' k:=by rw [h2]
@[congr] theorem yJ8 {s : St} {a a' : AV} {k : AV → Prop} (h2 : a = a') : ylo s a k = ylo s a' k:=by rw [h2]
@[congr] theorem yJh {o : Nat} {s : St} {a a' : AV} {k : AV → Prop} (h2 : a = a') : ykL o s a k = ykL o s a' k:=by rw [h2]
@[congr] theorem yIZ {s : St} {a a' b b' : AV} {k : St → Prop} (h2 : a = a') (h3 : b = b') : ylk s a b k = ylk s a' b' k:=by rw [h2,h3]
@[congr] theorem yKy {o : Nat} {s : St} {a a' b b' : AV} {k : St → Prop} (h2 : a = a') (h3 : b = b') : ypm o s a b k = ypm o s a' b' k:=by rw [h2,h3]
@[congr] theorem yJa {o : Nat} {s : St} {d : Option Nat} {a a' : AV} {k : St → Prop} (h2 : a = a') : yBg o s d a k = yBg o s d a' k:=by rw [h2]
@[congr] theorem yK7 {o n : Nat} {z : List C} {s : St} {d : Option Nat} {a a' b b' : AV} {k : St → Prop} (h2 : a = a') (h3 : b = b') : ywU o n z s d a b k = ywU o n z s d a' b' k:=by rw [h2,h3]
@[congr] theorem yJA {o : Nat} {s : St} {d : Option Nat} {a a' : List AV} {k : St → Prop} (h2 : a = a') : yrK o a s d k = yrK o a' s d k:=by rw [h2]
@[congr] theorem yJ7 {o : Nat} {a a' : AV} {l l' h h' m m' : Option AV} {k : AV → Prop} (h2 : a = a') (h3 : l = l') (h4 : h = h') (h5 : m = m') : ykZ o a l h m k = ykZ o a' l' h' m' k:=by rw [h2,h3,h4,h5]
@[congr] theorem yKn {o n : Nat} {s : St} {a a' b b' : AV} {k : AV → Prop} (h2 : a = a') (h3 : b = b') : yqT o n s a b k = yqT o n s a' b' k:=by rw [h2,h3]
@[congr] theorem yJ2 {s : St} {a a' : AV} {k : AV → Prop} (h2 : a = a') : yk1 s a k = yk1 s a' k:=by rw [h2]
@[congr] theorem yId {a a' : AV} {k : AV → Prop} (h2 : a = a') : yms a k = yms a' k:=by rw [h2]
@[congr] theorem yK2 {o n : Nat} {s : St} {d : Option Nat} {a a' b b' : AV} {k : St → Prop} (h2 : a = a') (h3 : b = b') : ymQ o n s d a b k = ymQ o n s d a' b' k:=by rw [h2,h3]
@[congr] theorem yMO {f : Int → Int → Int} {a a' : List AV} {k : AV → Prop} (h2 : a = a') : mmP f a k = mmP f a' k:=by rw [h2]
@[congr] theorem yKP {o : Nat} {a a' : AV} {k : AV → Prop} (h2 : a = a') : yr1 o a k = yr1 o a' k:=by rw [h2]
@[congr] theorem yI8 {a a' b b' : AV} {k : AV → Prop} (h2 : a = a') (h3 : b = b') : ysL a b k = ysL a' b' k:=by rw [h2,h3]
@[congr] theorem yGe {f f' : AV} {l l' : List AV} {d : Option Nat} {s : St} {K : St → Prop} (h : f = f') (h2 : l = l') : ymC P f l d s K = ymC P f' l' d s K:=by rw [h,h2]
@[congr] theorem yMZ {o : Nat} {s : St} {d : Option Nat} {a a' b b' : AV} {k : St → Prop} (h2 : a = a') (h3 : b = b') : cpP o s d a b k = cpP o s d a' b' k:=by rw [h2,h3]
@[congr] theorem yJd {a a' : AV} {k : AV → Prop} (h2 : a = a') : yvc a k = yvc a' k:=by rw [h2]
@[congr] theorem yJk {a a' : AV} {k : AV → Prop} (h2 : a = a') : yqy a k = yqy a' k:=by rw [h2]
@[congr] theorem yI5 {o : Bool} {a a' b b' : AV} {k : AV → Prop} (h2 : a = a') (h3 : b = b') : yrZ o a b k = yrZ o a' b' k:=by rw [h2,h3]
@[congr] theorem yHg {a a' b b' : AV} {k : AV → Prop} (h2 : a = a') (h3 : b = b') : ymF a b k = ymF a' b' k:=by rw [h2,h3]
@[congr] theorem yJZ {a a' : AV} {l l' h h' : Option AV} {k : AV → Prop} (h2 : a = a') (h3 : l = l') (h4 : h = h') : yq4 a l h k = yq4 a' l' h' k:=by rw [h2,h3,h4]
@[congr] theorem yLb {o : BinOp} {a a' b b' : AV} {k : AV → Prop} (h2 : a = a') (h3 : b = b') : ynz o a b k = ynz o a' b' k:=by rw [h2,h3]
@[congr] theorem yHR {o : BinOp} {a a' b b' : AV} {k : AV → Prop} (h2 : a = a') (h3 : b = b') : yfC o a b k = yfC o a' b' k:=by rw [h2,h3]
@[congr] theorem yHz {o : BinOp} {a a' b b' : AV} {k : AV → Prop} (h2 : a = a') (h3 : b = b') : ymj o a b k = ymj o a' b' k:=by rw [h2,h3]
@[congr] theorem yKm {o : Nat} {s : St} {a a' : AV} {k : AV → Prop} (h2 : a = a') : yfq o s a k = yfq o s a' k:=by rw [h2]
@[congr] theorem yFR {a a' : AV} {v : Bool} {A B : Prop} (h : a = a') : ydJ a v A B = ydJ a' v A B:=by rw [h]
@[congr] theorem yGZ {a a' : AV} {A B : Prop} (h : a = a') : yoA a A B = yoA a' A B:=by rw [h]
@[simp ↓] theorem yNP {s : St} {Q : Ex → St → Prop} : wpS P N .skip s Q = Q .normal s:=rfl
@[simp ↓] theorem wpS_reg {l : List Ins} {s : St} {Q : Ex → St → Prop} : wpS P N (.reg l) s Q = wpI P l s (Q .normal):=rfl
@[simp ↓] theorem yN7 {l : List Ins} {s : St} {Q : Ex → St → Prop} : wpS P N (.regq l) s Q = wpQ P l s (Q .normal):=rfl
@[simp ↓] theorem yMQ {l : List RIns} {s : St} {Q : Ex → St → Prop} : wpS P N (.rege l) s Q = wpE P 0 l [] s (Q .normal):=rfl
@[simp ↓] theorem wpS_seq {a b : SC} {s : St} {Q : Ex → St → Prop} : wpS P N (.seq a b) s Q = wpS P N a s (Ex.then (fun _ s'=>wpS P N b s' Q) Q):=rfl
@[simp ↓] theorem wpS_cond {x : X} {a b : SC} {s : St} {Q : Ex → St → Prop} : wpS P N (.cond x a b) s Q = yoA (s.ev x) (wpS P N a s Q) (wpS P N b s Q):=rfl
@[simp ↓] theorem yJc {n : Nat} {c : SC} {s : St} {Q : Ex → St → Prop} : wpS P N (.block n c) s Q = wpS P N c s (Ex.inBlock n Q):=rfl
@[simp ↓] theorem yOm {c : SC} {s : St} {Q : Ex → St → Prop} : wpS P N (.loop c) s Q = loopT P N c s Q ⟨⟩:=rfl
@[simp ↓] theorem yOb {n : Nat} {s : St} {Q : Ex → St → Prop} : wpS P N (.exit n) s Q = Q (.exit n) s:=rfl
@[simp ↓] theorem wpS_ret {s : St} {Q : Ex → St → Prop} : wpS P N .ret s Q = Q .ret s:=rfl
@[simp ↓] theorem yFP {Q Q' : Ex → St → Prop} {s : St} : Ex.then Q Q' .normal s = Q .normal s:=rfl
@[simp ↓] theorem yJs {Q Q' : Ex → St → Prop} {n : Nat} {s : St} : Ex.then Q Q' (.exit n) s = Q' (.exit n) s:=rfl
@[simp ↓] theorem yOh {Q Q' : Ex → St → Prop} {s : St} : Ex.then Q Q' .ret s = Q' .ret s:=rfl
@[simp ↓] theorem yD2 {Q : Ex → St → Prop} {n : Nat} {s : St} : Ex.inBlock n Q .normal s = Q .normal s:=rfl
@[simp ↓] theorem yFD {Q : Ex → St → Prop} {n : Nat} {s : St} : Ex.inBlock n Q .ret s = Q .ret s:=rfl
@[simp ↓] theorem yFq {Q : Ex → St → Prop} {n m : Nat} {s : St} : Ex.inBlock n Q (.exit m) s = if m = n then Q .normal s else Q (.exit m) s:=rfl
@[simp ↓] theorem wpI_nil {s : St} {K : St → Prop} : wpI P [] s K = K s:=rfl
@[simp ↓] theorem yL9 {d : Option Nat} {op : IOp} {l : List Ins} {s : St} {K : St → Prop} : wpI P (⟨none,d,op⟩ :: l) s K = yY P d op s fun s'=>wpI P l s' K:=rfl
def ydh (x : AV) (t : Nat) (want : Bool) (s : St) (A B : St → Prop) : Prop :=
 match x with
 | .c (.b v)=>(v = want → A (s.put (some t) (.c (.b want)))) ∧ (v = (!want) → B (s.put (some t) (.c (.b (!want)))))
 | .und=>B s
 | _=>False
theorem ypF {s : St} {t : Nat} {v : AV} (h : s.env t = v) : s.put (some t) v = s:=by
 obtain ⟨env,objs⟩:=s
 simp only [St.put]
 congr 1
 funext n
 unfold upd
 split
 ·rename_i e; subst e; exact h.symm
 ·rfl
theorem yqG {t : Nat} {want : Bool} {s : St} {A B : St → Prop} : ydJ (s.env t) want (A s) (B s) = ydh (s.env t) t want s A B:=by
 unfold ydJ ydh
 cases h : s.env t with
 | c x=>cases x with
  | b v =>
   apply propext
   constructor
   ·rintro ⟨h1,h2⟩
    exact ⟨fun e=>by rw [ypF (by rw [h,e])]; exact h1 e,fun e=>by rw [ypF (by rw [h,e])]; exact h2 e⟩
   ·rintro ⟨h1,h2⟩
    refine ⟨fun e=>?_,fun e=>?_⟩
    ·have:=h1 e; rwa [ypF (by rw [h,e])] at this
    ·have:=h2 e; rwa [ypF (by rw [h,e])] at this
  | _=>rfl
 | _=>rfl
@[congr] theorem yFG {a a' : AV} {t : Nat} {v : Bool} {s : St} {A B : St → Prop} (h : a = a') : ydh a t v s A B = ydh a' t v s A B:=by rw [h]
@[simp] theorem yNG {t : Nat} {v want : Bool} {s : St} {A B : St → Prop} : ydh (.c (.b v)) t want s A B = ((v = want → A (s.put (some t) (.c (.b want)))) ∧ (v = (!want) → B (s.put (some t) (.c (.b (!want)))))):=rfl
@[simp high] theorem yKL {t : Nat} {s : St} {A B : St → Prop} : ydh (.c (.b true)) t true s A B = A (s.put (some t) (.c (.b true))):=by simp [ydh]
@[simp high] theorem yKt {t : Nat} {s : St} {A B : St → Prop} : ydh (.c (.b true)) t false s A B = B (s.put (some t) (.c (.b true))):=by simp [ydh]
@[simp high] theorem yJe {t : Nat} {s : St} {A B : St → Prop} : ydh (.c (.b false)) t true s A B = B (s.put (some t) (.c (.b false))):=by simp [ydh]
@[simp high] theorem yKB {t : Nat} {s : St} {A B : St → Prop} : ydh (.c (.b false)) t false s A B = A (s.put (some t) (.c (.b false))):=by simp [ydh]
@[simp] theorem yIj {t : Nat} {want : Bool} {s : St} {A B : St → Prop} : ydh .und t want s A B = B s:=rfl
@[simp ↓] theorem yK3 {t : Nat} {v : Bool} {d : Option Nat} {op : IOp} {l : List Ins} {s : St} {K : St → Prop} :
 wpI P (⟨some (t,v),d,op⟩ :: l) s K = ydh (s.env t) t v s (fun s=>yY P d op s fun s'=>wpI P l s' K) (fun s=>wpI P l (s.put d .und) K) :=
 yqG (A:=fun s=>yY P d op s fun s'=>wpI P l s' K) (B:=fun s=>wpI P l (s.put d .und) K)
@[simp ↓] theorem wpQ_nil {s : St} {K : St → Prop} : wpQ P [] s K = K s:=rfl
@[simp ↓] theorem yOc {d : Option Nat} {op : IOp} {l : List Ins} {s : St} {K : St → Prop} : wpQ P (⟨none,d,op⟩ :: l) s K = yaI P op s.ev s.objs fun v=>wpQ P l (s.put d v) K:=rfl
@[simp ↓] theorem yKz {t : Nat} {v : Bool} {d : Option Nat} {op : IOp} {l : List Ins} {s : St} {K : St → Prop} :
 wpQ P (⟨some (t,v),d,op⟩ :: l) s K = ydh (s.env t) t v s (fun s=>yaI P op s.ev s.objs fun v=>wpQ P l (s.put d v) K) (fun s=>wpQ P l (s.put d .und) K):=by
 have e : wpQ P (⟨some (t,v),d,op⟩ :: l) s K = ydJ (s.env t) v (yaI P op s.ev s.objs fun v=>wpQ P l (s.put d v) K) (wpQ P l (s.put d .und) K):=rfl
 rw [e]
 exact yqG (A:=fun s=>yaI P op s.ev s.objs fun v=>wpQ P l (s.put d v) K) (B:=fun s=>wpQ P l (s.put d .und) K)
@[simp ↓] theorem wpE_nil {n : Nat} {h : List (Nat × Lab)} {s : St} {K : St → Prop} : wpE P n [] h s K = K s:=by simp only [wpE]
@[simp] theorem yKX {a0} : (IOp.mv a0).yag = false:=rfl
@[simp] theorem yIc {a0} : (IOp.neg a0).yag = false:=rfl
@[simp] theorem yHq {a0} : (IOp.isn a0).yag = false:=rfl
@[simp] theorem yGm {a0 a1} : (IOp.fld a0 a1).yag = false:=rfl
@[simp] theorem yHS {a0} : (IOp.ld1 a0).yag = false:=rfl
@[simp] theorem yHy {a0 a1} : (IOp.ldn a0 a1).yag = false:=rfl
@[simp] theorem yH1 {a0 a1} : (IOp.ext a0 a1).yag = false:=rfl
@[simp] theorem yGw {a0} : (IOp.len a0).yag = false:=rfl
@[simp] theorem yGg {a0} : (IOp.slen a0).yag = false:=rfl
@[simp] theorem yGU {a0} : (IOp.nck a0).yag = false:=rfl
@[simp] theorem yHE {a0} : (IOp.cap a0).yag = false:=rfl
@[simp] theorem yHB {a0 a1} : (IOp.cvt a0 a1).yag = false:=rfl
@[simp] theorem yGD {a0 a1 a2} : (IOp.seq a0 a1 a2).yag = false:=rfl
@[simp] theorem yFN {a0 a1} : (IOp.scat a0 a1).yag = false:=rfl
@[simp] theorem yGS {a0 a1 a2} : (IOp.bit a0 a1 a2).yag = false:=rfl
@[simp] theorem yFy {a0 a1 a2} : (IOp.binu a0 a1 a2).yag = false:=rfl
@[simp] theorem yGc {a0 a1 a2} : (IOp.binw a0 a1 a2).yag = false:=rfl
@[simp] theorem yHL {a0 a1 a2} : (IOp.bin a0 a1 a2).yag = false:=rfl
@[simp] theorem yGY {a0 a1 a2} : (IOp.beq a0 a1 a2).yag = false:=rfl
@[simp] theorem yIl {a0 a1} : (IOp.ixs a0 a1).yag = false:=rfl
@[simp] theorem yHK {a0 a1 a2} : (IOp.idx a0 a1 a2).yag = false:=rfl
@[simp] theorem yIm {a0 a1 a2 a3} : (IOp.ida a0 a1 a2 a3).yag = false:=rfl
@[simp] theorem yHU {a0 a1 a2 a3} : (IOp.sla a0 a1 a2 a3).yag = false:=rfl
@[simp] theorem yGi {a0 a1 a2} : (IOp.pick a0 a1 a2).yag = false:=rfl
@[simp] theorem yGu {a0 a1 a2} : (IOp.sls a0 a1 a2).yag = false:=rfl
@[simp] theorem yHx {a0 a1 a2 a3 a4} : (IOp.slc a0 a1 a2 a3 a4).yag = false:=rfl
@[simp] theorem yI1 {a0} : (IOp.mn a0).yag = false:=rfl
@[simp] theorem yKj {a0} : (IOp.mx a0).yag = false:=rfl
@[simp] theorem yH5 {a0 a1} : (IOp.mkf a0 a1).yag = false:=rfl
@[simp] theorem yHG {a0 a1} : (IOp.bld a0 a1).yag = false:=rfl
@[simp] theorem yHa {a0} : (IOp.not a0).yag = false:=rfl
theorem yDc {i : Ins} {s : St} {kN : St → Prop} (h : i.op.yag = false) : mkE P i s kN = False:=by
 obtain ⟨g,d,op⟩:=i
 unfold mkE
 split
 ·rename_i e; simp only at e h; rw [e] at h; cases h
 ·rfl
theorem mkE_g {p : Nat × Bool} {d : Option Nat} {op : IOp} {s : St} {kN : St → Prop} : mkE P ⟨some p,d,op⟩ s kN = False:=rfl
def ywE (P : Program) (f : Nat) (xs : List AV) (d : Option Nat) (s : St) (k : AV → Prop) (kN : St → Prop) (_ : Tag (k,kN)) : Prop :=
 yvL P f xs s.objs k ∨ match d with
  | some d=>∃ args res,ybg P f args res ∧ ych s xs args ∧ (res.closed ∨ xs.all AV.ydP = true) ∧ yZ s (res.ya0 d) ∧ kN (s.take d res)
  | none=>False
theorem yhG {f d : Nat} {xs args : List AV} {res : AV} {s : St} {k : AV → Prop} {kN : St → Prop} {T : Tag (k,kN)} (hp : ybg P f args res) (ho : ych s xs args) (hc : res.closed) (hfr : yZ s (res.ya0 d)) (hK : kN (s.take d res)) : ywE P f xs (some d) s k kN T :=
 .inr ⟨args,res,hp,ho,.inl hc,hfr,hK⟩
theorem yco {f : Nat} {d : Option Nat} {xs args : List AV} {res : AV} {s : St} {k : AV → Prop} {kN : St → Prop} {T : Tag (k,kN)} (hp : yE P f args res) (ho : ych s xs args) (hc : xs.all AV.ydP = true ∨ res.scalar = true) (hK : k res) : ywE P f xs d s k kN T :=
 .inl ⟨args,res,hp,by rw [ydV]; exact ho,hc,hK⟩
@[simp ↓] theorem wpE_q {n : Nat} {h : List (Nat × Lab)} {d : Option Nat} {op : IOp} {l : List RIns} {s : St} {K : St → Prop} (ho : op.yag = false) : wpE P n (⟨0,false,[],⟨none,d,op⟩⟩ :: l) h s K = yaI P op s.ev s.objs fun v=>wpE P (n + 1) l h (s.put d v) K:=by
 have e : wpE P n (⟨0,false,[],⟨none,d,op⟩⟩ :: l) h s K = ((yaI P op s.ev s.objs fun v=>true = true ∧ wpE P (n + 1) l h (s.put d v) K) ∨ mkE P ⟨none,d,op⟩ s fun s'=>true = true ∧ wpE P (n + 1) l h s' K):=by rw [wpE]; first | done | rfl
 rw [e,yDc ho]; simp only [true_and,or_false]
@[simp ↓ low] theorem wpE_qn {n : Nat} {nt : Bool} {chk : List Nat} {h : List (Nat × Lab)} {d : Option Nat} {op : IOp} {l : List RIns} {s : St} {K : St → Prop} (ho : op.yag = false) : wpE P n (⟨0,nt,chk,⟨none,d,op⟩⟩ :: l) h s K =
 yaI P op s.ev s.objs fun v=>ygo chk h (yfz ⟨none,d,op⟩ s v) = true ∧ wpE P (n + 1) l (ycg nt n (yfz ⟨none,d,op⟩ s v) h) (s.put d v) K:=by
 have e : wpE P n (⟨0,nt,chk,⟨none,d,op⟩⟩ :: l) h s K = ((yaI P op s.ev s.objs fun v=>ygo chk h (yfz ⟨none,d,op⟩ s v) = true ∧ wpE P (n + 1) l (ycg nt n (yfz ⟨none,d,op⟩ s v) h) (s.put d v) K) ∨ mkE P ⟨none,d,op⟩ s fun s'=>ygo chk h ([],true) = true ∧ wpE P (n + 1) l (ycg nt n ([],true) h) s' K):=by rw [wpE]; first | done | rfl
 rw [e,yDc ho,or_false]
@[simp ↓] theorem wpE_qc {n f : Nat} {h : List (Nat × Lab)} {d : Option Nat} {xs : List X} {l : List RIns} {s : St} {K : St → Prop} : wpE P n (⟨0,false,[],⟨none,d,.call f xs⟩⟩ :: l) h s K =
 ywE P f (xs.map s.ev) d s (fun v=>wpE P (n + 1) l h (s.put d v) K) (fun s'=>wpE P (n + 1) l h s' K) ⟨⟩:=by
 have e : wpE P n (⟨0,false,[],⟨none,d,.call f xs⟩⟩ :: l) h s K = ((yvL P f (xs.map s.ev) s.objs fun v=>true = true ∧ wpE P (n + 1) l h (s.put d v) K) ∨ mkE P ⟨none,d,.call f xs⟩ s fun s'=>true = true ∧ wpE P (n + 1) l h s' K):=by rw [wpE]; first | done | rfl
 rw [e]
 cases d <;> (unfold ywE mkE; simp only [true_and])
@[simp ↓] theorem wpE_qg {n : Nat} {nt : Bool} {chk : List Nat} {h : List (Nat × Lab)} {t : Nat} {b : Bool} {d : Option Nat} {op : IOp} {l : List RIns} {s : St} {K : St → Prop} : wpE P n (⟨0,nt,chk,⟨some (t,b),d,op⟩⟩ :: l) h s K =
 ydh (s.env t) t b s (fun s=>yaI P op s.ev s.objs fun v=>ygo chk h (yfz ⟨some (t,b),d,op⟩ s v) = true ∧ wpE P (n + 1) l (ycg nt n (yfz ⟨some (t,b),d,op⟩ s v) h) (s.put d v) K)
  (fun s=>ygo chk h (yfz ⟨some (t,b),d,op⟩ s .und) = true ∧ wpE P (n + 1) l (ycg nt n (yfz ⟨some (t,b),d,op⟩ s .und) h) (s.put d .und) K):=by
 have e : wpE P n (⟨0,nt,chk,⟨some (t,b),d,op⟩⟩ :: l) h s K = (ydJ (s.env t) b (yaI P op s.ev s.objs fun v=>ygo chk h (yfz ⟨some (t,b),d,op⟩ s v) = true ∧ wpE P (n + 1) l (ycg nt n (yfz ⟨some (t,b),d,op⟩ s v) h) (s.put d v) K)
  (ygo chk h (yfz ⟨some (t,b),d,op⟩ s .und) = true ∧ wpE P (n + 1) l (ycg nt n (yfz ⟨some (t,b),d,op⟩ s .und) h) (s.put d .und) K) ∨ mkE P ⟨some (t,b),d,op⟩ s fun s'=>ygo chk h ([],true) = true ∧ wpE P (n + 1) l (ycg nt n ([],true) h) s' K):=by rw [wpE]; first | done | rfl
 rw [e,mkE_g,or_false]
 exact yqG (A:=fun s=>yaI P op s.ev s.objs fun v=>ygo chk h (yfz ⟨some (t,b),d,op⟩ s v) = true ∧ wpE P (n + 1) l (ycg nt n (yfz ⟨some (t,b),d,op⟩ s v) h) (s.put d v) K)
  (B:=fun s=>ygo chk h (yfz ⟨some (t,b),d,op⟩ s .und) = true ∧ wpE P (n + 1) l (ycg nt n (yfz ⟨some (t,b),d,op⟩ s .und) h) (s.put d .und) K)
@[simp ↓] theorem wpE_m {n : Nat} {nt : Bool} {chk : List Nat} {h : List (Nat × Lab)} {i : Ins} {l : List RIns} {s : St} {K : St → Prop} : wpE P n (⟨1,nt,chk,i⟩ :: l) h s K =
 (ygo chk h (yBP i) = true ∧ ygB P i.d i.op s fun s'=>wpE P (n + 1) l (ycg nt n (yBP i) h) s' K):=by rw [wpE]; first | done | rfl
@[simp ↓] theorem wpE_e {n : Nat} {nt : Bool} {chk : List Nat} {h : List (Nat × Lab)} {g : Option (Nat × Bool)} {d : Option Nat} {op : IOp} {l : List RIns} {s : St} {K : St → Prop} (ho : op.yag = false) : wpE P n (⟨2,nt,chk,⟨g,d,op⟩⟩ :: l) h s K =
 (ygo chk h (ywS ⟨g,d,op⟩ s) = true ∧ yY P d op s fun s'=>wpE P (n + 1) l (ycg nt n (ywS ⟨g,d,op⟩ s) h) s' K):=by
 have e : wpE P n (⟨2,nt,chk,⟨g,d,op⟩⟩ :: l) h s K = if op.yag then yAO P ⟨g,d,op⟩ s fun lab s'=>ygo chk h lab = true ∧ wpE P (n + 1) l (ycg nt n lab h) s' K
  else ygo chk h (ywS ⟨g,d,op⟩ s) = true ∧ yY P d op s fun s'=>wpE P (n + 1) l (ycg nt n (ywS ⟨g,d,op⟩ s) h) s' K:=by rw [wpE]; first | done | rfl
 rw [e,if_neg (by simp [ho])]
@[simp] theorem yGs {a0 a1} : (IOp.st1 a0 a1).yag = false:=rfl
@[simp] theorem yG5 {a0 a1 a2} : (IOp.stn a0 a1 a2).yag = false:=rfl
@[simp] theorem yIs {a0 a1 a2 a3} : (IOp.app a0 a1 a2 a3).yag = false:=rfl
@[simp] theorem yKZ {a0 a1 a2} : (IOp.cp a0 a1 a2).yag = false:=rfl
@[simp] theorem yHl {a0 a1} : (IOp.bsl a0 a1).yag = false:=rfl
def turnT (P : Program) (f : Nat) (d : Option Nat) (xs : List X) (s : St) (K : Lab → St → Prop) (_ : Tag K) : Prop:=yAO P ⟨none,d,.call f xs⟩ s K
@[simp ↓] theorem wpE_t {n f : Nat} {nt : Bool} {chk : List Nat} {h : List (Nat × Lab)} {d : Option Nat} {xs : List X} {l : List RIns} {s : St} {K : St → Prop} : wpE P n (⟨2,nt,chk,⟨none,d,.call f xs⟩⟩ :: l) h s K =
 turnT P f d xs s (fun lab s'=>ygo chk h lab = true ∧ wpE P (n + 1) l (ycg nt n lab h) s' K) ⟨⟩:=by
 have e : wpE P n (⟨2,nt,chk,⟨none,d,.call f xs⟩⟩ :: l) h s K = if (IOp.call f xs).yag then yAO P ⟨none,d,.call f xs⟩ s fun lab s'=>ygo chk h lab = true ∧ wpE P (n + 1) l (ycg nt n lab h) s' K
  else ygo chk h (ywS ⟨none,d,.call f xs⟩ s) = true ∧ yY P d (.call f xs) s fun s'=>wpE P (n + 1) l (ycg nt n (ywS ⟨none,d,.call f xs⟩ s) h) s' K:=by rw [wpE]; first | done | rfl
 rw [e,if_pos (show (IOp.call f xs).yag = true from rfl)]; rfl
@[congr] theorem yH4 {d : Option Nat} {op op' : IOp} {s : St} {K : St → Prop} (h : op = op') : ygB P d op s K = ygB P d op' s K:=by rw [h]
@[congr] theorem yJt {k : Nat} {xs xs' : List AV} {s : St} {d : Option Nat} {K : St → Prop} (h : xs = xs') : yxi k xs s d K = yxi k xs' s d K:=by rw [h]
@[congr] theorem yF4 {f f' : AV} {l l' : List AV} {ob : Nat → Obj} {k : AV → Prop} (h : f = f') (h2 : l = l') : yll P f l ob k = yll P f' l' ob k:=by rw [h,h2]
@[simp ↓] theorem yGb {d : Option Nat} {s : St} {K : St → Prop} {zs : List AV} : ygB P d (.alloc zs) s K = newP s d (.box zs) (fun d=>.box d 0) K:=rfl
@[simp ↓] theorem yE3 {d : Option Nat} {s : St} {K : St → Prop} {n m : Nat} {z : List C} : ygB P d (.alloca n m z) s K = newP s d (.row n (List.replicate m z)) (fun d=>.row d n 0 0) K:=rfl
@[simp ↓] theorem yKH {d : Option Nat} {s : St} {K : St → Prop} {n b : Nat} {z : List C} {l c : X} : ygB P d (.mks n b z l c) s K = ywU n b z s d (s.ev l) (s.ev c) K:=rfl
@[simp ↓] theorem yI4 {d : Option Nat} {s : St} {K : St → Prop} {n : Nat} {xs : List X} : ygB P d (.bsl n xs) s K = yxi n (xs.map s.ev) s d K:=rfl
def yEr (k : Nat) (s : St) (d : Option Nat) (K : St → Prop) : Option (List (List C)) → Prop
 | some rows=>(∀ r ∈ rows,r.length = k) ∧ newP s d (.row k rows) (fun d=>.own d k rows.length) K
 | none=>False
@[congr] theorem yIL {k : Nat} {s : St} {d : Option Nat} {K : St → Prop} {o o' : Option (List (List C))} (h : o = o') : yEr k s d K o = yEr k s d K o':=by rw [h]
@[simp] theorem bslF_eq {k : Nat} {xs : List AV} {s : St} {d : Option Nat} {K : St → Prop} : yxi k xs s d K = yEr k s d K (AV.rowsOf xs):=by
 unfold yxi yEr; cases AV.rowsOf xs <;> rfl
@[simp] theorem yI9 {k : Nat} {s : St} {d : Option Nat} {K : St → Prop} {rows : List (List C)} : yEr k s d K (some rows) = ((∀ r ∈ rows,r.length = k) ∧ newP s d (.row k rows) (fun d=>.own d k rows.length) K):=rfl
@[simp ↓] theorem yJ0 {f : Nat} {l xs : List AV} {ob : Nat → Obj} {k : AV → Prop} : yll P (.fn f l) xs ob k = ((∃ fn,P.funcs[f]? = some fn ∧ fn.body.isSome = true ∧ (fn.name != "runtime.NumGoroutine") = true) ∧ yC3 P f (xs ++ l) ob k ⟨⟩):=rfl
@[simp] theorem noteL_f {n : Nat} {lab : Lab} {h : List (Nat × Lab)} : ycg false n lab h = h:=rfl
@[simp] theorem noteL_t {n : Nat} {lab : Lab} {h : List (Nat × Lab)} : ycg true n lab h = (n,lab) :: h:=rfl
@[simp] theorem yMs {lab : Lab} {h : List (Nat × Lab)} : ygo [] h lab = true:=rfl
@[simp] theorem yI0 {i : Nat} {l : List Nat} {lab : Lab} {h : List (Nat × Lab)} : ygo (i :: l) h lab = (yim (look ([],true) h i) lab && ygo l h lab):=rfl
@[simp] theorem yK5 {a b : Lab} : yim a b = ((a.1.all fun i=>!b.1.contains i) && b.2):=rfl
@[simp] theorem labM_eq {g : Option (Nat × Bool)} {d : Nat} {op : IOp} : yBP ⟨g,some d,op⟩ = ([2 * d,2 * d + 1],true):=rfl
@[simp] theorem yNe {i : Ins} {s : St} {v : AV} : yfz i s v = ((if ysO i.op s then [] else lw ((i.op.xs.map s.ev).flatMap AV.ids)) ++ lk ((v :: i.op.xs.map s.ev).flatMap AV.ids),(v :: i.op.xs.map s.ev).all AV.cl):=rfl
@[simp] theorem labE_eq {i : Ins} {s : St} : ywS i s = (lw (wOf i.op s ++ i.d.toList) ++ lk (kOf i.op s ++ i.d.toList),true):=rfl
@[simp] theorem lw_nil : lw [] = []:=rfl
@[simp] theorem lw_cons {i : Nat} {l : List Nat} : lw (i :: l) = 2 * i :: lw l:=rfl
@[simp] theorem lw_app {l l' : List Nat} : lw (l ++ l') = lw l ++ lw l':=List.map_append
@[simp] theorem lk_nil : lk [] = []:=rfl
@[simp] theorem lk_cons {i : Nat} {l : List Nat} : lk (i :: l) = (2 * i + 1) :: lk l:=rfl
@[simp] theorem lk_app {l l' : List Nat} : lk (l ++ l') = lk l ++ lk l':=List.map_append
attribute [simp] ysO AV.yqN yzH
@[simp] theorem kOf_st1 {s : St} {x v : X} : kOf (.st1 x v) s = if yqZ s (s.ev x) then (s.ev v).ids else []:=rfl
@[simp] theorem kOf_stn {s : St} {n : Nat} {x v : X} : kOf (.stn n x v) s = if yqZ s (s.ev x) then (s.ev v).ids else []:=rfl
@[simp] theorem kOf_cp {s : St} {k : Nat} {x v : X} : kOf (.cp k x v) s = []:=rfl
@[simp] theorem kOf_app {s : St} {k b : Nat} {x y : X} : kOf (.app k b x y) s = yzH (s.ev x) (wOf (.app k b x y) s):=rfl
@[simp] theorem kOf_bsl {s : St} {k : Nat} {xs : List X} : kOf (.bsl k xs) s = wOf (.bsl k xs) s:=rfl
def yzA (y : AV) : Option (List (List C)) → List Nat
 | some _=>[]
 | none=>y.ids
@[simp] theorem yFU {y : AV} {r : List (List C)} : yzA y (some r) = []:=rfl
@[simp] theorem yFv {y : AV} : yzA y none = y.ids:=rfl
@[simp] theorem wOf_app {s : St} {k b : Nat} {x y : X} : wOf (.app k b x y) s = (s.ev x).ids ++ yzA (s.ev y) (yaA s k (s.ev y)):=by
 simp only [wOf]; cases yaA s k (s.ev y) <;> rfl
@[simp] theorem wOf_st1 {s : St} {x v : X} : wOf (.st1 x v) s = (s.ev x).ids ++ (if yqZ s (s.ev x) then (s.ev v).ids else []):=rfl
@[simp] theorem wOf_stn {s : St} {n : Nat} {x v : X} : wOf (.stn n x v) s = (s.ev x).ids ++ (if yqZ s (s.ev x) then (s.ev v).ids else []):=rfl
@[simp] theorem wOf_cp {s : St} {k : Nat} {x v : X} : wOf (.cp k x v) s = (s.ev x).ids:=rfl
def yDY (k n id k' : Nat) (j h : Int) (K : AV → Prop) : Obj → Prop
 | .row _ rows=>k' = k ∧ j = 0 ∧ 0 ≤ h ∧ h ≤ rows.length ∧ rows.length = n ∧ K (.own id k h.toNat)
 | _=>False
@[congr] theorem yJr {k n id k' : Nat} {j h : Int} {K : AV → Prop} {o o' : Obj} (e : o = o') : yDY k n id k' j h K o = yDY k n id k' j h K o':=by rw [e]
@[simp] theorem yMo {k n : Nat} {s : St} {id k' : Nat} {j h : Int} {K : AV → Prop} : yqT k n s (.row id k' j 0) (.c (.i h)) K = yDY k n id k' j h K (s.ob id):=by
 simp only [yqT,yDY]; cases s.ob id <;> rfl
@[simp] theorem yNi {k n id k' q : Nat} {j h : Int} {K : AV → Prop} {rows : List (List C)} : yDY k n id k' j h K (.row q rows) = (k' = k ∧ j = 0 ∧ 0 ≤ h ∧ h ≤ rows.length ∧ rows.length = n ∧ K (.own id k h.toNat)):=rfl
@[simp] theorem yL1 {s : St} {id k o : Nat} {i : Int} : yqZ s (.row id k i o) = (s.ob id).tree:=rfl
@[simp] theorem yLv {s : St} {id o : Nat} : yqZ s (.box id o) = false:=rfl
@[simp] theorem yKK {s : St} {id ver : Nat} {i : Int} {j k : Nat} {i' : Int} {o : Nat} : yqZ s (.ydd id ver i j k i' o) = false:=rfl
@[simp] theorem yNx {k : Nat} {r : List (List C)} : (Obj.row k r).tree = false:=rfl
@[simp] theorem tree_tr {k v : Nat} {r : List (List C)} : (Obj.tr k v r).tree = true:=rfl
attribute [simp] IOp.xs
@[simp] theorem ids_any : AV.any.ids = []:=rfl
@[simp] theorem ids_und : AV.und.ids = []:=rfl
@[simp] theorem ids_c {x : C} : (AV.c x).ids = []:=rfl
@[simp] theorem ids_nil {k : Nat} : (AV.nil k).ids = []:=rfl
@[simp] theorem yNh {k : Nat} {r : List (List C)} : (AV.clip k r).ids = []:=rfl
@[simp] theorem ids_elt {r : List C} : (AV.elt r).ids = []:=rfl
@[simp] theorem ids_box {i o : Nat} : (AV.box i o).ids = [i]:=rfl
@[simp] theorem ids_row {i k o : Nat} {j : Int} : (AV.row i k j o).ids = [i]:=rfl
@[simp] theorem ids_own {i k n : Nat} : (AV.own i k n).ids = [i]:=rfl
@[simp] theorem ids_cut {i k l n : Nat} : (AV.cut i k l n).ids = [i]:=rfl
@[simp] theorem ids_sub {i ver : Nat} {n : Int} {j k m : Nat} : (AV.sub i ver n j k m).ids = [i]:=rfl
@[simp] theorem yL8 {i ver : Nat} {n : Int} {j k : Nat} {m : Int} {o : Nat} : (AV.ydd i ver n j k m o).ids = [i]:=rfl
@[simp] theorem ids_agg {l : List AV} : (AV.agg l).ids = l.flatMap AV.ybp:=rfl
@[simp] theorem ids_fn {f : Nat} {l : List AV} : (AV.fn f l).ids = l.flatMap AV.ybp:=rfl
@[simp] theorem ids_tup {l : List AV} : (AV.tup l).ids = l.flatMap AV.ycs:=rfl
@[simp] theorem yNK {l : List C} : (l.map AV.c).flatMap AV.ybp = []:=by
 rw [List.flatMap_eq_nil_iff]; intro x hx; obtain ⟨c,_,rfl⟩:=List.mem_map.1 hx; rfl
attribute [simp] AV.ybp AV.ya5 AV.ycs AV.cl AV.cl2 AV.cl1
@[simp] theorem cl1_map {l : List C} : (l.map AV.c).all AV.cl1 = true:=by
 rw [List.all_eq_true]; intro x hx; obtain ⟨c,_,rfl⟩:=List.mem_map.1 hx; rfl
@[simp] theorem yM3 {b want : Bool} {A B : Prop} : ydJ (.c (.b b)) want A B = ((b = want → A) ∧ (b = (!want) → B)):=rfl
@[simp] theorem yGj {want : Bool} {A B : Prop} : ydJ .und want A B = B:=rfl
@[simp high] theorem condP_t {A B : Prop} : yoA (.c (.b true)) A B = A:=by simp [yoA]
@[simp high] theorem condP_f {A B : Prop} : yoA (.c (.b false)) A B = B:=by simp [yoA]
@[simp] theorem condP_b {b : Bool} {A B : Prop} : yoA (.c (.b b)) A B = ((b = true → A) ∧ (b = false → B)):=rfl
section
variable {d : Option Nat} {s : St} {K : St → Prop} {ev : X → AV} {ob : Nat → Obj} {k : AV → Prop}
@[simp ↓] theorem step_mv {x : X} : yY P d (.mv x) s K = K (s.put d (s.ev x)):=rfl
@[simp ↓] theorem yJY {a b c : X} : yY P d (.pick a b c) s K = yiD (s.ev a) (s.ev b) (s.ev c) fun v=>K (s.put d v):=rfl
@[simp ↓] theorem yNo {o : BinOp} {a b : X} : yY P d (.bin o a b) s K = ytj o (s.ev a) (s.ev b) fun v=>K (s.put d v):=rfl
@[simp ↓] theorem yNq {o : Bool} {a b : X} : yY P d (.beq o a b) s K = yrD o (s.ev a) (s.ev b) fun v=>K (s.put d v):=rfl
@[simp ↓] theorem yLN {a : X} : yY P d (.isn a) s K = ywR (s.ev a) fun v=>K (s.put d v):=rfl
@[simp ↓] theorem yME {a : X} : yY P d (.not a) s K = notP (s.ev a) fun v=>K (s.put d v):=rfl
@[simp ↓] theorem yLX {a : X} : yY P d (.neg a) s K = yuj (s.ev a) fun v=>K (s.put d v):=rfl
@[simp ↓] theorem yNQ {n : Nat} {a b : X} : yY P d (.idx n a b) s K = yml n s (s.ev a) (s.ev b) fun v=>K (s.put d v):=rfl
@[simp ↓] theorem yOu {m n : Nat} {a b : X} : yY P d (.ida m n a b) s K = ysq m n (s.ev a) (s.ev b) fun v=>K (s.put d v):=rfl
@[simp ↓] theorem yLF {n : Nat} {a : X} : yY P d (.fld n a) s K = ynl n s (s.ev a) fun v=>K (s.put d v):=rfl
@[simp ↓] theorem yLP {a : X} : yY P d (.ld1 a) s K = ylo s (s.ev a) fun v=>K (s.put d v):=rfl
@[simp ↓] theorem yNO {n : Nat} {a : X} : yY P d (.ldn n a) s K = ykL n s (s.ev a) fun v=>K (s.put d v):=rfl
@[simp ↓] theorem yLr {a b : X} : yY P d (.st1 a b) s K = ylk s (s.ev a) (s.ev b) fun s'=>K (s'.put d .und):=rfl
@[simp ↓] theorem yLq {n : Nat} {a b : X} : yY P d (.stn n a b) s K = ypm n s (s.ev a) (s.ev b) fun s'=>K (s'.put d .und):=rfl
@[simp ↓] theorem yNd {n : Nat} {a : X} : yY P d (.box n a) s K = yBg n s d (s.ev a) K:=rfl
@[simp ↓] theorem yGk {zs : List AV} : yY P d (.alloc zs) s K = newP s d (.box zs) (fun d=>.box d 0) K:=rfl
@[simp ↓] theorem yFJ {n m : Nat} {z : List C} : yY P d (.alloca n m z) s K = newP s d (.row n (List.replicate m z)) (fun d=>.row d n 0 0) K:=rfl
@[simp ↓] theorem yM2 {n b : Nat} {z : List C} {l c : X} : yY P d (.mks n b z l c) s K = ywU n b z s d (s.ev l) (s.ev c) K:=rfl
@[simp ↓] theorem yNS {n : Nat} {xs : List X} : yY P d (.bsl n xs) s K = yrK n (xs.map s.ev) s d K:=rfl
@[simp ↓] theorem yN8 {zs : List AV} {ps : List (Nat × Nat × X)} : yY P d (.bld zs ps) s K = ygn s ps zs fun l=>K (s.put d (.agg l)):=rfl
@[simp ↓] theorem yNW {n : Nat} {x : X} {lo hi m : Option X} : yY P d (.slc n x lo hi m) s K = ykZ n (s.ev x) (lo.map s.ev) (hi.map s.ev) (m.map s.ev) fun v=>K (s.put d v):=rfl
@[simp ↓] theorem yOt {n m : Nat} {x h : X} : yY P d (.sla n m x h) s K = yqT n m s (s.ev x) (s.ev h) fun v=>K (s.put d v):=rfl
@[simp ↓] theorem yMA {x : X} : yY P d (.len x) s K = yk1 s (s.ev x) fun v=>K (s.put d v):=rfl
@[simp ↓] theorem yKi {x : X} : yY P d (.slen x) s K = yms (s.ev x) fun v=>K (s.put d v):=rfl
@[simp ↓] theorem yIV {n b : Nat} {z : List C} {x y : X} : yY P d (.appz n b z x y) s K = yv9 n b z s d (s.ev x) (s.ev y) K:=rfl
@[congr] theorem yHH {o n : Nat} {z : List C} {s : St} {d : Option Nat} {a a' b b' : AV} {k : St → Prop} (h2 : a = a') (h3 : b = b') : yv9 o n z s d a b k = yv9 o n z s d a' b' k:=by rw [h2,h3]
@[simp] theorem yML {k b : Nat} {z : List C} {s : St} {d : Option Nat} {j : Nat} {m : Int} {K : St → Prop} : yv9 k b z s d (.nil j) (.c (.i m)) K = (0 ≤ m ∧ m.toNat * b ≤ 140737488355328 ∧ newP s d (.row k (List.replicate m.toNat z)) (fun d=>.own d k m.toNat) K):=rfl
@[simp ↓] theorem yMi {n b : Nat} {x y : X} : yY P d (.app n b x y) s K = ymQ n b s d (s.ev x) (s.ev y) K:=rfl
@[simp ↓] theorem step_mn {xs : List X} : yY P d (.mn xs) s K = mmP (fun x y=>if y < x then y else x) (xs.map s.ev) fun v=>K (s.put d v):=rfl
@[simp ↓] theorem step_mx {xs : List X} : yY P d (.mx xs) s K = mmP (fun x y=>if x < y then y else x) (xs.map s.ev) fun v=>K (s.put d v):=rfl
@[simp ↓] theorem yMP {n : Nat} {x : X} : yY P d (.ext n x) s K = yr1 n (s.ev x) fun v=>K (s.put d v):=rfl
@[simp ↓] theorem yI2 {f : Nat} {xs : List X} : yY P d (.call f xs) s K = yFH P f (xs.map s.ev) d s K ⟨⟩:=rfl
@[simp ↓] theorem yMX {x i : X} : yY P d (.ixs x i) s K = ysL (s.ev x) (s.ev i) fun v=>K (s.put d v):=rfl
@[simp ↓] theorem yHi {f : X} {xs : List X} : yY P d (.callv f xs) s K = ymC P (s.ev f) (xs.map s.ev) d s K:=rfl
@[simp ↓] theorem step_cp {n : Nat} {a b : X} : yY P d (.cp n a b) s K = cpP n s d (s.ev a) (s.ev b) K:=rfl
@[simp ↓] theorem yLG {a : X} : yY P d (.cap a) s K = yvc (s.ev a) fun v=>K (s.put d v):=rfl
@[simp ↓] theorem yOd {a : X} : yY P d (.nck a) s K = yqy (s.ev a) fun v=>K (s.put d v):=rfl
@[simp ↓] theorem step_seq {o : Bool} {a b : X} : yY P d (.seq o a b) s K = yrZ o (s.ev a) (s.ev b) fun v=>K (s.put d v):=rfl
@[simp ↓] theorem yJM {a b : X} : yY P d (.scat a b) s K = ymF (s.ev a) (s.ev b) fun v=>K (s.put d v):=rfl
@[simp ↓] theorem yLL {x : X} {lo hi : Option X} : yY P d (.sls x lo hi) s K = yq4 (s.ev x) (lo.map s.ev) (hi.map s.ev) fun v=>K (s.put d v):=rfl
@[simp ↓] theorem yOo {o : BinOp} {a b : X} : yY P d (.bit o a b) s K = ynz o (s.ev a) (s.ev b) fun v=>K (s.put d v):=rfl
@[simp ↓] theorem yKc {o : BinOp} {a b : X} : yY P d (.binu o a b) s K = yfC o (s.ev a) (s.ev b) fun v=>K (s.put d v):=rfl
@[simp ↓] theorem yKC {o : BinOp} {a b : X} : yY P d (.binw o a b) s K = ymj o (s.ev a) (s.ev b) fun v=>K (s.put d v):=rfl
@[simp ↓] theorem yMN {n : Nat} {a : X} : yY P d (.cvt n a) s K = yfq n s (s.ev a) fun v=>K (s.put d v):=rfl
@[simp ↓] theorem yOq {f : Nat} {xs : List X} : yY P d (.mkf f xs) s K = ((xs.map s.ev).all AV.yaz = true ∧ K (s.put d (.fn f (xs.map s.ev)))):=rfl
@[simp ↓] theorem val_nck {a : X} : yaI P (.nck a) ev ob k = yqy (ev a) k:=rfl
@[simp ↓] theorem yLR {a : X} : yaI P (.cvt 0 a) ev ob k = yfq 0 (ycZ ob) (ev a) k:=rfl
@[simp ↓] theorem yMh {a : X} : yaI P (.cvt 1 a) ev ob k = yfq 1 (ycZ ob) (ev a) k:=rfl
@[simp ↓] theorem yM9 {a : X} : yaI P (.cvt 3 a) ev ob k = yfq 3 (ycZ ob) (ev a) k:=rfl
@[simp ↓] theorem val_seq {o : Bool} {a b : X} : yaI P (.seq o a b) ev ob k = yrZ o (ev a) (ev b) k:=rfl
@[simp ↓] theorem yNT {a b : X} : yaI P (.scat a b) ev ob k = ymF (ev a) (ev b) k:=rfl
@[simp ↓] theorem val_sls {x : X} {lo hi : Option X} : yaI P (.sls x lo hi) ev ob k = yq4 (ev x) (lo.map ev) (hi.map ev) k:=rfl
@[simp ↓] theorem val_bit {o : BinOp} {a b : X} : yaI P (.bit o a b) ev ob k = ynz o (ev a) (ev b) k:=rfl
@[simp ↓] theorem yMS {o : BinOp} {a b : X} : yaI P (.binu o a b) ev ob k = yfC o (ev a) (ev b) k:=rfl
@[simp ↓] theorem yMC {o : BinOp} {a b : X} : yaI P (.binw o a b) ev ob k = ymj o (ev a) (ev b) k:=rfl
@[simp ↓] theorem val_mkf {f : Nat} {xs : List X} : yaI P (.mkf f xs) ev ob k = ((xs.map ev).all AV.yaz = true ∧ k (.fn f (xs.map ev))):=rfl
@[simp ↓] theorem val_mv {x : X} : yaI P (.mv x) ev ob k = k (ev x):=rfl
@[simp ↓] theorem yNN {a b c : X} : yaI P (.pick a b c) ev ob k = yiD (ev a) (ev b) (ev c) k:=rfl
@[simp ↓] theorem val_bin {o : BinOp} {a b : X} : yaI P (.bin o a b) ev ob k = ytj o (ev a) (ev b) k:=rfl
@[simp ↓] theorem val_beq {o : Bool} {a b : X} : yaI P (.beq o a b) ev ob k = yrD o (ev a) (ev b) k:=rfl
@[simp ↓] theorem val_not {a : X} : yaI P (.not a) ev ob k = notP (ev a) k:=rfl
@[simp ↓] theorem val_neg {a : X} : yaI P (.neg a) ev ob k = yuj (ev a) k:=rfl
@[simp ↓] theorem val_idx {n : Nat} {a b : X} : yaI P (.idx n a b) ev ob k = yml n (ycZ ob) (ev a) (ev b) k:=rfl
@[simp ↓] theorem val_ida {m n : Nat} {a b : X} : yaI P (.ida m n a b) ev ob k = ysq m n (ev a) (ev b) k:=rfl
@[simp ↓] theorem val_fld {n : Nat} {a : X} : yaI P (.fld n a) ev ob k = ynl n (ycZ ob) (ev a) k:=rfl
@[simp ↓] theorem val_ld1 {a : X} : yaI P (.ld1 a) ev ob k = ylo (ycZ ob) (ev a) k:=rfl
@[simp ↓] theorem val_ldn {n : Nat} {a : X} : yaI P (.ldn n a) ev ob k = ykL n (ycZ ob) (ev a) k:=rfl
@[simp ↓] theorem val_slc {n : Nat} {x : X} {lo hi m : Option X} : yaI P (.slc n x lo hi m) ev ob k = ykZ n (ev x) (lo.map ev) (hi.map ev) (m.map ev) k:=rfl
@[simp ↓] theorem val_sla {m n : Nat} {x h : X} : yaI P (.sla m n x h) ev ob k = yqT m n (ycZ ob) (ev x) (ev h) k:=rfl
@[simp ↓] theorem val_len {x : X} : yaI P (.len x) ev ob k = yk1 (ycZ ob) (ev x) k:=rfl
@[simp ↓] theorem yMn {x : X} : yaI P (.slen x) ev ob k = yms (ev x) k:=rfl
@[simp ↓] theorem val_mn {xs : List X} : yaI P (.mn xs) ev ob k = mmP (fun x y=>if y < x then y else x) (xs.map ev) k:=rfl
@[simp ↓] theorem val_mx {xs : List X} : yaI P (.mx xs) ev ob k = mmP (fun x y=>if x < y then y else x) (xs.map ev) k:=rfl
@[simp ↓] theorem val_ext {n : Nat} {x : X} : yaI P (.ext n x) ev ob k = yr1 n (ev x) k:=rfl
@[simp ↓] theorem yNV {f : Nat} {xs : List X} : yaI P (.call f xs) ev ob k = yC3 P f (xs.map ev) ob k ⟨⟩:=rfl
@[simp ↓] theorem val_bld {zs : List AV} {ps : List (Nat × Nat × X)} : yaI P (.bld zs ps) ev ob k = ygn ⟨fun t=>ev (.t t),ob⟩ ps zs fun l=>k (.agg l):=rfl
@[simp ↓] theorem yJ3 {f : X} {xs : List X} : yaI P (.callv f xs) ev ob k = yll P (ev f) (xs.map ev) ob k:=rfl
@[simp ↓] theorem step_bad : yY P d .bad s K = False:=rfl
@[simp ↓] theorem val_ixs {x i : X} : yaI P (.ixs x i) ev ob k = ysL (ev x) (ev i) k:=rfl
end
@[simp] theorem ev_t {s : St} {n : Nat} : s.ev (.t n) = s.env n:=rfl
@[simp] theorem ev_k {s : St} {a : AV} : s.ev (.k a) = a:=rfl
@[simp] theorem yM1 {s : St} {v : AV} : s.put none v = s:=rfl
@[simp] theorem put_env {s : St} {d t : Nat} {v : AV} : (s.put (some d) v).env t = if t = d then v else s.env t:=rfl
attribute [simp] yaM
@[simp] theorem put_ob {s : St} {d : Option Nat} {id : Nat} {v : AV} : (s.put d v).ob id = s.ob id:=by cases d <;> rfl
@[simp] theorem yJV {s : St} {id t : Nat} {o : Obj} : (s.yaq id o).env t = s.env t:=rfl
@[simp] theorem yNA {s : St} {id i : Nat} {o : Obj} : (s.yaq id o).ob i = if i = id then o else s.ob i:=rfl
@[simp] theorem yH3 {s : St} {id i : Nat} {o : Obj} : (s.yaq id o).objs i = if i = id then o else s.objs i:=rfl
@[simp] theorem yKu {s : St} {id t : Nat} {o : Obj} : (s.renew id o).env t = (s.env t).kill id:=rfl
@[simp] theorem yNF {s : St} {id i : Nat} {o : Obj} : (s.renew id o).ob i = if i = id then o else (s.ob i).kill id:=rfl
@[simp] theorem yGK {s : St} {id i : Nat} {o : Obj} : (s.renew id o).objs i = if i = id then o else (s.objs i).kill id:=rfl
@[simp] theorem obSt_ob {f : Nat → Obj} {i : Nat} : (ycZ f).ob i = f i:=rfl
@[simp] theorem objs_ob {s : St} {i : Nat} : s.objs i = s.ob i:=rfl
@[simp] theorem yLU {L : List (Nat × AV)} {O : List (Nat × Obj)} {t : Nat} : (yT L O).env t = look .any L t:=rfl
@[simp] theorem stOf_ob {L : List (Nat × AV)} {O : List (Nat × Obj)} {t : Nat} : (yT L O).ob t = look .none O t:=rfl
@[simp] theorem yIi {l : List AV} {t : Nat} : (yq1 l).env t = (l[t]?).getD .any:=rfl
@[simp] theorem yJg {l : List AV} {t : Nat} : (yq1 l).ob t = .none:=rfl
@[simp] theorem mk_env {e : Nat → AV} {o : Nat → Obj} {t : Nat} : (St.mk e o).env t = e t:=rfl
@[simp] theorem mk_ob {e : Nat → AV} {o : Nat → Obj} {t : Nat} : (St.mk e o).ob t = o t:=rfl
@[simp] theorem look_nil {α : Type} {d : α} {t : Nat} : look d [] t = d:=rfl
@[simp] theorem yHZ {α : Type} {d v : α} {k t : Nat} {l : List (Nat × α)} : look d ((k,v) :: l) t = if t = k then v else look d l t:=rfl
@[simp] theorem upd_app {α : Type} {k : Nat} {v : α} {f : Nat → α} {n : Nat} : upd k v f n = if n = k then v else f n:=rfl
@[simp] theorem isNone_none : Obj.none.isNone = true:=rfl
@[simp] theorem yGQ {l : List AV} : (Obj.box l).isNone = false:=rfl
@[simp] theorem yIv {k : Nat} {l : List (List C)} : (Obj.row k l).isNone = false:=rfl
@[simp] theorem yKk {k v : Nat} {l : List (List C)} : (Obj.tr k v l).isNone = false:=rfl
@[simp] theorem yMb {s : St} {id t : Nat} : (s.drop id).env t = (s.env t).kill id:=rfl
@[simp] theorem drop_ob {s : St} {id i : Nat} : (s.drop id).ob i = if i = id then .none else (s.ob i).kill id:=rfl
@[simp] theorem yJn {s : St} {id i : Nat} : (s.drop id).objs i = if i = id then .none else (s.ob i).kill id:=rfl
@[simp] theorem yJ5 {s : St} : s.drops [] = s:=rfl
@[simp] theorem yHo {s : St} {i : Nat} {l : List Nat} : s.drops (i :: l) = (s.drop i).drops l:=rfl
@[simp ↓] theorem yIU {s : St} {d : Nat} {o : Obj} {v : Nat → AV} {K : St → Prop} : newP s (some d) o v K = ((s.ob d).isNone = true ∧ K ((s.yaq d o).put (some d) (v d))):=rfl
@[simp] theorem pickP_t {a b : AV} {k : AV → Prop} : yiD (.c (.b true)) a b k = k a:=by
 unfold yiD; simp only; split <;> simp
@[simp] theorem pickP_f {a b : AV} {k : AV → Prop} : yiD (.c (.b false)) a b k = k b:=by
 unfold yiD; simp only; split <;> simp
@[simp] theorem yJB {t x y : Bool} {k : AV → Prop} : yiD (.c (.b t)) (.c (.b x)) (.c (.b y)) k = k (.c (.b (cond t x y))):=rfl
@[simp] theorem binP_ii {o : BinOp} {a b : Int} {k : AV → Prop} : ytj o (.c (.i a)) (.c (.i b)) k = ypc o a b k:=rfl
@[simp] theorem yN2 {a b : Int} {k : AV → Prop} : ypc .add a b k = (inI (a + b) ∧ k (.c (.i (a + b)))):=rfl
@[simp] theorem yNY {a b : Int} {k : AV → Prop} : ypc .sub a b k = (inI (a - b) ∧ k (.c (.i (a - b)))):=rfl
@[simp] theorem yLS {a b : Int} {k : AV → Prop} : ypc .mul a b k = (inI (a * b) ∧ k (.c (.i (a * b)))):=rfl
@[simp] theorem yMU {a b : Int} {k : AV → Prop} : ypc .quo a b k = (b ≠ 0 ∧ inI (a.tdiv b) ∧ k (.c (.i (a.tdiv b)))):=rfl
@[simp] theorem yNz {a b : Int} {k : AV → Prop} : ypc .rem a b k = (b ≠ 0 ∧ inI (a.tmod b) ∧ k (.c (.i (a.tmod b)))):=rfl
@[simp] theorem yNI {a b : Int} {k : AV → Prop} : ypc .eql a b k = k (.c (.b (decide (a = b)))):=rfl
@[simp] theorem yNE {a b : Int} {k : AV → Prop} : ypc .neq a b k = k (.c (.b (!decide (a = b)))):=rfl
@[simp] theorem yMr {a b : Int} {k : AV → Prop} : ypc .lss a b k = k (.c (.b (decide (a < b)))):=rfl
@[simp] theorem yNa {a b : Int} {k : AV → Prop} : ypc .leq a b k = k (.c (.b (decide (a ≤ b)))):=rfl
@[simp] theorem yLJ {a b : Int} {k : AV → Prop} : ypc .gtr a b k = k (.c (.b (decide (b < a)))):=rfl
@[simp] theorem yMv {a b : Int} {k : AV → Prop} : ypc .geq a b k = k (.c (.b (decide (b ≤ a)))):=rfl
@[simp] theorem beqP_ff {a b : Bool} {k : AV → Prop} : yrD false (.c (.b a)) (.c (.b b)) k = k (.c (.b (decide (a = b)))):=rfl
@[simp] theorem beqP_tt {a b : Bool} {k : AV → Prop} : yrD true (.c (.b a)) (.c (.b b)) k = k (.c (.b (!decide (a = b)))):=rfl
@[simp] theorem notP_b {a : Bool} {k : AV → Prop} : notP (.c (.b a)) k = k (.c (.b !a)):=rfl
@[simp] theorem negP_i {a : Int} {k : AV → Prop} : yuj (.c (.i a)) k = (inI (-a) ∧ k (.c (.i (-a)))):=rfl
@[simp] theorem isnP_sl {n : Nat} {rows : List (List C)} {k : AV → Prop} : ywR (.c (.sl n rows)) k = ∀ v : Bool,(v = true → rows = []) → k (.c (.b v)):=rfl
@[simp] theorem yOk {n : Nat} {k : AV → Prop} : ywR (.nil n) k = k (.c (.b true)):=rfl
@[simp] theorem yNc {id q n : Nat} {k : AV → Prop} : ywR (.own id q n) k = ∀ v : Bool,(v = true → n = 0) → k (.c (.b v)):=rfl
@[simp] theorem idxP_sl {m m' : Nat} {rows : List (List C)} {n : Int} {s : St} {k : AV → Prop} : yml m s (.c (.sl m' rows)) (.c (.i n)) k = (m' = m ∧ 0 ≤ n ∧ n < rows.length ∧ k (.elt (rows.getD n.toNat []))):=rfl
@[simp] theorem yJP {m m' : Nat} {rows : List (List C)} {n : Int} {s : St} {k : AV → Prop} : yml m s (.clip m' rows) (.c (.i n)) k = (m' = m ∧ 0 ≤ n ∧ n < rows.length ∧ k (.elt (rows.getD n.toNat []))):=rfl
@[simp] theorem yLw {id m m' r : Nat} {n : Int} {s : St} {k : AV → Prop} : yml m s (.own id m' r) (.c (.i n)) k = (m' = m ∧ 0 ≤ n ∧ n < (r : Int) ∧ k (.row id m n 0)):=rfl
@[simp] theorem yLm {id m m' lo r : Nat} {n : Int} {s : St} {k : AV → Prop} : yml m s (.cut id m' lo r) (.c (.i n)) k = (m' = m ∧ 0 ≤ n ∧ n < (r : Int) ∧ k (.row id m (lo + n) 0)):=rfl
def yBn (m : Nat) (id ver : Nat) (i : Int) (j m' r : Nat) (n : Int) (k : AV → Prop) : Obj → Prop
 | .tr _ ver' _=>ver' = ver ∧ m' = m ∧ 0 ≤ n ∧ n < (r : Int) ∧ k (.ydd id ver i j m n 0)
 | _=>False
@[congr] theorem yJL {m id ver : Nat} {i : Int} {j m' r : Nat} {n : Int} {k : AV → Prop} {a a' : Obj} (h : a = a') : yBn m id ver i j m' r n k a = yBn m id ver i j m' r n k a':=by rw [h]
@[simp] theorem yMY {m id ver : Nat} {i : Int} {j m' r : Nat} {n : Int} {s : St} {k : AV → Prop} : yml m s (.sub id ver i j m' r) (.c (.i n)) k = yBn m id ver i j m' r n k (s.ob id):=by first | rfl | (simp only [yml,yBn]; done) | (simp only [yml,yBn]; rfl)
@[simp] theorem idxT_tr {m id ver k0 ver' : Nat} {i : Int} {j m' r : Nat} {n : Int} {rows : List (List C)} {k : AV → Prop} : yBn m id ver i j m' r n k (.tr k0 ver' rows) = (ver' = ver ∧ m' = m ∧ 0 ≤ n ∧ n < (r : Int) ∧ k (.ydd id ver i j m n 0)):=rfl
@[simp] theorem yMf {id m m' n : Nat} {j q : Int} {k : AV → Prop} : ysq m n (.row id m' j 0) (.c (.i q)) k = (m' = m ∧ j = 0 ∧ 0 ≤ q ∧ q < (n : Int) ∧ k (.row id m q 0)):=rfl
@[simp] theorem yOr {off id o : Nat} {s : St} {k : AV → Prop} : ynl off s (.box id o) k = k (.box id (o + off)):=rfl
@[simp] theorem yNt {off id m o : Nat} {i : Int} {s : St} {k : AV → Prop} : ynl off s (.row id m i o) k = k (.row id m i (o + off)):=rfl
@[simp] theorem yLp {off : Nat} {cs : List C} {s : St} {k : AV → Prop} : ynl off s (.elt cs) k = k (.elt (cs.drop off)):=rfl
def yCq (off id ver : Nat) (i : Int) (j q : Nat) (i' : Int) (o : Nat) (k : AV → Prop) : Obj → Prop
 | .tr _ ver' _=>ver' = ver ∧ k (.ydd id ver i j q i' (o + off))
 | _=>False
@[congr] theorem yK6 {off id ver : Nat} {i : Int} {j q : Nat} {i' : Int} {o : Nat} {k : AV → Prop} {a a' : Obj} (h : a = a') : yCq off id ver i j q i' o k a = yCq off id ver i j q i' o k a':=by rw [h]
@[simp] theorem yIP {off id ver : Nat} {i : Int} {j q : Nat} {i' : Int} {o : Nat} {s : St} {k : AV → Prop} : ynl off s (.ydd id ver i j q i' o) k = yCq off id ver i j q i' o k (s.ob id):=by first | rfl | (simp only [ynl,yCq]; done) | (simp only [ynl,yCq]; rfl)
@[simp] theorem fldT_tr {off id ver k0 ver' : Nat} {i : Int} {j q : Nat} {i' : Int} {o : Nat} {rows : List (List C)} {k : AV → Prop} : yCq off id ver i j q i' o k (.tr k0 ver' rows) = (ver' = ver ∧ k (.ydd id ver i j q i' (o + off))):=rfl
@[simp] theorem av_i {id ver : Nat} {i : Int} {j : Nat} {n : Int} : (C.i n).av id ver i j = .c (.i n):=rfl
@[simp] theorem av_b {id ver : Nat} {i : Int} {j : Nat} {n : Bool} : (C.b n).av id ver i j = .c (.b n):=rfl
@[simp] theorem av_u {id ver : Nat} {i : Int} {j : Nat} {n : Nat} : (C.u n).av id ver i j = .c (.u n):=rfl
@[simp] theorem av_q {id ver : Nat} {i : Int} {j : Nat} {n : Nat} : (C.q n).av id ver i j = .c (.q n):=rfl
@[simp] theorem av_s {id ver : Nat} {i : Int} {j : Nat} {n : ByteArray} : (C.s n).av id ver i j = .c (.s n):=rfl
@[simp] theorem av_sl {id ver : Nat} {i : Int} {j k : Nat} {r : List (List C)} : (C.sl k r).av id ver i j = .c (.sl k r):=rfl
@[simp] theorem av_ow {id ver : Nat} {i : Int} {j k : Nat} {r : List (List C)} : (C.ow k r).av id ver i j = .sub id ver i j k r.length:=rfl
@[simp] theorem av_ot {id ver : Nat} {i : Int} {j k : Nat} {r : List (List C)} : (C.ot k r).av id ver i j = .sub id ver i j k r.length:=rfl
@[simp] theorem av_jk {id ver : Nat} {i : Int} {j : Nat} : C.jk.av id ver i j = .any:=rfl
@[simp] theorem av2_i {n : Int} : (C.i n).av2 = .c (.i n):=rfl
@[simp] theorem av2_b {n : Bool} : (C.b n).av2 = .c (.b n):=rfl
@[simp] theorem av2_u {n : Nat} : (C.u n).av2 = .c (.u n):=rfl
@[simp] theorem av2_q {n : Nat} : (C.q n).av2 = .c (.q n):=rfl
@[simp] theorem av2_s {n : ByteArray} : (C.s n).av2 = .c (.s n):=rfl
@[simp] theorem av2_sl {k : Nat} {r : List (List C)} : (C.sl k r).av2 = .c (.sl k r):=rfl
@[simp] theorem avs_nil {id ver : Nat} {i : Int} {j : Nat} : avs id ver i j [] = []:=rfl
@[simp] theorem yMt {id ver : Nat} {i : Int} {j : Nat} {c : C} {l : List C} : avs id ver i j (c :: l) = c.av id ver i j :: avs id ver i (j + 1) l:=rfl
@[simp] theorem yJC {rows : List (List C)} {i j : Nat} : cellAt rows i j = (rows[i]?).bind (·[j]?):=by unfold cellAt; cases rows[i]? <;> rfl
@[simp] theorem yLo {s : St} {x : C} {cs : List C} {k : AV → Prop} : ylo s (.elt (x :: cs)) k = k (.c x):=rfl
@[simp] theorem yNp {n : Nat} {s : St} {cs : List C} {k : AV → Prop} : ykL n s (.elt cs) k = (n ≤ cs.length ∧ k (.agg ((cs.take n).map .c))):=rfl
def yvF (k : AV → Prop) (o : Nat) : Obj → Prop
 | .box cells=>match cells[o]? with
  | some v=>k v
  | none=>False
 | _=>False
@[congr] theorem yGF {o : Nat} {a a' : Obj} {k : AV → Prop} (h : a = a') : yvF k o a = yvF k o a':=by rw [h]
@[simp] theorem yLy {s : St} {id o : Nat} {k : AV → Prop} : ylo s (.box id o) k = yvF k o (s.ob id):=rfl
def yyC (k : AV → Prop) : Option AV → Prop | some v=>k v | none=>False
@[congr] theorem yKG {a a' : Option AV} {k : AV → Prop} (h : a = a') : yyC k a = yyC k a':=by rw [h]
@[simp] theorem yKv {v : AV} {k : AV → Prop} : yyC k (some v) = k v:=rfl
@[simp] theorem yJi {o : Nat} {cells : List AV} {k : AV → Prop} : yvF k o (.box cells) = yyC k cells[o]?:=by first | rfl | (simp only [yvF,yyC]; done) | (simp only [yvF,yyC]; rfl)
def yxv (k : AV → Prop) (n o : Nat) : Obj → Prop
 | .box cells=>o + n ≤ cells.length ∧ k (.agg ((cells.drop o).take n))
 | _=>False
@[congr] theorem yFE {n o : Nat} {a a' : Obj} {k : AV → Prop} (h : a = a') : yxv k n o a = yxv k n o a':=by rw [h]
@[simp] theorem yLQ {s : St} {id o n : Nat} {k : AV → Prop} : ykL n s (.box id o) k = yxv k n o (s.ob id):=rfl
@[simp] theorem yG4 {n o : Nat} {cells : List AV} {k : AV → Prop} : yxv k n o (.box cells) = (o + n ≤ cells.length ∧ k (.agg ((cells.drop o).take n))):=rfl
def ysJ (k : AV → Prop) (m : Nat) (i : Int) (o id : Nat) : Obj → Prop
 | .row k' rows=>k' = m ∧ i.toNat < rows.length ∧ o < m ∧ k (.c ((rows.getD i.toNat []).getD o default))
 | .tr k' ver rows=>k' = m ∧ i.toNat < rows.length ∧ o < m ∧ k (((rows.getD i.toNat []).getD o default).av id ver i o)
 | _=>False
@[congr] theorem yGA {m o id : Nat} {i : Int} {a a' : Obj} {k : AV → Prop} (h : a = a') : ysJ k m i o id a = ysJ k m i o id a':=by rw [h]
@[simp] theorem yNs {s : St} {id m o : Nat} {i : Int} {k : AV → Prop} : ylo s (.row id m i o) k = ysJ k m i o id (s.ob id):=by first | rfl | (simp only [ylo,ysJ]; done) | (simp only [ylo,ysJ]; rfl)
@[simp] theorem yNM {m m' ver o id : Nat} {i : Int} {rows : List (List C)} {k : AV → Prop} : ysJ k m i o id (.tr m' ver rows) = (m' = m ∧ i.toNat < rows.length ∧ o < m ∧ k (((rows.getD i.toNat []).getD o default).av id ver i o)):=rfl
@[simp] theorem yKw {m m' o id : Nat} {i : Int} {rows : List (List C)} {k : AV → Prop} : ysJ k m i o id (.row m' rows) = (m' = m ∧ i.toNat < rows.length ∧ o < m ∧ k (.c ((rows.getD i.toNat []).getD o default))):=rfl
def ypa (k : AV → Prop) (n m : Nat) (i : Int) (o id : Nat) : Obj → Prop
 | .row k' rows=>k' = m ∧ i.toNat < rows.length ∧ o + n ≤ m ∧ k (.agg ((((rows.getD i.toNat []).drop o).take n).map .c))
 | .tr k' ver rows=>k' = m ∧ i.toNat < rows.length ∧ o + n ≤ m ∧ k (.agg (avs id ver i o (((rows.getD i.toNat []).drop o).take n)))
 | _=>False
@[congr] theorem yFt {n m o id : Nat} {i : Int} {a a' : Obj} {k : AV → Prop} (h : a = a') : ypa k n m i o id a = ypa k n m i o id a':=by rw [h]
@[simp] theorem yMm {s : St} {id m o n : Nat} {i : Int} {k : AV → Prop} : ykL n s (.row id m i o) k = ypa k n m i o id (s.ob id):=by first | rfl | (simp only [ykL,ypa]; done) | (simp only [ykL,ypa]; rfl)
@[simp] theorem yKS {n m m' ver o id : Nat} {i : Int} {rows : List (List C)} {k : AV → Prop} : ypa k n m i o id (.tr m' ver rows) = (m' = m ∧ i.toNat < rows.length ∧ o + n ≤ m ∧ k (.agg (avs id ver i o (((rows.getD i.toNat []).drop o).take n)))):=rfl
def yy3 (k : AV → Prop) (ver q : Nat) (i : Int) (j : Nat) (i' : Int) (o : Nat) : Obj → Prop
 | .tr _ ver' rows=>ver' = ver ∧ match cellAt rows i.toNat j with
  | some (.ow k' rs)=>k' = q ∧ i'.toNat < rs.length ∧ o < q ∧ k (.c ((rs.getD i'.toNat []).getD o default))
  | some (.ot k' rs)=>k' = q ∧ i'.toNat < rs.length ∧ o < q ∧ k ((rs.getD i'.toNat []).getD o default).av2
  | _=>False
 | _=>False
@[congr] theorem yIF {ver q : Nat} {i : Int} {j : Nat} {i' : Int} {o : Nat} {a a' : Obj} {k : AV → Prop} (h : a = a') : yy3 k ver q i j i' o a = yy3 k ver q i j i' o a':=by rw [h]
@[simp] theorem yKq {s : St} {id ver q : Nat} {i : Int} {j : Nat} {i' : Int} {o : Nat} {k : AV → Prop} : ylo s (.ydd id ver i j q i' o) k = yy3 k ver q i j i' o (s.ob id):=by first | rfl | (simp only [ylo,yy3]; done) | (simp only [ylo,yy3]; rfl)
def srC (k : AV → Prop) (q : Nat) (i' : Int) (o : Nat) : Option C → Prop
 | some (.ow k' rs)=>k' = q ∧ i'.toNat < rs.length ∧ o < q ∧ k (.c ((rs.getD i'.toNat []).getD o default))
 | some (.ot k' rs)=>k' = q ∧ i'.toNat < rs.length ∧ o < q ∧ k ((rs.getD i'.toNat []).getD o default).av2
 | _=>False
@[congr] theorem yLx {q : Nat} {i' : Int} {o : Nat} {a a' : Option C} {k : AV → Prop} (h : a = a') : srC k q i' o a = srC k q i' o a':=by rw [h]
@[simp] theorem srLd_tr {k0 ver' ver q : Nat} {i : Int} {j : Nat} {i' : Int} {o : Nat} {rows : List (List C)} {k : AV → Prop} : yy3 k ver q i j i' o (.tr k0 ver' rows) = (ver' = ver ∧ srC k q i' o (cellAt rows i.toNat j)):=by first | rfl | (simp only [yy3,srC]; done) | (simp only [yy3,srC]; rfl)
@[simp] theorem srC_ow {k' q : Nat} {i' : Int} {o : Nat} {rs : List (List C)} {k : AV → Prop} : srC k q i' o (some (.ow k' rs)) = (k' = q ∧ i'.toNat < rs.length ∧ o < q ∧ k (.c ((rs.getD i'.toNat []).getD o default))):=rfl
@[simp] theorem srC_ot {k' q : Nat} {i' : Int} {o : Nat} {rs : List (List C)} {k : AV → Prop} : srC k q i' o (some (.ot k' rs)) = (k' = q ∧ i'.toNat < rs.length ∧ o < q ∧ k ((rs.getD i'.toNat []).getD o default).av2):=rfl
def yrm (k : AV → Prop) (n ver q : Nat) (i : Int) (j : Nat) (i' : Int) (o : Nat) : Obj → Prop
 | .tr _ ver' rows=>ver' = ver ∧ match cellAt rows i.toNat j with
  | some (.ow k' rs)=>k' = q ∧ i'.toNat < rs.length ∧ o + n ≤ q ∧ k (.agg ((((rs.getD i'.toNat []).drop o).take n).map .c))
  | some (.ot k' rs)=>k' = q ∧ i'.toNat < rs.length ∧ o + n ≤ q ∧ k (.agg ((((rs.getD i'.toNat []).drop o).take n).map C.av2))
  | _=>False
 | _=>False
@[congr] theorem yG7 {n ver q : Nat} {i : Int} {j : Nat} {i' : Int} {o : Nat} {a a' : Obj} {k : AV → Prop} (h : a = a') : yrm k n ver q i j i' o a = yrm k n ver q i j i' o a':=by rw [h]
@[simp] theorem yLd {s : St} {n id ver q : Nat} {i : Int} {j : Nat} {i' : Int} {o : Nat} {k : AV → Prop} : ykL n s (.ydd id ver i j q i' o) k = yrm k n ver q i j i' o (s.ob id):=by first | rfl | (simp only [ykL,yrm]; done) | (simp only [ykL,yrm]; rfl)
def yAo (k : AV → Prop) (n q : Nat) (i' : Int) (o : Nat) : Option C → Prop
 | some (.ow k' rs)=>k' = q ∧ i'.toNat < rs.length ∧ o + n ≤ q ∧ k (.agg ((((rs.getD i'.toNat []).drop o).take n).map .c))
 | some (.ot k' rs)=>k' = q ∧ i'.toNat < rs.length ∧ o + n ≤ q ∧ k (.agg ((((rs.getD i'.toNat []).drop o).take n).map C.av2))
 | _=>False
@[congr] theorem yI3 {n q : Nat} {i' : Int} {o : Nat} {a a' : Option C} {k : AV → Prop} (h : a = a') : yAo k n q i' o a = yAo k n q i' o a':=by rw [h]
@[simp] theorem yL5 {n k0 ver' ver q : Nat} {i : Int} {j : Nat} {i' : Int} {o : Nat} {rows : List (List C)} {k : AV → Prop} : yrm k n ver q i j i' o (.tr k0 ver' rows) = (ver' = ver ∧ yAo k n q i' o (cellAt rows i.toNat j)):=by first | rfl | (simp only [yrm,yAo]; done) | (simp only [yrm,yAo]; rfl)
@[simp] theorem srCn_ow {n k' q : Nat} {i' : Int} {o : Nat} {rs : List (List C)} {k : AV → Prop} : yAo k n q i' o (some (.ow k' rs)) = (k' = q ∧ i'.toNat < rs.length ∧ o + n ≤ q ∧ k (.agg ((((rs.getD i'.toNat []).drop o).take n).map .c))):=rfl
@[simp] theorem srCn_ot {n k' q : Nat} {i' : Int} {o : Nat} {rs : List (List C)} {k : AV → Prop} : yAo k n q i' o (some (.ot k' rs)) = (k' = q ∧ i'.toNat < rs.length ∧ o + n ≤ q ∧ k (.agg ((((rs.getD i'.toNat []).drop o).take n).map C.av2))):=rfl
@[simp] theorem yGO {n m m' o id : Nat} {i : Int} {rows : List (List C)} {k : AV → Prop} : ypa k n m i o id (.row m' rows) = (m' = m ∧ i.toNat < rows.length ∧ o + n ≤ m ∧ k (.agg ((((rows.getD i.toNat []).drop o).take n).map .c))):=rfl
def yAJ (K : St → Prop) (s : St) (id o : Nat) (v : AV) : Obj → Prop
 | .box cells=>o < cells.length ∧ v.yaz = true ∧ K (s.yaq id (.box (cells.set o v)))
 | _=>False
@[congr] theorem yIq {s : St} {id o : Nat} {v : AV} {a a' : Obj} {K : St → Prop} (h : a = a') : yAJ K s id o v a = yAJ K s id o v a':=by rw [h]
@[simp] theorem yOg {s : St} {id o : Nat} {v : AV} {K : St → Prop} : ylk s (.box id o) v K = yAJ K s id o v (s.ob id):=rfl
@[simp] theorem yI6 {s : St} {id o : Nat} {v : AV} {cells : List AV} {K : St → Prop} : yAJ K s id o v (.box cells) = (o < cells.length ∧ v.yaz = true ∧ K (s.yaq id (.box (cells.set o v)))):=rfl
def ymZ (K : St → Prop) (s : St) (id m : Nat) (i : Int) (o : Nat) (v : AV) : Obj → Prop
 | .row k' rows=>match v.toC with
  | some c=>k' = m ∧ i.toNat < rows.length ∧ o < m ∧ K (s.yaq id (.row m (rows.set i.toNat ((rows.getD i.toNat []).set o c))))
  | none=>False
 | .tr k' ver rows=>match pk1 s v with
  | some (c,ids)=>k' = m ∧ i.toNat < rows.length ∧ o < m ∧ ids.Nodup ∧ id ∉ ids ∧ K ((s.drops ids).yaq id (.tr m (ver + 1) (setAt rows i.toNat o c)))
  | none=>False
 | _=>False
@[congr] theorem yIt {s : St} {id m o : Nat} {i : Int} {v : AV} {a a' : Obj} {K : St → Prop} (h : a = a') : ymZ K s id m i o v a = ymZ K s id m i o v a':=by rw [h]
@[simp] theorem yLD {s : St} {id m o : Nat} {i : Int} {v : AV} {K : St → Prop} : ylk s (.row id m i o) v K = ymZ K s id m i o v (s.ob id):=by first | rfl | (simp only [ylk,ymZ]; done) | (simp only [ylk,ymZ]; rfl)
@[simp] theorem yII {s : St} {id m m' o : Nat} {i : Int} {c : C} {rows : List (List C)} {K : St → Prop} : ymZ K s id m i o (.c c) (.row m' rows) = (m' = m ∧ i.toNat < rows.length ∧ o < m ∧ K (s.yaq id (.row m (rows.set i.toNat ((rows.getD i.toNat []).set o c))))):=rfl
@[simp] theorem yHc {s : St} {id m m' o n : Nat} {i : Int} {rows : List (List C)} {K : St → Prop} : ymZ K s id m i o (.nil n) (.row m' rows) = (m' = m ∧ i.toNat < rows.length ∧ o < m ∧ K (s.yaq id (.row m (rows.set i.toNat ((rows.getD i.toNat []).set o (.sl n [])))))):=rfl
@[simp] theorem yID {s : St} {id m m' o n : Nat} {i : Int} {rows r : List (List C)} {K : St → Prop} : ymZ K s id m i o (.clip n r) (.row m' rows) = (m' = m ∧ i.toNat < rows.length ∧ o < m ∧ K (s.yaq id (.row m (rows.set i.toNat ((rows.getD i.toNat []).set o (.sl n r)))))):=rfl
def yB5 (K : St → Prop) (s : St) (id m : Nat) (i : Int) (o m' ver : Nat) (rows : List (List C)) : Option (C × List Nat) → Prop
 | some (c,ids)=>m' = m ∧ i.toNat < rows.length ∧ o < m ∧ ids.Nodup ∧ id ∉ ids ∧ K ((s.drops ids).yaq id (.tr m (ver + 1) (setAt rows i.toNat o c)))
 | none=>False
@[congr] theorem yKh {s : St} {id m m' ver o : Nat} {i : Int} {rows : List (List C)} {K : St → Prop} {a a' : Option (C × List Nat)} (h : a = a') : yB5 K s id m i o m' ver rows a = yB5 K s id m i o m' ver rows a':=by rw [h]
@[simp] theorem yMH {s : St} {id m m' ver o : Nat} {i : Int} {v : AV} {rows : List (List C)} {K : St → Prop} : ymZ K s id m i o v (.tr m' ver rows) = yB5 K s id m i o m' ver rows (pk1 s v):=by first | rfl | (simp only [ymZ,yB5]; done) | (simp only [ymZ,yB5]; rfl)
@[simp] theorem yKd {s : St} {id m m' ver o : Nat} {i : Int} {rows : List (List C)} {c : C} {ids : List Nat} {K : St → Prop} : yB5 K s id m i o m' ver rows (some (c,ids)) = (m' = m ∧ i.toNat < rows.length ∧ o < m ∧ ids.Nodup ∧ id ∉ ids ∧ K ((s.drops ids).yaq id (.tr m (ver + 1) (setAt rows i.toNat o c)))):=rfl
@[simp] theorem plain_i {n : Int} : (C.i n).plain = true:=rfl
@[simp] theorem plain_b {n : Bool} : (C.b n).plain = true:=rfl
@[simp] theorem plain_u {n : Nat} : (C.u n).plain = true:=rfl
@[simp] theorem plain_q {n : Nat} : (C.q n).plain = true:=rfl
@[simp] theorem plain_s {n : ByteArray} : (C.s n).plain = true:=rfl
@[simp] theorem yLC {k : Nat} {r : List (List C)} : (C.sl k r).plain = true:=rfl
@[simp] theorem pk1_c {s : St} {x : C} : pk1 s (.c x) = if x.plain then some (x,[]) else none:=rfl
@[simp] theorem yNX {s : St} {k : Nat} {r : List (List C)} : pk1 s (.clip k r) = some (.sl k r,[]):=rfl
@[simp] theorem pk1_nil {s : St} {k : Nat} : pk1 s (.nil k) = some (.sl k [],[]):=rfl
def pkO (k id n : Nat) : Obj → Option (C × List Nat)
 | .row k' rows=>if k' = k then some (.ow k (rows.take n),[id]) else none
 | .tr k' _ rows=>if k' = k then some (.ot k (rows.take n),[id]) else none
 | _=>none
@[simp] theorem pk1_own {s : St} {id k n : Nat} : pk1 s (.own id k n) = pkO k id n (s.ob id):=by first | rfl | (simp only [pk1,pkO]; done) | (simp only [pk1,pkO]; rfl)
@[simp] theorem pkO_row {k id n k' : Nat} {rows : List (List C)} : pkO k id n (.row k' rows) = if k' = k then some (.ow k (rows.take n),[id]) else none:=rfl
@[simp] theorem pkO_tr {k id n k' ver : Nat} {rows : List (List C)} : pkO k id n (.tr k' ver rows) = if k' = k then some (.ot k (rows.take n),[id]) else none:=rfl
@[simp] theorem pkl_nil {s : St} : pkl s [] = some ([],[]):=rfl
@[simp] theorem yNJ {s : St} {x : AV} {l : List AV} : pkl s (x :: l) = (pk1 s x).bind fun p=>(pkl s l).map fun q=>(p.1 :: q.1,p.2 ++ q.2):=by
 simp only [pkl]; cases pk1 s x <;> cases pkl s l <;> rfl
@[simp] theorem pkl_map {s : St} {l : List C} (h : l.all C.plain = true) : pkl s (l.map .c) = some (l,[]):=by
 induction l with
 | nil=>rfl
 | cons x l ih =>
  simp only [List.all_cons,Bool.and_eq_true] at h
  simp [ih h.2,h.1]
@[simp] theorem pks_nil {s : St} : pks s [] = some ([],[]):=rfl
@[simp] theorem yOj {s : St} {x : AV} {l : List AV} : pks s (x :: l) = (pkl s x.cellsOf).bind fun p=>(pks s l).map fun q=>(p.1 :: q.1,p.2 ++ q.2):=by
 simp only [pks]; cases pkl s x.cellsOf <;> cases pks s l <;> rfl
def yyj (K : St → Prop) (s : St) (id ver q : Nat) (i : Int) (j : Nat) (i' : Int) (o : Nat) (v : AV) : Obj → Prop
 | .tr k0 ver' rows=>ver' = ver ∧ match cellAt rows i.toNat j with
  | some (.ow k' rs)=>match v.toC with
   | some c=>k' = q ∧ i'.toNat < rs.length ∧ o < q ∧ K (s.yaq id (.tr k0 (ver + 1) (setAt rows i.toNat j (.ow q (setAt rs i'.toNat o c)))))
   | none=>False
  | _=>False
 | _=>False
@[congr] theorem yK0 {s : St} {id ver q : Nat} {i : Int} {j : Nat} {i' : Int} {o : Nat} {v : AV} {a a' : Obj} {K : St → Prop} (h : a = a') : yyj K s id ver q i j i' o v a = yyj K s id ver q i j i' o v a':=by rw [h]
@[simp] theorem yJI {s : St} {id ver q : Nat} {i : Int} {j : Nat} {i' : Int} {o : Nat} {v : AV} {K : St → Prop} : ylk s (.ydd id ver i j q i' o) v K = yyj K s id ver q i j i' o v (s.ob id):=by first | rfl | (simp only [ylk,yyj]; done) | (simp only [ylk,yyj]; rfl)
def ywb (K : St → Prop) (s : St) (id ver q k0 : Nat) (rows : List (List C)) (i : Int) (j : Nat) (i' : Int) (o : Nat) (c : C) : Option C → Prop
 | some (.ow k' rs)=>k' = q ∧ i'.toNat < rs.length ∧ o < q ∧ K (s.yaq id (.tr k0 (ver + 1) (setAt rows i.toNat j (.ow q (setAt rs i'.toNat o c)))))
 | _=>False
@[congr] theorem yHP {s : St} {id ver q k0 : Nat} {rows : List (List C)} {i : Int} {j : Nat} {i' : Int} {o : Nat} {c : C} {K : St → Prop} {a a' : Option C} (h : a = a') : ywb K s id ver q k0 rows i j i' o c a = ywb K s id ver q k0 rows i j i' o c a':=by rw [h]
@[simp] theorem srSt_tr {s : St} {id ver q k0 ver' : Nat} {i : Int} {j : Nat} {i' : Int} {o : Nat} {c : C} {rows : List (List C)} {K : St → Prop} : yyj K s id ver q i j i' o (.c c) (.tr k0 ver' rows) = (ver' = ver ∧ ywb K s id ver q k0 rows i j i' o c (cellAt rows i.toNat j)):=by first | rfl | (simp only [yyj,ywb,AV.toC]; done) | (simp only [yyj,ywb,AV.toC]; rfl)
@[simp] theorem yLl {s : St} {id ver q k0 k' : Nat} {rows rs : List (List C)} {i : Int} {j : Nat} {i' : Int} {o : Nat} {c : C} {K : St → Prop} : ywb K s id ver q k0 rows i j i' o c (some (.ow k' rs)) = (k' = q ∧ i'.toNat < rs.length ∧ o < q ∧ K (s.yaq id (.tr k0 (ver + 1) (setAt rows i.toNat j (.ow q (setAt rs i'.toNat o c)))))):=rfl
def yxx (K : St → Prop) (s : St) (id o n : Nat) (l : List AV) : Obj → Prop
 | .box cells=>o + n ≤ cells.length ∧ l.all AV.yaz = true ∧ K (s.yaq id (.box (cells.take o ++ l ++ cells.drop (o + n))))
 | _=>False
@[congr] theorem yGd {s : St} {id o n : Nat} {l : List AV} {a a' : Obj} {K : St → Prop} (h : a = a') : yxx K s id o n l a = yxx K s id o n l a':=by rw [h]
@[simp] theorem yLT {s : St} {id o n : Nat} {l : List AV} {K : St → Prop} : ypm n s (.box id o) (.agg l) K = (l.length = n ∧ yxx K s id o n l (s.ob id)):=rfl
@[simp] theorem yG0 {s : St} {id o n : Nat} {l cells : List AV} {K : St → Prop} : yxx K s id o n l (.box cells) = (o + n ≤ cells.length ∧ l.all AV.yaz = true ∧ K (s.yaq id (.box (cells.take o ++ l ++ cells.drop (o + n))))):=rfl
def yiB (K : St → Prop) (s : St) (id m : Nat) (i : Int) (o n : Nat) (l : List AV) : Obj → Prop
 | .row k' rows=>match AV.yfy l with
  | some cs=>k' = m ∧ i.toNat < rows.length ∧ o + n ≤ m ∧ K (s.yaq id (.row m (rows.set i.toNat ((rows.getD i.toNat []).take o ++ cs ++ (rows.getD i.toNat []).drop (o + n)))))
  | none=>False
 | .tr k' ver rows=>match pkl s l with
  | some (cs,ids)=>k' = m ∧ i.toNat < rows.length ∧ o + n ≤ m ∧ ids.Nodup ∧ id ∉ ids ∧ K ((s.drops ids).yaq id (.tr m (ver + 1) (rows.set i.toNat ((rows.getD i.toNat []).take o ++ cs ++ (rows.getD i.toNat []).drop (o + n)))))
  | none=>False
 | _=>False
@[congr] theorem yF5 {s : St} {id m o n : Nat} {i : Int} {l : List AV} {a a' : Obj} {K : St → Prop} (h : a = a') : yiB K s id m i o n l a = yiB K s id m i o n l a':=by rw [h]
@[simp] theorem yLV {s : St} {id m o n : Nat} {i : Int} {l : List AV} {K : St → Prop} : ypm n s (.row id m i o) (.agg l) K = (l.length = n ∧ yiB K s id m i o n l (s.ob id)):=by first | rfl | (simp only [ypm,yiB]; done) | (simp only [ypm,yiB]; rfl)
def yqS (K : St → Prop) (s : St) (id m : Nat) (i : Int) (o n m' : Nat) (rows : List (List C)) : Option (List C) → Prop
 | some cs=>m' = m ∧ i.toNat < rows.length ∧ o + n ≤ m ∧ K (s.yaq id (.row m (rows.set i.toNat ((rows.getD i.toNat []).take o ++ cs ++ (rows.getD i.toNat []).drop (o + n)))))
 | none=>False
@[congr] theorem yFw {s : St} {id m m' o n : Nat} {i : Int} {rows : List (List C)} {K : St → Prop} {a a' : Option (List C)} (h : a = a') : yqS K s id m i o n m' rows a = yqS K s id m i o n m' rows a':=by rw [h]
@[simp] theorem yG9 {s : St} {id m m' o n : Nat} {i : Int} {l : List AV} {rows : List (List C)} {K : St → Prop} : yiB K s id m i o n l (.row m' rows) = yqS K s id m i o n m' rows (AV.yfy l):=by first | rfl | (simp only [yiB,yqS]; done) | (simp only [yiB,yqS]; rfl)
@[simp] theorem yGf {s : St} {id m m' o n : Nat} {i : Int} {cs : List C} {rows : List (List C)} {K : St → Prop} : yqS K s id m i o n m' rows (some cs) =
 (m' = m ∧ i.toNat < rows.length ∧ o + n ≤ m ∧ K (s.yaq id (.row m (rows.set i.toNat ((rows.getD i.toNat []).take o ++ cs ++ (rows.getD i.toNat []).drop (o + n)))))):=rfl
def yvT (K : St → Prop) (s : St) (id m : Nat) (i : Int) (o n m' ver : Nat) (rows : List (List C)) : Option (List C × List Nat) → Prop
 | some (cs,ids)=>m' = m ∧ i.toNat < rows.length ∧ o + n ≤ m ∧ ids.Nodup ∧ id ∉ ids ∧ K ((s.drops ids).yaq id (.tr m (ver + 1) (rows.set i.toNat ((rows.getD i.toNat []).take o ++ cs ++ (rows.getD i.toNat []).drop (o + n)))))
 | none=>False
@[congr] theorem yHj {s : St} {id m m' ver o n : Nat} {i : Int} {rows : List (List C)} {K : St → Prop} {a a' : Option (List C × List Nat)} (h : a = a') : yvT K s id m i o n m' ver rows a = yvT K s id m i o n m' ver rows a':=by rw [h]
@[simp] theorem yJ6 {s : St} {id m m' ver o n : Nat} {i : Int} {l : List AV} {rows : List (List C)} {K : St → Prop} : yiB K s id m i o n l (.tr m' ver rows) = yvT K s id m i o n m' ver rows (pkl s l):=by first | rfl | (simp only [yiB,yvT]; done) | (simp only [yiB,yvT]; rfl)
@[simp] theorem yHn {s : St} {id m m' ver o n : Nat} {i : Int} {cs : List C} {ids : List Nat} {rows : List (List C)} {K : St → Prop} : yvT K s id m i o n m' ver rows (some (cs,ids)) =
 (m' = m ∧ i.toNat < rows.length ∧ o + n ≤ m ∧ ids.Nodup ∧ id ∉ ids ∧ K ((s.drops ids).yaq id (.tr m (ver + 1) (rows.set i.toNat ((rows.getD i.toNat []).take o ++ cs ++ (rows.getD i.toNat []).drop (o + n)))))):=rfl
@[simp] theorem yN1 : AV.yfy [] = some []:=rfl
@[simp] theorem toCs_c {x : C} {l : List AV} : AV.yfy (.c x :: l) = (AV.yfy l).map (x :: ·):=by simp only [AV.yfy,AV.toC]; cases AV.yfy l <;> rfl
@[simp] theorem toCs_n {n : Nat} {l : List AV} : AV.yfy (.nil n :: l) = (AV.yfy l).map (.sl n [] :: ·):=by simp only [AV.yfy,AV.toC]; cases AV.yfy l <;> rfl
@[simp] theorem toCs_cl {n : Nat} {r : List (List C)} {l : List AV} : AV.yfy (.clip n r :: l) = (AV.yfy l).map (.sl n r :: ·):=by simp only [AV.yfy,AV.toC]; cases AV.yfy l <;> rfl
@[simp] theorem yNm {a b c : Nat} {l : List AV} : AV.yfy (.own a b c :: l) = none:=by first | rfl | (simp only [AV.yfy,AV.toC]; done) | (simp only [AV.yfy,AV.toC]; rfl)
@[simp] theorem yM5 {l : List C} : AV.yfy (l.map .c) = some l:=by
 induction l with
 | nil=>rfl
 | cons x l ih=>simp [ih]
@[simp] theorem yCV {l : List C} : (l.map AV.c).all AV.yaz = true:=by simp [List.all_eq_true]; intro x _; rfl
@[simp] theorem yMz {x : C} : (AV.c x).yaz = true:=rfl
@[simp] theorem yH7 {n : Nat} : (AV.nil n).yaz = true:=rfl
@[simp] theorem yF8 {n : Nat} {r : List (List C)} : (AV.clip n r).yaz = true:=rfl
@[simp] theorem yGP {a b : Nat} : (AV.box a b).yaz = true:=rfl
@[simp] theorem yG8 {a b o : Nat} {i : Int} : (AV.row a b i o).yaz = true:=rfl
@[simp] theorem yGR {cs : List C} : (AV.elt cs).yaz = true:=rfl
@[simp] theorem yIC {a b c : Nat} : (AV.own a b c).yaz = true:=rfl
@[simp] theorem yFW {l : List AV} : (AV.agg l).cellsOf = l:=rfl
@[simp] theorem yKf {x : C} : (AV.c x).cellsOf = [.c x]:=rfl
@[simp] theorem cellsOf_nil {n : Nat} : (AV.nil n).cellsOf = [.nil n]:=rfl
@[simp] theorem yEQ {n : Nat} {r : List (List C)} : (AV.clip n r).cellsOf = [.clip n r]:=rfl
@[simp] theorem yFX {a b : Nat} : (AV.box a b).cellsOf = [.box a b]:=rfl
@[simp] theorem yFZ {a b c : Nat} : (AV.own a b c).cellsOf = [.own a b c]:=rfl
@[simp ↓] theorem boxP_eq {n : Nat} {s : St} {d : Option Nat} {x : AV} {K : St → Prop} : yBg n s d x K = (x.cellsOf.length = n ∧ x.cellsOf.all AV.yaz = true ∧ newP s d (.box x.cellsOf) (fun d=>.box d 0) K):=rfl
@[simp] theorem mksP_eq {k b : Nat} {z : List C} {s : St} {d : Option Nat} {n m : Int} {K : St → Prop} : ywU k b z s d (.c (.i n)) (.c (.i m)) K =
 (0 ≤ n ∧ n ≤ m ∧ (b : Int) * m ≤ 281474976710656 ∧ newP s d (.row k (List.replicate n.toNat z)) (fun d=>.own d k n.toNat) K):=rfl
def yxI (k : Nat) (s : St) (d : Option Nat) (K : St → Prop) (xs : List AV) : Option (List (List C)) → Prop
 | some rows=>(∀ r ∈ rows,r.length = k) ∧ newP s d (.row k rows) (fun d=>.own d k rows.length) K
 | none=>match pks s xs with
  | some (rows,ids)=>(∀ r ∈ rows,r.length = k) ∧ ids.Nodup ∧ newP (s.drops ids) d (.tr k 0 rows) (fun d=>.own d k rows.length) K
  | none=>False
@[congr] theorem yJq {k : Nat} {s : St} {d : Option Nat} {K : St → Prop} {xs : List AV} {a a' : Option (List (List C))} (h : a = a') : yxI k s d K xs a = yxI k s d K xs a':=by rw [h]
@[simp] theorem bslP_eq {k : Nat} {xs : List AV} {s : St} {d : Option Nat} {K : St → Prop} : yrK k xs s d K = yxI k s d K xs (AV.rowsOf xs):=by unfold yrK yxI; cases AV.rowsOf xs <;> rfl
@[simp] theorem yLi {k : Nat} {s : St} {d : Option Nat} {K : St → Prop} {xs : List AV} {rows : List (List C)} : yxI k s d K xs (some rows) = ((∀ r ∈ rows,r.length = k) ∧ newP s d (.row k rows) (fun d=>.own d k rows.length) K):=rfl
def yBl (k : Nat) (s : St) (d : Option Nat) (K : St → Prop) : Option (List (List C) × List Nat) → Prop
 | some (rows,ids)=>(∀ r ∈ rows,r.length = k) ∧ ids.Nodup ∧ newP (s.drops ids) d (.tr k 0 rows) (fun d=>.own d k rows.length) K
 | none=>False
@[congr] theorem yKT {k : Nat} {s : St} {d : Option Nat} {K : St → Prop} {a a' : Option (List (List C) × List Nat)} (h : a = a') : yBl k s d K a = yBl k s d K a':=by rw [h]
@[simp] theorem yIW {k : Nat} {s : St} {d : Option Nat} {K : St → Prop} {xs : List AV} : yxI k s d K xs none = yBl k s d K (pks s xs):=by first | rfl | (simp only [yxI,yBl]; done) | (simp only [yxI,yBl]; rfl)
@[simp] theorem yK8 {k : Nat} {s : St} {d : Option Nat} {K : St → Prop} {rows : List (List C)} {ids : List Nat} : yBl k s d K (some (rows,ids)) = ((∀ r ∈ rows,r.length = k) ∧ ids.Nodup ∧ newP (s.drops ids) d (.tr k 0 rows) (fun d=>.own d k rows.length) K):=rfl
@[simp] theorem yHv : AV.rowsOf [] = some []:=rfl
@[simp] theorem yFT {x : AV} {l : List AV} : AV.rowsOf (x :: l) = (x.rowOf).bind fun r=>(AV.rowsOf l).map (r :: ·):=by
 simp only [AV.rowsOf]; cases x.rowOf <;> cases AV.rowsOf l <;> rfl
@[simp] theorem rowOf_c {x : C} : (AV.c x).rowOf = some [x]:=rfl
@[simp] theorem yKa {n : Nat} : (AV.nil n).rowOf = some [.sl n []]:=rfl
@[simp] theorem yKI {a b c : Nat} : (AV.own a b c).rowOf = none:=rfl
@[simp] theorem yJX {l : List AV} : (AV.agg l).rowOf = AV.yfy l:=rfl
@[simp] theorem slcP_1 {k k' : Nat} {rows : List (List C)} {l h : Int} {K : AV → Prop} : ykZ k (.c (.sl k' rows)) (some (.c (.i l))) (some (.c (.i h))) none K = (k' = k ∧ 0 ≤ l ∧ l ≤ h ∧ h ≤ rows.length ∧ K (.c (.sl k ((rows.take h.toNat).drop l.toNat)))):=rfl
@[simp] theorem slcP_2 {k k' : Nat} {rows : List (List C)} {l : Int} {K : AV → Prop} : ykZ k (.c (.sl k' rows)) (some (.c (.i l))) none none K = (k' = k ∧ 0 ≤ l ∧ l ≤ rows.length ∧ K (.c (.sl k (rows.drop l.toNat)))):=rfl
@[simp] theorem slcP_3 {k k' : Nat} {rows : List (List C)} {h : Int} {K : AV → Prop} : ykZ k (.c (.sl k' rows)) none (some (.c (.i h))) none K = (k' = k ∧ 0 ≤ h ∧ h ≤ rows.length ∧ K (.c (.sl k (rows.take h.toNat)))):=rfl
@[simp] theorem slcP_4 {k k' : Nat} {rows : List (List C)} {h m : Int} {K : AV → Prop} : ykZ k (.c (.sl k' rows)) none (some (.c (.i h))) (some (.c (.i m))) K = (k' = k ∧ 0 ≤ h ∧ h = m ∧ h ≤ rows.length ∧ K (.clip k (rows.take h.toNat))):=rfl
@[simp] theorem slcP_5 {k k' id n : Nat} {h : Int} {K : AV → Prop} : ykZ k (.own id k' n) none (some (.c (.i h))) none K = (k' = k ∧ 0 ≤ h ∧ h ≤ (n : Int) ∧ K (.own id k h.toNat)):=rfl
@[simp] theorem slcP_6 {k k' id n : Nat} {l : Int} {K : AV → Prop} : ykZ k (.own id k' n) (some (.c (.i l))) none none K = (k' = k ∧ 0 ≤ l ∧ l ≤ (n : Int) ∧ K (.cut id k l.toNat (n - l.toNat))):=rfl
@[simp] theorem slcP_7 {k k' id n : Nat} {l h : Int} {K : AV → Prop} : ykZ k (.own id k' n) (some (.c (.i l))) (some (.c (.i h))) none K = (k' = k ∧ 0 ≤ l ∧ l ≤ h ∧ h ≤ (n : Int) ∧ K (.cut id k l.toNat (h.toNat - l.toNat))):=rfl
@[simp] theorem slcP_8 {k n : Nat} {h : Int} {K : AV → Prop} : ykZ k (.nil n) none (some (.c (.i h))) none K = (h = 0 ∧ K (.nil k)):=rfl
@[simp] theorem slcP_9 {k n : Nat} {h m : Int} {K : AV → Prop} : ykZ k (.nil n) none (some (.c (.i h))) (some (.c (.i m))) K = (h = 0 ∧ m = 0 ∧ K (.nil k)):=rfl
@[simp] theorem yMR {s : St} {id k lo n : Nat} {K : AV → Prop} : yk1 s (.cut id k lo n) K = (n ≤ maxLen → K (.c (.i n))):=rfl
def yCh (ver n : Nat) (K : AV → Prop) : Obj → Prop
 | .tr _ ver' _=>ver' = ver ∧ (n ≤ maxLen → K (.c (.i n)))
 | _=>False
@[congr] theorem yIN {ver n : Nat} {K : AV → Prop} {a a' : Obj} (h : a = a') : yCh ver n K a = yCh ver n K a':=by rw [h]
@[simp] theorem yMW {s : St} {id ver : Nat} {i : Int} {j k n : Nat} {K : AV → Prop} : yk1 s (.sub id ver i j k n) K = yCh ver n K (s.ob id):=by first | rfl | (simp only [yk1,yCh]; done) | (simp only [yk1,yCh]; rfl)
@[simp] theorem lenT_tr {ver n k0 ver' : Nat} {rows : List (List C)} {K : AV → Prop} : yCh ver n K (.tr k0 ver' rows) = (ver' = ver ∧ (n ≤ maxLen → K (.c (.i n)))):=rfl
@[simp] theorem lenP_sl {k : Nat} {rows : List (List C)} {s : St} {K : AV → Prop} : yk1 s (.c (.sl k rows)) K = (rows.length ≤ maxLen → K (.c (.i rows.length))):=rfl
@[simp] theorem yLf {k : Nat} {rows : List (List C)} {s : St} {K : AV → Prop} : yk1 s (.clip k rows) K = (rows.length ≤ maxLen → K (.c (.i rows.length))):=rfl
@[simp] theorem yMI {id k n : Nat} {s : St} {K : AV → Prop} : yk1 s (.own id k n) K = (n ≤ maxLen → K (.c (.i n))):=rfl
@[simp] theorem yMk {s : St} {n : Nat} {K : AV → Prop} : yk1 s (.nil n) K = K (.c (.i 0)):=rfl
@[simp] theorem slenP_s {bs : ByteArray} {K : AV → Prop} : yms (.c (.s bs)) K = (bs.size ≤ maxLen → K (.c (.i bs.size))):=rfl
def mmK (f : Int → Int → Int) (K : AV → Prop) : Option (List Int) → Prop
 | some (n :: r)=>K (.c (.i (r.foldl f n)))
 | _=>False
@[congr] theorem yNb {f : Int → Int → Int} {K : AV → Prop} {a a' : Option (List Int)} (h : a = a') : mmK f K a = mmK f K a':=by rw [h]
@[simp] theorem mmP_eq {f : Int → Int → Int} {l : List AV} {K : AV → Prop} : mmP f l K = mmK f K (intsOf l):=rfl
@[simp] theorem yN0 {f : Int → Int → Int} {n : Int} {r : List Int} {K : AV → Prop} : mmK f K (some (n :: r)) = K (.c (.i (r.foldl f n))):=rfl
@[simp] theorem yHO : intsOf [] = some []:=rfl
@[simp] theorem yFK {n : Int} {l : List AV} : intsOf (.c (.i n) :: l) = (intsOf l).map (n :: ·):=rfl
@[simp] theorem yLA {i : Nat} {l : List AV} {K : AV → Prop} : yr1 i (.tup l) K = yyC K l[i]?:=by unfold yr1 yyC; simp only; cases l[i]? <;> rfl
@[simp] theorem ixsP_eq {bs : ByteArray} {n : Int} {K : AV → Prop} : ysL (.c (.s bs)) (.c (.i n)) K = (0 ≤ n ∧ n < bs.size ∧ K (.c (.u (bs[n.toNat]?.getD 0).toNat))):=rfl
def yqD (k by_ : Nat) (s : St) (d : Option Nat) (x : AV) (K : St → Prop) (new : List (List C)) : Prop :=
 match x with
  | .nil _=>new.length * by_ ≤ 140737488355328 ∧ newP s d (.row k new) (fun d=>.own d k new.length) K
  | .clip k' rows=>k' = k ∧ (0 < new.length ∨ rows.length = 0) ∧ (rows.length + new.length) * by_ ≤ 140737488355328 ∧ newP s d (.row k (rows ++ new)) (fun d=>.own d k (rows.length + new.length)) K
  | .own id k' n=>match s.ob id with
   | .row _ rows=>k' = k ∧ n = rows.length ∧ (rows.length + new.length) * by_ ≤ 140737488355328 ∧
    K ((s.renew id (.row k (rows ++ new))).put d (.own id k (rows.length + new.length)))
   | .tr _ _ rows=>k' = k ∧ n = rows.length ∧ (rows.length + new.length) * by_ ≤ 140737488355328 ∧
    K ((s.renew id (.tr k 0 (rows ++ new))).put d (.own id k (rows.length + new.length)))
   | _=>False
  | .sub id ver i j k' n=>match s.ob id with
   | .tr k0 ver' rows=>ver' = ver ∧ match cellAt rows i.toNat j with
    | some (.ow k2 rs)=>k' = k ∧ k2 = k ∧ (rs.length + new.length) * by_ ≤ 140737488355328 ∧ match d with
     | some d=>(s.ob d).isNone = true ∧ K (((s.yaq id (.tr k0 (ver + 1) (setAt rows i.toNat j .jk))).renew d (.row k (rs ++ new))).put (some d) (.own d k (rs.length + new.length)))
     | none=>False
    | some (.ot k2 rs)=>k' = k ∧ k2 = k ∧ (rs.length + new.length) * by_ ≤ 140737488355328 ∧ match d with
     | some d=>(s.ob d).isNone = true ∧ K (((s.yaq id (.tr k0 (ver + 1) (setAt rows i.toNat j .jk))).renew d (.tr k 0 (rs ++ new))).put (some d) (.own d k (rs.length + new.length)))
     | none=>False
    | _=>False
   | _=>False
  | _=>False
def appG (k by_ : Nat) (s : St) (d : Option Nat) (x : AV) (K : St → Prop) (y : AV) : Option (List (List C)) → Prop
 | some new=>yqD k by_ s d x K new
 | none=>match yhl s k y with
  | some (idy,new)=>match x with
   | .nil _=>new.length * by_ ≤ 140737488355328 ∧ newP (s.drop idy) d (.tr k 0 new) (fun d=>.own d k new.length) K
   | .own id k' n=>id ≠ idy ∧ match s.ob id with
    | .row _ rows=>k' = k ∧ n = rows.length ∧ (rows.length + new.length) * by_ ≤ 140737488355328 ∧
     K (((s.drop idy).renew id (.tr k 0 (rows ++ new))).put d (.own id k (rows.length + new.length)))
    | .tr _ _ rows=>k' = k ∧ n = rows.length ∧ (rows.length + new.length) * by_ ≤ 140737488355328 ∧
     K (((s.drop idy).renew id (.tr k 0 (rows ++ new))).put d (.own id k (rows.length + new.length)))
    | _=>False
   | _=>False
  | none=>False
@[congr] theorem yJF {k b : Nat} {s : St} {d : Option Nat} {x y : AV} {K : St → Prop} {a a' : Option (List (List C))} (h : a = a') : appG k b s d x K y a = appG k b s d x K y a':=by rw [h]
@[simp] theorem yMF {k b : Nat} {s : St} {d : Option Nat} {x y : AV} {K : St → Prop} : ymQ k b s d x y K = appG k b s d x K y (yaA s k y):=by
 unfold ymQ appG yqD
 cases yaA s k y with
 | none=>rfl
 | some new=>cases x <;> rfl
@[congr] theorem yJw {k b : Nat} {s : St} {d : Option Nat} {x x' : AV} {K : St → Prop} {new : List (List C)} (h : x = x') : yqD k b s d x K new = yqD k b s d x' K new:=by rw [h]
@[simp] theorem yI7 {k b : Nat} {s : St} {d : Option Nat} {x y : AV} {K : St → Prop} {new : List (List C)} : appG k b s d x K y (some new) = yqD k b s d x K new:=rfl
@[simp] theorem yNU {k b q : Nat} {s : St} {d : Option Nat} {K : St → Prop} {new : List (List C)} : yqD k b s d (.nil q) K new = (new.length * b ≤ 140737488355328 ∧ newP s d (.row k new) (fun d=>.own d k new.length) K):=rfl
@[simp] theorem yIK {k k' b : Nat} {s : St} {d : Option Nat} {K : St → Prop} {rows new : List (List C)} : yqD k b s d (.clip k' rows) K new =
 (k' = k ∧ (0 < new.length ∨ rows.length = 0) ∧ (rows.length + new.length) * b ≤ 140737488355328 ∧ newP s d (.row k (rows ++ new)) (fun d=>.own d k (rows.length + new.length)) K):=rfl
def yAx (k b : Nat) (s : St) (d : Option Nat) (id k' n : Nat) (new : List (List C)) (K : St → Prop) : Obj → Prop
 | .row _ rows=>k' = k ∧ n = rows.length ∧ (rows.length + new.length) * b ≤ 140737488355328 ∧ K ((s.renew id (.row k (rows ++ new))).put d (.own id k (rows.length + new.length)))
 | .tr _ _ rows=>k' = k ∧ n = rows.length ∧ (rows.length + new.length) * b ≤ 140737488355328 ∧ K ((s.renew id (.tr k 0 (rows ++ new))).put d (.own id k (rows.length + new.length)))
 | _=>False
@[congr] theorem yKD {k b : Nat} {s : St} {d : Option Nat} {id k' n : Nat} {new : List (List C)} {K : St → Prop} {a a' : Obj} (h : a = a') : yAx k b s d id k' n new K a = yAx k b s d id k' n new K a':=by rw [h]
@[simp] theorem yOp {k k' b id n : Nat} {s : St} {d : Option Nat} {K : St → Prop} {new : List (List C)} : yqD k b s d (.own id k' n) K new = yAx k b s d id k' n new K (s.ob id):=by first | rfl | (simp only [yqD,yAx]; done) | (simp only [yqD,yAx]; rfl)
@[simp] theorem yN6 {k k' b id n q : Nat} {s : St} {d : Option Nat} {K : St → Prop} {rows new : List (List C)} : yAx k b s d id k' n new K (.row q rows) =
 (k' = k ∧ n = rows.length ∧ (rows.length + new.length) * b ≤ 140737488355328 ∧ K ((s.renew id (.row k (rows ++ new))).put d (.own id k (rows.length + new.length)))):=rfl
@[simp] theorem appO_tr {k k' b id n q ver : Nat} {s : St} {d : Option Nat} {K : St → Prop} {rows new : List (List C)} : yAx k b s d id k' n new K (.tr q ver rows) =
 (k' = k ∧ n = rows.length ∧ (rows.length + new.length) * b ≤ 140737488355328 ∧ K ((s.renew id (.tr k 0 (rows ++ new))).put d (.own id k (rows.length + new.length)))):=rfl
def yzj (k b : Nat) (s : St) (d id ver : Nat) (i : Int) (j k' : Nat) (new : List (List C)) (K : St → Prop) : Obj → Prop
 | .tr k0 ver' rows=>ver' = ver ∧ match cellAt rows i.toNat j with
  | some (.ow k2 rs)=>k' = k ∧ k2 = k ∧ (rs.length + new.length) * b ≤ 140737488355328 ∧ (s.ob d).isNone = true ∧ K (((s.yaq id (.tr k0 (ver + 1) (setAt rows i.toNat j .jk))).renew d (.row k (rs ++ new))).put (some d) (.own d k (rs.length + new.length)))
  | some (.ot k2 rs)=>k' = k ∧ k2 = k ∧ (rs.length + new.length) * b ≤ 140737488355328 ∧ (s.ob d).isNone = true ∧ K (((s.yaq id (.tr k0 (ver + 1) (setAt rows i.toNat j .jk))).renew d (.tr k 0 (rs ++ new))).put (some d) (.own d k (rs.length + new.length)))
  | _=>False
 | _=>False
@[congr] theorem yKl {k b : Nat} {s : St} {d id ver : Nat} {i : Int} {j k' : Nat} {new : List (List C)} {K : St → Prop} {a a' : Obj} (h : a = a') : yzj k b s d id ver i j k' new K a = yzj k b s d id ver i j k' new K a':=by rw [h]
@[simp] theorem yLZ {k k' b id ver n : Nat} {i : Int} {j : Nat} {s : St} {d : Nat} {K : St → Prop} {new : List (List C)} : yqD k b s (some d) (.sub id ver i j k' n) K new = yzj k b s d id ver i j k' new K (s.ob id):=by first | rfl | (simp only [yqD,yzj]; done) | (simp only [yqD,yzj]; rfl)
def ysD (k b : Nat) (s : St) (d id ver k0 : Nat) (rows : List (List C)) (i : Int) (j k' : Nat) (new : List (List C)) (K : St → Prop) : Option C → Prop
 | some (.ow k2 rs)=>k' = k ∧ k2 = k ∧ (rs.length + new.length) * b ≤ 140737488355328 ∧ (s.ob d).isNone = true ∧ K (((s.yaq id (.tr k0 (ver + 1) (setAt rows i.toNat j .jk))).renew d (.row k (rs ++ new))).put (some d) (.own d k (rs.length + new.length)))
 | some (.ot k2 rs)=>k' = k ∧ k2 = k ∧ (rs.length + new.length) * b ≤ 140737488355328 ∧ (s.ob d).isNone = true ∧ K (((s.yaq id (.tr k0 (ver + 1) (setAt rows i.toNat j .jk))).renew d (.tr k 0 (rs ++ new))).put (some d) (.own d k (rs.length + new.length)))
 | _=>False
@[congr] theorem yGN {k b : Nat} {s : St} {d id ver k0 : Nat} {rows : List (List C)} {i : Int} {j k' : Nat} {new : List (List C)} {K : St → Prop} {a a' : Option C} (h : a = a') : ysD k b s d id ver k0 rows i j k' new K a = ysD k b s d id ver k0 rows i j k' new K a':=by rw [h]
@[simp] theorem appS_tr {k k' b id ver k0 ver' : Nat} {i : Int} {j : Nat} {s : St} {d : Nat} {K : St → Prop} {rows new : List (List C)} : yzj k b s d id ver i j k' new K (.tr k0 ver' rows) = (ver' = ver ∧ ysD k b s d id ver k0 rows i j k' new K (cellAt rows i.toNat j)):=by first | rfl | (simp only [yzj,ysD]; done) | (simp only [yzj,ysD]; rfl)
@[simp] theorem yMy {k k' k2 b id ver k0 : Nat} {i : Int} {j : Nat} {s : St} {d : Nat} {K : St → Prop} {rows rs new : List (List C)} : ysD k b s d id ver k0 rows i j k' new K (some (.ow k2 rs)) = (k' = k ∧ k2 = k ∧ (rs.length + new.length) * b ≤ 140737488355328 ∧ (s.ob d).isNone = true ∧ K (((s.yaq id (.tr k0 (ver + 1) (setAt rows i.toNat j .jk))).renew d (.row k (rs ++ new))).put (some d) (.own d k (rs.length + new.length)))):=rfl
@[simp] theorem yMe {k k' k2 b id ver k0 : Nat} {i : Int} {j : Nat} {s : St} {d : Nat} {K : St → Prop} {rows rs new : List (List C)} : ysD k b s d id ver k0 rows i j k' new K (some (.ot k2 rs)) = (k' = k ∧ k2 = k ∧ (rs.length + new.length) * b ≤ 140737488355328 ∧ (s.ob d).isNone = true ∧ K (((s.yaq id (.tr k0 (ver + 1) (setAt rows i.toNat j .jk))).renew d (.tr k 0 (rs ++ new))).put (some d) (.own d k (rs.length + new.length)))):=rfl
def yxk (k b : Nat) (s : St) (d : Option Nat) (x : AV) (K : St → Prop) : Option (Nat × List (List C)) → Prop
 | some (idy,new)=>match x with
  | .nil _=>new.length * b ≤ 140737488355328 ∧ newP (s.drop idy) d (.tr k 0 new) (fun d=>.own d k new.length) K
  | .own id k' n=>id ≠ idy ∧ match s.ob id with
   | .row _ rows=>k' = k ∧ n = rows.length ∧ (rows.length + new.length) * b ≤ 140737488355328 ∧
    K (((s.drop idy).renew id (.tr k 0 (rows ++ new))).put d (.own id k (rows.length + new.length)))
   | .tr _ _ rows=>k' = k ∧ n = rows.length ∧ (rows.length + new.length) * b ≤ 140737488355328 ∧
    K (((s.drop idy).renew id (.tr k 0 (rows ++ new))).put d (.own id k (rows.length + new.length)))
   | _=>False
  | _=>False
 | none=>False
@[congr] theorem yJy {k b : Nat} {s : St} {d : Option Nat} {x x' : AV} {K : St → Prop} {a a' : Option (Nat × List (List C))} (h : a = a') (h2 : x = x') : yxk k b s d x K a = yxk k b s d x' K a':=by rw [h,h2]
@[simp] theorem yKx {k b : Nat} {s : St} {d : Option Nat} {x y : AV} {K : St → Prop} : appG k b s d x K y none = yxk k b s d x K (yhl s k y):=by first | rfl | (simp only [appG,yxk]; done) | (simp only [appG,yxk]; rfl)
@[simp] theorem yLY {k b q idy : Nat} {s : St} {d : Option Nat} {K : St → Prop} {new : List (List C)} : yxk k b s d (.nil q) K (some (idy,new)) = (new.length * b ≤ 140737488355328 ∧ newP (s.drop idy) d (.tr k 0 new) (fun d=>.own d k new.length) K):=rfl
def ysG (k b : Nat) (s : St) (d : Option Nat) (id k' n idy : Nat) (new : List (List C)) (K : St → Prop) : Obj → Prop
 | .row _ rows=>k' = k ∧ n = rows.length ∧ (rows.length + new.length) * b ≤ 140737488355328 ∧
  K (((s.drop idy).renew id (.tr k 0 (rows ++ new))).put d (.own id k (rows.length + new.length)))
 | .tr _ _ rows=>k' = k ∧ n = rows.length ∧ (rows.length + new.length) * b ≤ 140737488355328 ∧
  K (((s.drop idy).renew id (.tr k 0 (rows ++ new))).put d (.own id k (rows.length + new.length)))
 | _=>False
@[congr] theorem yGo {k b : Nat} {s : St} {d : Option Nat} {id k' n idy : Nat} {new : List (List C)} {K : St → Prop} {a a' : Obj} (h : a = a') : ysG k b s d id k' n idy new K a = ysG k b s d id k' n idy new K a':=by rw [h]
@[simp] theorem yNn {k k' b id n idy : Nat} {s : St} {d : Option Nat} {K : St → Prop} {new : List (List C)} : yxk k b s d (.own id k' n) K (some (idy,new)) = (id ≠ idy ∧ ysG k b s d id k' n idy new K (s.ob id)):=by first | rfl | (simp only [yxk,ysG]; done) | (simp only [yxk,ysG]; rfl)
@[simp] theorem yLj {k k' b id n idy q : Nat} {s : St} {d : Option Nat} {K : St → Prop} {rows new : List (List C)} : ysG k b s d id k' n idy new K (.row q rows) = (k' = k ∧ n = rows.length ∧ (rows.length + new.length) * b ≤ 140737488355328 ∧
 K (((s.drop idy).renew id (.tr k 0 (rows ++ new))).put d (.own id k (rows.length + new.length)))):=rfl
@[simp] theorem yMT {k k' b id n idy q ver : Nat} {s : St} {d : Option Nat} {K : St → Prop} {rows new : List (List C)} : ysG k b s d id k' n idy new K (.tr q ver rows) = (k' = k ∧ n = rows.length ∧ (rows.length + new.length) * b ≤ 140737488355328 ∧
 K (((s.drop idy).renew id (.tr k 0 (rows ++ new))).put d (.own id k (rows.length + new.length)))):=rfl
def yxb (k k' id n : Nat) : Obj → Option (Nat × List (List C))
 | .tr _ _ rows=>if k' = k then some (id,rows.take n) else none
 | _=>none
@[simp] theorem yKO {s : St} {k k' id n : Nat} : yhl s k (.own id k' n) = yxb k k' id n (s.ob id):=by first | rfl | (simp only [yhl,yxb]; done) | (simp only [yhl,yxb]; rfl)
@[simp] theorem yKV {k k' id n q ver : Nat} {rows : List (List C)} : yxb k k' id n (.tr q ver rows) = if k' = k then some (id,rows.take n) else none:=rfl
@[simp] theorem yIz {s : St} {k k' : Nat} {rows : List (List C)} : yaA s k (.c (.sl k' rows)) = if k' = k then some rows else none:=rfl
@[simp] theorem yEB {s : St} {k k' : Nat} {rows : List (List C)} : yaA s k (.clip k' rows) = if k' = k then some rows else none:=rfl
@[simp] theorem yF1 {s : St} {k n : Nat} : yaA s k (.nil n) = some []:=rfl
def yFl (k k' n : Nat) : Obj → Option (List (List C))
 | .row _ rows=>if k' = k then some (rows.take n) else none
 | _=>none
@[simp] theorem yFz {s : St} {k k' id n : Nat} : yaA s k (.own id k' n) = yFl k k' n (s.ob id):=by simp only [yaA,yFl]; cases s.ob id <;> rfl
@[simp] theorem yMG {k k' n q : Nat} {rows : List (List C)} : yFl k k' n (.row q rows) = if k' = k then some (rows.take n) else none:=rfl
@[simp] theorem srcO_tr {k k' n q ver : Nat} {rows : List (List C)} : yFl k k' n (.tr q ver rows) = none:=rfl
def ywp (k k' lo n : Nat) : Obj → Option (List (List C))
 | .row _ rows=>if k' = k then some ((rows.drop lo).take n) else none
 | _=>none
@[simp] theorem yFB {s : St} {k k' id lo n : Nat} : yaA s k (.cut id k' lo n) = ywp k k' lo n (s.ob id):=by first | rfl | (simp only [yaA,ywp]; done) | (simp only [yaA,ywp]; rfl)
@[simp] theorem yGI {k k' lo n q : Nat} {rows : List (List C)} : ywp k k' lo n (.row q rows) = if k' = k then some ((rows.drop lo).take n) else none:=rfl
def cpK (k : Nat) (s : St) (d : Option Nat) (x : AV) (K : St → Prop) : Option (List (List C)) → Prop
 | some new=>match x with
  | .own id k' n=>match s.ob id with
   | .row _ rows=>k' = k ∧ n ≤ rows.length ∧ K ((s.yaq id (.row k (new.take n ++ rows.drop (min new.length n)))).put d (.c (.i (min new.length n : Nat))))
   | _=>False
  | _=>False
 | none=>False
@[congr] theorem yMg {k : Nat} {s : St} {d : Option Nat} {x : AV} {K : St → Prop} {a a' : Option (List (List C))} (h : a = a') : cpK k s d x K a = cpK k s d x K a':=by rw [h]
@[simp] theorem cpP_eq {k : Nat} {s : St} {d : Option Nat} {x y : AV} {K : St → Prop} : cpP k s d x y K = cpK k s d x K (yaA s k y):=by first | rfl | (simp only [cpP,cpK]; done) | (simp only [cpP,cpK]; rfl)
def cpO (k : Nat) (s : St) (d : Option Nat) (id k' n : Nat) (new : List (List C)) (K : St → Prop) : Obj → Prop
 | .row _ rows=>k' = k ∧ n ≤ rows.length ∧ K ((s.yaq id (.row k (new.take n ++ rows.drop (min new.length n)))).put d (.c (.i (min new.length n : Nat))))
 | _=>False
@[congr] theorem yLz {k : Nat} {s : St} {d : Option Nat} {id k' n : Nat} {new : List (List C)} {K : St → Prop} {a a' : Obj} (h : a = a') : cpO k s d id k' n new K a = cpO k s d id k' n new K a':=by rw [h]
@[simp] theorem cpK_own {k id k' n : Nat} {s : St} {d : Option Nat} {K : St → Prop} {new : List (List C)} : cpK k s d (.own id k' n) K (some new) = cpO k s d id k' n new K (s.ob id):=by first | rfl | (simp only [cpK,cpO]; done) | (simp only [cpK,cpO]; rfl)
@[simp] theorem cpO_row {k id k' n q : Nat} {s : St} {d : Option Nat} {K : St → Prop} {rows new : List (List C)} : cpO k s d id k' n new K (.row q rows) = (k' = k ∧ n ≤ rows.length ∧ K ((s.yaq id (.row k (new.take n ++ rows.drop (min new.length n)))).put d (.c (.i (min new.length n : Nat))))):=rfl
@[simp] theorem yOs {n : Nat} {K : AV → Prop} : yvc (.nil n) K = K (.c (.i 0)):=rfl
@[simp] theorem yK1 {k : Nat} {rows : List (List C)} {K : AV → Prop} : yvc (.clip k rows) K = (rows.length ≤ maxLen → K (.c (.i rows.length))):=rfl
@[simp] theorem capP_sl {k : Nat} {rows : List (List C)} {K : AV → Prop} : yvc (.c (.sl k rows)) K = ∀ n : Nat,rows.length ≤ n → n ≤ maxLen → K (.c (.i n)):=rfl
@[simp] theorem yNR {id k m : Nat} {K : AV → Prop} : yvc (.own id k m) K = ∀ n : Nat,m ≤ n → n ≤ maxLen → K (.c (.i n)):=rfl
@[simp] theorem yOl {id o : Nat} {K : AV → Prop} : yqy (.box id o) K = K (.box id o):=rfl
@[simp] theorem yL0 {id k o : Nat} {i : Int} {K : AV → Prop} : yqy (.row id k i o) K = K (.row id k i o):=rfl
@[simp] theorem yLW {cs : List C} {K : AV → Prop} : yqy (.elt cs) K = K (.elt cs):=rfl
@[simp] theorem seqP_f {a b : ByteArray} {k : AV → Prop} : yrZ false (.c (.s a)) (.c (.s b)) k = k (.c (.b (decide (a = b)))):=rfl
@[simp] theorem seqP_t {a b : ByteArray} {k : AV → Prop} : yrZ true (.c (.s a)) (.c (.s b)) k = k (.c (.b !decide (a = b))):=rfl
@[simp] theorem scatP_s {a b : ByteArray} {k : AV → Prop} : ymF (.c (.s a)) (.c (.s b)) k = (a.size + b.size ≤ maxLen ∧ k (.c (.s (a ++ b)))):=rfl
@[simp] theorem slsP_1 {a : ByteArray} {l h : Int} {K : AV → Prop} : yq4 (.c (.s a)) (some (.c (.i l))) (some (.c (.i h))) K = (0 ≤ l ∧ l ≤ h ∧ h ≤ a.size ∧ K (.c (.s (a.extract l.toNat h.toNat)))):=rfl
@[simp] theorem slsP_2 {a : ByteArray} {l : Int} {K : AV → Prop} : yq4 (.c (.s a)) (some (.c (.i l))) none K = (0 ≤ l ∧ l ≤ a.size ∧ K (.c (.s (a.extract l.toNat a.size)))):=rfl
@[simp] theorem slsP_3 {a : ByteArray} {h : Int} {K : AV → Prop} : yq4 (.c (.s a)) none (some (.c (.i h))) K = (0 ≤ h ∧ h ≤ a.size ∧ K (.c (.s (a.extract 0 h.toNat)))):=rfl
@[simp] theorem yLK {a b : Int} {k : AV → Prop} : ynz .and (.c (.i a)) (.c (.i b)) k = k (.c (.i (yEI a b))):=rfl
@[simp] theorem yNB {a b : Int} {k : AV → Prop} : ynz .xor (.c (.i a)) (.c (.i b)) k = k (.c (.i (yFk a b))):=rfl
@[simp] theorem yOi {a b : Int} {k : AV → Prop} : ynz .shl (.c (.i a)) (.c (.i b)) k = (0 ≤ b ∧ k (.c (.i (yCb a b)))):=rfl
@[simp] theorem yJv {a : Nat} {b : Int} {k : AV → Prop} : ynz .shr (.c (.q a)) (.c (.i b)) k = (0 ≤ b ∧ k (.c (.q (a / 2 ^ (min b.toNat 64))))):=rfl
@[simp] theorem yN5 {a b : Int} {k : AV → Prop} : ynz .shr (.c (.i a)) (.c (.i b)) k = (0 ≤ b ∧ k (.c (.i (yxF a b)))):=rfl
@[simp] theorem yKN {a b : Int} {k : AV → Prop} : ymj .add (.c (.i a)) (.c (.i b)) k = k (.c (.i (IntKind.i64.wrap (a + b)))):=rfl
@[simp] theorem yJo {a b : Int} {k : AV → Prop} : ymj .mul (.c (.i a)) (.c (.i b)) k = k (.c (.i (IntKind.i64.wrap (a * b)))):=rfl
@[simp] theorem yJS {a b : Nat} {k : AV → Prop} : yfC .add (.c (.u a)) (.c (.u b)) k = k (.c (.u ((a + b) % 256))):=rfl
@[simp] theorem yLh {a b : Nat} {k : AV → Prop} : yfC .sub (.c (.u a)) (.c (.u b)) k = k (.c (.u ((a + 256 - b) % 256))):=rfl
@[simp] theorem yIE {a b : Nat} {k : AV → Prop} : yfC .eql (.c (.u a)) (.c (.u b)) k = k (.c (.b (decide (a = b)))):=rfl
@[simp] theorem yKE {a b : Nat} {k : AV → Prop} : yfC .neq (.c (.u a)) (.c (.u b)) k = k (.c (.b (!decide (a = b)))):=rfl
@[simp] theorem yJl {a b : Nat} {k : AV → Prop} : yfC .lss (.c (.u a)) (.c (.u b)) k = k (.c (.b (decide (a < b)))):=rfl
@[simp] theorem yLa {a b : Nat} {k : AV → Prop} : yfC .leq (.c (.u a)) (.c (.u b)) k = k (.c (.b (decide (a ≤ b)))):=rfl
@[simp] theorem yJO {a b : Nat} {k : AV → Prop} : yfC .gtr (.c (.u a)) (.c (.u b)) k = k (.c (.b (decide (b < a)))):=rfl
@[simp] theorem yIH {a b : Nat} {k : AV → Prop} : yfC .geq (.c (.u a)) (.c (.u b)) k = k (.c (.b (decide (b ≤ a)))):=rfl
@[simp] theorem cvtP_0u {s : St} {a : Nat} {k : AV → Prop} : yfq 0 s (.c (.u a)) k = k (.c (.i a)):=rfl
@[simp] theorem cvtP_0q {s : St} {a : Nat} {k : AV → Prop} : yfq 0 s (.c (.q a)) k = (a ≤ 9223372036854775807 ∧ k (.c (.i a))):=rfl
@[simp] theorem cvtP_3i {s : St} {a : Int} {k : AV → Prop} : yfq 3 s (.c (.i a)) k = (0 ≤ a ∧ k (.c (.q a.toNat))):=rfl
@[simp] theorem cvtP_0i {s : St} {a : Int} {k : AV → Prop} : yfq 0 s (.c (.i a)) k = k (.c (.i a)):=rfl
@[simp] theorem cvtP_1u {s : St} {a : Nat} {k : AV → Prop} : yfq 1 s (.c (.u a)) k = k (.c (.u a)):=rfl
@[simp] theorem cvtP_1i {s : St} {a : Int} {k : AV → Prop} : yfq 1 s (.c (.i a)) k = k (.c (.u (a % 256).toNat)):=rfl
def yCp (k : AV → Prop) : Option (List (List C)) → Prop
 | some rows=>∃ l : List UInt8,rows = l.map yAj ∧ k (.c (.s ⟨l.toArray⟩))
 | none=>False
@[congr] theorem yK9 {k : AV → Prop} {a a' : Option (List (List C))} (h : a = a') : yCp k a = yCp k a':=by rw [h]
@[simp] theorem cvtP_2 {s : St} {x : AV} {k : AV → Prop} : yfq 2 s x k = yCp k (yaA s 1 x):=by first | rfl | (simp only [yfq,yCp]; done) | (simp only [yfq,yCp]; rfl)
@[simp] theorem yKQ {k : AV → Prop} {rows : List (List C)} : yCp k (some rows) = ∃ l : List UInt8,rows = l.map yAj ∧ k (.c (.s ⟨l.toArray⟩)):=rfl
@[simp ↓] theorem yJT {P : Program} {f : Nat} {l xs : List AV} {d : Option Nat} {s : St} {K : St → Prop} : ymC P (.fn f l) xs d s K = ((∃ fn,P.funcs[f]? = some fn ∧ fn.body.isSome = true ∧ (fn.name != "runtime.NumGoroutine") = true) ∧ yFH P f (xs ++ l) d s K ⟨⟩):=rfl
@[simp] theorem kill_c {id : Nat} {x : C} : (AV.c x).kill id = .c x:=rfl
@[simp] theorem yMw {id : Nat} : AV.any.kill id = .any:=rfl
@[simp] theorem yLB {id : Nat} : AV.und.kill id = .und:=rfl
@[simp] theorem yL6 {id n : Nat} : (AV.nil n).kill id = .nil n:=rfl
@[simp] theorem yM6 {id i k lo n : Nat} : (AV.cut i k lo n).kill id = if i = id then .any else .cut i k lo n:=by
 simp only [AV.kill,AV.ybn,AV.ydr]; by_cases h : i = id <;> simp [h]
@[simp] theorem yLH {id i ver : Nat} {n : Int} {j k m : Nat} : (AV.sub i ver n j k m).kill id = if i = id then .any else .sub i ver n j k m:=by
 simp only [AV.kill,AV.ybn,AV.ydr]; by_cases h : i = id <;> simp [h]
@[simp] theorem yJE {id i ver : Nat} {n : Int} {j k : Nat} {m : Int} {o : Nat} : (AV.ydd i ver n j k m o).kill id = if i = id then .any else .ydd i ver n j k m o:=by
 simp only [AV.kill,AV.ybn,AV.ydr]; by_cases h : i = id <;> simp [h]
@[simp] theorem yIX {id n : Nat} : (AV.nil n).ybn id = .nil n:=rfl
@[simp] theorem yIR {id : Nat} : AV.any.ybn id = .any:=rfl
@[simp] theorem yHQ {id k : Nat} {r : List (List C)} : (AV.clip k r).ybn id = .clip k r:=rfl
@[simp] theorem yIO {id : Nat} {r : List C} : (AV.elt r).ybn id = .elt r:=rfl
@[simp] theorem yJU {id i k n : Nat} : (AV.own i k n).ybn id = if i = id then .any else .own i k n:=by
 simp only [AV.ybn,AV.ydr]; by_cases h : i = id <;> simp [h]
@[simp] theorem yKg {id i o : Nat} : (AV.box i o).ybn id = if i = id then .any else .box i o:=by
 simp only [AV.ybn,AV.ydr]; by_cases h : i = id <;> simp [h]
@[simp] theorem yIJ {id i k o : Nat} {n : Int} : (AV.row i k n o).ybn id = if i = id then .any else .row i k n o:=by
 simp only [AV.ybn,AV.ydr]; by_cases h : i = id <;> simp [h]
@[simp] theorem yM0 {id k v : Nat} {l : List (List C)} : (Obj.tr k v l).kill id = .tr k v l:=rfl
@[simp] theorem yJb {id k : Nat} {r : List (List C)} : (AV.clip k r).kill id = .clip k r:=rfl
@[simp] theorem yOe {id : Nat} {r : List C} : (AV.elt r).kill id = .elt r:=rfl
@[simp] theorem yLE {id i o : Nat} : (AV.box i o).kill id = if i = id then .any else .box i o:=by
 simp only [AV.kill,AV.ybn,AV.ydr]; by_cases h : i = id <;> simp [h]
@[simp] theorem yN4 {id i k n : Nat} : (AV.own i k n).kill id = if i = id then .any else .own i k n:=by
 simp only [AV.kill,AV.ybn,AV.ydr]; by_cases h : i = id <;> simp [h]
@[simp] theorem yM7 {id i k o : Nat} {n : Int} : (AV.row i k n o).kill id = if i = id then .any else .row i k n o:=by
 simp only [AV.kill,AV.ybn,AV.ydr]; by_cases h : i = id <;> simp [h]
@[simp] theorem kill1_c {id : Nat} {x : C} : (AV.c x).ybn id = .c x:=rfl
@[simp] theorem yKp {id : Nat} {l : List C} : (AV.agg (l.map .c)).kill id = .agg (l.map .c):=by simp [AV.kill]
@[simp] theorem yMJ {id : Nat} {l : List AV} : (AV.agg l).kill id = .agg (l.map (AV.ybn id)):=rfl
@[simp] theorem yJf {id : Nat} {l : List AV} : (Obj.box l).kill id = .box (l.map (AV.ybn id)):=rfl
@[simp] theorem yJj {id k : Nat} {l : List (List C)} : (Obj.row k l).kill id = .row k l:=rfl
@[simp] theorem yGn {id : Nat} : Obj.none.kill id = .none:=rfl
@[simp ↓] theorem yIY {s : St} {l : List AV} {K : List AV → Prop} : ygn s [] l K = K l:=rfl
@[simp ↓] theorem yGz {s : St} {o n : Nat} {x : X} {ps : List (Nat × Nat × X)} {l : List AV} {K : List AV → Prop} : ygn s ((o,n,x) :: ps) l K =
 ((s.ev x).cellsOf.length = n ∧ (s.ev x).cellsOf.all AV.yaz = true ∧ o + n ≤ l.length ∧ ygn s ps (l.take o ++ (s.ev x).cellsOf ++ l.drop (o + n)) K):=rfl
@[simp] theorem out1_c {s : St} {z : C} {y : AV} : out1 s (.c z) y = (y = .c z):=rfl
@[simp] theorem yJJ {s : St} {k : Nat} {r : List (List C)} {y : AV} : out1 s (.clip k r) y = (y = .c (.sl k r)):=rfl
@[simp] theorem yNv {s : St} {n : Nat} {y : AV} : out1 s (.nil n) y = ((∃ k,y = .c (.sl k [])) ∨ ∃ k,y = .nil k):=rfl
@[simp] theorem yNr {s : St} {cs : List C} {y : AV} : out1 s (.elt cs) y = (y = .elt cs):=rfl
def yDt (k : Nat) (y : AV) : Option (List (List C)) → Prop
 | some r=>y = .c (.sl k r)
 | none=>False
@[simp] theorem yJG {k : Nat} {y : AV} {r : List (List C)} : yDt k y (some r) = (y = .c (.sl k r)):=rfl
def yDM (k n : Nat) (y : AV) : Obj → Prop
 | .row _ rows=>y = .c (.sl k (rows.take n))
 | .tr _ _ rows=>yDt k y (yo5 (rows.take n))
 | _=>False
@[simp] theorem yCW {s : St} {id k n : Nat} {y : AV} : out1 s (.own id k n) y = yDM k n y (s.ob id):=by simp only [out1,yDM]; cases s.ob id <;> rfl
@[simp] theorem yNC {k n q : Nat} {rows : List (List C)} {y : AV} : yDM k n y (.row q rows) = (y = .c (.sl k (rows.take n))):=rfl
@[simp] theorem outO_tr {k n q ver : Nat} {rows : List (List C)} {y : AV} : yDM k n y (.tr q ver rows) = yDt k y (yo5 (rows.take n)):=rfl
def ywH (k lo n : Nat) (y : AV) : Obj → Prop
 | .row _ rows=>y = .c (.sl k ((rows.drop lo).take n))
 | _=>False
@[simp] theorem yCE {s : St} {id k lo n : Nat} {y : AV} : out1 s (.cut id k lo n) y = ywH k lo n y (s.ob id):=by simp only [out1,ywH]; cases s.ob id <;> rfl
@[simp] theorem yHp {k lo n q : Nat} {rows : List (List C)} {y : AV} : ywH k lo n y (.row q rows) = (y = .c (.sl k ((rows.drop lo).take n))):=rfl
def yAv (y : AV) : Option C → Prop
 | some c=>match c.shr with
  | some z=>y = .c z
  | none=>False
 | none=>False
def yC2 (ver : Nat) (i : Int) (j : Nat) (y : AV) : Obj → Prop
 | .tr _ ver' rows=>ver' = ver ∧ yAv y (cellAt rows i.toNat j)
 | _=>False
@[simp] theorem yEt {s : St} {id ver : Nat} {i : Int} {j k n : Nat} {y : AV} : out1 s (.sub id ver i j k n) y = yC2 ver i j y (s.ob id):=by first | rfl | (simp only [out1,yC2,yAv]; done) | (simp only [out1,yC2,yAv]; rfl)
@[simp] theorem outS_tr {ver k0 ver' : Nat} {i : Int} {j : Nat} {y : AV} {rows : List (List C)} : yC2 ver i j y (.tr k0 ver' rows) = (ver' = ver ∧ yAv y (cellAt rows i.toNat j)):=rfl
@[simp] theorem outC_ow {k : Nat} {rows : List (List C)} {y : AV} : yAv y (some (.ow k rows)) = (y = .c (.sl k rows)):=rfl
@[simp] theorem outC_ot {k : Nat} {rows : List (List C)} {y : AV} : yAv y (some (.ot k rows)) = yDt k y (yo5 rows):=by
 simp only [yAv,C.shr,yDt]; cases yo5 rows <;> rfl
@[simp] theorem yIQ {s : St} : yfA s [] [] = True:=rfl
@[simp] theorem yGl {s : St} {x y : AV} {l l' : List AV} : yfA s (x :: l) (y :: l') = (out1 s x y ∧ yfA s l l'):=rfl
@[simp] theorem yJW {s : St} {l : List C} : yfA s (l.map .c) (l.map .c) = True:=by
 induction l with
 | nil=>rfl
 | cons x l ih=>simp [ih]
@[simp] theorem yLs {s : St} {l l' : List AV} : ydl s (.agg l) (.agg l') = yfA s l l':=rfl
@[simp] theorem out2_c {s : St} {z : C} {y : AV} : ydl s (.c z) y = (y = .c z):=rfl
@[simp] theorem yLc {s : St} {k : Nat} {r : List (List C)} {y : AV} : ydl s (.clip k r) y = (y = .c (.sl k r)):=rfl
@[simp] theorem yM8 {s : St} {n : Nat} {y : AV} : ydl s (.nil n) y = ((∃ k,y = .c (.sl k [])) ∨ ∃ k,y = .nil k):=rfl
@[simp] theorem yL2 {s : St} {cs : List C} {y : AV} : ydl s (.elt cs) y = (y = .elt cs):=rfl
@[simp] theorem yND {s : St} {id k lo n : Nat} {y : AV} : ydl s (.cut id k lo n) y = ywH k lo n y (s.ob id):=yCE
@[simp] theorem yL3 {s : St} {id ver : Nat} {i : Int} {j k n : Nat} {y : AV} : ydl s (.sub id ver i j k n) y = yC2 ver i j y (s.ob id):=yEt (k:=k) (n:=n)
@[simp] theorem out2_fn {s : St} {f f' : Nat} {l l' : List AV} : ydl s (.fn f l) (.fn f' l') = (f = f' ∧ yfA s l l'):=rfl
def yFf (s : St) (off : Nat) (cs : List C) : Obj → Prop
 | .box cells=>yfA s (cells.drop off) (cs.map .c)
 | _=>False
@[simp] theorem yMj {s : St} {id off : Nat} {cs : List C} : ydl s (.box id off) (.elt cs) = yFf s off cs (s.ob id):=by first | rfl | (simp only [ydl,yFf]; done) | (simp only [ydl,yFf]; rfl)
@[simp] theorem yMl {s : St} {off : Nat} {cs : List C} {cells : List AV} : yFf s off cs (.box cells) = yfA s (cells.drop off) (cs.map .c):=rfl
@[simp] theorem yMc {s : St} {id k n : Nat} {y : AV} : ydl s (.own id k n) y = yDM k n y (s.ob id):=yCW
@[simp] theorem yJx {s : St} : ych s [] [] = True:=rfl
@[simp] theorem yHb {s : St} {x y : AV} {l l' : List AV} : ych s (x :: l) (y :: l') = (ydl s x y ∧ ych s l l'):=rfl
@[simp] theorem yMB {s : St} {r : RS} {y : AV} : yut s [r] y = yil s r y:=rfl
@[simp] theorem yLu {s : St} {r r' : RS} {y : AV} : yut s [r,r'] y = ∃ ys,y = .tup ys ∧ ym3 s [r,r'] ys:=rfl
@[simp] theorem yG1 {s : St} {r r' r2 : RS} {y : AV} : yut s [r,r',r2] y = ∃ ys,y = .tup ys ∧ ym3 s [r,r',r2] ys:=rfl
@[simp] theorem yHJ {s : St} : ym3 s [] [] = True:=rfl
@[simp] theorem yFx {s : St} {r : RS} {rs : List RS} {y : AV} {ys : List AV} : ym3 s (r :: rs) (y :: ys) = (yil s r y ∧ ym3 s rs ys):=rfl
@[simp] theorem yMu {s : St} {n : Nat} {y : AV} : yil s (.t n) y = ydl s (s.env n) y:=rfl
def clA (s : St) (k : Nat) (y : AV) : AV → Prop
 | .box id 0=>match s.ob id with
  | .box cells=>cells.length = k ∧ ydl s (.agg cells) y
  | _=>False
 | _=>False
@[congr] theorem yM4 {s : St} {k : Nat} {y a a' : AV} (h : a = a') : clA s k y a = clA s k y a':=by rw [h]
@[simp] theorem yJ4 {s : St} {n k : Nat} {y : AV} : yil s (.cl n k) y = clA s k y (s.env n):=by
 simp only [yil,clA]
 cases s.env n with
 | box id o=>cases o <;> rfl
 | _=>rfl
def clO (s : St) (k : Nat) (y : AV) : Obj → Prop
 | .box cells=>cells.length = k ∧ ydl s (.agg cells) y
 | _=>False
@[simp] theorem clA_box {s : St} {k id : Nat} {y : AV} : clA s k y (.box id 0) = clO s k y (s.ob id):=by first | rfl | (simp only [clA,clO]; done) | (simp only [clA,clO]; rfl)
@[simp] theorem clO_box {s : St} {k : Nat} {y : AV} {cells : List AV} : clO s k y (.box cells) = (cells.length = k ∧ ydl s (.agg cells) y):=rfl
end
@[simp] theorem yFM {k k' : Nat} {r r' : List (List C)} : (Obj.row k r).leO (.row k' r') = (Obj.row k r = .row k' r'):=rfl
@[simp] theorem yGJ {k k' v : Nat} {r r' : List (List C)} : (Obj.row k r).leO (.tr k' v r') = (k = k' ∧ r = r'):=rfl
@[simp] theorem yKF {k k' v v' : Nat} {r r' : List (List C)} : (Obj.tr k v r).leO (.tr k' v' r') = (k = k' ∧ r = r'):=rfl
@[simp] theorem yFs {l l' : List AV} : (Obj.box l).leO (.box l') = (Obj.box l = .box l'):=rfl
def ints (l : List Int) : List (List C):=l.map fun n=>[.i n]
@[simp] theorem yFS {l : List Int} : (ints l).length = l.length:=by simp [ints]
end Go.Proofs.YtmimbhooaidelaaGreat
