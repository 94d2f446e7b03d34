/- What the law FnExactAbleCalls stands on: the machine, in short form (names, layout). -/
import Derived.Test.YtmimbhooaidelaaGreatSExactAbleCallsA3
set_option linter.all false
namespace Go.Proofs.YtmimbhooaidelaaGreat
open Go.RowKit
structure Tag {α : Type} (K : α) : Type where
def yE4 (P : Program) (f : Nat) (xs : List AV) (d : Option Nat) (s : St) (K : St → Prop) (_ : Tag K) : Prop := yhm P f xs d s K
def yDh (P : Program) (f : Nat) (xs : List AV) (ob : Nat → Obj) (k : AV → Prop) (_ : Tag k) : Prop := yvi P f xs ob k
def loopT (P : Program) (N : Nat) (c : SC) (s : St) (Q : Ex → St → Prop) (_ : Tag Q) : Prop := yo8 P N c s Q
section
variable {P : Program} {N : Nat}
@[congr] theorem yFY {d : Option Nat} {op op' : IOp} {s : St} {K : St → Prop} (h : op = op') : yT P d op s K = yT P d op' s K := by rw [h]
@[congr] theorem yJG {op op' : IOp} {ev : X → AV} {ob : Nat → Obj} {k : AV → Prop} (h : op = op') : yaB P op ev ob k = yaB P op' ev ob k := by rw [h]
@[congr] theorem yIx {Q Q' : Ex → St → Prop} {e : Ex} {s s' : St} (h : s = s') : Ex.then Q Q' e s = Ex.then Q Q' e s' := by rw [h]
@[congr] theorem yDG {Q : Ex → St → Prop} {n : Nat} {e : Ex} {s s' : St} (h : s = s') : Ex.inBlock n Q e s = Ex.inBlock n Q e s' := by rw [h]
@[congr] theorem yJY {s s' : St} {d : Option Nat} {o o' : Obj} {v : Nat → AV} {K : St → Prop} (h : s = s') (h2 : o = o') : newP s d o v K = newP s' d o' v K := by rw [h, h2]
@[congr] theorem yHe {s : St} {ps : List (Nat × Nat × X)} {l l' : List AV} {K : List AV → Prop} (h : l = l') : yf0 s ps l K = yf0 s ps l' K := by rw [h]
@[congr] theorem yLI {c : SC} {s s' : St} {Q : Ex → St → Prop} (h : s = s') : wpS P N c s Q = wpS P N c s' Q := by rw [h]
@[congr] theorem yLz {l : List Ins} {s s' : St} {K : St → Prop} (h : s = s') : wpI P l s K = wpI P l s' K := by rw [h]
@[congr] theorem yLC {n : Nat} {l : List RIns} {h : List (Nat × Lab)} {s s' : St} {K : St → Prop} (hs : s = s') : wpE P n l h s K = wpE P n l h s' K := by rw [hs]
@[congr] theorem yNq {l : List Ins} {s s' : St} {K : St → Prop} (h : s = s') : wpQ P l s K = wpQ P l s' K := by rw [h]
@[congr] theorem yFy {c c' a a' b b' : AV} {k : AV → Prop} (h1 : c = c') (h2 : a = a') (h3 : b = b') : yhS c a b k = yhS c' a' b' k := by rw [h1, h2, h3]
@[congr] theorem yJS {o : BinOp} {a a' b b' : AV} {k : AV → Prop} (h2 : a = a') (h3 : b = b') : ysE o a b k = ysE o a' b' k := by rw [h2, h3]
@[congr] theorem yH1 {o : Bool} {a a' b b' : AV} {k : AV → Prop} (h2 : a = a') (h3 : b = b') : yqY o a b k = yqY o a' b' k := by rw [h2, h3]
@[congr] theorem yIr {a a' : AV} {k : AV → Prop} (h2 : a = a') : yws a k = yws a' k := by rw [h2]
@[congr] theorem yJU {a a' : AV} {k : AV → Prop} (h2 : a = a') : notP a k = notP a' k := by rw [h2]
@[congr] theorem yJ8 {a a' : AV} {k : AV → Prop} (h2 : a = a') : ysH a k = ysH a' k := by rw [h2]
@[congr] theorem yJV {o : Nat} {s : St} {a a' b b' : AV} {k : AV → Prop} (h2 : a = a') (h3 : b = b') : ylz o s a b k = ylz o s a' b' k := by rw [h2, h3]
@[congr] theorem yIH {o n : Nat} {a a' b b' : AV} {k : AV → Prop} (h2 : a = a') (h3 : b = b') : ysd o n a b k = ysd o n a' b' k := by rw [h2, h3]
@[congr] theorem yJW {o : Nat} {s : St} {a a' : AV} {k : AV → Prop} (h2 : a = a') : ymS o s a k = ymS o s a' k := by rw [h2]
@[congr] theorem yJ2 {s : St} {a a' : AV} {k : AV → Prop} (h2 : a = a') : ykc s a k = ykc s a' k := by rw [h2]
@[congr] theorem yIB {o : Nat} {s : St} {a a' : AV} {k : AV → Prop} (h2 : a = a') : yj6 o s a k = yj6 o s a' k := by rw [h2]
@[congr] theorem yHV {s : St} {a a' b b' : AV} {k : St → Prop} (h2 : a = a') (h3 : b = b') : ykF s a b k = ykF s a' b' k := by rw [h2, h3]
@[congr] theorem yJb {o : Nat} {s : St} {a a' b b' : AV} {k : St → Prop} (h2 : a = a') (h3 : b = b') : yoB o s a b k = yoB o s a' b' k := by rw [h2, h3]
@[congr] theorem yH3 {o : Nat} {s : St} {d : Option Nat} {a a' : AV} {k : St → Prop} (h2 : a = a') : yAA o s d a k = yAA o s d a' k := by rw [h2]
@[congr] theorem yJd {o n : Nat} {z : List C} {s : St} {d : Option Nat} {a a' b b' : AV} {k : St → Prop} (h2 : a = a') (h3 : b = b') : ywG o n z s d a b k = ywG o n z s d a' b' k := by rw [h2, h3]
@[congr] theorem yJt {o : Nat} {s : St} {d : Option Nat} {a a' : List AV} {k : St → Prop} (h2 : a = a') : yqW o a s d k = yqW o a' s d k := by rw [h2]
@[congr] theorem yIP {o : Nat} {a a' : AV} {l l' h h' m m' : Option AV} {k : AV → Prop} (h2 : a = a') (h3 : l = l') (h4 : h = h') (h5 : m = m') : yj8 o a l h m k = yj8 o a' l' h' m' k := by rw [h2, h3, h4, h5]
@[congr] theorem yHZ {o n : Nat} {s : St} {a a' b b' : AV} {k : AV → Prop} (h2 : a = a') (h3 : b = b') : ypK o n s a b k = ypK o n s a' b' k := by rw [h2, h3]
@[congr] theorem yHO {s : St} {a a' : AV} {k : AV → Prop} (h2 : a = a') : ykr s a k = ykr s a' k := by rw [h2]
@[congr] theorem yHr {a a' : AV} {k : AV → Prop} (h2 : a = a') : ymG a k = ymG a' k := by rw [h2]
@[congr] theorem yJ9 {o n : Nat} {s : St} {d : Option Nat} {a a' b b' : AV} {k : St → Prop} (h2 : a = a') (h3 : b = b') : ylX o n s d a b k = ylX o n s d a' b' k := by rw [h2, h3]
@[congr] theorem yMd {f : Int → Int → Int} {a a' : List AV} {k : AV → Prop} (h2 : a = a') : mmP f a k = mmP f a' k := by rw [h2]
@[congr] theorem yHR {o : Nat} {a a' : AV} {k : AV → Prop} (h2 : a = a') : yqV o a k = yqV o a' k := by rw [h2]
@[congr] theorem yIc {a a' b b' : AV} {k : AV → Prop} (h2 : a = a') (h3 : b = b') : yr8 a b k = yr8 a' b' k := by rw [h2, h3]
@[congr] theorem yEO {f f' : AV} {l l' : List AV} {d : Option Nat} {s : St} {K : St → Prop} (h : f = f') (h2 : l = l') : ylI P f l d s K = ylI P f' l' d s K := by rw [h, h2]
@[congr] theorem yM0 {o : Nat} {s : St} {d : Option Nat} {a a' b b' : AV} {k : St → Prop} (h2 : a = a') (h3 : b = b') : cpP o s d a b k = cpP o s d a' b' k := by rw [h2, h3]
@[congr] theorem yI0 {a a' : AV} {k : AV → Prop} (h2 : a = a') : yuE a k = yuE a' k := by rw [h2]
@[congr] theorem yHT {a a' : AV} {k : AV → Prop} (h2 : a = a') : ypT a k = ypT a' k := by rw [h2]
@[congr] theorem yIQ {o : Bool} {a a' b b' : AV} {k : AV → Prop} (h2 : a = a') (h3 : b = b') : yqT o a b k = yqT o a' b' k := by rw [h2, h3]
@[congr] theorem yHG {a a' b b' : AV} {k : AV → Prop} (h2 : a = a') (h3 : b = b') : ymX a b k = ymX a' b' k := by rw [h2, h3]
@[congr] theorem yJh {a a' : AV} {l l' h h' : Option AV} {k : AV → Prop} (h2 : a = a') (h3 : l = l') (h4 : h = h') : yqg a l h k = yqg a' l' h' k := by rw [h2, h3, h4]
@[congr] theorem yIi {o : BinOp} {a a' b b' : AV} {k : AV → Prop} (h2 : a = a') (h3 : b = b') : ylK o a b k = ylK o a' b' k := by rw [h2, h3]
@[congr] theorem yGv {o : BinOp} {a a' b b' : AV} {k : AV → Prop} (h2 : a = a') (h3 : b = b') : ye2 o a b k = ye2 o a' b' k := by rw [h2, h3]
@[congr] theorem yF4 {o : BinOp} {a a' b b' : AV} {k : AV → Prop} (h2 : a = a') (h3 : b = b') : ykS o a b k = ykS o a' b' k := by rw [h2, h3]
@[congr] theorem yIz {o : Nat} {s : St} {a a' : AV} {k : AV → Prop} (h2 : a = a') : yeg o s a k = yeg o s a' k := by rw [h2]
@[congr] theorem yE0 {a a' : AV} {v : Bool} {A B : Prop} (h : a = a') : ydk a v A B = ydk a' v A B := by rw [h]
@[congr] theorem yGt {a a' : AV} {A B : Prop} (h : a = a') : ynB a A B = ynB a' A B := by rw [h]
@[simp ↓] theorem yNc {s : St} {Q : Ex → St → Prop} : wpS P N .skip s Q = Q .normal s := rfl
@[simp ↓] theorem wpS_reg {l : List Ins} {s : St} {Q : Ex → St → Prop} : wpS P N (.reg l) s Q = wpI P l s (Q .normal) := rfl
@[simp ↓] theorem yMz {l : List Ins} {s : St} {Q : Ex → St → Prop} : wpS P N (.regq l) s Q = wpQ P l s (Q .normal) := rfl
@[simp ↓] theorem yLb {l : List RIns} {s : St} {Q : Ex → St → Prop} : wpS P N (.rege l) s Q = wpE P 0 l [] s (Q .normal) := rfl
@[simp ↓] theorem wpS_seq {a b : SC} {s : St} {Q : Ex → St → Prop} : wpS P N (.seq a b) s Q = wpS P N a s (Ex.then (fun _ s' => wpS P N b s' Q) Q) := rfl
@[simp ↓] theorem wpS_cond {x : X} {a b : SC} {s : St} {Q : Ex → St → Prop} : wpS P N (.cond x a b) s Q = ynB (s.ev x) (wpS P N a s Q) (wpS P N b s Q) := rfl
@[simp ↓] theorem yKm {n : Nat} {c : SC} {s : St} {Q : Ex → St → Prop} : wpS P N (.block n c) s Q = wpS P N c s (Ex.inBlock n Q) := rfl
@[simp ↓] theorem yKH {c : SC} {s : St} {Q : Ex → St → Prop} : wpS P N (.loop c) s Q = loopT P N c s Q ⟨⟩ := rfl
@[simp ↓] theorem yM8 {n : Nat} {s : St} {Q : Ex → St → Prop} : wpS P N (.exit n) s Q = Q (.exit n) s := rfl
@[simp ↓] theorem wpS_ret {s : St} {Q : Ex → St → Prop} : wpS P N .ret s Q = Q .ret s := rfl
@[simp ↓] theorem yES {Q Q' : Ex → St → Prop} {s : St} : Ex.then Q Q' .normal s = Q .normal s := rfl
@[simp ↓] theorem yIT {Q Q' : Ex → St → Prop} {n : Nat} {s : St} : Ex.then Q Q' (.exit n) s = Q' (.exit n) s := rfl
@[simp ↓] theorem yM5 {Q Q' : Ex → St → Prop} {s : St} : Ex.then Q Q' .ret s = Q' .ret s := rfl
@[simp ↓] theorem yB0 {Q : Ex → St → Prop} {n : Nat} {s : St} : Ex.inBlock n Q .normal s = Q .normal s := rfl
@[simp ↓] theorem yER {Q : Ex → St → Prop} {n : Nat} {s : St} : Ex.inBlock n Q .ret s = Q .ret s := rfl
@[simp ↓] theorem yDD {Q : Ex → St → Prop} {n m : Nat} {s : St} : Ex.inBlock n Q (.exit m) s = if m = n then Q .normal s else Q (.exit m) s := rfl
@[simp ↓] theorem wpI_nil {s : St} {K : St → Prop} : wpI P [] s K = K s := rfl
@[simp ↓] theorem yKR {d : Option Nat} {op : IOp} {l : List Ins} {s : St} {K : St → Prop} : wpI P (⟨none, d, op⟩ :: l) s K = yT P d op s fun s' => wpI P l s' K := rfl
def ycS (x : AV) (t : Nat) (want : Bool) (s : St) (A B : St → Prop) : Prop :=
 match x with
 | .c (.b v) => (v = want → A (s.put (some t) (.c (.b want)))) ∧ (v = (!want) → B (s.put (some t) (.c (.b (!want)))))
 | .und => B s
 | _ => False
theorem yph {s : St} {t : Nat} {v : AV} (h : s.env t = v) : s.put (some t) v = s := by
 obtain ⟨env, objs⟩ := s
 simp only [St.put]
 congr 1
 funext n
 unfold upd
 split
 ·rename_i e; subst e; exact h.symm
 ·rfl
theorem yqk {t : Nat} {want : Bool} {s : St} {A B : St → Prop} : ydk (s.env t) want (A s) (B s) = ycS (s.env t) t want s A B := by
 unfold ydk ycS
 cases h : s.env t with
 | c x => cases x with
  | b v =>
   apply propext
   constructor
   ·rintro ⟨h1, h2⟩
    exact ⟨fun e => by rw [yph (by rw [h, e])]; exact h1 e, fun e => by rw [yph (by rw [h, e])]; exact h2 e⟩
   ·rintro ⟨h1, h2⟩
    refine ⟨fun e => ?_, fun e => ?_⟩
    ·have := h1 e; rwa [yph (by rw [h, e])] at this
    ·have := h2 e; rwa [yph (by rw [h, e])] at this
  | _ => rfl
 | _ => rfl
@[congr] theorem yEF {a a' : AV} {t : Nat} {v : Bool} {s : St} {A B : St → Prop} (h : a = a') : ycS a t v s A B = ycS a' t v s A B := by rw [h]
@[simp] theorem yKU {t : Nat} {v want : Bool} {s : St} {A B : St → Prop} : ycS (.c (.b v)) t want s A B = ((v = want → A (s.put (some t) (.c (.b want)))) ∧ (v = (!want) → B (s.put (some t) (.c (.b (!want)))))) := rfl
@[simp high] theorem yIY {t : Nat} {s : St} {A B : St → Prop} : ycS (.c (.b true)) t true s A B = A (s.put (some t) (.c (.b true))) := by simp [ycS]
@[simp high] theorem yHY {t : Nat} {s : St} {A B : St → Prop} : ycS (.c (.b true)) t false s A B = B (s.put (some t) (.c (.b true))) := by simp [ycS]
@[simp high] theorem yIN {t : Nat} {s : St} {A B : St → Prop} : ycS (.c (.b false)) t true s A B = B (s.put (some t) (.c (.b false))) := by simp [ycS]
@[simp high] theorem yHX {t : Nat} {s : St} {A B : St → Prop} : ycS (.c (.b false)) t false s A B = A (s.put (some t) (.c (.b false))) := by simp [ycS]
@[simp] theorem yFo {t : Nat} {want : Bool} {s : St} {A B : St → Prop} : ycS .und t want s A B = B s := rfl
@[simp ↓] theorem yI7 {t : Nat} {v : Bool} {d : Option Nat} {op : IOp} {l : List Ins} {s : St} {K : St → Prop} :
 wpI P (⟨some (t, v), d, op⟩ :: l) s K = ycS (s.env t) t v s (fun s => yT P d op s fun s' => wpI P l s' K) (fun s => wpI P l (s.put d .und) K) :=
 yqk (A := fun s => yT P d op s fun s' => wpI P l s' K) (B := fun s => wpI P l (s.put d .und) K)
@[simp ↓] theorem wpQ_nil {s : St} {K : St → Prop} : wpQ P [] s K = K s := rfl
@[simp ↓] theorem yML {d : Option Nat} {op : IOp} {l : List Ins} {s : St} {K : St → Prop} : wpQ P (⟨none, d, op⟩ :: l) s K = yaB P op s.ev s.objs fun v => wpQ P l (s.put d v) K := rfl
@[simp ↓] theorem yIC {t : Nat} {v : Bool} {d : Option Nat} {op : IOp} {l : List Ins} {s : St} {K : St → Prop} :
 wpQ P (⟨some (t, v), d, op⟩ :: l) s K = ycS (s.env t) t v s (fun s => yaB P op s.ev s.objs fun v => wpQ P l (s.put d v) K) (fun s => wpQ P l (s.put d .und) K) := by
 have e : wpQ P (⟨some (t, v), d, op⟩ :: l) s K = ydk (s.env t) v (yaB P op s.ev s.objs fun v => wpQ P l (s.put d v) K) (wpQ P l (s.put d .und) K) := rfl
 rw [e]
 exact yqk (A := fun s => yaB P op s.ev s.objs fun v => wpQ P l (s.put d v) K) (B := fun s => wpQ P l (s.put d .und) K)
@[simp ↓] theorem wpE_nil {n : Nat} {h : List (Nat × Lab)} {s : St} {K : St → Prop} : wpE P n [] h s K = K s := by simp only [wpE]
@[simp] theorem yId {a0} : (IOp.mv a0).yab = false := rfl
@[simp] theorem yHm {a0} : (IOp.neg a0).yab = false := rfl
@[simp] theorem yFT {a0} : (IOp.isn a0).yab = false := rfl
@[simp] theorem yFU {a0 a1} : (IOp.fld a0 a1).yab = false := rfl
@[simp] theorem yGb {a0} : (IOp.ld1 a0).yab = false := rfl
@[simp] theorem yGZ {a0 a1} : (IOp.ldn a0 a1).yab = false := rfl
@[simp] theorem yHz {a0 a1} : (IOp.ext a0 a1).yab = false := rfl
@[simp] theorem yGM {a0} : (IOp.len a0).yab = false := rfl
@[simp] theorem yFk {a0} : (IOp.slen a0).yab = false := rfl
@[simp] theorem yGR {a0} : (IOp.nck a0).yab = false := rfl
@[simp] theorem yGu {a0} : (IOp.cap a0).yab = false := rfl
@[simp] theorem yGy {a0 a1} : (IOp.cvt a0 a1).yab = false := rfl
@[simp] theorem yGI {a0 a1 a2} : (IOp.seq a0 a1 a2).yab = false := rfl
@[simp] theorem yEX {a0 a1} : (IOp.scat a0 a1).yab = false := rfl
@[simp] theorem yG7 {a0 a1 a2} : (IOp.bit a0 a1 a2).yab = false := rfl
@[simp] theorem yE9 {a0 a1 a2} : (IOp.binu a0 a1 a2).yab = false := rfl
@[simp] theorem yE2 {a0 a1 a2} : (IOp.binw a0 a1 a2).yab = false := rfl
@[simp] theorem yHo {a0 a1 a2} : (IOp.bin a0 a1 a2).yab = false := rfl
@[simp] theorem yFM {a0 a1 a2} : (IOp.beq a0 a1 a2).yab = false := rfl
@[simp] theorem yHg {a0 a1} : (IOp.ixs a0 a1).yab = false := rfl
@[simp] theorem yFS {a0 a1 a2} : (IOp.idx a0 a1 a2).yab = false := rfl
@[simp] theorem yHq {a0 a1 a2 a3} : (IOp.ida a0 a1 a2 a3).yab = false := rfl
@[simp] theorem yFV {a0 a1 a2 a3} : (IOp.sla a0 a1 a2 a3).yab = false := rfl
@[simp] theorem yE1 {a0 a1 a2} : (IOp.pick a0 a1 a2).yab = false := rfl
@[simp] theorem yGq {a0 a1 a2} : (IOp.sls a0 a1 a2).yab = false := rfl
@[simp] theorem yFu {a0 a1 a2 a3 a4} : (IOp.slc a0 a1 a2 a3 a4).yab = false := rfl
@[simp] theorem yI2 {a0} : (IOp.mn a0).yab = false := rfl
@[simp] theorem yJK {a0} : (IOp.mx a0).yab = false := rfl
@[simp] theorem yGL {a0 a1} : (IOp.mkf a0 a1).yab = false := rfl
@[simp] theorem yFP {a0 a1} : (IOp.bld a0 a1).yab = false := rfl
@[simp] theorem yGE {a0} : (IOp.not a0).yab = false := rfl
theorem yBE {i : Ins} {s : St} {kN : St → Prop} (h : i.op.yab = false) : mkE P i s kN = False := by
 obtain ⟨g, d, op⟩ := i
 unfold mkE
 split
 ·rename_i e; simp only at e h; rw [e] at h; cases h
 ·rfl
theorem mkE_g {p : Nat × Bool} {d : Option Nat} {op : IOp} {s : St} {kN : St → Prop} : mkE P ⟨some p, d, op⟩ s kN = False := rfl
def yvE (P : Program) (f : Nat) (xs : List AV) (d : Option Nat) (s : St) (k : AV → Prop) (kN : St → Prop) (_ : Tag (k, kN)) : Prop :=
 yvi P f xs s.objs k ∨ match d with
  | some d => ∃ args res, ycE P f args res ∧ ybX s xs args ∧ (res.closed ∨ xs.all AV.ydi = true) ∧ yau s (res.yaU d) ∧ kN (s.take d res)
  | none => False
theorem yuZ {f d : Nat} {xs args : List AV} {res : AV} {s : St} {k : AV → Prop} {kN : St → Prop} {T : Tag (k, kN)} (hp : ycE P f args res) (ho : ybX s xs args) (hc : res.closed) (hfr : yau s (res.yaU d)) (hK : kN (s.take d res)) : yvE P f xs (some d) s k kN T :=
 .inr ⟨args, res, hp, ho, .inl hc, hfr, hK⟩
theorem ysx {f : Nat} {d : Option Nat} {xs args : List AV} {res : AV} {s : St} {k : AV → Prop} {kN : St → Prop} {T : Tag (k, kN)} (hp : yF P f args res) (ho : ybX s xs args) (hc : xs.all AV.ydi = true ∨ res.scalar = true) (hK : k res) : yvE P f xs d s k kN T :=
 .inl ⟨args, res, hp, by rw [ydo]; exact ho, hc, hK⟩
@[simp ↓] theorem wpE_q {n : Nat} {h : List (Nat × Lab)} {d : Option Nat} {op : IOp} {l : List RIns} {s : St} {K : St → Prop} (ho : op.yab = false) : wpE P n (⟨0, false, [], ⟨none, d, op⟩⟩ :: l) h s K = yaB P op s.ev s.objs fun v => wpE P (n + 1) l h (s.put d v) K := by
 have e : wpE P n (⟨0, false, [], ⟨none, d, op⟩⟩ :: l) h s K = ((yaB P op s.ev s.objs fun v => true = true ∧ wpE P (n + 1) l h (s.put d v) K) ∨ mkE P ⟨none, d, op⟩ s fun s' => true = true ∧ wpE P (n + 1) l h s' K) := by rw [wpE]; first | done | rfl
 rw [e, yBE ho]; simp only [true_and, or_false]
@[simp ↓ low] theorem wpE_qn {n : Nat} {nt : Bool} {chk : List Nat} {h : List (Nat × Lab)} {d : Option Nat} {op : IOp} {l : List RIns} {s : St} {K : St → Prop} (ho : op.yab = false) : wpE P n (⟨0, nt, chk, ⟨none, d, op⟩⟩ :: l) h s K =
 yaB P op s.ev s.objs fun v => yfT chk h (yeZ ⟨none, d, op⟩ s v) = true ∧ wpE P (n + 1) l (ybU nt n (yeZ ⟨none, d, op⟩ s v) h) (s.put d v) K := by
 have e : wpE P n (⟨0, nt, chk, ⟨none, d, op⟩⟩ :: l) h s K = ((yaB P op s.ev s.objs fun v => yfT chk h (yeZ ⟨none, d, op⟩ s v) = true ∧ wpE P (n + 1) l (ybU nt n (yeZ ⟨none, d, op⟩ s v) h) (s.put d v) K) ∨ mkE P ⟨none, d, op⟩ s fun s' => yfT chk h ([], true) = true ∧ wpE P (n + 1) l (ybU nt n ([], true) h) s' K) := by rw [wpE]; first | done | rfl
 rw [e, yBE ho, or_false]
@[simp ↓] theorem wpE_qc {n f : Nat} {h : List (Nat × Lab)} {d : Option Nat} {xs : List X} {l : List RIns} {s : St} {K : St → Prop} : wpE P n (⟨0, false, [], ⟨none, d, .call f xs⟩⟩ :: l) h s K =
 yvE P f (xs.map s.ev) d s (fun v => wpE P (n + 1) l h (s.put d v) K) (fun s' => wpE P (n + 1) l h s' K) ⟨⟩ := by
 have e : wpE P n (⟨0, false, [], ⟨none, d, .call f xs⟩⟩ :: l) h s K = ((yvi P f (xs.map s.ev) s.objs fun v => true = true ∧ wpE P (n + 1) l h (s.put d v) K) ∨ mkE P ⟨none, d, .call f xs⟩ s fun s' => true = true ∧ wpE P (n + 1) l h s' K) := by rw [wpE]; first | done | rfl
 rw [e]
 cases d <;> (unfold yvE mkE; simp only [true_and])
@[simp ↓] theorem wpE_qg {n : Nat} {nt : Bool} {chk : List Nat} {h : List (Nat × Lab)} {t : Nat} {b : Bool} {d : Option Nat} {op : IOp} {l : List RIns} {s : St} {K : St → Prop} : wpE P n (⟨0, nt, chk, ⟨some (t, b), d, op⟩⟩ :: l) h s K =
 ycS (s.env t) t b s (fun s => yaB P op s.ev s.objs fun v => yfT chk h (yeZ ⟨some (t, b), d, op⟩ s v) = true ∧ wpE P (n + 1) l (ybU nt n (yeZ ⟨some (t, b), d, op⟩ s v) h) (s.put d v) K)
  (fun s => yfT chk h (yeZ ⟨some (t, b), d, op⟩ s .und) = true ∧ wpE P (n + 1) l (ybU nt n (yeZ ⟨some (t, b), d, op⟩ s .und) h) (s.put d .und) K) := by
 have e : wpE P n (⟨0, nt, chk, ⟨some (t, b), d, op⟩⟩ :: l) h s K = (ydk (s.env t) b (yaB P op s.ev s.objs fun v => yfT chk h (yeZ ⟨some (t, b), d, op⟩ s v) = true ∧ wpE P (n + 1) l (ybU nt n (yeZ ⟨some (t, b), d, op⟩ s v) h) (s.put d v) K)
  (yfT chk h (yeZ ⟨some (t, b), d, op⟩ s .und) = true ∧ wpE P (n + 1) l (ybU nt n (yeZ ⟨some (t, b), d, op⟩ s .und) h) (s.put d .und) K) ∨ mkE P ⟨some (t, b), d, op⟩ s fun s' => yfT chk h ([], true) = true ∧ wpE P (n + 1) l (ybU nt n ([], true) h) s' K) := by rw [wpE]; first | done | rfl
 rw [e, mkE_g, or_false]
 exact yqk (A := fun s => yaB P op s.ev s.objs fun v => yfT chk h (yeZ ⟨some (t, b), d, op⟩ s v) = true ∧ wpE P (n + 1) l (ybU nt n (yeZ ⟨some (t, b), d, op⟩ s v) h) (s.put d v) K)
  (B := fun s => yfT chk h (yeZ ⟨some (t, b), d, op⟩ s .und) = true ∧ wpE P (n + 1) l (ybU nt n (yeZ ⟨some (t, b), d, op⟩ s .und) h) (s.put d .und) K)
@[simp ↓] theorem wpE_m {n : Nat} {nt : Bool} {chk : List Nat} {h : List (Nat × Lab)} {i : Ins} {l : List RIns} {s : St} {K : St → Prop} : wpE P n (⟨1, nt, chk, i⟩ :: l) h s K =
 (yfT chk h (yBr i) = true ∧ yfS P i.d i.op s fun s' => wpE P (n + 1) l (ybU nt n (yBr i) h) s' K) := by rw [wpE]; first | done | rfl
@[simp ↓] theorem wpE_e {n : Nat} {nt : Bool} {chk : List Nat} {h : List (Nat × Lab)} {g : Option (Nat × Bool)} {d : Option Nat} {op : IOp} {l : List RIns} {s : St} {K : St → Prop} (ho : op.yab = false) : wpE P n (⟨2, nt, chk, ⟨g, d, op⟩⟩ :: l) h s K =
 (yfT chk h (ywu ⟨g, d, op⟩ s) = true ∧ yT P d op s fun s' => wpE P (n + 1) l (ybU nt n (ywu ⟨g, d, op⟩ s) h) s' K) := by
 have e : wpE P n (⟨2, nt, chk, ⟨g, d, op⟩⟩ :: l) h s K = if op.yab then yzS P ⟨g, d, op⟩ s fun lab s' => yfT chk h lab = true ∧ wpE P (n + 1) l (ybU nt n lab h) s' K
  else yfT chk h (ywu ⟨g, d, op⟩ s) = true ∧ yT P d op s fun s' => wpE P (n + 1) l (ybU nt n (ywu ⟨g, d, op⟩ s) h) s' K := by rw [wpE]; first | done | rfl
 rw [e, if_neg (by simp [ho])]
@[simp] theorem yFC {a0 a1} : (IOp.st1 a0 a1).yab = false := rfl
@[simp] theorem yG0 {a0 a1 a2} : (IOp.stn a0 a1 a2).yab = false := rfl
@[simp] theorem yFr {a0 a1 a2 a3} : (IOp.app a0 a1 a2 a3).yab = false := rfl
@[simp] theorem yH6 {a0 a1 a2} : (IOp.cp a0 a1 a2).yab = false := rfl
@[simp] theorem yGG {a0 a1} : (IOp.bsl a0 a1).yab = false := rfl
def turnT (P : Program) (f : Nat) (d : Option Nat) (xs : List X) (s : St) (K : Lab → St → Prop) (_ : Tag K) : Prop := yzS P ⟨none, d, .call f xs⟩ s K
@[simp ↓] theorem wpE_t {n f : Nat} {nt : Bool} {chk : List Nat} {h : List (Nat × Lab)} {d : Option Nat} {xs : List X} {l : List RIns} {s : St} {K : St → Prop} : wpE P n (⟨2, nt, chk, ⟨none, d, .call f xs⟩⟩ :: l) h s K =
 turnT P f d xs s (fun lab s' => yfT chk h lab = true ∧ wpE P (n + 1) l (ybU nt n lab h) s' K) ⟨⟩ := by
 have e : wpE P n (⟨2, nt, chk, ⟨none, d, .call f xs⟩⟩ :: l) h s K = if (IOp.call f xs).yab then yzS P ⟨none, d, .call f xs⟩ s fun lab s' => yfT chk h lab = true ∧ wpE P (n + 1) l (ybU nt n lab h) s' K
  else yfT chk h (ywu ⟨none, d, .call f xs⟩ s) = true ∧ yT P d (.call f xs) s fun s' => wpE P (n + 1) l (ybU nt n (ywu ⟨none, d, .call f xs⟩ s) h) s' K := by rw [wpE]; first | done | rfl
 rw [e, if_pos (show (IOp.call f xs).yab = true from rfl)]; rfl
@[congr] theorem yHn {d : Option Nat} {op op' : IOp} {s : St} {K : St → Prop} (h : op = op') : yfS P d op s K = yfS P d op' s K := by rw [h]
@[congr] theorem yIg {k : Nat} {xs xs' : List AV} {s : St} {d : Option Nat} {K : St → Prop} (h : xs = xs') : ywn k xs s d K = ywn k xs' s d K := by rw [h]
@[congr] theorem yFa {f f' : AV} {l l' : List AV} {ob : Nat → Obj} {k : AV → Prop} (h : f = f') (h2 : l = l') : ykE P f l ob k = ykE P f' l' ob k := by rw [h, h2]
@[simp ↓] theorem yE7 {d : Option Nat} {s : St} {K : St → Prop} {zs : List AV} : yfS P d (.alloc zs) s K = newP s d (.box zs) (fun d => .box d 0) K := rfl
@[simp ↓] theorem yD4 {d : Option Nat} {s : St} {K : St → Prop} {n m : Nat} {z : List C} : yfS P d (.alloca n m z) s K = newP s d (.row n (List.replicate m z)) (fun d => .row d n 0 0) K := rfl
@[simp ↓] theorem yJ0 {d : Option Nat} {s : St} {K : St → Prop} {n b : Nat} {z : List C} {l c : X} : yfS P d (.mks n b z l c) s K = ywG n b z s d (s.ev l) (s.ev c) K := rfl
@[simp ↓] theorem yJH {d : Option Nat} {s : St} {K : St → Prop} {n : Nat} {xs : List X} : yfS P d (.bsl n xs) s K = ywn n (xs.map s.ev) s d K := rfl
def yCC (k : Nat) (s : St) (d : Option Nat) (K : St → Prop) : Option (List (List C)) → Prop
 | some rows => (∀ r ∈ rows, r.length = k) ∧ newP s d (.row k rows) (fun d => .own d k rows.length) K
 | none => False
@[congr] theorem yIn {k : Nat} {s : St} {d : Option Nat} {K : St → Prop} {o o' : Option (List (List C))} (h : o = o') : yCC k s d K o = yCC k s d K o' := by rw [h]
@[simp] theorem bslF_eq {k : Nat} {xs : List AV} {s : St} {d : Option Nat} {K : St → Prop} : ywn k xs s d K = yCC k s d K (AV.rowsOf xs) := by
 unfold ywn yCC; cases AV.rowsOf xs <;> rfl
@[simp] theorem yH0 {k : Nat} {s : St} {d : Option Nat} {K : St → Prop} {rows : List (List C)} : yCC k s d K (some rows) = ((∀ r ∈ rows, r.length = k) ∧ newP s d (.row k rows) (fun d => .own d k rows.length) K) := rfl
@[simp ↓] theorem yJo {f : Nat} {l xs : List AV} {ob : Nat → Obj} {k : AV → Prop} : ykE P (.fn f l) xs ob k = ((∃ fn, P.funcs[f]? = some fn ∧ fn.body.isSome = true ∧ (fn.name != "runtime.NumGoroutine") = true) ∧ yDh P f (xs ++ l) ob k ⟨⟩) := rfl
@[simp] theorem noteL_f {n : Nat} {lab : Lab} {h : List (Nat × Lab)} : ybU false n lab h = h := rfl
@[simp] theorem noteL_t {n : Nat} {lab : Lab} {h : List (Nat × Lab)} : ybU true n lab h = (n, lab) :: h := rfl
@[simp] theorem yMF {lab : Lab} {h : List (Nat × Lab)} : yfT [] h lab = true := rfl
@[simp] theorem yI1 {i : Nat} {l : List Nat} {lab : Lab} {h : List (Nat × Lab)} : yfT (i :: l) h lab = (yhO (look ([], true) h i) lab && yfT l h lab) := rfl
@[simp] theorem yJB {a b : Lab} : yhO a b = ((a.1.all fun i => !b.1.contains i) && b.2) := rfl
@[simp] theorem labM_eq {g : Option (Nat × Bool)} {d : Nat} {op : IOp} : yBr ⟨g, some d, op⟩ = ([2 * d, 2 * d + 1], true) := rfl
@[simp] theorem yLg {i : Ins} {s : St} {v : AV} : yeZ i s v = ((if ys2 i.op s then [] else lw ((i.op.xs.map s.ev).flatMap AV.ids)) ++ lk ((v :: i.op.xs.map s.ev).flatMap AV.ids), (v :: i.op.xs.map s.ev).all AV.cl) := rfl
@[simp] theorem labE_eq {i : Ins} {s : St} : ywu i s = (lw (wOf i.op s ++ i.d.toList) ++ lk (kOf i.op s ++ i.d.toList), true) := rfl
@[simp] theorem lw_nil : lw [] = [] := rfl
@[simp] theorem lw_cons {i : Nat} {l : List Nat} : lw (i :: l) = 2 * i :: lw l := rfl
@[simp] theorem lw_app {l l' : List Nat} : lw (l ++ l') = lw l ++ lw l' := List.map_append
@[simp] theorem lk_nil : lk [] = [] := rfl
@[simp] theorem lk_cons {i : Nat} {l : List Nat} : lk (i :: l) = (2 * i + 1) :: lk l := rfl
@[simp] theorem lk_app {l l' : List Nat} : lk (l ++ l') = lk l ++ lk l' := List.map_append
attribute [simp] ys2 AV.ypP yzC
@[simp] theorem kOf_st1 {s : St} {x v : X} : kOf (.st1 x v) s = if yqf s (s.ev x) then (s.ev v).ids else [] := rfl
@[simp] theorem kOf_stn {s : St} {n : Nat} {x v : X} : kOf (.stn n x v) s = if yqf s (s.ev x) then (s.ev v).ids else [] := rfl
@[simp] theorem kOf_cp {s : St} {k : Nat} {x v : X} : kOf (.cp k x v) s = [] := rfl
@[simp] theorem kOf_app {s : St} {k b : Nat} {x y : X} : kOf (.app k b x y) s = yzC (s.ev x) (wOf (.app k b x y) s) := rfl
@[simp] theorem kOf_bsl {s : St} {k : Nat} {xs : List X} : kOf (.bsl k xs) s = wOf (.bsl k xs) s := rfl
def yzB (y : AV) : Option (List (List C)) → List Nat
 | some _ => []
 | none => y.ids
@[simp] theorem yEQ {y : AV} {r : List (List C)} : yzB y (some r) = [] := rfl
@[simp] theorem yE6 {y : AV} : yzB y none = y.ids := rfl
@[simp] theorem wOf_app {s : St} {k b : Nat} {x y : X} : wOf (.app k b x y) s = (s.ev x).ids ++ yzB (s.ev y) (yaw s k (s.ev y)) := by
 simp only [wOf]; cases yaw s k (s.ev y) <;> rfl
@[simp] theorem wOf_st1 {s : St} {x v : X} : wOf (.st1 x v) s = (s.ev x).ids ++ (if yqf s (s.ev x) then (s.ev v).ids else []) := rfl
@[simp] theorem wOf_stn {s : St} {n : Nat} {x v : X} : wOf (.stn n x v) s = (s.ev x).ids ++ (if yqf s (s.ev x) then (s.ev v).ids else []) := rfl
@[simp] theorem wOf_cp {s : St} {k : Nat} {x v : X} : wOf (.cp k x v) s = (s.ev x).ids := rfl
def yDz (k n id k' : Nat) (j h : Int) (K : AV → Prop) : Obj → Prop
 | .row _ rows => k' = k ∧ j = 0 ∧ 0 ≤ h ∧ h ≤ rows.length ∧ rows.length = n ∧ K (.own id k h.toNat)
 | _ => False
@[congr] theorem yJi {k n id k' : Nat} {j h : Int} {K : AV → Prop} {o o' : Obj} (e : o = o') : yDz k n id k' j h K o = yDz k n id k' j h K o' := by rw [e]
@[simp] theorem yL8 {k n : Nat} {s : St} {id k' : Nat} {j h : Int} {K : AV → Prop} : ypK k n s (.row id k' j 0) (.c (.i h)) K = yDz k n id k' j h K (s.ob id) := by
 simp only [ypK, yDz]; cases s.ob id <;> rfl
@[simp] theorem yLw {k n id k' q : Nat} {j h : Int} {K : AV → Prop} {rows : List (List C)} : yDz k n id k' j h K (.row q rows) = (k' = k ∧ j = 0 ∧ 0 ≤ h ∧ h ≤ rows.length ∧ rows.length = n ∧ K (.own id k h.toNat)) := rfl
@[simp] theorem yMn {s : St} {id k o : Nat} {i : Int} : yqf s (.row id k i o) = (s.ob id).tree := rfl
@[simp] theorem yMB {s : St} {id o : Nat} : yqf s (.box id o) = false := rfl
@[simp] theorem yIX {s : St} {id ver : Nat} {i : Int} {j k : Nat} {i' : Int} {o : Nat} : yqf s (.ycO id ver i j k i' o) = false := rfl
@[simp] theorem yKF {k : Nat} {r : List (List C)} : (Obj.row k r).tree = false := rfl
@[simp] theorem tree_tr {k v : Nat} {r : List (List C)} : (Obj.tr k v r).tree = true := rfl
attribute [simp] IOp.xs
@[simp] theorem ids_any : AV.any.ids = [] := rfl
@[simp] theorem ids_und : AV.und.ids = [] := rfl
@[simp] theorem ids_c {x : C} : (AV.c x).ids = [] := rfl
@[simp] theorem ids_nil {k : Nat} : (AV.nil k).ids = [] := rfl
@[simp] theorem yK4 {k : Nat} {r : List (List C)} : (AV.clip k r).ids = [] := rfl
@[simp] theorem ids_elt {r : List C} : (AV.elt r).ids = [] := rfl
@[simp] theorem ids_box {i o : Nat} : (AV.box i o).ids = [i] := rfl
@[simp] theorem ids_row {i k o : Nat} {j : Int} : (AV.row i k j o).ids = [i] := rfl
@[simp] theorem ids_own {i k n : Nat} : (AV.own i k n).ids = [i] := rfl
@[simp] theorem ids_cut {i k l n : Nat} : (AV.cut i k l n).ids = [i] := rfl
@[simp] theorem ids_sub {i ver : Nat} {n : Int} {j k m : Nat} : (AV.sub i ver n j k m).ids = [i] := rfl
@[simp] theorem yLm {i ver : Nat} {n : Int} {j k : Nat} {m : Int} {o : Nat} : (AV.ycO i ver n j k m o).ids = [i] := rfl
@[simp] theorem ids_agg {l : List AV} : (AV.agg l).ids = l.flatMap AV.ybf := rfl
@[simp] theorem ids_fn {f : Nat} {l : List AV} : (AV.fn f l).ids = l.flatMap AV.ybf := rfl
@[simp] theorem ids_tup {l : List AV} : (AV.tup l).ids = l.flatMap AV.yb5 := rfl
@[simp] theorem yLH {l : List C} : (l.map AV.c).flatMap AV.ybf = [] := by
 rw [List.flatMap_eq_nil_iff]; intro x hx; obtain ⟨c, _, rfl⟩ := List.mem_map.1 hx; rfl
attribute [simp] AV.ybf AV.yaX AV.yb5 AV.cl AV.cl2 AV.cl1
@[simp] theorem cl1_map {l : List C} : (l.map AV.c).all AV.cl1 = true := by
 rw [List.all_eq_true]; intro x hx; obtain ⟨c, _, rfl⟩ := List.mem_map.1 hx; rfl
@[simp] theorem yMK {b want : Bool} {A B : Prop} : ydk (.c (.b b)) want A B = ((b = want → A) ∧ (b = (!want) → B)) := rfl
@[simp] theorem yHx {want : Bool} {A B : Prop} : ydk .und want A B = B := rfl
@[simp high] theorem condP_t {A B : Prop} : ynB (.c (.b true)) A B = A := by simp [ynB]
@[simp high] theorem condP_f {A B : Prop} : ynB (.c (.b false)) A B = B := by simp [ynB]
@[simp] theorem condP_b {b : Bool} {A B : Prop} : ynB (.c (.b b)) A B = ((b = true → A) ∧ (b = false → B)) := rfl
section
variable {d : Option Nat} {s : St} {K : St → Prop} {ev : X → AV} {ob : Nat → Obj} {k : AV → Prop}
@[simp ↓] theorem step_mv {x : X} : yT P d (.mv x) s K = K (s.put d (s.ev x)) := rfl
@[simp ↓] theorem yIl {a b c : X} : yT P d (.pick a b c) s K = yhS (s.ev a) (s.ev b) (s.ev c) fun v => K (s.put d v) := rfl
@[simp ↓] theorem yK3 {o : BinOp} {a b : X} : yT P d (.bin o a b) s K = ysE o (s.ev a) (s.ev b) fun v => K (s.put d v) := rfl
@[simp ↓] theorem yMr {o : Bool} {a b : X} : yT P d (.beq o a b) s K = yqY o (s.ev a) (s.ev b) fun v => K (s.put d v) := rfl
@[simp ↓] theorem yMj {a : X} : yT P d (.isn a) s K = yws (s.ev a) fun v => K (s.put d v) := rfl
@[simp ↓] theorem yLU {a : X} : yT P d (.not a) s K = notP (s.ev a) fun v => K (s.put d v) := rfl
@[simp ↓] theorem yKD {a : X} : yT P d (.neg a) s K = ysH (s.ev a) fun v => K (s.put d v) := rfl
@[simp ↓] theorem yLl {n : Nat} {a b : X} : yT P d (.idx n a b) s K = ylz n s (s.ev a) (s.ev b) fun v => K (s.put d v) := rfl
@[simp ↓] theorem yLv {m n : Nat} {a b : X} : yT P d (.ida m n a b) s K = ysd m n (s.ev a) (s.ev b) fun v => K (s.put d v) := rfl
@[simp ↓] theorem yLK {n : Nat} {a : X} : yT P d (.fld n a) s K = ymS n s (s.ev a) fun v => K (s.put d v) := rfl
@[simp ↓] theorem yLN {a : X} : yT P d (.ld1 a) s K = ykc s (s.ev a) fun v => K (s.put d v) := rfl
@[simp ↓] theorem yMv {n : Nat} {a : X} : yT P d (.ldn n a) s K = yj6 n s (s.ev a) fun v => K (s.put d v) := rfl
@[simp ↓] theorem yNi {a b : X} : yT P d (.st1 a b) s K = ykF s (s.ev a) (s.ev b) fun s' => K (s'.put d .und) := rfl
@[simp ↓] theorem yKI {n : Nat} {a b : X} : yT P d (.stn n a b) s K = yoB n s (s.ev a) (s.ev b) fun s' => K (s'.put d .und) := rfl
@[simp ↓] theorem yKv {n : Nat} {a : X} : yT P d (.box n a) s K = yAA n s d (s.ev a) K := rfl
@[simp ↓] theorem yFD {zs : List AV} : yT P d (.alloc zs) s K = newP s d (.box zs) (fun d => .box d 0) K := rfl
@[simp ↓] theorem yEw {n m : Nat} {z : List C} : yT P d (.alloca n m z) s K = newP s d (.row n (List.replicate m z)) (fun d => .row d n 0 0) K := rfl
@[simp ↓] theorem yK0 {n b : Nat} {z : List C} {l c : X} : yT P d (.mks n b z l c) s K = ywG n b z s d (s.ev l) (s.ev c) K := rfl
@[simp ↓] theorem yMC {n : Nat} {xs : List X} : yT P d (.bsl n xs) s K = yqW n (xs.map s.ev) s d K := rfl
@[simp ↓] theorem yKY {zs : List AV} {ps : List (Nat × Nat × X)} : yT P d (.bld zs ps) s K = yf0 s ps zs fun l => K (s.put d (.agg l)) := rfl
@[simp ↓] theorem yM2 {n : Nat} {x : X} {lo hi m : Option X} : yT P d (.slc n x lo hi m) s K = yj8 n (s.ev x) (lo.map s.ev) (hi.map s.ev) (m.map s.ev) fun v => K (s.put d v) := rfl
@[simp ↓] theorem yMq {n m : Nat} {x h : X} : yT P d (.sla n m x h) s K = ypK n m s (s.ev x) (s.ev h) fun v => K (s.put d v) := rfl
@[simp ↓] theorem yMG {x : X} : yT P d (.len x) s K = ykr s (s.ev x) fun v => K (s.put d v) := rfl
@[simp ↓] theorem yIR {x : X} : yT P d (.slen x) s K = ymG (s.ev x) fun v => K (s.put d v) := rfl
@[simp ↓] theorem yJr {n b : Nat} {z : List C} {x y : X} : yT P d (.appz n b z x y) s K = yvs n b z s d (s.ev x) (s.ev y) K := rfl
@[congr] theorem yGl {o n : Nat} {z : List C} {s : St} {d : Option Nat} {a a' b b' : AV} {k : St → Prop} (h2 : a = a') (h3 : b = b') : yvs o n z s d a b k = yvs o n z s d a' b' k := by rw [h2, h3]
@[simp] theorem yKz {k b : Nat} {z : List C} {s : St} {d : Option Nat} {j : Nat} {m : Int} {K : St → Prop} : yvs k b z s d (.nil j) (.c (.i m)) K = (0 ≤ m ∧ m.toNat * b ≤ 140737488355328 ∧ newP s d (.row k (List.replicate m.toNat z)) (fun d => .own d k m.toNat) K) := rfl
@[simp ↓] theorem yMk {n b : Nat} {x y : X} : yT P d (.app n b x y) s K = ylX n b s d (s.ev x) (s.ev y) K := rfl
@[simp ↓] theorem step_mn {xs : List X} : yT P d (.mn xs) s K = mmP (fun x y => if y < x then y else x) (xs.map s.ev) fun v => K (s.put d v) := rfl
@[simp ↓] theorem step_mx {xs : List X} : yT P d (.mx xs) s K = mmP (fun x y => if x < y then y else x) (xs.map s.ev) fun v => K (s.put d v) := rfl
@[simp ↓] theorem yK1 {n : Nat} {x : X} : yT P d (.ext n x) s K = yqV n (s.ev x) fun v => K (s.put d v) := rfl
@[simp ↓] theorem yKb {f : Nat} {xs : List X} : yT P d (.call f xs) s K = yE4 P f (xs.map s.ev) d s K ⟨⟩ := rfl
@[simp ↓] theorem yNh {x i : X} : yT P d (.ixs x i) s K = yr8 (s.ev x) (s.ev i) fun v => K (s.put d v) := rfl
@[simp ↓] theorem yFJ {f : X} {xs : List X} : yT P d (.callv f xs) s K = ylI P (s.ev f) (xs.map s.ev) d s K := rfl
@[simp ↓] theorem step_cp {n : Nat} {a b : X} : yT P d (.cp n a b) s K = cpP n s d (s.ev a) (s.ev b) K := rfl
@[simp ↓] theorem yLo {a : X} : yT P d (.cap a) s K = yuE (s.ev a) fun v => K (s.put d v) := rfl
@[simp ↓] theorem yLn {a : X} : yT P d (.nck a) s K = ypT (s.ev a) fun v => K (s.put d v) := rfl
@[simp ↓] theorem step_seq {o : Bool} {a b : X} : yT P d (.seq o a b) s K = yqT o (s.ev a) (s.ev b) fun v => K (s.put d v) := rfl
@[simp ↓] theorem yKr {a b : X} : yT P d (.scat a b) s K = ymX (s.ev a) (s.ev b) fun v => K (s.put d v) := rfl
@[simp ↓] theorem yNp {x : X} {lo hi : Option X} : yT P d (.sls x lo hi) s K = yqg (s.ev x) (lo.map s.ev) (hi.map s.ev) fun v => K (s.put d v) := rfl
@[simp ↓] theorem yK6 {o : BinOp} {a b : X} : yT P d (.bit o a b) s K = ylK o (s.ev a) (s.ev b) fun v => K (s.put d v) := rfl
@[simp ↓] theorem yJQ {o : BinOp} {a b : X} : yT P d (.binu o a b) s K = ye2 o (s.ev a) (s.ev b) fun v => K (s.put d v) := rfl
@[simp ↓] theorem yIE {o : BinOp} {a b : X} : yT P d (.binw o a b) s K = ykS o (s.ev a) (s.ev b) fun v => K (s.put d v) := rfl
@[simp ↓] theorem yMm {n : Nat} {a : X} : yT P d (.cvt n a) s K = yeg n s (s.ev a) fun v => K (s.put d v) := rfl
@[simp ↓] theorem yLS {f : Nat} {xs : List X} : yT P d (.mkf f xs) s K = ((xs.map s.ev).all AV.yat = true ∧ K (s.put d (.fn f (xs.map s.ev)))) := rfl
@[simp ↓] theorem val_nck {a : X} : yaB P (.nck a) ev ob k = ypT (ev a) k := rfl
@[simp ↓] theorem yKQ {a : X} : yaB P (.cvt 0 a) ev ob k = yeg 0 (ycs ob) (ev a) k := rfl
@[simp ↓] theorem yNs {a : X} : yaB P (.cvt 1 a) ev ob k = yeg 1 (ycs ob) (ev a) k := rfl
@[simp ↓] theorem yLr {a : X} : yaB P (.cvt 3 a) ev ob k = yeg 3 (ycs ob) (ev a) k := rfl
@[simp ↓] theorem val_seq {o : Bool} {a b : X} : yaB P (.seq o a b) ev ob k = yqT o (ev a) (ev b) k := rfl
@[simp ↓] theorem yKx {a b : X} : yaB P (.scat a b) ev ob k = ymX (ev a) (ev b) k := rfl
@[simp ↓] theorem val_sls {x : X} {lo hi : Option X} : yaB P (.sls x lo hi) ev ob k = yqg (ev x) (lo.map ev) (hi.map ev) k := rfl
@[simp ↓] theorem val_bit {o : BinOp} {a b : X} : yaB P (.bit o a b) ev ob k = ylK o (ev a) (ev b) k := rfl
@[simp ↓] theorem yKw {o : BinOp} {a b : X} : yaB P (.binu o a b) ev ob k = ye2 o (ev a) (ev b) k := rfl
@[simp ↓] theorem yK7 {o : BinOp} {a b : X} : yaB P (.binw o a b) ev ob k = ykS o (ev a) (ev b) k := rfl
@[simp ↓] theorem val_mkf {f : Nat} {xs : List X} : yaB P (.mkf f xs) ev ob k = ((xs.map ev).all AV.yat = true ∧ k (.fn f (xs.map ev))) := rfl
@[simp ↓] theorem val_mv {x : X} : yaB P (.mv x) ev ob k = k (ev x) := rfl
@[simp ↓] theorem yNv {a b c : X} : yaB P (.pick a b c) ev ob k = yhS (ev a) (ev b) (ev c) k := rfl
@[simp ↓] theorem val_bin {o : BinOp} {a b : X} : yaB P (.bin o a b) ev ob k = ysE o (ev a) (ev b) k := rfl
@[simp ↓] theorem val_beq {o : Bool} {a b : X} : yaB P (.beq o a b) ev ob k = yqY o (ev a) (ev b) k := rfl
@[simp ↓] theorem val_not {a : X} : yaB P (.not a) ev ob k = notP (ev a) k := rfl
@[simp ↓] theorem val_neg {a : X} : yaB P (.neg a) ev ob k = ysH (ev a) k := rfl
@[simp ↓] theorem val_idx {n : Nat} {a b : X} : yaB P (.idx n a b) ev ob k = ylz n (ycs ob) (ev a) (ev b) k := rfl
@[simp ↓] theorem val_ida {m n : Nat} {a b : X} : yaB P (.ida m n a b) ev ob k = ysd m n (ev a) (ev b) k := rfl
@[simp ↓] theorem val_fld {n : Nat} {a : X} : yaB P (.fld n a) ev ob k = ymS n (ycs ob) (ev a) k := rfl
@[simp ↓] theorem val_ld1 {a : X} : yaB P (.ld1 a) ev ob k = ykc (ycs ob) (ev a) k := rfl
@[simp ↓] theorem val_ldn {n : Nat} {a : X} : yaB P (.ldn n a) ev ob k = yj6 n (ycs ob) (ev a) k := rfl
@[simp ↓] theorem val_slc {n : Nat} {x : X} {lo hi m : Option X} : yaB P (.slc n x lo hi m) ev ob k = yj8 n (ev x) (lo.map ev) (hi.map ev) (m.map ev) k := rfl
@[simp ↓] theorem val_sla {m n : Nat} {x h : X} : yaB P (.sla m n x h) ev ob k = ypK m n (ycs ob) (ev x) (ev h) k := rfl
@[simp ↓] theorem val_len {x : X} : yaB P (.len x) ev ob k = ykr (ycs ob) (ev x) k := rfl
@[simp ↓] theorem yMS {x : X} : yaB P (.slen x) ev ob k = ymG (ev x) k := rfl
@[simp ↓] theorem val_mn {xs : List X} : yaB P (.mn xs) ev ob k = mmP (fun x y => if y < x then y else x) (xs.map ev) k := rfl
@[simp ↓] theorem val_mx {xs : List X} : yaB P (.mx xs) ev ob k = mmP (fun x y => if x < y then y else x) (xs.map ev) k := rfl
@[simp ↓] theorem val_ext {n : Nat} {x : X} : yaB P (.ext n x) ev ob k = yqV n (ev x) k := rfl
@[simp ↓] theorem yKS {f : Nat} {xs : List X} : yaB P (.call f xs) ev ob k = yDh P f (xs.map ev) ob k ⟨⟩ := rfl
@[simp ↓] theorem val_bld {zs : List AV} {ps : List (Nat × Nat × X)} : yaB P (.bld zs ps) ev ob k = yf0 ⟨fun t => ev (.t t), ob⟩ ps zs fun l => k (.agg l) := rfl
@[simp ↓] theorem yI3 {f : X} {xs : List X} : yaB P (.callv f xs) ev ob k = ykE P (ev f) (xs.map ev) ob k := rfl
@[simp ↓] theorem step_bad : yT P d .bad s K = False := rfl
@[simp ↓] theorem val_ixs {x i : X} : yaB P (.ixs x i) ev ob k = yr8 (ev x) (ev i) k := rfl
end
@[simp] theorem ev_t {s : St} {n : Nat} : s.ev (.t n) = s.env n := rfl
@[simp] theorem ev_k {s : St} {a : AV} : s.ev (.k a) = a := rfl
@[simp] theorem yMU {s : St} {v : AV} : s.put none v = s := rfl
@[simp] theorem put_env {s : St} {d t : Nat} {v : AV} : (s.put (some d) v).env t = if t = d then v else s.env t := rfl
attribute [simp] yaG
@[simp] theorem put_ob {s : St} {d : Option Nat} {id : Nat} {v : AV} : (s.put d v).ob id = s.ob id := by cases d <;> rfl
@[simp] theorem yJM {s : St} {id t : Nat} {o : Obj} : (s.yaj id o).env t = s.env t := rfl
@[simp] theorem yNx {s : St} {id i : Nat} {o : Obj} : (s.yaj id o).ob i = if i = id then o else s.ob i := rfl
@[simp] theorem yF2 {s : St} {id i : Nat} {o : Obj} : (s.yaj id o).objs i = if i = id then o else s.objs i := rfl
@[simp] theorem yI9 {s : St} {id t : Nat} {o : Obj} : (s.renew id o).env t = (s.env t).kill id := rfl
@[simp] theorem yNy {s : St} {id i : Nat} {o : Obj} : (s.renew id o).ob i = if i = id then o else (s.ob i).kill id := rfl
@[simp] theorem yFw {s : St} {id i : Nat} {o : Obj} : (s.renew id o).objs i = if i = id then o else (s.objs i).kill id := rfl
@[simp] theorem obSt_ob {f : Nat → Obj} {i : Nat} : (ycs f).ob i = f i := rfl
@[simp] theorem objs_ob {s : St} {i : Nat} : s.objs i = s.ob i := rfl
@[simp] theorem yMD {L : List (Nat × AV)} {O : List (Nat × Obj)} {t : Nat} : (yP L O).env t = look .any L t := rfl
@[simp] theorem stOf_ob {L : List (Nat × AV)} {O : List (Nat × Obj)} {t : Nat} : (yP L O).ob t = look .none O t := rfl
@[simp] theorem yFq {l : List AV} {t : Nat} : (yp6 l).env t = (l[t]?).getD .any := rfl
@[simp] theorem yJD {l : List AV} {t : Nat} : (yp6 l).ob t = .none := rfl
@[simp] theorem mk_env {e : Nat → AV} {o : Nat → Obj} {t : Nat} : (St.mk e o).env t = e t := rfl
@[simp] theorem mk_ob {e : Nat → AV} {o : Nat → Obj} {t : Nat} : (St.mk e o).ob t = o t := rfl
@[simp] theorem look_nil {α : Type} {d : α} {t : Nat} : look d [] t = d := rfl
@[simp] theorem yGm {α : Type} {d v : α} {k t : Nat} {l : List (Nat × α)} : look d ((k, v) :: l) t = if t = k then v else look d l t := rfl
@[simp] theorem upd_app {α : Type} {k : Nat} {v : α} {f : Nat → α} {n : Nat} : upd k v f n = if n = k then v else f n := rfl
@[simp] theorem isNone_none : Obj.none.isNone = true := rfl
@[simp] theorem yFK {l : List AV} : (Obj.box l).isNone = false := rfl
@[simp] theorem yFA {k : Nat} {l : List (List C)} : (Obj.row k l).isNone = false := rfl
@[simp] theorem yJf {k v : Nat} {l : List (List C)} : (Obj.tr k v l).isNone = false := rfl
@[simp] theorem yMg {s : St} {id t : Nat} : (s.drop id).env t = (s.env t).kill id := rfl
@[simp] theorem drop_ob {s : St} {id i : Nat} : (s.drop id).ob i = if i = id then .none else (s.ob i).kill id := rfl
@[simp] theorem yIG {s : St} {id i : Nat} : (s.drop id).objs i = if i = id then .none else (s.ob i).kill id := rfl
@[simp] theorem yKl {s : St} : s.drops [] = s := rfl
@[simp] theorem yHc {s : St} {i : Nat} {l : List Nat} : s.drops (i :: l) = (s.drop i).drops l := rfl
@[simp ↓] theorem yHP {s : St} {d : Nat} {o : Obj} {v : Nat → AV} {K : St → Prop} : newP s (some d) o v K = ((s.ob d).isNone = true ∧ K ((s.yaj d o).put (some d) (v d))) := rfl
@[simp] theorem pickP_t {a b : AV} {k : AV → Prop} : yhS (.c (.b true)) a b k = k a := by
 unfold yhS; simp only; split <;> simp
@[simp] theorem pickP_f {a b : AV} {k : AV → Prop} : yhS (.c (.b false)) a b k = k b := by
 unfold yhS; simp only; split <;> simp
@[simp] theorem yHN {t x y : Bool} {k : AV → Prop} : yhS (.c (.b t)) (.c (.b x)) (.c (.b y)) k = k (.c (.b (cond t x y))) := rfl
@[simp] theorem binP_ii {o : BinOp} {a b : Int} {k : AV → Prop} : ysE o (.c (.i a)) (.c (.i b)) k = yoy o a b k := rfl
@[simp] theorem yL9 {a b : Int} {k : AV → Prop} : yoy .add a b k = (inI (a + b) ∧ k (.c (.i (a + b)))) := rfl
@[simp] theorem yMa {a b : Int} {k : AV → Prop} : yoy .sub a b k = (inI (a - b) ∧ k (.c (.i (a - b)))) := rfl
@[simp] theorem yNw {a b : Int} {k : AV → Prop} : yoy .mul a b k = (inI (a * b) ∧ k (.c (.i (a * b)))) := rfl
@[simp] theorem yMN {a b : Int} {k : AV → Prop} : yoy .quo a b k = (b ≠ 0 ∧ inI (a.tdiv b) ∧ k (.c (.i (a.tdiv b)))) := rfl
@[simp] theorem yM9 {a b : Int} {k : AV → Prop} : yoy .rem a b k = (b ≠ 0 ∧ inI (a.tmod b) ∧ k (.c (.i (a.tmod b)))) := rfl
@[simp] theorem yLF {a b : Int} {k : AV → Prop} : yoy .eql a b k = k (.c (.b (decide (a = b)))) := rfl
@[simp] theorem yKO {a b : Int} {k : AV → Prop} : yoy .neq a b k = k (.c (.b (!decide (a = b)))) := rfl
@[simp] theorem yMh {a b : Int} {k : AV → Prop} : yoy .lss a b k = k (.c (.b (decide (a < b)))) := rfl
@[simp] theorem yKB {a b : Int} {k : AV → Prop} : yoy .leq a b k = k (.c (.b (decide (a ≤ b)))) := rfl
@[simp] theorem yMR {a b : Int} {k : AV → Prop} : yoy .gtr a b k = k (.c (.b (decide (b < a)))) := rfl
@[simp] theorem yLT {a b : Int} {k : AV → Prop} : yoy .geq a b k = k (.c (.b (decide (b ≤ a)))) := rfl
@[simp] theorem beqP_ff {a b : Bool} {k : AV → Prop} : yqY false (.c (.b a)) (.c (.b b)) k = k (.c (.b (decide (a = b)))) := rfl
@[simp] theorem beqP_tt {a b : Bool} {k : AV → Prop} : yqY true (.c (.b a)) (.c (.b b)) k = k (.c (.b (!decide (a = b)))) := rfl
@[simp] theorem notP_b {a : Bool} {k : AV → Prop} : notP (.c (.b a)) k = k (.c (.b !a)) := rfl
@[simp] theorem negP_i {a : Int} {k : AV → Prop} : ysH (.c (.i a)) k = (inI (-a) ∧ k (.c (.i (-a)))) := rfl
@[simp] theorem isnP_sl {n : Nat} {rows : List (List C)} {k : AV → Prop} : yws (.c (.sl n rows)) k = ∀ v : Bool, (v = true → rows = []) → k (.c (.b v)) := rfl
@[simp] theorem yKP {n : Nat} {k : AV → Prop} : yws (.nil n) k = k (.c (.b true)) := rfl
@[simp] theorem yNt {id q n : Nat} {k : AV → Prop} : yws (.own id q n) k = ∀ v : Bool, (v = true → n = 0) → k (.c (.b v)) := rfl
@[simp] theorem idxP_sl {m m' : Nat} {rows : List (List C)} {n : Int} {s : St} {k : AV → Prop} : ylz m s (.c (.sl m' rows)) (.c (.i n)) k = (m' = m ∧ 0 ≤ n ∧ n < rows.length ∧ k (.elt (rows.getD n.toNat []))) := rfl
@[simp] theorem yKc {m m' : Nat} {rows : List (List C)} {n : Int} {s : St} {k : AV → Prop} : ylz m s (.clip m' rows) (.c (.i n)) k = (m' = m ∧ 0 ≤ n ∧ n < rows.length ∧ k (.elt (rows.getD n.toNat []))) := rfl
@[simp] theorem yNf {id m m' r : Nat} {n : Int} {s : St} {k : AV → Prop} : ylz m s (.own id m' r) (.c (.i n)) k = (m' = m ∧ 0 ≤ n ∧ n < (r : Int) ∧ k (.row id m n 0)) := rfl
@[simp] theorem yLi {id m m' lo r : Nat} {n : Int} {s : St} {k : AV → Prop} : ylz m s (.cut id m' lo r) (.c (.i n)) k = (m' = m ∧ 0 ≤ n ∧ n < (r : Int) ∧ k (.row id m (lo + n) 0)) := rfl
def yAF (m : Nat) (id ver : Nat) (i : Int) (j m' r : Nat) (n : Int) (k : AV → Prop) : Obj → Prop
 | .tr _ ver' _ => ver' = ver ∧ m' = m ∧ 0 ≤ n ∧ n < (r : Int) ∧ k (.ycO id ver i j m n 0)
 | _ => False
@[congr] theorem yKn {m id ver : Nat} {i : Int} {j m' r : Nat} {n : Int} {k : AV → Prop} {a a' : Obj} (h : a = a') : yAF m id ver i j m' r n k a = yAF m id ver i j m' r n k a' := by rw [h]
@[simp] theorem yM4 {m id ver : Nat} {i : Int} {j m' r : Nat} {n : Int} {s : St} {k : AV → Prop} : ylz m s (.sub id ver i j m' r) (.c (.i n)) k = yAF m id ver i j m' r n k (s.ob id) := by first | rfl | (simp only [ylz, yAF]; done) | (simp only [ylz, yAF]; rfl)
@[simp] theorem idxT_tr {m id ver k0 ver' : Nat} {i : Int} {j m' r : Nat} {n : Int} {rows : List (List C)} {k : AV → Prop} : yAF m id ver i j m' r n k (.tr k0 ver' rows) = (ver' = ver ∧ m' = m ∧ 0 ≤ n ∧ n < (r : Int) ∧ k (.ycO id ver i j m n 0)) := rfl
@[simp] theorem yKG {id m m' n : Nat} {j q : Int} {k : AV → Prop} : ysd m n (.row id m' j 0) (.c (.i q)) k = (m' = m ∧ j = 0 ∧ 0 ≤ q ∧ q < (n : Int) ∧ k (.row id m q 0)) := rfl
@[simp] theorem yKC {off id o : Nat} {s : St} {k : AV → Prop} : ymS off s (.box id o) k = k (.box id (o + off)) := rfl
@[simp] theorem yKT {off id m o : Nat} {i : Int} {s : St} {k : AV → Prop} : ymS off s (.row id m i o) k = k (.row id m i (o + off)) := rfl
@[simp] theorem yMs {off : Nat} {cs : List C} {s : St} {k : AV → Prop} : ymS off s (.elt cs) k = k (.elt (cs.drop off)) := rfl
def yA0 (off id ver : Nat) (i : Int) (j q : Nat) (i' : Int) (o : Nat) (k : AV → Prop) : Obj → Prop
 | .tr _ ver' _ => ver' = ver ∧ k (.ycO id ver i j q i' (o + off))
 | _ => False
@[congr] theorem yKa {off id ver : Nat} {i : Int} {j q : Nat} {i' : Int} {o : Nat} {k : AV → Prop} {a a' : Obj} (h : a = a') : yA0 off id ver i j q i' o k a = yA0 off id ver i j q i' o k a' := by rw [h]
@[simp] theorem yIf {off id ver : Nat} {i : Int} {j q : Nat} {i' : Int} {o : Nat} {s : St} {k : AV → Prop} : ymS off s (.ycO id ver i j q i' o) k = yA0 off id ver i j q i' o k (s.ob id) := by first | rfl | (simp only [ymS, yA0]; done) | (simp only [ymS, yA0]; rfl)
@[simp] theorem fldT_tr {off id ver k0 ver' : Nat} {i : Int} {j q : Nat} {i' : Int} {o : Nat} {rows : List (List C)} {k : AV → Prop} : yA0 off id ver i j q i' o k (.tr k0 ver' rows) = (ver' = ver ∧ k (.ycO id ver i j q i' (o + off))) := rfl
@[simp] theorem av_i {id ver : Nat} {i : Int} {j : Nat} {n : Int} : (C.i n).av id ver i j = .c (.i n) := rfl
@[simp] theorem av_b {id ver : Nat} {i : Int} {j : Nat} {n : Bool} : (C.b n).av id ver i j = .c (.b n) := rfl
@[simp] theorem av_u {id ver : Nat} {i : Int} {j : Nat} {n : Nat} : (C.u n).av id ver i j = .c (.u n) := rfl
@[simp] theorem av_q {id ver : Nat} {i : Int} {j : Nat} {n : Nat} : (C.q n).av id ver i j = .c (.q n) := rfl
@[simp] theorem av_s {id ver : Nat} {i : Int} {j : Nat} {n : ByteArray} : (C.s n).av id ver i j = .c (.s n) := rfl
@[simp] theorem av_sl {id ver : Nat} {i : Int} {j k : Nat} {r : List (List C)} : (C.sl k r).av id ver i j = .c (.sl k r) := rfl
@[simp] theorem av_ow {id ver : Nat} {i : Int} {j k : Nat} {r : List (List C)} : (C.ow k r).av id ver i j = .sub id ver i j k r.length := rfl
@[simp] theorem av_ot {id ver : Nat} {i : Int} {j k : Nat} {r : List (List C)} : (C.ot k r).av id ver i j = .sub id ver i j k r.length := rfl
@[simp] theorem av_jk {id ver : Nat} {i : Int} {j : Nat} : C.jk.av id ver i j = .any := rfl
@[simp] theorem av2_i {n : Int} : (C.i n).av2 = .c (.i n) := rfl
@[simp] theorem av2_b {n : Bool} : (C.b n).av2 = .c (.b n) := rfl
@[simp] theorem av2_u {n : Nat} : (C.u n).av2 = .c (.u n) := rfl
@[simp] theorem av2_q {n : Nat} : (C.q n).av2 = .c (.q n) := rfl
@[simp] theorem av2_s {n : ByteArray} : (C.s n).av2 = .c (.s n) := rfl
@[simp] theorem av2_sl {k : Nat} {r : List (List C)} : (C.sl k r).av2 = .c (.sl k r) := rfl
@[simp] theorem avs_nil {id ver : Nat} {i : Int} {j : Nat} : avs id ver i j [] = [] := rfl
@[simp] theorem yLZ {id ver : Nat} {i : Int} {j : Nat} {c : C} {l : List C} : avs id ver i j (c :: l) = c.av id ver i j :: avs id ver i (j + 1) l := rfl
@[simp] theorem yJL {rows : List (List C)} {i j : Nat} : cellAt rows i j = (rows[i]?).bind (·[j]?) := by unfold cellAt; cases rows[i]? <;> rfl
@[simp] theorem yMJ {s : St} {x : C} {cs : List C} {k : AV → Prop} : ykc s (.elt (x :: cs)) k = k (.c x) := rfl
@[simp] theorem yKN {n : Nat} {s : St} {cs : List C} {k : AV → Prop} : yj6 n s (.elt cs) k = (n ≤ cs.length ∧ k (.agg ((cs.take n).map .c))) := rfl
def yuR (k : AV → Prop) (o : Nat) : Obj → Prop
 | .box cells => match cells[o]? with
  | some v => k v
  | none => False
 | _ => False
@[congr] theorem yG1 {o : Nat} {a a' : Obj} {k : AV → Prop} (h : a = a') : yuR k o a = yuR k o a' := by rw [h]
@[simp] theorem yLq {s : St} {id o : Nat} {k : AV → Prop} : ykc s (.box id o) k = yuR k o (s.ob id) := rfl
def ywW (k : AV → Prop) : Option AV → Prop | some v => k v | none => False
@[congr] theorem yJN {a a' : Option AV} {k : AV → Prop} (h : a = a') : ywW k a = ywW k a' := by rw [h]
@[simp] theorem yJP {v : AV} {k : AV → Prop} : ywW k (some v) = k v := rfl
@[simp] theorem yIv {o : Nat} {cells : List AV} {k : AV → Prop} : yuR k o (.box cells) = ywW k cells[o]? := by first | rfl | (simp only [yuR, ywW]; done) | (simp only [yuR, ywW]; rfl)
def ywD (k : AV → Prop) (n o : Nat) : Obj → Prop
 | .box cells => o + n ≤ cells.length ∧ k (.agg ((cells.drop o).take n))
 | _ => False
@[congr] theorem yEH {n o : Nat} {a a' : Obj} {k : AV → Prop} (h : a = a') : ywD k n o a = ywD k n o a' := by rw [h]
@[simp] theorem yLf {s : St} {id o n : Nat} {k : AV → Prop} : yj6 n s (.box id o) k = ywD k n o (s.ob id) := rfl
@[simp] theorem yGg {n o : Nat} {cells : List AV} {k : AV → Prop} : ywD k n o (.box cells) = (o + n ≤ cells.length ∧ k (.agg ((cells.drop o).take n))) := rfl
def ysv (k : AV → Prop) (m : Nat) (i : Int) (o id : Nat) : Obj → Prop
 | .row k' rows => k' = m ∧ i.toNat < rows.length ∧ o < m ∧ k (.c ((rows.getD i.toNat []).getD o default))
 | .tr k' ver rows => k' = m ∧ i.toNat < rows.length ∧ o < m ∧ k (((rows.getD i.toNat []).getD o default).av id ver i o)
 | _ => False
@[congr] theorem yHI {m o id : Nat} {i : Int} {a a' : Obj} {k : AV → Prop} (h : a = a') : ysv k m i o id a = ysv k m i o id a' := by rw [h]
@[simp] theorem yMZ {s : St} {id m o : Nat} {i : Int} {k : AV → Prop} : ykc s (.row id m i o) k = ysv k m i o id (s.ob id) := by first | rfl | (simp only [ykc, ysv]; done) | (simp only [ykc, ysv]; rfl)
@[simp] theorem yL0 {m m' ver o id : Nat} {i : Int} {rows : List (List C)} {k : AV → Prop} : ysv k m i o id (.tr m' ver rows) = (m' = m ∧ i.toNat < rows.length ∧ o < m ∧ k (((rows.getD i.toNat []).getD o default).av id ver i o)) := rfl
@[simp] theorem yKh {m m' o id : Nat} {i : Int} {rows : List (List C)} {k : AV → Prop} : ysv k m i o id (.row m' rows) = (m' = m ∧ i.toNat < rows.length ∧ o < m ∧ k (.c ((rows.getD i.toNat []).getD o default))) := rfl
def yoA (k : AV → Prop) (n m : Nat) (i : Int) (o id : Nat) : Obj → Prop
 | .row k' rows => k' = m ∧ i.toNat < rows.length ∧ o + n ≤ m ∧ k (.agg ((((rows.getD i.toNat []).drop o).take n).map .c))
 | .tr k' ver rows => k' = m ∧ i.toNat < rows.length ∧ o + n ≤ m ∧ k (.agg (avs id ver i o (((rows.getD i.toNat []).drop o).take n)))
 | _ => False
@[congr] theorem yEI {n m o id : Nat} {i : Int} {a a' : Obj} {k : AV → Prop} (h : a = a') : yoA k n m i o id a = yoA k n m i o id a' := by rw [h]
@[simp] theorem yMi {s : St} {id m o n : Nat} {i : Int} {k : AV → Prop} : yj6 n s (.row id m i o) k = yoA k n m i o id (s.ob id) := by first | rfl | (simp only [yj6, yoA]; done) | (simp only [yj6, yoA]; rfl)
@[simp] theorem yIt {n m m' ver o id : Nat} {i : Int} {rows : List (List C)} {k : AV → Prop} : yoA k n m i o id (.tr m' ver rows) = (m' = m ∧ i.toNat < rows.length ∧ o + n ≤ m ∧ k (.agg (avs id ver i o (((rows.getD i.toNat []).drop o).take n)))) := rfl
def ywZ (k : AV → Prop) (ver q : Nat) (i : Int) (j : Nat) (i' : Int) (o : Nat) : Obj → Prop
 | .tr _ ver' rows => ver' = ver ∧ match cellAt rows i.toNat j with
  | some (.ow k' rs) => k' = q ∧ i'.toNat < rs.length ∧ o < q ∧ k (.c ((rs.getD i'.toNat []).getD o default))
  | some (.ot k' rs) => k' = q ∧ i'.toNat < rs.length ∧ o < q ∧ k ((rs.getD i'.toNat []).getD o default).av2
  | _ => False
 | _ => False
@[congr] theorem yH5 {ver q : Nat} {i : Int} {j : Nat} {i' : Int} {o : Nat} {a a' : Obj} {k : AV → Prop} (h : a = a') : ywZ k ver q i j i' o a = ywZ k ver q i j i' o a' := by rw [h]
@[simp] theorem yI4 {s : St} {id ver q : Nat} {i : Int} {j : Nat} {i' : Int} {o : Nat} {k : AV → Prop} : ykc s (.ycO id ver i j q i' o) k = ywZ k ver q i j i' o (s.ob id) := by first | rfl | (simp only [ykc, ywZ]; done) | (simp only [ykc, ywZ]; rfl)
def srC (k : AV → Prop) (q : Nat) (i' : Int) (o : Nat) : Option C → Prop
 | some (.ow k' rs) => k' = q ∧ i'.toNat < rs.length ∧ o < q ∧ k (.c ((rs.getD i'.toNat []).getD o default))
 | some (.ot k' rs) => k' = q ∧ i'.toNat < rs.length ∧ o < q ∧ k ((rs.getD i'.toNat []).getD o default).av2
 | _ => False
@[congr] theorem yLP {q : Nat} {i' : Int} {o : Nat} {a a' : Option C} {k : AV → Prop} (h : a = a') : srC k q i' o a = srC k q i' o a' := by rw [h]
@[simp] theorem srLd_tr {k0 ver' ver q : Nat} {i : Int} {j : Nat} {i' : Int} {o : Nat} {rows : List (List C)} {k : AV → Prop} : ywZ k ver q i j i' o (.tr k0 ver' rows) = (ver' = ver ∧ srC k q i' o (cellAt rows i.toNat j)) := by first | rfl | (simp only [ywZ, srC]; done) | (simp only [ywZ, srC]; rfl)
@[simp] theorem srC_ow {k' q : Nat} {i' : Int} {o : Nat} {rs : List (List C)} {k : AV → Prop} : srC k q i' o (some (.ow k' rs)) = (k' = q ∧ i'.toNat < rs.length ∧ o < q ∧ k (.c ((rs.getD i'.toNat []).getD o default))) := rfl
@[simp] theorem srC_ot {k' q : Nat} {i' : Int} {o : Nat} {rs : List (List C)} {k : AV → Prop} : srC k q i' o (some (.ot k' rs)) = (k' = q ∧ i'.toNat < rs.length ∧ o < q ∧ k ((rs.getD i'.toNat []).getD o default).av2) := rfl
def yqE (k : AV → Prop) (n ver q : Nat) (i : Int) (j : Nat) (i' : Int) (o : Nat) : Obj → Prop
 | .tr _ ver' rows => ver' = ver ∧ match cellAt rows i.toNat j with
  | some (.ow k' rs) => k' = q ∧ i'.toNat < rs.length ∧ o + n ≤ q ∧ k (.agg ((((rs.getD i'.toNat []).drop o).take n).map .c))
  | some (.ot k' rs) => k' = q ∧ i'.toNat < rs.length ∧ o + n ≤ q ∧ k (.agg ((((rs.getD i'.toNat []).drop o).take n).map C.av2))
  | _ => False
 | _ => False
@[congr] theorem yG8 {n ver q : Nat} {i : Int} {j : Nat} {i' : Int} {o : Nat} {a a' : Obj} {k : AV → Prop} (h : a = a') : yqE k n ver q i j i' o a = yqE k n ver q i j i' o a' := by rw [h]
@[simp] theorem yJa {s : St} {n id ver q : Nat} {i : Int} {j : Nat} {i' : Int} {o : Nat} {k : AV → Prop} : yj6 n s (.ycO id ver i j q i' o) k = yqE k n ver q i j i' o (s.ob id) := by first | rfl | (simp only [yj6, yqE]; done) | (simp only [yj6, yqE]; rfl)
def yyR (k : AV → Prop) (n q : Nat) (i' : Int) (o : Nat) : Option C → Prop
 | some (.ow k' rs) => k' = q ∧ i'.toNat < rs.length ∧ o + n ≤ q ∧ k (.agg ((((rs.getD i'.toNat []).drop o).take n).map .c))
 | some (.ot k' rs) => k' = q ∧ i'.toNat < rs.length ∧ o + n ≤ q ∧ k (.agg ((((rs.getD i'.toNat []).drop o).take n).map C.av2))
 | _ => False
@[congr] theorem yIs {n q : Nat} {i' : Int} {o : Nat} {a a' : Option C} {k : AV → Prop} (h : a = a') : yyR k n q i' o a = yyR k n q i' o a' := by rw [h]
@[simp] theorem yLR {n k0 ver' ver q : Nat} {i : Int} {j : Nat} {i' : Int} {o : Nat} {rows : List (List C)} {k : AV → Prop} : yqE k n ver q i j i' o (.tr k0 ver' rows) = (ver' = ver ∧ yyR k n q i' o (cellAt rows i.toNat j)) := by first | rfl | (simp only [yqE, yyR]; done) | (simp only [yqE, yyR]; rfl)
@[simp] theorem srCn_ow {n k' q : Nat} {i' : Int} {o : Nat} {rs : List (List C)} {k : AV → Prop} : yyR k n q i' o (some (.ow k' rs)) = (k' = q ∧ i'.toNat < rs.length ∧ o + n ≤ q ∧ k (.agg ((((rs.getD i'.toNat []).drop o).take n).map .c))) := rfl
@[simp] theorem srCn_ot {n k' q : Nat} {i' : Int} {o : Nat} {rs : List (List C)} {k : AV → Prop} : yyR k n q i' o (some (.ot k' rs)) = (k' = q ∧ i'.toNat < rs.length ∧ o + n ≤ q ∧ k (.agg ((((rs.getD i'.toNat []).drop o).take n).map C.av2))) := rfl
@[simp] theorem yHD {n m m' o id : Nat} {i : Int} {rows : List (List C)} {k : AV → Prop} : yoA k n m i o id (.row m' rows) = (m' = m ∧ i.toNat < rows.length ∧ o + n ≤ m ∧ k (.agg ((((rows.getD i.toNat []).drop o).take n).map .c))) := rfl
def yz4 (K : St → Prop) (s : St) (id o : Nat) (v : AV) : Obj → Prop
 | .box cells => o < cells.length ∧ v.yat = true ∧ K (s.yaj id (.box (cells.set o v)))
 | _ => False
@[congr] theorem yHf {s : St} {id o : Nat} {v : AV} {a a' : Obj} {K : St → Prop} (h : a = a') : yz4 K s id o v a = yz4 K s id o v a' := by rw [h]
@[simp] theorem yME {s : St} {id o : Nat} {v : AV} {K : St → Prop} : ykF s (.box id o) v K = yz4 K s id o v (s.ob id) := rfl
@[simp] theorem yJ1 {s : St} {id o : Nat} {v : AV} {cells : List AV} {K : St → Prop} : yz4 K s id o v (.box cells) = (o < cells.length ∧ v.yat = true ∧ K (s.yaj id (.box (cells.set o v)))) := rfl
def ylD (K : St → Prop) (s : St) (id m : Nat) (i : Int) (o : Nat) (v : AV) : Obj → Prop
 | .row k' rows => match v.toC with
  | some c => k' = m ∧ i.toNat < rows.length ∧ o < m ∧ K (s.yaj id (.row m (rows.set i.toNat ((rows.getD i.toNat []).set o c))))
  | none => False
 | .tr k' ver rows => match pk1 s v with
  | some (c, ids) => k' = m ∧ i.toNat < rows.length ∧ o < m ∧ ids.Nodup ∧ id ∉ ids ∧ K ((s.drops ids).yaj id (.tr m (ver + 1) (setAt rows i.toNat o c)))
  | none => False
 | _ => False
@[congr] theorem yHs {s : St} {id m o : Nat} {i : Int} {v : AV} {a a' : Obj} {K : St → Prop} (h : a = a') : ylD K s id m i o v a = ylD K s id m i o v a' := by rw [h]
@[simp] theorem yKL {s : St} {id m o : Nat} {i : Int} {v : AV} {K : St → Prop} : ykF s (.row id m i o) v K = ylD K s id m i o v (s.ob id) := by first | rfl | (simp only [ykF, ylD]; done) | (simp only [ykF, ylD]; rfl)
@[simp] theorem yJX {s : St} {id m m' o : Nat} {i : Int} {c : C} {rows : List (List C)} {K : St → Prop} : ylD K s id m i o (.c c) (.row m' rows) = (m' = m ∧ i.toNat < rows.length ∧ o < m ∧ K (s.yaj id (.row m (rows.set i.toNat ((rows.getD i.toNat []).set o c))))) := rfl
@[simp] theorem yGK {s : St} {id m m' o n : Nat} {i : Int} {rows : List (List C)} {K : St → Prop} : ylD K s id m i o (.nil n) (.row m' rows) = (m' = m ∧ i.toNat < rows.length ∧ o < m ∧ K (s.yaj id (.row m (rows.set i.toNat ((rows.getD i.toNat []).set o (.sl n [])))))) := rfl
@[simp] theorem yHE {s : St} {id m m' o n : Nat} {i : Int} {rows r : List (List C)} {K : St → Prop} : ylD K s id m i o (.clip n r) (.row m' rows) = (m' = m ∧ i.toNat < rows.length ∧ o < m ∧ K (s.yaj id (.row m (rows.set i.toNat ((rows.getD i.toNat []).set o (.sl n r)))))) := rfl
def yBe (K : St → Prop) (s : St) (id m : Nat) (i : Int) (o m' ver : Nat) (rows : List (List C)) : Option (C × List Nat) → Prop
 | some (c, ids) => m' = m ∧ i.toNat < rows.length ∧ o < m ∧ ids.Nodup ∧ id ∉ ids ∧ K ((s.drops ids).yaj id (.tr m (ver + 1) (setAt rows i.toNat o c)))
 | none => False
@[congr] theorem yIb {s : St} {id m m' ver o : Nat} {i : Int} {rows : List (List C)} {K : St → Prop} {a a' : Option (C × List Nat)} (h : a = a') : yBe K s id m i o m' ver rows a = yBe K s id m i o m' ver rows a' := by rw [h]
@[simp] theorem yMX {s : St} {id m m' ver o : Nat} {i : Int} {v : AV} {rows : List (List C)} {K : St → Prop} : ylD K s id m i o v (.tr m' ver rows) = yBe K s id m i o m' ver rows (pk1 s v) := by first | rfl | (simp only [ylD, yBe]; done) | (simp only [ylD, yBe]; rfl)
@[simp] theorem yJc {s : St} {id m m' ver o : Nat} {i : Int} {rows : List (List C)} {c : C} {ids : List Nat} {K : St → Prop} : yBe K s id m i o m' ver rows (some (c, ids)) = (m' = m ∧ i.toNat < rows.length ∧ o < m ∧ ids.Nodup ∧ id ∉ ids ∧ K ((s.drops ids).yaj id (.tr m (ver + 1) (setAt rows i.toNat o c)))) := rfl
@[simp] theorem plain_i {n : Int} : (C.i n).plain = true := rfl
@[simp] theorem plain_b {n : Bool} : (C.b n).plain = true := rfl
@[simp] theorem plain_u {n : Nat} : (C.u n).plain = true := rfl
@[simp] theorem plain_q {n : Nat} : (C.q n).plain = true := rfl
@[simp] theorem plain_s {n : ByteArray} : (C.s n).plain = true := rfl
@[simp] theorem yMV {k : Nat} {r : List (List C)} : (C.sl k r).plain = true := rfl
@[simp] theorem pk1_c {s : St} {x : C} : pk1 s (.c x) = if x.plain then some (x, []) else none := rfl
@[simp] theorem yKy {s : St} {k : Nat} {r : List (List C)} : pk1 s (.clip k r) = some (.sl k r, []) := rfl
@[simp] theorem pk1_nil {s : St} {k : Nat} : pk1 s (.nil k) = some (.sl k [], []) := rfl
def pkO (k id n : Nat) : Obj → Option (C × List Nat)
 | .row k' rows => if k' = k then some (.ow k (rows.take n), [id]) else none
 | .tr k' _ rows => if k' = k then some (.ot k (rows.take n), [id]) else none
 | _ => none
@[simp] theorem pk1_own {s : St} {id k n : Nat} : pk1 s (.own id k n) = pkO k id n (s.ob id) := by first | rfl | (simp only [pk1, pkO]; done) | (simp only [pk1, pkO]; rfl)
@[simp] theorem pkO_row {k id n k' : Nat} {rows : List (List C)} : pkO k id n (.row k' rows) = if k' = k then some (.ow k (rows.take n), [id]) else none := rfl
@[simp] theorem pkO_tr {k id n k' ver : Nat} {rows : List (List C)} : pkO k id n (.tr k' ver rows) = if k' = k then some (.ot k (rows.take n), [id]) else none := rfl
@[simp] theorem pkl_nil {s : St} : pkl s [] = some ([], []) := rfl
@[simp] theorem yK2 {s : St} {x : AV} {l : List AV} : pkl s (x :: l) = (pk1 s x).bind fun p => (pkl s l).map fun q => (p.1 :: q.1, p.2 ++ q.2) := by
 simp only [pkl]; cases pk1 s x <;> cases pkl s l <;> rfl
@[simp] theorem pkl_map {s : St} {l : List C} (h : l.all C.plain = true) : pkl s (l.map .c) = some (l, []) := by
 induction l with
 | nil => rfl
 | cons x l ih =>
  simp only [List.all_cons, Bool.and_eq_true] at h
  simp [ih h.2, h.1]
@[simp] theorem pks_nil {s : St} : pks s [] = some ([], []) := rfl
@[simp] theorem yM7 {s : St} {x : AV} {l : List AV} : pks s (x :: l) = (pkl s x.cellsOf).bind fun p => (pks s l).map fun q => (p.1 :: q.1, p.2 ++ q.2) := by
 simp only [pks]; cases pkl s x.cellsOf <;> cases pks s l <;> rfl
def yyf (K : St → Prop) (s : St) (id ver q : Nat) (i : Int) (j : Nat) (i' : Int) (o : Nat) (v : AV) : Obj → Prop
 | .tr k0 ver' rows => ver' = ver ∧ match cellAt rows i.toNat j with
  | some (.ow k' rs) => match v.toC with
   | some c => k' = q ∧ i'.toNat < rs.length ∧ o < q ∧ K (s.yaj id (.tr k0 (ver + 1) (setAt rows i.toNat j (.ow q (setAt rs i'.toNat o c)))))
   | none => False
  | _ => False
 | _ => False
@[congr] theorem yIq {s : St} {id ver q : Nat} {i : Int} {j : Nat} {i' : Int} {o : Nat} {v : AV} {a a' : Obj} {K : St → Prop} (h : a = a') : yyf K s id ver q i j i' o v a = yyf K s id ver q i j i' o v a' := by rw [h]
@[simp] theorem yJA {s : St} {id ver q : Nat} {i : Int} {j : Nat} {i' : Int} {o : Nat} {v : AV} {K : St → Prop} : ykF s (.ycO id ver i j q i' o) v K = yyf K s id ver q i j i' o v (s.ob id) := by first | rfl | (simp only [ykF, yyf]; done) | (simp only [ykF, yyf]; rfl)
def yvu (K : St → Prop) (s : St) (id ver q k0 : Nat) (rows : List (List C)) (i : Int) (j : Nat) (i' : Int) (o : Nat) (c : C) : Option C → Prop
 | some (.ow k' rs) => k' = q ∧ i'.toNat < rs.length ∧ o < q ∧ K (s.yaj id (.tr k0 (ver + 1) (setAt rows i.toNat j (.ow q (setAt rs i'.toNat o c)))))
 | _ => False
@[congr] theorem yGF {s : St} {id ver q k0 : Nat} {rows : List (List C)} {i : Int} {j : Nat} {i' : Int} {o : Nat} {c : C} {K : St → Prop} {a a' : Option C} (h : a = a') : yvu K s id ver q k0 rows i j i' o c a = yvu K s id ver q k0 rows i j i' o c a' := by rw [h]
@[simp] theorem srSt_tr {s : St} {id ver q k0 ver' : Nat} {i : Int} {j : Nat} {i' : Int} {o : Nat} {c : C} {rows : List (List C)} {K : St → Prop} : yyf K s id ver q i j i' o (.c c) (.tr k0 ver' rows) = (ver' = ver ∧ yvu K s id ver q k0 rows i j i' o c (cellAt rows i.toNat j)) := by first | rfl | (simp only [yyf, yvu, AV.toC]; done) | (simp only [yyf, yvu, AV.toC]; rfl)
@[simp] theorem yLs {s : St} {id ver q k0 k' : Nat} {rows rs : List (List C)} {i : Int} {j : Nat} {i' : Int} {o : Nat} {c : C} {K : St → Prop} : yvu K s id ver q k0 rows i j i' o c (some (.ow k' rs)) = (k' = q ∧ i'.toNat < rs.length ∧ o < q ∧ K (s.yaj id (.tr k0 (ver + 1) (setAt rows i.toNat j (.ow q (setAt rs i'.toNat o c)))))) := rfl
def yvI (K : St → Prop) (s : St) (id o n : Nat) (l : List AV) : Obj → Prop
 | .box cells => o + n ≤ cells.length ∧ l.all AV.yat = true ∧ K (s.yaj id (.box (cells.take o ++ l ++ cells.drop (o + n))))
 | _ => False
@[congr] theorem yEC {s : St} {id o n : Nat} {l : List AV} {a a' : Obj} {K : St → Prop} (h : a = a') : yvI K s id o n l a = yvI K s id o n l a' := by rw [h]
@[simp] theorem yLD {s : St} {id o n : Nat} {l : List AV} {K : St → Prop} : yoB n s (.box id o) (.agg l) K = (l.length = n ∧ yvI K s id o n l (s.ob id)) := rfl
@[simp] theorem yFR {s : St} {id o n : Nat} {l cells : List AV} {K : St → Prop} : yvI K s id o n l (.box cells) = (o + n ≤ cells.length ∧ l.all AV.yat = true ∧ K (s.yaj id (.box (cells.take o ++ l ++ cells.drop (o + n))))) := rfl
def yg6 (K : St → Prop) (s : St) (id m : Nat) (i : Int) (o n : Nat) (l : List AV) : Obj → Prop
 | .row k' rows => match AV.ye1 l with
  | some cs => k' = m ∧ i.toNat < rows.length ∧ o + n ≤ m ∧ K (s.yaj id (.row m (rows.set i.toNat ((rows.getD i.toNat []).take o ++ cs ++ (rows.getD i.toNat []).drop (o + n)))))
  | none => False
 | .tr k' ver rows => match pkl s l with
  | some (cs, ids) => k' = m ∧ i.toNat < rows.length ∧ o + n ≤ m ∧ ids.Nodup ∧ id ∉ ids ∧ K ((s.drops ids).yaj id (.tr m (ver + 1) (rows.set i.toNat ((rows.getD i.toNat []).take o ++ cs ++ (rows.getD i.toNat []).drop (o + n)))))
  | none => False
 | _ => False
@[congr] theorem yFb {s : St} {id m o n : Nat} {i : Int} {l : List AV} {a a' : Obj} {K : St → Prop} (h : a = a') : yg6 K s id m i o n l a = yg6 K s id m i o n l a' := by rw [h]
@[simp] theorem yL4 {s : St} {id m o n : Nat} {i : Int} {l : List AV} {K : St → Prop} : yoB n s (.row id m i o) (.agg l) K = (l.length = n ∧ yg6 K s id m i o n l (s.ob id)) := by first | rfl | (simp only [yoB, yg6]; done) | (simp only [yoB, yg6]; rfl)
def ypL (K : St → Prop) (s : St) (id m : Nat) (i : Int) (o n m' : Nat) (rows : List (List C)) : Option (List C) → Prop
 | some cs => m' = m ∧ i.toNat < rows.length ∧ o + n ≤ m ∧ K (s.yaj id (.row m (rows.set i.toNat ((rows.getD i.toNat []).take o ++ cs ++ (rows.getD i.toNat []).drop (o + n)))))
 | none => False
@[congr] theorem yEK {s : St} {id m m' o n : Nat} {i : Int} {rows : List (List C)} {K : St → Prop} {a a' : Option (List C)} (h : a = a') : ypL K s id m i o n m' rows a = ypL K s id m i o n m' rows a' := by rw [h]
@[simp] theorem yG9 {s : St} {id m m' o n : Nat} {i : Int} {l : List AV} {rows : List (List C)} {K : St → Prop} : yg6 K s id m i o n l (.row m' rows) = ypL K s id m i o n m' rows (AV.ye1 l) := by first | rfl | (simp only [yg6, ypL]; done) | (simp only [yg6, ypL]; rfl)
@[simp] theorem yEJ {s : St} {id m m' o n : Nat} {i : Int} {cs : List C} {rows : List (List C)} {K : St → Prop} : ypL K s id m i o n m' rows (some cs) =
 (m' = m ∧ i.toNat < rows.length ∧ o + n ≤ m ∧ K (s.yaj id (.row m (rows.set i.toNat ((rows.getD i.toNat []).take o ++ cs ++ (rows.getD i.toNat []).drop (o + n)))))) := rfl
def yvg (K : St → Prop) (s : St) (id m : Nat) (i : Int) (o n m' ver : Nat) (rows : List (List C)) : Option (List C × List Nat) → Prop
 | some (cs, ids) => m' = m ∧ i.toNat < rows.length ∧ o + n ≤ m ∧ ids.Nodup ∧ id ∉ ids ∧ K ((s.drops ids).yaj id (.tr m (ver + 1) (rows.set i.toNat ((rows.getD i.toNat []).take o ++ cs ++ (rows.getD i.toNat []).drop (o + n)))))
 | none => False
@[congr] theorem yGk {s : St} {id m m' ver o n : Nat} {i : Int} {rows : List (List C)} {K : St → Prop} {a a' : Option (List C × List Nat)} (h : a = a') : yvg K s id m i o n m' ver rows a = yvg K s id m i o n m' ver rows a' := by rw [h]
@[simp] theorem yKf {s : St} {id m m' ver o n : Nat} {i : Int} {l : List AV} {rows : List (List C)} {K : St → Prop} : yg6 K s id m i o n l (.tr m' ver rows) = yvg K s id m i o n m' ver rows (pkl s l) := by first | rfl | (simp only [yg6, yvg]; done) | (simp only [yg6, yvg]; rfl)
@[simp] theorem yGe {s : St} {id m m' ver o n : Nat} {i : Int} {cs : List C} {ids : List Nat} {rows : List (List C)} {K : St → Prop} : yvg K s id m i o n m' ver rows (some (cs, ids)) =
 (m' = m ∧ i.toNat < rows.length ∧ o + n ≤ m ∧ ids.Nodup ∧ id ∉ ids ∧ K ((s.drops ids).yaj id (.tr m (ver + 1) (rows.set i.toNat ((rows.getD i.toNat []).take o ++ cs ++ (rows.getD i.toNat []).drop (o + n)))))) := rfl
@[simp] theorem yNg : AV.ye1 [] = some [] := rfl
@[simp] theorem toCs_c {x : C} {l : List AV} : AV.ye1 (.c x :: l) = (AV.ye1 l).map (x :: ·) := by simp only [AV.ye1, AV.toC]; cases AV.ye1 l <;> rfl
@[simp] theorem toCs_n {n : Nat} {l : List AV} : AV.ye1 (.nil n :: l) = (AV.ye1 l).map (.sl n [] :: ·) := by simp only [AV.ye1, AV.toC]; cases AV.ye1 l <;> rfl
@[simp] theorem toCs_cl {n : Nat} {r : List (List C)} {l : List AV} : AV.ye1 (.clip n r :: l) = (AV.ye1 l).map (.sl n r :: ·) := by simp only [AV.ye1, AV.toC]; cases AV.ye1 l <;> rfl
@[simp] theorem yLY {a b c : Nat} {l : List AV} : AV.ye1 (.own a b c :: l) = none := by first | rfl | (simp only [AV.ye1, AV.toC]; done) | (simp only [AV.ye1, AV.toC]; rfl)
@[simp] theorem yMI {l : List C} : AV.ye1 (l.map .c) = some l := by
 induction l with
 | nil => rfl
 | cons x l ih => simp [ih]
@[simp] theorem yCy {l : List C} : (l.map AV.c).all AV.yat = true := by simp [List.all_eq_true]; intro x _; rfl
@[simp] theorem yMw {x : C} : (AV.c x).yat = true := rfl
@[simp] theorem yFv {n : Nat} : (AV.nil n).yat = true := rfl
@[simp] theorem yFe {n : Nat} {r : List (List C)} : (AV.clip n r).yat = true := rfl
@[simp] theorem yFB {a b : Nat} : (AV.box a b).yat = true := rfl
@[simp] theorem yF0 {a b o : Nat} {i : Int} : (AV.row a b i o).yat = true := rfl
@[simp] theorem yGi {cs : List C} : (AV.elt cs).yat = true := rfl
@[simp] theorem yFG {a b c : Nat} : (AV.own a b c).yat = true := rfl
@[simp] theorem yFc {l : List AV} : (AV.agg l).cellsOf = l := rfl
@[simp] theorem yIe {x : C} : (AV.c x).cellsOf = [.c x] := rfl
@[simp] theorem cellsOf_nil {n : Nat} : (AV.nil n).cellsOf = [.nil n] := rfl
@[simp] theorem yEc {n : Nat} {r : List (List C)} : (AV.clip n r).cellsOf = [.clip n r] := rfl
@[simp] theorem yEL {a b : Nat} : (AV.box a b).cellsOf = [.box a b] := rfl
@[simp] theorem yEM {a b c : Nat} : (AV.own a b c).cellsOf = [.own a b c] := rfl
@[simp ↓] theorem boxP_eq {n : Nat} {s : St} {d : Option Nat} {x : AV} {K : St → Prop} : yAA n s d x K = (x.cellsOf.length = n ∧ x.cellsOf.all AV.yat = true ∧ newP s d (.box x.cellsOf) (fun d => .box d 0) K) := rfl
@[simp] theorem mksP_eq {k b : Nat} {z : List C} {s : St} {d : Option Nat} {n m : Int} {K : St → Prop} : ywG k b z s d (.c (.i n)) (.c (.i m)) K =
 (0 ≤ n ∧ n ≤ m ∧ (b : Int) * m ≤ 281474976710656 ∧ newP s d (.row k (List.replicate n.toNat z)) (fun d => .own d k n.toNat) K) := rfl
def yyt (k : Nat) (s : St) (d : Option Nat) (K : St → Prop) (xs : List AV) : Option (List (List C)) → Prop
 | some rows => (∀ r ∈ rows, r.length = k) ∧ newP s d (.row k rows) (fun d => .own d k rows.length) K
 | none => match pks s xs with
  | some (rows, ids) => (∀ r ∈ rows, r.length = k) ∧ ids.Nodup ∧ newP (s.drops ids) d (.tr k 0 rows) (fun d => .own d k rows.length) K
  | none => False
@[congr] theorem yIL {k : Nat} {s : St} {d : Option Nat} {K : St → Prop} {xs : List AV} {a a' : Option (List (List C))} (h : a = a') : yyt k s d K xs a = yyt k s d K xs a' := by rw [h]
@[simp] theorem bslP_eq {k : Nat} {xs : List AV} {s : St} {d : Option Nat} {K : St → Prop} : yqW k xs s d K = yyt k s d K xs (AV.rowsOf xs) := by unfold yqW yyt; cases AV.rowsOf xs <;> rfl
@[simp] theorem yHW {k : Nat} {s : St} {d : Option Nat} {K : St → Prop} {xs : List AV} {rows : List (List C)} : yyt k s d K xs (some rows) = ((∀ r ∈ rows, r.length = k) ∧ newP s d (.row k rows) (fun d => .own d k rows.length) K) := rfl
def yAV (k : Nat) (s : St) (d : Option Nat) (K : St → Prop) : Option (List (List C) × List Nat) → Prop
 | some (rows, ids) => (∀ r ∈ rows, r.length = k) ∧ ids.Nodup ∧ newP (s.drops ids) d (.tr k 0 rows) (fun d => .own d k rows.length) K
 | none => False
@[congr] theorem yIZ {k : Nat} {s : St} {d : Option Nat} {K : St → Prop} {a a' : Option (List (List C) × List Nat)} (h : a = a') : yAV k s d K a = yAV k s d K a' := by rw [h]
@[simp] theorem yKd {k : Nat} {s : St} {d : Option Nat} {K : St → Prop} {xs : List AV} : yyt k s d K xs none = yAV k s d K (pks s xs) := by first | rfl | (simp only [yyt, yAV]; done) | (simp only [yyt, yAV]; rfl)
@[simp] theorem yJl {k : Nat} {s : St} {d : Option Nat} {K : St → Prop} {rows : List (List C)} {ids : List Nat} : yAV k s d K (some (rows, ids)) = ((∀ r ∈ rows, r.length = k) ∧ ids.Nodup ∧ newP (s.drops ids) d (.tr k 0 rows) (fun d => .own d k rows.length) K) := rfl
@[simp] theorem yHK : AV.rowsOf [] = some [] := rfl
@[simp] theorem yEN {x : AV} {l : List AV} : AV.rowsOf (x :: l) = (x.rowOf).bind fun r => (AV.rowsOf l).map (r :: ·) := by
 simp only [AV.rowsOf]; cases x.rowOf <;> cases AV.rowsOf l <;> rfl
@[simp] theorem rowOf_c {x : C} : (AV.c x).rowOf = some [x] := rfl
@[simp] theorem yJp {n : Nat} : (AV.nil n).rowOf = some [.sl n []] := rfl
@[simp] theorem yJ6 {a b c : Nat} : (AV.own a b c).rowOf = none := rfl
@[simp] theorem yIF {l : List AV} : (AV.agg l).rowOf = AV.ye1 l := rfl
@[simp] theorem slcP_1 {k k' : Nat} {rows : List (List C)} {l h : Int} {K : AV → Prop} : yj8 k (.c (.sl k' rows)) (some (.c (.i l))) (some (.c (.i h))) none K = (k' = k ∧ 0 ≤ l ∧ l ≤ h ∧ h ≤ rows.length ∧ K (.c (.sl k ((rows.take h.toNat).drop l.toNat)))) := rfl
@[simp] theorem slcP_2 {k k' : Nat} {rows : List (List C)} {l : Int} {K : AV → Prop} : yj8 k (.c (.sl k' rows)) (some (.c (.i l))) none none K = (k' = k ∧ 0 ≤ l ∧ l ≤ rows.length ∧ K (.c (.sl k (rows.drop l.toNat)))) := rfl
@[simp] theorem slcP_3 {k k' : Nat} {rows : List (List C)} {h : Int} {K : AV → Prop} : yj8 k (.c (.sl k' rows)) none (some (.c (.i h))) none K = (k' = k ∧ 0 ≤ h ∧ h ≤ rows.length ∧ K (.c (.sl k (rows.take h.toNat)))) := rfl
@[simp] theorem slcP_4 {k k' : Nat} {rows : List (List C)} {h m : Int} {K : AV → Prop} : yj8 k (.c (.sl k' rows)) none (some (.c (.i h))) (some (.c (.i m))) K = (k' = k ∧ 0 ≤ h ∧ h = m ∧ h ≤ rows.length ∧ K (.clip k (rows.take h.toNat))) := rfl
@[simp] theorem slcP_5 {k k' id n : Nat} {h : Int} {K : AV → Prop} : yj8 k (.own id k' n) none (some (.c (.i h))) none K = (k' = k ∧ 0 ≤ h ∧ h ≤ (n : Int) ∧ K (.own id k h.toNat)) := rfl
@[simp] theorem slcP_6 {k k' id n : Nat} {l : Int} {K : AV → Prop} : yj8 k (.own id k' n) (some (.c (.i l))) none none K = (k' = k ∧ 0 ≤ l ∧ l ≤ (n : Int) ∧ K (.cut id k l.toNat (n - l.toNat))) := rfl
@[simp] theorem slcP_7 {k k' id n : Nat} {l h : Int} {K : AV → Prop} : yj8 k (.own id k' n) (some (.c (.i l))) (some (.c (.i h))) none K = (k' = k ∧ 0 ≤ l ∧ l ≤ h ∧ h ≤ (n : Int) ∧ K (.cut id k l.toNat (h.toNat - l.toNat))) := rfl
@[simp] theorem slcP_8 {k n : Nat} {h : Int} {K : AV → Prop} : yj8 k (.nil n) none (some (.c (.i h))) none K = (h = 0 ∧ K (.nil k)) := rfl
@[simp] theorem slcP_9 {k n : Nat} {h m : Int} {K : AV → Prop} : yj8 k (.nil n) none (some (.c (.i h))) (some (.c (.i m))) K = (h = 0 ∧ m = 0 ∧ K (.nil k)) := rfl
@[simp] theorem yLM {s : St} {id k lo n : Nat} {K : AV → Prop} : ykr s (.cut id k lo n) K = (n ≤ maxLen → K (.c (.i n))) := rfl
def yBp (ver n : Nat) (K : AV → Prop) : Obj → Prop
 | .tr _ ver' _ => ver' = ver ∧ (n ≤ maxLen → K (.c (.i n)))
 | _ => False
@[congr] theorem yJJ {ver n : Nat} {K : AV → Prop} {a a' : Obj} (h : a = a') : yBp ver n K a = yBp ver n K a' := by rw [h]
@[simp] theorem yMA {s : St} {id ver : Nat} {i : Int} {j k n : Nat} {K : AV → Prop} : ykr s (.sub id ver i j k n) K = yBp ver n K (s.ob id) := by first | rfl | (simp only [ykr, yBp]; done) | (simp only [ykr, yBp]; rfl)
@[simp] theorem lenT_tr {ver n k0 ver' : Nat} {rows : List (List C)} {K : AV → Prop} : yBp ver n K (.tr k0 ver' rows) = (ver' = ver ∧ (n ≤ maxLen → K (.c (.i n)))) := rfl
@[simp] theorem lenP_sl {k : Nat} {rows : List (List C)} {s : St} {K : AV → Prop} : ykr s (.c (.sl k rows)) K = (rows.length ≤ maxLen → K (.c (.i rows.length))) := rfl
@[simp] theorem yII {k : Nat} {rows : List (List C)} {s : St} {K : AV → Prop} : ykr s (.clip k rows) K = (rows.length ≤ maxLen → K (.c (.i rows.length))) := rfl
@[simp] theorem yLV {id k n : Nat} {s : St} {K : AV → Prop} : ykr s (.own id k n) K = (n ≤ maxLen → K (.c (.i n))) := rfl
@[simp] theorem yL5 {s : St} {n : Nat} {K : AV → Prop} : ykr s (.nil n) K = K (.c (.i 0)) := rfl
@[simp] theorem slenP_s {bs : ByteArray} {K : AV → Prop} : ymG (.c (.s bs)) K = (bs.size ≤ maxLen → K (.c (.i bs.size))) := rfl
def mmK (f : Int → Int → Int) (K : AV → Prop) : Option (List Int) → Prop
 | some (n :: r) => K (.c (.i (r.foldl f n)))
 | _ => False
@[congr] theorem yLO {f : Int → Int → Int} {K : AV → Prop} {a a' : Option (List Int)} (h : a = a') : mmK f K a = mmK f K a' := by rw [h]
@[simp] theorem mmP_eq {f : Int → Int → Int} {l : List AV} {K : AV → Prop} : mmP f l K = mmK f K (intsOf l) := rfl
@[simp] theorem yNz {f : Int → Int → Int} {n : Int} {r : List Int} {K : AV → Prop} : mmK f K (some (n :: r)) = K (.c (.i (r.foldl f n))) := rfl
@[simp] theorem yF3 : intsOf [] = some [] := rfl
@[simp] theorem yEU {n : Int} {l : List AV} : intsOf (.c (.i n) :: l) = (intsOf l).map (n :: ·) := rfl
@[simp] theorem yMO {i : Nat} {l : List AV} {K : AV → Prop} : yqV i (.tup l) K = ywW K l[i]? := by unfold yqV ywW; simp only; cases l[i]? <;> rfl
@[simp] theorem ixsP_eq {bs : ByteArray} {n : Int} {K : AV → Prop} : yr8 (.c (.s bs)) (.c (.i n)) K = (0 ≤ n ∧ n < bs.size ∧ K (.c (.u (bs[n.toNat]?.getD 0).toNat))) := rfl
def yp9 (k by_ : Nat) (s : St) (d : Option Nat) (x : AV) (K : St → Prop) (new : List (List C)) : Prop :=
 match x with
  | .nil _ => new.length * by_ ≤ 140737488355328 ∧ newP s d (.row k new) (fun d => .own d k new.length) K
  | .clip k' rows => k' = k ∧ (0 < new.length ∨ rows.length = 0) ∧ (rows.length + new.length) * by_ ≤ 140737488355328 ∧ newP s d (.row k (rows ++ new)) (fun d => .own d k (rows.length + new.length)) K
  | .own id k' n => match s.ob id with
   | .row _ rows => k' = k ∧ n = rows.length ∧ (rows.length + new.length) * by_ ≤ 140737488355328 ∧
    K ((s.renew id (.row k (rows ++ new))).put d (.own id k (rows.length + new.length)))
   | .tr _ _ rows => k' = k ∧ n = rows.length ∧ (rows.length + new.length) * by_ ≤ 140737488355328 ∧
    K ((s.renew id (.tr k 0 (rows ++ new))).put d (.own id k (rows.length + new.length)))
   | _ => False
  | .sub id ver i j k' n => match s.ob id with
   | .tr k0 ver' rows => ver' = ver ∧ match cellAt rows i.toNat j with
    | some (.ow k2 rs) => k' = k ∧ k2 = k ∧ (rs.length + new.length) * by_ ≤ 140737488355328 ∧ match d with
     | some d => (s.ob d).isNone = true ∧ K (((s.yaj id (.tr k0 (ver + 1) (setAt rows i.toNat j .jk))).renew d (.row k (rs ++ new))).put (some d) (.own d k (rs.length + new.length)))
     | none => False
    | some (.ot k2 rs) => k' = k ∧ k2 = k ∧ (rs.length + new.length) * by_ ≤ 140737488355328 ∧ match d with
     | some d => (s.ob d).isNone = true ∧ K (((s.yaj id (.tr k0 (ver + 1) (setAt rows i.toNat j .jk))).renew d (.tr k 0 (rs ++ new))).put (some d) (.own d k (rs.length + new.length)))
     | none => False
    | _ => False
   | _ => False
  | _ => False
def appG (k by_ : Nat) (s : St) (d : Option Nat) (x : AV) (K : St → Prop) (y : AV) : Option (List (List C)) → Prop
 | some new => yp9 k by_ s d x K new
 | none => match ygQ s k y with
  | some (idy, new) => match x with
   | .nil _ => new.length * by_ ≤ 140737488355328 ∧ newP (s.drop idy) d (.tr k 0 new) (fun d => .own d k new.length) K
   | .own id k' n => id ≠ idy ∧ match s.ob id with
    | .row _ rows => k' = k ∧ n = rows.length ∧ (rows.length + new.length) * by_ ≤ 140737488355328 ∧
     K (((s.drop idy).renew id (.tr k 0 (rows ++ new))).put d (.own id k (rows.length + new.length)))
    | .tr _ _ rows => k' = k ∧ n = rows.length ∧ (rows.length + new.length) * by_ ≤ 140737488355328 ∧
     K (((s.drop idy).renew id (.tr k 0 (rows ++ new))).put d (.own id k (rows.length + new.length)))
    | _ => False
   | _ => False
  | none => False
@[congr] theorem yJ7 {k b : Nat} {s : St} {d : Option Nat} {x y : AV} {K : St → Prop} {a a' : Option (List (List C))} (h : a = a') : appG k b s d x K y a = appG k b s d x K y a' := by rw [h]
@[simp] theorem yMf {k b : Nat} {s : St} {d : Option Nat} {x y : AV} {K : St → Prop} : ylX k b s d x y K = appG k b s d x K y (yaw s k y) := by
 unfold ylX appG yp9
 cases yaw s k y with
 | none => rfl
 | some new => cases x <;> rfl
@[congr] theorem yKq {k b : Nat} {s : St} {d : Option Nat} {x x' : AV} {K : St → Prop} {new : List (List C)} (h : x = x') : yp9 k b s d x K new = yp9 k b s d x' K new := by rw [h]
@[simp] theorem yJO {k b : Nat} {s : St} {d : Option Nat} {x y : AV} {K : St → Prop} {new : List (List C)} : appG k b s d x K y (some new) = yp9 k b s d x K new := rfl
@[simp] theorem yNo {k b q : Nat} {s : St} {d : Option Nat} {K : St → Prop} {new : List (List C)} : yp9 k b s d (.nil q) K new = (new.length * b ≤ 140737488355328 ∧ newP s d (.row k new) (fun d => .own d k new.length) K) := rfl
@[simp] theorem yIM {k k' b : Nat} {s : St} {d : Option Nat} {K : St → Prop} {rows new : List (List C)} : yp9 k b s d (.clip k' rows) K new =
 (k' = k ∧ (0 < new.length ∨ rows.length = 0) ∧ (rows.length + new.length) * b ≤ 140737488355328 ∧ newP s d (.row k (rows ++ new)) (fun d => .own d k (rows.length + new.length)) K) := rfl
def yyU (k b : Nat) (s : St) (d : Option Nat) (id k' n : Nat) (new : List (List C)) (K : St → Prop) : Obj → Prop
 | .row _ rows => k' = k ∧ n = rows.length ∧ (rows.length + new.length) * b ≤ 140737488355328 ∧ K ((s.renew id (.row k (rows ++ new))).put d (.own id k (rows.length + new.length)))
 | .tr _ _ rows => k' = k ∧ n = rows.length ∧ (rows.length + new.length) * b ≤ 140737488355328 ∧ K ((s.renew id (.tr k 0 (rows ++ new))).put d (.own id k (rows.length + new.length)))
 | _ => False
@[congr] theorem yJ5 {k b : Nat} {s : St} {d : Option Nat} {id k' n : Nat} {new : List (List C)} {K : St → Prop} {a a' : Obj} (h : a = a') : yyU k b s d id k' n new K a = yyU k b s d id k' n new K a' := by rw [h]
@[simp] theorem yKZ {k k' b id n : Nat} {s : St} {d : Option Nat} {K : St → Prop} {new : List (List C)} : yp9 k b s d (.own id k' n) K new = yyU k b s d id k' n new K (s.ob id) := by first | rfl | (simp only [yp9, yyU]; done) | (simp only [yp9, yyU]; rfl)
@[simp] theorem yK9 {k k' b id n q : Nat} {s : St} {d : Option Nat} {K : St → Prop} {rows new : List (List C)} : yyU k b s d id k' n new K (.row q rows) =
 (k' = k ∧ n = rows.length ∧ (rows.length + new.length) * b ≤ 140737488355328 ∧ K ((s.renew id (.row k (rows ++ new))).put d (.own id k (rows.length + new.length)))) := rfl
@[simp] theorem appO_tr {k k' b id n q ver : Nat} {s : St} {d : Option Nat} {K : St → Prop} {rows new : List (List C)} : yyU k b s d id k' n new K (.tr q ver rows) =
 (k' = k ∧ n = rows.length ∧ (rows.length + new.length) * b ≤ 140737488355328 ∧ K ((s.renew id (.tr k 0 (rows ++ new))).put d (.own id k (rows.length + new.length)))) := rfl
def yxm (k b : Nat) (s : St) (d id ver : Nat) (i : Int) (j k' : Nat) (new : List (List C)) (K : St → Prop) : Obj → Prop
 | .tr k0 ver' rows => ver' = ver ∧ match cellAt rows i.toNat j with
  | some (.ow k2 rs) => k' = k ∧ k2 = k ∧ (rs.length + new.length) * b ≤ 140737488355328 ∧ (s.ob d).isNone = true ∧ K (((s.yaj id (.tr k0 (ver + 1) (setAt rows i.toNat j .jk))).renew d (.row k (rs ++ new))).put (some d) (.own d k (rs.length + new.length)))
  | some (.ot k2 rs) => k' = k ∧ k2 = k ∧ (rs.length + new.length) * b ≤ 140737488355328 ∧ (s.ob d).isNone = true ∧ K (((s.yaj id (.tr k0 (ver + 1) (setAt rows i.toNat j .jk))).renew d (.tr k 0 (rs ++ new))).put (some d) (.own d k (rs.length + new.length)))
  | _ => False
 | _ => False
@[congr] theorem yHS {k b : Nat} {s : St} {d id ver : Nat} {i : Int} {j k' : Nat} {new : List (List C)} {K : St → Prop} {a a' : Obj} (h : a = a') : yxm k b s d id ver i j k' new K a = yxm k b s d id ver i j k' new K a' := by rw [h]
@[simp] theorem yM3 {k k' b id ver n : Nat} {i : Int} {j : Nat} {s : St} {d : Nat} {K : St → Prop} {new : List (List C)} : yp9 k b s (some d) (.sub id ver i j k' n) K new = yxm k b s d id ver i j k' new K (s.ob id) := by first | rfl | (simp only [yp9, yxm]; done) | (simp only [yp9, yxm]; rfl)
def ysr (k b : Nat) (s : St) (d id ver k0 : Nat) (rows : List (List C)) (i : Int) (j k' : Nat) (new : List (List C)) (K : St → Prop) : Option C → Prop
 | some (.ow k2 rs) => k' = k ∧ k2 = k ∧ (rs.length + new.length) * b ≤ 140737488355328 ∧ (s.ob d).isNone = true ∧ K (((s.yaj id (.tr k0 (ver + 1) (setAt rows i.toNat j .jk))).renew d (.row k (rs ++ new))).put (some d) (.own d k (rs.length + new.length)))
 | some (.ot k2 rs) => k' = k ∧ k2 = k ∧ (rs.length + new.length) * b ≤ 140737488355328 ∧ (s.ob d).isNone = true ∧ K (((s.yaj id (.tr k0 (ver + 1) (setAt rows i.toNat j .jk))).renew d (.tr k 0 (rs ++ new))).put (some d) (.own d k (rs.length + new.length)))
 | _ => False
@[congr] theorem yFW {k b : Nat} {s : St} {d id ver k0 : Nat} {rows : List (List C)} {i : Int} {j k' : Nat} {new : List (List C)} {K : St → Prop} {a a' : Option C} (h : a = a') : ysr k b s d id ver k0 rows i j k' new K a = ysr k b s d id ver k0 rows i j k' new K a' := by rw [h]
@[simp] theorem appS_tr {k k' b id ver k0 ver' : Nat} {i : Int} {j : Nat} {s : St} {d : Nat} {K : St → Prop} {rows new : List (List C)} : yxm k b s d id ver i j k' new K (.tr k0 ver' rows) = (ver' = ver ∧ ysr k b s d id ver k0 rows i j k' new K (cellAt rows i.toNat j)) := by first | rfl | (simp only [yxm, ysr]; done) | (simp only [yxm, ysr]; rfl)
@[simp] theorem yLE {k k' k2 b id ver k0 : Nat} {i : Int} {j : Nat} {s : St} {d : Nat} {K : St → Prop} {rows rs new : List (List C)} : ysr k b s d id ver k0 rows i j k' new K (some (.ow k2 rs)) = (k' = k ∧ k2 = k ∧ (rs.length + new.length) * b ≤ 140737488355328 ∧ (s.ob d).isNone = true ∧ K (((s.yaj id (.tr k0 (ver + 1) (setAt rows i.toNat j .jk))).renew d (.row k (rs ++ new))).put (some d) (.own d k (rs.length + new.length)))) := rfl
@[simp] theorem yLc {k k' k2 b id ver k0 : Nat} {i : Int} {j : Nat} {s : St} {d : Nat} {K : St → Prop} {rows rs new : List (List C)} : ysr k b s d id ver k0 rows i j k' new K (some (.ot k2 rs)) = (k' = k ∧ k2 = k ∧ (rs.length + new.length) * b ≤ 140737488355328 ∧ (s.ob d).isNone = true ∧ K (((s.yaj id (.tr k0 (ver + 1) (setAt rows i.toNat j .jk))).renew d (.tr k 0 (rs ++ new))).put (some d) (.own d k (rs.length + new.length)))) := rfl
def ywQ (k b : Nat) (s : St) (d : Option Nat) (x : AV) (K : St → Prop) : Option (Nat × List (List C)) → Prop
 | some (idy, new) => match x with
  | .nil _ => new.length * b ≤ 140737488355328 ∧ newP (s.drop idy) d (.tr k 0 new) (fun d => .own d k new.length) K
  | .own id k' n => id ≠ idy ∧ match s.ob id with
   | .row _ rows => k' = k ∧ n = rows.length ∧ (rows.length + new.length) * b ≤ 140737488355328 ∧
    K (((s.drop idy).renew id (.tr k 0 (rows ++ new))).put d (.own id k (rows.length + new.length)))
   | .tr _ _ rows => k' = k ∧ n = rows.length ∧ (rows.length + new.length) * b ≤ 140737488355328 ∧
    K (((s.drop idy).renew id (.tr k 0 (rows ++ new))).put d (.own id k (rows.length + new.length)))
   | _ => False
  | _ => False
 | none => False
@[congr] theorem yIw {k b : Nat} {s : St} {d : Option Nat} {x x' : AV} {K : St → Prop} {a a' : Option (Nat × List (List C))} (h : a = a') (h2 : x = x') : ywQ k b s d x K a = ywQ k b s d x' K a' := by rw [h, h2]
@[simp] theorem yH7 {k b : Nat} {s : St} {d : Option Nat} {x y : AV} {K : St → Prop} : appG k b s d x K y none = ywQ k b s d x K (ygQ s k y) := by first | rfl | (simp only [appG, ywQ]; done) | (simp only [appG, ywQ]; rfl)
@[simp] theorem yLt {k b q idy : Nat} {s : St} {d : Option Nat} {K : St → Prop} {new : List (List C)} : ywQ k b s d (.nil q) K (some (idy, new)) = (new.length * b ≤ 140737488355328 ∧ newP (s.drop idy) d (.tr k 0 new) (fun d => .own d k new.length) K) := rfl
def yrH (k b : Nat) (s : St) (d : Option Nat) (id k' n idy : Nat) (new : List (List C)) (K : St → Prop) : Obj → Prop
 | .row _ rows => k' = k ∧ n = rows.length ∧ (rows.length + new.length) * b ≤ 140737488355328 ∧
  K (((s.drop idy).renew id (.tr k 0 (rows ++ new))).put d (.own id k (rows.length + new.length)))
 | .tr _ _ rows => k' = k ∧ n = rows.length ∧ (rows.length + new.length) * b ≤ 140737488355328 ∧
  K (((s.drop idy).renew id (.tr k 0 (rows ++ new))).put d (.own id k (rows.length + new.length)))
 | _ => False
@[congr] theorem yGp {k b : Nat} {s : St} {d : Option Nat} {id k' n idy : Nat} {new : List (List C)} {K : St → Prop} {a a' : Obj} (h : a = a') : yrH k b s d id k' n idy new K a = yrH k b s d id k' n idy new K a' := by rw [h]
@[simp] theorem yKW {k k' b id n idy : Nat} {s : St} {d : Option Nat} {K : St → Prop} {new : List (List C)} : ywQ k b s d (.own id k' n) K (some (idy, new)) = (id ≠ idy ∧ yrH k b s d id k' n idy new K (s.ob id)) := by first | rfl | (simp only [ywQ, yrH]; done) | (simp only [ywQ, yrH]; rfl)
@[simp] theorem yI8 {k k' b id n idy q : Nat} {s : St} {d : Option Nat} {K : St → Prop} {rows new : List (List C)} : yrH k b s d id k' n idy new K (.row q rows) = (k' = k ∧ n = rows.length ∧ (rows.length + new.length) * b ≤ 140737488355328 ∧
 K (((s.drop idy).renew id (.tr k 0 (rows ++ new))).put d (.own id k (rows.length + new.length)))) := rfl
@[simp] theorem yLa {k k' b id n idy q ver : Nat} {s : St} {d : Option Nat} {K : St → Prop} {rows new : List (List C)} : yrH k b s d id k' n idy new K (.tr q ver rows) = (k' = k ∧ n = rows.length ∧ (rows.length + new.length) * b ≤ 140737488355328 ∧
 K (((s.drop idy).renew id (.tr k 0 (rows ++ new))).put d (.own id k (rows.length + new.length)))) := rfl
def yvV (k k' id n : Nat) : Obj → Option (Nat × List (List C))
 | .tr _ _ rows => if k' = k then some (id, rows.take n) else none
 | _ => none
@[simp] theorem yI5 {s : St} {k k' id n : Nat} : ygQ s k (.own id k' n) = yvV k k' id n (s.ob id) := by first | rfl | (simp only [ygQ, yvV]; done) | (simp only [ygQ, yvV]; rfl)
@[simp] theorem yIK {k k' id n q ver : Nat} {rows : List (List C)} : yvV k k' id n (.tr q ver rows) = if k' = k then some (id, rows.take n) else none := rfl
@[simp] theorem yGJ {s : St} {k k' : Nat} {rows : List (List C)} : yaw s k (.c (.sl k' rows)) = if k' = k then some rows else none := rfl
@[simp] theorem yEg {s : St} {k k' : Nat} {rows : List (List C)} : yaw s k (.clip k' rows) = if k' = k then some rows else none := rfl
@[simp] theorem yEB {s : St} {k n : Nat} : yaw s k (.nil n) = some [] := rfl
def yEk (k k' n : Nat) : Obj → Option (List (List C))
 | .row _ rows => if k' = k then some (rows.take n) else none
 | _ => none
@[simp] theorem yFi {s : St} {k k' id n : Nat} : yaw s k (.own id k' n) = yEk k k' n (s.ob id) := by simp only [yaw, yEk]; cases s.ob id <;> rfl
@[simp] theorem yNd {k k' n q : Nat} {rows : List (List C)} : yEk k k' n (.row q rows) = if k' = k then some (rows.take n) else none := rfl
@[simp] theorem srcO_tr {k k' n q ver : Nat} {rows : List (List C)} : yEk k k' n (.tr q ver rows) = none := rfl
def ywB (k k' lo n : Nat) : Obj → Option (List (List C))
 | .row _ rows => if k' = k then some ((rows.drop lo).take n) else none
 | _ => none
@[simp] theorem yEx {s : St} {k k' id lo n : Nat} : yaw s k (.cut id k' lo n) = ywB k k' lo n (s.ob id) := by first | rfl | (simp only [yaw, ywB]; done) | (simp only [yaw, ywB]; rfl)
@[simp] theorem yHJ {k k' lo n q : Nat} {rows : List (List C)} : ywB k k' lo n (.row q rows) = if k' = k then some ((rows.drop lo).take n) else none := rfl
def cpK (k : Nat) (s : St) (d : Option Nat) (x : AV) (K : St → Prop) : Option (List (List C)) → Prop
 | some new => match x with
  | .own id k' n => match s.ob id with
   | .row _ rows => k' = k ∧ n ≤ rows.length ∧ K ((s.yaj id (.row k (new.take n ++ rows.drop (min new.length n)))).put d (.c (.i (min new.length n : Nat))))
   | _ => False
  | _ => False
 | none => False
@[congr] theorem yL1 {k : Nat} {s : St} {d : Option Nat} {x : AV} {K : St → Prop} {a a' : Option (List (List C))} (h : a = a') : cpK k s d x K a = cpK k s d x K a' := by rw [h]
@[simp] theorem cpP_eq {k : Nat} {s : St} {d : Option Nat} {x y : AV} {K : St → Prop} : cpP k s d x y K = cpK k s d x K (yaw s k y) := by first | rfl | (simp only [cpP, cpK]; done) | (simp only [cpP, cpK]; rfl)
def cpO (k : Nat) (s : St) (d : Option Nat) (id k' n : Nat) (new : List (List C)) (K : St → Prop) : Obj → Prop
 | .row _ rows => k' = k ∧ n ≤ rows.length ∧ K ((s.yaj id (.row k (new.take n ++ rows.drop (min new.length n)))).put d (.c (.i (min new.length n : Nat))))
 | _ => False
@[congr] theorem yKM {k : Nat} {s : St} {d : Option Nat} {id k' n : Nat} {new : List (List C)} {K : St → Prop} {a a' : Obj} (h : a = a') : cpO k s d id k' n new K a = cpO k s d id k' n new K a' := by rw [h]
@[simp] theorem cpK_own {k id k' n : Nat} {s : St} {d : Option Nat} {K : St → Prop} {new : List (List C)} : cpK k s d (.own id k' n) K (some new) = cpO k s d id k' n new K (s.ob id) := by first | rfl | (simp only [cpK, cpO]; done) | (simp only [cpK, cpO]; rfl)
@[simp] theorem cpO_row {k id k' n q : Nat} {s : St} {d : Option Nat} {K : St → Prop} {rows new : List (List C)} : cpO k s d id k' n new K (.row q rows) = (k' = k ∧ n ≤ rows.length ∧ K ((s.yaj id (.row k (new.take n ++ rows.drop (min new.length n)))).put d (.c (.i (min new.length n : Nat))))) := rfl
@[simp] theorem yMT {n : Nat} {K : AV → Prop} : yuE (.nil n) K = K (.c (.i 0)) := rfl
@[simp] theorem yH4 {k : Nat} {rows : List (List C)} {K : AV → Prop} : yuE (.clip k rows) K = (rows.length ≤ maxLen → K (.c (.i rows.length))) := rfl
@[simp] theorem capP_sl {k : Nat} {rows : List (List C)} {K : AV → Prop} : yuE (.c (.sl k rows)) K = ∀ n : Nat, rows.length ≤ n → n ≤ maxLen → K (.c (.i n)) := rfl
@[simp] theorem yMy {id k m : Nat} {K : AV → Prop} : yuE (.own id k m) K = ∀ n : Nat, m ≤ n → n ≤ maxLen → K (.c (.i n)) := rfl
@[simp] theorem yLp {id o : Nat} {K : AV → Prop} : ypT (.box id o) K = K (.box id o) := rfl
@[simp] theorem yLW {id k o : Nat} {i : Int} {K : AV → Prop} : ypT (.row id k i o) K = K (.row id k i o) := rfl
@[simp] theorem yL3 {cs : List C} {K : AV → Prop} : ypT (.elt cs) K = K (.elt cs) := rfl
@[simp] theorem seqP_f {a b : ByteArray} {k : AV → Prop} : yqT false (.c (.s a)) (.c (.s b)) k = k (.c (.b (decide (a = b)))) := rfl
@[simp] theorem seqP_t {a b : ByteArray} {k : AV → Prop} : yqT true (.c (.s a)) (.c (.s b)) k = k (.c (.b !decide (a = b))) := rfl
@[simp] theorem scatP_s {a b : ByteArray} {k : AV → Prop} : ymX (.c (.s a)) (.c (.s b)) k = (a.size + b.size ≤ maxLen ∧ k (.c (.s (a ++ b)))) := rfl
@[simp] theorem slsP_1 {a : ByteArray} {l h : Int} {K : AV → Prop} : yqg (.c (.s a)) (some (.c (.i l))) (some (.c (.i h))) K = (0 ≤ l ∧ l ≤ h ∧ h ≤ a.size ∧ K (.c (.s (a.extract l.toNat h.toNat)))) := rfl
@[simp] theorem slsP_2 {a : ByteArray} {l : Int} {K : AV → Prop} : yqg (.c (.s a)) (some (.c (.i l))) none K = (0 ≤ l ∧ l ≤ a.size ∧ K (.c (.s (a.extract l.toNat a.size)))) := rfl
@[simp] theorem slsP_3 {a : ByteArray} {h : Int} {K : AV → Prop} : yqg (.c (.s a)) none (some (.c (.i h))) K = (0 ≤ h ∧ h ≤ a.size ∧ K (.c (.s (a.extract 0 h.toNat)))) := rfl
@[simp] theorem yNA {a b : Int} {k : AV → Prop} : ylK .and (.c (.i a)) (.c (.i b)) k = k (.c (.i (yEu a b))) := rfl
@[simp] theorem yL7 {a b : Int} {k : AV → Prop} : ylK .xor (.c (.i a)) (.c (.i b)) k = k (.c (.i (yD8 a b))) := rfl
@[simp] theorem yNb {a b : Int} {k : AV → Prop} : ylK .shl (.c (.i a)) (.c (.i b)) k = (0 ≤ b ∧ k (.c (.i (yBf a b)))) := rfl
@[simp] theorem yIU {a : Nat} {b : Int} {k : AV → Prop} : ylK .shr (.c (.q a)) (.c (.i b)) k = (0 ≤ b ∧ k (.c (.q (a / 2 ^ (min b.toNat 64))))) := rfl
@[simp] theorem yLJ {a b : Int} {k : AV → Prop} : ylK .shr (.c (.i a)) (.c (.i b)) k = (0 ≤ b ∧ k (.c (.i (yyz a b)))) := rfl
@[simp] theorem yIk {a b : Int} {k : AV → Prop} : ykS .add (.c (.i a)) (.c (.i b)) k = k (.c (.i (IntKind.i64.wrap (a + b)))) := rfl
@[simp] theorem yJC {a b : Int} {k : AV → Prop} : ykS .mul (.c (.i a)) (.c (.i b)) k = k (.c (.i (IntKind.i64.wrap (a * b)))) := rfl
@[simp] theorem yH9 {a b : Nat} {k : AV → Prop} : ye2 .add (.c (.u a)) (.c (.u b)) k = k (.c (.u ((a + b) % 256))) := rfl
@[simp] theorem yIS {a b : Nat} {k : AV → Prop} : ye2 .sub (.c (.u a)) (.c (.u b)) k = k (.c (.u ((a + 256 - b) % 256))) := rfl
@[simp] theorem yIA {a b : Nat} {k : AV → Prop} : ye2 .eql (.c (.u a)) (.c (.u b)) k = k (.c (.b (decide (a = b)))) := rfl
@[simp] theorem yKj {a b : Nat} {k : AV → Prop} : ye2 .neq (.c (.u a)) (.c (.u b)) k = k (.c (.b (!decide (a = b)))) := rfl
@[simp] theorem yIu {a b : Nat} {k : AV → Prop} : ye2 .lss (.c (.u a)) (.c (.u b)) k = k (.c (.b (decide (a < b)))) := rfl
@[simp] theorem yKo {a b : Nat} {k : AV → Prop} : ye2 .leq (.c (.u a)) (.c (.u b)) k = k (.c (.b (decide (a ≤ b)))) := rfl
@[simp] theorem yJv {a b : Nat} {k : AV → Prop} : ye2 .gtr (.c (.u a)) (.c (.u b)) k = k (.c (.b (decide (b < a)))) := rfl
@[simp] theorem yKg {a b : Nat} {k : AV → Prop} : ye2 .geq (.c (.u a)) (.c (.u b)) k = k (.c (.b (decide (b ≤ a)))) := rfl
@[simp] theorem cvtP_0u {s : St} {a : Nat} {k : AV → Prop} : yeg 0 s (.c (.u a)) k = k (.c (.i a)) := rfl
@[simp] theorem cvtP_0q {s : St} {a : Nat} {k : AV → Prop} : yeg 0 s (.c (.q a)) k = (a ≤ 9223372036854775807 ∧ k (.c (.i a))) := rfl
@[simp] theorem cvtP_3i {s : St} {a : Int} {k : AV → Prop} : yeg 3 s (.c (.i a)) k = (0 ≤ a ∧ k (.c (.q a.toNat))) := rfl
@[simp] theorem cvtP_0i {s : St} {a : Int} {k : AV → Prop} : yeg 0 s (.c (.i a)) k = k (.c (.i a)) := rfl
@[simp] theorem cvtP_1u {s : St} {a : Nat} {k : AV → Prop} : yeg 1 s (.c (.u a)) k = k (.c (.u a)) := rfl
@[simp] theorem cvtP_1i {s : St} {a : Int} {k : AV → Prop} : yeg 1 s (.c (.i a)) k = k (.c (.u (a % 256).toNat)) := rfl
def yAB (k : AV → Prop) : Option (List (List C)) → Prop
 | some rows => ∃ l : List UInt8, rows = l.map yyB ∧ k (.c (.s ⟨l.toArray⟩))
 | none => False
@[congr] theorem yIo {k : AV → Prop} {a a' : Option (List (List C))} (h : a = a') : yAB k a = yAB k a' := by rw [h]
@[simp] theorem cvtP_2 {s : St} {x : AV} {k : AV → Prop} : yeg 2 s x k = yAB k (yaw s 1 x) := by first | rfl | (simp only [yeg, yAB]; done) | (simp only [yeg, yAB]; rfl)
@[simp] theorem yHU {k : AV → Prop} {rows : List (List C)} : yAB k (some rows) = ∃ l : List UInt8, rows = l.map yyB ∧ k (.c (.s ⟨l.toArray⟩)) := rfl
@[simp ↓] theorem yHL {P : Program} {f : Nat} {l xs : List AV} {d : Option Nat} {s : St} {K : St → Prop} : ylI P (.fn f l) xs d s K = ((∃ fn, P.funcs[f]? = some fn ∧ fn.body.isSome = true ∧ (fn.name != "runtime.NumGoroutine") = true) ∧ yE4 P f (xs ++ l) d s K ⟨⟩) := rfl
@[simp] theorem kill_c {id : Nat} {x : C} : (AV.c x).kill id = .c x := rfl
@[simp] theorem yLX {id : Nat} : AV.any.kill id = .any := rfl
@[simp] theorem yNj {id : Nat} : AV.und.kill id = .und := rfl
@[simp] theorem yLk {id n : Nat} : (AV.nil n).kill id = .nil n := rfl
@[simp] theorem yMt {id i k lo n : Nat} : (AV.cut i k lo n).kill id = if i = id then .any else .cut i k lo n := by
 simp only [AV.kill, AV.ybe, AV.ycV]; by_cases h : i = id <;> simp [h]
@[simp] theorem yLd {id i ver : Nat} {n : Int} {j k m : Nat} : (AV.sub i ver n j k m).kill id = if i = id then .any else .sub i ver n j k m := by
 simp only [AV.kill, AV.ybe, AV.ycV]; by_cases h : i = id <;> simp [h]
@[simp] theorem yIJ {id i ver : Nat} {n : Int} {j k : Nat} {m : Int} {o : Nat} : (AV.ycO i ver n j k m o).kill id = if i = id then .any else .ycO i ver n j k m o := by
 simp only [AV.kill, AV.ybe, AV.ycV]; by_cases h : i = id <;> simp [h]
@[simp] theorem yJ4 {id n : Nat} : (AV.nil n).ybe id = .nil n := rfl
@[simp] theorem yJk {id : Nat} : AV.any.ybe id = .any := rfl
@[simp] theorem yGO {id k : Nat} {r : List (List C)} : (AV.clip k r).ybe id = .clip k r := rfl
@[simp] theorem yIy {id : Nat} {r : List C} : (AV.elt r).ybe id = .elt r := rfl
@[simp] theorem yI6 {id i k n : Nat} : (AV.own i k n).ybe id = if i = id then .any else .own i k n := by
 simp only [AV.ybe, AV.ycV]; by_cases h : i = id <;> simp [h]
@[simp] theorem yJn {id i o : Nat} : (AV.box i o).ybe id = if i = id then .any else .box i o := by
 simp only [AV.ybe, AV.ycV]; by_cases h : i = id <;> simp [h]
@[simp] theorem yJF {id i k o : Nat} {n : Int} : (AV.row i k n o).ybe id = if i = id then .any else .row i k n o := by
 simp only [AV.ybe, AV.ycV]; by_cases h : i = id <;> simp [h]
@[simp] theorem yKE {id k v : Nat} {l : List (List C)} : (Obj.tr k v l).kill id = .tr k v l := rfl
@[simp] theorem yJm {id k : Nat} {r : List (List C)} : (AV.clip k r).kill id = .clip k r := rfl
@[simp] theorem yLu {id : Nat} {r : List C} : (AV.elt r).kill id = .elt r := rfl
@[simp] theorem yNm {id i o : Nat} : (AV.box i o).kill id = if i = id then .any else .box i o := by
 simp only [AV.kill, AV.ybe, AV.ycV]; by_cases h : i = id <;> simp [h]
@[simp] theorem yM1 {id i k n : Nat} : (AV.own i k n).kill id = if i = id then .any else .own i k n := by
 simp only [AV.kill, AV.ybe, AV.ycV]; by_cases h : i = id <;> simp [h]
@[simp] theorem yNu {id i k o : Nat} {n : Int} : (AV.row i k n o).kill id = if i = id then .any else .row i k n o := by
 simp only [AV.kill, AV.ybe, AV.ycV]; by_cases h : i = id <;> simp [h]
@[simp] theorem kill1_c {id : Nat} {x : C} : (AV.c x).ybe id = .c x := rfl
@[simp] theorem yHM {id : Nat} {l : List C} : (AV.agg (l.map .c)).kill id = .agg (l.map .c) := by simp [AV.kill]
@[simp] theorem yMH {id : Nat} {l : List AV} : (AV.agg l).kill id = .agg (l.map (AV.ybe id)) := rfl
@[simp] theorem yH2 {id : Nat} {l : List AV} : (Obj.box l).kill id = .box (l.map (AV.ybe id)) := rfl
@[simp] theorem yJe {id k : Nat} {l : List (List C)} : (Obj.row k l).kill id = .row k l := rfl
@[simp] theorem yGc {id : Nat} : Obj.none.kill id = .none := rfl
@[simp ↓] theorem yJg {s : St} {l : List AV} {K : List AV → Prop} : yf0 s [] l K = K l := rfl
@[simp ↓] theorem yHp {s : St} {o n : Nat} {x : X} {ps : List (Nat × Nat × X)} {l : List AV} {K : List AV → Prop} : yf0 s ((o, n, x) :: ps) l K =
 ((s.ev x).cellsOf.length = n ∧ (s.ev x).cellsOf.all AV.yat = true ∧ o + n ≤ l.length ∧ yf0 s ps (l.take o ++ (s.ev x).cellsOf ++ l.drop (o + n)) K) := rfl
@[simp] theorem out1_c {s : St} {z : C} {y : AV} : out1 s (.c z) y = (y = .c z) := rfl
@[simp] theorem yIh {s : St} {k : Nat} {r : List (List C)} {y : AV} : out1 s (.clip k r) y = (y = .c (.sl k r)) := rfl
@[simp] theorem yKV {s : St} {n : Nat} {y : AV} : out1 s (.nil n) y = ((∃ k, y = .c (.sl k [])) ∨ ∃ k, y = .nil k) := rfl
@[simp] theorem yLA {s : St} {cs : List C} {y : AV} : out1 s (.elt cs) y = (y = .elt cs) := rfl
def yB1 (k : Nat) (y : AV) : Option (List (List C)) → Prop
 | some r => y = .c (.sl k r)
 | none => False
@[simp] theorem yJj {k : Nat} {y : AV} {r : List (List C)} : yB1 k y (some r) = (y = .c (.sl k r)) := rfl
def yCV (k n : Nat) (y : AV) : Obj → Prop
 | .row _ rows => y = .c (.sl k (rows.take n))
 | .tr _ _ rows => yB1 k y (yoJ (rows.take n))
 | _ => False
@[simp] theorem yDr {s : St} {id k n : Nat} {y : AV} : out1 s (.own id k n) y = yCV k n y (s.ob id) := by simp only [out1, yCV]; cases s.ob id <;> rfl
@[simp] theorem yNB {k n q : Nat} {rows : List (List C)} {y : AV} : yCV k n y (.row q rows) = (y = .c (.sl k (rows.take n))) := rfl
@[simp] theorem outO_tr {k n q ver : Nat} {rows : List (List C)} {y : AV} : yCV k n y (.tr q ver rows) = yB1 k y (yoJ (rows.take n)) := rfl
def yvO (k lo n : Nat) (y : AV) : Obj → Prop
 | .row _ rows => y = .c (.sl k ((rows.drop lo).take n))
 | _ => False
@[simp] theorem yCr {s : St} {id k lo n : Nat} {y : AV} : out1 s (.cut id k lo n) y = yvO k lo n y (s.ob id) := by simp only [out1, yvO]; cases s.ob id <;> rfl
@[simp] theorem yF5 {k lo n q : Nat} {rows : List (List C)} {y : AV} : yvO k lo n y (.row q rows) = (y = .c (.sl k ((rows.drop lo).take n))) := rfl
def yzz (y : AV) : Option C → Prop
 | some c => match c.shr with
  | some z => y = .c z
  | none => False
 | none => False
def yDi (ver : Nat) (i : Int) (j : Nat) (y : AV) : Obj → Prop
 | .tr _ ver' rows => ver' = ver ∧ yzz y (cellAt rows i.toNat j)
 | _ => False
@[simp] theorem yCD {s : St} {id ver : Nat} {i : Int} {j k n : Nat} {y : AV} : out1 s (.sub id ver i j k n) y = yDi ver i j y (s.ob id) := by first | rfl | (simp only [out1, yDi, yzz]; done) | (simp only [out1, yDi, yzz]; rfl)
@[simp] theorem outS_tr {ver k0 ver' : Nat} {i : Int} {j : Nat} {y : AV} {rows : List (List C)} : yDi ver i j y (.tr k0 ver' rows) = (ver' = ver ∧ yzz y (cellAt rows i.toNat j)) := rfl
@[simp] theorem outC_ow {k : Nat} {rows : List (List C)} {y : AV} : yzz y (some (.ow k rows)) = (y = .c (.sl k rows)) := rfl
@[simp] theorem outC_ot {k : Nat} {rows : List (List C)} {y : AV} : yzz y (some (.ot k rows)) = yB1 k y (yoJ rows) := by
 simp only [yzz, C.shr, yB1]; cases yoJ rows <;> rfl
@[simp] theorem yJ3 {s : St} : ye4 s [] [] = True := rfl
@[simp] theorem yHl {s : St} {x y : AV} {l l' : List AV} : ye4 s (x :: l) (y :: l') = (out1 s x y ∧ ye4 s l l') := rfl
@[simp] theorem yJR {s : St} {l : List C} : ye4 s (l.map .c) (l.map .c) = True := by
 induction l with
 | nil => rfl
 | cons x l ih => simp [ih]
@[simp] theorem yNe {s : St} {l l' : List AV} : ycX s (.agg l) (.agg l') = ye4 s l l' := rfl
@[simp] theorem out2_c {s : St} {z : C} {y : AV} : ycX s (.c z) y = (y = .c z) := rfl
@[simp] theorem yJy {s : St} {k : Nat} {r : List (List C)} {y : AV} : ycX s (.clip k r) y = (y = .c (.sl k r)) := rfl
@[simp] theorem yNn {s : St} {n : Nat} {y : AV} : ycX s (.nil n) y = ((∃ k, y = .c (.sl k [])) ∨ ∃ k, y = .nil k) := rfl
@[simp] theorem yMo {s : St} {cs : List C} {y : AV} : ycX s (.elt cs) y = (y = .elt cs) := rfl
@[simp] theorem yM6 {s : St} {id k lo n : Nat} {y : AV} : ycX s (.cut id k lo n) y = yvO k lo n y (s.ob id) := yCr
@[simp] theorem yKu {s : St} {id ver : Nat} {i : Int} {j k n : Nat} {y : AV} : ycX s (.sub id ver i j k n) y = yDi ver i j y (s.ob id) := yCD (k := k) (n := n)
@[simp] theorem out2_fn {s : St} {f f' : Nat} {l l' : List AV} : ycX s (.fn f l) (.fn f' l') = (f = f' ∧ ye4 s l l') := rfl
def yDP (s : St) (off : Nat) (cs : List C) : Obj → Prop
 | .box cells => ye4 s (cells.drop off) (cs.map .c)
 | _ => False
@[simp] theorem yLx {s : St} {id off : Nat} {cs : List C} : ycX s (.box id off) (.elt cs) = yDP s off cs (s.ob id) := by first | rfl | (simp only [ycX, yDP]; done) | (simp only [ycX, yDP]; rfl)
@[simp] theorem yMx {s : St} {off : Nat} {cs : List C} {cells : List AV} : yDP s off cs (.box cells) = ye4 s (cells.drop off) (cs.map .c) := rfl
@[simp] theorem yMu {s : St} {id k n : Nat} {y : AV} : ycX s (.own id k n) y = yCV k n y (s.ob id) := yDr
@[simp] theorem yIm {s : St} : ybX s [] [] = True := rfl
@[simp] theorem yHj {s : St} {x y : AV} {l l' : List AV} : ybX s (x :: l) (y :: l') = (ycX s x y ∧ ybX s l l') := rfl
@[simp] theorem yMb {s : St} {r : RS} {y : AV} : ytE s [r] y = yhf s r y := rfl
@[simp] theorem yNa {s : St} {r r' : RS} {y : AV} : ytE s [r, r'] y = ∃ ys, y = .tup ys ∧ ymI s [r, r'] ys := rfl
@[simp] theorem yGf {s : St} {r r' r2 : RS} {y : AV} : ytE s [r, r', r2] y = ∃ ys, y = .tup ys ∧ ymI s [r, r', r2] ys := rfl
@[simp] theorem yFt {s : St} : ymI s [] [] = True := rfl
@[simp] theorem yFj {s : St} {r : RS} {rs : List RS} {y : AV} {ys : List AV} : ymI s (r :: rs) (y :: ys) = (yhf s r y ∧ ymI s rs ys) := rfl
@[simp] theorem yLQ {s : St} {n : Nat} {y : AV} : yhf s (.t n) y = ycX s (s.env n) y := rfl
def clA (s : St) (k : Nat) (y : AV) : AV → Prop
 | .box id 0 => match s.ob id with
  | .box cells => cells.length = k ∧ ycX s (.agg cells) y
  | _ => False
 | _ => False
@[congr] theorem yNr {s : St} {k : Nat} {y a a' : AV} (h : a = a') : clA s k y a = clA s k y a' := by rw [h]
@[simp] theorem yIV {s : St} {n k : Nat} {y : AV} : yhf s (.cl n k) y = clA s k y (s.env n) := by
 simp only [yhf, clA]
 cases s.env n with
 | box id o => cases o <;> rfl
 | _ => rfl
def clO (s : St) (k : Nat) (y : AV) : Obj → Prop
 | .box cells => cells.length = k ∧ ycX s (.agg cells) y
 | _ => False
@[simp] theorem clA_box {s : St} {k id : Nat} {y : AV} : clA s k y (.box id 0) = clO s k y (s.ob id) := by first | rfl | (simp only [clA, clO]; done) | (simp only [clA, clO]; rfl)
@[simp] theorem clO_box {s : St} {k : Nat} {y : AV} {cells : List AV} : clO s k y (.box cells) = (cells.length = k ∧ ycX s (.agg cells) y) := rfl
end
@[simp] theorem yE8 {k k' : Nat} {r r' : List (List C)} : (Obj.row k r).leO (.row k' r') = (Obj.row k r = .row k' r') := rfl
@[simp] theorem yGr {k k' v : Nat} {r r' : List (List C)} : (Obj.row k r).leO (.tr k' v r') = (k = k' ∧ r = r') := rfl
@[simp] theorem yHQ {k k' v v' : Nat} {r r' : List (List C)} : (Obj.tr k v r).leO (.tr k' v' r') = (k = k' ∧ r = r') := rfl
@[simp] theorem yEz {l l' : List AV} : (Obj.box l).leO (.box l') = (Obj.box l = .box l') := rfl
def ints (l : List Int) : List (List C) := l.map fun n => [.i n]
@[simp] theorem yFm {l : List Int} : (ints l).length = l.length := by simp [ints]
end Go.Proofs.YtmimbhooaidelaaGreat
