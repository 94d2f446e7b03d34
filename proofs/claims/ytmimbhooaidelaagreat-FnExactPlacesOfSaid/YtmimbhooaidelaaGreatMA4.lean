/- The machine, part 20: evaluation. -/
import Derived.Test.YtmimbhooaidelaaGreatMA3
set_option linter.all false
/- The abstract machine, part 20: how the weakest preconditions are evaluated by simp. -/
namespace Go.Proofs.YtmimbhooaidelaaGreat
open Go.RowKit

/-- A mark on which a later part hangs: simp does not look into it. -/
structure Tag {α : Type} (K : α) : Type where
def callT (P : Program) (f : Nat) (xs : List AV) (d : Option Nat) (s : St) (K : St → Prop) (_ : Tag K) : Prop := callP P f xs d s K
def callDT (P : Program) (f : Nat) (xs : List AV) (ob : Nat → Obj) (k : AV → Prop) (_ : Tag k) : Prop := callD P f xs ob k
def loopT (P : Program) (N : Nat) (c : SC) (s : St) (Q : Ex → St → Prop) (_ : Tag Q) : Prop := loopP P N c s Q

section
variable {P : Program} {N : Nat}

@[congr] theorem stepI_cong {d : Option Nat} {op op' : IOp} {s : St} {K : St → Prop} (h : op = op') : stepI P d op s K = stepI P d op' s K := by rw [h]
@[congr] theorem valP_cong {op op' : IOp} {ev : X → AV} {ob : Nat → Obj} {k : AV → Prop} (h : op = op') : valP P op ev ob k = valP P op' ev ob k := by rw [h]
@[congr] theorem then_cong {Q Q' : Ex → St → Prop} {e : Ex} {s s' : St} (h : s = s') : Ex.then Q Q' e s = Ex.then Q Q' e s' := by rw [h]
@[congr] theorem inBlock_cong {Q : Ex → St → Prop} {n : Nat} {e : Ex} {s s' : St} (h : s = s') : Ex.inBlock n Q e s = Ex.inBlock n Q e s' := by rw [h]
@[congr] theorem newP_cong {s s' : St} {d : Option Nat} {o o' : Obj} {v : Nat → AV} {K : St → Prop} (h : s = s') (h2 : o = o') : newP s d o v K = newP s' d o' v K := by rw [h, h2]
@[congr] theorem bldPs_cong {s : St} {ps : List (Nat × Nat × X)} {l l' : List AV} {K : List AV → Prop} (h : l = l') : bldPs s ps l K = bldPs s ps l' K := by rw [h]
@[congr] theorem wpS_cong {c : SC} {s s' : St} {Q : Ex → St → Prop} (h : s = s') : wpS P N c s Q = wpS P N c s' Q := by rw [h]
@[congr] theorem wpI_cong {l : List Ins} {s s' : St} {K : St → Prop} (h : s = s') : wpI P l s K = wpI P l s' K := by rw [h]
@[congr] theorem wpE_cong {n : Nat} {l : List RIns} {h : List (Nat × Lab)} {s s' : St} {K : St → Prop} (hs : s = s') : wpE P n l h s K = wpE P n l h s' K := by rw [hs]
@[congr] theorem wpQ_cong {l : List Ins} {s s' : St} {K : St → Prop} (h : s = s') : wpQ P l s K = wpQ P l s' K := by rw [h]
@[congr] theorem pickP_cong {c c' a a' b b' : AV} {k : AV → Prop} (h1 : c = c') (h2 : a = a') (h3 : b = b') : pickP c a b k = pickP c' a' b' k := by rw [h1, h2, h3]
@[congr] theorem binP_cong {o : BinOp} {a a' b b' : AV} {k : AV → Prop} (h2 : a = a') (h3 : b = b') : binP o a b k = binP o a' b' k := by rw [h2, h3]
@[congr] theorem beqP_cong {o : Bool} {a a' b b' : AV} {k : AV → Prop} (h2 : a = a') (h3 : b = b') : beqP o a b k = beqP o a' b' k := by rw [h2, h3]
@[congr] theorem isnP_cong {a a' : AV} {k : AV → Prop} (h2 : a = a') : isnP a k = isnP a' k := by rw [h2]
@[congr] theorem notP_cong {a a' : AV} {k : AV → Prop} (h2 : a = a') : notP a k = notP a' k := by rw [h2]
@[congr] theorem negP_cong {a a' : AV} {k : AV → Prop} (h2 : a = a') : negP a k = negP a' k := by rw [h2]
@[congr] theorem idxP_cong {o : Nat} {s : St} {a a' b b' : AV} {k : AV → Prop} (h2 : a = a') (h3 : b = b') : idxP o s a b k = idxP o s a' b' k := by rw [h2, h3]
@[congr] theorem idaP_cong {o n : Nat} {a a' b b' : AV} {k : AV → Prop} (h2 : a = a') (h3 : b = b') : idaP o n a b k = idaP o n a' b' k := by rw [h2, h3]
@[congr] theorem fldP_cong {o : Nat} {s : St} {a a' : AV} {k : AV → Prop} (h2 : a = a') : fldP o s a k = fldP o s a' k := by rw [h2]
@[congr] theorem ld1P_cong {s : St} {a a' : AV} {k : AV → Prop} (h2 : a = a') : ld1P s a k = ld1P s a' k := by rw [h2]
@[congr] theorem ldnP_cong {o : Nat} {s : St} {a a' : AV} {k : AV → Prop} (h2 : a = a') : ldnP o s a k = ldnP o s a' k := by rw [h2]
@[congr] theorem st1P_cong {s : St} {a a' b b' : AV} {k : St → Prop} (h2 : a = a') (h3 : b = b') : st1P s a b k = st1P s a' b' k := by rw [h2, h3]
@[congr] theorem stnP_cong {o : Nat} {s : St} {a a' b b' : AV} {k : St → Prop} (h2 : a = a') (h3 : b = b') : stnP o s a b k = stnP o s a' b' k := by rw [h2, h3]
@[congr] theorem boxP_cong {o : Nat} {s : St} {d : Option Nat} {a a' : AV} {k : St → Prop} (h2 : a = a') : boxP o s d a k = boxP o s d a' k := by rw [h2]
@[congr] theorem mksP_cong {o n : Nat} {z : List C} {s : St} {d : Option Nat} {a a' b b' : AV} {k : St → Prop} (h2 : a = a') (h3 : b = b') : mksP o n z s d a b k = mksP o n z s d a' b' k := by rw [h2, h3]
@[congr] theorem bslP_cong {o : Nat} {s : St} {d : Option Nat} {a a' : List AV} {k : St → Prop} (h2 : a = a') : bslP o a s d k = bslP o a' s d k := by rw [h2]
@[congr] theorem slcP_cong {o : Nat} {a a' : AV} {l l' h h' m m' : Option AV} {k : AV → Prop} (h2 : a = a') (h3 : l = l') (h4 : h = h') (h5 : m = m') : slcP o a l h m k = slcP o a' l' h' m' k := by rw [h2, h3, h4, h5]
@[congr] theorem slaP_cong {o n : Nat} {s : St} {a a' b b' : AV} {k : AV → Prop} (h2 : a = a') (h3 : b = b') : slaP o n s a b k = slaP o n s a' b' k := by rw [h2, h3]
@[congr] theorem lenP_cong {s : St} {a a' : AV} {k : AV → Prop} (h2 : a = a') : lenP s a k = lenP s a' k := by rw [h2]
@[congr] theorem slenP_cong {a a' : AV} {k : AV → Prop} (h2 : a = a') : slenP a k = slenP a' k := by rw [h2]
@[congr] theorem appP_cong {o n : Nat} {s : St} {d : Option Nat} {a a' b b' : AV} {k : St → Prop} (h2 : a = a') (h3 : b = b') : appP o n s d a b k = appP o n s d a' b' k := by rw [h2, h3]
@[congr] theorem mmP_cong {f : Int → Int → Int} {a a' : List AV} {k : AV → Prop} (h2 : a = a') : mmP f a k = mmP f a' k := by rw [h2]
@[congr] theorem extP_cong {o : Nat} {a a' : AV} {k : AV → Prop} (h2 : a = a') : extP o a k = extP o a' k := by rw [h2]
@[congr] theorem ixsP_cong {a a' b b' : AV} {k : AV → Prop} (h2 : a = a') (h3 : b = b') : ixsP a b k = ixsP a' b' k := by rw [h2, h3]
@[congr] theorem callvP_cong {f f' : AV} {l l' : List AV} {d : Option Nat} {s : St} {K : St → Prop} (h : f = f') (h2 : l = l') : callvP P f l d s K = callvP P f' l' d s K := by rw [h, h2]
@[congr] theorem cpP_cong {o : Nat} {s : St} {d : Option Nat} {a a' b b' : AV} {k : St → Prop} (h2 : a = a') (h3 : b = b') : cpP o s d a b k = cpP o s d a' b' k := by rw [h2, h3]
@[congr] theorem capP_cong {a a' : AV} {k : AV → Prop} (h2 : a = a') : capP a k = capP a' k := by rw [h2]
@[congr] theorem nckP_cong {a a' : AV} {k : AV → Prop} (h2 : a = a') : nckP a k = nckP a' k := by rw [h2]
@[congr] theorem seqP_cong {o : Bool} {a a' b b' : AV} {k : AV → Prop} (h2 : a = a') (h3 : b = b') : seqP o a b k = seqP o a' b' k := by rw [h2, h3]
@[congr] theorem scatP_cong {a a' b b' : AV} {k : AV → Prop} (h2 : a = a') (h3 : b = b') : scatP a b k = scatP a' b' k := by rw [h2, h3]
@[congr] theorem slsP_cong {a a' : AV} {l l' h h' : Option AV} {k : AV → Prop} (h2 : a = a') (h3 : l = l') (h4 : h = h') : slsP a l h k = slsP a' l' h' k := by rw [h2, h3, h4]
@[congr] theorem bitP_cong {o : BinOp} {a a' b b' : AV} {k : AV → Prop} (h2 : a = a') (h3 : b = b') : bitP o a b k = bitP o a' b' k := by rw [h2, h3]
@[congr] theorem binuP_cong {o : BinOp} {a a' b b' : AV} {k : AV → Prop} (h2 : a = a') (h3 : b = b') : binuP o a b k = binuP o a' b' k := by rw [h2, h3]
@[congr] theorem binwP_cong {o : BinOp} {a a' b b' : AV} {k : AV → Prop} (h2 : a = a') (h3 : b = b') : binwP o a b k = binwP o a' b' k := by rw [h2, h3]
@[congr] theorem cvtP_cong {o : Nat} {s : St} {a a' : AV} {k : AV → Prop} (h2 : a = a') : cvtP o s a k = cvtP o s a' k := by rw [h2]
@[congr] theorem guardP_cong {a a' : AV} {v : Bool} {A B : Prop} (h : a = a') : guardP a v A B = guardP a' v A B := by rw [h]
@[congr] theorem condP_cong {a a' : AV} {A B : Prop} (h : a = a') : condP a A B = condP a' A B := by rw [h]

@[simp ↓] theorem wpS_skip {s : St} {Q : Ex → St → Prop} : wpS P N .skip s Q = Q .normal s := rfl
@[simp ↓] theorem wpS_reg {l : List Ins} {s : St} {Q : Ex → St → Prop} : wpS P N (.reg l) s Q = wpI P l s (Q .normal) := rfl
@[simp ↓] theorem wpS_regq {l : List Ins} {s : St} {Q : Ex → St → Prop} : wpS P N (.regq l) s Q = wpQ P l s (Q .normal) := rfl
@[simp ↓] theorem wpS_rege {l : List RIns} {s : St} {Q : Ex → St → Prop} : wpS P N (.rege l) s Q = wpE P 0 l [] s (Q .normal) := rfl
@[simp ↓] theorem wpS_seq {a b : SC} {s : St} {Q : Ex → St → Prop} : wpS P N (.seq a b) s Q = wpS P N a s (Ex.then (fun _ s' => wpS P N b s' Q) Q) := rfl
@[simp ↓] theorem wpS_cond {x : X} {a b : SC} {s : St} {Q : Ex → St → Prop} : wpS P N (.cond x a b) s Q = condP (s.ev x) (wpS P N a s Q) (wpS P N b s Q) := rfl
@[simp ↓] theorem wpS_block {n : Nat} {c : SC} {s : St} {Q : Ex → St → Prop} : wpS P N (.block n c) s Q = wpS P N c s (Ex.inBlock n Q) := rfl
@[simp ↓] theorem wpS_loop {c : SC} {s : St} {Q : Ex → St → Prop} : wpS P N (.loop c) s Q = loopT P N c s Q ⟨⟩ := rfl
@[simp ↓] theorem wpS_exit {n : Nat} {s : St} {Q : Ex → St → Prop} : wpS P N (.exit n) s Q = Q (.exit n) s := rfl
@[simp ↓] theorem wpS_ret {s : St} {Q : Ex → St → Prop} : wpS P N .ret s Q = Q .ret s := rfl
@[simp ↓] theorem then_normal {Q Q' : Ex → St → Prop} {s : St} : Ex.then Q Q' .normal s = Q .normal s := rfl
@[simp ↓] theorem then_exit {Q Q' : Ex → St → Prop} {n : Nat} {s : St} : Ex.then Q Q' (.exit n) s = Q' (.exit n) s := rfl
@[simp ↓] theorem then_ret {Q Q' : Ex → St → Prop} {s : St} : Ex.then Q Q' .ret s = Q' .ret s := rfl
@[simp ↓] theorem inBlock_normal {Q : Ex → St → Prop} {n : Nat} {s : St} : Ex.inBlock n Q .normal s = Q .normal s := rfl
@[simp ↓] theorem inBlock_ret {Q : Ex → St → Prop} {n : Nat} {s : St} : Ex.inBlock n Q .ret s = Q .ret s := rfl
@[simp ↓] theorem inBlock_exit {Q : Ex → St → Prop} {n m : Nat} {s : St} : Ex.inBlock n Q (.exit m) s = if m = n then Q .normal s else Q (.exit m) s := rfl

@[simp ↓] theorem wpI_nil {s : St} {K : St → Prop} : wpI P [] s K = K s := rfl
@[simp ↓] theorem wpI_cons {d : Option Nat} {op : IOp} {l : List Ins} {s : St} {K : St → Prop} : wpI P (⟨none, d, op⟩ :: l) s K = stepI P d op s fun s' => wpI P l s' K := rfl
/-- A guard: behind its test the guard's temporary is known. -/
def guardX (x : AV) (t : Nat) (want : Bool) (s : St) (A B : St → Prop) : Prop :=
  match x with
  | .c (.b v) => (v = want → A (s.put (some t) (.c (.b want)))) ∧ (v = (!want) → B (s.put (some t) (.c (.b (!want)))))
  | .und => B s
  | _ => False
theorem put_same {s : St} {t : Nat} {v : AV} (h : s.env t = v) : s.put (some t) v = s := by
  obtain ⟨env, objs⟩ := s
  simp only [St.put]
  congr 1
  funext n
  unfold upd
  split
  · rename_i e; subst e; exact h.symm
  · rfl
theorem guardX_eq {t : Nat} {want : Bool} {s : St} {A B : St → Prop} : guardP (s.env t) want (A s) (B s) = guardX (s.env t) t want s A B := by
  unfold guardP guardX
  cases h : s.env t with
  | c x => cases x with
    | b v =>
      apply propext
      constructor
      · rintro ⟨h1, h2⟩
        exact ⟨fun e => by rw [put_same (by rw [h, e])]; exact h1 e, fun e => by rw [put_same (by rw [h, e])]; exact h2 e⟩
      · rintro ⟨h1, h2⟩
        refine ⟨fun e => ?_, fun e => ?_⟩
        · have := h1 e; rwa [put_same (by rw [h, e])] at this
        · have := h2 e; rwa [put_same (by rw [h, e])] at this
    | _ => rfl
  | _ => rfl
@[congr] theorem guardX_cong {a a' : AV} {t : Nat} {v : Bool} {s : St} {A B : St → Prop} (h : a = a') : guardX a t v s A B = guardX a' t v s A B := by rw [h]
@[simp] theorem guardX_b {t : Nat} {v want : Bool} {s : St} {A B : St → Prop} : guardX (.c (.b v)) t want s A B = ((v = want → A (s.put (some t) (.c (.b want)))) ∧ (v = (!want) → B (s.put (some t) (.c (.b (!want)))))) := rfl
@[simp high] theorem guardX_tt {t : Nat} {s : St} {A B : St → Prop} : guardX (.c (.b true)) t true s A B = A (s.put (some t) (.c (.b true))) := by simp [guardX]
@[simp high] theorem guardX_tf {t : Nat} {s : St} {A B : St → Prop} : guardX (.c (.b true)) t false s A B = B (s.put (some t) (.c (.b true))) := by simp [guardX]
@[simp high] theorem guardX_ft {t : Nat} {s : St} {A B : St → Prop} : guardX (.c (.b false)) t true s A B = B (s.put (some t) (.c (.b false))) := by simp [guardX]
@[simp high] theorem guardX_ff {t : Nat} {s : St} {A B : St → Prop} : guardX (.c (.b false)) t false s A B = A (s.put (some t) (.c (.b false))) := by simp [guardX]
@[simp] theorem guardX_und {t : Nat} {want : Bool} {s : St} {A B : St → Prop} : guardX .und t want s A B = B s := rfl

@[simp ↓] theorem wpI_consg {t : Nat} {v : Bool} {d : Option Nat} {op : IOp} {l : List Ins} {s : St} {K : St → Prop} :
    wpI P (⟨some (t, v), d, op⟩ :: l) s K = guardX (s.env t) t v s (fun s => stepI P d op s fun s' => wpI P l s' K) (fun s => wpI P l (s.put d .und) K) :=
  guardX_eq (A := fun s => stepI P d op s fun s' => wpI P l s' K) (B := fun s => wpI P l (s.put d .und) K)
@[simp ↓] theorem wpQ_nil {s : St} {K : St → Prop} : wpQ P [] s K = K s := rfl
@[simp ↓] theorem wpQ_cons {d : Option Nat} {op : IOp} {l : List Ins} {s : St} {K : St → Prop} : wpQ P (⟨none, d, op⟩ :: l) s K = valP P op s.ev s.objs fun v => wpQ P l (s.put d v) K := rfl
@[simp ↓] theorem wpQ_consg {t : Nat} {v : Bool} {d : Option Nat} {op : IOp} {l : List Ins} {s : St} {K : St → Prop} :
    wpQ P (⟨some (t, v), d, op⟩ :: l) s K = guardX (s.env t) t v s (fun s => valP P op s.ev s.objs fun v => wpQ P l (s.put d v) K) (fun s => wpQ P l (s.put d .und) K) := by
  have e : wpQ P (⟨some (t, v), d, op⟩ :: l) s K = guardP (s.env t) v (valP P op s.ev s.objs fun v => wpQ P l (s.put d v) K) (wpQ P l (s.put d .und) K) := rfl
  rw [e]
  exact guardX_eq (A := fun s => valP P op s.ev s.objs fun v => wpQ P l (s.put d v) K) (B := fun s => wpQ P l (s.put d .und) K)

@[simp ↓] theorem wpE_nil {n : Nat} {h : List (Nat × Lab)} {s : St} {K : St → Prop} : wpE P n [] h s K = K s := by simp only [wpE]
@[simp] theorem isCall_mv {a0} : (IOp.mv a0).isCall = false := rfl
@[simp] theorem isCall_neg {a0} : (IOp.neg a0).isCall = false := rfl
@[simp] theorem isCall_isn {a0} : (IOp.isn a0).isCall = false := rfl
@[simp] theorem isCall_fld {a0 a1} : (IOp.fld a0 a1).isCall = false := rfl
@[simp] theorem isCall_ld1 {a0} : (IOp.ld1 a0).isCall = false := rfl
@[simp] theorem isCall_ldn {a0 a1} : (IOp.ldn a0 a1).isCall = false := rfl
@[simp] theorem isCall_ext {a0 a1} : (IOp.ext a0 a1).isCall = false := rfl
@[simp] theorem isCall_len {a0} : (IOp.len a0).isCall = false := rfl
@[simp] theorem isCall_slen {a0} : (IOp.slen a0).isCall = false := rfl
@[simp] theorem isCall_nck {a0} : (IOp.nck a0).isCall = false := rfl
@[simp] theorem isCall_cap {a0} : (IOp.cap a0).isCall = false := rfl
@[simp] theorem isCall_cvt {a0 a1} : (IOp.cvt a0 a1).isCall = false := rfl
@[simp] theorem isCall_seq {a0 a1 a2} : (IOp.seq a0 a1 a2).isCall = false := rfl
@[simp] theorem isCall_scat {a0 a1} : (IOp.scat a0 a1).isCall = false := rfl
@[simp] theorem isCall_bit {a0 a1 a2} : (IOp.bit a0 a1 a2).isCall = false := rfl
@[simp] theorem isCall_binu {a0 a1 a2} : (IOp.binu a0 a1 a2).isCall = false := rfl
@[simp] theorem isCall_binw {a0 a1 a2} : (IOp.binw a0 a1 a2).isCall = false := rfl
@[simp] theorem isCall_bin {a0 a1 a2} : (IOp.bin a0 a1 a2).isCall = false := rfl
@[simp] theorem isCall_beq {a0 a1 a2} : (IOp.beq a0 a1 a2).isCall = false := rfl
@[simp] theorem isCall_ixs {a0 a1} : (IOp.ixs a0 a1).isCall = false := rfl
@[simp] theorem isCall_idx {a0 a1 a2} : (IOp.idx a0 a1 a2).isCall = false := rfl
@[simp] theorem isCall_ida {a0 a1 a2 a3} : (IOp.ida a0 a1 a2 a3).isCall = false := rfl
@[simp] theorem isCall_sla {a0 a1 a2 a3} : (IOp.sla a0 a1 a2 a3).isCall = false := rfl
@[simp] theorem isCall_pick {a0 a1 a2} : (IOp.pick a0 a1 a2).isCall = false := rfl
@[simp] theorem isCall_sls {a0 a1 a2} : (IOp.sls a0 a1 a2).isCall = false := rfl
@[simp] theorem isCall_slc {a0 a1 a2 a3 a4} : (IOp.slc a0 a1 a2 a3 a4).isCall = false := rfl
@[simp] theorem isCall_mn {a0} : (IOp.mn a0).isCall = false := rfl
@[simp] theorem isCall_mx {a0} : (IOp.mx a0).isCall = false := rfl
@[simp] theorem isCall_mkf {a0 a1} : (IOp.mkf a0 a1).isCall = false := rfl
@[simp] theorem isCall_bld {a0 a1} : (IOp.bld a0 a1).isCall = false := rfl
@[simp] theorem isCall_not {a0} : (IOp.not a0).isCall = false := rfl
theorem mkE_no {i : Ins} {s : St} {kN : St → Prop} (h : i.op.isCall = false) : mkE P i s kN = False := by
  obtain ⟨g, d, op⟩ := i
  unfold mkE
  split
  · rename_i e; simp only at e h; rw [e] at h; cases h
  · rfl
theorem mkE_g {p : Nat × Bool} {d : Option Nat} {op : IOp} {s : St} {kN : St → Prop} : mkE P ⟨some p, d, op⟩ s kN = False := rfl
/-- A call in a drawn region: it reads, or it makes. -/
def callET (P : Program) (f : Nat) (xs : List AV) (d : Option Nat) (s : St) (k : AV → Prop) (kN : St → Prop) (_ : Tag (k, kN)) : Prop :=
  callD P f xs s.objs k ∨ match d with
    | some d => ∃ args res, OwnF P f args res ∧ outs2 s xs args ∧ (res.closed ∨ xs.all AV.isData = true) ∧ freshO s (res.unpO d) ∧ kN (s.take d res)
    | none => False
theorem callE_own {f d : Nat} {xs args : List AV} {res : AV} {s : St} {k : AV → Prop} {kN : St → Prop} {T : Tag (k, kN)} (hp : OwnF P f args res) (ho : outs2 s xs args) (hc : res.closed) (hfr : freshO s (res.unpO d)) (hK : kN (s.take d res)) : callET P f xs (some d) s k kN T :=
  .inr ⟨args, res, hp, ho, .inl hc, hfr, hK⟩
theorem callE_ownD {f d : Nat} {xs args : List AV} {res : AV} {s : St} {k : AV → Prop} {kN : St → Prop} {T : Tag (k, kN)} (hp : OwnF P f args res) (ho : outs2 s xs args) (hc : xs.all AV.isData = true) (hfr : freshO s (res.unpO d)) (hK : kN (s.take d res)) : callET P f xs (some d) s k kN T :=
  .inr ⟨args, res, hp, ho, .inr hc, hfr, hK⟩
theorem callE_pure {f : Nat} {d : Option Nat} {xs args : List AV} {res : AV} {s : St} {k : AV → Prop} {kN : St → Prop} {T : Tag (k, kN)} (hp : PureF P f args res) (ho : outs2 s xs args) (hc : xs.all AV.isData = true ∨ res.scalar = true) (hK : k res) : callET P f xs d s k kN T :=
  .inl ⟨args, res, hp, by rw [outs2_ob]; exact ho, hc, hK⟩
@[simp ↓] theorem wpE_q {n : Nat} {h : List (Nat × Lab)} {d : Option Nat} {op : IOp} {l : List RIns} {s : St} {K : St → Prop} (ho : op.isCall = false) : wpE P n (⟨0, false, [], ⟨none, d, op⟩⟩ :: l) h s K = valP P op s.ev s.objs fun v => wpE P (n + 1) l h (s.put d v) K := by
  have e : wpE P n (⟨0, false, [], ⟨none, d, op⟩⟩ :: l) h s K = ((valP P op s.ev s.objs fun v => true = true ∧ wpE P (n + 1) l h (s.put d v) K) ∨ mkE P ⟨none, d, op⟩ s fun s' => true = true ∧ wpE P (n + 1) l h s' K) := by rw [wpE]; first | done | rfl
  rw [e, mkE_no ho]; simp only [true_and, or_false]
@[simp ↓ low] theorem wpE_qn {n : Nat} {nt : Bool} {chk : List Nat} {h : List (Nat × Lab)} {d : Option Nat} {op : IOp} {l : List RIns} {s : St} {K : St → Prop} (ho : op.isCall = false) : wpE P n (⟨0, nt, chk, ⟨none, d, op⟩⟩ :: l) h s K =
    valP P op s.ev s.objs fun v => chkB chk h (labQ ⟨none, d, op⟩ s v) = true ∧ wpE P (n + 1) l (noteL nt n (labQ ⟨none, d, op⟩ s v) h) (s.put d v) K := by
  have e : wpE P n (⟨0, nt, chk, ⟨none, d, op⟩⟩ :: l) h s K = ((valP P op s.ev s.objs fun v => chkB chk h (labQ ⟨none, d, op⟩ s v) = true ∧ wpE P (n + 1) l (noteL nt n (labQ ⟨none, d, op⟩ s v) h) (s.put d v) K) ∨ mkE P ⟨none, d, op⟩ s fun s' => chkB chk h ([], true) = true ∧ wpE P (n + 1) l (noteL nt n ([], true) h) s' K) := by rw [wpE]; first | done | rfl
  rw [e, mkE_no ho, or_false]
@[simp ↓] theorem wpE_qc {n f : Nat} {h : List (Nat × Lab)} {d : Option Nat} {xs : List X} {l : List RIns} {s : St} {K : St → Prop} : wpE P n (⟨0, false, [], ⟨none, d, .call f xs⟩⟩ :: l) h s K =
    callET P f (xs.map s.ev) d s (fun v => wpE P (n + 1) l h (s.put d v) K) (fun s' => wpE P (n + 1) l h s' K) ⟨⟩ := by
  have e : wpE P n (⟨0, false, [], ⟨none, d, .call f xs⟩⟩ :: l) h s K = ((callD P f (xs.map s.ev) s.objs fun v => true = true ∧ wpE P (n + 1) l h (s.put d v) K) ∨ mkE P ⟨none, d, .call f xs⟩ s fun s' => true = true ∧ wpE P (n + 1) l h s' K) := by rw [wpE]; first | done | rfl
  rw [e]
  cases d <;> (unfold callET mkE; simp only [true_and])
@[simp ↓] theorem wpE_qg {n : Nat} {nt : Bool} {chk : List Nat} {h : List (Nat × Lab)} {t : Nat} {b : Bool} {d : Option Nat} {op : IOp} {l : List RIns} {s : St} {K : St → Prop} : wpE P n (⟨0, nt, chk, ⟨some (t, b), d, op⟩⟩ :: l) h s K =
    guardX (s.env t) t b s (fun s => valP P op s.ev s.objs fun v => chkB chk h (labQ ⟨some (t, b), d, op⟩ s v) = true ∧ wpE P (n + 1) l (noteL nt n (labQ ⟨some (t, b), d, op⟩ s v) h) (s.put d v) K)
      (fun s => chkB chk h (labQ ⟨some (t, b), d, op⟩ s .und) = true ∧ wpE P (n + 1) l (noteL nt n (labQ ⟨some (t, b), d, op⟩ s .und) h) (s.put d .und) K) := by
  have e : wpE P n (⟨0, nt, chk, ⟨some (t, b), d, op⟩⟩ :: l) h s K = (guardP (s.env t) b (valP P op s.ev s.objs fun v => chkB chk h (labQ ⟨some (t, b), d, op⟩ s v) = true ∧ wpE P (n + 1) l (noteL nt n (labQ ⟨some (t, b), d, op⟩ s v) h) (s.put d v) K)
      (chkB chk h (labQ ⟨some (t, b), d, op⟩ s .und) = true ∧ wpE P (n + 1) l (noteL nt n (labQ ⟨some (t, b), d, op⟩ s .und) h) (s.put d .und) K) ∨ mkE P ⟨some (t, b), d, op⟩ s fun s' => chkB chk h ([], true) = true ∧ wpE P (n + 1) l (noteL nt n ([], true) h) s' K) := by rw [wpE]; first | done | rfl
  rw [e, mkE_g, or_false]
  exact guardX_eq (A := fun s => valP P op s.ev s.objs fun v => chkB chk h (labQ ⟨some (t, b), d, op⟩ s v) = true ∧ wpE P (n + 1) l (noteL nt n (labQ ⟨some (t, b), d, op⟩ s v) h) (s.put d v) K)
    (B := fun s => chkB chk h (labQ ⟨some (t, b), d, op⟩ s .und) = true ∧ wpE P (n + 1) l (noteL nt n (labQ ⟨some (t, b), d, op⟩ s .und) h) (s.put d .und) K)
@[simp ↓] theorem wpE_m {n : Nat} {nt : Bool} {chk : List Nat} {h : List (Nat × Lab)} {i : Ins} {l : List RIns} {s : St} {K : St → Prop} : wpE P n (⟨1, nt, chk, i⟩ :: l) h s K =
    (chkB chk h (labM i) = true ∧ stepF P i.d i.op s fun s' => wpE P (n + 1) l (noteL nt n (labM i) h) s' K) := by rw [wpE]; first | done | rfl
@[simp ↓] theorem wpE_e {n : Nat} {nt : Bool} {chk : List Nat} {h : List (Nat × Lab)} {g : Option (Nat × Bool)} {d : Option Nat} {op : IOp} {l : List RIns} {s : St} {K : St → Prop} (ho : op.isCall = false) : wpE P n (⟨2, nt, chk, ⟨g, d, op⟩⟩ :: l) h s K =
    (chkB chk h (labE ⟨g, d, op⟩ s) = true ∧ stepI P d op s fun s' => wpE P (n + 1) l (noteL nt n (labE ⟨g, d, op⟩ s) h) s' K) := by
  have e : wpE P n (⟨2, nt, chk, ⟨g, d, op⟩⟩ :: l) h s K = if op.isCall then turnE P ⟨g, d, op⟩ s fun lab s' => chkB chk h lab = true ∧ wpE P (n + 1) l (noteL nt n lab h) s' K
      else chkB chk h (labE ⟨g, d, op⟩ s) = true ∧ stepI P d op s fun s' => wpE P (n + 1) l (noteL nt n (labE ⟨g, d, op⟩ s) h) s' K := by rw [wpE]; first | done | rfl
  rw [e, if_neg (by simp [ho])]
@[simp] theorem isCall_st1 {a0 a1} : (IOp.st1 a0 a1).isCall = false := rfl
@[simp] theorem isCall_stn {a0 a1 a2} : (IOp.stn a0 a1 a2).isCall = false := rfl
@[simp] theorem isCall_app {a0 a1 a2 a3} : (IOp.app a0 a1 a2 a3).isCall = false := rfl
@[simp] theorem isCall_cp {a0 a1 a2} : (IOp.cp a0 a1 a2).isCall = false := rfl
@[simp] theorem isCall_bsl {a0 a1} : (IOp.bsl a0 a1).isCall = false := rfl
/-- A call that changes an object, in a drawn region. -/
def turnT (P : Program) (f : Nat) (d : Option Nat) (xs : List X) (s : St) (K : Lab → St → Prop) (_ : Tag K) : Prop := turnE P ⟨none, d, .call f xs⟩ s K
@[simp ↓] theorem wpE_t {n f : Nat} {nt : Bool} {chk : List Nat} {h : List (Nat × Lab)} {d : Option Nat} {xs : List X} {l : List RIns} {s : St} {K : St → Prop} : wpE P n (⟨2, nt, chk, ⟨none, d, .call f xs⟩⟩ :: l) h s K =
    turnT P f d xs s (fun lab s' => chkB chk h lab = true ∧ wpE P (n + 1) l (noteL nt n lab h) s' K) ⟨⟩ := by
  have e : wpE P n (⟨2, nt, chk, ⟨none, d, .call f xs⟩⟩ :: l) h s K = if (IOp.call f xs).isCall then turnE P ⟨none, d, .call f xs⟩ s fun lab s' => chkB chk h lab = true ∧ wpE P (n + 1) l (noteL nt n lab h) s' K
      else chkB chk h (labE ⟨none, d, .call f xs⟩ s) = true ∧ stepI P d (.call f xs) s fun s' => wpE P (n + 1) l (noteL nt n (labE ⟨none, d, .call f xs⟩ s) h) s' K := by rw [wpE]; first | done | rfl
  rw [e, if_pos (show (IOp.call f xs).isCall = true from rfl)]; rfl
@[congr] theorem stepF_cong {d : Option Nat} {op op' : IOp} {s : St} {K : St → Prop} (h : op = op') : stepF P d op s K = stepF P d op' s K := by rw [h]
@[congr] theorem bslF_cong {k : Nat} {xs xs' : List AV} {s : St} {d : Option Nat} {K : St → Prop} (h : xs = xs') : bslF k xs s d K = bslF k xs' s d K := by rw [h]
@[congr] theorem callvD_cong {f f' : AV} {l l' : List AV} {ob : Nat → Obj} {k : AV → Prop} (h : f = f') (h2 : l = l') : callvD P f l ob k = callvD P f' l' ob k := by rw [h, h2]
@[simp ↓] theorem stepF_alloc {d : Option Nat} {s : St} {K : St → Prop} {zs : List AV} : stepF P d (.alloc zs) s K = newP s d (.box zs) (fun d => .box d 0) K := rfl
@[simp ↓] theorem stepF_alloca {d : Option Nat} {s : St} {K : St → Prop} {n m : Nat} {z : List C} : stepF P d (.alloca n m z) s K = newP s d (.row n (List.replicate m z)) (fun d => .row d n 0 0) K := rfl
@[simp ↓] theorem stepF_mks {d : Option Nat} {s : St} {K : St → Prop} {n b : Nat} {z : List C} {l c : X} : stepF P d (.mks n b z l c) s K = mksP n b z s d (s.ev l) (s.ev c) K := rfl
@[simp ↓] theorem stepF_bsl {d : Option Nat} {s : St} {K : St → Prop} {n : Nat} {xs : List X} : stepF P d (.bsl n xs) s K = bslF n (xs.map s.ev) s d K := rfl
def bslR (k : Nat) (s : St) (d : Option Nat) (K : St → Prop) : Option (List (List C)) → Prop
  | some rows => (∀ r ∈ rows, r.length = k) ∧ newP s d (.row k rows) (fun d => .own d k rows.length) K
  | none => False
@[congr] theorem bslR_cong {k : Nat} {s : St} {d : Option Nat} {K : St → Prop} {o o' : Option (List (List C))} (h : o = o') : bslR k s d K o = bslR k s d K o' := by rw [h]
@[simp] theorem bslF_eq {k : Nat} {xs : List AV} {s : St} {d : Option Nat} {K : St → Prop} : bslF k xs s d K = bslR k s d K (AV.rowsOf xs) := by
  unfold bslF bslR; cases AV.rowsOf xs <;> rfl
@[simp] theorem bslR_some {k : Nat} {s : St} {d : Option Nat} {K : St → Prop} {rows : List (List C)} : bslR k s d K (some rows) = ((∀ r ∈ rows, r.length = k) ∧ newP s d (.row k rows) (fun d => .own d k rows.length) K) := rfl
@[simp ↓] theorem callvD_fn {f : Nat} {l xs : List AV} {ob : Nat → Obj} {k : AV → Prop} : callvD P (.fn f l) xs ob k = ((∃ fn, P.funcs[f]? = some fn ∧ fn.body.isSome = true ∧ (fn.name != "runtime.NumGoroutine") = true) ∧ callDT P f (xs ++ l) ob k ⟨⟩) := rfl
@[simp] theorem noteL_f {n : Nat} {lab : Lab} {h : List (Nat × Lab)} : noteL false n lab h = h := rfl
@[simp] theorem noteL_t {n : Nat} {lab : Lab} {h : List (Nat × Lab)} : noteL true n lab h = (n, lab) :: h := rfl
@[simp] theorem chkB_nil {lab : Lab} {h : List (Nat × Lab)} : chkB [] h lab = true := rfl
@[simp] theorem chkB_cons {i : Nat} {l : List Nat} {lab : Lab} {h : List (Nat × Lab)} : chkB (i :: l) h lab = (apartL (look ([], true) h i) lab && chkB l h lab) := rfl
@[simp] theorem apartL_eq {a b : Lab} : apartL a b = ((a.1.all fun i => !b.1.contains i) && b.2) := rfl
@[simp] theorem labM_eq {g : Option (Nat × Bool)} {d : Nat} {op : IOp} : labM ⟨g, some d, op⟩ = ([2 * d, 2 * d + 1], true) := rfl
@[simp] theorem labQ_eq' {i : Ins} {s : St} {v : AV} : labQ i s v = ((if noRd i.op s then [] else lw ((i.op.xs.map s.ev).flatMap AV.ids)) ++ lk ((v :: i.op.xs.map s.ev).flatMap AV.ids), (v :: i.op.xs.map s.ev).all AV.cl) := rfl
@[simp] theorem labE_eq {i : Ins} {s : St} : labE i s = (lw (wOf i.op s ++ i.d.toList) ++ lk (kOf i.op s ++ i.d.toList), true) := rfl
@[simp] theorem lw_nil : lw [] = [] := rfl
@[simp] theorem lw_cons {i : Nat} {l : List Nat} : lw (i :: l) = 2 * i :: lw l := rfl
@[simp] theorem lw_app {l l' : List Nat} : lw (l ++ l') = lw l ++ lw l' := List.map_append
@[simp] theorem lk_nil : lk [] = [] := rfl
@[simp] theorem lk_cons {i : Nat} {l : List Nat} : lk (i :: l) = (2 * i + 1) :: lk l := rfl
@[simp] theorem lk_app {l l' : List Nat} : lk (l ++ l') = lk l ++ lk l' := List.map_append
attribute [simp] noRd AV.notSub kApp
@[simp] theorem kOf_st1 {s : St} {x v : X} : kOf (.st1 x v) s = if trAt s (s.ev x) then (s.ev v).ids else [] := rfl
@[simp] theorem kOf_stn {s : St} {n : Nat} {x v : X} : kOf (.stn n x v) s = if trAt s (s.ev x) then (s.ev v).ids else [] := rfl
@[simp] theorem kOf_cp {s : St} {k : Nat} {x v : X} : kOf (.cp k x v) s = [] := rfl
@[simp] theorem kOf_app {s : St} {k b : Nat} {x y : X} : kOf (.app k b x y) s = kApp (s.ev x) (wOf (.app k b x y) s) := rfl
@[simp] theorem kOf_bsl {s : St} {k : Nat} {xs : List X} : kOf (.bsl k xs) s = wOf (.bsl k xs) s := rfl
def srcIds (y : AV) : Option (List (List C)) → List Nat
  | some _ => []
  | none => y.ids
@[simp] theorem srcIds_some {y : AV} {r : List (List C)} : srcIds y (some r) = [] := rfl
@[simp] theorem srcIds_none {y : AV} : srcIds y none = y.ids := rfl
@[simp] theorem wOf_app {s : St} {k b : Nat} {x y : X} : wOf (.app k b x y) s = (s.ev x).ids ++ srcIds (s.ev y) (srcRows s k (s.ev y)) := by
  simp only [wOf]; cases srcRows s k (s.ev y) <;> rfl
@[simp] theorem wOf_st1 {s : St} {x v : X} : wOf (.st1 x v) s = (s.ev x).ids ++ (if trAt s (s.ev x) then (s.ev v).ids else []) := rfl
@[simp] theorem wOf_stn {s : St} {n : Nat} {x v : X} : wOf (.stn n x v) s = (s.ev x).ids ++ (if trAt s (s.ev x) then (s.ev v).ids else []) := rfl
@[simp] theorem wOf_cp {s : St} {k : Nat} {x v : X} : wOf (.cp k x v) s = (s.ev x).ids := rfl
def slaO (k n id k' : Nat) (j h : Int) (K : AV → Prop) : Obj → Prop
  | .row _ rows => k' = k ∧ j = 0 ∧ 0 ≤ h ∧ h ≤ rows.length ∧ rows.length = n ∧ K (.own id k h.toNat)
  | _ => False
@[congr] theorem slaO_cong {k n id k' : Nat} {j h : Int} {K : AV → Prop} {o o' : Obj} (e : o = o') : slaO k n id k' j h K o = slaO k n id k' j h K o' := by rw [e]
@[simp] theorem slaP_row {k n : Nat} {s : St} {id k' : Nat} {j h : Int} {K : AV → Prop} : slaP k n s (.row id k' j 0) (.c (.i h)) K = slaO k n id k' j h K (s.ob id) := by
  simp only [slaP, slaO]; cases s.ob id <;> rfl
@[simp] theorem slaO_row {k n id k' q : Nat} {j h : Int} {K : AV → Prop} {rows : List (List C)} : slaO k n id k' j h K (.row q rows) = (k' = k ∧ j = 0 ∧ 0 ≤ h ∧ h ≤ rows.length ∧ rows.length = n ∧ K (.own id k h.toNat)) := rfl
@[simp] theorem trAt_row {s : St} {id k o : Nat} {i : Int} : trAt s (.row id k i o) = (s.ob id).tree := rfl
@[simp] theorem trAt_box {s : St} {id o : Nat} : trAt s (.box id o) = false := rfl
@[simp] theorem trAt_srow {s : St} {id ver : Nat} {i : Int} {j k : Nat} {i' : Int} {o : Nat} : trAt s (.srow id ver i j k i' o) = false := rfl
@[simp] theorem tree_row {k : Nat} {r : List (List C)} : (Obj.row k r).tree = false := rfl
@[simp] theorem tree_tr {k v : Nat} {r : List (List C)} : (Obj.tr k v r).tree = true := rfl
attribute [simp] IOp.xs
@[simp] theorem ids_any : AV.any.ids = [] := rfl
@[simp] theorem ids_und : AV.und.ids = [] := rfl
@[simp] theorem ids_c {x : C} : (AV.c x).ids = [] := rfl
@[simp] theorem ids_nil {k : Nat} : (AV.nil k).ids = [] := rfl
@[simp] theorem ids_clip {k : Nat} {r : List (List C)} : (AV.clip k r).ids = [] := rfl
@[simp] theorem ids_elt {r : List C} : (AV.elt r).ids = [] := rfl
@[simp] theorem ids_box {i o : Nat} : (AV.box i o).ids = [i] := rfl
@[simp] theorem ids_row {i k o : Nat} {j : Int} : (AV.row i k j o).ids = [i] := rfl
@[simp] theorem ids_own {i k n : Nat} : (AV.own i k n).ids = [i] := rfl
@[simp] theorem ids_cut {i k l n : Nat} : (AV.cut i k l n).ids = [i] := rfl
@[simp] theorem ids_sub {i ver : Nat} {n : Int} {j k m : Nat} : (AV.sub i ver n j k m).ids = [i] := rfl
@[simp] theorem ids_srow {i ver : Nat} {n : Int} {j k : Nat} {m : Int} {o : Nat} : (AV.srow i ver n j k m o).ids = [i] := rfl
@[simp] theorem ids_agg {l : List AV} : (AV.agg l).ids = l.flatMap AV.ids1 := rfl
@[simp] theorem ids_fn {f : Nat} {l : List AV} : (AV.fn f l).ids = l.flatMap AV.ids1 := rfl
@[simp] theorem ids_tup {l : List AV} : (AV.tup l).ids = l.flatMap AV.ids2 := rfl
@[simp] theorem ids1_map {l : List C} : (l.map AV.c).flatMap AV.ids1 = [] := by
  rw [List.flatMap_eq_nil_iff]; intro x hx; obtain ⟨c, _, rfl⟩ := List.mem_map.1 hx; rfl
attribute [simp] AV.ids1 AV.ids0 AV.ids2 AV.cl AV.cl2 AV.cl1
@[simp] theorem cl1_map {l : List C} : (l.map AV.c).all AV.cl1 = true := by
  rw [List.all_eq_true]; intro x hx; obtain ⟨c, _, rfl⟩ := List.mem_map.1 hx; rfl

@[simp] theorem guardP_b {b want : Bool} {A B : Prop} : guardP (.c (.b b)) want A B = ((b = want → A) ∧ (b = (!want) → B)) := rfl
@[simp] theorem guardP_und {want : Bool} {A B : Prop} : guardP .und want A B = B := rfl
@[simp high] theorem condP_t {A B : Prop} : condP (.c (.b true)) A B = A := by simp [condP]
@[simp high] theorem condP_f {A B : Prop} : condP (.c (.b false)) A B = B := by simp [condP]
@[simp] theorem condP_b {b : Bool} {A B : Prop} : condP (.c (.b b)) A B = ((b = true → A) ∧ (b = false → B)) := rfl

section
variable {d : Option Nat} {s : St} {K : St → Prop} {ev : X → AV} {ob : Nat → Obj} {k : AV → Prop}
@[simp ↓] theorem step_mv {x : X} : stepI P d (.mv x) s K = K (s.put d (s.ev x)) := rfl
@[simp ↓] theorem step_pick {a b c : X} : stepI P d (.pick a b c) s K = pickP (s.ev a) (s.ev b) (s.ev c) fun v => K (s.put d v) := rfl
@[simp ↓] theorem step_bin {o : BinOp} {a b : X} : stepI P d (.bin o a b) s K = binP o (s.ev a) (s.ev b) fun v => K (s.put d v) := rfl
@[simp ↓] theorem step_beq {o : Bool} {a b : X} : stepI P d (.beq o a b) s K = beqP o (s.ev a) (s.ev b) fun v => K (s.put d v) := rfl
@[simp ↓] theorem step_isn {a : X} : stepI P d (.isn a) s K = isnP (s.ev a) fun v => K (s.put d v) := rfl
@[simp ↓] theorem step_not {a : X} : stepI P d (.not a) s K = notP (s.ev a) fun v => K (s.put d v) := rfl
@[simp ↓] theorem step_neg {a : X} : stepI P d (.neg a) s K = negP (s.ev a) fun v => K (s.put d v) := rfl
@[simp ↓] theorem step_idx {n : Nat} {a b : X} : stepI P d (.idx n a b) s K = idxP n s (s.ev a) (s.ev b) fun v => K (s.put d v) := rfl
@[simp ↓] theorem step_ida {m n : Nat} {a b : X} : stepI P d (.ida m n a b) s K = idaP m n (s.ev a) (s.ev b) fun v => K (s.put d v) := rfl
@[simp ↓] theorem step_fld {n : Nat} {a : X} : stepI P d (.fld n a) s K = fldP n s (s.ev a) fun v => K (s.put d v) := rfl
@[simp ↓] theorem step_ld1 {a : X} : stepI P d (.ld1 a) s K = ld1P s (s.ev a) fun v => K (s.put d v) := rfl
@[simp ↓] theorem step_ldn {n : Nat} {a : X} : stepI P d (.ldn n a) s K = ldnP n s (s.ev a) fun v => K (s.put d v) := rfl
@[simp ↓] theorem step_st1 {a b : X} : stepI P d (.st1 a b) s K = st1P s (s.ev a) (s.ev b) fun s' => K (s'.put d .und) := rfl
@[simp ↓] theorem step_stn {n : Nat} {a b : X} : stepI P d (.stn n a b) s K = stnP n s (s.ev a) (s.ev b) fun s' => K (s'.put d .und) := rfl
@[simp ↓] theorem step_box {n : Nat} {a : X} : stepI P d (.box n a) s K = boxP n s d (s.ev a) K := rfl
@[simp ↓] theorem step_alloc {zs : List AV} : stepI P d (.alloc zs) s K = newP s d (.box zs) (fun d => .box d 0) K := rfl
@[simp ↓] theorem step_alloca {n m : Nat} {z : List C} : stepI P d (.alloca n m z) s K = newP s d (.row n (List.replicate m z)) (fun d => .row d n 0 0) K := rfl
@[simp ↓] theorem step_mks {n b : Nat} {z : List C} {l c : X} : stepI P d (.mks n b z l c) s K = mksP n b z s d (s.ev l) (s.ev c) K := rfl
@[simp ↓] theorem step_bsl {n : Nat} {xs : List X} : stepI P d (.bsl n xs) s K = bslP n (xs.map s.ev) s d K := rfl
@[simp ↓] theorem step_bld {zs : List AV} {ps : List (Nat × Nat × X)} : stepI P d (.bld zs ps) s K = bldPs s ps zs fun l => K (s.put d (.agg l)) := rfl
@[simp ↓] theorem step_slc {n : Nat} {x : X} {lo hi m : Option X} : stepI P d (.slc n x lo hi m) s K = slcP n (s.ev x) (lo.map s.ev) (hi.map s.ev) (m.map s.ev) fun v => K (s.put d v) := rfl
@[simp ↓] theorem step_sla {n m : Nat} {x h : X} : stepI P d (.sla n m x h) s K = slaP n m s (s.ev x) (s.ev h) fun v => K (s.put d v) := rfl
@[simp ↓] theorem step_len {x : X} : stepI P d (.len x) s K = lenP s (s.ev x) fun v => K (s.put d v) := rfl
@[simp ↓] theorem step_slen {x : X} : stepI P d (.slen x) s K = slenP (s.ev x) fun v => K (s.put d v) := rfl
@[simp ↓] theorem step_appz {n b : Nat} {z : List C} {x y : X} : stepI P d (.appz n b z x y) s K = appzP n b z s d (s.ev x) (s.ev y) K := rfl
@[congr] theorem appzP_cong {o n : Nat} {z : List C} {s : St} {d : Option Nat} {a a' b b' : AV} {k : St → Prop} (h2 : a = a') (h3 : b = b') : appzP o n z s d a b k = appzP o n z s d a' b' k := by rw [h2, h3]
@[simp] theorem appzP_eq {k b : Nat} {z : List C} {s : St} {d : Option Nat} {j : Nat} {m : Int} {K : St → Prop} : appzP k b z s d (.nil j) (.c (.i m)) K = (0 ≤ m ∧ m.toNat * b ≤ 140737488355328 ∧ newP s d (.row k (List.replicate m.toNat z)) (fun d => .own d k m.toNat) K) := rfl
@[simp ↓] theorem step_app {n b : Nat} {x y : X} : stepI P d (.app n b x y) s K = appP n b s d (s.ev x) (s.ev y) K := rfl
@[simp ↓] theorem step_mn {xs : List X} : stepI P d (.mn xs) s K = mmP (fun x y => if y < x then y else x) (xs.map s.ev) fun v => K (s.put d v) := rfl
@[simp ↓] theorem step_mx {xs : List X} : stepI P d (.mx xs) s K = mmP (fun x y => if x < y then y else x) (xs.map s.ev) fun v => K (s.put d v) := rfl
@[simp ↓] theorem step_ext {n : Nat} {x : X} : stepI P d (.ext n x) s K = extP n (s.ev x) fun v => K (s.put d v) := rfl
@[simp ↓] theorem step_call {f : Nat} {xs : List X} : stepI P d (.call f xs) s K = callT P f (xs.map s.ev) d s K ⟨⟩ := rfl
@[simp ↓] theorem step_ixs {x i : X} : stepI P d (.ixs x i) s K = ixsP (s.ev x) (s.ev i) fun v => K (s.put d v) := rfl
@[simp ↓] theorem step_callv {f : X} {xs : List X} : stepI P d (.callv f xs) s K = callvP P (s.ev f) (xs.map s.ev) d s K := rfl
@[simp ↓] theorem step_cp {n : Nat} {a b : X} : stepI P d (.cp n a b) s K = cpP n s d (s.ev a) (s.ev b) K := rfl
@[simp ↓] theorem step_cap {a : X} : stepI P d (.cap a) s K = capP (s.ev a) fun v => K (s.put d v) := rfl
@[simp ↓] theorem step_nck {a : X} : stepI P d (.nck a) s K = nckP (s.ev a) fun v => K (s.put d v) := rfl
@[simp ↓] theorem step_seq {o : Bool} {a b : X} : stepI P d (.seq o a b) s K = seqP o (s.ev a) (s.ev b) fun v => K (s.put d v) := rfl
@[simp ↓] theorem step_scat {a b : X} : stepI P d (.scat a b) s K = scatP (s.ev a) (s.ev b) fun v => K (s.put d v) := rfl
@[simp ↓] theorem step_sls {x : X} {lo hi : Option X} : stepI P d (.sls x lo hi) s K = slsP (s.ev x) (lo.map s.ev) (hi.map s.ev) fun v => K (s.put d v) := rfl
@[simp ↓] theorem step_bit {o : BinOp} {a b : X} : stepI P d (.bit o a b) s K = bitP o (s.ev a) (s.ev b) fun v => K (s.put d v) := rfl
@[simp ↓] theorem step_binu {o : BinOp} {a b : X} : stepI P d (.binu o a b) s K = binuP o (s.ev a) (s.ev b) fun v => K (s.put d v) := rfl
@[simp ↓] theorem step_binw {o : BinOp} {a b : X} : stepI P d (.binw o a b) s K = binwP o (s.ev a) (s.ev b) fun v => K (s.put d v) := rfl
@[simp ↓] theorem step_cvt {n : Nat} {a : X} : stepI P d (.cvt n a) s K = cvtP n s (s.ev a) fun v => K (s.put d v) := rfl
@[simp ↓] theorem step_mkf {f : Nat} {xs : List X} : stepI P d (.mkf f xs) s K = ((xs.map s.ev).all AV.cellOk = true ∧ K (s.put d (.fn f (xs.map s.ev)))) := rfl
@[simp ↓] theorem val_nck {a : X} : valP P (.nck a) ev ob k = nckP (ev a) k := rfl
@[simp ↓] theorem val_cvt0 {a : X} : valP P (.cvt 0 a) ev ob k = cvtP 0 (obSt ob) (ev a) k := rfl
@[simp ↓] theorem val_cvt1 {a : X} : valP P (.cvt 1 a) ev ob k = cvtP 1 (obSt ob) (ev a) k := rfl
@[simp ↓] theorem val_cvt3 {a : X} : valP P (.cvt 3 a) ev ob k = cvtP 3 (obSt ob) (ev a) k := rfl
@[simp ↓] theorem val_seq {o : Bool} {a b : X} : valP P (.seq o a b) ev ob k = seqP o (ev a) (ev b) k := rfl
@[simp ↓] theorem val_scat {a b : X} : valP P (.scat a b) ev ob k = scatP (ev a) (ev b) k := rfl
@[simp ↓] theorem val_sls {x : X} {lo hi : Option X} : valP P (.sls x lo hi) ev ob k = slsP (ev x) (lo.map ev) (hi.map ev) k := rfl
@[simp ↓] theorem val_bit {o : BinOp} {a b : X} : valP P (.bit o a b) ev ob k = bitP o (ev a) (ev b) k := rfl
@[simp ↓] theorem val_binu {o : BinOp} {a b : X} : valP P (.binu o a b) ev ob k = binuP o (ev a) (ev b) k := rfl
@[simp ↓] theorem val_binw {o : BinOp} {a b : X} : valP P (.binw o a b) ev ob k = binwP o (ev a) (ev b) k := rfl
@[simp ↓] theorem val_mkf {f : Nat} {xs : List X} : valP P (.mkf f xs) ev ob k = ((xs.map ev).all AV.cellOk = true ∧ k (.fn f (xs.map ev))) := rfl
@[simp ↓] theorem val_mv {x : X} : valP P (.mv x) ev ob k = k (ev x) := rfl
@[simp ↓] theorem val_pick {a b c : X} : valP P (.pick a b c) ev ob k = pickP (ev a) (ev b) (ev c) k := rfl
@[simp ↓] theorem val_bin {o : BinOp} {a b : X} : valP P (.bin o a b) ev ob k = binP o (ev a) (ev b) k := rfl
@[simp ↓] theorem val_beq {o : Bool} {a b : X} : valP P (.beq o a b) ev ob k = beqP o (ev a) (ev b) k := rfl
@[simp ↓] theorem val_not {a : X} : valP P (.not a) ev ob k = notP (ev a) k := rfl
@[simp ↓] theorem val_neg {a : X} : valP P (.neg a) ev ob k = negP (ev a) k := rfl
@[simp ↓] theorem val_idx {n : Nat} {a b : X} : valP P (.idx n a b) ev ob k = idxP n (obSt ob) (ev a) (ev b) k := rfl
@[simp ↓] theorem val_ida {m n : Nat} {a b : X} : valP P (.ida m n a b) ev ob k = idaP m n (ev a) (ev b) k := rfl
@[simp ↓] theorem val_fld {n : Nat} {a : X} : valP P (.fld n a) ev ob k = fldP n (obSt ob) (ev a) k := rfl
@[simp ↓] theorem val_ld1 {a : X} : valP P (.ld1 a) ev ob k = ld1P (obSt ob) (ev a) k := rfl
@[simp ↓] theorem val_ldn {n : Nat} {a : X} : valP P (.ldn n a) ev ob k = ldnP n (obSt ob) (ev a) k := rfl
@[simp ↓] theorem val_slc {n : Nat} {x : X} {lo hi m : Option X} : valP P (.slc n x lo hi m) ev ob k = slcP n (ev x) (lo.map ev) (hi.map ev) (m.map ev) k := rfl
@[simp ↓] theorem val_sla {m n : Nat} {x h : X} : valP P (.sla m n x h) ev ob k = slaP m n (obSt ob) (ev x) (ev h) k := rfl
@[simp ↓] theorem val_len {x : X} : valP P (.len x) ev ob k = lenP (obSt ob) (ev x) k := rfl
@[simp ↓] theorem val_slen {x : X} : valP P (.slen x) ev ob k = slenP (ev x) k := rfl
@[simp ↓] theorem val_mn {xs : List X} : valP P (.mn xs) ev ob k = mmP (fun x y => if y < x then y else x) (xs.map ev) k := rfl
@[simp ↓] theorem val_mx {xs : List X} : valP P (.mx xs) ev ob k = mmP (fun x y => if x < y then y else x) (xs.map ev) k := rfl
@[simp ↓] theorem val_ext {n : Nat} {x : X} : valP P (.ext n x) ev ob k = extP n (ev x) k := rfl
@[simp ↓] theorem val_call {f : Nat} {xs : List X} : valP P (.call f xs) ev ob k = callDT P f (xs.map ev) ob k ⟨⟩ := rfl
@[simp ↓] theorem val_bld {zs : List AV} {ps : List (Nat × Nat × X)} : valP P (.bld zs ps) ev ob k = bldPs ⟨fun t => ev (.t t), ob⟩ ps zs fun l => k (.agg l) := rfl
@[simp ↓] theorem val_callv {f : X} {xs : List X} : valP P (.callv f xs) ev ob k = callvD P (ev f) (xs.map ev) ob k := rfl
@[simp ↓] theorem step_bad : stepI P d .bad s K = False := rfl
@[simp ↓] theorem val_ixs {x i : X} : valP P (.ixs x i) ev ob k = ixsP (ev x) (ev i) k := rfl
end

@[simp] theorem ev_t {s : St} {n : Nat} : s.ev (.t n) = s.env n := rfl
@[simp] theorem ev_k {s : St} {a : AV} : s.ev (.k a) = a := rfl
@[simp] theorem put_none {s : St} {v : AV} : s.put none v = s := rfl
@[simp] theorem put_env {s : St} {d t : Nat} {v : AV} : (s.put (some d) v).env t = if t = d then v else s.env t := rfl
attribute [simp] put_objs
@[simp] theorem put_ob {s : St} {d : Option Nat} {id : Nat} {v : AV} : (s.put d v).ob id = s.ob id := by cases d <;> rfl
@[simp] theorem setOb_env {s : St} {id t : Nat} {o : Obj} : (s.setOb id o).env t = s.env t := rfl
@[simp] theorem setOb_ob {s : St} {id i : Nat} {o : Obj} : (s.setOb id o).ob i = if i = id then o else s.ob i := rfl
@[simp] theorem setOb_objs {s : St} {id i : Nat} {o : Obj} : (s.setOb id o).objs i = if i = id then o else s.objs i := rfl
@[simp] theorem renew_env {s : St} {id t : Nat} {o : Obj} : (s.renew id o).env t = (s.env t).kill id := rfl
@[simp] theorem renew_ob {s : St} {id i : Nat} {o : Obj} : (s.renew id o).ob i = if i = id then o else (s.ob i).kill id := rfl
@[simp] theorem renew_objs {s : St} {id i : Nat} {o : Obj} : (s.renew id o).objs i = if i = id then o else (s.objs i).kill id := rfl
@[simp] theorem obSt_ob {f : Nat → Obj} {i : Nat} : (obSt f).ob i = f i := rfl
@[simp] theorem objs_ob {s : St} {i : Nat} : s.objs i = s.ob i := rfl
@[simp] theorem stOf_env {L : List (Nat × AV)} {O : List (Nat × Obj)} {t : Nat} : (stOf L O).env t = look .any L t := rfl
@[simp] theorem stOf_ob {L : List (Nat × AV)} {O : List (Nat × Obj)} {t : Nat} : (stOf L O).ob t = look .none O t := rfl
@[simp] theorem initSt_env {l : List AV} {t : Nat} : (initSt l).env t = (l[t]?).getD .any := rfl
@[simp] theorem initSt_ob {l : List AV} {t : Nat} : (initSt l).ob t = .none := rfl
@[simp] theorem mk_env {e : Nat → AV} {o : Nat → Obj} {t : Nat} : (St.mk e o).env t = e t := rfl
@[simp] theorem mk_ob {e : Nat → AV} {o : Nat → Obj} {t : Nat} : (St.mk e o).ob t = o t := rfl
@[simp] theorem look_nil {α : Type} {d : α} {t : Nat} : look d [] t = d := rfl
@[simp] theorem look_cons' {α : Type} {d v : α} {k t : Nat} {l : List (Nat × α)} : look d ((k, v) :: l) t = if t = k then v else look d l t := rfl
@[simp] theorem upd_app {α : Type} {k : Nat} {v : α} {f : Nat → α} {n : Nat} : upd k v f n = if n = k then v else f n := rfl
@[simp] theorem isNone_none : Obj.none.isNone = true := rfl
@[simp] theorem isNone_box {l : List AV} : (Obj.box l).isNone = false := rfl
@[simp] theorem isNone_row {k : Nat} {l : List (List C)} : (Obj.row k l).isNone = false := rfl
@[simp] theorem isNone_tr {k v : Nat} {l : List (List C)} : (Obj.tr k v l).isNone = false := rfl
@[simp] theorem drop_env {s : St} {id t : Nat} : (s.drop id).env t = (s.env t).kill id := rfl
@[simp] theorem drop_ob {s : St} {id i : Nat} : (s.drop id).ob i = if i = id then .none else (s.ob i).kill id := rfl
@[simp] theorem drop_objs {s : St} {id i : Nat} : (s.drop id).objs i = if i = id then .none else (s.ob i).kill id := rfl
@[simp] theorem drops_nil {s : St} : s.drops [] = s := rfl
@[simp] theorem drops_cons {s : St} {i : Nat} {l : List Nat} : s.drops (i :: l) = (s.drop i).drops l := rfl

@[simp ↓] theorem newP_some {s : St} {d : Nat} {o : Obj} {v : Nat → AV} {K : St → Prop} : newP s (some d) o v K = ((s.ob d).isNone = true ∧ K ((s.setOb d o).put (some d) (v d))) := rfl
@[simp] theorem pickP_t {a b : AV} {k : AV → Prop} : pickP (.c (.b true)) a b k = k a := by
  unfold pickP; simp only; split <;> simp
@[simp] theorem pickP_f {a b : AV} {k : AV → Prop} : pickP (.c (.b false)) a b k = k b := by
  unfold pickP; simp only; split <;> simp
@[simp] theorem pickP_bbb {t x y : Bool} {k : AV → Prop} : pickP (.c (.b t)) (.c (.b x)) (.c (.b y)) k = k (.c (.b (cond t x y))) := rfl
@[simp] theorem binP_ii {o : BinOp} {a b : Int} {k : AV → Prop} : binP o (.c (.i a)) (.c (.i b)) k = binI o a b k := rfl
@[simp] theorem binI_add {a b : Int} {k : AV → Prop} : binI .add a b k = (inI (a + b) ∧ k (.c (.i (a + b)))) := rfl
@[simp] theorem binI_sub {a b : Int} {k : AV → Prop} : binI .sub a b k = (inI (a - b) ∧ k (.c (.i (a - b)))) := rfl
@[simp] theorem binI_mul {a b : Int} {k : AV → Prop} : binI .mul a b k = (inI (a * b) ∧ k (.c (.i (a * b)))) := rfl
@[simp] theorem binI_quo {a b : Int} {k : AV → Prop} : binI .quo a b k = (b ≠ 0 ∧ inI (a.tdiv b) ∧ k (.c (.i (a.tdiv b)))) := rfl
@[simp] theorem binI_rem {a b : Int} {k : AV → Prop} : binI .rem a b k = (b ≠ 0 ∧ inI (a.tmod b) ∧ k (.c (.i (a.tmod b)))) := rfl
@[simp] theorem binI_eql {a b : Int} {k : AV → Prop} : binI .eql a b k = k (.c (.b (decide (a = b)))) := rfl
@[simp] theorem binI_neq {a b : Int} {k : AV → Prop} : binI .neq a b k = k (.c (.b (!decide (a = b)))) := rfl
@[simp] theorem binI_lss {a b : Int} {k : AV → Prop} : binI .lss a b k = k (.c (.b (decide (a < b)))) := rfl
@[simp] theorem binI_leq {a b : Int} {k : AV → Prop} : binI .leq a b k = k (.c (.b (decide (a ≤ b)))) := rfl
@[simp] theorem binI_gtr {a b : Int} {k : AV → Prop} : binI .gtr a b k = k (.c (.b (decide (b < a)))) := rfl
@[simp] theorem binI_geq {a b : Int} {k : AV → Prop} : binI .geq a b k = k (.c (.b (decide (b ≤ a)))) := rfl
@[simp] theorem beqP_ff {a b : Bool} {k : AV → Prop} : beqP false (.c (.b a)) (.c (.b b)) k = k (.c (.b (decide (a = b)))) := rfl
@[simp] theorem beqP_tt {a b : Bool} {k : AV → Prop} : beqP true (.c (.b a)) (.c (.b b)) k = k (.c (.b (!decide (a = b)))) := rfl
@[simp] theorem notP_b {a : Bool} {k : AV → Prop} : notP (.c (.b a)) k = k (.c (.b !a)) := rfl
@[simp] theorem negP_i {a : Int} {k : AV → Prop} : negP (.c (.i a)) k = (inI (-a) ∧ k (.c (.i (-a)))) := rfl
@[simp] theorem isnP_sl {n : Nat} {rows : List (List C)} {k : AV → Prop} : isnP (.c (.sl n rows)) k = ∀ v : Bool, (v = true → rows = []) → k (.c (.b v)) := rfl
@[simp] theorem isnP_nil {n : Nat} {k : AV → Prop} : isnP (.nil n) k = k (.c (.b true)) := rfl
@[simp] theorem isnP_own {id q n : Nat} {k : AV → Prop} : isnP (.own id q n) k = ∀ v : Bool, (v = true → n = 0) → k (.c (.b v)) := rfl
@[simp] theorem idxP_sl {m m' : Nat} {rows : List (List C)} {n : Int} {s : St} {k : AV → Prop} : idxP m s (.c (.sl m' rows)) (.c (.i n)) k = (m' = m ∧ 0 ≤ n ∧ n < rows.length ∧ k (.elt (rows.getD n.toNat []))) := rfl
@[simp] theorem idxP_clip {m m' : Nat} {rows : List (List C)} {n : Int} {s : St} {k : AV → Prop} : idxP m s (.clip m' rows) (.c (.i n)) k = (m' = m ∧ 0 ≤ n ∧ n < rows.length ∧ k (.elt (rows.getD n.toNat []))) := rfl
@[simp] theorem idxP_own {id m m' r : Nat} {n : Int} {s : St} {k : AV → Prop} : idxP m s (.own id m' r) (.c (.i n)) k = (m' = m ∧ 0 ≤ n ∧ n < (r : Int) ∧ k (.row id m n 0)) := rfl
@[simp] theorem idxP_cut {id m m' lo r : Nat} {n : Int} {s : St} {k : AV → Prop} : idxP m s (.cut id m' lo r) (.c (.i n)) k = (m' = m ∧ 0 ≤ n ∧ n < (r : Int) ∧ k (.row id m (lo + n) 0)) := rfl
def idxT (m : Nat) (id ver : Nat) (i : Int) (j m' r : Nat) (n : Int) (k : AV → Prop) : Obj → Prop
  | .tr _ ver' _ => ver' = ver ∧ m' = m ∧ 0 ≤ n ∧ n < (r : Int) ∧ k (.srow id ver i j m n 0)
  | _ => False
@[congr] theorem idxT_cong {m id ver : Nat} {i : Int} {j m' r : Nat} {n : Int} {k : AV → Prop} {a a' : Obj} (h : a = a') : idxT m id ver i j m' r n k a = idxT m id ver i j m' r n k a' := by rw [h]
@[simp] theorem idxP_sub {m id ver : Nat} {i : Int} {j m' r : Nat} {n : Int} {s : St} {k : AV → Prop} : idxP m s (.sub id ver i j m' r) (.c (.i n)) k = idxT m id ver i j m' r n k (s.ob id) := by first | rfl | (simp only [idxP, idxT]; done) | (simp only [idxP, idxT]; rfl)
@[simp] theorem idxT_tr {m id ver k0 ver' : Nat} {i : Int} {j m' r : Nat} {n : Int} {rows : List (List C)} {k : AV → Prop} : idxT m id ver i j m' r n k (.tr k0 ver' rows) = (ver' = ver ∧ m' = m ∧ 0 ≤ n ∧ n < (r : Int) ∧ k (.srow id ver i j m n 0)) := rfl
@[simp] theorem idaP_row {id m m' n : Nat} {j q : Int} {k : AV → Prop} : idaP m n (.row id m' j 0) (.c (.i q)) k = (m' = m ∧ j = 0 ∧ 0 ≤ q ∧ q < (n : Int) ∧ k (.row id m q 0)) := rfl
@[simp] theorem fldP_box {off id o : Nat} {s : St} {k : AV → Prop} : fldP off s (.box id o) k = k (.box id (o + off)) := rfl
@[simp] theorem fldP_row {off id m o : Nat} {i : Int} {s : St} {k : AV → Prop} : fldP off s (.row id m i o) k = k (.row id m i (o + off)) := rfl
@[simp] theorem fldP_elt {off : Nat} {cs : List C} {s : St} {k : AV → Prop} : fldP off s (.elt cs) k = k (.elt (cs.drop off)) := rfl
def fldT (off id ver : Nat) (i : Int) (j q : Nat) (i' : Int) (o : Nat) (k : AV → Prop) : Obj → Prop
  | .tr _ ver' _ => ver' = ver ∧ k (.srow id ver i j q i' (o + off))
  | _ => False
@[congr] theorem fldT_cong {off id ver : Nat} {i : Int} {j q : Nat} {i' : Int} {o : Nat} {k : AV → Prop} {a a' : Obj} (h : a = a') : fldT off id ver i j q i' o k a = fldT off id ver i j q i' o k a' := by rw [h]
@[simp] theorem fldP_srow {off id ver : Nat} {i : Int} {j q : Nat} {i' : Int} {o : Nat} {s : St} {k : AV → Prop} : fldP off s (.srow id ver i j q i' o) k = fldT off id ver i j q i' o k (s.ob id) := by first | rfl | (simp only [fldP, fldT]; done) | (simp only [fldP, fldT]; rfl)
@[simp] theorem fldT_tr {off id ver k0 ver' : Nat} {i : Int} {j q : Nat} {i' : Int} {o : Nat} {rows : List (List C)} {k : AV → Prop} : fldT off id ver i j q i' o k (.tr k0 ver' rows) = (ver' = ver ∧ k (.srow id ver i j q i' (o + off))) := rfl
@[simp] theorem av_i {id ver : Nat} {i : Int} {j : Nat} {n : Int} : (C.i n).av id ver i j = .c (.i n) := rfl
@[simp] theorem av_b {id ver : Nat} {i : Int} {j : Nat} {n : Bool} : (C.b n).av id ver i j = .c (.b n) := rfl
@[simp] theorem av_u {id ver : Nat} {i : Int} {j : Nat} {n : Nat} : (C.u n).av id ver i j = .c (.u n) := rfl
@[simp] theorem av_q {id ver : Nat} {i : Int} {j : Nat} {n : Nat} : (C.q n).av id ver i j = .c (.q n) := rfl
@[simp] theorem av_s {id ver : Nat} {i : Int} {j : Nat} {n : ByteArray} : (C.s n).av id ver i j = .c (.s n) := rfl
@[simp] theorem av_sl {id ver : Nat} {i : Int} {j k : Nat} {r : List (List C)} : (C.sl k r).av id ver i j = .c (.sl k r) := rfl
@[simp] theorem av_ow {id ver : Nat} {i : Int} {j k : Nat} {r : List (List C)} : (C.ow k r).av id ver i j = .sub id ver i j k r.length := rfl
@[simp] theorem av_ot {id ver : Nat} {i : Int} {j k : Nat} {r : List (List C)} : (C.ot k r).av id ver i j = .sub id ver i j k r.length := rfl
@[simp] theorem av_jk {id ver : Nat} {i : Int} {j : Nat} : C.jk.av id ver i j = .any := rfl
@[simp] theorem av2_i {n : Int} : (C.i n).av2 = .c (.i n) := rfl
@[simp] theorem av2_b {n : Bool} : (C.b n).av2 = .c (.b n) := rfl
@[simp] theorem av2_u {n : Nat} : (C.u n).av2 = .c (.u n) := rfl
@[simp] theorem av2_q {n : Nat} : (C.q n).av2 = .c (.q n) := rfl
@[simp] theorem av2_s {n : ByteArray} : (C.s n).av2 = .c (.s n) := rfl
@[simp] theorem av2_sl {k : Nat} {r : List (List C)} : (C.sl k r).av2 = .c (.sl k r) := rfl
@[simp] theorem avs_nil {id ver : Nat} {i : Int} {j : Nat} : avs id ver i j [] = [] := rfl
@[simp] theorem avs_cons {id ver : Nat} {i : Int} {j : Nat} {c : C} {l : List C} : avs id ver i j (c :: l) = c.av id ver i j :: avs id ver i (j + 1) l := rfl
@[simp] theorem cellAt_eq {rows : List (List C)} {i j : Nat} : cellAt rows i j = (rows[i]?).bind (·[j]?) := by unfold cellAt; cases rows[i]? <;> rfl
@[simp] theorem ld1P_elt {s : St} {x : C} {cs : List C} {k : AV → Prop} : ld1P s (.elt (x :: cs)) k = k (.c x) := rfl
@[simp] theorem ldnP_elt {n : Nat} {s : St} {cs : List C} {k : AV → Prop} : ldnP n s (.elt cs) k = (n ≤ cs.length ∧ k (.agg ((cs.take n).map .c))) := rfl
def boxLd (k : AV → Prop) (o : Nat) : Obj → Prop
  | .box cells => match cells[o]? with
    | some v => k v
    | none => False
  | _ => False
@[congr] theorem boxLd_cong {o : Nat} {a a' : Obj} {k : AV → Prop} (h : a = a') : boxLd k o a = boxLd k o a' := by rw [h]
@[simp] theorem ld1P_box {s : St} {id o : Nat} {k : AV → Prop} : ld1P s (.box id o) k = boxLd k o (s.ob id) := rfl
def optK (k : AV → Prop) : Option AV → Prop | some v => k v | none => False
@[congr] theorem optK_cong {a a' : Option AV} {k : AV → Prop} (h : a = a') : optK k a = optK k a' := by rw [h]
@[simp] theorem optK_some {v : AV} {k : AV → Prop} : optK k (some v) = k v := rfl
@[simp] theorem boxLd_box {o : Nat} {cells : List AV} {k : AV → Prop} : boxLd k o (.box cells) = optK k cells[o]? := by first | rfl | (simp only [boxLd, optK]; done) | (simp only [boxLd, optK]; rfl)
def boxLdn (k : AV → Prop) (n o : Nat) : Obj → Prop
  | .box cells => o + n ≤ cells.length ∧ k (.agg ((cells.drop o).take n))
  | _ => False
@[congr] theorem boxLdn_cong {n o : Nat} {a a' : Obj} {k : AV → Prop} (h : a = a') : boxLdn k n o a = boxLdn k n o a' := by rw [h]
@[simp] theorem ldnP_box {s : St} {id o n : Nat} {k : AV → Prop} : ldnP n s (.box id o) k = boxLdn k n o (s.ob id) := rfl
@[simp] theorem boxLdn_box {n o : Nat} {cells : List AV} {k : AV → Prop} : boxLdn k n o (.box cells) = (o + n ≤ cells.length ∧ k (.agg ((cells.drop o).take n))) := rfl
def rowLd (k : AV → Prop) (m : Nat) (i : Int) (o id : Nat) : Obj → Prop
  | .row k' rows => k' = m ∧ i.toNat < rows.length ∧ o < m ∧ k (.c ((rows.getD i.toNat []).getD o default))
  | .tr k' ver rows => k' = m ∧ i.toNat < rows.length ∧ o < m ∧ k (((rows.getD i.toNat []).getD o default).av id ver i o)
  | _ => False
@[congr] theorem rowLd_cong {m o id : Nat} {i : Int} {a a' : Obj} {k : AV → Prop} (h : a = a') : rowLd k m i o id a = rowLd k m i o id a' := by rw [h]
@[simp] theorem ld1P_row {s : St} {id m o : Nat} {i : Int} {k : AV → Prop} : ld1P s (.row id m i o) k = rowLd k m i o id (s.ob id) := by first | rfl | (simp only [ld1P, rowLd]; done) | (simp only [ld1P, rowLd]; rfl)
@[simp] theorem rowLd_tr {m m' ver o id : Nat} {i : Int} {rows : List (List C)} {k : AV → Prop} : rowLd k m i o id (.tr m' ver rows) = (m' = m ∧ i.toNat < rows.length ∧ o < m ∧ k (((rows.getD i.toNat []).getD o default).av id ver i o)) := rfl
@[simp] theorem rowLd_row {m m' o id : Nat} {i : Int} {rows : List (List C)} {k : AV → Prop} : rowLd k m i o id (.row m' rows) = (m' = m ∧ i.toNat < rows.length ∧ o < m ∧ k (.c ((rows.getD i.toNat []).getD o default))) := rfl
def rowLdn (k : AV → Prop) (n m : Nat) (i : Int) (o id : Nat) : Obj → Prop
  | .row k' rows => k' = m ∧ i.toNat < rows.length ∧ o + n ≤ m ∧ k (.agg ((((rows.getD i.toNat []).drop o).take n).map .c))
  | .tr k' ver rows => k' = m ∧ i.toNat < rows.length ∧ o + n ≤ m ∧ k (.agg (avs id ver i o (((rows.getD i.toNat []).drop o).take n)))
  | _ => False
@[congr] theorem rowLdn_cong {n m o id : Nat} {i : Int} {a a' : Obj} {k : AV → Prop} (h : a = a') : rowLdn k n m i o id a = rowLdn k n m i o id a' := by rw [h]
@[simp] theorem ldnP_row {s : St} {id m o n : Nat} {i : Int} {k : AV → Prop} : ldnP n s (.row id m i o) k = rowLdn k n m i o id (s.ob id) := by first | rfl | (simp only [ldnP, rowLdn]; done) | (simp only [ldnP, rowLdn]; rfl)
@[simp] theorem rowLdn_tr {n m m' ver o id : Nat} {i : Int} {rows : List (List C)} {k : AV → Prop} : rowLdn k n m i o id (.tr m' ver rows) = (m' = m ∧ i.toNat < rows.length ∧ o + n ≤ m ∧ k (.agg (avs id ver i o (((rows.getD i.toNat []).drop o).take n)))) := rfl
def srLd (k : AV → Prop) (ver q : Nat) (i : Int) (j : Nat) (i' : Int) (o : Nat) : Obj → Prop
  | .tr _ ver' rows => ver' = ver ∧ match cellAt rows i.toNat j with
      | some (.ow k' rs) => k' = q ∧ i'.toNat < rs.length ∧ o < q ∧ k (.c ((rs.getD i'.toNat []).getD o default))
      | some (.ot k' rs) => k' = q ∧ i'.toNat < rs.length ∧ o < q ∧ k ((rs.getD i'.toNat []).getD o default).av2
      | _ => False
  | _ => False
@[congr] theorem srLd_cong {ver q : Nat} {i : Int} {j : Nat} {i' : Int} {o : Nat} {a a' : Obj} {k : AV → Prop} (h : a = a') : srLd k ver q i j i' o a = srLd k ver q i j i' o a' := by rw [h]
@[simp] theorem ld1P_srow {s : St} {id ver q : Nat} {i : Int} {j : Nat} {i' : Int} {o : Nat} {k : AV → Prop} : ld1P s (.srow id ver i j q i' o) k = srLd k ver q i j i' o (s.ob id) := by first | rfl | (simp only [ld1P, srLd]; done) | (simp only [ld1P, srLd]; rfl)
def srC (k : AV → Prop) (q : Nat) (i' : Int) (o : Nat) : Option C → Prop
  | some (.ow k' rs) => k' = q ∧ i'.toNat < rs.length ∧ o < q ∧ k (.c ((rs.getD i'.toNat []).getD o default))
  | some (.ot k' rs) => k' = q ∧ i'.toNat < rs.length ∧ o < q ∧ k ((rs.getD i'.toNat []).getD o default).av2
  | _ => False
@[congr] theorem srC_cong {q : Nat} {i' : Int} {o : Nat} {a a' : Option C} {k : AV → Prop} (h : a = a') : srC k q i' o a = srC k q i' o a' := by rw [h]
@[simp] theorem srLd_tr {k0 ver' ver q : Nat} {i : Int} {j : Nat} {i' : Int} {o : Nat} {rows : List (List C)} {k : AV → Prop} : srLd k ver q i j i' o (.tr k0 ver' rows) = (ver' = ver ∧ srC k q i' o (cellAt rows i.toNat j)) := by first | rfl | (simp only [srLd, srC]; done) | (simp only [srLd, srC]; rfl)
@[simp] theorem srC_ow {k' q : Nat} {i' : Int} {o : Nat} {rs : List (List C)} {k : AV → Prop} : srC k q i' o (some (.ow k' rs)) = (k' = q ∧ i'.toNat < rs.length ∧ o < q ∧ k (.c ((rs.getD i'.toNat []).getD o default))) := rfl
@[simp] theorem srC_ot {k' q : Nat} {i' : Int} {o : Nat} {rs : List (List C)} {k : AV → Prop} : srC k q i' o (some (.ot k' rs)) = (k' = q ∧ i'.toNat < rs.length ∧ o < q ∧ k ((rs.getD i'.toNat []).getD o default).av2) := rfl
def srLdn (k : AV → Prop) (n ver q : Nat) (i : Int) (j : Nat) (i' : Int) (o : Nat) : Obj → Prop
  | .tr _ ver' rows => ver' = ver ∧ match cellAt rows i.toNat j with
      | some (.ow k' rs) => k' = q ∧ i'.toNat < rs.length ∧ o + n ≤ q ∧ k (.agg ((((rs.getD i'.toNat []).drop o).take n).map .c))
      | some (.ot k' rs) => k' = q ∧ i'.toNat < rs.length ∧ o + n ≤ q ∧ k (.agg ((((rs.getD i'.toNat []).drop o).take n).map C.av2))
      | _ => False
  | _ => False
@[congr] theorem srLdn_cong {n ver q : Nat} {i : Int} {j : Nat} {i' : Int} {o : Nat} {a a' : Obj} {k : AV → Prop} (h : a = a') : srLdn k n ver q i j i' o a = srLdn k n ver q i j i' o a' := by rw [h]
@[simp] theorem ldnP_srow {s : St} {n id ver q : Nat} {i : Int} {j : Nat} {i' : Int} {o : Nat} {k : AV → Prop} : ldnP n s (.srow id ver i j q i' o) k = srLdn k n ver q i j i' o (s.ob id) := by first | rfl | (simp only [ldnP, srLdn]; done) | (simp only [ldnP, srLdn]; rfl)
def srCn (k : AV → Prop) (n q : Nat) (i' : Int) (o : Nat) : Option C → Prop
  | some (.ow k' rs) => k' = q ∧ i'.toNat < rs.length ∧ o + n ≤ q ∧ k (.agg ((((rs.getD i'.toNat []).drop o).take n).map .c))
  | some (.ot k' rs) => k' = q ∧ i'.toNat < rs.length ∧ o + n ≤ q ∧ k (.agg ((((rs.getD i'.toNat []).drop o).take n).map C.av2))
  | _ => False
@[congr] theorem srCn_cong {n q : Nat} {i' : Int} {o : Nat} {a a' : Option C} {k : AV → Prop} (h : a = a') : srCn k n q i' o a = srCn k n q i' o a' := by rw [h]
@[simp] theorem srLdn_tr {n k0 ver' ver q : Nat} {i : Int} {j : Nat} {i' : Int} {o : Nat} {rows : List (List C)} {k : AV → Prop} : srLdn k n ver q i j i' o (.tr k0 ver' rows) = (ver' = ver ∧ srCn k n q i' o (cellAt rows i.toNat j)) := by first | rfl | (simp only [srLdn, srCn]; done) | (simp only [srLdn, srCn]; rfl)
@[simp] theorem srCn_ow {n k' q : Nat} {i' : Int} {o : Nat} {rs : List (List C)} {k : AV → Prop} : srCn k n q i' o (some (.ow k' rs)) = (k' = q ∧ i'.toNat < rs.length ∧ o + n ≤ q ∧ k (.agg ((((rs.getD i'.toNat []).drop o).take n).map .c))) := rfl
@[simp] theorem srCn_ot {n k' q : Nat} {i' : Int} {o : Nat} {rs : List (List C)} {k : AV → Prop} : srCn k n q i' o (some (.ot k' rs)) = (k' = q ∧ i'.toNat < rs.length ∧ o + n ≤ q ∧ k (.agg ((((rs.getD i'.toNat []).drop o).take n).map C.av2))) := rfl
@[simp] theorem rowLdn_row {n m m' o id : Nat} {i : Int} {rows : List (List C)} {k : AV → Prop} : rowLdn k n m i o id (.row m' rows) = (m' = m ∧ i.toNat < rows.length ∧ o + n ≤ m ∧ k (.agg ((((rows.getD i.toNat []).drop o).take n).map .c))) := rfl
def boxSt (K : St → Prop) (s : St) (id o : Nat) (v : AV) : Obj → Prop
  | .box cells => o < cells.length ∧ v.cellOk = true ∧ K (s.setOb id (.box (cells.set o v)))
  | _ => False
@[congr] theorem boxSt_cong {s : St} {id o : Nat} {v : AV} {a a' : Obj} {K : St → Prop} (h : a = a') : boxSt K s id o v a = boxSt K s id o v a' := by rw [h]
@[simp] theorem st1P_box {s : St} {id o : Nat} {v : AV} {K : St → Prop} : st1P s (.box id o) v K = boxSt K s id o v (s.ob id) := rfl
@[simp] theorem boxSt_box {s : St} {id o : Nat} {v : AV} {cells : List AV} {K : St → Prop} : boxSt K s id o v (.box cells) = (o < cells.length ∧ v.cellOk = true ∧ K (s.setOb id (.box (cells.set o v)))) := rfl
def rowSt (K : St → Prop) (s : St) (id m : Nat) (i : Int) (o : Nat) (v : AV) : Obj → Prop
  | .row k' rows => match v.toC with
      | some c => k' = m ∧ i.toNat < rows.length ∧ o < m ∧ K (s.setOb id (.row m (rows.set i.toNat ((rows.getD i.toNat []).set o c))))
      | none => False
  | .tr k' ver rows => match pk1 s v with
      | some (c, ids) => k' = m ∧ i.toNat < rows.length ∧ o < m ∧ ids.Nodup ∧ id ∉ ids ∧ K ((s.drops ids).setOb id (.tr m (ver + 1) (setAt rows i.toNat o c)))
      | none => False
  | _ => False
@[congr] theorem rowSt_cong {s : St} {id m o : Nat} {i : Int} {v : AV} {a a' : Obj} {K : St → Prop} (h : a = a') : rowSt K s id m i o v a = rowSt K s id m i o v a' := by rw [h]
@[simp] theorem st1P_row {s : St} {id m o : Nat} {i : Int} {v : AV} {K : St → Prop} : st1P s (.row id m i o) v K = rowSt K s id m i o v (s.ob id) := by first | rfl | (simp only [st1P, rowSt]; done) | (simp only [st1P, rowSt]; rfl)
@[simp] theorem rowSt_row {s : St} {id m m' o : Nat} {i : Int} {c : C} {rows : List (List C)} {K : St → Prop} : rowSt K s id m i o (.c c) (.row m' rows) = (m' = m ∧ i.toNat < rows.length ∧ o < m ∧ K (s.setOb id (.row m (rows.set i.toNat ((rows.getD i.toNat []).set o c))))) := rfl
@[simp] theorem rowSt_rown {s : St} {id m m' o n : Nat} {i : Int} {rows : List (List C)} {K : St → Prop} : rowSt K s id m i o (.nil n) (.row m' rows) = (m' = m ∧ i.toNat < rows.length ∧ o < m ∧ K (s.setOb id (.row m (rows.set i.toNat ((rows.getD i.toNat []).set o (.sl n [])))))) := rfl
@[simp] theorem rowSt_rowc {s : St} {id m m' o n : Nat} {i : Int} {rows r : List (List C)} {K : St → Prop} : rowSt K s id m i o (.clip n r) (.row m' rows) = (m' = m ∧ i.toNat < rows.length ∧ o < m ∧ K (s.setOb id (.row m (rows.set i.toNat ((rows.getD i.toNat []).set o (.sl n r)))))) := rfl
def trSt (K : St → Prop) (s : St) (id m : Nat) (i : Int) (o m' ver : Nat) (rows : List (List C)) : Option (C × List Nat) → Prop
  | some (c, ids) => m' = m ∧ i.toNat < rows.length ∧ o < m ∧ ids.Nodup ∧ id ∉ ids ∧ K ((s.drops ids).setOb id (.tr m (ver + 1) (setAt rows i.toNat o c)))
  | none => False
@[congr] theorem trSt_cong {s : St} {id m m' ver o : Nat} {i : Int} {rows : List (List C)} {K : St → Prop} {a a' : Option (C × List Nat)} (h : a = a') : trSt K s id m i o m' ver rows a = trSt K s id m i o m' ver rows a' := by rw [h]
@[simp] theorem rowSt_tr {s : St} {id m m' ver o : Nat} {i : Int} {v : AV} {rows : List (List C)} {K : St → Prop} : rowSt K s id m i o v (.tr m' ver rows) = trSt K s id m i o m' ver rows (pk1 s v) := by first | rfl | (simp only [rowSt, trSt]; done) | (simp only [rowSt, trSt]; rfl)
@[simp] theorem trSt_some {s : St} {id m m' ver o : Nat} {i : Int} {rows : List (List C)} {c : C} {ids : List Nat} {K : St → Prop} : trSt K s id m i o m' ver rows (some (c, ids)) = (m' = m ∧ i.toNat < rows.length ∧ o < m ∧ ids.Nodup ∧ id ∉ ids ∧ K ((s.drops ids).setOb id (.tr m (ver + 1) (setAt rows i.toNat o c)))) := rfl
@[simp] theorem plain_i {n : Int} : (C.i n).plain = true := rfl
@[simp] theorem plain_b {n : Bool} : (C.b n).plain = true := rfl
@[simp] theorem plain_u {n : Nat} : (C.u n).plain = true := rfl
@[simp] theorem plain_q {n : Nat} : (C.q n).plain = true := rfl
@[simp] theorem plain_s {n : ByteArray} : (C.s n).plain = true := rfl
@[simp] theorem plain_sl {k : Nat} {r : List (List C)} : (C.sl k r).plain = true := rfl
@[simp] theorem pk1_c {s : St} {x : C} : pk1 s (.c x) = if x.plain then some (x, []) else none := rfl
@[simp] theorem pk1_clip {s : St} {k : Nat} {r : List (List C)} : pk1 s (.clip k r) = some (.sl k r, []) := rfl
@[simp] theorem pk1_nil {s : St} {k : Nat} : pk1 s (.nil k) = some (.sl k [], []) := rfl
def pkO (k id n : Nat) : Obj → Option (C × List Nat)
  | .row k' rows => if k' = k then some (.ow k (rows.take n), [id]) else none
  | .tr k' _ rows => if k' = k then some (.ot k (rows.take n), [id]) else none
  | _ => none
@[simp] theorem pk1_own {s : St} {id k n : Nat} : pk1 s (.own id k n) = pkO k id n (s.ob id) := by first | rfl | (simp only [pk1, pkO]; done) | (simp only [pk1, pkO]; rfl)
@[simp] theorem pkO_row {k id n k' : Nat} {rows : List (List C)} : pkO k id n (.row k' rows) = if k' = k then some (.ow k (rows.take n), [id]) else none := rfl
@[simp] theorem pkO_tr {k id n k' ver : Nat} {rows : List (List C)} : pkO k id n (.tr k' ver rows) = if k' = k then some (.ot k (rows.take n), [id]) else none := rfl
@[simp] theorem pkl_nil {s : St} : pkl s [] = some ([], []) := rfl
@[simp] theorem pkl_cons {s : St} {x : AV} {l : List AV} : pkl s (x :: l) = (pk1 s x).bind fun p => (pkl s l).map fun q => (p.1 :: q.1, p.2 ++ q.2) := by
  simp only [pkl]; cases pk1 s x <;> cases pkl s l <;> rfl
@[simp] theorem pkl_map {s : St} {l : List C} (h : l.all C.plain = true) : pkl s (l.map .c) = some (l, []) := by
  induction l with
  | nil => rfl
  | cons x l ih =>
    simp only [List.all_cons, Bool.and_eq_true] at h
    simp [ih h.2, h.1]
@[simp] theorem pks_nil {s : St} : pks s [] = some ([], []) := rfl
@[simp] theorem pks_cons {s : St} {x : AV} {l : List AV} : pks s (x :: l) = (pkl s x.cellsOf).bind fun p => (pks s l).map fun q => (p.1 :: q.1, p.2 ++ q.2) := by
  simp only [pks]; cases pkl s x.cellsOf <;> cases pks s l <;> rfl
def srSt (K : St → Prop) (s : St) (id ver q : Nat) (i : Int) (j : Nat) (i' : Int) (o : Nat) (v : AV) : Obj → Prop
  | .tr k0 ver' rows => ver' = ver ∧ match cellAt rows i.toNat j with
      | some (.ow k' rs) => match v.toC with
        | some c => k' = q ∧ i'.toNat < rs.length ∧ o < q ∧ K (s.setOb id (.tr k0 (ver + 1) (setAt rows i.toNat j (.ow q (setAt rs i'.toNat o c)))))
        | none => False
      | _ => False
  | _ => False
@[congr] theorem srSt_cong {s : St} {id ver q : Nat} {i : Int} {j : Nat} {i' : Int} {o : Nat} {v : AV} {a a' : Obj} {K : St → Prop} (h : a = a') : srSt K s id ver q i j i' o v a = srSt K s id ver q i j i' o v a' := by rw [h]
@[simp] theorem st1P_srow {s : St} {id ver q : Nat} {i : Int} {j : Nat} {i' : Int} {o : Nat} {v : AV} {K : St → Prop} : st1P s (.srow id ver i j q i' o) v K = srSt K s id ver q i j i' o v (s.ob id) := by first | rfl | (simp only [st1P, srSt]; done) | (simp only [st1P, srSt]; rfl)
def srStC (K : St → Prop) (s : St) (id ver q k0 : Nat) (rows : List (List C)) (i : Int) (j : Nat) (i' : Int) (o : Nat) (c : C) : Option C → Prop
  | some (.ow k' rs) => k' = q ∧ i'.toNat < rs.length ∧ o < q ∧ K (s.setOb id (.tr k0 (ver + 1) (setAt rows i.toNat j (.ow q (setAt rs i'.toNat o c)))))
  | _ => False
@[congr] theorem srStC_cong {s : St} {id ver q k0 : Nat} {rows : List (List C)} {i : Int} {j : Nat} {i' : Int} {o : Nat} {c : C} {K : St → Prop} {a a' : Option C} (h : a = a') : srStC K s id ver q k0 rows i j i' o c a = srStC K s id ver q k0 rows i j i' o c a' := by rw [h]
@[simp] theorem srSt_tr {s : St} {id ver q k0 ver' : Nat} {i : Int} {j : Nat} {i' : Int} {o : Nat} {c : C} {rows : List (List C)} {K : St → Prop} : srSt K s id ver q i j i' o (.c c) (.tr k0 ver' rows) = (ver' = ver ∧ srStC K s id ver q k0 rows i j i' o c (cellAt rows i.toNat j)) := by first | rfl | (simp only [srSt, srStC, AV.toC]; done) | (simp only [srSt, srStC, AV.toC]; rfl)
@[simp] theorem srStC_ow {s : St} {id ver q k0 k' : Nat} {rows rs : List (List C)} {i : Int} {j : Nat} {i' : Int} {o : Nat} {c : C} {K : St → Prop} : srStC K s id ver q k0 rows i j i' o c (some (.ow k' rs)) = (k' = q ∧ i'.toNat < rs.length ∧ o < q ∧ K (s.setOb id (.tr k0 (ver + 1) (setAt rows i.toNat j (.ow q (setAt rs i'.toNat o c)))))) := rfl
def boxStn (K : St → Prop) (s : St) (id o n : Nat) (l : List AV) : Obj → Prop
  | .box cells => o + n ≤ cells.length ∧ l.all AV.cellOk = true ∧ K (s.setOb id (.box (cells.take o ++ l ++ cells.drop (o + n))))
  | _ => False
@[congr] theorem boxStn_cong {s : St} {id o n : Nat} {l : List AV} {a a' : Obj} {K : St → Prop} (h : a = a') : boxStn K s id o n l a = boxStn K s id o n l a' := by rw [h]
@[simp] theorem stnP_box {s : St} {id o n : Nat} {l : List AV} {K : St → Prop} : stnP n s (.box id o) (.agg l) K = (l.length = n ∧ boxStn K s id o n l (s.ob id)) := rfl
@[simp] theorem boxStn_box {s : St} {id o n : Nat} {l cells : List AV} {K : St → Prop} : boxStn K s id o n l (.box cells) = (o + n ≤ cells.length ∧ l.all AV.cellOk = true ∧ K (s.setOb id (.box (cells.take o ++ l ++ cells.drop (o + n))))) := rfl
def rowStn (K : St → Prop) (s : St) (id m : Nat) (i : Int) (o n : Nat) (l : List AV) : Obj → Prop
  | .row k' rows => match AV.toCs l with
    | some cs => k' = m ∧ i.toNat < rows.length ∧ o + n ≤ m ∧ K (s.setOb id (.row m (rows.set i.toNat ((rows.getD i.toNat []).take o ++ cs ++ (rows.getD i.toNat []).drop (o + n)))))
    | none => False
  | .tr k' ver rows => match pkl s l with
    | some (cs, ids) => k' = m ∧ i.toNat < rows.length ∧ o + n ≤ m ∧ ids.Nodup ∧ id ∉ ids ∧ K ((s.drops ids).setOb id (.tr m (ver + 1) (rows.set i.toNat ((rows.getD i.toNat []).take o ++ cs ++ (rows.getD i.toNat []).drop (o + n)))))
    | none => False
  | _ => False
@[congr] theorem rowStn_cong {s : St} {id m o n : Nat} {i : Int} {l : List AV} {a a' : Obj} {K : St → Prop} (h : a = a') : rowStn K s id m i o n l a = rowStn K s id m i o n l a' := by rw [h]
@[simp] theorem stnP_row {s : St} {id m o n : Nat} {i : Int} {l : List AV} {K : St → Prop} : stnP n s (.row id m i o) (.agg l) K = (l.length = n ∧ rowStn K s id m i o n l (s.ob id)) := by first | rfl | (simp only [stnP, rowStn]; done) | (simp only [stnP, rowStn]; rfl)
def rowStC (K : St → Prop) (s : St) (id m : Nat) (i : Int) (o n m' : Nat) (rows : List (List C)) : Option (List C) → Prop
  | some cs => m' = m ∧ i.toNat < rows.length ∧ o + n ≤ m ∧ K (s.setOb id (.row m (rows.set i.toNat ((rows.getD i.toNat []).take o ++ cs ++ (rows.getD i.toNat []).drop (o + n)))))
  | none => False
@[congr] theorem rowStC_cong {s : St} {id m m' o n : Nat} {i : Int} {rows : List (List C)} {K : St → Prop} {a a' : Option (List C)} (h : a = a') : rowStC K s id m i o n m' rows a = rowStC K s id m i o n m' rows a' := by rw [h]
@[simp] theorem rowStn_row {s : St} {id m m' o n : Nat} {i : Int} {l : List AV} {rows : List (List C)} {K : St → Prop} : rowStn K s id m i o n l (.row m' rows) = rowStC K s id m i o n m' rows (AV.toCs l) := by first | rfl | (simp only [rowStn, rowStC]; done) | (simp only [rowStn, rowStC]; rfl)
@[simp] theorem rowStC_some {s : St} {id m m' o n : Nat} {i : Int} {cs : List C} {rows : List (List C)} {K : St → Prop} : rowStC K s id m i o n m' rows (some cs) =
    (m' = m ∧ i.toNat < rows.length ∧ o + n ≤ m ∧ K (s.setOb id (.row m (rows.set i.toNat ((rows.getD i.toNat []).take o ++ cs ++ (rows.getD i.toNat []).drop (o + n)))))) := rfl
def trStn (K : St → Prop) (s : St) (id m : Nat) (i : Int) (o n m' ver : Nat) (rows : List (List C)) : Option (List C × List Nat) → Prop
  | some (cs, ids) => m' = m ∧ i.toNat < rows.length ∧ o + n ≤ m ∧ ids.Nodup ∧ id ∉ ids ∧ K ((s.drops ids).setOb id (.tr m (ver + 1) (rows.set i.toNat ((rows.getD i.toNat []).take o ++ cs ++ (rows.getD i.toNat []).drop (o + n)))))
  | none => False
@[congr] theorem trStn_cong {s : St} {id m m' ver o n : Nat} {i : Int} {rows : List (List C)} {K : St → Prop} {a a' : Option (List C × List Nat)} (h : a = a') : trStn K s id m i o n m' ver rows a = trStn K s id m i o n m' ver rows a' := by rw [h]
@[simp] theorem rowStn_tr {s : St} {id m m' ver o n : Nat} {i : Int} {l : List AV} {rows : List (List C)} {K : St → Prop} : rowStn K s id m i o n l (.tr m' ver rows) = trStn K s id m i o n m' ver rows (pkl s l) := by first | rfl | (simp only [rowStn, trStn]; done) | (simp only [rowStn, trStn]; rfl)
@[simp] theorem trStn_some {s : St} {id m m' ver o n : Nat} {i : Int} {cs : List C} {ids : List Nat} {rows : List (List C)} {K : St → Prop} : trStn K s id m i o n m' ver rows (some (cs, ids)) =
    (m' = m ∧ i.toNat < rows.length ∧ o + n ≤ m ∧ ids.Nodup ∧ id ∉ ids ∧ K ((s.drops ids).setOb id (.tr m (ver + 1) (rows.set i.toNat ((rows.getD i.toNat []).take o ++ cs ++ (rows.getD i.toNat []).drop (o + n)))))) := rfl

@[simp] theorem toCs_nil : AV.toCs [] = some [] := rfl
@[simp] theorem toCs_c {x : C} {l : List AV} : AV.toCs (.c x :: l) = (AV.toCs l).map (x :: ·) := by simp only [AV.toCs, AV.toC]; cases AV.toCs l <;> rfl
@[simp] theorem toCs_n {n : Nat} {l : List AV} : AV.toCs (.nil n :: l) = (AV.toCs l).map (.sl n [] :: ·) := by simp only [AV.toCs, AV.toC]; cases AV.toCs l <;> rfl
@[simp] theorem toCs_cl {n : Nat} {r : List (List C)} {l : List AV} : AV.toCs (.clip n r :: l) = (AV.toCs l).map (.sl n r :: ·) := by simp only [AV.toCs, AV.toC]; cases AV.toCs l <;> rfl
@[simp] theorem toCs_own {a b c : Nat} {l : List AV} : AV.toCs (.own a b c :: l) = none := by first | rfl | (simp only [AV.toCs, AV.toC]; done) | (simp only [AV.toCs, AV.toC]; rfl)
@[simp] theorem toCs_map {l : List C} : AV.toCs (l.map .c) = some l := by
  induction l with
  | nil => rfl
  | cons x l ih => simp [ih]
@[simp] theorem all_cellOk_map {l : List C} : (l.map AV.c).all AV.cellOk = true := by simp [List.all_eq_true]; intro x _; rfl
@[simp] theorem cellOk_c {x : C} : (AV.c x).cellOk = true := rfl
@[simp] theorem cellOk_nil {n : Nat} : (AV.nil n).cellOk = true := rfl
@[simp] theorem cellOk_clip {n : Nat} {r : List (List C)} : (AV.clip n r).cellOk = true := rfl
@[simp] theorem cellOk_box {a b : Nat} : (AV.box a b).cellOk = true := rfl
@[simp] theorem cellOk_row {a b o : Nat} {i : Int} : (AV.row a b i o).cellOk = true := rfl
@[simp] theorem cellOk_elt {cs : List C} : (AV.elt cs).cellOk = true := rfl
@[simp] theorem cellOk_own {a b c : Nat} : (AV.own a b c).cellOk = true := rfl
@[simp] theorem cellsOf_agg {l : List AV} : (AV.agg l).cellsOf = l := rfl
@[simp] theorem cellsOf_c {x : C} : (AV.c x).cellsOf = [.c x] := rfl
@[simp] theorem cellsOf_nil {n : Nat} : (AV.nil n).cellsOf = [.nil n] := rfl
@[simp] theorem cellsOf_clip {n : Nat} {r : List (List C)} : (AV.clip n r).cellsOf = [.clip n r] := rfl
@[simp] theorem cellsOf_box {a b : Nat} : (AV.box a b).cellsOf = [.box a b] := rfl
@[simp] theorem cellsOf_own {a b c : Nat} : (AV.own a b c).cellsOf = [.own a b c] := rfl
@[simp ↓] theorem boxP_eq {n : Nat} {s : St} {d : Option Nat} {x : AV} {K : St → Prop} : boxP n s d x K = (x.cellsOf.length = n ∧ x.cellsOf.all AV.cellOk = true ∧ newP s d (.box x.cellsOf) (fun d => .box d 0) K) := rfl
@[simp] theorem mksP_eq {k b : Nat} {z : List C} {s : St} {d : Option Nat} {n m : Int} {K : St → Prop} : mksP k b z s d (.c (.i n)) (.c (.i m)) K =
    (0 ≤ n ∧ n ≤ m ∧ (b : Int) * m ≤ 281474976710656 ∧ newP s d (.row k (List.replicate n.toNat z)) (fun d => .own d k n.toNat) K) := rfl
def bslO (k : Nat) (s : St) (d : Option Nat) (K : St → Prop) (xs : List AV) : Option (List (List C)) → Prop
  | some rows => (∀ r ∈ rows, r.length = k) ∧ newP s d (.row k rows) (fun d => .own d k rows.length) K
  | none => match pks s xs with
    | some (rows, ids) => (∀ r ∈ rows, r.length = k) ∧ ids.Nodup ∧ newP (s.drops ids) d (.tr k 0 rows) (fun d => .own d k rows.length) K
    | none => False
@[congr] theorem bslO_cong {k : Nat} {s : St} {d : Option Nat} {K : St → Prop} {xs : List AV} {a a' : Option (List (List C))} (h : a = a') : bslO k s d K xs a = bslO k s d K xs a' := by rw [h]
@[simp] theorem bslP_eq {k : Nat} {xs : List AV} {s : St} {d : Option Nat} {K : St → Prop} : bslP k xs s d K = bslO k s d K xs (AV.rowsOf xs) := by unfold bslP bslO; cases AV.rowsOf xs <;> rfl
@[simp] theorem bslO_some {k : Nat} {s : St} {d : Option Nat} {K : St → Prop} {xs : List AV} {rows : List (List C)} : bslO k s d K xs (some rows) = ((∀ r ∈ rows, r.length = k) ∧ newP s d (.row k rows) (fun d => .own d k rows.length) K) := rfl
def bslT (k : Nat) (s : St) (d : Option Nat) (K : St → Prop) : Option (List (List C) × List Nat) → Prop
  | some (rows, ids) => (∀ r ∈ rows, r.length = k) ∧ ids.Nodup ∧ newP (s.drops ids) d (.tr k 0 rows) (fun d => .own d k rows.length) K
  | none => False
@[congr] theorem bslT_cong {k : Nat} {s : St} {d : Option Nat} {K : St → Prop} {a a' : Option (List (List C) × List Nat)} (h : a = a') : bslT k s d K a = bslT k s d K a' := by rw [h]
@[simp] theorem bslO_none {k : Nat} {s : St} {d : Option Nat} {K : St → Prop} {xs : List AV} : bslO k s d K xs none = bslT k s d K (pks s xs) := by first | rfl | (simp only [bslO, bslT]; done) | (simp only [bslO, bslT]; rfl)
@[simp] theorem bslT_some {k : Nat} {s : St} {d : Option Nat} {K : St → Prop} {rows : List (List C)} {ids : List Nat} : bslT k s d K (some (rows, ids)) = ((∀ r ∈ rows, r.length = k) ∧ ids.Nodup ∧ newP (s.drops ids) d (.tr k 0 rows) (fun d => .own d k rows.length) K) := rfl
@[simp] theorem rowsOf_nil : AV.rowsOf [] = some [] := rfl
@[simp] theorem rowsOf_cons {x : AV} {l : List AV} : AV.rowsOf (x :: l) = (x.rowOf).bind fun r => (AV.rowsOf l).map (r :: ·) := by
  simp only [AV.rowsOf]; cases x.rowOf <;> cases AV.rowsOf l <;> rfl
@[simp] theorem rowOf_c {x : C} : (AV.c x).rowOf = some [x] := rfl
@[simp] theorem rowOf_nil {n : Nat} : (AV.nil n).rowOf = some [.sl n []] := rfl
@[simp] theorem rowOf_own {a b c : Nat} : (AV.own a b c).rowOf = none := rfl
@[simp] theorem rowOf_agg {l : List AV} : (AV.agg l).rowOf = AV.toCs l := rfl
@[simp] theorem slcP_1 {k k' : Nat} {rows : List (List C)} {l h : Int} {K : AV → Prop} : slcP k (.c (.sl k' rows)) (some (.c (.i l))) (some (.c (.i h))) none K = (k' = k ∧ 0 ≤ l ∧ l ≤ h ∧ h ≤ rows.length ∧ K (.c (.sl k ((rows.take h.toNat).drop l.toNat)))) := rfl
@[simp] theorem slcP_2 {k k' : Nat} {rows : List (List C)} {l : Int} {K : AV → Prop} : slcP k (.c (.sl k' rows)) (some (.c (.i l))) none none K = (k' = k ∧ 0 ≤ l ∧ l ≤ rows.length ∧ K (.c (.sl k (rows.drop l.toNat)))) := rfl
@[simp] theorem slcP_3 {k k' : Nat} {rows : List (List C)} {h : Int} {K : AV → Prop} : slcP k (.c (.sl k' rows)) none (some (.c (.i h))) none K = (k' = k ∧ 0 ≤ h ∧ h ≤ rows.length ∧ K (.c (.sl k (rows.take h.toNat)))) := rfl
@[simp] theorem slcP_4 {k k' : Nat} {rows : List (List C)} {h m : Int} {K : AV → Prop} : slcP k (.c (.sl k' rows)) none (some (.c (.i h))) (some (.c (.i m))) K = (k' = k ∧ 0 ≤ h ∧ h = m ∧ h ≤ rows.length ∧ K (.clip k (rows.take h.toNat))) := rfl
@[simp] theorem slcP_5 {k k' id n : Nat} {h : Int} {K : AV → Prop} : slcP k (.own id k' n) none (some (.c (.i h))) none K = (k' = k ∧ 0 ≤ h ∧ h ≤ (n : Int) ∧ K (.own id k h.toNat)) := rfl
@[simp] theorem slcP_6 {k k' id n : Nat} {l : Int} {K : AV → Prop} : slcP k (.own id k' n) (some (.c (.i l))) none none K = (k' = k ∧ 0 ≤ l ∧ l ≤ (n : Int) ∧ K (.cut id k l.toNat (n - l.toNat))) := rfl
@[simp] theorem slcP_7 {k k' id n : Nat} {l h : Int} {K : AV → Prop} : slcP k (.own id k' n) (some (.c (.i l))) (some (.c (.i h))) none K = (k' = k ∧ 0 ≤ l ∧ l ≤ h ∧ h ≤ (n : Int) ∧ K (.cut id k l.toNat (h.toNat - l.toNat))) := rfl
@[simp] theorem slcP_8 {k n : Nat} {h : Int} {K : AV → Prop} : slcP k (.nil n) none (some (.c (.i h))) none K = (h = 0 ∧ K (.nil k)) := rfl
@[simp] theorem slcP_9 {k n : Nat} {h m : Int} {K : AV → Prop} : slcP k (.nil n) none (some (.c (.i h))) (some (.c (.i m))) K = (h = 0 ∧ m = 0 ∧ K (.nil k)) := rfl
@[simp] theorem lenP_cut {s : St} {id k lo n : Nat} {K : AV → Prop} : lenP s (.cut id k lo n) K = (n ≤ maxLen → K (.c (.i n))) := rfl
def lenT (ver n : Nat) (K : AV → Prop) : Obj → Prop
  | .tr _ ver' _ => ver' = ver ∧ (n ≤ maxLen → K (.c (.i n)))
  | _ => False
@[congr] theorem lenT_cong {ver n : Nat} {K : AV → Prop} {a a' : Obj} (h : a = a') : lenT ver n K a = lenT ver n K a' := by rw [h]
@[simp] theorem lenP_sub {s : St} {id ver : Nat} {i : Int} {j k n : Nat} {K : AV → Prop} : lenP s (.sub id ver i j k n) K = lenT ver n K (s.ob id) := by first | rfl | (simp only [lenP, lenT]; done) | (simp only [lenP, lenT]; rfl)
@[simp] theorem lenT_tr {ver n k0 ver' : Nat} {rows : List (List C)} {K : AV → Prop} : lenT ver n K (.tr k0 ver' rows) = (ver' = ver ∧ (n ≤ maxLen → K (.c (.i n)))) := rfl
@[simp] theorem lenP_sl {k : Nat} {rows : List (List C)} {s : St} {K : AV → Prop} : lenP s (.c (.sl k rows)) K = (rows.length ≤ maxLen → K (.c (.i rows.length))) := rfl
@[simp] theorem lenP_clip {k : Nat} {rows : List (List C)} {s : St} {K : AV → Prop} : lenP s (.clip k rows) K = (rows.length ≤ maxLen → K (.c (.i rows.length))) := rfl
@[simp] theorem lenP_own {id k n : Nat} {s : St} {K : AV → Prop} : lenP s (.own id k n) K = (n ≤ maxLen → K (.c (.i n))) := rfl
@[simp] theorem lenP_nil {s : St} {n : Nat} {K : AV → Prop} : lenP s (.nil n) K = K (.c (.i 0)) := rfl
@[simp] theorem slenP_s {bs : ByteArray} {K : AV → Prop} : slenP (.c (.s bs)) K = (bs.size ≤ maxLen → K (.c (.i bs.size))) := rfl
def mmK (f : Int → Int → Int) (K : AV → Prop) : Option (List Int) → Prop
  | some (n :: r) => K (.c (.i (r.foldl f n)))
  | _ => False
@[congr] theorem mmK_cong {f : Int → Int → Int} {K : AV → Prop} {a a' : Option (List Int)} (h : a = a') : mmK f K a = mmK f K a' := by rw [h]
@[simp] theorem mmP_eq {f : Int → Int → Int} {l : List AV} {K : AV → Prop} : mmP f l K = mmK f K (intsOf l) := rfl
@[simp] theorem mmK_some {f : Int → Int → Int} {n : Int} {r : List Int} {K : AV → Prop} : mmK f K (some (n :: r)) = K (.c (.i (r.foldl f n))) := rfl
@[simp] theorem intsOf_nil : intsOf [] = some [] := rfl
@[simp] theorem intsOf_cons {n : Int} {l : List AV} : intsOf (.c (.i n) :: l) = (intsOf l).map (n :: ·) := rfl
@[simp] theorem extP_tup {i : Nat} {l : List AV} {K : AV → Prop} : extP i (.tup l) K = optK K l[i]? := by unfold extP optK; simp only; cases l[i]? <;> rfl
@[simp] theorem ixsP_eq {bs : ByteArray} {n : Int} {K : AV → Prop} : ixsP (.c (.s bs)) (.c (.i n)) K = (0 ≤ n ∧ n < bs.size ∧ K (.c (.u (bs[n.toNat]?.getD 0).toNat))) := rfl
def appF (k by_ : Nat) (s : St) (d : Option Nat) (x : AV) (K : St → Prop) (new : List (List C)) : Prop :=
  match x with
    | .nil _ => new.length * by_ ≤ 140737488355328 ∧ newP s d (.row k new) (fun d => .own d k new.length) K
    | .clip k' rows => k' = k ∧ (0 < new.length ∨ rows.length = 0) ∧ (rows.length + new.length) * by_ ≤ 140737488355328 ∧ newP s d (.row k (rows ++ new)) (fun d => .own d k (rows.length + new.length)) K
    | .own id k' n => match s.ob id with
      | .row _ rows => k' = k ∧ n = rows.length ∧ (rows.length + new.length) * by_ ≤ 140737488355328 ∧
          K ((s.renew id (.row k (rows ++ new))).put d (.own id k (rows.length + new.length)))
      | .tr _ _ rows => k' = k ∧ n = rows.length ∧ (rows.length + new.length) * by_ ≤ 140737488355328 ∧
          K ((s.renew id (.tr k 0 (rows ++ new))).put d (.own id k (rows.length + new.length)))
      | _ => False
    | .sub id ver i j k' n => match s.ob id with
      | .tr k0 ver' rows => ver' = ver ∧ match cellAt rows i.toNat j with
        | some (.ow k2 rs) => k' = k ∧ k2 = k ∧ (rs.length + new.length) * by_ ≤ 140737488355328 ∧ match d with
          | some d => (s.ob d).isNone = true ∧ K (((s.setOb id (.tr k0 (ver + 1) (setAt rows i.toNat j .jk))).renew d (.row k (rs ++ new))).put (some d) (.own d k (rs.length + new.length)))
          | none => False
        | some (.ot k2 rs) => k' = k ∧ k2 = k ∧ (rs.length + new.length) * by_ ≤ 140737488355328 ∧ match d with
          | some d => (s.ob d).isNone = true ∧ K (((s.setOb id (.tr k0 (ver + 1) (setAt rows i.toNat j .jk))).renew d (.tr k 0 (rs ++ new))).put (some d) (.own d k (rs.length + new.length)))
          | none => False
        | _ => False
      | _ => False
    | _ => False
def appG (k by_ : Nat) (s : St) (d : Option Nat) (x : AV) (K : St → Prop) (y : AV) : Option (List (List C)) → Prop
  | some new => appF k by_ s d x K new
  | none => match srcTr s k y with
    | some (idy, new) => match x with
      | .nil _ => new.length * by_ ≤ 140737488355328 ∧ newP (s.drop idy) d (.tr k 0 new) (fun d => .own d k new.length) K
      | .own id k' n => id ≠ idy ∧ match s.ob id with
        | .row _ rows => k' = k ∧ n = rows.length ∧ (rows.length + new.length) * by_ ≤ 140737488355328 ∧
            K (((s.drop idy).renew id (.tr k 0 (rows ++ new))).put d (.own id k (rows.length + new.length)))
        | .tr _ _ rows => k' = k ∧ n = rows.length ∧ (rows.length + new.length) * by_ ≤ 140737488355328 ∧
            K (((s.drop idy).renew id (.tr k 0 (rows ++ new))).put d (.own id k (rows.length + new.length)))
        | _ => False
      | _ => False
    | none => False
@[congr] theorem appG_cong {k b : Nat} {s : St} {d : Option Nat} {x y : AV} {K : St → Prop} {a a' : Option (List (List C))} (h : a = a') : appG k b s d x K y a = appG k b s d x K y a' := by rw [h]
@[simp] theorem appP_eqG {k b : Nat} {s : St} {d : Option Nat} {x y : AV} {K : St → Prop} : appP k b s d x y K = appG k b s d x K y (srcRows s k y) := by
  unfold appP appG appF
  cases srcRows s k y with
  | none => rfl
  | some new => cases x <;> rfl
@[congr] theorem appF_cong {k b : Nat} {s : St} {d : Option Nat} {x x' : AV} {K : St → Prop} {new : List (List C)} (h : x = x') : appF k b s d x K new = appF k b s d x' K new := by rw [h]
@[simp] theorem appG_some {k b : Nat} {s : St} {d : Option Nat} {x y : AV} {K : St → Prop} {new : List (List C)} : appG k b s d x K y (some new) = appF k b s d x K new := rfl
@[simp] theorem appF_nil {k b q : Nat} {s : St} {d : Option Nat} {K : St → Prop} {new : List (List C)} : appF k b s d (.nil q) K new = (new.length * b ≤ 140737488355328 ∧ newP s d (.row k new) (fun d => .own d k new.length) K) := rfl
@[simp] theorem appF_clip {k k' b : Nat} {s : St} {d : Option Nat} {K : St → Prop} {rows new : List (List C)} : appF k b s d (.clip k' rows) K new =
    (k' = k ∧ (0 < new.length ∨ rows.length = 0) ∧ (rows.length + new.length) * b ≤ 140737488355328 ∧ newP s d (.row k (rows ++ new)) (fun d => .own d k (rows.length + new.length)) K) := rfl
def appO (k b : Nat) (s : St) (d : Option Nat) (id k' n : Nat) (new : List (List C)) (K : St → Prop) : Obj → Prop
  | .row _ rows => k' = k ∧ n = rows.length ∧ (rows.length + new.length) * b ≤ 140737488355328 ∧ K ((s.renew id (.row k (rows ++ new))).put d (.own id k (rows.length + new.length)))
  | .tr _ _ rows => k' = k ∧ n = rows.length ∧ (rows.length + new.length) * b ≤ 140737488355328 ∧ K ((s.renew id (.tr k 0 (rows ++ new))).put d (.own id k (rows.length + new.length)))
  | _ => False
@[congr] theorem appO_cong {k b : Nat} {s : St} {d : Option Nat} {id k' n : Nat} {new : List (List C)} {K : St → Prop} {a a' : Obj} (h : a = a') : appO k b s d id k' n new K a = appO k b s d id k' n new K a' := by rw [h]
@[simp] theorem appF_own {k k' b id n : Nat} {s : St} {d : Option Nat} {K : St → Prop} {new : List (List C)} : appF k b s d (.own id k' n) K new = appO k b s d id k' n new K (s.ob id) := by first | rfl | (simp only [appF, appO]; done) | (simp only [appF, appO]; rfl)
@[simp] theorem appO_row {k k' b id n q : Nat} {s : St} {d : Option Nat} {K : St → Prop} {rows new : List (List C)} : appO k b s d id k' n new K (.row q rows) =
    (k' = k ∧ n = rows.length ∧ (rows.length + new.length) * b ≤ 140737488355328 ∧ K ((s.renew id (.row k (rows ++ new))).put d (.own id k (rows.length + new.length)))) := rfl
@[simp] theorem appO_tr {k k' b id n q ver : Nat} {s : St} {d : Option Nat} {K : St → Prop} {rows new : List (List C)} : appO k b s d id k' n new K (.tr q ver rows) =
    (k' = k ∧ n = rows.length ∧ (rows.length + new.length) * b ≤ 140737488355328 ∧ K ((s.renew id (.tr k 0 (rows ++ new))).put d (.own id k (rows.length + new.length)))) := rfl
def appS (k b : Nat) (s : St) (d id ver : Nat) (i : Int) (j k' : Nat) (new : List (List C)) (K : St → Prop) : Obj → Prop
  | .tr k0 ver' rows => ver' = ver ∧ match cellAt rows i.toNat j with
      | some (.ow k2 rs) => k' = k ∧ k2 = k ∧ (rs.length + new.length) * b ≤ 140737488355328 ∧ (s.ob d).isNone = true ∧ K (((s.setOb id (.tr k0 (ver + 1) (setAt rows i.toNat j .jk))).renew d (.row k (rs ++ new))).put (some d) (.own d k (rs.length + new.length)))
      | some (.ot k2 rs) => k' = k ∧ k2 = k ∧ (rs.length + new.length) * b ≤ 140737488355328 ∧ (s.ob d).isNone = true ∧ K (((s.setOb id (.tr k0 (ver + 1) (setAt rows i.toNat j .jk))).renew d (.tr k 0 (rs ++ new))).put (some d) (.own d k (rs.length + new.length)))
      | _ => False
  | _ => False
@[congr] theorem appS_cong {k b : Nat} {s : St} {d id ver : Nat} {i : Int} {j k' : Nat} {new : List (List C)} {K : St → Prop} {a a' : Obj} (h : a = a') : appS k b s d id ver i j k' new K a = appS k b s d id ver i j k' new K a' := by rw [h]
@[simp] theorem appF_sub {k k' b id ver n : Nat} {i : Int} {j : Nat} {s : St} {d : Nat} {K : St → Prop} {new : List (List C)} : appF k b s (some d) (.sub id ver i j k' n) K new = appS k b s d id ver i j k' new K (s.ob id) := by first | rfl | (simp only [appF, appS]; done) | (simp only [appF, appS]; rfl)
def appSC (k b : Nat) (s : St) (d id ver k0 : Nat) (rows : List (List C)) (i : Int) (j k' : Nat) (new : List (List C)) (K : St → Prop) : Option C → Prop
  | some (.ow k2 rs) => k' = k ∧ k2 = k ∧ (rs.length + new.length) * b ≤ 140737488355328 ∧ (s.ob d).isNone = true ∧ K (((s.setOb id (.tr k0 (ver + 1) (setAt rows i.toNat j .jk))).renew d (.row k (rs ++ new))).put (some d) (.own d k (rs.length + new.length)))
  | some (.ot k2 rs) => k' = k ∧ k2 = k ∧ (rs.length + new.length) * b ≤ 140737488355328 ∧ (s.ob d).isNone = true ∧ K (((s.setOb id (.tr k0 (ver + 1) (setAt rows i.toNat j .jk))).renew d (.tr k 0 (rs ++ new))).put (some d) (.own d k (rs.length + new.length)))
  | _ => False
@[congr] theorem appSC_cong {k b : Nat} {s : St} {d id ver k0 : Nat} {rows : List (List C)} {i : Int} {j k' : Nat} {new : List (List C)} {K : St → Prop} {a a' : Option C} (h : a = a') : appSC k b s d id ver k0 rows i j k' new K a = appSC k b s d id ver k0 rows i j k' new K a' := by rw [h]
@[simp] theorem appS_tr {k k' b id ver k0 ver' : Nat} {i : Int} {j : Nat} {s : St} {d : Nat} {K : St → Prop} {rows new : List (List C)} : appS k b s d id ver i j k' new K (.tr k0 ver' rows) = (ver' = ver ∧ appSC k b s d id ver k0 rows i j k' new K (cellAt rows i.toNat j)) := by first | rfl | (simp only [appS, appSC]; done) | (simp only [appS, appSC]; rfl)
@[simp] theorem appSC_ow {k k' k2 b id ver k0 : Nat} {i : Int} {j : Nat} {s : St} {d : Nat} {K : St → Prop} {rows rs new : List (List C)} : appSC k b s d id ver k0 rows i j k' new K (some (.ow k2 rs)) = (k' = k ∧ k2 = k ∧ (rs.length + new.length) * b ≤ 140737488355328 ∧ (s.ob d).isNone = true ∧ K (((s.setOb id (.tr k0 (ver + 1) (setAt rows i.toNat j .jk))).renew d (.row k (rs ++ new))).put (some d) (.own d k (rs.length + new.length)))) := rfl
@[simp] theorem appSC_ot {k k' k2 b id ver k0 : Nat} {i : Int} {j : Nat} {s : St} {d : Nat} {K : St → Prop} {rows rs new : List (List C)} : appSC k b s d id ver k0 rows i j k' new K (some (.ot k2 rs)) = (k' = k ∧ k2 = k ∧ (rs.length + new.length) * b ≤ 140737488355328 ∧ (s.ob d).isNone = true ∧ K (((s.setOb id (.tr k0 (ver + 1) (setAt rows i.toNat j .jk))).renew d (.tr k 0 (rs ++ new))).put (some d) (.own d k (rs.length + new.length)))) := rfl
def appT (k b : Nat) (s : St) (d : Option Nat) (x : AV) (K : St → Prop) : Option (Nat × List (List C)) → Prop
  | some (idy, new) => match x with
      | .nil _ => new.length * b ≤ 140737488355328 ∧ newP (s.drop idy) d (.tr k 0 new) (fun d => .own d k new.length) K
      | .own id k' n => id ≠ idy ∧ match s.ob id with
        | .row _ rows => k' = k ∧ n = rows.length ∧ (rows.length + new.length) * b ≤ 140737488355328 ∧
            K (((s.drop idy).renew id (.tr k 0 (rows ++ new))).put d (.own id k (rows.length + new.length)))
        | .tr _ _ rows => k' = k ∧ n = rows.length ∧ (rows.length + new.length) * b ≤ 140737488355328 ∧
            K (((s.drop idy).renew id (.tr k 0 (rows ++ new))).put d (.own id k (rows.length + new.length)))
        | _ => False
      | _ => False
  | none => False
@[congr] theorem appT_cong {k b : Nat} {s : St} {d : Option Nat} {x x' : AV} {K : St → Prop} {a a' : Option (Nat × List (List C))} (h : a = a') (h2 : x = x') : appT k b s d x K a = appT k b s d x' K a' := by rw [h, h2]
@[simp] theorem appG_none {k b : Nat} {s : St} {d : Option Nat} {x y : AV} {K : St → Prop} : appG k b s d x K y none = appT k b s d x K (srcTr s k y) := by first | rfl | (simp only [appG, appT]; done) | (simp only [appG, appT]; rfl)
@[simp] theorem appT_nil {k b q idy : Nat} {s : St} {d : Option Nat} {K : St → Prop} {new : List (List C)} : appT k b s d (.nil q) K (some (idy, new)) = (new.length * b ≤ 140737488355328 ∧ newP (s.drop idy) d (.tr k 0 new) (fun d => .own d k new.length) K) := rfl
def appTO (k b : Nat) (s : St) (d : Option Nat) (id k' n idy : Nat) (new : List (List C)) (K : St → Prop) : Obj → Prop
  | .row _ rows => k' = k ∧ n = rows.length ∧ (rows.length + new.length) * b ≤ 140737488355328 ∧
      K (((s.drop idy).renew id (.tr k 0 (rows ++ new))).put d (.own id k (rows.length + new.length)))
  | .tr _ _ rows => k' = k ∧ n = rows.length ∧ (rows.length + new.length) * b ≤ 140737488355328 ∧
      K (((s.drop idy).renew id (.tr k 0 (rows ++ new))).put d (.own id k (rows.length + new.length)))
  | _ => False
@[congr] theorem appTO_cong {k b : Nat} {s : St} {d : Option Nat} {id k' n idy : Nat} {new : List (List C)} {K : St → Prop} {a a' : Obj} (h : a = a') : appTO k b s d id k' n idy new K a = appTO k b s d id k' n idy new K a' := by rw [h]
@[simp] theorem appT_own {k k' b id n idy : Nat} {s : St} {d : Option Nat} {K : St → Prop} {new : List (List C)} : appT k b s d (.own id k' n) K (some (idy, new)) = (id ≠ idy ∧ appTO k b s d id k' n idy new K (s.ob id)) := by first | rfl | (simp only [appT, appTO]; done) | (simp only [appT, appTO]; rfl)
@[simp] theorem appTO_row {k k' b id n idy q : Nat} {s : St} {d : Option Nat} {K : St → Prop} {rows new : List (List C)} : appTO k b s d id k' n idy new K (.row q rows) = (k' = k ∧ n = rows.length ∧ (rows.length + new.length) * b ≤ 140737488355328 ∧
      K (((s.drop idy).renew id (.tr k 0 (rows ++ new))).put d (.own id k (rows.length + new.length)))) := rfl
@[simp] theorem appTO_tr {k k' b id n idy q ver : Nat} {s : St} {d : Option Nat} {K : St → Prop} {rows new : List (List C)} : appTO k b s d id k' n idy new K (.tr q ver rows) = (k' = k ∧ n = rows.length ∧ (rows.length + new.length) * b ≤ 140737488355328 ∧
      K (((s.drop idy).renew id (.tr k 0 (rows ++ new))).put d (.own id k (rows.length + new.length)))) := rfl
def srcTrO (k k' id n : Nat) : Obj → Option (Nat × List (List C))
  | .tr _ _ rows => if k' = k then some (id, rows.take n) else none
  | _ => none
@[simp] theorem srcTr_own {s : St} {k k' id n : Nat} : srcTr s k (.own id k' n) = srcTrO k k' id n (s.ob id) := by first | rfl | (simp only [srcTr, srcTrO]; done) | (simp only [srcTr, srcTrO]; rfl)
@[simp] theorem srcTrO_tr {k k' id n q ver : Nat} {rows : List (List C)} : srcTrO k k' id n (.tr q ver rows) = if k' = k then some (id, rows.take n) else none := rfl
@[simp] theorem srcRows_sl {s : St} {k k' : Nat} {rows : List (List C)} : srcRows s k (.c (.sl k' rows)) = if k' = k then some rows else none := rfl
@[simp] theorem srcRows_clip {s : St} {k k' : Nat} {rows : List (List C)} : srcRows s k (.clip k' rows) = if k' = k then some rows else none := rfl
@[simp] theorem srcRows_nil {s : St} {k n : Nat} : srcRows s k (.nil n) = some [] := rfl
def srcO (k k' n : Nat) : Obj → Option (List (List C))
  | .row _ rows => if k' = k then some (rows.take n) else none
  | _ => none
@[simp] theorem srcRows_own {s : St} {k k' id n : Nat} : srcRows s k (.own id k' n) = srcO k k' n (s.ob id) := by simp only [srcRows, srcO]; cases s.ob id <;> rfl
@[simp] theorem srcO_row {k k' n q : Nat} {rows : List (List C)} : srcO k k' n (.row q rows) = if k' = k then some (rows.take n) else none := rfl
@[simp] theorem srcO_tr {k k' n q ver : Nat} {rows : List (List C)} : srcO k k' n (.tr q ver rows) = none := rfl
def srcCut (k k' lo n : Nat) : Obj → Option (List (List C))
  | .row _ rows => if k' = k then some ((rows.drop lo).take n) else none
  | _ => none
@[simp] theorem srcRows_cut {s : St} {k k' id lo n : Nat} : srcRows s k (.cut id k' lo n) = srcCut k k' lo n (s.ob id) := by first | rfl | (simp only [srcRows, srcCut]; done) | (simp only [srcRows, srcCut]; rfl)
@[simp] theorem srcCut_row {k k' lo n q : Nat} {rows : List (List C)} : srcCut k k' lo n (.row q rows) = if k' = k then some ((rows.drop lo).take n) else none := rfl
def cpK (k : Nat) (s : St) (d : Option Nat) (x : AV) (K : St → Prop) : Option (List (List C)) → Prop
  | some new => match x with
    | .own id k' n => match s.ob id with
      | .row _ rows => k' = k ∧ n ≤ rows.length ∧ K ((s.setOb id (.row k (new.take n ++ rows.drop (min new.length n)))).put d (.c (.i (min new.length n : Nat))))
      | _ => False
    | _ => False
  | none => False
@[congr] theorem cpK_cong {k : Nat} {s : St} {d : Option Nat} {x : AV} {K : St → Prop} {a a' : Option (List (List C))} (h : a = a') : cpK k s d x K a = cpK k s d x K a' := by rw [h]
@[simp] theorem cpP_eq {k : Nat} {s : St} {d : Option Nat} {x y : AV} {K : St → Prop} : cpP k s d x y K = cpK k s d x K (srcRows s k y) := by first | rfl | (simp only [cpP, cpK]; done) | (simp only [cpP, cpK]; rfl)
def cpO (k : Nat) (s : St) (d : Option Nat) (id k' n : Nat) (new : List (List C)) (K : St → Prop) : Obj → Prop
  | .row _ rows => k' = k ∧ n ≤ rows.length ∧ K ((s.setOb id (.row k (new.take n ++ rows.drop (min new.length n)))).put d (.c (.i (min new.length n : Nat))))
  | _ => False
@[congr] theorem cpO_cong {k : Nat} {s : St} {d : Option Nat} {id k' n : Nat} {new : List (List C)} {K : St → Prop} {a a' : Obj} (h : a = a') : cpO k s d id k' n new K a = cpO k s d id k' n new K a' := by rw [h]
@[simp] theorem cpK_own {k id k' n : Nat} {s : St} {d : Option Nat} {K : St → Prop} {new : List (List C)} : cpK k s d (.own id k' n) K (some new) = cpO k s d id k' n new K (s.ob id) := by first | rfl | (simp only [cpK, cpO]; done) | (simp only [cpK, cpO]; rfl)
@[simp] theorem cpO_row {k id k' n q : Nat} {s : St} {d : Option Nat} {K : St → Prop} {rows new : List (List C)} : cpO k s d id k' n new K (.row q rows) = (k' = k ∧ n ≤ rows.length ∧ K ((s.setOb id (.row k (new.take n ++ rows.drop (min new.length n)))).put d (.c (.i (min new.length n : Nat))))) := rfl
@[simp] theorem capP_nil {n : Nat} {K : AV → Prop} : capP (.nil n) K = K (.c (.i 0)) := rfl
@[simp] theorem capP_clip {k : Nat} {rows : List (List C)} {K : AV → Prop} : capP (.clip k rows) K = (rows.length ≤ maxLen → K (.c (.i rows.length))) := rfl
@[simp] theorem capP_sl {k : Nat} {rows : List (List C)} {K : AV → Prop} : capP (.c (.sl k rows)) K = ∀ n : Nat, rows.length ≤ n → n ≤ maxLen → K (.c (.i n)) := rfl
@[simp] theorem capP_own {id k m : Nat} {K : AV → Prop} : capP (.own id k m) K = ∀ n : Nat, m ≤ n → n ≤ maxLen → K (.c (.i n)) := rfl
@[simp] theorem nckP_box {id o : Nat} {K : AV → Prop} : nckP (.box id o) K = K (.box id o) := rfl
@[simp] theorem nckP_row {id k o : Nat} {i : Int} {K : AV → Prop} : nckP (.row id k i o) K = K (.row id k i o) := rfl
@[simp] theorem nckP_elt {cs : List C} {K : AV → Prop} : nckP (.elt cs) K = K (.elt cs) := rfl
@[simp] theorem seqP_f {a b : ByteArray} {k : AV → Prop} : seqP false (.c (.s a)) (.c (.s b)) k = k (.c (.b (decide (a = b)))) := rfl
@[simp] theorem seqP_t {a b : ByteArray} {k : AV → Prop} : seqP true (.c (.s a)) (.c (.s b)) k = k (.c (.b !decide (a = b))) := rfl
@[simp] theorem scatP_s {a b : ByteArray} {k : AV → Prop} : scatP (.c (.s a)) (.c (.s b)) k = (a.size + b.size ≤ maxLen ∧ k (.c (.s (a ++ b)))) := rfl
@[simp] theorem slsP_1 {a : ByteArray} {l h : Int} {K : AV → Prop} : slsP (.c (.s a)) (some (.c (.i l))) (some (.c (.i h))) K = (0 ≤ l ∧ l ≤ h ∧ h ≤ a.size ∧ K (.c (.s (a.extract l.toNat h.toNat)))) := rfl
@[simp] theorem slsP_2 {a : ByteArray} {l : Int} {K : AV → Prop} : slsP (.c (.s a)) (some (.c (.i l))) none K = (0 ≤ l ∧ l ≤ a.size ∧ K (.c (.s (a.extract l.toNat a.size)))) := rfl
@[simp] theorem slsP_3 {a : ByteArray} {h : Int} {K : AV → Prop} : slsP (.c (.s a)) none (some (.c (.i h))) K = (0 ≤ h ∧ h ≤ a.size ∧ K (.c (.s (a.extract 0 h.toNat)))) := rfl
@[simp] theorem bitP_and {a b : Int} {k : AV → Prop} : bitP .and (.c (.i a)) (.c (.i b)) k = k (.c (.i (iand a b))) := rfl
@[simp] theorem bitP_xor {a b : Int} {k : AV → Prop} : bitP .xor (.c (.i a)) (.c (.i b)) k = k (.c (.i (ixor a b))) := rfl
@[simp] theorem bitP_shl {a b : Int} {k : AV → Prop} : bitP .shl (.c (.i a)) (.c (.i b)) k = (0 ≤ b ∧ k (.c (.i (ishl a b)))) := rfl
@[simp] theorem bitP_shrq {a : Nat} {b : Int} {k : AV → Prop} : bitP .shr (.c (.q a)) (.c (.i b)) k = (0 ≤ b ∧ k (.c (.q (a / 2 ^ (min b.toNat 64))))) := rfl
@[simp] theorem bitP_shr {a b : Int} {k : AV → Prop} : bitP .shr (.c (.i a)) (.c (.i b)) k = (0 ≤ b ∧ k (.c (.i (ishr a b)))) := rfl
@[simp] theorem binwP_add {a b : Int} {k : AV → Prop} : binwP .add (.c (.i a)) (.c (.i b)) k = k (.c (.i (IntKind.i64.wrap (a + b)))) := rfl
@[simp] theorem binwP_mul {a b : Int} {k : AV → Prop} : binwP .mul (.c (.i a)) (.c (.i b)) k = k (.c (.i (IntKind.i64.wrap (a * b)))) := rfl
@[simp] theorem binuP_add {a b : Nat} {k : AV → Prop} : binuP .add (.c (.u a)) (.c (.u b)) k = k (.c (.u ((a + b) % 256))) := rfl
@[simp] theorem binuP_sub {a b : Nat} {k : AV → Prop} : binuP .sub (.c (.u a)) (.c (.u b)) k = k (.c (.u ((a + 256 - b) % 256))) := rfl
@[simp] theorem binuP_eql {a b : Nat} {k : AV → Prop} : binuP .eql (.c (.u a)) (.c (.u b)) k = k (.c (.b (decide (a = b)))) := rfl
@[simp] theorem binuP_neq {a b : Nat} {k : AV → Prop} : binuP .neq (.c (.u a)) (.c (.u b)) k = k (.c (.b (!decide (a = b)))) := rfl
@[simp] theorem binuP_lss {a b : Nat} {k : AV → Prop} : binuP .lss (.c (.u a)) (.c (.u b)) k = k (.c (.b (decide (a < b)))) := rfl
@[simp] theorem binuP_leq {a b : Nat} {k : AV → Prop} : binuP .leq (.c (.u a)) (.c (.u b)) k = k (.c (.b (decide (a ≤ b)))) := rfl
@[simp] theorem binuP_gtr {a b : Nat} {k : AV → Prop} : binuP .gtr (.c (.u a)) (.c (.u b)) k = k (.c (.b (decide (b < a)))) := rfl
@[simp] theorem binuP_geq {a b : Nat} {k : AV → Prop} : binuP .geq (.c (.u a)) (.c (.u b)) k = k (.c (.b (decide (b ≤ a)))) := rfl
@[simp] theorem cvtP_0u {s : St} {a : Nat} {k : AV → Prop} : cvtP 0 s (.c (.u a)) k = k (.c (.i a)) := rfl
@[simp] theorem cvtP_0q {s : St} {a : Nat} {k : AV → Prop} : cvtP 0 s (.c (.q a)) k = (a ≤ 9223372036854775807 ∧ k (.c (.i a))) := rfl
@[simp] theorem cvtP_3i {s : St} {a : Int} {k : AV → Prop} : cvtP 3 s (.c (.i a)) k = (0 ≤ a ∧ k (.c (.q a.toNat))) := rfl
@[simp] theorem cvtP_0i {s : St} {a : Int} {k : AV → Prop} : cvtP 0 s (.c (.i a)) k = k (.c (.i a)) := rfl
@[simp] theorem cvtP_1u {s : St} {a : Nat} {k : AV → Prop} : cvtP 1 s (.c (.u a)) k = k (.c (.u a)) := rfl
@[simp] theorem cvtP_1i {s : St} {a : Int} {k : AV → Prop} : cvtP 1 s (.c (.i a)) k = k (.c (.u (a % 256).toNat)) := rfl
def cvtB (k : AV → Prop) : Option (List (List C)) → Prop
  | some rows => ∃ l : List UInt8, rows = l.map uenc ∧ k (.c (.s ⟨l.toArray⟩))
  | none => False
@[congr] theorem cvtB_cong {k : AV → Prop} {a a' : Option (List (List C))} (h : a = a') : cvtB k a = cvtB k a' := by rw [h]
@[simp] theorem cvtP_2 {s : St} {x : AV} {k : AV → Prop} : cvtP 2 s x k = cvtB k (srcRows s 1 x) := by first | rfl | (simp only [cvtP, cvtB]; done) | (simp only [cvtP, cvtB]; rfl)
@[simp] theorem cvtB_some {k : AV → Prop} {rows : List (List C)} : cvtB k (some rows) = ∃ l : List UInt8, rows = l.map uenc ∧ k (.c (.s ⟨l.toArray⟩)) := rfl
@[simp ↓] theorem callvP_fn {P : Program} {f : Nat} {l xs : List AV} {d : Option Nat} {s : St} {K : St → Prop} : callvP P (.fn f l) xs d s K = ((∃ fn, P.funcs[f]? = some fn ∧ fn.body.isSome = true ∧ (fn.name != "runtime.NumGoroutine") = true) ∧ callT P f (xs ++ l) d s K ⟨⟩) := rfl
@[simp] theorem kill_c {id : Nat} {x : C} : (AV.c x).kill id = .c x := rfl
@[simp] theorem kill_any {id : Nat} : AV.any.kill id = .any := rfl
@[simp] theorem kill_und {id : Nat} : AV.und.kill id = .und := rfl
@[simp] theorem kill_nil {id n : Nat} : (AV.nil n).kill id = .nil n := rfl
@[simp] theorem kill_cut {id i k lo n : Nat} : (AV.cut i k lo n).kill id = if i = id then .any else .cut i k lo n := by
  simp only [AV.kill, AV.kill1, AV.free1]; by_cases h : i = id <;> simp [h]
@[simp] theorem kill_sub {id i ver : Nat} {n : Int} {j k m : Nat} : (AV.sub i ver n j k m).kill id = if i = id then .any else .sub i ver n j k m := by
  simp only [AV.kill, AV.kill1, AV.free1]; by_cases h : i = id <;> simp [h]
@[simp] theorem kill_srow {id i ver : Nat} {n : Int} {j k : Nat} {m : Int} {o : Nat} : (AV.srow i ver n j k m o).kill id = if i = id then .any else .srow i ver n j k m o := by
  simp only [AV.kill, AV.kill1, AV.free1]; by_cases h : i = id <;> simp [h]
@[simp] theorem kill1_nil {id n : Nat} : (AV.nil n).kill1 id = .nil n := rfl
@[simp] theorem kill1_any {id : Nat} : AV.any.kill1 id = .any := rfl
@[simp] theorem kill1_clip {id k : Nat} {r : List (List C)} : (AV.clip k r).kill1 id = .clip k r := rfl
@[simp] theorem kill1_elt {id : Nat} {r : List C} : (AV.elt r).kill1 id = .elt r := rfl
@[simp] theorem kill1_own {id i k n : Nat} : (AV.own i k n).kill1 id = if i = id then .any else .own i k n := by
  simp only [AV.kill1, AV.free1]; by_cases h : i = id <;> simp [h]
@[simp] theorem kill1_box {id i o : Nat} : (AV.box i o).kill1 id = if i = id then .any else .box i o := by
  simp only [AV.kill1, AV.free1]; by_cases h : i = id <;> simp [h]
@[simp] theorem kill1_row {id i k o : Nat} {n : Int} : (AV.row i k n o).kill1 id = if i = id then .any else .row i k n o := by
  simp only [AV.kill1, AV.free1]; by_cases h : i = id <;> simp [h]
@[simp] theorem okill_tr {id k v : Nat} {l : List (List C)} : (Obj.tr k v l).kill id = .tr k v l := rfl
@[simp] theorem kill_clip {id k : Nat} {r : List (List C)} : (AV.clip k r).kill id = .clip k r := rfl
@[simp] theorem kill_elt {id : Nat} {r : List C} : (AV.elt r).kill id = .elt r := rfl
@[simp] theorem kill_box {id i o : Nat} : (AV.box i o).kill id = if i = id then .any else .box i o := by
  simp only [AV.kill, AV.kill1, AV.free1]; by_cases h : i = id <;> simp [h]
@[simp] theorem kill_own {id i k n : Nat} : (AV.own i k n).kill id = if i = id then .any else .own i k n := by
  simp only [AV.kill, AV.kill1, AV.free1]; by_cases h : i = id <;> simp [h]
@[simp] theorem kill_row {id i k o : Nat} {n : Int} : (AV.row i k n o).kill id = if i = id then .any else .row i k n o := by
  simp only [AV.kill, AV.kill1, AV.free1]; by_cases h : i = id <;> simp [h]
@[simp] theorem kill1_c {id : Nat} {x : C} : (AV.c x).kill1 id = .c x := rfl
@[simp] theorem kill_aggc {id : Nat} {l : List C} : (AV.agg (l.map .c)).kill id = .agg (l.map .c) := by simp [AV.kill]
@[simp] theorem kill_agg {id : Nat} {l : List AV} : (AV.agg l).kill id = .agg (l.map (AV.kill1 id)) := rfl
@[simp] theorem okill_box {id : Nat} {l : List AV} : (Obj.box l).kill id = .box (l.map (AV.kill1 id)) := rfl
@[simp] theorem okill_row {id k : Nat} {l : List (List C)} : (Obj.row k l).kill id = .row k l := rfl
@[simp] theorem okill_none {id : Nat} : Obj.none.kill id = .none := rfl
@[simp ↓] theorem bldPs_nil {s : St} {l : List AV} {K : List AV → Prop} : bldPs s [] l K = K l := rfl
@[simp ↓] theorem bldPs_cons {s : St} {o n : Nat} {x : X} {ps : List (Nat × Nat × X)} {l : List AV} {K : List AV → Prop} : bldPs s ((o, n, x) :: ps) l K =
    ((s.ev x).cellsOf.length = n ∧ (s.ev x).cellsOf.all AV.cellOk = true ∧ o + n ≤ l.length ∧ bldPs s ps (l.take o ++ (s.ev x).cellsOf ++ l.drop (o + n)) K) := rfl

@[simp] theorem out1_c {s : St} {z : C} {y : AV} : out1 s (.c z) y = (y = .c z) := rfl
@[simp] theorem out1_clip {s : St} {k : Nat} {r : List (List C)} {y : AV} : out1 s (.clip k r) y = (y = .c (.sl k r)) := rfl
@[simp] theorem out1_nil {s : St} {n : Nat} {y : AV} : out1 s (.nil n) y = ((∃ k, y = .c (.sl k [])) ∨ ∃ k, y = .nil k) := rfl
@[simp] theorem out1_elt {s : St} {cs : List C} {y : AV} : out1 s (.elt cs) y = (y = .elt cs) := rfl
def outR (k : Nat) (y : AV) : Option (List (List C)) → Prop
  | some r => y = .c (.sl k r)
  | none => False
@[simp] theorem outR_some {k : Nat} {y : AV} {r : List (List C)} : outR k y (some r) = (y = .c (.sl k r)) := rfl
def outO (k n : Nat) (y : AV) : Obj → Prop
  | .row _ rows => y = .c (.sl k (rows.take n))
  | .tr _ _ rows => outR k y (shrs (rows.take n))
  | _ => False
@[simp] theorem out1_own {s : St} {id k n : Nat} {y : AV} : out1 s (.own id k n) y = outO k n y (s.ob id) := by simp only [out1, outO]; cases s.ob id <;> rfl
@[simp] theorem outO_row {k n q : Nat} {rows : List (List C)} {y : AV} : outO k n y (.row q rows) = (y = .c (.sl k (rows.take n))) := rfl
@[simp] theorem outO_tr {k n q ver : Nat} {rows : List (List C)} {y : AV} : outO k n y (.tr q ver rows) = outR k y (shrs (rows.take n)) := rfl
def outCut (k lo n : Nat) (y : AV) : Obj → Prop
  | .row _ rows => y = .c (.sl k ((rows.drop lo).take n))
  | _ => False
@[simp] theorem out1_cut {s : St} {id k lo n : Nat} {y : AV} : out1 s (.cut id k lo n) y = outCut k lo n y (s.ob id) := by simp only [out1, outCut]; cases s.ob id <;> rfl
@[simp] theorem outCut_row {k lo n q : Nat} {rows : List (List C)} {y : AV} : outCut k lo n y (.row q rows) = (y = .c (.sl k ((rows.drop lo).take n))) := rfl
def outC (y : AV) : Option C → Prop
  | some c => match c.shr with
    | some z => y = .c z
    | none => False
  | none => False
def outS (ver : Nat) (i : Int) (j : Nat) (y : AV) : Obj → Prop
  | .tr _ ver' rows => ver' = ver ∧ outC y (cellAt rows i.toNat j)
  | _ => False
@[simp] theorem out1_sub {s : St} {id ver : Nat} {i : Int} {j k n : Nat} {y : AV} : out1 s (.sub id ver i j k n) y = outS ver i j y (s.ob id) := by first | rfl | (simp only [out1, outS, outC]; done) | (simp only [out1, outS, outC]; rfl)
@[simp] theorem outS_tr {ver k0 ver' : Nat} {i : Int} {j : Nat} {y : AV} {rows : List (List C)} : outS ver i j y (.tr k0 ver' rows) = (ver' = ver ∧ outC y (cellAt rows i.toNat j)) := rfl
@[simp] theorem outC_ow {k : Nat} {rows : List (List C)} {y : AV} : outC y (some (.ow k rows)) = (y = .c (.sl k rows)) := rfl
@[simp] theorem outC_ot {k : Nat} {rows : List (List C)} {y : AV} : outC y (some (.ot k rows)) = outR k y (shrs rows) := by
  simp only [outC, C.shr, outR]; cases shrs rows <;> rfl
@[simp] theorem outs1_nil {s : St} : outs1 s [] [] = True := rfl
@[simp] theorem outs1_cons {s : St} {x y : AV} {l l' : List AV} : outs1 s (x :: l) (y :: l') = (out1 s x y ∧ outs1 s l l') := rfl
@[simp] theorem outs1_map {s : St} {l : List C} : outs1 s (l.map .c) (l.map .c) = True := by
  induction l with
  | nil => rfl
  | cons x l ih => simp [ih]
@[simp] theorem out2_agg {s : St} {l l' : List AV} : out2 s (.agg l) (.agg l') = outs1 s l l' := rfl
@[simp] theorem out2_c {s : St} {z : C} {y : AV} : out2 s (.c z) y = (y = .c z) := rfl
@[simp] theorem out2_clip {s : St} {k : Nat} {r : List (List C)} {y : AV} : out2 s (.clip k r) y = (y = .c (.sl k r)) := rfl
@[simp] theorem out2_nil {s : St} {n : Nat} {y : AV} : out2 s (.nil n) y = ((∃ k, y = .c (.sl k [])) ∨ ∃ k, y = .nil k) := rfl
@[simp] theorem out2_elt {s : St} {cs : List C} {y : AV} : out2 s (.elt cs) y = (y = .elt cs) := rfl
@[simp] theorem out2_cut {s : St} {id k lo n : Nat} {y : AV} : out2 s (.cut id k lo n) y = outCut k lo n y (s.ob id) := out1_cut
@[simp] theorem out2_sub {s : St} {id ver : Nat} {i : Int} {j k n : Nat} {y : AV} : out2 s (.sub id ver i j k n) y = outS ver i j y (s.ob id) := out1_sub (k := k) (n := n)
@[simp] theorem out2_fn {s : St} {f f' : Nat} {l l' : List AV} : out2 s (.fn f l) (.fn f' l') = (f = f' ∧ outs1 s l l') := rfl
def outB (s : St) (off : Nat) (cs : List C) : Obj → Prop
  | .box cells => outs1 s (cells.drop off) (cs.map .c)
  | _ => False
@[simp] theorem out2_box {s : St} {id off : Nat} {cs : List C} : out2 s (.box id off) (.elt cs) = outB s off cs (s.ob id) := by first | rfl | (simp only [out2, outB]; done) | (simp only [out2, outB]; rfl)
@[simp] theorem outB_box {s : St} {off : Nat} {cs : List C} {cells : List AV} : outB s off cs (.box cells) = outs1 s (cells.drop off) (cs.map .c) := rfl
@[simp] theorem out2_own {s : St} {id k n : Nat} {y : AV} : out2 s (.own id k n) y = outO k n y (s.ob id) := out1_own
@[simp] theorem outs2_nil {s : St} : outs2 s [] [] = True := rfl
@[simp] theorem outs2_cons {s : St} {x y : AV} {l l' : List AV} : outs2 s (x :: l) (y :: l') = (out2 s x y ∧ outs2 s l l') := rfl
@[simp] theorem resP_one {s : St} {r : RS} {y : AV} : resP s [r] y = resOne s r y := rfl
@[simp] theorem resP_two {s : St} {r r' : RS} {y : AV} : resP s [r, r'] y = ∃ ys, y = .tup ys ∧ resAll s [r, r'] ys := rfl
@[simp] theorem resP_three {s : St} {r r' r2 : RS} {y : AV} : resP s [r, r', r2] y = ∃ ys, y = .tup ys ∧ resAll s [r, r', r2] ys := rfl
@[simp] theorem resAll_nil {s : St} : resAll s [] [] = True := rfl
@[simp] theorem resAll_cons {s : St} {r : RS} {rs : List RS} {y : AV} {ys : List AV} : resAll s (r :: rs) (y :: ys) = (resOne s r y ∧ resAll s rs ys) := rfl
@[simp] theorem resOne_t {s : St} {n : Nat} {y : AV} : resOne s (.t n) y = out2 s (s.env n) y := rfl
def clA (s : St) (k : Nat) (y : AV) : AV → Prop
  | .box id 0 => match s.ob id with
    | .box cells => cells.length = k ∧ out2 s (.agg cells) y
    | _ => False
  | _ => False
@[congr] theorem clA_cong {s : St} {k : Nat} {y a a' : AV} (h : a = a') : clA s k y a = clA s k y a' := by rw [h]
@[simp] theorem resOne_cl {s : St} {n k : Nat} {y : AV} : resOne s (.cl n k) y = clA s k y (s.env n) := by
  simp only [resOne, clA]
  cases s.env n with
  | box id o => cases o <;> rfl
  | _ => rfl
def clO (s : St) (k : Nat) (y : AV) : Obj → Prop
  | .box cells => cells.length = k ∧ out2 s (.agg cells) y
  | _ => False
@[simp] theorem clA_box {s : St} {k id : Nat} {y : AV} : clA s k y (.box id 0) = clO s k y (s.ob id) := by first | rfl | (simp only [clA, clO]; done) | (simp only [clA, clO]; rfl)
@[simp] theorem clO_box {s : St} {k : Nat} {y : AV} {cells : List AV} : clO s k y (.box cells) = (cells.length = k ∧ out2 s (.agg cells) y) := rfl
end

@[simp] theorem leO_row_row {k k' : Nat} {r r' : List (List C)} : (Obj.row k r).leO (.row k' r') = (Obj.row k r = .row k' r') := rfl
@[simp] theorem leO_row_tr {k k' v : Nat} {r r' : List (List C)} : (Obj.row k r).leO (.tr k' v r') = (k = k' ∧ r = r') := rfl
@[simp] theorem leO_tr_tr {k k' v v' : Nat} {r r' : List (List C)} : (Obj.tr k v r).leO (.tr k' v' r') = (k = k' ∧ r = r') := rfl
@[simp] theorem leO_box_box {l l' : List AV} : (Obj.box l).leO (.box l') = (Obj.box l = .box l') := rfl
/-- An integer list, as rows. -/
def ints (l : List Int) : List (List C) := l.map fun n => [.i n]
@[simp] theorem ints_length {l : List Int} : (ints l).length = l.length := by simp [ints]

/-- Rows made of a list of things. -/
theorem getD_map {α : Type} [Inhabited α] {f : α → List C} {l : List α} {k : Nat} (h : k < l.length) : (l.map f).getD k [] = f (l.getD k default) := by
  simp [List.getD, List.getElem?_eq_getElem h]
theorem ints_getD {l : List Int} {k : Nat} (h : k < l.length) : (ints l).getD k [] = [.i (l.getD k 0)] := by
  simp [ints, List.getD, List.getElem?_eq_getElem h]

end Go.Proofs.YtmimbhooaidelaaGreat

