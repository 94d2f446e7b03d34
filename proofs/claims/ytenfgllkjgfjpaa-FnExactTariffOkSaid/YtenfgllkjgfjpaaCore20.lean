/- The abstract machine, part 20: how the weakest preconditions are evaluated by simp. -/
import Derived.Test.YtenfgllkjgfjpaaCore19
set_option linter.all false
namespace Go.Proofs.Ytenfgllkjgfjpaa
open Go.RowKit

/-- A mark on which a later part hangs: simp does not look into it. -/
structure Tag {α : Type} (K : α) : Type where
def callT (P : Program) (f : Nat) (xs : List AV) (d : Option Nat) (s : St) (K : St → Prop) (_ : Tag K) : Prop := callP P f xs d s K
def callDT (P : Program) (f : Nat) (xs : List AV) (ob : Nat → Obj) (k : AV → Prop) (_ : Tag k) : Prop := callD P f xs ob k
def loopT (P : Program) (N : Nat) (c : SC) (s : St) (Q : Ex → St → Prop) (_ : Tag Q) : Prop := loopP P N c s Q

section
variable {P : Program} {N : Nat}

@[congr] theorem stepI_cong {d : Option Nat} {op op' : IOp} {s : St} {K : St → Prop} (h : op = op') : stepI P d op s K = stepI P d op' s K := by rw [h]
@[congr] theorem valP_cong {op op' : IOp} {ev : X → AV} {ob : Nat → Obj} {k : AV → Prop} (h : op = op') : valP P op ev ob k = valP P op' ev ob k := by rw [h]
@[congr] theorem then_cong {Q Q' : Ex → St → Prop} {e : Ex} {s s' : St} (h : s = s') : Ex.then Q Q' e s = Ex.then Q Q' e s' := by rw [h]
@[congr] theorem inBlock_cong {Q : Ex → St → Prop} {n : Nat} {e : Ex} {s s' : St} (h : s = s') : Ex.inBlock n Q e s = Ex.inBlock n Q e s' := by rw [h]
@[congr] theorem newP_cong {s s' : St} {d : Option Nat} {o o' : Obj} {v : Nat → AV} {K : St → Prop} (h : s = s') (h2 : o = o') : newP s d o v K = newP s' d o' v K := by rw [h, h2]
@[congr] theorem bldPs_cong {s : St} {ps : List (Nat × Nat × X)} {l l' : List AV} {K : List AV → Prop} (h : l = l') : bldPs s ps l K = bldPs s ps l' K := by rw [h]
@[congr] theorem wpS_cong {c : SC} {s s' : St} {Q : Ex → St → Prop} (h : s = s') : wpS P N c s Q = wpS P N c s' Q := by rw [h]
@[congr] theorem wpI_cong {l : List Ins} {s s' : St} {K : St → Prop} (h : s = s') : wpI P l s K = wpI P l s' K := by rw [h]
@[congr] theorem wpQ_cong {l : List Ins} {s s' : St} {K : St → Prop} (h : s = s') : wpQ P l s K = wpQ P l s' K := by rw [h]
@[congr] theorem pickP_cong {c c' a a' b b' : AV} {k : AV → Prop} (h1 : c = c') (h2 : a = a') (h3 : b = b') : pickP c a b k = pickP c' a' b' k := by rw [h1, h2, h3]
@[congr] theorem binP_cong {o : BinOp} {a a' b b' : AV} {k : AV → Prop} (h2 : a = a') (h3 : b = b') : binP o a b k = binP o a' b' k := by rw [h2, h3]
@[congr] theorem beqP_cong {o : Bool} {a a' b b' : AV} {k : AV → Prop} (h2 : a = a') (h3 : b = b') : beqP o a b k = beqP o a' b' k := by rw [h2, h3]
@[congr] theorem isnP_cong {a a' : AV} {k : AV → Prop} (h2 : a = a') : isnP a k = isnP a' k := by rw [h2]
@[congr] theorem notP_cong {a a' : AV} {k : AV → Prop} (h2 : a = a') : notP a k = notP a' k := by rw [h2]
@[congr] theorem negP_cong {a a' : AV} {k : AV → Prop} (h2 : a = a') : negP a k = negP a' k := by rw [h2]
@[congr] theorem idxP_cong {o : Nat} {a a' b b' : AV} {k : AV → Prop} (h2 : a = a') (h3 : b = b') : idxP o a b k = idxP o a' b' k := by rw [h2, h3]
@[congr] theorem idaP_cong {o n : Nat} {a a' b b' : AV} {k : AV → Prop} (h2 : a = a') (h3 : b = b') : idaP o n a b k = idaP o n a' b' k := by rw [h2, h3]
@[congr] theorem fldP_cong {o : Nat} {a a' : AV} {k : AV → Prop} (h2 : a = a') : fldP o a k = fldP o a' k := by rw [h2]
@[congr] theorem ld1P_cong {s : St} {a a' : AV} {k : AV → Prop} (h2 : a = a') : ld1P s a k = ld1P s a' k := by rw [h2]
@[congr] theorem ldnP_cong {o : Nat} {s : St} {a a' : AV} {k : AV → Prop} (h2 : a = a') : ldnP o s a k = ldnP o s a' k := by rw [h2]
@[congr] theorem st1P_cong {s : St} {a a' b b' : AV} {k : St → Prop} (h2 : a = a') (h3 : b = b') : st1P s a b k = st1P s a' b' k := by rw [h2, h3]
@[congr] theorem stnP_cong {o : Nat} {s : St} {a a' b b' : AV} {k : St → Prop} (h2 : a = a') (h3 : b = b') : stnP o s a b k = stnP o s a' b' k := by rw [h2, h3]
@[congr] theorem boxP_cong {o : Nat} {s : St} {d : Option Nat} {a a' : AV} {k : St → Prop} (h2 : a = a') : boxP o s d a k = boxP o s d a' k := by rw [h2]
@[congr] theorem mksP_cong {o n : Nat} {z : List C} {s : St} {d : Option Nat} {a a' b b' : AV} {k : St → Prop} (h2 : a = a') (h3 : b = b') : mksP o n z s d a b k = mksP o n z s d a' b' k := by rw [h2, h3]
@[congr] theorem bslP_cong {o : Nat} {s : St} {d : Option Nat} {a a' : List AV} {k : St → Prop} (h2 : a = a') : bslP o a s d k = bslP o a' s d k := by rw [h2]
@[congr] theorem slcP_cong {o : Nat} {a a' : AV} {l l' h h' m m' : Option AV} {k : AV → Prop} (h2 : a = a') (h3 : l = l') (h4 : h = h') (h5 : m = m') : slcP o a l h m k = slcP o a' l' h' m' k := by rw [h2, h3, h4, h5]
@[congr] theorem slaP_cong {o n : Nat} {s : St} {a a' b b' : AV} {k : AV → Prop} (h2 : a = a') (h3 : b = b') : slaP o n s a b k = slaP o n s a' b' k := by rw [h2, h3]
@[congr] theorem lenP_cong {a a' : AV} {k : AV → Prop} (h2 : a = a') : lenP a k = lenP a' k := by rw [h2]
@[congr] theorem slenP_cong {a a' : AV} {k : AV → Prop} (h2 : a = a') : slenP a k = slenP a' k := by rw [h2]
@[congr] theorem appP_cong {o n : Nat} {s : St} {d : Option Nat} {a a' b b' : AV} {k : St → Prop} (h2 : a = a') (h3 : b = b') : appP o n s d a b k = appP o n s d a' b' k := by rw [h2, h3]
@[congr] theorem mmP_cong {f : Int → Int → Int} {a a' : List AV} {k : AV → Prop} (h2 : a = a') : mmP f a k = mmP f a' k := by rw [h2]
@[congr] theorem extP_cong {o : Nat} {a a' : AV} {k : AV → Prop} (h2 : a = a') : extP o a k = extP o a' k := by rw [h2]
@[congr] theorem ixsP_cong {a a' b b' : AV} {k : AV → Prop} (h2 : a = a') (h3 : b = b') : ixsP a b k = ixsP a' b' k := by rw [h2, h3]
@[congr] theorem guardP_cong {a a' : AV} {v : Bool} {A B : Prop} (h : a = a') : guardP a v A B = guardP a' v A B := by rw [h]
@[congr] theorem condP_cong {a a' : AV} {A B : Prop} (h : a = a') : condP a A B = condP a' A B := by rw [h]

@[simp ↓] theorem wpS_skip {s : St} {Q : Ex → St → Prop} : wpS P N .skip s Q = Q .normal s := rfl
@[simp ↓] theorem wpS_reg {l : List Ins} {s : St} {Q : Ex → St → Prop} : wpS P N (.reg l) s Q = wpI P l s (Q .normal) := rfl
@[simp ↓] theorem wpS_regq {l : List Ins} {s : St} {Q : Ex → St → Prop} : wpS P N (.regq l) s Q = wpQ P l s (Q .normal) := rfl
@[simp ↓] theorem wpS_seq {a b : SC} {s : St} {Q : Ex → St → Prop} : wpS P N (.seq a b) s Q = wpS P N a s (Ex.then (fun _ s' => wpS P N b s' Q) Q) := rfl
@[simp ↓] theorem wpS_cond {x : X} {a b : SC} {s : St} {Q : Ex → St → Prop} : wpS P N (.cond x a b) s Q = condP (s.ev x) (wpS P N a s Q) (wpS P N b s Q) := rfl
@[simp ↓] theorem wpS_block {n : Nat} {c : SC} {s : St} {Q : Ex → St → Prop} : wpS P N (.block n c) s Q = wpS P N c s (Ex.inBlock n Q) := rfl
@[simp ↓] theorem wpS_loop {c : SC} {s : St} {Q : Ex → St → Prop} : wpS P N (.loop c) s Q = loopT P N c s Q ⟨⟩ := rfl
@[simp ↓] theorem wpS_exit {n : Nat} {s : St} {Q : Ex → St → Prop} : wpS P N (.exit n) s Q = Q (.exit n) s := rfl
@[simp ↓] theorem wpS_ret {s : St} {Q : Ex → St → Prop} : wpS P N .ret s Q = Q .ret s := rfl
@[simp ↓] theorem then_normal {Q Q' : Ex → St → Prop} {s : St} : Ex.then Q Q' .normal s = Q .normal s := rfl
@[simp ↓] theorem then_exit {Q Q' : Ex → St → Prop} {n : Nat} {s : St} : Ex.then Q Q' (.exit n) s = Q' (.exit n) s := rfl
@[simp ↓] theorem then_ret {Q Q' : Ex → St → Prop} {s : St} : Ex.then Q Q' .ret s = Q' .ret s := rfl
@[simp ↓] theorem inBlock_normal {Q : Ex → St → Prop} {n : Nat} {s : St} : Ex.inBlock n Q .normal s = Q .normal s := rfl
@[simp ↓] theorem inBlock_ret {Q : Ex → St → Prop} {n : Nat} {s : St} : Ex.inBlock n Q .ret s = Q .ret s := rfl
@[simp ↓] theorem inBlock_exit {Q : Ex → St → Prop} {n m : Nat} {s : St} : Ex.inBlock n Q (.exit m) s = if m = n then Q .normal s else Q (.exit m) s := rfl

@[simp ↓] theorem wpI_nil {s : St} {K : St → Prop} : wpI P [] s K = K s := rfl
@[simp ↓] theorem wpI_cons {d : Option Nat} {op : IOp} {l : List Ins} {s : St} {K : St → Prop} : wpI P (⟨none, d, op⟩ :: l) s K = stepI P d op s fun s' => wpI P l s' K := rfl
/-- A guard: behind its test the guard's temporary is known. -/
def guardX (x : AV) (t : Nat) (want : Bool) (s : St) (A B : St → Prop) : Prop :=
  match x with
  | .c (.b v) => (v = want → A (s.put (some t) (.c (.b want)))) ∧ (v = (!want) → B (s.put (some t) (.c (.b (!want)))))
  | .und => B s
  | _ => False
theorem put_same {s : St} {t : Nat} {v : AV} (h : s.env t = v) : s.put (some t) v = s := by
  obtain ⟨env, objs⟩ := s
  simp only [St.put]
  congr 1
  funext n
  unfold upd
  split
  · rename_i e; subst e; exact h.symm
  · rfl
theorem guardX_eq {t : Nat} {want : Bool} {s : St} {A B : St → Prop} : guardP (s.env t) want (A s) (B s) = guardX (s.env t) t want s A B := by
  unfold guardP guardX
  cases h : s.env t with
  | c x => cases x with
    | b v =>
      apply propext
      constructor
      · rintro ⟨h1, h2⟩
        exact ⟨fun e => by rw [put_same (by rw [h, e])]; exact h1 e, fun e => by rw [put_same (by rw [h, e])]; exact h2 e⟩
      · rintro ⟨h1, h2⟩
        refine ⟨fun e => ?_, fun e => ?_⟩
        · have := h1 e; rwa [put_same (by rw [h, e])] at this
        · have := h2 e; rwa [put_same (by rw [h, e])] at this
    | _ => rfl
  | _ => rfl
@[congr] theorem guardX_cong {a a' : AV} {t : Nat} {v : Bool} {s : St} {A B : St → Prop} (h : a = a') : guardX a t v s A B = guardX a' t v s A B := by rw [h]
@[simp] theorem guardX_b {t : Nat} {v want : Bool} {s : St} {A B : St → Prop} : guardX (.c (.b v)) t want s A B = ((v = want → A (s.put (some t) (.c (.b want)))) ∧ (v = (!want) → B (s.put (some t) (.c (.b (!want)))))) := rfl
@[simp high] theorem guardX_tt {t : Nat} {s : St} {A B : St → Prop} : guardX (.c (.b true)) t true s A B = A (s.put (some t) (.c (.b true))) := by simp [guardX]
@[simp high] theorem guardX_tf {t : Nat} {s : St} {A B : St → Prop} : guardX (.c (.b true)) t false s A B = B (s.put (some t) (.c (.b true))) := by simp [guardX]
@[simp high] theorem guardX_ft {t : Nat} {s : St} {A B : St → Prop} : guardX (.c (.b false)) t true s A B = B (s.put (some t) (.c (.b false))) := by simp [guardX]
@[simp high] theorem guardX_ff {t : Nat} {s : St} {A B : St → Prop} : guardX (.c (.b false)) t false s A B = A (s.put (some t) (.c (.b false))) := by simp [guardX]
@[simp] theorem guardX_und {t : Nat} {want : Bool} {s : St} {A B : St → Prop} : guardX .und t want s A B = B s := rfl

@[simp ↓] theorem wpI_consg {t : Nat} {v : Bool} {d : Option Nat} {op : IOp} {l : List Ins} {s : St} {K : St → Prop} :
    wpI P (⟨some (t, v), d, op⟩ :: l) s K = guardX (s.env t) t v s (fun s => stepI P d op s fun s' => wpI P l s' K) (fun s => wpI P l (s.put d .und) K) :=
  guardX_eq (A := fun s => stepI P d op s fun s' => wpI P l s' K) (B := fun s => wpI P l (s.put d .und) K)
@[simp ↓] theorem wpQ_nil {s : St} {K : St → Prop} : wpQ P [] s K = K s := rfl
@[simp ↓] theorem wpQ_cons {d : Option Nat} {op : IOp} {l : List Ins} {s : St} {K : St → Prop} : wpQ P (⟨none, d, op⟩ :: l) s K = valP P op s.ev s.objs fun v => wpQ P l (s.put d v) K := rfl
@[simp ↓] theorem wpQ_consg {t : Nat} {v : Bool} {d : Option Nat} {op : IOp} {l : List Ins} {s : St} {K : St → Prop} :
    wpQ P (⟨some (t, v), d, op⟩ :: l) s K = guardX (s.env t) t v s (fun s => valP P op s.ev s.objs fun v => wpQ P l (s.put d v) K) (fun s => wpQ P l (s.put d .und) K) := by
  have e : wpQ P (⟨some (t, v), d, op⟩ :: l) s K = guardP (s.env t) v (valP P op s.ev s.objs fun v => wpQ P l (s.put d v) K) (wpQ P l (s.put d .und) K) := rfl
  rw [e]
  exact guardX_eq (A := fun s => valP P op s.ev s.objs fun v => wpQ P l (s.put d v) K) (B := fun s => wpQ P l (s.put d .und) K)

@[simp] theorem guardP_b {b want : Bool} {A B : Prop} : guardP (.c (.b b)) want A B = ((b = want → A) ∧ (b = (!want) → B)) := rfl
@[simp] theorem guardP_und {want : Bool} {A B : Prop} : guardP .und want A B = B := rfl
@[simp high] theorem condP_t {A B : Prop} : condP (.c (.b true)) A B = A := by simp [condP]
@[simp high] theorem condP_f {A B : Prop} : condP (.c (.b false)) A B = B := by simp [condP]
@[simp] theorem condP_b {b : Bool} {A B : Prop} : condP (.c (.b b)) A B = ((b = true → A) ∧ (b = false → B)) := rfl

section
variable {d : Option Nat} {s : St} {K : St → Prop} {ev : X → AV} {ob : Nat → Obj} {k : AV → Prop}
@[simp ↓] theorem step_mv {x : X} : stepI P d (.mv x) s K = K (s.put d (s.ev x)) := rfl
@[simp ↓] theorem step_pick {a b c : X} : stepI P d (.pick a b c) s K = pickP (s.ev a) (s.ev b) (s.ev c) fun v => K (s.put d v) := rfl
@[simp ↓] theorem step_bin {o : BinOp} {a b : X} : stepI P d (.bin o a b) s K = binP o (s.ev a) (s.ev b) fun v => K (s.put d v) := rfl
@[simp ↓] theorem step_beq {o : Bool} {a b : X} : stepI P d (.beq o a b) s K = beqP o (s.ev a) (s.ev b) fun v => K (s.put d v) := rfl
@[simp ↓] theorem step_isn {a : X} : stepI P d (.isn a) s K = isnP (s.ev a) fun v => K (s.put d v) := rfl
@[simp ↓] theorem step_not {a : X} : stepI P d (.not a) s K = notP (s.ev a) fun v => K (s.put d v) := rfl
@[simp ↓] theorem step_neg {a : X} : stepI P d (.neg a) s K = negP (s.ev a) fun v => K (s.put d v) := rfl
@[simp ↓] theorem step_idx {n : Nat} {a b : X} : stepI P d (.idx n a b) s K = idxP n (s.ev a) (s.ev b) fun v => K (s.put d v) := rfl
@[simp ↓] theorem step_ida {m n : Nat} {a b : X} : stepI P d (.ida m n a b) s K = idaP m n (s.ev a) (s.ev b) fun v => K (s.put d v) := rfl
@[simp ↓] theorem step_fld {n : Nat} {a : X} : stepI P d (.fld n a) s K = fldP n (s.ev a) fun v => K (s.put d v) := rfl
@[simp ↓] theorem step_ld1 {a : X} : stepI P d (.ld1 a) s K = ld1P s (s.ev a) fun v => K (s.put d v) := rfl
@[simp ↓] theorem step_ldn {n : Nat} {a : X} : stepI P d (.ldn n a) s K = ldnP n s (s.ev a) fun v => K (s.put d v) := rfl
@[simp ↓] theorem step_st1 {a b : X} : stepI P d (.st1 a b) s K = st1P s (s.ev a) (s.ev b) fun s' => K (s'.put d .und) := rfl
@[simp ↓] theorem step_stn {n : Nat} {a b : X} : stepI P d (.stn n a b) s K = stnP n s (s.ev a) (s.ev b) fun s' => K (s'.put d .und) := rfl
@[simp ↓] theorem step_box {n : Nat} {a : X} : stepI P d (.box n a) s K = boxP n s d (s.ev a) K := rfl
@[simp ↓] theorem step_alloc {zs : List AV} : stepI P d (.alloc zs) s K = newP s d (.box zs) (fun d => .box d 0) K := rfl
@[simp ↓] theorem step_alloca {n m : Nat} {z : List C} : stepI P d (.alloca n m z) s K = newP s d (.row n (List.replicate m z)) (fun d => .row d n 0 0) K := rfl
@[simp ↓] theorem step_mks {n b : Nat} {z : List C} {l c : X} : stepI P d (.mks n b z l c) s K = mksP n b z s d (s.ev l) (s.ev c) K := rfl
@[simp ↓] theorem step_bsl {n : Nat} {xs : List X} : stepI P d (.bsl n xs) s K = bslP n (xs.map s.ev) s d K := rfl
@[simp ↓] theorem step_bld {zs : List AV} {ps : List (Nat × Nat × X)} : stepI P d (.bld zs ps) s K = bldPs s ps zs fun l => K (s.put d (.agg l)) := rfl
@[simp ↓] theorem step_slc {n : Nat} {x : X} {lo hi m : Option X} : stepI P d (.slc n x lo hi m) s K = slcP n (s.ev x) (lo.map s.ev) (hi.map s.ev) (m.map s.ev) fun v => K (s.put d v) := rfl
@[simp ↓] theorem step_sla {n m : Nat} {x h : X} : stepI P d (.sla n m x h) s K = slaP n m s (s.ev x) (s.ev h) fun v => K (s.put d v) := rfl
@[simp ↓] theorem step_len {x : X} : stepI P d (.len x) s K = lenP (s.ev x) fun v => K (s.put d v) := rfl
@[simp ↓] theorem step_slen {x : X} : stepI P d (.slen x) s K = slenP (s.ev x) fun v => K (s.put d v) := rfl
@[simp ↓] theorem step_app {n b : Nat} {x y : X} : stepI P d (.app n b x y) s K = appP n b s d (s.ev x) (s.ev y) K := rfl
@[simp ↓] theorem step_mn {xs : List X} : stepI P d (.mn xs) s K = mmP (fun x y => if y < x then y else x) (xs.map s.ev) fun v => K (s.put d v) := rfl
@[simp ↓] theorem step_mx {xs : List X} : stepI P d (.mx xs) s K = mmP (fun x y => if x < y then y else x) (xs.map s.ev) fun v => K (s.put d v) := rfl
@[simp ↓] theorem step_ext {n : Nat} {x : X} : stepI P d (.ext n x) s K = extP n (s.ev x) fun v => K (s.put d v) := rfl
@[simp ↓] theorem step_call {f : Nat} {xs : List X} : stepI P d (.call f xs) s K = callT P f (xs.map s.ev) d s K ⟨⟩ := rfl
@[simp ↓] theorem step_ixs {x i : X} : stepI P d (.ixs x i) s K = ixsP (s.ev x) (s.ev i) fun v => K (s.put d v) := rfl
@[simp ↓] theorem val_mv {x : X} : valP P (.mv x) ev ob k = k (ev x) := rfl
@[simp ↓] theorem val_pick {a b c : X} : valP P (.pick a b c) ev ob k = pickP (ev a) (ev b) (ev c) k := rfl
@[simp ↓] theorem val_bin {o : BinOp} {a b : X} : valP P (.bin o a b) ev ob k = binP o (ev a) (ev b) k := rfl
@[simp ↓] theorem val_beq {o : Bool} {a b : X} : valP P (.beq o a b) ev ob k = beqP o (ev a) (ev b) k := rfl
@[simp ↓] theorem val_not {a : X} : valP P (.not a) ev ob k = notP (ev a) k := rfl
@[simp ↓] theorem val_neg {a : X} : valP P (.neg a) ev ob k = negP (ev a) k := rfl
@[simp ↓] theorem val_idx {n : Nat} {a b : X} : valP P (.idx n a b) ev ob k = idxP n (ev a) (ev b) k := rfl
@[simp ↓] theorem val_ida {m n : Nat} {a b : X} : valP P (.ida m n a b) ev ob k = idaP m n (ev a) (ev b) k := rfl
@[simp ↓] theorem val_fld {n : Nat} {a : X} : valP P (.fld n a) ev ob k = fldP n (ev a) k := rfl
@[simp ↓] theorem val_ld1 {a : X} : valP P (.ld1 a) ev ob k = ld1P (obSt ob) (ev a) k := rfl
@[simp ↓] theorem val_ldn {n : Nat} {a : X} : valP P (.ldn n a) ev ob k = ldnP n (obSt ob) (ev a) k := rfl
@[simp ↓] theorem val_slc {n : Nat} {x : X} {lo hi m : Option X} : valP P (.slc n x lo hi m) ev ob k = slcP n (ev x) (lo.map ev) (hi.map ev) (m.map ev) k := rfl
@[simp ↓] theorem val_len {x : X} : valP P (.len x) ev ob k = lenP (ev x) k := rfl
@[simp ↓] theorem val_slen {x : X} : valP P (.slen x) ev ob k = slenP (ev x) k := rfl
@[simp ↓] theorem val_mn {xs : List X} : valP P (.mn xs) ev ob k = mmP (fun x y => if y < x then y else x) (xs.map ev) k := rfl
@[simp ↓] theorem val_mx {xs : List X} : valP P (.mx xs) ev ob k = mmP (fun x y => if x < y then y else x) (xs.map ev) k := rfl
@[simp ↓] theorem val_ext {n : Nat} {x : X} : valP P (.ext n x) ev ob k = extP n (ev x) k := rfl
@[simp ↓] theorem val_call {f : Nat} {xs : List X} : valP P (.call f xs) ev ob k = callDT P f (xs.map ev) ob k ⟨⟩ := rfl
@[simp ↓] theorem val_ixs {x i : X} : valP P (.ixs x i) ev ob k = ixsP (ev x) (ev i) k := rfl
end

@[simp] theorem ev_t {s : St} {n : Nat} : s.ev (.t n) = s.env n := rfl
@[simp] theorem ev_k {s : St} {a : AV} : s.ev (.k a) = a := rfl
@[simp] theorem put_none {s : St} {v : AV} : s.put none v = s := rfl
@[simp] theorem put_env {s : St} {d t : Nat} {v : AV} : (s.put (some d) v).env t = if t = d then v else s.env t := rfl
@[simp] theorem put_objs {s : St} {d : Option Nat} {v : AV} : (s.put d v).objs = s.objs := by cases d <;> rfl
@[simp] theorem put_ob {s : St} {d : Option Nat} {id : Nat} {v : AV} : (s.put d v).ob id = s.ob id := by cases d <;> rfl
@[simp] theorem setOb_env {s : St} {id t : Nat} {o : Obj} : (s.setOb id o).env t = s.env t := rfl
@[simp] theorem setOb_ob {s : St} {id i : Nat} {o : Obj} : (s.setOb id o).ob i = if i = id then o else s.ob i := rfl
@[simp] theorem setOb_objs {s : St} {id i : Nat} {o : Obj} : (s.setOb id o).objs i = if i = id then o else s.objs i := rfl
@[simp] theorem renew_env {s : St} {id t : Nat} {o : Obj} : (s.renew id o).env t = (s.env t).kill id := rfl
@[simp] theorem renew_ob {s : St} {id i : Nat} {o : Obj} : (s.renew id o).ob i = if i = id then o else (s.ob i).kill id := rfl
@[simp] theorem renew_objs {s : St} {id i : Nat} {o : Obj} : (s.renew id o).objs i = if i = id then o else (s.objs i).kill id := rfl
@[simp] theorem obSt_ob {f : Nat → Obj} {i : Nat} : (obSt f).ob i = f i := rfl
@[simp] theorem objs_ob {s : St} {i : Nat} : s.objs i = s.ob i := rfl
@[simp] theorem stOf_env {L : List (Nat × AV)} {O : List (Nat × Obj)} {t : Nat} : (stOf L O).env t = look .any L t := rfl
@[simp] theorem stOf_ob {L : List (Nat × AV)} {O : List (Nat × Obj)} {t : Nat} : (stOf L O).ob t = look .none O t := rfl
@[simp] theorem initSt_env {l : List AV} {t : Nat} : (initSt l).env t = (l[t]?).getD .any := rfl
@[simp] theorem initSt_ob {l : List AV} {t : Nat} : (initSt l).ob t = .none := rfl
@[simp] theorem mk_env {e : Nat → AV} {o : Nat → Obj} {t : Nat} : (St.mk e o).env t = e t := rfl
@[simp] theorem mk_ob {e : Nat → AV} {o : Nat → Obj} {t : Nat} : (St.mk e o).ob t = o t := rfl
@[simp] theorem look_nil {α : Type} {d : α} {t : Nat} : look d [] t = d := rfl
@[simp] theorem look_cons' {α : Type} {d v : α} {k t : Nat} {l : List (Nat × α)} : look d ((k, v) :: l) t = if t = k then v else look d l t := rfl
@[simp] theorem upd_app {α : Type} {k : Nat} {v : α} {f : Nat → α} {n : Nat} : upd k v f n = if n = k then v else f n := rfl
@[simp] theorem isNone_none : Obj.none.isNone = true := rfl
@[simp] theorem isNone_box {l : List AV} : (Obj.box l).isNone = false := rfl
@[simp] theorem isNone_row {k : Nat} {l : List (List C)} : (Obj.row k l).isNone = false := rfl

@[simp ↓] theorem newP_some {s : St} {d : Nat} {o : Obj} {v : Nat → AV} {K : St → Prop} : newP s (some d) o v K = ((s.ob d).isNone = true ∧ K ((s.setOb d o).put (some d) (v d))) := rfl
@[simp] theorem pickP_t {a b : AV} {k : AV → Prop} : pickP (.c (.b true)) a b k = k a := by
  unfold pickP; simp only; split <;> simp
@[simp] theorem pickP_f {a b : AV} {k : AV → Prop} : pickP (.c (.b false)) a b k = k b := by
  unfold pickP; simp only; split <;> simp
@[simp] theorem pickP_bbb {t x y : Bool} {k : AV → Prop} : pickP (.c (.b t)) (.c (.b x)) (.c (.b y)) k = k (.c (.b (cond t x y))) := rfl
@[simp] theorem binP_ii {o : BinOp} {a b : Int} {k : AV → Prop} : binP o (.c (.i a)) (.c (.i b)) k = binI o a b k := rfl
@[simp] theorem binI_add {a b : Int} {k : AV → Prop} : binI .add a b k = (inI (a + b) ∧ k (.c (.i (a + b)))) := rfl
@[simp] theorem binI_sub {a b : Int} {k : AV → Prop} : binI .sub a b k = (inI (a - b) ∧ k (.c (.i (a - b)))) := rfl
@[simp] theorem binI_mul {a b : Int} {k : AV → Prop} : binI .mul a b k = (inI (a * b) ∧ k (.c (.i (a * b)))) := rfl
@[simp] theorem binI_quo {a b : Int} {k : AV → Prop} : binI .quo a b k = (b ≠ 0 ∧ inI (a.tdiv b) ∧ k (.c (.i (a.tdiv b)))) := rfl
@[simp] theorem binI_rem {a b : Int} {k : AV → Prop} : binI .rem a b k = (b ≠ 0 ∧ inI (a.tmod b) ∧ k (.c (.i (a.tmod b)))) := rfl
@[simp] theorem binI_eql {a b : Int} {k : AV → Prop} : binI .eql a b k = k (.c (.b (decide (a = b)))) := rfl
@[simp] theorem binI_neq {a b : Int} {k : AV → Prop} : binI .neq a b k = k (.c (.b (!decide (a = b)))) := rfl
@[simp] theorem binI_lss {a b : Int} {k : AV → Prop} : binI .lss a b k = k (.c (.b (decide (a < b)))) := rfl
@[simp] theorem binI_leq {a b : Int} {k : AV → Prop} : binI .leq a b k = k (.c (.b (decide (a ≤ b)))) := rfl
@[simp] theorem binI_gtr {a b : Int} {k : AV → Prop} : binI .gtr a b k = k (.c (.b (decide (b < a)))) := rfl
@[simp] theorem binI_geq {a b : Int} {k : AV → Prop} : binI .geq a b k = k (.c (.b (decide (b ≤ a)))) := rfl
@[simp] theorem beqP_ff {a b : Bool} {k : AV → Prop} : beqP false (.c (.b a)) (.c (.b b)) k = k (.c (.b (decide (a = b)))) := rfl
@[simp] theorem beqP_tt {a b : Bool} {k : AV → Prop} : beqP true (.c (.b a)) (.c (.b b)) k = k (.c (.b (!decide (a = b)))) := rfl
@[simp] theorem notP_b {a : Bool} {k : AV → Prop} : notP (.c (.b a)) k = k (.c (.b !a)) := rfl
@[simp] theorem negP_i {a : Int} {k : AV → Prop} : negP (.c (.i a)) k = (inI (-a) ∧ k (.c (.i (-a)))) := rfl
@[simp] theorem isnP_sl {n : Nat} {rows : List (List C)} {k : AV → Prop} : isnP (.c (.sl n rows)) k = ∀ v : Bool, (v = true → rows = []) → k (.c (.b v)) := rfl
@[simp] theorem isnP_nil {k : AV → Prop} : isnP .nil k = k (.c (.b true)) := rfl
@[simp] theorem idxP_sl {m m' : Nat} {rows : List (List C)} {n : Int} {k : AV → Prop} : idxP m (.c (.sl m' rows)) (.c (.i n)) k = (m' = m ∧ 0 ≤ n ∧ n < rows.length ∧ k (.elt (rows.getD n.toNat []))) := rfl
@[simp] theorem idxP_clip {m m' : Nat} {rows : List (List C)} {n : Int} {k : AV → Prop} : idxP m (.clip m' rows) (.c (.i n)) k = (m' = m ∧ 0 ≤ n ∧ n < rows.length ∧ k (.elt (rows.getD n.toNat []))) := rfl
@[simp] theorem idxP_own {id m m' r : Nat} {n : Int} {k : AV → Prop} : idxP m (.own id m' r) (.c (.i n)) k = (m' = m ∧ 0 ≤ n ∧ n < (r : Int) ∧ k (.row id m n 0)) := rfl
@[simp] theorem idaP_row {id m m' n : Nat} {j q : Int} {k : AV → Prop} : idaP m n (.row id m' j 0) (.c (.i q)) k = (m' = m ∧ j = 0 ∧ 0 ≤ q ∧ q < (n : Int) ∧ k (.row id m q 0)) := rfl
@[simp] theorem fldP_box {off id o : Nat} {k : AV → Prop} : fldP off (.box id o) k = k (.box id (o + off)) := rfl
@[simp] theorem fldP_row {off id m o : Nat} {i : Int} {k : AV → Prop} : fldP off (.row id m i o) k = k (.row id m i (o + off)) := rfl
@[simp] theorem fldP_elt {off : Nat} {cs : List C} {k : AV → Prop} : fldP off (.elt cs) k = k (.elt (cs.drop off)) := rfl
@[simp] theorem ld1P_elt {s : St} {x : C} {cs : List C} {k : AV → Prop} : ld1P s (.elt (x :: cs)) k = k (.c x) := rfl
@[simp] theorem ldnP_elt {n : Nat} {s : St} {cs : List C} {k : AV → Prop} : ldnP n s (.elt cs) k = (n ≤ cs.length ∧ k (.agg ((cs.take n).map .c))) := rfl
def boxLd (k : AV → Prop) (o : Nat) : Obj → Prop
  | .box cells => match cells[o]? with
    | some v => k v
    | none => False
  | _ => False
@[congr] theorem boxLd_cong {o : Nat} {a a' : Obj} {k : AV → Prop} (h : a = a') : boxLd k o a = boxLd k o a' := by rw [h]
@[simp] theorem ld1P_box {s : St} {id o : Nat} {k : AV → Prop} : ld1P s (.box id o) k = boxLd k o (s.ob id) := rfl
def optK (k : AV → Prop) : Option AV → Prop | some v => k v | none => False
@[congr] theorem optK_cong {a a' : Option AV} {k : AV → Prop} (h : a = a') : optK k a = optK k a' := by rw [h]
@[simp] theorem optK_some {v : AV} {k : AV → Prop} : optK k (some v) = k v := rfl
@[simp] theorem boxLd_box {o : Nat} {cells : List AV} {k : AV → Prop} : boxLd k o (.box cells) = optK k cells[o]? := by simp only [boxLd, optK]
def boxLdn (k : AV → Prop) (n o : Nat) : Obj → Prop
  | .box cells => o + n ≤ cells.length ∧ k (.agg ((cells.drop o).take n))
  | _ => False
@[congr] theorem boxLdn_cong {n o : Nat} {a a' : Obj} {k : AV → Prop} (h : a = a') : boxLdn k n o a = boxLdn k n o a' := by rw [h]
@[simp] theorem ldnP_box {s : St} {id o n : Nat} {k : AV → Prop} : ldnP n s (.box id o) k = boxLdn k n o (s.ob id) := rfl
@[simp] theorem boxLdn_box {n o : Nat} {cells : List AV} {k : AV → Prop} : boxLdn k n o (.box cells) = (o + n ≤ cells.length ∧ k (.agg ((cells.drop o).take n))) := rfl
def rowLd (k : AV → Prop) (m : Nat) (i : Int) (o : Nat) : Obj → Prop
  | .row k' rows => k' = m ∧ i.toNat < rows.length ∧ o < m ∧ k (.c ((rows.getD i.toNat []).getD o default))
  | _ => False
@[congr] theorem rowLd_cong {m o : Nat} {i : Int} {a a' : Obj} {k : AV → Prop} (h : a = a') : rowLd k m i o a = rowLd k m i o a' := by rw [h]
@[simp] theorem ld1P_row {s : St} {id m o : Nat} {i : Int} {k : AV → Prop} : ld1P s (.row id m i o) k = rowLd k m i o (s.ob id) := rfl
@[simp] theorem rowLd_row {m m' o : Nat} {i : Int} {rows : List (List C)} {k : AV → Prop} : rowLd k m i o (.row m' rows) = (m' = m ∧ i.toNat < rows.length ∧ o < m ∧ k (.c ((rows.getD i.toNat []).getD o default))) := rfl
def rowLdn (k : AV → Prop) (n m : Nat) (i : Int) (o : Nat) : Obj → Prop
  | .row k' rows => k' = m ∧ i.toNat < rows.length ∧ o + n ≤ m ∧ k (.agg ((((rows.getD i.toNat []).drop o).take n).map .c))
  | _ => False
@[congr] theorem rowLdn_cong {n m o : Nat} {i : Int} {a a' : Obj} {k : AV → Prop} (h : a = a') : rowLdn k n m i o a = rowLdn k n m i o a' := by rw [h]
@[simp] theorem ldnP_row {s : St} {id m o n : Nat} {i : Int} {k : AV → Prop} : ldnP n s (.row id m i o) k = rowLdn k n m i o (s.ob id) := rfl
@[simp] theorem rowLdn_row {n m m' o : Nat} {i : Int} {rows : List (List C)} {k : AV → Prop} : rowLdn k n m i o (.row m' rows) = (m' = m ∧ i.toNat < rows.length ∧ o + n ≤ m ∧ k (.agg ((((rows.getD i.toNat []).drop o).take n).map .c))) := rfl
def boxSt (K : St → Prop) (s : St) (id o : Nat) (v : AV) : Obj → Prop
  | .box cells => o < cells.length ∧ v.cellOk = true ∧ K (s.setOb id (.box (cells.set o v)))
  | _ => False
@[congr] theorem boxSt_cong {s : St} {id o : Nat} {v : AV} {a a' : Obj} {K : St → Prop} (h : a = a') : boxSt K s id o v a = boxSt K s id o v a' := by rw [h]
@[simp] theorem st1P_box {s : St} {id o : Nat} {v : AV} {K : St → Prop} : st1P s (.box id o) v K = boxSt K s id o v (s.ob id) := rfl
@[simp] theorem boxSt_box {s : St} {id o : Nat} {v : AV} {cells : List AV} {K : St → Prop} : boxSt K s id o v (.box cells) = (o < cells.length ∧ v.cellOk = true ∧ K (s.setOb id (.box (cells.set o v)))) := rfl
def rowSt (K : St → Prop) (s : St) (id m : Nat) (i : Int) (o : Nat) (c : C) : Obj → Prop
  | .row k' rows => k' = m ∧ i.toNat < rows.length ∧ o < m ∧ K (s.setOb id (.row m (rows.set i.toNat ((rows.getD i.toNat []).set o c))))
  | _ => False
@[congr] theorem rowSt_cong {s : St} {id m o : Nat} {i : Int} {c : C} {a a' : Obj} {K : St → Prop} (h : a = a') : rowSt K s id m i o c a = rowSt K s id m i o c a' := by rw [h]
@[simp] theorem st1P_row {s : St} {id m o : Nat} {i : Int} {c : C} {K : St → Prop} : st1P s (.row id m i o) (.c c) K = rowSt K s id m i o c (s.ob id) := by
  simp only [st1P, AV.toC, rowSt]
  cases s.ob id <;> rfl
@[simp] theorem rowSt_row {s : St} {id m m' o : Nat} {i : Int} {c : C} {rows : List (List C)} {K : St → Prop} : rowSt K s id m i o c (.row m' rows) = (m' = m ∧ i.toNat < rows.length ∧ o < m ∧ K (s.setOb id (.row m (rows.set i.toNat ((rows.getD i.toNat []).set o c))))) := rfl
def boxStn (K : St → Prop) (s : St) (id o n : Nat) (l : List AV) : Obj → Prop
  | .box cells => o + n ≤ cells.length ∧ l.all AV.cellOk = true ∧ K (s.setOb id (.box (cells.take o ++ l ++ cells.drop (o + n))))
  | _ => False
@[congr] theorem boxStn_cong {s : St} {id o n : Nat} {l : List AV} {a a' : Obj} {K : St → Prop} (h : a = a') : boxStn K s id o n l a = boxStn K s id o n l a' := by rw [h]
@[simp] theorem stnP_box {s : St} {id o n : Nat} {l : List AV} {K : St → Prop} : stnP n s (.box id o) (.agg l) K = (l.length = n ∧ boxStn K s id o n l (s.ob id)) := rfl
@[simp] theorem boxStn_box {s : St} {id o n : Nat} {l cells : List AV} {K : St → Prop} : boxStn K s id o n l (.box cells) = (o + n ≤ cells.length ∧ l.all AV.cellOk = true ∧ K (s.setOb id (.box (cells.take o ++ l ++ cells.drop (o + n))))) := rfl
def rowStn (K : St → Prop) (s : St) (id m : Nat) (i : Int) (o n : Nat) (l : Option (List C)) : Obj → Prop
  | .row k' rows => match l with
    | some cs => k' = m ∧ i.toNat < rows.length ∧ o + n ≤ m ∧ K (s.setOb id (.row m (rows.set i.toNat ((rows.getD i.toNat []).take o ++ cs ++ (rows.getD i.toNat []).drop (o + n)))))
    | none => False
  | _ => False
@[congr] theorem rowStn_cong {s : St} {id m o n : Nat} {i : Int} {l l' : Option (List C)} {a a' : Obj} {K : St → Prop} (h : a = a') (h2 : l = l') : rowStn K s id m i o n l a = rowStn K s id m i o n l' a' := by rw [h, h2]
@[simp] theorem stnP_row {s : St} {id m o n : Nat} {i : Int} {l : List AV} {K : St → Prop} : stnP n s (.row id m i o) (.agg l) K = (l.length = n ∧ rowStn K s id m i o n (AV.toCs l) (s.ob id)) := by
  simp only [stnP]
  congr 1
  unfold rowStn
  cases s.ob id <;> cases AV.toCs l <;> rfl
@[simp] theorem rowStn_row {s : St} {id m m' o n : Nat} {i : Int} {cs : List C} {rows : List (List C)} {K : St → Prop} : rowStn K s id m i o n (some cs) (.row m' rows) =
    (m' = m ∧ i.toNat < rows.length ∧ o + n ≤ m ∧ K (s.setOb id (.row m (rows.set i.toNat ((rows.getD i.toNat []).take o ++ cs ++ (rows.getD i.toNat []).drop (o + n)))))) := rfl

@[simp] theorem toCs_nil : AV.toCs [] = some [] := rfl
@[simp] theorem toCs_c {x : C} {l : List AV} : AV.toCs (.c x :: l) = (AV.toCs l).map (x :: ·) := by simp only [AV.toCs, AV.toC]; cases AV.toCs l <;> rfl
@[simp] theorem toCs_map {l : List C} : AV.toCs (l.map .c) = some l := by
  induction l with
  | nil => rfl
  | cons x l ih => simp [ih]
@[simp] theorem all_cellOk_map {l : List C} : (l.map AV.c).all AV.cellOk = true := by simp [List.all_eq_true]; intro x _; rfl
@[simp] theorem cellOk_c {x : C} : (AV.c x).cellOk = true := rfl
@[simp] theorem cellOk_nil : AV.nil.cellOk = true := rfl
@[simp] theorem cellOk_own {a b c : Nat} : (AV.own a b c).cellOk = true := rfl
@[simp] theorem cellsOf_agg {l : List AV} : (AV.agg l).cellsOf = l := rfl
@[simp] theorem cellsOf_c {x : C} : (AV.c x).cellsOf = [.c x] := rfl
@[simp] theorem cellsOf_nil : AV.nil.cellsOf = [.nil] := rfl
@[simp] theorem cellsOf_own {a b c : Nat} : (AV.own a b c).cellsOf = [.own a b c] := rfl
@[simp ↓] theorem boxP_eq {n : Nat} {s : St} {d : Option Nat} {x : AV} {K : St → Prop} : boxP n s d x K = (x.cellsOf.length = n ∧ x.cellsOf.all AV.cellOk = true ∧ newP s d (.box x.cellsOf) (fun d => .box d 0) K) := rfl
@[simp] theorem mksP_eq {k b : Nat} {z : List C} {s : St} {d : Option Nat} {n m : Int} {K : St → Prop} : mksP k b z s d (.c (.i n)) (.c (.i m)) K =
    (0 ≤ n ∧ n ≤ m ∧ (b : Int) * m ≤ 281474976710656 ∧ newP s d (.row k (List.replicate n.toNat z)) (fun d => .own d k n.toNat) K) := rfl
def bslO (k : Nat) (s : St) (d : Option Nat) (K : St → Prop) : Option (List (List C)) → Prop
  | some rows => (∀ r ∈ rows, r.length = k) ∧ newP s d (.row k rows) (fun d => .own d k rows.length) K
  | none => False
@[congr] theorem bslO_cong {k : Nat} {s : St} {d : Option Nat} {K : St → Prop} {a a' : Option (List (List C))} (h : a = a') : bslO k s d K a = bslO k s d K a' := by rw [h]
@[simp] theorem bslP_eq {k : Nat} {xs : List AV} {s : St} {d : Option Nat} {K : St → Prop} : bslP k xs s d K = bslO k s d K (AV.rowsOf xs) := by unfold bslP bslO; cases AV.rowsOf xs <;> rfl
@[simp] theorem bslO_some {k : Nat} {s : St} {d : Option Nat} {K : St → Prop} {rows : List (List C)} : bslO k s d K (some rows) = ((∀ r ∈ rows, r.length = k) ∧ newP s d (.row k rows) (fun d => .own d k rows.length) K) := rfl
@[simp] theorem rowsOf_nil : AV.rowsOf [] = some [] := rfl
@[simp] theorem rowsOf_cons {x : AV} {l : List AV} : AV.rowsOf (x :: l) = (x.rowOf).bind fun r => (AV.rowsOf l).map (r :: ·) := by
  simp only [AV.rowsOf]; cases x.rowOf <;> cases AV.rowsOf l <;> rfl
@[simp] theorem rowOf_c {x : C} : (AV.c x).rowOf = some [x] := rfl
@[simp] theorem rowOf_agg {l : List AV} : (AV.agg l).rowOf = AV.toCs l := rfl
@[simp] theorem slcP_1 {k k' : Nat} {rows : List (List C)} {l h : Int} {K : AV → Prop} : slcP k (.c (.sl k' rows)) (some (.c (.i l))) (some (.c (.i h))) none K = (k' = k ∧ 0 ≤ l ∧ l ≤ h ∧ h ≤ rows.length ∧ K (.c (.sl k ((rows.take h.toNat).drop l.toNat)))) := rfl
@[simp] theorem slcP_2 {k k' : Nat} {rows : List (List C)} {l : Int} {K : AV → Prop} : slcP k (.c (.sl k' rows)) (some (.c (.i l))) none none K = (k' = k ∧ 0 ≤ l ∧ l ≤ rows.length ∧ K (.c (.sl k (rows.drop l.toNat)))) := rfl
@[simp] theorem slcP_3 {k k' : Nat} {rows : List (List C)} {h : Int} {K : AV → Prop} : slcP k (.c (.sl k' rows)) none (some (.c (.i h))) none K = (k' = k ∧ 0 ≤ h ∧ h ≤ rows.length ∧ K (.c (.sl k (rows.take h.toNat)))) := rfl
@[simp] theorem slcP_4 {k k' : Nat} {rows : List (List C)} {h m : Int} {K : AV → Prop} : slcP k (.c (.sl k' rows)) none (some (.c (.i h))) (some (.c (.i m))) K = (k' = k ∧ 0 ≤ h ∧ h = m ∧ h ≤ rows.length ∧ K (.clip k (rows.take h.toNat))) := rfl
@[simp] theorem slcP_5 {k k' id n : Nat} {h : Int} {K : AV → Prop} : slcP k (.own id k' n) none (some (.c (.i h))) none K = (k' = k ∧ 0 ≤ h ∧ h ≤ (n : Int) ∧ K (.own id k h.toNat)) := rfl
@[simp] theorem lenP_sl {k : Nat} {rows : List (List C)} {K : AV → Prop} : lenP (.c (.sl k rows)) K = (rows.length ≤ maxLen → K (.c (.i rows.length))) := rfl
@[simp] theorem lenP_clip {k : Nat} {rows : List (List C)} {K : AV → Prop} : lenP (.clip k rows) K = (rows.length ≤ maxLen → K (.c (.i rows.length))) := rfl
@[simp] theorem lenP_own {id k n : Nat} {K : AV → Prop} : lenP (.own id k n) K = (n ≤ maxLen → K (.c (.i n))) := rfl
@[simp] theorem lenP_nil {K : AV → Prop} : lenP .nil K = K (.c (.i 0)) := rfl
@[simp] theorem slenP_s {bs : ByteArray} {K : AV → Prop} : slenP (.c (.s bs)) K = (bs.size ≤ maxLen → K (.c (.i bs.size))) := rfl
def mmK (f : Int → Int → Int) (K : AV → Prop) : Option (List Int) → Prop
  | some (n :: r) => K (.c (.i (r.foldl f n)))
  | _ => False
@[congr] theorem mmK_cong {f : Int → Int → Int} {K : AV → Prop} {a a' : Option (List Int)} (h : a = a') : mmK f K a = mmK f K a' := by rw [h]
@[simp] theorem mmP_eq {f : Int → Int → Int} {l : List AV} {K : AV → Prop} : mmP f l K = mmK f K (intsOf l) := rfl
@[simp] theorem mmK_some {f : Int → Int → Int} {n : Int} {r : List Int} {K : AV → Prop} : mmK f K (some (n :: r)) = K (.c (.i (r.foldl f n))) := rfl
@[simp] theorem intsOf_nil : intsOf [] = some [] := rfl
@[simp] theorem intsOf_cons {n : Int} {l : List AV} : intsOf (.c (.i n) :: l) = (intsOf l).map (n :: ·) := rfl
@[simp] theorem extP_tup {i : Nat} {l : List AV} {K : AV → Prop} : extP i (.tup l) K = optK K l[i]? := by unfold extP optK; simp only; cases l[i]? <;> rfl
@[simp] theorem ixsP_eq {bs : ByteArray} {n : Int} {K : AV → Prop} : ixsP (.c (.s bs)) (.c (.i n)) K = (0 ≤ n ∧ n < bs.size ∧ K (.c (.u (bs[n.toNat]?.getD 0).toNat))) := rfl
def appK (k by_ : Nat) (s : St) (d : Option Nat) (x : AV) (K : St → Prop) : Option (List (List C)) → Prop
  | some new => match x with
    | .nil => new.length * by_ ≤ 140737488355328 ∧ newP s d (.row k new) (fun d => .own d k new.length) K
    | .clip k' rows => k' = k ∧ 0 < new.length ∧ (rows.length + new.length) * by_ ≤ 140737488355328 ∧ newP s d (.row k (rows ++ new)) (fun d => .own d k (rows.length + new.length)) K
    | .own id k' n => match s.ob id with
      | .row _ rows => k' = k ∧ n = rows.length ∧ (rows.length + new.length) * by_ ≤ 140737488355328 ∧
          K ((s.renew id (.row k (rows ++ new))).put d (.own id k (rows.length + new.length)))
      | _ => False
    | _ => False
  | none => False
@[congr] theorem appK_cong {k b : Nat} {s : St} {d : Option Nat} {x : AV} {K : St → Prop} {a a' : Option (List (List C))} (h : a = a') : appK k b s d x K a = appK k b s d x K a' := by rw [h]
@[simp] theorem appP_eq {k b : Nat} {s : St} {d : Option Nat} {x y : AV} {K : St → Prop} : appP k b s d x y K = appK k b s d x K (srcRows s k y) := by
  unfold appP appK; cases srcRows s k y <;> rfl
@[simp] theorem appK_nil {k b : Nat} {s : St} {d : Option Nat} {K : St → Prop} {new : List (List C)} : appK k b s d .nil K (some new) = (new.length * b ≤ 140737488355328 ∧ newP s d (.row k new) (fun d => .own d k new.length) K) := rfl
@[simp] theorem appK_clip {k k' b : Nat} {s : St} {d : Option Nat} {K : St → Prop} {rows new : List (List C)} : appK k b s d (.clip k' rows) K (some new) =
    (k' = k ∧ 0 < new.length ∧ (rows.length + new.length) * b ≤ 140737488355328 ∧ newP s d (.row k (rows ++ new)) (fun d => .own d k (rows.length + new.length)) K) := rfl
def appO (k b : Nat) (s : St) (d : Option Nat) (id k' n : Nat) (new : List (List C)) (K : St → Prop) : Obj → Prop
  | .row _ rows => k' = k ∧ n = rows.length ∧ (rows.length + new.length) * b ≤ 140737488355328 ∧ K ((s.renew id (.row k (rows ++ new))).put d (.own id k (rows.length + new.length)))
  | _ => False
@[congr] theorem appO_cong {k b : Nat} {s : St} {d : Option Nat} {id k' n : Nat} {new : List (List C)} {K : St → Prop} {a a' : Obj} (h : a = a') : appO k b s d id k' n new K a = appO k b s d id k' n new K a' := by rw [h]
@[simp] theorem appK_own {k k' b id n : Nat} {s : St} {d : Option Nat} {K : St → Prop} {new : List (List C)} : appK k b s d (.own id k' n) K (some new) = appO k b s d id k' n new K (s.ob id) := by
  simp only [appK, appO]
@[simp] theorem appO_row {k k' b id n q : Nat} {s : St} {d : Option Nat} {K : St → Prop} {rows new : List (List C)} : appO k b s d id k' n new K (.row q rows) =
    (k' = k ∧ n = rows.length ∧ (rows.length + new.length) * b ≤ 140737488355328 ∧ K ((s.renew id (.row k (rows ++ new))).put d (.own id k (rows.length + new.length)))) := rfl
@[simp] theorem srcRows_sl {s : St} {k k' : Nat} {rows : List (List C)} : srcRows s k (.c (.sl k' rows)) = if k' = k then some rows else none := rfl
@[simp] theorem srcRows_clip {s : St} {k k' : Nat} {rows : List (List C)} : srcRows s k (.clip k' rows) = if k' = k then some rows else none := rfl
@[simp] theorem srcRows_nil {s : St} {k : Nat} : srcRows s k .nil = some [] := rfl
def srcO (k k' n : Nat) : Obj → Option (List (List C))
  | .row _ rows => if k' = k then some (rows.take n) else none
  | _ => none
@[simp] theorem srcRows_own {s : St} {k k' id n : Nat} : srcRows s k (.own id k' n) = srcO k k' n (s.ob id) := by simp only [srcRows, srcO]; cases s.ob id <;> rfl
@[simp] theorem srcO_row {k k' n q : Nat} {rows : List (List C)} : srcO k k' n (.row q rows) = if k' = k then some (rows.take n) else none := rfl
@[simp] theorem kill_c {id : Nat} {x : C} : (AV.c x).kill id = .c x := rfl
@[simp] theorem kill_any {id : Nat} : AV.any.kill id = .any := rfl
@[simp] theorem kill_und {id : Nat} : AV.und.kill id = .und := rfl
@[simp] theorem kill_nil {id : Nat} : AV.nil.kill id = .nil := rfl
@[simp] theorem kill_clip {id k : Nat} {r : List (List C)} : (AV.clip k r).kill id = .clip k r := rfl
@[simp] theorem kill_elt {id : Nat} {r : List C} : (AV.elt r).kill id = .elt r := rfl
@[simp] theorem kill_box {id i o : Nat} : (AV.box i o).kill id = if i = id then .any else .box i o := by
  simp only [AV.kill, AV.kill1, AV.free1]; by_cases h : i = id <;> simp [h]
@[simp] theorem kill_own {id i k n : Nat} : (AV.own i k n).kill id = if i = id then .any else .own i k n := by
  simp only [AV.kill, AV.kill1, AV.free1]; by_cases h : i = id <;> simp [h]
@[simp] theorem kill_row {id i k o : Nat} {n : Int} : (AV.row i k n o).kill id = if i = id then .any else .row i k n o := by
  simp only [AV.kill, AV.kill1, AV.free1]; by_cases h : i = id <;> simp [h]
@[simp] theorem kill1_c {id : Nat} {x : C} : (AV.c x).kill1 id = .c x := rfl
@[simp] theorem kill_aggc {id : Nat} {l : List C} : (AV.agg (l.map .c)).kill id = .agg (l.map .c) := by simp [AV.kill]
@[simp] theorem kill_agg {id : Nat} {l : List AV} : (AV.agg l).kill id = .agg (l.map (AV.kill1 id)) := rfl
@[simp] theorem okill_box {id : Nat} {l : List AV} : (Obj.box l).kill id = .box (l.map (AV.kill1 id)) := rfl
@[simp] theorem okill_row {id k : Nat} {l : List (List C)} : (Obj.row k l).kill id = .row k l := rfl
@[simp] theorem okill_none {id : Nat} : Obj.none.kill id = .none := rfl
@[simp ↓] theorem bldPs_nil {s : St} {l : List AV} {K : List AV → Prop} : bldPs s [] l K = K l := rfl
@[simp ↓] theorem bldPs_cons {s : St} {o n : Nat} {x : X} {ps : List (Nat × Nat × X)} {l : List AV} {K : List AV → Prop} : bldPs s ((o, n, x) :: ps) l K =
    ((s.ev x).cellsOf.length = n ∧ (s.ev x).cellsOf.all AV.cellOk = true ∧ o + n ≤ l.length ∧ bldPs s ps (l.take o ++ (s.ev x).cellsOf ++ l.drop (o + n)) K) := rfl

@[simp] theorem out1_c {s : St} {z : C} {y : AV} : out1 s (.c z) y = (y = .c z) := rfl
@[simp] theorem out1_clip {s : St} {k : Nat} {r : List (List C)} {y : AV} : out1 s (.clip k r) y = (y = .c (.sl k r)) := rfl
@[simp] theorem out1_nil {s : St} {y : AV} : out1 s .nil y = ∃ k, y = .c (.sl k []) := rfl
def outO (k n : Nat) (y : AV) : Obj → Prop
  | .row _ rows => y = .c (.sl k (rows.take n))
  | _ => False
@[simp] theorem out1_own {s : St} {id k n : Nat} {y : AV} : out1 s (.own id k n) y = outO k n y (s.ob id) := by simp only [out1, outO]; cases s.ob id <;> rfl
@[simp] theorem outO_row {k n q : Nat} {rows : List (List C)} {y : AV} : outO k n y (.row q rows) = (y = .c (.sl k (rows.take n))) := rfl
@[simp] theorem outs1_nil {s : St} : outs1 s [] [] = True := rfl
@[simp] theorem outs1_cons {s : St} {x y : AV} {l l' : List AV} : outs1 s (x :: l) (y :: l') = (out1 s x y ∧ outs1 s l l') := rfl
@[simp] theorem outs1_map {s : St} {l : List C} : outs1 s (l.map .c) (l.map .c) = True := by
  induction l with
  | nil => rfl
  | cons x l ih => simp [ih]
@[simp] theorem out2_agg {s : St} {l l' : List AV} : out2 s (.agg l) (.agg l') = outs1 s l l' := rfl
@[simp] theorem out2_c {s : St} {z : C} {y : AV} : out2 s (.c z) y = (y = .c z) := rfl
@[simp] theorem out2_clip {s : St} {k : Nat} {r : List (List C)} {y : AV} : out2 s (.clip k r) y = (y = .c (.sl k r)) := rfl
@[simp] theorem out2_nil {s : St} {y : AV} : out2 s .nil y = ∃ k, y = .c (.sl k []) := rfl
@[simp] theorem out2_own {s : St} {id k n : Nat} {y : AV} : out2 s (.own id k n) y = outO k n y (s.ob id) := out1_own
@[simp] theorem outs2_nil {s : St} : outs2 s [] [] = True := rfl
@[simp] theorem outs2_cons {s : St} {x y : AV} {l l' : List AV} : outs2 s (x :: l) (y :: l') = (out2 s x y ∧ outs2 s l l') := rfl
@[simp] theorem resP_one {s : St} {r : RS} {y : AV} : resP s [r] y = resOne s r y := rfl
@[simp] theorem resP_two {s : St} {r r' : RS} {y : AV} : resP s [r, r'] y = ∃ ys, y = .tup ys ∧ resAll s [r, r'] ys := rfl
@[simp] theorem resP_three {s : St} {r r' r2 : RS} {y : AV} : resP s [r, r', r2] y = ∃ ys, y = .tup ys ∧ resAll s [r, r', r2] ys := rfl
@[simp] theorem resAll_nil {s : St} : resAll s [] [] = True := rfl
@[simp] theorem resAll_cons {s : St} {r : RS} {rs : List RS} {y : AV} {ys : List AV} : resAll s (r :: rs) (y :: ys) = (resOne s r y ∧ resAll s rs ys) := rfl
@[simp] theorem resOne_t {s : St} {n : Nat} {y : AV} : resOne s (.t n) y = out2 s (s.env n) y := rfl
def clA (s : St) (k : Nat) (y : AV) : AV → Prop
  | .box id 0 => match s.ob id with
    | .box cells => cells.length = k ∧ out2 s (.agg cells) y
    | _ => False
  | _ => False
@[congr] theorem clA_cong {s : St} {k : Nat} {y a a' : AV} (h : a = a') : clA s k y a = clA s k y a' := by rw [h]
@[simp] theorem resOne_cl {s : St} {n k : Nat} {y : AV} : resOne s (.cl n k) y = clA s k y (s.env n) := by
  simp only [resOne, clA]
  cases s.env n with
  | box id o => cases o <;> rfl
  | _ => rfl
def clO (s : St) (k : Nat) (y : AV) : Obj → Prop
  | .box cells => cells.length = k ∧ out2 s (.agg cells) y
  | _ => False
@[simp] theorem clA_box {s : St} {k id : Nat} {y : AV} : clA s k y (.box id 0) = clO s k y (s.ob id) := by
  simp only [clA, clO]
@[simp] theorem clO_box {s : St} {k : Nat} {y : AV} {cells : List AV} : clO s k y (.box cells) = (cells.length = k ∧ out2 s (.agg cells) y) := rfl
end

/-- An integer list, as rows. -/
def ints (l : List Int) : List (List C) := l.map fun n => [.i n]
@[simp] theorem ints_length {l : List Int} : (ints l).length = l.length := by simp [ints]

/-- Rows made of a list of things. -/
theorem getD_map {α : Type} [Inhabited α] {f : α → List C} {l : List α} {k : Nat} (h : k < l.length) : (l.map f).getD k [] = f (l.getD k default) := by
  simp [List.getD, List.getElem?_eq_getElem h]
theorem ints_getD {l : List Int} {k : Nat} (h : k < l.length) : (ints l).getD k [] = [.i (l.getD k 0)] := by
  simp [ints, List.getD, List.getElem?_eq_getElem h]

end Go.Proofs.Ytenfgllkjgfjpaa
