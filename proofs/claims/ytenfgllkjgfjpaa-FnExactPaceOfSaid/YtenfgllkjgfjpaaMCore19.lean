/- The abstract machine, part 19: results; how a body proves a contract. -/
import Derived.Test.YtenfgllkjgfjpaaMCore18
set_option linter.all false
namespace Go.Proofs.Ytenfgllkjgfjpaa
open Go.RowKit

/-! Results. -/
inductive RS where
  | t (n : Nat)
  | cl (n k : Nat)
  | c1 (n : Nat)

def compRes (P : Program) : ResultVar → Option RS
  | .tmp t => if t < slotM then some (.t t) else none
  | .cell t ty => if t < slotM then match aggB P ty, szOf P ty with
      | some true, some k => some (.cl t k)
      | some false, some _ => some (.c1 t)
      | _, _ => none
    else none
def compRess (P : Program) : List ResultVar → Option (List RS)
  | [] => some []
  | r :: l => match compRes P r, compRess P l with
    | some x, some xs => some (x :: xs)
    | _, _ => none

def resOne (s : St) (r : RS) (y : AV) : Prop :=
  match r with
  | .t n => out2 s (s.env n) y
  | .cl n k => match s.env n with
    | .box id 0 => match s.ob id with
      | .box cells => cells.length = k ∧ out2 s (.agg cells) y
      | _ => False
    | _ => False
  | .c1 n => match s.env n with
    | .box id 0 => match s.ob id with
      | .box [x] => out2 s x y
      | _ => False
    | _ => False
def resAll (s : St) : List RS → List AV → Prop
  | [], [] => True
  | r :: l, y :: l' => resOne s r y ∧ resAll s l l'
  | _, _ => False
def resP (s : St) (rs : List RS) (res : AV) : Prop :=
  match rs with
  | [r] => resOne s r res
  | rs => ∃ ys, res = .tup ys ∧ resAll s rs ys

def initSt (args : List AV) : St := ⟨fun t => (args[t]?).getD .any, fun _ => .none⟩

structure Has (P : Program) (f N : Nat) (c : SC) (rs : List RS) : Prop where
  small : N ≤ slotM
  ok : ∃ fn code, P.funcs[f]? = some fn ∧ fn.body = some code ∧ fn.ntmps = N ∧ comp P N code = some c ∧ compRess P fn.results.toList = some rs

section
variable {P : Program} {g : Ghost} {s : St} {a : Act} {w : World} {blk : Lay}

theorem run_loadVar1' {t : TypeId} (ht : aggB P t = some false) {ad : Addr} {u : Value} (hu : w.cell? ad = some u) : (loadVar t ad).run P w = .ok u w := by
  have := run_loadVar1 ht hu
  simpa [Instr.loadAt, Instr.sureAddr] using this
theorem run_loadVarN' {t : TypeId} {n : Nat} (ht : aggB P t = some true) (hn : szOf P t = some n) {ad : Addr} {us : List Value} (hl : us.length = n) (hu : ∀ j u, us[j]? = some u → w.cell? (ad.add j) = some u) :
    (loadVar t ad).run P w = .ok (.agg us.toArray) w := by
  have := run_loadVarN ht hn hl hu
  simpa [Instr.loadAt, Instr.sureAddr] using this

def resRun (tmps : Array Value) : ResultVar → Sem Value
  | .tmp t => pure (tmps.getD t undef)
  | .cell a t => do loadVar t (← asAddr (tmps.getD a undef))

theorem resOne_ok (h : Repr g s a w blk) {r : ResultVar} {q : RS} {y : AV} (hq : compRes P r = some q) (hy : resOne s q y) : ∃ v, (resRun a.tmps r).run P w = .ok v w ∧ RV2 w (All g w) noO noB v y := by
  cases r with
  | tmp t =>
    simp only [compRes] at hq
    split at hq
    · rename_i hlt
      cases hq
      exact ⟨_, rfl, out2_ok h (fun _ h => h) (h.at_ hlt) hy⟩
    · cases hq
  | cell t ty =>
    simp only [compRes] at hq
    split at hq
    case isFalse => cases hq
    rename_i hlt
    have hen := h.at_ hlt
    split at hq
    · rename_i k h1 h2
      cases hq
      simp only [resOne] at hy
      split at hy
      · rename_i id hid
        rw [hid] at hen
        obtain ⟨b, cells', hO', hb, e1⟩ := hen
        split at hy
        · rename_i cells hO
          obtain ⟨hk, hy⟩ := hy
          obtain ⟨arr, e, b1, b2, b3⟩ := h.box hO hb
          have hr := run_loadVarN' (P := P) (w := w) h1 h2 (ad := ⟨b, 0, none⟩) (us := arr.toList) (by simp; omega) (fun j u hu => by rw [add_lit, Nat.zero_add, cell_of w b1]; simpa using hu)
          refine ⟨.agg arr, ?_, out2_ok h (fun _ h => h) (x := .agg cells) ⟨arr, rfl, b2, b3⟩ hy⟩
          simp [resRun, e1, asAddr, hr]
        · exact hy.elim
      · exact hy.elim
    · rename_i k h1 h2
      cases hq
      simp only [resOne] at hy
      split at hy
      · rename_i id hid
        rw [hid] at hen
        obtain ⟨b, cells', hO', hb, e1⟩ := hen
        split at hy
        · rename_i x hO
          obtain ⟨arr, e, b1, b2, b3⟩ := h.box hO hb
          obtain ⟨u, hu, hru⟩ := b3 0 x rfl
          have hr := run_loadVar1' (P := P) (w := w) h1 (ad := ⟨b, 0, none⟩) (u := u) (by rw [cell_of w b1]; exact hu)
          refine ⟨u, ?_, out2_ok h (fun _ h => h) (.of1 hru) hy⟩
          simp [resRun, e1, asAddr, hr]
        · exact hy.elim
      · exact hy.elim
    · cases hq

theorem resAll_ok (h : Repr g s a w blk) : ∀ {l : List ResultVar} {rs : List RS} {ys : List AV}, compRess P l = some rs → resAll s rs ys →
    ∃ vs : List Value, (l.mapM (resRun a.tmps)).run P w = .ok vs w ∧ vs.length = ys.length ∧ vs.length = rs.length ∧ ∀ (j : Nat) (y : AV), ys[j]? = some y → ∃ u, vs[j]? = some u ∧ RV2 w (All g w) noO noB u y
  | [], rs, ys, hc, hy => by
    cases hc
    cases ys with
    | nil => exact ⟨[], by simp, rfl, rfl, fun j y hj => by simp at hj⟩
    | cons y ys => exact hy.elim
  | r :: l, rs, ys, hc, hy => by
    simp only [compRess] at hc
    split at hc
    · rename_i q qs h1 h2
      cases hc
      cases ys with
      | nil => exact hy.elim
      | cons y ys =>
        obtain ⟨v, hv, hr⟩ := resOne_ok h h1 hy.1
        obtain ⟨vs, e1, e2, e3, e4⟩ := resAll_ok h h2 hy.2
        refine ⟨v :: vs, by simp [List.mapM_cons, hv, e1], by simp [e2], by simp [e3], fun j z hj => ?_⟩
        cases j with
        | zero => simp at hj; subst hj; exact ⟨v, rfl, hr⟩
        | succ j => exact e4 j z (by simpa using hj)
    · cases hc

theorem results_run {fn : Func} {tmps : Array Value} {vs : List Value} (h : (fn.results.toList.mapM (resRun tmps)).run P w = .ok vs w) :
    (results fn tmps).run P w = .ok (if h : vs.toArray.size = 1 then vs.toArray[0] else .tuple vs.toArray) w := by
  have e : (results fn tmps) = (do let vs ← fn.results.mapM (resRun tmps); pure (if h : vs.size = 1 then vs[0] else .tuple vs)) := by
    unfold results
    congr 1
  rw [e, Array.mapM_eq_mapM_toList]
  simp [h]

theorem resP_ok (h : Repr g s a w blk) {fn : Func} {rs : List RS} {res : AV} (hc : compRess P fn.results.toList = some rs) (hy : resP s rs res) : ∃ v, (results fn a.tmps).run P w = .ok v w ∧ RV w (All g w) noO noB v res := by
  have one : ∀ r, rs = [r] → resOne s r res → ∃ v, (results fn a.tmps).run P w = .ok v w ∧ RV w (All g w) noO noB v res := by
    intro r e hr
    subst e
    obtain ⟨vs, e1, e2, e3, e4⟩ := resAll_ok h (ys := [res]) hc ⟨hr, trivial⟩
    obtain ⟨u, hu, hru⟩ := e4 0 res rfl
    match vs, e3, hu with
    | [u'], _, hu =>
      simp at hu; subst hu
      exact ⟨_, results_run e1, rv_of2 (by simpa using hru)⟩
  unfold resP at hy
  split at hy
  · exact one _ rfl hy
  · rename_i hne
    obtain ⟨ys, rfl, hy⟩ := hy
    obtain ⟨vs, e1, e2, e3, e4⟩ := resAll_ok h hc hy
    have hl : vs.toArray.size ≠ 1 := by
      intro e
      have : rs.length = 1 := by rw [← e3]; simpa using e
      match rs, this, hne with
      | [r], _, hne => exact hne r rfl
    refine ⟨_, results_run e1, ?_⟩
    rw [dif_neg hl]
    exact ⟨vs.toArray, rfl, by simpa using e2, fun j y hj => by obtain ⟨u, hu, hr⟩ := e4 j y hj; exact ⟨u, by simpa using hu, hr⟩⟩
end

theorem rv_wf {w : World} {G : Nat → Prop} {O : Nat → Obj} {blk : Nat → Option Nat} {v : Value} {x : AV} (h : RV w G O blk v x) : x.wf := by
  have one : ∀ {v : Value} {x : AV}, RV1 w G O blk v x → x.wf1 := by
    intro v x h
    cases x with
    | elt cs =>
      obtain ⟨ad, _, hc⟩ := h
      intro z hz
      obtain ⟨j, hj⟩ := List.getElem?_of_mem hz
      obtain ⟨_, u, _, hr⟩ := hc j z hj
      exact hr.wf
    | c x => exact Rd.wf h
    | _ => exact trivial
  cases x
  case agg l =>
    obtain ⟨arr, e, hs, hl⟩ := h
    intro y hy
    obtain ⟨j, hj⟩ := List.getElem?_of_mem hy
    obtain ⟨u, _, hr⟩ := hl j y hj
    exact one hr
  case fn f l =>
    obtain ⟨arr, e, hs, hl⟩ := h
    intro y hy
    obtain ⟨j, hj⟩ := List.getElem?_of_mem hy
    obtain ⟨u, _, hr⟩ := hl j y hj
    exact one hr
  case tup l => trivial
  all_goals (simp only [RV, RV2] at h; exact one h)

theorem argsWF_of : ∀ (l : List AV), (∀ x, x ∈ l → x.wf) → argsWF l
  | [], _ => trivial
  | x :: l, h => ⟨h x (by simp), argsWF_of l fun y hy => h y (by simp [hy])⟩

theorem RV_mono0 {w : World} {G G' : Nat → Prop} {v : Value} {x : AV} (hG : ∀ b, G b → G' b) (h : RV w G noO noB v x) : RV w G' noO noB v x := rv_wide (O := noO) (bl := noB) hG h
theorem RV_all {w w' : World} {G : Nat → Prop} {N : Nat} {vs : Array Value} {v : Value} {x : AV} (h : RV w' (All ⟨w, G, noF, N, vs⟩ w') noO noB v x) : RV w' (fun b => G b ∨ (w.heap.size ≤ b ∧ b < w'.heap.size)) noO noB v x :=
  RV_mono0 (fun b hb => by
    rcases hb with (hb | hb) | hb
    · exact .inl hb
    · exact hb.elim
    · exact .inr hb) h

/-- A body proves a contract. -/
theorem pure_of {P : Program} {f N : Nat} {c : SC} {rs : List RS} {args : List AV} {res : AV} (hf : Has P f N c rs) (hN : args.length ≤ N)
    (H : argsWF args → wpS P N c (initSt args) (fun e s => match e with | .exit _ => False | _ => resP s rs res)) : PureF P f args res := by
  obtain ⟨fn, code, h1, h2, h3, h4, h5⟩ := hf.ok
  intro w G hG vs hvs hv
  have hwf : argsWF args := argsWF_of args fun x hx => by
    obtain ⟨j, hj⟩ := List.getElem?_of_mem hx
    obtain ⟨u, _, hr⟩ := hv j x hj
    exact rv_wf hr
  refine calls_of_wp h1 h2 ?_
  let g : Ghost := ⟨w, G, noF, N, #[]⟩
  let L0 : Lay := ⟨noB, fun _ => noF⟩
  have hgood : ∀ b, G b → Good g noO L0 w b := fun b hb => ⟨.inl hb, fun id hid => absurd rfl hid⟩
  have hinit : Repr g (initSt args) { tmps := vs ++ Array.replicate (fn.ntmps - vs.size) undef, defers := [] } w L0 := by
    refine ⟨by simp [g]; omega, hf.small, rfl, Off.refl _ _, hG, fun b hb => hb.elim, fun b hb h => h.elim, fun t => ?_, fun id => trivial, fun id b hid => absurd rfl hid, fun i j b hi => absurd rfl hi, fun i b hi => absurd rfl hi⟩
    show RV _ _ _ _ _ ((args[t]?).getD .any)
    cases ht : args[t]? with
    | none => trivial
    | some x =>
      obtain ⟨u, hu, hr⟩ := hv t x ht
      have hlt : t < vs.size := (Array.getElem?_eq_some_iff.1 hu).1
      have hsm := hf.small
      have : g.val { tmps := vs ++ Array.replicate (fn.ntmps - vs.size) undef, defers := [] } t = u := by
        unfold Ghost.val
        rw [if_pos (by omega), Array.getD_eq_getD_getElem?, Array.getElem?_append_left hlt, hu]; rfl
      rw [this]
      exact rv_wide (O := noO) hgood hr
  refine Code.wp_mono ?_ (wpS_sound (g := g) rfl h4 (H hwf) hinit)
  intro e a' w' hl
  have fin : ∀ s blk, resP s rs res → Repr g s a' w' blk → a'.defers = [] ∧ ∃ v, (results fn a'.tmps).run P w' = .ok v w' ∧ (∃ v', Ending.returned v = .returned v' ∧ Below w.heap.size w w' ∧ RV w' (fun b => G b ∨ (w.heap.size ≤ b ∧ b < w'.heap.size)) noO noB v' res) := by
    intro s blk hr h
    obtain ⟨v, e1, e2⟩ := resP_ok h h5 hr
    exact ⟨h.defers, v, e1, v, rfl, Off.below h.below, RV_all e2⟩
  cases e with
  | normal => obtain ⟨s, blk, hr, h⟩ := hl; exact fin s blk hr h
  | exit id => obtain ⟨s, blk, hr, h⟩ := hl; exact hr.elim
  | ret => obtain ⟨s, blk, hr, h⟩ := hl; exact fin s blk hr h
  | goto l => exact hl.elim
  | panic ch => exact hl.elim
  | outgrown => exact hl.elim


end Go.Proofs.Ytenfgllkjgfjpaa
