/- The abstract machine, part 22: the frame of a law's row. -/
import Derived.Test.YtenfgllkjgfjpaaMCore21
import Derived.ChangeSame
set_option linter.all false
namespace Go.Proofs.Ytenfgllkjgfjpaa
open Go.RowKit Go.ChangeShapes Go.WideShapes Go.Deep

def isStruct (P : Program) (t : TypeId) : Bool := match P.underlying t with
  | some (.struct _) => true
  | _ => false
def argSh (P : Program) (t : TypeId) : Option (Bool × List Sh) :=
  match shOf P 64 t with
  | some l => if P.cellsOf t = l.length then some (isStruct P t, l) else none
  | none => none

inductive FitA : Bool × List Sh → AV → Prop where
  | st {l : List Sh} {xs : List C} : Fits l xs → FitA (true, l) (.agg (xs.map .c))
  | one {z : Sh} {c : C} : Fit z c → FitA (false, [z]) (.c c)

def shAll (P : Program) : List TypeId → Option (List (Bool × List Sh))
  | [] => some []
  | t :: ts => match argSh P t, shAll P ts with
    | some a, some l => some (a :: l)
    | _, _ => none
def FitAll : List (Bool × List Sh) → List AV → Prop
  | [], as => as = []
  | z :: zs, as => ∃ a as', as = a :: as' ∧ FitA z a ∧ FitAll zs as'

section
variable {H : Type} {enc : TypeId × Value → H} {P : Program} {w : World}

theorem trod_arg {r : Reach} {b0 base : Nat} {spare : Nat → Bool} {held : Bool} {t : TypeId} {z : Bool × List Sh} {v : Value} {d : DataW H} {ps : List MemPlace} (hz : argSh P t = some z) (hv : Value.okWide P w r b0 t v)
    (h : DataW.Trod enc P w base spare held t v d ps) : ∃ a, FitA z a ∧ RV w (Old w) noO noB v a := by
  simp only [argSh] at hz
  split at hz
  · rename_i l hl
    split at hz
    · rename_i hC
      cases hz
      obtain ⟨fuel, hf⟩ := h
      obtain ⟨hlen, xs, hfit, hrd⟩ := trod_rd 64 t l fuel _ _ hl hC hf
      cases hs : isStruct P t with
      | true =>
        simp only [isStruct] at hs
        split at hs
        · rename_i fs hu
          obtain ⟨cs, rfl, _⟩ := okWide_struct hu hv
          refine ⟨.agg (xs.map .c), .st hfit, cs, rfl, ?_, fun j x hj => ?_⟩
          · have := hrd.1
            simp [Value.cells] at this
            simp [this]
          · rw [List.getElem?_map] at hj
            cases hx : xs[j]? with
            | none => rw [hx] at hj; cases hj
            | some c =>
              rw [hx] at hj; cases hj
              have hlt : j < cs.size := by
                have h1 := (List.getElem?_eq_some_iff.1 hx).1
                have h2 := hrd.1
                simp [Value.cells] at h2
                omega
              refine ⟨cs[j], Array.getElem?_eq_getElem hlt, hrd.2 j _ c ?_ hx⟩
              simp [Value.cells, hlt]
        · cases hs
      | false =>
        have hone : v.cells = #[v] := by
          simp only [shOf] at hl
          split at hl
          · rename_i hu; obtain ⟨x, rfl⟩ := okWide_bool hu hv; rfl
          · rename_i hu; obtain ⟨x, rfl⟩ := okWide_int hu hv; rfl
          · rename_i hu; obtain ⟨x, rfl⟩ := okWide_int hu hv; rfl
          · rename_i hu; obtain ⟨x, rfl⟩ := okWide_string hu hv; rfl
          · rename_i hu; obtain ⟨x, y, z, rfl⟩ := okWide_slice hu hv; rfl
          · rename_i hu; simp [isStruct, hu] at hs
          · cases hl
        rw [hone] at hlen hrd
        obtain ⟨z, rfl⟩ : ∃ z, l = [z] := List.length_eq_one_iff.1 (by simpa using hlen.symm)
        obtain ⟨c, ys, rfl, hc, hy⟩ := hfit.cons_inv
        obtain rfl := hy.nil_inv
        exact ⟨.c c, .one hc, hrd.2 0 v c rfl rfl⟩
    · cases hz
  · cases hz

theorem trod_args {r : Reach} {b0 base : Nat} {spare : Nat → Bool} {held : Bool} : ∀ {ts : List TypeId} {zs : List (Bool × List Sh)} {vs : List Value} {ds : List (DataW H)} {ps : List MemPlace}, shAll P ts = some zs →
    (∀ (j : Nat) t v, ts[j]? = some t → vs[j]? = some v → Value.okWide P w r b0 t v) → DataW.TrodAll enc P w base spare held ts vs ds ps →
    ∃ as, FitAll zs as ∧ vs.length = as.length ∧ ds.length = ts.length ∧ ∀ (j : Nat) (x : AV), as[j]? = some x → ∃ u : Value, vs[j]? = some u ∧ RV w (Old w) noO noB u x := by
  intro ts
  induction ts with
  | nil =>
    intro zs vs ds ps hz _ h
    cases hz
    obtain ⟨rfl, rfl, rfl⟩ := trodAll_nil h
    exact ⟨[], rfl, rfl, rfl, by simp⟩
  | cons t ts ih =>
    intro zs vs ds ps hz hv h
    simp only [shAll] at hz
    split at hz
    · rename_i z zs' h1 h2
      cases hz
      obtain ⟨v, vs', d, ds', p, q, rfl, rfl, rfl, h3, h4⟩ := trodAll_cons h
      obtain ⟨a, hfa, hra⟩ := trod_arg h1 (hv 0 t v rfl rfl) h3
      obtain ⟨as, hf, hl, hd, hr⟩ := ih h2 (fun j t' v' e1 e2 => hv (j + 1) t' v' (by simpa using e1) (by simpa using e2)) h4
      refine ⟨a :: as, ⟨a, as, rfl, hfa, hf⟩, by simp [hl], by simp [hd], fun j x hj => ?_⟩
      cases j with
      | zero => simp at hj; subst hj; exact ⟨v, rfl, hra⟩
      | succ j => simp at hj; obtain ⟨u, hu, hx⟩ := hr j x hj; exact ⟨u, by simpa using hu, hx⟩
    · cases hz

theorem below_trodAll (hl : laidOutB P = true) {W W' : World} (hb : Below W.heap.size W W') : ∀ {ts : List TypeId} {vs : List Value} {ds : List (DataW H)} {ps : List MemPlace},
    ts.all (fun t => P.readableRec t && decide (t < P.types.size)) = true → DataW.TrodAll enc P W 0 (fun _ => true) true ts vs ds ps → (∀ x ∈ ps, x.block < W.heap.size) →
    DataW.TrodAll enc P W' 0 (fun b => decide (b < W.heap.size)) true ts vs ds ps := by
  intro ts
  induction ts with
  | nil =>
    intro vs ds ps _ h _
    obtain ⟨rfl, rfl, rfl⟩ := trodAll_nil h
    rfl
  | cons t ts ih =>
    intro vs ds ps hr h hlt
    obtain ⟨v, vs', d, ds', p, q, rfl, rfl, rfl, h3, h4⟩ := trodAll_cons h
    simp only [List.all_cons, Bool.and_eq_true, decide_eq_true_eq] at hr
    exact ⟨p, q, Below.trod hl hr.1.1 hr.1.2 h3 hb fun x hx => hlt x (List.mem_append_left _ hx), ih hr.2 h4 fun x hx => hlt x (List.mem_append_right _ hx), rfl⟩

end

/-- What a law's specification says: true; the arguments read as they did. -/
structure IsLaw (s : ChangeSpec) (n : Nat) : Prop where
  vars : s.vars = []
  fn : ∀ (H : Type) (ds : List (DataW H)), ds.length = n → s.fn H ds = { results := [.lit (.bool true)], args := ds }

/-- What is asked of the program for a law's row: closed facts. -/
structure LawFacts (P : Program) (fn : Func) (tb : TypeId) (zs : List (Bool × List Sh)) : Prop where
  laid : laidOutB P = true
  par : fn.params.toList.all (fun t => P.readableRec t && decide (t < P.types.size)) = true
  res : fn.resultTypes = #[tb]
  bool : P.underlying tb = some .bool
  sh : shAll P fn.params.toList = some zs

theorem law_post {H : Type} {enc : TypeId × Value → H} {P : Program} {fn : Func} {s : ChangeSpec} {tb : TypeId} {zs : List (Bool × List Sh)} (hs : IsLaw s fn.params.size) (hp : LawFacts P fn tb zs) {W W' : World} {args : Array Value} {ds gs : List (DataW H)} {before : List MemPlace}
    (hW : DataW.Whole enc P fn.params.toList s.vars false W args.toList ds gs before) (hlen : ds.length = fn.params.size) (hb : Below W.heap.size W W') :
    s.post enc P fn false true false false W args (.bool true) W' := by
  have hlt := hW.lt
  have hW0 := hW
  obtain ⟨p, q, hA, hV, rfl, hfz, hnd⟩ := hW
  rw [hs.vars] at hV
  obtain ⟨rfl, rfl⟩ := trodVars_none hV
  refine ⟨ds, [], _, [], p, [], hW0, ?_, ?_, ?_, ?_, fun h => by cases h⟩
  · rw [List.append_nil, hs.fn H ds hlen, hp.res]
    exact trodAll_mk1 ⟨1, by simp [DataW.trod, Value.cells, hp.bool]⟩
  · rw [List.append_nil, hs.fn H ds hlen]
    exact below_trodAll hp.laid hb hp.par hA fun x hx => hlt x (by simp [hx])
  · rw [List.append_nil, hs.fn H ds hlen, hs.vars]
    rfl
  · exact hb.frame _

theorem law_lifted {C : Checked} {os : Os} {f : FuncId} {fn : Func} {s : ChangeSpec} {conds : List PathCond} {tb : TypeId} {zs : List (Bool × List Sh)} {H : Type} {enc : TypeId × Value → H}
    (own : ownKnob C.prog.godebug = none) (started : os.Started) (noInit : C.prog.inits.idxOf? f = none) (hfn : C.prog.funcs[f]? = some fn)
    (witness : ∃ (w : World) (tape : Tape) (i : Input), w.os = os ∧ (w.forCall tape i).Shaped C.prog ∧ i.vars = [] ∧ Input.okWide C.prog (w.forCall tape i) .any w.heap.size f i ∧
      s.pre6 enc C.prog fn conds false (w.forCall tape i).memory i.args ∧ ({} : Assume).holds C.prog (lone (Frame.enter C.prog f i.args .normal) [] (w.forCall tape i)))
    (hs : IsLaw s fn.params.size) (hp : LawFacts C.prog fn tb zs)
    (h : ∀ as, FitAll zs as → PureF C.prog f as (.c (.b true))) :
    ReturnsInHanded {} C os f .any (s.pre6 enc C.prog fn conds false) (s.post enc C.prog fn false true false false) := by
  refine returnsInHanded_of_change own started noInit hfn witness ?_
  intro W base args ds gs before hval hW _ _
  have hA := hW
  obtain ⟨p, q, hA, _, _, _, _⟩ := hA
  obtain ⟨as, hfit, hl1, hl2, hr⟩ := trod_args hp.sh (fun j t v h1 h2 => hval j t v (by simpa using h1) (by simpa using h2)) hA
  refine (h as hfit W (Old W) (fun b h => h) args (by simpa using hl1) (fun j x hx => ?_)).mono fun e W' ⟨v, he, hb, hv⟩ => ?_
  · obtain ⟨u, hu, hx'⟩ := hr j x hx
    exact ⟨u, by simpa using hu, hx'⟩
  · cases hv with
    | b => exact ⟨_, he, law_post hs hp hW (by simpa using hl2) hb⟩
end Go.Proofs.Ytenfgllkjgfjpaa
