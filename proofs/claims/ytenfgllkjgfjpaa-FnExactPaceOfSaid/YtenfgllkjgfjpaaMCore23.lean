/- The abstract machine, part 23: the closed facts that a row asks of the program, in parts that the kernel can hold. -/
import Derived.Test.YtenfgllkjgfjpaaMCore22
import Derived.JoinedOf
import Derived.KernelRfl
set_option linter.all false
namespace Go.Proofs.Ytenfgllkjgfjpaa
theorem wordsSigns_word (w r : List Char) (hw : w.all (fun c => !(c == ' ')) = true) : wordsSigns (w ++ ' ' :: r) = w :: wordsSigns r := by
  induction w with
  | nil => rfl
  | cons c w ih =>
    simp only [List.all_cons, Bool.and_eq_true, Bool.not_eq_true', beq_eq_false_iff_ne] at hw
    simp only [List.cons_append]
    rw [wordsSigns.eq_3 _ _ (by intro h; exact hw.1 h), ih hw.2]
theorem behind (s l : _) (hs : isSumSigns s = true) : behindMainWord (['h', 'a', 'r', 'n', 'e', 's', 's'] :: s :: l) = l := by
  have h1 : "harness".toList = ['h', 'a', 'r', 'n', 'e', 's', 's'] := by decide
  simp only [behindMainWord, h1, hs]; simp
theorem t1 : "gc".toList = ['g', 'c'] := by decide
theorem t2 : "spec".toList = ['s', 'p', 'e', 'c'] := by decide
theorem t3 : "cut".toList = ['c', 'u', 't'] := by decide
theorem t4 : "carried".toList = ['c', 'a', 'r', 'r', 'i', 'e', 'd'] := by decide
theorem strip_cut : ∀ (os : List String) (l : List (List Char)), (∀ o ∈ os, (['c', 'u', 't'] == o.toList) = false) → stripLifts os (['c', 'u', 't'] :: l) = ([], ['c', 'u', 't'] :: l)
  | [], _, _ => rfl
  | o :: os, l, h => by
    simp only [stripLifts, h o (by simp), Bool.false_eq_true, if_false]
    exact strip_cut os l fun o ho => h o (by simp [ho])
theorem liftWords_ne : ∀ o ∈ liftWords, (['c', 'u', 't'] == o.toList) = false := by decide
theorem make_of {P : Program} {l : List (List Char)} (h : behindMainWord (wordsSigns P.initOrder.toList) = ['c', 'u', 't'] :: l) : P.make = some .cut := by
  unfold Program.make
  rw [h]
  simp [t1, t2, t3]
theorem headLifts_of {P : Program} {l : List (List Char)} (h : behindMainWord (wordsSigns P.initOrder.toList) = ['c', 'u', 't'] :: l) : P.headLifts = [] := by
  unfold Program.headLifts
  simp only [h, strip_cut _ _ liftWords_ne]
  simp
theorem liftsFinal_of {P : Program} {l : List (List Char)} (h : behindMainWord (wordsSigns P.initOrder.toList) = ['c', 'u', 't'] :: l) : P.liftsFinal = false := by
  unfold Program.liftsFinal
  simp only [headLifts_of h]
  simp [h, t4]
theorem mayEnter_of {P : Program} {l : List (List Char)} (h : behindMainWord (wordsSigns P.initOrder.toList) = ['c', 'u', 't'] :: l) (h1 : P.laysLater = false) (h2 : P.bearsReflect = false) (h3 : P.doorFits [] = true) : P.mayEnter = true := by
  unfold Program.mayEnter
  rw [h]
  simp [strip_cut _ _ liftWords_ne, t1, t2, t3, t4, h1, h2, h3]

/-- What is asked of the program for every row. -/
structure SeatFacts (P : Program) : Prop where
  laid : laidOutB P = true
  maps : mapsRowed P = true
  stops : P.stops = []
  knobs : P.stopKnobs = []
  heard : P.stopsHeard = true
  keys : P.plainKeys = true
  enter : P.mayEnter = true
  lifts : P.liftsFinal = false
  make : P.make = some .cut
  own : ownKnob P.godebug = none

/-- What is asked of the program for one row. -/
def rowFacts (P : Program) (f : FuncId) (fn : Func) (s : ChangeSpec) (c : OpenClaim) : Bool :=
  c.wf (OpenSpec.ofChange s) &&
  fn.params.all (P.readableRec ·) && namedTie P c.named s.vars &&
  (c.inPlace == P.inPlace f) && (c.unfollowed == P.unfollowed f) && (c.recurses == P.recurses f) && (c.named == P.varsNamed f) &&
  (c.maps == (fn.params.toList ++ s.plain.varTypes P).any (P.mapsRec ·)) && (c.ifaces == (fn.params.toList ++ s.plain.varTypes P).any (P.ifacesRec ·)) && (c.mapsOut == P.mapsAmong fn.resultTypes.toList) &&
  (c.loops == (fn.params.toList ++ s.plain.varTypes P).any (P.loopsFrom ·)) && (c.wideKeys == (fn.params.toList ++ s.plain.varTypes P ++ fn.resultTypes.toList).any (P.wideKeysFrom ·)) &&
  s.vars.all (P.varReadable ·) && fn.resultTypes.all (fun t => P.readableRec t && decide (t < P.types.size)) && (c.ifacesOut == fn.resultTypes.toList.any (P.ifacesRec ·)) && (c.loopsOut == fn.resultTypes.toList.any (P.loopsFrom ·)) &&
  (c.pinned == c.pinnedBy) &&
  (c.veiled == (fn.params.toList ++ s.plain.varTypes P ++ fn.resultTypes.toList).any (P.veiledRec ·)) && c.veiledFits P fn.params.toList (fn.params.toList ++ s.plain.varTypes P ++ fn.resultTypes.toList)

theorem joined_of {P : Program} {f : FuncId} {fn : Func} {s : ChangeSpec} {c : OpenClaim} (h : SeatFacts P) (hr : rowFacts P f fn s c = true)
    (hc : c.stops = [] ∧ c.knobs = [] ∧ c.plainKeys = true ∧ c.shortTexts = none ∧ c.lifted = false ∧ c.make = .cut ∧ c.domain = [] ∧ c.kinds = []) : joinedFacts P f fn s c = true := by
  obtain ⟨c1, c2, c3, c4, c5, c6, c7, c8⟩ := hc
  unfold joinedFacts
  unfold rowFacts at hr
  rw [h.laid, h.maps, h.stops, h.knobs, h.heard, h.keys, h.enter, h.lifts, h.make, c1, c2, c3, c4, c5, c6, c7, c8]
  simp only [Bool.and_eq_true] at hr ⊢
  simp only [hr, and_self, true_and, and_true]
  simp
end Go.Proofs.Ytenfgllkjgfjpaa
