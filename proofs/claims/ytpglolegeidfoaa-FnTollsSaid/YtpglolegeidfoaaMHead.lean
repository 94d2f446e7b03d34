/- The closed facts on the program that every row asks. -/
import Derived.Test.YtpglolegeidfoaaRows
import Derived.Test.YtpglolegeidfoaaMA5
set_option linter.all false
namespace Go.Proofs.Ytpglolegeidfoaa

def headSum : List Char := ['f', 'b', 'c', '2', '6', 'b', '4', '4', '0', 'c', 'a', '2', '3', 'f', '1', '5', '8', 'e', 'b', '2', '4', '1', 'f', '7', 'b', 'b', '2', 'a', '2', 'a', '7', 'a', 'f', '3', '8', 'a', '7', 'd', '8', 'c', '0', '0', '9', '1', 'e', '1', '4', 'a', '9', 'd', 'c', '5', '1', '7', 'a', 'a', '3', '8', '2', 'b', '0', '8', '4', '6']
def headRest : List Char :=
  ['a', 't', ' ', 'l', 'o', 'o', 'p', '.', 'e', 'x', 'a', 'm', 'p', 'l', 'e', '/', 'g', '0', '3', '3', '1', '7', '/', 'l', 'a', 'w', 's', '.', 'F', 'n', 'S', 'a', 'i', 'l', 'i', 'n', 'g', ' ', 'l', 'o'] ++ (
  ['o', 'p', '.', 'e', 'x', 'a', 'm', 'p', 'l', 'e', '/', 'g', '0', '3', '3', '1', '7', '/', 'l', 'a', 'w', 's', '.', 'F', 'n', 'T', 'o', 'l', 'l', 's', ' ', 'l', 'o', 'o', 'p', '.', 'e', 'x', 'a', 'm'] ++ (
  ['p', 'l', 'e', '/', 'g', '0', '3', '3', '1', '7', '/', 'l', 'a', 'w', 's', '.', 'F', 'n', 'E', 'x', 'a', 'c', 't', 'N', 'e', 'x', 't', 'S', 'i', 'd', 'e', ' ', 'l', 'o', 'o', 'p', '.', 'e', 'x', 'a'] ++ (
  ['m', 'p', 'l', 'e', '/', 'g', '0', '3', '3', '1', '7', '/', 'l', 'a', 'w', 's', '.', 'F', 'n', 'E', 'x', 'a', 'c', 't', 'O', 'r', 'd', 'e', 'r', 'C', 'a', 'l', 'l', 's'])))

theorem head_is : Try.prog.initOrder = String.ofList (['h', 'a', 'r', 'n', 'e', 's', 's'] ++ ' ' :: (headSum ++ ' ' :: (['c', 'u', 't'] ++ ' ' :: headRest))) := by kernel_rfl
theorem head_words : behindMainWord (wordsSigns Try.prog.initOrder.toList) = ['c', 'u', 't'] :: wordsSigns headRest := by
  rw [head_is, String.toList_ofList, wordsSigns_word _ _ (by decide), wordsSigns_word _ _ (by decide), wordsSigns_word _ _ (by decide)]
  exact behind _ _ (by decide)
theorem fact_laid : laidOutB Try.prog = true := by kernel_rfl
theorem fact_maps : mapsRowed Try.prog = true := by kernel_rfl
theorem fact_stops : Try.prog.stops = [] := by kernel_rfl
theorem fact_knobs : Try.prog.stopKnobs = [] := by kernel_rfl
theorem fact_heard : Try.prog.stopsHeard = true := by kernel_rfl
theorem fact_keys : Try.prog.plainKeys = true := by kernel_rfl
theorem fact_later : Try.prog.laysLater = false := by kernel_rfl
theorem fact_reflect : Try.prog.bearsReflect = false := by kernel_rfl
theorem fact_door : Try.prog.doorFits [] = true := by kernel_rfl
theorem fact_own : ownKnob Try.prog.godebug = none := by kernel_rfl
theorem seatFacts : SeatFacts Try.prog :=
  ⟨fact_laid, fact_maps, fact_stops, fact_knobs, fact_heard, fact_keys, mayEnter_of head_words fact_later fact_reflect fact_door, liftsFinal_of head_words, make_of head_words, fact_own⟩
end Go.Proofs.Ytpglolegeidfoaa
