/- The closed facts on the program that every row asks. -/
import Derived.Test.YtpcopekamgapaaaGreatRows
import Derived.Test.YtpcopekamgapaaaGreatMA5
set_option linter.all false
namespace Go.Proofs.YtpcopekamgapaaaGreat

def headSum : List Char := ['0', '9', '9', '7', '6', '1', 'd', 'c', 'c', 'c', '9', '1', '2', '4', '5', '1', '7', '8', 'd', '0', '5', 'b', '1', 'b', '2', '4', '4', '5', '4', '9', 'b', '9', '1', '0', 'd', '9', 'e', '5', 'f', '9', '3', 'f', '1', '0', '7', 'f', '7', '2', '5', 'a', '8', '2', '0', '6', '2', '2', '2', '5', '2', 'b', '3', 'b', '8', '0']
def headRest : List Char :=
  ['a', 't', ' ', 'l', 'o', 'o', 'p', '.', 'e', 'x', 'a', 'm', 'p', 'l', 'e', '/', 'g', '0', '3', '3', '1', '7', '/', 'l', 'a', 'w', 's', '.', 'F', 'n', 'E', 'x', 'a', 'c', 't', 'W', 'a', 't', 'e', 'r'] ++ (
  ['w', 'a', 'y', 'O', 'k', ' ', 'l', 'o', 'o', 'p', '.', 'e', 'x', 'a', 'm', 'p', 'l', 'e', '/', 'g', '0', '3', '3', '1', '7', '/', 'l', 'a', 'w', 's', '.', 'F', 'n', 'E', 'x', 'a', 'c', 't', 'W', 'a'] ++ (
  ['t', 'e', 'r', 'O', 'f', ' ', 'l', 'o', 'o', 'p', '.', 'e', 'x', 'a', 'm', 'p', 'l', 'e', '/', 'g', '0', '3', '3', '1', '7', '/', 'l', 'a', 'w', 's', '.', 'F', 'n', 'E', 'x', 'a', 'c', 't', 'W', 'a'] ++ (
  ['t', 'e', 'r', 'K', 'e', 'p', 't'])))

theorem head_is : Tryz.prog.initOrder = String.ofList (['h', 'a', 'r', 'n', 'e', 's', 's'] ++ ' ' :: (headSum ++ ' ' :: (['c', 'u', 't'] ++ ' ' :: headRest))) := by kernel_rfl
theorem head_words : behindMainWord (wordsSigns Tryz.prog.initOrder.toList) = ['c', 'u', 't'] :: wordsSigns headRest := by
  rw [head_is, String.toList_ofList, wordsSigns_word _ _ (by decide), wordsSigns_word _ _ (by decide), wordsSigns_word _ _ (by decide)]
  exact behind _ _ (by decide)
theorem fact_laid : laidOutB Tryz.prog = true := by kernel_rfl
theorem fact_maps : mapsRowed Tryz.prog = true := by kernel_rfl
theorem fact_stops : Tryz.prog.stops = [] := by kernel_rfl
theorem fact_knobs : Tryz.prog.stopKnobs = [] := by kernel_rfl
theorem fact_heard : Tryz.prog.stopsHeard = true := by kernel_rfl
theorem fact_keys : Tryz.prog.plainKeys = true := by kernel_rfl
theorem fact_later : Tryz.prog.laysLater = false := by kernel_rfl
theorem fact_reflect : Tryz.prog.bearsReflect = false := by kernel_rfl
theorem fact_door : Tryz.prog.doorFits [] = true := by kernel_rfl
theorem fact_own : ownKnob Tryz.prog.godebug = none := by kernel_rfl
theorem seatFacts : SeatFacts Tryz.prog :=
  ⟨fact_laid, fact_maps, fact_stops, fact_knobs, fact_heard, fact_keys, mayEnter_of head_words fact_later fact_reflect fact_door, liftsFinal_of head_words, make_of head_words, fact_own⟩
end Go.Proofs.YtpcopekamgapaaaGreat
