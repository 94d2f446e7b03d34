/- The closed facts on the program that every row asks. -/
import Derived.Test.YtfmgadchjiplmaaRows
import Derived.Test.YtfmgadchjiplmaaMA5
set_option linter.all false
namespace Go.Proofs.Ytfmgadchjiplmaa

def headSum : List Char := ['8', '3', '5', '7', '0', 'c', '3', 'f', '4', 'a', '5', '9', 'b', 'b', '2', '5', '4', 'a', '3', '2', 'e', 'b', '3', 'b', '2', 'd', '6', 'b', '2', 'd', '7', '2', '1', '5', 'a', '3', 'e', '5', '7', 'c', '6', '6', 'f', '1', '1', '9', '2', '7', 'e', '9', '2', 'b', '7', 'e', 'f', 'a', '4', '6', '1', '8', 'd', 'b', 'c', 'a']
def headRest : List Char :=
  ['a', 't', ' ', 'l', 'o', 'o', 'p', '.', 'e', 'x', 'a', 'm', 'p', 'l', 'e', '/', 'g', '0', '3', '3', '1', '7', '/', 'l', 'a', 'w', 's', '.', 'F', 'n', 'E', 'x', 'a', 'c', 't', 'W', 'a', 'y', 'O', 'k'] ++ (
  [' ', 'l', 'o', 'o', 'p', '.', 'e', 'x', 'a', 'm', 'p', 'l', 'e', '/', 'g', '0', '3', '3', '1', '7', '/', 'l', 'a', 'w', 's', '.', 'F', 'n', 'E', 'x', 'a', 'c', 't', 'E', 'n', 't', 'r', 'y', 'O', 'k'] ++ (
  [' ', 'l', 'o', 'o', 'p', '.', 'e', 'x', 'a', 'm', 'p', 'l', 'e', '/', 'g', '0', '3', '3', '1', '7', '/', 'l', 'a', 'w', 's', '.', 'F', 'n', 'E', 'x', 'a', 'c', 't', 'B', 'o', 'o', 'k', 'O', 'k', ' '] ++ (
  ['l', 'o', 'o', 'p', '.', 'e', 'x', 'a', 'm', 'p', 'l', 'e', '/', 'g', '0', '3', '3', '1', '7', '/', 'l', 'a', 'w', 's', '.', 'F', 'n', 'E', 'x', 'a', 'c', 't', 'T', 'a', 'r', 'i', 'f', 'f', 'O', 'k'] ++ (
  [' ', 'l', 'o', 'o', 'p', '.', 'e', 'x', 'a', 'm', 'p', 'l', 'e', '/', 'g', '0', '3', '3', '1', '7', '/', 'l', 'a', 'w', 's', '.', 'F', 'n', 'E', 'x', 'a', 'c', 't', 'B', 'a', 'l', 'a', 'n', 'c', 'e'] ++ (
  ['s', 'O', 'f', ' ', 'l', 'o', 'o', 'p', '.', 'e', 'x', 'a', 'm', 'p', 'l', 'e', '/', 'g', '0', '3', '3', '1', '7', '/', 'l', 'a', 'w', 's', '.', 'F', 'n', 'T', 'u', 'r', 'n', 's', ' ', 'l', 'o', 'o'] ++ (
  ['p', '.', 'e', 'x', 'a', 'm', 'p', 'l', 'e', '/', 'g', '0', '3', '3', '1', '7', '/', 'l', 'a', 'w', 's', '.', 'F', 'n', 'S', 'e', 't', 't', 'l', 'e', 'd', ' ', 'l', 'o', 'o', 'p', '.', 'e', 'x', 'a'] ++ (
  ['m', 'p', 'l', 'e', '/', 'g', '0', '3', '3', '1', '7', '/', 'l', 'a', 'w', 's', '.', 'F', 'n', 'E', 'x', 'a', 'c', 't', 'P', 'o', 's', 't', 'E', 'n', 't', 'r', 'i', 'e', 's', ' ', 'l', 'o', 'o', 'p'] ++ (
  ['.', 'e', 'x', 'a', 'm', 'p', 'l', 'e', '/', 'g', '0', '3', '3', '1', '7', '/', 'l', 'a', 'w', 's', '.', 'F', 'n', 'E', 'x', 'a', 'c', 't', 'S', 'e', 't', 't', 'l', 'e', 'U', 'p', ' ', 'l', 'o', 'o'] ++ (
  ['p', '.', 'e', 'x', 'a', 'm', 'p', 'l', 'e', '/', 'g', '0', '3', '3', '1', '7', '/', 'l', 'a', 'w', 's', '.', 'F', 'n', 'E', 'x', 'a', 'c', 't', 'M', 'o', 'v', 'e', 'r', 'O', 'k', ' ', 'l', 'o', 'o'] ++ (
  ['p', '.', 'e', 'x', 'a', 'm', 'p', 'l', 'e', '/', 'g', '0', '3', '3', '1', '7', '/', 'l', 'a', 'w', 's', '.', 'F', 'n', 'E', 'x', 'a', 'c', 't', 'A', 't', 'E', 'n', 'd', ' ', 'l', 'o', 'o', 'p', '.'] ++ (
  ['e', 'x', 'a', 'm', 'p', 'l', 'e', '/', 'g', '0', '3', '3', '1', '7', '/', 'l', 'a', 'w', 's', '.', 'F', 'n', 'E', 'x', 'a', 'c', 't', 'P', 'a', 'c', 'e', 'O', 'f', ' ', 'l', 'o', 'o', 'p', '.', 'e'] ++ (
  ['x', 'a', 'm', 'p', 'l', 'e', '/', 'g', '0', '3', '3', '1', '7', '/', 'l', 'a', 'w', 's', '.', 'F', 'n', 'E', 'x', 'a', 'c', 't', 'D', 'e', 'p', 't', 'h', 'I', 'n', ' ', 'l', 'o', 'o', 'p', '.', 'e'] ++ (
  ['x', 'a', 'm', 'p', 'l', 'e', '/', 'g', '0', '3', '3', '1', '7', '/', 'l', 'a', 'w', 's', '.', 'F', 'n', 'E', 'x', 'a', 'c', 't', 'T', 'o', 'l', 'l', 'O', 'f', ' ', 'l', 'o', 'o', 'p', '.', 'e', 'x'] ++ (
  ['a', 'm', 'p', 'l', 'e', '/', 'g', '0', '3', '3', '1', '7', '/', 'l', 'a', 'w', 's', '.', 'F', 'n', 'S', 'a', 'i', 'l', 'i', 'n', 'g', ' ', 'l', 'o', 'o', 'p', '.', 'e', 'x', 'a', 'm', 'p', 'l', 'e'] ++ (
  ['/', 'g', '0', '3', '3', '1', '7', '/', 'l', 'a', 'w', 's', '.', 'F', 'n', 'T', 'o', 'l', 'l', 's', ' ', 'l', 'o', 'o', 'p', '.', 'e', 'x', 'a', 'm', 'p', 'l', 'e', '/', 'g', '0', '3', '3', '1', '7'] ++ (
  ['/', 'l', 'a', 'w', 's', '.', 'F', 'n', 'E', 'x', 'a', 'c', 't', 'N', 'e', 'x', 't', 'S', 'i', 'd', 'e', ' ', 'l', 'o', 'o', 'p', '.', 'e', 'x', 'a', 'm', 'p', 'l', 'e', '/', 'g', '0', '3', '3', '1'] ++ (
  ['7', '/', 'l', 'a', 'w', 's', '.', 'F', 'n', 'E', 'x', 'a', 'c', 't', 'T', 'i', 'm', 'e', 'T', 'o', ' ', 'l', 'o', 'o', 'p', '.', 'e', 'x', 'a', 'm', 'p', 'l', 'e', '/', 'g', '0', '3', '3', '1', '7'] ++ (
  ['/', 'l', 'a', 'w', 's', '.', 'F', 'n', 'E', 'x', 'a', 'c', 't', 'O', 'r', 'd', 'e', 'r', 'C', 'a', 'l', 'l', 's', ' ', 'l', 'o', 'o', 'p', '.', 'e', 'x', 'a', 'm', 'p', 'l', 'e', '/', 'g', '0', '3'] ++ (
  ['3', '1', '7', '/', 'l', 'a', 'w', 's', '.', 'F', 'n', 'E', 'x', 'a', 'c', 't', 'W', 'o', 'r', 'k', 'O', 'k', ' ', 'l', 'o', 'o', 'p', '.', 'e', 'x', 'a', 'm', 'p', 'l', 'e', '/', 'g', '0', '3', '3'] ++ (
  ['1', '7', '/', 'l', 'a', 'w', 's', '.', 'F', 'n', 'E', 'x', 'a', 'c', 't', 'G', 'r', 'o', 'u', 'n', 'd', 'e', 'd', 'O', 'f', ' ', 'l', 'o', 'o', 'p', '.', 'e', 'x', 'a', 'm', 'p', 'l', 'e', '/', 'g'] ++ (
  ['0', '3', '3', '1', '7', '/', 'l', 'a', 'w', 's', '.', 'F', 'n', 'E', 'x', 'a', 'c', 't', 'M', 'o', 'v', 'e', 'O', 'n', 'e', ' ', 'l', 'o', 'o', 'p', '.', 'e', 'x', 'a', 'm', 'p', 'l', 'e', '/', 'g'] ++ (
  ['0', '3', '3', '1', '7', '/', 'l', 'a', 'w', 's', '.', 'F', 'n', 'E', 'x', 'a', 'c', 't', 'T', 'o', 'l', 'l', 'E', 'n', 't', 'r', 'i', 'e', 's']))))))))))))))))))))))

theorem head_is : Try.prog.initOrder = String.ofList (['h', 'a', 'r', 'n', 'e', 's', 's'] ++ ' ' :: (headSum ++ ' ' :: (['c', 'u', 't'] ++ ' ' :: headRest))) := by kernel_rfl
theorem head_words : behindMainWord (wordsSigns Try.prog.initOrder.toList) = ['c', 'u', 't'] :: wordsSigns headRest := by
  rw [head_is, String.toList_ofList, wordsSigns_word _ _ (by decide), wordsSigns_word _ _ (by decide), wordsSigns_word _ _ (by decide)]
  exact behind _ _ (by decide)
theorem fact_laid : laidOutB Try.prog = true := by kernel_rfl
theorem fact_maps : mapsRowed Try.prog = true := by kernel_rfl
theorem fact_stops : Try.prog.stops = [] := by kernel_rfl
theorem fact_knobs : Try.prog.stopKnobs = [] := by kernel_rfl
theorem fact_heard : Try.prog.stopsHeard = true := by kernel_rfl
theorem fact_keys : Try.prog.plainKeys = true := by kernel_rfl
theorem fact_later : Try.prog.laysLater = false := by kernel_rfl
theorem fact_reflect : Try.prog.bearsReflect = false := by kernel_rfl
theorem fact_door : Try.prog.doorFits [] = true := by kernel_rfl
theorem fact_own : ownKnob Try.prog.godebug = none := by kernel_rfl
theorem seatFacts : SeatFacts Try.prog :=
  ⟨fact_laid, fact_maps, fact_stops, fact_knobs, fact_heard, fact_keys, mayEnter_of head_words fact_later fact_reflect fact_door, liftsFinal_of head_words, make_of head_words, fact_own⟩
end Go.Proofs.Ytfmgadchjiplmaa
