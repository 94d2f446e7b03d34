/- What the law FnExactNextSide stands on: the machine, in short form (names, layout). -/
import Derived.Test.YtefegahoniahkaaRows
import Derived.Test.YtefegahoniahkaaSExactNextSideA5
set_option linter.all false
namespace Go.Proofs.Ytefegahoniahkaa
def yrf : List Char:=['c','a','8','1','b','2','4','5','0','4','3','a','3','1','2','a','a','d','2','4','c','7','f','0','f','1','1','0','1','c','2','6','b','2','4','d','2','1','9','7','0','5','1','3','f','1','9','8','8','6','f','0','2','d','b','0','f','3','6','1','9','c','e','b']
def ylK : List Char :=
 ['a','t',' ','l','o','o','p','.','e','x','a','m','p','l','e','/','g','0','3','3','1','7','/','l','a','w','s','.','F','n','E','x','a','c','t','N','e','x','t','S'] ++ (
 ['i','d','e',' ','l','o','o','p','.','e','x','a','m','p','l','e','/','g','0','3','3','1','7','/','l','a','w','s','.','F','n','E','x','a','c','t','O','r','d','e'] ++ (
 ['r','C','a','l','l','s']))
theorem yry : Try.prog.initOrder = String.ofList (['h','a','r','n','e','s','s'] ++ ' ' :: (yrf ++ ' ' :: (['c','u','t'] ++ ' ' :: ylK))):=by kernel_rfl
theorem ygG : behindMainWord (wordsSigns Try.prog.initOrder.toList) = ['c','u','t'] :: wordsSigns ylK:=by
 rw [yry,String.toList_ofList,ycQ _ _ (by decide),ycQ _ _ (by decide),ycQ _ _ (by decide)]
 exact behind _ _ (by decide)
theorem ykp : laidOutB Try.prog = true:=by kernel_rfl
theorem yof : mapsRowed Try.prog = true:=by kernel_rfl
theorem ymY : Try.prog.stops = []:=by kernel_rfl
theorem ymC : Try.prog.stopKnobs = []:=by kernel_rfl
theorem ymM : Try.prog.stopsHeard = true:=by kernel_rfl
theorem yoP : Try.prog.plainKeys = true:=by kernel_rfl
theorem ynb : Try.prog.laysLater = false:=by kernel_rfl
theorem ykV : Try.prog.bearsReflect = false:=by kernel_rfl
theorem yol : Try.prog.doorFits [] = true:=by kernel_rfl
theorem ylF : ownKnob Try.prog.godebug = none:=by kernel_rfl
theorem yoi : SeatFacts Try.prog :=
 ⟨ykp,yof,ymY,ymC,ymM,yoP,ymf ygG ynb ykV yol,yjT ygG,yrd ygG,ylF⟩
end Go.Proofs.Ytefegahoniahkaa
