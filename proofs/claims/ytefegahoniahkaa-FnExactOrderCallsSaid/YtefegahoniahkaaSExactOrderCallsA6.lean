/- What the law FnExactOrderCalls stands on: the machine, in short form (names, layout). -/
import Derived.Test.YtefegahoniahkaaRows
import Derived.Test.YtefegahoniahkaaSExactOrderCallsA5
set_option linter.all false
namespace Go.Proofs.Ytefegahoniahkaa
def yAM : List Char:=['c','a','8','1','b','2','4','5','0','4','3','a','3','1','2','a','a','d','2','4','c','7','f','0','f','1','1','0','1','c','2','6','b','2','4','d','2','1','9','7','0','5','1','3','f','1','9','8','8','6','f','0','2','d','b','0','f','3','6','1','9','c','e','b']
def yvk : List Char :=
 ['a','t',' ','l','o','o','p','.','e','x','a','m','p','l','e','/','g','0','3','3','1','7','/','l','a','w','s','.','F','n','E','x','a','c','t','N','e','x','t','S'] ++ (
 ['i','d','e',' ','l','o','o','p','.','e','x','a','m','p','l','e','/','g','0','3','3','1','7','/','l','a','w','s','.','F','n','E','x','a','c','t','O','r','d','e'] ++ (
 ['r','C','a','l','l','s']))
theorem yA3 : Try.prog.initOrder = String.ofList (['h','a','r','n','e','s','s'] ++ ' ' :: (yAM ++ ' ' :: (['c','u','t'] ++ ' ' :: yvk))):=by kernel_rfl
theorem ykr : behindMainWord (wordsSigns Try.prog.initOrder.toList) = ['c','u','t'] :: wordsSigns yvk:=by
 rw [yA3,String.toList_ofList,yft _ _ (by decide),yft _ _ (by decide),yft _ _ (by decide)]
 exact behind _ _ (by decide)
theorem yrS : laidOutB Try.prog = true:=by kernel_rfl
theorem yxH : mapsRowed Try.prog = true:=by kernel_rfl
theorem yv4 : Try.prog.stops = []:=by kernel_rfl
theorem yvN : Try.prog.stopKnobs = []:=by kernel_rfl
theorem yvA : Try.prog.stopsHeard = true:=by kernel_rfl
theorem yyd : Try.prog.plainKeys = true:=by kernel_rfl
theorem yv8 : Try.prog.laysLater = false:=by kernel_rfl
theorem ys6 : Try.prog.bearsReflect = false:=by kernel_rfl
theorem yxq : Try.prog.doorFits [] = true:=by kernel_rfl
theorem yt1 : ownKnob Try.prog.godebug = none:=by kernel_rfl
theorem yxx : SeatFacts Try.prog :=
 ⟨yrS,yxH,yv4,yvN,yvA,yyd,yuQ ykr yv8 ys6 yxq,yrn ykr,yA2 ykr,yt1⟩
end Go.Proofs.Ytefegahoniahkaa
