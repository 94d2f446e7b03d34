/- What the law FnOnlyWater stands on: the machine, in short form (names, layout). -/
import Derived.Test.YtpiplmnecmkafaaGreatRows
import Derived.Test.YtpiplmnecmkafaaGreatSOnlyWaterA5
set_option linter.all false
namespace Go.Proofs.YtpiplmnecmkafaaGreat
def yAM : List Char:=['1','5','8','0','6','2','a','8','d','5','6','8','c','9','4','7','e','9','4','1','e','b','6','8','7','1','4','2','5','7','7','e','f','3','e','d','1','b','f','d','1','7','1','6','b','f','8','e','8','d','6','2','8','0','5','f','2','1','5','c','3','8','c','1']
def yvk : List Char :=
 ['a','t',' ','l','o','o','p','.','e','x','a','m','p','l','e','/','g','0','3','3','1','7','/','l','a','w','s','.','F','n','O','n','c','e','I','n',' ','l','o','o'] ++ (
 ['p','.','e','x','a','m','p','l','e','/','g','0','3','3','1','7','/','l','a','w','s','.','F','n','O','n','l','y','W','a','t','e','r'])
theorem yA3 : Tryz.prog.initOrder = String.ofList (['h','a','r','n','e','s','s'] ++ ' ' :: (yAM ++ ' ' :: (['c','u','t'] ++ ' ' :: yvk))):=by kernel_rfl
theorem ykr : behindMainWord (wordsSigns Tryz.prog.initOrder.toList) = ['c','u','t'] :: wordsSigns yvk:=by
 rw [yA3,String.toList_ofList,yft _ _ (by decide),yft _ _ (by decide),yft _ _ (by decide)]
 exact behind _ _ (by decide)
theorem yrS : laidOutB Tryz.prog = true:=by kernel_rfl
theorem yxH : mapsRowed Tryz.prog = true:=by kernel_rfl
theorem yv4 : Tryz.prog.stops = []:=by kernel_rfl
theorem yvN : Tryz.prog.stopKnobs = []:=by kernel_rfl
theorem yvA : Tryz.prog.stopsHeard = true:=by kernel_rfl
theorem yyd : Tryz.prog.plainKeys = true:=by kernel_rfl
theorem yv8 : Tryz.prog.laysLater = false:=by kernel_rfl
theorem ys6 : Tryz.prog.bearsReflect = false:=by kernel_rfl
theorem yxq : Tryz.prog.doorFits [] = true:=by kernel_rfl
theorem yt1 : ownKnob Tryz.prog.godebug = none:=by kernel_rfl
theorem yxx : SeatFacts Tryz.prog :=
 ⟨yrS,yxH,yv4,yvN,yvA,yyd,yuQ ykr yv8 ys6 yxq,yrn ykr,yA2 ykr,yt1⟩
end Go.Proofs.YtpiplmnecmkafaaGreat
