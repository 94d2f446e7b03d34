/- What the law FnExactEnterTrain stands on: the machine, in short form (names, layout). -/
import Derived.Test.YtefegahoniahkaaGreatRows
import Derived.Test.YtefegahoniahkaaGreatSExactEnterTrainA5
set_option linter.all false
namespace Go.Proofs.YtefegahoniahkaaGreat
def yAM : List Char:=['b','d','2','d','c','8','2','7','0','f','2','4','8','4','1','9','4','a','8','5','f','f','a','5','7','e','7','4','3','5','3','6','8','6','8','1','b','d','2','6','e','e','6','c','1','f','2','b','7','d','5','9','1','f','2','1','e','7','5','e','e','9','2','3']
def yvk : List Char :=
 ['a','t',' ','l','o','o','p','.','e','x','a','m','p','l','e','/','g','0','3','3','1','7','/','l','a','w','s','.','F','n','E','x','a','c','t','N','e','w','W','a'] ++ (
 ['t','e','r','w','a','y',' ','l','o','o','p','.','e','x','a','m','p','l','e','/','g','0','3','3','1','7','/','l','a','w','s','.','F','n','E','x','a','c','t','E'] ++ (
 ['n','t','e','r','T','r','a','i','n',' ','l','o','o','p','.','e','x','a','m','p','l','e','/','g','0','3','3','1','7','/','l','a','w','s','.','F','n','E','x','a'] ++ (
 ['c','t','S','a','i','l','A','l','l',' ','l','o','o','p','.','e','x','a','m','p','l','e','/','g','0','3','3','1','7','/','l','a','w','s','.','F','n','E','x','a'] ++ (
 ['c','t','S','t','e','e','r','W','e','i','r','s']))))
theorem yA3 : Tryz.prog.initOrder = String.ofList (['h','a','r','n','e','s','s'] ++ ' ' :: (yAM ++ ' ' :: (['c','u','t'] ++ ' ' :: yvk))):=by kernel_rfl
theorem ykr : behindMainWord (wordsSigns Tryz.prog.initOrder.toList) = ['c','u','t'] :: wordsSigns yvk:=by
 rw [yA3,String.toList_ofList,yft _ _ (by decide),yft _ _ (by decide),yft _ _ (by decide)]
 exact behind _ _ (by decide)
theorem yrS : laidOutB Tryz.prog = true:=by kernel_rfl
theorem yxH : mapsRowed Tryz.prog = true:=by kernel_rfl
theorem yv4 : Tryz.prog.stops = []:=by kernel_rfl
theorem yvN : Tryz.prog.stopKnobs = []:=by kernel_rfl
theorem yvA : Tryz.prog.stopsHeard = true:=by kernel_rfl
theorem yyd : Tryz.prog.plainKeys = true:=by kernel_rfl
theorem yv8 : Tryz.prog.laysLater = false:=by kernel_rfl
theorem ys6 : Tryz.prog.bearsReflect = false:=by kernel_rfl
theorem yxq : Tryz.prog.doorFits [] = true:=by kernel_rfl
theorem yt1 : ownKnob Tryz.prog.godebug = none:=by kernel_rfl
theorem yxx : SeatFacts Tryz.prog :=
 ⟨yrS,yxH,yv4,yvN,yvA,yyd,yuQ ykr yv8 ys6 yxq,yrn ykr,yA2 ykr,yt1⟩
end Go.Proofs.YtefegahoniahkaaGreat
