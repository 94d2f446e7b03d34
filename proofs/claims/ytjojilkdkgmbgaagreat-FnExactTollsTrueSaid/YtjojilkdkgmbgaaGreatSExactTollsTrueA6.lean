/- What the law FnExactTollsTrue stands on: the machine, in short form (names, layout). -/
import Derived.Test.YtjojilkdkgmbgaaGreatRows
import Derived.Test.YtjojilkdkgmbgaaGreatSExactTollsTrueA5
set_option linter.all false
namespace Go.Proofs.YtjojilkdkgmbgaaGreat
def yAM : List Char:=['b','6','8','d','3','8','4','3','2','4','6','5','9','d','1','3','3','a','4','9','8','b','6','f','b','0','9','0','a','6','e','5','4','b','e','f','b','5','3','6','0','e','2','9','c','2','5','0','a','6','e','d','2','c','1','2','f','c','6','3','9','8','9','2']
def yvk : List Char :=
 ['a','t',' ','l','o','o','p','.','e','x','a','m','p','l','e','/','g','0','3','3','1','7','/','l','a','w','s','.','F','n','E','x','a','c','t','T','o','l','l','s'] ++ (
 ['T','r','u','e',' ','l','o','o','p','.','e','x','a','m','p','l','e','/','g','0','3','3','1','7','/','l','a','w','s','.','F','n','E','x','a','c','t','S','a','i'] ++ (
 ['l','A','l','l',' ','l','o','o','p','.','e','x','a','m','p','l','e','/','g','0','3','3','1','7','/','l','a','w','s','.','F','n','E','x','a','c','t','W','o','r'] ++ (
 ['k','L','o','c','k'])))
theorem yA3 : Tryz.prog.initOrder = String.ofList (['h','a','r','n','e','s','s'] ++ ' ' :: (yAM ++ ' ' :: (['c','u','t'] ++ ' ' :: yvk))):=by kernel_rfl
theorem ykr : behindMainWord (wordsSigns Tryz.prog.initOrder.toList) = ['c','u','t'] :: wordsSigns yvk:=by
 rw [yA3,String.toList_ofList,yft _ _ (by decide),yft _ _ (by decide),yft _ _ (by decide)]
 exact behind _ _ (by decide)
theorem yrS : laidOutB Tryz.prog = true:=by kernel_rfl
theorem yxH : mapsRowed Tryz.prog = true:=by kernel_rfl
theorem yv4 : Tryz.prog.stops = []:=by kernel_rfl
theorem yvN : Tryz.prog.stopKnobs = []:=by kernel_rfl
theorem yvA : Tryz.prog.stopsHeard = true:=by kernel_rfl
theorem yyd : Tryz.prog.plainKeys = true:=by kernel_rfl
theorem yv8 : Tryz.prog.laysLater = false:=by kernel_rfl
theorem ys6 : Tryz.prog.bearsReflect = false:=by kernel_rfl
theorem yxq : Tryz.prog.doorFits [] = true:=by kernel_rfl
theorem yt1 : ownKnob Tryz.prog.godebug = none:=by kernel_rfl
theorem yxx : SeatFacts Tryz.prog :=
 ⟨yrS,yxH,yv4,yvN,yvA,yyd,yuQ ykr yv8 ys6 yxq,yrn ykr,yA2 ykr,yt1⟩
end Go.Proofs.YtjojilkdkgmbgaaGreat
