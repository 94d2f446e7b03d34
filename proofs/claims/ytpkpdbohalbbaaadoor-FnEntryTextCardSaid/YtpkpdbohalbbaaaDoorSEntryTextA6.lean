/- What the law FnEntryText stands on: the machine, in short form (names, layout). -/
import Derived.Test.YtpkpdbohalbbaaaDoorRows
import Derived.Test.YtpkpdbohalbbaaaDoorSEntryTextA5
set_option linter.all false
namespace Go.Proofs.YtpkpdbohalbbaaaDoor
def yAM : List Char:=['9','6','a','a','e','8','f','f','7','6','0','8','c','e','5','3','1','f','a','6','5','6','1','b','6','7','f','1','5','9','e','e','1','9','d','5','c','5','6','c','a','b','7','b','a','0','1','9','f','9','0','e','5','a','1','7','8','a','5','b','e','6','d','3']
def yvk : List Char :=
 ['a','t',' ','l','o','o','p','.','e','x','a','m','p','l','e','/','g','0','3','3','1','7','/','l','a','w','s','.','F','n','E','x','a','c','t','F','o','r','m','a'] ++ (
 ['t','E','n','t','r','y',' ','l','o','o','p','.','e','x','a','m','p','l','e','/','g','0','3','3','1','7','/','l','a','w','s','.','F','n','E','x','a','c','t','P'] ++ (
 ['a','r','s','e','E','n','t','r','y',' ','l','o','o','p','.','e','x','a','m','p','l','e','/','g','0','3','3','1','7','/','l','a','w','s','.','F','n','E','n','t'] ++ (
 ['r','y','T','e','x','t'])))
theorem yA3 : Tryd.prog.initOrder = String.ofList (['h','a','r','n','e','s','s'] ++ ' ' :: (yAM ++ ' ' :: (['c','u','t'] ++ ' ' :: yvk))):=by kernel_rfl
theorem ykr : behindMainWord (wordsSigns Tryd.prog.initOrder.toList) = ['c','u','t'] :: wordsSigns yvk:=by
 rw [yA3,String.toList_ofList,yft _ _ (by decide),yft _ _ (by decide),yft _ _ (by decide)]
 exact behind _ _ (by decide)
theorem yrS : laidOutB Tryd.prog = true:=by kernel_rfl
theorem yxH : mapsRowed Tryd.prog = true:=by kernel_rfl
theorem yv4 : Tryd.prog.stops = []:=by kernel_rfl
theorem yvN : Tryd.prog.stopKnobs = []:=by kernel_rfl
theorem yvA : Tryd.prog.stopsHeard = true:=by kernel_rfl
theorem yyd : Tryd.prog.plainKeys = true:=by kernel_rfl
theorem yv8 : Tryd.prog.laysLater = false:=by kernel_rfl
theorem ys6 : Tryd.prog.bearsReflect = false:=by kernel_rfl
theorem yxq : Tryd.prog.doorFits [] = true:=by kernel_rfl
theorem yt1 : ownKnob Tryd.prog.godebug = none:=by kernel_rfl
theorem yxx : SeatFacts Tryd.prog :=
 ⟨yrS,yxH,yv4,yvN,yvA,yyd,yuQ ykr yv8 ys6 yxq,yrn ykr,yA2 ykr,yt1⟩
end Go.Proofs.YtpkpdbohalbbaaaDoor
