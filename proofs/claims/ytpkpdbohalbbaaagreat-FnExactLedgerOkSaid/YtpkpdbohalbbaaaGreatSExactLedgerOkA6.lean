/- What the law FnExactLedgerOk stands on: the machine, in short form (names, layout). -/
import Derived.Test.YtpkpdbohalbbaaaGreatRows
import Derived.Test.YtpkpdbohalbbaaaGreatSExactLedgerOkA5
set_option linter.all false
namespace Go.Proofs.YtpkpdbohalbbaaaGreat
def yAM : List Char:=['9','9','7','6','c','6','7','0','3','9','8','5','0','c','7','c','0','9','d','0','4','4','8','8','8','c','d','9','8','e','6','1','e','6','9','a','f','8','1','7','d','d','d','3','f','1','b','a','6','f','e','6','5','d','f','f','f','d','1','c','2','9','c','0']
def yvk : List Char :=
 ['a','t',' ','l','o','o','p','.','e','x','a','m','p','l','e','/','g','0','3','3','1','7','/','l','a','w','s','.','F','n','E','x','a','c','t','B','o','a','t','s'] ++ (
 ['O','n','c','e',' ','l','o','o','p','.','e','x','a','m','p','l','e','/','g','0','3','3','1','7','/','l','a','w','s','.','F','n','E','x','a','c','t','L','e','d'] ++ (
 ['g','e','r','O','k']))
theorem yA3 : Tryz.prog.initOrder = String.ofList (['h','a','r','n','e','s','s'] ++ ' ' :: (yAM ++ ' ' :: (['c','u','t'] ++ ' ' :: yvk))):=by kernel_rfl
theorem ykr : behindMainWord (wordsSigns Tryz.prog.initOrder.toList) = ['c','u','t'] :: wordsSigns yvk:=by
 rw [yA3,String.toList_ofList,yft _ _ (by decide),yft _ _ (by decide),yft _ _ (by decide)]
 exact behind _ _ (by decide)
theorem yrS : laidOutB Tryz.prog = true:=by kernel_rfl
theorem yxH : mapsRowed Tryz.prog = true:=by kernel_rfl
theorem yv4 : Tryz.prog.stops = []:=by kernel_rfl
theorem yvN : Tryz.prog.stopKnobs = []:=by kernel_rfl
theorem yvA : Tryz.prog.stopsHeard = true:=by kernel_rfl
theorem yyd : Tryz.prog.plainKeys = true:=by kernel_rfl
theorem yv8 : Tryz.prog.laysLater = false:=by kernel_rfl
theorem ys6 : Tryz.prog.bearsReflect = false:=by kernel_rfl
theorem yxq : Tryz.prog.doorFits [] = true:=by kernel_rfl
theorem yt1 : ownKnob Tryz.prog.godebug = none:=by kernel_rfl
theorem yxx : SeatFacts Tryz.prog :=
 ⟨yrS,yxH,yv4,yvN,yvA,yyd,yuQ ykr yv8 ys6 yxq,yrn ykr,yA2 ykr,yt1⟩
end Go.Proofs.YtpkpdbohalbbaaaGreat
