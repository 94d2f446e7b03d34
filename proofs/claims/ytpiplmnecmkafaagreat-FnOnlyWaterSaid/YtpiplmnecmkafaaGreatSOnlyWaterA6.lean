/- What the law FnOnlyWater stands on: the machine, in short form (names, layout). -/
import Derived.Test.YtpiplmnecmkafaaGreatRows
import Derived.Test.YtpiplmnecmkafaaGreatSOnlyWaterA5
set_option linter.all false
namespace Go.Proofs.YtpiplmnecmkafaaGreat
def yt5:List Char:=['1','5','8','0','6','2','a','8','d','5','6','8','c','9','4','7','e','9','4','1','e','b','6','8','7','1','4','2','5','7','7','e','f','3','e','d','1','b','f','d','1','7','1','6','b','f','8','e','8','d','6','2','8','0','5','f','2','1','5','c','3','8','c','1']
def yl5:List Char:=
 ['a','t',' ','l','o','o','p','.','e','x','a','m','p','l','e','/','g','0','3','3','1','7','/','l','a','w','s','.','F','n','O','n','c','e','I','n',' ','l','o','o']++(
 ['p','.','e','x','a','m','p','l','e','/','g','0','3','3','1','7','/','l','a','w','s','.','F','n','O','n','l','y','W','a','t','e','r'])
theorem yu1:Tryz.prog.initOrder=String.ofList (['h','a','r','n','e','s','s']++ ' ' ::(yt5++ ' ' ::(['c','u','t']++ ' ' ::yl5))):=by kernel_rfl
theorem ydo:behindMainWord (wordsSigns Tryz.prog.initOrder.toList)=['c','u','t']::wordsSigns yl5:=by
 rw[yu1,String.toList_ofList,nZ _ _ (by decide),nZ _ _ (by decide),nZ _ _ (by decide)];exact behind _ _ (by decide)
theorem yki:laidOutB Tryz.prog=true:=by kernel_rfl
theorem yqr:mapsRowed Tryz.prog=true:=by kernel_rfl
theorem yn8:Tryz.prog.stops=[]:=by kernel_rfl
theorem yn5:Tryz.prog.stopKnobs=[]:=by kernel_rfl
theorem yon:Tryz.prog.stopsHeard=true:=by kernel_rfl
theorem yq2:Tryz.prog.plainKeys=true:=by kernel_rfl
theorem yoI:Tryz.prog.laysLater=false:=by kernel_rfl
theorem ykY:Tryz.prog.bearsReflect=false:=by kernel_rfl
theorem yqW:Tryz.prog.doorFits []=true:=by kernel_rfl
theorem ymU:ownKnob Tryz.prog.godebug=none:=by kernel_rfl
theorem yq3:SeatFacts Tryz.prog:=
 ⟨yki,yqr,yn8,yn5,yon,yq2,ym0 ydo yoI ykY yqW,yjA ydo,yvb ydo,ymU⟩
end Go.Proofs.YtpiplmnecmkafaaGreat
