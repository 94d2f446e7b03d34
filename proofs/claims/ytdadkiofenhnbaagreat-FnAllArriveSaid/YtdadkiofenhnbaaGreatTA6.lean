/- The machine of the proof: an abstract run of the code, proved sound. -/
import Derived.Test.YtdadkiofenhnbaaGreatRows
import Derived.Test.YtdadkiofenhnbaaGreatTA5
set_option linter.all false
namespace Go.Proofs.YtdadkiofenhnbaaGreat
def yIw:List Char:=['2','3','5','7','5','1','f','5','c','5','e','5','5','1','1','1','f','c','8','d','4','a','3','7','e','2','f','9','0','4','9','d','e','5','b','2','7','b','c','1','5','a','f','0','5','0','9','e','1','c','1','d','b','e','0','9','1','0','0','0','0','e','4','7']
def yBh:List Char:=
 ['a','t',' ','l','o','o','p','.','e','x','a','m','p','l','e','/','g','0','3','3','1','7','/','l','a','w','s','.','F','n','A','l','l','A','r','r','i','v','e',' ']++(
 ['l','o','o','p','.','e','x','a','m','p','l','e','/','g','0','3','3','1','7','/','l','a','w','s','.','F','n','T','o','p',' ','l','o','o','p','.','e','x','a','m']++(
 ['p','l','e','/','g','0','3','3','1','7','/','l','a','w','s','.','F','n','S','p','l','i','t','R','u','n',' ','l','o','o','p','.','e','x','a','m','p','l','e','/']++(
 ['g','0','3','3','1','7','/','l','a','w','s','.','F','n','E','x','a','c','t','W','o','r','k','L','o','c','k',' ','l','o','o','p','.','e','x','a','m','p','l','e']++(
 ['/','g','0','3','3','1','7','/','l','a','w','s','.','F','n','E','x','a','c','t','S','t','e','p','W','a','t','e','r','w','a','y',' ','l','o','o','p','.','e','x']++(
 ['a','m','p','l','e','/','g','0','3','3','1','7','/','l','a','w','s','.','F','n','E','x','a','c','t','R','u','n','W','a','t','e','r','w','a','y'])))))
def yIK:Tryz.prog.initOrder=String.ofList (['h','a','r','n','e','s','s']++ ' ' ::(yIw++ ' ' ::(['c','u','t']++ ' ' ::yBh))):=by kernel_rfl
def yns:behindMainWord (wordsSigns Tryz.prog.initOrder.toList)=['c','u','t']::wordsSigns yBh:=by
 rw[yIK,String.toList_ofList,yda _ _ (by decide),yda _ _ (by decide),yda _ _ (by decide)];exact behind _ _ (by decide)
def yxg:laidOutB Tryz.prog=true:=by kernel_rfl
def yFg:mapsRowed Tryz.prog=true:=by kernel_rfl
def yBM:Tryz.prog.stops=[]:=by kernel_rfl
def yBu:Tryz.prog.stopKnobs=[]:=by kernel_rfl
def yCo:Tryz.prog.stopsHeard=true:=by kernel_rfl
def yEu:Tryz.prog.plainKeys=true:=by kernel_rfl
def yCJ:Tryz.prog.laysLater=false:=by kernel_rfl
def yyt:Tryz.prog.bearsReflect=false:=by kernel_rfl
def yDK:Tryz.prog.doorFits []=true:=by kernel_rfl
def yBc:ownKnob Tryz.prog.godebug=none:=by kernel_rfl
def yDP:ySF Tryz.prog:=
 ⟨yxg,yFg,yBM,yBu,yCo,yEu,yzS yns yCJ yyt yDK,yvD yns,yId yns,yBc⟩
end Go.Proofs.YtdadkiofenhnbaaGreat
