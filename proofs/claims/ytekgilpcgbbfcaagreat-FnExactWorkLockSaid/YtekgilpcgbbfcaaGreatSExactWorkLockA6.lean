/- What the law FnExactWorkLock stands on: the machine, in short form (names, layout). -/
import Derived.Test.YtekgilpcgbbfcaaGreatRows
import Derived.Test.YtekgilpcgbbfcaaGreatSExactWorkLockA5
set_option linter.all false
namespace Go.Proofs.YtekgilpcgbbfcaaGreat
def yIw:List Char:=['c','4','0','e','c','6','e','1','4','b','8','8','d','2','1','1','b','b','2','5','5','d','0','0','4','3','8','b','7','d','c','d','8','7','6','1','5','4','e','1','6','1','7','2','0','2','0','b','0','9','0','0','c','9','0','0','7','0','3','2','7','4','4','f']
def yBh:List Char:=
 ['a','t',' ','l','o','o','p','.','e','x','a','m','p','l','e','/','g','0','3','3','1','7','/','l','a','w','s','.','F','n','S','p','l','i','t','R','u','n',' ','l']++(
 ['o','o','p','.','e','x','a','m','p','l','e','/','g','0','3','3','1','7','/','l','a','w','s','.','F','n','E','x','a','c','t','W','o','r','k','L','o','c','k',' ']++(
 ['l','o','o','p','.','e','x','a','m','p','l','e','/','g','0','3','3','1','7','/','l','a','w','s','.','F','n','E','x','a','c','t','S','t','e','p','W','a','t','e']++(
 ['r','w','a','y',' ','l','o','o','p','.','e','x','a','m','p','l','e','/','g','0','3','3','1','7','/','l','a','w','s','.','F','n','E','x','a','c','t','R','u','n']++(
 ['W','a','t','e','r','w','a','y']))))
def yIK:Tryz.prog.initOrder=String.ofList (['h','a','r','n','e','s','s']++ ' ' ::(yIw++ ' ' ::(['c','u','t']++ ' ' ::yBh))):=by kernel_rfl
def yns:behindMainWord (wordsSigns Tryz.prog.initOrder.toList)=['c','u','t']::wordsSigns yBh:=by
 rw[yIK,String.toList_ofList,yda _ _ (by decide),yda _ _ (by decide),yda _ _ (by decide)];exact behind _ _ (by decide)
def yxg:laidOutB Tryz.prog=true:=by kernel_rfl
def yFg:mapsRowed Tryz.prog=true:=by kernel_rfl
def yBM:Tryz.prog.stops=[]:=by kernel_rfl
def yBu:Tryz.prog.stopKnobs=[]:=by kernel_rfl
def yCo:Tryz.prog.stopsHeard=true:=by kernel_rfl
def yEu:Tryz.prog.plainKeys=true:=by kernel_rfl
def yCJ:Tryz.prog.laysLater=false:=by kernel_rfl
def yyt:Tryz.prog.bearsReflect=false:=by kernel_rfl
def yDK:Tryz.prog.doorFits []=true:=by kernel_rfl
def yBc:ownKnob Tryz.prog.godebug=none:=by kernel_rfl
def yDP:ySF Tryz.prog:=
 ⟨yxg,yFg,yBM,yBu,yCo,yEu,yzS yns yCJ yyt yDK,yvD yns,yId yns,yBc⟩
end Go.Proofs.YtekgilpcgbbfcaaGreat
