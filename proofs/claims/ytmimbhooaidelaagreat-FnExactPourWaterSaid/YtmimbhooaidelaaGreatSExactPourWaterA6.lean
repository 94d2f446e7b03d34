/- What the law FnExactPourWater stands on: the machine, in short form (names, layout). -/
import Derived.Test.YtmimbhooaidelaaGreatRows
import Derived.Test.YtmimbhooaidelaaGreatSExactPourWaterA5
set_option linter.all false
namespace Go.Proofs.YtmimbhooaidelaaGreat
def yEX : List Char:=['a','4','3','3','e','5','d','c','4','7','9','f','b','7','1','a','a','c','5','b','7','c','7','8','6','5','7','e','6','d','5','7','c','4','c','c','6','1','f','1','e','3','4','4','c','7','0','8','2','f','2','b','4','f','a','2','9','b','0','9','0','c','f','5']
def yx9 : List Char :=
 ['a','t',' ','l','o','o','p','.','e','x','a','m','p','l','e','/','g','0','3','3','1','7','/','l','a','w','s','.','F','n','E','x','a','c','t','P','l','a','c','e'] ++ (
 ['s','O','f',' ','l','o','o','p','.','e','x','a','m','p','l','e','/','g','0','3','3','1','7','/','l','a','w','s','.','F','n','E','x','a','c','t','A','b','l','e'] ++ (
 ['C','a','l','l','s',' ','l','o','o','p','.','e','x','a','m','p','l','e','/','g','0','3','3','1','7','/','l','a','w','s','.','F','n','E','x','a','c','t','N','e'] ++ (
 ['w','W','a','t','e','r','w','a','y',' ','l','o','o','p','.','e','x','a','m','p','l','e','/','g','0','3','3','1','7','/','l','a','w','s','.','F','n','E','x','a'] ++ (
 ['c','t','E','n','t','e','r','T','r','a','i','n',' ','l','o','o','p','.','e','x','a','m','p','l','e','/','g','0','3','3','1','7','/','l','a','w','s','.','F','n'] ++ (
 ['E','x','a','c','t','P','o','u','r','W','a','t','e','r',' ','l','o','o','p','.','e','x','a','m','p','l','e','/','g','0','3','3','1','7','/','l','a','w','s','.'] ++ (
 ['F','n','E','x','a','c','t','S','a','i','l','A','l','l',' ','l','o','o','p','.','e','x','a','m','p','l','e','/','g','0','3','3','1','7','/','l','a','w','s','.'] ++ (
 ['F','n','E','x','a','c','t','S','t','e','e','r','W','e','i','r','s',' ','l','o','o','p','.','e','x','a','m','p','l','e','/','g','0','3','3','1','7','/','l','a'] ++ (
 ['w','s','.','F','n','E','x','a','c','t','W','o','r','k','L','o','c','k',' ','l','o','o','p','.','e','x','a','m','p','l','e','/','g','0','3','3','1','7','/','l'] ++ (
 ['a','w','s','.','F','n','E','x','a','c','t','S','t','e','p','W','a','t','e','r','w','a','y',' ','l','o','o','p','.','e','x','a','m','p','l','e','/','g','0','3'] ++ (
 ['3','1','7','/','l','a','w','s','.','F','n','E','x','a','c','t','R','u','n','W','a','t','e','r','w','a','y',' ','l','o','o','p','.','e','x','a','m','p','l','e'] ++ (
 ['/','g','0','3','3','1','7','/','l','a','w','s','.','F','n','S','p','l','i','t','R','u','n',' ','l','o','o','p','.','e','x','a','m','p','l','e','/','g','0','3'] ++ (
 ['3','1','7','/','l','a','w','s','.','F','n','O','n','l','y','W','a','t','e','r']))))))))))))
theorem yFc : Tryz.prog.initOrder = String.ofList (['h','a','r','n','e','s','s'] ++ ' ' :: (yEX ++ ' ' :: (['c','u','t'] ++ ' ' :: yx9))):=by kernel_rfl
theorem ypi : behindMainWord (wordsSigns Tryz.prog.initOrder.toList) = ['c','u','t'] :: wordsSigns yx9:=by
 rw [yFc,String.toList_ofList,yhg _ _ (by decide),yhg _ _ (by decide),yhg _ _ (by decide)]
 exact behind _ _ (by decide)
theorem yv7 : laidOutB Tryz.prog = true:=by kernel_rfl
theorem yCj : mapsRowed Tryz.prog = true:=by kernel_rfl
theorem yzU : Tryz.prog.stops = []:=by kernel_rfl
theorem yzO : Tryz.prog.stopKnobs = []:=by kernel_rfl
theorem yzs : Tryz.prog.stopsHeard = true:=by kernel_rfl
theorem yBp : Tryz.prog.plainKeys = true:=by kernel_rfl
theorem yAe : Tryz.prog.laysLater = false:=by kernel_rfl
theorem yxj : Tryz.prog.bearsReflect = false:=by kernel_rfl
theorem yCc : Tryz.prog.doorFits [] = true:=by kernel_rfl
theorem yxQ : ownKnob Tryz.prog.godebug = none:=by kernel_rfl
theorem yBL : SeatFacts Tryz.prog :=
 ⟨yv7,yCj,yzU,yzO,yzs,yBp,yyT ypi yAe yxj yCc,yuN ypi,yEU ypi,yxQ⟩
end Go.Proofs.YtmimbhooaidelaaGreat
