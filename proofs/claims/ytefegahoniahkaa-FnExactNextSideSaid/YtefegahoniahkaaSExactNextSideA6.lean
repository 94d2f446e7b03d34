/- What the law FnExactNextSide stands on: the machine, in short form (names, layout). -/
import Derived.Test.YtefegahoniahkaaRows
import Derived.Test.YtefegahoniahkaaSExactNextSideA5
set_option linter.all false
namespace Go.Proofs.Ytefegahoniahkaa
def yra : List Char:=['c','a','8','1','b','2','4','5','0','4','3','a','3','1','2','a','a','d','2','4','c','7','f','0','f','1','1','0','1','c','2','6','b','2','4','d','2','1','9','7','0','5','1','3','f','1','9','8','8','6','f','0','2','d','b','0','f','3','6','1','9','c','e','b']
def ylY : List Char :=
 ['a','t',' ','l','o','o','p','.','e','x','a','m','p','l','e','/','g','0','3','3','1','7','/','l','a','w','s','.','F','n','E','x','a','c','t','N','e','x','t','S'] ++ (
 ['i','d','e',' ','l','o','o','p','.','e','x','a','m','p','l','e','/','g','0','3','3','1','7','/','l','a','w','s','.','F','n','E','x','a','c','t','O','r','d','e'] ++ (
 ['r','C','a','l','l','s']))
theorem yrt : Try.prog.initOrder = String.ofList (['h','a','r','n','e','s','s'] ++ ' ' :: (yra ++ ' ' :: (['c','u','t'] ++ ' ' :: ylY))):=by kernel_rfl
theorem ygz : behindMainWord (wordsSigns Try.prog.initOrder.toList) = ['c','u','t'] :: wordsSigns ylY:=by
 rw [yrt,String.toList_ofList,ycM _ _ (by decide),ycM _ _ (by decide),ycM _ _ (by decide)]
 exact behind _ _ (by decide)
theorem ykE : laidOutB Try.prog = true:=by kernel_rfl
theorem yoT : mapsRowed Try.prog = true:=by kernel_rfl
theorem ynk : Try.prog.stops = []:=by kernel_rfl
theorem ymG : Try.prog.stopKnobs = []:=by kernel_rfl
theorem ymK : Try.prog.stopsHeard = true:=by kernel_rfl
theorem yn3 : Try.prog.plainKeys = true:=by kernel_rfl
theorem ym8 : Try.prog.laysLater = false:=by kernel_rfl
theorem ylj : Try.prog.bearsReflect = false:=by kernel_rfl
theorem yn8 : Try.prog.doorFits [] = true:=by kernel_rfl
theorem yl4 : ownKnob Try.prog.godebug = none:=by kernel_rfl
theorem yo2 : SeatFacts Try.prog :=
 ⟨ykE,yoT,ynk,ymG,ymK,yn3,ymB ygz ym8 ylj yn8,yj6 ygz,yrk ygz,yl4⟩
end Go.Proofs.Ytefegahoniahkaa
