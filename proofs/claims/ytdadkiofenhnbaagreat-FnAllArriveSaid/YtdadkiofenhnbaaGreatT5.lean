/- What functions answer, in plain Lean. -/
import Derived.Test.YtdadkiofenhnbaaGreatT1
set_option linter.all false
set_option maxRecDepth 100000
set_option maxHeartbeats 4000000
namespace Go.Proofs.YtdadkiofenhnbaaGreat
open Go.RowKit
noncomputable section
def ym7:=yX9 62 [none,none] [.t 6] Tryz.func358
def kP:SC:=ev (cc Tryz.f359 8 [])
def rZ:Has prg 359 8 kP [.t 2]:=jB none Tryz.func359
def ynO:=yX9 19 [] [.t 2] Tryz.func360
def ylD:=yX9 44 [none] [.t 2] Tryz.func366
def ypB:=yX9 23 [] [.t 2] Tryz.func367
def yi1:=yX9 36 [] [.t 2] Tryz.func376
def dM:=yX9 53 [none,some [(2,0,true,[]),(3,0,true,[]),(4,0,true,[]),(15,2,false,[2,3,4]),(17,2,false,[])]] [] Tryz.func377
def qK:SC:=ev (cc Tryz.f378 220 [none,some [(2,0,true,[]),(3,0,true,[]),(4,0,true,[]),(15,2,false,[2,3,4]),(17,2,false,[])],none,some [(2,0,true,[]),(3,0,true,[]),(4,0,true,[]),(15,2,false,[2,3,4]),(17,2,false,[])],none])
def aQ:Has prg 378 220 qK []:=jB none Tryz.func378
def ydC:=yX9 58 [] [] Tryz.func381
def ybL:=yX9 38 [some [(4,0,true,[]),(5,0,true,[]),(6,0,true,[]),(7,0,true,[]),(21,2,false,[4,5,6,7]),(23,2,false,[])]] [] Tryz.func382
def yagd:=yX9 128 [some [(8,0,true,[]),(9,1,false,[]),(10,2,false,[8])],some [(8,1,false,[]),(9,2,false,[])],none] [.t 2] Tryz.func4
def yYl:=yX9 9 [] [.cl 4 16] Tryz.func19
def yafr:=yX9 17 [] [.t 2] Tryz.func20
def yss:=yX9 43 [] [.t 2] Tryz.func21
def yrH:=yX9 43 [] [.t 2] Tryz.func22
def yafa:=yX9 18 [none] [.t 2] Tryz.func63
def yaeZ:=yX9 28 [] [.t 2] Tryz.func64
def yafb:=yX9 81 [none,none] [.t 2] Tryz.func65
def yafm:=yX9 112 [] [.t 2] Tryz.func162
def yafp:=yX9 22 [] [.t 4] Tryz.func163
def ynd:=yX9 24 [] [.t 4,.t 5] Tryz.func164
def ynh:=yX9 58 [none,some [(13,1,false,[]),(14,2,false,[])]] [.t 6] Tryz.func165
def yrN:=yX9 112 [none] [.t 4] Tryz.func254
end
end Go.Proofs.YtdadkiofenhnbaaGreat
