/- What functions answer, in plain Lean. -/
import Derived.Test.YtdadkiofenhnbaaGreatS1
set_option linter.all false
set_option maxRecDepth 100000
set_option maxHeartbeats 4000000
namespace Go.Proofs.YtdadkiofenhnbaaGreat
open Go.RowKit
noncomputable section
def yacN:=yX9 6 [] [.t 2] Tryz.func9
def yZV:=yX9 28 [] [.cl 2 16,.t 3] Tryz.func10
def yaaO:=yX9 27 [some [(0,1,false,[]),(2,2,true,[]),(3,0,false,[2]),(4,0,false,[2]),(6,0,false,[2]),(7,1,false,[2]),(9,1,false,[2]),(10,2,false,[])]] [.cl 6 3,.t 7] Tryz.func11
def yaax:SC:=ev (cc Tryz.f12 18 [])
def yady:Has prg 12 18 yaax [.t 4]:=jB none Tryz.func12
def yZ5:=yX9 54 [some [(6,1,false,[]),(8,1,false,[]),(9,2,false,[])]] [.cl 8 16,.t 9] Tryz.func13
def yU5:=yX9 18 [] [.cl 6 16] Tryz.func15
def yaaT:=yX9 83 [] [.t 2] Tryz.func33
def yabk:=yX9 26 [] [.t 2] Tryz.func34
def yabJ:=yX9 32 [] [.t 2] Tryz.func43
def yabE:=yX9 142 [some [(0,0,true,[]),(1,0,true,[]),(3,1,false,[]),(4,2,false,[0,1]),(7,2,false,[])],some [(0,0,true,[]),(2,2,true,[0]),(3,0,false,[2]),(4,2,true,[0]),(5,0,true,[]),(6,0,true,[2,4]),(7,0,true,[2,4]),(8,0,false,[2,4]),(9,2,true,[0,5,6,7]),(10,0,true,[]),(11,0,true,[]),(12,0,true,[2,4,9]),(13,0,false,[2,4,9]),(14,2,true,[0,5,6,7,10,11,12]),(16,1,false,[2,4,9,14]),(17,2,false,[])]] [.cl 2 16] Tryz.func44 ((some [267,191,214,90,89,127,45,132,128]))
def ywq:=yX9 32 [none] [.t 4] Tryz.func255
def ytX:=yX9 29 [] [.t 2] Tryz.func349
def yaaa:=yX9 123 [some [(8,0,true,[]),(9,2,false,[8])],none] [.t 2] Tryz.func5
def yaak:=yX9 97 [none,some [(0,0,true,[]),(1,0,true,[]),(2,0,true,[]),(17,1,false,[]),(18,2,false,[0,1,2]),(20,2,false,[])],some [(0,0,true,[]),(1,0,true,[]),(9,1,false,[]),(10,2,false,[0,1]),(12,2,false,[])]] [.cl 4 16,.t 5] Tryz.func26
def yabr:=yX9 6 [] [.cl 2 16] Tryz.func27
def yaac:=yX9 9 [] [.cl 4 16] Tryz.func28
def yaar:=yX9 9 [] [.cl 4 16] Tryz.func29
def yrg:=yX9 9 [] [.cl 4 16] Tryz.func30
def yUR:=yX9 39 [] [.cl 4 16] Tryz.func31
def yaaW:=yX9 26 [none] [.t 4] Tryz.func32
def yZ4:=yX9 26 [none] [.t 4] Tryz.func35
def yrM:=yX9 39 [] [.cl 4 16] Tryz.func37
def yVS:=yX9 81 [some [(19,1,false,[]),(20,2,false,[])],some [(12,3,false,[])]] [.cl 2 16] Tryz.func76 ((some [267,191,214,90,89,127,45,132,128]))
def yVh:=yX9 138 [some [(26,2,false,[])],some [(18,0,true,[]),(19,0,true,[]),(20,1,false,[]),(21,1,false,[]),(22,2,false,[18,19]),(23,2,false,[19])],some [(23,0,true,[]),(24,1,false,[]),(25,2,false,[23])]] [.cl 4 16] Tryz.func77
def yVy:=yX9 66 [some [(9,2,false,[])],some [(10,2,false,[])]] [.cl 4 16] Tryz.func78
def ykd:SC:=ev (cc Tryz.f89 160 [some [],some [(23,0,true,[]),(24,1,false,[]),(25,2,false,[23])],some [],some [(14,0,true,[]),(15,1,false,[]),(16,1,false,[]),(17,2,false,[14]),(18,2,false,[])],some [(7,2,false,[])],some [(14,0,true,[]),(15,1,false,[]),(16,1,false,[]),(17,2,false,[14]),(18,2,false,[])],some [(7,2,false,[])]])
def yvg:Has prg 89 160 ykd []:=jB (some [267,191,214,90,89,127,45,132,128]) Tryz.func89
def bK:SC:=ev (cc Tryz.f90 148 [some [(8,0,true,[]),(9,0,true,[]),(10,1,false,[]),(11,1,false,[]),(12,2,false,[8,9]),(13,2,false,[9])],some [(0,0,true,[]),(1,0,true,[]),(2,0,true,[]),(3,0,true,[]),(4,0,true,[]),(15,1,false,[]),(16,2,false,[0,1,2,3,4]),(18,2,false,[])],some [(22,3,false,[])],some []])
def jL:Has prg 90 148 bK []:=jB (some [267,191,214,90,89,127,45,132,128]) Tryz.func90
def yV8:=yX9 45 [none] [.cl 6 3] Tryz.func189
def yWB:=yX9 20 [] [.t 4] Tryz.func190
def yTj:SC:=ev (cc Tryz.f191 72 [some [(0,0,true,[]),(6,1,false,[]),(7,2,false,[0]),(10,2,false,[])],some [(0,0,true,[]),(11,1,false,[]),(12,2,false,[0]),(15,2,false,[])]])
def yV4:Has prg 191 72 yTj [.t 6]:=jB none Tryz.func191
def yVt:=yX9 54 [some [(10,2,false,[])]] [.cl 10 5] Tryz.func192
def ysT:=yX9 28 [] [.t 2] Tryz.func193
def yVj:=yX9 43 [some [(4,2,false,[]),(5,2,false,[])],some [(17,2,false,[]),(18,2,false,[])]] [.cl 6 3,.cl 7 3,.t 8] Tryz.func194
def ytj:=yX9 38 [] [.cl 6 3,.t 7] Tryz.func195
def yVJ:=yX9 38 [none] [.t 6] Tryz.func196
def ywR:=yX9 46 [some [(17,2,false,[])]] [.cl 4 3] Tryz.func197
def yWi:=yX9 33 [some [(8,2,false,[])]] [.cl 2 3] Tryz.func198
def yrd:=yX9 60 [] [.t 6,.t 7] Tryz.func206
def yqe:=yX9 95 [some [],some [],some [(0,0,true,[]),(16,2,false,[0]),(17,2,false,[])]] [.t 4] Tryz.func207 ((some [267,191,214,90,89,127,45,132,128]))
def yrh:=yX9 53 [none] [.cl 8 10,.t 9] Tryz.func208
def ylG:=yX9 15 [none] [.t 2] Tryz.func209
def yrU:=yX9 65 [none,some [(3,2,false,[]),(4,2,false,[])],some [(15,0,true,[]),(16,1,false,[]),(17,2,false,[15])],some [(3,2,false,[]),(4,2,false,[])],some [(1,0,true,[]),(2,2,false,[1]),(3,2,false,[])]] [.cl 4 10,.cl 5 3] Tryz.func210
def ypz:=yX9 63 [none,some [(3,2,false,[]),(4,2,false,[])],none,some [(3,2,false,[]),(4,2,false,[])],some [(4,2,false,[]),(5,2,false,[])]] [.cl 4 10,.cl 5 3] Tryz.func211
def ypq:=yX9 76 [none,some [(0,1,false,[]),(5,2,true,[]),(6,0,false,[5]),(7,0,false,[5]),(8,0,false,[5]),(9,0,false,[5]),(10,0,false,[5]),(11,2,false,[]),(13,2,false,[])],some [(1,0,true,[]),(2,2,false,[1]),(3,2,false,[])]] [.cl 4 10,.cl 5 2,.t 6] Tryz.func212
def ywB:=yX9 33 [none] [.t 4] Tryz.func213
def ydW:SC:=ev (cc Tryz.f214 218 [none,none,none,some [(10,0,true,[]),(13,2,false,[10])],some [(18,0,true,[]),(21,2,false,[18])],some [(0,0,true,[]),(13,1,false,[]),(14,2,false,[0]),(17,2,false,[])],some [(22,2,false,[])]])
def yje:Has prg 214 218 ydW [.t 6]:=jB none Tryz.func214
def yrV:=yX9 10 [] [.cl 2 10] Tryz.func215
def yWo:=yX9 31 [] [.t 4] Tryz.func293
def yV3:=yX9 19 [none] [.t 4] Tryz.func294
def yVO:=yX9 32 [] [.cl 4 5] Tryz.func298
def yWa:=yX9 39 [] [.t 8] Tryz.func299
def yVm:=yX9 41 [] [.t 6] Tryz.func300
def ysP:=yX9 53 [] [.t 4,.t 5] Tryz.func301
def yWp:=yX9 48 [some [(4,2,false,[]),(5,2,false,[])],some [(9,0,true,[]),(10,1,false,[]),(11,2,false,[9])],some [(4,0,true,[]),(5,2,false,[4]),(6,2,false,[4])]] [.cl 8 3,.cl 9 3,.t 10] Tryz.func302
def yWf:=yX9 25 [] [.t 2] Tryz.func303
def yte:=yX9 9 [] [.t 2] Tryz.func304
def yoX:=yX9 57 [none,some [(0,1,false,[]),(4,2,true,[]),(5,0,false,[4]),(6,1,false,[4]),(7,2,true,[]),(8,0,false,[4,7]),(9,0,false,[4,7]),(10,0,false,[4,7]),(11,2,false,[])]] [.t 4] Tryz.func311
def ypj:=yX9 26 [] [.t 2] Tryz.func313
def ym1:=yX9 73 [] [.t 4] Tryz.func314
def ytU:=yX9 22 [none] [.t 6] Tryz.func316
end
end Go.Proofs.YtdadkiofenhnbaaGreat
