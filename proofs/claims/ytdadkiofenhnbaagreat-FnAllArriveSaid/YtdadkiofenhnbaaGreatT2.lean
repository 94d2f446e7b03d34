/- What functions answer, in plain Lean. -/
import Derived.Test.YtdadkiofenhnbaaGreatT1
set_option linter.all false
set_option maxRecDepth 100000
set_option maxHeartbeats 4000000
namespace Go.Proofs.YtdadkiofenhnbaaGreat
open Go.RowKit
noncomputable section
def yaiK:=yX9 154 [some [(8,0,true,[]),(9,2,false,[8])],some [(6,2,false,[])]] [.t 2] Tryz.func3
def yacN:=yX9 6 [] [.t 2] Tryz.func9
def yZV:=yX9 28 [] [.cl 2 16,.t 3] Tryz.func10
def yaaO:=yX9 27 [some [(0,1,false,[]),(2,2,true,[]),(3,0,false,[2]),(4,0,false,[2]),(6,0,false,[2]),(7,1,false,[2]),(9,1,false,[2]),(10,2,false,[])]] [.cl 6 3,.t 7] Tryz.func11
def yaax:SC:=ev (cc Tryz.f12 18 [])
def yady:Has prg 12 18 yaax [.t 4]:=jB none Tryz.func12
def yZ5:=yX9 54 [some [(6,1,false,[]),(8,1,false,[]),(9,2,false,[])]] [.cl 8 16,.t 9] Tryz.func13
def yaeY:=yX9 68 [] [.cl 4 16,.t 5] Tryz.func14
def yU5:=yX9 18 [] [.cl 6 16] Tryz.func15
def yafs:=yX9 17 [] [.t 2] Tryz.func16
def yakX:=yX9 17 [] [.t 4] Tryz.func17
def yaje:=yX9 36 [some [(9,2,false,[])],some [(9,2,false,[])]] [.t 2] Tryz.func18
def yafh:=yX9 18 [none] [.t 2] Tryz.func23
def yafe:=yX9 41 [] [.t 2] Tryz.func24
def yafd:=yX9 46 [] [.t 2] Tryz.func25
def yaaT:=yX9 83 [] [.t 2] Tryz.func33
def yabk:=yX9 26 [] [.t 2] Tryz.func34
def yabJ:=yX9 32 [] [.t 2] Tryz.func43
def yabE:=yX9 142 [some [(0,0,true,[]),(1,0,true,[]),(3,1,false,[]),(4,2,false,[0,1]),(7,2,false,[])],some [(0,0,true,[]),(2,2,true,[0]),(3,0,false,[2]),(4,2,true,[0]),(5,0,true,[]),(6,0,true,[2,4]),(7,0,true,[2,4]),(8,0,false,[2,4]),(9,2,true,[0,5,6,7]),(10,0,true,[]),(11,0,true,[]),(12,0,true,[2,4,9]),(13,0,false,[2,4,9]),(14,2,true,[0,5,6,7,10,11,12]),(16,1,false,[2,4,9,14]),(17,2,false,[])]] [.cl 2 16] Tryz.func44 ((some [267,191,214,90,89,127,45,132,128]))
def ywq:=yX9 32 [none] [.t 4] Tryz.func255
def ytX:=yX9 29 [] [.t 2] Tryz.func349
def yaaV:=yX9 37 [] [.t 4] Tryz.func45
def yaaZ:=yX9 57 [some [(0,0,true,[]),(1,0,true,[]),(2,0,true,[]),(3,0,true,[]),(4,0,true,[]),(5,0,true,[]),(15,1,false,[]),(16,2,false,[0,1,2,3,4,5]),(18,2,false,[])]] [.cl 4 2] Tryz.func46
def yoy:SC:=ev (cc Tryz.f47 15 [])
def yze:Has prg 47 15 yoy [.t 6]:=jB none Tryz.func47
def yuG:=yX9 76 [none] [.t 4] Tryz.func48
def yvf:=yX9 37 [] [.t 2] Tryz.func49
def ytg:=yX9 165 [some [(0,0,true,[]),(1,0,true,[]),(8,2,false,[0,1]),(9,2,false,[]),(11,2,false,[])],some [(0,0,true,[]),(1,0,true,[]),(8,2,false,[0,1]),(9,2,false,[]),(11,2,false,[])],some [(0,0,true,[]),(1,0,true,[]),(8,2,false,[0,1]),(9,2,false,[]),(11,2,false,[])]] [.cl 2 16] Tryz.func50 ((some [267,191,214,90,89,127,45,132,128]))
def yabj:=yX9 28 [] [.t 2] Tryz.func51
def ynS:=yX9 39 [] [.t 2] Tryz.func52
def ynT:=yX9 109 [] [.t 2] Tryz.func53
def yu2:=yX9 60 [none] [.t 2] Tryz.func54
def ylx:=yX9 79 [some [(0,0,true,[]),(9,2,false,[0]),(10,2,false,[])]] [.cl 2 16] Tryz.func55 ((some [267,191,214,90,89,127,45,132,128]))
def yyu:=yX9 23 [] [.t 2] Tryz.func56
def ycP:=yX9 9 [] [.t 4] Tryz.func57
def ypS:=yX9 25 [some [(0,0,true,[]),(1,0,true,[]),(2,0,true,[]),(10,1,false,[]),(11,2,false,[0,1,2]),(13,2,false,[])]] [.cl 6 16] Tryz.func58
def yabB:=yX9 36 [] [.t 2] Tryz.func59
def ykl:SC:=ev (cc Tryz.f60 15 [])
def yul:Has prg 60 15 ykl [.t 6]:=jB none Tryz.func60
def yWP:=yX9 38 [] [.cl 4 16] Tryz.func61
def ywJ:=yX9 18 [] [.t 2] Tryz.func62
def yts:=yX9 59 [none] [.t 2] Tryz.func66
def ynj:=yX9 28 [] [.t 4,.t 5] Tryz.func67
def yno:=yX9 53 [none] [.t 6] Tryz.func68
def yaan:=yX9 26 [none] [.t 4] Tryz.func69
def yzb:=yX9 28 [] [.t 2] Tryz.func70
def ytC:=yX9 28 [some [(0,0,true,[]),(1,0,true,[]),(2,1,false,[]),(8,2,false,[0,1]),(9,2,false,[0,1]),(10,2,false,[]),(12,2,false,[])]] [.cl 2 2] Tryz.func71
def yW1:=yX9 152 [some [(12,2,false,[])],none,some [(0,0,true,[]),(1,0,true,[]),(2,0,true,[]),(9,1,false,[]),(10,2,false,[0,1,2]),(12,2,false,[])],some [(0,0,true,[]),(1,0,true,[]),(2,0,true,[]),(9,1,false,[]),(10,2,false,[0,1,2]),(12,2,false,[])],some [(0,0,true,[]),(1,0,true,[]),(2,0,true,[]),(10,1,false,[]),(11,2,false,[0,1,2]),(14,2,false,[])]] [.cl 2 16] Tryz.func72
def yWI:=yX9 132 [some [(5,0,true,[]),(6,0,true,[]),(7,0,true,[]),(8,0,true,[]),(9,0,true,[]),(10,0,true,[]),(11,1,false,[]),(12,1,false,[]),(13,2,false,[5,6,7,8,9,10]),(14,2,false,[])],some [(11,2,false,[])],some [(3,0,true,[]),(4,0,true,[]),(5,0,true,[]),(6,0,true,[]),(14,0,true,[]),(15,0,true,[]),(17,2,false,[3,4,5,6,14,15]),(19,2,false,[15])],none,some [(14,0,true,[]),(15,1,false,[]),(16,2,false,[14])]] [.cl 4 16] Tryz.func73
def yWU:=yX9 68 [some [(9,2,false,[])],some [(6,2,false,[])]] [.cl 4 16] Tryz.func74
def yBF:=yX9 57 [] [.cl 4 16] Tryz.func75
def yaae:=yX9 21 [] [.t 2] Tryz.func79
def yZ8:=yX9 12 [] [.t 4] Tryz.func127
def yaav:=yX9 69 [] [.t 2] Tryz.func128
def yr5:=yX9 47 [none] [.t 2] Tryz.func129
def yaaq:=yX9 39 [some [(0,0,true,[]),(1,0,true,[]),(3,1,false,[]),(4,2,false,[0,1]),(5,2,false,[0,1]),(6,2,false,[]),(8,2,false,[])],some [(8,2,false,[])]] [.cl 2 4] Tryz.func130 ((some [267,191,214,90,89,127,45,132,128]))
def yZm:SC:=ev (cc Tryz.f131 58 [none,none,none])
def yabh:Has prg 131 58 yZm [.t 2]:=jB none Tryz.func131
def yabq:=yX9 9 [] [.t 4] Tryz.func132
def yabA:=yX9 21 [] [.cl 4 6] Tryz.func133
def yut:=yX9 61 [none] [.t 2] Tryz.func134
def yvz:=yX9 22 [] [.t 2] Tryz.func135
def yjr:SC:=ev (cc Tryz.f136 14 [])
def ysq:Has prg 136 14 yjr [.cl 2 3]:=jB none Tryz.func136
def ynq:=yX9 41 [] [.cl 2 22] Tryz.func137
end
end Go.Proofs.YtdadkiofenhnbaaGreat
