/- What functions answer, in plain Lean. -/
import Derived.Test.YtdadkiofenhnbaaGreatS1
set_option linter.all false
set_option maxRecDepth 100000
set_option maxHeartbeats 4000000
namespace Go.Proofs.YtdadkiofenhnbaaGreat
open Go.RowKit
noncomputable section
def yrP:=yX9 33 [] [.t 6] Tryz.func317
def yqc:=yX9 76 [] [.t 4] Tryz.func318
def yo8:=yX9 26 [] [.t 4] Tryz.func319
def ypp:=yX9 32 [some [(4,1,false,[]),(5,2,false,[]),(7,2,false,[])]] [.cl 6 10,.t 7] Tryz.func320
def yrS:=yX9 21 [] [.cl 4 2] Tryz.func321
def yVW:=yX9 29 [] [.t 2] Tryz.func361
def yvy:=yX9 29 [none] [.t 4] Tryz.func364
def ynp:=yX9 66 [none] [.t 6] Tryz.func365
def yaaV:=yX9 37 [] [.t 4] Tryz.func45
def yaaZ:=yX9 57 [some [(0,0,true,[]),(1,0,true,[]),(2,0,true,[]),(3,0,true,[]),(4,0,true,[]),(5,0,true,[]),(15,1,false,[]),(16,2,false,[0,1,2,3,4,5]),(18,2,false,[])]] [.cl 4 2] Tryz.func46
def yoy:SC:=ev (cc Tryz.f47 15 [])
def yze:Has prg 47 15 yoy [.t 6]:=jB none Tryz.func47
def yuG:=yX9 76 [none] [.t 4] Tryz.func48
def yvf:=yX9 37 [] [.t 2] Tryz.func49
def ytg:=yX9 165 [some [(0,0,true,[]),(1,0,true,[]),(8,2,false,[0,1]),(9,2,false,[]),(11,2,false,[])],some [(0,0,true,[]),(1,0,true,[]),(8,2,false,[0,1]),(9,2,false,[]),(11,2,false,[])],some [(0,0,true,[]),(1,0,true,[]),(8,2,false,[0,1]),(9,2,false,[]),(11,2,false,[])]] [.cl 2 16] Tryz.func50 ((some [267,191,214,90,89,127,45,132,128]))
def yabj:=yX9 28 [] [.t 2] Tryz.func51
def ynS:=yX9 39 [] [.t 2] Tryz.func52
def ynT:=yX9 109 [] [.t 2] Tryz.func53
def yu2:=yX9 60 [none] [.t 2] Tryz.func54
def ylx:=yX9 79 [some [(0,0,true,[]),(9,2,false,[0]),(10,2,false,[])]] [.cl 2 16] Tryz.func55 ((some [267,191,214,90,89,127,45,132,128]))
def yyu:=yX9 23 [] [.t 2] Tryz.func56
def ycP:=yX9 9 [] [.t 4] Tryz.func57
def ypS:=yX9 25 [some [(0,0,true,[]),(1,0,true,[]),(2,0,true,[]),(10,1,false,[]),(11,2,false,[0,1,2]),(13,2,false,[])]] [.cl 6 16] Tryz.func58
def ykl:SC:=ev (cc Tryz.f60 15 [])
def yul:Has prg 60 15 ykl [.t 6]:=jB none Tryz.func60
def yWP:=yX9 38 [] [.cl 4 16] Tryz.func61
def ywJ:=yX9 18 [] [.t 2] Tryz.func62
def yts:=yX9 59 [none] [.t 2] Tryz.func66
def ynj:=yX9 28 [] [.t 4,.t 5] Tryz.func67
def yno:=yX9 53 [none] [.t 6] Tryz.func68
def yzb:=yX9 28 [] [.t 2] Tryz.func70
def ytC:=yX9 28 [some [(0,0,true,[]),(1,0,true,[]),(2,1,false,[]),(8,2,false,[0,1]),(9,2,false,[0,1]),(10,2,false,[]),(12,2,false,[])]] [.cl 2 2] Tryz.func71
def yW1:=yX9 152 [some [(12,2,false,[])],none,some [(0,0,true,[]),(1,0,true,[]),(2,0,true,[]),(9,1,false,[]),(10,2,false,[0,1,2]),(12,2,false,[])],some [(0,0,true,[]),(1,0,true,[]),(2,0,true,[]),(9,1,false,[]),(10,2,false,[0,1,2]),(12,2,false,[])],some [(0,0,true,[]),(1,0,true,[]),(2,0,true,[]),(10,1,false,[]),(11,2,false,[0,1,2]),(14,2,false,[])]] [.cl 2 16] Tryz.func72
def yWI:=yX9 132 [some [(5,0,true,[]),(6,0,true,[]),(7,0,true,[]),(8,0,true,[]),(9,0,true,[]),(10,0,true,[]),(11,1,false,[]),(12,1,false,[]),(13,2,false,[5,6,7,8,9,10]),(14,2,false,[])],some [(11,2,false,[])],some [(3,0,true,[]),(4,0,true,[]),(5,0,true,[]),(6,0,true,[]),(14,0,true,[]),(15,0,true,[]),(17,2,false,[3,4,5,6,14,15]),(19,2,false,[15])],none,some [(14,0,true,[]),(15,1,false,[]),(16,2,false,[14])]] [.cl 4 16] Tryz.func73
def yWU:=yX9 68 [some [(9,2,false,[])],some [(6,2,false,[])]] [.cl 4 16] Tryz.func74
def yBF:=yX9 57 [] [.cl 4 16] Tryz.func75
def yaae:=yX9 21 [] [.t 2] Tryz.func79
def yZ8:=yX9 12 [] [.t 4] Tryz.func127
def yaav:=yX9 69 [] [.t 2] Tryz.func128
def yr5:=yX9 47 [none] [.t 2] Tryz.func129
def yaaq:=yX9 39 [some [(0,0,true,[]),(1,0,true,[]),(3,1,false,[]),(4,2,false,[0,1]),(5,2,false,[0,1]),(6,2,false,[]),(8,2,false,[])],some [(8,2,false,[])]] [.cl 2 4] Tryz.func130 ((some [267,191,214,90,89,127,45,132,128]))
def yZm:SC:=ev (cc Tryz.f131 58 [none,none,none])
def yabh:Has prg 131 58 yZm [.t 2]:=jB none Tryz.func131
def yabq:=yX9 9 [] [.t 4] Tryz.func132
def yabA:=yX9 21 [] [.cl 4 6] Tryz.func133
def yut:=yX9 61 [none] [.t 2] Tryz.func134
def yvz:=yX9 22 [] [.t 2] Tryz.func135
def yjr:SC:=ev (cc Tryz.f136 14 [])
def ysq:Has prg 136 14 yjr [.cl 2 3]:=jB none Tryz.func136
def ynq:=yX9 41 [] [.cl 2 22] Tryz.func137
def yub:=yX9 9 [some [(6,2,false,[])]] [.cl 2 3] Tryz.func138
def yaap:=yX9 23 [] [.t 2] Tryz.func139
def yry:=yX9 100 [none] [.t 2] Tryz.func140
def yrm:=yX9 83 [] [.t 2] Tryz.func141
def yrQ:=yX9 63 [] [.t 2] Tryz.func142
def yvP:=yX9 19 [] [.t 2] Tryz.func143
def yuL:=yX9 90 [] [.t 2] Tryz.func144
def yrL:=yX9 63 [] [.t 2] Tryz.func145
def yvr:=yX9 31 [] [.t 2] Tryz.func146
def ym4:=yX9 22 [] [.t 2] Tryz.func147
def aT:SC:=ev (cc Tryz.f148 8 [])
def yal:Has prg 148 8 aT [.t 2]:=jB none Tryz.func148
def yp9:=yX9 30 [] [.t 2] Tryz.func149
def yoA:=yX9 23 [some [(0,0,true,[]),(7,2,false,[0]),(8,2,false,[])]] [.t 2] Tryz.func150 ((some [267,191,214,90,89,127,45,132,128]))
def ynC:=yX9 19 [] [.t 2] Tryz.func151
end
end Go.Proofs.YtdadkiofenhnbaaGreat
