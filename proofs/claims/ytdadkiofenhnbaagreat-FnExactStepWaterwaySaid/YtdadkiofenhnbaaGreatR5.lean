/- What functions answer, in plain Lean. -/
import Derived.Test.YtdadkiofenhnbaaGreatR1
set_option linter.all false
set_option maxRecDepth 100000
set_option maxHeartbeats 4000000
namespace Go.Proofs.YtdadkiofenhnbaaGreat
open Go.RowKit
noncomputable section
def ycP:=yX9 9 [] [.t 4] Tryz.func57
def ypS:=yX9 25 [some [(0,0,true,[]),(1,0,true,[]),(2,0,true,[]),(10,1,false,[]),(11,2,false,[0,1,2]),(13,2,false,[])]] [.cl 6 16] Tryz.func58
def ykl:SC:=ev (cc Tryz.f60 15 [])
def yul:Has prg 60 15 ykl [.t 6]:=jB none Tryz.func60
def yWP:=yX9 38 [] [.cl 4 16] Tryz.func61
def ywJ:=yX9 18 [] [.t 2] Tryz.func62
def yts:=yX9 59 [none] [.t 2] Tryz.func66
def ynj:=yX9 28 [] [.t 4,.t 5] Tryz.func67
def yno:=yX9 53 [none] [.t 6] Tryz.func68
def yzb:=yX9 28 [] [.t 2] Tryz.func70
def ytC:=yX9 28 [some [(0,0,true,[]),(1,0,true,[]),(2,1,false,[]),(8,2,false,[0,1]),(9,2,false,[0,1]),(10,2,false,[]),(12,2,false,[])]] [.cl 2 2] Tryz.func71
def yW1:=yX9 152 [some [(12,2,false,[])],none,some [(0,0,true,[]),(1,0,true,[]),(2,0,true,[]),(9,1,false,[]),(10,2,false,[0,1,2]),(12,2,false,[])],some [(0,0,true,[]),(1,0,true,[]),(2,0,true,[]),(9,1,false,[]),(10,2,false,[0,1,2]),(12,2,false,[])],some [(0,0,true,[]),(1,0,true,[]),(2,0,true,[]),(10,1,false,[]),(11,2,false,[0,1,2]),(14,2,false,[])]] [.cl 2 16] Tryz.func72
def yWI:=yX9 132 [some [(5,0,true,[]),(6,0,true,[]),(7,0,true,[]),(8,0,true,[]),(9,0,true,[]),(10,0,true,[]),(11,1,false,[]),(12,1,false,[]),(13,2,false,[5,6,7,8,9,10]),(14,2,false,[])],some [(11,2,false,[])],some [(3,0,true,[]),(4,0,true,[]),(5,0,true,[]),(6,0,true,[]),(14,0,true,[]),(15,0,true,[]),(17,2,false,[3,4,5,6,14,15]),(19,2,false,[15])],none,some [(14,0,true,[]),(15,1,false,[]),(16,2,false,[14])]] [.cl 4 16] Tryz.func73
def yWU:=yX9 68 [some [(9,2,false,[])],some [(6,2,false,[])]] [.cl 4 16] Tryz.func74
def yBF:=yX9 57 [] [.cl 4 16] Tryz.func75
def yr5:=yX9 47 [none] [.t 2] Tryz.func129
def yut:=yX9 61 [none] [.t 2] Tryz.func134
def yvz:=yX9 22 [] [.t 2] Tryz.func135
def yjr:SC:=ev (cc Tryz.f136 14 [])
def ysq:Has prg 136 14 yjr [.cl 2 3]:=jB none Tryz.func136
def ynq:=yX9 41 [] [.cl 2 22] Tryz.func137
def yub:=yX9 9 [some [(6,2,false,[])]] [.cl 2 3] Tryz.func138
def yry:=yX9 100 [none] [.t 2] Tryz.func140
def yrm:=yX9 83 [] [.t 2] Tryz.func141
def yrQ:=yX9 63 [] [.t 2] Tryz.func142
def yvP:=yX9 19 [] [.t 2] Tryz.func143
def yuL:=yX9 90 [] [.t 2] Tryz.func144
def yrL:=yX9 63 [] [.t 2] Tryz.func145
def yvr:=yX9 31 [] [.t 2] Tryz.func146
def ym4:=yX9 22 [] [.t 2] Tryz.func147
def aT:SC:=ev (cc Tryz.f148 8 [])
def yal:Has prg 148 8 aT [.t 2]:=jB none Tryz.func148
def yp9:=yX9 30 [] [.t 2] Tryz.func149
def yoA:=yX9 23 [some [(0,0,true,[]),(7,2,false,[0]),(8,2,false,[])]] [.t 2] Tryz.func150 ((some [267,191,214,90,89,127,45,132,128]))
def ynC:=yX9 19 [] [.t 2] Tryz.func151
def yad:SC:=ev (cc Tryz.f152 8 [])
def yev:Has prg 152 8 yad [.t 2]:=jB none Tryz.func152
def yn6:=yX9 12 [] [.cl 2 4] Tryz.func153
def oJ:SC:=ev (cc Tryz.f154 8 [])
def fP:Has prg 154 8 oJ [.t 2]:=jB none Tryz.func154
def ypv:=yX9 9 [some [(6,2,false,[])]] [.cl 2 2] Tryz.func155
def ysF:=yX9 18 [] [.t 2] Tryz.func156
def yer:=yX9 19 [] [.t 4] Tryz.func157
def aN:SC:=ev (cc Tryz.f158 8 [])
def lX:Has prg 158 8 aN [.t 2]:=jB none Tryz.func158
def bQ:SC:=ev (cc Tryz.f159 9 [])
def yu:Has prg 159 9 bQ [.t 2]:=jB none Tryz.func159
def yua:=yX9 33 [] [.t 2] Tryz.func161
def yrf:=yX9 21 [] [.t 2] Tryz.func166
def ywK:=yX9 31 [] [.t 2] Tryz.func167
def dZ:=yX9 36 [] [.t 2] Tryz.func168
def yrT:=yX9 93 [] [.t 4] Tryz.func169
def ywt:=yX9 32 [none] [.t 4] Tryz.func170
def mQ:SC:=ev (cc Tryz.f171 8 [])
def yQ:Has prg 171 8 mQ [.t 2]:=jB none Tryz.func171
def yTb:SC:=ev (cc Tryz.f172 9 [])
def yTA:Has prg 172 9 yTb [.t 2]:=jB none Tryz.func172
def yWw:=yX9 42 [none] [.cl 6 3] Tryz.func173
def yWN:=yX9 17 [none] [.t 4] Tryz.func174
def yTg:SC:=ev (cc Tryz.f175 9 [])
def yTD:Has prg 175 9 yTg [.t 2]:=jB none Tryz.func175
def mP:SC:=ev (cc Tryz.f176 8 [])
def qZ:Has prg 176 8 mP [.t 2]:=jB none Tryz.func176
def yVx:=yX9 54 [some [(10,2,false,[])]] [.cl 10 5] Tryz.func177
def ysy:=yX9 28 [] [.t 2] Tryz.func178
def yVl:=yX9 45 [some [(4,2,false,[]),(5,2,false,[])],none,some [(12,2,false,[]),(13,2,false,[])]] [.cl 6 3,.cl 7 3,.t 8] Tryz.func179
def yVL:=yX9 38 [none] [.t 6] Tryz.func180
def ytZ:=yX9 38 [] [.cl 6 3,.t 7] Tryz.func181
def yt8:=yX9 72 [some [(4,0,true,[]),(5,0,true,[]),(6,0,true,[]),(7,0,true,[]),(8,0,true,[]),(9,1,false,[]),(10,1,false,[]),(11,2,false,[4,5,6,7,8]),(12,2,false,[])],none] [.t 4] Tryz.func182
def yvx:=yX9 43 [] [.cl 4 3] Tryz.func183
def yWj:=yX9 38 [some [(8,2,false,[])],some [(5,2,false,[])]] [.cl 2 3] Tryz.func184
end
end Go.Proofs.YtdadkiofenhnbaaGreat
