/- What functions answer, in plain Lean. -/
import Derived.Test.YtdadkiofenhnbaaGreatT1
set_option linter.all false
set_option maxRecDepth 100000
set_option maxHeartbeats 4000000
namespace Go.Proofs.YtdadkiofenhnbaaGreat
open Go.RowKit
noncomputable section
def yub:=yX9 9 [some [(6,2,false,[])]] [.cl 2 3] Tryz.func138
def yaap:=yX9 23 [] [.t 2] Tryz.func139
def yry:=yX9 100 [none] [.t 2] Tryz.func140
def yrm:=yX9 83 [] [.t 2] Tryz.func141
def yrQ:=yX9 63 [] [.t 2] Tryz.func142
def yvP:=yX9 19 [] [.t 2] Tryz.func143
def yuL:=yX9 90 [] [.t 2] Tryz.func144
def yrL:=yX9 63 [] [.t 2] Tryz.func145
def yvr:=yX9 31 [] [.t 2] Tryz.func146
def ym4:=yX9 22 [] [.t 2] Tryz.func147
def aT:SC:=ev (cc Tryz.f148 8 [])
def yal:Has prg 148 8 aT [.t 2]:=jB none Tryz.func148
def yp9:=yX9 30 [] [.t 2] Tryz.func149
def yoA:=yX9 23 [some [(0,0,true,[]),(7,2,false,[0]),(8,2,false,[])]] [.t 2] Tryz.func150 ((some [267,191,214,90,89,127,45,132,128]))
def ynC:=yX9 19 [] [.t 2] Tryz.func151
def yad:SC:=ev (cc Tryz.f152 8 [])
def yev:Has prg 152 8 yad [.t 2]:=jB none Tryz.func152
def yn6:=yX9 12 [] [.cl 2 4] Tryz.func153
def oJ:SC:=ev (cc Tryz.f154 8 [])
def fP:Has prg 154 8 oJ [.t 2]:=jB none Tryz.func154
def ypv:=yX9 9 [some [(6,2,false,[])]] [.cl 2 2] Tryz.func155
def ysF:=yX9 18 [] [.t 2] Tryz.func156
def yer:=yX9 19 [] [.t 4] Tryz.func157
def aN:SC:=ev (cc Tryz.f158 8 [])
def lX:Has prg 158 8 aN [.t 2]:=jB none Tryz.func158
def bQ:SC:=ev (cc Tryz.f159 9 [])
def yu:Has prg 159 9 bQ [.t 2]:=jB none Tryz.func159
def yabH:=yX9 27 [] [.t 4] Tryz.func160
def yua:=yX9 33 [] [.t 2] Tryz.func161
def yrf:=yX9 21 [] [.t 2] Tryz.func166
def ywK:=yX9 31 [] [.t 2] Tryz.func167
def dZ:=yX9 36 [] [.t 2] Tryz.func168
def yrT:=yX9 93 [] [.t 4] Tryz.func169
def ywt:=yX9 32 [none] [.t 4] Tryz.func170
def mQ:SC:=ev (cc Tryz.f171 8 [])
def yQ:Has prg 171 8 mQ [.t 2]:=jB none Tryz.func171
def yTb:SC:=ev (cc Tryz.f172 9 [])
def yTA:Has prg 172 9 yTb [.t 2]:=jB none Tryz.func172
def yWw:=yX9 42 [none] [.cl 6 3] Tryz.func173
def yWN:=yX9 17 [none] [.t 4] Tryz.func174
def yTg:SC:=ev (cc Tryz.f175 9 [])
def yTD:Has prg 175 9 yTg [.t 2]:=jB none Tryz.func175
def mP:SC:=ev (cc Tryz.f176 8 [])
def qZ:Has prg 176 8 mP [.t 2]:=jB none Tryz.func176
def yVx:=yX9 54 [some [(10,2,false,[])]] [.cl 10 5] Tryz.func177
def ysy:=yX9 28 [] [.t 2] Tryz.func178
def yVl:=yX9 45 [some [(4,2,false,[]),(5,2,false,[])],none,some [(12,2,false,[]),(13,2,false,[])]] [.cl 6 3,.cl 7 3,.t 8] Tryz.func179
def yVL:=yX9 38 [none] [.t 6] Tryz.func180
def ytZ:=yX9 38 [] [.cl 6 3,.t 7] Tryz.func181
def yt8:=yX9 72 [some [(4,0,true,[]),(5,0,true,[]),(6,0,true,[]),(7,0,true,[]),(8,0,true,[]),(9,1,false,[]),(10,1,false,[]),(11,2,false,[4,5,6,7,8]),(12,2,false,[])],none] [.t 4] Tryz.func182
def yvx:=yX9 43 [] [.cl 4 3] Tryz.func183
def yWj:=yX9 38 [some [(8,2,false,[])],some [(5,2,false,[])]] [.cl 2 3] Tryz.func184
def ygM:SC:=ev (cc Tryz.f185 109 [none,some [(17,0,true,[]),(18,1,false,[]),(19,2,false,[17])],none,some [(7,2,false,[])]])
def ypJ:Has prg 185 109 ygM [.cl 4 16]:=jB none Tryz.func185
def ygD:SC:=ev (cc Tryz.f186 58 [some [(10,0,true,[]),(11,0,true,[]),(12,1,false,[]),(13,1,false,[]),(14,2,false,[10,11]),(15,2,false,[11])],some [(9,2,false,[])]])
def yqh:Has prg 186 58 ygD [.cl 4 16,.t 5]:=jB none Tryz.func186
def ygE:SC:=ev (cc Tryz.f187 196 [some [(9,1,false,[]),(10,2,false,[])],some [(10,0,true,[]),(12,2,false,[10])],some [(14,0,true,[]),(16,2,false,[14])],some [(10,1,false,[]),(11,2,false,[]),(13,2,false,[])],some [(11,2,false,[])]])
def ypN:Has prg 187 196 ygE [.cl 4 16,.t 5]:=jB none Tryz.func187
def yiM:SC:=ev (cc Tryz.f188 46 [none])
def yr2:Has prg 188 46 yiM [.cl 4 16]:=jB none Tryz.func188
def ysA:=yX9 30 [] [.t 2] Tryz.func199
def ysw:=yX9 23 [] [.t 2] Tryz.func200
def ysx:=yX9 25 [] [.cl 2 10] Tryz.func240
def yvl:=yX9 32 [] [.t 2] Tryz.func241
def yyp:=yX9 11 [] [.t 2] Tryz.func242
def yvV:=yX9 47 [] [.t 2] Tryz.func243
def yud:=yX9 19 [] [.t 4] Tryz.func244
def ysv:=yX9 33 [] [.t 2] Tryz.func245
def yyM:=yX9 11 [] [.t 2] Tryz.func246
def yur:=yX9 19 [] [.t 4] Tryz.func247
def yvC:=yX9 48 [] [.t 2] Tryz.func248
def yqn:=yX9 12 [some [(9,2,false,[])]] [.cl 2 3] Tryz.func249
def yrk:=yX9 8 [] [.cl 2 10] Tryz.func250
end
end Go.Proofs.YtdadkiofenhnbaaGreat
