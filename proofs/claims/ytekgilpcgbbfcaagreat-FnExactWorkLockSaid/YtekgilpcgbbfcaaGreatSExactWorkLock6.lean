/- What the law FnExactWorkLock stands on: contracts of functions, what each answers as plain Lean, in short form (names, layout). -/
import Derived.Test.YtekgilpcgbbfcaaGreatSExactWorkLock1
set_option linter.all false
set_option maxRecDepth 100000
set_option maxHeartbeats 4000000
namespace Go.Proofs.YtekgilpcgbbfcaaGreat
open Go.RowKit
noncomputable section
def ybh:SC:=ev (cc Tryz.f195 19 [])
def yeQ:Has prg 195 19 ybh [.t 4]:=jB none Tryz.func195
def yeN:SC:=ev (cc Tryz.f196 31 [])
def yoF:Has prg 196 31 yeN [.t 4]:=jB none Tryz.func196
def yfo:SC:=ev (cc Tryz.f197 31 [])
def yoB:Has prg 197 31 yfo [.t 4]:=jB none Tryz.func197
def yf5:SC:=ev (cc Tryz.f198 53 [])
def ypy:Has prg 198 53 yf5 [.t 4]:=jB none Tryz.func198
def yeT:SC:=ev (cc Tryz.f199 44 [])
def yn4:Has prg 199 44 yeT [.t 4]:=jB none Tryz.func199
def yfe:SC:=ev (cc Tryz.f200 21 [])
def yoS:Has prg 200 21 yfe [.t 4]:=jB none Tryz.func200
def ykV:SC:=ev (cc Tryz.f201 37 [])
def yvf:Has prg 201 37 ykV [.t 2]:=jB none Tryz.func201
def yji:SC:=ev (cc Tryz.f203 25 [])
def ysx:Has prg 203 25 yji [.cl 2 10]:=jB none Tryz.func203
def yjd:SC:=ev (cc Tryz.f204 32 [])
def yvl:Has prg 204 32 yjd [.t 2]:=jB none Tryz.func204
def ynK:SC:=ev (cc Tryz.f205 11 [])
def yyp:Has prg 205 11 ynK [.t 2]:=jB none Tryz.func205
def ymw:SC:=ev (cc Tryz.f206 47 [])
def yvV:Has prg 206 47 ymw [.t 2]:=jB none Tryz.func206
def yjJ:SC:=ev (cc Tryz.f207 19 [])
def yud:Has prg 207 19 yjJ [.t 4]:=jB none Tryz.func207
def yjI:SC:=ev (cc Tryz.f208 33 [])
def ysv:Has prg 208 33 yjI [.t 2]:=jB none Tryz.func208
def ygb:SC:=ev (cc Tryz.f209 12 [some [(9,2,false,[])]])
def yqn:Has prg 209 12 ygb [.cl 2 3]:=jB none Tryz.func209
def yiw:SC:=ev (cc Tryz.f210 8 [])
def yrk:Has prg 210 8 yiw [.cl 2 10]:=jB none Tryz.func210
def eP:SC:=ev (cc Tryz.f211 8 [])
def oZ:Has prg 211 8 eP [.t 2]:=jB none Tryz.func211
def yfY:SC:=ev (cc Tryz.f212 25 [some [(0,0,true,[]),(9,2,false,[0]),(10,2,false,[])]])
def ype:Has prg 212 25 yfY [.t 2]:=jB (some [220,146,175,62,61,100,31,106,101]) Tryz.func212
def yiL:SC:=ev (cc Tryz.f213 19 [])
def yr7:Has prg 213 19 yiL [.t 2]:=jB none Tryz.func213
def ykk:SC:=ev (cc Tryz.f214 19 [])
def yur:Has prg 214 19 ykk [.t 4]:=jB none Tryz.func214
def ykg:SC:=ev (cc Tryz.f215 43 [])
def ytQ:Has prg 215 43 ykg [.t 2]:=jB none Tryz.func215
def yml:SC:=ev (cc Tryz.f219 29 [])
def ywQ:Has prg 219 29 yml [.t 2]:=jB none Tryz.func219
def ymr:SC:=ev (cc Tryz.f220 30 [])
def yvs:Has prg 220 30 ymr [.t 2]:=jB none Tryz.func220
def yjU:SC:=ev (cc Tryz.f224 50 [none])
def ysS:Has prg 224 50 yjU [.t 4,.t 5]:=jB none Tryz.func224
def yjz:SC:=ev (cc Tryz.f227 55 [none])
def ysQ:Has prg 227 55 yjz [.t 2]:=jB none Tryz.func227
def yjx:SC:=ev (cc Tryz.f228 9 [])
def ytk:Has prg 228 9 yjx [.t 2]:=jB none Tryz.func228
def yia:SC:=ev (cc Tryz.f229 59 [])
def yrp:Has prg 229 59 yia [.t 6,.t 7]:=jB none Tryz.func229
def yqu:SC:=ev (cc Tryz.f230 69 [none,none])
def yBd:Has prg 230 69 yqu [.t 4]:=jB none Tryz.func230
def yh6:SC:=ev (cc Tryz.f231 55 [])
def yq7:Has prg 231 55 yh6 [.cl 8 10,.t 9]:=jB none Tryz.func231
def yhU:SC:=ev (cc Tryz.f232 17 [])
def yrs:Has prg 232 17 yhU [.cl 6 16]:=jB none Tryz.func232
def ygW:SC:=ev (cc Tryz.f233 10 [])
def ypf:Has prg 233 10 ygW [.t 4]:=jB none Tryz.func233
def ydo:SC:=ev (cc Tryz.f234 15 [none])
def ylu:Has prg 234 15 ydo [.t 2]:=jB none Tryz.func234
def yiR:SC:=ev (cc Tryz.f235 68 [some [(4,1,false,[]),(5,1,false,[]),(6,2,false,[]),(7,2,false,[])],none,some [(1,0,true,[]),(2,2,false,[1]),(3,2,false,[])],none,some [(1,0,true,[]),(2,2,false,[1]),(3,2,false,[])],some [(1,0,true,[]),(2,2,false,[1]),(3,2,false,[])]])
def yrz:Has prg 235 68 yiR [.cl 4 10,.cl 5 3]:=jB none Tryz.func235
def yf2:SC:=ev (cc Tryz.f236 63 [some [(4,1,false,[]),(5,1,false,[]),(6,2,false,[]),(7,2,false,[])],none,some [(1,0,true,[]),(2,2,false,[1]),(3,2,false,[])],none,some [(1,0,true,[]),(2,2,false,[1]),(3,2,false,[])],some [(4,2,false,[]),(5,2,false,[])]])
def ypP:Has prg 236 63 yf2 [.cl 4 10,.cl 5 3]:=jB none Tryz.func236
def ygP:SC:=ev (cc Tryz.f237 17 [])
def ypn:Has prg 237 17 ygP [.cl 6 16]:=jB none Tryz.func237
def yf0:SC:=ev (cc Tryz.f238 72 [none,some [(11,2,false,[]),(13,2,false,[])],some [(3,2,false,[]),(4,2,false,[])]])
def yp6:Has prg 238 72 yf0 [.cl 4 10,.cl 5 2,.t 6]:=jB none Tryz.func238
def ygh:SC:=ev (cc Tryz.f239 25 [some [(0,0,true,[]),(1,0,true,[]),(2,0,true,[]),(10,1,false,[]),(11,2,false,[0,1,2]),(13,2,false,[])]])
def ypS:Has prg 239 25 ygh [.cl 6 16]:=jB none Tryz.func239
def ymO:SC:=ev (cc Tryz.f240 32 [])
def yvX:Has prg 240 32 ymO [.t 4]:=jB none Tryz.func240
def yeB:SC:=ev (cc Tryz.f241 28 [])
def yn1:Has prg 241 28 yeB [.t 4]:=jB none Tryz.func241
def yiV:SC:=ev (cc Tryz.f242 38 [none])
def yrr:Has prg 242 38 yiV [.t 6]:=jB none Tryz.func242
def ygz:SC:=ev (cc Tryz.f243 71 [])
def ypd:Has prg 243 71 ygz [.t 4]:=jB none Tryz.func243
def sN:SC:=ev (cc Tryz.f244 9 [])
def xX:Has prg 244 9 sN [.t 2]:=jB none Tryz.func244
def ygi:SC:=ev (cc Tryz.f245 33 [some [(5,2,false,[]),(6,2,false,[])]])
def yql:Has prg 245 33 ygi [.cl 6 10,.t 7]:=jB (some [220,146,175,62,61,100,31,106,101]) Tryz.func245
def ydR:SC:=ev (cc Tryz.f246 28 [])
def ynj:Has prg 246 28 ydR [.t 4,.t 5]:=jB none Tryz.func246
def yel:SC:=ev (cc Tryz.f247 53 [none])
def yno:Has prg 247 53 yel [.t 6]:=jB none Tryz.func247
def yiF:SC:=ev (cc Tryz.f248 21 [])
def yrG:Has prg 248 21 yiF [.cl 4 2]:=jB none Tryz.func248
def ylN:SC:=ev (cc Tryz.f251 29 [])
def ywi:Has prg 251 29 ylN [.t 2]:=jB none Tryz.func251
def ymy:SC:=ev (cc Tryz.f252 30 [])
def yvW:Has prg 252 30 ymy [.t 2]:=jB none Tryz.func252
def yh8:SC:=ev (cc Tryz.f253 5 [])
def yr6:Has prg 253 5 yh8 [.t 2]:=jB none Tryz.func253
def yj0:SC:=ev (cc Tryz.f257 53 [])
def ysP:Has prg 257 53 yj0 [.t 4,.t 5]:=jB none Tryz.func257
end
end Go.Proofs.YtekgilpcgbbfcaaGreat
