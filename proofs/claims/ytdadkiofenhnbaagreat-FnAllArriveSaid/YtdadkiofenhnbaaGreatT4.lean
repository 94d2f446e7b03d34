/- What functions answer, in plain Lean. -/
import Derived.Test.YtdadkiofenhnbaaGreatT1
set_option linter.all false
set_option maxRecDepth 100000
set_option maxHeartbeats 4000000
namespace Go.Proofs.YtdadkiofenhnbaaGreat
open Go.RowKit
noncomputable section
def yYQ:SC:=ev (cc Tryz.f251 8 [])
def oZ:Has prg 251 8 yYQ [.t 2]:=jB none Tryz.func251
def ype:=yX9 25 [some [(0,0,true,[]),(9,2,false,[0]),(10,2,false,[])]] [.t 2] Tryz.func252 ((some [267,191,214,90,89,127,45,132,128]))
def yr7:=yX9 19 [] [.t 2] Tryz.func253
def tZ:=yX9 27 [] [.t 4] Tryz.func256
def iM:=yX9 9 [] [] Tryz.func257
def yeH:SC:=ev (cc Tryz.f258 25 [none])
def yoc:Has prg 258 25 yeH [.t 7]:=jB none Tryz.func258
def yrW:=yX9 35 [] [.t 2] Tryz.func259
def yuc:=yX9 35 [] [.t 2] Tryz.func260
def yta:=yX9 29 [] [.t 2] Tryz.func261
def ytQ:=yX9 43 [] [.t 2] Tryz.func262
def yWh:=yX9 31 [] [.t 4] Tryz.func263
def yV7:=yX9 19 [none] [.t 4] Tryz.func264
def yWK:=yX9 9 [] [.t 4] Tryz.func265
def ywQ:=yX9 29 [] [.t 2] Tryz.func266
def yvs:=yX9 30 [] [.t 2] Tryz.func267
def yVK:=yX9 31 [] [.cl 4 5] Tryz.func268
def yVZ:=yX9 42 [] [.t 8] Tryz.func269
def yVg:=yX9 41 [] [.t 6] Tryz.func270
def ysS:=yX9 50 [none] [.t 4,.t 5] Tryz.func271
def yWm:=yX9 48 [some [(4,2,false,[]),(5,2,false,[])],some [(9,0,true,[]),(10,1,false,[]),(11,2,false,[9])],some [(4,0,true,[]),(5,2,false,[4]),(6,2,false,[4])]] [.cl 8 3,.cl 9 3,.t 10] Tryz.func272
def yWq:=yX9 29 [] [.t 2] Tryz.func273
def ysQ:=yX9 55 [none] [.t 2] Tryz.func274
def ytk:=yX9 9 [] [.t 2] Tryz.func275
def yrp:=yX9 59 [] [.t 6,.t 7] Tryz.func276
def yqu:SC:=ev (cc Tryz.f277 69 [none,none])
def yBd:Has prg 277 69 yqu [.t 4]:=jB none Tryz.func277
def yq7:=yX9 55 [] [.cl 8 10,.t 9] Tryz.func278
def yrs:=yX9 17 [] [.cl 6 16] Tryz.func279
def ypf:=yX9 10 [] [.t 4] Tryz.func280
def ylu:=yX9 15 [none] [.t 2] Tryz.func281
def yrz:=yX9 68 [some [(4,1,false,[]),(5,1,false,[]),(6,2,false,[]),(7,2,false,[])],none,some [(1,0,true,[]),(2,2,false,[1]),(3,2,false,[])],none,some [(1,0,true,[]),(2,2,false,[1]),(3,2,false,[])],some [(1,0,true,[]),(2,2,false,[1]),(3,2,false,[])]] [.cl 4 10,.cl 5 3] Tryz.func282
def ypP:=yX9 63 [some [(4,1,false,[]),(5,1,false,[]),(6,2,false,[]),(7,2,false,[])],none,some [(1,0,true,[]),(2,2,false,[1]),(3,2,false,[])],none,some [(1,0,true,[]),(2,2,false,[1]),(3,2,false,[])],some [(4,2,false,[]),(5,2,false,[])]] [.cl 4 10,.cl 5 3] Tryz.func283
def ypn:=yX9 17 [] [.cl 6 16] Tryz.func284
def yp6:=yX9 72 [none,some [(11,2,false,[]),(13,2,false,[])],some [(3,2,false,[]),(4,2,false,[])]] [.cl 4 10,.cl 5 2,.t 6] Tryz.func285
def yvX:=yX9 32 [] [.t 4] Tryz.func286
def yn1:=yX9 28 [] [.t 4] Tryz.func287
def yrr:=yX9 38 [none] [.t 6] Tryz.func288
def ypd:=yX9 71 [] [.t 4] Tryz.func289
def sN:SC:=ev (cc Tryz.f290 9 [])
def xX:Has prg 290 9 sN [.t 2]:=jB none Tryz.func290
def yql:=yX9 33 [some [(5,2,false,[]),(6,2,false,[])]] [.cl 6 10,.t 7] Tryz.func291 ((some [267,191,214,90,89,127,45,132,128]))
def yrG:=yX9 21 [] [.cl 4 2] Tryz.func292
def ywi:=yX9 29 [] [.t 2] Tryz.func295
def yvW:=yX9 30 [] [.t 2] Tryz.func296
def yr6:=yX9 5 [] [.t 2] Tryz.func297
def ywr:=yX9 6 [] [.t 2] Tryz.func312
def ywF:=yX9 51 [] [.t 2] Tryz.func315
def ywC:=yX9 16 [] [.t 2] Tryz.func342
def ywo:=yX9 51 [] [.t 2] Tryz.func343
def yrY:=yX9 34 [] [.t 2] Tryz.func344
def ywN:=yX9 6 [] [.t 2] Tryz.func345
def yvI:=yX9 16 [] [.t 2] Tryz.func346
def iP:SC:=ev (cc Tryz.f347 8 [])
def mZ:Has prg 347 8 iP [.t 2]:=jB none Tryz.func347
def oQ:SC:=ev (cc Tryz.f348 8 [])
def yab:Has prg 348 8 oQ [.t 2]:=jB none Tryz.func348
def nS:=yX9 63 [] [] Tryz.func350
def ypT:=yX9 22 [] [.t 2] Tryz.func351
def yV2:=yX9 29 [] [.t 2] Tryz.func352
def yWG:=yX9 21 [] [.t 6] Tryz.func353
def ym5:=yX9 58 [none] [.t 4] Tryz.func354
def ywO:=yX9 11 [] [.t 4] Tryz.func355
def yvY:=yX9 34 [none] [.t 4] Tryz.func356
def ydi:SC:=ev (cc Tryz.f357 27 [none,none])
def ylH:Has prg 357 27 ydi [.t 6]:=jB none Tryz.func357
end
end Go.Proofs.YtdadkiofenhnbaaGreat
