/- What functions answer, in plain Lean. -/
import Derived.Test.YtdadkiofenhnbaaGreatS1
set_option linter.all false
set_option maxRecDepth 100000
set_option maxHeartbeats 4000000
namespace Go.Proofs.YtdadkiofenhnbaaGreat
open Go.RowKit
noncomputable section
def yVK:=yX9 31 [] [.cl 4 5] Tryz.func268
def yVZ:=yX9 42 [] [.t 8] Tryz.func269
def yVg:=yX9 41 [] [.t 6] Tryz.func270
def ysS:=yX9 50 [none] [.t 4,.t 5] Tryz.func271
def yWm:=yX9 48 [some [(4,2,false,[]),(5,2,false,[])],some [(9,0,true,[]),(10,1,false,[]),(11,2,false,[9])],some [(4,0,true,[]),(5,2,false,[4]),(6,2,false,[4])]] [.cl 8 3,.cl 9 3,.t 10] Tryz.func272
def yWq:=yX9 29 [] [.t 2] Tryz.func273
def ysQ:=yX9 55 [none] [.t 2] Tryz.func274
def ytk:=yX9 9 [] [.t 2] Tryz.func275
def yrp:=yX9 59 [] [.t 6,.t 7] Tryz.func276
def yqu:SC:=ev (cc Tryz.f277 69 [none,none])
def yBd:Has prg 277 69 yqu [.t 4]:=jB none Tryz.func277
def yq7:=yX9 55 [] [.cl 8 10,.t 9] Tryz.func278
def yrs:=yX9 17 [] [.cl 6 16] Tryz.func279
def ypf:=yX9 10 [] [.t 4] Tryz.func280
def ylu:=yX9 15 [none] [.t 2] Tryz.func281
def yrz:=yX9 68 [some [(4,1,false,[]),(5,1,false,[]),(6,2,false,[]),(7,2,false,[])],none,some [(1,0,true,[]),(2,2,false,[1]),(3,2,false,[])],none,some [(1,0,true,[]),(2,2,false,[1]),(3,2,false,[])],some [(1,0,true,[]),(2,2,false,[1]),(3,2,false,[])]] [.cl 4 10,.cl 5 3] Tryz.func282
def ypP:=yX9 63 [some [(4,1,false,[]),(5,1,false,[]),(6,2,false,[]),(7,2,false,[])],none,some [(1,0,true,[]),(2,2,false,[1]),(3,2,false,[])],none,some [(1,0,true,[]),(2,2,false,[1]),(3,2,false,[])],some [(4,2,false,[]),(5,2,false,[])]] [.cl 4 10,.cl 5 3] Tryz.func283
def ypn:=yX9 17 [] [.cl 6 16] Tryz.func284
def yp6:=yX9 72 [none,some [(11,2,false,[]),(13,2,false,[])],some [(3,2,false,[]),(4,2,false,[])]] [.cl 4 10,.cl 5 2,.t 6] Tryz.func285
def yvX:=yX9 32 [] [.t 4] Tryz.func286
def yn1:=yX9 28 [] [.t 4] Tryz.func287
def yrr:=yX9 38 [none] [.t 6] Tryz.func288
def ypd:=yX9 71 [] [.t 4] Tryz.func289
def sN:SC:=ev (cc Tryz.f290 9 [])
def xX:Has prg 290 9 sN [.t 2]:=jB none Tryz.func290
def yql:=yX9 33 [some [(5,2,false,[]),(6,2,false,[])]] [.cl 6 10,.t 7] Tryz.func291 ((some [267,191,214,90,89,127,45,132,128]))
def yrG:=yX9 21 [] [.cl 4 2] Tryz.func292
def ywi:=yX9 29 [] [.t 2] Tryz.func295
def yvW:=yX9 30 [] [.t 2] Tryz.func296
def yr6:=yX9 5 [] [.t 2] Tryz.func297
def ywr:=yX9 6 [] [.t 2] Tryz.func312
def ywF:=yX9 51 [] [.t 2] Tryz.func315
def ywC:=yX9 16 [] [.t 2] Tryz.func342
def ywo:=yX9 51 [] [.t 2] Tryz.func343
def yrY:=yX9 34 [] [.t 2] Tryz.func344
def ywN:=yX9 6 [] [.t 2] Tryz.func345
def yvI:=yX9 16 [] [.t 2] Tryz.func346
def iP:SC:=ev (cc Tryz.f347 8 [])
def mZ:Has prg 347 8 iP [.t 2]:=jB none Tryz.func347
def oQ:SC:=ev (cc Tryz.f348 8 [])
def yab:Has prg 348 8 oQ [.t 2]:=jB none Tryz.func348
def nS:=yX9 63 [] [] Tryz.func350
def ypT:=yX9 22 [] [.t 2] Tryz.func351
def yV2:=yX9 29 [] [.t 2] Tryz.func352
def yWG:=yX9 21 [] [.t 6] Tryz.func353
def ym5:=yX9 58 [none] [.t 4] Tryz.func354
def ywO:=yX9 11 [] [.t 4] Tryz.func355
def yvY:=yX9 34 [none] [.t 4] Tryz.func356
def ydi:SC:=ev (cc Tryz.f357 27 [none,none])
def ylH:Has prg 357 27 ydi [.t 6]:=jB none Tryz.func357
def ym7:=yX9 62 [none,none] [.t 6] Tryz.func358
def kP:SC:=ev (cc Tryz.f359 8 [])
def rZ:Has prg 359 8 kP [.t 2]:=jB none Tryz.func359
def ynO:=yX9 19 [] [.t 2] Tryz.func360
def ylD:=yX9 44 [none] [.t 2] Tryz.func366
def ypB:=yX9 23 [] [.t 2] Tryz.func367
def yi1:=yX9 36 [] [.t 2] Tryz.func376
def dM:=yX9 53 [none,some [(2,0,true,[]),(3,0,true,[]),(4,0,true,[]),(15,2,false,[2,3,4]),(17,2,false,[])]] [] Tryz.func377
def qK:SC:=ev (cc Tryz.f378 220 [none,some [(2,0,true,[]),(3,0,true,[]),(4,0,true,[]),(15,2,false,[2,3,4]),(17,2,false,[])],none,some [(2,0,true,[]),(3,0,true,[]),(4,0,true,[]),(15,2,false,[2,3,4]),(17,2,false,[])],none])
def aQ:Has prg 378 220 qK []:=jB none Tryz.func378
def ydC:=yX9 58 [] [] Tryz.func381
def ybL:=yX9 38 [some [(4,0,true,[]),(5,0,true,[]),(6,0,true,[]),(7,0,true,[]),(21,2,false,[4,5,6,7]),(23,2,false,[])]] [] Tryz.func382
def yYl:=yX9 9 [] [.cl 4 16] Tryz.func19
def yss:=yX9 43 [] [.t 2] Tryz.func21
def yrH:=yX9 43 [] [.t 2] Tryz.func22
def ynd:=yX9 24 [] [.t 4,.t 5] Tryz.func164
def ynh:=yX9 58 [none,some [(13,1,false,[]),(14,2,false,[])]] [.t 6] Tryz.func165
end
end Go.Proofs.YtdadkiofenhnbaaGreat
