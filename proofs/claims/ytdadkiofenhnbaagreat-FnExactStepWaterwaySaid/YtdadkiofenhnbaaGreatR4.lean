/- What functions answer, in plain Lean. -/
import Derived.Test.YtdadkiofenhnbaaGreatR1
set_option linter.all false
set_option maxRecDepth 100000
set_option maxHeartbeats 4000000
namespace Go.Proofs.YtdadkiofenhnbaaGreat
open Go.RowKit
noncomputable section
def ybm:SC:=ev (cc Tryz.f230 27 [])
def ye6:Has prg 230 27 ybm [.t 4]:=jB none Tryz.func230
def ybd:SC:=ev (cc Tryz.f231 27 [])
def yez:Has prg 231 27 ybd [.t 4]:=jB none Tryz.func231
def yb8:SC:=ev (cc Tryz.f232 45 [])
def yf1:Has prg 232 45 yb8 [.t 4]:=jB none Tryz.func232
def ybn:SC:=ev (cc Tryz.f233 38 [])
def yeS:Has prg 233 38 ybn [.t 4]:=jB none Tryz.func233
def ybh:SC:=ev (cc Tryz.f234 19 [])
def yeQ:Has prg 234 19 ybh [.t 4]:=jB none Tryz.func234
def yoF:=yX9 31 [] [.t 4] Tryz.func235
def yoB:=yX9 31 [] [.t 4] Tryz.func236
def ypy:=yX9 53 [] [.t 4] Tryz.func237
def yn4:=yX9 44 [] [.t 4] Tryz.func238
def yoS:=yX9 21 [] [.t 4] Tryz.func239
def yiS:SC:=ev (cc Tryz.f305 12 [])
def yrX:Has prg 305 12 yiS [.t 4]:=jB none Tryz.func305
def ywx:=yX9 12 [] [.t 4] Tryz.func306
def yii:SC:=ev (cc Tryz.f307 12 [])
def yr0:Has prg 307 12 yii [.t 4]:=jB none Tryz.func307
def ytK:=yX9 27 [] [.t 4] Tryz.func308
def yvm:=yX9 12 [] [.t 4] Tryz.func309
def yrq:=yX9 27 [] [.t 4] Tryz.func310
def yic:=yX9 23 [] [.t 2] Tryz.func322
def ymh:=yX9 36 [] [.cl 2 10] Tryz.func323
def yvQ:=yX9 20 [] [.cl 2 5] Tryz.func324
def yv6:=yX9 14 [] [.cl 2 3] Tryz.func325
def yif:=yX9 23 [] [.t 2] Tryz.func326
def yvF:=yX9 11 [] [.cl 2 2] Tryz.func327
def yjS:=yX9 23 [] [.t 2] Tryz.func328
def yj2:=yX9 12 [] [.cl 2 3] Tryz.func329
def yiN:=yX9 23 [] [.t 2] Tryz.func330
def yrK:=yX9 27 [none] [.t 4] Tryz.func331
def ylO:SC:=ev (cc Tryz.f332 56 [])
def ywD:Has prg 332 56 ylO [.t 4]:=jB none Tryz.func332
def ymE:SC:=ev (cc Tryz.f333 30 [])
def ywL:Has prg 333 30 ymE [.t 4]:=jB none Tryz.func333
def ymc:SC:=ev (cc Tryz.f334 20 [])
def ywl:Has prg 334 20 ymc [.t 4]:=jB none Tryz.func334
def yrB:=yX9 27 [none] [.t 4] Tryz.func335
def ymQ:SC:=ev (cc Tryz.f336 15 [])
def ywE:Has prg 336 15 ymQ [.t 4]:=jB none Tryz.func336
def yti:=yX9 27 [none] [.t 4] Tryz.func337
def yj7:SC:=ev (cc Tryz.f338 16 [])
def yuP:Has prg 338 16 yj7 [.t 4]:=jB none Tryz.func338
def yr3:=yX9 27 [none] [.t 4] Tryz.func339
def ybV:SC:=ev (cc Tryz.f340 55 [])
def yfV:Has prg 340 55 ybV [.t 4]:=jB none Tryz.func340
def yp4:=yX9 67 [] [.t 4] Tryz.func341
def yvM:=yX9 12 [] [.t 4] Tryz.func362
def ykD:SC:=ev (cc Tryz.f363 12 [])
def yu3:Has prg 363 12 ykD [.t 4]:=jB none Tryz.func363
def ytY:=yX9 11 [] [.cl 2 2] Tryz.func368
def yuD:=yX9 11 [] [.cl 2 2] Tryz.func369
def yl2:=yX9 15 [] [.cl 2 4] Tryz.func370
def ykO:=yX9 23 [] [.t 2] Tryz.func371
def ykH:SC:=ev (cc Tryz.f372 15 [])
def ys6:Has prg 372 15 ykH [.t 4]:=jB none Tryz.func372
def ykq:SC:=ev (cc Tryz.f373 15 [])
def ytv:Has prg 373 15 ykq [.t 4]:=jB none Tryz.func373
def ymJ:SC:=ev (cc Tryz.f374 21 [])
def yvE:Has prg 374 21 ymJ [.t 4]:=jB none Tryz.func374
def yuF:=yX9 27 [none] [.t 4] Tryz.func375
def yv9:=yX9 23 [] [.cl 2 6] Tryz.func379
def ymo:SC:=ev (cc Tryz.f380 35 [])
def yv0:Has prg 380 35 ymo [.t 4]:=jB none Tryz.func380
def yYd:=yX9 74 [none] [.t 4] Tryz.func7
def yT0:=yX9 79 [none] [.t 6] Tryz.func8
def yU6:=yX9 24 [] [.cl 6 16] Tryz.func42
def yoy:SC:=ev (cc Tryz.f47 15 [])
def yze:Has prg 47 15 yoy [.t 6]:=jB none Tryz.func47
def yuG:=yX9 76 [none] [.t 4] Tryz.func48
def yvf:=yX9 37 [] [.t 2] Tryz.func49
def ytg:=yX9 165 [some [(0,0,true,[]),(1,0,true,[]),(8,2,false,[0,1]),(9,2,false,[]),(11,2,false,[])],some [(0,0,true,[]),(1,0,true,[]),(8,2,false,[0,1]),(9,2,false,[]),(11,2,false,[])],some [(0,0,true,[]),(1,0,true,[]),(8,2,false,[0,1]),(9,2,false,[]),(11,2,false,[])]] [.cl 2 16] Tryz.func50 ((some [267,191,214,90,89,127,45,132,128]))
def ynS:=yX9 39 [] [.t 2] Tryz.func52
def ynT:=yX9 109 [] [.t 2] Tryz.func53
def yu2:=yX9 60 [none] [.t 2] Tryz.func54
def ylx:=yX9 79 [some [(0,0,true,[]),(9,2,false,[0]),(10,2,false,[])]] [.cl 2 16] Tryz.func55 ((some [267,191,214,90,89,127,45,132,128]))
def yyu:=yX9 23 [] [.t 2] Tryz.func56
end
end Go.Proofs.YtdadkiofenhnbaaGreat
