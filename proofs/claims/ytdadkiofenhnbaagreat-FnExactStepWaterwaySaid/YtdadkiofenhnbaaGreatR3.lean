/- What functions answer, in plain Lean. -/
import Derived.Test.YtdadkiofenhnbaaGreatR1
set_option linter.all false
set_option maxRecDepth 100000
set_option maxHeartbeats 4000000
namespace Go.Proofs.YtdadkiofenhnbaaGreat
open Go.RowKit
noncomputable section
def yr1:=yX9 27 [] [.t 4] Tryz.func84
def ymD:SC:=ev (cc Tryz.f85 12 [])
def yws:Has prg 85 12 ymD [.t 4]:=jB none Tryz.func85
def yrv:=yX9 18 [] [.t 4] Tryz.func86
def yiJ:SC:=ev (cc Tryz.f87 12 [])
def yrE:Has prg 87 12 yiJ [.t 4]:=jB none Tryz.func87
def yoH:=yX9 27 [] [.t 4] Tryz.func88
def yit:=yX9 23 [] [.t 2] Tryz.func91
def yl3:=yX9 23 [] [.t 2] Tryz.func92
def ykA:=yX9 23 [] [.t 2] Tryz.func93
def ygo:=yX9 23 [] [.t 2] Tryz.func94
def yiq:=yX9 23 [] [.t 2] Tryz.func95
def ymg:=yX9 22 [] [.t 2] Tryz.func96
def yig:=yX9 19 [] [.cl 2 4] Tryz.func97
def yh1:=yX9 23 [] [.t 2] Tryz.func98
def yeX:=yX9 23 [] [.t 2] Tryz.func99
def yrx:=yX9 27 [none] [.t 4] Tryz.func100
def ywa:=yX9 27 [none] [.t 4] Tryz.func101
def ytR:=yX9 27 [none] [.t 4] Tryz.func102
def ypr:=yX9 27 [none] [.t 4] Tryz.func103
def yq8:=yX9 27 [none] [.t 4] Tryz.func104
def yvu:=yX9 26 [none] [.t 4] Tryz.func105
def yin:SC:=ev (cc Tryz.f106 27 [])
def yr4:Has prg 106 27 yin [.t 4]:=jB none Tryz.func106
def yrI:=yX9 27 [none] [.t 4] Tryz.func107
def yn3:=yX9 27 [none] [.t 4] Tryz.func108
def ya5:SC:=ev (cc Tryz.f109 34 [])
def yeI:Has prg 109 34 ya5 [.t 4]:=jB none Tryz.func109
def yc3:SC:=ev (cc Tryz.f110 27 [])
def yij:Has prg 110 27 yc3 [.t 4]:=jB none Tryz.func110
def ybK:SC:=ev (cc Tryz.f111 189 [])
def ygm:Has prg 111 189 ybK [.t 4]:=jB none Tryz.func111
def yaC:SC:=ev (cc Tryz.f112 19 [])
def yeh:Has prg 112 19 yaC [.t 4]:=jB none Tryz.func112
def ybr:SC:=ev (cc Tryz.f113 29 [])
def ye2:Has prg 113 29 ybr [.t 4]:=jB none Tryz.func113
def yc5:SC:=ev (cc Tryz.f114 19 [])
def yiU:Has prg 114 19 yc5 [.t 4]:=jB none Tryz.func114
def iV:SC:=ev (cc Tryz.f115 14 [])
def jZ:Has prg 115 14 iV [.t 4]:=jB none Tryz.func115
def yba:SC:=ev (cc Tryz.f116 48 [])
def ye7:Has prg 116 48 yba [.t 4]:=jB none Tryz.func116
def yah:SC:=ev (cc Tryz.f117 45 [])
def ydn:Has prg 117 45 yah [.t 4]:=jB none Tryz.func117
def yoh:=yX9 40 [] [.t 4] Tryz.func118
def yrw:=yX9 31 [] [.t 4] Tryz.func119
def yqi:=yX9 233 [] [.t 4] Tryz.func120
def ym0:=yX9 21 [] [.t 4] Tryz.func121
def ynM:=yX9 33 [] [.t 4] Tryz.func122
def yrF:=yX9 21 [] [.t 4] Tryz.func123
def ynY:=yX9 18 [] [.t 4] Tryz.func124
def yoJ:=yX9 58 [] [.t 4] Tryz.func125
def ylC:=yX9 53 [] [.t 4] Tryz.func126
def ytE:=yX9 18 [] [.t 4] Tryz.func201
def ywm:=yX9 24 [] [.t 4] Tryz.func202
def yrb:=yX9 27 [] [.t 4] Tryz.func203
def yuI:=yX9 12 [] [.t 4] Tryz.func204
def ypw:=yX9 12 [] [.t 4] Tryz.func205
def yjc:=yX9 16 [] [.cl 2 3] Tryz.func216
def yy8:=yX9 11 [] [.cl 2 2] Tryz.func217
def ymt:=yX9 29 [] [.cl 2 22] Tryz.func218
def yih:=yX9 23 [] [.t 2] Tryz.func219
def yjg:=yX9 12 [] [.cl 2 2] Tryz.func220
def ysL:=yX9 20 [] [.cl 2 5] Tryz.func221
def yf4:=yX9 15 [] [.cl 2 4] Tryz.func222
def yjT:SC:=ev (cc Tryz.f223 22 [])
def yuQ:Has prg 223 22 yjT [.t 4]:=jB none Tryz.func223
def ynz:SC:=ev (cc Tryz.f224 15 [])
def yxG:Has prg 224 15 ynz [.t 4]:=jB none Tryz.func224
def ymG:SC:=ev (cc Tryz.f225 41 [])
def ywd:Has prg 225 41 ymG [.t 4]:=jB none Tryz.func225
def yre:=yX9 27 [none] [.t 4] Tryz.func226
def ykt:SC:=ev (cc Tryz.f227 16 [])
def yuE:Has prg 227 16 ykt [.t 4]:=jB none Tryz.func227
def yi5:SC:=ev (cc Tryz.f228 30 [])
def yu7:Has prg 228 30 yi5 [.t 4]:=jB none Tryz.func228
def ygn:SC:=ev (cc Tryz.f229 21 [])
def yqa:Has prg 229 21 ygn [.t 4]:=jB none Tryz.func229
end
end Go.Proofs.YtdadkiofenhnbaaGreat
