/- What the law FnExactAbleCalls stands on: contracts of functions, what each answers as plain Lean, in short form (names, layout). -/
import Derived.Test.YtmimbhooaidelaaGreatSExactAbleCalls1
set_option linter.all false
namespace Go.Proofs.YtmimbhooaidelaaGreat
open Go.RowKit
def yhh : SC := .seq (.reg [ia 2 (.box 10 (.t 0)),bA 4 false]) (.seq (.seq (.reg [iv 12 1,ia 13 (.call ybG [.t 12]),ia 14 (.not (.t 13))]) (.cond (.t 14) (.seq (.reg [bA 4 false]) (.ret)) (.skip))) (.seq (.reg [mA 5 0,mA 6 0,mA 7 0]) (.seq (.seq (.reg [iv 15 1,nA 16 15,mA 17 0]) (.block 0 (.loop (.seq (.reg [tA 18 17 16]) (.seq (.cond (.t 18) (.skip) (.exit 0)) (.seq (.block 1 (.seq (.reg [iv 19 17,xA 20 2 15 17,dA 21 2 20,ia 9 (.alloc [.c (.b false),.nil 1]),iv 8 19,ie (.stn 2 (.t 9) (.t 21))]) (.seq (.regq [dA 22 2 9,ia 23 (.call yhc [.t 22]),dA 24 2 9,ia 25 (.call ygJ [.t 24]),iv 10 23,iv 11 25]) (.seq (.seq (.reg [iv 26 10,fA 27 1 2,lA 28 27,ia 29 (.bin .gtr (.t 26) (.t 28))]) (.cond (.t 29) (.seq (.reg [bA 4 false]) (.ret)) (.skip))) (.seq (.reg [iv 30 8,ia 31 (.bin .gtr (.t 30) (kI 0)),iv 32 31,ig 32 true 33 (.mv (.t 6)),ig 32 true 34 (.mv (.t 10)),ig 32 true 35 (.bin .add (.t 33) (.t 34)),gA 32 true 36 1 2,hA 32 true 37 36,ig 32 true 38 (.bin .leq (.t 35) (.t 37)),ia 39 (.pick (.t 32) (.t 38) (kB false))]) (.cond (.t 39) (.seq (.reg [iv 40 6,iv 41 10,ia 42 (.bin .add (.t 40) (.t 41)),iv 6 42]) (.reg [iv 43 7,iv 44 11,ia 45 (.mx [.t 43,.t 44]),iv 7 45])) (.seq (.reg [iv 46 5,iv 47 7,ia 48 (.bin .add (.t 46) (.t 47)),iv 5 48]) (.reg [iv 49 10,iv 50 11,iv 6 49,iv 7 50])))))))) (.reg [pA 51 17 1,iv 17 51]))))))) (.seq (.reg [iv 52 5,iv 53 7,ia 54 (.bin .add (.t 52) (.t 53)),fA 55 0 2,lA 56 55,ia 57 (.bin .leq (.t 54) (.t 56)),iv 4 57]) (.ret)))))
theorem yor : Has Tryz.prog ydR 58 yhh [.t 4] := ⟨by decide, Tryz.f183, _, Tryz.func183, rfl, rfl, ⟨none, by kernel_rfl⟩, by kernel_rfl⟩
def yjH : SC := .seq (.reg [mA 4 0]) (.seq (.seq (.reg [mA 5 0]) (.block 0 (.loop (.seq (.seq (.reg [iv 6 5,iv 7 0,nA 8 7,tA 9 6 8]) (.cond (.t 9) (.skip) (.exit 0))) (.seq (.block 1 (.seq (.seq (.reg [iv 12 0,iv 13 5,xA 14 6 12 13,fA 15 0 14,lA 16 15,iv 17 1,ia 18 (.bin .neq (.t 16) (.t 17))]) (.cond (.t 18) (.seq (.reg [mA 4 (-1)]) (.ret)) (.skip))) (.seq (.reg [iv 19 1,pA 20 19 1,iv 1 20]) (.seq (.seq (.reg [iv 21 0,iv 22 5,xA 23 6 21 22,fA 24 1 23,lA 25 24,iv 26 1,ia 27 (.bin .neq (.t 25) (.t 26))]) (.cond (.t 27) (.seq (.reg [mA 4 (-1)]) (.ret)) (.skip))) (.seq (.reg [iv 28 1,pA 29 28 1,iv 1 29]) (.seq (.seq (.reg [iv 30 0,iv 31 5,xA 32 6 30 31,fA 33 2 32,lA 34 33,iv 35 1,ia 36 (.bin .neq (.t 34) (.t 35))]) (.cond (.t 36) (.seq (.reg [mA 4 (-1)]) (.ret)) (.skip))) (.seq (.reg [iv 37 1,pA 38 37 1,iv 1 38]) (.seq (.seq (.reg [iv 39 0,iv 40 5,xA 41 6 39 40,fA 42 3 41,lA 43 42,iv 44 1,ia 45 (.bin .neq (.t 43) (.t 44))]) (.cond (.t 45) (.seq (.reg [mA 4 (-1)]) (.ret)) (.skip))) (.seq (.reg [iv 46 1,pA 47 46 1,iv 1 47]) (.seq (.seq (.reg [iv 48 0,iv 49 5,xA 50 6 48 49,fA 51 4 50,lA 52 51,iv 53 1,ia 54 (.bin .neq (.t 52) (.t 53))]) (.cond (.t 54) (.seq (.reg [mA 4 (-1)]) (.ret)) (.skip))) (.seq (.reg [iv 55 1,pA 56 55 1,iv 1 56]) (.seq (.seq (.reg [iv 57 0,iv 58 5,xA 59 6 57 58,fA 60 5 59,lA 61 60,iv 62 1,ia 63 (.bin .neq (.t 61) (.t 62))]) (.cond (.t 63) (.seq (.reg [mA 4 (-1)]) (.ret)) (.skip))) (.reg [iv 64 1,pA 65 64 1,iv 1 65]))))))))))))) (.reg [iv 10 5,pA 11 10 1,iv 5 11])))))) (.seq (.reg [iv 66 1,iv 4 66]) (.ret)))
theorem yp7 : Has Tryz.prog ye8 67 yjH [.t 4] := ⟨by decide, Tryz.f185, _, Tryz.func185, rfl, rfl, ⟨none, by kernel_rfl⟩, by kernel_rfl⟩
def ymg : SC := .seq (.reg [ia 2 (.box 3 (.t 0)),ia 3 (.box 2 (.t 1)),bA 4 false]) (.seq (.reg [dA 5 2 3,ia 6 (.call ygY [.t 5]),iv 7 6,gA 7 true 8 0 2,ig 7 true 9 (.ldn 2 (.t 8)),ig 7 true 10 (.call yaD [.t 9]),ia 11 (.pick (.t 7) (.t 10) (kB false)),iv 12 11,gA 12 true 13 2 2,hA 12 true 14 13,gA 12 true 15 0 3,hA 12 true 16 15,ig 12 true 17 (.call yD [.t 14,kI 0,.t 16]),ia 18 (.pick (.t 12) (.t 17) (kB false)),iv 4 18]) (.ret))
theorem yr5 : Has Tryz.prog yhM 19 ymg [.t 4] := ⟨by decide, Tryz.f231, _, Tryz.func231, rfl, rfl, ⟨none, by kernel_rfl⟩, by kernel_rfl⟩
def yn0 : SC := .seq (.reg [ia 1 (.box 5 (.t 0)),bA 2 false]) (.seq (.reg [fA 3 0 1,lA 4 3,ia 5 (.call yD [.t 4,kI 1,kI 8]),iv 6 5,gA 6 true 7 1 1,hA 6 true 8 7,gA 6 true 9 0 1,hA 6 true 10 9,ig 6 true 11 (.bin .mul (kI 10) (.t 10)),ig 6 true 12 (.call yD [.t 8,kI 0,.t 11]),ia 13 (.pick (.t 6) (.t 12) (kB false)),iv 14 13,gA 14 true 15 2 1,hA 14 true 16 15,ig 14 true 17 (.call yD [.t 16,kI 1,kI 80]),ia 18 (.pick (.t 14) (.t 17) (kB false)),iv 19 18,gA 19 true 20 3 1,hA 19 true 21 20,ig 19 true 22 (.call yD [.t 21,kI 0,kI 100000]),ia 23 (.pick (.t 19) (.t 22) (kB false)),iv 24 23,gA 24 true 25 4 1,hA 24 true 26 25,ig 24 true 27 (.call yD [.t 26,kI 1,kI 1000]),ia 28 (.pick (.t 24) (.t 27) (kB false)),iv 2 28]) (.ret))
theorem yt2 : Has Tryz.prog yiS 29 yn0 [.t 2] := ⟨by decide, Tryz.f239, _, Tryz.func239, rfl, rfl, ⟨none, by kernel_rfl⟩, by kernel_rfl⟩
def ynU : SC := .seq (.reg [ia 1 (.box 3 (.t 0)),bA 2 false]) (.seq (.reg [fA 3 0 1,lA 4 3,ia 5 (.call yaW [.t 4]),iv 6 5,gA 6 true 7 1 1,hA 6 true 8 7,ig 6 true 9 (.call yaW [.t 8]),ia 10 (.pick (.t 6) (.t 9) (kB false)),iv 11 10,gA 11 true 12 2 1,hA 11 true 13 12,ig 11 true 14 (.call yaW [.t 13]),ia 15 (.pick (.t 11) (.t 14) (kB false)),iv 16 15,gA 16 true 17 0 1,hA 16 true 18 17,gA 16 true 19 1 1,hA 16 true 20 19,ig 16 true 21 (.bin .lss (.t 18) (.t 20)),ia 22 (.pick (.t 16) (.t 21) (kB false)),iv 23 22,gA 23 true 24 1 1,hA 23 true 25 24,gA 23 true 26 2 1,hA 23 true 27 26,ig 23 true 28 (.bin .leq (.t 25) (.t 27)),ia 29 (.pick (.t 23) (.t 28) (kB false)),iv 2 29]) (.ret))
theorem ytT : Has Tryz.prog yi8 30 ynU [.t 2] := ⟨by decide, Tryz.f240, _, Tryz.func240, rfl, rfl, ⟨none, by kernel_rfl⟩, by kernel_rfl⟩
def yls : SC := .seq (.reg [bA 2 false]) (.seq (.reg [iv 3 0,ia 4 (.call yD [.t 3,kI 0,kI 100000]),iv 2 4]) (.ret))
theorem yq5 : Has Tryz.prog yaW 5 yls [.t 2] := ⟨by decide, Tryz.f241, _, Tryz.func241, rfl, rfl, ⟨none, by kernel_rfl⟩, by kernel_rfl⟩
def ymM : SC := .seq (.reg [bA 2 false]) (.seq (.seq (.reg [mA 3 0]) (.block 0 (.loop (.seq (.seq (.reg [iv 4 3,iv 5 0,nA 6 5,tA 7 4 6]) (.cond (.t 7) (.skip) (.exit 0))) (.seq (.block 1 (.seq (.regq [iv 10 0,iv 11 3,xA 12 2 10 11,fA 13 0 12,lA 14 13,ia 15 (.call yD [.t 14,kI 0,kI 1000000000]),ia 16 (.not (.t 15)),iv 17 16,ig 17 false 18 (.mv (.t 0)),ig 17 false 19 (.mv (.t 3)),ig 17 false 20 (.idx 2 (.t 18) (.t 19)),gA 17 false 21 1 20,hA 17 false 22 21,ig 17 false 23 (.call yD [.t 22,kI 0,kI 1000000000]),ig 17 false 24 (.not (.t 23)),ia 25 (.pick (.t 17) (kB true) (.t 24)),iv 26 25,ig 26 false 27 (.mv (.t 3)),ig 26 false 28 (.bin .gtr (.t 27) (kI 0)),ig 26 false 29 (.mv (.t 28)),ig 29 true 30 (.mv (.t 0)),ig 29 true 31 (.mv (.t 3)),ig 29 true 32 (.idx 2 (.t 30) (.t 31)),gA 29 true 33 0 32,hA 29 true 34 33,ig 29 true 35 (.mv (.t 0)),ig 29 true 36 (.mv (.t 3)),ig 29 true 37 (.bin .sub (.t 36) (kI 1)),ig 29 true 38 (.idx 2 (.t 35) (.t 37)),gA 29 true 39 0 38,hA 29 true 40 39,ig 29 true 41 (.bin .leq (.t 34) (.t 40)),ig 29 true 42 (.mv (.t 41)),ig 42 false 43 (.mv (.t 0)),ig 42 false 44 (.mv (.t 3)),ig 42 false 45 (.idx 2 (.t 43) (.t 44)),gA 42 false 46 1 45,hA 42 false 47 46,ig 42 false 48 (.mv (.t 0)),ig 42 false 49 (.mv (.t 3)),ig 42 false 50 (.bin .sub (.t 49) (kI 1)),ig 42 false 51 (.idx 2 (.t 48) (.t 50)),gA 42 false 52 1 51,hA 42 false 53 52,ig 42 false 54 (.bin .lss (.t 47) (.t 53)),ig 29 true 55 (.pick (.t 42) (kB true) (.t 54)),ig 26 false 56 (.pick (.t 29) (.t 55) (kB false)),ia 57 (.pick (.t 26) (kB true) (.t 56))]) (.cond (.t 57) (.seq (.reg [bA 2 false]) (.ret)) (.skip)))) (.reg [iv 8 3,pA 9 8 1,iv 3 9])))))) (.seq (.reg [iv 58 0,nA 59 58,ia 60 (.call yD [.t 59,kI 2,kI 20]),iv 2 60]) (.ret)))
theorem ytk : Has Tryz.prog ycU 61 ymM [.t 2] := ⟨by decide, Tryz.f247, _, Tryz.func247, rfl, rfl, ⟨none, by kernel_rfl⟩, by kernel_rfl⟩
def ymq : SC := .seq (.reg [mA 4 0]) (.seq (.seq (.reg [iv 9 0,ia 10 (.call ycR [.t 9]),ia 11 (.not (.t 10))]) (.cond (.t 11) (.seq (.reg [mA 4 0]) (.ret)) (.skip))) (.seq (.reg [iv 12 0,iv 13 0,nA 14 13,ia 15 (.bin .sub (.t 14) (kI 1)),xA 16 2 12 15,dA 17 2 16,ia 5 (.alloc [.c (.i 0),.c (.i 0)]),ie (.stn 2 (.t 5) (.t 17))]) (.seq (.seq (.reg [iv 18 1,iv 19 0,ia 20 (.idx 2 (.t 19) (kI 0)),fA 21 0 20,lA 22 21,ia 23 (.bin .leq (.t 18) (.t 22))]) (.cond (.t 23) (.seq (.reg [iv 24 0,ia 25 (.idx 2 (.t 24) (kI 0)),fA 26 1 25,lA 27 26,iv 4 27]) (.ret)) (.skip))) (.seq (.seq (.reg [iv 28 1,fA 29 0 5,lA 30 29,ia 31 (.bin .geq (.t 28) (.t 30))]) (.cond (.t 31) (.seq (.reg [fA 32 1 5,lA 33 32,iv 4 33]) (.ret)) (.skip))) (.seq (.reg [mA 6 0]) (.seq (.block 0 (.loop (.seq (.seq (.reg [iv 34 0,iv 35 6,pA 36 35 1,xA 37 2 34 36,fA 38 0 37,lA 39 38,iv 40 1,ia 41 (.bin .leq (.t 39) (.t 40))]) (.cond (.t 41) (.skip) (.exit 0))) (.block 1 (.reg [iv 42 6,pA 43 42 1,iv 6 43]))))) (.seq (.rege [⟨0,false,[],iv 44 0⟩,⟨0,false,[],iv 45 6⟩,⟨0,false,[],xA 46 2 44 45⟩,⟨0,false,[],dA 47 2 46⟩,⟨0,true,[],iv 48 0⟩,⟨0,true,[],iv 49 6⟩,⟨0,true,[],pA 50 49 1⟩,⟨0,true,[],xA 51 2 48 50⟩,⟨0,true,[],dA 52 2 51⟩,⟨1,false,[],ia 7 (.alloc [.c (.i 0),.c (.i 0)])⟩,⟨1,false,[],ia 8 (.alloc [.c (.i 0),.c (.i 0)])⟩,⟨2,false,[4,5,6,7,8],ie (.stn 2 (.t 7) (.t 47))⟩,⟨2,false,[],ie (.stn 2 (.t 8) (.t 52))⟩]) (.seq (.regq [fA 53 1 7,lA 54 53,iv 55 1,fA 56 0 7,lA 57 56,ia 58 (.bin .sub (.t 55) (.t 57)),fA 59 1 8,lA 60 59,fA 61 1 7,lA 62 61,ia 63 (.bin .sub (.t 60) (.t 62)),ia 64 (.bin .mul (.t 58) (.t 63)),fA 65 0 8,lA 66 65,fA 67 0 7,lA 68 67,ia 69 (.bin .sub (.t 66) (.t 68)),ia 70 (.bin .quo (.t 64) (.t 69)),ia 71 (.bin .add (.t 54) (.t 70)),iv 4 71]) (.ret)))))))))
theorem ytJ : Has Tryz.prog yhV 72 ymq [.t 4] := ⟨by decide, Tryz.f252, _, Tryz.func252, rfl, rfl, ⟨none, by kernel_rfl⟩, by kernel_rfl⟩
def ylk : SC := .seq (.reg [bA 2 false]) (.seq (.reg [mA 3 0]) (.seq (.seq (.reg [mA 4 0]) (.block 0 (.loop (.seq (.seq (.reg [iv 5 4,iv 6 0,nA 7 6,tA 8 5 7]) (.cond (.t 8) (.skip) (.exit 0))) (.seq (.block 1 (.seq (.seq (.regq [iv 11 0,iv 12 4,xA 13 2 11 12,fA 14 0 13,lA 15 14,iv 16 3,tA 17 15 16,iv 18 17,ig 18 false 19 (.mv (.t 0)),ig 18 false 20 (.mv (.t 4)),ig 18 false 21 (.idx 2 (.t 19) (.t 20)),gA 18 false 22 1 21,hA 18 false 23 22,ig 18 false 24 (.mv (.t 0)),ig 18 false 25 (.mv (.t 4)),ig 18 false 26 (.idx 2 (.t 24) (.t 25)),gA 18 false 27 0 26,hA 18 false 28 27,ig 18 false 29 (.bin .leq (.t 23) (.t 28)),ia 30 (.pick (.t 18) (kB true) (.t 29)),iv 31 30,ig 31 false 32 (.mv (.t 0)),ig 31 false 33 (.mv (.t 4)),ig 31 false 34 (.idx 2 (.t 32) (.t 33)),gA 31 false 35 1 34,hA 31 false 36 35,ig 31 false 37 (.bin .gtr (.t 36) (kI 1000000)),ia 38 (.pick (.t 31) (kB true) (.t 37))]) (.cond (.t 38) (.seq (.reg [bA 2 false]) (.ret)) (.skip))) (.reg [iv 39 0,iv 40 4,xA 41 2 39 40,fA 42 1 41,lA 43 42,iv 3 43]))) (.reg [iv 9 4,pA 10 9 1,iv 4 10])))))) (.seq (.reg [iv 44 0,nA 45 44,ia 46 (.bin .leq (.t 45) (kI 8)),iv 2 46]) (.ret))))
theorem yq0 : Has Tryz.prog ygn 47 ylk [.t 2] := ⟨by decide, Tryz.f269, _, Tryz.func269, rfl, rfl, ⟨none, by kernel_rfl⟩, by kernel_rfl⟩
def ymT : SC := .seq (.reg [bA 2 false]) (.seq (.seq (.reg [iv 6 0,nA 7 6,ia 8 (.bin .lss (.t 7) (kI 1)),iv 9 8,ig 9 false 10 (.mv (.t 0)),ig 9 false 11 (.len (.t 10)),ig 9 false 12 (.bin .gtr (.t 11) (kI 6)),ia 13 (.pick (.t 9) (kB true) (.t 12))]) (.cond (.t 13) (.seq (.reg [bA 2 false]) (.ret)) (.skip))) (.seq (.reg [mA 3 0]) (.seq (.seq (.reg [iv 14 0,nA 15 14,mA 16 0]) (.block 0 (.loop (.seq (.reg [tA 17 16 15]) (.seq (.cond (.t 17) (.skip) (.exit 0)) (.seq (.block 1 (.seq (.reg [xA 18 3 14 16,dA 19 3 18,ia 5 (.alloc [.nil 2,.c (.i 0),.nil 1]),ie (.stn 3 (.t 5) (.t 19))]) (.seq (.seq (.reg [dA 20 3 5,ia 21 (.call ycP [.t 20]),ia 22 (.not (.t 21))]) (.cond (.t 22) (.seq (.reg [bA 2 false]) (.ret)) (.skip))) (.reg [iv 23 3,dA 24 3 5,ia 25 (.call yhx [.t 24]),ia 26 (.bin .add (.t 23) (.t 25)),iv 3 26])))) (.reg [pA 27 16 1,iv 16 27]))))))) (.seq (.reg [iv 28 3,ia 29 (.bin .leq (.t 28) (kI 1000000000)),iv 2 29]) (.ret)))))
theorem ysQ : Has Tryz.prog yhy 30 ymT [.t 2] := ⟨by decide, Tryz.f274, _, Tryz.func274, rfl, rfl, ⟨none, by kernel_rfl⟩, by kernel_rfl⟩
def yl1 : SC := .seq (.reg [ia 1 (.box 3 (.t 0)),mA 2 0]) (.seq (.seq (.reg [dA 6 3 1,ia 7 (.call ycP [.t 6]),ia 8 (.not (.t 7))]) (.cond (.t 8) (.seq (.reg [mA 2 0]) (.ret)) (.skip))) (.seq (.reg [fA 9 1 1,lA 10 9,iv 3 10]) (.seq (.seq (.reg [fA 11 2 1,lA 12 11,nA 13 12,mA 14 0]) (.block 0 (.loop (.seq (.reg [tA 15 14 13]) (.seq (.cond (.t 15) (.skip) (.exit 0)) (.seq (.block 1 (.seq (.reg [xA 16 1 12 14,lA 17 16,iv 5 17]) (.reg [iv 18 3,iv 19 5,ia 20 (.bin .add (.t 18) (.t 19)),iv 3 20]))) (.reg [pA 21 14 1,iv 14 21]))))))) (.seq (.reg [iv 22 3,iv 2 22]) (.ret)))))
theorem ytN : Has Tryz.prog yhx 23 yl1 [.t 2] := ⟨by decide, Tryz.f275, _, Tryz.func275, rfl, rfl, ⟨none, by kernel_rfl⟩, by kernel_rfl⟩
def ypC : SC := .seq (.reg [ia 1 (.box 2 (.t 0)),bA 2 false]) (.seq (.reg [fA 3 0 1,lA 4 3,ia 5 (.call yB [.t 4,kI 1,kI 10000]),iv 6 5,gA 6 true 7 1 1,hA 6 true 8 7,ig 6 true 9 (.call yB [.t 8,kI 0,kI 100000]),ia 10 (.pick (.t 6) (.t 9) (kB false)),iv 2 10]) (.ret))
theorem ywt : Has Tryz.prog yg1 11 ypC [.t 2] := ⟨by decide, Tryz.f276, _, Tryz.func276, rfl, rfl, ⟨none, by kernel_rfl⟩, by kernel_rfl⟩
def yl0 : SC := .seq (.reg [ia 2 (.box 3 (.t 0)),ia 3 (.box 2 (.t 1)),bA 4 false]) (.seq (.reg [dA 5 2 3,ia 6 (.call yg1 [.t 5]),iv 7 6,gA 7 true 8 0 2,ig 7 true 9 (.ldn 2 (.t 8)),ig 7 true 10 (.call yaJ [.t 9]),ia 11 (.pick (.t 7) (.t 10) (kB false)),iv 12 11,gA 12 true 13 2 2,hA 12 true 14 13,gA 12 true 15 0 3,hA 12 true 16 15,ig 12 true 17 (.call yB [.t 14,kI 0,.t 16]),ia 18 (.pick (.t 12) (.t 17) (kB false)),iv 4 18]) (.ret))
theorem yr4 : Has Tryz.prog yg8 19 yl0 [.t 4] := ⟨by decide, Tryz.f277, _, Tryz.func277, rfl, rfl, ⟨none, by kernel_rfl⟩, by kernel_rfl⟩
def ynF : SC := .seq (.reg [ia 1 (.box 22 (.t 0)),bA 2 false]) (.seq (.seq (.reg [fA 5 0 1,dA 6 10 5,ia 7 (.call yiG [.t 6]),ia 8 (.not (.t 7)),iv 9 8,gA 9 false 10 10 1,ig 9 false 11 (.ldn 5 (.t 10)),ig 9 false 12 (.call yiP [.t 11]),ig 9 false 13 (.not (.t 12)),ia 14 (.pick (.t 9) (kB true) (.t 13)),iv 15 14,gA 15 false 16 15 1,ig 15 false 17 (.ldn 3 (.t 16)),ig 15 false 18 (.call yi5 [.t 17]),ig 15 false 19 (.not (.t 18)),ia 20 (.pick (.t 15) (kB true) (.t 19)),iv 21 20,gA 21 false 22 18 1,hA 21 false 23 22,ig 21 false 24 (.call ygr [.t 23]),ig 21 false 25 (.not (.t 24)),ia 26 (.pick (.t 21) (kB true) (.t 25)),iv 27 26,gA 27 false 28 19 1,ig 27 false 29 (.ldn 2 (.t 28)),ig 27 false 30 (.call yiy [.t 29]),ig 27 false 31 (.not (.t 30)),ia 32 (.pick (.t 27) (kB true) (.t 31))]) (.cond (.t 32) (.seq (.reg [bA 2 false]) (.ret)) (.skip))) (.seq (.seq (.reg [fA 33 21 1,lA 34 33,nA 35 34,ia 36 (.bin .gtr (.t 35) (kI 24))]) (.cond (.t 36) (.seq (.reg [bA 2 false]) (.ret)) (.skip))) (.seq (.seq (.reg [fA 37 21 1,lA 38 37,nA 39 38,mA 40 0]) (.block 0 (.loop (.seq (.reg [tA 41 40 39]) (.seq (.cond (.t 41) (.skip) (.exit 0)) (.seq (.block 1 (.seq (.reg [xA 42 4 38 40,dA 43 4 42,ia 4 (.alloc [.c (.b false),.nil 1,.c (.i 0),.c (.i 0)]),ie (.stn 4 (.t 4) (.t 43))]) (.seq (.reg [dA 44 4 4,ia 45 (.call yi2 [.t 44]),ia 46 (.not (.t 45))]) (.cond (.t 46) (.seq (.reg [bA 2 false]) (.ret)) (.skip))))) (.reg [pA 47 40 1,iv 40 47]))))))) (.seq (.reg [bA 2 true]) (.ret)))))
theorem ytU : Has Tryz.prog yiB 48 ynF [.t 2] := ⟨by decide, Tryz.f278, _, Tryz.func278, rfl, rfl, ⟨none, by kernel_rfl⟩, by kernel_rfl⟩
def ylZ : SC := .seq (.reg [ia 1 (.box 5 (.t 0)),bA 2 false]) (.seq (.reg [fA 3 0 1,lA 4 3,fA 5 1 1,lA 6 5,ia 7 (.bin .neq (.t 4) (.t 6)),iv 8 7,gA 8 true 9 0 1,hA 8 true 10 9,ig 8 true 11 (.call yB [.t 10,kI 0,kI 11]),ia 12 (.pick (.t 8) (.t 11) (kB false)),iv 13 12,gA 13 true 14 1 1,hA 13 true 15 14,ig 13 true 16 (.call yB [.t 15,kI 0,kI 11]),ia 17 (.pick (.t 13) (.t 16) (kB false)),iv 18 17,gA 18 true 19 2 1,hA 18 true 20 19,ig 18 true 21 (.call yB [.t 20,kI 1,kI 1000000000]),ia 22 (.pick (.t 18) (.t 21) (kB false)),iv 23 22,gA 23 true 24 3 1,hA 23 true 25 24,ig 23 true 26 (.call yB [.t 25,kI 0,kI 1000000]),ia 27 (.pick (.t 23) (.t 26) (kB false)),iv 28 27,gA 28 true 29 4 1,hA 28 true 30 29,ig 28 true 31 (.call yB [.t 30,kI 0,kI 9999]),ia 32 (.pick (.t 28) (.t 31) (kB false)),iv 2 32]) (.ret))
theorem ys4 : Has Tryz.prog yhq 33 ylZ [.t 2] := ⟨by decide, Tryz.f279, _, Tryz.func279, rfl, rfl, ⟨none, by kernel_rfl⟩, by kernel_rfl⟩
def ymP : SC := .seq (.reg [bA 2 false]) (.seq (.reg [mA 3 0]) (.seq (.seq (.reg [mA 4 0]) (.block 0 (.loop (.seq (.seq (.reg [iv 5 4,iv 6 0,nA 7 6,tA 8 5 7]) (.cond (.t 8) (.skip) (.exit 0))) (.seq (.block 1 (.seq (.seq (.reg [iv 11 0,iv 12 4,xA 13 3 11 12,dA 14 3 13,ia 15 (.call yeE [.t 14]),ia 16 (.not (.t 15))]) (.cond (.t 16) (.seq (.reg [bA 2 false]) (.ret)) (.skip))) (.reg [iv 17 3,iv 18 0,iv 19 4,xA 20 3 18 19,dA 21 3 20,ia 22 (.call yfJ [.t 21]),ia 23 (.bin .add (.t 17) (.t 22)),ia 24 (.mn [.t 23,kI 1000000001]),iv 3 24]))) (.reg [iv 9 4,pA 10 9 1,iv 4 10])))))) (.seq (.reg [iv 25 0,nA 26 25,ia 27 (.call yD [.t 26,kI 1,kI 6]),iv 28 27,ig 28 true 29 (.mv (.t 3)),ig 28 true 30 (.bin .leq (.t 29) (kI 1000000000)),ia 31 (.pick (.t 28) (.t 30) (kB false)),iv 2 31]) (.ret))))
theorem yrT : Has Tryz.prog yht 32 ymP [.t 2] := ⟨by decide, Tryz.f283, _, Tryz.func283, rfl, rfl, ⟨none, by kernel_rfl⟩, by kernel_rfl⟩
def ypy : SC := .seq (.reg [ia 1 (.box 2 (.t 0)),bA 2 false]) (.seq (.reg [fA 3 0 1,lA 4 3,ia 5 (.call yD [.t 4,kI 1,kI 10000]),iv 6 5,gA 6 true 7 1 1,hA 6 true 8 7,ig 6 true 9 (.call yaW [.t 8]),ia 10 (.pick (.t 6) (.t 9) (kB false)),iv 2 10]) (.ret))
theorem ywj : Has Tryz.prog ygY 11 ypy [.t 2] := ⟨by decide, Tryz.f284, _, Tryz.func284, rfl, rfl, ⟨none, by kernel_rfl⟩, by kernel_rfl⟩
def ynK : SC := .seq (.reg [ia 1 (.box 22 (.t 0)),bA 2 false]) (.seq (.seq (.reg [mA 3 0]) (.block 0 (.loop (.seq (.seq (.reg [iv 4 3,fA 5 21 1,lA 6 5,nA 7 6,tA 8 4 7]) (.cond (.t 8) (.skip) (.exit 0))) (.seq (.block 1 (.seq (.reg [fA 11 21 1,lA 12 11,iv 13 3,xA 14 4 12 13,dA 15 4 14,ia 16 (.call yiz [.t 15]),ia 17 (.not (.t 16))]) (.cond (.t 17) (.seq (.reg [bA 2 false]) (.ret)) (.skip)))) (.reg [iv 9 3,pA 10 9 1,iv 3 10])))))) (.seq (.reg [fA 18 21 1,lA 19 18,nA 20 19,ia 21 (.bin .leq (.t 20) (kI 24)),iv 22 21,gA 22 true 23 0 1,ig 22 true 24 (.ldn 10 (.t 23)),ig 22 true 25 (.call yjb [.t 24]),ia 26 (.pick (.t 22) (.t 25) (kB false)),iv 27 26,gA 27 true 28 10 1,ig 27 true 29 (.ldn 5 (.t 28)),ig 27 true 30 (.call yiS [.t 29]),ia 31 (.pick (.t 27) (.t 30) (kB false)),iv 32 31,gA 32 true 33 15 1,ig 32 true 34 (.ldn 3 (.t 33)),ig 32 true 35 (.call yi8 [.t 34]),ia 36 (.pick (.t 32) (.t 35) (kB false)),iv 37 36,gA 37 true 38 18 1,hA 37 true 39 38,ig 37 true 40 (.call ygn [.t 39]),ia 41 (.pick (.t 37) (.t 40) (kB false)),iv 42 41,gA 42 true 43 19 1,ig 42 true 44 (.ldn 2 (.t 43)),ig 42 true 45 (.call yiM [.t 44]),ia 46 (.pick (.t 42) (.t 45) (kB false)),iv 2 46]) (.ret)))
theorem yup : Has Tryz.prog yiZ 47 ynK [.t 2] := ⟨by decide, Tryz.f285, _, Tryz.func285, rfl, rfl, ⟨none, by kernel_rfl⟩, by kernel_rfl⟩
def ymN : SC := .seq (.reg [ia 1 (.box 5 (.t 0)),bA 2 false]) (.seq (.reg [fA 3 0 1,lA 4 3,fA 5 1 1,lA 6 5,ia 7 (.bin .neq (.t 4) (.t 6)),iv 8 7,gA 8 true 9 0 1,hA 8 true 10 9,ig 8 true 11 (.call yD [.t 10,kI 0,kI 11]),ia 12 (.pick (.t 8) (.t 11) (kB false)),iv 13 12,gA 13 true 14 1 1,hA 13 true 15 14,ig 13 true 16 (.call yD [.t 15,kI 0,kI 11]),ia 17 (.pick (.t 13) (.t 16) (kB false)),iv 18 17,gA 18 true 19 2 1,hA 18 true 20 19,ig 18 true 21 (.call yD [.t 20,kI 1,kI 1000000000]),ia 22 (.pick (.t 18) (.t 21) (kB false)),iv 23 22,gA 23 true 24 3 1,hA 23 true 25 24,ig 23 true 26 (.call yD [.t 25,kI 0,kI 1000000]),ia 27 (.pick (.t 23) (.t 26) (kB false)),iv 28 27,gA 28 true 29 4 1,hA 28 true 30 29,ig 28 true 31 (.call yD [.t 30,kI 0,kI 9999]),ia 32 (.pick (.t 28) (.t 31) (kB false)),iv 2 32]) (.ret))
theorem ysJ : Has Tryz.prog yhR 33 ymN [.t 2] := ⟨by decide, Tryz.f286, _, Tryz.func286, rfl, rfl, ⟨none, by kernel_rfl⟩, by kernel_rfl⟩
def ynL : SC := .seq (.reg [ia 1 (.box 3 (.t 0)),mA 2 0]) (.seq (.reg [fA 5 1 1,lA 6 5,iv 3 6]) (.seq (.seq (.reg [mA 4 0]) (.block 0 (.loop (.seq (.seq (.reg [iv 7 4,fA 8 2 1,lA 9 8,nA 10 9,tA 11 7 10]) (.cond (.t 11) (.skip) (.exit 0))) (.seq (.block 1 (.reg [iv 14 3,fA 15 2 1,lA 16 15,iv 17 4,xA 18 1 16 17,lA 19 18,ia 20 (.bin .add (.t 14) (.t 19)),iv 3 20])) (.reg [iv 12 4,pA 13 12 1,iv 4 13])))))) (.seq (.reg [iv 21 3,iv 2 21]) (.ret))))
theorem yt7 : Has Tryz.prog yfJ 22 ynL [.t 2] := ⟨by decide, Tryz.f287, _, Tryz.func287, rfl, rfl, ⟨none, by kernel_rfl⟩, by kernel_rfl⟩
def ykR : SC := .seq (.reg [ia 2 (.mv (.k (.nil 1)))]) (.seq (.reg [ia 3 (.mv (.k (.nil 1)))]) (.seq (.seq (.reg [iv 6 0,nA 7 6,mA 8 0]) (.block 0 (.loop (.seq (.reg [tA 9 8 7]) (.seq (.cond (.t 9) (.skip) (.exit 0)) (.seq (.block 1 (.seq (.reg [xA 10 1 6 8,lA 11 10,iv 5 11]) (.reg [iv 12 3,iv 13 5,ia 14 (.call yaN [.t 13]),ia 15 (.bsl 1 [.t 14]),ia 16 (.app 1 24 (.t 12) (.t 15)),iv 3 16]))) (.reg [pA 17 8 1,iv 8 17]))))))) (.seq (.reg [iv 18 3,iv 2 18]) (.ret))))
theorem yrl : Has Tryz.prog ygI 19 ykR [.t 2] := ⟨by decide, Tryz.f288, _, Tryz.func288, rfl, rfl, ⟨none, by kernel_rfl⟩, by kernel_rfl⟩
def ymp : SC := .seq (.reg [ia 1 (.box 3 (.t 0)),bA 2 false]) (.seq (.seq (.reg [fA 6 0 1,lA 7 6,ia 8 (.call ycR [.t 7]),ia 9 (.not (.t 8)),iv 10 9,gA 10 false 11 1 1,hA 10 false 12 11,ig 10 false 13 (.call yB [.t 12,kI 0,kI 1000000000]),ig 10 false 14 (.not (.t 13)),ia 15 (.pick (.t 10) (kB true) (.t 14)),iv 16 15,gA 16 false 17 2 1,hA 16 false 18 17,ig 16 false 19 (.len (.t 18)),ig 16 false 20 (.bin .gtr (.t 19) (kI 12)),ia 21 (.pick (.t 16) (kB true) (.t 20))]) (.cond (.t 21) (.seq (.reg [bA 2 false]) (.ret)) (.skip))) (.seq (.reg [fA 22 1 1,lA 23 22,ia 24 (.bin .sub (kI 1000000000) (.t 23)),iv 3 24]) (.seq (.seq (.reg [fA 25 2 1,lA 26 25,nA 27 26,mA 28 0]) (.block 0 (.loop (.seq (.reg [tA 29 28 27]) (.seq (.cond (.t 29) (.skip) (.exit 0)) (.seq (.block 1 (.seq (.reg [xA 30 1 26 28,lA 31 30,iv 5 31]) (.seq (.seq (.reg [iv 32 5,ia 33 (.bin .lss (.t 32) (kI 0)),iv 34 33,ig 34 false 35 (.mv (.t 5)),ig 34 false 36 (.mv (.t 3)),ig 34 false 37 (.bin .gtr (.t 35) (.t 36)),ia 38 (.pick (.t 34) (kB true) (.t 37))]) (.cond (.t 38) (.seq (.reg [bA 2 false]) (.ret)) (.skip))) (.reg [iv 39 3,iv 40 5,ia 41 (.bin .sub (.t 39) (.t 40)),iv 3 41])))) (.reg [pA 42 28 1,iv 28 42]))))))) (.seq (.reg [bA 2 true]) (.ret)))))
theorem ytH : Has Tryz.prog ycP 43 ymp [.t 2] := ⟨by decide, Tryz.f289, _, Tryz.func289, rfl, rfl, ⟨none, by kernel_rfl⟩, by kernel_rfl⟩
def ymf : SC := .seq (.reg [mA 4 0,bA 5 false]) (.seq (.seq (.reg [iv 9 0,ia 10 (.call ycR [.t 9]),ia 11 (.not (.t 10)),iv 12 11,ig 12 false 13 (.mv (.t 0)),ig 12 false 14 (.mv (.t 0)),ig 12 false 15 (.len (.t 14)),ig 12 false 16 (.bin .sub (.t 15) (kI 1)),ig 12 false 17 (.idx 2 (.t 13) (.t 16)),gA 12 false 18 1 17,hA 12 false 19 18,ig 12 false 20 (.mv (.t 1)),ig 12 false 21 (.bin .lss (.t 19) (.t 20)),ia 22 (.pick (.t 12) (kB true) (.t 21))]) (.cond (.t 22) (.seq (.reg [mA 4 0,bA 5 false]) (.ret)) (.skip))) (.seq (.regq [iv 23 0,ia 24 (.idx 2 (.t 23) (kI 0)),fA 25 0 24,lA 26 25,iv 27 0,iv 28 0,nA 29 28,ia 30 (.bin .sub (.t 29) (kI 1)),xA 31 2 27 30,fA 32 0 31,lA 33 32,iv 6 26,iv 7 33]) (.seq (.block 0 (.loop (.seq (.seq (.reg [iv 34 6,iv 35 7,tA 36 34 35]) (.cond (.t 36) (.skip) (.exit 0))) (.block 1 (.seq (.reg [iv 37 6,iv 38 7,ia 39 (.bin .add (.t 37) (.t 38)),ia 40 (.bin .quo (.t 39) (kI 2)),iv 8 40]) (.seq (.reg [iv 41 0,iv 42 8,ia 43 (.call yhV [.t 41,.t 42]),iv 44 1,ia 45 (.bin .geq (.t 43) (.t 44))]) (.cond (.t 45) (.reg [iv 46 8,iv 7 46]) (.reg [iv 47 8,pA 48 47 1,iv 6 48])))))))) (.seq (.reg [iv 49 6,iv 4 49,bA 5 true]) (.ret)))))
theorem ysO : Has Tryz.prog yhE 50 ymf [.t 4, .t 5] := ⟨by decide, Tryz.f290, _, Tryz.func290, rfl, rfl, ⟨none, by kernel_rfl⟩, by kernel_rfl⟩
def ye3 : SC := .seq (.reg [bA 2 false]) (.seq (.seq (.reg [iv 8 0,nA 9 8,ia 10 (.bin .gtr (.t 9) (kI 8))]) (.cond (.t 10) (.seq (.reg [bA 2 false]) (.ret)) (.skip))) (.seq (.reg [ia 3 (.mv (.k (.nil 1)))]) (.seq (.seq (.reg [iv 11 0,nA 12 11,mA 13 0]) (.block 0 (.loop (.seq (.reg [tA 14 13 12]) (.seq (.cond (.t 14) (.skip) (.exit 0)) (.seq (.block 1 (.seq (.reg [xA 15 2 11 13,dA 16 2 15,ia 5 (.alloc [.c (.b false),.nil 1]),ie (.stn 2 (.t 5) (.t 16))]) (.seq (.seq (.reg [dA 17 2 5,ia 18 (.call yaJ [.t 17]),ia 19 (.not (.t 18))]) (.cond (.t 19) (.seq (.reg [bA 2 false]) (.ret)) (.skip))) (.seq (.reg [dA 20 2 5,ia 21 (.call ykN [.t 20]),nA 22 21,mA 23 0]) (.block 2 (.loop (.seq (.reg [tA 24 23 22]) (.seq (.cond (.t 24) (.skip) (.exit 2)) (.seq (.block 3 (.seq (.reg [xA 25 1 21 23,lA 26 25,iv 7 26]) (.seq (.seq (.reg [iv 27 3,iv 28 7,ia 29 (.call yaV [.t 27,.t 28])]) (.cond (.t 29) (.seq (.reg [bA 2 false]) (.ret)) (.skip))) (.reg [iv 30 3,iv 31 7,ia 32 (.bsl 1 [.t 31]),ia 33 (.app 1 8 (.t 30) (.t 32)),iv 3 33])))) (.reg [pA 34 23 1,iv 23 34])))))))))) (.reg [pA 35 13 1,iv 13 35]))))))) (.seq (.reg [bA 2 true]) (.ret)))))
theorem ylA : Has Tryz.prog ybG 36 ye3 [.t 2] := ⟨by decide, Tryz.f291, _, Tryz.func291, rfl, rfl, ⟨none, by kernel_rfl⟩, by kernel_rfl⟩
def ylS : SC := .seq (.reg [ia 1 (.box 2 (.t 0)),mA 2 0]) (.seq (.seq (.reg [dA 9 2 1,ia 10 (.call yaJ [.t 9]),ia 11 (.not (.t 10))]) (.cond (.t 11) (.seq (.reg [mA 2 0]) (.ret)) (.skip))) (.seq (.reg [mA 3 0]) (.seq (.seq (.reg [fA 12 1 1,lA 13 12,nA 14 13,mA 15 0]) (.block 0 (.loop (.seq (.reg [tA 16 15 14]) (.seq (.cond (.t 16) (.skip) (.exit 0)) (.seq (.block 1 (.seq (.reg [xA 17 1 13 15,lA 18 17,iv 5 18]) (.seq (.reg [mA 6 0]) (.seq (.seq (.reg [iv 19 5,nA 20 19,mA 21 0]) (.block 2 (.loop (.seq (.reg [tA 22 21 20]) (.seq (.cond (.t 22) (.skip) (.exit 2)) (.seq (.block 3 (.seq (.reg [xA 23 6 19 21,dA 24 6 23,ia 8 (.alloc [.c (.i 0),.c (.i 0),.c (.i 0),.c (.i 0),.c (.i 0),.c (.i 0)]),ie (.stn 6 (.t 8) (.t 24))]) (.reg [iv 25 6,fA 26 2 8,lA 27 26,ia 28 (.bin .add (.t 25) (.t 27)),iv 6 28]))) (.reg [pA 29 21 1,iv 21 29]))))))) (.reg [iv 30 3,iv 31 6,ia 32 (.mx [.t 30,.t 31]),iv 3 32]))))) (.reg [pA 33 15 1,iv 15 33]))))))) (.seq (.reg [iv 34 3,iv 2 34]) (.ret)))))
theorem ys5 : Has Tryz.prog yhc 35 ylS [.t 2] := ⟨by decide, Tryz.f292, _, Tryz.func292, rfl, rfl, ⟨none, by kernel_rfl⟩, by kernel_rfl⟩
def ykY : SC := .seq (.reg [ia 1 (.box 2 (.t 0)),mA 2 0]) (.seq (.seq (.reg [dA 9 2 1,ia 10 (.call yaJ [.t 9]),ia 11 (.not (.t 10))]) (.cond (.t 11) (.seq (.reg [mA 2 0]) (.ret)) (.skip))) (.seq (.reg [mA 3 0]) (.seq (.seq (.reg [fA 12 1 1,lA 13 12,nA 14 13,mA 15 0]) (.block 0 (.loop (.seq (.reg [tA 16 15 14]) (.seq (.cond (.t 16) (.skip) (.exit 0)) (.seq (.block 1 (.seq (.reg [xA 17 1 13 15,lA 18 17,iv 5 18]) (.seq (.reg [mA 6 0]) (.seq (.seq (.reg [iv 19 5,nA 20 19,mA 21 0]) (.block 2 (.loop (.seq (.reg [tA 22 21 20]) (.seq (.cond (.t 22) (.skip) (.exit 2)) (.seq (.block 3 (.seq (.reg [xA 23 6 19 21,dA 24 6 23,ia 8 (.alloc [.c (.i 0),.c (.i 0),.c (.i 0),.c (.i 0),.c (.i 0),.c (.i 0)]),ie (.stn 6 (.t 8) (.t 24))]) (.reg [iv 25 6,fA 26 1 8,lA 27 26,ia 28 (.mx [.t 25,.t 27]),iv 6 28]))) (.reg [pA 29 21 1,iv 21 29]))))))) (.reg [iv 30 3,iv 31 6,ia 32 (.bin .add (.t 30) (.t 31)),iv 3 32]))))) (.reg [pA 33 15 1,iv 15 33]))))))) (.seq (.reg [iv 34 3,iv 2 34]) (.ret)))))
theorem yrn : Has Tryz.prog ygJ 35 ykY [.t 2] := ⟨by decide, Tryz.f293, _, Tryz.func293, rfl, rfl, ⟨none, by kernel_rfl⟩, by kernel_rfl⟩
def yoi : SC := .seq (.reg [ia 1 (.box 5 (.t 0)),bA 2 false]) (.seq (.reg [fA 3 0 1,lA 4 3,ia 5 (.call yB [.t 4,kI 1,kI 8]),iv 6 5,gA 6 true 7 1 1,hA 6 true 8 7,gA 6 true 9 0 1,hA 6 true 10 9,ig 6 true 11 (.bin .mul (kI 10) (.t 10)),ig 6 true 12 (.call yB [.t 8,kI 0,.t 11]),ia 13 (.pick (.t 6) (.t 12) (kB false)),iv 14 13,gA 14 true 15 2 1,hA 14 true 16 15,ig 14 true 17 (.call yB [.t 16,kI 1,kI 80]),ia 18 (.pick (.t 14) (.t 17) (kB false)),iv 19 18,gA 19 true 20 3 1,hA 19 true 21 20,ig 19 true 22 (.call yB [.t 21,kI 0,kI 100000]),ia 23 (.pick (.t 19) (.t 22) (kB false)),iv 24 23,gA 24 true 25 4 1,hA 24 true 26 25,ig 24 true 27 (.call yB [.t 26,kI 1,kI 1000]),ia 28 (.pick (.t 24) (.t 27) (kB false)),iv 2 28]) (.ret))
theorem yuk : Has Tryz.prog yiP 29 yoi [.t 2] := ⟨by decide, Tryz.f311, _, Tryz.func311, rfl, rfl, ⟨none, by kernel_rfl⟩, by kernel_rfl⟩
def yn1 : SC := .seq (.reg [ia 1 (.box 3 (.t 0)),bA 2 false]) (.seq (.reg [fA 3 0 1,lA 4 3,ia 5 (.call yB [.t 4,kI 0,kI 100000]),iv 6 5,gA 6 true 7 1 1,hA 6 true 8 7,ig 6 true 9 (.call yB [.t 8,kI 0,kI 100000]),ia 10 (.pick (.t 6) (.t 9) (kB false)),iv 11 10,gA 11 true 12 2 1,hA 11 true 13 12,ig 11 true 14 (.call yB [.t 13,kI 0,kI 100000]),ia 15 (.pick (.t 11) (.t 14) (kB false)),iv 16 15,gA 16 true 17 0 1,hA 16 true 18 17,gA 16 true 19 1 1,hA 16 true 20 19,ig 16 true 21 (.bin .lss (.t 18) (.t 20)),ia 22 (.pick (.t 16) (.t 21) (kB false)),iv 23 22,gA 23 true 24 1 1,hA 23 true 25 24,gA 23 true 26 2 1,hA 23 true 27 26,ig 23 true 28 (.bin .leq (.t 25) (.t 27)),ia 29 (.pick (.t 23) (.t 28) (kB false)),iv 2 29]) (.ret))
theorem yt6 : Has Tryz.prog yi5 30 yn1 [.t 2] := ⟨by decide, Tryz.f312, _, Tryz.func312, rfl, rfl, ⟨none, by kernel_rfl⟩, by kernel_rfl⟩
def ylM : SC := .seq (.reg [bA 2 false]) (.seq (.seq (.reg [iv 5 0,nA 6 5,ia 7 (.bin .lss (.t 6) (kI 2)),iv 8 7,ig 8 false 9 (.mv (.t 0)),ig 8 false 10 (.len (.t 9)),ig 8 false 11 (.bin .gtr (.t 10) (kI 20)),ia 12 (.pick (.t 8) (kB true) (.t 11))]) (.cond (.t 12) (.seq (.reg [bA 2 false]) (.ret)) (.skip))) (.seq (.seq (.reg [iv 13 0,nA 14 13,mA 15 0]) (.block 0 (.loop (.seq (.reg [tA 16 15 14]) (.seq (.cond (.t 16) (.skip) (.exit 0)) (.seq (.block 1 (.seq (.reg [iv 17 15,xA 18 2 13 15,dA 19 2 18,ia 4 (.alloc [.c (.i 0),.c (.i 0)]),iv 3 17,ie (.stn 2 (.t 4) (.t 19))]) (.seq (.seq (.reg [fA 20 0 4,lA 21 20,ia 22 (.call yB [.t 21,kI 0,kI 1000000000]),ia 23 (.not (.t 22)),iv 24 23,gA 24 false 25 1 4,hA 24 false 26 25,ig 24 false 27 (.call yB [.t 26,kI 0,kI 1000000000]),ig 24 false 28 (.not (.t 27)),ia 29 (.pick (.t 24) (kB true) (.t 28))]) (.cond (.t 29) (.seq (.reg [bA 2 false]) (.ret)) (.skip))) (.seq (.regq [iv 30 3,ia 31 (.bin .gtr (.t 30) (kI 0)),iv 32 31,ig 32 true 33 (.mv (.t 0)),ig 32 true 34 (.mv (.t 3)),ig 32 true 35 (.bin .sub (.t 34) (kI 1)),ig 32 true 36 (.idx 2 (.t 33) (.t 35)),gA 32 true 37 0 36,hA 32 true 38 37,gA 32 true 39 0 4,hA 32 true 40 39,ig 32 true 41 (.bin .geq (.t 38) (.t 40)),ig 32 true 42 (.mv (.t 41)),ig 42 false 43 (.mv (.t 0)),ig 42 false 44 (.mv (.t 3)),ig 42 false 45 (.bin .sub (.t 44) (kI 1)),ig 42 false 46 (.idx 2 (.t 43) (.t 45)),gA 42 false 47 1 46,hA 42 false 48 47,gA 42 false 49 1 4,hA 42 false 50 49,ig 42 false 51 (.bin .gtr (.t 48) (.t 50)),ig 32 true 52 (.pick (.t 42) (kB true) (.t 51)),ia 53 (.pick (.t 32) (.t 52) (kB false))]) (.cond (.t 53) (.seq (.reg [bA 2 false]) (.ret)) (.skip)))))) (.reg [pA 54 15 1,iv 15 54]))))))) (.seq (.reg [bA 2 true]) (.ret))))
theorem yrP : Has Tryz.prog ycR 55 ylM [.t 2] := ⟨by decide, Tryz.f318, _, Tryz.func318, rfl, rfl, ⟨none, by kernel_rfl⟩, by kernel_rfl⟩
def ynW : SC := .seq (.reg [ia 1 (.box 2 (.t 0)),bA 2 false]) (.seq (.reg [fA 3 1 1,lA 4 3,ia 5 (.call yD [.t 4,kI 0,kI 1000000]),iv 2 5]) (.ret))
theorem yuu : Has Tryz.prog yiM 6 ynW [.t 2] := ⟨by decide, Tryz.f320, _, Tryz.func320, rfl, rfl, ⟨none, by kernel_rfl⟩, by kernel_rfl⟩
def ynx : SC := .seq (.reg [ia 1 (.box 10 (.t 0)),bA 2 false]) (.seq (.reg [fA 3 0 1,lA 4 3,ia 5 (.call yD [.t 4,kI 1,kI 1000]),iv 6 5,gA 6 true 7 1 1,hA 6 true 8 7,ig 6 true 9 (.call yD [.t 8,kI 1,kI 100]),ia 10 (.pick (.t 6) (.t 9) (kB false)),iv 11 10,gA 11 true 12 2 1,hA 11 true 13 12,ig 11 true 14 (.call yaW [.t 13]),ia 15 (.pick (.t 11) (.t 14) (kB false)),iv 16 15,gA 16 true 17 3 1,hA 16 true 18 17,ig 16 true 19 (.call yaW [.t 18]),ia 20 (.pick (.t 16) (.t 19) (kB false)),iv 21 20,gA 21 true 22 4 1,hA 21 true 23 22,ig 21 true 24 (.call yaW [.t 23]),ia 25 (.pick (.t 21) (.t 24) (kB false)),iv 26 25,gA 26 true 27 5 1,hA 26 true 28 27,ig 26 true 29 (.call yD [.t 28,kI 1,kI 10000]),ia 30 (.pick (.t 26) (.t 29) (kB false)),iv 31 30,gA 31 true 32 6 1,hA 31 true 33 32,ig 31 true 34 (.call yD [.t 33,kI 1,kI 100000]),ia 35 (.pick (.t 31) (.t 34) (kB false)),iv 36 35,gA 36 true 37 7 1,hA 36 true 38 37,ig 36 true 39 (.call yD [.t 38,kI 0,kI 1000000000]),ia 40 (.pick (.t 36) (.t 39) (kB false)),iv 41 40,gA 41 true 42 8 1,hA 41 true 43 42,ig 41 true 44 (.call yD [.t 43,kI 0,kI 2]),ia 45 (.pick (.t 41) (.t 44) (kB false)),iv 46 45,gA 46 true 47 9 1,hA 46 true 48 47,ig 46 true 49 (.call yfy [.t 48]),ia 50 (.pick (.t 46) (.t 49) (kB false)),iv 2 50]) (.ret))
theorem yua : Has Tryz.prog yjb 51 ynx [.t 2] := ⟨by decide, Tryz.f321, _, Tryz.func321, rfl, rfl, ⟨none, by kernel_rfl⟩, by kernel_rfl⟩
def ynH : SC := .seq (.reg [ia 1 (.box 10 (.t 0)),bA 2 false]) (.seq (.reg [fA 3 0 1,lA 4 3,ia 5 (.call yB [.t 4,kI 1,kI 1000]),iv 6 5,gA 6 true 7 1 1,hA 6 true 8 7,ig 6 true 9 (.call yB [.t 8,kI 1,kI 100]),ia 10 (.pick (.t 6) (.t 9) (kB false)),iv 11 10,gA 11 true 12 2 1,hA 11 true 13 12,ig 11 true 14 (.call yB [.t 13,kI 0,kI 100000]),ia 15 (.pick (.t 11) (.t 14) (kB false)),iv 16 15,gA 16 true 17 3 1,hA 16 true 18 17,ig 16 true 19 (.call yB [.t 18,kI 0,kI 100000]),ia 20 (.pick (.t 16) (.t 19) (kB false)),iv 21 20,gA 21 true 22 4 1,hA 21 true 23 22,ig 21 true 24 (.call yB [.t 23,kI 0,kI 100000]),ia 25 (.pick (.t 21) (.t 24) (kB false)),iv 26 25,gA 26 true 27 5 1,hA 26 true 28 27,ig 26 true 29 (.call yB [.t 28,kI 1,kI 10000]),ia 30 (.pick (.t 26) (.t 29) (kB false)),iv 31 30,gA 31 true 32 6 1,hA 31 true 33 32,ig 31 true 34 (.call yB [.t 33,kI 1,kI 100000]),ia 35 (.pick (.t 31) (.t 34) (kB false)),iv 36 35,gA 36 true 37 7 1,hA 36 true 38 37,ig 36 true 39 (.call yB [.t 38,kI 0,kI 1000000000]),ia 40 (.pick (.t 36) (.t 39) (kB false)),iv 41 40,gA 41 true 42 8 1,hA 41 true 43 42,ig 41 true 44 (.call yB [.t 43,kI 0,kI 2]),ia 45 (.pick (.t 41) (.t 44) (kB false)),iv 46 45,gA 46 true 47 9 1,hA 46 true 48 47,ig 46 true 49 (.call ybG [.t 48]),ia 50 (.pick (.t 46) (.t 49) (kB false)),iv 2 50]) (.ret))
theorem yud : Has Tryz.prog yiG 51 ynH [.t 2] := ⟨by decide, Tryz.f348, _, Tryz.func348, rfl, rfl, ⟨none, by kernel_rfl⟩, by kernel_rfl⟩
def ylb : SC := .seq (.reg [bA 2 false]) (.seq (.seq (.reg [iv 6 0,nA 7 6,ia 8 (.bin .gtr (.t 7) (kI 8))]) (.cond (.t 8) (.seq (.reg [bA 2 false]) (.ret)) (.skip))) (.seq (.reg [mA 3 0]) (.seq (.seq (.reg [iv 9 0,nA 10 9,mA 11 0]) (.block 0 (.loop (.seq (.reg [tA 12 11 10]) (.seq (.cond (.t 12) (.skip) (.exit 0)) (.seq (.block 1 (.seq (.reg [xA 13 2 9 11,dA 14 2 13,ia 5 (.alloc [.c (.i 0),.c (.i 0)]),ie (.stn 2 (.t 5) (.t 14))]) (.seq (.seq (.reg [fA 15 0 5,lA 16 15,iv 17 3,tA 18 16 17,iv 19 18,gA 19 false 20 1 5,hA 19 false 21 20,gA 19 false 22 0 5,hA 19 false 23 22,ig 19 false 24 (.bin .leq (.t 21) (.t 23)),ia 25 (.pick (.t 19) (kB true) (.t 24)),iv 26 25,gA 26 false 27 1 5,hA 26 false 28 27,ig 26 false 29 (.bin .gtr (.t 28) (kI 1000000)),ia 30 (.pick (.t 26) (kB true) (.t 29))]) (.cond (.t 30) (.seq (.reg [bA 2 false]) (.ret)) (.skip))) (.reg [fA 31 1 5,lA 32 31,iv 3 32])))) (.reg [pA 33 11 1,iv 11 33]))))))) (.seq (.reg [bA 2 true]) (.ret)))))
theorem yq6 : Has Tryz.prog ygr 34 ylb [.t 2] := ⟨by decide, Tryz.f349, _, Tryz.func349, rfl, rfl, ⟨none, by kernel_rfl⟩, by kernel_rfl⟩
def yob : SC := .seq (.reg [ia 1 (.box 2 (.t 0)),bA 2 false]) (.seq (.reg [fA 3 1 1,lA 4 3,ia 5 (.call yB [.t 4,kI 0,kI 1000000]),iv 2 5]) (.ret))
theorem yuI : Has Tryz.prog yiy 6 yob [.t 2] := ⟨by decide, Tryz.f350, _, Tryz.func350, rfl, rfl, ⟨none, by kernel_rfl⟩, by kernel_rfl⟩
def ynP : SC := .seq (.reg [ia 1 (.box 4 (.t 0)),bA 2 false]) (.seq (.reg [fA 3 0 1,dA 4 2 3,ia 5 (.call yaJ [.t 4]),iv 6 5,gA 6 true 7 2 1,hA 6 true 8 7,ig 6 true 9 (.call yB [.t 8,kI 0,kI 1000000]),ia 10 (.pick (.t 6) (.t 9) (kB false)),iv 11 10,gA 11 true 12 3 1,hA 11 true 13 12,ig 11 true 14 (.call yB [.t 13,kI (-1),kI 1000000]),ia 15 (.pick (.t 11) (.t 14) (kB false)),iv 2 15]) (.ret))
theorem yuL : Has Tryz.prog yi2 16 ynP [.t 2] := ⟨by decide, Tryz.f351, _, Tryz.func351, rfl, rfl, ⟨none, by kernel_rfl⟩, by kernel_rfl⟩
def ynD : SC := .seq (.reg [ia 1 (.box 4 (.t 0)),bA 2 false]) (.seq (.reg [fA 3 0 1,dA 4 2 3,ia 5 (.call yaD [.t 4]),iv 6 5,gA 6 true 7 2 1,hA 6 true 8 7,ig 6 true 9 (.call yD [.t 8,kI 0,kI 1000000]),ia 10 (.pick (.t 6) (.t 9) (kB false)),iv 11 10,gA 11 true 12 3 1,hA 11 true 13 12,ig 11 true 14 (.call yD [.t 13,kI (-1),kI 1000000]),ia 15 (.pick (.t 11) (.t 14) (kB false)),iv 2 15]) (.ret))
theorem yuq : Has Tryz.prog yiz 16 ynD [.t 2] := ⟨by decide, Tryz.f352, _, Tryz.func352, rfl, rfl, ⟨none, by kernel_rfl⟩, by kernel_rfl⟩
def ybm : SC := .seq (.reg [ia 2 (.mv (.k (.nil 6)))]) (.seq (.seq (.reg [iv 3 0,ia 4 (.isn (.t 3))]) (.cond (.t 4) (.seq (.reg [ia 2 (.mv (.k (.nil 6)))]) (.ret)) (.skip))) (.seq (.reg [ia 5 (.bsl 6 []),iv 6 0,ia 7 (.app 6 48 (.t 5) (.t 6)),iv 2 7]) (.ret)))
theorem yc2 : Has Tryz.prog yaN 8 ybm [.t 2] := ⟨by decide, Tryz.f353, _, Tryz.func353, rfl, rfl, ⟨none, by kernel_rfl⟩, by kernel_rfl⟩
def yjJ : SC := .seq (.reg [bA 2 false]) (.seq (.seq (.reg [mA 3 0]) (.block 0 (.loop (.seq (.seq (.reg [iv 4 3,iv 5 0,nA 6 5,tA 7 4 6]) (.cond (.t 7) (.skip) (.exit 0))) (.seq (.block 1 (.seq (.reg [iv 10 0,iv 11 3,xA 12 2 10 11,dA 13 2 12,ia 14 (.call yaD [.t 13]),ia 15 (.not (.t 14)),iv 16 15,ig 16 false 17 (.mv (.t 0)),ig 16 false 18 (.len (.t 17)),ig 16 false 19 (.bin .gtr (.t 18) (kI 8)),ia 20 (.pick (.t 16) (kB true) (.t 19))]) (.cond (.t 20) (.seq (.reg [bA 2 false]) (.ret)) (.skip)))) (.reg [iv 8 3,pA 9 8 1,iv 3 9])))))) (.seq (.reg [iv 21 0,ia 22 (.call yb6 [.t 21]),iv 2 22]) (.ret)))
theorem ypY : Has Tryz.prog yfy 23 yjJ [.t 2] := ⟨by decide, Tryz.f359, _, Tryz.func359, rfl, rfl, ⟨none, by kernel_rfl⟩, by kernel_rfl⟩
def inRange (n a b : Int) : Bool := decide (a ≤ n) && decide (n ≤ b)
theorem yE (n a b : Int) : yF Tryz.prog yB [.c (.i n), .c (.i a), .c (.i b)] (.c (.b (inRange n a b))) := by
 refine yt ys3 (by simp) fun hwf => ?_
 simp -dsimp -implicitDefEqProofs [ylE, inRange]
 exact ⟨fun h => by simp [h], fun h => by simp [Int.not_le.2 h]⟩
theorem yC (n a b : Int) : yF Tryz.prog yD [.c (.i n), .c (.i a), .c (.i b)] (.c (.b (inRange n a b))) := by
 refine yt ywR (by simp) fun hwf => ?_
 simp -dsimp -implicitDefEqProofs [yoZ, inRange]
 exact ⟨fun h => by simp [h], fun h => by simp [Int.not_le.2 h]⟩
structure Entry where
 From : Int
 To : Int
 Amount : Int
 Time : Int
 Why : Int
 deriving Inhabited, DecidableEq
@[simp] def Entry.enc (e : Entry) : List C := [.i e.From, .i e.To, .i e.Amount, .i e.Time, .i e.Why]
def ybQ (e : Entry) : Bool := decide (e.From ≠ e.To) && inRange e.From 0 11 && inRange e.To 0 11 && inRange e.Amount 1 1000000000 && inRange e.Time 0 1000000 && inRange e.Why 0 9999
theorem yvS (e : Entry) : yF Tryz.prog yhq [.agg (e.enc.map .c)] (.c (.b (ybQ e))) := by
 refine yt ys4 (by simp) fun hwf => ?_
 simp -dsimp -implicitDefEqProofs [ylZ]
 refine ⟨fun h => ?_, fun h => by simp [ybQ, h]⟩
 refine yg (yE e.From 0 11) (by simp) rfl ?_
 simp -dsimp -implicitDefEqProofs
 refine ⟨fun h1 => ?_, fun h1 => by simp [ybQ, h1]⟩
 refine yg (yE e.To 0 11) (by simp) rfl ?_
 simp -dsimp -implicitDefEqProofs
 refine ⟨fun h2 => ?_, fun h1 => by simp [ybQ, h1]⟩
 refine yg (yE e.Amount 1 1000000000) (by simp) rfl ?_
 simp -dsimp -implicitDefEqProofs
 refine ⟨fun h3 => ?_, fun h1 => by simp [ybQ, h1]⟩
 refine yg (yE e.Time 0 1000000) (by simp) rfl ?_
 simp -dsimp -implicitDefEqProofs
 refine ⟨fun h4 => ?_, fun h1 => by simp [ybQ, h1]⟩
 refine yg (yE e.Why 0 9999) (by simp) rfl ?_
 simp -dsimp -implicitDefEqProofs
 simp [ybQ, h, h1, h2, h3, h4]
def yks (es : List Entry) : Bool := decide (es.length ≤ 2000) && es.all ybQ
theorem yL {α : Type} {p : α → Bool} {l : List α} {k : Nat} {e : α} (he : l[k]? = some e) (h : ∀ x ∈ l.take k, p x = true) (hp : p e = true) : ∀ x ∈ l.take (k + 1), p x = true := by
 intro x hx
 rw [List.take_succ_eq_append_getElem (List.getElem?_eq_some_iff.1 he).1] at hx
 rcases List.mem_append.1 hx with h1 | h1
 ·exact h x h1
 ·rw [List.mem_singleton] at h1
  have := (List.getElem?_eq_some_iff.1 he).2
  rw [h1, this]; exact hp
theorem yQ {α : Type} {p : α → Bool} {l : List α} {k : Nat} (hk : l.length ≤ k) (h : ∀ x ∈ l.take k, p x = true) : l.all p = true := by
 rw [List.take_of_length_le hk] at h
 exact List.all_eq_true.2 h
theorem all_false {α : Type} {p : α → Bool} {l : List α} {k : Nat} {e : α} (he : l[k]? = some e) (hp : p e = false) : l.all p = false := by
 rw [List.all_eq_false]
 exact ⟨e, List.mem_of_getElem? he, by simp [hp]⟩
theorem yI {k n : Nat} (h : k < n) : ((k : Int) < (n : Int)) = True := by simp [h]
theorem yah {k n : Nat} (h : n ≤ k) : ((k : Int) < (n : Int)) = False := by simp [h]
theorem yxa (es : List Entry) : yF Tryz.prog yiE [.c (.sl 5 (es.map Entry.enc))] (.c (.b (yks es))) := by
 refine yt yub (by simp) fun hwf => ?_
 simp -dsimp -implicitDefEqProofs [yn2]
 intro hlen
 refine ⟨fun h => by simp [yks]; omega, fun h _ => ?_⟩
 refine yh (ι := Nat) (fun k => k ≤ es.length ∧ ∀ e ∈ es.take k, ybQ e = true) (fun k => yP [(8, .c (.sl 5 (es.map Entry.enc))), (9, .c (.i es.length)), (10, .c (.i k))] []) (fun k => es.length - k) 0 (by simp) (by apply yj <;> simp [AV.yc, AV.yA]) ?_
 rintro k ⟨hk, hall⟩
 rcases Nat.lt_or_ge k es.length with hlt | hge
 ·obtain ⟨e, he⟩ : ∃ e, es[k]? = some e := ⟨_, List.getElem?_eq_getElem hlt⟩
  simp -dsimp -implicitDefEqProofs [he, yI hlt]
  refine yg (yvS e) (by simp) rfl ?_
  simp -dsimp -implicitDefEqProofs
  refine ⟨fun h1 => by simp [yks, all_false he h1], fun h1 => ?_⟩
  refine ⟨by unfold maxLen at hlen; constructor <;> omega, k + 1, ⟨by omega, yL he hall h1⟩, by omega, ?_⟩
  apply yj <;> simp [AV.yc, AV.yA]
 ·simp -dsimp -implicitDefEqProofs [yah hge]
  have := yQ hge hall
  simp [yks, this]; omega
structure Way where
 Long : Int
 Bed : Int
 deriving DecidableEq, Inhabited
@[simp] def Way.enc (e : Way) : List C := [.i e.Long, .i e.Bed]
def ymn (e : Way) : Bool := inRange e.Long 1 10000 && inRange e.Bed 0 100000
theorem ydJ (n : Int) : yF Tryz.prog yaW [.c (.i n)] (.c (.b (inRange n 0 100000))) := by
 refine yt yq5 (by simp) fun hwf => ?_
 simp -dsimp -implicitDefEqProofs [yls]
 refine yg (yC n 0 100000) (by simp) rfl ?_
 simp -dsimp -implicitDefEqProofs
theorem ysB (e : Way) : yF Tryz.prog yg1 [.agg (e.enc.map .c)] (.c (.b (ymn e))) := by
 refine yt ywt (by simp) fun hwf => ?_
 simp -dsimp -implicitDefEqProofs [ypC]
 refine yg (yE e.Long 1 10000) (by simp) rfl ?_
 simp -dsimp -implicitDefEqProofs
 refine ⟨fun h => ?_, fun h => by simp [ymn, h]⟩
 refine yg (yE e.Bed 0 100000) (by simp) rfl ?_
 simp -dsimp -implicitDefEqProofs
 simp [ymn, h]
theorem ysF (e : Way) : yF Tryz.prog ygY [.agg (e.enc.map .c)] (.c (.b (ymn e))) := by
 refine yt ywj (by simp) fun hwf => ?_
 simp -dsimp -implicitDefEqProofs [ypy]
 refine yg (yC e.Long 1 10000) (by simp) rfl ?_
 simp -dsimp -implicitDefEqProofs
 refine ⟨fun h => ?_, fun h => by simp [ymn, h]⟩
 refine yg (ydJ e.Bed) (by simp) rfl ?_
 simp -dsimp -implicitDefEqProofs
 simp [ymn, h]
theorem yAg (e : Way) : yF Tryz.prog ykx [.agg (e.enc.map .c)] (.agg (e.enc.map .c)) := by
 refine yt ywI (by simp) fun hwf => ?_
 simp -dsimp -implicitDefEqProofs [ypz]
theorem ywm (e : Entry) : yF Tryz.prog yhR [.agg (e.enc.map .c)] (.c (.b (ybQ e))) := by
 refine yt ysJ (by simp) fun hwf => ?_
 simp -dsimp -implicitDefEqProofs [ymN]
 refine ⟨fun h => ?_, fun h => by simp [ybQ, h]⟩
 refine yg (yC e.From 0 11) (by simp) rfl ?_
 simp -dsimp -implicitDefEqProofs
 refine ⟨fun h1 => ?_, fun h1 => by simp [ybQ, h1]⟩
 refine yg (yC e.To 0 11) (by simp) rfl ?_
 simp -dsimp -implicitDefEqProofs
 refine ⟨fun h2 => ?_, fun h1 => by simp [ybQ, h1]⟩
 refine yg (yC e.Amount 1 1000000000) (by simp) rfl ?_
 simp -dsimp -implicitDefEqProofs
 refine ⟨fun h3 => ?_, fun h1 => by simp [ybQ, h1]⟩
 refine yg (yC e.Time 0 1000000) (by simp) rfl ?_
 simp -dsimp -implicitDefEqProofs
 refine ⟨fun h4 => ?_, fun h1 => by simp [ybQ, h1]⟩
 refine yg (yC e.Why 0 9999) (by simp) rfl ?_
 simp -dsimp -implicitDefEqProofs
 simp [ybQ, h, h1, h2, h3, h4]
theorem yvc (e : Entry) : yF Tryz.prog yhd [.agg (e.enc.map .c)] (.agg (e.enc.map .c)) := by
 refine yt ys6 (by simp) fun hwf => ?_
 simp -dsimp -implicitDefEqProofs [yl8]
theorem yBs (e f : Entry) : yF Tryz.prog yhl [.agg (e.enc.map .c), .agg (f.enc.map .c)] (.c (.b (decide (e = f)))) := by
 refine yt yto (by simp) fun hwf => ?_
 obtain ⟨a1, a2, a3, a4, a5⟩ := e
 obtain ⟨b1, b2, b3, b4, b5⟩ := f
 simp -dsimp -implicitDefEqProofs [ymj, Entry.mk.injEq]
 refine ⟨fun h => by simp [h], fun h => ⟨fun h1 => by simp [h1], fun h1 => ⟨fun h2 => by simp [h2], fun h2 => ⟨fun h3 => by simp [h3], fun h3 => ⟨fun h4 => by simp [h4], fun h4 => by simp [h, h1, h2, h3, h4]⟩⟩⟩⟩⟩
def partly {α : Type} (f : α → List C) (z : List C) (es : List α) (k : Nat) : List (List C) := (es.take k).map f ++ List.replicate (es.length - k) z
theorem yaf {α : Type} {f : α → List C} {z : List C} {es : List α} {k : Nat} (h : k ≤ es.length) : (partly f z es k).length = es.length := by
 simp [partly]; omega
theorem yX {α : Type} {f : α → List C} {z : List C} {es : List α} : partly f z es 0 = List.replicate es.length z := by simp [partly]
theorem yad {α : Type} {f : α → List C} {z : List C} {es : List α} {k : Nat} (h : es.length ≤ k) : partly f z es k = es.map f := by
 simp [partly, List.take_of_length_le h, Nat.sub_eq_zero_of_le h]
theorem yae {α : Type} {f : α → List C} {z : List C} {es : List α} {k : Nat} {e : α} (h : es[k]? = some e) : (partly f z es k).set k (f e) = partly f z es (k + 1) := by
 have hk := (List.getElem?_eq_some_iff.1 h).1
 have he := (List.getElem?_eq_some_iff.1 h).2
 unfold partly
 rw [List.set_append_right _ _ (by simp; omega)]
 have h1 : ((es.take k).map f).length = k := by simp; omega
 rw [h1, Nat.sub_self, show es.length - k = (es.length - (k + 1)) + 1 by omega, List.replicate_succ, List.set_cons_zero, List.take_succ_eq_append_getElem hk, he]
 simp
theorem yfk {α : Type} {f : α → List C} {z : List C} {es : List α} {k n : Nat} (hz : z.length = n) (hf : ∀ e, (f e).length = n) (h : k < es.length) : ((partly f z es k)[k]?.getD []).length = n := by
 unfold partly
 rw [List.getElem?_append_right (by simp; omega)]
 have h1 : ((es.take k).map f).length = k := by simp; omega
 rw [h1, Nat.sub_self, List.getElem?_replicate, if_pos (by omega)]
 exact hz
theorem yam {α : Type} {f : α → List C} {z : List C} {es : List α} {k n : Nat} (hz : z.length = n) (h : k < es.length) : ((partly f z es k)[k]?.getD []).drop n = [] := by
 apply List.drop_eq_nil_of_le
 unfold partly
 rw [List.getElem?_append_right (by simp; omega)]
 have h1 : ((es.take k).map f).length = k := by simp; omega
 rw [h1, Nat.sub_self, List.getElem?_replicate, if_pos (by omega)]
 simp [hz]
theorem yu {k n : Nat} (hk : k < n) (h : n ≤ maxLen) : inI ((k : Int) + 1) := by unfold maxLen at h; unfold inI; omega
def szS (n : Nat) (left : Int) : Int := if left - n < 0 then -1 else left - n
theorem yzp (es : List Entry) (hl : es.length ≤ 1048576) : yF Tryz.prog ydu [.c (.sl 5 (es.map Entry.enc))] (.c (.sl 5 (es.map Entry.enc))) := by
 refine yt ykT (by simp) fun hwf => ?_
 simp -dsimp -implicitDefEqProofs [ygb]
 intro hlen
 refine ⟨by omega, ?_⟩
 refine yh (ι := Nat) (fun k => k ≤ es.length) (fun k => yP [(0, .c (.sl 5 (es.map Entry.enc))), (3, .own 7 5 es.length), (4, .c (.i k))] [(7, .row 5 (partly Entry.enc [.i 0, .i 0, .i 0, .i 0, .i 0] es k))]) (fun k => es.length - k) 0 (by simp) (by apply yj <;> simp [AV.yc, AV.yA, Obj.yc, yX]) ?_
 rintro k hk
 rcases Nat.lt_or_ge k es.length with hlt | hge
 ·obtain ⟨e, he⟩ : ∃ e, es[k]? = some e := ⟨_, List.getElem?_eq_getElem hlt⟩
  have hs := yae (f := Entry.enc) (z := [.i 0, .i 0, .i 0, .i 0, .i 0]) he
  have hd := yam (f := Entry.enc) (z := [.i 0, .i 0, .i 0, .i 0, .i 0]) (n := 5) rfl hlt
  simp only [Entry.enc] at hs
  simp -dsimp -implicitDefEqProofs [he, yI hlt]
  refine fun _ => yJ (yvc e) (by simp) rfl ?_
  simp -dsimp -implicitDefEqProofs [yI hlt, yaf hk, hd, hs]
  refine ⟨hlt, yu hlt hlen, k + 1, hlt, by omega, by apply yj <;> simp [AV.yc, AV.yA, Obj.yc]⟩
 ·simp -dsimp -implicitDefEqProofs [yah hge]
  intro _
  rw [yad hge, List.take_of_length_le (by simp)]
theorem yaI {α : Type} {l m : List α} {k : Nat} {e f : α} (he : l[k]? = some e) (hf : m[k]? = some f) (h : l.take k = m.take k) (hef : e = f) : l.take (k + 1) = m.take (k + 1) := by
 rw [List.take_succ, List.take_succ, he, hf, h, hef]
theorem ybl {α : Type} {l m : List α} {k : Nat} {e f : α} (he : l[k]? = some e) (hf : m[k]? = some f) (hef : e ≠ f) : l ≠ m := by
 rintro rfl
 rw [he] at hf
 exact hef (Option.some.inj hf)
theorem ya5 {α : Type} {l m : List α} {k : Nat} (hl : l.length ≤ k) (hm : l.length = m.length) (h : l.take k = m.take k) : l = m := by
 rwa [List.take_of_length_le hl, List.take_of_length_le (by omega)] at h
theorem yyE (es fs : List Entry) : yF Tryz.prog ygi [.c (.sl 5 (es.map Entry.enc)), .c (.sl 5 (fs.map Entry.enc))] (.c (.b (decide (es = fs)))) := by
 refine yt yrd (by simp) fun hwf => ?_
 simp -dsimp -implicitDefEqProofs [yk5]
 intro hl1 hl2
 refine ⟨fun h e => h (by rw [e]), fun hlen => ?_⟩
 have hlen' : es.length = fs.length := by omega
 refine yh (ι := Nat) (fun k => k ≤ es.length ∧ es.take k = fs.take k) (fun k => yP [(0, .c (.sl 5 (es.map Entry.enc))), (1, .c (.sl 5 (fs.map Entry.enc))), (5, .c (.i k))] []) (fun k => es.length - k) 0 (by simp) (by apply yj <;> simp [AV.yc, AV.yA, Obj.yc]) ?_
 rintro k ⟨hk, htk⟩
 rcases Nat.lt_or_ge k es.length with hlt | hge
 ·obtain ⟨e, he⟩ : ∃ e, es[k]? = some e := ⟨_, List.getElem?_eq_getElem hlt⟩
  obtain ⟨f, hf⟩ : ∃ f, fs[k]? = some f := ⟨_, List.getElem?_eq_getElem (by omega)⟩
  simp -dsimp -implicitDefEqProofs [he, hf, yI hlt, yI (hlen' ▸ hlt)]
  intro _
  refine ⟨_, _, yBs e f, by simp, .inr rfl, ?_⟩
  simp -dsimp -implicitDefEqProofs
  refine ⟨fun h => ybl he hf h, fun h => ⟨yu hlt hl1, k + 1, ⟨hlt, yaI he hf htk h⟩, by omega, by apply yj <;> simp [AV.yc, AV.yA, Obj.yc]⟩⟩
 ·simp -dsimp -implicitDefEqProofs [yah hge]
  intro _
  exact ya5 hge hlen' htk
theorem yxC (es : List Entry) : yF Tryz.prog yiH [.c (.sl 5 (es.map Entry.enc))] (.c (.b (yks es))) := by
 refine yt yuC (by simp) fun hwf => ?_
 simp -dsimp -implicitDefEqProofs [ynM]
 refine yh (ι := Nat) (fun k => k ≤ es.length ∧ ∀ e ∈ es.take k, ybQ e = true) (fun k => yP [(0, .c (.sl 5 (es.map Entry.enc))), (3, .c (.i k))] []) (fun k => es.length - k) 0 (by simp) (by apply yj <;> simp [AV.yc, AV.yA, Obj.yc]) ?_
 rintro k ⟨hk, hall⟩
 rcases Nat.lt_or_ge k es.length with hlt | hge
 ·obtain ⟨e, he⟩ : ∃ e, es[k]? = some e := ⟨_, List.getElem?_eq_getElem hlt⟩
  simp -dsimp -implicitDefEqProofs [he, yI hlt]
  intro hlen
  refine yg (ywm e) (by simp) rfl ?_
  simp -dsimp -implicitDefEqProofs
  refine ⟨fun h1 => by simp [yks, all_false he h1], fun h1 => ?_⟩
  exact ⟨yu hlt hlen, k + 1, ⟨by omega, yL he hall h1⟩, by omega, by apply yj <;> simp [AV.yc, AV.yA, Obj.yc]⟩
 ·simp -dsimp -implicitDefEqProofs [yah hge]
  have := yQ hge hall
  simp only [yks, this, Bool.and_true]
  intro _
  exact decide_eq_decide.2 (by omega)
abbrev yac (n : Int) : List C := [.i n]
theorem yB2 (es : List Int) (left : Int) (h0 : 0 ≤ left) (h1 : left ≤ 1048576) : yF Tryz.prog yb4 [.c (.sl 1 (es.map yac)), .c (.i left)] (.c (.i (szS es.length left))) := by
 refine yt yuj (by simp) fun hwf => ?_
 simp -dsimp -implicitDefEqProofs [yog, szS]
 intro hl
 unfold maxLen at hl
 refine ⟨by unfold inI; omega, fun h => ?_, fun h => ?_⟩ <;> intros <;> omega
theorem ypw (es : List Int) (hl : es.length ≤ 1048576) : yF Tryz.prog ybZ [.c (.sl 1 (es.map yac))] (.c (.sl 1 (es.map yac))) := by
 refine yt ynC (by simp) fun hwf => ?_
 simp -dsimp -implicitDefEqProofs [yiW]
 intro hlen
 refine ⟨by omega, ?_⟩
 refine yh (ι := Nat) (fun k => k ≤ es.length) (fun k => yP [(0, .c (.sl 1 (es.map yac))), (3, .own 7 1 es.length), (4, .c (.i k))] [(7, .row 1 (partly yac [.i 0] es k))]) (fun k => es.length - k) 0 (by simp) (by apply yj <;> simp [AV.yc, AV.yA, Obj.yc, yX]) ?_
 rintro k hk
 rcases Nat.lt_or_ge k es.length with hlt | hge
 ·obtain ⟨e, he⟩ : ∃ e, es[k]? = some e := ⟨_, List.getElem?_eq_getElem hlt⟩
  have hs := yae (f := yac) (z := [.i 0]) he
  have hd : ((partly yac [.i 0] es k)[k]?.getD []).set 0 (.i e) = [.i e] := by
   have := yfk (f := yac) (z := [.i 0]) (n := 1) rfl (fun _ => rfl) hlt
   obtain ⟨x, hx⟩ := List.length_eq_one_iff.1 this
   rw [hx]; rfl
  simp -dsimp -implicitDefEqProofs [he, yI hlt]
  intro _
  rw [hd, show (partly yac [.i 0] es k).set k [.i e] = partly yac [.i 0] es (k + 1) from hs]
  exact ⟨by rw [yaf hk]; exact hlt, yu hlt hlen, k + 1, hlt, by omega, by apply yj <;> simp [AV.yc, AV.yA, Obj.yc]⟩
 ·simp -dsimp -implicitDefEqProofs [yah hge]
  intro _
  rw [yad hge, List.take_of_length_le (by simp)]
theorem yo4 (es fs : List Int) : yF Tryz.prog ycD [.c (.sl 1 (es.map yac)), .c (.sl 1 (fs.map yac))] (.c (.b (decide (es = fs)))) := by
 refine yt ytR (by simp) fun hwf => ?_
 simp -dsimp -implicitDefEqProofs [ynw]
 intro hl1 hl2
 refine ⟨fun h e => h (by rw [e]), fun hlen => ?_⟩
 have hlen' : es.length = fs.length := by omega
 refine yh (ι := Nat) (fun k => k ≤ es.length ∧ es.take k = fs.take k) (fun k => yP [(0, .c (.sl 1 (es.map yac))), (1, .c (.sl 1 (fs.map yac))), (5, .c (.i k))] []) (fun k => es.length - k) 0 (by simp) (by apply yj <;> simp [AV.yc, AV.yA, Obj.yc]) ?_
 rintro k ⟨hk, htk⟩
 rcases Nat.lt_or_ge k es.length with hlt | hge
 ·obtain ⟨e, he⟩ : ∃ e, es[k]? = some e := ⟨_, List.getElem?_eq_getElem hlt⟩
  obtain ⟨f, hf⟩ : ∃ f, fs[k]? = some f := ⟨_, List.getElem?_eq_getElem (by omega)⟩
  simp -dsimp -implicitDefEqProofs [he, hf, yI hlt, yI (hlen' ▸ hlt)]
  intro _
  refine ⟨fun h => ybl he hf h, fun h => ⟨yu hlt hl1, k + 1, ⟨hlt, yaI he hf htk h⟩, by omega, by apply yj <;> simp [AV.yc, AV.yA, Obj.yc]⟩⟩
 ·simp -dsimp -implicitDefEqProofs [yah hge]
  intro _
  exact ya5 hge hlen' htk
structure Tariff where
 Base : Int
 PerArea : Int
 PerClass : List Int
 Weights : List Int
 deriving DecidableEq
@[simp] def Tariff.enc (t : Tariff) : List C := [.i t.Base, .i t.PerArea, .sl 1 (t.PerClass.map yac), .sl 1 (t.Weights.map yac)]
def Tariff.small (t : Tariff) : Prop := t.PerClass.length ≤ 1048576 ∧ t.Weights.length ≤ 1048576
theorem yzm (t : Tariff) (h : t.small) : yF Tryz.prog ydG [.agg (t.enc.map .c)] (.agg (t.enc.map .c)) := by
 refine yt yk9 (by simp) fun hwf => ?_
 simp -dsimp -implicitDefEqProofs [ygF]
 refine yJ (ypw t.PerClass h.1) (by simp) rfl ?_
 simp -dsimp -implicitDefEqProofs
 refine yJ (ypw t.Weights h.2) (by simp) rfl ?_
 simp -dsimp -implicitDefEqProofs
theorem yzG (t u : Tariff) : yF Tryz.prog ygd [.agg (t.enc.map .c), .agg (u.enc.map .c)] (.c (.b (decide (t = u)))) := by
 refine yt yq4 (by simp) fun hwf => ?_
 obtain ⟨t1, t2, t3, t4⟩ := t
 obtain ⟨u1, u2, u3, u4⟩ := u
 simp -dsimp -implicitDefEqProofs [yld, Tariff.mk.injEq]
 refine ⟨fun h => by simp [h], fun h => ⟨fun h1 => by simp [h1], fun h1 => ?_⟩⟩
 refine yg (yo4 t3 u3) (by simp) rfl ?_
 simp -dsimp -implicitDefEqProofs
 refine ⟨fun h2 _ _ h3 => absurd h3 h2, fun h2 => ?_⟩
 refine yg (yo4 t4 u4) (by simp) rfl ?_
 simp -dsimp -implicitDefEqProofs
 simp [h, h1, h2]
theorem yrD {l : List Int} {k : Nat} {x : Int} (h : l[k]? = some x) : (l.take (k + 1)).sum = (l.take k).sum + x := by
 rw [List.take_succ, h]; simp
def sumTo (l : List Int) (k : Nat) : Int := (l.take k).sum
theorem yhN {l : List Int} : sumTo l 0 = 0 := rfl
theorem yku {l : List Int} {k : Nat} {x : Int} (h : l[k]? = some x) : sumTo l (k + 1) = sumTo l k + x := yrD h
theorem yp1 {l : List Int} {k : Nat} (h : l.length ≤ k) : sumTo l k = l.sum := by unfold sumTo; rw [List.take_of_length_le h]
def ya1 (t : Tariff) : Bool := inRange t.Base 0 10000 && inRange t.PerArea 0 100 && decide (t.PerClass.length = 3) && inRange t.Weights.length 1 11 &&
 t.PerClass.all (fun n => inRange n 0 10000) && t.Weights.all (fun n => inRange n 0 1000) && decide (0 < t.Weights.sum)
theorem yR {n a b : Int} : inRange n a b = true ↔ a ≤ n ∧ n ≤ b := by simp [inRange]
theorem yco {n a b : Int} : inRange n a b = false ↔ n < a ∨ b < n := by
 simp only [inRange, Bool.and_eq_false_iff, decide_eq_false_iff_not]; omega
theorem ym8 : ∀ {l : List Int} {b : Int}, (∀ x ∈ l, inRange x 0 b = true) → 0 ≤ l.sum ∧ l.sum ≤ b * l.length
 | [], b, _ => by simp
 | x :: l, b, h => by
  have h1 := ym8 (l := l) (b := b) fun y hy => h y (by simp [hy])
  have h2 := yR.1 (h x (by simp))
  simp only [List.sum_cons, List.length_cons, Int.natCast_add, Int.natCast_one, Int.mul_add, Int.mul_one]
  omega
theorem yt4 (t : Tariff) : yF Tryz.prog ygy [.agg (t.enc.map .c)] (.c (.b (ya1 t))) := by
 refine yt yrc (by simp) fun hwf => ?_
 simp -dsimp -implicitDefEqProofs [yk0]
 refine yg (yE t.Base 0 10000) (by simp) rfl ?_
 simp -dsimp -implicitDefEqProofs
 refine ⟨fun h1 => ?_, fun h1 => by simp [ya1, h1]⟩
 refine yg (yE t.PerArea 0 100) (by simp) rfl ?_
 simp -dsimp -implicitDefEqProofs
 refine ⟨fun h2 => ?_, fun h2 => by simp [ya1, h2]⟩
 intro hc
 refine ⟨fun h3 hw => ⟨fun h4 _ => ⟨fun h5 => ?_, fun h5 _ => ?_⟩, fun h4 => ?_⟩, fun h3 => ?_⟩
 ·have : inRange t.Weights.length 1 11 = false := yco.2 (by omega)
  simp [ya1, this]
 ·have h3' : t.PerClass.length = 3 := by omega
  have h6 : inRange t.Weights.length 1 11 = true := yR.2 (by omega)
  refine yh (ι := Nat) (fun k => k ≤ t.PerClass.length ∧ ∀ n ∈ t.PerClass.take k, inRange n 0 10000 = true) (fun k => yP [(1, .box 1 0), (37, .c (.sl 1 (t.PerClass.map yac))), (38, .c (.i t.PerClass.length)), (39, .c (.i k))] [(1, .box (t.enc.map .c))]) (fun k => t.PerClass.length - k) 0 (by simp) (by apply yj <;> simp [AV.yc, AV.yA, Obj.yc]) ?_
  rintro k ⟨hk, hall⟩
  rcases Nat.lt_or_ge k t.PerClass.length with hlt | hge
  ·obtain ⟨e, he⟩ : ∃ e, t.PerClass[k]? = some e := ⟨_, List.getElem?_eq_getElem hlt⟩
   simp -dsimp -implicitDefEqProofs [he, yI hlt]
   refine yg (yE e 0 10000) (by simp) rfl ?_
   simp -dsimp -implicitDefEqProofs
   refine ⟨fun h1 => by simp [ya1, all_false (p := fun n => inRange n 0 10000) he h1], fun h1 => ?_⟩
   exact ⟨yu hlt hc, k + 1, ⟨by omega, yL (p := fun n => inRange n 0 10000) he hall h1⟩, by omega, by apply yj <;> simp [AV.yc, AV.yA, Obj.yc]⟩
  ·have h7 := yQ (p := fun n => inRange n 0 10000) hge hall
   simp -dsimp -implicitDefEqProofs [yah hge]
   intro _
   refine yh (ι := Nat) (fun k => k ≤ t.Weights.length ∧ ∀ n ∈ t.Weights.take k, inRange n 0 1000 = true) (fun k => yP [(5, .c (.i (t.Weights.take k).sum)), (48, .c (.sl 1 (t.Weights.map yac))), (49, .c (.i t.Weights.length)), (50, .c (.i k))] []) (fun k => t.Weights.length - k) 0 (by simp) (by apply yj <;> simp [AV.yc, AV.yA, Obj.yc]) ?_
   rintro k ⟨hk, hall⟩
   rcases Nat.lt_or_ge k t.Weights.length with hlt | hge
   ·obtain ⟨e, he⟩ : ∃ e, t.Weights[k]? = some e := ⟨_, List.getElem?_eq_getElem hlt⟩
    simp -dsimp -implicitDefEqProofs [he, yI hlt]
    refine yg (yE e 0 1000) (by simp) rfl ?_
    simp -dsimp -implicitDefEqProofs [he, yI hlt]
    refine ⟨fun h1 => by simp [ya1, all_false (p := fun n => inRange n 0 1000) he h1], fun h1 => ?_⟩
    have hs := ym8 hall
    have hx := yR.1 h1
    have hl : (t.Weights.take k).length ≤ 11 := by simp; omega
    exact ⟨by unfold inI; omega, yu hlt hw, k + 1, ⟨by omega, yL (p := fun n => inRange n 0 1000) he hall h1⟩, by omega, by apply yj <;> simp [AV.yc, AV.yA, Obj.yc, yrD he]⟩
   ·have h8 := yQ (p := fun n => inRange n 0 1000) hge hall
    simp -dsimp -implicitDefEqProofs [yah hge]
    rw [List.take_of_length_le hge]
    simp [ya1, h1, h2, h3', h6, h7, h8]
 ·have : inRange t.Weights.length 1 11 = false := yco.2 (by omega)
  simp [ya1, this]
 ·have : ¬ t.PerClass.length = 3 := by omega
  simp [ya1, this]
theorem yuJ (t : Tariff) : yF Tryz.prog ygq [.agg (t.enc.map .c)] (.c (.b (ya1 t))) := by
 refine yt yri (by simp) fun hwf => ?_
 simp -dsimp -implicitDefEqProofs [yk3]
 refine yg (yC t.Base 0 10000) (by simp) rfl ?_
 simp -dsimp -implicitDefEqProofs
 refine ⟨fun h1 => ?_, fun h1 => by simp [ya1, h1]⟩
 refine yg (yC t.PerArea 0 100) (by simp) rfl ?_
 simp -dsimp -implicitDefEqProofs
 refine ⟨fun h2 => ?_, fun h2 => by simp [ya1, h2]⟩
 intro hc
 refine ⟨fun h3 hw => ?_, fun h3 => ?_⟩
 ·have h3' : t.PerClass.length = 3 := by omega
  refine yg (yC t.Weights.length 1 11) (by simp) rfl ?_
  simp -dsimp -implicitDefEqProofs
  refine ⟨fun h6 => ?_, fun h6 => ?_⟩
  ·simp [ya1, h6]
  have h6' := yR.1 h6
  refine yh (ι := Nat) (fun k => k ≤ t.PerClass.length ∧ ∀ n ∈ t.PerClass.take k, inRange n 0 10000 = true) (fun k => yP [(1, .box 1 0), (3, .c (.i k))] [(1, .box (t.enc.map .c))]) (fun k => t.PerClass.length - k) 0 (by simp) (by apply yj <;> simp [AV.yc, AV.yA, Obj.yc]) ?_
  rintro k ⟨hk, hall⟩
  rcases Nat.lt_or_ge k t.PerClass.length with hlt | hge
  ·obtain ⟨e, he⟩ : ∃ e, t.PerClass[k]? = some e := ⟨_, List.getElem?_eq_getElem hlt⟩
   have hlt3 : ((k : Int) < 3) = True := by simp; omega
   simp -dsimp -implicitDefEqProofs [he, hlt3, yI hlt]
   refine yg (yC e 0 10000) (by simp) rfl ?_
   simp -dsimp -implicitDefEqProofs
   refine ⟨fun h1 => by simp [ya1, all_false (p := fun n => inRange n 0 10000) he h1], fun h1 => ?_⟩
   exact ⟨yu hlt hc, k + 1, ⟨by omega, yL (p := fun n => inRange n 0 10000) he hall h1⟩, by omega, by apply yj <;> simp [AV.yc, AV.yA, Obj.yc]⟩
  ·have h7 := yQ (p := fun n => inRange n 0 10000) hge hall
   have hge3 : ((k : Int) < 3) = False := by simp; omega
   simp -dsimp -implicitDefEqProofs [hge3]
   refine yh (ι := Nat) (fun k => k ≤ t.Weights.length ∧ ∀ n ∈ t.Weights.take k, inRange n 0 1000 = true) (fun k => yP [(1, .box 1 0), (4, .c (.i (t.Weights.take k).sum)), (5, .c (.i k))] [(1, .box (t.enc.map .c))]) (fun k => t.Weights.length - k) 0 (by simp) (by apply yj <;> simp [AV.yc, AV.yA, Obj.yc]) ?_
   rintro k ⟨hk, hall⟩
   rcases Nat.lt_or_ge k t.Weights.length with hlt | hge
   ·obtain ⟨e, he⟩ : ∃ e, t.Weights[k]? = some e := ⟨_, List.getElem?_eq_getElem hlt⟩
    simp -dsimp -implicitDefEqProofs [he, yI hlt]
    intro _
    refine yg (yC e 0 1000) (by simp) rfl ?_
    simp -dsimp -implicitDefEqProofs [he, yI hlt]
    refine ⟨fun h1 => by simp [ya1, all_false (p := fun n => inRange n 0 1000) he h1], fun h1 => ?_⟩
    have hs := ym8 hall
    have hx := yR.1 h1
    have hl : (t.Weights.take k).length ≤ 11 := by simp; omega
    exact ⟨by unfold inI; omega, yu hlt hw, k + 1, ⟨by omega, yL (p := fun n => inRange n 0 1000) he hall h1⟩, by omega, by apply yj <;> simp [AV.yc, AV.yA, Obj.yc, yrD he]⟩
   ·have h8 := yQ (p := fun n => inRange n 0 1000) hge hall
    simp -dsimp -implicitDefEqProofs [yah hge]
    rw [List.take_of_length_le hge]
    simp [ya1, h1, h2, h3', h6, h7, h8]
 ·have : ¬ t.PerClass.length = 3 := by omega
  simp [ya1, this]
def marked (mk : Int → List C) (c : Int) (rows : List (List C)) (k : Int) (i : Nat) : List (List C) := (List.range i).map (fun (j : Nat) => mk (k + c * j)) ++ rows.drop i
theorem yd8 {mk : Int → List C} {c : Int} {rows : List (List C)} {k : Int} : marked mk c rows k 0 = rows := by simp [marked]
theorem yfo {mk : Int → List C} {c : Int} {rows : List (List C)} {k : Int} {i : Nat} (h : i ≤ rows.length) : (marked mk c rows k i).length = rows.length := by simp [marked]; omega
theorem yfC {mk : Int → List C} {c : Int} {rows : List (List C)} {k : Int} {i : Nat} (h : i = rows.length) : marked mk c rows k i = marked mk c [] k rows.length := by subst h; simp [marked]
theorem yfn {mk : Int → List C} {c : Int} {rows : List (List C)} {k : Int} {i : Nat} {r : List C} (h : rows[i]? = some r) : (marked mk c rows k i)[i]? = some r := by
 unfold marked
 rw [List.getElem?_append_right (by simp)]
 simpa using h
theorem yfD {mk : Int → List C} {c : Int} {rows : List (List C)} {k : Int} {i : Nat} (h : i < rows.length) : (marked mk c rows k i).set i (mk (k + c * i)) = marked mk c rows k (i + 1) := by
 unfold marked
 rw [List.set_append_right _ _ (by simp), List.length_map, List.length_range, Nat.sub_self, List.drop_eq_getElem_cons h, List.set_cons_zero, List.range_succ, List.map_append, List.append_assoc]
 rfl
theorem yBb {mk : Int → List C} {c : Int} {k : Int} {n i : Nat} (h : i < n) : (marked mk c [] k n)[i]? = some (mk (k + c * i)) := by
 unfold marked
 simp [h]
theorem yZ {mk : Int → List C} {c : Int} {k : Int} {n : Nat} : (marked mk c [] k n).length = n := by simp [marked]
theorem yd3 {mk : Int → List C} {c : Int} {k : Int} {n : Nat} : (marked mk c [] k n).take n = marked mk c [] k n := List.take_of_length_le (by rw [yZ]; exact Nat.le_refl _)
theorem ypt (es : List Int) (hl : es.length ≤ 1048576) : ycE Tryz.prog ybZ [.c (.sl 1 (es.map yac))] (.c (.ow 1 (es.map yac))) := by
 refine ybb ynC (by simp) fun hwf => ?_
 simp -dsimp -implicitDefEqProofs [yiW]
 intro hlen
 refine ⟨by omega, ?_⟩
 refine yh (ι := Nat) (fun k => k ≤ es.length) (fun k => yP [(0, .c (.sl 1 (es.map yac))), (3, .own 7 1 es.length), (4, .c (.i k))] [(7, .row 1 (partly yac [.i 0] es k))]) (fun k => es.length - k) 0 (by simp) (by apply yj <;> simp [AV.yc, AV.yA, Obj.yc, yX]) ?_
 rintro k hk
 rcases Nat.lt_or_ge k es.length with hlt | hge
 ·obtain ⟨e, he⟩ : ∃ e, es[k]? = some e := ⟨_, List.getElem?_eq_getElem hlt⟩
  have hs := yae (f := yac) (z := [.i 0]) he
  have hd : ((partly yac [.i 0] es k)[k]?.getD []).set 0 (.i e) = [.i e] := by
   have := yfk (f := yac) (z := [.i 0]) (n := 1) rfl (fun _ => rfl) hlt
   obtain ⟨x, hx⟩ := List.length_eq_one_iff.1 this
   rw [hx]; rfl
  simp -dsimp -implicitDefEqProofs [he, yI hlt]
  intro _
  rw [hd, show (partly yac [.i 0] es k).set k [.i e] = partly yac [.i 0] es (k + 1) from hs]
  exact ⟨by rw [yaf hk]; exact hlt, yu hlt hlen, k + 1, hlt, by omega, by apply yj <;> simp [AV.yc, AV.yA, Obj.yc]⟩
 ·simp -dsimp -implicitDefEqProofs [yah hge]
  intro _
  rw [yad hge, List.take_of_length_le (by simp)]
theorem yb1 (xs : List Int) (k : Int) (h0 : 0 ≤ k) (h1 : k + xs.length ≤ 8000000000000000000) :
 InF Tryz.prog ybM (.c (cw 1 (xs.map yac))) (.c (cw 1 (marked yac 1 [] k xs.length))) [.c (.i k)] (.c (.i (k + xs.length))) := by
 rcases Nat.eq_zero_or_pos xs.length with hx | hx
 ·have : xs = [] := List.length_eq_zero_iff.1 hx
  subst this
  refine ybq yk7 (by simp) (by simp) rfl fun hwf => ?_
  simp -dsimp -implicitDefEqProofs [ygt, marked]
  refine yh (ι := Unit) (fun _ => True) (fun _ => yP [(0, .c (.sl 1 [])), (1, .c (.i k)), (5, .c (.i 0)), (1000000, .c (.sl 1 []))] []) (fun _ => 0) () trivial (by apply yj <;> simp [AV.yc, AV.yA, Obj.yc]) ?_
  rintro _ _
  simp -dsimp -implicitDefEqProofs
 ·rw [ybx (by simpa using hx), ybx (by rw [yZ]; exact hx)]
  refine ybq yk7 (by simp) (by simp) rfl fun hwf => ?_
  simp -dsimp -implicitDefEqProofs [ygt]
  refine yh (ι := Nat) (fun i => i ≤ xs.length) (fun i => yP [(0, .own 0 1 xs.length), (1, .c (.i (k + i))), (5, .c (.i i)), (1000000, .own 0 1 xs.length)] [(0, .row 1 (marked yac 1 (xs.map yac) k i))]) (fun i => xs.length - i) 0 (by simp) (by apply yj <;> simp [AV.yc, AV.yA, Obj.yc, yd8]) ?_
  rintro i hi
  rcases Nat.lt_or_ge i xs.length with hlt | hge
  ·obtain ⟨e, he⟩ : ∃ e, xs[i]? = some e := ⟨_, List.getElem?_eq_getElem hlt⟩
   have hg := yfn (mk := yac) (c := 1) (k := k) (rows := xs.map yac) (i := i) (r := [.i e]) (by simp [he])
   have hl := yfo (mk := yac) (c := 1) (k := k) (rows := xs.map yac) (i := i) (by simpa using hi)
   have hs := yfD (mk := yac) (c := 1) (k := k) (rows := xs.map yac) (i := i) (by simpa using hlt)
   rw [List.length_map] at hl
   simp only [Int.one_mul, yac] at hs
   simp -dsimp -implicitDefEqProofs [yI hlt, hg, hl]
   intro hlen
   refine ⟨hlt, by unfold inI; omega, by unfold inI; omega, i + 1, hlt, by omega, ?_⟩
   apply yj <;> simp [AV.yc, AV.yA, Obj.yc, hs] <;> omega
  ·have : i = xs.length := by omega
   subst this
   simp -dsimp -implicitDefEqProofs
   intro _
   have e := yfC (mk := yac) (c := 1) (rows := xs.map yac) (k := k) (i := xs.length) (by simp)
   rw [e, List.length_map, List.take_of_length_le (by rw [yZ]; exact Nat.le_refl _)]
def ybd (a : Int) (f : Int → Int) : Int := if a < 0 then -1 else f a
def yan {α : Type} (f : α → Int → Int) : List α → Int → Int
 | [], l => l
 | x :: xs, l => ybd (f x l) (yan f xs)
def yeY {α : Type} (f : α → Int → Int) (xs : List α) (l : Int) : Int := ybd (szS xs.length l) (yan f xs)
def yeU {α : Type} (f : α → Int → Int) (sm : α → Prop) : Prop := ∀ x l, 0 ≤ l → l ≤ 1048576 → f x l = -1 ∨ (0 ≤ f x l ∧ f x l ≤ l ∧ sm x)
def ycr {α : Type} (sm : α → Prop) (xs : List α) : Prop := xs.length ≤ 1048576 ∧ ∀ x ∈ xs, sm x
theorem yM {a : Int} {f : Int → Int} (h : a < 0) : ybd a f = -1 := by simp [ybd, h]
theorem yw {a : Int} {f : Int → Int} (h : 0 ≤ a) : ybd a f = f a := by simp [ybd, Int.not_lt.2 h]
theorem yj1 {α : Type} : yeU (fun (xs : List α) l => szS xs.length l) (ycr fun _ : α => True) := by
 intro xs l h0 h1
 simp only [szS]
 unfold ycr
 split
 ·exact .inl rfl
 ·exact .inr ⟨by omega, by omega, by omega, fun _ _ => trivial⟩
theorem yCP {α : Type} {f : α → Int → Int} {sm : α → Prop} (h : yeU f sm) {x : α} {l : Int} (h0 : 0 ≤ l) (h1 : l ≤ 1048576) (hp : 0 ≤ f x l) : sm x := by
 rcases h x l h0 h1 with e | ⟨_, _, e⟩
 ·omega
 ·exact e
theorem yll {α : Type} {f : α → Int → Int} {sm : α → Prop} (h : yeU f sm) (x : α) {l : Int} (h0 : 0 ≤ l) (h1 : l ≤ 1048576) (hp : 0 ≤ f x l) : f x l ≤ 1048576 := by
 rcases h x l h0 h1 with e | ⟨_, e, _⟩
 ·omega
 ·omega
theorem yvm {α : Type} {f : α → Int → Int} {sm : α → Prop} (h : yeU f sm) : ∀ (xs : List α) (l : Int), 0 ≤ l → l ≤ 1048576 → yan f xs l = -1 ∨ (0 ≤ yan f xs l ∧ yan f xs l ≤ l ∧ ∀ x ∈ xs, sm x)
 | [], l, h0, h1 => .inr ⟨h0, Int.le_refl _, by simp⟩
 | x :: xs, l, h0, h1 => by
  simp only [yan]
  rcases h x l h0 h1 with e | ⟨e1, e2, e3⟩
  ·exact .inl (yM (by omega))
  ·rw [yw e1]
   rcases yvm h xs (f x l) e1 (by omega) with e | ⟨e4, e5, e6⟩
   ·exact .inl e
   ·exact .inr ⟨e4, by omega, by simp; exact ⟨e3, e6⟩⟩
theorem yiu {α : Type} {f : α → Int → Int} {sm : α → Prop} (h : yeU f sm) : yeU (yeY f) (ycr sm) := by
 intro xs l h0 h1
 unfold yeY
 rcases yj1 xs l h0 h1 with e | ⟨e1, e2, e3⟩
 ·exact .inl (yM (by simp only at e; omega))
 ·simp only at e1 e2
  rw [yw e1]
  rcases yvm h xs _ e1 (by omega) with e | ⟨e4, e5, e6⟩
  ·exact .inl e
  ·exact .inr ⟨e4, by omega, e3.1, e6⟩
structure Boat where
 Id : Int
 Length : Int
 Width : Int
 Draught : Int
 Speed : Int
 Class : Int
 deriving DecidableEq, Inhabited
@[simp] def Boat.enc (e : Boat) : List C := [.i e.Id, .i e.Length, .i e.Width, .i e.Draught, .i e.Speed, .i e.Class]
-- Boat
theorem yyq (e : Boat) : yF Tryz.prog yi7 [.agg (e.enc.map .c)] (.agg (e.enc.map .c)) := by
 refine yt yum (by simp) fun hwf => ?_
 simp -dsimp -implicitDefEqProofs [ynA]
theorem yBH (a b : Boat) : yF Tryz.prog yiY [.agg (a.enc.map .c), .agg (b.enc.map .c)] (.c (.b (decide (a = b)))) := by
 refine yt yul (by simp) fun hwf => ?_
 obtain ⟨a0, a1, a2, a3, a4, a5⟩ := a
 obtain ⟨b0, b1, b2, b3, b4, b5⟩ := b
 simp -dsimp -implicitDefEqProofs [yoj, Boat.mk.injEq]
 refine ⟨fun h => by simp_all, fun h0 => ?_⟩
 refine ⟨fun h => by simp_all, fun h1 => ?_⟩
 refine ⟨fun h => by simp_all, fun h2 => ?_⟩
 refine ⟨fun h => by simp_all, fun h3 => ?_⟩
 refine ⟨fun h => by simp_all, fun h4 => ?_⟩
 refine ⟨fun h => by simp_all, fun h5 => ?_⟩
 simp_all
-- []Boat
def yeB (xs : List Boat) (l : Int) : Int := szS xs.length l
def yh7 : List Boat → Prop := ycr fun _ => True
theorem yqp : yeU yeB yh7 := yj1
theorem yyD (xs : List Boat) (l : Int) (h0 : 0 ≤ l) (h1 : l ≤ 1048576) : yF Tryz.prog yhg [.c (.sl 6 (xs.map Boat.enc)), .c (.i l)] (.c (.i (yeB xs l))) := by
 refine yt ysz (by simp) fun hwf => ?_
 simp -dsimp -implicitDefEqProofs [yl6, yeB, szS]
 intro hl
 unfold maxLen at hl
 refine ⟨by unfold inI; omega, fun h => ?_, fun h => ?_⟩ <;> intros <;> omega
theorem yBj (xs : List Boat) (hl : yh7 xs) : yF Tryz.prog yeX [.c (.sl 6 (xs.map Boat.enc))] (.c (.sl 6 (xs.map Boat.enc))) := by
 refine yt ymE (by simp) fun hwf => ?_
 simp -dsimp -implicitDefEqProofs [yhw]
 intro hlen
 have hl1 := hl.1
 refine ⟨by omega, ?_⟩
 refine yh (ι := Nat) (fun k => k ≤ xs.length) (fun k => yP [(0, .c (.sl 6 (xs.map Boat.enc))), (3, .own 7 6 xs.length), (4, .c (.i k))] [(7, .row 6 (partly Boat.enc [.i 0, .i 0, .i 0, .i 0, .i 0, .i 0] xs k))]) (fun k => xs.length - k) 0 (by simp) (by apply yj <;> simp [AV.yc, AV.yA, Obj.yc, yX]) ?_
 rintro k hk
 rcases Nat.lt_or_ge k xs.length with hlt | hge
 ·obtain ⟨e, he⟩ : ∃ e, xs[k]? = some e := ⟨_, List.getElem?_eq_getElem hlt⟩
  have hs := yae (f := Boat.enc) (z := [.i 0, .i 0, .i 0, .i 0, .i 0, .i 0]) he
  have hd := yam (f := Boat.enc) (z := [.i 0, .i 0, .i 0, .i 0, .i 0, .i 0]) (n := 6) rfl hlt
  simp only [Boat.enc] at hs
  simp -dsimp -implicitDefEqProofs [he, yI hlt]
  refine fun _ => yJ (yyq e ) (by simp) rfl ?_
  simp -dsimp -implicitDefEqProofs [yI hlt, yaf hk, hd, hs]
  exact ⟨hlt, yu hlt hlen, k + 1, hlt, by omega, by apply yj <;> simp [AV.yc, AV.yA, Obj.yc]⟩
 ·simp -dsimp -implicitDefEqProofs [yah hge]
  intro _
  rw [yad hge, List.take_of_length_le (by simp)]
theorem yA2 (es fs : List Boat) : yF Tryz.prog yha [.c (.sl 6 (es.map Boat.enc)), .c (.sl 6 (fs.map Boat.enc))] (.c (.b (decide (es = fs)))) := by
 refine yt ytI (by simp) fun hwf => ?_
 simp -dsimp -implicitDefEqProofs [ylF]
 intro hl1 hl2
 refine ⟨fun h e => h (by rw [e]), fun hlen => ?_⟩
 have hlen' : es.length = fs.length := by omega
 refine yh (ι := Nat) (fun k => k ≤ es.length ∧ es.take k = fs.take k) (fun k => yP [(0, .c (.sl 6 (es.map Boat.enc))), (1, .c (.sl 6 (fs.map Boat.enc))), (5, .c (.i k))] []) (fun k => es.length - k) 0 (by simp) (by apply yj <;> simp [AV.yc, AV.yA, Obj.yc]) ?_
 rintro k ⟨hk, htk⟩
 rcases Nat.lt_or_ge k es.length with hlt | hge
 ·obtain ⟨e, he⟩ : ∃ e, es[k]? = some e := ⟨_, List.getElem?_eq_getElem hlt⟩
  obtain ⟨f, hf⟩ : ∃ f, fs[k]? = some f := ⟨_, List.getElem?_eq_getElem (by omega)⟩
  simp -dsimp -implicitDefEqProofs [he, hf, yI hlt, yI (hlen' ▸ hlt)]
  intro _
  refine ⟨_, _, yBH e f, by simp, .inr rfl, ?_⟩
  simp -dsimp -implicitDefEqProofs
  refine ⟨fun h => ybl he hf h, fun h => ⟨yu hlt hl1, k + 1, ⟨hlt, yaI he hf htk h⟩, by omega, by apply yj <;> simp [AV.yc, AV.yA, Obj.yc]⟩⟩
 ·simp -dsimp -implicitDefEqProofs [yah hge]
  intro _
  exact ya5 hge hlen' htk
abbrev yV (xs : List Boat) : List C := [.sl 6 (xs.map Boat.enc)]
-- [][]Boat
def yec : List (List Boat) → Int → Int := yeY yeB
def yeI : List (List Boat) → Prop := ycr yh7
theorem yvK : yeU yec yeI := yiu yqp
theorem yw7 (xs : List (List Boat)) (l : Int) (h0 : 0 ≤ l) (h1 : l ≤ 1048576) : yF Tryz.prog ygo [.c (.sl 1 (xs.map yV)), .c (.i l)] (.c (.i (yec xs l))) := by
 refine yt yq7 (by simp) fun hwf => ?_
 simp -dsimp -implicitDefEqProofs [yk1]
 intro hl
 have hs : szS xs.length l = if l - xs.length < 0 then -1 else l - xs.length := rfl
 refine ⟨by unfold maxLen at hl; unfold inI; omega, fun h => ?_, fun h => ?_⟩
 ·simp [yec, yeY, ybd, hs, h]
 have h' : 0 ≤ l - xs.length := by omega
 have e0 : yec xs l = yan yeB xs (l - xs.length) := by
  have : szS xs.length l = l - xs.length := by rw [hs, if_neg (by omega)]
  simp only [yec, yeY]
  rw [this, yw h']
 refine yh (ι := Nat × Int) (fun p => p.1 ≤ xs.length ∧ 0 ≤ p.2 ∧ p.2 ≤ 1048576 ∧ yan yeB (xs.drop p.1) p.2 = yec xs l) (fun p => yP [(0, .c (.sl 1 (xs.map yV))), (1, .c (.i p.2)), (5, .c (.i p.1))] []) (fun p => xs.length - p.1) (0, l - xs.length) ⟨by simp, h', by simp only; omega, by simp [e0]⟩ (by apply yj <;> simp [AV.yc, AV.yA, Obj.yc]) ?_
 rintro ⟨k, q⟩ ⟨hk, hq0, hq1, hf⟩
 simp only at hk hq0 hq1 hf
 rcases Nat.lt_or_ge k xs.length with hlt | hge
 ·obtain ⟨e, he⟩ : ∃ e, xs[k]? = some e := ⟨_, List.getElem?_eq_getElem hlt⟩
  have hd : xs.drop k = e :: xs.drop (k + 1) := by
   rw [List.drop_eq_getElem_cons hlt, (List.getElem?_eq_some_iff.1 he).2]
  rw [hd, yan] at hf
  simp -dsimp -implicitDefEqProofs [he, yI hlt]
  refine fun _ => yg (yyD e q hq0 hq1) (by simp) rfl ?_
  simp -dsimp -implicitDefEqProofs
  refine ⟨fun h => by rw [← hf, yM h], fun h => ⟨yu hlt hl, k + 1, ⟨yeB e q, ?_⟩⟩⟩
  rw [yw h] at hf
  have hle : yeB e q ≤ 1048576 := by
   rcases yqp e q hq0 hq1 with e1 | e1
   ·omega
   ·omega
  exact ⟨⟨hlt, h, hle, hf⟩, by omega, by apply yj <;> simp [AV.yc, AV.yA, Obj.yc]⟩
 ·simp -dsimp -implicitDefEqProofs [yah hge]
  rw [List.drop_of_length_le hge] at hf
  intro _
  first | simpa [yan] using hf | simpa [yan] using hf.symm
theorem yyF (xs : List (List Boat)) (hl : yeI xs) : yF Tryz.prog ydt [.c (.sl 1 (xs.map yV))] (.c (.sl 1 (xs.map yV))) := by
 refine yt ylu (by simp) fun hwf => ?_
 simp -dsimp -implicitDefEqProofs [ygA]
 intro hlen
 have hl1 := hl.1
 refine ⟨by omega, ?_⟩
 refine yh (ι := Nat) (fun k => k ≤ xs.length) (fun k => yP [(0, .c (.sl 1 (xs.map yV))), (3, .own 7 1 xs.length), (4, .c (.i k))] [(7, .row 1 (partly yV [.sl 6 []] xs k))]) (fun k => xs.length - k) 0 (by simp) (by apply yj <;> simp [AV.yc, AV.yA, Obj.yc, yX]) ?_
 rintro k hk
 rcases Nat.lt_or_ge k xs.length with hlt | hge
 ·obtain ⟨e, he⟩ : ∃ e, xs[k]? = some e := ⟨_, List.getElem?_eq_getElem hlt⟩
  have hs := yae (f := yV) (z := [.sl 6 []]) he
  have hd : ((partly yV [.sl 6 []] xs k)[k]?.getD []).set 0 (.sl 6 (e.map Boat.enc)) = [.sl 6 (e.map Boat.enc)] := by
   have := yfk (f := yV) (z := [.sl 6 []]) (n := 1) rfl (fun _ => rfl) hlt
   obtain ⟨x, hx⟩ := List.length_eq_one_iff.1 this
   rw [hx]; rfl
  have hs2 : (partly yV [.sl 6 []] xs k).set k [.sl 6 (e.map Boat.enc)] = partly yV [.sl 6 []] xs (k + 1) := hs
  simp -dsimp -implicitDefEqProofs [he, yI hlt]
  refine fun _ => yJ (yBj e (hl.2 e (List.mem_of_getElem? he))) (by simp) rfl ?_
  simp -dsimp -implicitDefEqProofs [yI hlt, yaf hk, hd, hs2]
  exact ⟨hlt, yu hlt hlen, k + 1, hlt, by omega, by apply yj <;> simp [AV.yc, AV.yA, Obj.yc]⟩
 ·simp -dsimp -implicitDefEqProofs [yah hge]
  intro _
  rw [yad hge, List.take_of_length_le (by simp)]
theorem yyG (es fs : List (List Boat)) : yF Tryz.prog ygv [.c (.sl 1 (es.map yV)), .c (.sl 1 (fs.map yV))] (.c (.b (decide (es = fs)))) := by
 refine yt yq1 (by simp) fun hwf => ?_
 simp -dsimp -implicitDefEqProofs [yk4]
 intro hl1 hl2
 refine ⟨fun h e => h (by rw [e]), fun hlen => ?_⟩
 have hlen' : es.length = fs.length := by omega
 refine yh (ι := Nat) (fun k => k ≤ es.length ∧ es.take k = fs.take k) (fun k => yP [(0, .c (.sl 1 (es.map yV))), (1, .c (.sl 1 (fs.map yV))), (5, .c (.i k))] []) (fun k => es.length - k) 0 (by simp) (by apply yj <;> simp [AV.yc, AV.yA, Obj.yc]) ?_
 rintro k ⟨hk, htk⟩
 rcases Nat.lt_or_ge k es.length with hlt | hge
 ·obtain ⟨e, he⟩ : ∃ e, es[k]? = some e := ⟨_, List.getElem?_eq_getElem hlt⟩
  obtain ⟨f, hf⟩ : ∃ f, fs[k]? = some f := ⟨_, List.getElem?_eq_getElem (by omega)⟩
  simp -dsimp -implicitDefEqProofs [he, hf, yI hlt, yI (hlen' ▸ hlt)]
  intro _
  refine ⟨_, _, yA2 e f, by simp, .inr rfl, ?_⟩
  simp -dsimp -implicitDefEqProofs
  refine ⟨fun h => ybl he hf h, fun h => ⟨yu hlt hl1, k + 1, ⟨hlt, yaI he hf htk h⟩, by omega, by apply yj <;> simp [AV.yc, AV.yA, Obj.yc]⟩⟩
 ·simp -dsimp -implicitDefEqProofs [yah hge]
  intro _
  exact ya5 hge hlen' htk
structure Train where
 Up : Bool
 Rows : List (List Boat)
 deriving DecidableEq, Inhabited
@[simp] def Train.enc (e : Train) : List C := [.b e.Up, .sl 1 (e.Rows.map yV)]
-- Train
def ybC (e : Train) (l : Int) : Int := ybd (yec e.Rows l) fun l => l
def Train.small (e : Train) : Prop := yeI e.Rows
theorem yfO : yeU ybC Train.small := by
 intro e l h0 h1
 unfold ybC
 rcases yvK e.Rows _ h0 h1 with e0 | ⟨a0, b0, s0⟩
 ·exact .inl (yM (by omega))
 rw [yw a0]
 exact .inr ⟨a0, by omega, s0⟩
theorem ykj (e : Train) (l : Int) (h0 : 0 ≤ l) (h1 : l ≤ 1048576) : yF Tryz.prog ycg [.agg (e.enc.map .c), .c (.i l)] (.c (.i (ybC e l))) := by
 refine yt yrz (by simp) fun hwf => ?_
 simp -dsimp -implicitDefEqProofs [ylV]
 refine yg (yw7 e.Rows _ h0 h1) (by simp) rfl ?_
 simp -dsimp -implicitDefEqProofs
 refine ⟨fun h => by simp [ybC, yM h], fun p0 => ?_⟩
 simp [ybC, yw p0]
theorem ynp (e : Train) (hl : Train.small e) : yF Tryz.prog ybE [.agg (e.enc.map .c)] (.agg (e.enc.map .c)) := by
 refine yt yma (by simp) fun hwf => ?_
 simp -dsimp -implicitDefEqProofs [yhC]
 refine yJ (yyF e.Rows hl) (by simp) rfl ?_
 simp -dsimp -implicitDefEqProofs
theorem ym9 (a b : Train) : yF Tryz.prog ych [.agg (a.enc.map .c), .agg (b.enc.map .c)] (.c (.b (decide (a = b)))) := by
 refine yt ysU (by simp) fun hwf => ?_
 obtain ⟨a0, a1⟩ := a
 obtain ⟨b0, b1⟩ := b
 simp -dsimp -implicitDefEqProofs [ymF, Train.mk.injEq]
 refine ⟨fun h => by simp_all, fun h0 => ?_⟩
 refine yg (yyG a1 b1) (by simp) rfl ?_
 simp -dsimp -implicitDefEqProofs
 refine ⟨fun h => by simp_all, fun h1 => ?_⟩
 simp_all
structure Mover where
 Train : Train
 Place : Int
 deriving DecidableEq, Inhabited
@[simp] def Mover.enc (e : Mover) : List C := [.b e.Train.Up, .sl 1 (e.Train.Rows.map yV), .i e.Place]
-- Mover
def ycx (e : Mover) (l : Int) : Int := ybd (ybC e.Train l) fun l => l
def Mover.small (e : Mover) : Prop := e.Train.small
theorem yqr : yeU ycx Mover.small := by
 intro e l h0 h1
 unfold ycx
 rcases yfO e.Train _ h0 h1 with e0 | ⟨a0, b0, s0⟩
 ·exact .inl (yM (by omega))
 rw [yw a0]
 exact .inr ⟨a0, by omega, s0⟩
theorem yyQ (e : Mover) (l : Int) (h0 : 0 ≤ l) (h1 : l ≤ 1048576) : yF Tryz.prog yhH [.agg (e.enc.map .c), .c (.i l)] (.c (.i (ycx e l))) := by
 refine yt yso (by simp) fun hwf => ?_
 simp -dsimp -implicitDefEqProofs [ylC]
 refine yg (ykj e.Train _ h0 h1) (by simp) rfl ?_
 simp -dsimp -implicitDefEqProofs
 refine ⟨fun h => by simp [ycx, yM h], fun p0 => ?_⟩
 simp [ycx, yw p0]
theorem yAo (e : Mover) (hl : Mover.small e) : yF Tryz.prog yeR [.agg (e.enc.map .c)] (.agg (e.enc.map .c)) := by
 refine yt yl5 (by simp) fun hwf => ?_
 simp -dsimp -implicitDefEqProofs [yhU]
 refine yJ (ynp e.Train hl) (by simp) rfl ?_
 simp -dsimp -implicitDefEqProofs
theorem yAL (a b : Mover) : yF Tryz.prog yg7 [.agg (a.enc.map .c), .agg (b.enc.map .c)] (.c (.b (decide (a = b)))) := by
 refine yt ysg (by simp) fun hwf => ?_
 obtain ⟨a0, a1⟩ := a
 obtain ⟨b0, b1⟩ := b
 simp -dsimp -implicitDefEqProofs [yl4, Mover.mk.injEq]
 refine yg (ym9 a0 b0) (by simp) rfl ?_
 simp -dsimp -implicitDefEqProofs
 refine ⟨fun h => by simp_all, fun h0 => ?_⟩
 refine ⟨fun h => by simp_all, fun h1 => ?_⟩
 simp_all
theorem yAY (xs : List Boat) (hl : yh7 xs) : ycE Tryz.prog yeX [.c (.sl 6 (xs.map Boat.enc))] (.c (.ow 6 (xs.map Boat.enc))) := by
 refine ybb ymE (by simp) fun hwf => ?_
 simp -dsimp -implicitDefEqProofs [yhw]
 intro hlen
 have hl1 := hl.1
 refine ⟨by omega, ?_⟩
 refine yh (ι := Nat) (fun k => k ≤ xs.length) (fun k => yP [(0, .c (.sl 6 (xs.map Boat.enc))), (3, .own 7 6 xs.length), (4, .c (.i k))] [(7, .row 6 (partly Boat.enc [.i 0, .i 0, .i 0, .i 0, .i 0, .i 0] xs k))]) (fun k => xs.length - k) 0 (by simp) (by apply yj <;> simp [AV.yc, AV.yA, Obj.yc, yX]) ?_
 rintro k hk
 rcases Nat.lt_or_ge k xs.length with hlt | hge
 ·obtain ⟨e, he⟩ : ∃ e, xs[k]? = some e := ⟨_, List.getElem?_eq_getElem hlt⟩
  have hs := yae (f := Boat.enc) (z := [.i 0, .i 0, .i 0, .i 0, .i 0, .i 0]) he
  have hd := yam (f := Boat.enc) (z := [.i 0, .i 0, .i 0, .i 0, .i 0, .i 0]) (n := 6) rfl hlt
  simp only [Boat.enc] at hs
  simp -dsimp -implicitDefEqProofs [he, yI hlt]
  refine fun _ => yJ (yyq e ) (by simp) rfl ?_
  simp -dsimp -implicitDefEqProofs [yI hlt, yaf hk, hd, hs]
  exact ⟨hlt, yu hlt hlen, k + 1, hlt, by omega, by apply yj <;> simp [AV.yc, AV.yA, Obj.yc]⟩
 ·simp -dsimp -implicitDefEqProofs [yah hge]
  intro _
  rw [yad hge, List.take_of_length_le (by simp)]
theorem yak {α : Type} {f g : α → List C} (h : ∀ x, ybV (f x) = some (g x)) : ∀ (l : List α), yoJ (l.map f) = some (l.map g)
 | [] => rfl
 | x :: l => by simp [yoJ, h x, yak h l]
theorem yc6 {α : Type} {f g : α → List C} {k : Nat} (h : ∀ x, ybV (f x) = some (g x)) (l : List α) : (C.ot k (l.map f)).shr = some (.sl k (l.map g)) := by simp [C.shr, yak h l]
def yS (xs : List Boat) : List C := [.ow 6 (xs.map Boat.enc)]
theorem yef (xs : List Boat) : ybV (yS xs) = some (yV xs) := rfl
theorem yyN (xs : List (List Boat)) (hl : yeI xs) : ycE Tryz.prog ydt [.c (.sl 1 (xs.map yV))] (.c (.ot 1 (xs.map yS))) := by
 refine ybb ylu (by simp) fun hwf => ?_
 simp -dsimp -implicitDefEqProofs [ygA]
 intro hlen
 have hl1 := hl.1
 refine ⟨by omega, ?_⟩
 refine yh (ι := Nat) (fun k => k ≤ xs.length) (fun k => yP [(0, .c (.sl 1 (xs.map yV))), (3, .own 7 1 xs.length), (4, .c (.i k))] [(7, .tr 1 0 (partly yS [.sl 6 []] xs k))]) (fun k => xs.length - k) 0 (by simp) (by apply yj <;> simp [AV.yc, AV.yA, Obj.yc, yX, Obj.leO]) ?_
 rintro k hk
 rcases Nat.lt_or_ge k xs.length with hlt | hge
 ·obtain ⟨e, he⟩ : ∃ e, xs[k]? = some e := ⟨_, List.getElem?_eq_getElem hlt⟩
  have hs := yae (f := yS) (z := [.sl 6 []]) he
  have hd : ((partly yS [.sl 6 []] xs k)[k]?.getD []).set 0 (.ow 6 (e.map Boat.enc)) = yS e := by
   have := yfk (f := yS) (z := [.sl 6 []]) (n := 1) rfl (fun _ => rfl) hlt
   obtain ⟨x, hx⟩ := List.length_eq_one_iff.1 this
   rw [hx]; rfl
  simp -dsimp -implicitDefEqProofs [he, yI hlt]
  intro _
  refine yal (yAY e (hl.2 e (List.mem_of_getElem? he))) (by simp ) (by simp [AV.closed, AV.ybW, C.closed]) (by simp [yau]) ?_
  simp -dsimp -implicitDefEqProofs [yI hlt, yaf hk, yK, setAt, hd, hs]
  exact ⟨hlt, yu hlt hlen, k + 1, hlt, by omega, by apply yj <;> simp [AV.yc, AV.yA, Obj.yc, Obj.leO]⟩
 ·simp -dsimp -implicitDefEqProofs [yah hge]
  intro _
  rw [yad hge, yK]
@[simp] def Train.yO (e : Train) : List C := [.b e.Up, .ot 1 (e.Rows.map yS)]
theorem Train.yaa (e : Train) : ybV e.yO = some e.enc := by simp [Train.yO, ybV, yc6 yef]
theorem yna (e : Train) (hl : Train.small e) : ycE Tryz.prog ybE [.agg (e.enc.map .c)] (.agg (e.yO.map .c)) := by
 refine ybb yma (by simp) fun hwf => ?_
 simp -dsimp -implicitDefEqProofs [yhC]
 refine yal (yyN e.Rows hl) (by simp) (by simp [AV.closed, AV.ybW, C.closed, yS]) (by simp [yau]) ?_
 simp -dsimp -implicitDefEqProofs [yK]
def yaF {α : Type} (f : Int → α → List C) (n : α → Nat) : Int → List α → List (List C)
 | _, [] => []
 | k, x :: l => f k x :: yaF f n (k + n x) l
def cnt {α : Type} (n : α → Nat) (l : List α) : Nat := (l.map n).sum
theorem yU {α : Type} {f : Int → α → List C} {n : α → Nat} : ∀ {l : List α} {k : Int}, (yaF f n k l).length = l.length
 | [], _ => rfl
 | x :: l, k => by simp [yaF, yU (l := l)]
theorem yuY {α : Type} {f : Int → α → List C} {n : α → Nat} {x : α} : ∀ {l : List α} {k : Int}, yaF f n k (l ++ [x]) = yaF f n k l ++ [f (k + cnt n l) x]
 | [], k => by simp [yaF, cnt]
 | y :: l, k => by
  simp only [List.cons_append, yaF, yuY (l := l)]
  simp [cnt, Int.add_assoc]
def ycc {α : Type} (f : Int → α → List C) (g : α → List C) (n : α → Nat) (k : Int) (xs : List α) (i : Nat) : List (List C) := yaF f n k (xs.take i) ++ (xs.drop i).map g
def yaY {α : Type} (n : α → Nat) (xs : List α) (i : Nat) : Nat := cnt n (xs.take i)
section
variable {α : Type} {f : Int → α → List C} {g : α → List C} {n : α → Nat} {k : Int} {xs : List α} {i : Nat} {x : α}
theorem yb0 : yaY n xs 0 = 0 := rfl
theorem ybY (h : xs[i]? = some x) : yaY n xs (i + 1) = yaY n xs i + n x := by
 unfold yaY cnt; rw [List.take_succ, h, List.map_append, List.sum_append]; simp
theorem ycC (h : xs.length ≤ i) : yaY n xs i = cnt n xs := by unfold yaY; rw [List.take_of_length_le h]
theorem ydr : yaY n xs i ≤ cnt n xs := by
 unfold yaY cnt
 conv => rhs; rw [← List.take_append_drop i xs]
 rw [List.map_append, List.sum_append]; omega
theorem ycW : ycc f g n k xs 0 = xs.map g := by simp [ycc, yaF]
theorem yd2 : (ycc f g n k xs i).length = xs.length := by
 unfold ycc; rw [List.length_append, yU, List.length_map, ← List.length_append, List.take_append_drop]
theorem ydX (h : xs.length ≤ i) : ycc f g n k xs i = yaF f n k xs := by
 unfold ycc; rw [List.take_of_length_le h, List.drop_of_length_le h]; simp
theorem ydZ (h : xs[i]? = some x) : (ycc f g n k xs i)[i]? = some (g x) := by
 have hlt := (List.getElem?_eq_some_iff.1 h).1
 have e : (yaF f n k (xs.take i)).length = i := by rw [yU, List.length_take]; omega
 unfold ycc
 rw [List.getElem?_append_right (by omega), e, Nat.sub_self, List.getElem?_map, List.getElem?_drop, Nat.add_zero, h]; rfl
theorem yd4 (h : xs[i]? = some x) : (ycc f g n k xs i).set i (f (k + yaY n xs i) x) = ycc f g n k xs (i + 1) := by
 have hlt := (List.getElem?_eq_some_iff.1 h).1
 have e : (yaF f n k (xs.take i)).length = i := by rw [yU, List.length_take]; omega
 unfold ycc yaY
 rw [List.set_append_right _ _ (by omega), e, Nat.sub_self, List.drop_eq_getElem_cons hlt, (List.getElem?_eq_some_iff.1 h).2, List.map_cons, List.set_cons_zero, List.take_succ, h]
 simp only [Option.toList_some]
 rw [yuY, List.append_assoc]; rfl
end
theorem yvW {α : Type} {f : Int → α → List C} {n : α → Nat} : ∀ {xs : List α} {k : Int} {i : Nat} {x : α}, xs[i]? = some x → (yaF f n k xs)[i]? = some (f (k + yaY n xs i) x)
 | y :: l, k, 0, x, h => by simp at h; subst h; simp [yaF, yaY, cnt]
 | y :: l, k, i + 1, x, h => by
  simp only [yaF, List.getElem?_cons_succ]
  rw [yvW (xs := l) (k := k + n y) (i := i) (x := x) (by simpa using h)]
  congr 2
  unfold yaY cnt
  simp only [List.take_succ_cons, List.map_cons, List.sum_cons, Int.natCast_add]; omega
def mkB (k : Int) : List C := [.i k, .i (k + 1), .i (k + 1 + 1), .i (k + 1 + 1 + 1), .i (k + 1 + 1 + 1 + 1), .i (k + 1 + 1 + 1 + 1 + 1)]
theorem yx4 (xs : List Boat) (k : Int) (h0 : 0 ≤ k) (h1 : k + 6 * xs.length ≤ 8000000000000000000) :
 InF Tryz.prog yfs (.c (cw 6 (xs.map Boat.enc))) (.c (cw 6 (marked mkB 6 [] k xs.length))) [.c (.i k)] (.c (.i (k + 6 * xs.length))) := by
 rcases Nat.eq_zero_or_pos xs.length with hx | hx
 ·have : xs = [] := List.length_eq_zero_iff.1 hx
  subst this
  refine ybq yjp (by simp) (by simp) rfl fun hwf => ?_
  simp -dsimp -implicitDefEqProofs [yfa, marked]
  refine yh (ι := Unit) (fun _ => True) (fun _ => yP [(0, .c (.sl 6 [])), (1, .c (.i k)), (5, .c (.i 0)), (1000000, .c (.sl 6 []))] []) (fun _ => 0) () trivial (by apply yj <;> simp [AV.yc, AV.yA, Obj.yc]) ?_
  rintro _ _
  simp -dsimp -implicitDefEqProofs
 ·rw [ybx (by simpa using hx), ybx (by rw [yZ]; exact hx)]
  refine ybq yjp (by simp) (by simp) rfl fun hwf => ?_
  simp -dsimp -implicitDefEqProofs [yfa]
  refine yh (ι := Nat) (fun i => i ≤ xs.length) (fun i => yP [(0, .own 0 6 xs.length), (1, .c (.i (k + 6 * i))), (5, .c (.i i)), (1000000, .own 0 6 xs.length)] [(0, .row 6 (marked mkB 6 (xs.map Boat.enc) k i))]) (fun i => xs.length - i) 0 (by simp) (by apply yj <;> simp [AV.yc, AV.yA, Obj.yc, yd8]) ?_
  rintro i hi
  rcases Nat.lt_or_ge i xs.length with hlt | hge
  ·obtain ⟨e, he⟩ : ∃ e, xs[i]? = some e := ⟨_, List.getElem?_eq_getElem hlt⟩
   have hg := yfn (mk := mkB) (c := 6) (k := k) (rows := xs.map Boat.enc) (i := i) (r := e.enc) (by simp [he])
   have hl := yfo (mk := mkB) (c := 6) (k := k) (rows := xs.map Boat.enc) (i := i) (by simpa using hi)
   have hs := yfD (mk := mkB) (c := 6) (k := k) (rows := xs.map Boat.enc) (i := i) (by simpa using hlt)
   rw [List.length_map] at hl
   generalize marked mkB 6 (xs.map Boat.enc) k i = M at *
   have hlt2 : i < M.length := by omega
   have hself : ∀ a, (M.set i a)[i]? = some a := fun a => List.getElem?_set_self hlt2
   simp only [mkB] at hs
   simp only [Boat.enc] at hg
   simp -dsimp -implicitDefEqProofs [yI hlt, hg, hl, hlt2, hself]
   intro hlen
   refine ⟨hlt, by unfold inI; omega, hlt, by unfold inI; omega, hlt, by unfold inI; omega, hlt, by unfold inI; omega, hlt, by unfold inI; omega, hlt, by unfold inI; omega, by unfold inI; omega, i + 1, hlt, by omega, ?_⟩
   apply yj <;> simp [AV.yc, AV.yA, Obj.yc, hs, hself] <;> omega
  ·have : i = xs.length := by omega
   subst this
   simp -dsimp -implicitDefEqProofs
   intro _
   have e := yfC (mk := mkB) (c := 6) (rows := xs.map Boat.enc) (k := k) (i := xs.length) (by simp)
   rw [e, List.length_map, List.take_of_length_le (by rw [yZ]; exact Nat.le_refl _)]
def nB (r : List Boat) : Nat := 6 * r.length
def fB (k : Int) (r : List Boat) : List C := [.ow 6 (marked mkB 6 [] k r.length)]
theorem ygX (xs : List (List Boat)) (k : Int) (h0 : 0 ≤ k) (h1 : k + cnt nB xs ≤ 8000000000000000000) :
 InF Tryz.prog ybn (.c (ct 1 (xs.map yS))) (.c (ct 1 (yaF fB nB k xs))) [.c (.i k)] (.c (.i (k + cnt nB xs))) := by
 rcases Nat.eq_zero_or_pos xs.length with hx | hx
 ·have : xs = [] := List.length_eq_zero_iff.1 hx
  subst this
  refine ybq yh1 (by simp) (by simp) rfl fun hwf => ?_
  simp -dsimp -implicitDefEqProofs [yeP, yaF, cnt]
  refine yh (ι := Unit) (fun _ => True) (fun _ => yP [(0, .c (.sl 1 [])), (1, .c (.i k)), (5, .c (.i 0)), (1000000, .c (.sl 1 []))] []) (fun _ => 0) () trivial (by apply yj <;> simp [AV.yc, AV.yA, Obj.yc]) ?_
  rintro _ _
  simp -dsimp -implicitDefEqProofs
 ·rw [ycp (by simpa using hx), ycp (by rw [yU]; exact hx)]
  refine ybq yh1 (by simp) (by simp) rfl fun hwf => ?_
  simp -dsimp -implicitDefEqProofs [yeP]
  refine yh (ι := Nat) (fun i => i ≤ xs.length) (fun i => yP [(0, .own 0 1 xs.length), (1, .c (.i (k + yaY nB xs i))), (5, .c (.i i)), (1000000, .own 0 1 xs.length)] [(0, .tr 1 0 (ycc fB yS nB k xs i))]) (fun i => xs.length - i) 0 (by simp) (by apply yj <;> simp [AV.yc, AV.yA, Obj.yc, ycW, yb0, Obj.leO]) ?_
  rintro i hi
  rcases Nat.lt_or_ge i xs.length with hlt | hge
  ·obtain ⟨e, he⟩ : ∃ e, xs[i]? = some e := ⟨_, List.getElem?_eq_getElem hlt⟩
   have hg := ydZ (f := fB) (g := yS) (n := nB) (k := k) he
   have hl := yd2 (f := fB) (g := yS) (n := nB) (k := k) (xs := xs) (i := i)
   have hs := yd4 (f := fB) (g := yS) (n := nB) (k := k) he
   have hc := ybY (n := nB) he
   have hle := ydr (n := nB) (xs := xs) (i := i + 1)
   have hn : nB e = 6 * e.length := rfl
   generalize hM : ycc fB yS nB k xs i = M at *
   have hlt2 : i < M.length := by omega
   have g1 : M[i] = yS e := (List.getElem?_eq_some_iff.1 hg).2
   have hself : ∀ a, (M.set i a)[i]? = some a := fun a => List.getElem?_set_self hlt2
   simp -dsimp -implicitDefEqProofs [yI hlt, hg, hl, hlt2, g1, yS]
   intro hlen
   refine ⟨hlt, ybB (k0 := 1) (ver := 0) (j := 0) (i := (i : Int)) (rows := M) (r := yS e) (c := .ow 6 (e.map Boat.enc)) (c' := .ow 6 (marked mkB 6 [] (k + yaY nB xs i) e.length)) (yx4 e (k + yaY nB xs i) (by omega) (by omega)) (by simp) rfl rfl rfl (by simpa using hg) rfl ⟨_, by rw [yZ]; simp, rfl, rfl, rfl⟩ (by simp [C.sz]) ?_⟩
   have e0 : (yS e).set 0 (.ow 6 (marked mkB 6 [] (k + yaY nB xs i) e.length)) = fB (k + yaY nB xs i) e := rfl
   rw [e0]
   simp -dsimp -implicitDefEqProofs
   refine ⟨yu hlt hlen, i + 1, hlt, by omega, ?_⟩
   apply yj <;> simp [AV.yc, AV.yA, Obj.yc, Obj.leO, hs] <;> omega
  ·have : i = xs.length := by omega
   subst this
   simp -dsimp -implicitDefEqProofs
   intro _
   rw [ydX (Nat.le_refl _), ycC (Nat.le_refl _), List.take_of_length_le (by rw [yU]; exact Nat.le_refl _)]
   exact ⟨rfl, rfl⟩
theorem yyp {α : Type} {B : Nat} : ∀ {l : List (List α)}, (∀ r ∈ l, r.length ≤ B) → l.flatten.length ≤ l.length * B
 | [], _ => by simp
 | r :: l, h => by
  have h1 := yyp (l := l) fun x hx => h x (by simp [hx])
  have h2 := h r (by simp)
  simp only [List.flatten_cons, List.length_append, List.length_cons, Nat.add_mul, Nat.one_mul]
  omega
def heads {α : Type} (l : List (List α)) (k : Nat) : List α := (l.take k).flatten
theorem yfq {α : Type} {l : List (List α)} : heads l 0 = [] := rfl
theorem ykh {α : Type} {l : List (List α)} {k : Nat} {r : List α} (h : l[k]? = some r) : heads l (k + 1) = heads l k ++ r := by
 unfold heads; rw [List.take_succ, h]; simp
theorem ynm {α : Type} {l : List (List α)} {k : Nat} (h : l.length ≤ k) : heads l k = l.flatten := by
 unfold heads; rw [List.take_of_length_le h]
theorem ylO {α : Type} {l : List (List α)} (h : ycr (ycr fun _ : α => True) l) (k : Nat) : (heads l k).length ≤ 1099511627776 := by
 have h1 := yyp (l := l.take k) (B := 1048576) fun r hr => (h.2 r (List.mem_of_mem_take hr)).1
 have h2 := h.1
 have h3 : (l.take k).length ≤ 1048576 := by simp; omega
 have h4 := Nat.mul_le_mul_right 1048576 h3
 unfold heads
 omega
def Train.yY (t : Train) : List Boat := t.Rows.flatten
theorem yDo {t : Train} (h : t.small) : t.yY.length ≤ 1099511627776 := by
 have := ylO h t.Rows.length
 rwa [ynm (Nat.le_refl _)] at this
theorem yoC (t : Train) (h : t.small) : yF Tryz.prog ycy [.agg (t.enc.map .c)] (.c (.sl 6 (t.yY.map Boat.enc))) := by
 refine yt yrh (by simp) fun hwf => ?_
 simp -dsimp -implicitDefEqProofs [ykX]
 refine yh (ι := Nat) (fun k => k ≤ t.Rows.length) (fun k => yP [(1, .box 1 0), (3, .own 5 6 (heads t.Rows k).length), (4, .c (.i k))] [(1, .box (t.enc.map .c)), (5, .row 6 ((heads t.Rows k).map Boat.enc))]) (fun k => t.Rows.length - k) 0 (by simp) (by apply yj <;> simp [AV.yc, AV.yA, Obj.yc, yfq]) ?_
 rintro k hk
 rcases Nat.lt_or_ge k t.Rows.length with hlt | hge
 ·obtain ⟨r, hr⟩ : ∃ r, t.Rows[k]? = some r := ⟨_, List.getElem?_eq_getElem hlt⟩
  have hb := ylO h (k + 1)
  have hf := ykh hr
  rw [hf, List.length_append] at hb
  have hm := h.1
  simp -dsimp -implicitDefEqProofs [hr, yI hlt]
  intro hlen
  refine ⟨by omega, yu hlt hlen, k + 1, hlt, by omega, ?_⟩
  apply yj <;> simp [AV.yc, AV.yA, Obj.yc, hf]
 ·simp -dsimp -implicitDefEqProofs [yah hge]
  rw [ynm hge]
  intro _
  rw [List.take_of_length_le (by rw [List.length_map]; exact Nat.le_refl _)]; rfl
def yaT (b : Boat) : Bool := inRange b.Id 1 9999 && inRange b.Length 1 200 && inRange b.Width 1 30 && inRange b.Draught 1 100 && inRange b.Speed 1 50 && inRange b.Class 0 2
theorem yyl (b : Boat) : yF Tryz.prog yiF [.agg (b.enc.map .c)] (.c (.b (yaT b))) := by
 refine yt yus (by simp) fun hwf => ?_
 simp -dsimp -implicitDefEqProofs [yof]
 refine yg (yC b.Id 1 9999) (by simp) rfl ?_
 simp -dsimp -implicitDefEqProofs
 refine ⟨fun h => ?_, fun h => by simp [yaT, h]⟩
 refine yg (yC b.Length 1 200) (by simp) rfl ?_
 simp -dsimp -implicitDefEqProofs
 refine ⟨fun h1 => ?_, fun h1 => by simp [yaT, h1]⟩
 refine yg (yC b.Width 1 30) (by simp) rfl ?_
 simp -dsimp -implicitDefEqProofs
 refine ⟨fun h2 => ?_, fun h1 => by simp [yaT, h1]⟩
 refine yg (yC b.Draught 1 100) (by simp) rfl ?_
 simp -dsimp -implicitDefEqProofs
 refine ⟨fun h3 => ?_, fun h1 => by simp [yaT, h1]⟩
 refine yg (yC b.Speed 1 50) (by simp) rfl ?_
 simp -dsimp -implicitDefEqProofs
 refine ⟨fun h4 => ?_, fun h1 => by simp [yaT, h1]⟩
 refine yg (yC b.Class 0 2) (by simp) rfl ?_
 simp -dsimp -implicitDefEqProofs
 simp [yaT, h, h1, h2, h3, h4]
theorem yxH (b : Boat) : yF Tryz.prog yiC [.agg (b.enc.map .c)] (.c (.b (yaT b))) := by
 refine yt yt5 (by simp) fun hwf => ?_
 simp -dsimp -implicitDefEqProofs [yoc]
 refine yg (yE b.Id 1 9999) (by simp) rfl ?_
 simp -dsimp -implicitDefEqProofs
 refine ⟨fun h => ?_, fun h => by simp [yaT, h]⟩
 refine yg (yE b.Length 1 200) (by simp) rfl ?_
 simp -dsimp -implicitDefEqProofs
 refine ⟨fun h1 => ?_, fun h1 => by simp [yaT, h1]⟩
 refine yg (yE b.Width 1 30) (by simp) rfl ?_
 simp -dsimp -implicitDefEqProofs
 refine ⟨fun h2 => ?_, fun h1 => by simp [yaT, h1]⟩
 refine yg (yE b.Draught 1 100) (by simp) rfl ?_
 simp -dsimp -implicitDefEqProofs
 refine ⟨fun h3 => ?_, fun h1 => by simp [yaT, h1]⟩
 refine yg (yE b.Speed 1 50) (by simp) rfl ?_
 simp -dsimp -implicitDefEqProofs
 refine ⟨fun h4 => ?_, fun h1 => by simp [yaT, h1]⟩
 refine yg (yE b.Class 0 2) (by simp) rfl ?_
 simp -dsimp -implicitDefEqProofs
 simp [yaT, h, h1, h2, h3, h4]
def indexOf (l : List Int) (n : Int) : Int := match l.findIdx? (fun x => n == x) with | some i => i | none => -1
theorem ysG {l : List Int} {n : Int} : (0 ≤ indexOf l n) = (n ∈ l) := by
 unfold indexOf
 cases h : l.findIdx? (fun x => n == x) with
 | none =>
  rw [List.findIdx?_eq_none_iff] at h
  show (0 ≤ (-1 : Int)) = _
  simp only [eq_iff_iff]
  refine ⟨fun h1 => by omega, fun hm => ?_⟩
  have := h n hm
  simp at this
 | some i =>
  rw [List.findIdx?_eq_some_iff_getElem] at h
  obtain ⟨hi, h1, _⟩ := h
  simp only [eq_iff_iff]
  refine ⟨fun _ => ?_, fun _ => by omega⟩
  have : n = l[i] := by simpa using h1
  rw [this]; exact List.getElem_mem _
theorem yyS {l : List Int} {n : Int} {k : Nat} (h : l[k]? = some n) (hn : ∀ x ∈ l.take k, n ≠ x) : indexOf l n = k := by
 unfold indexOf
 have : l.findIdx? (fun x => n == x) = some k := by
  rw [List.findIdx?_eq_some_iff_getElem]
  obtain ⟨hk1, hk2⟩ := List.getElem?_eq_some_iff.1 h
  refine ⟨hk1, by simp [hk2], fun j hj => ?_⟩
  have := hn (l[j]'(by omega)) (List.mem_take_iff_getElem.2 ⟨j, by omega, rfl⟩)
  simpa using this
 rw [this]
theorem yyY {l : List Int} {n : Int} {k : Nat} (hk : l.length ≤ k) (hn : ∀ x ∈ l.take k, n ≠ x) : indexOf l n = -1 := by
 rw [List.take_of_length_le hk] at hn
 unfold indexOf
 have : l.findIdx? (fun x => n == x) = none := by
  rw [List.findIdx?_eq_none_iff]
  intro x hx
  simpa using hn x hx
 rw [this]
theorem yCg {l : List Int} {n x : Int} {k : Nat} (h : l[k]? = some x) (hx : n ≠ x) (hn : ∀ x ∈ l.take k, n ≠ x) : ∀ x ∈ l.take (k + 1), n ≠ x := by
 intro y hy
 rw [List.take_succ, h] at hy
 rcases List.mem_append.1 hy with h1 | h1
 ·exact hn y h1
 ·simp at h1; rw [h1]; exact hx
theorem yD5 (l : List Int) (n : Int) : yF Tryz.prog ybJ [.c (.sl 1 (l.map yac)), .c (.i n)] (.c (.i (indexOf l n))) := by
 refine yt yhZ (by simp) fun hwf => ?_
 simp -dsimp -implicitDefEqProofs [ydf]
 intro hlen
 refine yh (ι := Nat) (fun k => k ≤ l.length ∧ ∀ x ∈ l.take k, n ≠ x) (fun k => yP [(0, .c (.sl 1 (l.map yac))), (1, .c (.i n)), (7, .c (.i l.length)), (8, .c (.i k))] []) (fun k => l.length - k) 0 (by simp) (by apply yj <;> simp [AV.yc, AV.yA, Obj.yc]) ?_
 rintro k ⟨hk, hn⟩
 rcases Nat.lt_or_ge k l.length with hlt | hge
 ·obtain ⟨x, hx⟩ : ∃ x, l[k]? = some x := ⟨_, List.getElem?_eq_getElem hlt⟩
  simp -dsimp -implicitDefEqProofs [hx, yI hlt]
  refine ⟨fun h => ?_, fun h => ⟨yu hlt hlen, k + 1, ⟨hlt, yCg hx h hn⟩, by omega, by apply yj <;> simp [AV.yc, AV.yA, Obj.yc]⟩⟩
  exact yyS (h ▸ hx) hn
 ·simp -dsimp -implicitDefEqProofs [yah hge]
  exact yyY hge hn
theorem ytn (l : List Int) (n : Int) : yF Tryz.prog yaV [.c (.sl 1 (l.map yac)), .c (.i n)] (.c (.b (decide (n ∈ l)))) := by
 refine yt ygN (by simp) fun hwf => ?_
 simp -dsimp -implicitDefEqProofs [ycA]
 refine yg (yD5 l n) (by simp) rfl ?_
 simp -dsimp -implicitDefEqProofs [ysG]
def ygE (b : Boat) : Int := b.Id
def full (r : List Boat) : Bool := decide (r.length ≠ 0)
theorem ypa {r : List Boat} : full r = true ↔ r.length ≠ 0 := by simp [full]
def yH (t : Train) : Bool := t.Rows.all full && t.yY.all yaT && decide ((t.yY.map ygE).Nodup) && inRange t.yY.length 1 6
theorem yoE {l : List Boat} {k : Nat} {b : Boat} (h : l[k]? = some b) : (((l.take (k + 1)).map ygE).Nodup ↔ ((l.take k).map ygE).Nodup ∧ b.Id ∉ (l.take k).map ygE) := by
 rw [List.take_succ, h, List.map_append]
 simp only [Option.toList_some, List.map_cons, List.map_nil, List.nodup_append, List.nodup_cons, List.not_mem_nil, not_false_eq_true, List.nodup_nil, and_self, true_and, List.mem_singleton, forall_eq, ygE]
 constructor
 ·rintro ⟨h1, h2⟩; exact ⟨h1, fun hm => h2 _ hm rfl⟩
 ·rintro ⟨h1, h2⟩; exact ⟨h1, fun x hx e => h2 (e ▸ hx)⟩
theorem yBt {l : List Boat} {k : Nat} (h : ¬ ((l.take k).map ygE).Nodup) : ¬ (l.map ygE).Nodup := by
 intro hn
 refine h ?_
 rw [← List.take_append_drop k l, List.map_append] at hn
 exact (List.nodup_append.1 hn).1
def yvd (l : List Boat) (k : Nat) : List Int := (l.take k).map ygE
theorem ybg (t : Train) (h : t.small) : yF Tryz.prog yaD [.agg (t.enc.map .c)] (.c (.b (yH t))) := by
 refine yt ytb (by simp) fun hwf => ?_
 simp -dsimp -implicitDefEqProofs [ymY]
 refine yJ (yoC t h) (by simp) rfl ?_
 simp -dsimp -implicitDefEqProofs
 refine yh (ι := Nat) (fun k => k ≤ t.Rows.length ∧ ∀ r ∈ t.Rows.take k, full r = true) (fun k => yP [(1, .box 1 0), (3, .c (.sl 6 (t.yY.map Boat.enc))), (4, .c (.i k))] [(1, .box (t.enc.map .c))]) (fun k => t.Rows.length - k) 0 (by simp) (by apply yj <;> simp [AV.yc, AV.yA, Obj.yc]) ?_
 rintro k ⟨hk, hall⟩
 rcases Nat.lt_or_ge k t.Rows.length with hlt | hge
 ·obtain ⟨r, hr⟩ : ∃ r, t.Rows[k]? = some r := ⟨_, List.getElem?_eq_getElem hlt⟩
  simp -dsimp -implicitDefEqProofs [hr, yI hlt]
  intro hlen _
  refine ⟨fun h0 => ?_, fun h0 => ?_⟩
  ·have : t.Rows.all full = false := all_false (p := full) hr (by simp [full, h0])
   simp only [yH, this, Bool.false_and]
  ·exact ⟨yu hlt hlen, k + 1, ⟨by omega, yL (p := full) hr hall (by simp [full, h0])⟩, by omega, by apply yj <;> simp [AV.yc, AV.yA, Obj.yc]⟩
 ·have hrows := yQ (p := full) hge hall
  simp -dsimp -implicitDefEqProofs [yah hge]
  intro _
  have hbl := yDo h
  refine yh (ι := Nat) (fun k => k ≤ t.yY.length ∧ (∀ b ∈ t.yY.take k, yaT b = true) ∧ (yvd t.yY k).Nodup) (fun k => yP [(3, .c (.sl 6 (t.yY.map Boat.enc))), (5, .c (.i k))] []) (fun k => t.yY.length - k) 0 (by simp [yvd]) (by apply yj <;> simp [AV.yc, AV.yA, Obj.yc]) ?_
  rintro k ⟨hk, hok, hnd⟩
  have fin : t.yY.length ≤ 6 → k = t.yY.length → yH t = inRange t.yY.length 1 6 := by
   intro h6 e
   have h1 := yQ (p := yaT) (by omega) hok
   rw [e, yvd, List.take_length] at hnd
   simp [yH, hrows, h1, hnd]
  rcases Nat.lt_or_ge k t.yY.length with hlt | hge
  ·obtain ⟨b, hb⟩ : ∃ b, t.yY[k]? = some b := ⟨_, List.getElem?_eq_getElem hlt⟩
   by_cases h6 : t.yY.length ≤ 6
   ·have h6' : ((t.yY.length : Int) ≤ 6) = True := by simp; omega
    simp -dsimp -implicitDefEqProofs [hb, yI hlt, h6']
    intro hlen
    refine yg (yyl b) (by simp) rfl ?_
    simp -dsimp -implicitDefEqProofs
    refine ⟨fun h1 => ?_, fun h1 => ?_⟩
    ·have : t.yY.all yaT = false := all_false (p := yaT) hb h1
     simp only [yH, this, Bool.false_and, Bool.and_false]
    have hok' := yL (p := yaT) hb hok h1
    refine yh (ι := Nat) (fun i => i ≤ k ∧ b.Id ∉ yvd t.yY i) (fun i => yP [(3, .c (.sl 6 (t.yY.map Boat.enc))), (5, .c (.i k)), (6, .c (.i i))] []) (fun i => k - i) 0 (by simp [yvd]) (by apply yj <;> simp [AV.yc, AV.yA, Obj.yc]) ?_
    rintro i ⟨hi, hni⟩
    rcases Nat.lt_or_ge i k with hlt2 | hge2
    ·obtain ⟨c, hc⟩ : ∃ c, t.yY[i]? = some c := ⟨_, List.getElem?_eq_getElem (by omega)⟩
     have hi3 : (i : Int) < t.yY.length := by omega
     simp -dsimp -implicitDefEqProofs [hb, hc, yI hlt, yI hlt2, hi3]
     refine ⟨fun h2 => ?_, fun h2 => ?_⟩
     ·have : ¬ (t.yY.map ygE).Nodup := by
       refine yBt (k := k + 1) fun hn => ?_
       refine ((yoE hb).1 hn).2 ?_
       rw [← h2]
       exact List.mem_map.2 ⟨c, List.mem_iff_getElem?.2 ⟨i, by rw [List.getElem?_take, if_pos hlt2]; exact hc⟩, rfl⟩
      simp [yH, this]
     ·refine ⟨by unfold inI; omega, i + 1, ⟨hlt2, ?_⟩, by omega, by apply yj <;> simp [AV.yc, AV.yA, Obj.yc]⟩
      rw [yvd, List.take_succ, hc, List.map_append]
      simp only [List.mem_append, Option.toList_some, List.map_cons, List.map_nil, List.mem_singleton, ygE]
      rintro (h3 | h3)
      ·exact hni h3
      ·exact h2 h3.symm
    ·simp -dsimp -implicitDefEqProofs [yah hge2]
     have e : i = k := by omega
     rw [e] at hni
     exact ⟨by unfold inI; omega, k + 1, ⟨hlt, hok', (yoE hb).2 ⟨hnd, hni⟩⟩, by omega, by apply yj <;> simp [AV.yc, AV.yA, Obj.yc]⟩
   ·have h6' : ((t.yY.length : Int) ≤ 6) = False := by simp; omega
    simp -dsimp -implicitDefEqProofs [hb, yI hlt, h6']
    intro hlen
    refine yg (yC t.yY.length 1 6) (by simp) rfl ?_
    simp -dsimp -implicitDefEqProofs
    have h7 : inRange t.yY.length 1 6 = false := yco.2 (by omega)
    simp only [yH, h7, Bool.and_false]
  ·simp -dsimp -implicitDefEqProofs [yah hge]
   intro hlen
   refine yg (yC t.yY.length 1 6) (by simp) rfl ?_
   simp -dsimp -implicitDefEqProofs
   by_cases h6 : t.yY.length ≤ 6
   ·rw [fin h6 (by omega)]
   ·have h7 : inRange t.yY.length 1 6 = false := yco.2 (by omega)
    simp only [yH, h7, Bool.and_false]
theorem yqD {t : Train} {k : Nat} {r : List Boat} (h : t.Rows[k]? = some r) : ∃ m, t.yY = heads t.Rows k ++ r ++ m := by
 refine ⟨(t.Rows.drop (k + 1)).flatten, ?_⟩
 unfold Train.yY
 conv => lhs; rw [← List.take_append_drop (k + 1) t.Rows]
 rw [List.flatten_append, ← ykh h]; rfl
theorem yEs {t : Train} {k : Nat} {r : List Boat} (h : t.Rows[k]? = some r) (h0 : r.length = 0) : yH t = false := by
 have : t.Rows.all full = false := all_false (p := full) h (by simp [full, h0])
 simp only [yH, this, Bool.false_and]
theorem yG4 {t : Train} (h : 6 < t.yY.length) : yH t = false := by
 have h7 : inRange t.yY.length 1 6 = false := yco.2 (by omega)
 simp only [yH, h7, Bool.and_false]
theorem yDU {t : Train} {b : Boat} (hb : b ∈ t.yY) (h : yaT b = false) : yH t = false := by
 obtain ⟨i, hi⟩ := List.getElem?_of_mem hb
 have : t.yY.all yaT = false := all_false (p := yaT) hi h
 simp only [yH, this, Bool.false_and, Bool.and_false]
theorem yGC {t : Train} (h : ¬ (t.yY.map ygE).Nodup) : yH t = false := by simp [yH, h]
def ygs (l : List Boat) : List (List C) := (l.map ygE).map yac ++ List.replicate (6 - l.length) [.i 0]
theorem yCU {l : List Boat} (h : l.length ≤ 6) : (ygs l).length = 6 := by simp [ygs]; omega
theorem yAr {l : List Boat} {n : Nat} (h : n = l.length) : (ygs l).take n = (l.map ygE).map yac := by
 subst h; unfold ygs; rw [List.take_append_of_le_length (by simp), List.take_of_length_le (by simp)]
theorem yDB {l : List Boat} {b : Boat} (h : l.length < 6) : (ygs l).set l.length [.i b.Id] = ygs (l ++ [b]) := by
 unfold ygs
 rw [List.set_append_right _ _ (by simp)]
 have h1 : ((l.map ygE).map yac).length = l.length := by simp
 rw [h1, Nat.sub_self, show 6 - l.length = (6 - (l.length + 1)) + 1 by omega, List.replicate_succ, List.set_cons_zero]
 simp [ygE]
theorem yDj {l : List Boat} (h : l.length < 6) : (ygs l)[l.length]?.getD [] = [.i 0] := by
 unfold ygs
 rw [List.getElem?_append_right (by simp)]
 have h1 : ((l.map ygE).map yac).length = l.length := by simp
 rw [h1, Nat.sub_self, List.getElem?_replicate, if_pos (by omega)]; rfl
theorem yBQ : ygs [] = List.replicate 6 [.i 0] := rfl
structure Met (l : List Boat) : Prop where
 ok : ∀ b ∈ l, yaT b = true
 nd : (l.map ygE).Nodup
 len : l.length ≤ 6
theorem Met.snoc {l : List Boat} {b : Boat} (h : Met l) (h1 : yaT b = true) (h2 : b.Id ∉ l.map ygE) (h3 : l.length < 6) : Met (l ++ [b]) := by
 refine ⟨?_, ?_, by simp; omega⟩
 ·intro x hx
  rcases List.mem_append.1 hx with hx | hx
  ·exact h.ok x hx
  ·rw [List.mem_singleton.1 hx]; exact h1
 ·have := @yoE (l ++ [b]) l.length b (by simp)
  rw [show l.length + 1 = (l ++ [b]).length by simp, List.take_length] at this
  rw [this, List.take_left']
  ·exact ⟨h.nd, h2⟩
  ·rfl
def yfR (t : Train) (k : Nat) (r : List Boat) (j : Nat) : List Boat := heads t.Rows k ++ r.take j
theorem yrU {t : Train} {k : Nat} {r : List Boat} : yfR t k r 0 = heads t.Rows k := by simp [yfR]
theorem yy3 {t : Train} {k : Nat} {r : List Boat} {j : Nat} {b : Boat} (h : r[j]? = some b) : yfR t k r (j + 1) = yfR t k r j ++ [b] := by
 unfold yfR; rw [List.take_succ, h]; simp
theorem yu7 {t : Train} {k : Nat} {r : List Boat} {j : Nat} (hr : t.Rows[k]? = some r) (h : r.length ≤ j) : yfR t k r j = heads t.Rows (k + 1) := by
 unfold yfR; rw [List.take_of_length_le h, ykh hr]
theorem yAW {t : Train} {k : Nat} {r : List Boat} {j : Nat} (h : j ≤ r.length) : (yfR t k r j).length = (heads t.Rows k).length + j := by
 unfold yfR; simp; omega
theorem ybu (t : Train) (h : t.small) : yF Tryz.prog yaJ [.agg (t.enc.map .c)] (.c (.b (yH t))) := by
 refine yt ysy (by simp) fun hwf => ?_
 simp -dsimp -implicitDefEqProofs [ylP]
 intro hlen
 refine ⟨fun h0 _ => ⟨fun h1 => ?_, fun h1 _ => ?_⟩, fun h0 => ?_⟩
 ·by_cases h2 : yH t = false
  ·exact h2
  ·exfalso
   have h3 : yH t = true := by simpa using h2
   simp only [yH, Bool.and_eq_true, List.all_eq_true] at h3
   obtain ⟨⟨⟨h4, _⟩, _⟩, h5⟩ := h3
   have h6 := yR.1 h5
   have : ∀ l : List (List Boat), (∀ r ∈ l, full r = true) → l.length ≤ l.flatten.length := by
    intro l
    induction l with
    | nil => simp
    | cons r l ih =>
     intro hl
     have e1 := ih fun x hx => hl x (by simp [hx])
     have e2 := ypa.1 (hl r (by simp))
     simp only [List.length_cons, List.flatten_cons, List.length_append]; omega
   have := this t.Rows h4
   unfold Train.yY at h6
   omega
 ·refine yh (ι := Nat) (fun k => k ≤ t.Rows.length ∧ (∀ r ∈ t.Rows.take k, full r = true) ∧ Met (heads t.Rows k)) (fun k => yP [(3, .row 3 1 0 0), (4, .c (.i (heads t.Rows k).length)), (20, .c (.sl 1 (t.Rows.map yV))), (21, .c (.i t.Rows.length)), (22, .c (.i k))] [(3, .row 1 (ygs (heads t.Rows k)))]) (fun k => t.Rows.length - k) 0 ⟨by simp, by simp, by simp [yfq], by simp [yfq], by simp [yfq]⟩ (by apply yj <;> simp [AV.yc, AV.yA, Obj.yc, yfq, yBQ]) ?_
  rintro k ⟨hk, hall, hm⟩
  rcases Nat.lt_or_ge k t.Rows.length with hlt | hge
  ·obtain ⟨r, hr⟩ : ∃ r, t.Rows[k]? = some r := ⟨_, List.getElem?_eq_getElem hlt⟩
   have hml := hm.len
   have hrs := (h.2 r (List.mem_of_getElem? hr)).1
   obtain ⟨rest, hsp⟩ := yqD hr
   simp -dsimp -implicitDefEqProofs [hr, yI hlt]
   intro hrl
   refine ⟨fun hr0 _ => ⟨by unfold inI; omega, fun h6 => ?_, fun h6 _ => ?_⟩, fun hr0 => ?_⟩
   ·refine yG4 ?_
    rw [hsp]; simp only [List.length_append]; omega
   ·refine yh (ι := Nat) (fun j => j ≤ r.length ∧ Met (yfR t k r j)) (fun j => yP [(3, .row 3 1 0 0), (4, .c (.i (yfR t k r j).length)), (20, .c (.sl 1 (t.Rows.map yV))), (21, .c (.i t.Rows.length)), (22, .c (.i k)), (36, .c (.sl 6 (r.map Boat.enc))), (37, .c (.i r.length)), (38, .c (.i j))] [(3, .row 1 (ygs (yfR t k r j)))]) (fun j => r.length - j) 0 ⟨by simp, by rw [yrU]; exact hm⟩ (by apply yj <;> simp [AV.yc, AV.yA, Obj.yc, yrU]) ?_
    rintro j ⟨hj, hmj⟩
    rcases Nat.lt_or_ge j r.length with hlt2 | hge2
    ·obtain ⟨b, hb⟩ : ∃ b, r[j]? = some b := ⟨_, List.getElem?_eq_getElem hlt2⟩
     have hsl := yAW (t := t) (k := k) hj
     have hlt6 : (yfR t k r j).length < 6 := by omega
     have hmem : b ∈ t.yY := by
      rw [hsp]; simp only [List.mem_append]; exact .inl (.inr (List.mem_of_getElem? hb))
     simp -dsimp -implicitDefEqProofs [hb, yI hlt2]
     refine ⟨_, _, yxH b, by simp, .inr rfl, ?_⟩
     simp -dsimp -implicitDefEqProofs
     refine ⟨fun h2 => ?_, fun h2 => yDU hmem h2⟩
     have hsn := yCU hmj.len
     refine ⟨by omega, hsn, ?_⟩
     refine ⟨_, _, ytn ((yfR t k r j).map ygE) b.Id, by simp [yAr], .inr rfl, ?_⟩
     simp -dsimp -implicitDefEqProofs [yI hlt2, yDj hlt6, yDB hlt6]
     refine ⟨fun x hx he => yGC fun hn => ?_, fun h3 => ?_⟩
     ·have hsp2 : t.yY = yfR t k r j ++ (b :: (r.drop (j + 1) ++ rest)) := by
       rw [hsp]; unfold yfR
       have : r = r.take j ++ b :: r.drop (j + 1) := by
        conv => lhs; rw [← List.take_append_drop j r]
        rw [List.drop_eq_getElem_cons hlt2, (List.getElem?_eq_some_iff.1 hb).2]
       conv => lhs; rw [this]
       simp
      rw [hsp2, List.map_append, List.map_cons] at hn
      exact (List.nodup_append.1 hn).2.2 _ (List.mem_map_of_mem hx) _ (List.mem_cons_self) he
     ·have hni : b.Id ∉ (yfR t k r j).map ygE := by
       intro hm'
       obtain ⟨x, hx, he⟩ := List.mem_map.1 hm'
       exact h3 x hx he
      have hs1 := yy3 (t := t) (k := k) hb
      refine ⟨by omega, by omega, by unfold inI; omega, by unfold inI; omega, j + 1, ⟨hlt2, by rw [hs1]; exact hmj.snoc h2 hni hlt6⟩, by omega, ?_⟩
      apply yj <;> simp [AV.yc, AV.yA, Obj.yc, hs1]
    ·simp -dsimp -implicitDefEqProofs [yah hge2]
     rw [yu7 hr hge2] at hmj
     refine ⟨by unfold inI; omega, k + 1, ⟨hlt, yL (p := full) hr hall (by simp [full, hr0]), hmj⟩, by omega, ?_⟩
     apply yj <;> simp [AV.yc, AV.yA, Obj.yc, yu7 hr hge2]
   ·exact yEs hr (by simp [hr0])
  ·simp -dsimp -implicitDefEqProofs [yah hge]
   rw [ynm hge] at hm
   have hr1 := yQ (p := full) hge hall
   have hb1 : t.yY.all yaT = true := List.all_eq_true.2 hm.ok
   have hl1 : 0 < t.yY.length := by
    obtain ⟨r, l, e⟩ := List.exists_cons_of_ne_nil h0
    have := ypa.1 (List.all_eq_true.1 hr1 r (by rw [e]; simp))
    unfold Train.yY
    rw [e]; simp only [List.flatten_cons, List.length_append]; omega
   have hl2 : t.yY.length ≤ 6 := hm.len
   have h7 : inRange t.yY.length 1 6 = true := yR.2 (by omega)
   have hn1 : (t.yY.map ygE).Nodup := hm.nd
   simp [yH, hr1, hb1, hn1, h7]
 ·have : t.yY = [] := by simp [Train.yY, h0]
  have h7 : inRange t.yY.length 1 6 = false := by rw [this]; rfl
  simp only [yH, h7, Bool.and_false]
def ya8 (m : Mover) (w : Way) : Bool := ymn w && yH m.Train && inRange m.Place 0 w.Long
theorem yvP (m : Mover) (w : Way) (h : m.small) : yF Tryz.prog yg8 [.agg (m.enc.map .c), .agg (w.enc.map .c)] (.c (.b (ya8 m w))) := by
 refine yt yr4 (by simp) fun hwf => ?_
 simp -dsimp -implicitDefEqProofs [yl0]
 refine yg (ysB w) (by simp) rfl ?_
 simp -dsimp -implicitDefEqProofs
 refine ⟨fun h1 => ?_, fun h1 => by simp [ya8, h1]⟩
 refine yg (ybu m.Train h) (by simp) rfl ?_
 simp -dsimp -implicitDefEqProofs
 refine ⟨fun h2 => ?_, fun h2 => by simp [ya8, h2]⟩
 refine yg (yE m.Place 0 w.Long) (by simp) rfl ?_
 simp -dsimp -implicitDefEqProofs
 simp [ya8, h1, h2]
theorem yoS (m : Mover) (w : Way) (h : m.small) : yF Tryz.prog yhM [.agg (m.enc.map .c), .agg (w.enc.map .c)] (.c (.b (ya8 m w))) := by
 refine yt yr5 (by simp) fun hwf => ?_
 simp -dsimp -implicitDefEqProofs [ymg]
 refine yg (ysF w) (by simp) rfl ?_
 simp -dsimp -implicitDefEqProofs
 refine ⟨fun h1 => ?_, fun h1 => by simp [ya8, h1]⟩
 refine yg (ybg m.Train h) (by simp) rfl ?_
 simp -dsimp -implicitDefEqProofs
 refine ⟨fun h2 => ?_, fun h2 => by simp [ya8, h2]⟩
 refine yg (yC m.Place 0 w.Long) (by simp) rfl ?_
 simp -dsimp -implicitDefEqProofs
 simp [ya8, h1, h2]
def maxOf (f : Boat → Int) (l : List Boat) (z : Int) : Int := l.foldl (fun m b => if m < f b then f b else m) z
def ylG (f : Boat → Int) (l : List Boat) (z : Int) (k : Nat) : Int := maxOf f (l.take k) z
theorem yfE {f : Boat → Int} {l : List Boat} {z : Int} : ylG f l z 0 = z := rfl
theorem yj2 {f : Boat → Int} {l : List Boat} {z : Int} {k : Nat} {b : Boat} (h : l[k]? = some b) : ylG f l z (k + 1) = if ylG f l z k < f b then f b else ylG f l z k := by
 unfold ylG maxOf; rw [List.take_succ, h, List.foldl_append]; rfl
theorem ynj {f : Boat → Int} {l : List Boat} {z : Int} {k : Nat} (h : l.length ≤ k) : ylG f l z k = maxOf f l z := by
 unfold ylG; rw [List.take_of_length_le h]
theorem ytr {f : Boat → Int} {a b : Int} : ∀ {l : List Boat} {z : Int}, (∀ x ∈ l, a ≤ f x ∧ f x ≤ b) → a ≤ z → z ≤ b → a ≤ maxOf f l z ∧ maxOf f l z ≤ b
 | [], z, _, h1, h2 => ⟨h1, h2⟩
 | x :: l, z, h, h1, h2 => by
  have := h x (by simp)
  unfold maxOf
  rw [List.foldl_cons]
  refine ytr (l := l) (fun y hy => h y (by simp [hy])) ?_ ?_ <;> split <;> omega
structure TrainFacts (t : Train) : Prop where
 rows : ∀ r ∈ t.Rows, full r = true
 ok : ∀ b ∈ t.yY, yaT b = true
 nd : (t.yY.map ygE).Nodup
 pos : 1 ≤ t.yY.length
 len : t.yY.length ≤ 6
theorem ybA {t : Train} (h : yH t = true) : TrainFacts t := by
 simp only [yH, Bool.and_eq_true, List.all_eq_true, decide_eq_true_eq] at h
 obtain ⟨⟨⟨h1, h2⟩, h3⟩, h4⟩ := h
 have h5 := yR.1 h4
 exact ⟨h1, h2, h3, by omega, by omega⟩
theorem yp8 {b : Boat} (h : yaT b = true) : (1 ≤ b.Id ∧ b.Id ≤ 9999) ∧ (1 ≤ b.Length ∧ b.Length ≤ 200) ∧ (1 ≤ b.Width ∧ b.Width ≤ 30) ∧ (1 ≤ b.Draught ∧ b.Draught ≤ 100) ∧ (1 ≤ b.Speed ∧ b.Speed ≤ 50) ∧ (0 ≤ b.Class ∧ b.Class ≤ 2) := by
 simp only [yaT, Bool.and_eq_true] at h
 obtain ⟨⟨⟨⟨⟨h1, h2⟩, h3⟩, h4⟩, h5⟩, h6⟩ := h
 exact ⟨yR.1 h1, yR.1 h2, yR.1 h3, yR.1 h4, yR.1 h5, yR.1 h6⟩
theorem yu3 (t : Train) (h : t.small) : yF Tryz.prog yew [.agg (t.enc.map .c)] (.c (.sl 6 (t.yY.map Boat.enc))) := by
 refine yt ysf (by simp) fun hwf => ?_
 simp -dsimp -implicitDefEqProofs [yl2]
 intro hlen
 refine ym3 (k0 := 6) 3 6 (by simp) (by simp) (by decide) ?_
 refine yh (ι := Nat) (fun k => k ≤ t.Rows.length) (fun k => yP [(3, .own 3 6 (heads t.Rows k).length), (7, .c (.sl 1 (t.Rows.map yV))), (8, .c (.i t.Rows.length)), (9, .c (.i k))] [(3, .row 6 ((heads t.Rows k).map Boat.enc))]) (fun k => t.Rows.length - k) 0 (by simp) (by apply yj <;> simp [AV.yc, AV.yA, Obj.yc, yfq]) ?_
 rintro k hk
 rcases Nat.lt_or_ge k t.Rows.length with hlt | hge
 ·obtain ⟨r, hr⟩ : ∃ r, t.Rows[k]? = some r := ⟨_, List.getElem?_eq_getElem hlt⟩
  have hb := ylO h (k + 1)
  have hf := ykh hr
  rw [hf, List.length_append] at hb
  simp -dsimp -implicitDefEqProofs [hr, yI hlt]
  refine ⟨by omega, yu hlt hlen, k + 1, hlt, by omega, ?_⟩
  apply yj <;> simp [AV.yc, AV.yA, Obj.yc, hf]
 ·simp -dsimp -implicitDefEqProofs [yah hge]
  rw [ynm hge]
  rw [List.take_of_length_le (by rw [List.length_map]; exact Nat.le_refl _)]; rfl
def ya0 (t : Train) : Int := if yH t then maxOf Boat.Draught t.yY 0 else 0
theorem yml (t : Train) (h : t.small) : yF Tryz.prog yfv [.agg (t.enc.map .c)] (.c (.i (ya0 t))) := by
 refine yt yp4 (by simp) fun hwf => ?_
 simp -dsimp -implicitDefEqProofs [yjk]
 refine yg (ybu t h) (by simp) rfl ?_
 simp -dsimp -implicitDefEqProofs
 refine ⟨fun h1 => by simp [ya0, h1], fun h1 => ?_⟩
 refine yJ (yu3 t h) (by simp) rfl ?_
 simp -dsimp -implicitDefEqProofs
 intro hlen
 refine yh (ι := Nat) (fun k => k ≤ t.yY.length) (fun k => yP [(3, .c (.i (ylG Boat.Draught t.yY 0 k))), (10, .c (.sl 6 (t.yY.map Boat.enc))), (11, .c (.i t.yY.length)), (12, .c (.i k))] []) (fun k => t.yY.length - k) 0 (by simp) (by apply yj <;> simp [AV.yc, AV.yA, Obj.yc, yfE]) ?_
 rintro k hk
 rcases Nat.lt_or_ge k t.yY.length with hlt | hge
 ·obtain ⟨b, hb⟩ : ∃ b, t.yY[k]? = some b := ⟨_, List.getElem?_eq_getElem hlt⟩
  simp -dsimp -implicitDefEqProofs [hb, yI hlt]
  refine ⟨yu hlt hlen, k + 1, hlt, by omega, ?_⟩
  apply yj <;> simp [AV.yc, AV.yA, Obj.yc, yj2 hb]
 ·simp -dsimp -implicitDefEqProofs [yah hge]
  simp [ya0, h1, ynj hge]
theorem ylT (t : Train) (h : t.small) : yF Tryz.prog yfu [.agg (t.enc.map .c)] (.c (.i (ya0 t))) := by
 refine yt ypM (by simp) fun hwf => ?_
 simp -dsimp -implicitDefEqProofs [yjE]
 refine yJ (yoC t h) (by simp) rfl ?_
 simp -dsimp -implicitDefEqProofs
 refine yh (ι := Nat) (fun k => k ≤ t.yY.length ∧ (k ≠ 0 → yH t = true)) (fun k => yP [(1, .box 1 0), (3, .c (.i (ylG Boat.Draught t.yY 0 k))), (4, .c (.sl 6 (t.yY.map Boat.enc))), (5, .c (.i k))] [(1, .box (t.enc.map .c))]) (fun k => t.yY.length - k) 0 (by simp) (by apply yj <;> simp [AV.yc, AV.yA, Obj.yc, yfE]) ?_
 rintro k ⟨hk, hok⟩
 rcases Nat.lt_or_ge k t.yY.length with hlt | hge
 ·obtain ⟨b, hb⟩ : ∃ b, t.yY[k]? = some b := ⟨_, List.getElem?_eq_getElem hlt⟩
  simp -dsimp -implicitDefEqProofs [hb, yI hlt]
  intro hlen
  refine yg (ybg t h) (by simp) rfl ?_
  simp -dsimp -implicitDefEqProofs [hb, yI hlt]
  refine ⟨fun h1 => ?_, fun h1 => ?_⟩
  ·refine ⟨yu hlt hlen, k + 1, ⟨hlt, fun _ => h1⟩, by omega, ?_⟩
   apply yj <;> simp [AV.yc, AV.yA, Obj.yc, yj2 hb]
  ·have : k = 0 := by
    rcases Nat.eq_zero_or_pos k with e | e
    ·exact e
    ·rw [hok (by omega)] at h1; cases h1
   subst this
   simp [ya0, h1, yfE]
 ·simp -dsimp -implicitDefEqProofs [yah hge]
  intro _
  by_cases h1 : yH t = true
  ·simp [ya0, h1, ynj hge]
  ·have h2 : k = 0 := by
    rcases Nat.eq_zero_or_pos k with e | e
    ·exact e
    ·exact absurd (hok (by omega)) h1
   subst h2
   simp [ya0, h1, yfE]
theorem ypl (t : Train) : 0 ≤ ya0 t ∧ ya0 t ≤ 100 := by
 unfold ya0
 split
 ·rename_i h
  have hf := ybA h
  exact ytr (fun x hx => by have := yp8 (hf.ok x hx); omega) (by omega) (by omega)
 ·omega
def ykO (xs : List Int) (l : Int) : Int := szS xs.length l
def yow : List Int → Prop := ycr fun _ => True
theorem yfA : yeU ykO yow := yj1
theorem ynq (xs : List Int) (l : Int) (h0 : 0 ≤ l) (h1 : l ≤ 1048576) : yF Tryz.prog yb4 [.c (.sl 1 (xs.map yac)), .c (.i l)] (.c (.i (ykO xs l))) := yB2 xs l h0 h1
structure Point where
 X : Int
 Y : Int
 deriving DecidableEq, Inhabited
@[simp] def Point.enc (e : Point) : List C := [.i e.X, .i e.Y]
-- Point
theorem yu6 (e : Point) : yF Tryz.prog yhW [.agg (e.enc.map .c)] (.agg (e.enc.map .c)) := by
 refine yt ytL (by simp) fun hwf => ?_
 simp -dsimp -implicitDefEqProofs [ymQ]
theorem yBv (a b : Point) : yF Tryz.prog yhr [.agg (a.enc.map .c), .agg (b.enc.map .c)] (.c (.b (decide (a = b)))) := by
 refine yt ytD (by simp) fun hwf => ?_
 obtain ⟨a0, a1⟩ := a
 obtain ⟨b0, b1⟩ := b
 simp -dsimp -implicitDefEqProofs [ymU, Point.mk.injEq]
 refine ⟨fun h => by simp_all, fun h0 => ?_⟩
 refine ⟨fun h => by simp_all, fun h1 => ?_⟩
 simp_all
-- []Point
def yjK (xs : List Point) (l : Int) : Int := szS xs.length l
def ygZ : List Point → Prop := ycr fun _ => True
theorem yoL : yeU yjK ygZ := yj1
theorem yxY (xs : List Point) (l : Int) (h0 : 0 ≤ l) (h1 : l ≤ 1048576) : yF Tryz.prog ygB [.c (.sl 2 (xs.map Point.enc)), .c (.i l)] (.c (.i (yjK xs l))) := by
 refine yt yq3 (by simp) fun hwf => ?_
 simp -dsimp -implicitDefEqProofs [ylj, yjK, szS]
 intro hl
 unfold maxLen at hl
 refine ⟨by unfold inI; omega, fun h => ?_, fun h => ?_⟩ <;> intros <;> omega
theorem yzE (xs : List Point) (hl : ygZ xs) : yF Tryz.prog ydx [.c (.sl 2 (xs.map Point.enc))] (.c (.sl 2 (xs.map Point.enc))) := by
 refine yt yk8 (by simp) fun hwf => ?_
 simp -dsimp -implicitDefEqProofs [ygH]
 intro hlen
 have hl1 := hl.1
 refine ⟨by omega, ?_⟩
 refine yh (ι := Nat) (fun k => k ≤ xs.length) (fun k => yP [(0, .c (.sl 2 (xs.map Point.enc))), (3, .own 7 2 xs.length), (4, .c (.i k))] [(7, .row 2 (partly Point.enc [.i 0, .i 0] xs k))]) (fun k => xs.length - k) 0 (by simp) (by apply yj <;> simp [AV.yc, AV.yA, Obj.yc, yX]) ?_
 rintro k hk
 rcases Nat.lt_or_ge k xs.length with hlt | hge
 ·obtain ⟨e, he⟩ : ∃ e, xs[k]? = some e := ⟨_, List.getElem?_eq_getElem hlt⟩
  have hs := yae (f := Point.enc) (z := [.i 0, .i 0]) he
  have hd := yam (f := Point.enc) (z := [.i 0, .i 0]) (n := 2) rfl hlt
  simp only [Point.enc] at hs
  simp -dsimp -implicitDefEqProofs [he, yI hlt]
  refine fun _ => yJ (yu6 e ) (by simp) rfl ?_
  simp -dsimp -implicitDefEqProofs [yI hlt, yaf hk, hd, hs]
  exact ⟨hlt, yu hlt hlen, k + 1, hlt, by omega, by apply yj <;> simp [AV.yc, AV.yA, Obj.yc]⟩
 ·simp -dsimp -implicitDefEqProofs [yah hge]
  intro _
  rw [yad hge, List.take_of_length_le (by simp)]
theorem yzh (es fs : List Point) : yF Tryz.prog ygG [.c (.sl 2 (es.map Point.enc)), .c (.sl 2 (fs.map Point.enc))] (.c (.b (decide (es = fs)))) := by
 refine yt yqZ (by simp) fun hwf => ?_
 simp -dsimp -implicitDefEqProofs [ykP]
 intro hl1 hl2
 refine ⟨fun h e => h (by rw [e]), fun hlen => ?_⟩
 have hlen' : es.length = fs.length := by omega
 refine yh (ι := Nat) (fun k => k ≤ es.length ∧ es.take k = fs.take k) (fun k => yP [(0, .c (.sl 2 (es.map Point.enc))), (1, .c (.sl 2 (fs.map Point.enc))), (5, .c (.i k))] []) (fun k => es.length - k) 0 (by simp) (by apply yj <;> simp [AV.yc, AV.yA, Obj.yc]) ?_
 rintro k ⟨hk, htk⟩
 rcases Nat.lt_or_ge k es.length with hlt | hge
 ·obtain ⟨e, he⟩ : ∃ e, es[k]? = some e := ⟨_, List.getElem?_eq_getElem hlt⟩
  obtain ⟨f, hf⟩ : ∃ f, fs[k]? = some f := ⟨_, List.getElem?_eq_getElem (by omega)⟩
  simp -dsimp -implicitDefEqProofs [he, hf, yI hlt, yI (hlen' ▸ hlt)]
  intro _
  refine ⟨_, _, yBv e f, by simp, .inr rfl, ?_⟩
  simp -dsimp -implicitDefEqProofs
  refine ⟨fun h => ybl he hf h, fun h => ⟨yu hlt hl1, k + 1, ⟨hlt, yaI he hf htk h⟩, by omega, by apply yj <;> simp [AV.yc, AV.yA, Obj.yc]⟩⟩
 ·simp -dsimp -implicitDefEqProofs [yah hge]
  intro _
  exact ya5 hge hlen' htk
structure Reach where
 Table : List Point
 Volume : Int
 Pipe : List Int
 deriving DecidableEq, Inhabited
@[simp] def Reach.enc (e : Reach) : List C := [.sl 2 (e.Table.map Point.enc), .i e.Volume, .sl 1 (e.Pipe.map yac)]
-- Reach
def ycb (e : Reach) (l : Int) : Int := ybd (yjK e.Table l) fun l => ybd (ykO e.Pipe l) fun l => l
def Reach.small (e : Reach) : Prop := ygZ e.Table ∧ yow e.Pipe
theorem yqs : yeU ycb Reach.small := by
 intro e l h0 h1
 unfold ycb
 rcases yoL e.Table _ h0 h1 with e0 | ⟨a0, b0, s0⟩
 ·exact .inl (yM (by omega))
 rw [yw a0]
 rcases yfA e.Pipe _ a0 (by omega) with e1 | ⟨a1, b1, s1⟩
 ·exact .inl (yM (by omega))
 rw [yw a1]
 exact .inr ⟨a1, by omega, s0, s1⟩
theorem yzk (e : Reach) (l : Int) (h0 : 0 ≤ l) (h1 : l ≤ 1048576) : yF Tryz.prog yhA [.agg (e.enc.map .c), .c (.i l)] (.c (.i (ycb e l))) := by
 refine yt yty (by simp) fun hwf => ?_
 simp -dsimp -implicitDefEqProofs [ymh]
 refine yg (yxY e.Table _ h0 h1) (by simp) rfl ?_
 simp -dsimp -implicitDefEqProofs
 refine ⟨fun h => by simp [ycb, yM h], fun p0 => ?_⟩
 have q0 := yll yoL e.Table h0 h1 p0
 refine yg (ynq e.Pipe _ p0 q0) (by simp) rfl ?_
 simp -dsimp -implicitDefEqProofs
 refine ⟨fun h => by simp [ycb, yw p0, yM h], fun p1 => ?_⟩
 simp [ycb, yw p0, yw p1]
theorem yAS (e : Reach) (hl : Reach.small e) : yF Tryz.prog yeq [.agg (e.enc.map .c)] (.agg (e.enc.map .c)) := by
 refine yt ylH (by simp) fun hwf => ?_
 simp -dsimp -implicitDefEqProofs [yhb]
 refine yJ (yzE e.Table (hl.1)) (by simp) rfl ?_
 simp -dsimp -implicitDefEqProofs
 refine yJ (ypw e.Pipe (hl.2.1)) (by simp) rfl ?_
 simp -dsimp -implicitDefEqProofs
theorem yBy (a b : Reach) : yF Tryz.prog yhk [.agg (a.enc.map .c), .agg (b.enc.map .c)] (.c (.b (decide (a = b)))) := by
 refine yt ysK (by simp) fun hwf => ?_
 obtain ⟨a0, a1, a2⟩ := a
 obtain ⟨b0, b1, b2⟩ := b
 simp -dsimp -implicitDefEqProofs [ymz, Reach.mk.injEq]
 refine yg (yzh a0 b0) (by simp) rfl ?_
 simp -dsimp -implicitDefEqProofs
 refine ⟨fun h => by simp_all, fun h0 => ?_⟩
 refine ⟨fun h => by simp_all, fun h1 => ?_⟩
 refine yg (yo4 a2 b2) (by simp) rfl ?_
 simp -dsimp -implicitDefEqProofs
 refine ⟨fun h => by simp_all, fun h2 => ?_⟩
 simp_all
def yhG (p : Point) : Bool := inRange p.X 0 1000000000 && inRange p.Y 0 1000000000
def follows (a b : Point) : Bool := decide (a.X < b.X) && decide (a.Y ≤ b.Y)
def ykI (l : List Point) (k : Nat) : Bool :=
 match l[k]? with
 | some p => yhG p && (match k with
  | 0 => true
  | j + 1 => match l[j]? with
   | some q => follows q p
   | none => false)
 | none => true
def upTo (l : List Point) : Nat → Bool
 | 0 => true
 | k + 1 => upTo l k && ykI l k
def yay (l : List Point) : Bool := upTo l l.length && inRange l.length 2 20
theorem yjf {l : List Point} {p : Point} (h : l[0]? = some p) : ykI l 0 = yhG p := by simp [ykI, h]
theorem ydY {l : List Point} {k : Nat} {p q : Point} (h : l[k + 1]? = some p) (hq : l[k]? = some q) : ykI l (k + 1) = (yhG p && follows q p) := by simp [ykI, h, hq]
theorem ysp {l : List Point} : ∀ {k n : Nat}, k < n → ykI l k = false → upTo l n = false
 | k, 0, h, _ => by omega
 | k, n + 1, h, hs => by
  simp only [upTo]
  rcases Nat.lt_or_ge k n with h1 | h1
  ·rw [ysp h1 hs]; rfl
  ·have : k = n := by omega
   subst this
   rw [hs, Bool.and_false]
theorem ynr {l : List Point} {k : Nat} (h : upTo l k = true) (hs : ykI l k = true) : upTo l (k + 1) = true := by simp [upTo, h, hs]
theorem yrx {l : List Point} {k : Nat} (h : k < l.length) (hs : ykI l k = false) : yay l = false := by simp [yay, ysp h hs]
theorem yDn {l : List Point} (h : inRange l.length 2 20 = false) : yay l = false := by simp [yay, h]
end Go.Proofs.YtmimbhooaidelaaGreat
