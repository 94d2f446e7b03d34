/- What the law FnExactPourWater stands on: contracts of functions, what each answers as plain Lean, in short form (names, layout). -/
import Derived.Test.YtmimbhooaidelaaGreatSExactPourWater1
set_option linter.all false
namespace Go.Proofs.YtmimbhooaidelaaGreat
open Go.RowKit
def yos : SC:=.seq (.reg [ia 1 (.box 5 (.t 0)),bA 2 false]) (.seq (.reg [fA 3 0 1,lA 4 3,ia 5 (.call yG [.t 4,kI 1,kI 8]),iv 6 5,gA 6 true 7 1 1,hA 6 true 8 7,gA 6 true 9 0 1,hA 6 true 10 9,ig 6 true 11 (.bin .mul (kI 10) (.t 10)),ig 6 true 12 (.call yG [.t 8,kI 0,.t 11]),ia 13 (.pick (.t 6) (.t 12) (kB false)),iv 14 13,gA 14 true 15 2 1,hA 14 true 16 15,ig 14 true 17 (.call yG [.t 16,kI 1,kI 80]),ia 18 (.pick (.t 14) (.t 17) (kB false)),iv 19 18,gA 19 true 20 3 1,hA 19 true 21 20,ig 19 true 22 (.call yG [.t 21,kI 0,kI 100000]),ia 23 (.pick (.t 19) (.t 22) (kB false)),iv 24 23,gA 24 true 25 4 1,hA 24 true 26 25,ig 24 true 27 (.call yG [.t 26,kI 1,kI 1000]),ia 28 (.pick (.t 24) (.t 27) (kB false)),iv 2 28]) (.ret))
theorem yu3 : Has Tryz.prog yjD 29 yos [.t 2]:=⟨by decide,Tryz.f239,_,Tryz.func239,rfl,rfl,⟨none,by kernel_rfl⟩,by kernel_rfl⟩
def yoz : SC:=.seq (.reg [ia 1 (.box 3 (.t 0)),bA 2 false]) (.seq (.reg [fA 3 0 1,lA 4 3,ia 5 (.call ya2 [.t 4]),iv 6 5,gA 6 true 7 1 1,hA 6 true 8 7,ig 6 true 9 (.call ya2 [.t 8]),ia 10 (.pick (.t 6) (.t 9) (kB false)),iv 11 10,gA 11 true 12 2 1,hA 11 true 13 12,ig 11 true 14 (.call ya2 [.t 13]),ia 15 (.pick (.t 11) (.t 14) (kB false)),iv 16 15,gA 16 true 17 0 1,hA 16 true 18 17,gA 16 true 19 1 1,hA 16 true 20 19,ig 16 true 21 (.bin .lss (.t 18) (.t 20)),ia 22 (.pick (.t 16) (.t 21) (kB false)),iv 23 22,gA 23 true 24 1 1,hA 23 true 25 24,gA 23 true 26 2 1,hA 23 true 27 26,ig 23 true 28 (.bin .leq (.t 25) (.t 27)),ia 29 (.pick (.t 23) (.t 28) (kB false)),iv 2 29]) (.ret))
theorem yu4 : Has Tryz.prog yjF 30 yoz [.t 2]:=⟨by decide,Tryz.f240,_,Tryz.func240,rfl,rfl,⟨none,by kernel_rfl⟩,by kernel_rfl⟩
def ylV : SC:=.seq (.reg [bA 2 false]) (.seq (.reg [iv 3 0,ia 4 (.call yG [.t 3,kI 0,kI 100000]),iv 2 4]) (.ret))
theorem yrN : Has Tryz.prog ya2 5 ylV [.t 2]:=⟨by decide,Tryz.f241,_,Tryz.func241,rfl,rfl,⟨none,by kernel_rfl⟩,by kernel_rfl⟩
def ymM : SC:=.seq (.reg [bA 2 false]) (.seq (.seq (.reg [mA 3 0]) (.block 0 (.loop (.seq (.seq (.reg [iv 4 3,iv 5 0,nA 6 5,tA 7 4 6]) (.cond (.t 7) (.skip) (.exit 0))) (.seq (.block 1 (.seq (.regq [iv 10 0,iv 11 3,xA 12 2 10 11,fA 13 0 12,lA 14 13,ia 15 (.call yG [.t 14,kI 0,kI 1000000000]),ia 16 (.not (.t 15)),iv 17 16,ig 17 false 18 (.mv (.t 0)),ig 17 false 19 (.mv (.t 3)),ig 17 false 20 (.idx 2 (.t 18) (.t 19)),gA 17 false 21 1 20,hA 17 false 22 21,ig 17 false 23 (.call yG [.t 22,kI 0,kI 1000000000]),ig 17 false 24 (.not (.t 23)),ia 25 (.pick (.t 17) (kB true) (.t 24)),iv 26 25,ig 26 false 27 (.mv (.t 3)),ig 26 false 28 (.bin .gtr (.t 27) (kI 0)),ig 26 false 29 (.mv (.t 28)),ig 29 true 30 (.mv (.t 0)),ig 29 true 31 (.mv (.t 3)),ig 29 true 32 (.idx 2 (.t 30) (.t 31)),gA 29 true 33 0 32,hA 29 true 34 33,ig 29 true 35 (.mv (.t 0)),ig 29 true 36 (.mv (.t 3)),ig 29 true 37 (.bin .sub (.t 36) (kI 1)),ig 29 true 38 (.idx 2 (.t 35) (.t 37)),gA 29 true 39 0 38,hA 29 true 40 39,ig 29 true 41 (.bin .leq (.t 34) (.t 40)),ig 29 true 42 (.mv (.t 41)),ig 42 false 43 (.mv (.t 0)),ig 42 false 44 (.mv (.t 3)),ig 42 false 45 (.idx 2 (.t 43) (.t 44)),gA 42 false 46 1 45,hA 42 false 47 46,ig 42 false 48 (.mv (.t 0)),ig 42 false 49 (.mv (.t 3)),ig 42 false 50 (.bin .sub (.t 49) (kI 1)),ig 42 false 51 (.idx 2 (.t 48) (.t 50)),gA 42 false 52 1 51,hA 42 false 53 52,ig 42 false 54 (.bin .lss (.t 47) (.t 53)),ig 29 true 55 (.pick (.t 42) (kB true) (.t 54)),ig 26 false 56 (.pick (.t 29) (.t 55) (kB false)),ia 57 (.pick (.t 26) (kB true) (.t 56))]) (.cond (.t 57) (.seq (.reg [bA 2 false]) (.ret)) (.skip)))) (.reg [iv 8 3,pA 9 8 1,iv 3 9])))))) (.seq (.reg [iv 58 0,nA 59 58,ia 60 (.call yG [.t 59,kI 2,kI 20]),iv 2 60]) (.ret)))
theorem ysU : Has Tryz.prog yiE 61 ymM [.t 2]:=⟨by decide,Tryz.f247,_,Tryz.func247,rfl,rfl,⟨none,by kernel_rfl⟩,by kernel_rfl⟩
def yl3 : SC:=.seq (.reg [bA 2 false]) (.seq (.reg [mA 3 0]) (.seq (.seq (.reg [mA 4 0]) (.block 0 (.loop (.seq (.seq (.reg [iv 5 4,iv 6 0,nA 7 6,tA 8 5 7]) (.cond (.t 8) (.skip) (.exit 0))) (.seq (.block 1 (.seq (.seq (.regq [iv 11 0,iv 12 4,xA 13 2 11 12,fA 14 0 13,lA 15 14,iv 16 3,tA 17 15 16,iv 18 17,ig 18 false 19 (.mv (.t 0)),ig 18 false 20 (.mv (.t 4)),ig 18 false 21 (.idx 2 (.t 19) (.t 20)),gA 18 false 22 1 21,hA 18 false 23 22,ig 18 false 24 (.mv (.t 0)),ig 18 false 25 (.mv (.t 4)),ig 18 false 26 (.idx 2 (.t 24) (.t 25)),gA 18 false 27 0 26,hA 18 false 28 27,ig 18 false 29 (.bin .leq (.t 23) (.t 28)),ia 30 (.pick (.t 18) (kB true) (.t 29)),iv 31 30,ig 31 false 32 (.mv (.t 0)),ig 31 false 33 (.mv (.t 4)),ig 31 false 34 (.idx 2 (.t 32) (.t 33)),gA 31 false 35 1 34,hA 31 false 36 35,ig 31 false 37 (.bin .gtr (.t 36) (kI 1000000)),ia 38 (.pick (.t 31) (kB true) (.t 37))]) (.cond (.t 38) (.seq (.reg [bA 2 false]) (.ret)) (.skip))) (.reg [iv 39 0,iv 40 4,xA 41 2 39 40,fA 42 1 41,lA 43 42,iv 3 43]))) (.reg [iv 9 4,pA 10 9 1,iv 4 10])))))) (.seq (.reg [iv 44 0,nA 45 44,ia 46 (.bin .leq (.t 45) (kI 8)),iv 2 46]) (.ret))))
theorem ysc : Has Tryz.prog ygK 47 yl3 [.t 2]:=⟨by decide,Tryz.f269,_,Tryz.func269,rfl,rfl,⟨none,by kernel_rfl⟩,by kernel_rfl⟩
def yng : SC:=.seq (.reg [bA 2 false]) (.seq (.seq (.reg [iv 6 0,nA 7 6,ia 8 (.bin .lss (.t 7) (kI 1)),iv 9 8,ig 9 false 10 (.mv (.t 0)),ig 9 false 11 (.len (.t 10)),ig 9 false 12 (.bin .gtr (.t 11) (kI 6)),ia 13 (.pick (.t 9) (kB true) (.t 12))]) (.cond (.t 13) (.seq (.reg [bA 2 false]) (.ret)) (.skip))) (.seq (.reg [mA 3 0]) (.seq (.seq (.reg [iv 14 0,nA 15 14,mA 16 0]) (.block 0 (.loop (.seq (.reg [tA 17 16 15]) (.seq (.cond (.t 17) (.skip) (.exit 0)) (.seq (.block 1 (.seq (.reg [xA 18 3 14 16,dA 19 3 18,ia 5 (.alloc [.nil 2,.c (.i 0),.nil 1]),ie (.stn 3 (.t 5) (.t 19))]) (.seq (.seq (.reg [dA 20 3 5,ia 21 (.call ybS [.t 20]),ia 22 (.not (.t 21))]) (.cond (.t 22) (.seq (.reg [bA 2 false]) (.ret)) (.skip))) (.reg [iv 23 3,dA 24 3 5,ia 25 (.call yfj [.t 24]),ia 26 (.bin .add (.t 23) (.t 25)),iv 3 26])))) (.reg [pA 27 16 1,iv 16 27]))))))) (.seq (.reg [iv 28 3,ia 29 (.bin .leq (.t 28) (kI 1000000000)),iv 2 29]) (.ret)))))
theorem ysC : Has Tryz.prog yig 30 yng [.t 2]:=⟨by decide,Tryz.f274,_,Tryz.func274,rfl,rfl,⟨none,by kernel_rfl⟩,by kernel_rfl⟩
def ymx : SC:=.seq (.reg [ia 1 (.box 3 (.t 0)),mA 2 0]) (.seq (.seq (.reg [dA 6 3 1,ia 7 (.call ybS [.t 6]),ia 8 (.not (.t 7))]) (.cond (.t 8) (.seq (.reg [mA 2 0]) (.ret)) (.skip))) (.seq (.reg [fA 9 1 1,lA 10 9,iv 3 10]) (.seq (.seq (.reg [fA 11 2 1,lA 12 11,nA 13 12,mA 14 0]) (.block 0 (.loop (.seq (.reg [tA 15 14 13]) (.seq (.cond (.t 15) (.skip) (.exit 0)) (.seq (.block 1 (.seq (.reg [xA 16 1 12 14,lA 17 16,iv 5 17]) (.reg [iv 18 3,iv 19 5,ia 20 (.bin .add (.t 18) (.t 19)),iv 3 20]))) (.reg [pA 21 14 1,iv 14 21]))))))) (.seq (.reg [iv 22 3,iv 2 22]) (.ret)))))
theorem yth : Has Tryz.prog yfj 23 ymx [.t 2]:=⟨by decide,Tryz.f275,_,Tryz.func275,rfl,rfl,⟨none,by kernel_rfl⟩,by kernel_rfl⟩
def ypS : SC:=.seq (.reg [ia 1 (.box 2 (.t 0)),bA 2 false]) (.seq (.reg [fA 3 0 1,lA 4 3,ia 5 (.call yC [.t 4,kI 1,kI 10000]),iv 6 5,gA 6 true 7 1 1,hA 6 true 8 7,ig 6 true 9 (.call yC [.t 8,kI 0,kI 100000]),ia 10 (.pick (.t 6) (.t 9) (kB false)),iv 2 10]) (.ret))
theorem ywz : Has Tryz.prog yhy 11 ypS [.t 2]:=⟨by decide,Tryz.f276,_,Tryz.func276,rfl,rfl,⟨none,by kernel_rfl⟩,by kernel_rfl⟩
def ymR : SC:=.seq (.reg [ia 2 (.box 3 (.t 0)),ia 3 (.box 2 (.t 1)),bA 4 false]) (.seq (.reg [dA 5 2 3,ia 6 (.call yhy [.t 5]),iv 7 6,gA 7 true 8 0 2,ig 7 true 9 (.ldn 2 (.t 8)),ig 7 true 10 (.call ybu [.t 9]),ia 11 (.pick (.t 7) (.t 10) (kB false)),iv 12 11,gA 12 true 13 2 2,hA 12 true 14 13,gA 12 true 15 0 3,hA 12 true 16 15,ig 12 true 17 (.call yC [.t 14,kI 0,.t 16]),ia 18 (.pick (.t 12) (.t 17) (kB false)),iv 4 18]) (.ret))
theorem ysB : Has Tryz.prog yiF 19 ymR [.t 4]:=⟨by decide,Tryz.f277,_,Tryz.func277,rfl,rfl,⟨none,by kernel_rfl⟩,by kernel_rfl⟩
def yoU : SC:=.seq (.reg [ia 1 (.box 22 (.t 0)),bA 2 false]) (.seq (.seq (.reg [fA 5 0 1,dA 6 10 5,ia 7 (.call yj7 [.t 6]),ia 8 (.not (.t 7)),iv 9 8,gA 9 false 10 10 1,ig 9 false 11 (.ldn 5 (.t 10)),ig 9 false 12 (.call yj1 [.t 11]),ig 9 false 13 (.not (.t 12)),ia 14 (.pick (.t 9) (kB true) (.t 13)),iv 15 14,gA 15 false 16 15 1,ig 15 false 17 (.ldn 3 (.t 16)),ig 15 false 18 (.call yj2 [.t 17]),ig 15 false 19 (.not (.t 18)),ia 20 (.pick (.t 15) (kB true) (.t 19)),iv 21 20,gA 21 false 22 18 1,hA 21 false 23 22,ig 21 false 24 (.call ygE [.t 23]),ig 21 false 25 (.not (.t 24)),ia 26 (.pick (.t 21) (kB true) (.t 25)),iv 27 26,gA 27 false 28 19 1,ig 27 false 29 (.ldn 2 (.t 28)),ig 27 false 30 (.call yjz [.t 29]),ig 27 false 31 (.not (.t 30)),ia 32 (.pick (.t 27) (kB true) (.t 31))]) (.cond (.t 32) (.seq (.reg [bA 2 false]) (.ret)) (.skip))) (.seq (.seq (.reg [fA 33 21 1,lA 34 33,nA 35 34,ia 36 (.bin .gtr (.t 35) (kI 24))]) (.cond (.t 36) (.seq (.reg [bA 2 false]) (.ret)) (.skip))) (.seq (.seq (.reg [fA 37 21 1,lA 38 37,nA 39 38,mA 40 0]) (.block 0 (.loop (.seq (.reg [tA 41 40 39]) (.seq (.cond (.t 41) (.skip) (.exit 0)) (.seq (.block 1 (.seq (.reg [xA 42 4 38 40,dA 43 4 42,ia 4 (.alloc [.c (.b false),.nil 1,.c (.i 0),.c (.i 0)]),ie (.stn 4 (.t 4) (.t 43))]) (.seq (.reg [dA 44 4 4,ia 45 (.call yjU [.t 44]),ia 46 (.not (.t 45))]) (.cond (.t 46) (.seq (.reg [bA 2 false]) (.ret)) (.skip))))) (.reg [pA 47 40 1,iv 40 47]))))))) (.seq (.reg [bA 2 true]) (.ret)))))
theorem yuB : Has Tryz.prog yjs 48 yoU [.t 2]:=⟨by decide,Tryz.f278,_,Tryz.func278,rfl,rfl,⟨none,by kernel_rfl⟩,by kernel_rfl⟩
def ymG : SC:=.seq (.reg [ia 1 (.box 5 (.t 0)),bA 2 false]) (.seq (.reg [fA 3 0 1,lA 4 3,fA 5 1 1,lA 6 5,ia 7 (.bin .neq (.t 4) (.t 6)),iv 8 7,gA 8 true 9 0 1,hA 8 true 10 9,ig 8 true 11 (.call yC [.t 10,kI 0,kI 11]),ia 12 (.pick (.t 8) (.t 11) (kB false)),iv 13 12,gA 13 true 14 1 1,hA 13 true 15 14,ig 13 true 16 (.call yC [.t 15,kI 0,kI 11]),ia 17 (.pick (.t 13) (.t 16) (kB false)),iv 18 17,gA 18 true 19 2 1,hA 18 true 20 19,ig 18 true 21 (.call yC [.t 20,kI 1,kI 1000000000]),ia 22 (.pick (.t 18) (.t 21) (kB false)),iv 23 22,gA 23 true 24 3 1,hA 23 true 25 24,ig 23 true 26 (.call yC [.t 25,kI 0,kI 1000000]),ia 27 (.pick (.t 23) (.t 26) (kB false)),iv 28 27,gA 28 true 29 4 1,hA 28 true 30 29,ig 28 true 31 (.call yC [.t 30,kI 0,kI 9999]),ia 32 (.pick (.t 28) (.t 31) (kB false)),iv 2 32]) (.ret))
theorem ysr : Has Tryz.prog yhS 33 ymG [.t 2]:=⟨by decide,Tryz.f279,_,Tryz.func279,rfl,rfl,⟨none,by kernel_rfl⟩,by kernel_rfl⟩
def ynE : SC:=.seq (.reg [bA 2 false]) (.seq (.reg [mA 3 0]) (.seq (.seq (.reg [mA 4 0]) (.block 0 (.loop (.seq (.seq (.reg [iv 5 4,iv 6 0,nA 7 6,tA 8 5 7]) (.cond (.t 8) (.skip) (.exit 0))) (.seq (.block 1 (.seq (.seq (.reg [iv 11 0,iv 12 4,xA 13 3 11 12,dA 14 3 13,ia 15 (.call ycy [.t 14]),ia 16 (.not (.t 15))]) (.cond (.t 16) (.seq (.reg [bA 2 false]) (.ret)) (.skip))) (.reg [iv 17 3,iv 18 0,iv 19 4,xA 20 3 18 19,dA 21 3 20,ia 22 (.call ydS [.t 21]),ia 23 (.bin .add (.t 17) (.t 22)),ia 24 (.mn [.t 23,kI 1000000001]),iv 3 24]))) (.reg [iv 9 4,pA 10 9 1,iv 4 10])))))) (.seq (.reg [iv 25 0,nA 26 25,ia 27 (.call yG [.t 26,kI 1,kI 6]),iv 28 27,ig 28 true 29 (.mv (.t 3)),ig 28 true 30 (.bin .leq (.t 29) (kI 1000000000)),ia 31 (.pick (.t 28) (.t 30) (kB false)),iv 2 31]) (.ret))))
theorem ytp : Has Tryz.prog yie 32 ynE [.t 2]:=⟨by decide,Tryz.f283,_,Tryz.func283,rfl,rfl,⟨none,by kernel_rfl⟩,by kernel_rfl⟩
def yqe : SC:=.seq (.reg [ia 1 (.box 2 (.t 0)),bA 2 false]) (.seq (.reg [fA 3 0 1,lA 4 3,ia 5 (.call yG [.t 4,kI 1,kI 10000]),iv 6 5,gA 6 true 7 1 1,hA 6 true 8 7,ig 6 true 9 (.call ya2 [.t 8]),ia 10 (.pick (.t 6) (.t 9) (kB false)),iv 2 10]) (.ret))
theorem yxg : Has Tryz.prog yhv 11 yqe [.t 2]:=⟨by decide,Tryz.f284,_,Tryz.func284,rfl,rfl,⟨none,by kernel_rfl⟩,by kernel_rfl⟩
def yoE : SC:=.seq (.reg [ia 1 (.box 22 (.t 0)),bA 2 false]) (.seq (.seq (.reg [mA 3 0]) (.block 0 (.loop (.seq (.seq (.reg [iv 4 3,fA 5 21 1,lA 6 5,nA 7 6,tA 8 4 7]) (.cond (.t 8) (.skip) (.exit 0))) (.seq (.block 1 (.seq (.reg [fA 11 21 1,lA 12 11,iv 13 3,xA 14 4 12 13,dA 15 4 14,ia 16 (.call yjC [.t 15]),ia 17 (.not (.t 16))]) (.cond (.t 17) (.seq (.reg [bA 2 false]) (.ret)) (.skip)))) (.reg [iv 9 3,pA 10 9 1,iv 3 10])))))) (.seq (.reg [fA 18 21 1,lA 19 18,nA 20 19,ia 21 (.bin .leq (.t 20) (kI 24)),iv 22 21,gA 22 true 23 0 1,ig 22 true 24 (.ldn 10 (.t 23)),ig 22 true 25 (.call yj5 [.t 24]),ia 26 (.pick (.t 22) (.t 25) (kB false)),iv 27 26,gA 27 true 28 10 1,ig 27 true 29 (.ldn 5 (.t 28)),ig 27 true 30 (.call yjD [.t 29]),ia 31 (.pick (.t 27) (.t 30) (kB false)),iv 32 31,gA 32 true 33 15 1,ig 32 true 34 (.ldn 3 (.t 33)),ig 32 true 35 (.call yjF [.t 34]),ia 36 (.pick (.t 32) (.t 35) (kB false)),iv 37 36,gA 37 true 38 18 1,hA 37 true 39 38,ig 37 true 40 (.call ygK [.t 39]),ia 41 (.pick (.t 37) (.t 40) (kB false)),iv 42 41,gA 42 true 43 19 1,ig 42 true 44 (.ldn 2 (.t 43)),ig 42 true 45 (.call yjP [.t 44]),ia 46 (.pick (.t 42) (.t 45) (kB false)),iv 2 46]) (.ret)))
theorem yuZ : Has Tryz.prog yjW 47 yoE [.t 2]:=⟨by decide,Tryz.f285,_,Tryz.func285,rfl,rfl,⟨none,by kernel_rfl⟩,by kernel_rfl⟩
def ynu : SC:=.seq (.reg [ia 1 (.box 5 (.t 0)),bA 2 false]) (.seq (.reg [fA 3 0 1,lA 4 3,fA 5 1 1,lA 6 5,ia 7 (.bin .neq (.t 4) (.t 6)),iv 8 7,gA 8 true 9 0 1,hA 8 true 10 9,ig 8 true 11 (.call yG [.t 10,kI 0,kI 11]),ia 12 (.pick (.t 8) (.t 11) (kB false)),iv 13 12,gA 13 true 14 1 1,hA 13 true 15 14,ig 13 true 16 (.call yG [.t 15,kI 0,kI 11]),ia 17 (.pick (.t 13) (.t 16) (kB false)),iv 18 17,gA 18 true 19 2 1,hA 18 true 20 19,ig 18 true 21 (.call yG [.t 20,kI 1,kI 1000000000]),ia 22 (.pick (.t 18) (.t 21) (kB false)),iv 23 22,gA 23 true 24 3 1,hA 23 true 25 24,ig 23 true 26 (.call yG [.t 25,kI 0,kI 1000000]),ia 27 (.pick (.t 23) (.t 26) (kB false)),iv 28 27,gA 28 true 29 4 1,hA 28 true 30 29,ig 28 true 31 (.call yG [.t 30,kI 0,kI 9999]),ia 32 (.pick (.t 28) (.t 31) (kB false)),iv 2 32]) (.ret))
theorem yt0 : Has Tryz.prog yiG 33 ynu [.t 2]:=⟨by decide,Tryz.f286,_,Tryz.func286,rfl,rfl,⟨none,by kernel_rfl⟩,by kernel_rfl⟩
def yol : SC:=.seq (.reg [ia 1 (.box 3 (.t 0)),mA 2 0]) (.seq (.reg [fA 5 1 1,lA 6 5,iv 3 6]) (.seq (.seq (.reg [mA 4 0]) (.block 0 (.loop (.seq (.seq (.reg [iv 7 4,fA 8 2 1,lA 9 8,nA 10 9,tA 11 7 10]) (.cond (.t 11) (.skip) (.exit 0))) (.seq (.block 1 (.reg [iv 14 3,fA 15 2 1,lA 16 15,iv 17 4,xA 18 1 16 17,lA 19 18,ia 20 (.bin .add (.t 14) (.t 19)),iv 3 20])) (.reg [iv 12 4,pA 13 12 1,iv 4 13])))))) (.seq (.reg [iv 21 3,iv 2 21]) (.ret))))
theorem yvf : Has Tryz.prog ydS 22 yol [.t 2]:=⟨by decide,Tryz.f287,_,Tryz.func287,rfl,rfl,⟨none,by kernel_rfl⟩,by kernel_rfl⟩
def yl9 : SC:=.seq (.reg [ia 2 (.mv (.k (.nil 1)))]) (.seq (.reg [ia 3 (.mv (.k (.nil 1)))]) (.seq (.seq (.reg [iv 6 0,nA 7 6,mA 8 0]) (.block 0 (.loop (.seq (.reg [tA 9 8 7]) (.seq (.cond (.t 9) (.skip) (.exit 0)) (.seq (.block 1 (.seq (.reg [xA 10 1 6 8,lA 11 10,iv 5 11]) (.reg [iv 12 3,iv 13 5,ia 14 (.call yaU [.t 13]),ia 15 (.bsl 1 [.t 14]),ia 16 (.app 1 24 (.t 12) (.t 15)),iv 3 16]))) (.reg [pA 17 8 1,iv 8 17]))))))) (.seq (.reg [iv 18 3,iv 2 18]) (.ret))))
theorem yrQ : Has Tryz.prog yg3 19 yl9 [.t 2]:=⟨by decide,Tryz.f288,_,Tryz.func288,rfl,rfl,⟨none,by kernel_rfl⟩,by kernel_rfl⟩
def ymY : SC:=.seq (.reg [ia 1 (.box 3 (.t 0)),bA 2 false]) (.seq (.seq (.reg [fA 6 0 1,lA 7 6,ia 8 (.call yhR [.t 7]),ia 9 (.not (.t 8)),iv 10 9,gA 10 false 11 1 1,hA 10 false 12 11,ig 10 false 13 (.call yC [.t 12,kI 0,kI 1000000000]),ig 10 false 14 (.not (.t 13)),ia 15 (.pick (.t 10) (kB true) (.t 14)),iv 16 15,gA 16 false 17 2 1,hA 16 false 18 17,ig 16 false 19 (.len (.t 18)),ig 16 false 20 (.bin .gtr (.t 19) (kI 12)),ia 21 (.pick (.t 16) (kB true) (.t 20))]) (.cond (.t 21) (.seq (.reg [bA 2 false]) (.ret)) (.skip))) (.seq (.reg [fA 22 1 1,lA 23 22,ia 24 (.bin .sub (kI 1000000000) (.t 23)),iv 3 24]) (.seq (.seq (.reg [fA 25 2 1,lA 26 25,nA 27 26,mA 28 0]) (.block 0 (.loop (.seq (.reg [tA 29 28 27]) (.seq (.cond (.t 29) (.skip) (.exit 0)) (.seq (.block 1 (.seq (.reg [xA 30 1 26 28,lA 31 30,iv 5 31]) (.seq (.seq (.reg [iv 32 5,ia 33 (.bin .lss (.t 32) (kI 0)),iv 34 33,ig 34 false 35 (.mv (.t 5)),ig 34 false 36 (.mv (.t 3)),ig 34 false 37 (.bin .gtr (.t 35) (.t 36)),ia 38 (.pick (.t 34) (kB true) (.t 37))]) (.cond (.t 38) (.seq (.reg [bA 2 false]) (.ret)) (.skip))) (.reg [iv 39 3,iv 40 5,ia 41 (.bin .sub (.t 39) (.t 40)),iv 3 41])))) (.reg [pA 42 28 1,iv 28 42]))))))) (.seq (.reg [bA 2 true]) (.ret)))))
theorem yum : Has Tryz.prog ybS 43 ymY [.t 2]:=⟨by decide,Tryz.f289,_,Tryz.func289,rfl,rfl,⟨none,by kernel_rfl⟩,by kernel_rfl⟩
def yfB : SC:=.seq (.reg [bA 2 false]) (.seq (.seq (.reg [iv 8 0,nA 9 8,ia 10 (.bin .gtr (.t 9) (kI 8))]) (.cond (.t 10) (.seq (.reg [bA 2 false]) (.ret)) (.skip))) (.seq (.reg [ia 3 (.mv (.k (.nil 1)))]) (.seq (.seq (.reg [iv 11 0,nA 12 11,mA 13 0]) (.block 0 (.loop (.seq (.reg [tA 14 13 12]) (.seq (.cond (.t 14) (.skip) (.exit 0)) (.seq (.block 1 (.seq (.reg [xA 15 2 11 13,dA 16 2 15,ia 5 (.alloc [.c (.b false),.nil 1]),ie (.stn 2 (.t 5) (.t 16))]) (.seq (.seq (.reg [dA 17 2 5,ia 18 (.call ybu [.t 17]),ia 19 (.not (.t 18))]) (.cond (.t 19) (.seq (.reg [bA 2 false]) (.ret)) (.skip))) (.seq (.reg [dA 20 2 5,ia 21 (.call ylb [.t 20]),nA 22 21,mA 23 0]) (.block 2 (.loop (.seq (.reg [tA 24 23 22]) (.seq (.cond (.t 24) (.skip) (.exit 2)) (.seq (.block 3 (.seq (.reg [xA 25 1 21 23,lA 26 25,iv 7 26]) (.seq (.seq (.reg [iv 27 3,iv 28 7,ia 29 (.call ya4 [.t 27,.t 28])]) (.cond (.t 29) (.seq (.reg [bA 2 false]) (.ret)) (.skip))) (.reg [iv 30 3,iv 31 7,ia 32 (.bsl 1 [.t 31]),ia 33 (.app 1 8 (.t 30) (.t 32)),iv 3 33])))) (.reg [pA 34 23 1,iv 23 34])))))))))) (.reg [pA 35 13 1,iv 13 35]))))))) (.seq (.reg [bA 2 true]) (.ret)))))
theorem ymm : Has Tryz.prog yc3 36 yfB [.t 2]:=⟨by decide,Tryz.f291,_,Tryz.func291,rfl,rfl,⟨none,by kernel_rfl⟩,by kernel_rfl⟩
def yoM : SC:=.seq (.reg [ia 1 (.box 5 (.t 0)),bA 2 false]) (.seq (.reg [fA 3 0 1,lA 4 3,ia 5 (.call yC [.t 4,kI 1,kI 8]),iv 6 5,gA 6 true 7 1 1,hA 6 true 8 7,gA 6 true 9 0 1,hA 6 true 10 9,ig 6 true 11 (.bin .mul (kI 10) (.t 10)),ig 6 true 12 (.call yC [.t 8,kI 0,.t 11]),ia 13 (.pick (.t 6) (.t 12) (kB false)),iv 14 13,gA 14 true 15 2 1,hA 14 true 16 15,ig 14 true 17 (.call yC [.t 16,kI 1,kI 80]),ia 18 (.pick (.t 14) (.t 17) (kB false)),iv 19 18,gA 19 true 20 3 1,hA 19 true 21 20,ig 19 true 22 (.call yC [.t 21,kI 0,kI 100000]),ia 23 (.pick (.t 19) (.t 22) (kB false)),iv 24 23,gA 24 true 25 4 1,hA 24 true 26 25,ig 24 true 27 (.call yC [.t 26,kI 1,kI 1000]),ia 28 (.pick (.t 24) (.t 27) (kB false)),iv 2 28]) (.ret))
theorem yuC : Has Tryz.prog yj1 29 yoM [.t 2]:=⟨by decide,Tryz.f311,_,Tryz.func311,rfl,rfl,⟨none,by kernel_rfl⟩,by kernel_rfl⟩
def yoD : SC:=.seq (.reg [ia 1 (.box 3 (.t 0)),bA 2 false]) (.seq (.reg [fA 3 0 1,lA 4 3,ia 5 (.call yC [.t 4,kI 0,kI 100000]),iv 6 5,gA 6 true 7 1 1,hA 6 true 8 7,ig 6 true 9 (.call yC [.t 8,kI 0,kI 100000]),ia 10 (.pick (.t 6) (.t 9) (kB false)),iv 11 10,gA 11 true 12 2 1,hA 11 true 13 12,ig 11 true 14 (.call yC [.t 13,kI 0,kI 100000]),ia 15 (.pick (.t 11) (.t 14) (kB false)),iv 16 15,gA 16 true 17 0 1,hA 16 true 18 17,gA 16 true 19 1 1,hA 16 true 20 19,ig 16 true 21 (.bin .lss (.t 18) (.t 20)),ia 22 (.pick (.t 16) (.t 21) (kB false)),iv 23 22,gA 23 true 24 1 1,hA 23 true 25 24,gA 23 true 26 2 1,hA 23 true 27 26,ig 23 true 28 (.bin .leq (.t 25) (.t 27)),ia 29 (.pick (.t 23) (.t 28) (kB false)),iv 2 29]) (.ret))
theorem yuJ : Has Tryz.prog yj2 30 yoD [.t 2]:=⟨by decide,Tryz.f312,_,Tryz.func312,rfl,rfl,⟨none,by kernel_rfl⟩,by kernel_rfl⟩
def ynv : SC:=.seq (.reg [bA 2 false]) (.seq (.seq (.reg [iv 5 0,nA 6 5,ia 7 (.bin .lss (.t 6) (kI 2)),iv 8 7,ig 8 false 9 (.mv (.t 0)),ig 8 false 10 (.len (.t 9)),ig 8 false 11 (.bin .gtr (.t 10) (kI 20)),ia 12 (.pick (.t 8) (kB true) (.t 11))]) (.cond (.t 12) (.seq (.reg [bA 2 false]) (.ret)) (.skip))) (.seq (.seq (.reg [iv 13 0,nA 14 13,mA 15 0]) (.block 0 (.loop (.seq (.reg [tA 16 15 14]) (.seq (.cond (.t 16) (.skip) (.exit 0)) (.seq (.block 1 (.seq (.reg [iv 17 15,xA 18 2 13 15,dA 19 2 18,ia 4 (.alloc [.c (.i 0),.c (.i 0)]),iv 3 17,ie (.stn 2 (.t 4) (.t 19))]) (.seq (.seq (.reg [fA 20 0 4,lA 21 20,ia 22 (.call yC [.t 21,kI 0,kI 1000000000]),ia 23 (.not (.t 22)),iv 24 23,gA 24 false 25 1 4,hA 24 false 26 25,ig 24 false 27 (.call yC [.t 26,kI 0,kI 1000000000]),ig 24 false 28 (.not (.t 27)),ia 29 (.pick (.t 24) (kB true) (.t 28))]) (.cond (.t 29) (.seq (.reg [bA 2 false]) (.ret)) (.skip))) (.seq (.regq [iv 30 3,ia 31 (.bin .gtr (.t 30) (kI 0)),iv 32 31,ig 32 true 33 (.mv (.t 0)),ig 32 true 34 (.mv (.t 3)),ig 32 true 35 (.bin .sub (.t 34) (kI 1)),ig 32 true 36 (.idx 2 (.t 33) (.t 35)),gA 32 true 37 0 36,hA 32 true 38 37,gA 32 true 39 0 4,hA 32 true 40 39,ig 32 true 41 (.bin .geq (.t 38) (.t 40)),ig 32 true 42 (.mv (.t 41)),ig 42 false 43 (.mv (.t 0)),ig 42 false 44 (.mv (.t 3)),ig 42 false 45 (.bin .sub (.t 44) (kI 1)),ig 42 false 46 (.idx 2 (.t 43) (.t 45)),gA 42 false 47 1 46,hA 42 false 48 47,gA 42 false 49 1 4,hA 42 false 50 49,ig 42 false 51 (.bin .gtr (.t 48) (.t 50)),ig 32 true 52 (.pick (.t 42) (kB true) (.t 51)),ia 53 (.pick (.t 32) (.t 52) (kB false))]) (.cond (.t 53) (.seq (.reg [bA 2 false]) (.ret)) (.skip)))))) (.reg [pA 54 15 1,iv 15 54]))))))) (.seq (.reg [bA 2 true]) (.ret))))
theorem ysM : Has Tryz.prog yhR 55 ynv [.t 2]:=⟨by decide,Tryz.f318,_,Tryz.func318,rfl,rfl,⟨none,by kernel_rfl⟩,by kernel_rfl⟩
def yoQ : SC:=.seq (.reg [ia 1 (.box 2 (.t 0)),bA 2 false]) (.seq (.reg [fA 3 1 1,lA 4 3,ia 5 (.call yG [.t 4,kI 0,kI 1000000]),iv 2 5]) (.ret))
theorem yuQ : Has Tryz.prog yjP 6 yoQ [.t 2]:=⟨by decide,Tryz.f320,_,Tryz.func320,rfl,rfl,⟨none,by kernel_rfl⟩,by kernel_rfl⟩
def yok : SC:=.seq (.reg [ia 1 (.box 10 (.t 0)),bA 2 false]) (.seq (.reg [fA 3 0 1,lA 4 3,ia 5 (.call yG [.t 4,kI 1,kI 1000]),iv 6 5,gA 6 true 7 1 1,hA 6 true 8 7,ig 6 true 9 (.call yG [.t 8,kI 1,kI 100]),ia 10 (.pick (.t 6) (.t 9) (kB false)),iv 11 10,gA 11 true 12 2 1,hA 11 true 13 12,ig 11 true 14 (.call ya2 [.t 13]),ia 15 (.pick (.t 11) (.t 14) (kB false)),iv 16 15,gA 16 true 17 3 1,hA 16 true 18 17,ig 16 true 19 (.call ya2 [.t 18]),ia 20 (.pick (.t 16) (.t 19) (kB false)),iv 21 20,gA 21 true 22 4 1,hA 21 true 23 22,ig 21 true 24 (.call ya2 [.t 23]),ia 25 (.pick (.t 21) (.t 24) (kB false)),iv 26 25,gA 26 true 27 5 1,hA 26 true 28 27,ig 26 true 29 (.call yG [.t 28,kI 1,kI 10000]),ia 30 (.pick (.t 26) (.t 29) (kB false)),iv 31 30,gA 31 true 32 6 1,hA 31 true 33 32,ig 31 true 34 (.call yG [.t 33,kI 1,kI 100000]),ia 35 (.pick (.t 31) (.t 34) (kB false)),iv 36 35,gA 36 true 37 7 1,hA 36 true 38 37,ig 36 true 39 (.call yG [.t 38,kI 0,kI 1000000000]),ia 40 (.pick (.t 36) (.t 39) (kB false)),iv 41 40,gA 41 true 42 8 1,hA 41 true 43 42,ig 41 true 44 (.call yG [.t 43,kI 0,kI 2]),ia 45 (.pick (.t 41) (.t 44) (kB false)),iv 46 45,gA 46 true 47 9 1,hA 46 true 48 47,ig 46 true 49 (.call yfR [.t 48]),ia 50 (.pick (.t 46) (.t 49) (kB false)),iv 2 50]) (.ret))
theorem yvq : Has Tryz.prog yj5 51 yok [.t 2]:=⟨by decide,Tryz.f321,_,Tryz.func321,rfl,rfl,⟨none,by kernel_rfl⟩,by kernel_rfl⟩
def yoB : SC:=.seq (.reg [ia 1 (.box 10 (.t 0)),bA 2 false]) (.seq (.reg [fA 3 0 1,lA 4 3,ia 5 (.call yC [.t 4,kI 1,kI 1000]),iv 6 5,gA 6 true 7 1 1,hA 6 true 8 7,ig 6 true 9 (.call yC [.t 8,kI 1,kI 100]),ia 10 (.pick (.t 6) (.t 9) (kB false)),iv 11 10,gA 11 true 12 2 1,hA 11 true 13 12,ig 11 true 14 (.call yC [.t 13,kI 0,kI 100000]),ia 15 (.pick (.t 11) (.t 14) (kB false)),iv 16 15,gA 16 true 17 3 1,hA 16 true 18 17,ig 16 true 19 (.call yC [.t 18,kI 0,kI 100000]),ia 20 (.pick (.t 16) (.t 19) (kB false)),iv 21 20,gA 21 true 22 4 1,hA 21 true 23 22,ig 21 true 24 (.call yC [.t 23,kI 0,kI 100000]),ia 25 (.pick (.t 21) (.t 24) (kB false)),iv 26 25,gA 26 true 27 5 1,hA 26 true 28 27,ig 26 true 29 (.call yC [.t 28,kI 1,kI 10000]),ia 30 (.pick (.t 26) (.t 29) (kB false)),iv 31 30,gA 31 true 32 6 1,hA 31 true 33 32,ig 31 true 34 (.call yC [.t 33,kI 1,kI 100000]),ia 35 (.pick (.t 31) (.t 34) (kB false)),iv 36 35,gA 36 true 37 7 1,hA 36 true 38 37,ig 36 true 39 (.call yC [.t 38,kI 0,kI 1000000000]),ia 40 (.pick (.t 36) (.t 39) (kB false)),iv 41 40,gA 41 true 42 8 1,hA 41 true 43 42,ig 41 true 44 (.call yC [.t 43,kI 0,kI 2]),ia 45 (.pick (.t 41) (.t 44) (kB false)),iv 46 45,gA 46 true 47 9 1,hA 46 true 48 47,ig 46 true 49 (.call yc3 [.t 48]),ia 50 (.pick (.t 46) (.t 49) (kB false)),iv 2 50]) (.ret))
theorem yvn : Has Tryz.prog yj7 51 yoB [.t 2]:=⟨by decide,Tryz.f348,_,Tryz.func348,rfl,rfl,⟨none,by kernel_rfl⟩,by kernel_rfl⟩
def ylS : SC:=.seq (.reg [bA 2 false]) (.seq (.seq (.reg [iv 6 0,nA 7 6,ia 8 (.bin .gtr (.t 7) (kI 8))]) (.cond (.t 8) (.seq (.reg [bA 2 false]) (.ret)) (.skip))) (.seq (.reg [mA 3 0]) (.seq (.seq (.reg [iv 9 0,nA 10 9,mA 11 0]) (.block 0 (.loop (.seq (.reg [tA 12 11 10]) (.seq (.cond (.t 12) (.skip) (.exit 0)) (.seq (.block 1 (.seq (.reg [xA 13 2 9 11,dA 14 2 13,ia 5 (.alloc [.c (.i 0),.c (.i 0)]),ie (.stn 2 (.t 5) (.t 14))]) (.seq (.seq (.reg [fA 15 0 5,lA 16 15,iv 17 3,tA 18 16 17,iv 19 18,gA 19 false 20 1 5,hA 19 false 21 20,gA 19 false 22 0 5,hA 19 false 23 22,ig 19 false 24 (.bin .leq (.t 21) (.t 23)),ia 25 (.pick (.t 19) (kB true) (.t 24)),iv 26 25,gA 26 false 27 1 5,hA 26 false 28 27,ig 26 false 29 (.bin .gtr (.t 28) (kI 1000000)),ia 30 (.pick (.t 26) (kB true) (.t 29))]) (.cond (.t 30) (.seq (.reg [bA 2 false]) (.ret)) (.skip))) (.reg [fA 31 1 5,lA 32 31,iv 3 32])))) (.reg [pA 33 11 1,iv 11 33]))))))) (.seq (.reg [bA 2 true]) (.ret)))))
theorem yrI : Has Tryz.prog ygE 34 ylS [.t 2]:=⟨by decide,Tryz.f349,_,Tryz.func349,rfl,rfl,⟨none,by kernel_rfl⟩,by kernel_rfl⟩
def yo1 : SC:=.seq (.reg [ia 1 (.box 2 (.t 0)),bA 2 false]) (.seq (.reg [fA 3 1 1,lA 4 3,ia 5 (.call yC [.t 4,kI 0,kI 1000000]),iv 2 5]) (.ret))
theorem yvs : Has Tryz.prog yjz 6 yo1 [.t 2]:=⟨by decide,Tryz.f350,_,Tryz.func350,rfl,rfl,⟨none,by kernel_rfl⟩,by kernel_rfl⟩
def yof : SC:=.seq (.reg [ia 1 (.box 4 (.t 0)),bA 2 false]) (.seq (.reg [fA 3 0 1,dA 4 2 3,ia 5 (.call ybu [.t 4]),iv 6 5,gA 6 true 7 2 1,hA 6 true 8 7,ig 6 true 9 (.call yC [.t 8,kI 0,kI 1000000]),ia 10 (.pick (.t 6) (.t 9) (kB false)),iv 11 10,gA 11 true 12 3 1,hA 11 true 13 12,ig 11 true 14 (.call yC [.t 13,kI (-1),kI 1000000]),ia 15 (.pick (.t 11) (.t 14) (kB false)),iv 2 15]) (.ret))
theorem yvr : Has Tryz.prog yjU 16 yof [.t 2]:=⟨by decide,Tryz.f351,_,Tryz.func351,rfl,rfl,⟨none,by kernel_rfl⟩,by kernel_rfl⟩
def yog : SC:=.seq (.reg [ia 1 (.box 4 (.t 0)),bA 2 false]) (.seq (.reg [fA 3 0 1,dA 4 2 3,ia 5 (.call ybr [.t 4]),iv 6 5,gA 6 true 7 2 1,hA 6 true 8 7,ig 6 true 9 (.call yG [.t 8,kI 0,kI 1000000]),ia 10 (.pick (.t 6) (.t 9) (kB false)),iv 11 10,gA 11 true 12 3 1,hA 11 true 13 12,ig 11 true 14 (.call yG [.t 13,kI (-1),kI 1000000]),ia 15 (.pick (.t 11) (.t 14) (kB false)),iv 2 15]) (.ret))
theorem yvi : Has Tryz.prog yjC 16 yog [.t 2]:=⟨by decide,Tryz.f352,_,Tryz.func352,rfl,rfl,⟨none,by kernel_rfl⟩,by kernel_rfl⟩
def ybB : SC:=.seq (.reg [ia 2 (.mv (.k (.nil 6)))]) (.seq (.seq (.reg [iv 3 0,ia 4 (.isn (.t 3))]) (.cond (.t 4) (.seq (.reg [ia 2 (.mv (.k (.nil 6)))]) (.ret)) (.skip))) (.seq (.reg [ia 5 (.bsl 6 []),iv 6 0,ia 7 (.app 6 48 (.t 5) (.t 6)),iv 2 7]) (.ret)))
theorem ydy : Has Tryz.prog yaU 8 ybB [.t 2]:=⟨by decide,Tryz.f353,_,Tryz.func353,rfl,rfl,⟨none,by kernel_rfl⟩,by kernel_rfl⟩
def ykh : SC:=.seq (.reg [bA 2 false]) (.seq (.seq (.reg [mA 3 0]) (.block 0 (.loop (.seq (.seq (.reg [iv 4 3,iv 5 0,nA 6 5,tA 7 4 6]) (.cond (.t 7) (.skip) (.exit 0))) (.seq (.block 1 (.seq (.reg [iv 10 0,iv 11 3,xA 12 2 10 11,dA 13 2 12,ia 14 (.call ybr [.t 13]),ia 15 (.not (.t 14)),iv 16 15,ig 16 false 17 (.mv (.t 0)),ig 16 false 18 (.len (.t 17)),ig 16 false 19 (.bin .gtr (.t 18) (kI 8)),ia 20 (.pick (.t 16) (kB true) (.t 19))]) (.cond (.t 20) (.seq (.reg [bA 2 false]) (.ret)) (.skip)))) (.reg [iv 8 3,pA 9 8 1,iv 3 9])))))) (.seq (.reg [iv 21 0,ia 22 (.call ydK [.t 21]),iv 2 22]) (.ret)))
theorem yqz : Has Tryz.prog yfR 23 ykh [.t 2]:=⟨by decide,Tryz.f359,_,Tryz.func359,rfl,rfl,⟨none,by kernel_rfl⟩,by kernel_rfl⟩
def yhn : SC:=.seq (.reg [ia 2 (.box 16 (.t 0)),mA 4 0]) (.seq (.reg [fA 5 1 2,lA 6 5,iv 7 1,ia 8 (.call yfn [.t 6,.t 7]),iv 1 8]) (.seq (.seq (.reg [iv 9 1,ia 10 (.bin .lss (.t 9) (kI 0))]) (.cond (.t 10) (.seq (.reg [mA 4 (-1)]) (.ret)) (.skip))) (.seq (.reg [fA 11 2 2,lA 12 11,iv 13 1,ia 14 (.call yhh [.t 12,.t 13]),iv 1 14]) (.seq (.seq (.reg [iv 15 1,ia 16 (.bin .lss (.t 15) (kI 0))]) (.cond (.t 16) (.seq (.reg [mA 4 (-1)]) (.ret)) (.skip))) (.seq (.reg [fA 17 3 2,lA 18 17,iv 19 1,ia 20 (.call yfD [.t 18,.t 19]),iv 1 20]) (.seq (.seq (.reg [iv 21 1,ia 22 (.bin .lss (.t 21) (kI 0))]) (.cond (.t 22) (.seq (.reg [mA 4 (-1)]) (.ret)) (.skip))) (.seq (.reg [fA 23 4 2,lA 24 23,iv 25 1,ia 26 (.call yej [.t 24,.t 25]),iv 1 26]) (.seq (.seq (.reg [iv 27 1,ia 28 (.bin .lss (.t 27) (kI 0))]) (.cond (.t 28) (.seq (.reg [mA 4 (-1)]) (.ret)) (.skip))) (.seq (.reg [fA 29 5 2,lA 30 29,iv 31 1,ia 32 (.call yc5 [.t 30,.t 31]),iv 1 32]) (.seq (.seq (.reg [iv 33 1,ia 34 (.bin .lss (.t 33) (kI 0))]) (.cond (.t 34) (.seq (.reg [mA 4 (-1)]) (.ret)) (.skip))) (.seq (.reg [fA 35 6 2,lA 36 35,iv 37 1,ia 38 (.call yca [.t 36,.t 37]),iv 1 38]) (.seq (.seq (.reg [iv 39 1,ia 40 (.bin .lss (.t 39) (kI 0))]) (.cond (.t 40) (.seq (.reg [mA 4 (-1)]) (.ret)) (.skip))) (.seq (.reg [fA 41 7 2,dA 42 4 41,iv 43 1,ia 44 (.call yfl [.t 42,.t 43]),iv 1 44]) (.seq (.seq (.reg [iv 45 1,ia 46 (.bin .lss (.t 45) (kI 0))]) (.cond (.t 46) (.seq (.reg [mA 4 (-1)]) (.ret)) (.skip))) (.seq (.reg [fA 47 11 2,lA 48 47,iv 49 1,ia 50 (.call yeW [.t 48,.t 49]),iv 1 50]) (.seq (.seq (.reg [iv 51 1,ia 52 (.bin .lss (.t 51) (kI 0))]) (.cond (.t 52) (.seq (.reg [mA 4 (-1)]) (.ret)) (.skip))) (.seq (.reg [fA 53 12 2,lA 54 53,iv 55 1,ia 56 (.call ydQ [.t 54,.t 55]),iv 1 56]) (.seq (.seq (.reg [iv 57 1,ia 58 (.bin .lss (.t 57) (kI 0))]) (.cond (.t 58) (.seq (.reg [mA 4 (-1)]) (.ret)) (.skip))) (.seq (.reg [iv 59 1,iv 4 59]) (.ret))))))))))))))))))))
theorem yn7 : Has Tryz.prog ycu 60 yhn [.t 4]:=⟨by decide,Tryz.f47,_,Tryz.func47,rfl,rfl,⟨none,by kernel_rfl⟩,by kernel_rfl⟩
def ym2 : SC:=.seq (.reg [ia 1 (.box 16 (.t 0)),ia 2 (.alloc [.c (.i 0),.nil 3,.nil 2,.nil 22,.nil 1,.nil 2,.nil 1,.c (.i 0),.c (.i 0),.nil 1,.nil 1,.nil 5,.nil 4,.c (.i 0),.c (.i 0),.c (.i 0)])]) (.seq (.reg [dA 12 16 1,ia 3 (.alloc [.c (.i 0),.nil 3,.nil 2,.nil 22,.nil 1,.nil 2,.nil 1,.c (.i 0),.c (.i 0),.nil 1,.nil 1,.nil 5,.nil 4,.c (.i 0),.c (.i 0),.c (.i 0)]),ie (.stn 16 (.t 3) (.t 12))]) (.seq (.reg [ia 13 (.bsl 3 []),fA 14 1 3,ie (.st1 (.t 14) (.t 13))]) (.seq (.seq (.reg [mA 4 0]) (.block 0 (.loop (.seq (.seq (.reg [iv 15 4,fA 16 1 1,lA 17 16,nA 18 17,tA 19 15 18]) (.cond (.t 19) (.skip) (.exit 0))) (.seq (.block 1 (.rege [⟨0,false,[],fA 22 1 3⟩,⟨0,false,[],lA 23 22⟩,⟨0,false,[],fA 24 1 1⟩,⟨0,false,[],lA 25 24⟩,⟨0,false,[],iv 26 4⟩,⟨0,false,[],xA 27 3 25 26⟩,⟨0,false,[],dA 28 3 27⟩,⟨0,false,[],ia 29 (.call ycz [.t 28])⟩,⟨1,false,[],ia 30 (.bsl 3 [.t 29])⟩,⟨2,false,[],ia 31 (.app 3 56 (.t 23) (.t 30))⟩,⟨0,false,[],fA 32 1 3⟩,⟨2,false,[],ie (.st1 (.t 32) (.t 31))⟩])) (.reg [iv 20 4,pA 21 20 1,iv 4 21])))))) (.seq (.reg [ia 33 (.bsl 2 []),fA 34 2 1,lA 35 34,ia 36 (.app 2 16 (.t 33) (.t 35)),fA 37 2 3,ie (.st1 (.t 37) (.t 36))]) (.seq (.reg [ia 38 (.bsl 22 []),fA 39 3 3,ie (.st1 (.t 39) (.t 38))]) (.seq (.seq (.reg [mA 5 0]) (.block 2 (.loop (.seq (.seq (.reg [iv 40 5,fA 41 3 1,lA 42 41,nA 43 42,tA 44 40 43]) (.cond (.t 44) (.skip) (.exit 2))) (.seq (.block 3 (.rege [⟨0,false,[],fA 47 3 3⟩,⟨0,false,[],lA 48 47⟩,⟨0,false,[],fA 49 3 1⟩,⟨0,false,[],lA 50 49⟩,⟨0,false,[],iv 51 5⟩,⟨0,false,[],xA 52 22 50 51⟩,⟨0,false,[],dA 53 22 52⟩,⟨0,false,[],ia 54 (.call yep [.t 53])⟩,⟨1,false,[],ia 55 (.bsl 22 [.t 54])⟩,⟨2,false,[],ia 56 (.app 22 224 (.t 48) (.t 55))⟩,⟨0,false,[],fA 57 3 3⟩,⟨2,false,[],ie (.st1 (.t 57) (.t 56))⟩])) (.reg [iv 45 5,pA 46 45 1,iv 5 46])))))) (.seq (.reg [ia 58 (.bsl 1 []),fA 59 4 3,ie (.st1 (.t 59) (.t 58))]) (.seq (.seq (.reg [mA 6 0]) (.block 4 (.loop (.seq (.seq (.reg [iv 60 6,fA 61 4 1,lA 62 61,nA 63 62,tA 64 60 63]) (.cond (.t 64) (.skip) (.exit 4))) (.seq (.block 5 (.seq (.reg [ia 67 (.bsl 3 []),iv 7 67]) (.seq (.seq (.reg [mA 8 0]) (.block 6 (.loop (.seq (.seq (.reg [iv 68 8,fA 69 4 1,lA 70 69,iv 71 6,xA 72 1 70 71,lA 73 72,nA 74 73,tA 75 68 74]) (.cond (.t 75) (.skip) (.exit 6))) (.seq (.block 7 (.reg [iv 78 7,fA 79 4 1,lA 80 79,iv 81 6,xA 82 1 80 81,lA 83 82,iv 84 8,xA 85 3 83 84,dA 86 3 85,ia 87 (.call yik [.t 86]),ia 88 (.bsl 3 [.t 87]),ia 89 (.app 3 40 (.t 78) (.t 88)),iv 7 89])) (.reg [iv 76 8,pA 77 76 1,iv 8 77])))))) (.reg [fA 90 4 3,lA 91 90,iv 92 7,ia 93 (.bsl 1 [.t 92]),ia 94 (.app 1 24 (.t 91) (.t 93)),fA 95 4 3,ie (.st1 (.t 95) (.t 94))])))) (.reg [iv 65 6,pA 66 65 1,iv 6 66])))))) (.seq (.reg [ia 96 (.bsl 2 []),fA 97 5 3,ie (.st1 (.t 97) (.t 96))]) (.seq (.seq (.reg [mA 9 0]) (.block 8 (.loop (.seq (.seq (.reg [iv 98 9,fA 99 5 1,lA 100 99,nA 101 100,tA 102 98 101]) (.cond (.t 102) (.skip) (.exit 8))) (.seq (.block 9 (.rege [⟨0,false,[],fA 105 5 3⟩,⟨0,false,[],lA 106 105⟩,⟨0,false,[],fA 107 5 1⟩,⟨0,false,[],lA 108 107⟩,⟨0,false,[],iv 109 9⟩,⟨0,false,[],xA 110 2 108 109⟩,⟨0,false,[],dA 111 2 110⟩,⟨0,false,[],ia 112 (.call ybV [.t 111])⟩,⟨1,false,[],ia 113 (.bsl 2 [.t 112])⟩,⟨2,false,[],ia 114 (.app 2 32 (.t 106) (.t 113))⟩,⟨0,false,[],fA 115 5 3⟩,⟨2,false,[],ie (.st1 (.t 115) (.t 114))⟩])) (.reg [iv 103 9,pA 104 103 1,iv 9 104])))))) (.seq (.reg [ia 116 (.bsl 1 []),fA 117 6 1,lA 118 117,ia 119 (.app 1 8 (.t 116) (.t 118)),fA 120 6 3,ie (.st1 (.t 120) (.t 119))]) (.seq (.reg [ia 121 (.bsl 1 []),fA 122 7 1,fA 123 2 122,lA 124 123,ia 125 (.app 1 8 (.t 121) (.t 124)),fA 126 7 3,fA 127 2 126,ie (.st1 (.t 127) (.t 125))]) (.seq (.reg [ia 128 (.bsl 1 []),fA 129 7 1,fA 130 3 129,lA 131 130,ia 132 (.app 1 8 (.t 128) (.t 131)),fA 133 7 3,fA 134 3 133,ie (.st1 (.t 134) (.t 132))]) (.seq (.reg [ia 135 (.bsl 5 []),fA 136 11 1,lA 137 136,ia 138 (.app 5 40 (.t 135) (.t 137)),fA 139 11 3,ie (.st1 (.t 139) (.t 138))]) (.seq (.reg [ia 140 (.bsl 4 []),fA 141 12 3,ie (.st1 (.t 141) (.t 140))]) (.seq (.seq (.reg [mA 10 0]) (.block 10 (.loop (.seq (.seq (.reg [iv 142 10,fA 143 12 1,lA 144 143,nA 145 144,tA 146 142 145]) (.cond (.t 146) (.skip) (.exit 10))) (.seq (.block 11 (.seq (.reg [fA 149 12 1,lA 150 149,iv 151 10,xA 152 4 150 151,dA 153 4 152,ia 11 (.alloc [.c (.i 0),.c (.i 0),.c (.b false),.nil 1]),ie (.stn 4 (.t 11) (.t 153))]) (.seq (.reg [fA 154 2 11,dA 155 2 154,ia 156 (.call ybV [.t 155]),fA 157 2 11,ie (.stn 2 (.t 157) (.t 156))]) (.reg [fA 158 12 3,lA 159 158,dA 160 4 11,ia 161 (.bsl 4 [.t 160]),ia 162 (.app 4 48 (.t 159) (.t 161)),fA 163 12 3,ie (.st1 (.t 163) (.t 162))])))) (.reg [iv 147 10,pA 148 147 1,iv 10 148])))))) (.seq (.reg [dA 164 16 3,ie (.stn 16 (.t 2) (.t 164))]) (.ret))))))))))))))))))
theorem ytM : Has Tryz.prog yiu 165 ym2 [.cl 2 16]:=⟨by decide,Tryz.f107,_,Tryz.func107,rfl,rfl,⟨none,by kernel_rfl⟩,by kernel_rfl⟩
def yhq : SC:=.seq (.reg [ia 1 (.box 16 (.t 0)),ia 2 (.alloc [.c (.i 0),.nil 3,.nil 2,.nil 22,.nil 1,.nil 2,.nil 1,.c (.i 0),.c (.i 0),.nil 1,.nil 1,.nil 5,.nil 4,.c (.i 0),.c (.i 0),.c (.i 0)])]) (.seq (.reg [fA 9 1 1,lA 10 9,ia 11 (.call yed [.t 10]),fA 12 1 1,ie (.st1 (.t 12) (.t 11))]) (.seq (.reg [fA 13 2 1,lA 14 13,ia 15 (.call yaZ [.t 14]),fA 16 2 1,ie (.st1 (.t 16) (.t 15))]) (.seq (.reg [fA 17 3 1,lA 18 17,ia 19 (.call yfH [.t 18]),fA 20 3 1,ie (.st1 (.t 20) (.t 19))]) (.seq (.reg [fA 21 4 1,lA 22 21,nA 23 22,ia 24 (.mks 1 24 [.sl 3 []] (.t 23) (.t 23)),iv 3 24]) (.seq (.seq (.reg [fA 25 4 1,lA 26 25,nA 27 26,mA 28 0]) (.block 0 (.loop (.seq (.reg [tA 29 28 27]) (.seq (.cond (.t 29) (.skip) (.exit 0)) (.seq (.block 1 (.seq (.reg [iv 30 28,xA 31 1 26 28,lA 32 31,iv 4 30,iv 5 32]) (.reg [iv 33 3,iv 34 4,iv 35 5,ia 36 (.call yfc [.t 35]),xA 37 1 33 34,ie (.st1 (.t 37) (.t 36))]))) (.reg [pA 38 28 1,iv 28 38]))))))) (.seq (.reg [iv 39 3,fA 40 4 1,ie (.st1 (.t 40) (.t 39))]) (.seq (.reg [fA 41 5 1,lA 42 41,ia 43 (.call yc9 [.t 42]),fA 44 5 1,ie (.st1 (.t 44) (.t 43))]) (.seq (.reg [fA 45 6 1,lA 46 45,ia 47 (.call yaF [.t 46]),fA 48 6 1,ie (.st1 (.t 48) (.t 47))]) (.seq (.reg [fA 49 7 1,dA 50 4 49,ia 51 (.call yeS [.t 50]),fA 52 7 1,ie (.stn 4 (.t 52) (.t 51))]) (.seq (.reg [fA 53 11 1,lA 54 53,ia 55 (.call yaO [.t 54]),fA 56 11 1,ie (.st1 (.t 56) (.t 55))]) (.seq (.reg [ia 6 (.mv (.k (.nil 4)))]) (.seq (.seq (.reg [fA 57 12 1,lA 58 57,nA 59 58,mA 60 0]) (.block 2 (.loop (.seq (.reg [tA 61 60 59]) (.seq (.cond (.t 61) (.skip) (.exit 2)) (.seq (.block 3 (.seq (.reg [xA 62 4 58 60,dA 63 4 62,ia 8 (.alloc [.c (.i 0),.c (.i 0),.c (.b false),.nil 1]),ie (.stn 4 (.t 8) (.t 63))]) (.rege [⟨0,true,[],iv 64 6⟩,⟨0,false,[],fA 65 0 8⟩,⟨0,false,[],lA 66 65⟩,⟨0,false,[],fA 67 1 8⟩,⟨0,false,[],lA 68 67⟩,⟨0,false,[],fA 69 2 8⟩,⟨0,false,[],dA 70 2 69⟩,⟨0,false,[],ia 71 (.call ybQ [.t 70])⟩,⟨0,false,[],ia 72 (.bld [.c (.i 0),.c (.i 0),.c (.b false),.nil 1] [(0,1,.t 66),(1,1,.t 68),(2,2,.t 71)])⟩,⟨2,false,[0],ia 73 (.bsl 4 [.t 72])⟩,⟨2,false,[],ia 74 (.app 4 48 (.t 64) (.t 73))⟩,⟨0,false,[],iv 6 74⟩]))) (.reg [pA 75 60 1,iv 60 75]))))))) (.seq (.reg [iv 76 6,fA 77 12 1,ie (.st1 (.t 77) (.t 76))]) (.seq (.reg [dA 78 16 1,ie (.stn 16 (.t 2) (.t 78))]) (.ret)))))))))))))))
theorem yn2 : Has Tryz.prog ydL 79 yhq [.cl 2 16]:=⟨by decide,Tryz.f112,_,Tryz.func112,rfl,rfl,⟨(some [267,154,272]),by kernel_rfl⟩,by kernel_rfl⟩
def yjp : SC:=.seq (.reg [mA 4 0]) (.seq (.seq (.reg [mA 5 0]) (.block 0 (.loop (.seq (.seq (.reg [iv 6 5,iv 7 0,nA 8 7,tA 9 6 8]) (.cond (.t 9) (.skip) (.exit 0))) (.seq (.block 1 (.seq (.reg [iv 12 0,iv 13 5,xA 14 3 12 13,fA 15 0 14,lA 16 15,iv 17 1,ia 18 (.call ye6 [.t 16,.t 17]),iv 1 18]) (.seq (.seq (.reg [iv 19 1,ia 20 (.bin .lss (.t 19) (kI 0))]) (.cond (.t 20) (.seq (.reg [mA 4 (-1)]) (.ret)) (.skip))) (.seq (.seq (.reg [iv 21 0,iv 22 5,xA 23 3 21 22,fA 24 1 23,lA 25 24,iv 26 1,ia 27 (.bin .neq (.t 25) (.t 26))]) (.cond (.t 27) (.seq (.reg [mA 4 (-1)]) (.ret)) (.skip))) (.seq (.reg [iv 28 1,pA 29 28 1,iv 1 29]) (.seq (.reg [iv 30 0,iv 31 5,xA 32 3 30 31,fA 33 2 32,lA 34 33,iv 35 1,ia 36 (.call yca [.t 34,.t 35]),iv 1 36]) (.seq (.reg [iv 37 1,ia 38 (.bin .lss (.t 37) (kI 0))]) (.cond (.t 38) (.seq (.reg [mA 4 (-1)]) (.ret)) (.skip))))))))) (.reg [iv 10 5,pA 11 10 1,iv 5 11])))))) (.seq (.reg [iv 39 1,iv 4 39]) (.ret)))
theorem ypW : Has Tryz.prog yfn 40 yjp [.t 4]:=⟨by decide,Tryz.f118,_,Tryz.func118,rfl,rfl,⟨none,by kernel_rfl⟩,by kernel_rfl⟩
def ymf : SC:=.seq (.reg [mA 4 0]) (.seq (.seq (.reg [mA 5 0]) (.block 0 (.loop (.seq (.seq (.reg [iv 6 5,iv 7 0,nA 8 7,tA 9 6 8]) (.cond (.t 9) (.skip) (.exit 0))) (.seq (.block 1 (.seq (.seq (.reg [iv 12 0,iv 13 5,xA 14 2 12 13,fA 15 0 14,lA 16 15,iv 17 1,ia 18 (.bin .neq (.t 16) (.t 17))]) (.cond (.t 18) (.seq (.reg [mA 4 (-1)]) (.ret)) (.skip))) (.seq (.reg [iv 19 1,pA 20 19 1,iv 1 20]) (.seq (.seq (.reg [iv 21 0,iv 22 5,xA 23 2 21 22,fA 24 1 23,lA 25 24,iv 26 1,ia 27 (.bin .neq (.t 25) (.t 26))]) (.cond (.t 27) (.seq (.reg [mA 4 (-1)]) (.ret)) (.skip))) (.reg [iv 28 1,pA 29 28 1,iv 1 29]))))) (.reg [iv 10 5,pA 11 10 1,iv 5 11])))))) (.seq (.reg [iv 30 1,iv 4 30]) (.ret)))
theorem yrM : Has Tryz.prog yhh 31 ymf [.t 4]:=⟨by decide,Tryz.f119,_,Tryz.func119,rfl,rfl,⟨none,by kernel_rfl⟩,by kernel_rfl⟩
def ykn : SC:=.seq (.reg [mA 4 0]) (.seq (.seq (.reg [mA 5 0]) (.block 0 (.loop (.seq (.seq (.reg [iv 6 5,iv 7 0,nA 8 7,tA 9 6 8]) (.cond (.t 9) (.skip) (.exit 0))) (.seq (.block 1 (.seq (.seq (.reg [iv 12 0,iv 13 5,xA 14 22 12 13,fA 15 0 14,fA 16 0 15,lA 17 16,iv 18 1,ia 19 (.bin .neq (.t 17) (.t 18))]) (.cond (.t 19) (.seq (.reg [mA 4 (-1)]) (.ret)) (.skip))) (.seq (.reg [iv 20 1,pA 21 20 1,iv 1 21]) (.seq (.seq (.reg [iv 22 0,iv 23 5,xA 24 22 22 23,fA 25 0 24,fA 26 1 25,lA 27 26,iv 28 1,ia 29 (.bin .neq (.t 27) (.t 28))]) (.cond (.t 29) (.seq (.reg [mA 4 (-1)]) (.ret)) (.skip))) (.seq (.reg [iv 30 1,pA 31 30 1,iv 1 31]) (.seq (.seq (.reg [iv 32 0,iv 33 5,xA 34 22 32 33,fA 35 0 34,fA 36 2 35,lA 37 36,iv 38 1,ia 39 (.bin .neq (.t 37) (.t 38))]) (.cond (.t 39) (.seq (.reg [mA 4 (-1)]) (.ret)) (.skip))) (.seq (.reg [iv 40 1,pA 41 40 1,iv 1 41]) (.seq (.seq (.reg [iv 42 0,iv 43 5,xA 44 22 42 43,fA 45 0 44,fA 46 3 45,lA 47 46,iv 48 1,ia 49 (.bin .neq (.t 47) (.t 48))]) (.cond (.t 49) (.seq (.reg [mA 4 (-1)]) (.ret)) (.skip))) (.seq (.reg [iv 50 1,pA 51 50 1,iv 1 51]) (.seq (.seq (.reg [iv 52 0,iv 53 5,xA 54 22 52 53,fA 55 0 54,fA 56 4 55,lA 57 56,iv 58 1,ia 59 (.bin .neq (.t 57) (.t 58))]) (.cond (.t 59) (.seq (.reg [mA 4 (-1)]) (.ret)) (.skip))) (.seq (.reg [iv 60 1,pA 61 60 1,iv 1 61]) (.seq (.seq (.reg [iv 62 0,iv 63 5,xA 64 22 62 63,fA 65 0 64,fA 66 5 65,lA 67 66,iv 68 1,ia 69 (.bin .neq (.t 67) (.t 68))]) (.cond (.t 69) (.seq (.reg [mA 4 (-1)]) (.ret)) (.skip))) (.seq (.reg [iv 70 1,pA 71 70 1,iv 1 71]) (.seq (.seq (.reg [iv 72 0,iv 73 5,xA 74 22 72 73,fA 75 0 74,fA 76 6 75,lA 77 76,iv 78 1,ia 79 (.bin .neq (.t 77) (.t 78))]) (.cond (.t 79) (.seq (.reg [mA 4 (-1)]) (.ret)) (.skip))) (.seq (.reg [iv 80 1,pA 81 80 1,iv 1 81]) (.seq (.seq (.reg [iv 82 0,iv 83 5,xA 84 22 82 83,fA 85 0 84,fA 86 7 85,lA 87 86,iv 88 1,ia 89 (.bin .neq (.t 87) (.t 88))]) (.cond (.t 89) (.seq (.reg [mA 4 (-1)]) (.ret)) (.skip))) (.seq (.reg [iv 90 1,pA 91 90 1,iv 1 91]) (.seq (.seq (.reg [iv 92 0,iv 93 5,xA 94 22 92 93,fA 95 0 94,fA 96 8 95,lA 97 96,iv 98 1,ia 99 (.bin .neq (.t 97) (.t 98))]) (.cond (.t 99) (.seq (.reg [mA 4 (-1)]) (.ret)) (.skip))) (.seq (.reg [iv 100 1,pA 101 100 1,iv 1 101]) (.seq (.reg [iv 102 0,iv 103 5,xA 104 22 102 103,fA 105 0 104,fA 106 9 105,lA 107 106,iv 108 1,ia 109 (.call yc5 [.t 107,.t 108]),iv 1 109]) (.seq (.seq (.reg [iv 110 1,ia 111 (.bin .lss (.t 110) (kI 0))]) (.cond (.t 111) (.seq (.reg [mA 4 (-1)]) (.ret)) (.skip))) (.seq (.seq (.reg [iv 112 0,iv 113 5,xA 114 22 112 113,fA 115 10 114,fA 116 0 115,lA 117 116,iv 118 1,ia 119 (.bin .neq (.t 117) (.t 118))]) (.cond (.t 119) (.seq (.reg [mA 4 (-1)]) (.ret)) (.skip))) (.seq (.reg [iv 120 1,pA 121 120 1,iv 1 121]) (.seq (.seq (.reg [iv 122 0,iv 123 5,xA 124 22 122 123,fA 125 10 124,fA 126 1 125,lA 127 126,iv 128 1,ia 129 (.bin .neq (.t 127) (.t 128))]) (.cond (.t 129) (.seq (.reg [mA 4 (-1)]) (.ret)) (.skip))) (.seq (.reg [iv 130 1,pA 131 130 1,iv 1 131]) (.seq (.seq (.reg [iv 132 0,iv 133 5,xA 134 22 132 133,fA 135 10 134,fA 136 2 135,lA 137 136,iv 138 1,ia 139 (.bin .neq (.t 137) (.t 138))]) (.cond (.t 139) (.seq (.reg [mA 4 (-1)]) (.ret)) (.skip))) (.seq (.reg [iv 140 1,pA 141 140 1,iv 1 141]) (.seq (.seq (.reg [iv 142 0,iv 143 5,xA 144 22 142 143,fA 145 10 144,fA 146 3 145,lA 147 146,iv 148 1,ia 149 (.bin .neq (.t 147) (.t 148))]) (.cond (.t 149) (.seq (.reg [mA 4 (-1)]) (.ret)) (.skip))) (.seq (.reg [iv 150 1,pA 151 150 1,iv 1 151]) (.seq (.seq (.reg [iv 152 0,iv 153 5,xA 154 22 152 153,fA 155 10 154,fA 156 4 155,lA 157 156,iv 158 1,ia 159 (.bin .neq (.t 157) (.t 158))]) (.cond (.t 159) (.seq (.reg [mA 4 (-1)]) (.ret)) (.skip))) (.seq (.reg [iv 160 1,pA 161 160 1,iv 1 161]) (.seq (.seq (.reg [iv 162 0,iv 163 5,xA 164 22 162 163,fA 165 15 164,fA 166 0 165,lA 167 166,iv 168 1,ia 169 (.bin .neq (.t 167) (.t 168))]) (.cond (.t 169) (.seq (.reg [mA 4 (-1)]) (.ret)) (.skip))) (.seq (.reg [iv 170 1,pA 171 170 1,iv 1 171]) (.seq (.seq (.reg [iv 172 0,iv 173 5,xA 174 22 172 173,fA 175 15 174,fA 176 1 175,lA 177 176,iv 178 1,ia 179 (.bin .neq (.t 177) (.t 178))]) (.cond (.t 179) (.seq (.reg [mA 4 (-1)]) (.ret)) (.skip))) (.seq (.reg [iv 180 1,pA 181 180 1,iv 1 181]) (.seq (.seq (.reg [iv 182 0,iv 183 5,xA 184 22 182 183,fA 185 15 184,fA 186 2 185,lA 187 186,iv 188 1,ia 189 (.bin .neq (.t 187) (.t 188))]) (.cond (.t 189) (.seq (.reg [mA 4 (-1)]) (.ret)) (.skip))) (.seq (.reg [iv 190 1,pA 191 190 1,iv 1 191]) (.seq (.reg [iv 192 0,iv 193 5,xA 194 22 192 193,fA 195 18 194,lA 196 195,iv 197 1,ia 198 (.call yfm [.t 196,.t 197]),iv 1 198]) (.seq (.seq (.reg [iv 199 1,ia 200 (.bin .lss (.t 199) (kI 0))]) (.cond (.t 200) (.seq (.reg [mA 4 (-1)]) (.ret)) (.skip))) (.seq (.seq (.reg [iv 201 0,iv 202 5,xA 203 22 201 202,fA 204 19 203,fA 205 0 204,lA 206 205,iv 207 1,ia 208 (.bin .rem (.t 207) (kI 3)),ia 209 (.bin .eql (.t 208) (kI 0)),ia 210 (.beq true (.t 206) (.t 209))]) (.cond (.t 210) (.seq (.reg [mA 4 (-1)]) (.ret)) (.skip))) (.seq (.reg [iv 211 1,pA 212 211 1,iv 1 212]) (.seq (.seq (.reg [iv 213 0,iv 214 5,xA 215 22 213 214,fA 216 19 215,fA 217 1 216,lA 218 217,iv 219 1,ia 220 (.bin .neq (.t 218) (.t 219))]) (.cond (.t 220) (.seq (.reg [mA 4 (-1)]) (.ret)) (.skip))) (.seq (.reg [iv 221 1,pA 222 221 1,iv 1 222]) (.seq (.reg [iv 223 0,iv 224 5,xA 225 22 223 224,fA 226 21 225,lA 227 226,iv 228 1,ia 229 (.call yfX [.t 227,.t 228]),iv 1 229]) (.seq (.reg [iv 230 1,ia 231 (.bin .lss (.t 230) (kI 0))]) (.cond (.t 231) (.seq (.reg [mA 4 (-1)]) (.ret)) (.skip))))))))))))))))))))))))))))))))))))))))))))))) (.reg [iv 10 5,pA 11 10 1,iv 5 11])))))) (.seq (.reg [iv 232 1,iv 4 232]) (.ret)))
theorem yqQ : Has Tryz.prog yfD 233 ykn [.t 4]:=⟨by decide,Tryz.f120,_,Tryz.func120,rfl,rfl,⟨none,by kernel_rfl⟩,by kernel_rfl⟩
def yhY : SC:=.seq (.reg [mA 4 0]) (.seq (.seq (.reg [mA 5 0]) (.block 0 (.loop (.seq (.seq (.reg [iv 6 5,iv 7 0,nA 8 7,tA 9 6 8]) (.cond (.t 9) (.skip) (.exit 0))) (.seq (.block 1 (.seq (.reg [iv 12 0,iv 13 5,xA 14 1 12 13,lA 15 14,iv 16 1,ia 17 (.call yfs [.t 15,.t 16]),iv 1 17]) (.seq (.reg [iv 18 1,ia 19 (.bin .lss (.t 18) (kI 0))]) (.cond (.t 19) (.seq (.reg [mA 4 (-1)]) (.ret)) (.skip))))) (.reg [iv 10 5,pA 11 10 1,iv 5 11])))))) (.seq (.reg [iv 20 1,iv 4 20]) (.ret)))
theorem yo7 : Has Tryz.prog yej 21 yhY [.t 4]:=⟨by decide,Tryz.f121,_,Tryz.func121,rfl,rfl,⟨none,by kernel_rfl⟩,by kernel_rfl⟩
def yiX : SC:=.seq (.reg [mA 4 0]) (.seq (.seq (.reg [mA 5 0]) (.block 0 (.loop (.seq (.seq (.reg [iv 6 5,iv 7 0,nA 8 7,tA 9 6 8]) (.cond (.t 9) (.skip) (.exit 0))) (.seq (.block 1 (.seq (.seq (.reg [iv 12 0,iv 13 5,xA 14 2 12 13,fA 15 0 14,lA 16 15,iv 17 1,ia 18 (.bin .rem (.t 17) (kI 3)),ia 19 (.bin .eql (.t 18) (kI 0)),ia 20 (.beq true (.t 16) (.t 19))]) (.cond (.t 20) (.seq (.reg [mA 4 (-1)]) (.ret)) (.skip))) (.seq (.reg [iv 21 1,pA 22 21 1,iv 1 22]) (.seq (.reg [iv 23 0,iv 24 5,xA 25 2 23 24,fA 26 1 25,lA 27 26,iv 28 1,ia 29 (.call ybC [.t 27,.t 28]),iv 1 29]) (.seq (.reg [iv 30 1,ia 31 (.bin .lss (.t 30) (kI 0))]) (.cond (.t 31) (.seq (.reg [mA 4 (-1)]) (.ret)) (.skip))))))) (.reg [iv 10 5,pA 11 10 1,iv 5 11])))))) (.seq (.reg [iv 32 1,iv 4 32]) (.ret)))
theorem ypt : Has Tryz.prog yc5 33 yiX [.t 4]:=⟨by decide,Tryz.f122,_,Tryz.func122,rfl,rfl,⟨none,by kernel_rfl⟩,by kernel_rfl⟩
def yiM : SC:=.seq (.reg [ia 2 (.box 4 (.t 0)),mA 4 0]) (.seq (.reg [fA 5 2 2,lA 6 5,iv 7 1,ia 8 (.call yca [.t 6,.t 7]),iv 1 8]) (.seq (.seq (.reg [iv 9 1,ia 10 (.bin .lss (.t 9) (kI 0))]) (.cond (.t 10) (.seq (.reg [mA 4 (-1)]) (.ret)) (.skip))) (.seq (.reg [fA 11 3 2,lA 12 11,iv 13 1,ia 14 (.call yca [.t 12,.t 13]),iv 1 14]) (.seq (.seq (.reg [iv 15 1,ia 16 (.bin .lss (.t 15) (kI 0))]) (.cond (.t 16) (.seq (.reg [mA 4 (-1)]) (.ret)) (.skip))) (.seq (.reg [iv 17 1,iv 4 17]) (.ret))))))
theorem yp0 : Has Tryz.prog yfl 18 yiM [.t 4]:=⟨by decide,Tryz.f123,_,Tryz.func123,rfl,rfl,⟨none,by kernel_rfl⟩,by kernel_rfl⟩
def yjd : SC:=.seq (.reg [mA 4 0]) (.seq (.seq (.reg [mA 5 0]) (.block 0 (.loop (.seq (.seq (.reg [iv 6 5,iv 7 0,nA 8 7,tA 9 6 8]) (.cond (.t 9) (.skip) (.exit 0))) (.seq (.block 1 (.seq (.seq (.reg [iv 12 0,iv 13 5,xA 14 5 12 13,fA 15 0 14,lA 16 15,iv 17 1,ia 18 (.bin .neq (.t 16) (.t 17))]) (.cond (.t 18) (.seq (.reg [mA 4 (-1)]) (.ret)) (.skip))) (.seq (.reg [iv 19 1,pA 20 19 1,iv 1 20]) (.seq (.seq (.reg [iv 21 0,iv 22 5,xA 23 5 21 22,fA 24 1 23,lA 25 24,iv 26 1,ia 27 (.bin .neq (.t 25) (.t 26))]) (.cond (.t 27) (.seq (.reg [mA 4 (-1)]) (.ret)) (.skip))) (.seq (.reg [iv 28 1,pA 29 28 1,iv 1 29]) (.seq (.seq (.reg [iv 30 0,iv 31 5,xA 32 5 30 31,fA 33 2 32,lA 34 33,iv 35 1,ia 36 (.bin .neq (.t 34) (.t 35))]) (.cond (.t 36) (.seq (.reg [mA 4 (-1)]) (.ret)) (.skip))) (.seq (.reg [iv 37 1,pA 38 37 1,iv 1 38]) (.seq (.seq (.reg [iv 39 0,iv 40 5,xA 41 5 39 40,fA 42 3 41,lA 43 42,iv 44 1,ia 45 (.bin .neq (.t 43) (.t 44))]) (.cond (.t 45) (.seq (.reg [mA 4 (-1)]) (.ret)) (.skip))) (.seq (.reg [iv 46 1,pA 47 46 1,iv 1 47]) (.seq (.seq (.reg [iv 48 0,iv 49 5,xA 50 5 48 49,fA 51 4 50,lA 52 51,iv 53 1,ia 54 (.bin .neq (.t 52) (.t 53))]) (.cond (.t 54) (.seq (.reg [mA 4 (-1)]) (.ret)) (.skip))) (.reg [iv 55 1,pA 56 55 1,iv 1 56]))))))))))) (.reg [iv 10 5,pA 11 10 1,iv 5 11])))))) (.seq (.reg [iv 57 1,iv 4 57]) (.ret)))
theorem yqm : Has Tryz.prog yeW 58 yjd [.t 4]:=⟨by decide,Tryz.f124,_,Tryz.func124,rfl,rfl,⟨none,by kernel_rfl⟩,by kernel_rfl⟩
def yho : SC:=.seq (.reg [mA 4 0]) (.seq (.seq (.reg [mA 5 0]) (.block 0 (.loop (.seq (.seq (.reg [iv 6 5,iv 7 0,nA 8 7,tA 9 6 8]) (.cond (.t 9) (.skip) (.exit 0))) (.seq (.block 1 (.seq (.seq (.reg [iv 12 0,iv 13 5,xA 14 4 12 13,fA 15 0 14,lA 16 15,iv 17 1,ia 18 (.bin .neq (.t 16) (.t 17))]) (.cond (.t 18) (.seq (.reg [mA 4 (-1)]) (.ret)) (.skip))) (.seq (.reg [iv 19 1,pA 20 19 1,iv 1 20]) (.seq (.seq (.reg [iv 21 0,iv 22 5,xA 23 4 21 22,fA 24 1 23,lA 25 24,iv 26 1,ia 27 (.bin .neq (.t 25) (.t 26))]) (.cond (.t 27) (.seq (.reg [mA 4 (-1)]) (.ret)) (.skip))) (.seq (.reg [iv 28 1,pA 29 28 1,iv 1 29]) (.seq (.seq (.reg [iv 30 0,iv 31 5,xA 32 4 30 31,fA 33 2 32,fA 34 0 33,lA 35 34,iv 36 1,ia 37 (.bin .rem (.t 36) (kI 3)),ia 38 (.bin .eql (.t 37) (kI 0)),ia 39 (.beq true (.t 35) (.t 38))]) (.cond (.t 39) (.seq (.reg [mA 4 (-1)]) (.ret)) (.skip))) (.seq (.reg [iv 40 1,pA 41 40 1,iv 1 41]) (.seq (.reg [iv 42 0,iv 43 5,xA 44 4 42 43,fA 45 2 44,fA 46 1 45,lA 47 46,iv 48 1,ia 49 (.call ybC [.t 47,.t 48]),iv 1 49]) (.seq (.reg [iv 50 1,ia 51 (.bin .lss (.t 50) (kI 0))]) (.cond (.t 51) (.seq (.reg [mA 4 (-1)]) (.ret)) (.skip))))))))))) (.reg [iv 10 5,pA 11 10 1,iv 5 11])))))) (.seq (.reg [iv 52 1,iv 4 52]) (.ret)))
theorem yn5 : Has Tryz.prog ydQ 53 yho [.t 4]:=⟨by decide,Tryz.f125,_,Tryz.func125,rfl,rfl,⟨none,by kernel_rfl⟩,by kernel_rfl⟩
def ynj : SC:=.seq (.reg [ia 1 (.box 3 (.t 0)),ia 2 (.alloc [.nil 2,.c (.i 0),.nil 1])]) (.seq (.reg [ia 3 (.bsl 2 []),fA 4 0 1,lA 5 4,ia 6 (.app 2 16 (.t 3) (.t 5)),fA 7 0 1,ie (.st1 (.t 7) (.t 6))]) (.seq (.reg [ia 8 (.bsl 1 []),fA 9 2 1,lA 10 9,ia 11 (.app 1 8 (.t 8) (.t 10)),fA 12 2 1,ie (.st1 (.t 12) (.t 11))]) (.seq (.reg [dA 13 3 1,ie (.stn 3 (.t 2) (.t 13))]) (.ret))))
theorem ytY : Has Tryz.prog ycz 14 ynj [.cl 2 3]:=⟨by decide,Tryz.f190,_,Tryz.func190,rfl,rfl,⟨none,by kernel_rfl⟩,by kernel_rfl⟩
def yiA : SC:=.seq (.reg [ia 1 (.box 22 (.t 0)),ia 2 (.alloc [.c (.i 0),.c (.i 0),.c (.i 0),.c (.i 0),.c (.i 0),.c (.i 0),.c (.i 0),.c (.i 0),.c (.i 0),.nil 2,.c (.i 0),.c (.i 0),.c (.i 0),.c (.i 0),.c (.i 0),.c (.i 0),.c (.i 0),.c (.i 0),.nil 2,.c (.b false),.c (.i 0),.nil 4])]) (.seq (.reg [dA 6 22 1,ia 3 (.alloc [.c (.i 0),.c (.i 0),.c (.i 0),.c (.i 0),.c (.i 0),.c (.i 0),.c (.i 0),.c (.i 0),.c (.i 0),.nil 2,.c (.i 0),.c (.i 0),.c (.i 0),.c (.i 0),.c (.i 0),.c (.i 0),.c (.i 0),.c (.i 0),.nil 2,.c (.b false),.c (.i 0),.nil 4]),ie (.stn 22 (.t 3) (.t 6))]) (.seq (.reg [fA 7 0 1,dA 8 10 7,ia 9 (.call yin [.t 8]),fA 10 0 3,ie (.stn 10 (.t 10) (.t 9))]) (.seq (.reg [ia 11 (.bsl 2 []),fA 12 18 1,lA 13 12,ia 14 (.app 2 16 (.t 11) (.t 13)),fA 15 18 3,ie (.st1 (.t 15) (.t 14))]) (.seq (.reg [ia 16 (.bsl 4 []),fA 17 21 3,ie (.st1 (.t 17) (.t 16))]) (.seq (.seq (.reg [mA 4 0]) (.block 0 (.loop (.seq (.seq (.reg [iv 18 4,fA 19 21 1,lA 20 19,nA 21 20,tA 22 18 21]) (.cond (.t 22) (.skip) (.exit 0))) (.seq (.block 1 (.seq (.reg [fA 25 21 1,lA 26 25,iv 27 4,xA 28 4 26 27,dA 29 4 28,ia 5 (.alloc [.c (.b false),.nil 1,.c (.i 0),.c (.i 0)]),ie (.stn 4 (.t 5) (.t 29))]) (.seq (.reg [fA 30 0 5,dA 31 2 30,ia 32 (.call ybV [.t 31]),fA 33 0 5,ie (.stn 2 (.t 33) (.t 32))]) (.reg [fA 34 21 3,lA 35 34,dA 36 4 5,ia 37 (.bsl 4 [.t 36]),ia 38 (.app 4 48 (.t 35) (.t 37)),fA 39 21 3,ie (.st1 (.t 39) (.t 38))])))) (.reg [iv 23 4,pA 24 23 1,iv 4 24])))))) (.seq (.reg [dA 40 22 3,ie (.stn 22 (.t 2) (.t 40))]) (.ret)))))))
theorem ypk : Has Tryz.prog yep 41 yiA [.cl 2 22]:=⟨by decide,Tryz.f191,_,Tryz.func191,rfl,rfl,⟨none,by kernel_rfl⟩,by kernel_rfl⟩
def ynC : SC:=.seq (.reg [ia 1 (.box 3 (.t 0)),ia 2 (.alloc [.c (.b false),.nil 1,.c (.i 0)])]) (.seq (.rege [⟨0,false,[],fA 3 0 1⟩,⟨0,false,[],dA 4 2 3⟩,⟨0,false,[],ia 5 (.call ybV [.t 4])⟩,⟨0,false,[],fA 6 2 1⟩,⟨0,false,[],lA 7 6⟩,⟨0,false,[],ia 8 (.bld [.c (.b false),.nil 1,.c (.i 0)] [(0,2,.t 5),(2,1,.t 7)])⟩,⟨2,false,[],ie (.stn 3 (.t 2) (.t 8))⟩]) (.ret))
theorem ys7 : Has Tryz.prog yik 9 ynC [.cl 2 3]:=⟨by decide,Tryz.f192,_,Tryz.func192,rfl,rfl,⟨none,by kernel_rfl⟩,by kernel_rfl⟩
def yh2 : SC:=.seq (.reg [ia 2 (.mv (.k (.nil 3)))]) (.seq (.reg [iv 6 0,nA 7 6,ia 8 (.mks 3 56 [.sl 2 [],.i 0,.sl 1 []] (kI 0) (.t 7)),iv 3 8]) (.seq (.seq (.reg [iv 9 0,nA 10 9,mA 11 0]) (.block 0 (.loop (.seq (.reg [tA 12 11 10]) (.seq (.cond (.t 12) (.skip) (.exit 0)) (.seq (.block 1 (.seq (.reg [xA 13 3 9 11,dA 14 3 13,ia 5 (.alloc [.nil 2,.c (.i 0),.nil 1]),ie (.stn 3 (.t 5) (.t 14))]) (.reg [iv 15 3,dA 16 3 5,ia 17 (.call ycA [.t 16]),ia 18 (.bsl 3 [.t 17]),ia 19 (.app 3 56 (.t 15) (.t 18)),iv 3 19]))) (.reg [pA 20 11 1,iv 11 20]))))))) (.seq (.reg [iv 21 3,iv 2 21]) (.ret))))
theorem ypd : Has Tryz.prog yed 22 yh2 [.t 2]:=⟨by decide,Tryz.f201,_,Tryz.func201,rfl,rfl,⟨none,by kernel_rfl⟩,by kernel_rfl⟩
def ybO : SC:=.seq (.reg [ia 2 (.mv (.k (.nil 2)))]) (.seq (.seq (.reg [iv 3 0,ia 4 (.isn (.t 3))]) (.cond (.t 4) (.seq (.reg [ia 2 (.mv (.k (.nil 2)))]) (.ret)) (.skip))) (.seq (.reg [ia 5 (.bsl 2 []),iv 6 0,ia 7 (.app 2 16 (.t 5) (.t 6)),iv 2 7]) (.ret)))
theorem ydW : Has Tryz.prog yaZ 8 ybO [.t 2]:=⟨by decide,Tryz.f202,_,Tryz.func202,rfl,rfl,⟨none,by kernel_rfl⟩,by kernel_rfl⟩
def yka : SC:=.seq (.reg [ia 2 (.mv (.k (.nil 22)))]) (.seq (.reg [ia 3 (.mv (.k (.nil 22)))]) (.seq (.seq (.reg [iv 6 0,nA 7 6,mA 8 0]) (.block 0 (.loop (.seq (.reg [tA 9 8 7]) (.seq (.cond (.t 9) (.skip) (.exit 0)) (.seq (.block 1 (.seq (.reg [xA 10 22 6 8,dA 11 22 10,ia 5 (.alloc [.c (.i 0),.c (.i 0),.c (.i 0),.c (.i 0),.c (.i 0),.c (.i 0),.c (.i 0),.c (.i 0),.c (.i 0),.nil 2,.c (.i 0),.c (.i 0),.c (.i 0),.c (.i 0),.c (.i 0),.c (.i 0),.c (.i 0),.c (.i 0),.nil 2,.c (.b false),.c (.i 0),.nil 4]),ie (.stn 22 (.t 5) (.t 11))]) (.seq (.reg [fA 12 0 5,dA 13 10 12,ia 14 (.call ygS [.t 13]),fA 15 0 5,ie (.stn 10 (.t 15) (.t 14))]) (.seq (.reg [fA 16 18 5,lA 17 16,ia 18 (.call yaP [.t 17]),fA 19 18 5,ie (.st1 (.t 19) (.t 18))]) (.seq (.reg [fA 20 21 5,lA 21 20,ia 22 (.call yfM [.t 21]),fA 23 21 5,ie (.st1 (.t 23) (.t 22))]) (.reg [iv 24 3,dA 25 22 5,ia 26 (.bsl 22 [.t 25]),ia 27 (.app 22 224 (.t 24) (.t 26)),iv 3 27])))))) (.reg [pA 28 8 1,iv 8 28]))))))) (.seq (.reg [iv 29 3,iv 2 29]) (.ret))))
theorem yq9 : Has Tryz.prog yfH 30 yka [.t 2]:=⟨by decide,Tryz.f203,_,Tryz.func203,rfl,rfl,⟨none,by kernel_rfl⟩,by kernel_rfl⟩
def yjf : SC:=.seq (.reg [ia 2 (.mv (.k (.nil 3)))]) (.seq (.reg [ia 3 (.mv (.k (.nil 3)))]) (.seq (.seq (.reg [iv 6 0,nA 7 6,mA 8 0]) (.block 0 (.loop (.seq (.reg [tA 9 8 7]) (.seq (.cond (.t 9) (.skip) (.exit 0)) (.seq (.block 1 (.seq (.reg [xA 10 3 6 8,dA 11 3 10,ia 5 (.alloc [.c (.b false),.nil 1,.c (.i 0)]),ie (.stn 3 (.t 5) (.t 11))]) (.rege [⟨0,true,[],iv 12 3⟩,⟨0,false,[],fA 13 0 5⟩,⟨0,false,[],dA 14 2 13⟩,⟨0,false,[],ia 15 (.call ybQ [.t 14])⟩,⟨0,false,[],fA 16 2 5⟩,⟨0,false,[],lA 17 16⟩,⟨0,false,[],ia 18 (.bld [.c (.b false),.nil 1,.c (.i 0)] [(0,2,.t 15),(2,1,.t 17)])⟩,⟨2,false,[0],ia 19 (.bsl 3 [.t 18])⟩,⟨2,false,[],ia 20 (.app 3 40 (.t 12) (.t 19))⟩,⟨0,false,[],iv 3 20⟩]))) (.reg [pA 21 8 1,iv 8 21]))))))) (.seq (.reg [iv 22 3,iv 2 22]) (.ret))))
theorem ypI : Has Tryz.prog yfc 23 yjf [.t 2]:=⟨by decide,Tryz.f204,_,Tryz.func204,rfl,rfl,⟨(some [267,154,272]),by kernel_rfl⟩,by kernel_rfl⟩
def yiY : SC:=.seq (.reg [ia 2 (.mv (.k (.nil 2)))]) (.seq (.reg [ia 3 (.mv (.k (.nil 2)))]) (.seq (.seq (.reg [iv 6 0,nA 7 6,mA 8 0]) (.block 0 (.loop (.seq (.reg [tA 9 8 7]) (.seq (.cond (.t 9) (.skip) (.exit 0)) (.seq (.block 1 (.seq (.reg [xA 10 2 6 8,dA 11 2 10,ia 5 (.alloc [.c (.b false),.nil 1]),ie (.stn 2 (.t 5) (.t 11))]) (.reg [iv 12 3,dA 13 2 5,ia 14 (.call ybQ [.t 13]),ia 15 (.bsl 2 [.t 14]),ia 16 (.app 2 32 (.t 12) (.t 15)),iv 3 16]))) (.reg [pA 17 8 1,iv 8 17]))))))) (.seq (.reg [iv 18 3,iv 2 18]) (.ret))))
theorem yqj : Has Tryz.prog yc9 19 yiY [.t 2]:=⟨by decide,Tryz.f205,_,Tryz.func205,rfl,rfl,⟨none,by kernel_rfl⟩,by kernel_rfl⟩
def ydG : SC:=.seq (.reg [ia 2 (.mv (.k (.nil 1)))]) (.seq (.seq (.reg [iv 3 0,ia 4 (.isn (.t 3))]) (.cond (.t 4) (.seq (.reg [ia 2 (.mv (.k (.nil 1)))]) (.ret)) (.skip))) (.seq (.reg [ia 5 (.bsl 1 []),iv 6 0,ia 7 (.app 1 8 (.t 5) (.t 6)),iv 2 7]) (.ret)))
theorem yiH : Has Tryz.prog yaF 8 ydG [.t 2]:=⟨by decide,Tryz.f206,_,Tryz.func206,rfl,rfl,⟨none,by kernel_rfl⟩,by kernel_rfl⟩
def yi9 : SC:=.seq (.reg [ia 1 (.box 4 (.t 0)),ia 2 (.alloc [.c (.i 0),.c (.i 0),.nil 1,.nil 1])]) (.seq (.reg [fA 3 2 1,lA 4 3,ia 5 (.call yaF [.t 4]),fA 6 2 1,ie (.st1 (.t 6) (.t 5))]) (.seq (.reg [fA 7 3 1,lA 8 7,ia 9 (.call yaF [.t 8]),fA 10 3 1,ie (.st1 (.t 10) (.t 9))]) (.seq (.reg [dA 11 4 1,ie (.stn 4 (.t 2) (.t 11))]) (.ret))))
theorem ypL : Has Tryz.prog yeS 12 yi9 [.cl 2 4]:=⟨by decide,Tryz.f207,_,Tryz.func207,rfl,rfl,⟨none,by kernel_rfl⟩,by kernel_rfl⟩
def ybl : SC:=.seq (.reg [ia 2 (.mv (.k (.nil 5)))]) (.seq (.seq (.reg [iv 3 0,ia 4 (.isn (.t 3))]) (.cond (.t 4) (.seq (.reg [ia 2 (.mv (.k (.nil 5)))]) (.ret)) (.skip))) (.seq (.reg [ia 5 (.bsl 5 []),iv 6 0,ia 7 (.app 5 40 (.t 5) (.t 6)),iv 2 7]) (.ret)))
theorem ydb : Has Tryz.prog yaO 8 ybl [.t 2]:=⟨by decide,Tryz.f208,_,Tryz.func208,rfl,rfl,⟨none,by kernel_rfl⟩,by kernel_rfl⟩
def yjb : SC:=.seq (.reg [mA 4 0]) (.seq (.seq (.reg [mA 5 0]) (.block 0 (.loop (.seq (.seq (.reg [iv 6 5,iv 7 0,nA 8 7,tA 9 6 8]) (.cond (.t 9) (.skip) (.exit 0))) (.seq (.block 1 (.seq (.seq (.reg [iv 12 0,iv 13 5,xA 14 2 12 13,fA 15 0 14,lA 16 15,iv 17 1,ia 18 (.bin .neq (.t 16) (.t 17))]) (.cond (.t 18) (.seq (.reg [mA 4 (-1)]) (.ret)) (.skip))) (.seq (.reg [iv 19 1,pA 20 19 1,iv 1 20]) (.seq (.seq (.reg [iv 21 0,iv 22 5,xA 23 2 21 22,fA 24 1 23,lA 25 24,iv 26 1,ia 27 (.bin .neq (.t 25) (.t 26))]) (.cond (.t 27) (.seq (.reg [mA 4 (-1)]) (.ret)) (.skip))) (.reg [iv 28 1,pA 29 28 1,iv 1 29]))))) (.reg [iv 10 5,pA 11 10 1,iv 5 11])))))) (.seq (.reg [iv 30 1,iv 4 30]) (.ret)))
theorem ypz : Has Tryz.prog ye6 31 yjb [.t 4]:=⟨by decide,Tryz.f215,_,Tryz.func215,rfl,rfl,⟨none,by kernel_rfl⟩,by kernel_rfl⟩
def yiU : SC:=.seq (.reg [mA 4 0]) (.seq (.seq (.reg [mA 5 0]) (.block 0 (.loop (.seq (.seq (.reg [iv 6 5,iv 7 0,nA 8 7,tA 9 6 8]) (.cond (.t 9) (.skip) (.exit 0))) (.seq (.block 1 (.seq (.seq (.reg [iv 12 0,iv 13 5,xA 14 2 12 13,fA 15 0 14,lA 16 15,iv 17 1,ia 18 (.bin .neq (.t 16) (.t 17))]) (.cond (.t 18) (.seq (.reg [mA 4 (-1)]) (.ret)) (.skip))) (.seq (.reg [iv 19 1,pA 20 19 1,iv 1 20]) (.seq (.seq (.reg [iv 21 0,iv 22 5,xA 23 2 21 22,fA 24 1 23,lA 25 24,iv 26 1,ia 27 (.bin .neq (.t 25) (.t 26))]) (.cond (.t 27) (.seq (.reg [mA 4 (-1)]) (.ret)) (.skip))) (.reg [iv 28 1,pA 29 28 1,iv 1 29]))))) (.reg [iv 10 5,pA 11 10 1,iv 5 11])))))) (.seq (.reg [iv 30 1,iv 4 30]) (.ret)))
theorem yqg : Has Tryz.prog yfm 31 yiU [.t 4]:=⟨by decide,Tryz.f216,_,Tryz.func216,rfl,rfl,⟨none,by kernel_rfl⟩,by kernel_rfl⟩
def yjj : SC:=.seq (.reg [mA 4 0]) (.seq (.seq (.reg [mA 5 0]) (.block 0 (.loop (.seq (.seq (.reg [iv 6 5,iv 7 0,nA 8 7,tA 9 6 8]) (.cond (.t 9) (.skip) (.exit 0))) (.seq (.block 1 (.seq (.seq (.reg [iv 12 0,iv 13 5,xA 14 3 12 13,fA 15 0 14,fA 16 0 15,lA 17 16,iv 18 1,ia 19 (.bin .rem (.t 18) (kI 3)),ia 20 (.bin .eql (.t 19) (kI 0)),ia 21 (.beq true (.t 17) (.t 20))]) (.cond (.t 21) (.seq (.reg [mA 4 (-1)]) (.ret)) (.skip))) (.seq (.reg [iv 22 1,pA 23 22 1,iv 1 23]) (.seq (.reg [iv 24 0,iv 25 5,xA 26 3 24 25,fA 27 0 26,fA 28 1 27,lA 29 28,iv 30 1,ia 31 (.call ybC [.t 29,.t 30]),iv 1 31]) (.seq (.seq (.reg [iv 32 1,ia 33 (.bin .lss (.t 32) (kI 0))]) (.cond (.t 33) (.seq (.reg [mA 4 (-1)]) (.ret)) (.skip))) (.seq (.seq (.reg [iv 34 0,iv 35 5,xA 36 3 34 35,fA 37 2 36,lA 38 37,iv 39 1,ia 40 (.bin .neq (.t 38) (.t 39))]) (.cond (.t 40) (.seq (.reg [mA 4 (-1)]) (.ret)) (.skip))) (.reg [iv 41 1,pA 42 41 1,iv 1 42]))))))) (.reg [iv 10 5,pA 11 10 1,iv 5 11])))))) (.seq (.reg [iv 43 1,iv 4 43]) (.ret)))
theorem yqk : Has Tryz.prog yfs 44 yjj [.t 4]:=⟨by decide,Tryz.f217,_,Tryz.func217,rfl,rfl,⟨none,by kernel_rfl⟩,by kernel_rfl⟩
def ym6 : SC:=.seq (.reg [ia 1 (.box 10 (.t 0)),ia 2 (.alloc [.c (.i 0),.c (.i 0),.c (.i 0),.c (.i 0),.c (.i 0),.c (.i 0),.c (.i 0),.c (.i 0),.c (.i 0),.nil 2])]) (.seq (.reg [ia 5 (.bsl 2 []),iv 3 5]) (.seq (.seq (.reg [mA 4 0]) (.block 0 (.loop (.seq (.seq (.reg [iv 6 4,fA 7 9 1,lA 8 7,nA 9 8,tA 10 6 9]) (.cond (.t 10) (.skip) (.exit 0))) (.seq (.block 1 (.reg [iv 13 3,fA 14 9 1,lA 15 14,iv 16 4,xA 17 2 15 16,dA 18 2 17,ia 19 (.call ybV [.t 18]),ia 20 (.bsl 2 [.t 19]),ia 21 (.app 2 32 (.t 13) (.t 20)),iv 3 21])) (.reg [iv 11 4,pA 12 11 1,iv 4 12])))))) (.seq (.reg [iv 22 3,fA 23 9 1,ie (.st1 (.t 23) (.t 22))]) (.seq (.reg [dA 24 10 1,ie (.stn 10 (.t 2) (.t 24))]) (.ret)))))
theorem yst : Has Tryz.prog yin 25 ym6 [.cl 2 10]:=⟨by decide,Tryz.f295,_,Tryz.func295,rfl,rfl,⟨none,by kernel_rfl⟩,by kernel_rfl⟩
def ykE : SC:=.seq (.reg [ia 1 (.box 3 (.t 0)),ia 2 (.alloc [.nil 2,.c (.i 0),.nil 1])]) (.seq (.rege [⟨0,false,[],fA 3 0 1⟩,⟨0,false,[],lA 4 3⟩,⟨0,false,[],ia 5 (.call yaQ [.t 4])⟩,⟨0,false,[],fA 6 1 1⟩,⟨0,false,[],lA 7 6⟩,⟨0,false,[],fA 8 2 1⟩,⟨0,false,[],lA 9 8⟩,⟨0,false,[],ia 10 (.call yaF [.t 9])⟩,⟨0,false,[],ia 11 (.bld [.nil 2,.c (.i 0),.nil 1] [(0,1,.t 5),(1,1,.t 7),(2,1,.t 10)])⟩,⟨2,false,[],ie (.stn 3 (.t 2) (.t 11))⟩]) (.ret))
theorem yqM : Has Tryz.prog ycA 12 ykE [.cl 2 3]:=⟨by decide,Tryz.f299,_,Tryz.func299,rfl,rfl,⟨none,by kernel_rfl⟩,by kernel_rfl⟩
def ylJ : SC:=.seq (.reg [ia 1 (.box 10 (.t 0)),ia 2 (.alloc [.c (.i 0),.c (.i 0),.c (.i 0),.c (.i 0),.c (.i 0),.c (.i 0),.c (.i 0),.c (.i 0),.c (.i 0),.nil 2])]) (.seq (.reg [fA 3 9 1,lA 4 3,ia 5 (.call yc9 [.t 4]),fA 6 9 1,ie (.st1 (.t 6) (.t 5))]) (.seq (.reg [dA 7 10 1,ie (.stn 10 (.t 2) (.t 7))]) (.ret)))
theorem yrF : Has Tryz.prog ygS 8 ylJ [.cl 2 10]:=⟨by decide,Tryz.f300,_,Tryz.func300,rfl,rfl,⟨none,by kernel_rfl⟩,by kernel_rfl⟩
def ybk : SC:=.seq (.reg [ia 2 (.mv (.k (.nil 2)))]) (.seq (.seq (.reg [iv 3 0,ia 4 (.isn (.t 3))]) (.cond (.t 4) (.seq (.reg [ia 2 (.mv (.k (.nil 2)))]) (.ret)) (.skip))) (.seq (.reg [ia 5 (.bsl 2 []),iv 6 0,ia 7 (.app 2 16 (.t 5) (.t 6)),iv 2 7]) (.ret)))
theorem ydc : Has Tryz.prog yaP 8 ybk [.t 2]:=⟨by decide,Tryz.f301,_,Tryz.func301,rfl,rfl,⟨none,by kernel_rfl⟩,by kernel_rfl⟩
def ybo : SC:=.seq (.reg [ia 2 (.mv (.k (.nil 2)))]) (.seq (.seq (.reg [iv 3 0,ia 4 (.isn (.t 3))]) (.cond (.t 4) (.seq (.reg [ia 2 (.mv (.k (.nil 2)))]) (.ret)) (.skip))) (.seq (.reg [ia 5 (.bsl 2 []),iv 6 0,ia 7 (.app 2 16 (.t 5) (.t 6)),iv 2 7]) (.ret)))
theorem ydf : Has Tryz.prog yaQ 8 ybo [.t 2]:=⟨by decide,Tryz.f354,_,Tryz.func354,rfl,rfl,⟨none,by kernel_rfl⟩,by kernel_rfl⟩
def inRange (n a b : Int) : Bool:=decide (a ≤ n) && decide (n ≤ b)
theorem yH (n a b : Int) : yE Tryz.prog yC [.c (.i n),.c (.i a),.c (.i b)] (.c (.b (inRange n a b))):=by
 refine yu ytL (by simp) fun hwf=>?_
 simp -dsimp -implicitDefEqProofs [ym5,inRange]
 exact ⟨fun h=>by simp [h],fun h=>by simp [Int.not_le.2 h]⟩
theorem yF (n a b : Int) : yE Tryz.prog yG [.c (.i n),.c (.i a),.c (.i b)] (.c (.b (inRange n a b))):=by
 refine yu ywK (by simp) fun hwf=>?_
 simp -dsimp -implicitDefEqProofs [yp3,inRange]
 exact ⟨fun h=>by simp [h],fun h=>by simp [Int.not_le.2 h]⟩
structure Entry where
 From : Int
 To : Int
 Amount : Int
 Time : Int
 Why : Int
 deriving Inhabited,DecidableEq
@[simp] def Entry.enc (e : Entry) : List C:=[.i e.From,.i e.To,.i e.Amount,.i e.Time,.i e.Why]
def ycf (e : Entry) : Bool:=decide (e.From ≠ e.To) && inRange e.From 0 11 && inRange e.To 0 11 && inRange e.Amount 1 1000000000 && inRange e.Time 0 1000000 && inRange e.Why 0 9999
theorem yws (e : Entry) : yE Tryz.prog yhS [.agg (e.enc.map .c)] (.c (.b (ycf e))):=by
 refine yu ysr (by simp) fun hwf=>?_
 simp -dsimp -implicitDefEqProofs [ymG]
 refine ⟨fun h=>?_,fun h=>by simp [ycf,h]⟩
 refine yg (yH e.From 0 11) (by simp) rfl ?_
 simp -dsimp -implicitDefEqProofs
 refine ⟨fun h1=>?_,fun h1=>by simp [ycf,h1]⟩
 refine yg (yH e.To 0 11) (by simp) rfl ?_
 simp -dsimp -implicitDefEqProofs
 refine ⟨fun h2=>?_,fun h1=>by simp [ycf,h1]⟩
 refine yg (yH e.Amount 1 1000000000) (by simp) rfl ?_
 simp -dsimp -implicitDefEqProofs
 refine ⟨fun h3=>?_,fun h1=>by simp [ycf,h1]⟩
 refine yg (yH e.Time 0 1000000) (by simp) rfl ?_
 simp -dsimp -implicitDefEqProofs
 refine ⟨fun h4=>?_,fun h1=>by simp [ycf,h1]⟩
 refine yg (yH e.Why 0 9999) (by simp) rfl ?_
 simp -dsimp -implicitDefEqProofs
 simp [ycf,h,h1,h2,h3,h4]
def ylg (es : List Entry) : Bool:=decide (es.length ≤ 2000) && es.all ycf
theorem yO {α : Type} {p : α → Bool} {l : List α} {k : Nat} {e : α} (he : l[k]? = some e) (h : ∀ x ∈ l.take k,p x = true) (hp : p e = true) : ∀ x ∈ l.take (k + 1),p x = true:=by
 intro x hx
 rw [List.take_succ_eq_append_getElem (List.getElem?_eq_some_iff.1 he).1] at hx
 rcases List.mem_append.1 hx with h1 | h1
 ·exact h x h1
 ·rw [List.mem_singleton] at h1
  have:=(List.getElem?_eq_some_iff.1 he).2
  rw [h1,this]; exact hp
theorem yaa {α : Type} {p : α → Bool} {l : List α} {k : Nat} (hk : l.length ≤ k) (h : ∀ x ∈ l.take k,p x = true) : l.all p = true:=by
 rw [List.take_of_length_le hk] at h
 exact List.all_eq_true.2 h
theorem all_false {α : Type} {p : α → Bool} {l : List α} {k : Nat} {e : α} (he : l[k]? = some e) (hp : p e = false) : l.all p = false:=by
 rw [List.all_eq_false]
 exact ⟨e,List.mem_of_getElem? he,by simp [hp]⟩
theorem yI {k n : Nat} (h : k < n) : ((k : Int) < (n : Int)) = True:=by simp [h]
theorem yau {k n : Nat} (h : n ≤ k) : ((k : Int) < (n : Int)) = False:=by simp [h]
theorem yyZ (es : List Entry) : yE Tryz.prog yjG [.c (.sl 5 (es.map Entry.enc))] (.c (.b (ylg es))):=by
 refine yu yvx (by simp) fun hwf=>?_
 simp -dsimp -implicitDefEqProofs [yoW]
 intro hlen
 refine ⟨fun h=>by simp [ylg]; omega,fun h _=>?_⟩
 refine yh (ι:=Nat) (fun k=>k ≤ es.length ∧ ∀ e ∈ es.take k,ycf e = true) (fun k=>yT [(8,.c (.sl 5 (es.map Entry.enc))),(9,.c (.i es.length)),(10,.c (.i k))] []) (fun k=>es.length - k) 0 (by simp) (by apply yj <;> simp [AV.yc,AV.yB]) ?_
 rintro k ⟨hk,hall⟩
 rcases Nat.lt_or_ge k es.length with hlt | hge
 ·obtain ⟨e,he⟩ : ∃ e,es[k]? = some e:=⟨_,List.getElem?_eq_getElem hlt⟩
  simp -dsimp -implicitDefEqProofs [he,yI hlt]
  refine yg (yws e) (by simp) rfl ?_
  simp -dsimp -implicitDefEqProofs
  refine ⟨fun h1=>by simp [ylg,all_false he h1],fun h1=>?_⟩
  refine ⟨by unfold maxLen at hlen; constructor <;> omega,k + 1,⟨by omega,yO he hall h1⟩,by omega,?_⟩
  apply yj <;> simp [AV.yc,AV.yB]
 ·simp -dsimp -implicitDefEqProofs [yau hge]
  have:=yaa hge hall
  simp [ylg,this]; omega
structure Way where
 Long : Int
 Bed : Int
 deriving DecidableEq,Inhabited
@[simp] def Way.enc (e : Way) : List C:=[.i e.Long,.i e.Bed]
def ymA (e : Way) : Bool:=inRange e.Long 1 10000 && inRange e.Bed 0 100000
theorem yeq (n : Int) : yE Tryz.prog ya2 [.c (.i n)] (.c (.b (inRange n 0 100000))):=by
 refine yu yrN (by simp) fun hwf=>?_
 simp -dsimp -implicitDefEqProofs [ylV]
 refine yg (yF n 0 100000) (by simp) rfl ?_
 simp -dsimp -implicitDefEqProofs
theorem yt1 (e : Way) : yE Tryz.prog yhy [.agg (e.enc.map .c)] (.c (.b (ymA e))):=by
 refine yu ywz (by simp) fun hwf=>?_
 simp -dsimp -implicitDefEqProofs [ypS]
 refine yg (yH e.Long 1 10000) (by simp) rfl ?_
 simp -dsimp -implicitDefEqProofs
 refine ⟨fun h=>?_,fun h=>by simp [ymA,h]⟩
 refine yg (yH e.Bed 0 100000) (by simp) rfl ?_
 simp -dsimp -implicitDefEqProofs
 simp [ymA,h]
theorem yt8 (e : Way) : yE Tryz.prog yhv [.agg (e.enc.map .c)] (.c (.b (ymA e))):=by
 refine yu yxg (by simp) fun hwf=>?_
 simp -dsimp -implicitDefEqProofs [yqe]
 refine yg (yF e.Long 1 10000) (by simp) rfl ?_
 simp -dsimp -implicitDefEqProofs
 refine ⟨fun h=>?_,fun h=>by simp [ymA,h]⟩
 refine yg (yeq e.Bed) (by simp) rfl ?_
 simp -dsimp -implicitDefEqProofs
 simp [ymA,h]
theorem yBa (e : Way) : yE Tryz.prog yld [.agg (e.enc.map .c)] (.agg (e.enc.map .c)):=by
 refine yu yw9 (by simp) fun hwf=>?_
 simp -dsimp -implicitDefEqProofs [yql]
theorem yxo (e : Entry) : yE Tryz.prog yiG [.agg (e.enc.map .c)] (.c (.b (ycf e))):=by
 refine yu yt0 (by simp) fun hwf=>?_
 simp -dsimp -implicitDefEqProofs [ynu]
 refine ⟨fun h=>?_,fun h=>by simp [ycf,h]⟩
 refine yg (yF e.From 0 11) (by simp) rfl ?_
 simp -dsimp -implicitDefEqProofs
 refine ⟨fun h1=>?_,fun h1=>by simp [ycf,h1]⟩
 refine yg (yF e.To 0 11) (by simp) rfl ?_
 simp -dsimp -implicitDefEqProofs
 refine ⟨fun h2=>?_,fun h1=>by simp [ycf,h1]⟩
 refine yg (yF e.Amount 1 1000000000) (by simp) rfl ?_
 simp -dsimp -implicitDefEqProofs
 refine ⟨fun h3=>?_,fun h1=>by simp [ycf,h1]⟩
 refine yg (yF e.Time 0 1000000) (by simp) rfl ?_
 simp -dsimp -implicitDefEqProofs
 refine ⟨fun h4=>?_,fun h1=>by simp [ycf,h1]⟩
 refine yg (yF e.Why 0 9999) (by simp) rfl ?_
 simp -dsimp -implicitDefEqProofs
 simp [ycf,h,h1,h2,h3,h4]
theorem yv1 (e : Entry) : yE Tryz.prog yiw [.agg (e.enc.map .c)] (.agg (e.enc.map .c)):=by
 refine yu ytU (by simp) fun hwf=>?_
 simp -dsimp -implicitDefEqProofs [yni]
theorem yBe (e f : Entry) : yE Tryz.prog yix [.agg (e.enc.map .c),.agg (f.enc.map .c)] (.c (.b (decide (e = f)))):=by
 refine yu ytw (by simp) fun hwf=>?_
 obtain ⟨a1,a2,a3,a4,a5⟩:=e
 obtain ⟨b1,b2,b3,b4,b5⟩:=f
 simp -dsimp -implicitDefEqProofs [yne,Entry.mk.injEq]
 refine ⟨fun h=>by simp [h],fun h=>⟨fun h1=>by simp [h1],fun h1=>⟨fun h2=>by simp [h2],fun h2=>⟨fun h3=>by simp [h3],fun h3=>⟨fun h4=>by simp [h4],fun h4=>by simp [h,h1,h2,h3,h4]⟩⟩⟩⟩⟩
def partly {α : Type} (f : α → List C) (z : List C) (es : List α) (k : Nat) : List (List C):=(es.take k).map f ++ List.replicate (es.length - k) z
theorem yaj {α : Type} {f : α → List C} {z : List C} {es : List α} {k : Nat} (h : k ≤ es.length) : (partly f z es k).length = es.length:=by
 simp [partly]; omega
theorem yac {α : Type} {f : α → List C} {z : List C} {es : List α} : partly f z es 0 = List.replicate es.length z:=by simp [partly]
theorem yak {α : Type} {f : α → List C} {z : List C} {es : List α} {k : Nat} (h : es.length ≤ k) : partly f z es k = es.map f:=by
 simp [partly,List.take_of_length_le h,Nat.sub_eq_zero_of_le h]
theorem yai {α : Type} {f : α → List C} {z : List C} {es : List α} {k : Nat} {e : α} (h : es[k]? = some e) : (partly f z es k).set k (f e) = partly f z es (k + 1):=by
 have hk:=(List.getElem?_eq_some_iff.1 h).1
 have he:=(List.getElem?_eq_some_iff.1 h).2
 unfold partly
 rw [List.set_append_right _ _ (by simp; omega)]
 have h1 : ((es.take k).map f).length = k:=by simp; omega
 rw [h1,Nat.sub_self,show es.length - k = (es.length - (k + 1)) + 1 by omega,List.replicate_succ,List.set_cons_zero,List.take_succ_eq_append_getElem hk,he]
 simp
theorem yef {α : Type} {f : α → List C} {z : List C} {es : List α} {k n : Nat} (hz : z.length = n) (hf : ∀ e,(f e).length = n) (h : k < es.length) : ((partly f z es k)[k]?.getD []).length = n:=by
 unfold partly
 rw [List.getElem?_append_right (by simp; omega)]
 have h1 : ((es.take k).map f).length = k:=by simp; omega
 rw [h1,Nat.sub_self,List.getElem?_replicate,if_pos (by omega)]
 exact hz
theorem yar {α : Type} {f : α → List C} {z : List C} {es : List α} {k n : Nat} (hz : z.length = n) (h : k < es.length) : ((partly f z es k)[k]?.getD []).drop n = []:=by
 apply List.drop_eq_nil_of_le
 unfold partly
 rw [List.getElem?_append_right (by simp; omega)]
 have h1 : ((es.take k).map f).length = k:=by simp; omega
 rw [h1,Nat.sub_self,List.getElem?_replicate,if_pos (by omega)]
 simp [hz]
theorem yA {k n : Nat} (hk : k < n) (h : n ≤ maxLen) : inI ((k : Int) + 1):=by unfold maxLen at h; unfold inI; omega
def szS (n : Nat) (left : Int) : Int:=if left - n < 0 then -1 else left - n
theorem yAs (es : List Entry) (hl : es.length ≤ 1048576) : yE Tryz.prog yeb [.c (.sl 5 (es.map Entry.enc))] (.c (.sl 5 (es.map Entry.enc))):=by
 refine yu yl6 (by simp) fun hwf=>?_
 simp -dsimp -implicitDefEqProofs [yg4]
 intro hlen
 refine ⟨by omega,?_⟩
 refine yh (ι:=Nat) (fun k=>k ≤ es.length) (fun k=>yT [(0,.c (.sl 5 (es.map Entry.enc))),(3,.own 7 5 es.length),(4,.c (.i k))] [(7,.row 5 (partly Entry.enc [.i 0,.i 0,.i 0,.i 0,.i 0] es k))]) (fun k=>es.length - k) 0 (by simp) (by apply yj <;> simp [AV.yc,AV.yB,Obj.yc,yac]) ?_
 rintro k hk
 rcases Nat.lt_or_ge k es.length with hlt | hge
 ·obtain ⟨e,he⟩ : ∃ e,es[k]? = some e:=⟨_,List.getElem?_eq_getElem hlt⟩
  have hs:=yai (f:=Entry.enc) (z:=[.i 0,.i 0,.i 0,.i 0,.i 0]) he
  have hd:=yar (f:=Entry.enc) (z:=[.i 0,.i 0,.i 0,.i 0,.i 0]) (n:=5) rfl hlt
  simp only [Entry.enc] at hs
  simp -dsimp -implicitDefEqProofs [he,yI hlt]
  refine fun _=>yL (yv1 e) (by simp) rfl ?_
  simp -dsimp -implicitDefEqProofs [yI hlt,yaj hk,hd,hs]
  refine ⟨hlt,yA hlt hlen,k + 1,hlt,by omega,by apply yj <;> simp [AV.yc,AV.yB,Obj.yc]⟩
 ·simp -dsimp -implicitDefEqProofs [yau hge]
  intro _
  rw [yak hge,List.take_of_length_le (by simp)]
theorem yaL {α : Type} {l m : List α} {k : Nat} {e f : α} (he : l[k]? = some e) (hf : m[k]? = some f) (h : l.take k = m.take k) (hef : e = f) : l.take (k + 1) = m.take (k + 1):=by
 rw [List.take_succ,List.take_succ,he,hf,h,hef]
theorem yby {α : Type} {l m : List α} {k : Nat} {e f : α} (he : l[k]? = some e) (hf : m[k]? = some f) (hef : e ≠ f) : l ≠ m:=by
 rintro rfl
 rw [he] at hf
 exact hef (Option.some.inj hf)
theorem ya9 {α : Type} {l m : List α} {k : Nat} (hl : l.length ≤ k) (hm : l.length = m.length) (h : l.take k = m.take k) : l = m:=by
 rwa [List.take_of_length_le hl,List.take_of_length_le (by omega)] at h
theorem yz4 (es fs : List Entry) : yE Tryz.prog yhd [.c (.sl 5 (es.map Entry.enc)),.c (.sl 5 (fs.map Entry.enc))] (.c (.b (decide (es = fs)))):=by
 refine yu yr7 (by simp) fun hwf=>?_
 simp -dsimp -implicitDefEqProofs [ymd]
 intro hl1 hl2
 refine ⟨fun h e=>h (by rw [e]),fun hlen=>?_⟩
 have hlen' : es.length = fs.length:=by omega
 refine yh (ι:=Nat) (fun k=>k ≤ es.length ∧ es.take k = fs.take k) (fun k=>yT [(0,.c (.sl 5 (es.map Entry.enc))),(1,.c (.sl 5 (fs.map Entry.enc))),(5,.c (.i k))] []) (fun k=>es.length - k) 0 (by simp) (by apply yj <;> simp [AV.yc,AV.yB,Obj.yc]) ?_
 rintro k ⟨hk,htk⟩
 rcases Nat.lt_or_ge k es.length with hlt | hge
 ·obtain ⟨e,he⟩ : ∃ e,es[k]? = some e:=⟨_,List.getElem?_eq_getElem hlt⟩
  obtain ⟨f,hf⟩ : ∃ f,fs[k]? = some f:=⟨_,List.getElem?_eq_getElem (by omega)⟩
  simp -dsimp -implicitDefEqProofs [he,hf,yI hlt,yI (hlen' ▸ hlt)]
  intro _
  refine ⟨_,_,yBe e f,by simp,.inr rfl,?_⟩
  simp -dsimp -implicitDefEqProofs
  refine ⟨fun h=>yby he hf h,fun h=>⟨yA hlt hl1,k + 1,⟨hlt,yaL he hf htk h⟩,by omega,by apply yj <;> simp [AV.yc,AV.yB,Obj.yc]⟩⟩
 ·simp -dsimp -implicitDefEqProofs [yau hge]
  intro _
  exact ya9 hge hlen' htk
theorem yye (es : List Entry) : yE Tryz.prog yjT [.c (.sl 5 (es.map Entry.enc))] (.c (.b (ylg es))):=by
 refine yu yuX (by simp) fun hwf=>?_
 simp -dsimp -implicitDefEqProofs [yon]
 refine yh (ι:=Nat) (fun k=>k ≤ es.length ∧ ∀ e ∈ es.take k,ycf e = true) (fun k=>yT [(0,.c (.sl 5 (es.map Entry.enc))),(3,.c (.i k))] []) (fun k=>es.length - k) 0 (by simp) (by apply yj <;> simp [AV.yc,AV.yB,Obj.yc]) ?_
 rintro k ⟨hk,hall⟩
 rcases Nat.lt_or_ge k es.length with hlt | hge
 ·obtain ⟨e,he⟩ : ∃ e,es[k]? = some e:=⟨_,List.getElem?_eq_getElem hlt⟩
  simp -dsimp -implicitDefEqProofs [he,yI hlt]
  intro hlen
  refine yg (yxo e) (by simp) rfl ?_
  simp -dsimp -implicitDefEqProofs
  refine ⟨fun h1=>by simp [ylg,all_false he h1],fun h1=>?_⟩
  exact ⟨yA hlt hlen,k + 1,⟨by omega,yO he hall h1⟩,by omega,by apply yj <;> simp [AV.yc,AV.yB,Obj.yc]⟩
 ·simp -dsimp -implicitDefEqProofs [yau hge]
  have:=yaa hge hall
  simp only [ylg,this,Bool.and_true]
  intro _
  exact decide_eq_decide.2 (by omega)
abbrev yJ (n : Int) : List C:=[.i n]
theorem yEi (es : List Int) (left : Int) (h0 : 0 ≤ left) (h1 : left ≤ 1048576) : yE Tryz.prog ycq [.c (.sl 1 (es.map yJ)),.c (.i left)] (.c (.i (szS es.length left))):=by
 refine yu yuS (by simp) fun hwf=>?_
 simp -dsimp -implicitDefEqProofs [yoY,szS]
 intro hl
 unfold maxLen at hl
 refine ⟨by unfold inI; omega,fun h=>?_,fun h=>?_⟩ <;> intros <;> omega
theorem ypU (es : List Int) (hl : es.length ≤ 1048576) : yE Tryz.prog ycm [.c (.sl 1 (es.map yJ))] (.c (.sl 1 (es.map yJ))):=by
 refine yu yoX (by simp) fun hwf=>?_
 simp -dsimp -implicitDefEqProofs [yj4]
 intro hlen
 refine ⟨by omega,?_⟩
 refine yh (ι:=Nat) (fun k=>k ≤ es.length) (fun k=>yT [(0,.c (.sl 1 (es.map yJ))),(3,.own 7 1 es.length),(4,.c (.i k))] [(7,.row 1 (partly yJ [.i 0] es k))]) (fun k=>es.length - k) 0 (by simp) (by apply yj <;> simp [AV.yc,AV.yB,Obj.yc,yac]) ?_
 rintro k hk
 rcases Nat.lt_or_ge k es.length with hlt | hge
 ·obtain ⟨e,he⟩ : ∃ e,es[k]? = some e:=⟨_,List.getElem?_eq_getElem hlt⟩
  have hs:=yai (f:=yJ) (z:=[.i 0]) he
  have hd : ((partly yJ [.i 0] es k)[k]?.getD []).set 0 (.i e) = [.i e]:=by
   have:=yef (f:=yJ) (z:=[.i 0]) (n:=1) rfl (fun _=>rfl) hlt
   obtain ⟨x,hx⟩:=List.length_eq_one_iff.1 this
   rw [hx]; rfl
  simp -dsimp -implicitDefEqProofs [he,yI hlt]
  intro _
  rw [hd,show (partly yJ [.i 0] es k).set k [.i e] = partly yJ [.i 0] es (k + 1) from hs]
  exact ⟨by rw [yaj hk]; exact hlt,yA hlt hlen,k + 1,hlt,by omega,by apply yj <;> simp [AV.yc,AV.yB,Obj.yc]⟩
 ·simp -dsimp -implicitDefEqProofs [yau hge]
  intro _
  rw [yak hge,List.take_of_length_le (by simp)]
theorem yqb (es fs : List Int) : yE Tryz.prog yc1 [.c (.sl 1 (es.map yJ)),.c (.sl 1 (fs.map yJ))] (.c (.b (decide (es = fs)))):=by
 refine yu yva (by simp) fun hwf=>?_
 simp -dsimp -implicitDefEqProofs [yoS]
 intro hl1 hl2
 refine ⟨fun h e=>h (by rw [e]),fun hlen=>?_⟩
 have hlen' : es.length = fs.length:=by omega
 refine yh (ι:=Nat) (fun k=>k ≤ es.length ∧ es.take k = fs.take k) (fun k=>yT [(0,.c (.sl 1 (es.map yJ))),(1,.c (.sl 1 (fs.map yJ))),(5,.c (.i k))] []) (fun k=>es.length - k) 0 (by simp) (by apply yj <;> simp [AV.yc,AV.yB,Obj.yc]) ?_
 rintro k ⟨hk,htk⟩
 rcases Nat.lt_or_ge k es.length with hlt | hge
 ·obtain ⟨e,he⟩ : ∃ e,es[k]? = some e:=⟨_,List.getElem?_eq_getElem hlt⟩
  obtain ⟨f,hf⟩ : ∃ f,fs[k]? = some f:=⟨_,List.getElem?_eq_getElem (by omega)⟩
  simp -dsimp -implicitDefEqProofs [he,hf,yI hlt,yI (hlen' ▸ hlt)]
  intro _
  refine ⟨fun h=>yby he hf h,fun h=>⟨yA hlt hl1,k + 1,⟨hlt,yaL he hf htk h⟩,by omega,by apply yj <;> simp [AV.yc,AV.yB,Obj.yc]⟩⟩
 ·simp -dsimp -implicitDefEqProofs [yau hge]
  intro _
  exact ya9 hge hlen' htk
structure Tariff where
 Base : Int
 PerArea : Int
 PerClass : List Int
 Weights : List Int
 deriving DecidableEq
@[simp] def Tariff.enc (t : Tariff) : List C:=[.i t.Base,.i t.PerArea,.sl 1 (t.PerClass.map yJ),.sl 1 (t.Weights.map yJ)]
def Tariff.small (t : Tariff) : Prop:=t.PerClass.length ≤ 1048576 ∧ t.Weights.length ≤ 1048576
theorem yzt (t : Tariff) (h : t.small) : yE Tryz.prog yd2 [.agg (t.enc.map .c)] (.agg (t.enc.map .c)):=by
 refine yu ymc (by simp) fun hwf=>?_
 simp -dsimp -implicitDefEqProofs [ygJ]
 refine yL (ypU t.PerClass h.1) (by simp) rfl ?_
 simp -dsimp -implicitDefEqProofs
 refine yL (ypU t.Weights h.2) (by simp) rfl ?_
 simp -dsimp -implicitDefEqProofs
theorem yz2 (t u : Tariff) : yE Tryz.prog yhb [.agg (t.enc.map .c),.agg (u.enc.map .c)] (.c (.b (decide (t = u)))):=by
 refine yu yrV (by simp) fun hwf=>?_
 obtain ⟨t1,t2,t3,t4⟩:=t
 obtain ⟨u1,u2,u3,u4⟩:=u
 simp -dsimp -implicitDefEqProofs [ymg,Tariff.mk.injEq]
 refine ⟨fun h=>by simp [h],fun h=>⟨fun h1=>by simp [h1],fun h1=>?_⟩⟩
 refine yg (yqb t3 u3) (by simp) rfl ?_
 simp -dsimp -implicitDefEqProofs
 refine ⟨fun h2 _ _ h3=>absurd h3 h2,fun h2=>?_⟩
 refine yg (yqb t4 u4) (by simp) rfl ?_
 simp -dsimp -implicitDefEqProofs
 simp [h,h1,h2]
theorem ytN {l : List Int} {k : Nat} {x : Int} (h : l[k]? = some x) : (l.take (k + 1)).sum = (l.take k).sum + x:=by
 rw [List.take_succ,h]; simp
def sumTo (l : List Int) (k : Nat) : Int:=(l.take k).sum
theorem yiz {l : List Int} : sumTo l 0 = 0:=rfl
theorem yk9 {l : List Int} {k : Nat} {x : Int} (h : l[k]? = some x) : sumTo l (k + 1) = sumTo l k + x:=ytN h
theorem yqA {l : List Int} {k : Nat} (h : l.length ≤ k) : sumTo l k = l.sum:=by unfold sumTo; rw [List.take_of_length_le h]
def ya6 (t : Tariff) : Bool:=inRange t.Base 0 10000 && inRange t.PerArea 0 100 && decide (t.PerClass.length = 3) && inRange t.Weights.length 1 11 &&
 t.PerClass.all (fun n=>inRange n 0 10000) && t.Weights.all (fun n=>inRange n 0 1000) && decide (0 < t.Weights.sum)
theorem yU {n a b : Int} : inRange n a b = true ↔ a ≤ n ∧ n ≤ b:=by simp [inRange]
theorem ycK {n a b : Int} : inRange n a b = false ↔ n < a ∨ b < n:=by
 simp only [inRange,Bool.and_eq_false_iff,decide_eq_false_iff_not]; omega
theorem ynK : ∀ {l : List Int} {b : Int},(∀ x ∈ l,inRange x 0 b = true) → 0 ≤ l.sum ∧ l.sum ≤ b * l.length
 | [],b,_=>by simp
 | x :: l,b,h=>by
  have h1:=ynK (l:=l) (b:=b) fun y hy=>h y (by simp [hy])
  have h2:=yU.1 (h x (by simp))
  simp only [List.sum_cons,List.length_cons,Int.natCast_add,Int.natCast_one,Int.mul_add,Int.mul_one]
  omega
theorem yvd (t : Tariff) : yE Tryz.prog ygT [.agg (t.enc.map .c)] (.c (.b (ya6 t))):=by
 refine yu yr0 (by simp) fun hwf=>?_
 simp -dsimp -implicitDefEqProofs [ylM]
 refine yg (yH t.Base 0 10000) (by simp) rfl ?_
 simp -dsimp -implicitDefEqProofs
 refine ⟨fun h1=>?_,fun h1=>by simp [ya6,h1]⟩
 refine yg (yH t.PerArea 0 100) (by simp) rfl ?_
 simp -dsimp -implicitDefEqProofs
 refine ⟨fun h2=>?_,fun h2=>by simp [ya6,h2]⟩
 intro hc
 refine ⟨fun h3 hw=>⟨fun h4 _=>⟨fun h5=>?_,fun h5 _=>?_⟩,fun h4=>?_⟩,fun h3=>?_⟩
 ·have : inRange t.Weights.length 1 11 = false:=ycK.2 (by omega)
  simp [ya6,this]
 ·have h3' : t.PerClass.length = 3:=by omega
  have h6 : inRange t.Weights.length 1 11 = true:=yU.2 (by omega)
  refine yh (ι:=Nat) (fun k=>k ≤ t.PerClass.length ∧ ∀ n ∈ t.PerClass.take k,inRange n 0 10000 = true) (fun k=>yT [(1,.box 1 0),(37,.c (.sl 1 (t.PerClass.map yJ))),(38,.c (.i t.PerClass.length)),(39,.c (.i k))] [(1,.box (t.enc.map .c))]) (fun k=>t.PerClass.length - k) 0 (by simp) (by apply yj <;> simp [AV.yc,AV.yB,Obj.yc]) ?_
  rintro k ⟨hk,hall⟩
  rcases Nat.lt_or_ge k t.PerClass.length with hlt | hge
  ·obtain ⟨e,he⟩ : ∃ e,t.PerClass[k]? = some e:=⟨_,List.getElem?_eq_getElem hlt⟩
   simp -dsimp -implicitDefEqProofs [he,yI hlt]
   refine yg (yH e 0 10000) (by simp) rfl ?_
   simp -dsimp -implicitDefEqProofs
   refine ⟨fun h1=>by simp [ya6,all_false (p:=fun n=>inRange n 0 10000) he h1],fun h1=>?_⟩
   exact ⟨yA hlt hc,k + 1,⟨by omega,yO (p:=fun n=>inRange n 0 10000) he hall h1⟩,by omega,by apply yj <;> simp [AV.yc,AV.yB,Obj.yc]⟩
  ·have h7:=yaa (p:=fun n=>inRange n 0 10000) hge hall
   simp -dsimp -implicitDefEqProofs [yau hge]
   intro _
   refine yh (ι:=Nat) (fun k=>k ≤ t.Weights.length ∧ ∀ n ∈ t.Weights.take k,inRange n 0 1000 = true) (fun k=>yT [(5,.c (.i (t.Weights.take k).sum)),(48,.c (.sl 1 (t.Weights.map yJ))),(49,.c (.i t.Weights.length)),(50,.c (.i k))] []) (fun k=>t.Weights.length - k) 0 (by simp) (by apply yj <;> simp [AV.yc,AV.yB,Obj.yc]) ?_
   rintro k ⟨hk,hall⟩
   rcases Nat.lt_or_ge k t.Weights.length with hlt | hge
   ·obtain ⟨e,he⟩ : ∃ e,t.Weights[k]? = some e:=⟨_,List.getElem?_eq_getElem hlt⟩
    simp -dsimp -implicitDefEqProofs [he,yI hlt]
    refine yg (yH e 0 1000) (by simp) rfl ?_
    simp -dsimp -implicitDefEqProofs [he,yI hlt]
    refine ⟨fun h1=>by simp [ya6,all_false (p:=fun n=>inRange n 0 1000) he h1],fun h1=>?_⟩
    have hs:=ynK hall
    have hx:=yU.1 h1
    have hl : (t.Weights.take k).length ≤ 11:=by simp; omega
    exact ⟨by unfold inI; omega,yA hlt hw,k + 1,⟨by omega,yO (p:=fun n=>inRange n 0 1000) he hall h1⟩,by omega,by apply yj <;> simp [AV.yc,AV.yB,Obj.yc,ytN he]⟩
   ·have h8:=yaa (p:=fun n=>inRange n 0 1000) hge hall
    simp -dsimp -implicitDefEqProofs [yau hge]
    rw [List.take_of_length_le hge]
    simp [ya6,h1,h2,h3',h6,h7,h8]
 ·have : inRange t.Weights.length 1 11 = false:=ycK.2 (by omega)
  simp [ya6,this]
 ·have : ¬ t.PerClass.length = 3:=by omega
  simp [ya6,this]
theorem yvb (t : Tariff) : yE Tryz.prog ygF [.agg (t.enc.map .c)] (.c (.b (ya6 t))):=by
 refine yu yse (by simp) fun hwf=>?_
 simp -dsimp -implicitDefEqProofs [ylE]
 refine yg (yF t.Base 0 10000) (by simp) rfl ?_
 simp -dsimp -implicitDefEqProofs
 refine ⟨fun h1=>?_,fun h1=>by simp [ya6,h1]⟩
 refine yg (yF t.PerArea 0 100) (by simp) rfl ?_
 simp -dsimp -implicitDefEqProofs
 refine ⟨fun h2=>?_,fun h2=>by simp [ya6,h2]⟩
 intro hc
 refine ⟨fun h3 hw=>?_,fun h3=>?_⟩
 ·have h3' : t.PerClass.length = 3:=by omega
  refine yg (yF t.Weights.length 1 11) (by simp) rfl ?_
  simp -dsimp -implicitDefEqProofs
  refine ⟨fun h6=>?_,fun h6=>?_⟩
  ·simp [ya6,h6]
  have h6':=yU.1 h6
  refine yh (ι:=Nat) (fun k=>k ≤ t.PerClass.length ∧ ∀ n ∈ t.PerClass.take k,inRange n 0 10000 = true) (fun k=>yT [(1,.box 1 0),(3,.c (.i k))] [(1,.box (t.enc.map .c))]) (fun k=>t.PerClass.length - k) 0 (by simp) (by apply yj <;> simp [AV.yc,AV.yB,Obj.yc]) ?_
  rintro k ⟨hk,hall⟩
  rcases Nat.lt_or_ge k t.PerClass.length with hlt | hge
  ·obtain ⟨e,he⟩ : ∃ e,t.PerClass[k]? = some e:=⟨_,List.getElem?_eq_getElem hlt⟩
   have hlt3 : ((k : Int) < 3) = True:=by simp; omega
   simp -dsimp -implicitDefEqProofs [he,hlt3,yI hlt]
   refine yg (yF e 0 10000) (by simp) rfl ?_
   simp -dsimp -implicitDefEqProofs
   refine ⟨fun h1=>by simp [ya6,all_false (p:=fun n=>inRange n 0 10000) he h1],fun h1=>?_⟩
   exact ⟨yA hlt hc,k + 1,⟨by omega,yO (p:=fun n=>inRange n 0 10000) he hall h1⟩,by omega,by apply yj <;> simp [AV.yc,AV.yB,Obj.yc]⟩
  ·have h7:=yaa (p:=fun n=>inRange n 0 10000) hge hall
   have hge3 : ((k : Int) < 3) = False:=by simp; omega
   simp -dsimp -implicitDefEqProofs [hge3]
   refine yh (ι:=Nat) (fun k=>k ≤ t.Weights.length ∧ ∀ n ∈ t.Weights.take k,inRange n 0 1000 = true) (fun k=>yT [(1,.box 1 0),(4,.c (.i (t.Weights.take k).sum)),(5,.c (.i k))] [(1,.box (t.enc.map .c))]) (fun k=>t.Weights.length - k) 0 (by simp) (by apply yj <;> simp [AV.yc,AV.yB,Obj.yc]) ?_
   rintro k ⟨hk,hall⟩
   rcases Nat.lt_or_ge k t.Weights.length with hlt | hge
   ·obtain ⟨e,he⟩ : ∃ e,t.Weights[k]? = some e:=⟨_,List.getElem?_eq_getElem hlt⟩
    simp -dsimp -implicitDefEqProofs [he,yI hlt]
    intro _
    refine yg (yF e 0 1000) (by simp) rfl ?_
    simp -dsimp -implicitDefEqProofs [he,yI hlt]
    refine ⟨fun h1=>by simp [ya6,all_false (p:=fun n=>inRange n 0 1000) he h1],fun h1=>?_⟩
    have hs:=ynK hall
    have hx:=yU.1 h1
    have hl : (t.Weights.take k).length ≤ 11:=by simp; omega
    exact ⟨by unfold inI; omega,yA hlt hw,k + 1,⟨by omega,yO (p:=fun n=>inRange n 0 1000) he hall h1⟩,by omega,by apply yj <;> simp [AV.yc,AV.yB,Obj.yc,ytN he]⟩
   ·have h8:=yaa (p:=fun n=>inRange n 0 1000) hge hall
    simp -dsimp -implicitDefEqProofs [yau hge]
    rw [List.take_of_length_le hge]
    simp [ya6,h1,h2,h3',h6,h7,h8]
 ·have : ¬ t.PerClass.length = 3:=by omega
  simp [ya6,this]
def marked (mk : Int → List C) (c : Int) (rows : List (List C)) (k : Int) (i : Nat) : List (List C):=(List.range i).map (fun (j : Nat)=>mk (k + c * j)) ++ rows.drop i
theorem yex {mk : Int → List C} {c : Int} {rows : List (List C)} {k : Int} : marked mk c rows k 0 = rows:=by simp [marked]
theorem yfI {mk : Int → List C} {c : Int} {rows : List (List C)} {k : Int} {i : Nat} (h : i ≤ rows.length) : (marked mk c rows k i).length = rows.length:=by simp [marked]; omega
theorem yfK {mk : Int → List C} {c : Int} {rows : List (List C)} {k : Int} {i : Nat} (h : i = rows.length) : marked mk c rows k i = marked mk c [] k rows.length:=by subst h; simp [marked]
theorem yfS {mk : Int → List C} {c : Int} {rows : List (List C)} {k : Int} {i : Nat} {r : List C} (h : rows[i]? = some r) : (marked mk c rows k i)[i]? = some r:=by
 unfold marked
 rw [List.getElem?_append_right (by simp)]
 simpa using h
theorem yfW {mk : Int → List C} {c : Int} {rows : List (List C)} {k : Int} {i : Nat} (h : i < rows.length) : (marked mk c rows k i).set i (mk (k + c * i)) = marked mk c rows k (i + 1):=by
 unfold marked
 rw [List.set_append_right _ _ (by simp),List.length_map,List.length_range,Nat.sub_self,List.drop_eq_getElem_cons h,List.set_cons_zero,List.range_succ,List.map_append,List.append_assoc]
 rfl
theorem yhJ {mk : Int → List C} {c : Int} {k : Int} {n i : Nat} (h : i < n) : (marked mk c [] k n)[i]? = some (mk (k + c * i)):=by
 unfold marked
 simp [h]
theorem yP {mk : Int → List C} {c : Int} {k : Int} {n : Nat} : (marked mk c [] k n).length = n:=by simp [marked]
theorem yeB {mk : Int → List C} {c : Int} {k : Int} {n : Nat} : (marked mk c [] k n).take n = marked mk c [] k n:=List.take_of_length_le (by rw [yP]; exact Nat.le_refl _)
theorem yp5 (es : List Int) (hl : es.length ≤ 1048576) : ybg Tryz.prog ycm [.c (.sl 1 (es.map yJ))] (.c (.ow 1 (es.map yJ))):=by
 refine yaw yoX (by simp) fun hwf=>?_
 simp -dsimp -implicitDefEqProofs [yj4]
 intro hlen
 refine ⟨by omega,?_⟩
 refine yh (ι:=Nat) (fun k=>k ≤ es.length) (fun k=>yT [(0,.c (.sl 1 (es.map yJ))),(3,.own 7 1 es.length),(4,.c (.i k))] [(7,.row 1 (partly yJ [.i 0] es k))]) (fun k=>es.length - k) 0 (by simp) (by apply yj <;> simp [AV.yc,AV.yB,Obj.yc,yac]) ?_
 rintro k hk
 rcases Nat.lt_or_ge k es.length with hlt | hge
 ·obtain ⟨e,he⟩ : ∃ e,es[k]? = some e:=⟨_,List.getElem?_eq_getElem hlt⟩
  have hs:=yai (f:=yJ) (z:=[.i 0]) he
  have hd : ((partly yJ [.i 0] es k)[k]?.getD []).set 0 (.i e) = [.i e]:=by
   have:=yef (f:=yJ) (z:=[.i 0]) (n:=1) rfl (fun _=>rfl) hlt
   obtain ⟨x,hx⟩:=List.length_eq_one_iff.1 this
   rw [hx]; rfl
  simp -dsimp -implicitDefEqProofs [he,yI hlt]
  intro _
  rw [hd,show (partly yJ [.i 0] es k).set k [.i e] = partly yJ [.i 0] es (k + 1) from hs]
  exact ⟨by rw [yaj hk]; exact hlt,yA hlt hlen,k + 1,hlt,by omega,by apply yj <;> simp [AV.yc,AV.yB,Obj.yc]⟩
 ·simp -dsimp -implicitDefEqProofs [yau hge]
  intro _
  rw [yak hge,List.take_of_length_le (by simp)]
theorem ycp (xs : List Int) (k : Int) (h0 : 0 ≤ k) (h1 : k + xs.length ≤ 8000000000000000000) :
 InF Tryz.prog yb8 (.c (cw 1 (xs.map yJ))) (.c (cw 1 (marked yJ 1 [] k xs.length))) [.c (.i k)] (.c (.i (k + xs.length))):=by
 rcases Nat.eq_zero_or_pos xs.length with hx | hx
 ·have : xs = []:=List.length_eq_zero_iff.1 hx
  subst this
  refine ybG ylH (by simp) (by simp) rfl fun hwf=>?_
  simp -dsimp -implicitDefEqProofs [ygV,marked]
  refine yh (ι:=Unit) (fun _=>True) (fun _=>yT [(0,.c (.sl 1 [])),(1,.c (.i k)),(5,.c (.i 0)),(1000000,.c (.sl 1 []))] []) (fun _=>0) () trivial (by apply yj <;> simp [AV.yc,AV.yB,Obj.yc]) ?_
  rintro _ _
  simp -dsimp -implicitDefEqProofs
 ·rw [ybW (by simpa using hx),ybW (by rw [yP]; exact hx)]
  refine ybG ylH (by simp) (by simp) rfl fun hwf=>?_
  simp -dsimp -implicitDefEqProofs [ygV]
  refine yh (ι:=Nat) (fun i=>i ≤ xs.length) (fun i=>yT [(0,.own 0 1 xs.length),(1,.c (.i (k + i))),(5,.c (.i i)),(1000000,.own 0 1 xs.length)] [(0,.row 1 (marked yJ 1 (xs.map yJ) k i))]) (fun i=>xs.length - i) 0 (by simp) (by apply yj <;> simp [AV.yc,AV.yB,Obj.yc,yex]) ?_
  rintro i hi
  rcases Nat.lt_or_ge i xs.length with hlt | hge
  ·obtain ⟨e,he⟩ : ∃ e,xs[i]? = some e:=⟨_,List.getElem?_eq_getElem hlt⟩
   have hg:=yfS (mk:=yJ) (c:=1) (k:=k) (rows:=xs.map yJ) (i:=i) (r:=[.i e]) (by simp [he])
   have hl:=yfI (mk:=yJ) (c:=1) (k:=k) (rows:=xs.map yJ) (i:=i) (by simpa using hi)
   have hs:=yfW (mk:=yJ) (c:=1) (k:=k) (rows:=xs.map yJ) (i:=i) (by simpa using hlt)
   rw [List.length_map] at hl
   simp only [Int.one_mul,yJ] at hs
   simp -dsimp -implicitDefEqProofs [yI hlt,hg,hl]
   intro hlen
   refine ⟨hlt,by unfold inI; omega,by unfold inI; omega,i + 1,hlt,by omega,?_⟩
   apply yj <;> simp [AV.yc,AV.yB,Obj.yc,hs] <;> omega
  ·have : i = xs.length:=by omega
   subst this
   simp -dsimp -implicitDefEqProofs
   intro _
   have e:=yfK (mk:=yJ) (c:=1) (rows:=xs.map yJ) (k:=k) (i:=xs.length) (by simp)
   rw [e,List.length_map,List.take_of_length_le (by rw [yP]; exact Nat.le_refl _)]
theorem ylr (n : Nat) (k : Int) (h0 : 0 ≤ k) (h1 : k + n ≤ 8000000000000000000) : yE Tryz.prog yca [.c (.sl 1 (marked yJ 1 [] k n)),.c (.i k)] (.c (.i (k + n))):=by
 refine yu ysd (by simp) fun hwf=>?_
 simp -dsimp -implicitDefEqProofs [yl7]
 refine yh (ι:=Nat) (fun i=>i ≤ n) (fun i=>yT [(0,.c (.sl 1 (marked yJ 1 [] k n))),(1,.c (.i (k + i))),(5,.c (.i i))] []) (fun i=>n - i) 0 (by simp) (by apply yj <;> simp [AV.yc,AV.yB,Obj.yc]) ?_
 rintro i hi
 rcases Nat.lt_or_ge i n with hlt | hge
 ·have hg:=yhJ (mk:=yJ) (c:=1) (k:=k) hlt
  simp only [Int.one_mul] at hg
  simp -dsimp -implicitDefEqProofs [yP,yI hlt,hg]
  intro hlen
  refine ⟨by unfold inI; omega,by unfold inI; omega,i + 1,hlt,by omega,?_⟩
  apply yj <;> simp [AV.yc,AV.yB,Obj.yc] <;> omega
 ·have : i = n:=by omega
  subst this
  simp -dsimp -implicitDefEqProofs [yP]
def ybh (a : Int) (f : Int → Int) : Int:=if a < 0 then -1 else f a
def yas {α : Type} (f : α → Int → Int) : List α → Int → Int
 | [],l=>l
 | x :: xs,l=>ybh (f x l) (yas f xs)
def yfw {α : Type} (f : α → Int → Int) (xs : List α) (l : Int) : Int:=ybh (szS xs.length l) (yas f xs)
def yeV {α : Type} (f : α → Int → Int) (sm : α → Prop) : Prop:=∀ x l,0 ≤ l → l ≤ 1048576 → f x l = -1 ∨ (0 ≤ f x l ∧ f x l ≤ l ∧ sm x)
def ycP {α : Type} (sm : α → Prop) (xs : List α) : Prop:=xs.length ≤ 1048576 ∧ ∀ x ∈ xs,sm x
theorem yN {a : Int} {f : Int → Int} (h : a < 0) : ybh a f = -1:=by simp [ybh,h]
theorem yw {a : Int} {f : Int → Int} (h : 0 ≤ a) : ybh a f = f a:=by simp [ybh,Int.not_lt.2 h]
theorem ykM {α : Type} : yeV (fun (xs : List α) l=>szS xs.length l) (ycP fun _ : α=>True):=by
 intro xs l h0 h1
 simp only [szS]
 unfold ycP
 split
 ·exact .inl rfl
 ·exact .inr ⟨by omega,by omega,by omega,fun _ _=>trivial⟩
theorem yC4 {α : Type} {f : α → Int → Int} {sm : α → Prop} (h : yeV f sm) {x : α} {l : Int} (h0 : 0 ≤ l) (h1 : l ≤ 1048576) (hp : 0 ≤ f x l) : sm x:=by
 rcases h x l h0 h1 with e | ⟨_,_,e⟩
 ·omega
 ·exact e
theorem ylI {α : Type} {f : α → Int → Int} {sm : α → Prop} (h : yeV f sm) (x : α) {l : Int} (h0 : 0 ≤ l) (h1 : l ≤ 1048576) (hp : 0 ≤ f x l) : f x l ≤ 1048576:=by
 rcases h x l h0 h1 with e | ⟨_,e,_⟩
 ·omega
 ·omega
theorem yvC {α : Type} {f : α → Int → Int} {sm : α → Prop} (h : yeV f sm) : ∀ (xs : List α) (l : Int),0 ≤ l → l ≤ 1048576 → yas f xs l = -1 ∨ (0 ≤ yas f xs l ∧ yas f xs l ≤ l ∧ ∀ x ∈ xs,sm x)
 | [],l,h0,h1=>.inr ⟨h0,Int.le_refl _,by simp⟩
 | x :: xs,l,h0,h1=>by
  simp only [yas]
  rcases h x l h0 h1 with e | ⟨e1,e2,e3⟩
  ·exact .inl (yN (by omega))
  ·rw [yw e1]
   rcases yvC h xs (f x l) e1 (by omega) with e | ⟨e4,e5,e6⟩
   ·exact .inl e
   ·exact .inr ⟨e4,by omega,by simp; exact ⟨e3,e6⟩⟩
theorem yjl {α : Type} {f : α → Int → Int} {sm : α → Prop} (h : yeV f sm) : yeV (yfw f) (ycP sm):=by
 intro xs l h0 h1
 unfold yfw
 rcases ykM xs l h0 h1 with e | ⟨e1,e2,e3⟩
 ·exact .inl (yN (by simp only at e; omega))
 ·simp only at e1 e2
  rw [yw e1]
  rcases yvC h xs _ e1 (by omega) with e | ⟨e4,e5,e6⟩
  ·exact .inl e
  ·exact .inr ⟨e4,by omega,e3.1,e6⟩
structure Boat where
 Id : Int
 Length : Int
 Width : Int
 Draught : Int
 Speed : Int
 Class : Int
 deriving DecidableEq,Inhabited
@[simp] def Boat.enc (e : Boat) : List C:=[.i e.Id,.i e.Length,.i e.Width,.i e.Draught,.i e.Speed,.i e.Class]
-- Boat
theorem yxT (e : Boat) : yE Tryz.prog yjE [.agg (e.enc.map .c)] (.agg (e.enc.map .c)):=by
 refine yu yuU (by simp) fun hwf=>?_
 simp -dsimp -implicitDefEqProofs [yoZ]
theorem yDy (a b : Boat) : yE Tryz.prog yjM [.agg (a.enc.map .c),.agg (b.enc.map .c)] (.c (.b (decide (a = b)))):=by
 refine yu yu8 (by simp) fun hwf=>?_
 obtain ⟨a0,a1,a2,a3,a4,a5⟩:=a
 obtain ⟨b0,b1,b2,b3,b4,b5⟩:=b
 simp -dsimp -implicitDefEqProofs [yoP,Boat.mk.injEq]
 refine ⟨fun h=>by simp_all,fun h0=>?_⟩
 refine ⟨fun h=>by simp_all,fun h1=>?_⟩
 refine ⟨fun h=>by simp_all,fun h2=>?_⟩
 refine ⟨fun h=>by simp_all,fun h3=>?_⟩
 refine ⟨fun h=>by simp_all,fun h4=>?_⟩
 refine ⟨fun h=>by simp_all,fun h5=>?_⟩
 simp_all
-- []Boat
def yeN (xs : List Boat) (l : Int) : Int:=szS xs.length l
def yjn : List Boat → Prop:=ycP fun _=>True
theorem yrx : yeV yeN yjn:=ykM
theorem yzD (xs : List Boat) (l : Int) (h0 : 0 ≤ l) (h1 : l ≤ 1048576) : yE Tryz.prog yhL [.c (.sl 6 (xs.map Boat.enc)),.c (.i l)] (.c (.i (yeN xs l))):=by
 refine yu ys4 (by simp) fun hwf=>?_
 simp -dsimp -implicitDefEqProofs [ynf,yeN,szS]
 intro hl
 unfold maxLen at hl
 refine ⟨by unfold inI; omega,fun h=>?_,fun h=>?_⟩ <;> intros <;> omega
theorem yBx (xs : List Boat) (hl : yjn xs) : yE Tryz.prog ye3 [.c (.sl 6 (xs.map Boat.enc))] (.c (.sl 6 (xs.map Boat.enc))):=by
 refine yu ynm (by simp) fun hwf=>?_
 simp -dsimp -implicitDefEqProofs [yir]
 intro hlen
 have hl1:=hl.1
 refine ⟨by omega,?_⟩
 refine yh (ι:=Nat) (fun k=>k ≤ xs.length) (fun k=>yT [(0,.c (.sl 6 (xs.map Boat.enc))),(3,.own 7 6 xs.length),(4,.c (.i k))] [(7,.row 6 (partly Boat.enc [.i 0,.i 0,.i 0,.i 0,.i 0,.i 0] xs k))]) (fun k=>xs.length - k) 0 (by simp) (by apply yj <;> simp [AV.yc,AV.yB,Obj.yc,yac]) ?_
 rintro k hk
 rcases Nat.lt_or_ge k xs.length with hlt | hge
 ·obtain ⟨e,he⟩ : ∃ e,xs[k]? = some e:=⟨_,List.getElem?_eq_getElem hlt⟩
  have hs:=yai (f:=Boat.enc) (z:=[.i 0,.i 0,.i 0,.i 0,.i 0,.i 0]) he
  have hd:=yar (f:=Boat.enc) (z:=[.i 0,.i 0,.i 0,.i 0,.i 0,.i 0]) (n:=6) rfl hlt
  simp only [Boat.enc] at hs
  simp -dsimp -implicitDefEqProofs [he,yI hlt]
  refine fun _=>yL (yxT e ) (by simp) rfl ?_
  simp -dsimp -implicitDefEqProofs [yI hlt,yaj hk,hd,hs]
  exact ⟨hlt,yA hlt hlen,k + 1,hlt,by omega,by apply yj <;> simp [AV.yc,AV.yB,Obj.yc]⟩
 ·simp -dsimp -implicitDefEqProofs [yau hge]
  intro _
  rw [yak hge,List.take_of_length_le (by simp)]
theorem yB6 (es fs : List Boat) : yE Tryz.prog yhN [.c (.sl 6 (es.map Boat.enc)),.c (.sl 6 (fs.map Boat.enc))] (.c (.b (decide (es = fs)))):=by
 refine yu yty (by simp) fun hwf=>?_
 simp -dsimp -implicitDefEqProofs [ynr]
 intro hl1 hl2
 refine ⟨fun h e=>h (by rw [e]),fun hlen=>?_⟩
 have hlen' : es.length = fs.length:=by omega
 refine yh (ι:=Nat) (fun k=>k ≤ es.length ∧ es.take k = fs.take k) (fun k=>yT [(0,.c (.sl 6 (es.map Boat.enc))),(1,.c (.sl 6 (fs.map Boat.enc))),(5,.c (.i k))] []) (fun k=>es.length - k) 0 (by simp) (by apply yj <;> simp [AV.yc,AV.yB,Obj.yc]) ?_
 rintro k ⟨hk,htk⟩
 rcases Nat.lt_or_ge k es.length with hlt | hge
 ·obtain ⟨e,he⟩ : ∃ e,es[k]? = some e:=⟨_,List.getElem?_eq_getElem hlt⟩
  obtain ⟨f,hf⟩ : ∃ f,fs[k]? = some f:=⟨_,List.getElem?_eq_getElem (by omega)⟩
  simp -dsimp -implicitDefEqProofs [he,hf,yI hlt,yI (hlen' ▸ hlt)]
  intro _
  refine ⟨_,_,yDy e f,by simp,.inr rfl,?_⟩
  simp -dsimp -implicitDefEqProofs
  refine ⟨fun h=>yby he hf h,fun h=>⟨yA hlt hl1,k + 1,⟨hlt,yaL he hf htk h⟩,by omega,by apply yj <;> simp [AV.yc,AV.yB,Obj.yc]⟩⟩
 ·simp -dsimp -implicitDefEqProofs [yau hge]
  intro _
  exact ya9 hge hlen' htk
abbrev yah (xs : List Boat) : List C:=[.sl 6 (xs.map Boat.enc)]
-- [][]Boat
def yeH : List (List Boat) → Int → Int:=yfw yeN
def yeL : List (List Boat) → Prop:=ycP yjn
theorem ywd : yeV yeH yeL:=yjl yrx
theorem yyJ (xs : List (List Boat)) (l : Int) (h0 : 0 ≤ l) (h1 : l ≤ 1048576) : yE Tryz.prog ygL [.c (.sl 1 (xs.map yah)),.c (.i l)] (.c (.i (yeH xs l))):=by
 refine yu yrE (by simp) fun hwf=>?_
 simp -dsimp -implicitDefEqProofs [yl1]
 intro hl
 have hs : szS xs.length l = if l - xs.length < 0 then -1 else l - xs.length:=rfl
 refine ⟨by unfold maxLen at hl; unfold inI; omega,fun h=>?_,fun h=>?_⟩
 ·simp [yeH,yfw,ybh,hs,h]
 have h' : 0 ≤ l - xs.length:=by omega
 have e0 : yeH xs l = yas yeN xs (l - xs.length):=by
  have : szS xs.length l = l - xs.length:=by rw [hs,if_neg (by omega)]
  simp only [yeH,yfw]
  rw [this,yw h']
 refine yh (ι:=Nat × Int) (fun p=>p.1 ≤ xs.length ∧ 0 ≤ p.2 ∧ p.2 ≤ 1048576 ∧ yas yeN (xs.drop p.1) p.2 = yeH xs l) (fun p=>yT [(0,.c (.sl 1 (xs.map yah))),(1,.c (.i p.2)),(5,.c (.i p.1))] []) (fun p=>xs.length - p.1) (0,l - xs.length) ⟨by simp,h',by simp only; omega,by simp [e0]⟩ (by apply yj <;> simp [AV.yc,AV.yB,Obj.yc]) ?_
 rintro ⟨k,q⟩ ⟨hk,hq0,hq1,hf⟩
 simp only at hk hq0 hq1 hf
 rcases Nat.lt_or_ge k xs.length with hlt | hge
 ·obtain ⟨e,he⟩ : ∃ e,xs[k]? = some e:=⟨_,List.getElem?_eq_getElem hlt⟩
  have hd : xs.drop k = e :: xs.drop (k + 1):=by
   rw [List.drop_eq_getElem_cons hlt,(List.getElem?_eq_some_iff.1 he).2]
  rw [hd,yas] at hf
  simp -dsimp -implicitDefEqProofs [he,yI hlt]
  refine fun _=>yg (yzD e q hq0 hq1) (by simp) rfl ?_
  simp -dsimp -implicitDefEqProofs
  refine ⟨fun h=>by rw [← hf,yN h],fun h=>⟨yA hlt hl,k + 1,⟨yeN e q,?_⟩⟩⟩
  rw [yw h] at hf
  have hle : yeN e q ≤ 1048576:=by
   rcases yrx e q hq0 hq1 with e1 | e1
   ·omega
   ·omega
  exact ⟨⟨hlt,h,hle,hf⟩,by omega,by apply yj <;> simp [AV.yc,AV.yB,Obj.yc]⟩
 ·simp -dsimp -implicitDefEqProofs [yau hge]
  rw [List.drop_of_length_le hge] at hf
  intro _
  first | simpa [yas] using hf | simpa [yas] using hf.symm
theorem yzr (xs : List (List Boat)) (hl : yeL xs) : yE Tryz.prog yd3 [.c (.sl 1 (xs.map yah))] (.c (.sl 1 (xs.map yah))):=by
 refine yu ylT (by simp) fun hwf=>?_
 simp -dsimp -implicitDefEqProofs [yhi]
 intro hlen
 have hl1:=hl.1
 refine ⟨by omega,?_⟩
 refine yh (ι:=Nat) (fun k=>k ≤ xs.length) (fun k=>yT [(0,.c (.sl 1 (xs.map yah))),(3,.own 7 1 xs.length),(4,.c (.i k))] [(7,.row 1 (partly yah [.sl 6 []] xs k))]) (fun k=>xs.length - k) 0 (by simp) (by apply yj <;> simp [AV.yc,AV.yB,Obj.yc,yac]) ?_
 rintro k hk
 rcases Nat.lt_or_ge k xs.length with hlt | hge
 ·obtain ⟨e,he⟩ : ∃ e,xs[k]? = some e:=⟨_,List.getElem?_eq_getElem hlt⟩
  have hs:=yai (f:=yah) (z:=[.sl 6 []]) he
  have hd : ((partly yah [.sl 6 []] xs k)[k]?.getD []).set 0 (.sl 6 (e.map Boat.enc)) = [.sl 6 (e.map Boat.enc)]:=by
   have:=yef (f:=yah) (z:=[.sl 6 []]) (n:=1) rfl (fun _=>rfl) hlt
   obtain ⟨x,hx⟩:=List.length_eq_one_iff.1 this
   rw [hx]; rfl
  have hs2 : (partly yah [.sl 6 []] xs k).set k [.sl 6 (e.map Boat.enc)] = partly yah [.sl 6 []] xs (k + 1):=hs
  simp -dsimp -implicitDefEqProofs [he,yI hlt]
  refine fun _=>yL (yBx e (hl.2 e (List.mem_of_getElem? he))) (by simp) rfl ?_
  simp -dsimp -implicitDefEqProofs [yI hlt,yaj hk,hd,hs2]
  exact ⟨hlt,yA hlt hlen,k + 1,hlt,by omega,by apply yj <;> simp [AV.yc,AV.yB,Obj.yc]⟩
 ·simp -dsimp -implicitDefEqProofs [yau hge]
  intro _
  rw [yak hge,List.take_of_length_le (by simp)]
theorem yzk (es fs : List (List Boat)) : yE Tryz.prog yg1 [.c (.sl 1 (es.map yah)),.c (.sl 1 (fs.map yah))] (.c (.b (decide (es = fs)))):=by
 refine yu yr8 (by simp) fun hwf=>?_
 simp -dsimp -implicitDefEqProofs [yl4]
 intro hl1 hl2
 refine ⟨fun h e=>h (by rw [e]),fun hlen=>?_⟩
 have hlen' : es.length = fs.length:=by omega
 refine yh (ι:=Nat) (fun k=>k ≤ es.length ∧ es.take k = fs.take k) (fun k=>yT [(0,.c (.sl 1 (es.map yah))),(1,.c (.sl 1 (fs.map yah))),(5,.c (.i k))] []) (fun k=>es.length - k) 0 (by simp) (by apply yj <;> simp [AV.yc,AV.yB,Obj.yc]) ?_
 rintro k ⟨hk,htk⟩
 rcases Nat.lt_or_ge k es.length with hlt | hge
 ·obtain ⟨e,he⟩ : ∃ e,es[k]? = some e:=⟨_,List.getElem?_eq_getElem hlt⟩
  obtain ⟨f,hf⟩ : ∃ f,fs[k]? = some f:=⟨_,List.getElem?_eq_getElem (by omega)⟩
  simp -dsimp -implicitDefEqProofs [he,hf,yI hlt,yI (hlen' ▸ hlt)]
  intro _
  refine ⟨_,_,yB6 e f,by simp,.inr rfl,?_⟩
  simp -dsimp -implicitDefEqProofs
  refine ⟨fun h=>yby he hf h,fun h=>⟨yA hlt hl1,k + 1,⟨hlt,yaL he hf htk h⟩,by omega,by apply yj <;> simp [AV.yc,AV.yB,Obj.yc]⟩⟩
 ·simp -dsimp -implicitDefEqProofs [yau hge]
  intro _
  exact ya9 hge hlen' htk
structure Train where
 Up : Bool
 Rows : List (List Boat)
 deriving DecidableEq,Inhabited
@[simp] def Train.enc (e : Train) : List C:=[.b e.Up,.sl 1 (e.Rows.map yah)]
-- Train
def ybY (e : Train) (l : Int) : Int:=ybh (yeH e.Rows l) fun l=>l
def Train.small (e : Train) : Prop:=yeL e.Rows
theorem ygp : yeV ybY Train.small:=by
 intro e l h0 h1
 unfold ybY
 rcases ywd e.Rows _ h0 h1 with e0 | ⟨a0,b0,s0⟩
 ·exact .inl (yN (by omega))
 rw [yw a0]
 exact .inr ⟨a0,by omega,s0⟩
theorem ylw (e : Train) (l : Int) (h0 : 0 ≤ l) (h1 : l ≤ 1048576) : yE Tryz.prog ycx [.agg (e.enc.map .c),.c (.i l)] (.c (.i (ybY e l))):=by
 refine yu ytr (by simp) fun hwf=>?_
 simp -dsimp -implicitDefEqProofs [ynh]
 refine yg (yyJ e.Rows _ h0 h1) (by simp) rfl ?_
 simp -dsimp -implicitDefEqProofs
 refine ⟨fun h=>by simp [ybY,yN h],fun p0=>?_⟩
 simp [ybY,yw p0]
theorem ynG (e : Train) (hl : Train.small e) : yE Tryz.prog ybU [.agg (e.enc.map .c)] (.agg (e.enc.map .c)):=by
 refine yu ym7 (by simp) fun hwf=>?_
 simp -dsimp -implicitDefEqProofs [yib]
 refine yL (yzr e.Rows hl) (by simp) rfl ?_
 simp -dsimp -implicitDefEqProofs
theorem ynT (a b : Train) : yE Tryz.prog ycG [.agg (a.enc.map .c),.agg (b.enc.map .c)] (.c (.b (decide (a = b)))):=by
 refine yu ytB (by simp) fun hwf=>?_
 obtain ⟨a0,a1⟩:=a
 obtain ⟨b0,b1⟩:=b
 simp -dsimp -implicitDefEqProofs [ymw,Train.mk.injEq]
 refine ⟨fun h=>by simp_all,fun h0=>?_⟩
 refine yg (yzk a1 b1) (by simp) rfl ?_
 simp -dsimp -implicitDefEqProofs
 refine ⟨fun h=>by simp_all,fun h1=>?_⟩
 simp_all
structure Mover where
 Train : Train
 Place : Int
 deriving DecidableEq,Inhabited
@[simp] def Mover.enc (e : Mover) : List C:=[.b e.Train.Up,.sl 1 (e.Train.Rows.map yah),.i e.Place]
-- Mover
def ycV (e : Mover) (l : Int) : Int:=ybh (ybY e.Train l) fun l=>l
def Mover.small (e : Mover) : Prop:=e.Train.small
theorem yrA : yeV ycV Mover.small:=by
 intro e l h0 h1
 unfold ycV
 rcases ygp e.Train _ h0 h1 with e0 | ⟨a0,b0,s0⟩
 ·exact .inl (yN (by omega))
 rw [yw a0]
 exact .inr ⟨a0,by omega,s0⟩
theorem yzC (e : Mover) (l : Int) (h0 : 0 ≤ l) (h1 : l ≤ 1048576) : yE Tryz.prog yhP [.agg (e.enc.map .c),.c (.i l)] (.c (.i (ycV e l))):=by
 refine yu ysw (by simp) fun hwf=>?_
 simp -dsimp -implicitDefEqProofs [ymD]
 refine yg (ylw e.Train _ h0 h1) (by simp) rfl ?_
 simp -dsimp -implicitDefEqProofs
 refine ⟨fun h=>by simp [ycV,yN h],fun p0=>?_⟩
 simp [ycV,yw p0]
theorem yBy (e : Mover) (hl : Mover.small e) : yE Tryz.prog yeX [.agg (e.enc.map .c)] (.agg (e.enc.map .c)):=by
 refine yu ymv (by simp) fun hwf=>?_
 simp -dsimp -implicitDefEqProofs [yh9]
 refine yL (ynG e.Train hl) (by simp) rfl ?_
 simp -dsimp -implicitDefEqProofs
theorem yBX (a b : Mover) : yE Tryz.prog yij [.agg (a.enc.map .c),.agg (b.enc.map .c)] (.c (.b (decide (a = b)))):=by
 refine yu ys6 (by simp) fun hwf=>?_
 obtain ⟨a0,a1⟩:=a
 obtain ⟨b0,b1⟩:=b
 simp -dsimp -implicitDefEqProofs [yns,Mover.mk.injEq]
 refine yg (ynT a0 b0) (by simp) rfl ?_
 simp -dsimp -implicitDefEqProofs
 refine ⟨fun h=>by simp_all,fun h0=>?_⟩
 refine ⟨fun h=>by simp_all,fun h1=>?_⟩
 simp_all
theorem yBj (xs : List Boat) (hl : yjn xs) : ybg Tryz.prog ye3 [.c (.sl 6 (xs.map Boat.enc))] (.c (.ow 6 (xs.map Boat.enc))):=by
 refine yaw ynm (by simp) fun hwf=>?_
 simp -dsimp -implicitDefEqProofs [yir]
 intro hlen
 have hl1:=hl.1
 refine ⟨by omega,?_⟩
 refine yh (ι:=Nat) (fun k=>k ≤ xs.length) (fun k=>yT [(0,.c (.sl 6 (xs.map Boat.enc))),(3,.own 7 6 xs.length),(4,.c (.i k))] [(7,.row 6 (partly Boat.enc [.i 0,.i 0,.i 0,.i 0,.i 0,.i 0] xs k))]) (fun k=>xs.length - k) 0 (by simp) (by apply yj <;> simp [AV.yc,AV.yB,Obj.yc,yac]) ?_
 rintro k hk
 rcases Nat.lt_or_ge k xs.length with hlt | hge
 ·obtain ⟨e,he⟩ : ∃ e,xs[k]? = some e:=⟨_,List.getElem?_eq_getElem hlt⟩
  have hs:=yai (f:=Boat.enc) (z:=[.i 0,.i 0,.i 0,.i 0,.i 0,.i 0]) he
  have hd:=yar (f:=Boat.enc) (z:=[.i 0,.i 0,.i 0,.i 0,.i 0,.i 0]) (n:=6) rfl hlt
  simp only [Boat.enc] at hs
  simp -dsimp -implicitDefEqProofs [he,yI hlt]
  refine fun _=>yL (yxT e ) (by simp) rfl ?_
  simp -dsimp -implicitDefEqProofs [yI hlt,yaj hk,hd,hs]
  exact ⟨hlt,yA hlt hlen,k + 1,hlt,by omega,by apply yj <;> simp [AV.yc,AV.yB,Obj.yc]⟩
 ·simp -dsimp -implicitDefEqProofs [yau hge]
  intro _
  rw [yak hge,List.take_of_length_le (by simp)]
theorem yaf {α : Type} {f g : α → List C} (h : ∀ x,ybR (f x) = some (g x)) : ∀ (l : List α),yo5 (l.map f) = some (l.map g)
 | []=>rfl
 | x :: l=>by simp [yo5,h x,yaf h l]
theorem ydu {α : Type} {f g : α → List C} {k : Nat} (h : ∀ x,ybR (f x) = some (g x)) (l : List α) : (C.ot k (l.map f)).shr = some (.sl k (l.map g)):=by simp [C.shr,yaf h l]
def yX (xs : List Boat) : List C:=[.ow 6 (xs.map Boat.enc)]
theorem yeZ (xs : List Boat) : ybR (yX xs) = some (yah xs):=rfl
theorem yzM (xs : List (List Boat)) (hl : yeL xs) : ybg Tryz.prog yd3 [.c (.sl 1 (xs.map yah))] (.c (.ot 1 (xs.map yX))):=by
 refine yaw ylT (by simp) fun hwf=>?_
 simp -dsimp -implicitDefEqProofs [yhi]
 intro hlen
 have hl1:=hl.1
 refine ⟨by omega,?_⟩
 refine yh (ι:=Nat) (fun k=>k ≤ xs.length) (fun k=>yT [(0,.c (.sl 1 (xs.map yah))),(3,.own 7 1 xs.length),(4,.c (.i k))] [(7,.tr 1 0 (partly yX [.sl 6 []] xs k))]) (fun k=>xs.length - k) 0 (by simp) (by apply yj <;> simp [AV.yc,AV.yB,Obj.yc,yac,Obj.leO]) ?_
 rintro k hk
 rcases Nat.lt_or_ge k xs.length with hlt | hge
 ·obtain ⟨e,he⟩ : ∃ e,xs[k]? = some e:=⟨_,List.getElem?_eq_getElem hlt⟩
  have hs:=yai (f:=yX) (z:=[.sl 6 []]) he
  have hd : ((partly yX [.sl 6 []] xs k)[k]?.getD []).set 0 (.ow 6 (e.map Boat.enc)) = yX e:=by
   have:=yef (f:=yX) (z:=[.sl 6 []]) (n:=1) rfl (fun _=>rfl) hlt
   obtain ⟨x,hx⟩:=List.length_eq_one_iff.1 this
   rw [hx]; rfl
  simp -dsimp -implicitDefEqProofs [he,yI hlt]
  intro _
  refine yS (yBj e (hl.2 e (List.mem_of_getElem? he))) (by simp ) (by simp [AV.closed,AV.ya3,C.closed]) (by simp [yZ]) ?_
  simp -dsimp -implicitDefEqProofs [yI hlt,yaj hk,yt,setAt,hd,hs]
  exact ⟨hlt,yA hlt hlen,k + 1,hlt,by omega,by apply yj <;> simp [AV.yc,AV.yB,Obj.yc,Obj.leO]⟩
 ·simp -dsimp -implicitDefEqProofs [yau hge]
  intro _
  rw [yak hge,yt]
@[simp] def Train.yM (e : Train) : List C:=[.b e.Up,.ot 1 (e.Rows.map yX)]
theorem Train.yab (e : Train) : ybR e.yM = some e.enc:=by simp [Train.yM,ybR,ydu yeZ]
theorem yn1 (e : Train) (hl : Train.small e) : ybg Tryz.prog ybU [.agg (e.enc.map .c)] (.agg (e.yM.map .c)):=by
 refine yaw ym7 (by simp) fun hwf=>?_
 simp -dsimp -implicitDefEqProofs [yib]
 refine yS (yzM e.Rows hl) (by simp) (by simp [AV.closed,AV.ya3,C.closed,yX]) (by simp [yZ]) ?_
 simp -dsimp -implicitDefEqProofs [yt]
def yay {α : Type} (f : Int → α → List C) (n : α → Nat) : Int → List α → List (List C)
 | _,[]=>[]
 | k,x :: l=>f k x :: yay f n (k + n x) l
def cnt {α : Type} (n : α → Nat) (l : List α) : Nat:=(l.map n).sum
theorem yK {α : Type} {f : Int → α → List C} {n : α → Nat} : ∀ {l : List α} {k : Int},(yay f n k l).length = l.length
 | [],_=>rfl
 | x :: l,k=>by simp [yay,yK (l:=l)]
theorem yvG {α : Type} {f : Int → α → List C} {n : α → Nat} {x : α} : ∀ {l : List α} {k : Int},yay f n k (l ++ [x]) = yay f n k l ++ [f (k + cnt n l) x]
 | [],k=>by simp [yay,cnt]
 | y :: l,k=>by
  simp only [List.cons_append,yay,yvG (l:=l)]
  simp [cnt,Int.add_assoc]
def ycC {α : Type} (f : Int → α → List C) (g : α → List C) (n : α → Nat) (k : Int) (xs : List α) (i : Nat) : List (List C):=yay f n k (xs.take i) ++ (xs.drop i).map g
def yaE {α : Type} (n : α → Nat) (xs : List α) (i : Nat) : Nat:=cnt n (xs.take i)
section
variable {α : Type} {f : Int → α → List C} {g : α → List C} {n : α → Nat} {k : Int} {xs : List α} {i : Nat} {x : α}
theorem yaV : yaE n xs 0 = 0:=rfl
theorem yaW (h : xs[i]? = some x) : yaE n xs (i + 1) = yaE n xs i + n x:=by
 unfold yaE cnt; rw [List.take_succ,h,List.map_append,List.sum_append]; simp
theorem ybf (h : xs.length ≤ i) : yaE n xs i = cnt n xs:=by unfold yaE; rw [List.take_of_length_le h]
theorem ybF : yaE n xs i ≤ cnt n xs:=by
 unfold yaE cnt
 conv=>rhs; rw [← List.take_append_drop i xs]
 rw [List.map_append,List.sum_append]; omega
theorem ydq : ycC f g n k xs 0 = xs.map g:=by simp [ycC,yay]
theorem yeE : (ycC f g n k xs i).length = xs.length:=by
 unfold ycC; rw [List.length_append,yK,List.length_map,← List.length_append,List.take_append_drop]
theorem yew (h : xs.length ≤ i) : ycC f g n k xs i = yay f n k xs:=by
 unfold ycC; rw [List.take_of_length_le h,List.drop_of_length_le h]; simp
theorem yez (h : xs[i]? = some x) : (ycC f g n k xs i)[i]? = some (g x):=by
 have hlt:=(List.getElem?_eq_some_iff.1 h).1
 have e : (yay f n k (xs.take i)).length = i:=by rw [yK,List.length_take]; omega
 unfold ycC
 rw [List.getElem?_append_right (by omega),e,Nat.sub_self,List.getElem?_map,List.getElem?_drop,Nat.add_zero,h]; rfl
theorem yeC (h : xs[i]? = some x) : (ycC f g n k xs i).set i (f (k + yaE n xs i) x) = ycC f g n k xs (i + 1):=by
 have hlt:=(List.getElem?_eq_some_iff.1 h).1
 have e : (yay f n k (xs.take i)).length = i:=by rw [yK,List.length_take]; omega
 unfold ycC yaE
 rw [List.set_append_right _ _ (by omega),e,Nat.sub_self,List.drop_eq_getElem_cons hlt,(List.getElem?_eq_some_iff.1 h).2,List.map_cons,List.set_cons_zero,List.take_succ,h]
 simp only [Option.toList_some]
 rw [yvG,List.append_assoc]; rfl
end
theorem yhD {α : Type} {f : Int → α → List C} {n : α → Nat} : ∀ {xs : List α} {k : Int} {i : Nat} {x : α},xs[i]? = some x → (yay f n k xs)[i]? = some (f (k + yaE n xs i) x)
 | y :: l,k,0,x,h=>by simp at h; subst h; simp [yay,yaE,cnt]
 | y :: l,k,i + 1,x,h=>by
  simp only [yay,List.getElem?_cons_succ]
  rw [yhD (xs:=l) (k:=k + n y) (i:=i) (x:=x) (by simpa using h)]
  congr 2
  unfold yaE cnt
  simp only [List.take_succ_cons,List.map_cons,List.sum_cons,Int.natCast_add]; omega
def mkB (k : Int) : List C:=[.i k,.i (k + 1),.i (k + 1 + 1),.i (k + 1 + 1 + 1),.i (k + 1 + 1 + 1 + 1),.i (k + 1 + 1 + 1 + 1 + 1)]
theorem yxK (xs : List Boat) (k : Int) (h0 : 0 ≤ k) (h1 : k + 6 * xs.length ≤ 8000000000000000000) :
 InF Tryz.prog yf0 (.c (cw 6 (xs.map Boat.enc))) (.c (cw 6 (marked mkB 6 [] k xs.length))) [.c (.i k)] (.c (.i (k + 6 * xs.length))):=by
 rcases Nat.eq_zero_or_pos xs.length with hx | hx
 ·have : xs = []:=List.length_eq_zero_iff.1 hx
  subst this
  refine ybG ykI (by simp) (by simp) rfl fun hwf=>?_
  simp -dsimp -implicitDefEqProofs [yfG,marked]
  refine yh (ι:=Unit) (fun _=>True) (fun _=>yT [(0,.c (.sl 6 [])),(1,.c (.i k)),(5,.c (.i 0)),(1000000,.c (.sl 6 []))] []) (fun _=>0) () trivial (by apply yj <;> simp [AV.yc,AV.yB,Obj.yc]) ?_
  rintro _ _
  simp -dsimp -implicitDefEqProofs
 ·rw [ybW (by simpa using hx),ybW (by rw [yP]; exact hx)]
  refine ybG ykI (by simp) (by simp) rfl fun hwf=>?_
  simp -dsimp -implicitDefEqProofs [yfG]
  refine yh (ι:=Nat) (fun i=>i ≤ xs.length) (fun i=>yT [(0,.own 0 6 xs.length),(1,.c (.i (k + 6 * i))),(5,.c (.i i)),(1000000,.own 0 6 xs.length)] [(0,.row 6 (marked mkB 6 (xs.map Boat.enc) k i))]) (fun i=>xs.length - i) 0 (by simp) (by apply yj <;> simp [AV.yc,AV.yB,Obj.yc,yex]) ?_
  rintro i hi
  rcases Nat.lt_or_ge i xs.length with hlt | hge
  ·obtain ⟨e,he⟩ : ∃ e,xs[i]? = some e:=⟨_,List.getElem?_eq_getElem hlt⟩
   have hg:=yfS (mk:=mkB) (c:=6) (k:=k) (rows:=xs.map Boat.enc) (i:=i) (r:=e.enc) (by simp [he])
   have hl:=yfI (mk:=mkB) (c:=6) (k:=k) (rows:=xs.map Boat.enc) (i:=i) (by simpa using hi)
   have hs:=yfW (mk:=mkB) (c:=6) (k:=k) (rows:=xs.map Boat.enc) (i:=i) (by simpa using hlt)
   rw [List.length_map] at hl
   generalize marked mkB 6 (xs.map Boat.enc) k i = M at *
   have hlt2 : i < M.length:=by omega
   have hself : ∀ a,(M.set i a)[i]? = some a:=fun a=>List.getElem?_set_self hlt2
   simp only [mkB] at hs
   simp only [Boat.enc] at hg
   simp -dsimp -implicitDefEqProofs [yI hlt,hg,hl,hlt2,hself]
   intro hlen
   refine ⟨hlt,by unfold inI; omega,hlt,by unfold inI; omega,hlt,by unfold inI; omega,hlt,by unfold inI; omega,hlt,by unfold inI; omega,hlt,by unfold inI; omega,by unfold inI; omega,i + 1,hlt,by omega,?_⟩
   apply yj <;> simp [AV.yc,AV.yB,Obj.yc,hs,hself] <;> omega
  ·have : i = xs.length:=by omega
   subst this
   simp -dsimp -implicitDefEqProofs
   intro _
   have e:=yfK (mk:=mkB) (c:=6) (rows:=xs.map Boat.enc) (k:=k) (i:=xs.length) (by simp)
   rw [e,List.length_map,List.take_of_length_le (by rw [yP]; exact Nat.le_refl _)]
def nB (r : List Boat) : Nat:=6 * r.length
def fB (k : Int) (r : List Boat) : List C:=[.ow 6 (marked mkB 6 [] k r.length)]
theorem yhE (xs : List (List Boat)) (k : Int) (h0 : 0 ≤ k) (h1 : k + cnt nB xs ≤ 8000000000000000000) :
 InF Tryz.prog ybw (.c (ct 1 (xs.map yX))) (.c (ct 1 (yay fB nB k xs))) [.c (.i k)] (.c (.i (k + cnt nB xs))):=by
 rcases Nat.eq_zero_or_pos xs.length with hx | hx
 ·have : xs = []:=List.length_eq_zero_iff.1 hx
  subst this
  refine ybG yiL (by simp) (by simp) rfl fun hwf=>?_
  simp -dsimp -implicitDefEqProofs [yfe,yay,cnt]
  refine yh (ι:=Unit) (fun _=>True) (fun _=>yT [(0,.c (.sl 1 [])),(1,.c (.i k)),(5,.c (.i 0)),(1000000,.c (.sl 1 []))] []) (fun _=>0) () trivial (by apply yj <;> simp [AV.yc,AV.yB,Obj.yc]) ?_
  rintro _ _
  simp -dsimp -implicitDefEqProofs
 ·rw [ycQ (by simpa using hx),ycQ (by rw [yK]; exact hx)]
  refine ybG yiL (by simp) (by simp) rfl fun hwf=>?_
  simp -dsimp -implicitDefEqProofs [yfe]
  refine yh (ι:=Nat) (fun i=>i ≤ xs.length) (fun i=>yT [(0,.own 0 1 xs.length),(1,.c (.i (k + yaE nB xs i))),(5,.c (.i i)),(1000000,.own 0 1 xs.length)] [(0,.tr 1 0 (ycC fB yX nB k xs i))]) (fun i=>xs.length - i) 0 (by simp) (by apply yj <;> simp [AV.yc,AV.yB,Obj.yc,ydq,yaV,Obj.leO]) ?_
  rintro i hi
  rcases Nat.lt_or_ge i xs.length with hlt | hge
  ·obtain ⟨e,he⟩ : ∃ e,xs[i]? = some e:=⟨_,List.getElem?_eq_getElem hlt⟩
   have hg:=yez (f:=fB) (g:=yX) (n:=nB) (k:=k) he
   have hl:=yeE (f:=fB) (g:=yX) (n:=nB) (k:=k) (xs:=xs) (i:=i)
   have hs:=yeC (f:=fB) (g:=yX) (n:=nB) (k:=k) he
   have hc:=yaW (n:=nB) he
   have hle:=ybF (n:=nB) (xs:=xs) (i:=i + 1)
   have hn : nB e = 6 * e.length:=rfl
   generalize hM : ycC fB yX nB k xs i = M at *
   have hlt2 : i < M.length:=by omega
   have g1 : M[i] = yX e:=(List.getElem?_eq_some_iff.1 hg).2
   have hself : ∀ a,(M.set i a)[i]? = some a:=fun a=>List.getElem?_set_self hlt2
   simp -dsimp -implicitDefEqProofs [yI hlt,hg,hl,hlt2,g1,yX]
   intro hlen
   refine ⟨hlt,ybX (k0:=1) (ver:=0) (j:=0) (i:=(i : Int)) (rows:=M) (r:=yX e) (c:=.ow 6 (e.map Boat.enc)) (c':=.ow 6 (marked mkB 6 [] (k + yaE nB xs i) e.length)) (yxK e (k + yaE nB xs i) (by omega) (by omega)) (by simp) rfl rfl rfl (by simpa using hg) rfl ⟨_,by rw [yP]; simp,rfl,rfl,rfl⟩ (by simp [C.sz]) ?_⟩
   have e0 : (yX e).set 0 (.ow 6 (marked mkB 6 [] (k + yaE nB xs i) e.length)) = fB (k + yaE nB xs i) e:=rfl
   rw [e0]
   simp -dsimp -implicitDefEqProofs
   refine ⟨yA hlt hlen,i + 1,hlt,by omega,?_⟩
   apply yj <;> simp [AV.yc,AV.yB,Obj.yc,Obj.leO,hs] <;> omega
  ·have : i = xs.length:=by omega
   subst this
   simp -dsimp -implicitDefEqProofs
   intro _
   rw [yew (Nat.le_refl _),ybf (Nat.le_refl _),List.take_of_length_le (by rw [yK]; exact Nat.le_refl _)]
   exact ⟨rfl,rfl⟩
theorem yyu {α : Type} {B : Nat} : ∀ {l : List (List α)},(∀ r ∈ l,r.length ≤ B) → l.flatten.length ≤ l.length * B
 | [],_=>by simp
 | r :: l,h=>by
  have h1:=yyu (l:=l) fun x hx=>h x (by simp [hx])
  have h2:=h r (by simp)
  simp only [List.flatten_cons,List.length_append,List.length_cons,Nat.add_mul,Nat.one_mul]
  omega
def heads {α : Type} (l : List (List α)) (k : Nat) : List α:=(l.take k).flatten
theorem yf3 {α : Type} {l : List (List α)} : heads l 0 = []:=rfl
theorem ykW {α : Type} {l : List (List α)} {k : Nat} {r : List α} (h : l[k]? = some r) : heads l (k + 1) = heads l k ++ r:=by
 unfold heads; rw [List.take_succ,h]; simp
theorem ynY {α : Type} {l : List (List α)} {k : Nat} (h : l.length ≤ k) : heads l k = l.flatten:=by
 unfold heads; rw [List.take_of_length_le h]
theorem ymT {α : Type} {l : List (List α)} (h : ycP (ycP fun _ : α=>True) l) (k : Nat) : (heads l k).length ≤ 1099511627776:=by
 have h1:=yyu (l:=l.take k) (B:=1048576) fun r hr=>(h.2 r (List.mem_of_mem_take hr)).1
 have h2:=h.1
 have h3 : (l.take k).length ≤ 1048576:=by simp; omega
 have h4:=Nat.mul_le_mul_right 1048576 h3
 unfold heads
 omega
def Train.yao (t : Train) : List Boat:=t.Rows.flatten
theorem yC0 {t : Train} (h : t.small) : t.yao.length ≤ 1099511627776:=by
 have:=ymT h t.Rows.length
 rwa [ynY (Nat.le_refl _)] at this
theorem ysA (t : Train) (h : t.small) : yE Tryz.prog yea [.agg (t.enc.map .c)] (.c (.sl 6 (t.yao.map Boat.enc))):=by
 refine yu yr5 (by simp) fun hwf=>?_
 simp -dsimp -implicitDefEqProofs [ymk]
 refine yh (ι:=Nat) (fun k=>k ≤ t.Rows.length) (fun k=>yT [(1,.box 1 0),(3,.own 5 6 (heads t.Rows k).length),(4,.c (.i k))] [(1,.box (t.enc.map .c)),(5,.row 6 ((heads t.Rows k).map Boat.enc))]) (fun k=>t.Rows.length - k) 0 (by simp) (by apply yj <;> simp [AV.yc,AV.yB,Obj.yc,yf3]) ?_
 rintro k hk
 rcases Nat.lt_or_ge k t.Rows.length with hlt | hge
 ·obtain ⟨r,hr⟩ : ∃ r,t.Rows[k]? = some r:=⟨_,List.getElem?_eq_getElem hlt⟩
  have hb:=ymT h (k + 1)
  have hf:=ykW hr
  rw [hf,List.length_append] at hb
  have hm:=h.1
  simp -dsimp -implicitDefEqProofs [hr,yI hlt]
  intro hlen
  refine ⟨by omega,yA hlt hlen,k + 1,hlt,by omega,?_⟩
  apply yj <;> simp [AV.yc,AV.yB,Obj.yc,hf]
 ·simp -dsimp -implicitDefEqProofs [yau hge]
  rw [ynY hge]
  intro _
  rw [List.take_of_length_le (by rw [List.length_map]; exact Nat.le_refl _)]; rfl
def ybj (b : Boat) : Bool:=inRange b.Id 1 9999 && inRange b.Length 1 200 && inRange b.Width 1 30 && inRange b.Draught 1 100 && inRange b.Speed 1 50 && inRange b.Class 0 2
theorem yza (b : Boat) : yE Tryz.prog yjJ [.agg (b.enc.map .c)] (.c (.b (ybj b))):=by
 refine yu yuP (by simp) fun hwf=>?_
 simp -dsimp -implicitDefEqProofs [yoN]
 refine yg (yF b.Id 1 9999) (by simp) rfl ?_
 simp -dsimp -implicitDefEqProofs
 refine ⟨fun h=>?_,fun h=>by simp [ybj,h]⟩
 refine yg (yF b.Length 1 200) (by simp) rfl ?_
 simp -dsimp -implicitDefEqProofs
 refine ⟨fun h1=>?_,fun h1=>by simp [ybj,h1]⟩
 refine yg (yF b.Width 1 30) (by simp) rfl ?_
 simp -dsimp -implicitDefEqProofs
 refine ⟨fun h2=>?_,fun h1=>by simp [ybj,h1]⟩
 refine yg (yF b.Draught 1 100) (by simp) rfl ?_
 simp -dsimp -implicitDefEqProofs
 refine ⟨fun h3=>?_,fun h1=>by simp [ybj,h1]⟩
 refine yg (yF b.Speed 1 50) (by simp) rfl ?_
 simp -dsimp -implicitDefEqProofs
 refine ⟨fun h4=>?_,fun h1=>by simp [ybj,h1]⟩
 refine yg (yF b.Class 0 2) (by simp) rfl ?_
 simp -dsimp -implicitDefEqProofs
 simp [ybj,h,h1,h2,h3,h4]
theorem yyB (b : Boat) : yE Tryz.prog yjH [.agg (b.enc.map .c)] (.c (.b (ybj b))):=by
 refine yu yuD (by simp) fun hwf=>?_
 simp -dsimp -implicitDefEqProofs [yoV]
 refine yg (yH b.Id 1 9999) (by simp) rfl ?_
 simp -dsimp -implicitDefEqProofs
 refine ⟨fun h=>?_,fun h=>by simp [ybj,h]⟩
 refine yg (yH b.Length 1 200) (by simp) rfl ?_
 simp -dsimp -implicitDefEqProofs
 refine ⟨fun h1=>?_,fun h1=>by simp [ybj,h1]⟩
 refine yg (yH b.Width 1 30) (by simp) rfl ?_
 simp -dsimp -implicitDefEqProofs
 refine ⟨fun h2=>?_,fun h1=>by simp [ybj,h1]⟩
 refine yg (yH b.Draught 1 100) (by simp) rfl ?_
 simp -dsimp -implicitDefEqProofs
 refine ⟨fun h3=>?_,fun h1=>by simp [ybj,h1]⟩
 refine yg (yH b.Speed 1 50) (by simp) rfl ?_
 simp -dsimp -implicitDefEqProofs
 refine ⟨fun h4=>?_,fun h1=>by simp [ybj,h1]⟩
 refine yg (yH b.Class 0 2) (by simp) rfl ?_
 simp -dsimp -implicitDefEqProofs
 simp [ybj,h,h1,h2,h3,h4]
def indexOf (l : List Int) (n : Int) : Int:=match l.findIdx? (fun x=>n == x) with | some i=>i | none=>-1
theorem ytH {l : List Int} {n : Int} : (0 ≤ indexOf l n) = (n ∈ l):=by
 unfold indexOf
 cases h : l.findIdx? (fun x=>n == x) with
 | none =>
  rw [List.findIdx?_eq_none_iff] at h
  show (0 ≤ (-1 : Int)) = _
  simp only [eq_iff_iff]
  refine ⟨fun h1=>by omega,fun hm=>?_⟩
  have:=h n hm
  simp at this
 | some i =>
  rw [List.findIdx?_eq_some_iff_getElem] at h
  obtain ⟨hi,h1,_⟩:=h
  simp only [eq_iff_iff]
  refine ⟨fun _=>?_,fun _=>by omega⟩
  have : n = l[i]:=by simpa using h1
  rw [this]; exact List.getElem_mem _
theorem yzR {l : List Int} {n : Int} {k : Nat} (h : l[k]? = some n) (hn : ∀ x ∈ l.take k,n ≠ x) : indexOf l n = k:=by
 unfold indexOf
 have : l.findIdx? (fun x=>n == x) = some k:=by
  rw [List.findIdx?_eq_some_iff_getElem]
  obtain ⟨hk1,hk2⟩:=List.getElem?_eq_some_iff.1 h
  refine ⟨hk1,by simp [hk2],fun j hj=>?_⟩
  have:=hn (l[j]'(by omega)) (List.mem_take_iff_getElem.2 ⟨j,by omega,rfl⟩)
  simpa using this
 rw [this]
theorem yz6 {l : List Int} {n : Int} {k : Nat} (hk : l.length ≤ k) (hn : ∀ x ∈ l.take k,n ≠ x) : indexOf l n = -1:=by
 rw [List.take_of_length_le hk] at hn
 unfold indexOf
 have : l.findIdx? (fun x=>n == x) = none:=by
  rw [List.findIdx?_eq_none_iff]
  intro x hx
  simpa using hn x hx
 rw [this]
theorem yDh {l : List Int} {n x : Int} {k : Nat} (h : l[k]? = some x) (hx : n ≠ x) (hn : ∀ x ∈ l.take k,n ≠ x) : ∀ x ∈ l.take (k + 1),n ≠ x:=by
 intro y hy
 rw [List.take_succ,h] at hy
 rcases List.mem_append.1 hy with h1 | h1
 ·exact hn y h1
 ·simp at h1; rw [h1]; exact hx
theorem yEE (l : List Int) (n : Int) : yE Tryz.prog yb2 [.c (.sl 1 (l.map yJ)),.c (.i n)] (.c (.i (indexOf l n))):=by
 refine yu yiJ (by simp) fun hwf=>?_
 simp -dsimp -implicitDefEqProofs [ydH]
 intro hlen
 refine yh (ι:=Nat) (fun k=>k ≤ l.length ∧ ∀ x ∈ l.take k,n ≠ x) (fun k=>yT [(0,.c (.sl 1 (l.map yJ))),(1,.c (.i n)),(7,.c (.i l.length)),(8,.c (.i k))] []) (fun k=>l.length - k) 0 (by simp) (by apply yj <;> simp [AV.yc,AV.yB,Obj.yc]) ?_
 rintro k ⟨hk,hn⟩
 rcases Nat.lt_or_ge k l.length with hlt | hge
 ·obtain ⟨x,hx⟩ : ∃ x,l[k]? = some x:=⟨_,List.getElem?_eq_getElem hlt⟩
  simp -dsimp -implicitDefEqProofs [hx,yI hlt]
  refine ⟨fun h=>?_,fun h=>⟨yA hlt hlen,k + 1,⟨hlt,yDh hx h hn⟩,by omega,by apply yj <;> simp [AV.yc,AV.yB,Obj.yc]⟩⟩
  exact yzR (h ▸ hx) hn
 ·simp -dsimp -implicitDefEqProofs [yau hge]
  exact yz6 hge hn
theorem yuu (l : List Int) (n : Int) : yE Tryz.prog ya4 [.c (.sl 1 (l.map yJ)),.c (.i n)] (.c (.b (decide (n ∈ l)))):=by
 refine yu yg0 (by simp) fun hwf=>?_
 simp -dsimp -implicitDefEqProofs [ycY]
 refine yg (yEE l n) (by simp) rfl ?_
 simp -dsimp -implicitDefEqProofs [ytH]
def ygW (b : Boat) : Int:=b.Id
def full (r : List Boat) : Bool:=decide (r.length ≠ 0)
theorem yxG {r : List Boat} : full r = true ↔ r.length ≠ 0:=by simp [full]
def yR (t : Train) : Bool:=t.Rows.all full && t.yao.all ybj && decide ((t.yao.map ygW).Nodup) && inRange t.yao.length 1 6
theorem yo3 {l : List Boat} {k : Nat} {b : Boat} (h : l[k]? = some b) : (((l.take (k + 1)).map ygW).Nodup ↔ ((l.take k).map ygW).Nodup ∧ b.Id ∉ (l.take k).map ygW):=by
 rw [List.take_succ,h,List.map_append]
 simp only [Option.toList_some,List.map_cons,List.map_nil,List.nodup_append,List.nodup_cons,List.not_mem_nil,not_false_eq_true,List.nodup_nil,and_self,true_and,List.mem_singleton,forall_eq,ygW]
 constructor
 ·rintro ⟨h1,h2⟩; exact ⟨h1,fun hm=>h2 _ hm rfl⟩
 ·rintro ⟨h1,h2⟩; exact ⟨h1,fun x hx e=>h2 (e ▸ hx)⟩
theorem yBC {l : List Boat} {k : Nat} (h : ¬ ((l.take k).map ygW).Nodup) : ¬ (l.map ygW).Nodup:=by
 intro hn
 refine h ?_
 rw [← List.take_append_drop k l,List.map_append] at hn
 exact (List.nodup_append.1 hn).1
def yv0 (l : List Boat) (k : Nat) : List Int:=(l.take k).map ygW
end Go.Proofs.YtmimbhooaidelaaGreat
