/- What the law FnExactNextSide stands on: contracts of functions, what each answers as plain Lean, in short form (names, layout). -/
import Derived.Test.YtefegahoniahkaaSExactNextSideA3
import Derived.Test.YtefegahoniahkaaProg
import Derived.KernelRfl
import Derived.Test.YtefegahoniahkaaSExactNextSideA4
import Derived.Test.YtefegahoniahkaaSExactNextSideA8
import Derived.Test.YtefegahoniahkaaSExactNextSideA9
import Derived.Test.YtefegahoniahkaaSExactNextSideA5
import Derived.Test.YtefegahoniahkaaSExactNextSideA6
set_option linter.all false
namespace Go.Proofs.Ytefegahoniahkaa
open Go.RowKit
abbrev kI (n : Int) : X:=.k (.c (.i n))
abbrev kB (b : Bool) : X:=.k (.c (.b b))
abbrev iv (d n : Nat) : Ins:=⟨none,some d,.mv (.t n)⟩
abbrev ia (d : Nat) (o : IOp) : Ins:=⟨none,some d,o⟩
abbrev ig (t : Nat) (b : Bool) (d : Nat) (o : IOp) : Ins:=⟨some (t,b),some d,o⟩
abbrev ie (o : IOp) : Ins:=⟨none,none,o⟩
abbrev yb1 : Nat:=3
abbrev yda : Nat:=5
abbrev ycR : Nat:=6
abbrev ybj : Nat:=7
abbrev ycm : Nat:=8
abbrev ycO : Nat:=9
abbrev ydo : Nat:=10
abbrev yb4 : Nat:=11
abbrev yb2 : Nat:=12
abbrev ydT : Nat:=17
abbrev ydP : Nat:=18
abbrev ydJ : Nat:=19
abbrev ydS : Nat:=20
abbrev ydM : Nat:=21
abbrev ybD : Nat:=22
abbrev ybI : Nat:=23
abbrev ybC : Nat:=24
abbrev yL : Nat:=25
abbrev yaX : Nat:=26
abbrev ya5 : Nat:=27
abbrev ydd : Nat:=29
abbrev yac : Nat:=30
abbrev yc8 : Nat:=31
abbrev yaa : Nat:=32
abbrev yc9 : Nat:=33
abbrev ydN : Nat:=34
abbrev yc5 : Nat:=35
abbrev ycY : Nat:=36
abbrev ydQ : Nat:=37
abbrev ydj : Nat:=38
abbrev yaq : Nat:=39
abbrev ycZ : Nat:=40
abbrev ycQ : Nat:=42
abbrev ycJ : Nat:=43
abbrev ycS : Nat:=44
abbrev ybm : Nat:=45
abbrev ya8 : Nat:=46
abbrev ybk : Nat:=47
abbrev yb3 : Nat:=48
abbrev yK : Nat:=49
abbrev yu : Nat:=50
abbrev ydn : Nat:=51
abbrev yc7 : Nat:=52
abbrev ydf : Nat:=53
abbrev ydU : Nat:=54
abbrev ydO : Nat:=55
abbrev yaC : Nat:=56
abbrev yaG : Nat:=57
abbrev ydL : Nat:=58
abbrev ydK : Nat:=59
abbrev yaN : Nat:=60
abbrev yV : Nat:=61
abbrev fA (d k a : Nat) : Ins:=ia d (.fld k (.t a))
abbrev lA (d a : Nat) : Ins:=ia d (.ld1 (.t a))
abbrev dA (d k a : Nat) : Ins:=ia d (.ldn k (.t a))
abbrev xA (d k a b : Nat) : Ins:=ia d (.idx k (.t a) (.t b))
abbrev mA (d : Nat) (n : Int) : Ins:=ia d (.mv (kI n))
abbrev bA (d : Nat) (b : Bool) : Ins:=ia d (.mv (kB b))
abbrev nA (d a : Nat) : Ins:=ia d (.len (.t a))
abbrev pA (d a : Nat) (n : Int) : Ins:=ia d (.bin .add (.t a) (kI n))
abbrev tA (d a b : Nat) : Ins:=ia d (.bin .lss (.t a) (.t b))
abbrev gA (c : Nat) (b : Bool) (d k a : Nat) : Ins:=ig c b d (.fld k (.t a))
abbrev hA (c : Nat) (b : Bool) (d a : Nat) : Ins:=ig c b d (.ld1 (.t a))
def yb5 : SC:=.seq (.reg [ia 4 (.box 2 (.t 1)),bA 6 false]) (.seq (.reg [mA 7 1048576]) (.seq (.reg [iv 13 0,iv 14 7,ia 15 (.call yda [.t 13,.t 14]),iv 7 15]) (.seq (.seq (.reg [iv 16 7,ia 17 (.bin .lss (.t 16) (kI 0))]) (.cond (.t 17) (.seq (.reg [bA 6 true]) (.ret)) (.skip))) (.seq (.regq [iv 19 0,ia 20 (.call ybj [.t 19]),dA 21 2 4,ia 22 (.call ycm [.t 21]),iv 23 2,ia 24 (.call ycR [.t 20,.t 22,.t 23]),iv 18 24,ia 25 (.ext 0 (.t 18)),ia 26 (.ext 1 (.t 18)),iv 8 25,iv 9 26]) (.seq (.reg [iv 27 0,ia 28 (.call ybj [.t 27]),iv 10 28]) (.seq (.reg [iv 30 10,dA 31 2 4,ia 32 (.call ycm [.t 31]),iv 33 2,ia 34 (.call ycO [.t 30,.t 32,.t 33]),iv 29 34,ia 35 (.ext 0 (.t 29)),ia 36 (.ext 1 (.t 29)),iv 11 35,iv 12 36]) (.seq (.seq (.reg [iv 37 11,iv 38 8,ia 39 (.beq true (.t 37) (.t 38)),iv 40 39,ig 40 false 41 (.mv (.t 12)),ig 40 false 42 (.mv (.t 9)),ig 40 false 43 (.beq true (.t 41) (.t 42)),ia 44 (.pick (.t 40) (kB true) (.t 43))]) (.cond (.t 44) (.seq (.reg [bA 6 false]) (.ret)) (.skip))) (.seq (.seq (.reg [iv 45 10,iv 46 0,ia 47 (.call ybj [.t 46]),ia 48 (.call ydo [.t 45,.t 47]),ia 49 (.not (.t 48))]) (.cond (.t 49) (.seq (.reg [bA 6 false]) (.ret)) (.skip))) (.seq (.reg [bA 6 true]) (.ret))))))))))
theorem yeG : Has Try.prog yb1 50 yb5 [.t 6]:=⟨by decide,Try.f3,_,Try.func3,rfl,rfl,⟨none,by kernel_rfl⟩,by kernel_rfl⟩
def yfC : SC:=.seq (.reg [mA 4 0]) (.seq (.reg [iv 6 1,iv 7 0,nA 8 7,ia 9 (.bin .sub (.t 6) (.t 8)),iv 1 9]) (.seq (.seq (.reg [iv 10 1,ia 11 (.bin .lss (.t 10) (kI 0))]) (.cond (.t 11) (.seq (.reg [mA 4 (-1)]) (.ret)) (.skip))) (.seq (.seq (.reg [mA 5 0]) (.block 0 (.loop (.seq (.seq (.reg [iv 12 5,iv 13 0,nA 14 13,tA 15 12 14]) (.cond (.t 15) (.skip) (.exit 0))) (.seq (.block 1 (.seq (.reg [iv 18 0,iv 19 5,xA 20 4 18 19,dA 21 4 20,iv 22 1,ia 23 (.call ydT [.t 21,.t 22]),iv 1 23]) (.seq (.reg [iv 24 1,ia 25 (.bin .lss (.t 24) (kI 0))]) (.cond (.t 25) (.seq (.reg [mA 4 (-1)]) (.ret)) (.skip))))) (.reg [iv 16 5,pA 17 16 1,iv 5 17])))))) (.seq (.reg [iv 26 1,iv 4 26]) (.ret)))))
theorem yjs : Has Try.prog yda 27 yfC [.t 4]:=⟨by decide,Try.f5,_,Try.func5,rfl,rfl,⟨none,by kernel_rfl⟩,by kernel_rfl⟩
def yeR : SC:=.seq (.reg [ia 4 (.box 2 (.t 1)),bA 6 false,bA 7 false]) (.seq (.reg [iv 11 0,iv 12 2,ia 13 (.call yb4 [.t 11,.t 12]),iv 8 13]) (.seq (.seq (.reg [iv 14 8,nA 15 14,ia 16 (.bin .eql (.t 15) (kI 0)),iv 17 16,ig 17 false 18 (.ldn 2 (.t 4)),ig 17 false 19 (.call ydP [.t 18]),ig 17 false 20 (.not (.t 19)),ia 21 (.pick (.t 17) (kB true) (.t 20))]) (.cond (.t 21) (.seq (.reg [bA 6 false,bA 7 false]) (.ret)) (.skip))) (.seq (.reg [iv 22 0,iv 23 8,ia 24 (.idx 1 (.t 23) (kI 0)),lA 25 24,xA 26 4 22 25,fA 27 0 26,fA 28 0 27,lA 29 28,iv 9 29]) (.seq (.seq (.reg [iv 30 9,fA 31 0 4,lA 32 31,ia 33 (.beq true (.t 30) (.t 32)),iv 34 33,gA 34 false 35 1 4,hA 34 false 36 35,ig 34 false 37 (.bin .lss (.t 36) (kI 3)),ia 38 (.pick (.t 34) (kB true) (.t 37))]) (.cond (.t 38) (.seq (.reg [iv 39 9,iv 6 39,bA 7 true]) (.ret)) (.skip))) (.seq (.seq (.reg [mA 10 0]) (.block 0 (.loop (.seq (.seq (.reg [iv 40 10,iv 41 8,nA 42 41,tA 43 40 42]) (.cond (.t 43) (.skip) (.exit 0))) (.seq (.block 1 (.seq (.reg [iv 46 0,iv 47 8,iv 48 10,xA 49 1 47 48,lA 50 49,xA 51 4 46 50,fA 52 0 51,fA 53 0 52,lA 54 53,iv 55 9,ia 56 (.beq true (.t 54) (.t 55))]) (.cond (.t 56) (.seq (.reg [iv 57 9,ia 58 (.not (.t 57)),iv 6 58,bA 7 true]) (.ret)) (.skip)))) (.reg [iv 44 10,pA 45 44 1,iv 10 45])))))) (.seq (.reg [iv 59 9,iv 6 59,bA 7 true]) (.ret)))))))
theorem yib : Has Try.prog ycR 60 yeR [.t 6,.t 7]:=⟨by decide,Try.f6,_,Try.func6,rfl,rfl,⟨none,by kernel_rfl⟩,by kernel_rfl⟩
def yfm : SC:=.seq (.reg [ia 2 (.mv (.k (.nil 4)))]) (.seq (.reg [iv 5 0,nA 6 5,ia 7 (.mks 4 48 [.b false,.sl 1 [],.i 0,.i 0] (.t 6) (.t 6)),iv 3 7]) (.seq (.seq (.reg [mA 4 0]) (.block 0 (.loop (.seq (.seq (.reg [iv 8 4,iv 9 0,nA 10 9,tA 11 8 10]) (.cond (.t 11) (.skip) (.exit 0))) (.seq (.block 1 (.reg [iv 14 3,iv 15 4,iv 16 0,iv 17 4,xA 18 4 16 17,dA 19 4 18,ia 20 (.call ydJ [.t 19]),xA 21 4 14 15,ie (.stn 4 (.t 21) (.t 20))])) (.reg [iv 12 4,pA 13 12 1,iv 4 13])))))) (.seq (.reg [iv 22 3,iv 2 22]) (.ret))))
theorem yjf : Has Try.prog ybj 23 yfm [.t 2]:=⟨by decide,Try.f7,_,Try.func7,rfl,rfl,⟨none,by kernel_rfl⟩,by kernel_rfl⟩
def ygn : SC:=.seq (.reg [ia 1 (.box 2 (.t 0)),ia 2 (.alloc [.c (.b false),.c (.i 0)])]) (.seq (.reg [ia 3 (.alloc [.c (.b false),.c (.i 0)])]) (.seq (.reg [fA 4 0 1,lA 5 4,fA 6 0 3,ie (.st1 (.t 6) (.t 5))]) (.seq (.reg [fA 7 1 1,lA 8 7,fA 9 1 3,ie (.st1 (.t 9) (.t 8))]) (.seq (.reg [dA 10 2 3,ie (.stn 2 (.t 2) (.t 10))]) (.ret)))))
theorem yjW : Has Try.prog ycm 11 ygn [.cl 2 2]:=⟨by decide,Try.f8,_,Try.func8,rfl,rfl,⟨none,by kernel_rfl⟩,by kernel_rfl⟩
def yeU : SC:=.seq (.reg [ia 4 (.box 2 (.t 1)),bA 6 false,bA 7 false]) (.seq (.reg [iv 12 0,iv 13 2,ia 14 (.call yb2 [.t 12,.t 13]),iv 8 14]) (.seq (.seq (.reg [iv 15 8,nA 16 15,ia 17 (.bin .eql (.t 16) (kI 0)),iv 18 17,ig 18 false 19 (.ldn 2 (.t 4)),ig 18 false 20 (.call ydS [.t 19]),ig 18 false 21 (.not (.t 20)),ia 22 (.pick (.t 18) (kB true) (.t 21))]) (.cond (.t 22) (.seq (.reg [bA 6 false,bA 7 false]) (.ret)) (.skip))) (.seq (.reg [iv 23 0,iv 24 8,ia 25 (.idx 1 (.t 24) (kI 0)),lA 26 25,xA 27 4 23 26,fA 28 0 27,fA 29 0 28,lA 30 29,iv 9 30]) (.seq (.seq (.reg [iv 31 9,fA 32 0 4,lA 33 32,ia 34 (.beq true (.t 31) (.t 33)),iv 35 34,gA 35 false 36 1 4,hA 35 false 37 36,ig 35 false 38 (.bin .lss (.t 37) (kI 3)),ia 39 (.pick (.t 35) (kB true) (.t 38))]) (.cond (.t 39) (.seq (.reg [iv 40 9,iv 6 40,bA 7 true]) (.ret)) (.skip))) (.seq (.seq (.reg [iv 41 8,nA 42 41,mA 43 0]) (.block 0 (.loop (.seq (.reg [tA 44 43 42]) (.seq (.cond (.t 44) (.skip) (.exit 0)) (.seq (.block 1 (.seq (.reg [xA 45 1 41 43,lA 46 45,iv 11 46]) (.seq (.reg [iv 47 0,iv 48 11,xA 49 4 47 48,fA 50 0 49,fA 51 0 50,lA 52 51,iv 53 9,ia 54 (.beq true (.t 52) (.t 53))]) (.cond (.t 54) (.seq (.reg [iv 55 9,ia 56 (.not (.t 55)),iv 6 56,bA 7 true]) (.ret)) (.skip))))) (.reg [pA 57 43 1,iv 43 57]))))))) (.seq (.reg [iv 58 9,iv 6 58,bA 7 true]) (.ret)))))))
theorem yie : Has Try.prog ycO 59 yeU [.t 6,.t 7]:=⟨by decide,Try.f9,_,Try.func9,rfl,rfl,⟨none,by kernel_rfl⟩,by kernel_rfl⟩
def yfq : SC:=.seq (.reg [bA 4 false]) (.seq (.seq (.reg [iv 6 0,nA 7 6,iv 8 1,nA 9 8,ia 10 (.bin .neq (.t 7) (.t 9))]) (.cond (.t 10) (.seq (.reg [bA 4 false]) (.ret)) (.skip))) (.seq (.seq (.reg [mA 5 0]) (.block 0 (.loop (.seq (.seq (.reg [iv 11 5,iv 12 0,nA 13 12,tA 14 11 13]) (.cond (.t 14) (.skip) (.exit 0))) (.seq (.block 1 (.seq (.regq [iv 17 0,iv 18 5,xA 19 4 17 18,dA 20 4 19,iv 21 1,iv 22 5,xA 23 4 21 22,dA 24 4 23,ia 25 (.call ydM [.t 20,.t 24]),ia 26 (.not (.t 25))]) (.cond (.t 26) (.seq (.reg [bA 4 false]) (.ret)) (.skip)))) (.reg [iv 15 5,pA 16 15 1,iv 5 16])))))) (.seq (.reg [bA 4 true]) (.ret))))
theorem yiS : Has Try.prog ydo 27 yfq [.t 4]:=⟨by decide,Try.f10,_,Try.func10,rfl,rfl,⟨none,by kernel_rfl⟩,by kernel_rfl⟩
def ydw : SC:=.seq (.reg [ia 4 (.mv (.k (.nil 1)))]) (.seq (.reg [ia 8 (.bsl 1 []),iv 5 8]) (.seq (.seq (.reg [mA 6 0]) (.block 0 (.loop (.seq (.seq (.reg [iv 9 6,iv 10 0,nA 11 10,tA 12 9 11]) (.cond (.t 12) (.skip) (.exit 0))) (.seq (.block 1 (.seq (.seq (.reg [iv 15 0,iv 16 6,xA 17 4 15 16,dA 18 4 17,iv 19 1,ia 20 (.call ybD [.t 18,.t 19]),ia 21 (.bin .eql (.t 20) (kI 3))]) (.cond (.t 21) (.exit 1) (.skip))) (.seq (.reg [iv 22 5,nA 23 22,iv 7 23]) (.seq (.block 2 (.loop (.seq (.seq (.regq [iv 24 7,ia 25 (.bin .gtr (.t 24) (kI 0)),iv 26 25,ig 26 true 27 (.mv (.t 0)),ig 26 true 28 (.mv (.t 6)),ig 26 true 29 (.idx 4 (.t 27) (.t 28)),ig 26 true 30 (.ldn 4 (.t 29)),ig 26 true 31 (.mv (.t 0)),ig 26 true 32 (.mv (.t 5)),ig 26 true 33 (.mv (.t 7)),ig 26 true 34 (.bin .sub (.t 33) (kI 1)),ig 26 true 35 (.idx 1 (.t 32) (.t 34)),hA 26 true 36 35,ig 26 true 37 (.idx 4 (.t 31) (.t 36)),ig 26 true 38 (.ldn 4 (.t 37)),ig 26 true 39 (.mv (.t 1)),ig 26 true 40 (.call ybI [.t 30,.t 38,.t 39]),ia 41 (.pick (.t 26) (.t 40) (kB false))]) (.cond (.t 41) (.skip) (.exit 2))) (.block 3 (.reg [iv 42 7,ia 43 (.bin .sub (.t 42) (kI 1)),iv 7 43]))))) (.rege [⟨1,false,[],ia 44 (.bsl 1 [])⟩,⟨0,false,[],iv 45 5⟩,⟨0,false,[],iv 46 7⟩,⟨0,false,[],ia 47 (.slc 1 (.t 45) none (some (.t 46)) none)⟩,⟨2,true,[],ia 48 (.app 1 8 (.t 44) (.t 47))⟩,⟨0,false,[4],iv 49 6⟩,⟨1,false,[4],ia 50 (.bsl 1 [.t 49])⟩,⟨2,true,[],ia 51 (.app 1 8 (.t 48) (.t 50))⟩,⟨0,false,[4,7],iv 52 5⟩,⟨0,false,[4,7],iv 53 7⟩,⟨0,false,[4,7],ia 54 (.slc 1 (.t 52) (some (.t 53)) none none)⟩,⟨2,false,[],ia 55 (.app 1 8 (.t 51) (.t 54))⟩,⟨0,false,[],iv 5 55⟩]))))) (.reg [iv 13 6,pA 14 13 1,iv 6 14])))))) (.seq (.reg [iv 56 5,iv 4 56]) (.ret))))
theorem ygZ : Has Try.prog yb4 57 ydw [.t 4]:=⟨by decide,Try.f11,_,Try.func11,rfl,rfl,⟨none,by kernel_rfl⟩,by kernel_rfl⟩
def ydI : SC:=.seq (.reg [ia 2 (.box 1 (.t 0)),ia 3 (.box 1 (.t 1)),ia 4 (.mv (.k (.nil 1)))]) (.seq (.reg [ia 5 (.mv (.k (.nil 1)))]) (.seq (.seq (.reg [lA 8 2,nA 9 8,mA 10 0]) (.block 0 (.loop (.seq (.reg [tA 11 10 9]) (.seq (.cond (.t 11) (.skip) (.exit 0)) (.seq (.block 1 (.seq (.reg [iv 12 10,xA 13 4 8 10,dA 14 4 13,ia 7 (.alloc [.c (.b false),.nil 1,.c (.i 0),.c (.i 0)]),iv 6 12,ie (.stn 4 (.t 7) (.t 14))]) (.seq (.reg [dA 15 4 7,lA 16 3,ia 17 (.call ybC [.t 15,.t 16]),ia 18 (.bin .neq (.t 17) (kI 3))]) (.cond (.t 18) (.reg [iv 19 5,iv 20 6,ia 21 (.bsl 1 [.t 20]),ia 22 (.app 1 8 (.t 19) (.t 21)),iv 5 22]) (.skip))))) (.reg [pA 23 10 1,iv 10 23]))))))) (.seq (.reg [iv 24 5,ia 25 (.mkf yaX [.t 2,.t 3]),ia 26 (.call yL [.t 24,.t 25])]) (.seq (.reg [iv 27 5,iv 4 27]) (.ret)))))
theorem yha : Has Try.prog yb2 28 ydI [.t 4]:=⟨by decide,Try.f12,_,Try.func12,rfl,rfl,⟨none,by kernel_rfl⟩,by kernel_rfl⟩
def yf8 : SC:=.seq (.reg [ia 2 (.box 4 (.t 0)),mA 4 0]) (.seq (.reg [fA 5 0 2,dA 6 2 5,iv 7 1,ia 8 (.call ydd [.t 6,.t 7]),iv 1 8]) (.seq (.seq (.reg [iv 9 1,ia 10 (.bin .lss (.t 9) (kI 0))]) (.cond (.t 10) (.seq (.reg [mA 4 (-1)]) (.ret)) (.skip))) (.seq (.reg [iv 11 1,iv 4 11]) (.ret))))
theorem yjN : Has Try.prog ydT 12 yf8 [.t 4]:=⟨by decide,Try.f17,_,Try.func17,rfl,rfl,⟨none,by kernel_rfl⟩,by kernel_rfl⟩
def yf3 : SC:=.seq (.reg [ia 1 (.box 2 (.t 0)),bA 2 false]) (.seq (.reg [fA 3 1 1,lA 4 3,ia 5 (.call yac [.t 4,kI 0,kI 1000000]),iv 2 5]) (.ret))
theorem yj2 : Has Try.prog ydP 6 yf3 [.t 2]:=⟨by decide,Try.f18,_,Try.func18,rfl,rfl,⟨none,by kernel_rfl⟩,by kernel_rfl⟩
def yf6 : SC:=.seq (.reg [ia 1 (.box 4 (.t 0)),ia 2 (.alloc [.c (.b false),.nil 1,.c (.i 0),.c (.i 0)])]) (.seq (.reg [ia 3 (.alloc [.c (.b false),.nil 1,.c (.i 0),.c (.i 0)])]) (.seq (.reg [fA 4 0 1,dA 5 2 4,ia 6 (.call yc8 [.t 5]),fA 7 0 3,ie (.stn 2 (.t 7) (.t 6))]) (.seq (.reg [fA 8 2 1,lA 9 8,fA 10 2 3,ie (.st1 (.t 10) (.t 9))]) (.seq (.reg [fA 11 3 1,lA 12 11,fA 13 3 3,ie (.st1 (.t 13) (.t 12))]) (.seq (.reg [dA 14 4 3,ie (.stn 4 (.t 2) (.t 14))]) (.ret))))))
theorem yjU : Has Try.prog ydJ 15 yf6 [.cl 2 4]:=⟨by decide,Try.f19,_,Try.func19,rfl,rfl,⟨none,by kernel_rfl⟩,by kernel_rfl⟩
def ygb : SC:=.seq (.reg [ia 1 (.box 2 (.t 0)),bA 2 false]) (.seq (.reg [fA 3 1 1,lA 4 3,ia 5 (.call yaa [.t 4,kI 0,kI 1000000]),iv 2 5]) (.ret))
theorem yjT : Has Try.prog ydS 6 ygb [.t 2]:=⟨by decide,Try.f20,_,Try.func20,rfl,rfl,⟨none,by kernel_rfl⟩,by kernel_rfl⟩
def yf2 : SC:=.seq (.reg [ia 2 (.box 4 (.t 0)),ia 3 (.box 4 (.t 1)),bA 4 false]) (.seq (.seq (.reg [fA 5 0 2,dA 6 2 5,fA 7 0 3,dA 8 2 7,ia 9 (.call yc9 [.t 6,.t 8]),ia 10 (.not (.t 9))]) (.cond (.t 10) (.seq (.reg [bA 4 false]) (.ret)) (.skip))) (.seq (.seq (.reg [fA 11 2 2,lA 12 11,fA 13 2 3,lA 14 13,ia 15 (.bin .neq (.t 12) (.t 14))]) (.cond (.t 15) (.seq (.reg [bA 4 false]) (.ret)) (.skip))) (.seq (.seq (.reg [fA 16 3 2,lA 17 16,fA 18 3 3,lA 19 18,ia 20 (.bin .neq (.t 17) (.t 19))]) (.cond (.t 20) (.seq (.reg [bA 4 false]) (.ret)) (.skip))) (.seq (.reg [bA 4 true]) (.ret)))))
theorem yj5 : Has Try.prog ydM 21 yf2 [.t 4]:=⟨by decide,Try.f21,_,Try.func21,rfl,rfl,⟨none,by kernel_rfl⟩,by kernel_rfl⟩
def yf9 : SC:=.seq (.reg [ia 2 (.box 4 (.t 0)),mA 4 0]) (.seq (.seq (.reg [dA 5 4 2,ia 6 (.call ydN [.t 5]),ia 7 (.not (.t 6)),iv 8 7,ig 8 false 9 (.mv (.t 1)),gA 8 false 10 2 2,hA 8 false 11 10,ig 8 false 12 (.call yac [.t 9,.t 11,kI 1000000]),ig 8 false 13 (.not (.t 12)),ia 14 (.pick (.t 8) (kB true) (.t 13))]) (.cond (.t 14) (.seq (.reg [mA 4 3]) (.ret)) (.skip))) (.seq (.seq (.reg [fA 15 3 2,lA 16 15,iv 17 1,ia 18 (.call yac [.t 16,kI 0,.t 17])]) (.cond (.t 18) (.seq (.reg [mA 4 (-1)]) (.ret)) (.skip))) (.seq (.regq [fA 19 0 2,dA 20 2 19,ia 21 (.call yc5 [.t 20]),iv 22 1,fA 23 2 2,lA 24 23,ia 25 (.bin .sub (.t 22) (.t 24)),ia 26 (.bin .quo (.t 25) (kI 20)),ia 27 (.bin .sub (.t 21) (.t 26)),ia 28 (.mx [kI 0,.t 27]),iv 4 28]) (.ret))))
theorem yjM : Has Try.prog ybD 29 yf9 [.t 4]:=⟨by decide,Try.f22,_,Try.func22,rfl,rfl,⟨none,by kernel_rfl⟩,by kernel_rfl⟩
def ydi : SC:=.seq (.reg [ia 3 (.box 4 (.t 0)),ia 4 (.box 4 (.t 1)),bA 6 false]) (.seq (.reg [dA 9 4 3,iv 10 2,ia 11 (.call ybD [.t 9,.t 10]),iv 7 11]) (.seq (.reg [dA 12 4 4,iv 13 2,ia 14 (.call ybD [.t 12,.t 13]),iv 8 14]) (.seq (.block 0 (.seq (.reg [iv 16 7,ia 17 (.bin .eql (.t 16) (kI 3)),iv 18 17,ig 18 false 19 (.mv (.t 8)),ig 18 false 20 (.bin .eql (.t 19) (kI 3)),ia 21 (.pick (.t 18) (kB true) (.t 20)),iv 15 21]) (.cond (.t 15) (.seq (.reg [bA 6 false]) (.ret)) (.seq (.reg [iv 23 7,iv 24 8,ia 25 (.bin .neq (.t 23) (.t 24)),iv 22 25]) (.cond (.t 22) (.seq (.reg [iv 26 7,iv 27 8,tA 28 26 27,iv 6 28]) (.ret)) (.seq (.reg [iv 30 7,ia 31 (.bin .eql (.t 30) (kI (-1))),iv 32 31,gA 32 true 33 3 3,hA 32 true 34 33,gA 32 true 35 3 4,hA 32 true 36 35,ig 32 true 37 (.bin .neq (.t 34) (.t 36)),ia 38 (.pick (.t 32) (.t 37) (kB false)),iv 29 38]) (.cond (.t 29) (.seq (.reg [fA 39 3 3,lA 40 39,fA 41 3 4,lA 42 41,tA 43 40 42,iv 6 43]) (.ret)) (.seq (.reg [fA 45 2 3,lA 46 45,fA 47 2 4,lA 48 47,ia 49 (.bin .neq (.t 46) (.t 48)),iv 44 49]) (.cond (.t 44) (.seq (.reg [fA 50 2 3,lA 51 50,fA 52 2 4,lA 53 52,tA 54 51 53,iv 6 54]) (.ret)) (.skip)))))))))) (.seq (.regq [fA 55 0 3,dA 56 2 55,ia 57 (.call ycY [.t 56]),ia 58 (.idx 1 (.t 57) (kI 0)),lA 59 58,fA 60 0 4,dA 61 2 60,ia 62 (.call ycY [.t 61]),ia 63 (.idx 1 (.t 62) (kI 0)),lA 64 63,tA 65 59 64,iv 6 65]) (.ret)))))
theorem ygG : Has Try.prog ybI 66 ydi [.t 6]:=⟨by decide,Try.f23,_,Try.func23,rfl,rfl,⟨none,by kernel_rfl⟩,by kernel_rfl⟩
def ygj : SC:=.seq (.reg [ia 2 (.box 4 (.t 0)),mA 4 0]) (.seq (.seq (.reg [dA 5 4 2,ia 6 (.call ydQ [.t 5]),ia 7 (.not (.t 6)),iv 8 7,ig 8 false 9 (.mv (.t 1)),gA 8 false 10 2 2,hA 8 false 11 10,ig 8 false 12 (.call yaa [.t 9,.t 11,kI 1000000]),ig 8 false 13 (.not (.t 12)),ia 14 (.pick (.t 8) (kB true) (.t 13))]) (.cond (.t 14) (.seq (.reg [mA 4 3]) (.ret)) (.skip))) (.seq (.seq (.reg [fA 15 3 2,lA 16 15,ia 17 (.bin .neq (.t 16) (kI (-1))),iv 18 17,gA 18 true 19 3 2,hA 18 true 20 19,ig 18 true 21 (.mv (.t 1)),ig 18 true 22 (.bin .leq (.t 20) (.t 21)),ia 23 (.pick (.t 18) (.t 22) (kB false))]) (.cond (.t 23) (.seq (.reg [mA 4 (-1)]) (.ret)) (.skip))) (.seq (.regq [fA 24 0 2,dA 25 2 24,ia 26 (.call ydj [.t 25]),iv 27 1,fA 28 2 2,lA 29 28,ia 30 (.bin .sub (.t 27) (.t 29)),ia 31 (.bin .quo (.t 30) (kI 20)),ia 32 (.bin .sub (.t 26) (.t 31)),ia 33 (.mx [kI 0,.t 32]),iv 4 33]) (.ret))))
theorem yj3 : Has Try.prog ybC 34 ygj [.t 4]:=⟨by decide,Try.f24,_,Try.func24,rfl,rfl,⟨none,by kernel_rfl⟩,by kernel_rfl⟩
def yal : SC:=.reg [iv 4 0,iv 5 0,nA 6 5,iv 7 1,ia 8 (.call yaq [.t 4,.t 6,.t 7])]
theorem yaJ : Has Try.prog yL 9 yal []:=⟨by decide,Try.f25,_,Try.func25,rfl,rfl,⟨none,by kernel_rfl⟩,by kernel_rfl⟩
def ycX : SC:=.seq (.reg [mA 6 0]) (.seq (.seq (.regq [lA 7 2,iv 8 0,xA 9 4 7 8,dA 10 4 9,lA 11 2,iv 12 1,xA 13 4 11 12,dA 14 4 13,lA 15 3,ia 16 (.call ya5 [.t 10,.t 14,.t 15])]) (.cond (.t 16) (.seq (.reg [mA 6 (-1)]) (.ret)) (.skip))) (.seq (.seq (.regq [lA 17 2,iv 18 1,xA 19 4 17 18,dA 20 4 19,lA 21 2,iv 22 0,xA 23 4 21 22,dA 24 4 23,lA 25 3,ia 26 (.call ya5 [.t 20,.t 24,.t 25])]) (.cond (.t 26) (.seq (.reg [mA 6 1]) (.ret)) (.skip))) (.seq (.reg [mA 6 0]) (.ret))))
theorem yf0 : Has Try.prog yaX 27 ycX [.t 6]:=⟨by decide,Try.f26,_,Try.func26,rfl,rfl,⟨none,by kernel_rfl⟩,by kernel_rfl⟩
def ydg : SC:=.seq (.reg [ia 3 (.box 4 (.t 0)),ia 4 (.box 4 (.t 1)),bA 6 false]) (.seq (.regq [dA 9 4 3,iv 10 2,ia 11 (.call ybC [.t 9,.t 10]),dA 12 4 4,iv 13 2,ia 14 (.call ybC [.t 12,.t 13]),iv 7 11,iv 8 14]) (.seq (.seq (.reg [iv 15 7,ia 16 (.bin .eql (.t 15) (kI 3)),iv 17 16,ig 17 false 18 (.mv (.t 8)),ig 17 false 19 (.bin .eql (.t 18) (kI 3)),ia 20 (.pick (.t 17) (kB true) (.t 19))]) (.cond (.t 20) (.seq (.reg [bA 6 false]) (.ret)) (.skip))) (.seq (.seq (.reg [iv 21 7,iv 22 8,ia 23 (.bin .neq (.t 21) (.t 22))]) (.cond (.t 23) (.seq (.reg [iv 24 7,iv 25 8,tA 26 24 25,iv 6 26]) (.ret)) (.skip))) (.seq (.seq (.reg [iv 27 7,ia 28 (.bin .eql (.t 27) (kI (-1))),iv 29 28,gA 29 true 30 3 3,hA 29 true 31 30,gA 29 true 32 3 4,hA 29 true 33 32,ig 29 true 34 (.bin .neq (.t 31) (.t 33)),ia 35 (.pick (.t 29) (.t 34) (kB false))]) (.cond (.t 35) (.seq (.reg [fA 36 3 3,lA 37 36,fA 38 3 4,lA 39 38,tA 40 37 39,iv 6 40]) (.ret)) (.skip))) (.seq (.seq (.reg [fA 41 2 3,lA 42 41,fA 43 2 4,lA 44 43,ia 45 (.bin .neq (.t 42) (.t 44))]) (.cond (.t 45) (.seq (.reg [fA 46 2 3,lA 47 46,fA 48 2 4,lA 49 48,tA 50 47 49,iv 6 50]) (.ret)) (.skip))) (.seq (.regq [fA 51 0 3,dA 52 2 51,ia 53 (.call ycZ [.t 52]),ia 54 (.idx 1 (.t 53) (kI 0)),lA 55 54,fA 56 0 4,dA 57 2 56,ia 58 (.call ycZ [.t 57]),ia 59 (.idx 1 (.t 58) (kI 0)),lA 60 59,tA 61 55 60,iv 6 61]) (.ret)))))))
theorem ygF : Has Try.prog ya5 62 ydg [.t 6]:=⟨by decide,Try.f27,_,Try.func27,rfl,rfl,⟨none,by kernel_rfl⟩,by kernel_rfl⟩
def yfc : SC:=.seq (.reg [ia 2 (.box 2 (.t 0)),mA 4 0]) (.seq (.reg [fA 5 1 2,lA 6 5,iv 7 1,ia 8 (.call ycQ [.t 6,.t 7]),iv 1 8]) (.seq (.seq (.reg [iv 9 1,ia 10 (.bin .lss (.t 9) (kI 0))]) (.cond (.t 10) (.seq (.reg [mA 4 (-1)]) (.ret)) (.skip))) (.seq (.reg [iv 11 1,iv 4 11]) (.ret))))
theorem yip : Has Try.prog ydd 12 yfc [.t 4]:=⟨by decide,Try.f29,_,Try.func29,rfl,rfl,⟨none,by kernel_rfl⟩,by kernel_rfl⟩
def yhd : SC:=.seq (.reg [bA 6 false]) (.seq (.reg [iv 7 0,iv 8 1,ia 9 (.bin .geq (.t 7) (.t 8)),iv 10 9,ig 10 true 11 (.mv (.t 0)),ig 10 true 12 (.mv (.t 2)),ig 10 true 13 (.bin .leq (.t 11) (.t 12)),ia 14 (.pick (.t 10) (.t 13) (kB false)),iv 6 14]) (.ret))
theorem ykY : Has Try.prog yac 15 yhd [.t 6]:=⟨by decide,Try.f30,_,Try.func30,rfl,rfl,⟨none,by kernel_rfl⟩,by kernel_rfl⟩
def yfp : SC:=.seq (.reg [ia 1 (.box 2 (.t 0)),ia 2 (.alloc [.c (.b false),.nil 1])]) (.seq (.reg [ia 3 (.alloc [.c (.b false),.nil 1])]) (.seq (.reg [fA 4 0 1,lA 5 4,fA 6 0 3,ie (.st1 (.t 6) (.t 5))]) (.seq (.reg [fA 7 1 1,lA 8 7,ia 9 (.call ycJ [.t 8]),fA 10 1 3,ie (.st1 (.t 10) (.t 9))]) (.seq (.reg [dA 11 2 3,ie (.stn 2 (.t 2) (.t 11))]) (.ret)))))
theorem yjD : Has Try.prog yc8 12 yfp [.cl 2 2]:=⟨by decide,Try.f31,_,Try.func31,rfl,rfl,⟨none,by kernel_rfl⟩,by kernel_rfl⟩
def yfb : SC:=.seq (.reg [bA 6 false]) (.seq (.reg [iv 7 0,iv 8 1,ia 9 (.bin .geq (.t 7) (.t 8)),iv 10 9,ig 10 true 11 (.mv (.t 0)),ig 10 true 12 (.mv (.t 2)),ig 10 true 13 (.bin .leq (.t 11) (.t 12)),ia 14 (.pick (.t 10) (.t 13) (kB false)),iv 6 14]) (.ret))
theorem yjg : Has Try.prog yaa 15 yfb [.t 6]:=⟨by decide,Try.f32,_,Try.func32,rfl,rfl,⟨none,by kernel_rfl⟩,by kernel_rfl⟩
def ye4 : SC:=.seq (.reg [ia 2 (.box 2 (.t 0)),ia 3 (.box 2 (.t 1)),bA 4 false]) (.seq (.seq (.reg [fA 5 0 2,lA 6 5,fA 7 0 3,lA 8 7,ia 9 (.beq true (.t 6) (.t 8))]) (.cond (.t 9) (.seq (.reg [bA 4 false]) (.ret)) (.skip))) (.seq (.seq (.reg [fA 10 1 2,lA 11 10,fA 12 1 3,lA 13 12,ia 14 (.call ycS [.t 11,.t 13]),ia 15 (.not (.t 14))]) (.cond (.t 15) (.seq (.reg [bA 4 false]) (.ret)) (.skip))) (.seq (.reg [bA 4 true]) (.ret))))
theorem yiG : Has Try.prog yc9 16 ye4 [.t 4]:=⟨by decide,Try.f33,_,Try.func33,rfl,rfl,⟨none,by kernel_rfl⟩,by kernel_rfl⟩
def ygk : SC:=.seq (.reg [ia 1 (.box 4 (.t 0)),bA 2 false]) (.seq (.reg [fA 3 0 1,dA 4 2 3,ia 5 (.call ybm [.t 4]),iv 6 5,gA 6 true 7 2 1,hA 6 true 8 7,ig 6 true 9 (.call yac [.t 8,kI 0,kI 1000000]),ia 10 (.pick (.t 6) (.t 9) (kB false)),iv 11 10,gA 11 true 12 3 1,hA 11 true 13 12,ig 11 true 14 (.call yac [.t 13,kI (-1),kI 1000000]),ia 15 (.pick (.t 11) (.t 14) (kB false)),iv 2 15]) (.ret))
theorem yjS : Has Try.prog ydN 16 ygk [.t 2]:=⟨by decide,Try.f34,_,Try.func34,rfl,rfl,⟨none,by kernel_rfl⟩,by kernel_rfl⟩
def yfw : SC:=.seq (.reg [ia 1 (.box 2 (.t 0)),mA 2 0]) (.seq (.reg [dA 6 2 1,ia 7 (.call ya8 [.t 6]),iv 3 7]) (.seq (.seq (.reg [dA 8 2 1,ia 9 (.call ybm [.t 8]),ia 10 (.not (.t 9))]) (.cond (.t 10) (.seq (.reg [mA 2 (-1)]) (.ret)) (.skip))) (.seq (.reg [iv 11 3,ia 12 (.idx 6 (.t 11) (kI 0)),fA 13 5 12,lA 14 13,iv 4 14]) (.seq (.seq (.reg [mA 5 0]) (.block 0 (.loop (.seq (.seq (.reg [iv 15 5,iv 16 3,nA 17 16,tA 18 15 17]) (.cond (.t 18) (.skip) (.exit 0))) (.seq (.block 1 (.reg [iv 21 4,iv 22 3,iv 23 5,xA 24 6 22 23,fA 25 5 24,lA 26 25,ia 27 (.mn [.t 21,.t 26]),iv 4 27])) (.reg [iv 19 5,pA 20 19 1,iv 5 20])))))) (.seq (.reg [iv 28 4,iv 2 28]) (.ret))))))
theorem yiE : Has Try.prog yc5 29 yfw [.t 2]:=⟨by decide,Try.f35,_,Try.func35,rfl,rfl,⟨none,by kernel_rfl⟩,by kernel_rfl⟩
def ygT : SC:=.seq (.reg [ia 1 (.box 2 (.t 0)),ia 2 (.mv (.k (.nil 1)))]) (.seq (.reg [ia 6 (.bsl 1 []),iv 3 6]) (.seq (.reg [dA 7 2 1,ia 8 (.call ya8 [.t 7]),iv 4 8]) (.seq (.seq (.reg [mA 5 0]) (.block 0 (.loop (.seq (.seq (.reg [iv 9 5,iv 10 4,nA 11 10,tA 12 9 11,iv 13 12,ig 13 true 14 (.ldn 2 (.t 1)),ig 13 true 15 (.call ybm [.t 14]),ia 16 (.pick (.t 13) (.t 15) (kB false))]) (.cond (.t 16) (.skip) (.exit 0))) (.seq (.block 1 (.reg [iv 19 3,iv 20 4,iv 21 5,xA 22 6 20 21,fA 23 0 22,lA 24 23,ia 25 (.bsl 1 [.t 24]),ia 26 (.app 1 8 (.t 19) (.t 25)),iv 3 26])) (.reg [iv 17 5,pA 18 17 1,iv 5 18])))))) (.seq (.reg [iv 27 3,iv 2 27]) (.ret)))))
theorem ykX : Has Try.prog ycY 28 ygT [.t 2]:=⟨by decide,Try.f36,_,Try.func36,rfl,rfl,⟨none,by kernel_rfl⟩,by kernel_rfl⟩
def yge : SC:=.seq (.reg [ia 1 (.box 4 (.t 0)),bA 2 false]) (.seq (.reg [fA 3 0 1,dA 4 2 3,ia 5 (.call ybk [.t 4]),iv 6 5,gA 6 true 7 2 1,hA 6 true 8 7,ig 6 true 9 (.call yaa [.t 8,kI 0,kI 1000000]),ia 10 (.pick (.t 6) (.t 9) (kB false)),iv 11 10,gA 11 true 12 3 1,hA 11 true 13 12,ig 11 true 14 (.call yaa [.t 13,kI (-1),kI 1000000]),ia 15 (.pick (.t 11) (.t 14) (kB false)),iv 2 15]) (.ret))
theorem yj0 : Has Try.prog ydQ 16 yge [.t 2]:=⟨by decide,Try.f37,_,Try.func37,rfl,rfl,⟨none,by kernel_rfl⟩,by kernel_rfl⟩
def yfn : SC:=.seq (.reg [ia 1 (.box 2 (.t 0)),mA 2 0]) (.seq (.seq (.reg [dA 6 2 1,ia 7 (.call ybk [.t 6]),ia 8 (.not (.t 7))]) (.cond (.t 8) (.seq (.reg [mA 2 (-1)]) (.ret)) (.skip))) (.seq (.reg [fA 9 1 1,lA 10 9,ia 11 (.idx 1 (.t 10) (kI 0)),lA 12 11,ia 13 (.idx 6 (.t 12) (kI 0)),fA 14 5 13,lA 15 14,iv 3 15]) (.seq (.seq (.reg [dA 16 2 1,ia 17 (.call yb3 [.t 16]),nA 18 17,mA 19 0]) (.block 0 (.loop (.seq (.reg [tA 20 19 18]) (.seq (.cond (.t 20) (.skip) (.exit 0)) (.seq (.block 1 (.seq (.reg [xA 21 6 17 19,dA 22 6 21,ia 5 (.alloc [.c (.i 0),.c (.i 0),.c (.i 0),.c (.i 0),.c (.i 0),.c (.i 0)]),ie (.stn 6 (.t 5) (.t 22))]) (.reg [iv 23 3,fA 24 5 5,lA 25 24,ia 26 (.mn [.t 23,.t 25]),iv 3 26]))) (.reg [pA 27 19 1,iv 19 27]))))))) (.seq (.reg [iv 28 3,iv 2 28]) (.ret)))))
theorem yjc : Has Try.prog ydj 29 yfn [.t 2]:=⟨by decide,Try.f38,_,Try.func38,rfl,rfl,⟨none,by kernel_rfl⟩,by kernel_rfl⟩
def yaF : SC:=.seq (.reg [mA 6 20]) (.seq (.reg [iv 10 6,mA 7 0,iv 8 10]) (.seq (.block 0 (.loop (.seq (.seq (.reg [iv 11 8,iv 12 1,ia 13 (.bin .leq (.t 11) (.t 12))]) (.cond (.t 13) (.skip) (.exit 0))) (.block 1 (.seq (.reg [iv 14 0,iv 15 7,iv 16 8,iv 17 2,ia 18 (.call yK [.t 14,.t 15,.t 16,.t 17])]) (.seq (.reg [iv 19 8,iv 7 19]) (.reg [iv 20 8,iv 21 6,ia 22 (.bin .add (.t 20) (.t 21)),iv 8 22]))))))) (.seq (.reg [iv 23 0,iv 24 7,iv 25 1,iv 26 2,ia 27 (.call yK [.t 23,.t 24,.t 25,.t 26])]) (.block 2 (.loop (.seq (.seq (.reg [iv 28 6,iv 29 1,tA 30 28 29]) (.cond (.t 30) (.skip) (.exit 2))) (.block 3 (.seq (.reg [iv 31 6,ia 32 (.bin .mul (kI 2) (.t 31)),mA 7 0,iv 8 32]) (.seq (.block 4 (.loop (.seq (.seq (.reg [iv 33 8,iv 34 1,ia 35 (.bin .leq (.t 33) (.t 34))]) (.cond (.t 35) (.skip) (.exit 4))) (.block 5 (.seq (.reg [iv 36 0,iv 37 7,iv 38 7,iv 39 6,ia 40 (.bin .add (.t 38) (.t 39)),iv 41 8,iv 42 2,ia 43 (.call yu [.t 36,.t 37,.t 40,.t 41,.t 42])]) (.seq (.reg [iv 44 8,iv 7 44]) (.reg [iv 45 8,iv 46 6,ia 47 (.bin .mul (kI 2) (.t 46)),ia 48 (.bin .add (.t 45) (.t 47)),iv 8 48]))))))) (.seq (.seq (.reg [iv 49 7,iv 50 6,ia 51 (.bin .add (.t 49) (.t 50)),iv 9 51]) (.seq (.reg [iv 52 9,iv 53 1,tA 54 52 53]) (.cond (.t 54) (.reg [iv 55 0,iv 56 7,iv 57 9,iv 58 1,iv 59 2,ia 60 (.call yu [.t 55,.t 56,.t 57,.t 58,.t 59])]) (.skip)))) (.reg [iv 61 6,ia 62 (.bin .mul (.t 61) (kI 2)),iv 6 62])))))))))))
theorem ybg : Has Try.prog yaq 63 yaF []:=⟨by decide,Try.f39,_,Try.func39,rfl,rfl,⟨none,by kernel_rfl⟩,by kernel_rfl⟩
def ygQ : SC:=.seq (.reg [ia 1 (.box 2 (.t 0)),ia 2 (.mv (.k (.nil 1)))]) (.seq (.seq (.reg [dA 6 2 1,ia 7 (.call ybk [.t 6]),ia 8 (.not (.t 7))]) (.cond (.t 8) (.seq (.reg [ia 2 (.mv (.k (.nil 1)))]) (.ret)) (.skip))) (.seq (.reg [ia 3 (.mv (.k (.nil 1)))]) (.seq (.seq (.reg [dA 9 2 1,ia 10 (.call yb3 [.t 9]),nA 11 10,mA 12 0]) (.block 0 (.loop (.seq (.reg [tA 13 12 11]) (.seq (.cond (.t 13) (.skip) (.exit 0)) (.seq (.block 1 (.seq (.reg [xA 14 6 10 12,dA 15 6 14,ia 5 (.alloc [.c (.i 0),.c (.i 0),.c (.i 0),.c (.i 0),.c (.i 0),.c (.i 0)]),ie (.stn 6 (.t 5) (.t 15))]) (.reg [iv 16 3,fA 17 0 5,lA 18 17,ia 19 (.bsl 1 [.t 18]),ia 20 (.app 1 8 (.t 16) (.t 19)),iv 3 20]))) (.reg [pA 21 12 1,iv 12 21]))))))) (.seq (.reg [iv 22 3,iv 2 22]) (.ret)))))
theorem ylc : Has Try.prog ycZ 23 ygQ [.t 2]:=⟨by decide,Try.f40,_,Try.func40,rfl,rfl,⟨none,by kernel_rfl⟩,by kernel_rfl⟩
def yeK : SC:=.seq (.reg [mA 4 0]) (.seq (.reg [iv 6 1,iv 7 0,nA 8 7,ia 9 (.bin .sub (.t 6) (.t 8)),iv 1 9]) (.seq (.seq (.reg [iv 10 1,ia 11 (.bin .lss (.t 10) (kI 0))]) (.cond (.t 11) (.seq (.reg [mA 4 (-1)]) (.ret)) (.skip))) (.seq (.seq (.reg [mA 5 0]) (.block 0 (.loop (.seq (.seq (.reg [iv 12 5,iv 13 0,nA 14 13,tA 15 12 14]) (.cond (.t 15) (.skip) (.exit 0))) (.seq (.block 1 (.seq (.reg [iv 18 0,iv 19 5,xA 20 1 18 19,lA 21 20,iv 22 1,ia 23 (.call ydn [.t 21,.t 22]),iv 1 23]) (.seq (.reg [iv 24 1,ia 25 (.bin .lss (.t 24) (kI 0))]) (.cond (.t 25) (.seq (.reg [mA 4 (-1)]) (.ret)) (.skip))))) (.reg [iv 16 5,pA 17 16 1,iv 5 17])))))) (.seq (.reg [iv 26 1,iv 4 26]) (.ret)))))
theorem yh8 : Has Try.prog ycQ 27 yeK [.t 4]:=⟨by decide,Try.f42,_,Try.func42,rfl,rfl,⟨none,by kernel_rfl⟩,by kernel_rfl⟩
def yeQ : SC:=.seq (.reg [ia 2 (.mv (.k (.nil 1)))]) (.seq (.reg [iv 5 0,nA 6 5,ia 7 (.mks 1 24 [.sl 6 []] (.t 6) (.t 6)),iv 3 7]) (.seq (.seq (.reg [mA 4 0]) (.block 0 (.loop (.seq (.seq (.reg [iv 8 4,iv 9 0,nA 10 9,tA 11 8 10]) (.cond (.t 11) (.skip) (.exit 0))) (.seq (.block 1 (.reg [iv 14 3,iv 15 4,iv 16 0,iv 17 4,xA 18 1 16 17,lA 19 18,ia 20 (.call yc7 [.t 19]),xA 21 1 14 15,ie (.st1 (.t 21) (.t 20))])) (.reg [iv 12 4,pA 13 12 1,iv 4 13])))))) (.seq (.reg [iv 22 3,iv 2 22]) (.ret))))
theorem yh7 : Has Try.prog ycJ 23 yeQ [.t 2]:=⟨by decide,Try.f43,_,Try.func43,rfl,rfl,⟨none,by kernel_rfl⟩,by kernel_rfl⟩
def yeO : SC:=.seq (.reg [bA 4 false]) (.seq (.seq (.reg [iv 6 0,nA 7 6,iv 8 1,nA 9 8,ia 10 (.bin .neq (.t 7) (.t 9))]) (.cond (.t 10) (.seq (.reg [bA 4 false]) (.ret)) (.skip))) (.seq (.seq (.reg [mA 5 0]) (.block 0 (.loop (.seq (.seq (.reg [iv 11 5,iv 12 0,nA 13 12,tA 14 11 13]) (.cond (.t 14) (.skip) (.exit 0))) (.seq (.block 1 (.seq (.regq [iv 17 0,iv 18 5,xA 19 1 17 18,lA 20 19,iv 21 1,iv 22 5,xA 23 1 21 22,lA 24 23,ia 25 (.call ydf [.t 20,.t 24]),ia 26 (.not (.t 25))]) (.cond (.t 26) (.seq (.reg [bA 4 false]) (.ret)) (.skip)))) (.reg [iv 15 5,pA 16 15 1,iv 5 16])))))) (.seq (.reg [bA 4 true]) (.ret))))
theorem yif : Has Try.prog ycS 27 yeO [.t 4]:=⟨by decide,Try.f44,_,Try.func44,rfl,rfl,⟨none,by kernel_rfl⟩,by kernel_rfl⟩
def yfA : SC:=.seq (.reg [ia 1 (.box 2 (.t 0)),bA 2 false]) (.seq (.reg [dA 7 2 1,ia 8 (.call ya8 [.t 7]),iv 3 8]) (.seq (.seq (.reg [mA 4 0]) (.block 0 (.loop (.seq (.seq (.reg [iv 9 4,fA 10 1 1,lA 11 10,nA 12 11,tA 13 9 12]) (.cond (.t 13) (.skip) (.exit 0))) (.seq (.block 1 (.seq (.reg [fA 16 1 1,lA 17 16,iv 18 4,xA 19 1 17 18,lA 20 19,nA 21 20,ia 22 (.bin .eql (.t 21) (kI 0))]) (.cond (.t 22) (.seq (.reg [bA 2 false]) (.ret)) (.skip)))) (.reg [iv 14 4,pA 15 14 1,iv 4 15])))))) (.seq (.seq (.reg [mA 5 0]) (.block 2 (.loop (.seq (.seq (.reg [iv 23 5,iv 24 3,nA 25 24,tA 26 23 25,iv 27 26,ig 27 true 28 (.mv (.t 3)),ig 27 true 29 (.len (.t 28)),ig 27 true 30 (.bin .leq (.t 29) (kI 6)),ia 31 (.pick (.t 27) (.t 30) (kB false))]) (.cond (.t 31) (.skip) (.exit 2))) (.seq (.block 3 (.seq (.seq (.reg [iv 34 3,iv 35 5,xA 36 6 34 35,dA 37 6 36,ia 38 (.call ydU [.t 37]),ia 39 (.not (.t 38))]) (.cond (.t 39) (.seq (.reg [bA 2 false]) (.ret)) (.skip))) (.seq (.reg [mA 6 0]) (.block 4 (.loop (.seq (.seq (.reg [iv 40 6,iv 41 5,tA 42 40 41]) (.cond (.t 42) (.skip) (.exit 4))) (.seq (.block 5 (.seq (.regq [iv 45 3,iv 46 6,xA 47 6 45 46,fA 48 0 47,lA 49 48,iv 50 3,iv 51 5,xA 52 6 50 51,fA 53 0 52,lA 54 53,ia 55 (.bin .eql (.t 49) (.t 54))]) (.cond (.t 55) (.seq (.reg [bA 2 false]) (.ret)) (.skip)))) (.reg [iv 43 6,pA 44 43 1,iv 6 44])))))))) (.reg [iv 32 5,pA 33 32 1,iv 5 33])))))) (.seq (.reg [iv 56 3,nA 57 56,ia 58 (.call yac [.t 57,kI 1,kI 6]),iv 2 58]) (.ret)))))
theorem yiK : Has Try.prog ybm 59 yfA [.t 2]:=⟨by decide,Try.f45,_,Try.func45,rfl,rfl,⟨none,by kernel_rfl⟩,by kernel_rfl⟩
def yeM : SC:=.seq (.reg [ia 1 (.box 2 (.t 0)),ia 2 (.mv (.k (.nil 6)))]) (.seq (.reg [ia 5 (.bsl 6 []),iv 3 5]) (.seq (.seq (.reg [mA 4 0]) (.block 0 (.loop (.seq (.seq (.reg [iv 6 4,fA 7 1 1,lA 8 7,nA 9 8,tA 10 6 9]) (.cond (.t 10) (.skip) (.exit 0))) (.seq (.block 1 (.reg [iv 13 3,fA 14 1 1,lA 15 14,iv 16 4,xA 17 1 15 16,lA 18 17,ia 19 (.app 6 48 (.t 13) (.t 18)),iv 3 19])) (.reg [iv 11 4,pA 12 11 1,iv 4 12])))))) (.seq (.reg [iv 20 3,iv 2 20]) (.ret))))
theorem yid : Has Try.prog ya8 21 yeM [.t 2]:=⟨by decide,Try.f46,_,Try.func46,rfl,rfl,⟨none,by kernel_rfl⟩,by kernel_rfl⟩
def yfv : SC:=.seq (.reg [ia 1 (.box 2 (.t 0)),bA 2 false]) (.seq (.seq (.reg [fA 9 1 1,lA 10 9,nA 11 10,ia 12 (.bin .eql (.t 11) (kI 0)),iv 13 12,gA 13 false 14 1 1,hA 13 false 15 14,ig 13 false 16 (.len (.t 15)),ig 13 false 17 (.bin .gtr (.t 16) (kI 6)),ia 18 (.pick (.t 13) (kB true) (.t 17))]) (.cond (.t 18) (.seq (.reg [bA 2 false]) (.ret)) (.skip))) (.seq (.reg [ia 3 (.alloca 1 6 [.i 0])]) (.seq (.reg [mA 4 0]) (.seq (.seq (.reg [fA 19 1 1,lA 20 19,nA 21 20,mA 22 0]) (.block 0 (.loop (.seq (.reg [tA 23 22 21]) (.seq (.cond (.t 23) (.skip) (.exit 0)) (.seq (.block 1 (.seq (.reg [xA 24 1 20 22,lA 25 24,iv 6 25]) (.seq (.seq (.reg [iv 26 6,nA 27 26,ia 28 (.bin .eql (.t 27) (kI 0)),iv 29 28,ig 29 false 30 (.mv (.t 4)),ig 29 false 31 (.mv (.t 6)),ig 29 false 32 (.len (.t 31)),ig 29 false 33 (.bin .add (.t 30) (.t 32)),ig 29 false 34 (.bin .gtr (.t 33) (kI 6)),ia 35 (.pick (.t 29) (kB true) (.t 34))]) (.cond (.t 35) (.seq (.reg [bA 2 false]) (.ret)) (.skip))) (.seq (.reg [iv 36 6,nA 37 36,mA 38 0]) (.block 2 (.loop (.seq (.reg [tA 39 38 37]) (.seq (.cond (.t 39) (.skip) (.exit 2)) (.seq (.block 3 (.seq (.reg [xA 40 6 36 38,dA 41 6 40,ia 8 (.alloc [.c (.i 0),.c (.i 0),.c (.i 0),.c (.i 0),.c (.i 0),.c (.i 0)]),ie (.stn 6 (.t 8) (.t 41))]) (.seq (.seq (.regq [dA 42 6 8,ia 43 (.call ydO [.t 42]),ia 44 (.not (.t 43)),iv 45 44,ig 45 false 46 (.mv (.t 4)),ig 45 false 47 (.sla 1 6 (.t 3) (.t 46)),gA 45 false 48 0 8,hA 45 false 49 48,ig 45 false 50 (.call yaC [.t 47,.t 49]),ia 51 (.pick (.t 45) (kB true) (.t 50))]) (.cond (.t 51) (.seq (.reg [bA 2 false]) (.ret)) (.skip))) (.seq (.reg [iv 52 4,fA 53 0 8,lA 54 53,ia 55 (.ida 1 6 (.t 3) (.t 52)),ie (.st1 (.t 55) (.t 54))]) (.reg [iv 56 4,pA 57 56 1,iv 4 57]))))) (.reg [pA 58 38 1,iv 38 58])))))))))) (.reg [pA 59 22 1,iv 22 59]))))))) (.seq (.reg [bA 2 true]) (.ret))))))
theorem yiJ : Has Try.prog ybk 60 yfv [.t 2]:=⟨by decide,Try.f47,_,Try.func47,rfl,rfl,⟨none,by kernel_rfl⟩,by kernel_rfl⟩
def ye0 : SC:=.seq (.reg [ia 1 (.box 2 (.t 0)),ia 2 (.mv (.k (.nil 6)))]) (.seq (.reg [ia 3 (.mv (.k (.nil 6)))]) (.seq (.seq (.reg [fA 6 1 1,lA 7 6,nA 8 7,mA 9 0]) (.block 0 (.loop (.seq (.reg [tA 10 9 8]) (.seq (.cond (.t 10) (.skip) (.exit 0)) (.seq (.block 1 (.seq (.reg [xA 11 1 7 9,lA 12 11,iv 5 12]) (.reg [iv 13 3,iv 14 5,ia 15 (.app 6 48 (.t 13) (.t 14)),iv 3 15]))) (.reg [pA 16 9 1,iv 9 16]))))))) (.seq (.reg [iv 17 3,iv 2 17]) (.ret))))
theorem yiv : Has Try.prog yb3 18 ye0 [.t 2]:=⟨by decide,Try.f48,_,Try.func48,rfl,rfl,⟨none,by kernel_rfl⟩,by kernel_rfl⟩
def yam : SC:=.seq (.reg [iv 10 1,pA 11 10 1,iv 8 11]) (.block 0 (.loop (.seq (.seq (.reg [iv 12 8,iv 13 2,tA 14 12 13]) (.cond (.t 14) (.skip) (.exit 0))) (.seq (.block 1 (.seq (.reg [iv 17 8,iv 9 17]) (.block 2 (.loop (.seq (.seq (.regq [iv 18 9,iv 19 1,ia 20 (.bin .gtr (.t 18) (.t 19)),iv 21 20,ig 21 true 22 (.mv (.t 3)),ig 21 true 23 (.mv (.t 0)),ig 21 true 24 (.mv (.t 9)),ig 21 true 25 (.idx 1 (.t 23) (.t 24)),hA 21 true 26 25,ig 21 true 27 (.mv (.t 0)),ig 21 true 28 (.mv (.t 9)),ig 21 true 29 (.bin .sub (.t 28) (kI 1)),ig 21 true 30 (.idx 1 (.t 27) (.t 29)),hA 21 true 31 30,ig 21 true 32 (.callv (.t 22) [.t 26,.t 31]),ig 21 true 33 (.bin .lss (.t 32) (kI 0)),ia 34 (.pick (.t 21) (.t 33) (kB false))]) (.cond (.t 34) (.skip) (.exit 2))) (.seq (.block 3 (.rege [⟨0,false,[],iv 37 0⟩,⟨0,false,[],iv 38 9⟩,⟨0,true,[],iv 39 0⟩,⟨0,true,[],iv 40 9⟩,⟨0,true,[],ia 41 (.bin .sub (.t 40) (kI 1))⟩,⟨0,false,[],iv 42 0⟩,⟨0,false,[],iv 43 9⟩,⟨0,false,[],ia 44 (.bin .sub (.t 43) (kI 1))⟩,⟨0,false,[],xA 45 1 42 44⟩,⟨0,false,[],lA 46 45⟩,⟨0,false,[],iv 47 0⟩,⟨0,false,[],iv 48 9⟩,⟨0,false,[],xA 49 1 47 48⟩,⟨0,false,[],lA 50 49⟩,⟨0,false,[],xA 51 1 37 38⟩,⟨2,false,[2,3,4],ie (.st1 (.t 51) (.t 46))⟩,⟨0,false,[],xA 52 1 39 41⟩,⟨2,false,[],ie (.st1 (.t 52) (.t 50))⟩])) (.reg [iv 35 9,ia 36 (.bin .sub (.t 35) (kI 1)),iv 9 36]))))))) (.reg [iv 15 8,pA 16 15 1,iv 8 16])))))
theorem yaK : Has Try.prog yK 53 yam []:=⟨by decide,Try.f49,_,Try.func49,rfl,rfl,⟨none,by kernel_rfl⟩,by kernel_rfl⟩
def yai : SC:=.seq (.seq (.reg [iv 25 2,iv 26 1,ia 27 (.bin .sub (.t 25) (.t 26)),ia 28 (.bin .eql (.t 27) (kI 1))]) (.cond (.t 28) (.seq (.reg [iv 29 2,iv 10 29]) (.seq (.reg [iv 30 3,iv 11 30]) (.seq (.block 0 (.loop (.seq (.seq (.reg [iv 31 10,iv 32 11,tA 33 31 32]) (.cond (.t 33) (.skip) (.exit 0))) (.block 1 (.seq (.reg [iv 34 10,iv 35 11,ia 36 (.bin .add (.t 34) (.t 35)),ia 37 (.cvt 3 (.t 36)),ia 38 (.bit .shr (.t 37) (kI 1)),ia 39 (.cvt 0 (.t 38)),iv 12 39]) (.seq (.regq [iv 40 4,iv 41 0,iv 42 12,xA 43 1 41 42,lA 44 43,iv 45 0,iv 46 1,xA 47 1 45 46,lA 48 47,ia 49 (.callv (.t 40) [.t 44,.t 48]),ia 50 (.bin .lss (.t 49) (kI 0))]) (.cond (.t 50) (.reg [iv 51 12,pA 52 51 1,iv 10 52]) (.reg [iv 53 12,iv 11 53])))))))) (.seq (.seq (.reg [iv 54 1,iv 13 54]) (.block 2 (.loop (.seq (.seq (.reg [iv 55 13,iv 56 10,ia 57 (.bin .sub (.t 56) (kI 1)),tA 58 55 57]) (.cond (.t 58) (.skip) (.exit 2))) (.seq (.block 3 (.rege [⟨0,false,[],iv 61 0⟩,⟨0,false,[],iv 62 13⟩,⟨0,true,[],iv 63 0⟩,⟨0,true,[],iv 64 13⟩,⟨0,true,[],pA 65 64 1⟩,⟨0,false,[],iv 66 0⟩,⟨0,false,[],iv 67 13⟩,⟨0,false,[],pA 68 67 1⟩,⟨0,false,[],xA 69 1 66 68⟩,⟨0,false,[],lA 70 69⟩,⟨0,false,[],iv 71 0⟩,⟨0,false,[],iv 72 13⟩,⟨0,false,[],xA 73 1 71 72⟩,⟨0,false,[],lA 74 73⟩,⟨0,false,[],xA 75 1 61 62⟩,⟨2,false,[2,3,4],ie (.st1 (.t 75) (.t 70))⟩,⟨0,false,[],xA 76 1 63 65⟩,⟨2,false,[],ie (.st1 (.t 76) (.t 74))⟩])) (.reg [iv 59 13,pA 60 59 1,iv 13 60])))))) (.ret))))) (.skip))) (.seq (.seq (.reg [iv 77 3,iv 78 2,ia 79 (.bin .sub (.t 77) (.t 78)),ia 80 (.bin .eql (.t 79) (kI 1))]) (.cond (.t 80) (.seq (.reg [iv 81 1,iv 14 81]) (.seq (.reg [iv 82 2,iv 15 82]) (.seq (.block 4 (.loop (.seq (.seq (.reg [iv 83 14,iv 84 15,tA 85 83 84]) (.cond (.t 85) (.skip) (.exit 4))) (.block 5 (.seq (.reg [iv 86 14,iv 87 15,ia 88 (.bin .add (.t 86) (.t 87)),ia 89 (.cvt 3 (.t 88)),ia 90 (.bit .shr (.t 89) (kI 1)),ia 91 (.cvt 0 (.t 90)),iv 16 91]) (.seq (.regq [iv 92 4,iv 93 0,iv 94 2,xA 95 1 93 94,lA 96 95,iv 97 0,iv 98 16,xA 99 1 97 98,lA 100 99,ia 101 (.callv (.t 92) [.t 96,.t 100]),ia 102 (.bin .lss (.t 101) (kI 0)),ia 103 (.not (.t 102))]) (.cond (.t 103) (.reg [iv 104 16,pA 105 104 1,iv 14 105]) (.reg [iv 106 16,iv 15 106])))))))) (.seq (.seq (.reg [iv 107 2,iv 17 107]) (.block 6 (.loop (.seq (.seq (.reg [iv 108 17,iv 109 14,ia 110 (.bin .gtr (.t 108) (.t 109))]) (.cond (.t 110) (.skip) (.exit 6))) (.seq (.block 7 (.rege [⟨0,false,[],iv 113 0⟩,⟨0,false,[],iv 114 17⟩,⟨0,true,[],iv 115 0⟩,⟨0,true,[],iv 116 17⟩,⟨0,true,[],ia 117 (.bin .sub (.t 116) (kI 1))⟩,⟨0,false,[],iv 118 0⟩,⟨0,false,[],iv 119 17⟩,⟨0,false,[],ia 120 (.bin .sub (.t 119) (kI 1))⟩,⟨0,false,[],xA 121 1 118 120⟩,⟨0,false,[],lA 122 121⟩,⟨0,false,[],iv 123 0⟩,⟨0,false,[],iv 124 17⟩,⟨0,false,[],xA 125 1 123 124⟩,⟨0,false,[],lA 126 125⟩,⟨0,false,[],xA 127 1 113 114⟩,⟨2,false,[2,3,4],ie (.st1 (.t 127) (.t 122))⟩,⟨0,false,[],xA 128 1 115 117⟩,⟨2,false,[],ie (.st1 (.t 128) (.t 126))⟩])) (.reg [iv 111 17,ia 112 (.bin .sub (.t 111) (kI 1)),iv 17 112])))))) (.ret))))) (.skip))) (.seq (.reg [iv 129 1,iv 130 3,ia 131 (.bin .add (.t 129) (.t 130)),ia 132 (.cvt 3 (.t 131)),ia 133 (.bit .shr (.t 132) (kI 1)),ia 134 (.cvt 0 (.t 133)),iv 18 134]) (.seq (.reg [iv 135 18,iv 136 2,ia 137 (.bin .add (.t 135) (.t 136)),iv 19 137]) (.seq (.reg [mA 20 0,mA 21 0]) (.seq (.seq (.reg [iv 138 2,iv 139 18,ia 140 (.bin .gtr (.t 138) (.t 139))]) (.cond (.t 140) (.seq (.reg [iv 141 19,iv 142 3,ia 143 (.bin .sub (.t 141) (.t 142)),iv 20 143]) (.reg [iv 144 18,iv 21 144])) (.seq (.reg [iv 145 1,iv 20 145]) (.reg [iv 146 2,iv 21 146])))) (.seq (.reg [iv 147 19,ia 148 (.bin .sub (.t 147) (kI 1)),iv 22 148]) (.seq (.block 8 (.loop (.seq (.seq (.reg [iv 149 20,iv 150 21,tA 151 149 150]) (.cond (.t 151) (.skip) (.exit 8))) (.block 9 (.seq (.reg [iv 152 20,iv 153 21,ia 154 (.bin .add (.t 152) (.t 153)),ia 155 (.cvt 3 (.t 154)),ia 156 (.bit .shr (.t 155) (kI 1)),ia 157 (.cvt 0 (.t 156)),iv 23 157]) (.seq (.regq [iv 158 4,iv 159 0,iv 160 22,iv 161 23,ia 162 (.bin .sub (.t 160) (.t 161)),xA 163 1 159 162,lA 164 163,iv 165 0,iv 166 23,xA 167 1 165 166,lA 168 167,ia 169 (.callv (.t 158) [.t 164,.t 168]),ia 170 (.bin .lss (.t 169) (kI 0)),ia 171 (.not (.t 170))]) (.cond (.t 171) (.reg [iv 172 23,pA 173 172 1,iv 20 173]) (.reg [iv 174 23,iv 21 174])))))))) (.seq (.reg [iv 175 19,iv 176 20,ia 177 (.bin .sub (.t 175) (.t 176)),iv 24 177]) (.seq (.seq (.reg [iv 178 20,iv 179 2,tA 180 178 179,iv 181 180,ig 181 true 182 (.mv (.t 2)),ig 181 true 183 (.mv (.t 24)),ig 181 true 184 (.bin .lss (.t 182) (.t 183)),ia 185 (.pick (.t 181) (.t 184) (kB false))]) (.cond (.t 185) (.reg [iv 186 0,iv 187 20,iv 188 2,iv 189 24,iv 190 4,ia 191 (.call yaG [.t 186,.t 187,.t 188,.t 189,.t 190])]) (.skip))) (.seq (.seq (.reg [iv 192 1,iv 193 20,tA 194 192 193,iv 195 194,ig 195 true 196 (.mv (.t 20)),ig 195 true 197 (.mv (.t 18)),ig 195 true 198 (.bin .lss (.t 196) (.t 197)),ia 199 (.pick (.t 195) (.t 198) (kB false))]) (.cond (.t 199) (.reg [iv 200 0,iv 201 1,iv 202 20,iv 203 18,iv 204 4,ia 205 (.call yu [.t 200,.t 201,.t 202,.t 203,.t 204])]) (.skip))) (.seq (.reg [iv 206 18,iv 207 24,tA 208 206 207,iv 209 208,ig 209 true 210 (.mv (.t 24)),ig 209 true 211 (.mv (.t 3)),ig 209 true 212 (.bin .lss (.t 210) (.t 211)),ia 213 (.pick (.t 209) (.t 212) (kB false))]) (.cond (.t 213) (.reg [iv 214 0,iv 215 18,iv 216 24,iv 217 3,iv 218 4,ia 219 (.call yu [.t 214,.t 215,.t 216,.t 217,.t 218])]) (.skip)))))))))))))
theorem yax : Has Try.prog yu 220 yai []:=⟨by decide,Try.f50,_,Try.func50,rfl,rfl,⟨none,by kernel_rfl⟩,by kernel_rfl⟩
def yfD : SC:=.seq (.reg [mA 4 0]) (.seq (.reg [iv 5 1,iv 6 0,nA 7 6,ia 8 (.bin .sub (.t 5) (.t 7)),iv 1 8]) (.seq (.seq (.reg [iv 9 1,ia 10 (.bin .lss (.t 9) (kI 0))]) (.cond (.t 10) (.seq (.reg [mA 4 (-1)]) (.ret)) (.skip))) (.seq (.reg [iv 11 1,iv 4 11]) (.ret))))
theorem yjo : Has Try.prog ydn 12 yfD [.t 4]:=⟨by decide,Try.f51,_,Try.func51,rfl,rfl,⟨none,by kernel_rfl⟩,by kernel_rfl⟩
def yfF : SC:=.seq (.reg [ia 2 (.mv (.k (.nil 6)))]) (.seq (.reg [iv 5 0,nA 6 5,ia 7 (.mks 6 48 [.i 0,.i 0,.i 0,.i 0,.i 0,.i 0] (.t 6) (.t 6)),iv 3 7]) (.seq (.seq (.reg [mA 4 0]) (.block 0 (.loop (.seq (.seq (.reg [iv 8 4,iv 9 0,nA 10 9,tA 11 8 10]) (.cond (.t 11) (.skip) (.exit 0))) (.seq (.block 1 (.reg [iv 14 3,iv 15 4,iv 16 0,iv 17 4,xA 18 6 16 17,dA 19 6 18,ia 20 (.call ydL [.t 19]),xA 21 6 14 15,ie (.stn 6 (.t 21) (.t 20))])) (.reg [iv 12 4,pA 13 12 1,iv 4 13])))))) (.seq (.reg [iv 22 3,iv 2 22]) (.ret))))
theorem yjr : Has Try.prog yc7 23 yfF [.t 2]:=⟨by decide,Try.f52,_,Try.func52,rfl,rfl,⟨none,by kernel_rfl⟩,by kernel_rfl⟩
def yfj : SC:=.seq (.reg [bA 4 false]) (.seq (.seq (.reg [iv 6 0,nA 7 6,iv 8 1,nA 9 8,ia 10 (.bin .neq (.t 7) (.t 9))]) (.cond (.t 10) (.seq (.reg [bA 4 false]) (.ret)) (.skip))) (.seq (.seq (.reg [mA 5 0]) (.block 0 (.loop (.seq (.seq (.reg [iv 11 5,iv 12 0,nA 13 12,tA 14 11 13]) (.cond (.t 14) (.skip) (.exit 0))) (.seq (.block 1 (.seq (.regq [iv 17 0,iv 18 5,xA 19 6 17 18,dA 20 6 19,iv 21 1,iv 22 5,xA 23 6 21 22,dA 24 6 23,ia 25 (.call ydK [.t 20,.t 24]),ia 26 (.not (.t 25))]) (.cond (.t 26) (.seq (.reg [bA 4 false]) (.ret)) (.skip)))) (.reg [iv 15 5,pA 16 15 1,iv 5 16])))))) (.seq (.reg [bA 4 true]) (.ret))))
theorem yi9 : Has Try.prog ydf 27 yfj [.t 4]:=⟨by decide,Try.f53,_,Try.func53,rfl,rfl,⟨none,by kernel_rfl⟩,by kernel_rfl⟩
def ygf : SC:=.seq (.reg [ia 1 (.box 6 (.t 0)),bA 2 false]) (.seq (.reg [fA 3 0 1,lA 4 3,ia 5 (.call yac [.t 4,kI 1,kI 9999]),iv 6 5,gA 6 true 7 1 1,hA 6 true 8 7,ig 6 true 9 (.call yac [.t 8,kI 1,kI 200]),ia 10 (.pick (.t 6) (.t 9) (kB false)),iv 11 10,gA 11 true 12 2 1,hA 11 true 13 12,ig 11 true 14 (.call yac [.t 13,kI 1,kI 30]),ia 15 (.pick (.t 11) (.t 14) (kB false)),iv 16 15,gA 16 true 17 3 1,hA 16 true 18 17,ig 16 true 19 (.call yac [.t 18,kI 1,kI 100]),ia 20 (.pick (.t 16) (.t 19) (kB false)),iv 21 20,gA 21 true 22 4 1,hA 21 true 23 22,ig 21 true 24 (.call yac [.t 23,kI 1,kI 50]),ia 25 (.pick (.t 21) (.t 24) (kB false)),iv 26 25,gA 26 true 27 5 1,hA 26 true 28 27,ig 26 true 29 (.call yac [.t 28,kI 0,kI 2]),ia 30 (.pick (.t 26) (.t 29) (kB false)),iv 2 30]) (.ret))
theorem yjR : Has Try.prog ydU 31 ygf [.t 2]:=⟨by decide,Try.f54,_,Try.func54,rfl,rfl,⟨none,by kernel_rfl⟩,by kernel_rfl⟩
def ygl : SC:=.seq (.reg [ia 1 (.box 6 (.t 0)),bA 2 false]) (.seq (.reg [fA 3 0 1,lA 4 3,ia 5 (.call yaa [.t 4,kI 1,kI 9999]),iv 6 5,gA 6 true 7 1 1,hA 6 true 8 7,ig 6 true 9 (.call yaa [.t 8,kI 1,kI 200]),ia 10 (.pick (.t 6) (.t 9) (kB false)),iv 11 10,gA 11 true 12 2 1,hA 11 true 13 12,ig 11 true 14 (.call yaa [.t 13,kI 1,kI 30]),ia 15 (.pick (.t 11) (.t 14) (kB false)),iv 16 15,gA 16 true 17 3 1,hA 16 true 18 17,ig 16 true 19 (.call yaa [.t 18,kI 1,kI 100]),ia 20 (.pick (.t 16) (.t 19) (kB false)),iv 21 20,gA 21 true 22 4 1,hA 21 true 23 22,ig 21 true 24 (.call yaa [.t 23,kI 1,kI 50]),ia 25 (.pick (.t 21) (.t 24) (kB false)),iv 26 25,gA 26 true 27 5 1,hA 26 true 28 27,ig 26 true 29 (.call yaa [.t 28,kI 0,kI 2]),ia 30 (.pick (.t 26) (.t 29) (kB false)),iv 2 30]) (.ret))
theorem yj7 : Has Try.prog ydO 31 ygl [.t 2]:=⟨by decide,Try.f55,_,Try.func55,rfl,rfl,⟨none,by kernel_rfl⟩,by kernel_rfl⟩
def ya9 : SC:=.seq (.reg [bA 4 false]) (.seq (.reg [iv 5 0,iv 6 1,ia 7 (.call yaN [.t 5,.t 6]),ia 8 (.bin .geq (.t 7) (kI 0)),iv 4 8]) (.ret))
theorem ycU : Has Try.prog yaC 9 ya9 [.t 4]:=⟨by decide,Try.f56,_,Try.func56,rfl,rfl,⟨none,by kernel_rfl⟩,by kernel_rfl⟩
def ybh : SC:=.seq (.reg [iv 12 2,iv 13 1,ia 14 (.bin .sub (.t 12) (.t 13)),iv 10 14]) (.seq (.reg [iv 15 3,iv 16 2,ia 17 (.bin .sub (.t 15) (.t 16)),iv 11 17]) (.seq (.block 0 (.loop (.seq (.seq (.reg [iv 18 10,iv 19 11,ia 20 (.bin .neq (.t 18) (.t 19))]) (.cond (.t 20) (.skip) (.exit 0))) (.block 1 (.seq (.reg [iv 21 10,iv 22 11,ia 23 (.bin .gtr (.t 21) (.t 22))]) (.cond (.t 23) (.seq (.reg [iv 24 0,iv 25 2,iv 26 10,ia 27 (.bin .sub (.t 25) (.t 26)),iv 28 2,iv 29 11,iv 30 4,ia 31 (.call yV [.t 24,.t 27,.t 28,.t 29,.t 30])]) (.reg [iv 32 10,iv 33 11,ia 34 (.bin .sub (.t 32) (.t 33)),iv 10 34])) (.seq (.reg [iv 35 0,iv 36 2,iv 37 10,ia 38 (.bin .sub (.t 36) (.t 37)),iv 39 2,iv 40 11,ia 41 (.bin .add (.t 39) (.t 40)),iv 42 10,ia 43 (.bin .sub (.t 41) (.t 42)),iv 44 10,iv 45 4,ia 46 (.call yV [.t 35,.t 38,.t 43,.t 44,.t 45])]) (.reg [iv 47 11,iv 48 10,ia 49 (.bin .sub (.t 47) (.t 48)),iv 11 49])))))))) (.reg [iv 50 0,iv 51 2,iv 52 10,ia 53 (.bin .sub (.t 51) (.t 52)),iv 54 2,iv 55 10,iv 56 4,ia 57 (.call yV [.t 50,.t 53,.t 54,.t 55,.t 56])])))
theorem yc0 : Has Try.prog yaG 58 ybh []:=⟨by decide,Try.f57,_,Try.func57,rfl,rfl,⟨none,by kernel_rfl⟩,by kernel_rfl⟩
def yf4 : SC:=.seq (.reg [ia 1 (.box 6 (.t 0)),ia 2 (.alloc [.c (.i 0),.c (.i 0),.c (.i 0),.c (.i 0),.c (.i 0),.c (.i 0)])]) (.seq (.reg [ia 3 (.alloc [.c (.i 0),.c (.i 0),.c (.i 0),.c (.i 0),.c (.i 0),.c (.i 0)])]) (.seq (.reg [fA 4 0 1,lA 5 4,fA 6 0 3,ie (.st1 (.t 6) (.t 5))]) (.seq (.reg [fA 7 1 1,lA 8 7,fA 9 1 3,ie (.st1 (.t 9) (.t 8))]) (.seq (.reg [fA 10 2 1,lA 11 10,fA 12 2 3,ie (.st1 (.t 12) (.t 11))]) (.seq (.reg [fA 13 3 1,lA 14 13,fA 15 3 3,ie (.st1 (.t 15) (.t 14))]) (.seq (.reg [fA 16 4 1,lA 17 16,fA 18 4 3,ie (.st1 (.t 18) (.t 17))]) (.seq (.reg [fA 19 5 1,lA 20 19,fA 21 5 3,ie (.st1 (.t 21) (.t 20))]) (.seq (.reg [dA 22 6 3,ie (.stn 6 (.t 2) (.t 22))]) (.ret)))))))))
theorem yjZ : Has Try.prog ydL 23 yf4 [.cl 2 6]:=⟨by decide,Try.f58,_,Try.func58,rfl,rfl,⟨none,by kernel_rfl⟩,by kernel_rfl⟩
def yf7 : SC:=.seq (.reg [ia 2 (.box 6 (.t 0)),ia 3 (.box 6 (.t 1)),bA 4 false]) (.seq (.seq (.reg [fA 5 0 2,lA 6 5,fA 7 0 3,lA 8 7,ia 9 (.bin .neq (.t 6) (.t 8))]) (.cond (.t 9) (.seq (.reg [bA 4 false]) (.ret)) (.skip))) (.seq (.seq (.reg [fA 10 1 2,lA 11 10,fA 12 1 3,lA 13 12,ia 14 (.bin .neq (.t 11) (.t 13))]) (.cond (.t 14) (.seq (.reg [bA 4 false]) (.ret)) (.skip))) (.seq (.seq (.reg [fA 15 2 2,lA 16 15,fA 17 2 3,lA 18 17,ia 19 (.bin .neq (.t 16) (.t 18))]) (.cond (.t 19) (.seq (.reg [bA 4 false]) (.ret)) (.skip))) (.seq (.seq (.reg [fA 20 3 2,lA 21 20,fA 22 3 3,lA 23 22,ia 24 (.bin .neq (.t 21) (.t 23))]) (.cond (.t 24) (.seq (.reg [bA 4 false]) (.ret)) (.skip))) (.seq (.seq (.reg [fA 25 4 2,lA 26 25,fA 27 4 3,lA 28 27,ia 29 (.bin .neq (.t 26) (.t 28))]) (.cond (.t 29) (.seq (.reg [bA 4 false]) (.ret)) (.skip))) (.seq (.seq (.reg [fA 30 5 2,lA 31 30,fA 32 5 3,lA 33 32,ia 34 (.bin .neq (.t 31) (.t 33))]) (.cond (.t 34) (.seq (.reg [bA 4 false]) (.ret)) (.skip))) (.seq (.reg [bA 4 true]) (.ret))))))))
theorem yjO : Has Try.prog ydK 35 yf7 [.t 4]:=⟨by decide,Try.f59,_,Try.func59,rfl,rfl,⟨none,by kernel_rfl⟩,by kernel_rfl⟩
def ybw : SC:=.seq (.reg [mA 4 0]) (.seq (.seq (.reg [iv 6 0,nA 7 6,mA 8 0]) (.block 0 (.loop (.seq (.reg [tA 9 8 7]) (.seq (.cond (.t 9) (.skip) (.exit 0)) (.seq (.block 1 (.seq (.reg [iv 10 8,iv 5 10]) (.seq (.reg [iv 11 1,iv 12 0,iv 13 5,xA 14 1 12 13,lA 15 14,ia 16 (.bin .eql (.t 11) (.t 15))]) (.cond (.t 16) (.seq (.reg [iv 17 5,iv 4 17]) (.ret)) (.skip))))) (.reg [pA 18 8 1,iv 8 18]))))))) (.seq (.reg [mA 4 (-1)]) (.ret)))
theorem ydu : Has Try.prog yaN 19 ybw [.t 4]:=⟨by decide,Try.f60,_,Try.func60,rfl,rfl,⟨none,by kernel_rfl⟩,by kernel_rfl⟩
def ya0 : SC:=.seq (.reg [mA 10 0]) (.block 0 (.loop (.seq (.seq (.reg [iv 11 10,iv 12 3,tA 13 11 12]) (.cond (.t 13) (.skip) (.exit 0))) (.seq (.block 1 (.rege [⟨0,false,[],iv 16 0⟩,⟨0,false,[],iv 17 1⟩,⟨0,false,[],iv 18 10⟩,⟨0,false,[],ia 19 (.bin .add (.t 17) (.t 18))⟩,⟨0,true,[],iv 20 0⟩,⟨0,true,[],iv 21 2⟩,⟨0,true,[],iv 22 10⟩,⟨0,true,[],ia 23 (.bin .add (.t 21) (.t 22))⟩,⟨0,false,[],iv 24 0⟩,⟨0,false,[],iv 25 2⟩,⟨0,false,[],iv 26 10⟩,⟨0,false,[],ia 27 (.bin .add (.t 25) (.t 26))⟩,⟨0,false,[],xA 28 1 24 27⟩,⟨0,false,[],lA 29 28⟩,⟨0,false,[],iv 30 0⟩,⟨0,false,[],iv 31 1⟩,⟨0,false,[],iv 32 10⟩,⟨0,false,[],ia 33 (.bin .add (.t 31) (.t 32))⟩,⟨0,false,[],xA 34 1 30 33⟩,⟨0,false,[],lA 35 34⟩,⟨0,false,[],xA 36 1 16 19⟩,⟨2,false,[4,5,6,7],ie (.st1 (.t 36) (.t 29))⟩,⟨0,false,[],xA 37 1 20 23⟩,⟨2,false,[],ie (.st1 (.t 37) (.t 35))⟩])) (.reg [iv 14 10,pA 15 14 1,iv 10 15])))))
theorem yci : Has Try.prog yV 38 ya0 []:=⟨by decide,Try.f61,_,Try.func61,rfl,rfl,⟨none,by kernel_rfl⟩,by kernel_rfl⟩
def inRange (n a b : Int) : Bool:=decide (a ≤ n) && decide (n ≤ b)
theorem yZ (n a b : Int) : yR Try.prog yaa [.c (.i n),.c (.i a),.c (.i b)] (.c (.b (inRange n a b))):=by
 refine yF yjg (by simp) fun hwf=>?_
 simp -dsimp -implicitDefEqProofs [yfb,inRange]
 exact ⟨fun h=>by simp [h],fun h=>by simp [Int.not_le.2 h]⟩
theorem yag (n a b : Int) : yR Try.prog yac [.c (.i n),.c (.i a),.c (.i b)] (.c (.b (inRange n a b))):=by
 refine yF ykY (by simp) fun hwf=>?_
 simp -dsimp -implicitDefEqProofs [yhd,inRange]
 exact ⟨fun h=>by simp [h],fun h=>by simp [Int.not_le.2 h]⟩
structure Entry where
 From : Int
 To : Int
 Amount : Int
 Time : Int
 Why : Int
 deriving Inhabited,DecidableEq
@[simp] def Entry.enc (e : Entry) : List C:=[.i e.From,.i e.To,.i e.Amount,.i e.Time,.i e.Why]
theorem ydR {α : Type} {p : α → Bool} {l : List α} {k : Nat} {e : α} (he : l[k]? = some e) (h : ∀ x ∈ l.take k,p x = true) (hp : p e = true) : ∀ x ∈ l.take (k + 1),p x = true:=by
 intro x hx
 rw [List.take_succ_eq_append_getElem (List.getElem?_eq_some_iff.1 he).1] at hx
 rcases List.mem_append.1 hx with h1 | h1
 ·exact h x h1
 ·rw [List.mem_singleton] at h1
  have:=(List.getElem?_eq_some_iff.1 he).2
  rw [h1,this]; exact hp
theorem yeZ {α : Type} {p : α → Bool} {l : List α} {k : Nat} (hk : l.length ≤ k) (h : ∀ x ∈ l.take k,p x = true) : l.all p = true:=by
 rw [List.take_of_length_le hk] at h
 exact List.all_eq_true.2 h
theorem all_false {α : Type} {p : α → Bool} {l : List α} {k : Nat} {e : α} (he : l[k]? = some e) (hp : p e = false) : l.all p = false:=by
 rw [List.all_eq_false]
 exact ⟨e,List.mem_of_getElem? he,by simp [hp]⟩
theorem yaT {k n : Nat} (h : k < n) : ((k : Int) < (n : Int)) = True:=by simp [h]
theorem ycC {k n : Nat} (h : n ≤ k) : ((k : Int) < (n : Int)) = False:=by simp [h]
structure Way where
 Long : Int
 Bed : Int
 deriving DecidableEq,Inhabited
@[simp] def Way.enc (e : Way) : List C:=[.i e.Long,.i e.Bed]
def partly {α : Type} (f : α → List C) (z : List C) (es : List α) (k : Nat) : List (List C):=(es.take k).map f ++ List.replicate (es.length - k) z
theorem ygx {α : Type} {f : α → List C} {z : List C} {es : List α} {k : Nat} (h : k ≤ es.length) : (partly f z es k).length = es.length:=by
 simp [partly]; omega
theorem yfx {α : Type} {f : α → List C} {z : List C} {es : List α} : partly f z es 0 = List.replicate es.length z:=by simp [partly]
theorem ygr {α : Type} {f : α → List C} {z : List C} {es : List α} {k : Nat} (h : es.length ≤ k) : partly f z es k = es.map f:=by
 simp [partly,List.take_of_length_le h,Nat.sub_eq_zero_of_le h]
theorem ygu {α : Type} {f : α → List C} {z : List C} {es : List α} {k : Nat} {e : α} (h : es[k]? = some e) : (partly f z es k).set k (f e) = partly f z es (k + 1):=by
 have hk:=(List.getElem?_eq_some_iff.1 h).1
 have he:=(List.getElem?_eq_some_iff.1 h).2
 unfold partly
 rw [List.set_append_right _ _ (by simp; omega)]
 have h1 : ((es.take k).map f).length = k:=by simp; omega
 rw [h1,Nat.sub_self,show es.length - k = (es.length - (k + 1)) + 1 by omega,List.replicate_succ,List.set_cons_zero,List.take_succ_eq_append_getElem hk,he]
 simp
theorem ymU {α : Type} {f : α → List C} {z : List C} {es : List α} {k n : Nat} (hz : z.length = n) (hf : ∀ e,(f e).length = n) (h : k < es.length) : ((partly f z es k)[k]?.getD []).length = n:=by
 unfold partly
 rw [List.getElem?_append_right (by simp; omega)]
 have h1 : ((es.take k).map f).length = k:=by simp; omega
 rw [h1,Nat.sub_self,List.getElem?_replicate,if_pos (by omega)]
 exact hz
theorem yhR {α : Type} {f : α → List C} {z : List C} {es : List α} {k n : Nat} (hz : z.length = n) (h : k < es.length) : ((partly f z es k)[k]?.getD []).drop n = []:=by
 apply List.drop_eq_nil_of_le
 unfold partly
 rw [List.getElem?_append_right (by simp; omega)]
 have h1 : ((es.take k).map f).length = k:=by simp; omega
 rw [h1,Nat.sub_self,List.getElem?_replicate,if_pos (by omega)]
 simp [hz]
theorem yaf {k n : Nat} (hk : k < n) (h : n ≤ maxLen) : inI ((k : Int) + 1):=by unfold maxLen at h; unfold inI; omega
def szS (n : Nat) (left : Int) : Int:=if left - n < 0 then -1 else left - n
theorem yeD {α : Type} {l m : List α} {k : Nat} {e f : α} (he : l[k]? = some e) (hf : m[k]? = some f) (h : l.take k = m.take k) (hef : e = f) : l.take (k + 1) = m.take (k + 1):=by
 rw [List.take_succ,List.take_succ,he,hf,h,hef]
theorem yhw {α : Type} {l m : List α} {k : Nat} {e f : α} (he : l[k]? = some e) (hf : m[k]? = some f) (hef : e ≠ f) : l ≠ m:=by
 rintro rfl
 rw [he] at hf
 exact hef (Option.some.inj hf)
theorem ygp {α : Type} {l m : List α} {k : Nat} (hl : l.length ≤ k) (hm : l.length = m.length) (h : l.take k = m.take k) : l = m:=by
 rwa [List.take_of_length_le hl,List.take_of_length_le (by omega)] at h
abbrev yhe (n : Int) : List C:=[.i n]
structure Tariff where
 Base : Int
 PerArea : Int
 PerClass : List Int
 Weights : List Int
 deriving DecidableEq
@[simp] def Tariff.enc (t : Tariff) : List C:=[.i t.Base,.i t.PerArea,.sl 1 (t.PerClass.map yhe),.sl 1 (t.Weights.map yhe)]
def Tariff.small (t : Tariff) : Prop:=t.PerClass.length ≤ 1048576 ∧ t.Weights.length ≤ 1048576
theorem yab {n a b : Int} : inRange n a b = true ↔ a ≤ n ∧ n ≤ b:=by simp [inRange]
theorem ydC {n a b : Int} : inRange n a b = false ↔ n < a ∨ b < n:=by
 simp only [inRange,Bool.and_eq_false_iff,decide_eq_false_iff_not]; omega
def ygc (a : Int) (f : Int → Int) : Int:=if a < 0 then -1 else f a
def ybA {α : Type} (f : α → Int → Int) : List α → Int → Int
 | [],l=>l
 | x :: xs,l=>ygc (f x l) (ybA f xs)
def ymj {α : Type} (f : α → Int → Int) (xs : List α) (l : Int) : Int:=ygc (szS xs.length l) (ybA f xs)
def yj4 {α : Type} (f : α → Int → Int) (sm : α → Prop) : Prop:=∀ x l,0 ≤ l → l ≤ 1048576 → f x l = -1 ∨ (0 ≤ f x l ∧ f x l ≤ l ∧ sm x)
def ycP {α : Type} (sm : α → Prop) (xs : List α) : Prop:=xs.length ≤ 1048576 ∧ ∀ x ∈ xs,sm x
theorem ybV {a : Int} {f : Int → Int} (h : a < 0) : ygc a f = -1:=by simp [ygc,h]
theorem ybd {a : Int} {f : Int → Int} (h : 0 ≤ a) : ygc a f = f a:=by simp [ygc,Int.not_lt.2 h]
theorem ynN {α : Type} : yj4 (fun (xs : List α) l=>szS xs.length l) (ycP fun _ : α=>True):=by
 intro xs l h0 h1
 simp only [szS]
 unfold ycP
 split
 ·exact .inl rfl
 ·exact .inr ⟨by omega,by omega,by omega,fun _ _=>trivial⟩
theorem ypp {α : Type} {f : α → Int → Int} {sm : α → Prop} (h : yj4 f sm) {x : α} {l : Int} (h0 : 0 ≤ l) (h1 : l ≤ 1048576) (hp : 0 ≤ f x l) : sm x:=by
 rcases h x l h0 h1 with e | ⟨_,_,e⟩
 ·omega
 ·exact e
theorem yka {α : Type} {f : α → Int → Int} {sm : α → Prop} (h : yj4 f sm) : ∀ (xs : List α) (l : Int),0 ≤ l → l ≤ 1048576 → ybA f xs l = -1 ∨ (0 ≤ ybA f xs l ∧ ybA f xs l ≤ l ∧ ∀ x ∈ xs,sm x)
 | [],l,h0,h1=>.inr ⟨h0,Int.le_refl _,by simp⟩
 | x :: xs,l,h0,h1=>by
  simp only [ybA]
  rcases h x l h0 h1 with e | ⟨e1,e2,e3⟩
  ·exact .inl (ybV (by omega))
  ·rw [ybd e1]
   rcases yka h xs (f x l) e1 (by omega) with e | ⟨e4,e5,e6⟩
   ·exact .inl e
   ·exact .inr ⟨e4,by omega,by simp; exact ⟨e3,e6⟩⟩
theorem yn1 {α : Type} {f : α → Int → Int} {sm : α → Prop} (h : yj4 f sm) : yj4 (ymj f) (ycP sm):=by
 intro xs l h0 h1
 unfold ymj
 rcases ynN xs l h0 h1 with e | ⟨e1,e2,e3⟩
 ·exact .inl (ybV (by simp only at e; omega))
 ·simp only at e1 e2
  rw [ybd e1]
  rcases yka h xs _ e1 (by omega) with e | ⟨e4,e5,e6⟩
  ·exact .inl e
  ·exact .inr ⟨e4,by omega,e3.1,e6⟩
structure Boat where
 Id : Int
 Length : Int
 Width : Int
 Draught : Int
 Speed : Int
 Class : Int
 deriving DecidableEq,Inhabited
@[simp] def Boat.enc (e : Boat) : List C:=[.i e.Id,.i e.Length,.i e.Width,.i e.Draught,.i e.Speed,.i e.Class]
-- Boat
theorem yp3 (e : Boat) : yR Try.prog ydL [.agg (e.enc.map .c)] (.agg (e.enc.map .c)):=by
 refine yF yjZ (by simp) fun hwf=>?_
 simp -dsimp -implicitDefEqProofs [yf4]
theorem yqk (a b : Boat) : yR Try.prog ydK [.agg (a.enc.map .c),.agg (b.enc.map .c)] (.c (.b (decide (a = b)))):=by
 refine yF yjO (by simp) fun hwf=>?_
 obtain ⟨a0,a1,a2,a3,a4,a5⟩:=a
 obtain ⟨b0,b1,b2,b3,b4,b5⟩:=b
 simp -dsimp -implicitDefEqProofs [yf7,Boat.mk.injEq]
 refine ⟨fun h=>by simp_all,fun h0=>?_⟩
 refine ⟨fun h=>by simp_all,fun h1=>?_⟩
 refine ⟨fun h=>by simp_all,fun h2=>?_⟩
 refine ⟨fun h=>by simp_all,fun h3=>?_⟩
 refine ⟨fun h=>by simp_all,fun h4=>?_⟩
 refine ⟨fun h=>by simp_all,fun h5=>?_⟩
 simp_all
-- []Boat
def ycB (xs : List Boat) (l : Int) : Int:=szS xs.length l
def ye9 : List Boat → Prop:=ycP fun _=>True
theorem yh2 : yj4 ycB ye9:=ynN
theorem ym1 (xs : List Boat) (l : Int) (h0 : 0 ≤ l) (h1 : l ≤ 1048576) : yR Try.prog ydn [.c (.sl 6 (xs.map Boat.enc)),.c (.i l)] (.c (.i (ycB xs l))):=by
 refine yF yjo (by simp) fun hwf=>?_
 simp -dsimp -implicitDefEqProofs [yfD,ycB,szS]
 intro hl
 unfold maxLen at hl
 refine ⟨by unfold inI; omega,fun h=>?_,fun h=>?_⟩ <;> intros <;> omega
theorem yo3 (xs : List Boat) (hl : ye9 xs) : yR Try.prog yc7 [.c (.sl 6 (xs.map Boat.enc))] (.c (.sl 6 (xs.map Boat.enc))):=by
 refine yF yjr (by simp) fun hwf=>?_
 simp -dsimp -implicitDefEqProofs [yfF]
 intro hlen
 have hl1:=hl.1
 refine ⟨by omega,?_⟩
 refine yw (ι:=Nat) (fun k=>k ≤ xs.length) (fun k=>yaV [(0,.c (.sl 6 (xs.map Boat.enc))),(3,.own 7 6 xs.length),(4,.c (.i k))] [(7,.row 6 (partly Boat.enc [.i 0,.i 0,.i 0,.i 0,.i 0,.i 0] xs k))]) (fun k=>xs.length - k) 0 (by simp) (by apply yD <;> simp [AV.yc,AV.yJ,Obj.yc,yfx]) ?_
 rintro k hk
 rcases Nat.lt_or_ge k xs.length with hlt | hge
 ·obtain ⟨e,he⟩ : ∃ e,xs[k]? = some e:=⟨_,List.getElem?_eq_getElem hlt⟩
  have hs:=ygu (f:=Boat.enc) (z:=[.i 0,.i 0,.i 0,.i 0,.i 0,.i 0]) he
  have hd:=yhR (f:=Boat.enc) (z:=[.i 0,.i 0,.i 0,.i 0,.i 0,.i 0]) (n:=6) rfl hlt
  simp only [Boat.enc] at hs
  simp -dsimp -implicitDefEqProofs [he,yaT hlt]
  refine fun _=>yO (yp3 e ) (by simp) rfl ?_
  simp -dsimp -implicitDefEqProofs [yaT hlt,ygx hk,hd,hs]
  exact ⟨hlt,yaf hlt hlen,k + 1,hlt,by omega,by apply yD <;> simp [AV.yc,AV.yJ,Obj.yc]⟩
 ·simp -dsimp -implicitDefEqProofs [ycC hge]
  intro _
  rw [ygr hge,List.take_of_length_le (by simp)]
theorem yol (es fs : List Boat) : yR Try.prog ydf [.c (.sl 6 (es.map Boat.enc)),.c (.sl 6 (fs.map Boat.enc))] (.c (.b (decide (es = fs)))):=by
 refine yF yi9 (by simp) fun hwf=>?_
 simp -dsimp -implicitDefEqProofs [yfj]
 intro hl1 hl2
 refine ⟨fun h e=>h (by rw [e]),fun hlen=>?_⟩
 have hlen' : es.length = fs.length:=by omega
 refine yw (ι:=Nat) (fun k=>k ≤ es.length ∧ es.take k = fs.take k) (fun k=>yaV [(0,.c (.sl 6 (es.map Boat.enc))),(1,.c (.sl 6 (fs.map Boat.enc))),(5,.c (.i k))] []) (fun k=>es.length - k) 0 (by simp) (by apply yD <;> simp [AV.yc,AV.yJ,Obj.yc]) ?_
 rintro k ⟨hk,htk⟩
 rcases Nat.lt_or_ge k es.length with hlt | hge
 ·obtain ⟨e,he⟩ : ∃ e,es[k]? = some e:=⟨_,List.getElem?_eq_getElem hlt⟩
  obtain ⟨f,hf⟩ : ∃ f,fs[k]? = some f:=⟨_,List.getElem?_eq_getElem (by omega)⟩
  simp -dsimp -implicitDefEqProofs [he,hf,yaT hlt,yaT (hlen' ▸ hlt)]
  intro _
  refine ⟨_,_,yqk e f,by simp,.inr rfl,?_⟩
  simp -dsimp -implicitDefEqProofs
  refine ⟨fun h=>yhw he hf h,fun h=>⟨yaf hlt hl1,k + 1,⟨hlt,yeD he hf htk h⟩,by omega,by apply yD <;> simp [AV.yc,AV.yJ,Obj.yc]⟩⟩
 ·simp -dsimp -implicitDefEqProofs [ycC hge]
  intro _
  exact ygp hge hlen' htk
abbrev yX (xs : List Boat) : List C:=[.sl 6 (xs.map Boat.enc)]
-- [][]Boat
def ycj : List (List Boat) → Int → Int:=ymj ycB
def yey : List (List Boat) → Prop:=ycP ye9
theorem yls : yj4 ycj yey:=yn1 yh2
theorem ymA (xs : List (List Boat)) (l : Int) (h0 : 0 ≤ l) (h1 : l ≤ 1048576) : yR Try.prog ycQ [.c (.sl 1 (xs.map yX)),.c (.i l)] (.c (.i (ycj xs l))):=by
 refine yF yh8 (by simp) fun hwf=>?_
 simp -dsimp -implicitDefEqProofs [yeK]
 intro hl
 have hs : szS xs.length l = if l - xs.length < 0 then -1 else l - xs.length:=rfl
 refine ⟨by unfold maxLen at hl; unfold inI; omega,fun h=>?_,fun h=>?_⟩
 ·simp [ycj,ymj,ygc,hs,h]
 have h' : 0 ≤ l - xs.length:=by omega
 have e0 : ycj xs l = ybA ycB xs (l - xs.length):=by
  have : szS xs.length l = l - xs.length:=by rw [hs,if_neg (by omega)]
  simp only [ycj,ymj]
  rw [this,ybd h']
 refine yw (ι:=Nat × Int) (fun p=>p.1 ≤ xs.length ∧ 0 ≤ p.2 ∧ p.2 ≤ 1048576 ∧ ybA ycB (xs.drop p.1) p.2 = ycj xs l) (fun p=>yaV [(0,.c (.sl 1 (xs.map yX))),(1,.c (.i p.2)),(5,.c (.i p.1))] []) (fun p=>xs.length - p.1) (0,l - xs.length) ⟨by simp,h',by simp only; omega,by simp [e0]⟩ (by apply yD <;> simp [AV.yc,AV.yJ,Obj.yc]) ?_
 rintro ⟨k,q⟩ ⟨hk,hq0,hq1,hf⟩
 simp only at hk hq0 hq1 hf
 rcases Nat.lt_or_ge k xs.length with hlt | hge
 ·obtain ⟨e,he⟩ : ∃ e,xs[k]? = some e:=⟨_,List.getElem?_eq_getElem hlt⟩
  have hd : xs.drop k = e :: xs.drop (k + 1):=by
   rw [List.drop_eq_getElem_cons hlt,(List.getElem?_eq_some_iff.1 he).2]
  rw [hd,ybA] at hf
  simp -dsimp -implicitDefEqProofs [he,yaT hlt]
  refine fun _=>yg (ym1 e q hq0 hq1) (by simp) rfl ?_
  simp -dsimp -implicitDefEqProofs
  refine ⟨fun h=>by rw [← hf,ybV h],fun h=>⟨yaf hlt hl,k + 1,⟨ycB e q,?_⟩⟩⟩
  rw [ybd h] at hf
  have hle : ycB e q ≤ 1048576:=by
   rcases yh2 e q hq0 hq1 with e1 | e1
   ·omega
   ·omega
  exact ⟨⟨hlt,h,hle,hf⟩,by omega,by apply yD <;> simp [AV.yc,AV.yJ,Obj.yc]⟩
 ·simp -dsimp -implicitDefEqProofs [ycC hge]
  rw [List.drop_of_length_le hge] at hf
  intro _
  first | simpa [ybA] using hf | simpa [ybA] using hf.symm
theorem ymZ (xs : List (List Boat)) (hl : yey xs) : yR Try.prog ycJ [.c (.sl 1 (xs.map yX))] (.c (.sl 1 (xs.map yX))):=by
 refine yF yh7 (by simp) fun hwf=>?_
 simp -dsimp -implicitDefEqProofs [yeQ]
 intro hlen
 have hl1:=hl.1
 refine ⟨by omega,?_⟩
 refine yw (ι:=Nat) (fun k=>k ≤ xs.length) (fun k=>yaV [(0,.c (.sl 1 (xs.map yX))),(3,.own 7 1 xs.length),(4,.c (.i k))] [(7,.row 1 (partly yX [.sl 6 []] xs k))]) (fun k=>xs.length - k) 0 (by simp) (by apply yD <;> simp [AV.yc,AV.yJ,Obj.yc,yfx]) ?_
 rintro k hk
 rcases Nat.lt_or_ge k xs.length with hlt | hge
 ·obtain ⟨e,he⟩ : ∃ e,xs[k]? = some e:=⟨_,List.getElem?_eq_getElem hlt⟩
  have hs:=ygu (f:=yX) (z:=[.sl 6 []]) he
  have hd : ((partly yX [.sl 6 []] xs k)[k]?.getD []).set 0 (.sl 6 (e.map Boat.enc)) = [.sl 6 (e.map Boat.enc)]:=by
   have:=ymU (f:=yX) (z:=[.sl 6 []]) (n:=1) rfl (fun _=>rfl) hlt
   obtain ⟨x,hx⟩:=List.length_eq_one_iff.1 this
   rw [hx]; rfl
  have hs2 : (partly yX [.sl 6 []] xs k).set k [.sl 6 (e.map Boat.enc)] = partly yX [.sl 6 []] xs (k + 1):=hs
  simp -dsimp -implicitDefEqProofs [he,yaT hlt]
  refine fun _=>yO (yo3 e (hl.2 e (List.mem_of_getElem? he))) (by simp) rfl ?_
  simp -dsimp -implicitDefEqProofs [yaT hlt,ygx hk,hd,hs2]
  exact ⟨hlt,yaf hlt hlen,k + 1,hlt,by omega,by apply yD <;> simp [AV.yc,AV.yJ,Obj.yc]⟩
 ·simp -dsimp -implicitDefEqProofs [ycC hge]
  intro _
  rw [ygr hge,List.take_of_length_le (by simp)]
theorem ym4 (es fs : List (List Boat)) : yR Try.prog ycS [.c (.sl 1 (es.map yX)),.c (.sl 1 (fs.map yX))] (.c (.b (decide (es = fs)))):=by
 refine yF yif (by simp) fun hwf=>?_
 simp -dsimp -implicitDefEqProofs [yeO]
 intro hl1 hl2
 refine ⟨fun h e=>h (by rw [e]),fun hlen=>?_⟩
 have hlen' : es.length = fs.length:=by omega
 refine yw (ι:=Nat) (fun k=>k ≤ es.length ∧ es.take k = fs.take k) (fun k=>yaV [(0,.c (.sl 1 (es.map yX))),(1,.c (.sl 1 (fs.map yX))),(5,.c (.i k))] []) (fun k=>es.length - k) 0 (by simp) (by apply yD <;> simp [AV.yc,AV.yJ,Obj.yc]) ?_
 rintro k ⟨hk,htk⟩
 rcases Nat.lt_or_ge k es.length with hlt | hge
 ·obtain ⟨e,he⟩ : ∃ e,es[k]? = some e:=⟨_,List.getElem?_eq_getElem hlt⟩
  obtain ⟨f,hf⟩ : ∃ f,fs[k]? = some f:=⟨_,List.getElem?_eq_getElem (by omega)⟩
  simp -dsimp -implicitDefEqProofs [he,hf,yaT hlt,yaT (hlen' ▸ hlt)]
  intro _
  refine ⟨_,_,yol e f,by simp,.inr rfl,?_⟩
  simp -dsimp -implicitDefEqProofs
  refine ⟨fun h=>yhw he hf h,fun h=>⟨yaf hlt hl1,k + 1,⟨hlt,yeD he hf htk h⟩,by omega,by apply yD <;> simp [AV.yc,AV.yJ,Obj.yc]⟩⟩
 ·simp -dsimp -implicitDefEqProofs [ycC hge]
  intro _
  exact ygp hge hlen' htk
structure Train where
 Up : Bool
 Rows : List (List Boat)
 deriving DecidableEq,Inhabited
@[simp] def Train.enc (e : Train) : List C:=[.b e.Up,.sl 1 (e.Rows.map yX)]
-- Train
def yd2 (e : Train) (l : Int) : Int:=ygc (ycj e.Rows l) fun l=>l
def Train.small (e : Train) : Prop:=yey e.Rows
theorem ylA : yj4 yd2 Train.small:=by
 intro e l h0 h1
 unfold yd2
 rcases yls e.Rows _ h0 h1 with e0 | ⟨a0,b0,s0⟩
 ·exact .inl (ybV (by omega))
 rw [ybd a0]
 exact .inr ⟨a0,by omega,s0⟩
theorem yni (e : Train) (l : Int) (h0 : 0 ≤ l) (h1 : l ≤ 1048576) : yR Try.prog ydd [.agg (e.enc.map .c),.c (.i l)] (.c (.i (yd2 e l))):=by
 refine yF yip (by simp) fun hwf=>?_
 simp -dsimp -implicitDefEqProofs [yfc]
 refine yg (ymA e.Rows _ h0 h1) (by simp) rfl ?_
 simp -dsimp -implicitDefEqProofs
 refine ⟨fun h=>by simp [yd2,ybV h],fun p0=>?_⟩
 simp [yd2,ybd p0]
theorem yoV (e : Train) (hl : Train.small e) : yR Try.prog yc8 [.agg (e.enc.map .c)] (.agg (e.enc.map .c)):=by
 refine yF yjD (by simp) fun hwf=>?_
 simp -dsimp -implicitDefEqProofs [yfp]
 refine yO (ymZ e.Rows hl) (by simp) rfl ?_
 simp -dsimp -implicitDefEqProofs
theorem yoM (a b : Train) : yR Try.prog yc9 [.agg (a.enc.map .c),.agg (b.enc.map .c)] (.c (.b (decide (a = b)))):=by
 refine yF yiG (by simp) fun hwf=>?_
 obtain ⟨a0,a1⟩:=a
 obtain ⟨b0,b1⟩:=b
 simp -dsimp -implicitDefEqProofs [ye4,Train.mk.injEq]
 refine ⟨fun h=>by simp_all,fun h0=>?_⟩
 refine yg (ym4 a1 b1) (by simp) rfl ?_
 simp -dsimp -implicitDefEqProofs
 refine ⟨fun h=>by simp_all,fun h1=>?_⟩
 simp_all
structure Mover where
 Train : Train
 Place : Int
 deriving DecidableEq,Inhabited
@[simp] def Mover.enc (e : Mover) : List C:=[.b e.Train.Up,.sl 1 (e.Train.Rows.map yX),.i e.Place]
-- Mover
def Mover.small (e : Mover) : Prop:=e.Train.small
theorem ymc {α : Type} {B : Nat} : ∀ {l : List (List α)},(∀ r ∈ l,r.length ≤ B) → l.flatten.length ≤ l.length * B
 | [],_=>by simp
 | r :: l,h=>by
  have h1:=ymc (l:=l) fun x hx=>h x (by simp [hx])
  have h2:=h r (by simp)
  simp only [List.flatten_cons,List.length_append,List.length_cons,Nat.add_mul,Nat.one_mul]
  omega
def heads {α : Type} (l : List (List α)) (k : Nat) : List α:=(l.take k).flatten
theorem ycd {α : Type} {l : List (List α)} : heads l 0 = []:=rfl
theorem yee {α : Type} {l : List (List α)} {k : Nat} {r : List α} (h : l[k]? = some r) : heads l (k + 1) = heads l k ++ r:=by
 unfold heads; rw [List.take_succ,h]; simp
theorem yfU {α : Type} {l : List (List α)} {k : Nat} (h : l.length ≤ k) : heads l k = l.flatten:=by
 unfold heads; rw [List.take_of_length_le h]
theorem yfo {α : Type} {l : List (List α)} (h : ycP (ycP fun _ : α=>True) l) (k : Nat) : (heads l k).length ≤ 1099511627776:=by
 have h1:=ymc (l:=l.take k) (B:=1048576) fun r hr=>(h.2 r (List.mem_of_mem_take hr)).1
 have h2:=h.1
 have h3 : (l.take k).length ≤ 1048576:=by simp; omega
 have h4:=Nat.mul_le_mul_right 1048576 h3
 unfold heads
 omega
def Train.yB (t : Train) : List Boat:=t.Rows.flatten
theorem ypb {t : Train} (h : t.small) : t.yB.length ≤ 1099511627776:=by
 have:=yfo h t.Rows.length
 rwa [yfU (Nat.le_refl _)] at this
theorem ygE (t : Train) (h : t.small) : yR Try.prog ya8 [.agg (t.enc.map .c)] (.c (.sl 6 (t.yB.map Boat.enc))):=by
 refine yF yid (by simp) fun hwf=>?_
 simp -dsimp -implicitDefEqProofs [yeM]
 refine yw (ι:=Nat) (fun k=>k ≤ t.Rows.length) (fun k=>yaV [(1,.box 1 0),(3,.own 5 6 (heads t.Rows k).length),(4,.c (.i k))] [(1,.box (t.enc.map .c)),(5,.row 6 ((heads t.Rows k).map Boat.enc))]) (fun k=>t.Rows.length - k) 0 (by simp) (by apply yD <;> simp [AV.yc,AV.yJ,Obj.yc,ycd]) ?_
 rintro k hk
 rcases Nat.lt_or_ge k t.Rows.length with hlt | hge
 ·obtain ⟨r,hr⟩ : ∃ r,t.Rows[k]? = some r:=⟨_,List.getElem?_eq_getElem hlt⟩
  have hb:=yfo h (k + 1)
  have hf:=yee hr
  rw [hf,List.length_append] at hb
  have hm:=h.1
  simp -dsimp -implicitDefEqProofs [hr,yaT hlt]
  intro hlen
  refine ⟨by omega,yaf hlt hlen,k + 1,hlt,by omega,?_⟩
  apply yD <;> simp [AV.yc,AV.yJ,Obj.yc,hf]
 ·simp -dsimp -implicitDefEqProofs [ycC hge]
  rw [yfU hge]
  intro _
  rw [List.take_of_length_le (by rw [List.length_map]; exact Nat.le_refl _)]; rfl
def yas (b : Boat) : Bool:=inRange b.Id 1 9999 && inRange b.Length 1 200 && inRange b.Width 1 30 && inRange b.Draught 1 100 && inRange b.Speed 1 50 && inRange b.Class 0 2
theorem yl9 (b : Boat) : yR Try.prog ydU [.agg (b.enc.map .c)] (.c (.b (yas b))):=by
 refine yF yjR (by simp) fun hwf=>?_
 simp -dsimp -implicitDefEqProofs [ygf]
 refine yg (yag b.Id 1 9999) (by simp) rfl ?_
 simp -dsimp -implicitDefEqProofs
 refine ⟨fun h=>?_,fun h=>by simp [yas,h]⟩
 refine yg (yag b.Length 1 200) (by simp) rfl ?_
 simp -dsimp -implicitDefEqProofs
 refine ⟨fun h1=>?_,fun h1=>by simp [yas,h1]⟩
 refine yg (yag b.Width 1 30) (by simp) rfl ?_
 simp -dsimp -implicitDefEqProofs
 refine ⟨fun h2=>?_,fun h1=>by simp [yas,h1]⟩
 refine yg (yag b.Draught 1 100) (by simp) rfl ?_
 simp -dsimp -implicitDefEqProofs
 refine ⟨fun h3=>?_,fun h1=>by simp [yas,h1]⟩
 refine yg (yag b.Speed 1 50) (by simp) rfl ?_
 simp -dsimp -implicitDefEqProofs
 refine ⟨fun h4=>?_,fun h1=>by simp [yas,h1]⟩
 refine yg (yag b.Class 0 2) (by simp) rfl ?_
 simp -dsimp -implicitDefEqProofs
 simp [yas,h,h1,h2,h3,h4]
theorem ymz (b : Boat) : yR Try.prog ydO [.agg (b.enc.map .c)] (.c (.b (yas b))):=by
 refine yF yj7 (by simp) fun hwf=>?_
 simp -dsimp -implicitDefEqProofs [ygl]
 refine yg (yZ b.Id 1 9999) (by simp) rfl ?_
 simp -dsimp -implicitDefEqProofs
 refine ⟨fun h=>?_,fun h=>by simp [yas,h]⟩
 refine yg (yZ b.Length 1 200) (by simp) rfl ?_
 simp -dsimp -implicitDefEqProofs
 refine ⟨fun h1=>?_,fun h1=>by simp [yas,h1]⟩
 refine yg (yZ b.Width 1 30) (by simp) rfl ?_
 simp -dsimp -implicitDefEqProofs
 refine ⟨fun h2=>?_,fun h1=>by simp [yas,h1]⟩
 refine yg (yZ b.Draught 1 100) (by simp) rfl ?_
 simp -dsimp -implicitDefEqProofs
 refine ⟨fun h3=>?_,fun h1=>by simp [yas,h1]⟩
 refine yg (yZ b.Speed 1 50) (by simp) rfl ?_
 simp -dsimp -implicitDefEqProofs
 refine ⟨fun h4=>?_,fun h1=>by simp [yas,h1]⟩
 refine yg (yZ b.Class 0 2) (by simp) rfl ?_
 simp -dsimp -implicitDefEqProofs
 simp [yas,h,h1,h2,h3,h4]
def indexOf (l : List Int) (n : Int) : Int:=match l.findIdx? (fun x=>n == x) with | some i=>i | none=>-1
theorem yjI {l : List Int} {n : Int} : (0 ≤ indexOf l n) = (n ∈ l):=by
 unfold indexOf
 cases h : l.findIdx? (fun x=>n == x) with
 | none =>
  rw [List.findIdx?_eq_none_iff] at h
  show (0 ≤ (-1 : Int)) = _
  simp only [eq_iff_iff]
  refine ⟨fun h1=>by omega,fun hm=>?_⟩
  have:=h n hm
  simp at this
 | some i =>
  rw [List.findIdx?_eq_some_iff_getElem] at h
  obtain ⟨hi,h1,_⟩:=h
  simp only [eq_iff_iff]
  refine ⟨fun _=>?_,fun _=>by omega⟩
  have : n = l[i]:=by simpa using h1
  rw [this]; exact List.getElem_mem _
theorem ymM {l : List Int} {n : Int} {k : Nat} (h : l[k]? = some n) (hn : ∀ x ∈ l.take k,n ≠ x) : indexOf l n = k:=by
 unfold indexOf
 have : l.findIdx? (fun x=>n == x) = some k:=by
  rw [List.findIdx?_eq_some_iff_getElem]
  obtain ⟨hk1,hk2⟩:=List.getElem?_eq_some_iff.1 h
  refine ⟨hk1,by simp [hk2],fun j hj=>?_⟩
  have:=hn (l[j]'(by omega)) (List.mem_take_iff_getElem.2 ⟨j,by omega,rfl⟩)
  simpa using this
 rw [this]
theorem ynm {l : List Int} {n : Int} {k : Nat} (hk : l.length ≤ k) (hn : ∀ x ∈ l.take k,n ≠ x) : indexOf l n = -1:=by
 rw [List.take_of_length_le hk] at hn
 unfold indexOf
 have : l.findIdx? (fun x=>n == x) = none:=by
  rw [List.findIdx?_eq_none_iff]
  intro x hx
  simpa using hn x hx
 rw [this]
theorem ypT {l : List Int} {n x : Int} {k : Nat} (h : l[k]? = some x) (hx : n ≠ x) (hn : ∀ x ∈ l.take k,n ≠ x) : ∀ x ∈ l.take (k + 1),n ≠ x:=by
 intro y hy
 rw [List.take_succ,h] at hy
 rcases List.mem_append.1 hy with h1 | h1
 ·exact hn y h1
 ·simp at h1; rw [h1]; exact hx
theorem yrC (l : List Int) (n : Int) : yR Try.prog yaN [.c (.sl 1 (l.map yhe)),.c (.i n)] (.c (.i (indexOf l n))):=by
 refine yF ydu (by simp) fun hwf=>?_
 simp -dsimp -implicitDefEqProofs [ybw]
 intro hlen
 refine yw (ι:=Nat) (fun k=>k ≤ l.length ∧ ∀ x ∈ l.take k,n ≠ x) (fun k=>yaV [(0,.c (.sl 1 (l.map yhe))),(1,.c (.i n)),(7,.c (.i l.length)),(8,.c (.i k))] []) (fun k=>l.length - k) 0 (by simp) (by apply yD <;> simp [AV.yc,AV.yJ,Obj.yc]) ?_
 rintro k ⟨hk,hn⟩
 rcases Nat.lt_or_ge k l.length with hlt | hge
 ·obtain ⟨x,hx⟩ : ∃ x,l[k]? = some x:=⟨_,List.getElem?_eq_getElem hlt⟩
  simp -dsimp -implicitDefEqProofs [hx,yaT hlt]
  refine ⟨fun h=>?_,fun h=>⟨yaf hlt hlen,k + 1,⟨hlt,ypT hx h hn⟩,by omega,by apply yD <;> simp [AV.yc,AV.yJ,Obj.yc]⟩⟩
  exact ymM (h ▸ hx) hn
 ·simp -dsimp -implicitDefEqProofs [ycC hge]
  exact ynm hge hn
theorem ynj (l : List Int) (n : Int) : yR Try.prog yaC [.c (.sl 1 (l.map yhe)),.c (.i n)] (.c (.b (decide (n ∈ l)))):=by
 refine yF ycU (by simp) fun hwf=>?_
 simp -dsimp -implicitDefEqProofs [ya9]
 refine yg (yrC l n) (by simp) rfl ?_
 simp -dsimp -implicitDefEqProofs [yjI]
def ycH (b : Boat) : Int:=b.Id
def full (r : List Boat) : Bool:=decide (r.length ≠ 0)
theorem yjH {r : List Boat} : full r = true ↔ r.length ≠ 0:=by simp [full]
def yM (t : Train) : Bool:=t.Rows.all full && t.yB.all yas && decide ((t.yB.map ycH).Nodup) && inRange t.yB.length 1 6
theorem ygJ {l : List Boat} {k : Nat} {b : Boat} (h : l[k]? = some b) : (((l.take (k + 1)).map ycH).Nodup ↔ ((l.take k).map ycH).Nodup ∧ b.Id ∉ (l.take k).map ycH):=by
 rw [List.take_succ,h,List.map_append]
 simp only [Option.toList_some,List.map_cons,List.map_nil,List.nodup_append,List.nodup_cons,List.not_mem_nil,not_false_eq_true,List.nodup_nil,and_self,true_and,List.mem_singleton,forall_eq,ycH]
 constructor
 ·rintro ⟨h1,h2⟩; exact ⟨h1,fun hm=>h2 _ hm rfl⟩
 ·rintro ⟨h1,h2⟩; exact ⟨h1,fun x hx e=>h2 (e ▸ hx)⟩
theorem yoF {l : List Boat} {k : Nat} (h : ¬ ((l.take k).map ycH).Nodup) : ¬ (l.map ycH).Nodup:=by
 intro hn
 refine h ?_
 rw [← List.take_append_drop k l,List.map_append] at hn
 exact (List.nodup_append.1 hn).1
def yko (l : List Boat) (k : Nat) : List Int:=(l.take k).map ycH
theorem yeh (t : Train) (h : t.small) : yR Try.prog ybm [.agg (t.enc.map .c)] (.c (.b (yM t))):=by
 refine yF yiK (by simp) fun hwf=>?_
 simp -dsimp -implicitDefEqProofs [yfA]
 refine yO (ygE t h) (by simp) rfl ?_
 simp -dsimp -implicitDefEqProofs
 refine yw (ι:=Nat) (fun k=>k ≤ t.Rows.length ∧ ∀ r ∈ t.Rows.take k,full r = true) (fun k=>yaV [(1,.box 1 0),(3,.c (.sl 6 (t.yB.map Boat.enc))),(4,.c (.i k))] [(1,.box (t.enc.map .c))]) (fun k=>t.Rows.length - k) 0 (by simp) (by apply yD <;> simp [AV.yc,AV.yJ,Obj.yc]) ?_
 rintro k ⟨hk,hall⟩
 rcases Nat.lt_or_ge k t.Rows.length with hlt | hge
 ·obtain ⟨r,hr⟩ : ∃ r,t.Rows[k]? = some r:=⟨_,List.getElem?_eq_getElem hlt⟩
  simp -dsimp -implicitDefEqProofs [hr,yaT hlt]
  intro hlen _
  refine ⟨fun h0=>?_,fun h0=>?_⟩
  ·have : t.Rows.all full = false:=all_false (p:=full) hr (by simp [full,h0])
   simp only [yM,this,Bool.false_and]
  ·exact ⟨yaf hlt hlen,k + 1,⟨by omega,ydR (p:=full) hr hall (by simp [full,h0])⟩,by omega,by apply yD <;> simp [AV.yc,AV.yJ,Obj.yc]⟩
 ·have hrows:=yeZ (p:=full) hge hall
  simp -dsimp -implicitDefEqProofs [ycC hge]
  intro _
  have hbl:=ypb h
  refine yw (ι:=Nat) (fun k=>k ≤ t.yB.length ∧ (∀ b ∈ t.yB.take k,yas b = true) ∧ (yko t.yB k).Nodup) (fun k=>yaV [(3,.c (.sl 6 (t.yB.map Boat.enc))),(5,.c (.i k))] []) (fun k=>t.yB.length - k) 0 (by simp [yko]) (by apply yD <;> simp [AV.yc,AV.yJ,Obj.yc]) ?_
  rintro k ⟨hk,hok,hnd⟩
  have fin : t.yB.length ≤ 6 → k = t.yB.length → yM t = inRange t.yB.length 1 6:=by
   intro h6 e
   have h1:=yeZ (p:=yas) (by omega) hok
   rw [e,yko,List.take_length] at hnd
   simp [yM,hrows,h1,hnd]
  rcases Nat.lt_or_ge k t.yB.length with hlt | hge
  ·obtain ⟨b,hb⟩ : ∃ b,t.yB[k]? = some b:=⟨_,List.getElem?_eq_getElem hlt⟩
   by_cases h6 : t.yB.length ≤ 6
   ·have h6' : ((t.yB.length : Int) ≤ 6) = True:=by simp; omega
    simp -dsimp -implicitDefEqProofs [hb,yaT hlt,h6']
    intro hlen
    refine yg (yl9 b) (by simp) rfl ?_
    simp -dsimp -implicitDefEqProofs
    refine ⟨fun h1=>?_,fun h1=>?_⟩
    ·have : t.yB.all yas = false:=all_false (p:=yas) hb h1
     simp only [yM,this,Bool.false_and,Bool.and_false]
    have hok':=ydR (p:=yas) hb hok h1
    refine yw (ι:=Nat) (fun i=>i ≤ k ∧ b.Id ∉ yko t.yB i) (fun i=>yaV [(3,.c (.sl 6 (t.yB.map Boat.enc))),(5,.c (.i k)),(6,.c (.i i))] []) (fun i=>k - i) 0 (by simp [yko]) (by apply yD <;> simp [AV.yc,AV.yJ,Obj.yc]) ?_
    rintro i ⟨hi,hni⟩
    rcases Nat.lt_or_ge i k with hlt2 | hge2
    ·obtain ⟨c,hc⟩ : ∃ c,t.yB[i]? = some c:=⟨_,List.getElem?_eq_getElem (by omega)⟩
     have hi3 : (i : Int) < t.yB.length:=by omega
     simp -dsimp -implicitDefEqProofs [hb,hc,yaT hlt,yaT hlt2,hi3]
     refine ⟨fun h2=>?_,fun h2=>?_⟩
     ·have : ¬ (t.yB.map ycH).Nodup:=by
       refine yoF (k:=k + 1) fun hn=>?_
       refine ((ygJ hb).1 hn).2 ?_
       rw [← h2]
       exact List.mem_map.2 ⟨c,List.mem_iff_getElem?.2 ⟨i,by rw [List.getElem?_take,if_pos hlt2]; exact hc⟩,rfl⟩
      simp [yM,this]
     ·refine ⟨by unfold inI; omega,i + 1,⟨hlt2,?_⟩,by omega,by apply yD <;> simp [AV.yc,AV.yJ,Obj.yc]⟩
      rw [yko,List.take_succ,hc,List.map_append]
      simp only [List.mem_append,Option.toList_some,List.map_cons,List.map_nil,List.mem_singleton,ycH]
      rintro (h3 | h3)
      ·exact hni h3
      ·exact h2 h3.symm
    ·simp -dsimp -implicitDefEqProofs [ycC hge2]
     have e : i = k:=by omega
     rw [e] at hni
     exact ⟨by unfold inI; omega,k + 1,⟨hlt,hok',(ygJ hb).2 ⟨hnd,hni⟩⟩,by omega,by apply yD <;> simp [AV.yc,AV.yJ,Obj.yc]⟩
   ·have h6' : ((t.yB.length : Int) ≤ 6) = False:=by simp; omega
    simp -dsimp -implicitDefEqProofs [hb,yaT hlt,h6']
    intro hlen
    refine yg (yag t.yB.length 1 6) (by simp) rfl ?_
    simp -dsimp -implicitDefEqProofs
    have h7 : inRange t.yB.length 1 6 = false:=ydC.2 (by omega)
    simp only [yM,h7,Bool.and_false]
  ·simp -dsimp -implicitDefEqProofs [ycC hge]
   intro hlen
   refine yg (yag t.yB.length 1 6) (by simp) rfl ?_
   simp -dsimp -implicitDefEqProofs
   by_cases h6 : t.yB.length ≤ 6
   ·rw [fin h6 (by omega)]
   ·have h7 : inRange t.yB.length 1 6 = false:=ydC.2 (by omega)
    simp only [yM,h7,Bool.and_false]
theorem ylJ {t : Train} {k : Nat} {r : List Boat} (h : t.Rows[k]? = some r) : ∃ m,t.yB = heads t.Rows k ++ r ++ m:=by
 refine ⟨(t.Rows.drop (k + 1)).flatten,?_⟩
 unfold Train.yB
 conv=>lhs; rw [← List.take_append_drop (k + 1) t.Rows]
 rw [List.flatten_append,← yee h]; rfl
theorem yq8 {t : Train} {k : Nat} {r : List Boat} (h : t.Rows[k]? = some r) (h0 : r.length = 0) : yM t = false:=by
 have : t.Rows.all full = false:=all_false (p:=full) h (by simp [full,h0])
 simp only [yM,this,Bool.false_and]
theorem ytA {t : Train} (h : 6 < t.yB.length) : yM t = false:=by
 have h7 : inRange t.yB.length 1 6 = false:=ydC.2 (by omega)
 simp only [yM,h7,Bool.and_false]
theorem yrf {t : Train} {b : Boat} (hb : b ∈ t.yB) (h : yas b = false) : yM t = false:=by
 obtain ⟨i,hi⟩:=List.getElem?_of_mem hb
 have : t.yB.all yas = false:=all_false (p:=yas) hi h
 simp only [yM,this,Bool.false_and,Bool.and_false]
theorem yuD {t : Train} (h : ¬ (t.yB.map ycH).Nodup) : yM t = false:=by simp [yM,h]
def ycI (l : List Boat) : List (List C):=(l.map ycH).map yhe ++ List.replicate (6 - l.length) [.i 0]
theorem yp9 {l : List Boat} (h : l.length ≤ 6) : (ycI l).length = 6:=by simp [ycI]; omega
theorem yoE {l : List Boat} {n : Nat} (h : n = l.length) : (ycI l).take n = (l.map ycH).map yhe:=by
 subst h; unfold ycI; rw [List.take_append_of_le_length (by simp),List.take_of_length_le (by simp)]
theorem yp6 {l : List Boat} {b : Boat} (h : l.length < 6) : (ycI l).set l.length [.i b.Id] = ycI (l ++ [b]):=by
 unfold ycI
 rw [List.set_append_right _ _ (by simp)]
 have h1 : ((l.map ycH).map yhe).length = l.length:=by simp
 rw [h1,Nat.sub_self,show 6 - l.length = (6 - (l.length + 1)) + 1 by omega,List.replicate_succ,List.set_cons_zero]
 simp [ycH]
theorem yph {l : List Boat} (h : l.length < 6) : (ycI l)[l.length]?.getD [] = [.i 0]:=by
 unfold ycI
 rw [List.getElem?_append_right (by simp)]
 have h1 : ((l.map ycH).map yhe).length = l.length:=by simp
 rw [h1,Nat.sub_self,List.getElem?_replicate,if_pos (by omega)]; rfl
theorem yqF : ycI [] = List.replicate 6 [.i 0]:=rfl
structure Met (l : List Boat) : Prop where
 ok : ∀ b ∈ l,yas b = true
 nd : (l.map ycH).Nodup
 len : l.length ≤ 6
theorem Met.snoc {l : List Boat} {b : Boat} (h : Met l) (h1 : yas b = true) (h2 : b.Id ∉ l.map ycH) (h3 : l.length < 6) : Met (l ++ [b]):=by
 refine ⟨?_,?_,by simp; omega⟩
 ·intro x hx
  rcases List.mem_append.1 hx with hx | hx
  ·exact h.ok x hx
  ·rw [List.mem_singleton.1 hx]; exact h1
 ·have:=@ygJ (l ++ [b]) l.length b (by simp)
  rw [show l.length + 1 = (l ++ [b]).length by simp,List.take_length] at this
  rw [this,List.take_left']
  ·exact ⟨h.nd,h2⟩
  ·rfl
def ycw (t : Train) (k : Nat) (r : List Boat) (j : Nat) : List Boat:=heads t.Rows k ++ r.take j
theorem yjw {t : Train} {k : Nat} {r : List Boat} : ycw t k r 0 = heads t.Rows k:=by simp [ycw]
theorem ym3 {t : Train} {k : Nat} {r : List Boat} {j : Nat} {b : Boat} (h : r[j]? = some b) : ycw t k r (j + 1) = ycw t k r j ++ [b]:=by
 unfold ycw; rw [List.take_succ,h]; simp
theorem yks {t : Train} {k : Nat} {r : List Boat} {j : Nat} (hr : t.Rows[k]? = some r) (h : r.length ≤ j) : ycw t k r j = heads t.Rows (k + 1):=by
 unfold ycw; rw [List.take_of_length_le h,yee hr]
theorem yow {t : Train} {k : Nat} {r : List Boat} {j : Nat} (h : j ≤ r.length) : (ycw t k r j).length = (heads t.Rows k).length + j:=by
 unfold ycw; simp; omega
theorem yeA (t : Train) (h : t.small) : yR Try.prog ybk [.agg (t.enc.map .c)] (.c (.b (yM t))):=by
 refine yF yiJ (by simp) fun hwf=>?_
 simp -dsimp -implicitDefEqProofs [yfv]
 intro hlen
 refine ⟨fun h0 _=>⟨fun h1=>?_,fun h1 _=>?_⟩,fun h0=>?_⟩
 ·by_cases h2 : yM t = false
  ·exact h2
  ·exfalso
   have h3 : yM t = true:=by simpa using h2
   simp only [yM,Bool.and_eq_true,List.all_eq_true] at h3
   obtain ⟨⟨⟨h4,_⟩,_⟩,h5⟩:=h3
   have h6:=yab.1 h5
   have : ∀ l : List (List Boat),(∀ r ∈ l,full r = true) → l.length ≤ l.flatten.length:=by
    intro l
    induction l with
    | nil=>simp
    | cons r l ih =>
     intro hl
     have e1:=ih fun x hx=>hl x (by simp [hx])
     have e2:=yjH.1 (hl r (by simp))
     simp only [List.length_cons,List.flatten_cons,List.length_append]; omega
   have:=this t.Rows h4
   unfold Train.yB at h6
   omega
 ·refine yw (ι:=Nat) (fun k=>k ≤ t.Rows.length ∧ (∀ r ∈ t.Rows.take k,full r = true) ∧ Met (heads t.Rows k)) (fun k=>yaV [(3,.row 3 1 0 0),(4,.c (.i (heads t.Rows k).length)),(20,.c (.sl 1 (t.Rows.map yX))),(21,.c (.i t.Rows.length)),(22,.c (.i k))] [(3,.row 1 (ycI (heads t.Rows k)))]) (fun k=>t.Rows.length - k) 0 ⟨by simp,by simp,by simp [ycd],by simp [ycd],by simp [ycd]⟩ (by apply yD <;> simp [AV.yc,AV.yJ,Obj.yc,ycd,yqF]) ?_
  rintro k ⟨hk,hall,hm⟩
  rcases Nat.lt_or_ge k t.Rows.length with hlt | hge
  ·obtain ⟨r,hr⟩ : ∃ r,t.Rows[k]? = some r:=⟨_,List.getElem?_eq_getElem hlt⟩
   have hml:=hm.len
   have hrs:=(h.2 r (List.mem_of_getElem? hr)).1
   obtain ⟨rest,hsp⟩:=ylJ hr
   simp -dsimp -implicitDefEqProofs [hr,yaT hlt]
   intro hrl
   refine ⟨fun hr0 _=>⟨by unfold inI; omega,fun h6=>?_,fun h6 _=>?_⟩,fun hr0=>?_⟩
   ·refine ytA ?_
    rw [hsp]; simp only [List.length_append]; omega
   ·refine yw (ι:=Nat) (fun j=>j ≤ r.length ∧ Met (ycw t k r j)) (fun j=>yaV [(3,.row 3 1 0 0),(4,.c (.i (ycw t k r j).length)),(20,.c (.sl 1 (t.Rows.map yX))),(21,.c (.i t.Rows.length)),(22,.c (.i k)),(36,.c (.sl 6 (r.map Boat.enc))),(37,.c (.i r.length)),(38,.c (.i j))] [(3,.row 1 (ycI (ycw t k r j)))]) (fun j=>r.length - j) 0 ⟨by simp,by rw [yjw]; exact hm⟩ (by apply yD <;> simp [AV.yc,AV.yJ,Obj.yc,yjw]) ?_
    rintro j ⟨hj,hmj⟩
    rcases Nat.lt_or_ge j r.length with hlt2 | hge2
    ·obtain ⟨b,hb⟩ : ∃ b,r[j]? = some b:=⟨_,List.getElem?_eq_getElem hlt2⟩
     have hsl:=yow (t:=t) (k:=k) hj
     have hlt6 : (ycw t k r j).length < 6:=by omega
     have hmem : b ∈ t.yB:=by
      rw [hsp]; simp only [List.mem_append]; exact .inl (.inr (List.mem_of_getElem? hb))
     simp -dsimp -implicitDefEqProofs [hb,yaT hlt2]
     refine ⟨_,_,ymz b,by simp,.inr rfl,?_⟩
     simp -dsimp -implicitDefEqProofs
     refine ⟨fun h2=>?_,fun h2=>yrf hmem h2⟩
     have hsn:=yp9 hmj.len
     refine ⟨by omega,hsn,?_⟩
     refine ⟨_,_,ynj ((ycw t k r j).map ycH) b.Id,by simp [yoE],.inr rfl,?_⟩
     simp -dsimp -implicitDefEqProofs [yaT hlt2,yph hlt6,yp6 hlt6]
     refine ⟨fun x hx he=>yuD fun hn=>?_,fun h3=>?_⟩
     ·have hsp2 : t.yB = ycw t k r j ++ (b :: (r.drop (j + 1) ++ rest)):=by
       rw [hsp]; unfold ycw
       have : r = r.take j ++ b :: r.drop (j + 1):=by
        conv=>lhs; rw [← List.take_append_drop j r]
        rw [List.drop_eq_getElem_cons hlt2,(List.getElem?_eq_some_iff.1 hb).2]
       conv=>lhs; rw [this]
       simp
      rw [hsp2,List.map_append,List.map_cons] at hn
      exact (List.nodup_append.1 hn).2.2 _ (List.mem_map_of_mem hx) _ (List.mem_cons_self) he
     ·have hni : b.Id ∉ (ycw t k r j).map ycH:=by
       intro hm'
       obtain ⟨x,hx,he⟩:=List.mem_map.1 hm'
       exact h3 x hx he
      have hs1:=ym3 (t:=t) (k:=k) hb
      refine ⟨by omega,by omega,by unfold inI; omega,by unfold inI; omega,j + 1,⟨hlt2,by rw [hs1]; exact hmj.snoc h2 hni hlt6⟩,by omega,?_⟩
      apply yD <;> simp [AV.yc,AV.yJ,Obj.yc,hs1]
    ·simp -dsimp -implicitDefEqProofs [ycC hge2]
     rw [yks hr hge2] at hmj
     refine ⟨by unfold inI; omega,k + 1,⟨hlt,ydR (p:=full) hr hall (by simp [full,hr0]),hmj⟩,by omega,?_⟩
     apply yD <;> simp [AV.yc,AV.yJ,Obj.yc,yks hr hge2]
   ·exact yq8 hr (by simp [hr0])
  ·simp -dsimp -implicitDefEqProofs [ycC hge]
   rw [yfU hge] at hm
   have hr1:=yeZ (p:=full) hge hall
   have hb1 : t.yB.all yas = true:=List.all_eq_true.2 hm.ok
   have hl1 : 0 < t.yB.length:=by
    obtain ⟨r,l,e⟩:=List.exists_cons_of_ne_nil h0
    have:=yjH.1 (List.all_eq_true.1 hr1 r (by rw [e]; simp))
    unfold Train.yB
    rw [e]; simp only [List.flatten_cons,List.length_append]; omega
   have hl2 : t.yB.length ≤ 6:=hm.len
   have h7 : inRange t.yB.length 1 6 = true:=yab.2 (by omega)
   have hn1 : (t.yB.map ycH).Nodup:=hm.nd
   simp [yM,hr1,hb1,hn1,h7]
 ·have : t.yB = []:=by simp [Train.yB,h0]
  have h7 : inRange t.yB.length 1 6 = false:=by rw [this]; rfl
  simp only [yM,h7,Bool.and_false]
def minOf (f : Boat → Int) (l : List Boat) (z : Int) : Int:=l.foldl (fun m b=>if f b < m then f b else m) z
def yg7 (f : Boat → Int) (l : List Boat) (z : Int) (k : Nat) : Int:=minOf f (l.take k) z
theorem yiV {f : Boat → Int} {l : List Boat} {z : Int} : yg7 f l z 0 = z:=rfl
theorem yiu {f : Boat → Int} {l : List Boat} {z : Int} {k : Nat} {b : Boat} (h : l[k]? = some b) : yg7 f l z (k + 1) = if f b < yg7 f l z k then f b else yg7 f l z k:=by
 unfold yg7 minOf; rw [List.take_succ,h,List.foldl_append]; rfl
theorem ykr {f : Boat → Int} {l : List Boat} {z : Int} {k : Nat} (h : l.length ≤ k) : yg7 f l z k = minOf f l z:=by
 unfold yg7; rw [List.take_of_length_le h]
theorem ylF {f : Boat → Int} {a b : Int} : ∀ {l : List Boat} {z : Int},(∀ x ∈ l,a ≤ f x ∧ f x ≤ b) → a ≤ z → z ≤ b → a ≤ minOf f l z ∧ minOf f l z ≤ b
 | [],z,_,h1,h2=>⟨h1,h2⟩
 | x :: l,z,h,h1,h2=>by
  have:=h x (by simp)
  unfold minOf
  rw [List.foldl_cons]
  refine ylF (l:=l) (fun y hy=>h y (by simp [hy])) ?_ ?_ <;> split <;> omega
structure TrainFacts (t : Train) : Prop where
 rows : ∀ r ∈ t.Rows,full r = true
 ok : ∀ b ∈ t.yB,yas b = true
 nd : (t.yB.map ycH).Nodup
 pos : 1 ≤ t.yB.length
 len : t.yB.length ≤ 6
theorem ych {t : Train} (h : yM t = true) : TrainFacts t:=by
 simp only [yM,Bool.and_eq_true,List.all_eq_true,decide_eq_true_eq] at h
 obtain ⟨⟨⟨h1,h2⟩,h3⟩,h4⟩:=h
 have h5:=yab.1 h4
 exact ⟨h1,h2,h3,by omega,by omega⟩
theorem ykB {b : Boat} (h : yas b = true) : (1 ≤ b.Id ∧ b.Id ≤ 9999) ∧ (1 ≤ b.Length ∧ b.Length ≤ 200) ∧ (1 ≤ b.Width ∧ b.Width ≤ 30) ∧ (1 ≤ b.Draught ∧ b.Draught ≤ 100) ∧ (1 ≤ b.Speed ∧ b.Speed ≤ 50) ∧ (0 ≤ b.Class ∧ b.Class ≤ 2):=by
 simp only [yas,Bool.and_eq_true] at h
 obtain ⟨⟨⟨⟨⟨h1,h2⟩,h3⟩,h4⟩,h5⟩,h6⟩:=h
 exact ⟨yab.1 h1,yab.1 h2,yab.1 h3,yab.1 h4,yab.1 h5,yab.1 h6⟩
theorem ykl (t : Train) (h : t.small) : yR Try.prog yb3 [.agg (t.enc.map .c)] (.c (.sl 6 (t.yB.map Boat.enc))):=by
 refine yF yiv (by simp) fun hwf=>?_
 simp -dsimp -implicitDefEqProofs [ye0]
 intro hlen
 refine yhz (k0:=6) 3 6 (by simp) (by simp) (by decide) ?_
 refine yw (ι:=Nat) (fun k=>k ≤ t.Rows.length) (fun k=>yaV [(3,.own 3 6 (heads t.Rows k).length),(7,.c (.sl 1 (t.Rows.map yX))),(8,.c (.i t.Rows.length)),(9,.c (.i k))] [(3,.row 6 ((heads t.Rows k).map Boat.enc))]) (fun k=>t.Rows.length - k) 0 (by simp) (by apply yD <;> simp [AV.yc,AV.yJ,Obj.yc,ycd]) ?_
 rintro k hk
 rcases Nat.lt_or_ge k t.Rows.length with hlt | hge
 ·obtain ⟨r,hr⟩ : ∃ r,t.Rows[k]? = some r:=⟨_,List.getElem?_eq_getElem hlt⟩
  have hb:=yfo h (k + 1)
  have hf:=yee hr
  rw [hf,List.length_append] at hb
  simp -dsimp -implicitDefEqProofs [hr,yaT hlt]
  refine ⟨by omega,yaf hlt hlen,k + 1,hlt,by omega,?_⟩
  apply yD <;> simp [AV.yc,AV.yJ,Obj.yc,hf]
 ·simp -dsimp -implicitDefEqProofs [ycC hge]
  rw [yfU hge]
  rw [List.take_of_length_le (by rw [List.length_map]; exact Nat.le_refl _)]; rfl
def ynC (f : Boat → Int) (l : List Boat) : Int:=match l with | b :: _=>f b | []=>0
theorem yrL {l : List Boat} {b : Boat} (h : l[0]? = some b) (f : Boat → Int) : ynC f l = f b:=by
 cases l with
 | nil=>simp at h
 | cons x l=>simp at h; rw [h]; rfl
theorem yhy {t : Train} (h : TrainFacts t) : ∃ r b,t.Rows[0]? = some r ∧ r[0]? = some b ∧ t.yB[0]? = some b:=by
 have h1:=h.pos
 cases hr : t.Rows with
 | nil=>unfold Train.yB at h1; rw [hr] at h1; simp at h1
 | cons r l =>
  have h2:=yjH.1 (h.rows r (by rw [hr]; simp))
  cases r with
  | nil=>simp at h2
  | cons b r=>exact ⟨b :: r,b,rfl,rfl,by unfold Train.yB; rw [hr]; rfl⟩
def ynd : List Int → Prop:=ycP fun _=>True
structure Point where
 X : Int
 Y : Int
 deriving DecidableEq,Inhabited
@[simp] def Point.enc (e : Point) : List C:=[.i e.X,.i e.Y]
-- Point
def ykR : List Point → Prop:=ycP fun _=>True
structure Reach where
 Table : List Point
 Volume : Int
 Pipe : List Int
 deriving DecidableEq,Inhabited
@[simp] def Reach.enc (e : Reach) : List C:=[.sl 2 (e.Table.map Point.enc),.i e.Volume,.sl 1 (e.Pipe.map yhe)]
-- Reach
def Reach.small (e : Reach) : Prop:=ykR e.Table ∧ ynd e.Pipe
def yaS (t : Train) : Int:=if yM t then minOf Boat.Class t.yB (ynC Boat.Class t.yB) else -1
theorem ymI {t : Train} (h : yM t = true) : 0 ≤ yaS t ∧ yaS t ≤ 2:=by
 unfold yaS
 rw [if_pos h]
 have hf:=ych h
 obtain ⟨r,b0,e1,e2,e3⟩:=yhy hf
 have:=ykB (hf.ok b0 (List.mem_of_getElem? e3))
 exact ylF (fun x hx=>by have:=ykB (hf.ok x hx); omega) (by rw [yrL e3]; omega) (by rw [yrL e3]; omega)
theorem yak (t : Train) (h : t.small) : yR Try.prog ydj [.agg (t.enc.map .c)] (.c (.i (yaS t))):=by
 refine yF yjc (by simp) fun hwf=>?_
 simp -dsimp -implicitDefEqProofs [yfn]
 refine yg (yeA t h) (by simp) rfl ?_
 simp -dsimp -implicitDefEqProofs
 refine ⟨fun h1=>by simp [yaS,h1],fun h1=>?_⟩
 obtain ⟨r,b0,e1,e2,e3⟩:=yhy (ych h1)
 have l1 : 0 < t.Rows.length:=(List.getElem?_eq_some_iff.1 e1).1
 have l2 : 0 < r.length:=(List.getElem?_eq_some_iff.1 e2).1
 have f1:=(List.getElem?_eq_some_iff.1 e1).2
 have f2:=(List.getElem?_eq_some_iff.1 e2).2
 simp -dsimp -implicitDefEqProofs [e1,e2,l1,l2,f1,f2]
 refine yO (ykl t h) (by simp) rfl ?_
 simp -dsimp -implicitDefEqProofs
 intro hlen
 refine yw (ι:=Nat) (fun k=>k ≤ t.yB.length) (fun k=>yaV [(3,.c (.i (yg7 Boat.Class t.yB b0.Class k))),(17,.c (.sl 6 (t.yB.map Boat.enc))),(18,.c (.i t.yB.length)),(19,.c (.i k))] []) (fun k=>t.yB.length - k) 0 (by simp) (by apply yD <;> simp [AV.yc,AV.yJ,Obj.yc,yiV]) ?_
 rintro k hk
 rcases Nat.lt_or_ge k t.yB.length with hlt | hge
 ·obtain ⟨b,hb⟩ : ∃ b,t.yB[k]? = some b:=⟨_,List.getElem?_eq_getElem hlt⟩
  simp -dsimp -implicitDefEqProofs [hb,yaT hlt]
  refine ⟨yaf hlt hlen,k + 1,hlt,by omega,?_⟩
  apply yD <;> simp [AV.yc,AV.yJ,Obj.yc,yiu hb]
 ·simp -dsimp -implicitDefEqProofs [ycC hge]
  simp [yaS,h1,ykr hge,yrL e3]
theorem ykP (t : Train) (h : t.small) : yR Try.prog yc5 [.agg (t.enc.map .c)] (.c (.i (yaS t))):=by
 refine yF yiE (by simp) fun hwf=>?_
 simp -dsimp -implicitDefEqProofs [yfw]
 refine yO (ygE t h) (by simp) rfl ?_
 simp -dsimp -implicitDefEqProofs
 refine yg (yeh t h) (by simp) rfl ?_
 simp -dsimp -implicitDefEqProofs
 refine ⟨fun h1=>by simp [yaS,h1],fun h1=>?_⟩
 obtain ⟨r,b0,e1,e2,e3⟩:=yhy (ych h1)
 have l1 : 0 < t.yB.length:=(List.getElem?_eq_some_iff.1 e3).1
 have f3:=(List.getElem?_eq_some_iff.1 e3).2
 simp -dsimp -implicitDefEqProofs [e3,l1,f3]
 refine yw (ι:=Nat) (fun k=>k ≤ t.yB.length) (fun k=>yaV [(3,.c (.sl 6 (t.yB.map Boat.enc))),(4,.c (.i (yg7 Boat.Class t.yB b0.Class k))),(5,.c (.i k))] []) (fun k=>t.yB.length - k) 0 (by simp) (by apply yD <;> simp [AV.yc,AV.yJ,Obj.yc,yiV]) ?_
 rintro k hk
 rcases Nat.lt_or_ge k t.yB.length with hlt | hge
 ·obtain ⟨b,hb⟩ : ∃ b,t.yB[k]? = some b:=⟨_,List.getElem?_eq_getElem hlt⟩
  simp -dsimp -implicitDefEqProofs [hb,yaT hlt]
  intro hlen
  refine ⟨yaf hlt hlen,k + 1,hlt,by omega,?_⟩
  apply yD <;> simp [AV.yc,AV.yJ,Obj.yc,yiu hb]
 ·simp -dsimp -implicitDefEqProofs [ycC hge]
  intro _
  simp [yaS,h1,ykr hge,yrL e3]
theorem ykb {α β : Type} {f : α → β} {l : List α} : (l.map f).take l.length = l.map f:=List.take_of_length_le (by simp)
def ybl (t : Train) : List Int:=if yM t then t.yB.map ycH else []
def ycN (t : Train) (k : Nat) : List Int:=(t.yB.take k).map ycH
theorem ydD {t : Train} : ycN t 0 = []:=rfl
theorem yhX {t : Train} {k : Nat} {b : Boat} (h : t.yB[k]? = some b) : ycN t (k + 1) = ycN t k ++ [b.Id]:=by
 unfold ycN; rw [List.take_succ,h,List.map_append]; rfl
theorem yjA {t : Train} {k : Nat} (h : t.yB.length ≤ k) : ycN t k = t.yB.map ycH:=by
 unfold ycN; rw [List.take_of_length_le h]
theorem yji {t : Train} {k : Nat} (h : k ≤ t.yB.length) : (ycN t k).length = k:=by
 unfold ycN; simp; omega
theorem yG (t : Train) (h : t.small) : yR Try.prog ycZ [.agg (t.enc.map .c)] (.c (.sl 1 ((ybl t).map yhe))):=by
 refine yF ylc (by simp) fun hwf=>?_
 simp -dsimp -implicitDefEqProofs [ygQ]
 refine yg (yeA t h) (by simp) rfl ?_
 cases h1 : yM t with
 | false=>simp -dsimp -implicitDefEqProofs; simp [ybl,h1]
 | true =>
  have tf:=ych h1
  have h6:=tf.len
  simp -dsimp -implicitDefEqProofs
  refine yO (ykl t h) (by simp) rfl ?_
  simp -dsimp -implicitDefEqProofs
  intro hlen
  refine yhz (k0:=1) 3 1 (by simp) (by simp) (by decide) ?_
  refine yw (ι:=Nat) (fun k=>k ≤ t.yB.length) (fun k=>yaV [(3,.own 3 1 (ycN t k).length),(10,.c (.sl 6 (t.yB.map Boat.enc))),(11,.c (.i t.yB.length)),(12,.c (.i k))] [(3,.row 1 ((ycN t k).map yhe))]) (fun k=>t.yB.length - k) 0 (by simp) (by apply yD <;> simp [AV.yc,AV.yJ,Obj.yc,ydD]) ?_
  rintro k hk
  have hkl:=yji hk
  rcases Nat.lt_or_ge k t.yB.length with hlt | hge
  ·obtain ⟨b,hb⟩ : ∃ b,t.yB[k]? = some b:=⟨_,List.getElem?_eq_getElem hlt⟩
   simp -dsimp -implicitDefEqProofs [hb,yaT hlt]
   refine ⟨by omega,yaf hlt hlen,k + 1,hlt,by omega,?_⟩
   apply yD <;> simp [AV.yc,AV.yJ,Obj.yc,yhX hb]
  ·simp -dsimp -implicitDefEqProofs [ycC hge]
   rw [ykb,yjA hge]
   simp [ybl,h1]
theorem yeb (t : Train) (h : t.small) : yR Try.prog ycY [.agg (t.enc.map .c)] (.c (.sl 1 ((ybl t).map yhe))):=by
 refine yF ykX (by simp) fun hwf=>?_
 simp -dsimp -implicitDefEqProofs [ygT]
 refine yO (ygE t h) (by simp) rfl ?_
 simp -dsimp -implicitDefEqProofs
 refine yw (ι:=Nat) (fun k=>k ≤ t.yB.length ∧ (k ≠ 0 → yM t = true)) (fun k=>yaV [(1,.box 1 0),(3,.own 6 1 (ycN t k).length),(4,.c (.sl 6 (t.yB.map Boat.enc))),(5,.c (.i k))] [(1,.box (t.enc.map .c)),(6,.row 1 ((ycN t k).map yhe))]) (fun k=>t.yB.length - k) 0 (by simp) (by apply yD <;> simp [AV.yc,AV.yJ,Obj.yc,ydD]) ?_
 rintro k ⟨hk,hok⟩
 have hkl:=yji hk
 have fin : yM t = false → k = 0:=fun h1=>by
  rcases Nat.eq_zero_or_pos k with e | e
  ·exact e
  ·rw [hok (by omega)] at h1; cases h1
 rcases Nat.lt_or_ge k t.yB.length with hlt | hge
 ·obtain ⟨b,hb⟩ : ∃ b,t.yB[k]? = some b:=⟨_,List.getElem?_eq_getElem hlt⟩
  simp -dsimp -implicitDefEqProofs [hb,yaT hlt]
  intro hlen
  refine yg (yeh t h) (by simp) rfl ?_
  cases h1 : yM t with
  | false =>
   have:=fin h1
   subst this
   simp -dsimp -implicitDefEqProofs
   simp [ybl,h1,ydD]
  | true =>
   have h6:=(ych h1).len
   simp -dsimp -implicitDefEqProofs [hb,yaT hlt]
   refine ⟨by omega,yaf hlt hlen,k + 1,by first | exact ⟨hlt,fun _=>h1⟩ | exact hlt,by omega,?_⟩
   apply yD <;> simp [AV.yc,AV.yJ,Obj.yc,yhX hb]
 ·simp -dsimp -implicitDefEqProofs [ycC hge]
  intro _
  rw [ykb]
  by_cases h1 : yM t = true
  ·rw [yjA hge]; simp [ybl,h1]
  ·have:=fin (by simpa using h1)
   subst this
   simp [ybl,h1,ydD]
def yk6 : List Train → Prop:=ycP Train.small
structure Lock where
 Length : Int
 Width : Int
 SillAbove : Int
 SillBelow : Int
 Base : Int
 Area : Int
 Rate : Int
 Water : Int
 Gate : Int
 Inside : List Train
 deriving DecidableEq,Inhabited
@[simp] def Lock.enc (e : Lock) : List C:=[.i e.Length,.i e.Width,.i e.SillAbove,.i e.SillBelow,.i e.Base,.i e.Area,.i e.Rate,.i e.Water,.i e.Gate,.sl 2 (e.Inside.map Train.enc)]
-- Lock
def Lock.small (e : Lock) : Prop:=yk6 e.Inside
structure Weir where
 Gates : Int
 Open : Int
 Step : Int
 Crest : Int
 Width : Int
 deriving DecidableEq,Inhabited
@[simp] def Weir.enc (e : Weir) : List C:=[.i e.Gates,.i e.Open,.i e.Step,.i e.Crest,.i e.Width]
-- Weir
structure Rule where
 Low : Int
 High : Int
 Flood : Int
 deriving DecidableEq,Inhabited
@[simp] def Rule.enc (e : Rule) : List C:=[.i e.Low,.i e.High,.i e.Flood]
-- Rule
structure Pause where
 From : Int
 Until : Int
 deriving DecidableEq,Inhabited
@[simp] def Pause.enc (e : Pause) : List C:=[.i e.From,.i e.Until]
-- Pause
def yk7 : List Pause → Prop:=ycP fun _=>True
structure Turn where
 Up : Bool
 Count : Int
 deriving DecidableEq,Inhabited
@[simp] def Turn.enc (e : Turn) : List C:=[.b e.Up,.i e.Count]
-- Turn
theorem ylx (e : Turn) : yR Try.prog ycm [.agg (e.enc.map .c)] (.agg (e.enc.map .c)):=by
 refine yF yjW (by simp) fun hwf=>?_
 simp -dsimp -implicitDefEqProofs [ygn]
structure CallT where
 Train : Train
 Since : Int
 Booked : Int
 deriving DecidableEq,Inhabited
@[simp] def CallT.enc (e : CallT) : List C:=[.b e.Train.Up,.sl 1 (e.Train.Rows.map yX),.i e.Since,.i e.Booked]
-- Call
def ycn (e : CallT) (l : Int) : Int:=ygc (yd2 e.Train l) fun l=>l
def CallT.small (e : CallT) : Prop:=e.Train.small
theorem yja : yj4 ycn CallT.small:=by
 intro e l h0 h1
 unfold ycn
 rcases ylA e.Train _ h0 h1 with e0 | ⟨a0,b0,s0⟩
 ·exact .inl (ybV (by omega))
 rw [ybd a0]
 exact .inr ⟨a0,by omega,s0⟩
theorem yob (e : CallT) (l : Int) (h0 : 0 ≤ l) (h1 : l ≤ 1048576) : yR Try.prog ydT [.agg (e.enc.map .c),.c (.i l)] (.c (.i (ycn e l))):=by
 refine yF yjN (by simp) fun hwf=>?_
 simp -dsimp -implicitDefEqProofs [yf8]
 refine yg (yni e.Train _ h0 h1) (by simp) rfl ?_
 simp -dsimp -implicitDefEqProofs
 refine ⟨fun h=>by simp [ycn,ybV h],fun p0=>?_⟩
 simp [ycn,ybd p0]
theorem ypy (e : CallT) (hl : CallT.small e) : yR Try.prog ydJ [.agg (e.enc.map .c)] (.agg (e.enc.map .c)):=by
 refine yF yjU (by simp) fun hwf=>?_
 simp -dsimp -implicitDefEqProofs [yf6]
 refine yO (yoV e.Train hl) (by simp) rfl ?_
 simp -dsimp -implicitDefEqProofs
theorem ypk (a b : CallT) : yR Try.prog ydM [.agg (a.enc.map .c),.agg (b.enc.map .c)] (.c (.b (decide (a = b)))):=by
 refine yF yj5 (by simp) fun hwf=>?_
 obtain ⟨a0,a1,a2⟩:=a
 obtain ⟨b0,b1,b2⟩:=b
 simp -dsimp -implicitDefEqProofs [yf2,CallT.mk.injEq]
 refine yg (yoM a0 b0) (by simp) rfl ?_
 simp -dsimp -implicitDefEqProofs
 refine ⟨fun h=>by simp_all,fun h0=>?_⟩
 refine ⟨fun h=>by simp_all,fun h1=>?_⟩
 refine ⟨fun h=>by simp_all,fun h2=>?_⟩
 simp_all
-- []Call
def yd3 : List CallT → Int → Int:=ymj ycn
def ya2 : List CallT → Prop:=ycP CallT.small
theorem ymt : yj4 yd3 ya2:=yn1 yja
theorem ymJ (xs : List CallT) (l : Int) (h0 : 0 ≤ l) (h1 : l ≤ 1048576) : yR Try.prog yda [.c (.sl 4 (xs.map CallT.enc)),.c (.i l)] (.c (.i (yd3 xs l))):=by
 refine yF yjs (by simp) fun hwf=>?_
 simp -dsimp -implicitDefEqProofs [yfC]
 intro hl
 have hs : szS xs.length l = if l - xs.length < 0 then -1 else l - xs.length:=rfl
 refine ⟨by unfold maxLen at hl; unfold inI; omega,fun h=>?_,fun h=>?_⟩
 ·simp [yd3,ymj,ygc,hs,h]
 have h' : 0 ≤ l - xs.length:=by omega
 have e0 : yd3 xs l = ybA ycn xs (l - xs.length):=by
  have : szS xs.length l = l - xs.length:=by rw [hs,if_neg (by omega)]
  simp only [yd3,ymj]
  rw [this,ybd h']
 refine yw (ι:=Nat × Int) (fun p=>p.1 ≤ xs.length ∧ 0 ≤ p.2 ∧ p.2 ≤ 1048576 ∧ ybA ycn (xs.drop p.1) p.2 = yd3 xs l) (fun p=>yaV [(0,.c (.sl 4 (xs.map CallT.enc))),(1,.c (.i p.2)),(5,.c (.i p.1))] []) (fun p=>xs.length - p.1) (0,l - xs.length) ⟨by simp,h',by simp only; omega,by simp [e0]⟩ (by apply yD <;> simp [AV.yc,AV.yJ,Obj.yc]) ?_
 rintro ⟨k,q⟩ ⟨hk,hq0,hq1,hf⟩
 simp only at hk hq0 hq1 hf
 rcases Nat.lt_or_ge k xs.length with hlt | hge
 ·obtain ⟨e,he⟩ : ∃ e,xs[k]? = some e:=⟨_,List.getElem?_eq_getElem hlt⟩
  have hd : xs.drop k = e :: xs.drop (k + 1):=by
   rw [List.drop_eq_getElem_cons hlt,(List.getElem?_eq_some_iff.1 he).2]
  rw [hd,ybA] at hf
  simp -dsimp -implicitDefEqProofs [he,yaT hlt]
  refine fun _=>yg (yob e q hq0 hq1) (by simp) rfl ?_
  simp -dsimp -implicitDefEqProofs
  refine ⟨fun h=>by rw [← hf,ybV h],fun h=>⟨yaf hlt hl,k + 1,⟨ycn e q,?_⟩⟩⟩
  rw [ybd h] at hf
  have hle : ycn e q ≤ 1048576:=by
   rcases yja e q hq0 hq1 with e1 | e1
   ·omega
   ·omega
  exact ⟨⟨hlt,h,hle,hf⟩,by omega,by apply yD <;> simp [AV.yc,AV.yJ,Obj.yc]⟩
 ·simp -dsimp -implicitDefEqProofs [ycC hge]
  rw [List.drop_of_length_le hge] at hf
  intro _
  first | simpa [ybA] using hf | simpa [ybA] using hf.symm
theorem yhK (xs : List CallT) (hl : ya2 xs) : yR Try.prog ybj [.c (.sl 4 (xs.map CallT.enc))] (.c (.sl 4 (xs.map CallT.enc))):=by
 refine yF yjf (by simp) fun hwf=>?_
 simp -dsimp -implicitDefEqProofs [yfm]
 intro hlen
 have hl1:=hl.1
 refine ⟨by omega,?_⟩
 refine yw (ι:=Nat) (fun k=>k ≤ xs.length) (fun k=>yaV [(0,.c (.sl 4 (xs.map CallT.enc))),(3,.own 7 4 xs.length),(4,.c (.i k))] [(7,.row 4 (partly CallT.enc [.b false,.sl 1 [],.i 0,.i 0] xs k))]) (fun k=>xs.length - k) 0 (by simp) (by apply yD <;> simp [AV.yc,AV.yJ,Obj.yc,yfx]) ?_
 rintro k hk
 rcases Nat.lt_or_ge k xs.length with hlt | hge
 ·obtain ⟨e,he⟩ : ∃ e,xs[k]? = some e:=⟨_,List.getElem?_eq_getElem hlt⟩
  have hs:=ygu (f:=CallT.enc) (z:=[.b false,.sl 1 [],.i 0,.i 0]) he
  have hd:=yhR (f:=CallT.enc) (z:=[.b false,.sl 1 [],.i 0,.i 0]) (n:=4) rfl hlt
  simp only [CallT.enc,Train.enc] at hs
  simp -dsimp -implicitDefEqProofs [he,yaT hlt]
  refine fun _=>yO (ypy e (hl.2 e (List.mem_of_getElem? he))) (by simp) rfl ?_
  simp -dsimp -implicitDefEqProofs [yaT hlt,ygx hk,hd,hs]
  exact ⟨hlt,yaf hlt hlen,k + 1,hlt,by omega,by apply yD <;> simp [AV.yc,AV.yJ,Obj.yc]⟩
 ·simp -dsimp -implicitDefEqProofs [ycC hge]
  intro _
  rw [ygr hge,List.take_of_length_le (by simp)]
theorem yod (es fs : List CallT) : yR Try.prog ydo [.c (.sl 4 (es.map CallT.enc)),.c (.sl 4 (fs.map CallT.enc))] (.c (.b (decide (es = fs)))):=by
 refine yF yiS (by simp) fun hwf=>?_
 simp -dsimp -implicitDefEqProofs [yfq]
 intro hl1 hl2
 refine ⟨fun h e=>h (by rw [e]),fun hlen=>?_⟩
 have hlen' : es.length = fs.length:=by omega
 refine yw (ι:=Nat) (fun k=>k ≤ es.length ∧ es.take k = fs.take k) (fun k=>yaV [(0,.c (.sl 4 (es.map CallT.enc))),(1,.c (.sl 4 (fs.map CallT.enc))),(5,.c (.i k))] []) (fun k=>es.length - k) 0 (by simp) (by apply yD <;> simp [AV.yc,AV.yJ,Obj.yc]) ?_
 rintro k ⟨hk,htk⟩
 rcases Nat.lt_or_ge k es.length with hlt | hge
 ·obtain ⟨e,he⟩ : ∃ e,es[k]? = some e:=⟨_,List.getElem?_eq_getElem hlt⟩
  obtain ⟨f,hf⟩ : ∃ f,fs[k]? = some f:=⟨_,List.getElem?_eq_getElem (by omega)⟩
  simp -dsimp -implicitDefEqProofs [he,hf,yaT hlt,yaT (hlen' ▸ hlt)]
  intro _
  refine ⟨_,_,ypk e f,by simp,.inr rfl,?_⟩
  simp -dsimp -implicitDefEqProofs
  refine ⟨fun h=>yhw he hf h,fun h=>⟨yaf hlt hl1,k + 1,⟨hlt,yeD he hf htk h⟩,by omega,by apply yD <;> simp [AV.yc,AV.yJ,Obj.yc]⟩⟩
 ·simp -dsimp -implicitDefEqProofs [ycC hge]
  intro _
  exact ygp hge hlen' htk
structure Work where
 Lock : Lock
 Weir : Weir
 Rule : Rule
 Pauses : List Pause
 Turn : Turn
 Calls : List CallT
 deriving DecidableEq,Inhabited
@[simp] def Work.enc (e : Work) : List C:=[.i e.Lock.Length,.i e.Lock.Width,.i e.Lock.SillAbove,.i e.Lock.SillBelow,.i e.Lock.Base,.i e.Lock.Area,.i e.Lock.Rate,.i e.Lock.Water,.i e.Lock.Gate,.sl 2 (e.Lock.Inside.map Train.enc),.i e.Weir.Gates,.i e.Weir.Open,.i e.Weir.Step,.i e.Weir.Crest,.i e.Weir.Width,.i e.Rule.Low,.i e.Rule.High,.i e.Rule.Flood,.sl 2 (e.Pauses.map Pause.enc),.b e.Turn.Up,.i e.Turn.Count,.sl 4 (e.Calls.map CallT.enc)]
-- Work
def Work.small (e : Work) : Prop:=e.Lock.small ∧ yk7 e.Pauses ∧ ya2 e.Calls
def ygw (t : Turn) : Bool:=inRange t.Count 0 1000000
theorem ylQ (t : Turn) : yR Try.prog ydS [.agg (t.enc.map .c)] (.c (.b (ygw t))):=by
 refine yF yjT (by simp) fun hwf=>?_
 simp -dsimp -implicitDefEqProofs [ygb]
 refine yg (yZ t.Count 0 1000000) (by simp) rfl ?_
 simp -dsimp -implicitDefEqProofs
 try rfl
theorem ylD (t : Turn) : yR Try.prog ydP [.agg (t.enc.map .c)] (.c (.b (ygw t))):=by
 refine yF yj2 (by simp) fun hwf=>?_
 simp -dsimp -implicitDefEqProofs [yf3]
 refine yg (yag t.Count 0 1000000) (by simp) rfl ?_
 simp -dsimp -implicitDefEqProofs
 try rfl
def yby (c : CallT) : Bool:=yM c.Train && inRange c.Since 0 1000000 && inRange c.Booked (-1) 1000000
theorem ybU (c : CallT) (h : c.small) : yR Try.prog ydQ [.agg (c.enc.map .c)] (.c (.b (yby c))):=by
 refine yF yj0 (by simp) fun hwf=>?_
 simp -dsimp -implicitDefEqProofs [yge]
 refine yg (yeA c.Train h) (by simp) rfl ?_
 cases h0 : yM c.Train with
 | false=>simp -dsimp -implicitDefEqProofs; simp [yby,h0]
 | true =>
 simp -dsimp -implicitDefEqProofs
 refine yg (yZ c.Since 0 1000000) (by simp) rfl ?_
 cases h1 : inRange c.Since 0 1000000 with
 | false=>simp -dsimp -implicitDefEqProofs; simp [yby,h0,h1]
 | true =>
 simp -dsimp -implicitDefEqProofs
 refine yg (yZ c.Booked (-1) 1000000) (by simp) rfl ?_
 cases h2 : inRange c.Booked (-1) 1000000 with
 | false=>simp -dsimp -implicitDefEqProofs; simp [yby,h0,h1,h2]
 | true =>
  simp -dsimp -implicitDefEqProofs; simp [yby,h0,h1,h2]
theorem ymg (c : CallT) (h : c.small) : yR Try.prog ydN [.agg (c.enc.map .c)] (.c (.b (yby c))):=by
 refine yF yjS (by simp) fun hwf=>?_
 simp -dsimp -implicitDefEqProofs [ygk]
 refine yg (yeh c.Train h) (by simp) rfl ?_
 cases h0 : yM c.Train with
 | false=>simp -dsimp -implicitDefEqProofs; simp [yby,h0]
 | true =>
 simp -dsimp -implicitDefEqProofs
 refine yg (yag c.Since 0 1000000) (by simp) rfl ?_
 cases h1 : inRange c.Since 0 1000000 with
 | false=>simp -dsimp -implicitDefEqProofs; simp [yby,h0,h1]
 | true =>
 simp -dsimp -implicitDefEqProofs
 refine yg (yag c.Booked (-1) 1000000) (by simp) rfl ?_
 cases h2 : inRange c.Booked (-1) 1000000 with
 | false=>simp -dsimp -implicitDefEqProofs; simp [yby,h0,h1,h2]
 | true =>
  simp -dsimp -implicitDefEqProofs; simp [yby,h0,h1,h2]
def yC (c : CallT) (now : Int) : Int :=
 if yby c = true ∧ inRange now c.Since 1000000 = true then
  if c.Booked ≠ -1 ∧ c.Booked ≤ now then -1 else if (now - c.Since).tdiv 20 < yaS c.Train then yaS c.Train - (now - c.Since).tdiv 20 else 0
 else 3
structure CallFacts (c : CallT) : Prop where
 tr : yM c.Train = true
 cls : 0 ≤ yaS c.Train ∧ yaS c.Train ≤ 2
 snc : 0 ≤ c.Since ∧ c.Since ≤ 1000000
 bkd : -1 ≤ c.Booked ∧ c.Booked ≤ 1000000
theorem yhA {c : CallT} (h : yby c = true) : CallFacts c:=by
 simp only [yby,Bool.and_eq_true] at h
 obtain ⟨⟨h1,h2⟩,h3⟩:=h
 exact ⟨h1,ymI h1,yab.1 h2,yab.1 h3⟩
theorem yap (c : CallT) (now : Int) (h : c.small) : yR Try.prog ybC [.agg (c.enc.map .c),.c (.i now)] (.c (.i (yC c now))):=by
 refine yF yj3 (by simp) fun hwf=>?_
 simp -dsimp -implicitDefEqProofs [ygj]
 first
  | refine yg (ybU c h) (by simp) rfl ?_
  | refine yO (ybU c h) (by simp) rfl ?_
  | refine ⟨_,_,ybU c h,by simp,.inr rfl,?_⟩
  | refine ⟨_,_,ybU c h,by simp,.inl rfl,?_⟩
  | refine yH (ybU c h) (by simp) (.inr rfl) ?_
  | refine yH (ybU c h) (by simp) (.inl rfl) ?_
 cases h1 : yby c with
 | false=>simp -dsimp -implicitDefEqProofs; simp [yC,h1]
 | true =>
 have cf:=yhA h1
 have f1:=cf.cls; have f2:=cf.snc; have f3:=cf.bkd
 simp -dsimp -implicitDefEqProofs
 first
  | refine yg (yZ now c.Since 1000000) (by simp) rfl ?_
  | refine yO (yZ now c.Since 1000000) (by simp) rfl ?_
  | refine ⟨_,_,yZ now c.Since 1000000,by simp,.inr rfl,?_⟩
  | refine ⟨_,_,yZ now c.Since 1000000,by simp,.inl rfl,?_⟩
  | refine yH (yZ now c.Since 1000000) (by simp) (.inr rfl) ?_
  | refine yH (yZ now c.Since 1000000) (by simp) (.inl rfl) ?_
 cases h2 : inRange now c.Since 1000000 with
 | false=>simp -dsimp -implicitDefEqProofs; simp [yC,h1,h2]
 | true =>
 have r2:=yab.1 h2
 have hq : 0 ≤ (now - c.Since).tdiv 20 ∧ (now - c.Since).tdiv 20 ≤ 50000:=by
  rw [Int.tdiv_eq_ediv_of_nonneg (by omega)]; omega
 have fin : ¬ (c.Booked ≠ -1 ∧ c.Booked ≤ now) → yC c now = if (now - c.Since).tdiv 20 < yaS c.Train then yaS c.Train - (now - c.Since).tdiv 20 else 0:=fun hn=>by
  unfold yC; rw [if_pos ⟨h1,h2⟩,if_neg hn]
 have fyes : (c.Booked ≠ -1 ∧ c.Booked ≤ now) → yC c now = -1:=fun hn=>by
  unfold yC; rw [if_pos ⟨h1,h2⟩,if_pos hn]
 by_cases hb : c.Booked = -1
 ·simp -dsimp -implicitDefEqProofs [hb]
  first
   | refine yg (yak c.Train h) (by simp) rfl ?_
   | refine yO (yak c.Train h) (by simp) rfl ?_
   | refine ⟨_,_,yak c.Train h,by simp,.inr rfl,?_⟩
   | refine ⟨_,_,yak c.Train h,by simp,.inl rfl,?_⟩
   | refine yH (yak c.Train h) (by simp) (.inr rfl) ?_
   | refine yH (yak c.Train h) (by simp) (.inl rfl) ?_
  simp -dsimp -implicitDefEqProofs
  refine ⟨by unfold inI; omega,by unfold inI; omega,by unfold inI; omega,?_⟩
  rw [fin (by simp [hb])]
 ·by_cases hb2 : c.Booked ≤ now
  ·simp -dsimp -implicitDefEqProofs [hb,hb2]
   rw [fyes ⟨hb,hb2⟩]
  ·simp -dsimp -implicitDefEqProofs [hb,hb2]
   first
    | refine yg (yak c.Train h) (by simp) rfl ?_
    | refine yO (yak c.Train h) (by simp) rfl ?_
    | refine ⟨_,_,yak c.Train h,by simp,.inr rfl,?_⟩
    | refine ⟨_,_,yak c.Train h,by simp,.inl rfl,?_⟩
    | refine yH (yak c.Train h) (by simp) (.inr rfl) ?_
    | refine yH (yak c.Train h) (by simp) (.inl rfl) ?_
   simp -dsimp -implicitDefEqProofs
   refine ⟨by unfold inI; omega,by unfold inI; omega,by unfold inI; omega,?_⟩
   rw [fin (by simp [hb]; omega)]
theorem yfV {c : CallT} {now : Int} (h : yC c now ≠ 3) : yM c.Train = true ∧ 0 < (ybl c.Train).length:=by
 by_cases h1 : yby c = true
 ·have h2:=(yhA h1).tr
  exact ⟨h2,by rw [ybl,if_pos h2,List.length_map]; exact (ych h2).pos⟩
 ·exact absurd (by simp [yC,h1]) h
def before (a b : CallT) (now : Int) : Bool :=
 if yC a now = 3 ∨ yC b now = 3 then false
 else if yC a now ≠ yC b now then decide (yC a now < yC b now)
 else if yC a now = -1 ∧ a.Booked ≠ b.Booked then decide (a.Booked < b.Booked)
 else if a.Since ≠ b.Since then decide (a.Since < b.Since)
 else decide ((ybl a.Train)[0]?.getD 0 < (ybl b.Train)[0]?.getD 0)
theorem yQ (a b : CallT) (now : Int) (ha : a.small) (hb : b.small) : yR Try.prog ya5 [.agg (a.enc.map .c),.agg (b.enc.map .c),.c (.i now)] (.c (.b (before a b now))):=by
 refine yF ygF (by simp) fun hwf=>?_
 simp -dsimp -implicitDefEqProofs [ydg]
 first
  | refine yg (yap a now ha) (by simp) rfl ?_
  | refine yO (yap a now ha) (by simp) rfl ?_
  | refine ⟨_,_,yap a now ha,by simp,.inr rfl,?_⟩
  | refine ⟨_,_,yap a now ha,by simp,.inl rfl,?_⟩
  | refine yH (yap a now ha) (by simp) (.inr rfl) ?_
  | refine yH (yap a now ha) (by simp) (.inl rfl) ?_
 simp -dsimp -implicitDefEqProofs
 first
  | refine yg (yap b now hb) (by simp) rfl ?_
  | refine yO (yap b now hb) (by simp) rfl ?_
  | refine ⟨_,_,yap b now hb,by simp,.inr rfl,?_⟩
  | refine ⟨_,_,yap b now hb,by simp,.inl rfl,?_⟩
  | refine yH (yap b now hb) (by simp) (.inr rfl) ?_
  | refine yH (yap b now hb) (by simp) (.inl rfl) ?_
 by_cases h1 : yC a now = 3
 ·simp -dsimp -implicitDefEqProofs [h1]
  simp [before,h1]
 by_cases h2 : yC b now = 3
 ·simp -dsimp -implicitDefEqProofs [h1,h2]
  simp [before,h2]
 by_cases h3 : yC a now = yC b now
 rotate_left
 ·simp -dsimp -implicitDefEqProofs [h1,h2,h3]
  simp [before,h1,h2,h3]
 have last : a.Since = b.Since → ¬ (yC a now = -1 ∧ a.Booked ≠ b.Booked) → before a b now = decide ((ybl a.Train)[0]?.getD 0 < (ybl b.Train)[0]?.getD 0):=fun h5 h6=>by
  unfold before; rw [if_neg (by simp [h1,h2]),if_neg (by simp [h3]),if_neg h6,if_neg (by simp [h5])]
 have snc : a.Since ≠ b.Since → ¬ (yC a now = -1 ∧ a.Booked ≠ b.Booked) → before a b now = decide (a.Since < b.Since):=fun h5 h6=>by
  unfold before; rw [if_neg (by simp [h1,h2]),if_neg (by simp [h3]),if_neg h6,if_pos h5]
 have bkd : (yC a now = -1 ∧ a.Booked ≠ b.Booked) → before a b now = decide (a.Booked < b.Booked):=fun h6=>by
  unfold before; rw [if_neg (by simp [h1,h2]),if_neg (by simp [h3]),if_pos h6]
 obtain ⟨_,pa⟩:=yfV h1
 obtain ⟨_,pb⟩:=yfV h2
 obtain ⟨x,hx⟩ : ∃ x,(ybl a.Train)[0]? = some x:=⟨_,List.getElem?_eq_getElem pa⟩
 obtain ⟨y,hy⟩ : ∃ x,(ybl b.Train)[0]? = some x:=⟨_,List.getElem?_eq_getElem pb⟩
 have gx:=(List.getElem?_eq_some_iff.1 hx).2
 have gy:=(List.getElem?_eq_some_iff.1 hy).2
 by_cases h6 : yC a now = -1 ∧ a.Booked ≠ b.Booked
 ·have h3' : yC b now = -1:=by rw [← h3]; exact h6.1
  simp -dsimp -implicitDefEqProofs [h1,h2,h3,h6.1,h6.2,h3']
  rw [bkd h6]
 by_cases h5 : a.Since = b.Since
 rotate_left
 ·by_cases h7 : yC a now = -1
  ·have h8 : a.Booked = b.Booked:=by
    by_cases h : a.Booked = b.Booked
    ·exact h
    ·exact absurd ⟨h7,h⟩ h6
   have h3' : yC b now = -1:=by rw [← h3]; exact h7
   simp -dsimp -implicitDefEqProofs [h7,h8,h5,h3']
   rw [snc h5 h6]
  ·have h3' : ¬ yC b now = -1:=by rw [← h3]; exact h7
   simp -dsimp -implicitDefEqProofs [h1,h2,h3,h5,h3']
   rw [snc h5 h6]
 ·have hl:=last h5 h6
  rw [hx,hy] at hl
  simp only [Option.getD_some] at hl
  by_cases h7 : yC a now = -1
  ·have h8 : a.Booked = b.Booked:=by
    by_cases h : a.Booked = b.Booked
    ·exact h
    ·exact absurd ⟨h7,h⟩ h6
   have h3' : yC b now = -1:=by rw [← h3]; exact h7
   simp -dsimp -implicitDefEqProofs [h7,h8,h5,h3']
   first
    | refine yg (yG a.Train ha) (by simp) rfl ?_
    | refine yO (yG a.Train ha) (by simp) rfl ?_
    | refine ⟨_,_,yG a.Train ha,by simp,.inr rfl,?_⟩
    | refine ⟨_,_,yG a.Train ha,by simp,.inl rfl,?_⟩
    | refine yH (yG a.Train ha) (by simp) (.inr rfl) ?_
    | refine yH (yG a.Train ha) (by simp) (.inl rfl) ?_
   simp -dsimp -implicitDefEqProofs [pa,hx,gx]
   first
    | refine yg (yG b.Train hb) (by simp) rfl ?_
    | refine yO (yG b.Train hb) (by simp) rfl ?_
    | refine ⟨_,_,yG b.Train hb,by simp,.inr rfl,?_⟩
    | refine ⟨_,_,yG b.Train hb,by simp,.inl rfl,?_⟩
    | refine yH (yG b.Train hb) (by simp) (.inr rfl) ?_
    | refine yH (yG b.Train hb) (by simp) (.inl rfl) ?_
   simp -dsimp -implicitDefEqProofs [pb,hy,gy]
   rw [hl]
  ·have h3' : ¬ yC b now = -1:=by rw [← h3]; exact h7
   simp -dsimp -implicitDefEqProofs [h1,h2,h3,h5,h3']
   first
    | refine yg (yG a.Train ha) (by simp) rfl ?_
    | refine yO (yG a.Train ha) (by simp) rfl ?_
    | refine ⟨_,_,yG a.Train ha,by simp,.inr rfl,?_⟩
    | refine ⟨_,_,yG a.Train ha,by simp,.inl rfl,?_⟩
    | refine yH (yG a.Train ha) (by simp) (.inr rfl) ?_
    | refine yH (yG a.Train ha) (by simp) (.inl rfl) ?_
   simp -dsimp -implicitDefEqProofs [pa,hx,gx]
   first
    | refine yg (yG b.Train hb) (by simp) rfl ?_
    | refine yO (yG b.Train hb) (by simp) rfl ?_
    | refine ⟨_,_,yG b.Train hb,by simp,.inr rfl,?_⟩
    | refine ⟨_,_,yG b.Train hb,by simp,.inl rfl,?_⟩
    | refine yH (yG b.Train hb) (by simp) (.inr rfl) ?_
    | refine yH (yG b.Train hb) (by simp) (.inl rfl) ?_
   simp -dsimp -implicitDefEqProofs [pb,hy,gy]
   rw [hl]
def yh (x : Nat) : List C:=[.i x]
def yh4 (lt : Nat → Nat → Bool) (x : Nat) (P : List Nat) : List Nat:=(P.reverse.dropWhile (lt x)).reverse ++ x :: (P.reverse.takeWhile (lt x)).reverse
def ydt (lt : Nat → Nat → Bool) (xs : List Nat) : Nat → List Nat
 | 0=>[]
 | i + 1=>match xs[i]? with
  | some x=>yh4 lt x (ydt lt xs i)
  | none=>ydt lt xs i
theorem yeS {p : Nat → Bool} : ∀ {a b : List Nat},(∀ x ∈ a,p x = true) → (∀ y l,b = y :: l → p y = false) → (a ++ b).takeWhile p = a ∧ (a ++ b).dropWhile p = b
 | [],[],_,_=>⟨rfl,rfl⟩
 | [],y :: l,_,h=>by
  have:=h y l rfl
  simp [List.takeWhile_cons,List.dropWhile_cons,this]
 | x :: a,b,h1,h2=>by
  have hx:=h1 x (by simp)
  obtain ⟨e1,e2⟩:=yeS (p:=p) (a:=a) (b:=b) (fun y hy=>h1 y (by simp [hy])) h2
  simp [List.takeWhile_cons,List.dropWhile_cons,hx,e1,e2]
theorem ykZ {lt : Nat → Nat → Bool} {x : Nat} {P l1 l2 : List Nat} (e : l1 ++ l2 = P) (h2 : ∀ y ∈ l2,lt x y = true) (h1 : ∀ l y,l1 = l ++ [y] → lt x y = false) : yh4 lt x P = l1 ++ x :: l2:=by
 have hr : P.reverse = l2.reverse ++ l1.reverse:=by rw [← e,List.reverse_append]
 obtain ⟨e1,e2⟩:=yeS (p:=lt x) (a:=l2.reverse) (b:=l1.reverse) (fun y hy=>h2 y (List.mem_reverse.1 hy)) (fun y l h=>h1 l.reverse y (by
  have:=congrArg List.reverse h
  simpa using this))
 unfold yh4
 rw [hr,e1,e2,List.reverse_reverse,List.reverse_reverse]
theorem yo1 {lt : Nat → Nat → Bool} {x : Nat} {P : List Nat} : (yh4 lt x P).Perm (x :: P):=by
 have h : (P.reverse.dropWhile (lt x)).reverse ++ (P.reverse.takeWhile (lt x)).reverse = P:=by
  rw [← List.reverse_append,List.takeWhile_append_dropWhile,List.reverse_reverse]
 unfold yh4
 refine List.perm_middle.trans ?_
 rw [h]
theorem yc3 {lt : Nat → Nat → Bool} {xs : List Nat} {i x : Nat} (h : xs[i]? = some x) : ydt lt xs (i + 1) = yh4 lt x (ydt lt xs i):=by
 rw [ydt,h]
theorem yfW {lt : Nat → Nat → Bool} {xs : List Nat} : ∀ i : Nat,i ≤ xs.length → (ydt lt xs i).Perm (xs.take i)
 | 0,_=>by simp [ydt]
 | i + 1,h=>by
  have ih:=yfW (lt:=lt) (xs:=xs) i (by omega)
  rw [yc3 (List.getElem?_eq_getElem (show i < xs.length by omega)),List.take_succ,List.getElem?_eq_getElem (show i < xs.length by omega)]
  refine yo1.trans ((ih.cons _).trans ?_)
  exact (List.perm_append_singleton _ _).symm
def sorted (lt : Nat → Nat → Bool) (xs : List Nat) : List Nat:=ydt lt xs xs.length
theorem sorted_perm {lt : Nat → Nat → Bool} {xs : List Nat} : (sorted lt xs).Perm xs:=by
 have:=yfW (lt:=lt) (xs:=xs) xs.length (Nat.le_refl _)
 rwa [List.take_length] at this
def gO (lt : Nat → Nat → Bool) (xs : List Nat) (i : Nat) : List Nat:=ydt lt xs i ++ xs.drop i
def gM (xs l1 l2 : List Nat) (x i : Nat) : List Nat:=(l1 ++ x :: l2) ++ xs.drop (i + 1)
theorem yuV {lt : Nat → Nat → Bool} {xs : List Nat} (h : 1 ≤ xs.length) : gO lt xs 1 = xs:=by
 obtain ⟨x,l,rfl⟩ : ∃ x l,xs = x :: l:=by cases xs with | nil=>simp at h | cons x l=>exact ⟨x,l,rfl⟩
 simp [gO,ydt,yh4]
theorem ytQ {lt : Nat → Nat → Bool} {xs : List Nat} : gO lt xs xs.length = sorted lt xs:=by simp [gO,sorted]
theorem gO_go {lt : Nat → Nat → Bool} {xs : List Nat} {i x : Nat} (h : xs[i]? = some x) : gO lt xs i = gM xs (ydt lt xs i) [] x i:=by
 have hlt:=(List.getElem?_eq_some_iff.1 h).1
 have hx:=(List.getElem?_eq_some_iff.1 h).2
 unfold gO gM
 rw [List.drop_eq_getElem_cons hlt,hx]; simp
theorem yqQ {lt : Nat → Nat → Bool} {xs : List Nat} {i x : Nat} {l1 l2 : List Nat} (hx : xs[i]? = some x) (h : yh4 lt x (ydt lt xs i) = l1 ++ x :: l2) : gM xs l1 l2 x i = gO lt xs (i + 1):=by
 unfold gO gM; rw [yc3 hx,h]
theorem yuN {xs : List Nat} {i x : Nat} {l1 l2 : List Nat} (h : l1.length + l2.length = i) (h2 : i < xs.length) : (gM xs l1 l2 x i).length = xs.length:=by simp [gM]; omega
theorem ytW {xs : List Nat} {i x y : Nat} {l l2 : List Nat} : (gM xs (l ++ [y]) l2 x i)[l.length + 1]? = some x ∧ (gM xs (l ++ [y]) l2 x i)[l.length]? = some y ∧
 ((gM xs (l ++ [y]) l2 x i).set (l.length + 1) y).set l.length x = gM xs l (y :: l2) x i:=by
 unfold gM
 simp only [List.append_assoc,List.cons_append,List.nil_append]
 refine ⟨by simp [List.getElem?_append],by simp [List.getElem?_append],?_⟩
 simp [List.set_append]
def yj (cmp : Nat → Nat → Int) (x y : Nat) : Bool:=decide (cmp x y < 0)
theorem yop (o : List Nat) : (cw 1 (o.map yh)).closed:=by
 cases o with
 | nil=>simp [cw,C.closed]
 | cons x l=>simp [cw,C.closed,yh]
theorem ymW (f : Nat) (a b : List C) : InF Try.prog yK (.c (.sl 1 [])) (.c (.sl 1 [])) [.c (.i 0),.c (.i 0),.fn f [.elt a,.elt b]] (.tup []):=by
 refine yfi yaK (by simp) (by simp) rfl fun hwf=>?_
 simp -dsimp -implicitDefEqProofs [yam]
 refine ⟨by unfold inI; omega,?_⟩
 refine yw (ι:=Unit) (fun _=>True) (fun _=>yaV [(2,.c (.i 0)),(8,.c (.i 1)),(1000000,.c (.sl 1 []))] []) (fun _=>0) () trivial (by apply yD <;> simp [AV.yc,AV.yJ,Obj.yc]) ?_
 rintro _ _
 simp -dsimp -implicitDefEqProofs
 simp [ydZ]
theorem yoZ (f : Nat) (a b : List C) : InF Try.prog yaq (.c (.sl 1 [])) (.c (.sl 1 [])) [.c (.i 0),.fn f [.elt a,.elt b]] (.tup []):=by
 refine yfi ybg (by simp) (by simp) rfl fun hwf=>?_
 simp -dsimp -implicitDefEqProofs [yaF]
 refine yw (ι:=Unit) (fun _=>True) (fun _=>yaV [(0,.c (.sl 1 [])),(1,.c (.i 0)),(2,.fn f [.elt a,.elt b]),(6,.c (.i 20)),(7,.c (.i 0)),(8,.c (.i 20)),(1000000,.c (.sl 1 []))] []) (fun _=>0) () trivial (by apply yD <;> simp [AV.yc,AV.yJ,Obj.yc]) ?_
 rintro _ _
 simp -dsimp -implicitDefEqProofs
 refine yaZ (up:=none) (ymW f a b) (by simp) rfl rfl (yrS rfl) ?_
 simp -dsimp -implicitDefEqProofs
 refine yw (ι:=Unit) (fun _=>True) (fun _=>yaV [(1,.c (.i 0)),(6,.c (.i 20)),(1000000,.c (.sl 1 []))] []) (fun _=>0) () trivial (by apply yD <;> simp [AV.yc,AV.yJ,Obj.yc]) ?_
 rintro _ _
 simp -dsimp -implicitDefEqProofs
 simp [ydZ]
theorem yjX (f : Nat) (a b : List C) : InF Try.prog yL (.c (.sl 1 [])) (.c (.sl 1 [])) [.fn f [.elt a,.elt b]] (.tup []):=by
 refine yfi yaJ (by simp) (by simp) rfl fun hwf=>?_
 simp -dsimp -implicitDefEqProofs [yal]
 refine yaZ (up:=none) (yoZ f a b) (by simp) rfl rfl (yrS rfl) ?_
 simp -dsimp -implicitDefEqProofs
 simp [ydZ]
def yig (list : List CallT) (now : Int) (x y : Nat) : Int :=
 match list[x]?,list[y]? with
 | some a,some b=>if before a b now then -1 else if before b a now then 1 else 0
 | _,_=>0
theorem ymH (list : List CallT) (now : Int) (hs : ya2 list) (x y : Nat) (hx : x < list.length) (hy : y < list.length) :
 yR Try.prog yaX [.c (.i x),.c (.i y),.elt [.sl 4 (list.map CallT.enc)],.elt [.i now]] (.c (.i (yig list now x y))):=by
 obtain ⟨a,ha⟩ : ∃ e,list[x]? = some e:=⟨_,List.getElem?_eq_getElem hx⟩
 obtain ⟨b,hb⟩ : ∃ e,list[y]? = some e:=⟨_,List.getElem?_eq_getElem hy⟩
 have g1:=(List.getElem?_eq_some_iff.1 ha).2
 have g2:=(List.getElem?_eq_some_iff.1 hb).2
 have sa:=hs.2 a (List.mem_of_getElem? ha)
 have sb:=hs.2 b (List.mem_of_getElem? hb)
 have e : yig list now x y = if before a b now then -1 else if before b a now then 1 else 0:=by simp [yig,ha,hb]
 rw [e]
 refine yF yf0 (by simp) fun hwf=>?_
 simp -dsimp -implicitDefEqProofs [ycX,ha,hb,g1,g2,hx,hy]
 first
  | refine yg (yQ a b now sa sb) (by simp) rfl ?_
  | refine yO (yQ a b now sa sb) (by simp) rfl ?_
  | refine ⟨_,_,yQ a b now sa sb,by simp,.inr rfl,?_⟩
  | refine ⟨_,_,yQ a b now sa sb,by simp,.inl rfl,?_⟩
  | refine yH (yQ a b now sa sb) (by simp) (.inr rfl) ?_
  | refine yH (yQ a b now sa sb) (by simp) (.inl rfl) ?_
 cases h1 : before a b now with
 | true=>simp -dsimp -implicitDefEqProofs
 | false =>
 simp -dsimp -implicitDefEqProofs [ha,hb,g1,g2,hx,hy]
 first
  | refine yg (yQ b a now sb sa) (by simp) rfl ?_
  | refine yO (yQ b a now sb sa) (by simp) rfl ?_
  | refine ⟨_,_,yQ b a now sb sa,by simp,.inr rfl,?_⟩
  | refine ⟨_,_,yQ b a now sb sa,by simp,.inl rfl,?_⟩
  | refine yH (yQ b a now sb sa) (by simp) (.inr rfl) ?_
  | refine yH (yQ b a now sb sa) (by simp) (.inl rfl) ?_
 cases h2 : before b a now with
 | true=>simp -dsimp -implicitDefEqProofs
 | false=>simp -dsimp -implicitDefEqProofs
def yaO (list : List CallT) (now : Int) (k : Nat) : List Nat:=(List.range k).filter fun i=>decide (yC (list[i]?.getD default) now ≠ 3)
theorem yh0 {list : List CallT} {now : Int} {k : Nat} {c : CallT} (h : list[k]? = some c) : yaO list now (k + 1) = if yC c now = 3 then yaO list now k else yaO list now k ++ [k]:=by
 unfold yaO
 rw [List.range_succ,List.filter_append]
 by_cases h2 : yC c now = 3 <;> simp [h,h2]
theorem ykt {list : List CallT} {now : Int} {k x : Nat} (h : x ∈ yaO list now k) : x < k:=by
 unfold yaO at h
 exact List.mem_range.1 (List.mem_filter.1 h).1
theorem ygC {list : List CallT} {now : Int} {k : Nat} : (yaO list now k).length ≤ k:=by
 unfold yaO
 exact Nat.le_trans (List.length_filter_le _ _) (by simp)
def ybf (list : List CallT) (now : Int) : List Nat:=sorted (yj (yig list now)) (yaO list now list.length)
structure SWO (lt : Nat → Nat → Bool) (S : Nat → Prop) : Prop where
 asym : ∀ x y,S x → S y → lt x y = true → lt y x = false
 trans : ∀ x y z,S x → S y → S z → lt x y = true → lt y z = true → lt x z = true
 neg : ∀ x y z,S x → S y → S z → lt x y = false → lt y z = false → lt x z = false
def tot (lt : Nat → Nat → Bool) (x y : Nat) : Prop:=lt x y = true ∨ (lt y x = false ∧ x < y)
section
variable {lt : Nat → Nat → Bool} {S : Nat → Prop}
theorem yfQ (h : SWO lt S) {x y z : Nat} (hx : S x) (hy : S y) (hz : S z) (h1 : tot lt x y) (h2 : tot lt y z) : tot lt x z:=by
 rcases h1 with h1 | ⟨h1,h1'⟩ <;> rcases h2 with h2 | ⟨h2,h2'⟩
 ·exact .inl (h.trans x y z hx hy hz h1 h2)
 ·left
  cases h3 : lt x z with
  | true=>rfl
  | false=>rw [h.neg x z y hx hz hy h3 h2] at h1; cases h1
 ·left
  cases h3 : lt x z with
  | true=>rfl
  | false=>rw [h.neg y x z hy hx hz h1 h3] at h2; cases h2
 ·exact .inr ⟨h.neg z y x hz hy hx h2 h1,by omega⟩
theorem yl3 (h : SWO lt S) {x y : Nat} (hx : S x) (hy : S y) (h1 : tot lt x y) (h2 : tot lt y x) : False:=by
 rcases h1 with h1 | ⟨h1,h1'⟩ <;> rcases h2 with h2 | ⟨h2,h2'⟩
 ·rw [h.asym x y hx hy h1] at h2; cases h2
 ·rw [h1] at h2; cases h2
 ·rw [h1] at h2; cases h2
 ·omega
theorem yoG {x y : Nat} (h : x ≠ y) : tot lt x y ∨ tot lt y x:=by
 cases h1 : lt x y with
 | true=>exact .inl (.inl h1)
 | false =>
  cases h2 : lt y x with
  | true=>exact .inr (.inl h2)
  | false =>
   rcases Nat.lt_or_gt_of_ne h with h | h
   ·exact .inl (.inr ⟨h2,h⟩)
   ·exact .inr (.inr ⟨h1,h⟩)
theorem ybc (h : SWO lt S) : ∀ {a b : List Nat},(∀ x ∈ a,S x) → a.Perm b → a.Pairwise (tot lt) → b.Pairwise (tot lt) → a = b
 | [],b,_,hp,_,_=>(List.nil_perm.1 hp).symm
 | x :: a,[],_,hp,_,_=>by simp at hp
 | x :: a,y :: b,hS,hp,ha,hb=>by
  rw [List.pairwise_cons] at ha hb
  have e : x = y:=by
   rcases Decidable.em (x = y) with e | e
   ·exact e
   ·have h1 : x ∈ b:=by
     have : x ∈ y :: b:=hp.mem_iff.1 (by simp)
     rcases List.mem_cons.1 this with h1 | h1
     ·exact absurd h1 e
     ·exact h1
    have h2 : y ∈ a:=by
     have : y ∈ x :: a:=hp.mem_iff.2 (by simp)
     rcases List.mem_cons.1 this with h2 | h2
     ·exact absurd h2.symm e
     ·exact h2
    exact (yl3 h (hS x (by simp)) (hS y (by simp [h2])) (ha.1 y h2) (hb.1 x h1)).elim
  subst e
  rw [ybc h (fun z hz=>hS z (by simp [hz])) hp.cons_inv ha.2 hb.2]
theorem ygm (h : SWO lt S) {x : Nat} (hx : S x) : ∀ {a : List Nat},(∀ y ∈ a,S y) → x ∉ a → a.Pairwise (tot lt) → ∃ b : List Nat,b.Perm (x :: a) ∧ b.Pairwise (tot lt)
 | [],_,_,_=>⟨[x],.refl _,by simp⟩
 | y :: a,hS,hn,ha=>by
  have hxy : x ≠ y:=fun e=>hn (by simp [e])
  rw [List.pairwise_cons] at ha
  rcases yoG (lt:=lt) hxy with h1 | h1
  ·refine ⟨x :: y :: a,.refl _,?_⟩
   rw [List.pairwise_cons,List.pairwise_cons]
   refine ⟨fun z hz=>?_,ha⟩
   rcases List.mem_cons.1 hz with rfl | hz
   ·exact h1
   ·exact yfQ h hx (hS y (by simp)) (hS z (by simp [hz])) h1 (ha.1 z hz)
  ·obtain ⟨b,hb1,hb2⟩:=ygm h hx (a:=a) (fun z hz=>hS z (by simp [hz])) (fun e=>hn (by simp [e])) ha.2
   refine ⟨y :: b,(hb1.cons y).trans (.swap _ _ _),?_⟩
   rw [List.pairwise_cons]
   refine ⟨fun z hz=>?_,hb2⟩
   rcases List.mem_cons.1 (hb1.mem_iff.1 hz) with rfl | hz
   ·exact h1
   ·exact ha.1 z hz
theorem ygd (h : SWO lt S) : ∀ {a : List Nat},(∀ y ∈ a,S y) → a.Nodup → ∃ b : List Nat,b.Perm a ∧ b.Pairwise (tot lt)
 | [],_,_=>⟨[],.refl _,by simp⟩
 | x :: a,hS,hn=>by
  rw [List.nodup_cons] at hn
  obtain ⟨b,h1,h2⟩:=ygd h (a:=a) (fun y hy=>hS y (by simp [hy])) hn.2
  obtain ⟨c,h3,h4⟩:=ygm h (hS x (by simp)) (a:=b) (fun y hy=>hS y (by simp [h1.mem_iff.1 hy])) (fun e=>hn.1 (h1.mem_iff.1 e)) h2
  exact ⟨c,h3.trans (h1.cons x),h4⟩
theorem yhN (h : SWO lt S) : ∀ {a : List Nat},(∀ y ∈ a,S y) → a.Pairwise (tot lt) → a.Nodup
 | [],_,_=>by simp
 | x :: a,hS,ha=>by
  rw [List.pairwise_cons] at ha
  rw [List.nodup_cons]
  refine ⟨fun e=>?_,yhN h (fun y hy=>hS y (by simp [hy])) ha.2⟩
  have:=ha.1 x e
  exact yl3 h (hS x (by simp)) (hS x (by simp)) this this
theorem ypC (h : SWO lt S) {x : Nat} {P : List Nat} (hx : S x) (hP : ∀ y ∈ P,S y) (hlt : ∀ y ∈ P,y < x) (hs : P.Pairwise (tot lt)) : (yh4 lt x P).Pairwise (tot lt):=by
 have e : (P.reverse.dropWhile (lt x)).reverse ++ (P.reverse.takeWhile (lt x)).reverse = P:=by
  rw [← List.reverse_append,List.takeWhile_append_dropWhile,List.reverse_reverse]
 have h2 : ∀ y ∈ (P.reverse.takeWhile (lt x)).reverse,lt x y = true:=fun y hy=>List.all_eq_true.1 List.all_takeWhile y (List.mem_reverse.1 hy)
 have h1 : ∀ l y,(P.reverse.dropWhile (lt x)).reverse = l ++ [y] → lt x y = false:=by
  intro l y he
  have he2 : P.reverse.dropWhile (lt x) = y :: l.reverse:=by
   have:=congrArg List.reverse he
   simpa using this
  have:=List.head?_dropWhile_not (lt x) P.reverse
  rw [he2] at this
  simpa using this
 unfold yh4
 generalize (P.reverse.dropWhile (lt x)).reverse = l1 at *
 generalize (P.reverse.takeWhile (lt x)).reverse = l2 at *
 subst e
 rw [List.pairwise_append] at hs ⊢
 obtain ⟨s1,s2,s3⟩:=hs
 refine ⟨s1,?_,fun a ha b hb=>?_⟩
 ·rw [List.pairwise_cons]; exact ⟨fun y hy=>.inl (h2 y hy),s2⟩
 ·rcases List.mem_cons.1 hb with rfl | hb
  ·rcases List.eq_nil_or_concat l1 with e | ⟨l,z,e⟩
   ·subst e; cases ha
   ·rw [List.concat_eq_append] at e
    have hz:=h1 l z e
    subst e
    have hzx : tot lt z b:=.inr ⟨hz,hlt z (by simp)⟩
    rcases List.mem_append.1 ha with ha' | ha'
    ·rw [List.pairwise_append] at s1
     exact yfQ h (hP a (by simp [ha'])) (hP z (by simp)) hx (s1.2.2 a ha' z (by simp)) hzx
    ·rw [List.mem_singleton] at ha'; subst ha'; exact hzx
  ·exact s3 a ha b hb
theorem ylM (h : SWO lt S) {xs : List Nat} (hS : ∀ y ∈ xs,S y) (hup : xs.Pairwise (·< ·)) : ∀ i : Nat,i ≤ xs.length → (ydt lt xs i).Pairwise (tot lt)
 | 0,_=>by simp [ydt]
 | i + 1,hi=>by
  have hx : xs[i]? = some (xs[i]'(by omega)):=List.getElem?_eq_getElem (by omega)
  have hp:=yfW (lt:=lt) (xs:=xs) i (by omega)
  rw [yc3 hx]
  refine ypC h (hS _ (List.getElem_mem _)) (fun y hy=>hS y (List.mem_of_mem_take (hp.mem_iff.1 hy))) (fun y hy=>?_) (ylM h hS hup i (by omega))
  obtain ⟨j,hj,rfl⟩:=List.mem_iff_getElem.1 (hp.mem_iff.1 hy)
  rw [List.length_take] at hj
  rw [List.getElem_take]
  exact List.pairwise_iff_getElem.1 hup j i _ _ (by omega)
theorem ygo (h : SWO lt S) {xs : List Nat} (hS : ∀ y ∈ xs,S y) (hup : xs.Pairwise (·< ·)) : (sorted lt xs).Pairwise (tot lt):=ylM h hS hup _ (Nat.le_refl _)
end
end Go.Proofs.Ytefegahoniahkaa
