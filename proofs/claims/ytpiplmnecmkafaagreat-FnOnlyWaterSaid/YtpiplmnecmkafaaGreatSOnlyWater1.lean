/- What the law FnOnlyWater stands on: contracts of functions, what each answers as plain Lean, in short form (names, layout). -/
import Derived.Test.YtpiplmnecmkafaaGreatSOnlyWaterA3
import Derived.Test.YtpiplmnecmkafaaGreatProg
import Derived.KernelRfl
import Derived.Test.YtpiplmnecmkafaaGreatSOnlyWaterA4
import Derived.Test.YtpiplmnecmkafaaGreatSOnlyWaterA7
import Derived.Test.YtpiplmnecmkafaaGreatSOnlyWaterA8
import Derived.Test.YtpiplmnecmkafaaGreatSOnlyWaterA9
import Derived.Test.YtpiplmnecmkafaaGreatSOnlyWaterA10
import Derived.Test.YtpiplmnecmkafaaGreatSOnlyWaterA11
import Derived.Test.YtpiplmnecmkafaaGreatSOnlyWaterA12
import Derived.Test.YtpiplmnecmkafaaGreatSOnlyWaterA13
import Derived.Test.YtpiplmnecmkafaaGreatSOnlyWaterA14
import Derived.Test.YtpiplmnecmkafaaGreatSOnlyWaterA15
import Derived.Test.YtpiplmnecmkafaaGreatSOnlyWaterA5
import Derived.Test.YtpiplmnecmkafaaGreatSOnlyWaterA6
set_option linter.all false
namespace Go.Proofs.YtpiplmnecmkafaaGreat
open Go.RowKit
abbrev kI (n : Int) : X:=.k (.c (.i n))
abbrev kB (b : Bool) : X:=.k (.c (.b b))
abbrev iv (d n : Nat) : Ins:=⟨none,some d,.mv (.t n)⟩
abbrev ia (d : Nat) (o : IOp) : Ins:=⟨none,some d,o⟩
abbrev ig (t : Nat) (b : Bool) (d : Nat) (o : IOp) : Ins:=⟨some (t,b),some d,o⟩
abbrev ie (o : IOp) : Ins:=⟨none,none,o⟩
abbrev fA (d k a : Nat) : Ins:=ia d (.fld k (.t a))
abbrev lA (d a : Nat) : Ins:=ia d (.ld1 (.t a))
abbrev dA (d k a : Nat) : Ins:=ia d (.ldn k (.t a))
abbrev xA (d k a b : Nat) : Ins:=ia d (.idx k (.t a) (.t b))
abbrev mA (d : Nat) (n : Int) : Ins:=ia d (.mv (kI n))
abbrev bA (d : Nat) (b : Bool) : Ins:=ia d (.mv (kB b))
abbrev nA (d a : Nat) : Ins:=ia d (.len (.t a))
abbrev pA (d a : Nat) (n : Int) : Ins:=ia d (.bin .add (.t a) (kI n))
abbrev tA (d a b : Nat) : Ins:=ia d (.bin .lss (.t a) (.t b))
abbrev oA (d : Nat) (o : BinOp) (a b : Nat) : Ins:=ia d (.bin o (.t a) (.t b))
abbrev oI (d : Nat) (o : BinOp) (a : Nat) (n : Int) : Ins:=ia d (.bin o (.t a) (kI n))
abbrev nN (d a : Nat) : Ins:=ia d (.not (.t a))
abbrev c1 (d f a : Nat) : Ins:=ia d (.call f [.t a])
abbrev c2 (d f a b : Nat) : Ins:=ia d (.call f [.t a,.t b])
abbrev c3 (d f a b c : Nat) : Ins:=ia d (.call f [.t a,.t b,.t c])
abbrev bZ (d k : Nat) : Ins:=ia d (.bsl k [])
abbrev bS (d k a : Nat) : Ins:=ia d (.bsl k [.t a])
abbrev aP (d k b x y : Nat) : Ins:=ia d (.app k b (.t x) (.t y))
abbrev pT (d a b : Nat) : Ins:=ia d (.pick (.t a) (kB true) (.t b))
abbrev pF (d a b : Nat) : Ins:=ia d (.pick (.t a) (.t b) (kB false))
abbrev eX (d i a : Nat) : Ins:=ia d (.ext i (.t a))
abbrev bX (d n a : Nat) : Ins:=ia d (.box n (.t a))
abbrev mN (d k : Nat) : Ins:=ia d (.mv (.k (.nil k)))
abbrev tS (a b : Nat) : Ins:=ie (.st1 (.t a) (.t b))
abbrev tN (n a b : Nat) : Ins:=ie (.stn n (.t a) (.t b))
abbrev gA (c : Nat) (b : Bool) (d k a : Nat) : Ins:=ig c b d (.fld k (.t a))
abbrev hA (c : Nat) (b : Bool) (d a : Nat) : Ins:=ig c b d (.ld1 (.t a))
abbrev g8 (c : Nat) (b : Bool) (d a : Nat) : Ins:=ig c b d (.mv (.t a))
abbrev g9 (c : Nat) (b : Bool) (d a : Nat) : Ins:=ig c b d (.not (.t a))
abbrev q0 (i : Ins) : RIns:=⟨0,false,[],i⟩
abbrev q1 (i : Ins) : RIns:=⟨1,false,[],i⟩
abbrev q2 (i : Ins) : RIns:=⟨2,false,[],i⟩
abbrev q3 (i : Ins) : RIns:=⟨0,true,[],i⟩
abbrev q4 (k : Nat) (n : Bool) (c : List Nat) (i : Ins) : RIns:=⟨k,n,c,i⟩
abbrev rR (l : List Ins) : SC:=.seq (.reg l) .ret
abbrev rS (l : List Ins) (c : SC) : SC:=.seq (.reg l) c
abbrev rQ (l : List Ins) (c : SC) : SC:=.seq (.regq l) c
abbrev rE (l : List RIns) (c : SC) : SC:=.seq (.rege l) c
abbrev cX (t n : Nat) : SC:=.cond (.t t) .skip (.exit n)
abbrev cI (t : Nat) (c : SC) : SC:=.cond (.t t) c .skip
abbrev cT (t : Nat) (a b : SC) : SC:=.cond (.t t) a b
abbrev iS (l : List Ins) (t : Nat) (c d : SC) : SC:=.seq (.seq (.reg l) (.cond (.t t) c .skip)) d
abbrev xS (l : List Ins) (t n : Nat) (d : SC) : SC:=.seq (.seq (.reg l) (.cond (.t t) .skip (.exit n))) d
abbrev bL (n : Nat) (c : SC) : SC:=.block n (.loop c)
theorem yA {P : Program} {f N : Nat} {c : SC} {rs : List RS} {fn : Func} (fl : Option (List Nat)) (hf : P.funcs[f]? = some fn) (h : (fn.ntmps,fn.body.bind (ygf fl P N),yep P fn.results.toList,decide (N ≤ ycZ)) = (N,some c,some rs,true)) : Has P f N c rs:=by
 simp only [Prod.mk.injEq,decide_eq_true_eq] at h
 obtain ⟨h1,h2,h3,h4⟩:=h
 cases hb : fn.body with
 | none=>rw [hb] at h2; cases h2
 | some code=>rw [hb] at h2; exact ⟨h4,fn,code,hf,hb,h1,⟨fl,h2⟩,h3⟩
section
variable {P : Program} {f N d : Nat} {c : SC} {rs : List RS} {avs args : List AV} {res : AV} {s : St} {K : St → Prop} {k : AV → Prop} {ob : Nat → Obj} {dd : Option Nat} {kN : St → Prop} {T : Tag (k,kN)} {T1 : Tag k}
theorem yh (hf : Has P f N c rs) (H : wpS P N c (yh2 args) (fun e s=>match e with | .exit _=>False | _=>yml s rs res)) (hN : args.length ≤ N:=by simp) : yB P f args res:=ywS hf hN fun _=>H
theorem yJu (hf : Has P f N c rs) (H : ygO args → wpS P N c (yh2 args) (fun e s=>match e with | .exit _=>False | _=>yml s rs res)) (hN : args.length ≤ N:=by simp) : yB P f args res:=ywS hf hN H
theorem yan (hf : Has P f N c rs) (H : wpS P N c (yh2 args) (fun e s=>match e with | .exit _=>False | _=>yiF s rs res)) (hN : args.length ≤ N:=by simp) : ybh P f args res:=yv3 hf hN fun _=>H
theorem yc (hp : yB P f args res) (hK : K (s.put dd res)) (ho : ybD s avs args:=by simp) (hs : res.scalar = true:=by rfl) : yfo P f avs dd s K:=yaQ hp ho hs hK
theorem yS (hp : yB P f args res) (hK : K (s.put dd res)) (ho : ybD s avs args:=by simp) (hs : avs.all AV.ycJ = true:=by rfl) : yfo P f avs dd s K:=yaP hp ho hs hK
theorem yaC (hp : yB P f args res) (hK : k res) (ho : ybD (ycF ob) avs args:=by simp) (hs : res.scalar = true:=by rfl) : ysj P f avs ob k T1:=⟨_,_,hp,ho,.inr hs,hK⟩
theorem yyA (hp : yB P f args res) (hK : k res) (ho : ybD (ycF ob) avs args:=by simp) (hs : avs.all AV.ycJ = true:=by rfl) : ysj P f avs ob k T1:=⟨_,_,hp,ho,.inl hs,hK⟩
theorem yb1 (hp : yB P f args res) (hK : k res) (ho : ybD s avs args:=by simp) (hs : res.scalar = true:=by rfl) : ylY P f avs dd s k kN T:=ya2 hp ho (.inr hs) hK
theorem yY (hp : yB P f args res) (hK : k res) (ho : ybD s avs args:=by simp) (hs : avs.all AV.ycJ = true:=by rfl) : ylY P f avs dd s k kN T:=ya2 hp ho (.inl hs) hK
end
attribute [simp] AV.ygy AV.ymf Obj.ygy
theorem yZq : Has Tryz.prog 5 6 (rS [bA 2 false] (rR [iv 3 0,nA 4 3,oI 5 .gtr 4 1048576,iv 2 5])) [.t 2]:=yA none Tryz.func5 (by kernel_rfl)
theorem yaaL : Has Tryz.prog 6 28 (rS [ia 2 (.alloc [.c (.i 0),.nil 3,.nil 2,.nil 22,.nil 1,.nil 2,.nil 1,.c (.i 0),.c (.i 0),.nil 1,.nil 1,.nil 5,.nil 4,.c (.i 0),.c (.i 0),.c (.i 0)]),mN 3 2] (rS [iv 8 0,c1 9 16 8,iv 4 9] (rS [iv 10 4,c1 11 17 10,ia 5 (.alloc [.c (.i 0),.nil 3,.nil 2,.nil 22,.nil 1,.nil 2,.nil 1,.c (.i 0),.c (.i 0),.nil 1,.nil 1,.nil 5,.nil 4,.c (.i 0),.c (.i 0),.c (.i 0)]),tN 16 5 11] (rS [bZ 12 2,iv 6 12] (.seq (rS [iv 13 4,ia 14 (.call 18 [.t 13,kI 9]),iv 7 14] (bL 0 (xS [iv 15 7,oI 16 .gtr 15 0] 16 0 (.seq (.block 1 (.reg [iv 19 6,iv 20 4,iv 21 7,ia 22 (.bin .mul (kI 10) (.t 21)),c2 23 19 20 22,bS 24 2 23,aP 25 2 32 19 24,iv 6 25])) (.reg [iv 17 7,oI 18 .sub 17 1,iv 7 18]))))) (rR [dA 26 16 5,iv 27 6,tN 16 2 26,iv 3 27])))))) [.cl 2 16,.t 3]:=yA none Tryz.func6 (by kernel_rfl)
theorem yUX : Has Tryz.prog 9 83 (rS [bX 1 16 0,mN 2 1] (rS [mN 3 1] (.seq (rS [fA 16 4 1,lA 17 16,nA 18 17,mA 19 0] (bL 0 (rS [tA 20 19 18] (.seq (cX 20 0) (.seq (.block 1 (rS [xA 21 1 17 19,lA 22 21,iv 5 22] (rS [iv 23 5,nA 24 23,mA 25 0] (bL 2 (rS [tA 26 25 24] (.seq (cX 26 2) (.seq (.block 3 (rS [xA 27 3 23 25,dA 28 3 27,ia 7 (.alloc [.c (.b false),.nil 1,.c (.i 0)]),tN 3 7 28] (.reg [iv 29 3,fA 30 0 7,dA 31 2 30,c1 32 22 31,aP 33 1 8 29 32,iv 3 33]))) (.reg [pA 34 25 1,iv 25 34])))))))) (.reg [pA 35 19 1,iv 19 35])))))) (.seq (rS [fA 36 3 1,lA 37 36,nA 38 37,mA 39 0] (bL 4 (rS [tA 40 39 38] (.seq (cX 40 4) (.seq (.block 5 (rS [xA 41 22 37 39,dA 42 22 41,ia 9 (.alloc [.c (.i 0),.c (.i 0),.c (.i 0),.c (.i 0),.c (.i 0),.c (.i 0),.c (.i 0),.c (.i 0),.c (.i 0),.nil 2,.c (.i 0),.c (.i 0),.c (.i 0),.c (.i 0),.c (.i 0),.c (.i 0),.c (.i 0),.c (.i 0),.nil 2,.c (.b false),.c (.i 0),.nil 4]),tN 22 9 42] (.seq (rS [fA 43 21 9,lA 44 43,nA 45 44,mA 46 0] (bL 6 (rS [tA 47 46 45] (.seq (cX 47 6) (.seq (.block 7 (rS [xA 48 4 44 46,dA 49 4 48,ia 11 (.alloc [.c (.b false),.nil 1,.c (.i 0),.c (.i 0)]),tN 4 11 49] (.reg [iv 50 3,fA 51 0 11,dA 52 2 51,c1 53 22 52,aP 54 1 8 50 53,iv 3 54]))) (.reg [pA 55 46 1,iv 46 55])))))) (rS [fA 56 0 9,fA 57 9 56,lA 58 57,nA 59 58,mA 60 0] (bL 8 (rS [tA 61 60 59] (.seq (cX 61 8) (.seq (.block 9 (rS [xA 62 2 58 60,dA 63 2 62,ia 13 (.alloc [.c (.b false),.nil 1]),tN 2 13 63] (.reg [iv 64 3,dA 65 2 13,c1 66 22 65,aP 67 1 8 64 66,iv 3 67]))) (.reg [pA 68 60 1,iv 60 68]))))))))) (.reg [pA 69 39 1,iv 39 69])))))) (.seq (rS [fA 70 5 1,lA 71 70,nA 72 71,mA 73 0] (bL 10 (rS [tA 74 73 72] (.seq (cX 74 10) (.seq (.block 11 (rS [xA 75 2 71 73,dA 76 2 75,ia 15 (.alloc [.c (.b false),.nil 1]),tN 2 15 76] (.reg [iv 77 3,dA 78 2 15,c1 79 22 78,aP 80 1 8 77 79,iv 3 80]))) (.reg [pA 81 73 1,iv 73 81])))))) (rR [iv 82 3,iv 2 82])))))) [.t 2]:=yA none Tryz.func9 (by kernel_rfl)
theorem yVP : Has Tryz.prog 14 18 (rS [bX 1 16 0,bA 2 false] (rQ [dA 3 16 1,c1 4 15 3,iv 5 4,ig 5 true 6 (.ldn 16 (.t 1)),ig 5 true 7 (.call 33 [.t 6]),gA 5 true 8 15 1,hA 5 true 9 8,ig 5 true 10 (.bin .add (.t 7) (.t 9)),gA 5 true 11 13 1,hA 5 true 12 11,gA 5 true 13 14 1,hA 5 true 14 13,ig 5 true 15 (.bin .add (.t 12) (.t 14)),ig 5 true 16 (.bin .eql (.t 10) (.t 15)),pF 17 5 16,iv 2 17] .ret)) [.t 2]:=yA none Tryz.func14 (by kernel_rfl)
theorem yK1 : Has Tryz.prog 139 9 (.reg [iv 4 0,iv 5 0,nA 6 5,iv 7 1,c3 8 174 4 6 7]) []:=yA none Tryz.func139 (by kernel_rfl)
theorem ypw : Has Tryz.prog 142 55 (rS [bA 2 false] (iS [iv 5 0,nA 6 5,oI 7 .lss 6 2,iv 8 7,g8 8 false 9 0,ig 8 false 10 (.len (.t 9)),ig 8 false 11 (.bin .gtr (.t 10) (kI 20)),pT 12 8 11] 12 (rR [bA 2 false]) (.seq (rS [iv 13 0,nA 14 13,mA 15 0] (bL 0 (rS [tA 16 15 14] (.seq (cX 16 0) (.seq (.block 1 (rS [iv 17 15,xA 18 2 13 15,dA 19 2 18,ia 4 (.alloc [.c (.i 0),.c (.i 0)]),iv 3 17,tN 2 4 19] (iS [fA 20 0 4,lA 21 20,ia 22 (.call 31 [.t 21,kI 0,kI 1000000000]),nN 23 22,iv 24 23,gA 24 false 25 1 4,hA 24 false 26 25,ig 24 false 27 (.call 31 [.t 26,kI 0,kI 1000000000]),g9 24 false 28 27,pT 29 24 28] 29 (rR [bA 2 false]) (rQ [iv 30 3,oI 31 .gtr 30 0,iv 32 31,g8 32 true 33 0,g8 32 true 34 3,ig 32 true 35 (.bin .sub (.t 34) (kI 1)),ig 32 true 36 (.idx 2 (.t 33) (.t 35)),gA 32 true 37 0 36,hA 32 true 38 37,gA 32 true 39 0 4,hA 32 true 40 39,ig 32 true 41 (.bin .geq (.t 38) (.t 40)),g8 32 true 42 41,g8 42 false 43 0,g8 42 false 44 3,ig 42 false 45 (.bin .sub (.t 44) (kI 1)),ig 42 false 46 (.idx 2 (.t 43) (.t 45)),gA 42 false 47 1 46,hA 42 false 48 47,gA 42 false 49 1 4,hA 42 false 50 49,ig 42 false 51 (.bin .gtr (.t 48) (.t 50)),ig 32 true 52 (.pick (.t 42) (kB true) (.t 51)),pF 53 32 52] (cI 53 (rR [bA 2 false])))))) (.reg [pA 54 15 1,iv 15 54])))))) (rR [bA 2 true])))) [.t 2]:=yA none Tryz.func142 (by kernel_rfl)
theorem ypn : Has Tryz.prog 168 25 (rS [bX 1 10 0,ia 2 (.alloc [.c (.i 0),.c (.i 0),.c (.i 0),.c (.i 0),.c (.i 0),.c (.i 0),.c (.i 0),.c (.i 0),.c (.i 0),.nil 2])] (rS [bZ 5 2,iv 3 5] (.seq (rS [mA 4 0] (bL 0 (xS [iv 6 4,fA 7 9 1,lA 8 7,nA 9 8,tA 10 6 9] 10 0 (.seq (.block 1 (.reg [iv 13 3,fA 14 9 1,lA 15 14,iv 16 4,xA 17 2 15 16,dA 18 2 17,c1 19 129 18,bS 20 2 19,aP 21 2 32 13 20,iv 3 21])) (.reg [iv 11 4,pA 12 11 1,iv 4 12]))))) (rS [iv 22 3,fA 23 9 1,tS 23 22] (rR [dA 24 10 1,tN 10 2 24]))))) [.cl 2 10]:=yA none Tryz.func168 (by kernel_rfl)
theorem yog : Has Tryz.prog 169 32 (rS [bA 2 false] (rS [mA 3 0] (.seq (rS [mA 4 0] (bL 0 (xS [iv 5 4,iv 6 0,nA 7 6,tA 8 5 7] 8 0 (.seq (.block 1 (iS [iv 11 0,iv 12 4,xA 13 3 11 12,dA 14 3 13,c1 15 81 14,nN 16 15] 16 (rR [bA 2 false]) (.reg [iv 17 3,iv 18 0,iv 19 4,xA 20 3 18 19,dA 21 3 20,c1 22 125 21,oA 23 .add 17 22,ia 24 (.mn [.t 23,kI 1000000001]),iv 3 24]))) (.reg [iv 9 4,pA 10 9 1,iv 4 10]))))) (rR [iv 25 0,nA 26 25,ia 27 (.call 79 [.t 26,kI 1,kI 6]),iv 28 27,g8 28 true 29 3,ig 28 true 30 (.bin .leq (.t 29) (kI 1000000000)),pF 31 28 30,iv 2 31])))) [.t 2]:=yA none Tryz.func169 (by kernel_rfl)
theorem yss : Has Tryz.prog 170 11 (rS [bX 1 2 0,bA 2 false] (rR [fA 3 0 1,lA 4 3,ia 5 (.call 79 [.t 4,kI 1,kI 10000]),iv 6 5,gA 6 true 7 1 1,hA 6 true 8 7,ig 6 true 9 (.call 183 [.t 8]),pF 10 6 9,iv 2 10])) [.t 2]:=yA none Tryz.func170 (by kernel_rfl)
theorem yqn : Has Tryz.prog 171 47 (rS [bX 1 22 0,bA 2 false] (.seq (rS [mA 3 0] (bL 0 (xS [iv 4 3,fA 5 21 1,lA 6 5,nA 7 6,tA 8 4 7] 8 0 (.seq (.block 1 (rS [fA 11 21 1,lA 12 11,iv 13 3,xA 14 4 12 13,dA 15 4 14,c1 16 184 15,nN 17 16] (cI 17 (rR [bA 2 false])))) (.reg [iv 9 3,pA 10 9 1,iv 3 10]))))) (rR [fA 18 21 1,lA 19 18,nA 20 19,oI 21 .leq 20 24,iv 22 21,gA 22 true 23 0 1,ig 22 true 24 (.ldn 10 (.t 23)),ig 22 true 25 (.call 185 [.t 24]),pF 26 22 25,iv 27 26,gA 27 true 28 10 1,ig 27 true 29 (.ldn 5 (.t 28)),ig 27 true 30 (.call 186 [.t 29]),pF 31 27 30,iv 32 31,gA 32 true 33 15 1,ig 32 true 34 (.ldn 3 (.t 33)),ig 32 true 35 (.call 187 [.t 34]),pF 36 32 35,iv 37 36,gA 37 true 38 18 1,hA 37 true 39 38,ig 37 true 40 (.call 40 [.t 39]),pF 41 37 40,iv 42 41,gA 42 true 43 19 1,ig 42 true 44 (.ldn 2 (.t 43)),ig 42 true 45 (.call 188 [.t 44]),pF 46 42 45,iv 2 46]))) [.t 2]:=yA none Tryz.func171 (by kernel_rfl)
theorem ypB : Has Tryz.prog 172 19 (rS [bX 2 3 0,bX 3 2 1,bA 4 false] (rR [dA 5 2 3,c1 6 170 5,iv 7 6,gA 7 true 8 0 2,ig 7 true 9 (.ldn 2 (.t 8)),ig 7 true 10 (.call 61 [.t 9]),pF 11 7 10,iv 12 11,gA 12 true 13 2 2,hA 12 true 14 13,gA 12 true 15 0 3,hA 12 true 16 15,ig 12 true 17 (.call 79 [.t 14,kI 0,.t 16]),pF 18 12 17,iv 4 18])) [.t 4]:=yA none Tryz.func172 (by kernel_rfl)
theorem yqb : Has Tryz.prog 173 33 (rS [bX 1 5 0,bA 2 false] (rR [fA 3 0 1,lA 4 3,fA 5 1 1,lA 6 5,oA 7 .neq 4 6,iv 8 7,gA 8 true 9 0 1,hA 8 true 10 9,ig 8 true 11 (.call 79 [.t 10,kI 0,kI 11]),pF 12 8 11,iv 13 12,gA 13 true 14 1 1,hA 13 true 15 14,ig 13 true 16 (.call 79 [.t 15,kI 0,kI 11]),pF 17 13 16,iv 18 17,gA 18 true 19 2 1,hA 18 true 20 19,ig 18 true 21 (.call 79 [.t 20,kI 1,kI 1000000000]),pF 22 18 21,iv 23 22,gA 23 true 24 3 1,hA 23 true 25 24,ig 23 true 26 (.call 79 [.t 25,kI 0,kI 1000000]),pF 27 23 26,iv 28 27,gA 28 true 29 4 1,hA 28 true 30 29,ig 28 true 31 (.call 79 [.t 30,kI 0,kI 9999]),pF 32 28 31,iv 2 32])) [.t 2]:=yA none Tryz.func173 (by kernel_rfl)
theorem yK5 : Has Tryz.prog 174 63 (rS [mA 6 20] (rS [iv 10 6,mA 7 0,iv 8 10] (.seq (bL 0 (xS [iv 11 8,iv 12 1,oA 13 .leq 11 12] 13 0 (.block 1 (rS [iv 14 0,iv 15 7,iv 16 8,iv 17 2,ia 18 (.call 189 [.t 14,.t 15,.t 16,.t 17])] (rS [iv 19 8,iv 7 19] (.reg [iv 20 8,iv 21 6,oA 22 .add 20 21,iv 8 22])))))) (rS [iv 23 0,iv 24 7,iv 25 1,iv 26 2,ia 27 (.call 189 [.t 23,.t 24,.t 25,.t 26])] (bL 2 (xS [iv 28 6,iv 29 1,tA 30 28 29] 30 2 (.block 3 (rS [iv 31 6,ia 32 (.bin .mul (kI 2) (.t 31)),mA 7 0,iv 8 32] (.seq (bL 4 (xS [iv 33 8,iv 34 1,oA 35 .leq 33 34] 35 4 (.block 5 (rS [iv 36 0,iv 37 7,iv 38 7,iv 39 6,oA 40 .add 38 39,iv 41 8,iv 42 2,ia 43 (.call 190 [.t 36,.t 37,.t 40,.t 41,.t 42])] (rS [iv 44 8,iv 7 44] (.reg [iv 45 8,iv 46 6,ia 47 (.bin .mul (kI 2) (.t 46)),oA 48 .add 45 47,iv 8 48])))))) (.seq (rS [iv 49 7,iv 50 6,oA 51 .add 49 50,iv 9 51] (rS [iv 52 9,iv 53 1,tA 54 52 53] (cI 54 (.reg [iv 55 0,iv 56 7,iv 57 9,iv 58 1,iv 59 2,ia 60 (.call 190 [.t 55,.t 56,.t 57,.t 58,.t 59])])))) (.reg [iv 61 6,oI 62 .mul 61 2,iv 6 62]))))))))))) []:=yA none Tryz.func174 (by kernel_rfl)
theorem ynt : Has Tryz.prog 183 5 (rS [bA 2 false] (rR [iv 3 0,ia 4 (.call 79 [.t 3,kI 0,kI 100000]),iv 2 4])) [.t 2]:=yA none Tryz.func183 (by kernel_rfl)
theorem yqt : Has Tryz.prog 184 16 (rS [bX 1 4 0,bA 2 false] (rR [fA 3 0 1,dA 4 2 3,c1 5 61 4,iv 6 5,gA 6 true 7 2 1,hA 6 true 8 7,ig 6 true 9 (.call 79 [.t 8,kI 0,kI 1000000]),pF 10 6 9,iv 11 10,gA 11 true 12 3 1,hA 11 true 13 12,ig 11 true 14 (.call 79 [.t 13,kI (-1),kI 1000000]),pF 15 11 14,iv 2 15])) [.t 2]:=yA none Tryz.func184 (by kernel_rfl)
theorem yra : Has Tryz.prog 185 51 (rS [bX 1 10 0,bA 2 false] (rR [fA 3 0 1,lA 4 3,ia 5 (.call 79 [.t 4,kI 1,kI 1000]),iv 6 5,gA 6 true 7 1 1,hA 6 true 8 7,ig 6 true 9 (.call 79 [.t 8,kI 1,kI 100]),pF 10 6 9,iv 11 10,gA 11 true 12 2 1,hA 11 true 13 12,ig 11 true 14 (.call 183 [.t 13]),pF 15 11 14,iv 16 15,gA 16 true 17 3 1,hA 16 true 18 17,ig 16 true 19 (.call 183 [.t 18]),pF 20 16 19,iv 21 20,gA 21 true 22 4 1,hA 21 true 23 22,ig 21 true 24 (.call 183 [.t 23]),pF 25 21 24,iv 26 25,gA 26 true 27 5 1,hA 26 true 28 27,ig 26 true 29 (.call 79 [.t 28,kI 1,kI 10000]),pF 30 26 29,iv 31 30,gA 31 true 32 6 1,hA 31 true 33 32,ig 31 true 34 (.call 79 [.t 33,kI 1,kI 100000]),pF 35 31 34,iv 36 35,gA 36 true 37 7 1,hA 36 true 38 37,ig 36 true 39 (.call 79 [.t 38,kI 0,kI 1000000000]),pF 40 36 39,iv 41 40,gA 41 true 42 8 1,hA 41 true 43 42,ig 41 true 44 (.call 79 [.t 43,kI 0,kI 2]),pF 45 41 44,iv 46 45,gA 46 true 47 9 1,hA 46 true 48 47,ig 46 true 49 (.call 191 [.t 48]),pF 50 46 49,iv 2 50])) [.t 2]:=yA none Tryz.func185 (by kernel_rfl)
theorem yq7 : Has Tryz.prog 186 29 (rS [bX 1 5 0,bA 2 false] (rR [fA 3 0 1,lA 4 3,ia 5 (.call 79 [.t 4,kI 1,kI 8]),iv 6 5,gA 6 true 7 1 1,hA 6 true 8 7,gA 6 true 9 0 1,hA 6 true 10 9,ig 6 true 11 (.bin .mul (kI 10) (.t 10)),ig 6 true 12 (.call 79 [.t 8,kI 0,.t 11]),pF 13 6 12,iv 14 13,gA 14 true 15 2 1,hA 14 true 16 15,ig 14 true 17 (.call 79 [.t 16,kI 1,kI 80]),pF 18 14 17,iv 19 18,gA 19 true 20 3 1,hA 19 true 21 20,ig 19 true 22 (.call 79 [.t 21,kI 0,kI 100000]),pF 23 19 22,iv 24 23,gA 24 true 25 4 1,hA 24 true 26 25,ig 24 true 27 (.call 79 [.t 26,kI 1,kI 1000]),pF 28 24 27,iv 2 28])) [.t 2]:=yA none Tryz.func186 (by kernel_rfl)
theorem yq6 : Has Tryz.prog 187 30 (rS [bX 1 3 0,bA 2 false] (rR [fA 3 0 1,lA 4 3,c1 5 183 4,iv 6 5,gA 6 true 7 1 1,hA 6 true 8 7,ig 6 true 9 (.call 183 [.t 8]),pF 10 6 9,iv 11 10,gA 11 true 12 2 1,hA 11 true 13 12,ig 11 true 14 (.call 183 [.t 13]),pF 15 11 14,iv 16 15,gA 16 true 17 0 1,hA 16 true 18 17,gA 16 true 19 1 1,hA 16 true 20 19,ig 16 true 21 (.bin .lss (.t 18) (.t 20)),pF 22 16 21,iv 23 22,gA 23 true 24 1 1,hA 23 true 25 24,gA 23 true 26 2 1,hA 23 true 27 26,ig 23 true 28 (.bin .leq (.t 25) (.t 27)),pF 29 23 28,iv 2 29])) [.t 2]:=yA none Tryz.func187 (by kernel_rfl)
theorem yrl : Has Tryz.prog 188 6 (rS [bX 1 2 0,bA 2 false] (rR [fA 3 1 1,lA 4 3,ia 5 (.call 79 [.t 4,kI 0,kI 1000000]),iv 2 5])) [.t 2]:=yA none Tryz.func188 (by kernel_rfl)
theorem yKZ : Has Tryz.prog 189 53 (rS [iv 10 1,pA 11 10 1,iv 8 11] (bL 0 (xS [iv 12 8,iv 13 2,tA 14 12 13] 14 0 (.seq (.block 1 (rS [iv 17 8,iv 9 17] (bL 2 (.seq (rQ [iv 18 9,iv 19 1,oA 20 .gtr 18 19,iv 21 20,g8 21 true 22 3,g8 21 true 23 0,g8 21 true 24 9,ig 21 true 25 (.idx 1 (.t 23) (.t 24)),hA 21 true 26 25,g8 21 true 27 0,g8 21 true 28 9,ig 21 true 29 (.bin .sub (.t 28) (kI 1)),ig 21 true 30 (.idx 1 (.t 27) (.t 29)),hA 21 true 31 30,ig 21 true 32 (.callv (.t 22) [.t 26,.t 31]),ig 21 true 33 (.bin .lss (.t 32) (kI 0)),pF 34 21 33] (cX 34 2)) (.seq (.block 3 (.rege [q0 (iv 37 0),q0 (iv 38 9),q3 (iv 39 0),q3 (iv 40 9),q3 (oI 41 .sub 40 1),q0 (iv 42 0),q0 (iv 43 9),q0 (oI 44 .sub 43 1),q0 (xA 45 1 42 44),q0 (lA 46 45),q0 (iv 47 0),q0 (iv 48 9),q0 (xA 49 1 47 48),q0 (lA 50 49),q0 (xA 51 1 37 38),q4 2 false [2,3,4] (tS 51 46),q0 (xA 52 1 39 41),q2 (tS 52 50)])) (.reg [iv 35 9,oI 36 .sub 35 1,iv 9 36])))))) (.reg [iv 15 8,pA 16 15 1,iv 8 16]))))) []:=yA none Tryz.func189 (by kernel_rfl)
theorem ylX : Has Tryz.prog 191 23 (rS [bA 2 false] (.seq (rS [mA 3 0] (bL 0 (xS [iv 4 3,iv 5 0,nA 6 5,tA 7 4 6] 7 0 (.seq (.block 1 (rS [iv 10 0,iv 11 3,xA 12 2 10 11,dA 13 2 12,c1 14 61 13,nN 15 14,iv 16 15,g8 16 false 17 0,ig 16 false 18 (.len (.t 17)),ig 16 false 19 (.bin .gtr (.t 18) (kI 8)),pT 20 16 19] (cI 20 (rR [bA 2 false])))) (.reg [iv 8 3,pA 9 8 1,iv 3 9]))))) (rR [iv 21 0,c1 22 193 21,iv 2 22]))) [.t 2]:=yA none Tryz.func191 (by kernel_rfl)
theorem yjO : Has Tryz.prog 193 44 (rS [bA 2 false] (rS [bZ 8 1,iv 3 8] (.seq (rS [mA 4 0] (bL 0 (xS [iv 9 4,iv 10 0,nA 11 10,tA 12 9 11] 12 0 (.seq (.block 1 (rS [iv 15 0,iv 16 4,xA 17 2 15 16,dA 18 2 17,c1 19 195 18,iv 5 19] (.seq (rS [mA 6 0] (bL 2 (xS [iv 20 6,iv 21 5,nA 22 21,tA 23 20 22] 23 2 (.seq (.block 3 (rS [mA 7 0] (bL 4 (xS [iv 26 7,iv 27 3,nA 28 27,tA 29 26 28] 29 4 (.seq (.block 5 (rQ [iv 32 3,iv 33 7,xA 34 1 32 33,lA 35 34,iv 36 5,iv 37 6,xA 38 1 36 37,lA 39 38,oA 40 .eql 35 39] (cI 40 (rR [bA 2 false])))) (.reg [iv 30 7,pA 31 30 1,iv 7 31])))))) (.reg [iv 24 6,pA 25 24 1,iv 6 25]))))) (.reg [iv 41 3,iv 42 5,aP 43 1 8 41 42,iv 3 43])))) (.reg [iv 13 4,pA 14 13 1,iv 4 14]))))) (rR [bA 2 true])))) [.t 2]:=yA none Tryz.func193 (by kernel_rfl)
theorem ysG : Has Tryz.prog 195 28 (rS [bX 1 2 0,mN 2 1] (rS [bZ 6 1,iv 3 6] (rS [dA 7 2 1,c1 8 89 7,iv 4 8] (.seq (rS [mA 5 0] (bL 0 (xS [iv 9 5,iv 10 4,nA 11 10,tA 12 9 11,iv 13 12,ig 13 true 14 (.ldn 2 (.t 1)),ig 13 true 15 (.call 61 [.t 14]),pF 16 13 15] 16 0 (.seq (.block 1 (.reg [iv 19 3,iv 20 4,iv 21 5,xA 22 6 20 21,fA 23 0 22,lA 24 23,bS 25 1 24,aP 26 1 8 19 25,iv 3 26])) (.reg [iv 17 5,pA 18 17 1,iv 5 18]))))) (rR [iv 27 3,iv 2 27]))))) [.t 2]:=yA none Tryz.func195 (by kernel_rfl)
theorem yacD : Has Tryz.prog 4 67 (rS [bA 2 false] (iS [iv 7 0,c1 8 5 7] 8 (rR [bA 2 true]) (rS [iv 10 0,c1 11 6 10,iv 9 11,eX 12 0 9,eX 13 1 9,ia 3 (.alloc [.c (.i 0),.nil 3,.nil 2,.nil 22,.nil 1,.nil 2,.nil 1,.c (.i 0),.c (.i 0),.nil 1,.nil 1,.nil 5,.nil 4,.c (.i 0),.c (.i 0),.c (.i 0)]),tN 16 3 12,iv 4 13] (rS [iv 14 0,ia 15 (.call 12 [.t 14,kI 0]),oI 16 .rem 15 9,ia 17 (.bin .mul (kI 40) (.t 16)),iv 5 17] (rS [dA 18 16 3,iv 19 5,ia 20 (.call 13 [.t 18,.t 19,kI 30]),ia 6 (.alloc [.c (.i 0),.nil 3,.nil 2,.nil 22,.nil 1,.nil 2,.nil 1,.c (.i 0),.c (.i 0),.nil 1,.nil 1,.nil 5,.nil 4,.c (.i 0),.c (.i 0),.c (.i 0)]),tN 16 6 20] (rR [fA 21 14 6,lA 22 21,iv 23 5,ia 24 (.bin .mul (kI 30) (.t 23)),oA 25 .eql 22 24,iv 26 25,ig 26 true 27 (.ldn 16 (.t 6)),ig 26 true 28 (.call 14 [.t 27]),pF 29 26 28,iv 30 29,gA 30 true 31 15 6,hA 30 true 32 31,gA 30 true 33 13 6,hA 30 true 34 33,gA 30 true 35 14 6,hA 30 true 36 35,ig 30 true 37 (.bin .add (.t 34) (.t 36)),ig 30 true 38 (.bin .leq (.t 32) (.t 37)),pF 39 30 38,iv 40 39,gA 40 true 41 12 6,hA 40 true 42 41,ig 40 true 43 (.len (.t 42)),ig 40 true 44 (.bin .eql (.t 43) (kI 0)),pF 45 40 44,iv 46 45,gA 46 true 47 11 6,hA 46 true 48 47,ig 46 true 49 (.len (.t 48)),ig 46 true 50 (.bin .eql (.t 49) (kI 0)),pF 51 46 50,iv 52 51,ig 52 true 53 (.ldn 16 (.t 6)),ig 52 true 54 (.call 9 [.t 53]),ig 52 true 55 (.len (.t 54)),ig 52 true 56 (.bin .eql (.t 55) (kI 0)),pF 57 52 56,iv 58 57,gA 58 true 59 0 6,hA 58 true 60 59,ig 58 true 61 (.bin .eql (.t 60) (kI 30)),pF 62 58 61,iv 63 62,ig 63 true 64 (.ldn 16 (.t 6)),ig 63 true 65 (.call 15 [.t 64]),pF 66 63 65,iv 2 66])))))) [.t 2]:=yA none Tryz.func4 (by kernel_rfl)
def yaeT : SC:=rS [mA 4 0] (iS [iv 5 0,nA 6 5,oI 7 .eql 6 0] 7 (rR [mA 4 0]) (rR [iv 8 0,iv 9 1,oI 10 .mul 9 5,pA 11 10 1,iv 12 0,nA 13 12,oA 14 .rem 11 13,xA 15 1 8 14,lA 16 15,ia 17 (.cvt 0 (.t 16)),iv 4 17]))
theorem yafW : Has Tryz.prog 12 18 yaeT [.t 4]:=yA none Tryz.func12 (by kernel_rfl)
theorem yacb : Has Tryz.prog 13 18 (rS [bX 3 16 0,ia 6 (.alloc [.c (.i 0),.nil 3,.nil 2,.nil 22,.nil 1,.nil 2,.nil 1,.c (.i 0),.c (.i 0),.nil 1,.nil 1,.nil 5,.nil 4,.c (.i 0),.c (.i 0),.c (.i 0)])] (iS [iv 7 2,ia 8 (.call 31 [.t 7,kI 0,kI 2000])] 8 (rS [iv 9 2,mA 10 0] (bL 0 (rS [tA 11 10 9] (.seq (cX 11 0) (.seq (.block 1 (.reg [dA 12 16 3,iv 13 1,c2 14 32 12 13,tN 16 3 14])) (.reg [pA 15 10 1,iv 10 15])))))) (rR [dA 16 16 3,c1 17 21 16,tN 16 6 17]))) [.cl 6 16]:=yA none Tryz.func13 (by kernel_rfl)
theorem yaft : Has Tryz.prog 32 38 (rS [bX 2 16 0,ia 4 (.alloc [.c (.i 0),.nil 3,.nil 2,.nil 22,.nil 1,.nil 2,.nil 1,.c (.i 0),.c (.i 0),.nil 1,.nil 1,.nil 5,.nil 4,.c (.i 0),.c (.i 0),.c (.i 0)])] (iS [dA 7 16 2,c1 8 15 7,nN 9 8,iv 10 9,gA 10 false 11 0 2,hA 10 false 12 11,ig 10 false 13 (.bin .eql (.t 12) (kI 1000000)),pT 14 10 13,iv 15 14,g8 15 false 16 1,ig 15 false 17 (.call 31 [.t 16,kI 0,kI 1000000000]),g9 15 false 18 17,pT 19 15 18] 19 (rR [dA 20 16 2,tN 16 4 20]) (rS [dA 21 16 2,iv 22 1,c2 23 71 21 22,iv 24 1,c2 25 70 23 24,c1 26 69 25,ia 5 (.alloc [.c (.i 0),.nil 3,.nil 2,.nil 22,.nil 1,.nil 2,.nil 1,.c (.i 0),.c (.i 0),.nil 1,.nil 1,.nil 5,.nil 4,.c (.i 0),.c (.i 0),.c (.i 0)]),tN 16 5 26] (.seq (rS [fA 27 3 2,lA 28 27,nA 29 28,mA 30 0] (bL 0 (rS [tA 31 30 29] (.seq (cX 31 0) (.seq (.block 1 (rS [iv 32 30,iv 6 32] (.reg [dA 33 16 5,iv 34 6,c2 35 72 33 34,tN 16 5 35]))) (.reg [pA 36 30 1,iv 30 36])))))) (rR [dA 37 16 5,tN 16 4 37]))))) [.cl 4 16]:=yA none Tryz.func32 (by kernel_rfl)
theorem yQ8 : Has Tryz.prog 69 152 (rS [bX 1 16 0,ia 2 (.alloc [.c (.i 0),.nil 3,.nil 2,.nil 22,.nil 1,.nil 2,.nil 1,.c (.i 0),.c (.i 0),.nil 1,.nil 1,.nil 5,.nil 4,.c (.i 0),.c (.i 0),.c (.i 0)])] (iS [dA 11 16 1,c1 12 15 11,nN 13 12] 13 (rR [dA 14 16 1,tN 16 2 14]) (rS [dA 15 16 1,ia 3 (.alloc [.c (.i 0),.nil 3,.nil 2,.nil 22,.nil 1,.nil 2,.nil 1,.c (.i 0),.c (.i 0),.nil 1,.nil 1,.nil 5,.nil 4,.c (.i 0),.c (.i 0),.c (.i 0)]),tN 16 3 15] (rS [fA 16 3 1,lA 17 16,c1 18 100 17,fA 19 3 3,tS 19 18] (rS [fA 20 4 1,lA 21 20,nA 22 21,ia 23 (.mks 1 24 [.sl 3 []] (.t 22) (.t 22)),fA 24 4 3,tS 24 23] (rS [fA 25 5 1,lA 26 25,c1 27 101 26,fA 28 5 3,tS 28 27] (rS [fA 29 1 1,lA 30 29,nA 31 30,oI 32 .sub 31 1,iv 4 32] (.seq (rS [fA 33 4 1,lA 34 33,nA 35 34,mA 36 0] (bL 0 (rS [tA 37 36 35] (.seq (cX 37 0) (.seq (.block 1 (rS [iv 38 36,xA 39 1 34 36,lA 40 39,iv 5 38,iv 6 40] (rS [iv 41 6,nA 42 41,mA 43 0] (bL 2 (rS [tA 44 43 42] (.seq (cX 44 2) (.seq (.block 3 (rS [xA 45 3 41 43,dA 46 3 45,ia 8 (.alloc [.c (.b false),.nil 1,.c (.i 0)]),tN 3 8 46] (rE [q0 (dA 47 3 8),q0 (fA 48 2 1),q0 (lA 49 48),q0 (iv 50 5),q0 (xA 51 2 49 50),q0 (dA 52 2 51),q0 (fA 53 1 1),q0 (lA 54 53),q0 (iv 55 5),q0 (xA 56 3 54 55),q0 (dA 57 3 56),q0 (c3 58 102 47 52 57),q2 (tN 3 8 58)] (.seq (rQ [dA 59 3 8,fA 60 2 1,lA 61 60,iv 62 5,xA 63 2 61 62,dA 64 2 63,c2 65 103 59 64,nN 66 65] (cI 66 (rE [q3 (fA 67 4 3),q3 (lA 68 67),q3 (iv 69 5),q0 (fA 70 4 3),q0 (lA 71 70),q0 (iv 72 5),q0 (xA 73 1 71 72),q0 (lA 74 73),q0 (dA 75 3 8),q1 (bS 76 3 75),q4 2 false [0,1,2] (aP 77 3 40 74 76),q0 (xA 78 1 68 69),q2 (tS 78 77)] (.exit 3)))) (iS [fA 79 0 8,fA 80 0 79,lA 81 80,iv 82 81,g8 82 true 83 5,ig 82 true 84 (.bin .eql (.t 83) (kI 0)),pF 85 82 84,iv 86 85,gA 86 false 87 0 8,gA 86 false 88 0 87,hA 86 false 89 88,g9 86 false 90 89,g8 86 false 91 90,g8 91 true 92 5,g8 91 true 93 4,ig 91 true 94 (.bin .eql (.t 92) (.t 93)),ig 86 false 95 (.pick (.t 91) (.t 94) (kB false)),pT 96 86 95] 96 (rS [fA 97 5 3,lA 98 97,fA 99 0 8,dA 100 2 99,bS 101 2 100,aP 102 2 32 98 101,fA 103 5 3,tS 103 102] (.exit 3)) (rS [iv 104 5,iv 9 104] (iS [fA 105 0 8,fA 106 0 105,lA 107 106] 107 (.reg [iv 108 5,oI 109 .sub 108 1,iv 9 109]) (rS [fA 110 3 3,lA 111 110,iv 112 9,xA 113 22 111 112,fA 114 21 113,lA 115 114,iv 10 115] (iS [iv 116 10,nA 117 116,oI 118 .geq 117 24] 118 (rE [q3 (fA 119 4 3),q3 (lA 120 119),q3 (iv 121 5),q0 (fA 122 4 3),q0 (lA 123 122),q0 (iv 124 5),q0 (xA 125 1 123 124),q0 (lA 126 125),q0 (dA 127 3 8),q1 (bS 128 3 127),q4 2 false [0,1,2] (aP 129 3 40 126 128),q0 (xA 130 1 120 121),q2 (tS 130 129)] (.exit 3)) (.rege [q3 (fA 131 3 3),q3 (lA 132 131),q3 (iv 133 9),q0 (iv 134 10),q0 (c1 135 104 134),q0 (fA 136 0 8),q0 (dA 137 2 136),q0 (fA 138 0 1),q0 (lA 139 138),q0 (ia 140 (.bld [.c (.b false),.nil 1,.c (.i 0),.c (.i 0)] [(0,2,.t 137),(2,1,.t 139),(3,1,kI (-1))])),q1 (bS 141 4 140),q4 2 false [0,1,2] (aP 142 4 48 135 141),q0 (xA 143 22 132 133),q0 (fA 144 21 143),q2 (tS 144 142)])))))))))) (.reg [pA 145 43 1,iv 43 145])))))))) (.reg [pA 146 36 1,iv 36 146])))))) (iS [dA 147 16 3,c1 148 15 147,nN 149 148] 149 (rR [dA 150 16 1,tN 16 2 150]) (rR [dA 151 16 3,tN 16 2 151])))))))))) [.cl 2 16]:=yA none Tryz.func69 (by kernel_rfl)
theorem ys2 : Has Tryz.prog 70 132 (rS [bX 2 16 0,ia 4 (.alloc [.c (.i 0),.nil 3,.nil 2,.nil 22,.nil 1,.nil 2,.nil 1,.c (.i 0),.c (.i 0),.nil 1,.nil 1,.nil 5,.nil 4,.c (.i 0),.c (.i 0),.c (.i 0)])] (iS [dA 15 16 2,c1 16 15 15,nN 17 16,iv 18 17,g8 18 false 19 1,ig 18 false 20 (.call 31 [.t 19,kI 0,kI 1000000000]),g9 18 false 21 20,pT 22 18 21] 22 (rR [dA 23 16 2,tN 16 4 23]) (rS [dA 24 16 2,ia 5 (.alloc [.c (.i 0),.nil 3,.nil 2,.nil 22,.nil 1,.nil 2,.nil 1,.c (.i 0),.c (.i 0),.nil 1,.nil 1,.nil 5,.nil 4,.c (.i 0),.c (.i 0),.c (.i 0)]),tN 16 5 24] (rS [fA 25 1 2,lA 26 25,c1 27 105 26,fA 28 1 5,tS 28 27] (rS [fA 29 3 2,lA 30 29,c1 31 100 30,fA 32 3 5,tS 32 31] (.seq (rS [fA 33 3 5,lA 34 33,nA 35 34,mA 36 0] (bL 0 (rS [tA 37 36 35] (.seq (cX 37 0) (.seq (.block 1 (rS [iv 38 36,xA 39 22 34 36,dA 40 22 39,ia 7 (.alloc [.c (.i 0),.c (.i 0),.c (.i 0),.c (.i 0),.c (.i 0),.c (.i 0),.c (.i 0),.c (.i 0),.c (.i 0),.nil 2,.c (.i 0),.c (.i 0),.c (.i 0),.c (.i 0),.c (.i 0),.c (.i 0),.c (.i 0),.c (.i 0),.nil 2,.c (.b false),.c (.i 0),.nil 4]),iv 6 38,tN 22 7 40] (rE [q0 (fA 41 1 5),q0 (lA 42 41),q0 (iv 43 6),q0 (xA 44 3 42 43),q0 (dA 45 3 44),q3 (fA 46 1 5),q3 (lA 47 46),q3 (iv 48 6),q3 (pA 49 48 1),q3 (xA 50 3 47 49),q3 (dA 51 3 50),q1 (ia 8 (.alloc [.nil 2,.c (.i 0),.nil 1])),q1 (ia 9 (.alloc [.nil 2,.c (.i 0),.nil 1])),q4 2 false [5,6,7,8,9,10] (tN 3 8 45),q2 (tN 3 9 51)] (rE [q0 (fA 52 10 7),q0 (dA 53 5 52),q0 (fA 54 15 7),q0 (dA 55 3 54),q0 (dA 56 3 8),q0 (c1 57 66 56),q0 (dA 58 3 9),q0 (c1 59 66 58),q0 (iv 60 1),q0 (ia 61 (.call 106 [.t 53,.t 55,.t 57,.t 59,.t 60])),q0 (fA 62 10 7),q2 (tN 5 62 61)] (rS [fA 63 3 5,lA 64 63,iv 65 6,dA 66 22 7,xA 67 22 64 65,tN 22 67 66] (.rege [q0 (fA 69 1 5),q0 (lA 70 69),q0 (iv 71 6),q3 (fA 72 1 5),q3 (lA 73 72),q3 (iv 74 6),q3 (pA 75 74 1),q0 (dA 76 3 8),q0 (dA 77 3 9),q0 (fA 78 10 7),q0 (dA 79 5 78),q0 (c3 80 107 76 77 79),q0 (iv 68 80),q0 (eX 81 0 68),q3 (eX 82 1 68),q3 (eX 83 2 68),q0 (xA 84 3 70 71),q4 2 false [3,4,5,6,14,15] (tN 3 84 81),q0 (xA 85 3 73 75),q4 2 false [15] (tN 3 85 82)])))))) (.reg [pA 86 36 1,iv 36 86])))))) (rS [fA 87 1 5,lA 88 87,nA 89 88,oI 90 .sub 89 1,iv 10 90] (rS [fA 91 1 5,lA 92 91,iv 93 10,xA 94 3 92 93,dA 95 3 94,ia 11 (.alloc [.nil 2,.c (.i 0),.nil 1]),tN 3 11 95] (rQ [fA 96 3 5,lA 97 96,iv 98 10,oI 99 .sub 98 1,xA 100 22 97 99,fA 101 10 100,dA 102 5 101,dA 103 3 11,c1 104 66 103,ia 105 (.call 108 [.t 102,.t 104,kI 0]),iv 12 105] (rE [q0 (dA 107 3 11),q0 (iv 108 12),q0 (fA 109 0 11),q0 (lA 110 109),q0 (fA 111 2 5),q0 (lA 112 111),q0 (iv 113 10),q0 (xA 114 2 112 113),q0 (fA 115 1 114),q0 (lA 116 115),q0 (c2 117 110 110 116),q0 (c3 118 109 107 108 117),q0 (iv 106 118),q0 (eX 119 0 106),q3 (eX 120 1 106),q1 (ia 13 (.alloc [.nil 2,.c (.i 0),.nil 1])),q4 2 false [14] (tN 3 13 119),q0 (iv 14 120)] (rS [fA 121 1 5,lA 122 121,iv 123 10,dA 124 3 13,xA 125 3 122 123,tN 3 125 124] (rS [fA 126 15 5,lA 127 126,iv 128 14,oA 129 .add 127 128,fA 130 15 5,tS 130 129] (rR [dA 131 16 5,tN 16 4 131]))))))))))))) [.cl 4 16]:=yA none Tryz.func70 (by kernel_rfl)
theorem yafB : Has Tryz.prog 71 68 (rS [bX 2 16 0,ia 4 (.alloc [.c (.i 0),.nil 3,.nil 2,.nil 22,.nil 1,.nil 2,.nil 1,.c (.i 0),.c (.i 0),.nil 1,.nil 1,.nil 5,.nil 4,.c (.i 0),.c (.i 0),.c (.i 0)])] (iS [dA 8 16 2,c1 9 15 8,nN 10 9,iv 11 10,gA 11 false 12 0 2,hA 11 false 13 12,ig 11 false 14 (.bin .eql (.t 13) (kI 1000000)),pT 15 11 14,iv 16 15,g8 16 false 17 1,ig 16 false 18 (.bin .lss (.t 17) (kI 0)),pT 19 16 18] 19 (rR [dA 20 16 2,tN 16 4 20]) (rS [dA 21 16 2,ia 5 (.alloc [.c (.i 0),.nil 3,.nil 2,.nil 22,.nil 1,.nil 2,.nil 1,.c (.i 0),.c (.i 0),.nil 1,.nil 1,.nil 5,.nil 4,.c (.i 0),.c (.i 0),.c (.i 0)]),tN 16 5 21] (rS [fA 22 0 5,lA 23 22,pA 24 23 1,fA 25 0 5,tS 25 24] (rS [fA 26 1 2,lA 27 26,c1 28 105 27,fA 29 1 5,tS 29 28] (iS [iv 30 1,fA 31 13 2,lA 32 31,ia 33 (.bin .sub (kI 1000000000) (.t 32)),fA 34 14 2,lA 35 34,oA 36 .sub 33 35,oA 37 .leq 30 36] 37 (rE [q0 (fA 38 1 5),q0 (lA 39 38),q0 (fA 40 1 2),q0 (lA 41 40),q0 (ia 42 (.idx 3 (.t 41) (kI 0))),q0 (dA 43 3 42),q0 (iv 44 1),q0 (c2 45 111 43 44),q0 (ia 46 (.idx 3 (.t 39) (kI 0))),q2 (tN 3 46 45)] (.reg [fA 47 14 5,lA 48 47,iv 49 1,oA 50 .add 48 49,fA 51 14 5,tS 51 50])) (.seq (rS [fA 52 1 5,lA 53 52,nA 54 53,mA 55 0] (bL 0 (rS [tA 56 55 54] (.seq (cX 56 0) (.seq (.block 1 (rS [iv 57 55,xA 58 3 53 55,dA 59 3 58,ia 7 (.alloc [.nil 2,.c (.i 0),.nil 1]),iv 6 57,tN 3 7 59] (.rege [q0 (fA 60 1 5),q0 (lA 61 60),q0 (iv 62 6),q0 (dA 63 3 7),q0 (c1 64 112 63),q0 (xA 65 3 61 62),q2 (tN 3 65 64)]))) (.reg [pA 66 55 1,iv 55 66])))))) (rR [dA 67 16 5,tN 16 4 67])))))))) [.cl 4 16]:=yA none Tryz.func71 (by kernel_rfl)
theorem yafI : Has Tryz.prog 72 57 (rS [bX 2 16 0,ia 4 (.alloc [.c (.i 0),.nil 3,.nil 2,.nil 22,.nil 1,.nil 2,.nil 1,.c (.i 0),.c (.i 0),.nil 1,.nil 1,.nil 5,.nil 4,.c (.i 0),.c (.i 0),.c (.i 0)])] (iS [dA 7 16 2,c1 8 15 7,nN 9 8,iv 10 9,g8 10 false 11 1,ig 10 false 12 (.bin .lss (.t 11) (kI 0)),pT 13 10 12,iv 14 13,g8 14 false 15 1,gA 14 false 16 3 2,hA 14 false 17 16,ig 14 false 18 (.len (.t 17)),ig 14 false 19 (.bin .geq (.t 15) (.t 18)),pT 20 14 19] 20 (rR [dA 21 16 2,tN 16 4 21]) (rS [ia 5 (.alloc [.c (.i 0),.nil 3,.nil 2,.nil 22,.nil 1,.nil 2,.nil 1,.c (.i 0),.c (.i 0),.nil 1,.nil 1,.nil 5,.nil 4,.c (.i 0),.c (.i 0),.c (.i 0)])] (.seq (rS [fA 22 3 2,lA 23 22,iv 24 1,xA 25 22 23 24,fA 26 0 25,fA 27 8 26,lA 28 27,oI 29 .eql 28 0] (cT 29 (.reg [dA 30 16 2,iv 31 1,c2 32 113 30 31,tN 16 5 32]) (rS [bA 6 false] (rS [dA 34 16 2,iv 35 1,c2 36 114 34 35,iv 33 36,eX 37 0 33,eX 38 1 33,tN 16 5 37,iv 6 38] (iS [iv 39 6,nN 40 39] 40 (.reg [dA 42 16 2,iv 43 1,c2 44 115 42 43,iv 41 44,eX 45 0 41,eX 46 1 41,tN 16 5 45,iv 6 46]) (rS [iv 47 6,nN 48 47] (cI 48 (.reg [dA 49 16 2,iv 50 1,c2 51 116 49 50,tN 16 5 51])))))))) (iS [dA 52 16 5,c1 53 15 52,nN 54 53] 54 (rR [dA 55 16 2,tN 16 4 55]) (rR [dA 56 16 5,tN 16 4 56])))))) [.cl 4 16]:=yA none Tryz.func72 (by kernel_rfl)
def ybJ : SC:=rS [mN 2 22] (iS [iv 3 0,ia 4 (.isn (.t 3))] 4 (rR [mN 2 22]) (rR [bZ 5 22,iv 6 0,aP 7 22 224 5 6,iv 2 7]))
theorem ydu : Has Tryz.prog 100 8 ybJ [.t 2]:=yA none Tryz.func100 (by kernel_rfl)
def yPg : SC:=rS [mN 2 2] (rR [iv 3 0,iv 4 0,nA 5 4,iv 6 0,nA 7 6,ia 8 (.slc 2 (.t 3) none (some (.t 5)) (some (.t 7))),iv 2 8])
theorem yPq : Has Tryz.prog 101 9 yPg [.t 2]:=yA none Tryz.func101 (by kernel_rfl)
def ybw : SC:=rS [mN 2 3] (iS [iv 3 0,ia 4 (.isn (.t 3))] 4 (rR [mN 2 3]) (rR [bZ 5 3,iv 6 0,aP 7 3 56 5 6,iv 2 7]))
theorem yc6 : Has Tryz.prog 105 8 ybw [.t 2]:=yA none Tryz.func105 (by kernel_rfl)
theorem yl9 : Has Tryz.prog 106 54 (rS [bX 5 5 0,bX 6 3 1,ia 10 (.alloc [.c (.i 0),.c (.i 0),.c (.i 0),.c (.i 0),.c (.i 0)])] (iS [dA 11 5 5,c1 12 119 11,nN 13 12,iv 14 13,ig 14 false 15 (.ldn 3 (.t 6)),ig 14 false 16 (.call 120 [.t 15]),g9 14 false 17 16,pT 18 14 17,iv 19 18,g8 19 false 20 4,ig 19 false 21 (.call 31 [.t 20,kI 0,kI 1000000000]),g9 19 false 22 21,pT 23 19 22,iv 24 23,g8 24 false 25 2,ig 24 false 26 (.call 31 [.t 25,kI 0,kI 100000]),g9 24 false 27 26,pT 28 24 27,iv 29 28,g8 29 false 30 3,ig 29 false 31 (.call 31 [.t 30,kI 0,kI 100000]),g9 29 false 32 31,pT 33 29 32] 33 (rR [dA 34 5 5,tN 5 10 34]) (iS [iv 35 2,fA 36 2 6,lA 37 36,oA 38 .geq 35 37] 38 (rR [dA 39 5 5,fA 40 0 5,lA 41 40,ia 42 (.bin .mul (kI 10) (.t 41)),c2 43 146 39 42,tN 5 10 43]) (rE [q0 (dA 44 5 5),q0 (dA 45 5 5),q0 (iv 46 2),q0 (iv 47 3),q0 (dA 48 3 6),q0 (iv 49 2),q0 (iv 50 4),q0 (c3 51 148 48 49 50),q0 (ia 52 (.call 147 [.t 45,.t 46,.t 47,.t 51])),q0 (c2 53 146 44 52),q2 (tN 5 10 53)] .ret)))) [.cl 10 5]:=yA none Tryz.func106 (by kernel_rfl)
theorem ykF : Has Tryz.prog 107 45 (rS [bX 3 3 0,bX 4 3 1,bX 5 5 2,ia 6 (.alloc [.nil 2,.c (.i 0),.nil 1]),ia 7 (.alloc [.nil 2,.c (.i 0),.nil 1]),mA 8 0] (iS [dA 10 3 3,c1 11 95 10,nN 12 11,iv 13 12,ig 13 false 14 (.ldn 3 (.t 4)),ig 13 false 15 (.call 95 [.t 14]),g9 13 false 16 15,pT 17 13 16,iv 18 17,ig 18 false 19 (.ldn 5 (.t 5)),ig 18 false 20 (.call 119 [.t 19]),g9 18 false 21 20,pT 22 18 21] 22 (rE [q0 (dA 23 3 3),q0 (c1 24 85 23),q0 (dA 25 3 4),q0 (c1 26 85 25),q2 (tN 3 6 24),q2 (tN 3 7 26),q0 (mA 8 0)] .ret) (rQ [dA 27 5 5,dA 28 3 3,c1 29 66 28,dA 30 3 4,c1 31 66 30,c3 32 108 27 29 31,iv 9 32] (rE [q0 (dA 33 3 3),q0 (dA 34 3 4),q0 (iv 35 9),q0 (fA 36 0 3),q0 (lA 37 36),q0 (fA 38 3 5),q0 (lA 39 38),q0 (c2 40 110 37 39),q0 (ia 41 (.call 149 [.t 33,.t 34,.t 35,.t 40])),q0 (eX 42 0 41),q0 (eX 43 1 41),q0 (eX 44 2 41),q2 (tN 3 6 42),q2 (tN 3 7 43),q0 (iv 8 44)] .ret)))) [.cl 6 3,.cl 7 3,.t 8]:=yA none Tryz.func107 (by kernel_rfl)
theorem ynM : Has Tryz.prog 108 38 (rS [bX 3 5 0,mA 6 0] (iS [dA 8 5 3,c1 9 119 8,nN 10 9,iv 11 10,g8 11 false 12 1,ig 11 false 13 (.call 31 [.t 12,kI 0,kI 100000]),g9 11 false 14 13,pT 15 11 14,iv 16 15,g8 16 false 17 2,ig 16 false 18 (.call 31 [.t 17,kI 0,kI 100000]),g9 16 false 19 18,pT 20 16 19] 20 (rR [mA 6 0]) (rS [iv 21 1,fA 22 3 3,lA 23 22,iv 24 2,ia 25 (.mx [.t 23,.t 24]),oA 26 .sub 21 25,iv 7 26] (iS [iv 27 7,oI 28 .leq 27 0] 28 (rR [mA 6 0]) (rQ [fA 29 1 3,lA 30 29,fA 31 4 3,lA 32 31,oA 33 .mul 30 32,iv 34 7,c1 35 150 34,oA 36 .mul 33 35,oI 37 .quo 36 10,iv 6 37] .ret))))) [.t 6]:=yA none Tryz.func108 (by kernel_rfl)
theorem yoB : Has Tryz.prog 109 38 (rS [bX 3 3 0,ia 6 (.alloc [.nil 2,.c (.i 0),.nil 1]),mA 7 0] (rS [dA 10 3 3,c1 11 85 10,ia 8 (.alloc [.nil 2,.c (.i 0),.nil 1]),tN 3 8 11] (iS [dA 12 3 3,c1 13 95 12,nN 14 13,iv 15 14,g8 15 false 16 1,ig 15 false 17 (.bin .lss (.t 16) (kI 0)),pT 18 15 17,iv 19 18,g8 19 false 20 2,ig 19 false 21 (.bin .lss (.t 20) (kI 0)),pT 22 19 21] 22 (rR [dA 23 3 8,tN 3 6 23,mA 7 0]) (rS [iv 24 1,fA 25 1 3,lA 26 25,iv 27 2,oA 28 .sub 26 27,ia 29 (.mn [.t 24,.t 28]),ia 30 (.mx [kI 0,.t 29]),iv 9 30] (rS [fA 31 1 8,lA 32 31,iv 33 9,oA 34 .sub 32 33,fA 35 1 8,tS 35 34] (rR [dA 36 3 8,iv 37 9,tN 3 6 36,iv 7 37])))))) [.cl 6 3,.t 7]:=yA none Tryz.func109 (by kernel_rfl)
theorem yqS : Has Tryz.prog 111 43 (rS [bX 2 3 0,ia 4 (.alloc [.nil 2,.c (.i 0),.nil 1])] (rS [dA 6 3 2,c1 7 85 6,ia 5 (.alloc [.nil 2,.c (.i 0),.nil 1]),tN 3 5 7] (iS [dA 8 3 2,c1 9 95 8,nN 10 9,iv 11 10,g8 11 false 12 1,ig 11 false 13 (.bin .lss (.t 12) (kI 0)),pT 14 11 13,iv 15 14,g8 15 false 16 1,ig 15 false 17 (.ldn 3 (.t 2)),ig 15 false 18 (.call 151 [.t 17]),ig 15 false 19 (.bin .gtr (.t 16) (.t 18)),pT 20 15 19] 20 (rR [dA 21 3 5,tN 3 4 21]) (.seq (rS [fA 22 2 5,lA 23 22,nA 24 23,oI 25 .eql 24 0] (cT 25 (.reg [fA 26 1 5,lA 27 26,iv 28 1,oA 29 .add 27 28,fA 30 1 5,tS 30 29]) (.reg [fA 31 2 5,lA 32 31,fA 33 2 5,lA 34 33,nA 35 34,oI 36 .sub 35 1,xA 37 1 32 36,lA 38 37,iv 39 1,oA 40 .add 38 39,xA 41 1 32 36,tS 41 40]))) (rR [dA 42 3 5,tN 3 4 42]))))) [.cl 4 3]:=yA none Tryz.func111 (by kernel_rfl)
theorem yafk : Has Tryz.prog 112 38 (rS [bX 1 3 0,ia 2 (.alloc [.nil 2,.c (.i 0),.nil 1])] (rS [dA 4 3 1,c1 5 85 4,ia 3 (.alloc [.nil 2,.c (.i 0),.nil 1]),tN 3 3 5] (iS [fA 6 2 1,lA 7 6,nA 8 7,oI 9 .eql 8 0,iv 10 9,ig 10 false 11 (.ldn 3 (.t 1)),ig 10 false 12 (.call 95 [.t 11]),g9 10 false 13 12,pT 14 10 13] 14 (rR [dA 15 3 3,tN 3 2 15]) (rE [q0 (fA 16 1 3),q0 (lA 17 16),q0 (fA 18 2 3),q0 (lA 19 18),q0 (ia 20 (.idx 1 (.t 19) (kI 0))),q0 (lA 21 20),q0 (oA 22 .add 17 21),q0 (fA 23 1 3),q2 (tS 23 22)] (rE [q0 (fA 24 2 3),q0 (lA 25 24),q0 (fA 26 2 3),q0 (lA 27 26),q0 (ia 28 (.slc 1 (.t 27) (some (kI 1)) none none)),q2 (ia 29 (.cp 1 (.t 25) (.t 28)))] (rS [fA 30 2 3,lA 31 30,fA 32 2 3,lA 33 32,nA 34 33,oI 35 .sub 34 1,xA 36 1 31 35,ie (.st1 (.t 36) (kI 0))] (rR [dA 37 3 3,tN 3 2 37]))))))) [.cl 2 3]:=yA none Tryz.func112 (by kernel_rfl)
def yaaX : SC:=rS [bX 2 16 0,ia 4 (.alloc [.c (.i 0),.nil 3,.nil 2,.nil 22,.nil 1,.nil 2,.nil 1,.c (.i 0),.c (.i 0),.nil 1,.nil 1,.nil 5,.nil 4,.c (.i 0),.c (.i 0),.c (.i 0)])] (rS [fA 14 3 2,lA 15 14,iv 16 1,xA 17 22 15 16,dA 18 22 17,ia 5 (.alloc [.c (.i 0),.c (.i 0),.c (.i 0),.c (.i 0),.c (.i 0),.c (.i 0),.c (.i 0),.c (.i 0),.c (.i 0),.nil 2,.c (.i 0),.c (.i 0),.c (.i 0),.c (.i 0),.c (.i 0),.c (.i 0),.c (.i 0),.c (.i 0),.nil 2,.c (.b false),.c (.i 0),.nil 4]),tN 22 5 18] (rQ [dA 20 16 2,iv 21 1,c2 22 30 20 21,fA 23 19 5,dA 24 2 23,fA 25 0 2,lA 26 25,c3 27 152 22 24 26,iv 19 27,eX 28 0 19,eX 29 1 19,iv 6 28,iv 7 29] (rS [iv 30 6,nN 31 30,iv 8 31] (.seq (rS [fA 32 0 5,fA 33 9 32,lA 34 33,nA 35 34,oI 36 .gtr 35 0] (cT 36 (.reg [fA 37 0 5,fA 38 9 37,lA 39 38,ia 40 (.idx 2 (.t 39) (kI 0)),fA 41 0 40,lA 42 41,iv 8 42]) (rS [iv 43 7,nN 44 43] (cI 44 (rR [dA 45 16 2,tN 16 4 45]))))) (rS [mA 9 2] (iS [iv 46 8] 46 (.reg [mA 9 1]) (rE [q0 (fA 48 0 5),q0 (dA 49 10 48),q0 (fA 50 1 2),q0 (lA 51 50),q0 (iv 52 1),q0 (xA 53 3 51 52),q0 (dA 54 3 53),q0 (fA 55 1 2),q0 (lA 56 55),q0 (iv 57 1),q0 (pA 58 57 1),q0 (xA 59 3 56 58),q0 (dA 60 3 59),q0 (iv 61 9),q0 (ia 62 (.call 153 [.t 49,.t 54,.t 60,.t 61])),q0 (iv 47 62),q0 (eX 63 0 47),q3 (eX 64 1 47),q1 (ia 10 (.alloc [.c (.i 0),.c (.i 0),.c (.i 0),.c (.i 0),.c (.i 0),.c (.i 0),.c (.i 0),.c (.i 0),.c (.i 0),.nil 2])),q4 2 false [17] (tN 10 10 63),q0 (iv 11 64)] (iS [iv 65 11] 65 (rS [dA 66 10 10,fA 67 0 5,tN 10 67 66] (rR [dA 68 16 2,iv 69 1,dA 70 22 5,c3 71 154 68 69 70,tN 16 4 71])) (rS [iv 72 1,iv 73 9,c2 74 155 72 73,iv 12 74] (rS [fA 75 1 2,lA 76 75,iv 77 12,xA 78 3 76 77,dA 79 3 78,ia 13 (.alloc [.nil 2,.c (.i 0),.nil 1]),tN 3 13 79] (.seq (rQ [fA 80 0 5,dA 81 10 80,c1 82 156 81,dA 83 3 13,c1 84 66 83,tA 85 82 84] (cT 85 (.reg [fA 87 0 5,dA 88 10 87,dA 89 3 13,c2 90 157 88 89,iv 86 90,eX 91 0 86,eX 92 1 86,fA 93 0 5,tN 10 93 91,tN 3 13 92]) (.reg [fA 95 0 5,dA 96 10 95,dA 97 3 13,c2 98 158 96 97,iv 94 98,eX 99 0 94,eX 100 1 94,fA 101 0 5,tN 10 101 99,tN 3 13 100]))) (rE [q0 (dA 102 16 2),q0 (iv 103 1),q0 (dA 104 22 5),q0 (c3 105 154 102 103 104),q0 (iv 106 12),q0 (dA 107 3 13),q0 (c3 108 159 105 106 107),q2 (tN 16 4 108)] .ret))))))))))))
theorem yaeM : Has Tryz.prog 113 109 yaaX [.cl 4 16]:=yA none Tryz.func113 (by kernel_rfl)
theorem ynD : Has Tryz.prog 146 31 (rS [bX 2 5 0,ia 4 (.alloc [.c (.i 0),.c (.i 0),.c (.i 0),.c (.i 0),.c (.i 0)])] (iS [dA 5 5 2,c1 6 119 5,nN 7 6,iv 8 7,g8 8 false 9 1,gA 8 false 10 0 2,hA 8 false 11 10,ig 8 false 12 (.bin .mul (kI 10) (.t 11)),ig 8 false 13 (.call 31 [.t 9,kI 0,.t 12]),g9 8 false 14 13,pT 15 8 14] 15 (rR [dA 16 5 2,tN 5 4 16]) (rS [iv 17 1,fA 18 1 2,lA 19 18,fA 20 2 2,lA 21 20,oA 22 .sub 19 21,fA 23 1 2,lA 24 23,fA 25 2 2,lA 26 25,oA 27 .add 24 26,c3 28 176 17 22 27,fA 29 1 2,tS 29 28] (rR [dA 30 5 2,tN 5 4 30])))) [.cl 4 5]:=yA none Tryz.func146 (by kernel_rfl)
theorem yp3 : Has Tryz.prog 147 42 (rS [bX 4 5 0,mA 8 0] (iS [dA 11 5 4,c1 12 119 11,nN 13 12,iv 14 13,g8 14 false 15 1,ig 14 false 16 (.call 31 [.t 15,kI 0,kI 100000]),g9 14 false 17 16,pT 18 14 17,iv 19 18,g8 19 false 20 2,ig 19 false 21 (.call 31 [.t 20,kI 0,kI 100000]),g9 19 false 22 21,pT 23 19 22] 23 (rR [mA 8 0]) (rS [fA 24 0 4,lA 25 24,ia 26 (.bin .mul (kI 10) (.t 25)),iv 9 26] (.seq (rS [mA 10 0] (bL 0 (xS [iv 27 10,iv 28 9,oA 29 .leq 27 28] 29 0 (.seq (.block 1 (rS [iv 32 10,fA 33 1 4,tS 33 32] (rS [dA 34 5 4,iv 35 1,iv 36 2,c3 37 108 34 35 36,iv 38 3,oA 39 .geq 37 38] (cI 39 (rR [iv 40 10,iv 8 40]))))) (.reg [iv 30 10,pA 31 30 1,iv 10 31]))))) (rR [iv 41 9,iv 8 41]))))) [.t 8]:=yA none Tryz.func147 (by kernel_rfl)
theorem ylA : Has Tryz.prog 148 41 (rS [bX 3 3 0,mA 6 0] (iS [dA 7 3 3,c1 8 120 7,nN 9 8,iv 10 9,g8 10 false 11 2,ig 10 false 12 (.call 31 [.t 11,kI 0,kI 1000000000]),g9 10 false 13 12,pT 14 10 13,iv 15 14,g8 15 false 16 1,ig 15 false 17 (.call 31 [.t 16,kI 0,kI 100000]),g9 15 false 18 17,pT 19 15 18,iv 20 19,g8 20 false 21 1,gA 20 false 22 0 3,hA 20 false 23 22,ig 20 false 24 (.bin .leq (.t 21) (.t 23)),pT 25 20 24] 25 (rR [mA 6 0]) (rR [iv 26 2,iv 27 1,fA 28 0 3,lA 29 28,oA 30 .sub 27 29,oA 31 .mul 26 30,fA 32 1 3,lA 33 32,fA 34 0 3,lA 35 34,oA 36 .sub 33 35,oA 37 .quo 31 36,iv 38 2,ia 39 (.bin .mul (kI 2) (.t 38)),ia 40 (.mn [.t 37,.t 39]),iv 6 40]))) [.t 6]:=yA none Tryz.func148 (by kernel_rfl)
theorem yqJ : Has Tryz.prog 149 48 (rS [bX 4 3 0,bX 5 3 1,ia 8 (.alloc [.nil 2,.c (.i 0),.nil 1]),ia 9 (.alloc [.nil 2,.c (.i 0),.nil 1]),mA 10 0] (iS [dA 13 3 4,c1 14 95 13,nN 15 14,iv 16 15,ig 16 false 17 (.ldn 3 (.t 5)),ig 16 false 18 (.call 95 [.t 17]),g9 16 false 19 18,pT 20 16 19,iv 21 20,g8 21 false 22 2,ig 21 false 23 (.bin .lss (.t 22) (kI 0)),pT 24 21 23,iv 25 24,g8 25 false 26 3,ig 25 false 27 (.bin .lss (.t 26) (kI 0)),pT 28 25 27] 28 (rE [q0 (dA 29 3 4),q0 (c1 30 85 29),q0 (dA 31 3 5),q0 (c1 32 85 31),q2 (tN 3 8 30),q2 (tN 3 9 32),q0 (mA 10 0)] .ret) (rE [q0 (dA 34 3 4),q0 (iv 35 2),q0 (dA 36 3 5),q0 (c1 37 151 36),q0 (ia 38 (.mn [.t 35,.t 37])),q0 (iv 39 3),q0 (c3 40 109 34 38 39),q0 (iv 33 40),q0 (eX 41 0 33),q3 (eX 42 1 33),q1 (ia 11 (.alloc [.nil 2,.c (.i 0),.nil 1])),q4 2 false [9] (tN 3 11 41),q0 (iv 12 42)] (rE [q0 (dA 43 3 11),q0 (dA 44 3 5),q0 (iv 45 12),q0 (c2 46 111 44 45),q3 (iv 47 12),q4 2 false [4] (tN 3 8 43),q4 2 false [4] (tN 3 9 46),q0 (iv 10 47)] .ret)))) [.cl 8 3,.cl 9 3,.t 10]:=yA none Tryz.func149 (by kernel_rfl)
theorem yqG : Has Tryz.prog 150 29 (rS [mA 2 0] (iS [iv 6 0,oI 7 .lss 6 0,iv 8 7,g8 8 false 9 0,ig 8 false 10 (.bin .gtr (.t 9) (kI 1000000000000000000)),pT 11 8 10] 11 (rR [mA 2 (-1)]) (rS [mA 3 0,mA 4 1000000000] (.seq (bL 0 (xS [iv 12 3,iv 13 4,tA 14 12 13] 14 0 (.block 1 (rS [iv 15 3,iv 16 4,oA 17 .add 15 16,pA 18 17 1,oI 19 .quo 18 2,iv 5 19] (rS [iv 20 5,iv 21 5,oA 22 .mul 20 21,iv 23 0,oA 24 .leq 22 23] (cT 24 (.reg [iv 25 5,iv 3 25]) (.reg [iv 26 5,oI 27 .sub 26 1,iv 4 27]))))))) (rR [iv 28 3,iv 2 28]))))) [.t 2]:=yA none Tryz.func150 (by kernel_rfl)
theorem yof : Has Tryz.prog 151 9 (rS [bX 1 3 0,mA 2 0] (iS [dA 3 3 1,c1 4 95 3,nN 5 4] 5 (rR [mA 2 0]) (rR [dA 6 3 1,c1 7 117 6,ia 8 (.bin .sub (kI 1000000000) (.t 7)),iv 2 8]))) [.t 2]:=yA none Tryz.func151 (by kernel_rfl)
theorem yaeY : Has Tryz.prog 152 59 (rS [bX 4 2 1,bA 6 false,bA 7 false] (rS [iv 12 0,iv 13 2,c2 14 162 12 13,iv 8 14] (iS [iv 15 8,nA 16 15,oI 17 .eql 16 0,iv 18 17,ig 18 false 19 (.ldn 2 (.t 4)),ig 18 false 20 (.call 122 [.t 19]),g9 18 false 21 20,pT 22 18 21] 22 (rR [bA 6 false,bA 7 false]) (rS [iv 23 0,iv 24 8,ia 25 (.idx 1 (.t 24) (kI 0)),lA 26 25,xA 27 4 23 26,fA 28 0 27,fA 29 0 28,lA 30 29,iv 9 30] (iS [iv 31 9,fA 32 0 4,lA 33 32,ia 34 (.beq true (.t 31) (.t 33)),iv 35 34,gA 35 false 36 1 4,hA 35 false 37 36,ig 35 false 38 (.bin .lss (.t 37) (kI 3)),pT 39 35 38] 39 (rR [iv 40 9,iv 6 40,bA 7 true]) (.seq (rS [iv 41 8,nA 42 41,mA 43 0] (bL 0 (rS [tA 44 43 42] (.seq (cX 44 0) (.seq (.block 1 (rS [xA 45 1 41 43,lA 46 45,iv 11 46] (rS [iv 47 0,iv 48 11,xA 49 4 47 48,fA 50 0 49,fA 51 0 50,lA 52 51,iv 53 9,ia 54 (.beq true (.t 52) (.t 53))] (cI 54 (rR [iv 55 9,nN 56 55,iv 6 56,bA 7 true]))))) (.reg [pA 57 43 1,iv 43 57])))))) (rR [iv 58 9,iv 6 58,bA 7 true]))))))) [.t 6,.t 7]:=yA none Tryz.func152 (by kernel_rfl)
theorem yLJ : Has Tryz.prog 162 28 (rS [bX 2 1 0,bX 3 1 1,mN 4 1] (rS [mN 5 1] (.seq (rS [lA 8 2,nA 9 8,mA 10 0] (bL 0 (rS [tA 11 10 9] (.seq (cX 11 0) (.seq (.block 1 (rS [iv 12 10,xA 13 4 8 10,dA 14 4 13,ia 7 (.alloc [.c (.b false),.nil 1,.c (.i 0),.c (.i 0)]),iv 6 12,tN 4 7 14] (rS [dA 15 4 7,lA 16 3,c2 17 178 15 16,oI 18 .neq 17 3] (cI 18 (.reg [iv 19 5,iv 20 6,bS 21 1 20,aP 22 1 8 19 21,iv 5 22]))))) (.reg [pA 23 10 1,iv 10 23])))))) (rS [iv 24 5,ia 25 (.mkf 179 [.t 2,.t 3]),c2 26 139 24 25] (rR [iv 27 5,iv 4 27]))))) [.t 4]:=yA none Tryz.func162 (by kernel_rfl)
theorem ytu : Has Tryz.prog 176 21 (rS [mA 6 0] (iS [iv 7 2,iv 8 1,tA 9 7 8,iv 10 9,g8 10 false 11 0,g8 10 false 12 1,ig 10 false 13 (.bin .lss (.t 11) (.t 12)),pT 14 10 13] 14 (rR [iv 15 1,iv 6 15]) (iS [iv 16 0,iv 17 2,oA 18 .gtr 16 17] 18 (rR [iv 19 2,iv 6 19]) (rR [iv 20 0,iv 6 20])))) [.t 6]:=yA none Tryz.func176 (by kernel_rfl)
theorem ylp : Has Tryz.prog 15 109 (rS [bX 1 16 0,bA 2 false] (iS [fA 9 0 1,lA 10 9,ia 11 (.call 31 [.t 10,kI 0,kI 1000000]),nN 12 11,iv 13 12,ig 13 false 14 (.ldn 16 (.t 1)),ig 13 false 15 (.call 34 [.t 14]),g9 13 false 16 15,pT 17 13 16,iv 18 17,gA 18 false 19 5 1,hA 18 false 20 19,ig 18 false 21 (.len (.t 20)),ig 18 false 22 (.bin .gtr (.t 21) (kI 500)),pT 23 18 22,iv 24 23,gA 24 false 25 6 1,hA 24 false 26 25,ig 24 false 27 (.len (.t 26)),ig 24 false 28 (.bin .gtr (.t 27) (kI 2000)),pT 29 24 28,iv 30 29,gA 30 false 31 12 1,hA 30 false 32 31,ig 30 false 33 (.len (.t 32)),ig 30 false 34 (.bin .gtr (.t 33) (kI 500)),pT 35 30 34] 35 (rR [bA 2 false]) (.seq (rS [fA 36 5 1,lA 37 36,nA 38 37,mA 39 0] (bL 0 (rS [tA 40 39 38] (.seq (cX 40 0) (.seq (.block 1 (rS [xA 41 2 37 39,dA 42 2 41,ia 4 (.alloc [.c (.b false),.nil 1]),tN 2 4 42] (rS [dA 43 2 4,c1 44 20 43,nN 45 44] (cI 45 (rR [bA 2 false]))))) (.reg [pA 46 39 1,iv 39 46])))))) (.seq (rS [fA 47 6 1,lA 48 47,nA 49 48,mA 50 0] (bL 2 (rS [tA 51 50 49] (.seq (cX 51 2) (.seq (.block 3 (rS [xA 52 1 48 50,lA 53 52,iv 6 53] (rS [iv 54 6,ia 55 (.call 31 [.t 54,kI 1,kI 9999]),nN 56 55] (cI 56 (rR [bA 2 false]))))) (.reg [pA 57 50 1,iv 50 57])))))) (.seq (rS [fA 58 12 1,lA 59 58,nA 60 59,mA 61 0] (bL 4 (rS [tA 62 61 60] (.seq (cX 62 4) (.seq (.block 5 (rS [xA 63 4 59 61,dA 64 4 63,ia 8 (.alloc [.c (.i 0),.c (.i 0),.c (.b false),.nil 1]),tN 4 8 64] (rS [fA 65 0 8,lA 66 65,ia 67 (.call 31 [.t 66,kI 0,kI 1000000]),nN 68 67,iv 69 68,gA 69 false 70 1 8,hA 69 false 71 70,gA 69 false 72 3 1,hA 69 false 73 72,ig 69 false 74 (.len (.t 73)),ig 69 false 75 (.bin .sub (.t 74) (kI 1)),ig 69 false 76 (.call 31 [.t 71,kI 0,.t 75]),g9 69 false 77 76,pT 78 69 77,iv 79 78,gA 79 false 80 2 8,ig 79 false 81 (.ldn 2 (.t 80)),ig 79 false 82 (.call 20 [.t 81]),g9 79 false 83 82,pT 84 79 83] (cI 84 (rR [bA 2 false]))))) (.reg [pA 85 61 1,iv 61 85])))))) (rR [fA 86 7 1,dA 87 4 86,c1 88 35 87,iv 89 88,gA 89 true 90 11 1,hA 89 true 91 90,ig 89 true 92 (.call 36 [.t 91]),pF 93 89 92,iv 94 93,gA 94 true 95 13 1,hA 94 true 96 95,ig 94 true 97 (.call 31 [.t 96,kI 0,kI 1000000000]),pF 98 94 97,iv 99 98,gA 99 true 100 14 1,hA 99 true 101 100,ig 99 true 102 (.call 31 [.t 101,kI 0,kI 1000000000]),pF 103 99 102,iv 104 103,gA 104 true 105 15 1,hA 104 true 106 105,ig 104 true 107 (.call 31 [.t 106,kI 0,kI 1000000000]),pF 108 104 107,iv 2 108])))))) [.t 2]:=yA none Tryz.func15 (by kernel_rfl)
theorem yZe : Has Tryz.prog 16 32 (rS [ia 2 (.mv (.k .any))] (rS [iv 5 0,nA 6 5,ia 7 (.bin .add (kI 33173) (.t 6)),iv 3 7] (.seq (rS [mA 4 0] (bL 0 (xS [iv 8 4,iv 9 0,nA 10 9,tA 11 8 10,iv 12 11,g8 12 true 13 4,ig 12 true 14 (.bin .lss (.t 13) (kI 4000)),pF 15 12 14] 15 0 (.seq (.block 1 (.reg [iv 18 3,oI 19 .mul 18 131,iv 20 0,iv 21 4,xA 22 1 20 21,lA 23 22,ia 24 (.cvt 0 (.t 23)),oA 25 .add 19 24,pA 26 25 7,ia 27 (.bit .and (.t 26) (kI 1073741823)),iv 3 27])) (.reg [iv 16 4,pA 17 16 1,iv 4 17]))))) (rR [iv 28 0,iv 29 3,ia 30 (.bld [.nil 1,.c (.i 0),.c (.i 0)] [(0,1,.t 28),(2,1,.t 29)]),bX 31 3 30,iv 2 31])))) [.t 2]:=yA none Tryz.func16 (by kernel_rfl)
theorem yacd : Has Tryz.prog 17 142 (rS [ia 2 (.alloc [.c (.i 0),.nil 3,.nil 2,.nil 22,.nil 1,.nil 2,.nil 1,.c (.i 0),.c (.i 0),.nil 1,.nil 1,.nil 5,.nil 4,.c (.i 0),.c (.i 0),.c (.i 0)])] (rS [iv 16 0,ia 17 (.call 18 [.t 16,kI 3]),ia 18 (.bin .add (kI 2) (.t 17)),iv 3 18] (rS [bZ 19 3,iv 4 19] (rS [bZ 20 2,iv 5 20] (rS [bZ 21 22,iv 6 21] (.seq (rS [mA 7 0] (bL 0 (xS [iv 22 7,iv 23 3,tA 24 22 23] 24 0 (.seq (.block 1 (rS [iv 27 3,iv 28 7,oA 29 .sub 27 28,ia 30 (.bin .mul (kI 40) (.t 29)),iv 8 30] (rS [iv 32 8,ia 33 (.bld [.c (.i 0),.c (.i 0)] [(0,1,.t 32),(1,1,kI 0)]),iv 34 8,pA 35 34 60,iv 36 0,ia 37 (.call 18 [.t 36,kI 9]),ia 38 (.bin .mul (kI 600) (.t 37)),ia 39 (.bin .add (kI 6000) (.t 38)),ia 40 (.bld [.c (.i 0),.c (.i 0)] [(0,1,.t 35),(1,1,.t 39)]),iv 41 8,pA 42 41 90,ia 43 (.bld [.c (.i 0),.c (.i 0)] [(0,1,.t 42),(1,1,kI 20000)]),ia 44 (.bsl 2 [.t 33,.t 40,.t 43]),iv 45 8,pA 46 45 25,iv 47 0,ia 48 (.call 18 [.t 47,kI 30]),oA 49 .add 46 48,iv 50 0,ia 51 (.call 18 [.t 50,kI 3]),c3 52 37 44 49 51,iv 31 52,eX 53 0 31,eX 54 1 31,ia 9 (.alloc [.nil 2,.c (.i 0),.nil 1]),tN 3 9 53,iv 10 54] (rS [iv 55 4,dA 56 3 9,bS 57 3 56,aP 58 3 56 55 57,iv 4 58] (rS [iv 59 5,iv 60 0,ia 61 (.bsl 1 [kI 8,kI 20,kI 40]),c2 62 38 60 61,iv 63 8,ia 64 (.bld [.c (.i 0),.c (.i 0)] [(0,1,.t 62),(1,1,.t 63)]),bS 65 2 64,aP 66 2 16 59 65,iv 5 66] (iS [iv 67 7,iv 68 3,oI 69 .sub 68 1,oA 70 .eql 67 69] 70 (.exit 0) (rS [iv 71 0,ia 72 (.bsl 1 [kI 60,kI 120]),c2 73 38 71 72,iv 74 0,ia 75 (.bsl 1 [kI 10,kI 16]),c2 76 38 74 75,iv 77 8,iv 78 8,oI 79 .sub 78 40,iv 80 8,oI 81 .sub 80 40,iv 82 0,ia 83 (.call 18 [.t 82,kI 8]),ia 84 (.bin .add (kI 1) (.t 83)),iv 85 0,ia 86 (.bsl 1 [kI 60,kI 300,kI 2000]),c2 87 38 85 86,iv 88 0,ia 89 (.call 18 [.t 88,kI 2]),ia 90 (.bld [.c (.i 0),.c (.i 0),.c (.i 0),.c (.i 0),.c (.i 0),.c (.i 0),.c (.i 0),.c (.i 0),.c (.i 0),.nil 2] [(0,1,.t 73),(1,1,.t 76),(2,1,.t 77),(3,1,.t 79),(4,1,.t 81),(5,1,.t 84),(6,1,.t 87),(8,1,.t 89)]),ia 11 (.alloc [.c (.i 0),.c (.i 0),.c (.i 0),.c (.i 0),.c (.i 0),.c (.i 0),.c (.i 0),.c (.i 0),.c (.i 0),.nil 2]),tN 10 11 90] (rE [q3 (fA 91 5 11),q3 (lA 92 91),q0 (iv 93 0),q1 (ia 94 (.bsl 1 [kI 10,kI 30,kI 70])),q4 2 false [0,1] (c2 95 38 93 94),q0 (oA 96 .mul 92 95),q0 (fA 97 7 11),q2 (tS 97 96)] (rS [fA 98 8 11,ie (.st1 (.t 98) (kI 0))] (rS [iv 99 8,pA 100 99 20,iv 101 8,pA 102 101 45,iv 103 8,pA 104 103 70,ia 105 (.bld [.c (.i 0),.c (.i 0),.c (.i 0)] [(0,1,.t 100),(1,1,.t 102),(2,1,.t 104)]),ia 12 (.alloc [.c (.i 0),.c (.i 0),.c (.i 0)]),tN 3 12 105] (rE [q3 (dA 106 10 11),q0 (iv 107 0),q4 2 true [0] (ia 108 (.call 18 [.t 107,kI 9])),q4 0 false [2] (iv 109 0),q4 2 true [0] (ia 110 (.call 18 [.t 109,kI 5])),q3 (ia 111 (.bin .add (kI 1) (.t 110))),q4 0 true [2,4] (iv 112 8),q4 0 true [2,4] (pA 113 112 10),q4 0 false [2,4] (iv 114 0),q4 2 true [0,5,6,7] (ia 115 (.call 18 [.t 114,kI 20])),q3 (ia 116 (.bin .add (kI 1) (.t 115))),q3 (ia 117 (.bld [.c (.i 0),.c (.i 0),.c (.i 0),.c (.i 0),.c (.i 0)] [(0,1,kI 2),(1,1,.t 108),(2,1,.t 111),(3,1,.t 113),(4,1,.t 116)])),q4 0 true [2,4,9] (dA 118 3 12),q4 0 false [2,4,9] (iv 119 0),q4 2 true [0,5,6,7,10,11,12] (c1 120 39 119),q0 (ia 121 (.bld [.c (.i 0),.c (.i 0),.c (.i 0),.c (.i 0),.c (.i 0),.c (.i 0),.c (.i 0),.c (.i 0),.c (.i 0),.nil 2,.c (.i 0),.c (.i 0),.c (.i 0),.c (.i 0),.c (.i 0),.c (.i 0),.c (.i 0),.c (.i 0),.nil 2,.c (.b false),.c (.i 0),.nil 4] [(0,10,.t 106),(10,5,.t 117),(15,3,.t 118),(18,1,.t 120)])),q4 1 false [2,4,9,14] (ia 13 (.alloc [.c (.i 0),.c (.i 0),.c (.i 0),.c (.i 0),.c (.i 0),.c (.i 0),.c (.i 0),.c (.i 0),.c (.i 0),.nil 2,.c (.i 0),.c (.i 0),.c (.i 0),.c (.i 0),.c (.i 0),.c (.i 0),.c (.i 0),.c (.i 0),.nil 2,.c (.b false),.c (.i 0),.nil 4])),q2 (tN 22 13 121)] (iS [fA 122 18 13,lA 123 122,c1 124 40 123,nN 125 124] 125 (.reg [bZ 126 2,fA 127 18 13,tS 127 126]) (.reg [iv 128 6,dA 129 22 13,bS 130 22 129,aP 131 22 224 128 130,iv 6 131]))))))))))))) (.reg [iv 25 7,pA 26 25 1,iv 7 26]))))) (rS [iv 133 4,iv 134 5,iv 135 6,iv 136 0,c1 137 42 136,ia 138 (.call 41 [.t 133,.t 134,.t 135,.t 137]),iv 132 138,eX 139 0 132,eX 140 1 132,ia 14 (.alloc [.c (.i 0),.nil 3,.nil 2,.nil 22,.nil 1,.nil 2,.nil 1,.c (.i 0),.c (.i 0),.nil 1,.nil 1,.nil 5,.nil 4,.c (.i 0),.c (.i 0),.c (.i 0)]),tN 16 14 139,iv 15 140] (rR [dA 141 16 14,tN 16 2 141])))))))) [.cl 2 16]:=yA (some [38,18,44,39]) Tryz.func17 (by kernel_rfl)
theorem yY0 : Has Tryz.prog 18 37 (rS [mA 4 0] (iS [iv 9 1,oI 10 .leq 9 0] 10 (rR [mA 4 0]) (iS [iv 11 1,oI 12 .leq 11 256] 12 (rR [iv 13 0,c1 14 43 13,iv 15 1,oA 16 .rem 14 15,iv 4 16]) (rS [iv 17 0,c1 18 43 17,iv 5 18] (rS [iv 19 0,c1 20 43 19,iv 6 20] (rS [iv 21 0,c1 22 43 21,iv 7 22] (rS [iv 23 0,c1 24 43 23,iv 8 24] (rR [iv 25 5,oI 26 .mul 25 16777216,iv 27 6,oI 28 .mul 27 65536,oA 29 .add 26 28,iv 30 7,oI 31 .mul 30 256,oA 32 .add 29 31,iv 33 8,oA 34 .add 32 33,iv 35 1,oA 36 .rem 34 35,iv 4 36])))))))) [.t 4]:=yA none Tryz.func18 (by kernel_rfl)
theorem yabB : Has Tryz.prog 19 57 (rS [ia 4 (.alloc [.c (.b false),.nil 1])] (rS [iv 9 0,ia 10 (.call 44 [.t 9,kI 2]),ia 11 (.bld [.c (.b false),.nil 1] [(0,1,.t 10)]),ia 5 (.alloc [.c (.b false),.nil 1]),tN 2 5 11] (rS [iv 12 0,ia 13 (.call 18 [.t 12,kI 4]),ia 14 (.bin .add (kI 1) (.t 13)),iv 6 14] (.seq (rS [mA 7 0] (bL 0 (xS [iv 15 7,iv 16 6,tA 17 15 16] 17 0 (.seq (.block 1 (rS [iv 20 0,iv 21 1,iv 22 7,oA 23 .add 21 22,c2 24 45 20 23,ia 8 (.alloc [.c (.i 0),.c (.i 0),.c (.i 0),.c (.i 0),.c (.i 0),.c (.i 0)]),tN 6 8 24] (rS [iv 25 7,oI 26 .gtr 25 0,iv 27 26,g8 27 true 28 0,ig 27 true 29 (.call 44 [.t 28,kI 2]),pF 30 27 29] (cT 30 (.rege [q3 (fA 31 1 5),q3 (lA 32 31),q3 (fA 33 1 5),q3 (lA 34 33),q3 (nA 35 34),q3 (oI 36 .sub 35 1),q0 (fA 37 1 5),q0 (lA 38 37),q0 (fA 39 1 5),q0 (lA 40 39),q0 (nA 41 40),q0 (oI 42 .sub 41 1),q0 (xA 43 1 38 42),q0 (lA 44 43),q0 (dA 45 6 8),q1 (bS 46 6 45),q4 2 false [0,1,2,3,4,5] (aP 47 6 48 44 46),q0 (xA 48 1 32 36),q2 (tS 48 47)]) (.reg [fA 49 1 5,lA 50 49,dA 51 6 8,bS 52 6 51,bS 53 1 52,aP 54 1 24 50 53,fA 55 1 5,tS 55 54]))))) (.reg [iv 18 7,pA 19 18 1,iv 7 19]))))) (rR [dA 56 2 5,tN 2 4 56]))))) [.cl 4 2]:=yA none Tryz.func19 (by kernel_rfl)
theorem yoE : Has Tryz.prog 20 60 (rS [bX 1 2 0,bA 2 false] (iS [fA 9 1 1,lA 10 9,nA 11 10,oI 12 .eql 11 0,iv 13 12,gA 13 false 14 1 1,hA 13 false 15 14,ig 13 false 16 (.len (.t 15)),ig 13 false 17 (.bin .gtr (.t 16) (kI 6)),pT 18 13 17] 18 (rR [bA 2 false]) (rS [ia 3 (.alloca 1 6 [.i 0])] (rS [mA 4 0] (.seq (rS [fA 19 1 1,lA 20 19,nA 21 20,mA 22 0] (bL 0 (rS [tA 23 22 21] (.seq (cX 23 0) (.seq (.block 1 (rS [xA 24 1 20 22,lA 25 24,iv 6 25] (iS [iv 26 6,nA 27 26,oI 28 .eql 27 0,iv 29 28,g8 29 false 30 4,g8 29 false 31 6,ig 29 false 32 (.len (.t 31)),ig 29 false 33 (.bin .add (.t 30) (.t 32)),ig 29 false 34 (.bin .gtr (.t 33) (kI 6)),pT 35 29 34] 35 (rR [bA 2 false]) (rS [iv 36 6,nA 37 36,mA 38 0] (bL 2 (rS [tA 39 38 37] (.seq (cX 39 2) (.seq (.block 3 (rS [xA 40 6 36 38,dA 41 6 40,ia 8 (.alloc [.c (.i 0),.c (.i 0),.c (.i 0),.c (.i 0),.c (.i 0),.c (.i 0)]),tN 6 8 41] (.seq (rQ [dA 42 6 8,c1 43 46 42,nN 44 43,iv 45 44,g8 45 false 46 4,ig 45 false 47 (.sla 1 6 (.t 3) (.t 46)),gA 45 false 48 0 8,hA 45 false 49 48,ig 45 false 50 (.call 23 [.t 47,.t 49]),pT 51 45 50] (cI 51 (rR [bA 2 false]))) (rS [iv 52 4,fA 53 0 8,lA 54 53,ia 55 (.ida 1 6 (.t 3) (.t 52)),tS 55 54] (.reg [iv 56 4,pA 57 56 1,iv 4 57]))))) (.reg [pA 58 38 1,iv 38 58]))))))))) (.reg [pA 59 22 1,iv 22 59])))))) (rR [bA 2 true])))))) [.t 2]:=yA none Tryz.func20 (by kernel_rfl)
theorem yjQ : Has Tryz.prog 21 79 (rS [bX 1 16 0,ia 2 (.alloc [.c (.i 0),.nil 3,.nil 2,.nil 22,.nil 1,.nil 2,.nil 1,.c (.i 0),.c (.i 0),.nil 1,.nil 1,.nil 5,.nil 4,.c (.i 0),.c (.i 0),.c (.i 0)])] (rS [fA 9 1 1,lA 10 9,c1 11 47 10,fA 12 1 1,tS 12 11] (rS [fA 13 2 1,lA 14 13,c1 15 48 14,fA 16 2 1,tS 16 15] (rS [fA 17 3 1,lA 18 17,c1 19 49 18,fA 20 3 1,tS 20 19] (rS [fA 21 4 1,lA 22 21,nA 23 22,ia 24 (.mks 1 24 [.sl 3 []] (.t 23) (.t 23)),iv 3 24] (.seq (rS [fA 25 4 1,lA 26 25,nA 27 26,mA 28 0] (bL 0 (rS [tA 29 28 27] (.seq (cX 29 0) (.seq (.block 1 (rS [iv 30 28,xA 31 1 26 28,lA 32 31,iv 4 30,iv 5 32] (.reg [iv 33 3,iv 34 4,iv 35 5,c1 36 50 35,xA 37 1 33 34,tS 37 36]))) (.reg [pA 38 28 1,iv 28 38])))))) (rS [iv 39 3,fA 40 4 1,tS 40 39] (rS [fA 41 5 1,lA 42 41,c1 43 51 42,fA 44 5 1,tS 44 43] (rS [fA 45 6 1,lA 46 45,c1 47 52 46,fA 48 6 1,tS 48 47] (rS [fA 49 7 1,dA 50 4 49,c1 51 53 50,fA 52 7 1,tN 4 52 51] (rS [fA 53 11 1,lA 54 53,c1 55 54 54,fA 56 11 1,tS 56 55] (rS [mN 6 4] (.seq (rS [fA 57 12 1,lA 58 57,nA 59 58,mA 60 0] (bL 2 (rS [tA 61 60 59] (.seq (cX 61 2) (.seq (.block 3 (rS [xA 62 4 58 60,dA 63 4 62,ia 8 (.alloc [.c (.i 0),.c (.i 0),.c (.b false),.nil 1]),tN 4 8 63] (.rege [q3 (iv 64 6),q0 (fA 65 0 8),q0 (lA 66 65),q0 (fA 67 1 8),q0 (lA 68 67),q0 (fA 69 2 8),q0 (dA 70 2 69),q0 (c1 71 55 70),q0 (ia 72 (.bld [.c (.i 0),.c (.i 0),.c (.b false),.nil 1] [(0,1,.t 66),(1,1,.t 68),(2,2,.t 71)])),q4 2 false [0] (bS 73 4 72),q2 (aP 74 4 48 64 73),q0 (iv 6 74)]))) (.reg [pA 75 60 1,iv 60 75])))))) (rS [iv 76 6,fA 77 12 1,tS 77 76] (rR [dA 78 16 1,tN 16 2 78]))))))))))))))) [.cl 2 16]:=yA (some [38,18,44,39]) Tryz.func21 (by kernel_rfl)
theorem ysm : Has Tryz.prog 22 23 (rS [bX 1 2 0,mN 2 1] (iS [dA 6 2 1,c1 7 20 6,nN 8 7] 8 (rR [mN 2 1]) (rS [mN 3 1] (.seq (rS [dA 9 2 1,c1 10 56 9,nA 11 10,mA 12 0] (bL 0 (rS [tA 13 12 11] (.seq (cX 13 0) (.seq (.block 1 (rS [xA 14 6 10 12,dA 15 6 14,ia 5 (.alloc [.c (.i 0),.c (.i 0),.c (.i 0),.c (.i 0),.c (.i 0),.c (.i 0)]),tN 6 5 15] (.reg [iv 16 3,fA 17 0 5,lA 18 17,bS 19 1 18,aP 20 1 8 16 19,iv 3 20]))) (.reg [pA 21 12 1,iv 12 21])))))) (rR [iv 22 3,iv 2 22]))))) [.t 2]:=yA none Tryz.func22 (by kernel_rfl)
theorem yfu : Has Tryz.prog 23 9 (rS [bA 4 false] (rR [iv 5 0,iv 6 1,c2 7 57 5 6,oI 8 .geq 7 0,iv 4 8])) [.t 4]:=yA none Tryz.func23 (by kernel_rfl)
theorem ymx : Has Tryz.prog 29 25 (rS [mN 2 4] (rS [mN 3 4] (.seq (rS [iv 6 0,nA 7 6,mA 8 0] (bL 0 (rS [tA 9 8 7] (.seq (cX 9 0) (.seq (.block 1 (rS [xA 10 4 6 8,dA 11 4 10,ia 5 (.alloc [.c (.b false),.nil 1,.c (.i 0),.c (.i 0)]),tN 4 5 11] (.rege [q3 (iv 12 3),q0 (fA 13 0 5),q0 (dA 14 2 13),q0 (c1 15 55 14),q0 (fA 16 2 5),q0 (lA 17 16),q0 (fA 18 3 5),q0 (lA 19 18),q0 (ia 20 (.bld [.c (.b false),.nil 1,.c (.i 0),.c (.i 0)] [(0,2,.t 15),(2,1,.t 17),(3,1,.t 19)])),q4 2 false [0] (bS 21 4 20),q2 (aP 22 4 48 12 21),q0 (iv 3 22)]))) (.reg [pA 23 8 1,iv 8 23])))))) (rR [iv 24 3,iv 2 24])))) [.t 2]:=yA (some [38,18,44,39]) Tryz.func29 (by kernel_rfl)
def yabt : SC:=rS [bX 2 16 0,mN 4 4] (rS [fA 12 3 2,lA 13 12,iv 14 1,xA 15 22 13 14,dA 16 22 15,ia 5 (.alloc [.c (.i 0),.c (.i 0),.c (.i 0),.c (.i 0),.c (.i 0),.c (.i 0),.c (.i 0),.c (.i 0),.c (.i 0),.nil 2,.c (.i 0),.c (.i 0),.c (.i 0),.c (.i 0),.c (.i 0),.c (.i 0),.c (.i 0),.c (.i 0),.nil 2,.c (.b false),.c (.i 0),.nil 4]),tN 22 5 16] (rQ [fA 17 1 2,lA 18 17,iv 19 1,xA 20 3 18 19,dA 21 3 20,c1 22 66 21,fA 23 0 5,fA 24 2 23,lA 25 24,oA 26 .sub 22 25,iv 6 26] (rQ [fA 27 1 2,lA 28 27,iv 29 1,pA 30 29 1,xA 31 3 28 30,dA 32 3 31,c1 33 66 32,fA 34 0 5,fA 35 3 34,lA 36 35,oA 37 .sub 33 36,iv 7 37] (rS [mN 8 4] (.seq (rS [fA 38 21 5,lA 39 38,nA 40 39,mA 41 0] (bL 0 (rS [tA 42 41 40] (.seq (cX 42 0) (.seq (.block 1 (rS [xA 43 4 39 41,dA 44 4 43,ia 10 (.alloc [.c (.b false),.nil 1,.c (.i 0),.c (.i 0)]),tN 4 10 44] (rS [iv 45 6,iv 11 45] (iS [fA 46 0 10,fA 47 0 46,lA 48 47] 48 (.reg [iv 49 7,iv 11 49]) (rS [iv 50 11,fA 51 0 10,dA 52 2 51,c1 53 67 52,oA 54 .geq 50 53,iv 55 54,gA 55 true 56 0 5,ig 55 true 57 (.ldn 10 (.t 56)),gA 55 true 58 0 10,ig 55 true 59 (.ldn 2 (.t 58)),ig 55 true 60 (.bsl 2 [.t 59]),ig 55 true 61 (.call 68 [.t 57,.t 60]),pF 62 55 61] (cI 62 (.reg [iv 63 8,dA 64 4 10,bS 65 4 64,aP 66 4 48 63 65,iv 8 66]))))))) (.reg [pA 67 41 1,iv 41 67])))))) (rR [iv 68 8,iv 4 68]))))))
theorem yacO : Has Tryz.prog 30 69 yabt [.t 4]:=yA none Tryz.func30 (by kernel_rfl)
def yi1 : SC:=rS [bA 6 false] (rR [iv 7 0,iv 8 1,oA 9 .geq 7 8,iv 10 9,g8 10 true 11 0,g8 10 true 12 2,ig 10 true 13 (.bin .leq (.t 11) (.t 12)),pF 14 10 13,iv 6 14])
theorem yot : Has Tryz.prog 31 15 yi1 [.t 6]:=yA none Tryz.func31 (by kernel_rfl)
theorem yN8 : Has Tryz.prog 33 26 (rS [bX 1 16 0,mA 2 0] (iS [dA 6 16 1,c1 7 15 6,nN 8 7] 8 (rR [mA 2 0]) (rS [fA 9 1 1,lA 10 9,c1 11 73 10,iv 3 11] (.seq (rS [fA 12 3 1,lA 13 12,nA 14 13,mA 15 0] (bL 0 (rS [tA 16 15 14] (.seq (cX 16 0) (.seq (.block 1 (rS [xA 17 22 13 15,dA 18 22 17,ia 5 (.alloc [.c (.i 0),.c (.i 0),.c (.i 0),.c (.i 0),.c (.i 0),.c (.i 0),.c (.i 0),.c (.i 0),.c (.i 0),.nil 2,.c (.i 0),.c (.i 0),.c (.i 0),.c (.i 0),.c (.i 0),.c (.i 0),.c (.i 0),.c (.i 0),.nil 2,.c (.b false),.c (.i 0),.nil 4]),tN 22 5 18] (.reg [iv 19 3,fA 20 0 5,fA 21 7 20,lA 22 21,oA 23 .add 19 22,iv 3 23]))) (.reg [pA 24 15 1,iv 15 24])))))) (rR [iv 25 3,iv 2 25]))))) [.t 2]:=yA none Tryz.func33 (by kernel_rfl)
theorem ypQ : Has Tryz.prog 34 90 (rS [bX 1 16 0,bA 2 false] (rS [fA 10 1 1,lA 11 10,nA 12 11,iv 3 12] (iS [fA 13 1 1,lA 14 13,c1 15 74 14,nN 16 15,iv 17 16,g8 17 false 18 3,ig 17 false 19 (.bin .lss (.t 18) (kI 2)),pT 20 17 19,iv 21 20,gA 21 false 22 2 1,hA 21 false 23 22,ig 21 false 24 (.len (.t 23)),g8 21 false 25 3,ig 21 false 26 (.bin .neq (.t 24) (.t 25)),pT 27 21 26,iv 28 27,gA 28 false 29 4 1,hA 28 false 30 29,ig 28 false 31 (.len (.t 30)),g8 28 false 32 3,ig 28 false 33 (.bin .neq (.t 31) (.t 32)),pT 34 28 33,iv 35 34,gA 35 false 36 3 1,hA 35 false 37 36,ig 35 false 38 (.len (.t 37)),g8 35 false 39 3,ig 35 false 40 (.bin .sub (.t 39) (kI 1)),ig 35 false 41 (.bin .neq (.t 38) (.t 40)),pT 42 35 41] 42 (rR [bA 2 false]) (.seq (rS [fA 43 2 1,lA 44 43,nA 45 44,mA 46 0] (bL 0 (rS [tA 47 46 45] (.seq (cX 47 0) (.seq (.block 1 (rS [iv 48 46,xA 49 2 44 46,dA 50 2 49,ia 5 (.alloc [.c (.i 0),.c (.i 0)]),iv 4 48,tN 2 5 50] (iS [dA 51 2 5,c1 52 75 51,nN 53 52,iv 54 53,gA 54 false 55 4 1,hA 54 false 56 55,g8 54 false 57 4,ig 54 false 58 (.idx 1 (.t 56) (.t 57)),hA 54 false 59 58,ig 54 false 60 (.len (.t 59)),ig 54 false 61 (.bin .gtr (.t 60) (kI 24)),pT 62 54 61] 62 (rR [bA 2 false]) (rS [fA 63 4 1,lA 64 63,iv 65 4,xA 66 1 64 65,lA 67 66,nA 68 67,mA 69 0] (bL 2 (rS [tA 70 69 68] (.seq (cX 70 2) (.seq (.block 3 (rS [xA 71 3 67 69,dA 72 3 71,ia 7 (.alloc [.c (.b false),.nil 1,.c (.i 0)]),tN 3 7 72] (rS [dA 73 3 7,dA 74 2 5,c2 75 76 73 74,nN 76 75] (cI 76 (rR [bA 2 false]))))) (.reg [pA 77 69 1,iv 69 77]))))))))) (.reg [pA 78 46 1,iv 46 78])))))) (.seq (rS [fA 79 3 1,lA 80 79,nA 81 80,mA 82 0] (bL 4 (rS [tA 83 82 81] (.seq (cX 83 4) (.seq (.block 5 (rS [xA 84 22 80 82,dA 85 22 84,ia 9 (.alloc [.c (.i 0),.c (.i 0),.c (.i 0),.c (.i 0),.c (.i 0),.c (.i 0),.c (.i 0),.c (.i 0),.c (.i 0),.nil 2,.c (.i 0),.c (.i 0),.c (.i 0),.c (.i 0),.c (.i 0),.c (.i 0),.c (.i 0),.c (.i 0),.nil 2,.c (.b false),.c (.i 0),.nil 4]),tN 22 9 85] (rS [dA 86 22 9,c1 87 77 86,nN 88 87] (cI 88 (rR [bA 2 false]))))) (.reg [pA 89 82 1,iv 82 89])))))) (rR [bA 2 true])))))) [.t 2]:=yA none Tryz.func34 (by kernel_rfl)
theorem ynP : Has Tryz.prog 35 63 (rS [bX 1 4 0,bA 2 false] (iS [fA 8 0 1,lA 9 8,ia 10 (.call 31 [.t 9,kI 0,kI 10000]),nN 11 10,iv 12 11,gA 12 false 13 1 1,hA 12 false 14 13,ig 12 false 15 (.call 31 [.t 14,kI 0,kI 100]),g9 12 false 16 15,pT 17 12 16,iv 18 17,gA 18 false 19 2 1,hA 18 false 20 19,ig 18 false 21 (.len (.t 20)),ig 18 false 22 (.bin .neq (.t 21) (kI 3)),pT 23 18 22,iv 24 23,gA 24 false 25 3 1,hA 24 false 26 25,ig 24 false 27 (.len (.t 26)),ig 24 false 28 (.bin .lss (.t 27) (kI 1)),pT 29 24 28,iv 30 29,gA 30 false 31 3 1,hA 30 false 32 31,ig 30 false 33 (.len (.t 32)),ig 30 false 34 (.bin .gtr (.t 33) (kI 11)),pT 35 30 34] 35 (rR [bA 2 false]) (.seq (rS [fA 36 2 1,lA 37 36,nA 38 37,mA 39 0] (bL 0 (rS [tA 40 39 38] (.seq (cX 40 0) (.seq (.block 1 (rS [xA 41 1 37 39,lA 42 41,iv 4 42] (rS [iv 43 4,ia 44 (.call 31 [.t 43,kI 0,kI 10000]),nN 45 44] (cI 45 (rR [bA 2 false]))))) (.reg [pA 46 39 1,iv 39 46])))))) (rS [mA 5 0] (.seq (rS [fA 47 3 1,lA 48 47,nA 49 48,mA 50 0] (bL 2 (rS [tA 51 50 49] (.seq (cX 51 2) (.seq (.block 3 (rS [xA 52 1 48 50,lA 53 52,iv 7 53] (iS [iv 54 7,ia 55 (.call 31 [.t 54,kI 0,kI 1000]),nN 56 55] 56 (rR [bA 2 false]) (.reg [iv 57 5,iv 58 7,oA 59 .add 57 58,iv 5 59])))) (.reg [pA 60 50 1,iv 50 60])))))) (rR [iv 61 5,oI 62 .gtr 61 0,iv 2 62])))))) [.t 2]:=yA none Tryz.func35 (by kernel_rfl)
theorem yqI : Has Tryz.prog 36 18 (rS [bA 2 false] (iS [iv 5 0,nA 6 5,oI 7 .gtr 6 2000] 7 (rR [bA 2 false]) (.seq (rS [iv 8 0,nA 9 8,mA 10 0] (bL 0 (rS [tA 11 10 9] (.seq (cX 11 0) (.seq (.block 1 (rS [xA 12 5 8 10,dA 13 5 12,ia 4 (.alloc [.c (.i 0),.c (.i 0),.c (.i 0),.c (.i 0),.c (.i 0)]),tN 5 4 13] (rS [dA 14 5 4,c1 15 78 14,nN 16 15] (cI 16 (rR [bA 2 false]))))) (.reg [pA 17 10 1,iv 10 17])))))) (rR [bA 2 true])))) [.t 2]:=yA none Tryz.func36 (by kernel_rfl)
theorem yabA : Has Tryz.prog 37 27 (rS [ia 6 (.alloc [.nil 2,.c (.i 0),.nil 1]),bA 7 false] (iS [iv 9 2,ia 10 (.call 79 [.t 9,kI 0,kI 12]),nN 11 10] 11 (rR [ia 12 (.bld [.nil 2,.c (.i 0),.nil 1] []),tN 3 6 12,bA 7 false]) (rE [q1 (bZ 13 2),q0 (iv 14 0),q4 2 true [] (aP 15 2 16 13 14),q4 0 false [2] (iv 16 0),q4 0 false [2] (iv 17 1),q0 (c2 18 80 16 17),q4 0 false [2] (iv 19 2),q4 1 false [2] (ia 20 (.mks 1 8 [.i 0] (.t 19) (.t 19))),q0 (ia 21 (.bld [.nil 2,.c (.i 0),.nil 1] [(0,1,.t 15),(1,1,.t 18),(2,1,.t 20)])),q4 1 false [2] (ia 8 (.alloc [.nil 2,.c (.i 0),.nil 1])),q2 (tN 3 8 21)] (iS [dA 22 3 8,c1 23 81 22,nN 24 23] 24 (rR [ia 25 (.bld [.nil 2,.c (.i 0),.nil 1] []),tN 3 6 25,bA 7 false]) (rR [dA 26 3 8,tN 3 6 26,bA 7 true]))))) [.cl 6 3,.t 7]:=yA none Tryz.func37 (by kernel_rfl)
theorem yaba : Has Tryz.prog 38 12 (rS [mA 4 0] (rR [iv 5 1,iv 6 0,iv 7 1,nA 8 7,c2 9 18 6 8,xA 10 1 5 9,lA 11 10,iv 4 11])) [.t 4]:=yA none Tryz.func38 (by kernel_rfl)
theorem yabq : Has Tryz.prog 39 69 (rS [mN 2 2] (rS [bZ 7 2,iv 3 7] (rS [iv 8 0,ia 9 (.call 18 [.t 8,kI 20]),iv 4 9] (.seq (rS [iv 10 0,ia 11 (.call 18 [.t 10,kI 4]),iv 5 11] (bL 0 (xS [iv 12 5,oI 13 .gtr 12 0] 13 0 (.seq (.block 1 (rS [iv 16 0,ia 17 (.call 18 [.t 16,kI 20]),ia 18 (.bin .add (kI 1) (.t 17)),iv 6 18] (rS [iv 19 3,iv 20 4,iv 21 4,iv 22 6,oA 23 .add 21 22,ia 24 (.bld [.c (.i 0),.c (.i 0)] [(0,1,.t 20),(1,1,.t 23)]),bS 25 2 24,aP 26 2 16 19 25,iv 3 26] (.reg [iv 27 4,iv 28 6,oA 29 .add 27 28,iv 30 0,ia 31 (.bsl 1 [kI 0,kI 3,kI 30]),c2 32 38 30 31,oA 33 .add 29 32,iv 4 33])))) (.reg [iv 14 5,oI 15 .sub 14 1,iv 5 15]))))) (.seq (rS [iv 34 0,ia 35 (.call 18 [.t 34,kI 10])] (.block 2 (rS [oI 37 .eql 35 0,iv 36 37] (cT 36 (.reg [iv 38 3,iv 39 0,ia 40 (.bsl 1 [kI (-1),kI 0,kI 500,kI 1000000]),c2 41 38 39 40,iv 42 0,ia 43 (.bsl 1 [kI 0,kI 500,kI 600,kI 1000000,kI 1000001]),c2 44 38 42 43,ia 45 (.bld [.c (.i 0),.c (.i 0)] [(0,1,.t 41),(1,1,.t 44)]),bS 46 2 45,aP 47 2 16 38 46,iv 3 47]) (rS [oI 49 .eql 35 1,iv 48 49] (cI 48 (bL 3 (xS [iv 50 3,nA 51 50,iv 52 0,ia 53 (.call 18 [.t 52,kI 2]),ia 54 (.bin .add (kI 8) (.t 53)),tA 55 51 54] 55 3 (.block 4 (.reg [iv 56 3,iv 57 3,nA 58 57,ia 59 (.bin .mul (kI 10) (.t 58)),ia 60 (.bin .add (kI 1000) (.t 59)),iv 61 3,nA 62 61,ia 63 (.bin .mul (kI 10) (.t 62)),ia 64 (.bin .add (kI 1005) (.t 63)),ia 65 (.bld [.c (.i 0),.c (.i 0)] [(0,1,.t 60),(1,1,.t 64)]),bS 66 2 65,aP 67 2 16 56 66,iv 3 67])))))))))) (rR [iv 68 3,iv 2 68])))))) [.t 2]:=yA none Tryz.func39 (by kernel_rfl)
theorem yny : Has Tryz.prog 40 47 (rS [bA 2 false] (rS [mA 3 0] (.seq (rS [mA 4 0] (bL 0 (xS [iv 5 4,iv 6 0,nA 7 6,tA 8 5 7] 8 0 (.seq (.block 1 (.seq (rQ [iv 11 0,iv 12 4,xA 13 2 11 12,fA 14 0 13,lA 15 14,iv 16 3,tA 17 15 16,iv 18 17,g8 18 false 19 0,g8 18 false 20 4,ig 18 false 21 (.idx 2 (.t 19) (.t 20)),gA 18 false 22 1 21,hA 18 false 23 22,g8 18 false 24 0,g8 18 false 25 4,ig 18 false 26 (.idx 2 (.t 24) (.t 25)),gA 18 false 27 0 26,hA 18 false 28 27,ig 18 false 29 (.bin .leq (.t 23) (.t 28)),pT 30 18 29,iv 31 30,g8 31 false 32 0,g8 31 false 33 4,ig 31 false 34 (.idx 2 (.t 32) (.t 33)),gA 31 false 35 1 34,hA 31 false 36 35,ig 31 false 37 (.bin .gtr (.t 36) (kI 1000000)),pT 38 31 37] (cI 38 (rR [bA 2 false]))) (.reg [iv 39 0,iv 40 4,xA 41 2 39 40,fA 42 1 41,lA 43 42,iv 3 43]))) (.reg [iv 9 4,pA 10 9 1,iv 4 10]))))) (rR [iv 44 0,nA 45 44,oI 46 .leq 45 8,iv 2 46])))) [.t 2]:=yA none Tryz.func40 (by kernel_rfl)
theorem yNV : Has Tryz.prog 41 54 (rS [bX 7 4 3,ia 8 (.alloc [.c (.i 0),.nil 3,.nil 2,.nil 22,.nil 1,.nil 2,.nil 1,.c (.i 0),.c (.i 0),.nil 1,.nil 1,.nil 5,.nil 4,.c (.i 0),.c (.i 0),.c (.i 0)]),bA 9 false] (rE [q0 (iv 12 0),q0 (iv 13 1),q0 (iv 14 2),q0 (dA 15 4 7),q0 (iv 16 0),q0 (nA 17 16),q1 (ia 18 (.mks 1 24 [.sl 3 []] (.t 17) (.t 17))),q0 (ia 19 (.bld [.c (.i 0),.nil 3,.nil 2,.nil 22,.nil 1,.nil 2,.nil 1,.c (.i 0),.c (.i 0),.nil 1,.nil 1,.nil 5,.nil 4,.c (.i 0),.c (.i 0),.c (.i 0)] [(1,1,.t 12),(2,1,.t 13),(3,1,.t 14),(7,4,.t 15),(4,1,.t 18)])),q1 (ia 10 (.alloc [.c (.i 0),.nil 3,.nil 2,.nil 22,.nil 1,.nil 2,.nil 1,.c (.i 0),.c (.i 0),.nil 1,.nil 1,.nil 5,.nil 4,.c (.i 0),.c (.i 0),.c (.i 0)])),q2 (tN 16 10 19)] (rS [dA 20 16 10,c1 21 82 20,tN 16 10 21] (rS [dA 22 16 10,c1 23 83 22,fA 24 13 10,tS 24 23] (.seq (rS [mA 11 0] (bL 0 (xS [iv 25 11,iv 26 2,nA 27 26,tA 28 25 27] 28 0 (.seq (.block 1 (rS [iv 31 2,iv 32 11,xA 33 22 31 32,fA 34 0 33,fA 35 9 34,lA 36 35,nA 37 36,oI 38 .gtr 37 0,iv 39 38,g8 39 false 40 2,g8 39 false 41 11,ig 39 false 42 (.idx 22 (.t 40) (.t 41)),gA 39 false 43 21 42,hA 39 false 44 43,ig 39 false 45 (.len (.t 44)),ig 39 false 46 (.bin .gtr (.t 45) (kI 0)),pT 47 39 46] (cI 47 (rR [ia 48 (.bld [.c (.i 0),.nil 3,.nil 2,.nil 22,.nil 1,.nil 2,.nil 1,.c (.i 0),.c (.i 0),.nil 1,.nil 1,.nil 5,.nil 4,.c (.i 0),.c (.i 0),.c (.i 0)] []),tN 16 8 48,bA 9 false])))) (.reg [iv 29 11,pA 30 29 1,iv 11 30]))))) (iS [dA 49 16 10,c1 50 84 49,nN 51 50] 51 (rR [ia 52 (.bld [.c (.i 0),.nil 3,.nil 2,.nil 22,.nil 1,.nil 2,.nil 1,.c (.i 0),.c (.i 0),.nil 1,.nil 1,.nil 5,.nil 4,.c (.i 0),.c (.i 0),.c (.i 0)] []),tN 16 8 52,bA 9 false]) (rR [dA 53 16 10,tN 16 8 53,bA 9 true]))))))) [.cl 8 16,.t 9]:=yA none Tryz.func41 (by kernel_rfl)
theorem yabj : Has Tryz.prog 42 39 (rS [ia 2 (.alloc [.c (.i 0),.c (.i 0),.nil 1,.nil 1])] (rS [iv 5 0,ia 6 (.call 18 [.t 5,kI 50]),iv 7 0,ia 8 (.call 18 [.t 7,kI 20]),iv 9 0,ia 10 (.call 18 [.t 9,kI 9]),iv 11 0,ia 12 (.call 18 [.t 11,kI 30]),ia 13 (.bsl 1 [.t 10,.t 12,kI 0]),ia 14 (.bld [.c (.i 0),.c (.i 0),.nil 1,.nil 1] [(0,1,.t 6),(1,1,.t 8),(2,1,.t 13)]),ia 3 (.alloc [.c (.i 0),.c (.i 0),.nil 1,.nil 1]),tN 4 3 14] (.seq (rS [iv 15 0,ia 16 (.call 18 [.t 15,kI 4]),ia 17 (.bin .add (kI 1) (.t 16)),iv 4 17] (bL 0 (xS [iv 18 4,oI 19 .gtr 18 0] 19 0 (.seq (.block 1 (.rege [q3 (fA 22 3 3),q3 (lA 23 22),q0 (iv 24 0),q1 (ia 25 (.bsl 1 [kI 1,kI 2,kI 3,kI 7,kI 0])),q4 2 false [0,1] (c2 26 38 24 25),q4 2 false [0,1] (bS 27 1 26),q2 (aP 28 1 8 23 27),q0 (fA 29 3 3),q2 (tS 29 28)])) (.reg [iv 20 4,oI 21 .sub 20 1,iv 4 21]))))) (rE [q0 (fA 30 3 3),q0 (lA 31 30),q0 (fA 32 3 3),q0 (lA 33 32),q0 (ia 34 (.idx 1 (.t 33) (kI 0))),q0 (lA 35 34),q0 (pA 36 35 1),q0 (ia 37 (.idx 1 (.t 31) (kI 0))),q2 (tS 37 36)] (rR [dA 38 4 3,tN 4 2 38]))))) [.cl 2 4]:=yA (some [38,18,44,39]) Tryz.func42 (by kernel_rfl)
def yYE : SC:=rS [mA 2 0] (rS [iv 4 0,iv 5 0,ia 6 (.nck (.t 5)),fA 7 2 6,lA 8 7,ia 9 (.binw .mul (.t 8) (kI 6364136223846793005)),ia 10 (.binw .add (.t 9) (kI 1442695040888963407)),ia 11 (.nck (.t 4)),fA 12 2 11,tS 12 10] (rQ [iv 13 0,ia 14 (.nck (.t 13)),fA 15 2 14,lA 16 15,ia 17 (.bit .shr (.t 16) (kI 33)),iv 18 0,ia 19 (.nck (.t 18)),fA 20 2 19,lA 21 20,ia 22 (.bit .shr (.t 21) (kI 45)),ia 23 (.bit .xor (.t 17) (.t 22)),ia 24 (.bit .and (.t 23) (kI 255)),iv 3 24] (.seq (rQ [iv 25 0,ia 26 (.nck (.t 25)),fA 27 1 26,lA 28 27,iv 29 0,ia 30 (.nck (.t 29)),fA 31 0 30,lA 32 31,nA 33 32,tA 34 28 33] (cI 34 (rQ [iv 35 3,iv 36 0,ia 37 (.nck (.t 36)),fA 38 0 37,lA 39 38,iv 40 0,ia 41 (.nck (.t 40)),fA 42 1 41,lA 43 42,xA 44 1 39 43,lA 45 44,ia 46 (.cvt 0 (.t 45)),oA 47 .add 35 46,ia 48 (.bit .and (.t 47) (kI 255)),iv 3 48] (.reg [iv 49 0,iv 50 0,ia 51 (.nck (.t 50)),fA 52 1 51,lA 53 52,pA 54 53 1,ia 55 (.nck (.t 49)),fA 56 1 55,tS 56 54])))) (rR [iv 57 3,iv 2 57]))))
theorem yZb : Has Tryz.prog 43 58 yYE [.t 2]:=yA none Tryz.func43 (by kernel_rfl)
theorem yabQ : Has Tryz.prog 44 9 (rS [bA 4 false] (rR [iv 5 0,iv 6 1,c2 7 18 5 6,oI 8 .eql 7 0,iv 4 8])) [.t 4]:=yA none Tryz.func44 (by kernel_rfl)
theorem yabR : Has Tryz.prog 45 21 (rS [ia 4 (.alloc [.c (.i 0),.c (.i 0),.c (.i 0),.c (.i 0),.c (.i 0),.c (.i 0)])] (rR [iv 5 1,iv 6 0,ia 7 (.bsl 1 [kI 5,kI 12,kI 30,kI 80]),c2 8 38 6 7,iv 9 0,ia 10 (.call 18 [.t 9,kI 9]),ia 11 (.bin .add (kI 1) (.t 10)),iv 12 0,ia 13 (.call 18 [.t 12,kI 30]),ia 14 (.bin .add (kI 1) (.t 13)),iv 15 0,ia 16 (.call 18 [.t 15,kI 12]),ia 17 (.bin .add (kI 1) (.t 16)),iv 18 0,ia 19 (.call 18 [.t 18,kI 3]),ia 20 (.bld [.c (.i 0),.c (.i 0),.c (.i 0),.c (.i 0),.c (.i 0),.c (.i 0)] [(0,1,.t 5),(1,1,.t 8),(2,1,.t 11),(3,1,.t 14),(4,1,.t 17),(5,1,.t 19)]),tN 6 4 20])) [.cl 4 6]:=yA none Tryz.func45 (by kernel_rfl)
theorem yqo : Has Tryz.prog 46 31 (rS [bX 1 6 0,bA 2 false] (rR [fA 3 0 1,lA 4 3,ia 5 (.call 31 [.t 4,kI 1,kI 9999]),iv 6 5,gA 6 true 7 1 1,hA 6 true 8 7,ig 6 true 9 (.call 31 [.t 8,kI 1,kI 200]),pF 10 6 9,iv 11 10,gA 11 true 12 2 1,hA 11 true 13 12,ig 11 true 14 (.call 31 [.t 13,kI 1,kI 30]),pF 15 11 14,iv 16 15,gA 16 true 17 3 1,hA 16 true 18 17,ig 16 true 19 (.call 31 [.t 18,kI 1,kI 100]),pF 20 16 19,iv 21 20,gA 21 true 22 4 1,hA 21 true 23 22,ig 21 true 24 (.call 31 [.t 23,kI 1,kI 50]),pF 25 21 24,iv 26 25,gA 26 true 27 5 1,hA 26 true 28 27,ig 26 true 29 (.call 31 [.t 28,kI 0,kI 2]),pF 30 26 29,iv 2 30])) [.t 2]:=yA none Tryz.func46 (by kernel_rfl)
theorem yku : Has Tryz.prog 47 22 (rS [mN 2 3] (rS [iv 6 0,nA 7 6,ia 8 (.mks 3 56 [.sl 2 [],.i 0,.sl 1 []] (kI 0) (.t 7)),iv 3 8] (.seq (rS [iv 9 0,nA 10 9,mA 11 0] (bL 0 (rS [tA 12 11 10] (.seq (cX 12 0) (.seq (.block 1 (rS [xA 13 3 9 11,dA 14 3 13,ia 5 (.alloc [.nil 2,.c (.i 0),.nil 1]),tN 3 5 14] (.reg [iv 15 3,dA 16 3 5,c1 17 85 16,bS 18 3 17,aP 19 3 56 15 18,iv 3 19]))) (.reg [pA 20 11 1,iv 11 20])))))) (rR [iv 21 3,iv 2 21])))) [.t 2]:=yA none Tryz.func47 (by kernel_rfl)
def ybZ : SC:=rS [mN 2 2] (iS [iv 3 0,ia 4 (.isn (.t 3))] 4 (rR [mN 2 2]) (rR [bZ 5 2,iv 6 0,aP 7 2 16 5 6,iv 2 7]))
theorem ydE : Has Tryz.prog 48 8 ybZ [.t 2]:=yA none Tryz.func48 (by kernel_rfl)
theorem ymk : Has Tryz.prog 49 30 (rS [mN 2 22] (rS [mN 3 22] (.seq (rS [iv 6 0,nA 7 6,mA 8 0] (bL 0 (rS [tA 9 8 7] (.seq (cX 9 0) (.seq (.block 1 (rS [xA 10 22 6 8,dA 11 22 10,ia 5 (.alloc [.c (.i 0),.c (.i 0),.c (.i 0),.c (.i 0),.c (.i 0),.c (.i 0),.c (.i 0),.c (.i 0),.c (.i 0),.nil 2,.c (.i 0),.c (.i 0),.c (.i 0),.c (.i 0),.c (.i 0),.c (.i 0),.c (.i 0),.c (.i 0),.nil 2,.c (.b false),.c (.i 0),.nil 4]),tN 22 5 11] (rS [fA 12 0 5,dA 13 10 12,c1 14 86 13,fA 15 0 5,tN 10 15 14] (rS [fA 16 18 5,lA 17 16,c1 18 87 17,fA 19 18 5,tS 19 18] (rS [fA 20 21 5,lA 21 20,c1 22 29 21,fA 23 21 5,tS 23 22] (.reg [iv 24 3,dA 25 22 5,bS 26 22 25,aP 27 22 224 24 26,iv 3 27])))))) (.reg [pA 28 8 1,iv 8 28])))))) (rR [iv 29 3,iv 2 29])))) [.t 2]:=yA none Tryz.func49 (by kernel_rfl)
theorem ylu : Has Tryz.prog 50 23 (rS [mN 2 3] (rS [mN 3 3] (.seq (rS [iv 6 0,nA 7 6,mA 8 0] (bL 0 (rS [tA 9 8 7] (.seq (cX 9 0) (.seq (.block 1 (rS [xA 10 3 6 8,dA 11 3 10,ia 5 (.alloc [.c (.b false),.nil 1,.c (.i 0)]),tN 3 5 11] (.rege [q3 (iv 12 3),q0 (fA 13 0 5),q0 (dA 14 2 13),q0 (c1 15 55 14),q0 (fA 16 2 5),q0 (lA 17 16),q0 (ia 18 (.bld [.c (.b false),.nil 1,.c (.i 0)] [(0,2,.t 15),(2,1,.t 17)])),q4 2 false [0] (bS 19 3 18),q2 (aP 20 3 40 12 19),q0 (iv 3 20)]))) (.reg [pA 21 8 1,iv 8 21])))))) (rR [iv 22 3,iv 2 22])))) [.t 2]:=yA (some [38,18,44,39]) Tryz.func50 (by kernel_rfl)
theorem ylm : Has Tryz.prog 51 19 (rS [mN 2 2] (rS [mN 3 2] (.seq (rS [iv 6 0,nA 7 6,mA 8 0] (bL 0 (rS [tA 9 8 7] (.seq (cX 9 0) (.seq (.block 1 (rS [xA 10 2 6 8,dA 11 2 10,ia 5 (.alloc [.c (.b false),.nil 1]),tN 2 5 11] (.reg [iv 12 3,dA 13 2 5,c1 14 55 13,bS 15 2 14,aP 16 2 32 12 15,iv 3 16]))) (.reg [pA 17 8 1,iv 8 17])))))) (rR [iv 18 3,iv 2 18])))) [.t 2]:=yA none Tryz.func51 (by kernel_rfl)
def ydx : SC:=rS [mN 2 1] (iS [iv 3 0,ia 4 (.isn (.t 3))] 4 (rR [mN 2 1]) (rR [bZ 5 1,iv 6 0,aP 7 1 8 5 6,iv 2 7]))
theorem ygh : Has Tryz.prog 52 8 ydx [.t 2]:=yA none Tryz.func52 (by kernel_rfl)
theorem ylf : Has Tryz.prog 53 12 (rS [bX 1 4 0,ia 2 (.alloc [.c (.i 0),.c (.i 0),.nil 1,.nil 1])] (rS [fA 3 2 1,lA 4 3,c1 5 52 4,fA 6 2 1,tS 6 5] (rS [fA 7 3 1,lA 8 7,c1 9 52 8,fA 10 3 1,tS 10 9] (rR [dA 11 4 1,tN 4 2 11])))) [.cl 2 4]:=yA none Tryz.func53 (by kernel_rfl)
def ybu : SC:=rS [mN 2 5] (iS [iv 3 0,ia 4 (.isn (.t 3))] 4 (rR [mN 2 5]) (rR [bZ 5 5,iv 6 0,aP 7 5 40 5 6,iv 2 7]))
theorem yc5 : Has Tryz.prog 54 8 ybu [.t 2]:=yA none Tryz.func54 (by kernel_rfl)
theorem yl6 : Has Tryz.prog 55 9 (rS [bX 1 2 0,ia 2 (.alloc [.c (.b false),.nil 1])] (rE [q0 (fA 3 0 1),q0 (lA 4 3),q0 (fA 5 1 1),q0 (lA 6 5),q0 (c1 7 88 6),q0 (ia 8 (.bld [.c (.b false),.nil 1] [(0,1,.t 4),(1,1,.t 7)])),q2 (tN 2 2 8)] .ret)) [.cl 2 2]:=yA none Tryz.func55 (by kernel_rfl)
theorem yoM : Has Tryz.prog 56 18 (rS [bX 1 2 0,mN 2 6] (rS [mN 3 6] (.seq (rS [fA 6 1 1,lA 7 6,nA 8 7,mA 9 0] (bL 0 (rS [tA 10 9 8] (.seq (cX 10 0) (.seq (.block 1 (rS [xA 11 1 7 9,lA 12 11,iv 5 12] (.reg [iv 13 3,iv 14 5,aP 15 6 48 13 14,iv 3 15]))) (.reg [pA 16 9 1,iv 9 16])))))) (rR [iv 17 3,iv 2 17])))) [.t 2]:=yA none Tryz.func56 (by kernel_rfl)
theorem ygi : Has Tryz.prog 57 19 (rS [mA 4 0] (.seq (rS [iv 6 0,nA 7 6,mA 8 0] (bL 0 (rS [tA 9 8 7] (.seq (cX 9 0) (.seq (.block 1 (rS [iv 10 8,iv 5 10] (rS [iv 11 1,iv 12 0,iv 13 5,xA 14 1 12 13,lA 15 14,oA 16 .eql 11 15] (cI 16 (rR [iv 17 5,iv 4 17]))))) (.reg [pA 18 8 1,iv 8 18])))))) (rR [mA 4 (-1)]))) [.t 4]:=yA none Tryz.func57 (by kernel_rfl)
theorem yoi : Has Tryz.prog 61 59 (rS [bX 1 2 0,bA 2 false] (rS [dA 7 2 1,c1 8 89 7,iv 3 8] (.seq (rS [mA 4 0] (bL 0 (xS [iv 9 4,fA 10 1 1,lA 11 10,nA 12 11,tA 13 9 12] 13 0 (.seq (.block 1 (rS [fA 16 1 1,lA 17 16,iv 18 4,xA 19 1 17 18,lA 20 19,nA 21 20,oI 22 .eql 21 0] (cI 22 (rR [bA 2 false])))) (.reg [iv 14 4,pA 15 14 1,iv 4 15]))))) (.seq (rS [mA 5 0] (bL 2 (xS [iv 23 5,iv 24 3,nA 25 24,tA 26 23 25,iv 27 26,g8 27 true 28 3,ig 27 true 29 (.len (.t 28)),ig 27 true 30 (.bin .leq (.t 29) (kI 6)),pF 31 27 30] 31 2 (.seq (.block 3 (iS [iv 34 3,iv 35 5,xA 36 6 34 35,dA 37 6 36,c1 38 90 37,nN 39 38] 39 (rR [bA 2 false]) (rS [mA 6 0] (bL 4 (xS [iv 40 6,iv 41 5,tA 42 40 41] 42 4 (.seq (.block 5 (rQ [iv 45 3,iv 46 6,xA 47 6 45 46,fA 48 0 47,lA 49 48,iv 50 3,iv 51 5,xA 52 6 50 51,fA 53 0 52,lA 54 53,oA 55 .eql 49 54] (cI 55 (rR [bA 2 false])))) (.reg [iv 43 6,pA 44 43 1,iv 6 44]))))))) (.reg [iv 32 5,pA 33 32 1,iv 5 33]))))) (rR [iv 56 3,nA 57 56,ia 58 (.call 79 [.t 57,kI 1,kI 6]),iv 2 58]))))) [.t 2]:=yA none Tryz.func61 (by kernel_rfl)
theorem yqa : Has Tryz.prog 66 28 (rS [bX 1 3 0,mA 2 0] (iS [dA 5 3 1,c1 6 95 5,nN 7 6] 7 (rR [mA 2 0]) (rS [fA 9 0 1,lA 10 9,fA 11 1 1,lA 12 11,c2 13 96 10 12,iv 8 13,eX 14 0 8,eX 15 1 8,iv 3 14,iv 4 15] (iS [iv 16 4,nN 17 16] 17 (rR [fA 18 0 1,lA 19 18,fA 20 0 1,lA 21 20,nA 22 21,oI 23 .sub 22 1,xA 24 2 19 23,fA 25 0 24,lA 26 25,iv 2 26]) (rR [iv 27 3,iv 2 27]))))) [.t 2]:=yA none Tryz.func66 (by kernel_rfl)
theorem yQk : Has Tryz.prog 67 22 (rS [bX 1 2 0,mA 2 0] (iS [dA 6 2 1,c1 7 20 6,nN 8 7] 8 (rR [mA 2 0]) (rS [mA 3 0] (.seq (rS [dA 9 2 1,c1 10 56 9,nA 11 10,mA 12 0] (bL 0 (rS [tA 13 12 11] (.seq (cX 13 0) (.seq (.block 1 (rS [xA 14 6 10 12,dA 15 6 14,ia 5 (.alloc [.c (.i 0),.c (.i 0),.c (.i 0),.c (.i 0),.c (.i 0),.c (.i 0)]),tN 6 5 15] (.reg [iv 16 3,fA 17 3 5,lA 18 17,ia 19 (.mx [.t 16,.t 18]),iv 3 19]))) (.reg [pA 20 12 1,iv 12 20])))))) (rR [iv 21 3,iv 2 21]))))) [.t 2]:=yA none Tryz.func67 (by kernel_rfl)
theorem yaaU : Has Tryz.prog 68 58 (rS [bX 2 10 0,bA 4 false] (iS [iv 12 1,c1 13 97 12,nN 14 13] 14 (rR [bA 4 false]) (rS [mA 5 0,mA 6 0,mA 7 0] (.seq (rS [iv 15 1,nA 16 15,mA 17 0] (bL 0 (rS [tA 18 17 16] (.seq (cX 18 0) (.seq (.block 1 (rS [iv 19 17,xA 20 2 15 17,dA 21 2 20,ia 9 (.alloc [.c (.b false),.nil 1]),iv 8 19,tN 2 9 21] (rQ [dA 22 2 9,c1 23 98 22,dA 24 2 9,c1 25 99 24,iv 10 23,iv 11 25] (iS [iv 26 10,fA 27 1 2,lA 28 27,oA 29 .gtr 26 28] 29 (rR [bA 4 false]) (rS [iv 30 8,oI 31 .gtr 30 0,iv 32 31,g8 32 true 33 6,g8 32 true 34 10,ig 32 true 35 (.bin .add (.t 33) (.t 34)),gA 32 true 36 1 2,hA 32 true 37 36,ig 32 true 38 (.bin .leq (.t 35) (.t 37)),pF 39 32 38] (cT 39 (rS [iv 40 6,iv 41 10,oA 42 .add 40 41,iv 6 42] (.reg [iv 43 7,iv 44 11,ia 45 (.mx [.t 43,.t 44]),iv 7 45])) (rS [iv 46 5,iv 47 7,oA 48 .add 46 47,iv 5 48] (.reg [iv 49 10,iv 50 11,iv 6 49,iv 7 50])))))))) (.reg [pA 51 17 1,iv 17 51])))))) (rR [iv 52 5,iv 53 7,oA 54 .add 52 53,fA 55 0 2,lA 56 55,oA 57 .leq 54 56,iv 4 57]))))) [.t 4]:=yA none Tryz.func68 (by kernel_rfl)
theorem yNZ : Has Tryz.prog 73 21 (rS [mA 2 0] (iS [iv 6 0,c1 7 74 6,nN 8 7] 8 (rR [mA 2 0]) (rS [mA 3 0] (.seq (rS [iv 9 0,nA 10 9,mA 11 0] (bL 0 (rS [tA 12 11 10] (.seq (cX 12 0) (.seq (.block 1 (rS [xA 13 3 9 11,dA 14 3 13,ia 5 (.alloc [.nil 2,.c (.i 0),.nil 1]),tN 3 5 14] (.reg [iv 15 3,dA 16 3 5,c1 17 117 16,oA 18 .add 15 17,iv 3 18]))) (.reg [pA 19 11 1,iv 11 19])))))) (rR [iv 20 3,iv 2 20]))))) [.t 2]:=yA none Tryz.func73 (by kernel_rfl)
theorem yp0 : Has Tryz.prog 74 30 (rS [bA 2 false] (iS [iv 6 0,nA 7 6,oI 8 .lss 7 1,iv 9 8,g8 9 false 10 0,ig 9 false 11 (.len (.t 10)),ig 9 false 12 (.bin .gtr (.t 11) (kI 6)),pT 13 9 12] 13 (rR [bA 2 false]) (rS [mA 3 0] (.seq (rS [iv 14 0,nA 15 14,mA 16 0] (bL 0 (rS [tA 17 16 15] (.seq (cX 17 0) (.seq (.block 1 (rS [xA 18 3 14 16,dA 19 3 18,ia 5 (.alloc [.nil 2,.c (.i 0),.nil 1]),tN 3 5 19] (iS [dA 20 3 5,c1 21 95 20,nN 22 21] 22 (rR [bA 2 false]) (.reg [iv 23 3,dA 24 3 5,c1 25 117 24,oA 26 .add 23 25,iv 3 26])))) (.reg [pA 27 16 1,iv 16 27])))))) (rR [iv 28 3,oI 29 .leq 28 1000000000,iv 2 29]))))) [.t 2]:=yA none Tryz.func74 (by kernel_rfl)
theorem yth : Has Tryz.prog 75 11 (rS [bX 1 2 0,bA 2 false] (rR [fA 3 0 1,lA 4 3,ia 5 (.call 31 [.t 4,kI 1,kI 10000]),iv 6 5,gA 6 true 7 1 1,hA 6 true 8 7,ig 6 true 9 (.call 31 [.t 8,kI 0,kI 100000]),pF 10 6 9,iv 2 10])) [.t 2]:=yA none Tryz.func75 (by kernel_rfl)
theorem ypL : Has Tryz.prog 76 19 (rS [bX 2 3 0,bX 3 2 1,bA 4 false] (rR [dA 5 2 3,c1 6 75 5,iv 7 6,gA 7 true 8 0 2,ig 7 true 9 (.ldn 2 (.t 8)),ig 7 true 10 (.call 20 [.t 9]),pF 11 7 10,iv 12 11,gA 12 true 13 2 2,hA 12 true 14 13,gA 12 true 15 0 3,hA 12 true 16 15,ig 12 true 17 (.call 31 [.t 14,kI 0,.t 16]),pF 18 12 17,iv 4 18])) [.t 4]:=yA none Tryz.func76 (by kernel_rfl)
theorem yqA : Has Tryz.prog 77 48 (rS [bX 1 22 0,bA 2 false] (iS [fA 5 0 1,dA 6 10 5,c1 7 118 6,nN 8 7,iv 9 8,gA 9 false 10 10 1,ig 9 false 11 (.ldn 5 (.t 10)),ig 9 false 12 (.call 119 [.t 11]),g9 9 false 13 12,pT 14 9 13,iv 15 14,gA 15 false 16 15 1,ig 15 false 17 (.ldn 3 (.t 16)),ig 15 false 18 (.call 120 [.t 17]),g9 15 false 19 18,pT 20 15 19,iv 21 20,gA 21 false 22 18 1,hA 21 false 23 22,ig 21 false 24 (.call 121 [.t 23]),g9 21 false 25 24,pT 26 21 25,iv 27 26,gA 27 false 28 19 1,ig 27 false 29 (.ldn 2 (.t 28)),ig 27 false 30 (.call 122 [.t 29]),g9 27 false 31 30,pT 32 27 31] 32 (rR [bA 2 false]) (iS [fA 33 21 1,lA 34 33,nA 35 34,oI 36 .gtr 35 24] 36 (rR [bA 2 false]) (.seq (rS [fA 37 21 1,lA 38 37,nA 39 38,mA 40 0] (bL 0 (rS [tA 41 40 39] (.seq (cX 41 0) (.seq (.block 1 (rS [xA 42 4 38 40,dA 43 4 42,ia 4 (.alloc [.c (.b false),.nil 1,.c (.i 0),.c (.i 0)]),tN 4 4 43] (rS [dA 44 4 4,c1 45 123 44,nN 46 45] (cI 46 (rR [bA 2 false]))))) (.reg [pA 47 40 1,iv 40 47])))))) (rR [bA 2 true]))))) [.t 2]:=yA none Tryz.func77 (by kernel_rfl)
theorem ypP : Has Tryz.prog 78 33 (rS [bX 1 5 0,bA 2 false] (rR [fA 3 0 1,lA 4 3,fA 5 1 1,lA 6 5,oA 7 .neq 4 6,iv 8 7,gA 8 true 9 0 1,hA 8 true 10 9,ig 8 true 11 (.call 31 [.t 10,kI 0,kI 11]),pF 12 8 11,iv 13 12,gA 13 true 14 1 1,hA 13 true 15 14,ig 13 true 16 (.call 31 [.t 15,kI 0,kI 11]),pF 17 13 16,iv 18 17,gA 18 true 19 2 1,hA 18 true 20 19,ig 18 true 21 (.call 31 [.t 20,kI 1,kI 1000000000]),pF 22 18 21,iv 23 22,gA 23 true 24 3 1,hA 23 true 25 24,ig 23 true 26 (.call 31 [.t 25,kI 0,kI 1000000]),pF 27 23 26,iv 28 27,gA 28 true 29 4 1,hA 28 true 30 29,ig 28 true 31 (.call 31 [.t 30,kI 0,kI 9999]),pF 32 28 31,iv 2 32])) [.t 2]:=yA none Tryz.func78 (by kernel_rfl)
def ylw : SC:=rS [bA 6 false] (rR [iv 7 0,iv 8 1,oA 9 .geq 7 8,iv 10 9,g8 10 true 11 0,g8 10 true 12 2,ig 10 true 13 (.bin .leq (.t 11) (.t 12)),pF 14 10 13,iv 6 14])
theorem ysx : Has Tryz.prog 79 15 ylw [.t 6]:=yA none Tryz.func79 (by kernel_rfl)
theorem yoq : Has Tryz.prog 80 76 (rS [mA 4 0] (iS [iv 9 0,c1 10 124 9,nN 11 10] 11 (rR [mA 4 0]) (rS [iv 12 0,nA 13 12,iv 5 13] (iS [iv 14 1,iv 15 0,ia 16 (.idx 2 (.t 15) (kI 0)),fA 17 0 16,lA 18 17,oA 19 .leq 14 18] 19 (rR [iv 20 0,ia 21 (.idx 2 (.t 20) (kI 0)),fA 22 1 21,lA 23 22,iv 4 23]) (iS [iv 24 1,iv 25 0,iv 26 5,oI 27 .sub 26 1,xA 28 2 25 27,fA 29 0 28,lA 30 29,oA 31 .geq 24 30] 31 (rR [iv 32 0,iv 33 5,oI 34 .sub 33 1,xA 35 2 32 34,fA 36 1 35,lA 37 36,iv 4 37]) (rS [mA 6 0] (.seq (bL 0 (xS [iv 38 0,iv 39 6,pA 40 39 1,xA 41 2 38 40,fA 42 0 41,lA 43 42,iv 44 1,oA 45 .leq 43 44] 45 0 (.block 1 (.reg [iv 46 6,pA 47 46 1,iv 6 47])))) (rS [iv 48 0,iv 49 6,xA 50 2 48 49,dA 51 2 50,ia 7 (.alloc [.c (.i 0),.c (.i 0)]),tN 2 7 51] (rS [iv 52 0,iv 53 6,pA 54 53 1,xA 55 2 52 54,dA 56 2 55,ia 8 (.alloc [.c (.i 0),.c (.i 0)]),tN 2 8 56] (rQ [fA 57 1 7,lA 58 57,iv 59 1,fA 60 0 7,lA 61 60,oA 62 .sub 59 61,fA 63 1 8,lA 64 63,fA 65 1 7,lA 66 65,oA 67 .sub 64 66,oA 68 .mul 62 67,fA 69 0 8,lA 70 69,fA 71 0 7,lA 72 71,oA 73 .sub 70 72,oA 74 .quo 68 73,oA 75 .add 58 74,iv 4 75] .ret)))))))))) [.t 4]:=yA none Tryz.func80 (by kernel_rfl)
theorem ynW : Has Tryz.prog 81 37 (rS [bX 1 3 0,bA 2 false] (iS [fA 4 0 1,lA 5 4,c1 6 124 5,nN 7 6,iv 8 7,gA 8 false 9 1 1,hA 8 false 10 9,ig 8 false 11 (.call 79 [.t 10,kI 0,kI 1000000000]),g9 8 false 12 11,pT 13 8 12,iv 14 13,gA 14 false 15 2 1,hA 14 false 16 15,ig 14 false 17 (.len (.t 16)),ig 14 false 18 (.bin .gtr (.t 17) (kI 12)),pT 19 14 18] 19 (rR [bA 2 false]) (.seq (rS [mA 3 0] (bL 0 (xS [iv 20 3,fA 21 2 1,lA 22 21,nA 23 22,tA 24 20 23] 24 0 (.seq (.block 1 (rS [fA 27 2 1,lA 28 27,iv 29 3,xA 30 1 28 29,lA 31 30,ia 32 (.call 79 [.t 31,kI 0,kI 1000000000]),nN 33 32] (cI 33 (rR [bA 2 false])))) (.reg [iv 25 3,pA 26 25 1,iv 3 26]))))) (rR [dA 34 3 1,c1 35 125 34,oI 36 .leq 35 1000000000,iv 2 36])))) [.t 2]:=yA none Tryz.func81 (by kernel_rfl)
theorem ynX : Has Tryz.prog 82 165 (rS [bX 1 16 0,ia 2 (.alloc [.c (.i 0),.nil 3,.nil 2,.nil 22,.nil 1,.nil 2,.nil 1,.c (.i 0),.c (.i 0),.nil 1,.nil 1,.nil 5,.nil 4,.c (.i 0),.c (.i 0),.c (.i 0)])] (rS [dA 12 16 1,ia 3 (.alloc [.c (.i 0),.nil 3,.nil 2,.nil 22,.nil 1,.nil 2,.nil 1,.c (.i 0),.c (.i 0),.nil 1,.nil 1,.nil 5,.nil 4,.c (.i 0),.c (.i 0),.c (.i 0)]),tN 16 3 12] (rS [bZ 13 3,fA 14 1 3,tS 14 13] (.seq (rS [mA 4 0] (bL 0 (xS [iv 15 4,fA 16 1 1,lA 17 16,nA 18 17,tA 19 15 18] 19 0 (.seq (.block 1 (.rege [q0 (fA 22 1 3),q0 (lA 23 22),q0 (fA 24 1 1),q0 (lA 25 24),q0 (iv 26 4),q0 (xA 27 3 25 26),q0 (dA 28 3 27),q0 (c1 29 126 28),q1 (bS 30 3 29),q2 (aP 31 3 56 23 30),q0 (fA 32 1 3),q2 (tS 32 31)])) (.reg [iv 20 4,pA 21 20 1,iv 4 21]))))) (rS [bZ 33 2,fA 34 2 1,lA 35 34,aP 36 2 16 33 35,fA 37 2 3,tS 37 36] (rS [bZ 38 22,fA 39 3 3,tS 39 38] (.seq (rS [mA 5 0] (bL 2 (xS [iv 40 5,fA 41 3 1,lA 42 41,nA 43 42,tA 44 40 43] 44 2 (.seq (.block 3 (.rege [q0 (fA 47 3 3),q0 (lA 48 47),q0 (fA 49 3 1),q0 (lA 50 49),q0 (iv 51 5),q0 (xA 52 22 50 51),q0 (dA 53 22 52),q0 (c1 54 127 53),q1 (bS 55 22 54),q2 (aP 56 22 224 48 55),q0 (fA 57 3 3),q2 (tS 57 56)])) (.reg [iv 45 5,pA 46 45 1,iv 5 46]))))) (rS [bZ 58 1,fA 59 4 3,tS 59 58] (.seq (rS [mA 6 0] (bL 4 (xS [iv 60 6,fA 61 4 1,lA 62 61,nA 63 62,tA 64 60 63] 64 4 (.seq (.block 5 (rS [bZ 67 3,iv 7 67] (.seq (rS [mA 8 0] (bL 6 (xS [iv 68 8,fA 69 4 1,lA 70 69,iv 71 6,xA 72 1 70 71,lA 73 72,nA 74 73,tA 75 68 74] 75 6 (.seq (.block 7 (.reg [iv 78 7,fA 79 4 1,lA 80 79,iv 81 6,xA 82 1 80 81,lA 83 82,iv 84 8,xA 85 3 83 84,dA 86 3 85,c1 87 128 86,bS 88 3 87,aP 89 3 40 78 88,iv 7 89])) (.reg [iv 76 8,pA 77 76 1,iv 8 77]))))) (.reg [fA 90 4 3,lA 91 90,iv 92 7,bS 93 1 92,aP 94 1 24 91 93,fA 95 4 3,tS 95 94])))) (.reg [iv 65 6,pA 66 65 1,iv 6 66]))))) (rS [bZ 96 2,fA 97 5 3,tS 97 96] (.seq (rS [mA 9 0] (bL 8 (xS [iv 98 9,fA 99 5 1,lA 100 99,nA 101 100,tA 102 98 101] 102 8 (.seq (.block 9 (.rege [q0 (fA 105 5 3),q0 (lA 106 105),q0 (fA 107 5 1),q0 (lA 108 107),q0 (iv 109 9),q0 (xA 110 2 108 109),q0 (dA 111 2 110),q0 (c1 112 129 111),q1 (bS 113 2 112),q2 (aP 114 2 32 106 113),q0 (fA 115 5 3),q2 (tS 115 114)])) (.reg [iv 103 9,pA 104 103 1,iv 9 104]))))) (rS [bZ 116 1,fA 117 6 1,lA 118 117,aP 119 1 8 116 118,fA 120 6 3,tS 120 119] (rS [bZ 121 1,fA 122 7 1,fA 123 2 122,lA 124 123,aP 125 1 8 121 124,fA 126 7 3,fA 127 2 126,tS 127 125] (rS [bZ 128 1,fA 129 7 1,fA 130 3 129,lA 131 130,aP 132 1 8 128 131,fA 133 7 3,fA 134 3 133,tS 134 132] (rS [bZ 135 5,fA 136 11 1,lA 137 136,aP 138 5 40 135 137,fA 139 11 3,tS 139 138] (rS [bZ 140 4,fA 141 12 3,tS 141 140] (.seq (rS [mA 10 0] (bL 10 (xS [iv 142 10,fA 143 12 1,lA 144 143,nA 145 144,tA 146 142 145] 146 10 (.seq (.block 11 (rS [fA 149 12 1,lA 150 149,iv 151 10,xA 152 4 150 151,dA 153 4 152,ia 11 (.alloc [.c (.i 0),.c (.i 0),.c (.b false),.nil 1]),tN 4 11 153] (rS [fA 154 2 11,dA 155 2 154,c1 156 129 155,fA 157 2 11,tN 2 157 156] (.reg [fA 158 12 3,lA 159 158,dA 160 4 11,bS 161 4 160,aP 162 4 48 159 161,fA 163 12 3,tS 163 162])))) (.reg [iv 147 10,pA 148 147 1,iv 10 148]))))) (rR [dA 164 16 3,tN 16 2 164])))))))))))))))))) [.cl 2 16]:=yA none Tryz.func82 (by kernel_rfl)
theorem yN7 : Has Tryz.prog 83 28 (rS [bX 1 16 0,mA 2 0] (iS [dA 5 16 1,c1 6 84 5,nN 7 6] 7 (rR [mA 2 0]) (rS [fA 8 1 1,lA 9 8,c1 10 130 9,iv 3 10] (.seq (rS [mA 4 0] (bL 0 (xS [iv 11 4,fA 12 3 1,lA 13 12,nA 14 13,tA 15 11 14] 15 0 (.seq (.block 1 (.reg [iv 18 3,fA 19 3 1,lA 20 19,iv 21 4,xA 22 22 20 21,fA 23 0 22,fA 24 7 23,lA 25 24,oA 26 .add 18 25,iv 3 26])) (.reg [iv 16 4,pA 17 16 1,iv 4 17]))))) (rR [iv 27 3,iv 2 27]))))) [.t 2]:=yA none Tryz.func83 (by kernel_rfl)
theorem yk1 : Has Tryz.prog 84 39 (rS [bX 1 16 0,bA 2 false] (rR [fA 3 0 1,lA 4 3,ia 5 (.call 79 [.t 4,kI 0,kI 1000000]),iv 6 5,gA 6 true 7 13 1,hA 6 true 8 7,ig 6 true 9 (.call 79 [.t 8,kI 0,kI 1000000000]),pF 10 6 9,iv 11 10,gA 11 true 12 14 1,hA 11 true 13 12,ig 11 true 14 (.call 79 [.t 13,kI 0,kI 1000000000]),pF 15 11 14,iv 16 15,gA 16 true 17 15 1,hA 16 true 18 17,ig 16 true 19 (.call 79 [.t 18,kI 0,kI 1000000000]),pF 20 16 19,iv 21 20,ig 21 true 22 (.ldn 16 (.t 1)),ig 21 true 23 (.call 131 [.t 22]),pF 24 21 23,iv 25 24,ig 25 true 26 (.ldn 16 (.t 1)),ig 25 true 27 (.call 132 [.t 26]),pF 28 25 27,iv 29 28,gA 29 true 30 7 1,ig 29 true 31 (.ldn 4 (.t 30)),ig 29 true 32 (.call 133 [.t 31]),pF 33 29 32,iv 34 33,gA 34 true 35 11 1,hA 34 true 36 35,ig 34 true 37 (.call 134 [.t 36]),pF 38 34 37,iv 2 38])) [.t 2]:=yA none Tryz.func84 (by kernel_rfl)
theorem yms : Has Tryz.prog 85 12 (rS [bX 1 3 0,ia 2 (.alloc [.nil 2,.c (.i 0),.nil 1])] (rE [q0 (fA 3 0 1),q0 (lA 4 3),q0 (c1 5 135 4),q0 (fA 6 1 1),q0 (lA 7 6),q0 (fA 8 2 1),q0 (lA 9 8),q0 (c1 10 52 9),q0 (ia 11 (.bld [.nil 2,.c (.i 0),.nil 1] [(0,1,.t 5),(1,1,.t 7),(2,1,.t 10)])),q2 (tN 3 2 11)] .ret)) [.cl 2 3]:=yA none Tryz.func85 (by kernel_rfl)
theorem ym9 : Has Tryz.prog 86 8 (rS [bX 1 10 0,ia 2 (.alloc [.c (.i 0),.c (.i 0),.c (.i 0),.c (.i 0),.c (.i 0),.c (.i 0),.c (.i 0),.c (.i 0),.c (.i 0),.nil 2])] (rS [fA 3 9 1,lA 4 3,c1 5 51 4,fA 6 9 1,tS 6 5] (rR [dA 7 10 1,tN 10 2 7]))) [.cl 2 10]:=yA none Tryz.func86 (by kernel_rfl)
def ybt : SC:=rS [mN 2 2] (iS [iv 3 0,ia 4 (.isn (.t 3))] 4 (rR [mN 2 2]) (rR [bZ 5 2,iv 6 0,aP 7 2 16 5 6,iv 2 7]))
theorem yc7 : Has Tryz.prog 87 8 ybt [.t 2]:=yA none Tryz.func87 (by kernel_rfl)
theorem yna : Has Tryz.prog 88 19 (rS [mN 2 1] (rS [mN 3 1] (.seq (rS [iv 6 0,nA 7 6,mA 8 0] (bL 0 (rS [tA 9 8 7] (.seq (cX 9 0) (.seq (.block 1 (rS [xA 10 1 6 8,lA 11 10,iv 5 11] (.reg [iv 12 3,iv 13 5,c1 14 136 13,bS 15 1 14,aP 16 1 24 12 15,iv 3 16]))) (.reg [pA 17 8 1,iv 8 17])))))) (rR [iv 18 3,iv 2 18])))) [.t 2]:=yA none Tryz.func88 (by kernel_rfl)
theorem ynj : Has Tryz.prog 89 21 (rS [bX 1 2 0,mN 2 6] (rS [bZ 5 6,iv 3 5] (.seq (rS [mA 4 0] (bL 0 (xS [iv 6 4,fA 7 1 1,lA 8 7,nA 9 8,tA 10 6 9] 10 0 (.seq (.block 1 (.reg [iv 13 3,fA 14 1 1,lA 15 14,iv 16 4,xA 17 1 15 16,lA 18 17,aP 19 6 48 13 18,iv 3 19])) (.reg [iv 11 4,pA 12 11 1,iv 4 12]))))) (rR [iv 20 3,iv 2 20])))) [.t 2]:=yA none Tryz.func89 (by kernel_rfl)
theorem yrf : Has Tryz.prog 90 31 (rS [bX 1 6 0,bA 2 false] (rR [fA 3 0 1,lA 4 3,ia 5 (.call 79 [.t 4,kI 1,kI 9999]),iv 6 5,gA 6 true 7 1 1,hA 6 true 8 7,ig 6 true 9 (.call 79 [.t 8,kI 1,kI 200]),pF 10 6 9,iv 11 10,gA 11 true 12 2 1,hA 11 true 13 12,ig 11 true 14 (.call 79 [.t 13,kI 1,kI 30]),pF 15 11 14,iv 16 15,gA 16 true 17 3 1,hA 16 true 18 17,ig 16 true 19 (.call 79 [.t 18,kI 1,kI 100]),pF 20 16 19,iv 21 20,gA 21 true 22 4 1,hA 21 true 23 22,ig 21 true 24 (.call 79 [.t 23,kI 1,kI 50]),pF 25 21 24,iv 26 25,gA 26 true 27 5 1,hA 26 true 28 27,ig 26 true 29 (.call 79 [.t 28,kI 0,kI 2]),pF 30 26 29,iv 2 30])) [.t 2]:=yA none Tryz.func90 (by kernel_rfl)
theorem yo5 : Has Tryz.prog 95 43 (rS [bX 1 3 0,bA 2 false] (iS [fA 6 0 1,lA 7 6,c1 8 142 7,nN 9 8,iv 10 9,gA 10 false 11 1 1,hA 10 false 12 11,ig 10 false 13 (.call 31 [.t 12,kI 0,kI 1000000000]),g9 10 false 14 13,pT 15 10 14,iv 16 15,gA 16 false 17 2 1,hA 16 false 18 17,ig 16 false 19 (.len (.t 18)),ig 16 false 20 (.bin .gtr (.t 19) (kI 12)),pT 21 16 20] 21 (rR [bA 2 false]) (rS [fA 22 1 1,lA 23 22,ia 24 (.bin .sub (kI 1000000000) (.t 23)),iv 3 24] (.seq (rS [fA 25 2 1,lA 26 25,nA 27 26,mA 28 0] (bL 0 (rS [tA 29 28 27] (.seq (cX 29 0) (.seq (.block 1 (rS [xA 30 1 26 28,lA 31 30,iv 5 31] (iS [iv 32 5,oI 33 .lss 32 0,iv 34 33,g8 34 false 35 5,g8 34 false 36 3,ig 34 false 37 (.bin .gtr (.t 35) (.t 36)),pT 38 34 37] 38 (rR [bA 2 false]) (.reg [iv 39 3,iv 40 5,oA 41 .sub 39 40,iv 3 41])))) (.reg [pA 42 28 1,iv 28 42])))))) (rR [bA 2 true]))))) [.t 2]:=yA none Tryz.func95 (by kernel_rfl)
theorem ypO : Has Tryz.prog 96 50 (rS [mA 4 0,bA 5 false] (iS [iv 9 0,c1 10 142 9,nN 11 10,iv 12 11,g8 12 false 13 0,g8 12 false 14 0,ig 12 false 15 (.len (.t 14)),ig 12 false 16 (.bin .sub (.t 15) (kI 1)),ig 12 false 17 (.idx 2 (.t 13) (.t 16)),gA 12 false 18 1 17,hA 12 false 19 18,g8 12 false 20 1,ig 12 false 21 (.bin .lss (.t 19) (.t 20)),pT 22 12 21] 22 (rR [mA 4 0,bA 5 false]) (rQ [iv 23 0,ia 24 (.idx 2 (.t 23) (kI 0)),fA 25 0 24,lA 26 25,iv 27 0,iv 28 0,nA 29 28,oI 30 .sub 29 1,xA 31 2 27 30,fA 32 0 31,lA 33 32,iv 6 26,iv 7 33] (.seq (bL 0 (xS [iv 34 6,iv 35 7,tA 36 34 35] 36 0 (.block 1 (rS [iv 37 6,iv 38 7,oA 39 .add 37 38,oI 40 .quo 39 2,iv 8 40] (rS [iv 41 0,iv 42 8,c2 43 110 41 42,iv 44 1,oA 45 .geq 43 44] (cT 45 (.reg [iv 46 8,iv 7 46]) (.reg [iv 47 8,pA 48 47 1,iv 6 48]))))))) (rR [iv 49 6,iv 4 49,bA 5 true]))))) [.t 4,.t 5]:=yA none Tryz.func96 (by kernel_rfl)
theorem yiB : Has Tryz.prog 97 36 (rS [bA 2 false] (iS [iv 8 0,nA 9 8,oI 10 .gtr 9 8] 10 (rR [bA 2 false]) (rS [mN 3 1] (.seq (rS [iv 11 0,nA 12 11,mA 13 0] (bL 0 (rS [tA 14 13 12] (.seq (cX 14 0) (.seq (.block 1 (rS [xA 15 2 11 13,dA 16 2 15,ia 5 (.alloc [.c (.b false),.nil 1]),tN 2 5 16] (iS [dA 17 2 5,c1 18 20 17,nN 19 18] 19 (rR [bA 2 false]) (rS [dA 20 2 5,c1 21 22 20,nA 22 21,mA 23 0] (bL 2 (rS [tA 24 23 22] (.seq (cX 24 2) (.seq (.block 3 (rS [xA 25 1 21 23,lA 26 25,iv 7 26] (iS [iv 27 3,iv 28 7,c2 29 23 27 28] 29 (rR [bA 2 false]) (.reg [iv 30 3,iv 31 7,bS 32 1 31,aP 33 1 8 30 32,iv 3 33])))) (.reg [pA 34 23 1,iv 23 34]))))))))) (.reg [pA 35 13 1,iv 13 35])))))) (rR [bA 2 true]))))) [.t 2]:=yA none Tryz.func97 (by kernel_rfl)
theorem yTC : Has Tryz.prog 98 35 (rS [bX 1 2 0,mA 2 0] (iS [dA 9 2 1,c1 10 20 9,nN 11 10] 11 (rR [mA 2 0]) (rS [mA 3 0] (.seq (rS [fA 12 1 1,lA 13 12,nA 14 13,mA 15 0] (bL 0 (rS [tA 16 15 14] (.seq (cX 16 0) (.seq (.block 1 (rS [xA 17 1 13 15,lA 18 17,iv 5 18] (rS [mA 6 0] (.seq (rS [iv 19 5,nA 20 19,mA 21 0] (bL 2 (rS [tA 22 21 20] (.seq (cX 22 2) (.seq (.block 3 (rS [xA 23 6 19 21,dA 24 6 23,ia 8 (.alloc [.c (.i 0),.c (.i 0),.c (.i 0),.c (.i 0),.c (.i 0),.c (.i 0)]),tN 6 8 24] (.reg [iv 25 6,fA 26 2 8,lA 27 26,oA 28 .add 25 27,iv 6 28]))) (.reg [pA 29 21 1,iv 21 29])))))) (.reg [iv 30 3,iv 31 6,ia 32 (.mx [.t 30,.t 31]),iv 3 32]))))) (.reg [pA 33 15 1,iv 15 33])))))) (rR [iv 34 3,iv 2 34]))))) [.t 2]:=yA none Tryz.func98 (by kernel_rfl)
theorem yTs : Has Tryz.prog 99 35 (rS [bX 1 2 0,mA 2 0] (iS [dA 9 2 1,c1 10 20 9,nN 11 10] 11 (rR [mA 2 0]) (rS [mA 3 0] (.seq (rS [fA 12 1 1,lA 13 12,nA 14 13,mA 15 0] (bL 0 (rS [tA 16 15 14] (.seq (cX 16 0) (.seq (.block 1 (rS [xA 17 1 13 15,lA 18 17,iv 5 18] (rS [mA 6 0] (.seq (rS [iv 19 5,nA 20 19,mA 21 0] (bL 2 (rS [tA 22 21 20] (.seq (cX 22 2) (.seq (.block 3 (rS [xA 23 6 19 21,dA 24 6 23,ia 8 (.alloc [.c (.i 0),.c (.i 0),.c (.i 0),.c (.i 0),.c (.i 0),.c (.i 0)]),tN 6 8 24] (.reg [iv 25 6,fA 26 1 8,lA 27 26,ia 28 (.mx [.t 25,.t 27]),iv 6 28]))) (.reg [pA 29 21 1,iv 21 29])))))) (.reg [iv 30 3,iv 31 6,oA 32 .add 30 31,iv 3 32]))))) (.reg [pA 33 15 1,iv 15 33])))))) (rR [iv 34 3,iv 2 34]))))) [.t 2]:=yA none Tryz.func99 (by kernel_rfl)
theorem yom : Has Tryz.prog 110 72 (rS [mA 4 0] (iS [iv 9 0,c1 10 142 9,nN 11 10] 11 (rR [mA 4 0]) (rS [iv 12 0,iv 13 0,nA 14 13,oI 15 .sub 14 1,xA 16 2 12 15,dA 17 2 16,ia 5 (.alloc [.c (.i 0),.c (.i 0)]),tN 2 5 17] (iS [iv 18 1,iv 19 0,ia 20 (.idx 2 (.t 19) (kI 0)),fA 21 0 20,lA 22 21,oA 23 .leq 18 22] 23 (rR [iv 24 0,ia 25 (.idx 2 (.t 24) (kI 0)),fA 26 1 25,lA 27 26,iv 4 27]) (iS [iv 28 1,fA 29 0 5,lA 30 29,oA 31 .geq 28 30] 31 (rR [fA 32 1 5,lA 33 32,iv 4 33]) (rS [mA 6 0] (.seq (bL 0 (xS [iv 34 0,iv 35 6,pA 36 35 1,xA 37 2 34 36,fA 38 0 37,lA 39 38,iv 40 1,oA 41 .leq 39 40] 41 0 (.block 1 (.reg [iv 42 6,pA 43 42 1,iv 6 43])))) (rE [q0 (iv 44 0),q0 (iv 45 6),q0 (xA 46 2 44 45),q0 (dA 47 2 46),q3 (iv 48 0),q3 (iv 49 6),q3 (pA 50 49 1),q3 (xA 51 2 48 50),q3 (dA 52 2 51),q1 (ia 7 (.alloc [.c (.i 0),.c (.i 0)])),q1 (ia 8 (.alloc [.c (.i 0),.c (.i 0)])),q4 2 false [4,5,6,7,8] (tN 2 7 47),q2 (tN 2 8 52)] (rQ [fA 53 1 7,lA 54 53,iv 55 1,fA 56 0 7,lA 57 56,oA 58 .sub 55 57,fA 59 1 8,lA 60 59,fA 61 1 7,lA 62 61,oA 63 .sub 60 62,oA 64 .mul 58 63,fA 65 0 8,lA 66 65,fA 67 0 7,lA 68 67,oA 69 .sub 66 68,oA 70 .quo 64 69,oA 71 .add 54 70,iv 4 71] .ret))))))))) [.t 4]:=yA none Tryz.func110 (by kernel_rfl)
theorem yo0 : Has Tryz.prog 117 23 (rS [bX 1 3 0,mA 2 0] (iS [dA 6 3 1,c1 7 95 6,nN 8 7] 8 (rR [mA 2 0]) (rS [fA 9 1 1,lA 10 9,iv 3 10] (.seq (rS [fA 11 2 1,lA 12 11,nA 13 12,mA 14 0] (bL 0 (rS [tA 15 14 13] (.seq (cX 15 0) (.seq (.block 1 (rS [xA 16 1 12 14,lA 17 16,iv 5 17] (.reg [iv 18 3,iv 19 5,oA 20 .add 18 19,iv 3 20]))) (.reg [pA 21 14 1,iv 14 21])))))) (rR [iv 22 3,iv 2 22]))))) [.t 2]:=yA none Tryz.func117 (by kernel_rfl)
theorem yrj : Has Tryz.prog 118 51 (rS [bX 1 10 0,bA 2 false] (rR [fA 3 0 1,lA 4 3,ia 5 (.call 31 [.t 4,kI 1,kI 1000]),iv 6 5,gA 6 true 7 1 1,hA 6 true 8 7,ig 6 true 9 (.call 31 [.t 8,kI 1,kI 100]),pF 10 6 9,iv 11 10,gA 11 true 12 2 1,hA 11 true 13 12,ig 11 true 14 (.call 31 [.t 13,kI 0,kI 100000]),pF 15 11 14,iv 16 15,gA 16 true 17 3 1,hA 16 true 18 17,ig 16 true 19 (.call 31 [.t 18,kI 0,kI 100000]),pF 20 16 19,iv 21 20,gA 21 true 22 4 1,hA 21 true 23 22,ig 21 true 24 (.call 31 [.t 23,kI 0,kI 100000]),pF 25 21 24,iv 26 25,gA 26 true 27 5 1,hA 26 true 28 27,ig 26 true 29 (.call 31 [.t 28,kI 1,kI 10000]),pF 30 26 29,iv 31 30,gA 31 true 32 6 1,hA 31 true 33 32,ig 31 true 34 (.call 31 [.t 33,kI 1,kI 100000]),pF 35 31 34,iv 36 35,gA 36 true 37 7 1,hA 36 true 38 37,ig 36 true 39 (.call 31 [.t 38,kI 0,kI 1000000000]),pF 40 36 39,iv 41 40,gA 41 true 42 8 1,hA 41 true 43 42,ig 41 true 44 (.call 31 [.t 43,kI 0,kI 2]),pF 45 41 44,iv 46 45,gA 46 true 47 9 1,hA 46 true 48 47,ig 46 true 49 (.call 97 [.t 48]),pF 50 46 49,iv 2 50])) [.t 2]:=yA none Tryz.func118 (by kernel_rfl)
theorem yqY : Has Tryz.prog 119 29 (rS [bX 1 5 0,bA 2 false] (rR [fA 3 0 1,lA 4 3,ia 5 (.call 31 [.t 4,kI 1,kI 8]),iv 6 5,gA 6 true 7 1 1,hA 6 true 8 7,gA 6 true 9 0 1,hA 6 true 10 9,ig 6 true 11 (.bin .mul (kI 10) (.t 10)),ig 6 true 12 (.call 31 [.t 8,kI 0,.t 11]),pF 13 6 12,iv 14 13,gA 14 true 15 2 1,hA 14 true 16 15,ig 14 true 17 (.call 31 [.t 16,kI 1,kI 80]),pF 18 14 17,iv 19 18,gA 19 true 20 3 1,hA 19 true 21 20,ig 19 true 22 (.call 31 [.t 21,kI 0,kI 100000]),pF 23 19 22,iv 24 23,gA 24 true 25 4 1,hA 24 true 26 25,ig 24 true 27 (.call 31 [.t 26,kI 1,kI 1000]),pF 28 24 27,iv 2 28])) [.t 2]:=yA none Tryz.func119 (by kernel_rfl)
theorem yqW : Has Tryz.prog 120 30 (rS [bX 1 3 0,bA 2 false] (rR [fA 3 0 1,lA 4 3,ia 5 (.call 31 [.t 4,kI 0,kI 100000]),iv 6 5,gA 6 true 7 1 1,hA 6 true 8 7,ig 6 true 9 (.call 31 [.t 8,kI 0,kI 100000]),pF 10 6 9,iv 11 10,gA 11 true 12 2 1,hA 11 true 13 12,ig 11 true 14 (.call 31 [.t 13,kI 0,kI 100000]),pF 15 11 14,iv 16 15,gA 16 true 17 0 1,hA 16 true 18 17,gA 16 true 19 1 1,hA 16 true 20 19,ig 16 true 21 (.bin .lss (.t 18) (.t 20)),pF 22 16 21,iv 23 22,gA 23 true 24 1 1,hA 23 true 25 24,gA 23 true 26 2 1,hA 23 true 27 26,ig 23 true 28 (.bin .leq (.t 25) (.t 27)),pF 29 23 28,iv 2 29])) [.t 2]:=yA none Tryz.func120 (by kernel_rfl)
theorem ynJ : Has Tryz.prog 121 34 (rS [bA 2 false] (iS [iv 6 0,nA 7 6,oI 8 .gtr 7 8] 8 (rR [bA 2 false]) (rS [mA 3 0] (.seq (rS [iv 9 0,nA 10 9,mA 11 0] (bL 0 (rS [tA 12 11 10] (.seq (cX 12 0) (.seq (.block 1 (rS [xA 13 2 9 11,dA 14 2 13,ia 5 (.alloc [.c (.i 0),.c (.i 0)]),tN 2 5 14] (iS [fA 15 0 5,lA 16 15,iv 17 3,tA 18 16 17,iv 19 18,gA 19 false 20 1 5,hA 19 false 21 20,gA 19 false 22 0 5,hA 19 false 23 22,ig 19 false 24 (.bin .leq (.t 21) (.t 23)),pT 25 19 24,iv 26 25,gA 26 false 27 1 5,hA 26 false 28 27,ig 26 false 29 (.bin .gtr (.t 28) (kI 1000000)),pT 30 26 29] 30 (rR [bA 2 false]) (.reg [fA 31 1 5,lA 32 31,iv 3 32])))) (.reg [pA 33 11 1,iv 11 33])))))) (rR [bA 2 true]))))) [.t 2]:=yA none Tryz.func121 (by kernel_rfl)
theorem yqP : Has Tryz.prog 122 6 (rS [bX 1 2 0,bA 2 false] (rR [fA 3 1 1,lA 4 3,ia 5 (.call 31 [.t 4,kI 0,kI 1000000]),iv 2 5])) [.t 2]:=yA none Tryz.func122 (by kernel_rfl)
theorem yqU : Has Tryz.prog 123 16 (rS [bX 1 4 0,bA 2 false] (rR [fA 3 0 1,dA 4 2 3,c1 5 20 4,iv 6 5,gA 6 true 7 2 1,hA 6 true 8 7,ig 6 true 9 (.call 31 [.t 8,kI 0,kI 1000000]),pF 10 6 9,iv 11 10,gA 11 true 12 3 1,hA 11 true 13 12,ig 11 true 14 (.call 31 [.t 13,kI (-1),kI 1000000]),pF 15 11 14,iv 2 15])) [.t 2]:=yA none Tryz.func123 (by kernel_rfl)
theorem yp7 : Has Tryz.prog 124 61 (rS [bA 2 false] (.seq (rS [mA 3 0] (bL 0 (xS [iv 4 3,iv 5 0,nA 6 5,tA 7 4 6] 7 0 (.seq (.block 1 (rQ [iv 10 0,iv 11 3,xA 12 2 10 11,fA 13 0 12,lA 14 13,ia 15 (.call 79 [.t 14,kI 0,kI 1000000000]),nN 16 15,iv 17 16,g8 17 false 18 0,g8 17 false 19 3,ig 17 false 20 (.idx 2 (.t 18) (.t 19)),gA 17 false 21 1 20,hA 17 false 22 21,ig 17 false 23 (.call 79 [.t 22,kI 0,kI 1000000000]),g9 17 false 24 23,pT 25 17 24,iv 26 25,g8 26 false 27 3,ig 26 false 28 (.bin .gtr (.t 27) (kI 0)),g8 26 false 29 28,g8 29 true 30 0,g8 29 true 31 3,ig 29 true 32 (.idx 2 (.t 30) (.t 31)),gA 29 true 33 0 32,hA 29 true 34 33,g8 29 true 35 0,g8 29 true 36 3,ig 29 true 37 (.bin .sub (.t 36) (kI 1)),ig 29 true 38 (.idx 2 (.t 35) (.t 37)),gA 29 true 39 0 38,hA 29 true 40 39,ig 29 true 41 (.bin .leq (.t 34) (.t 40)),g8 29 true 42 41,g8 42 false 43 0,g8 42 false 44 3,ig 42 false 45 (.idx 2 (.t 43) (.t 44)),gA 42 false 46 1 45,hA 42 false 47 46,g8 42 false 48 0,g8 42 false 49 3,ig 42 false 50 (.bin .sub (.t 49) (kI 1)),ig 42 false 51 (.idx 2 (.t 48) (.t 50)),gA 42 false 52 1 51,hA 42 false 53 52,ig 42 false 54 (.bin .lss (.t 47) (.t 53)),ig 29 true 55 (.pick (.t 42) (kB true) (.t 54)),ig 26 false 56 (.pick (.t 29) (.t 55) (kB false)),pT 57 26 56] (cI 57 (rR [bA 2 false])))) (.reg [iv 8 3,pA 9 8 1,iv 3 9]))))) (rR [iv 58 0,nA 59 58,ia 60 (.call 79 [.t 59,kI 2,kI 20]),iv 2 60]))) [.t 2]:=yA none Tryz.func124 (by kernel_rfl)
theorem yrp : Has Tryz.prog 125 22 (rS [bX 1 3 0,mA 2 0] (rS [fA 5 1 1,lA 6 5,iv 3 6] (.seq (rS [mA 4 0] (bL 0 (xS [iv 7 4,fA 8 2 1,lA 9 8,nA 10 9,tA 11 7 10] 11 0 (.seq (.block 1 (.reg [iv 14 3,fA 15 2 1,lA 16 15,iv 17 4,xA 18 1 16 17,lA 19 18,oA 20 .add 14 19,iv 3 20])) (.reg [iv 12 4,pA 13 12 1,iv 4 13]))))) (rR [iv 21 3,iv 2 21])))) [.t 2]:=yA none Tryz.func125 (by kernel_rfl)
def yi7 : SC:=rS [bX 1 3 0,ia 2 (.alloc [.nil 2,.c (.i 0),.nil 1])] (rS [bZ 3 2,fA 4 0 1,lA 5 4,aP 6 2 16 3 5,fA 7 0 1,tS 7 6] (rS [bZ 8 1,fA 9 2 1,lA 10 9,aP 11 1 8 8 10,fA 12 2 1,tS 12 11] (rR [dA 13 3 1,tN 3 2 13])))
theorem yoO : Has Tryz.prog 126 14 yi7 [.cl 2 3]:=yA none Tryz.func126 (by kernel_rfl)
theorem ykE : Has Tryz.prog 127 41 (rS [bX 1 22 0,ia 2 (.alloc [.c (.i 0),.c (.i 0),.c (.i 0),.c (.i 0),.c (.i 0),.c (.i 0),.c (.i 0),.c (.i 0),.c (.i 0),.nil 2,.c (.i 0),.c (.i 0),.c (.i 0),.c (.i 0),.c (.i 0),.c (.i 0),.c (.i 0),.c (.i 0),.nil 2,.c (.b false),.c (.i 0),.nil 4])] (rS [dA 6 22 1,ia 3 (.alloc [.c (.i 0),.c (.i 0),.c (.i 0),.c (.i 0),.c (.i 0),.c (.i 0),.c (.i 0),.c (.i 0),.c (.i 0),.nil 2,.c (.i 0),.c (.i 0),.c (.i 0),.c (.i 0),.c (.i 0),.c (.i 0),.c (.i 0),.c (.i 0),.nil 2,.c (.b false),.c (.i 0),.nil 4]),tN 22 3 6] (rS [fA 7 0 1,dA 8 10 7,c1 9 168 8,fA 10 0 3,tN 10 10 9] (rS [bZ 11 2,fA 12 18 1,lA 13 12,aP 14 2 16 11 13,fA 15 18 3,tS 15 14] (rS [bZ 16 4,fA 17 21 3,tS 17 16] (.seq (rS [mA 4 0] (bL 0 (xS [iv 18 4,fA 19 21 1,lA 20 19,nA 21 20,tA 22 18 21] 22 0 (.seq (.block 1 (rS [fA 25 21 1,lA 26 25,iv 27 4,xA 28 4 26 27,dA 29 4 28,ia 5 (.alloc [.c (.b false),.nil 1,.c (.i 0),.c (.i 0)]),tN 4 5 29] (rS [fA 30 0 5,dA 31 2 30,c1 32 129 31,fA 33 0 5,tN 2 33 32] (.reg [fA 34 21 3,lA 35 34,dA 36 4 5,bS 37 4 36,aP 38 4 48 35 37,fA 39 21 3,tS 39 38])))) (.reg [iv 23 4,pA 24 23 1,iv 4 24]))))) (rR [dA 40 22 3,tN 22 2 40]))))))) [.cl 2 22]:=yA none Tryz.func127 (by kernel_rfl)
theorem yp1 : Has Tryz.prog 128 9 (rS [bX 1 3 0,ia 2 (.alloc [.c (.b false),.nil 1,.c (.i 0)])] (rE [q0 (fA 3 0 1),q0 (dA 4 2 3),q0 (c1 5 129 4),q0 (fA 6 2 1),q0 (lA 7 6),q0 (ia 8 (.bld [.c (.b false),.nil 1,.c (.i 0)] [(0,2,.t 5),(2,1,.t 7)])),q2 (tN 3 2 8)] .ret)) [.cl 2 3]:=yA none Tryz.func128 (by kernel_rfl)
theorem ypE : Has Tryz.prog 129 28 (rS [bX 1 2 0,ia 2 (.alloc [.c (.b false),.nil 1])] (rS [fA 5 0 1,lA 6 5,ia 7 (.bld [.c (.b false),.nil 1] [(0,1,.t 6)]),ia 3 (.alloc [.c (.b false),.nil 1]),tN 2 3 7] (.seq (rS [mA 4 0] (bL 0 (xS [iv 8 4,fA 9 1 1,lA 10 9,nA 11 10,tA 12 8 11] 12 0 (.seq (.block 1 (.rege [q3 (fA 15 1 3),q3 (lA 16 15),q1 (bZ 17 6),q0 (fA 18 1 1),q0 (lA 19 18),q0 (iv 20 4),q0 (xA 21 1 19 20),q0 (lA 22 21),q4 2 false [0,1] (aP 23 6 48 17 22),q4 2 false [0,1] (bS 24 1 23),q2 (aP 25 1 24 16 24),q0 (fA 26 1 3),q2 (tS 26 25)])) (.reg [iv 13 4,pA 14 13 1,iv 4 14]))))) (rR [dA 27 2 3,tN 2 2 27])))) [.cl 2 2]:=yA none Tryz.func129 (by kernel_rfl)
theorem yNX : Has Tryz.prog 130 23 (rS [mA 2 0] (rS [mA 3 0] (.seq (rS [mA 4 0] (bL 0 (xS [iv 5 4,iv 6 0,nA 7 6,tA 8 5 7,iv 9 8,g8 9 true 10 0,ig 9 true 11 (.call 169 [.t 10]),pF 12 9 11] 12 0 (.seq (.block 1 (.reg [iv 15 3,iv 16 0,iv 17 4,xA 18 3 16 17,dA 19 3 18,c1 20 125 19,oA 21 .add 15 20,iv 3 21])) (.reg [iv 13 4,pA 14 13 1,iv 4 14]))))) (rR [iv 22 3,iv 2 22])))) [.t 2]:=yA none Tryz.func130 (by kernel_rfl)
theorem ynn : Has Tryz.prog 131 100 (rS [bX 1 16 0,bA 2 false] (rS [fA 6 1 1,lA 7 6,nA 8 7,iv 3 8] (iS [fA 9 1 1,lA 10 9,c1 11 169 10,nN 12 11,iv 13 12,g8 13 false 14 3,ig 13 false 15 (.bin .lss (.t 14) (kI 2)),pT 16 13 15,iv 17 16,gA 17 false 18 2 1,hA 17 false 19 18,ig 17 false 20 (.len (.t 19)),g8 17 false 21 3,ig 17 false 22 (.bin .neq (.t 20) (.t 21)),pT 23 17 22,iv 24 23,gA 24 false 25 4 1,hA 24 false 26 25,ig 24 false 27 (.len (.t 26)),g8 24 false 28 3,ig 24 false 29 (.bin .neq (.t 27) (.t 28)),pT 30 24 29,iv 31 30,gA 31 false 32 3 1,hA 31 false 33 32,ig 31 false 34 (.len (.t 33)),g8 31 false 35 3,ig 31 false 36 (.bin .sub (.t 35) (kI 1)),ig 31 false 37 (.bin .neq (.t 34) (.t 36)),pT 38 31 37] 38 (rR [bA 2 false]) (.seq (rS [mA 4 0] (bL 0 (xS [iv 39 4,iv 40 3,tA 41 39 40] 41 0 (.seq (.block 1 (iS [fA 44 2 1,lA 45 44,iv 46 4,xA 47 2 45 46,dA 48 2 47,c1 49 170 48,nN 50 49,iv 51 50,gA 51 false 52 4 1,hA 51 false 53 52,g8 51 false 54 4,ig 51 false 55 (.idx 1 (.t 53) (.t 54)),hA 51 false 56 55,ig 51 false 57 (.len (.t 56)),ig 51 false 58 (.bin .gtr (.t 57) (kI 24)),pT 59 51 58,iv 60 59,g8 60 false 61 4,g8 60 false 62 3,ig 60 false 63 (.bin .sub (.t 62) (kI 1)),ig 60 false 64 (.bin .lss (.t 61) (.t 63)),g8 60 false 65 64,gA 65 true 66 3 1,hA 65 true 67 66,g8 65 true 68 4,ig 65 true 69 (.idx 22 (.t 67) (.t 68)),ig 65 true 70 (.ldn 22 (.t 69)),ig 65 true 71 (.call 171 [.t 70]),g9 65 true 72 71,ig 60 false 73 (.pick (.t 65) (.t 72) (kB false)),pT 74 60 73] 74 (rR [bA 2 false]) (rS [mA 5 0] (bL 2 (xS [iv 75 5,fA 76 4 1,lA 77 76,iv 78 4,xA 79 1 77 78,lA 80 79,nA 81 80,tA 82 75 81] 82 2 (.seq (.block 3 (rQ [fA 85 4 1,lA 86 85,iv 87 4,xA 88 1 86 87,lA 89 88,iv 90 5,xA 91 3 89 90,dA 92 3 91,fA 93 2 1,lA 94 93,iv 95 4,xA 96 2 94 95,dA 97 2 96,c2 98 172 92 97,nN 99 98] (cI 99 (rR [bA 2 false])))) (.reg [iv 83 5,pA 84 83 1,iv 5 84]))))))) (.reg [iv 42 4,pA 43 42 1,iv 4 43]))))) (rR [bA 2 true]))))) [.t 2]:=yA none Tryz.func131 (by kernel_rfl)
theorem ynw : Has Tryz.prog 132 83 (rS [bX 1 16 0,bA 2 false] (iS [fA 7 5 1,lA 8 7,nA 9 8,oI 10 .gtr 9 500,iv 11 10,gA 11 false 12 6 1,hA 11 false 13 12,ig 11 false 14 (.len (.t 13)),ig 11 false 15 (.bin .gtr (.t 14) (kI 2000)),pT 16 11 15,iv 17 16,gA 17 false 18 12 1,hA 17 false 19 18,ig 17 false 20 (.len (.t 19)),ig 17 false 21 (.bin .gtr (.t 20) (kI 500)),pT 22 17 21] 22 (rR [bA 2 false]) (.seq (rS [mA 3 0] (bL 0 (xS [iv 23 3,fA 24 5 1,lA 25 24,nA 26 25,tA 27 23 26] 27 0 (.seq (.block 1 (rS [fA 30 5 1,lA 31 30,iv 32 3,xA 33 2 31 32,dA 34 2 33,c1 35 61 34,nN 36 35] (cI 36 (rR [bA 2 false])))) (.reg [iv 28 3,pA 29 28 1,iv 3 29]))))) (.seq (rS [mA 4 0] (bL 2 (xS [iv 37 4,fA 38 6 1,lA 39 38,nA 40 39,tA 41 37 40] 41 2 (.seq (.block 3 (rS [fA 44 6 1,lA 45 44,iv 46 4,xA 47 1 45 46,lA 48 47,ia 49 (.call 79 [.t 48,kI 1,kI 9999]),nN 50 49] (cI 50 (rR [bA 2 false])))) (.reg [iv 42 4,pA 43 42 1,iv 4 43]))))) (.seq (rS [mA 5 0] (bL 4 (xS [iv 51 5,fA 52 12 1,lA 53 52,nA 54 53,tA 55 51 54] 55 4 (.seq (.block 5 (rS [fA 58 12 1,lA 59 58,iv 60 5,xA 61 4 59 60,dA 62 4 61,ia 6 (.alloc [.c (.i 0),.c (.i 0),.c (.b false),.nil 1]),tN 4 6 62] (rS [fA 63 0 6,lA 64 63,ia 65 (.call 79 [.t 64,kI 0,kI 1000000]),nN 66 65,iv 67 66,gA 67 false 68 1 6,hA 67 false 69 68,gA 67 false 70 3 1,hA 67 false 71 70,ig 67 false 72 (.len (.t 71)),ig 67 false 73 (.bin .sub (.t 72) (kI 1)),ig 67 false 74 (.call 79 [.t 69,kI 0,.t 73]),g9 67 false 75 74,pT 76 67 75,iv 77 76,gA 77 false 78 2 6,ig 77 false 79 (.ldn 2 (.t 78)),ig 77 false 80 (.call 61 [.t 79]),g9 77 false 81 80,pT 82 77 81] (cI 82 (rR [bA 2 false]))))) (.reg [iv 56 5,pA 57 56 1,iv 5 57]))))) (rR [bA 2 true])))))) [.t 2]:=yA none Tryz.func132 (by kernel_rfl)
theorem ynI : Has Tryz.prog 133 63 (rS [bX 1 4 0,bA 2 false] (iS [fA 6 0 1,lA 7 6,ia 8 (.call 79 [.t 7,kI 0,kI 10000]),nN 9 8,iv 10 9,gA 10 false 11 1 1,hA 10 false 12 11,ig 10 false 13 (.call 79 [.t 12,kI 0,kI 100]),g9 10 false 14 13,pT 15 10 14,iv 16 15,gA 16 false 17 2 1,hA 16 false 18 17,ig 16 false 19 (.len (.t 18)),ig 16 false 20 (.bin .neq (.t 19) (kI 3)),pT 21 16 20,iv 22 21,gA 22 false 23 3 1,hA 22 false 24 23,ig 22 false 25 (.len (.t 24)),ig 22 false 26 (.call 79 [.t 25,kI 1,kI 11]),g9 22 false 27 26,pT 28 22 27] 28 (rR [bA 2 false]) (.seq (rS [mA 3 0] (bL 0 (xS [iv 29 3,oI 30 .lss 29 3] 30 0 (.seq (.block 1 (rS [fA 33 2 1,lA 34 33,iv 35 3,xA 36 1 34 35,lA 37 36,ia 38 (.call 79 [.t 37,kI 0,kI 10000]),nN 39 38] (cI 39 (rR [bA 2 false])))) (.reg [iv 31 3,pA 32 31 1,iv 3 32]))))) (rS [mA 4 0] (.seq (rS [mA 5 0] (bL 2 (xS [iv 40 5,fA 41 3 1,lA 42 41,nA 43 42,tA 44 40 43] 44 2 (.seq (.block 3 (iS [fA 47 3 1,lA 48 47,iv 49 5,xA 50 1 48 49,lA 51 50,ia 52 (.call 79 [.t 51,kI 0,kI 1000]),nN 53 52] 53 (rR [bA 2 false]) (.reg [iv 54 4,fA 55 3 1,lA 56 55,iv 57 5,xA 58 1 56 57,lA 59 58,oA 60 .add 54 59,iv 4 60]))) (.reg [iv 45 5,pA 46 45 1,iv 5 46]))))) (rR [iv 61 4,oI 62 .gtr 61 0,iv 2 62])))))) [.t 2]:=yA none Tryz.func133 (by kernel_rfl)
theorem yro : Has Tryz.prog 134 19 (rS [bA 2 false] (.seq (rS [mA 3 0] (bL 0 (xS [iv 4 3,iv 5 0,nA 6 5,tA 7 4 6] 7 0 (.seq (.block 1 (rS [iv 10 0,iv 11 3,xA 12 5 10 11,dA 13 5 12,c1 14 173 13,nN 15 14] (cI 15 (rR [bA 2 false])))) (.reg [iv 8 3,pA 9 8 1,iv 3 9]))))) (rR [iv 16 0,nA 17 16,oI 18 .leq 17 2000,iv 2 18]))) [.t 2]:=yA none Tryz.func134 (by kernel_rfl)
def ybv : SC:=rS [mN 2 2] (iS [iv 3 0,ia 4 (.isn (.t 3))] 4 (rR [mN 2 2]) (rR [bZ 5 2,iv 6 0,aP 7 2 16 5 6,iv 2 7]))
theorem yc4 : Has Tryz.prog 135 8 ybv [.t 2]:=yA none Tryz.func135 (by kernel_rfl)
def ybH : SC:=rS [mN 2 6] (iS [iv 3 0,ia 4 (.isn (.t 3))] 4 (rR [mN 2 6]) (rR [bZ 5 6,iv 6 0,aP 7 6 48 5 6,iv 2 7]))
theorem ydo : Has Tryz.prog 136 8 ybH [.t 2]:=yA none Tryz.func136 (by kernel_rfl)
def inRange (n a b : Int) : Bool:=decide (a ≤ n) && decide (n ≤ b)
theorem yC (n a b : Int) : yB Tryz.prog 31 [.c (.i n),.c (.i a),.c (.i b)] (.c (.b (inRange n a b))):=by
 refine yh yot ?_
 simp -dsimp -implicitDefEqProofs [yi1,inRange]
 exact ⟨fun h=>by simp [h],fun h=>by simp [Int.not_le.2 h]⟩
theorem yD (n a b : Int) : yB Tryz.prog 79 [.c (.i n),.c (.i a),.c (.i b)] (.c (.b (inRange n a b))):=by
 refine yh ysx ?_
 simp -dsimp -implicitDefEqProofs [ylw,inRange]
 exact ⟨fun h=>by simp [h],fun h=>by simp [Int.not_le.2 h]⟩
structure Entry where
 From : Int
 To : Int
 Amount : Int
 Time : Int
 Why : Int
 deriving Inhabited,DecidableEq
@[simp] def Entry.enc (e : Entry) : List C:=[.i e.From,.i e.To,.i e.Amount,.i e.Time,.i e.Why]
def ycl (e : Entry) : Bool:=decide (e.From ≠ e.To) && inRange e.From 0 11 && inRange e.To 0 11 && inRange e.Amount 1 1000000000 && inRange e.Time 0 1000000 && inRange e.Why 0 9999
theorem ysa (e : Entry) : yB Tryz.prog 78 [.agg (e.enc.map .c)] (.c (.b (ycl e))):=by
 refine yh ypP ?_
 simp -dsimp -implicitDefEqProofs
 refine ⟨fun h=>?_,fun h=>by simp [ycl,h]⟩
 refine yc (yC e.From 0 11) ?_
 simp -dsimp -implicitDefEqProofs
 refine ⟨fun h1=>?_,fun h1=>by simp [ycl,h1]⟩
 refine yc (yC e.To 0 11) ?_
 simp -dsimp -implicitDefEqProofs
 refine ⟨fun h2=>?_,fun h1=>by simp [ycl,h1]⟩
 refine yc (yC e.Amount 1 1000000000) ?_
 simp -dsimp -implicitDefEqProofs
 refine ⟨fun h3=>?_,fun h1=>by simp [ycl,h1]⟩
 refine yc (yC e.Time 0 1000000) ?_
 simp -dsimp -implicitDefEqProofs
 refine ⟨fun h4=>?_,fun h1=>by simp [ycl,h1]⟩
 refine yc (yC e.Why 0 9999) ?_
 simp -dsimp -implicitDefEqProofs
 simp [ycl,h,h1,h2,h3,h4]
def yht (es : List Entry) : Bool:=decide (es.length ≤ 2000) && es.all ycl
theorem yL {α : Type} {p : α → Bool} {l : List α} {k : Nat} {e : α} (he : l[k]? = some e) (h : ∀ x ∈ l.take k,p x = true) (hp : p e = true) : ∀ x ∈ l.take (k + 1),p x = true:=by
 intro x hx
 rw [List.take_succ_eq_append_getElem (List.getElem?_eq_some_iff.1 he).1] at hx
 rcases List.mem_append.1 hx with h1 | h1
 ·exact h x h1
 ·rw [List.mem_singleton] at h1
  have:=(List.getElem?_eq_some_iff.1 he).2
  rw [h1,this]; exact hp
theorem yX {α : Type} {p : α → Bool} {l : List α} {k : Nat} (hk : l.length ≤ k) (h : ∀ x ∈ l.take k,p x = true) : l.all p = true:=by
 rw [List.take_of_length_le hk] at h
 exact List.all_eq_true.2 h
theorem all_false {α : Type} {p : α → Bool} {l : List α} {k : Nat} {e : α} (he : l[k]? = some e) (hp : p e = false) : l.all p = false:=by
 rw [List.all_eq_false]
 exact ⟨e,List.mem_of_getElem? he,by simp [hp]⟩
theorem yG {k n : Nat} (h : k < n) : ((k : Int) < (n : Int)) = True:=by simp [h]
theorem yaB {k n : Nat} (h : n ≤ k) : ((k : Int) < (n : Int)) = False:=by simp [h]
theorem yvn (es : List Entry) : yB Tryz.prog 36 [.c (.sl 5 (es.map Entry.enc))] (.c (.b (yht es))):=by
 refine yh yqI ?_
 simp -dsimp -implicitDefEqProofs
 intro hlen
 refine ⟨fun h=>by simp [yht]; omega,fun h _=>?_⟩
 refine yg (ι:=Nat) (fun k=>k ≤ es.length ∧ ∀ e ∈ es.take k,ycl e = true) (fun k=>yO [(8,.c (.sl 5 (es.map Entry.enc))),(9,.c (.i es.length)),(10,.c (.i k))] []) (fun k=>es.length - k) 0 (by simp) (by apply yj <;> simp [AV.ygy,AV.ymf]) ?_
 rintro k ⟨hk,hall⟩
 rcases Nat.lt_or_ge k es.length with hlt | hge
 ·obtain ⟨e,he⟩ : ∃ e,es[k]? = some e:=⟨_,List.getElem?_eq_getElem hlt⟩
  simp -dsimp -implicitDefEqProofs [he,yG hlt]
  refine yc (ysa e) ?_
  simp -dsimp -implicitDefEqProofs
  refine ⟨fun h1=>by simp [yht,all_false he h1],fun h1=>?_⟩
  refine ⟨by unfold maxLen at hlen; constructor <;> omega,k + 1,⟨by omega,yL he hall h1⟩,by omega,?_⟩
  apply yj <;> simp [AV.ygy,AV.ymf]
 ·simp -dsimp -implicitDefEqProofs [yaB hge]
  have:=yX hge hall
  simp [yht,this]; omega
structure Way where
 Long : Int
 Bed : Int
 deriving DecidableEq,Inhabited
@[simp] def Way.enc (e : Way) : List C:=[.i e.Long,.i e.Bed]
def yjg (e : Way) : Bool:=inRange e.Long 1 10000 && inRange e.Bed 0 100000
theorem ybj (n : Int) : yB Tryz.prog 183 [.c (.i n)] (.c (.b (inRange n 0 100000))):=by
 refine yh ynt ?_
 simp -dsimp -implicitDefEqProofs
 refine yc (yD n 0 100000) ?_
 simp -dsimp -implicitDefEqProofs
theorem ypN (e : Way) : yB Tryz.prog 75 [.agg (e.enc.map .c)] (.c (.b (yjg e))):=by
 refine yh yth ?_
 simp -dsimp -implicitDefEqProofs
 refine yc (yC e.Long 1 10000) ?_
 simp -dsimp -implicitDefEqProofs
 refine ⟨fun h=>?_,fun h=>by simp [yjg,h]⟩
 refine yc (yC e.Bed 0 100000) ?_
 simp -dsimp -implicitDefEqProofs
 simp [yjg,h]
theorem ynZ (e : Way) : yB Tryz.prog 170 [.agg (e.enc.map .c)] (.c (.b (yjg e))):=by
 refine yh yss ?_
 simp -dsimp -implicitDefEqProofs
 refine yc (yD e.Long 1 10000) ?_
 simp -dsimp -implicitDefEqProofs
 refine ⟨fun h=>?_,fun h=>by simp [yjg,h]⟩
 refine yc (ybj e.Bed) ?_
 simp -dsimp -implicitDefEqProofs
 simp [yjg,h]
theorem ysd (e : Entry) : yB Tryz.prog 173 [.agg (e.enc.map .c)] (.c (.b (ycl e))):=by
 refine yh yqb ?_
 simp -dsimp -implicitDefEqProofs
 refine ⟨fun h=>?_,fun h=>by simp [ycl,h]⟩
 refine yc (yD e.From 0 11) ?_
 simp -dsimp -implicitDefEqProofs
 refine ⟨fun h1=>?_,fun h1=>by simp [ycl,h1]⟩
 refine yc (yD e.To 0 11) ?_
 simp -dsimp -implicitDefEqProofs
 refine ⟨fun h2=>?_,fun h1=>by simp [ycl,h1]⟩
 refine yc (yD e.Amount 1 1000000000) ?_
 simp -dsimp -implicitDefEqProofs
 refine ⟨fun h3=>?_,fun h1=>by simp [ycl,h1]⟩
 refine yc (yD e.Time 0 1000000) ?_
 simp -dsimp -implicitDefEqProofs
 refine ⟨fun h4=>?_,fun h1=>by simp [ycl,h1]⟩
 refine yc (yD e.Why 0 9999) ?_
 simp -dsimp -implicitDefEqProofs
 simp [ycl,h,h1,h2,h3,h4]
def partly {α : Type} (f : α → List C) (z : List C) (es : List α) (k : Nat) : List (List C):=(es.take k).map f ++ List.replicate (es.length - k) z
theorem yak {α : Type} {f : α → List C} {z : List C} {es : List α} {k : Nat} (h : k ≤ es.length) : (partly f z es k).length = es.length:=by
 simp [partly]; omega
theorem yab {α : Type} {f : α → List C} {z : List C} {es : List α} : partly f z es 0 = List.replicate es.length z:=by simp [partly]
theorem yam {α : Type} {f : α → List C} {z : List C} {es : List α} {k : Nat} (h : es.length ≤ k) : partly f z es k = es.map f:=by
 simp [partly,List.take_of_length_le h,Nat.sub_eq_zero_of_le h]
theorem yaj {α : Type} {f : α → List C} {z : List C} {es : List α} {k : Nat} {e : α} (h : es[k]? = some e) : (partly f z es k).set k (f e) = partly f z es (k + 1):=by
 have hk:=(List.getElem?_eq_some_iff.1 h).1
 have he:=(List.getElem?_eq_some_iff.1 h).2
 unfold partly
 rw [List.set_append_right _ _ (by simp; omega)]
 have h1 : ((es.take k).map f).length = k:=by simp; omega
 rw [h1,Nat.sub_self,show es.length - k = (es.length - (k + 1)) + 1 by omega,List.replicate_succ,List.set_cons_zero,List.take_succ_eq_append_getElem hk,he]
 simp
theorem ydK {α : Type} {f : α → List C} {z : List C} {es : List α} {k n : Nat} (hz : z.length = n) (hf : ∀ e,(f e).length = n) (h : k < es.length) : ((partly f z es k)[k]?.getD []).length = n:=by
 unfold partly
 rw [List.getElem?_append_right (by simp; omega)]
 have h1 : ((es.take k).map f).length = k:=by simp; omega
 rw [h1,Nat.sub_self,List.getElem?_replicate,if_pos (by omega)]
 exact hz
theorem yw {k n : Nat} (hk : k < n) (h : n ≤ maxLen) : inI ((k : Int) + 1):=by unfold maxLen at h; unfold inI; omega
theorem yuL (es : List Entry) : yB Tryz.prog 134 [.c (.sl 5 (es.map Entry.enc))] (.c (.b (yht es))):=by
 refine yh yro ?_
 simp -dsimp -implicitDefEqProofs
 refine yg (ι:=Nat) (fun k=>k ≤ es.length ∧ ∀ e ∈ es.take k,ycl e = true) (fun k=>yO [(0,.c (.sl 5 (es.map Entry.enc))),(3,.c (.i k))] []) (fun k=>es.length - k) 0 (by simp) (by apply yj <;> simp) ?_
 rintro k ⟨hk,hall⟩
 rcases Nat.lt_or_ge k es.length with hlt | hge
 ·obtain ⟨e,he⟩ : ∃ e,es[k]? = some e:=⟨_,List.getElem?_eq_getElem hlt⟩
  simp -dsimp -implicitDefEqProofs [he,yG hlt]
  intro hlen
  refine yc (ysd e) ?_
  simp -dsimp -implicitDefEqProofs
  refine ⟨fun h1=>by simp [yht,all_false he h1],fun h1=>?_⟩
  exact ⟨yw hlt hlen,k + 1,⟨by omega,yL he hall h1⟩,by omega,by apply yj <;> simp⟩
 ·simp -dsimp -implicitDefEqProofs [yaB hge]
  have:=yX hge hall
  simp only [yht,this,Bool.and_true]
  intro _
  exact decide_eq_decide.2 (by omega)
abbrev yJ (n : Int) : List C:=[.i n]
structure Tariff where
 Base : Int
 PerArea : Int
 PerClass : List Int
 Weights : List Int
 deriving DecidableEq
@[simp] def Tariff.enc (t : Tariff) : List C:=[.i t.Base,.i t.PerArea,.sl 1 (t.PerClass.map yJ),.sl 1 (t.Weights.map yJ)]
def Tariff.small (t : Tariff) : Prop:=t.PerClass.length ≤ 1048576 ∧ t.Weights.length ≤ 1048576
theorem ypy {l : List Int} {k : Nat} {x : Int} (h : l[k]? = some x) : (l.take (k + 1)).sum = (l.take k).sum + x:=by
 rw [List.take_succ,h]; simp
def sumTo (l : List Int) (k : Nat) : Int:=(l.take k).sum
theorem yf6 {l : List Int} : sumTo l 0 = 0:=rfl
theorem yia {l : List Int} {k : Nat} {x : Int} (h : l[k]? = some x) : sumTo l (k + 1) = sumTo l k + x:=ypy h
theorem ymm {l : List Int} {k : Nat} (h : l.length ≤ k) : sumTo l k = l.sum:=by unfold sumTo; rw [List.take_of_length_le h]
def ya9 (t : Tariff) : Bool:=inRange t.Base 0 10000 && inRange t.PerArea 0 100 && decide (t.PerClass.length = 3) && inRange t.Weights.length 1 11 &&
 t.PerClass.all (fun n=>inRange n 0 10000) && t.Weights.all (fun n=>inRange n 0 1000) && decide (0 < t.Weights.sum)
theorem yF {n a b : Int} : inRange n a b = true ↔ a ≤ n ∧ n ≤ b:=by simp [inRange]
theorem ycG {n a b : Int} : inRange n a b = false ↔ n < a ∨ b < n:=by
 simp only [inRange,Bool.and_eq_false_iff,decide_eq_false_iff_not]; omega
theorem yjC : ∀ {l : List Int} {b : Int},(∀ x ∈ l,inRange x 0 b = true) → 0 ≤ l.sum ∧ l.sum ≤ b * l.length
 | [],b,_=>by simp
 | x :: l,b,h=>by
  have h1:=yjC (l:=l) (b:=b) fun y hy=>h y (by simp [hy])
  have h2:=yF.1 (h x (by simp))
  simp only [List.sum_cons,List.length_cons,Int.natCast_add,Int.natCast_one,Int.mul_add,Int.mul_one]
  omega
theorem yqB (t : Tariff) : yB Tryz.prog 35 [.agg (t.enc.map .c)] (.c (.b (ya9 t))):=by
 refine yh ynP ?_
 simp -dsimp -implicitDefEqProofs
 refine yc (yC t.Base 0 10000) ?_
 simp -dsimp -implicitDefEqProofs
 refine ⟨fun h1=>?_,fun h1=>by simp [ya9,h1]⟩
 refine yc (yC t.PerArea 0 100) ?_
 simp -dsimp -implicitDefEqProofs
 refine ⟨fun h2=>?_,fun h2=>by simp [ya9,h2]⟩
 intro hc
 refine ⟨fun h3 hw=>⟨fun h4 _=>⟨fun h5=>?_,fun h5 _=>?_⟩,fun h4=>?_⟩,fun h3=>?_⟩
 ·have : inRange t.Weights.length 1 11 = false:=ycG.2 (by omega)
  simp [ya9,this]
 ·have h3' : t.PerClass.length = 3:=by omega
  have h6 : inRange t.Weights.length 1 11 = true:=yF.2 (by omega)
  refine yg (ι:=Nat) (fun k=>k ≤ t.PerClass.length ∧ ∀ n ∈ t.PerClass.take k,inRange n 0 10000 = true) (fun k=>yO [(1,.box 1 0),(37,.c (.sl 1 (t.PerClass.map yJ))),(38,.c (.i t.PerClass.length)),(39,.c (.i k))] [(1,.box (t.enc.map .c))]) (fun k=>t.PerClass.length - k) 0 (by simp) (by apply yj <;> simp) ?_
  rintro k ⟨hk,hall⟩
  rcases Nat.lt_or_ge k t.PerClass.length with hlt | hge
  ·obtain ⟨e,he⟩ : ∃ e,t.PerClass[k]? = some e:=⟨_,List.getElem?_eq_getElem hlt⟩
   simp -dsimp -implicitDefEqProofs [he,yG hlt]
   refine yc (yC e 0 10000) ?_
   simp -dsimp -implicitDefEqProofs
   refine ⟨fun h1=>by simp [ya9,all_false (p:=fun n=>inRange n 0 10000) he h1],fun h1=>?_⟩
   exact ⟨yw hlt hc,k + 1,⟨by omega,yL (p:=fun n=>inRange n 0 10000) he hall h1⟩,by omega,by apply yj <;> simp⟩
  ·have h7:=yX (p:=fun n=>inRange n 0 10000) hge hall
   simp -dsimp -implicitDefEqProofs [yaB hge]
   intro _
   refine yg (ι:=Nat) (fun k=>k ≤ t.Weights.length ∧ ∀ n ∈ t.Weights.take k,inRange n 0 1000 = true) (fun k=>yO [(5,.c (.i (t.Weights.take k).sum)),(48,.c (.sl 1 (t.Weights.map yJ))),(49,.c (.i t.Weights.length)),(50,.c (.i k))] []) (fun k=>t.Weights.length - k) 0 (by simp) (by apply yj <;> simp) ?_
   rintro k ⟨hk,hall⟩
   rcases Nat.lt_or_ge k t.Weights.length with hlt | hge
   ·obtain ⟨e,he⟩ : ∃ e,t.Weights[k]? = some e:=⟨_,List.getElem?_eq_getElem hlt⟩
    simp -dsimp -implicitDefEqProofs [he,yG hlt]
    refine yc (yC e 0 1000) ?_
    simp -dsimp -implicitDefEqProofs [he,yG hlt]
    refine ⟨fun h1=>by simp [ya9,all_false (p:=fun n=>inRange n 0 1000) he h1],fun h1=>?_⟩
    have hs:=yjC hall
    have hx:=yF.1 h1
    have hl : (t.Weights.take k).length ≤ 11:=by simp; omega
    exact ⟨by unfold inI; omega,yw hlt hw,k + 1,⟨by omega,yL (p:=fun n=>inRange n 0 1000) he hall h1⟩,by omega,by apply yj <;> simp [ypy he]⟩
   ·have h8:=yX (p:=fun n=>inRange n 0 1000) hge hall
    simp -dsimp -implicitDefEqProofs [yaB hge]
    rw [List.take_of_length_le hge]
    simp [ya9,h1,h2,h3',h6,h7,h8]
 ·have : inRange t.Weights.length 1 11 = false:=ycG.2 (by omega)
  simp [ya9,this]
 ·have : ¬ t.PerClass.length = 3:=by omega
  simp [ya9,this]
theorem yre (t : Tariff) : yB Tryz.prog 133 [.agg (t.enc.map .c)] (.c (.b (ya9 t))):=by
 refine yh ynI ?_
 simp -dsimp -implicitDefEqProofs
 refine yc (yD t.Base 0 10000) ?_
 simp -dsimp -implicitDefEqProofs
 refine ⟨fun h1=>?_,fun h1=>by simp [ya9,h1]⟩
 refine yc (yD t.PerArea 0 100) ?_
 simp -dsimp -implicitDefEqProofs
 refine ⟨fun h2=>?_,fun h2=>by simp [ya9,h2]⟩
 intro hc
 refine ⟨fun h3 hw=>?_,fun h3=>?_⟩
 ·have h3' : t.PerClass.length = 3:=by omega
  refine yc (yD t.Weights.length 1 11) ?_
  simp -dsimp -implicitDefEqProofs
  refine ⟨fun h6=>?_,fun h6=>?_⟩
  ·simp [ya9,h6]
  have h6':=yF.1 h6
  refine yg (ι:=Nat) (fun k=>k ≤ t.PerClass.length ∧ ∀ n ∈ t.PerClass.take k,inRange n 0 10000 = true) (fun k=>yO [(1,.box 1 0),(3,.c (.i k))] [(1,.box (t.enc.map .c))]) (fun k=>t.PerClass.length - k) 0 (by simp) (by apply yj <;> simp) ?_
  rintro k ⟨hk,hall⟩
  rcases Nat.lt_or_ge k t.PerClass.length with hlt | hge
  ·obtain ⟨e,he⟩ : ∃ e,t.PerClass[k]? = some e:=⟨_,List.getElem?_eq_getElem hlt⟩
   have hlt3 : ((k : Int) < 3) = True:=by simp; omega
   simp -dsimp -implicitDefEqProofs [he,hlt3,yG hlt]
   refine yc (yD e 0 10000) ?_
   simp -dsimp -implicitDefEqProofs
   refine ⟨fun h1=>by simp [ya9,all_false (p:=fun n=>inRange n 0 10000) he h1],fun h1=>?_⟩
   exact ⟨yw hlt hc,k + 1,⟨by omega,yL (p:=fun n=>inRange n 0 10000) he hall h1⟩,by omega,by apply yj <;> simp⟩
  ·have h7:=yX (p:=fun n=>inRange n 0 10000) hge hall
   have hge3 : ((k : Int) < 3) = False:=by simp; omega
   simp -dsimp -implicitDefEqProofs [hge3]
   refine yg (ι:=Nat) (fun k=>k ≤ t.Weights.length ∧ ∀ n ∈ t.Weights.take k,inRange n 0 1000 = true) (fun k=>yO [(1,.box 1 0),(4,.c (.i (t.Weights.take k).sum)),(5,.c (.i k))] [(1,.box (t.enc.map .c))]) (fun k=>t.Weights.length - k) 0 (by simp) (by apply yj <;> simp) ?_
   rintro k ⟨hk,hall⟩
   rcases Nat.lt_or_ge k t.Weights.length with hlt | hge
   ·obtain ⟨e,he⟩ : ∃ e,t.Weights[k]? = some e:=⟨_,List.getElem?_eq_getElem hlt⟩
    simp -dsimp -implicitDefEqProofs [he,yG hlt]
    intro _
    refine yc (yD e 0 1000) ?_
    simp -dsimp -implicitDefEqProofs [he,yG hlt]
    refine ⟨fun h1=>by simp [ya9,all_false (p:=fun n=>inRange n 0 1000) he h1],fun h1=>?_⟩
    have hs:=yjC hall
    have hx:=yF.1 h1
    have hl : (t.Weights.take k).length ≤ 11:=by simp; omega
    exact ⟨by unfold inI; omega,yw hlt hw,k + 1,⟨by omega,yL (p:=fun n=>inRange n 0 1000) he hall h1⟩,by omega,by apply yj <;> simp [ypy he]⟩
   ·have h8:=yX (p:=fun n=>inRange n 0 1000) hge hall
    simp -dsimp -implicitDefEqProofs [yaB hge]
    rw [List.take_of_length_le hge]
    simp [ya9,h1,h2,h3',h6,h7,h8]
 ·have : ¬ t.PerClass.length = 3:=by omega
  simp [ya9,this]
def marked (mk : Int → List C) (c : Int) (rows : List (List C)) (k : Int) (i : Nat) : List (List C):=(List.range i).map (fun (j : Nat)=>mk (k + c * j)) ++ rows.drop i
def ycs {α : Type} (sm : α → Prop) (xs : List α) : Prop:=xs.length ≤ 1048576 ∧ ∀ x ∈ xs,sm x
structure Boat where
 Id : Int
 Length : Int
 Width : Int
 Draught : Int
 Speed : Int
 Class : Int
 deriving DecidableEq,Inhabited
@[simp] def Boat.enc (e : Boat) : List C:=[.i e.Id,.i e.Length,.i e.Width,.i e.Draught,.i e.Speed,.i e.Class]
-- Boat
def ygC : List Boat → Prop:=ycs fun _=>True
abbrev yai (xs : List Boat) : List C:=[.sl 6 (xs.map Boat.enc)]
-- [][]Boat
def yej : List (List Boat) → Prop:=ycs ygC
structure Train where
 Up : Bool
 Rows : List (List Boat)
 deriving DecidableEq,Inhabited
@[simp] def Train.enc (e : Train) : List C:=[.b e.Up,.sl 1 (e.Rows.map yai)]
-- Train
def Train.small (e : Train) : Prop:=yej e.Rows
structure Mover where
 Train : Train
 Place : Int
 deriving DecidableEq,Inhabited
@[simp] def Mover.enc (e : Mover) : List C:=[.b e.Train.Up,.sl 1 (e.Train.Rows.map yai),.i e.Place]
-- Mover
def Mover.small (e : Mover) : Prop:=e.Train.small
theorem yag {α : Type} {f g : α → List C} (h : ∀ x,ybQ (f x) = some (g x)) : ∀ (l : List α),ykv (l.map f) = some (l.map g)
 | []=>rfl
 | x :: l=>by simp [ykv,h x,yag h l]
theorem ydl {α : Type} {f g : α → List C} {k : Nat} (h : ∀ x,ybQ (f x) = some (g x)) (l : List α) : (C.ot k (l.map f)).shr = some (.sl k (l.map g)):=by simp [C.shr,yag h l]
def yT (xs : List Boat) : List C:=[.ow 6 (xs.map Boat.enc)]
theorem yeg (xs : List Boat) : ybQ (yT xs) = some (yai xs):=rfl
@[simp] def Train.yI (e : Train) : List C:=[.b e.Up,.ot 1 (e.Rows.map yT)]
theorem Train.yaa (e : Train) : ybQ e.yI = some e.enc:=by simp [Train.yI,ybQ,ydl yeg]
def yaA {α : Type} (f : Int → α → List C) (n : α → Nat) : Int → List α → List (List C)
 | _,[]=>[]
 | k,x :: l=>f k x :: yaA f n (k + n x) l
def cnt {α : Type} (n : α → Nat) (l : List α) : Nat:=(l.map n).sum
section
variable {α : Type} {f : Int → α → List C} {g : α → List C} {n : α → Nat} {k : Int} {xs : List α} {i : Nat} {x : α}
end
def mkB (k : Int) : List C:=[.i k,.i (k + 1),.i (k + 1 + 1),.i (k + 1 + 1 + 1),.i (k + 1 + 1 + 1 + 1),.i (k + 1 + 1 + 1 + 1 + 1)]
def nB (r : List Boat) : Nat:=6 * r.length
def fB (k : Int) (r : List Boat) : List C:=[.ow 6 (marked mkB 6 [] k r.length)]
theorem yvh {α : Type} {B : Nat} : ∀ {l : List (List α)},(∀ r ∈ l,r.length ≤ B) → l.flatten.length ≤ l.length * B
 | [],_=>by simp
 | r :: l,h=>by
  have h1:=yvh (l:=l) fun x hx=>h x (by simp [hx])
  have h2:=h r (by simp)
  simp only [List.flatten_cons,List.length_append,List.length_cons,Nat.add_mul,Nat.one_mul]
  omega
def heads {α : Type} (l : List (List α)) (k : Nat) : List α:=(l.take k).flatten
theorem yeU {α : Type} {l : List (List α)} : heads l 0 = []:=rfl
theorem yhH {α : Type} {l : List (List α)} {k : Nat} {r : List α} (h : l[k]? = some r) : heads l (k + 1) = heads l k ++ r:=by
 unfold heads; rw [List.take_succ,h]; simp
theorem yjI {α : Type} {l : List (List α)} {k : Nat} (h : l.length ≤ k) : heads l k = l.flatten:=by
 unfold heads; rw [List.take_of_length_le h]
theorem yi0 {α : Type} {l : List (List α)} (h : ycs (ycs fun _ : α=>True) l) (k : Nat) : (heads l k).length ≤ 1099511627776:=by
 have h1:=yvh (l:=l.take k) (B:=1048576) fun r hr=>(h.2 r (List.mem_of_mem_take hr)).1
 have h2:=h.1
 have h3 : (l.take k).length ≤ 1048576:=by simp; omega
 have h4:=Nat.mul_le_mul_right 1048576 h3
 unfold heads
 omega
def Train.yas (t : Train) : List Boat:=t.Rows.flatten
theorem yzj {t : Train} (h : t.small) : t.yas.length ≤ 1099511627776:=by
 have:=yi0 h t.Rows.length
 rwa [yjI (Nat.le_refl _)] at this
theorem yoX (t : Train) (h : t.small) : yB Tryz.prog 89 [.agg (t.enc.map .c)] (.c (.sl 6 (t.yas.map Boat.enc))):=by
 refine yh ynj ?_
 simp -dsimp -implicitDefEqProofs
 refine yg (ι:=Nat) (fun k=>k ≤ t.Rows.length) (fun k=>yO [(1,.box 1 0),(3,.own 5 6 (heads t.Rows k).length),(4,.c (.i k))] [(1,.box (t.enc.map .c)),(5,.row 6 ((heads t.Rows k).map Boat.enc))]) (fun k=>t.Rows.length - k) 0 (by simp) (by apply yj <;> simp [yeU]) ?_
 rintro k hk
 rcases Nat.lt_or_ge k t.Rows.length with hlt | hge
 ·obtain ⟨r,hr⟩ : ∃ r,t.Rows[k]? = some r:=⟨_,List.getElem?_eq_getElem hlt⟩
  have hb:=yi0 h (k + 1)
  have hf:=yhH hr
  rw [hf,List.length_append] at hb
  have hm:=h.1
  simp -dsimp -implicitDefEqProofs [hr,yG hlt]
  intro hlen
  refine ⟨by omega,yw hlt hlen,k + 1,hlt,by omega,?_⟩
  apply yj <;> simp [hf]
 ·simp -dsimp -implicitDefEqProofs [yaB hge]
  rw [yjI hge]
  intro _
  rw [List.take_of_length_le (by rw [List.length_map]; exact Nat.le_refl _)]; rfl
def ybr (b : Boat) : Bool:=inRange b.Id 1 9999 && inRange b.Length 1 200 && inRange b.Width 1 30 && inRange b.Draught 1 100 && inRange b.Speed 1 50 && inRange b.Class 0 2
theorem yvm (b : Boat) : yB Tryz.prog 90 [.agg (b.enc.map .c)] (.c (.b (ybr b))):=by
 refine yh yrf ?_
 simp -dsimp -implicitDefEqProofs
 refine yc (yD b.Id 1 9999) ?_
 simp -dsimp -implicitDefEqProofs
 refine ⟨fun h=>?_,fun h=>by simp [ybr,h]⟩
 refine yc (yD b.Length 1 200) ?_
 simp -dsimp -implicitDefEqProofs
 refine ⟨fun h1=>?_,fun h1=>by simp [ybr,h1]⟩
 refine yc (yD b.Width 1 30) ?_
 simp -dsimp -implicitDefEqProofs
 refine ⟨fun h2=>?_,fun h1=>by simp [ybr,h1]⟩
 refine yc (yD b.Draught 1 100) ?_
 simp -dsimp -implicitDefEqProofs
 refine ⟨fun h3=>?_,fun h1=>by simp [ybr,h1]⟩
 refine yc (yD b.Speed 1 50) ?_
 simp -dsimp -implicitDefEqProofs
 refine ⟨fun h4=>?_,fun h1=>by simp [ybr,h1]⟩
 refine yc (yD b.Class 0 2) ?_
 simp -dsimp -implicitDefEqProofs
 simp [ybr,h,h1,h2,h3,h4]
theorem yuc (b : Boat) : yB Tryz.prog 46 [.agg (b.enc.map .c)] (.c (.b (ybr b))):=by
 refine yh yqo ?_
 simp -dsimp -implicitDefEqProofs
 refine yc (yC b.Id 1 9999) ?_
 simp -dsimp -implicitDefEqProofs
 refine ⟨fun h=>?_,fun h=>by simp [ybr,h]⟩
 refine yc (yC b.Length 1 200) ?_
 simp -dsimp -implicitDefEqProofs
 refine ⟨fun h1=>?_,fun h1=>by simp [ybr,h1]⟩
 refine yc (yC b.Width 1 30) ?_
 simp -dsimp -implicitDefEqProofs
 refine ⟨fun h2=>?_,fun h1=>by simp [ybr,h1]⟩
 refine yc (yC b.Draught 1 100) ?_
 simp -dsimp -implicitDefEqProofs
 refine ⟨fun h3=>?_,fun h1=>by simp [ybr,h1]⟩
 refine yc (yC b.Speed 1 50) ?_
 simp -dsimp -implicitDefEqProofs
 refine ⟨fun h4=>?_,fun h1=>by simp [ybr,h1]⟩
 refine yc (yC b.Class 0 2) ?_
 simp -dsimp -implicitDefEqProofs
 simp [ybr,h,h1,h2,h3,h4]
def indexOf (l : List Int) (n : Int) : Int:=match l.findIdx? (fun x=>n == x) with | some i=>i | none=>-1
theorem yph {l : List Int} {n : Int} : (0 ≤ indexOf l n) = (n ∈ l):=by
 unfold indexOf
 cases h : l.findIdx? (fun x=>n == x) with
 | none =>
  rw [List.findIdx?_eq_none_iff] at h
  show (0 ≤ (-1 : Int)) = _
  simp only [eq_iff_iff]
  refine ⟨fun h1=>by omega,fun hm=>?_⟩
  have:=h n hm
  simp at this
 | some i =>
  rw [List.findIdx?_eq_some_iff_getElem] at h
  obtain ⟨hi,h1,_⟩:=h
  simp only [eq_iff_iff]
  refine ⟨fun _=>?_,fun _=>by omega⟩
  have : n = l[i]:=by simpa using h1
  rw [this]; exact List.getElem_mem _
theorem yww {l : List Int} {n : Int} {k : Nat} (h : l[k]? = some n) (hn : ∀ x ∈ l.take k,n ≠ x) : indexOf l n = k:=by
 unfold indexOf
 have : l.findIdx? (fun x=>n == x) = some k:=by
  rw [List.findIdx?_eq_some_iff_getElem]
  obtain ⟨hk1,hk2⟩:=List.getElem?_eq_some_iff.1 h
  refine ⟨hk1,by simp [hk2],fun j hj=>?_⟩
  have:=hn (l[j]'(by omega)) (List.mem_take_iff_getElem.2 ⟨j,by omega,rfl⟩)
  simpa using this
 rw [this]
theorem yv9 {l : List Int} {n : Int} {k : Nat} (hk : l.length ≤ k) (hn : ∀ x ∈ l.take k,n ≠ x) : indexOf l n = -1:=by
 rw [List.take_of_length_le hk] at hn
 unfold indexOf
 have : l.findIdx? (fun x=>n == x) = none:=by
  rw [List.findIdx?_eq_none_iff]
  intro x hx
  simpa using hn x hx
 rw [this]
theorem yzA {l : List Int} {n x : Int} {k : Nat} (h : l[k]? = some x) (hx : n ≠ x) (hn : ∀ x ∈ l.take k,n ≠ x) : ∀ x ∈ l.take (k + 1),n ≠ x:=by
 intro y hy
 rw [List.take_succ,h] at hy
 rcases List.mem_append.1 hy with h1 | h1
 ·exact hn y h1
 ·simp at h1; rw [h1]; exact hx
theorem yBu (l : List Int) (n : Int) : yB Tryz.prog 57 [.c (.sl 1 (l.map yJ)),.c (.i n)] (.c (.i (indexOf l n))):=by
 refine yh ygi ?_
 simp -dsimp -implicitDefEqProofs
 intro hlen
 refine yg (ι:=Nat) (fun k=>k ≤ l.length ∧ ∀ x ∈ l.take k,n ≠ x) (fun k=>yO [(0,.c (.sl 1 (l.map yJ))),(1,.c (.i n)),(7,.c (.i l.length)),(8,.c (.i k))] []) (fun k=>l.length - k) 0 (by simp) (by apply yj <;> simp) ?_
 rintro k ⟨hk,hn⟩
 rcases Nat.lt_or_ge k l.length with hlt | hge
 ·obtain ⟨x,hx⟩ : ∃ x,l[k]? = some x:=⟨_,List.getElem?_eq_getElem hlt⟩
  simp -dsimp -implicitDefEqProofs [hx,yG hlt]
  refine ⟨fun h=>?_,fun h=>⟨yw hlt hlen,k + 1,⟨hlt,yzA hx h hn⟩,by omega,by apply yj <;> simp⟩⟩
  exact yww (h ▸ hx) hn
 ·simp -dsimp -implicitDefEqProofs [yaB hge]
  exact yv9 hge hn
theorem ypJ (l : List Int) (n : Int) : yB Tryz.prog 23 [.c (.sl 1 (l.map yJ)),.c (.i n)] (.c (.b (decide (n ∈ l)))):=by
 refine yh yfu ?_
 simp -dsimp -implicitDefEqProofs
 refine yc (yBu l n) ?_
 simp -dsimp -implicitDefEqProofs [yph]
def yfy (b : Boat) : Int:=b.Id
def full (r : List Boat) : Bool:=decide (r.length ≠ 0)
theorem ytQ {r : List Boat} : full r = true ↔ r.length ≠ 0:=by simp [full]
def yP (t : Train) : Bool:=t.Rows.all full && t.yas.all ybr && decide ((t.yas.map yfy).Nodup) && inRange t.yas.length 1 6
theorem ykm {l : List Boat} {k : Nat} {b : Boat} (h : l[k]? = some b) : (((l.take (k + 1)).map yfy).Nodup ↔ ((l.take k).map yfy).Nodup ∧ b.Id ∉ (l.take k).map yfy):=by
 rw [List.take_succ,h,List.map_append]
 simp only [Option.toList_some,List.map_cons,List.map_nil,List.nodup_append,List.nodup_cons,List.not_mem_nil,not_false_eq_true,List.nodup_nil,and_self,true_and,List.mem_singleton,forall_eq,yfy]
 constructor
 ·rintro ⟨h1,h2⟩; exact ⟨h1,fun hm=>h2 _ hm rfl⟩
 ·rintro ⟨h1,h2⟩; exact ⟨h1,fun x hx e=>h2 (e ▸ hx)⟩
theorem yyf {l : List Boat} {k : Nat} (h : ¬ ((l.take k).map yfy).Nodup) : ¬ (l.map yfy).Nodup:=by
 intro hn
 refine h ?_
 rw [← List.take_append_drop k l,List.map_append] at hn
 exact (List.nodup_append.1 hn).1
def yry (l : List Boat) (k : Nat) : List Int:=(l.take k).map yfy
theorem yds (t : Train) (h : t.small) : yB Tryz.prog 61 [.agg (t.enc.map .c)] (.c (.b (yP t))):=by
 refine yh yoi ?_
 simp -dsimp -implicitDefEqProofs
 refine yS (yoX t h) ?_
 simp -dsimp -implicitDefEqProofs
 refine yg (ι:=Nat) (fun k=>k ≤ t.Rows.length ∧ ∀ r ∈ t.Rows.take k,full r = true) (fun k=>yO [(1,.box 1 0),(3,.c (.sl 6 (t.yas.map Boat.enc))),(4,.c (.i k))] [(1,.box (t.enc.map .c))]) (fun k=>t.Rows.length - k) 0 (by simp) (by apply yj <;> simp) ?_
 rintro k ⟨hk,hall⟩
 rcases Nat.lt_or_ge k t.Rows.length with hlt | hge
 ·obtain ⟨r,hr⟩ : ∃ r,t.Rows[k]? = some r:=⟨_,List.getElem?_eq_getElem hlt⟩
  simp -dsimp -implicitDefEqProofs [hr,yG hlt]
  intro hlen _
  refine ⟨fun h0=>?_,fun h0=>?_⟩
  ·have : t.Rows.all full = false:=all_false (p:=full) hr (by simp [full,h0])
   simp only [yP,this,Bool.false_and]
  ·exact ⟨yw hlt hlen,k + 1,⟨by omega,yL (p:=full) hr hall (by simp [full,h0])⟩,by omega,by apply yj <;> simp⟩
 ·have hrows:=yX (p:=full) hge hall
  simp -dsimp -implicitDefEqProofs [yaB hge]
  intro _
  have hbl:=yzj h
  refine yg (ι:=Nat) (fun k=>k ≤ t.yas.length ∧ (∀ b ∈ t.yas.take k,ybr b = true) ∧ (yry t.yas k).Nodup) (fun k=>yO [(3,.c (.sl 6 (t.yas.map Boat.enc))),(5,.c (.i k))] []) (fun k=>t.yas.length - k) 0 (by simp [yry]) (by apply yj <;> simp) ?_
  rintro k ⟨hk,hok,hnd⟩
  have fin : t.yas.length ≤ 6 → k = t.yas.length → yP t = inRange t.yas.length 1 6:=by
   intro h6 e
   have h1:=yX (p:=ybr) (by omega) hok
   rw [e,yry,List.take_length] at hnd
   simp [yP,hrows,h1,hnd]
  rcases Nat.lt_or_ge k t.yas.length with hlt | hge
  ·obtain ⟨b,hb⟩ : ∃ b,t.yas[k]? = some b:=⟨_,List.getElem?_eq_getElem hlt⟩
   by_cases h6 : t.yas.length ≤ 6
   ·have h6' : ((t.yas.length : Int) ≤ 6) = True:=by simp; omega
    simp -dsimp -implicitDefEqProofs [hb,yG hlt,h6']
    intro hlen
    refine yc (yvm b) ?_
    simp -dsimp -implicitDefEqProofs
    refine ⟨fun h1=>?_,fun h1=>?_⟩
    ·have : t.yas.all ybr = false:=all_false (p:=ybr) hb h1
     simp only [yP,this,Bool.false_and,Bool.and_false]
    have hok':=yL (p:=ybr) hb hok h1
    refine yg (ι:=Nat) (fun i=>i ≤ k ∧ b.Id ∉ yry t.yas i) (fun i=>yO [(3,.c (.sl 6 (t.yas.map Boat.enc))),(5,.c (.i k)),(6,.c (.i i))] []) (fun i=>k - i) 0 (by simp [yry]) (by apply yj <;> simp) ?_
    rintro i ⟨hi,hni⟩
    rcases Nat.lt_or_ge i k with hlt2 | hge2
    ·obtain ⟨c,hc⟩ : ∃ c,t.yas[i]? = some c:=⟨_,List.getElem?_eq_getElem (by omega)⟩
     have hi3 : (i : Int) < t.yas.length:=by omega
     simp -dsimp -implicitDefEqProofs [hb,hc,yG hlt,yG hlt2,hi3]
     refine ⟨fun h2=>?_,fun h2=>?_⟩
     ·have : ¬ (t.yas.map yfy).Nodup:=by
       refine yyf (k:=k + 1) fun hn=>?_
       refine ((ykm hb).1 hn).2 ?_
       rw [← h2]
       exact List.mem_map.2 ⟨c,List.mem_iff_getElem?.2 ⟨i,by rw [List.getElem?_take,if_pos hlt2]; exact hc⟩,rfl⟩
      simp [yP,this]
     ·refine ⟨by unfold inI; omega,i + 1,⟨hlt2,?_⟩,by omega,by apply yj <;> simp⟩
      rw [yry,List.take_succ,hc,List.map_append]
      simp only [List.mem_append,Option.toList_some,List.map_cons,List.map_nil,List.mem_singleton,yfy]
      rintro (h3 | h3)
      ·exact hni h3
      ·exact h2 h3.symm
    ·simp -dsimp -implicitDefEqProofs [yaB hge2]
     have e : i = k:=by omega
     rw [e] at hni
     exact ⟨by unfold inI; omega,k + 1,⟨hlt,hok',(ykm hb).2 ⟨hnd,hni⟩⟩,by omega,by apply yj <;> simp⟩
   ·have h6' : ((t.yas.length : Int) ≤ 6) = False:=by simp; omega
    simp -dsimp -implicitDefEqProofs [hb,yG hlt,h6']
    intro hlen
    refine yc (yD t.yas.length 1 6) ?_
    simp -dsimp -implicitDefEqProofs
    have h7 : inRange t.yas.length 1 6 = false:=ycG.2 (by omega)
    simp only [yP,h7,Bool.and_false]
  ·simp -dsimp -implicitDefEqProofs [yaB hge]
   intro hlen
   refine yc (yD t.yas.length 1 6) ?_
   simp -dsimp -implicitDefEqProofs
   by_cases h6 : t.yas.length ≤ 6
   ·rw [fin h6 (by omega)]
   ·have h7 : inRange t.yas.length 1 6 = false:=ycG.2 (by omega)
    simp only [yP,h7,Bool.and_false]
theorem yvl {t : Train} {k : Nat} {r : List Boat} (h : t.Rows[k]? = some r) : ∃ m,t.yas = heads t.Rows k ++ r ++ m:=by
 refine ⟨(t.Rows.drop (k + 1)).flatten,?_⟩
 unfold Train.yas
 conv=>lhs; rw [← List.take_append_drop (k + 1) t.Rows]
 rw [List.flatten_append,← yhH h]; rfl
theorem yBC {t : Train} {k : Nat} {r : List Boat} (h : t.Rows[k]? = some r) (h0 : r.length = 0) : yP t = false:=by
 have : t.Rows.all full = false:=all_false (p:=full) h (by simp [full,h0])
 simp only [yP,this,Bool.false_and]
theorem yD8 {t : Train} (h : 6 < t.yas.length) : yP t = false:=by
 have h7 : inRange t.yas.length 1 6 = false:=ycG.2 (by omega)
 simp only [yP,h7,Bool.and_false]
theorem yBq {t : Train} {b : Boat} (hb : b ∈ t.yas) (h : ybr b = false) : yP t = false:=by
 obtain ⟨i,hi⟩:=List.getElem?_of_mem hb
 have : t.yas.all ybr = false:=all_false (p:=ybr) hi h
 simp only [yP,this,Bool.false_and,Bool.and_false]
theorem yEq {t : Train} (h : ¬ (t.yas.map yfy).Nodup) : yP t = false:=by simp [yP,h]
def yfA (l : List Boat) : List (List C):=(l.map yfy).map yJ ++ List.replicate (6 - l.length) [.i 0]
theorem yzV {l : List Boat} (h : l.length ≤ 6) : (yfA l).length = 6:=by simp [yfA]; omega
theorem yyx {l : List Boat} {n : Nat} (h : n = l.length) : (yfA l).take n = (l.map yfy).map yJ:=by
 subst h; unfold yfA; rw [List.take_append_of_le_length (by simp),List.take_of_length_le (by simp)]
theorem yyK {l : List Boat} {b : Boat} (h : l.length < 6) : (yfA l).set l.length [.i b.Id] = yfA (l ++ [b]):=by
 unfold yfA
 rw [List.set_append_right _ _ (by simp)]
 have h1 : ((l.map yfy).map yJ).length = l.length:=by simp
 rw [h1,Nat.sub_self,show 6 - l.length = (6 - (l.length + 1)) + 1 by omega,List.replicate_succ,List.set_cons_zero]
 simp [yfy]
theorem yzC {l : List Boat} (h : l.length < 6) : (yfA l)[l.length]?.getD [] = [.i 0]:=by
 unfold yfA
 rw [List.getElem?_append_right (by simp)]
 have h1 : ((l.map yfy).map yJ).length = l.length:=by simp
 rw [h1,Nat.sub_self,List.getElem?_replicate,if_pos (by omega)]; rfl
theorem yzu : yfA [] = List.replicate 6 [.i 0]:=rfl
end Go.Proofs.YtpiplmnecmkafaaGreat
