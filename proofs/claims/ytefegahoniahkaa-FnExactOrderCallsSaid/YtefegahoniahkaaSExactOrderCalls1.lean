/- What the law FnExactOrderCalls stands on: contracts of functions, what each answers as plain Lean, in short form (names, layout). -/
import Derived.Test.YtefegahoniahkaaSExactOrderCallsA3
import Derived.Test.YtefegahoniahkaaProg
import Derived.KernelRfl
import Derived.Test.YtefegahoniahkaaSExactOrderCallsA4
import Derived.Test.YtefegahoniahkaaSExactOrderCallsA8
import Derived.Test.YtefegahoniahkaaSExactOrderCallsA9
import Derived.Test.YtefegahoniahkaaSExactOrderCallsA7
import Derived.Test.YtefegahoniahkaaSExactOrderCallsA5
import Derived.Test.YtefegahoniahkaaSExactOrderCallsA6
set_option linter.all false
namespace Go.Proofs.Ytefegahoniahkaa
open Go.RowKit
abbrev kI (n : Int) : X:=.k (.c (.i n))
abbrev kB (b : Bool) : X:=.k (.c (.b b))
abbrev iv (d n : Nat) : Ins:=⟨none,some d,.mv (.t n)⟩
abbrev ia (d : Nat) (o : IOp) : Ins:=⟨none,some d,o⟩
abbrev ig (t : Nat) (b : Bool) (d : Nat) (o : IOp) : Ins:=⟨some (t,b),some d,o⟩
abbrev ie (o : IOp) : Ins:=⟨none,none,o⟩
abbrev fA (d k a : Nat) : Ins:=ia d (.fld k (.t a))
abbrev lA (d a : Nat) : Ins:=ia d (.ld1 (.t a))
abbrev dA (d k a : Nat) : Ins:=ia d (.ldn k (.t a))
abbrev xA (d k a b : Nat) : Ins:=ia d (.idx k (.t a) (.t b))
abbrev mA (d : Nat) (n : Int) : Ins:=ia d (.mv (kI n))
abbrev bA (d : Nat) (b : Bool) : Ins:=ia d (.mv (kB b))
abbrev nA (d a : Nat) : Ins:=ia d (.len (.t a))
abbrev pA (d a : Nat) (n : Int) : Ins:=ia d (.bin .add (.t a) (kI n))
abbrev tA (d a b : Nat) : Ins:=ia d (.bin .lss (.t a) (.t b))
abbrev oA (d : Nat) (o : BinOp) (a b : Nat) : Ins:=ia d (.bin o (.t a) (.t b))
abbrev oI (d : Nat) (o : BinOp) (a : Nat) (n : Int) : Ins:=ia d (.bin o (.t a) (kI n))
abbrev nN (d a : Nat) : Ins:=ia d (.not (.t a))
abbrev c1 (d f a : Nat) : Ins:=ia d (.call f [.t a])
abbrev c2 (d f a b : Nat) : Ins:=ia d (.call f [.t a,.t b])
abbrev c3 (d f a b c : Nat) : Ins:=ia d (.call f [.t a,.t b,.t c])
abbrev bZ (d k : Nat) : Ins:=ia d (.bsl k [])
abbrev bS (d k a : Nat) : Ins:=ia d (.bsl k [.t a])
abbrev aP (d k b x y : Nat) : Ins:=ia d (.app k b (.t x) (.t y))
abbrev pT (d a b : Nat) : Ins:=ia d (.pick (.t a) (kB true) (.t b))
abbrev pF (d a b : Nat) : Ins:=ia d (.pick (.t a) (.t b) (kB false))
abbrev eX (d i a : Nat) : Ins:=ia d (.ext i (.t a))
abbrev bX (d n a : Nat) : Ins:=ia d (.box n (.t a))
abbrev mN (d k : Nat) : Ins:=ia d (.mv (.k (.nil k)))
abbrev tS (a b : Nat) : Ins:=ie (.st1 (.t a) (.t b))
abbrev tN (n a b : Nat) : Ins:=ie (.stn n (.t a) (.t b))
abbrev gA (c : Nat) (b : Bool) (d k a : Nat) : Ins:=ig c b d (.fld k (.t a))
abbrev hA (c : Nat) (b : Bool) (d a : Nat) : Ins:=ig c b d (.ld1 (.t a))
abbrev g8 (c : Nat) (b : Bool) (d a : Nat) : Ins:=ig c b d (.mv (.t a))
abbrev g9 (c : Nat) (b : Bool) (d a : Nat) : Ins:=ig c b d (.not (.t a))
abbrev q0 (i : Ins) : RIns:=⟨0,false,[],i⟩
abbrev q1 (i : Ins) : RIns:=⟨1,false,[],i⟩
abbrev q2 (i : Ins) : RIns:=⟨2,false,[],i⟩
abbrev q3 (i : Ins) : RIns:=⟨0,true,[],i⟩
abbrev q4 (k : Nat) (n : Bool) (c : List Nat) (i : Ins) : RIns:=⟨k,n,c,i⟩
abbrev rR (l : List Ins) : SC:=.seq (.reg l) .ret
abbrev rS (l : List Ins) (c : SC) : SC:=.seq (.reg l) c
abbrev rQ (l : List Ins) (c : SC) : SC:=.seq (.regq l) c
abbrev rE (l : List RIns) (c : SC) : SC:=.seq (.rege l) c
abbrev cX (t n : Nat) : SC:=.cond (.t t) .skip (.exit n)
abbrev cI (t : Nat) (c : SC) : SC:=.cond (.t t) c .skip
abbrev cT (t : Nat) (a b : SC) : SC:=.cond (.t t) a b
abbrev iS (l : List Ins) (t : Nat) (c d : SC) : SC:=.seq (.seq (.reg l) (.cond (.t t) c .skip)) d
abbrev xS (l : List Ins) (t n : Nat) (d : SC) : SC:=.seq (.seq (.reg l) (.cond (.t t) .skip (.exit n))) d
abbrev bL (n : Nat) (c : SC) : SC:=.block n (.loop c)
theorem yA {P : Program} {f N : Nat} {c : SC} {rs : List RS} {fn : Func} (fl : Option (List Nat)) (hf : P.funcs[f]? = some fn) (h : (fn.ntmps,fn.body.bind (ygf fl P N),yep P fn.results.toList,decide (N ≤ ycZ)) = (N,some c,some rs,true)) : Has P f N c rs:=by
 simp only [Prod.mk.injEq,decide_eq_true_eq] at h
 obtain ⟨h1,h2,h3,h4⟩:=h
 cases hb : fn.body with
 | none=>rw [hb] at h2; cases h2
 | some code=>rw [hb] at h2; exact ⟨h4,fn,code,hf,hb,h1,⟨fl,h2⟩,h3⟩
section
variable {P : Program} {f N d : Nat} {c : SC} {rs : List RS} {avs args : List AV} {res : AV} {s : St} {K : St → Prop} {k : AV → Prop} {ob : Nat → Obj} {dd : Option Nat} {kN : St → Prop} {T : Tag (k,kN)} {T1 : Tag k}
theorem yh (hf : Has P f N c rs) (H : wpS P N c (yh2 args) (fun e s=>match e with | .exit _=>False | _=>yml s rs res)) (hN : args.length ≤ N:=by simp) : yB P f args res:=ywS hf hN fun _=>H
theorem yJu (hf : Has P f N c rs) (H : ygO args → wpS P N c (yh2 args) (fun e s=>match e with | .exit _=>False | _=>yml s rs res)) (hN : args.length ≤ N:=by simp) : yB P f args res:=ywS hf hN H
theorem yan (hf : Has P f N c rs) (H : wpS P N c (yh2 args) (fun e s=>match e with | .exit _=>False | _=>yiF s rs res)) (hN : args.length ≤ N:=by simp) : ybh P f args res:=yv3 hf hN fun _=>H
theorem yc (hp : yB P f args res) (hK : K (s.put dd res)) (ho : ybD s avs args:=by simp) (hs : res.scalar = true:=by rfl) : yfo P f avs dd s K:=yaQ hp ho hs hK
theorem yS (hp : yB P f args res) (hK : K (s.put dd res)) (ho : ybD s avs args:=by simp) (hs : avs.all AV.ycJ = true:=by rfl) : yfo P f avs dd s K:=yaP hp ho hs hK
theorem yaC (hp : yB P f args res) (hK : k res) (ho : ybD (ycF ob) avs args:=by simp) (hs : res.scalar = true:=by rfl) : ysj P f avs ob k T1:=⟨_,_,hp,ho,.inr hs,hK⟩
theorem yyA (hp : yB P f args res) (hK : k res) (ho : ybD (ycF ob) avs args:=by simp) (hs : avs.all AV.ycJ = true:=by rfl) : ysj P f avs ob k T1:=⟨_,_,hp,ho,.inl hs,hK⟩
theorem yb1 (hp : yB P f args res) (hK : k res) (ho : ybD s avs args:=by simp) (hs : res.scalar = true:=by rfl) : ylY P f avs dd s k kN T:=ya2 hp ho (.inr hs) hK
theorem yY (hp : yB P f args res) (hK : k res) (ho : ybD s avs args:=by simp) (hs : avs.all AV.ycJ = true:=by rfl) : ylY P f avs dd s k kN T:=ya2 hp ho (.inl hs) hK
end
attribute [simp] AV.ygy AV.ymf Obj.ygy
theorem ypT : Has Try.prog 5 27 (rS [mA 4 0] (rS [iv 6 1,iv 7 0,nA 8 7,oA 9 .sub 6 8,iv 1 9] (iS [iv 10 1,oI 11 .lss 10 0] 11 (rR [mA 4 (-1)]) (.seq (rS [mA 5 0] (bL 0 (xS [iv 12 5,iv 13 0,nA 14 13,tA 15 12 14] 15 0 (.seq (.block 1 (rS [iv 18 0,iv 19 5,xA 20 4 18 19,dA 21 4 20,iv 22 1,c2 23 17 21 22,iv 1 23] (rS [iv 24 1,oI 25 .lss 24 0] (cI 25 (rR [mA 4 (-1)]))))) (.reg [iv 16 5,pA 17 16 1,iv 5 17]))))) (rR [iv 26 1,iv 4 26]))))) [.t 4]:=yA none Try.func5 (by kernel_rfl)
theorem yiL : Has Try.prog 7 23 (rS [mN 2 4] (rS [iv 5 0,nA 6 5,ia 7 (.mks 4 48 [.b false,.sl 1 [],.i 0,.i 0] (.t 6) (.t 6)),iv 3 7] (.seq (rS [mA 4 0] (bL 0 (xS [iv 8 4,iv 9 0,nA 10 9,tA 11 8 10] 11 0 (.seq (.block 1 (.reg [iv 14 3,iv 15 4,iv 16 0,iv 17 4,xA 18 4 16 17,dA 19 4 18,c1 20 19 19,xA 21 4 14 15,tN 4 21 20])) (.reg [iv 12 4,pA 13 12 1,iv 4 13]))))) (rR [iv 22 3,iv 2 22])))) [.t 2]:=yA none Try.func7 (by kernel_rfl)
theorem yoS : Has Try.prog 10 27 (rS [bA 4 false] (iS [iv 6 0,nA 7 6,iv 8 1,nA 9 8,oA 10 .neq 7 9] 10 (rR [bA 4 false]) (.seq (rS [mA 5 0] (bL 0 (xS [iv 11 5,iv 12 0,nA 13 12,tA 14 11 13] 14 0 (.seq (.block 1 (rQ [iv 17 0,iv 18 5,xA 19 4 17 18,dA 20 4 19,iv 21 1,iv 22 5,xA 23 4 21 22,dA 24 4 23,c2 25 21 20 24,nN 26 25] (cI 26 (rR [bA 4 false])))) (.reg [iv 15 5,pA 16 15 1,iv 5 16]))))) (rR [bA 4 true])))) [.t 4]:=yA none Try.func10 (by kernel_rfl)
theorem yLM : Has Try.prog 11 57 (rS [mN 4 1] (rS [bZ 8 1,iv 5 8] (.seq (rS [mA 6 0] (bL 0 (xS [iv 9 6,iv 10 0,nA 11 10,tA 12 9 11] 12 0 (.seq (.block 1 (iS [iv 15 0,iv 16 6,xA 17 4 15 16,dA 18 4 17,iv 19 1,c2 20 22 18 19,oI 21 .eql 20 3] 21 (.exit 1) (rS [iv 22 5,nA 23 22,iv 7 23] (.seq (bL 2 (.seq (rQ [iv 24 7,oI 25 .gtr 24 0,iv 26 25,g8 26 true 27 0,g8 26 true 28 6,ig 26 true 29 (.idx 4 (.t 27) (.t 28)),ig 26 true 30 (.ldn 4 (.t 29)),g8 26 true 31 0,g8 26 true 32 5,g8 26 true 33 7,ig 26 true 34 (.bin .sub (.t 33) (kI 1)),ig 26 true 35 (.idx 1 (.t 32) (.t 34)),hA 26 true 36 35,ig 26 true 37 (.idx 4 (.t 31) (.t 36)),ig 26 true 38 (.ldn 4 (.t 37)),g8 26 true 39 1,ig 26 true 40 (.call 23 [.t 30,.t 38,.t 39]),pF 41 26 40] (cX 41 2)) (.block 3 (.reg [iv 42 7,oI 43 .sub 42 1,iv 7 43])))) (.rege [q1 (bZ 44 1),q0 (iv 45 5),q0 (iv 46 7),q0 (ia 47 (.slc 1 (.t 45) none (some (.t 46)) none)),q4 2 true [] (aP 48 1 8 44 47),q4 0 false [4] (iv 49 6),q4 1 false [4] (bS 50 1 49),q4 2 true [] (aP 51 1 8 48 50),q4 0 false [4,7] (iv 52 5),q4 0 false [4,7] (iv 53 7),q4 0 false [4,7] (ia 54 (.slc 1 (.t 52) (some (.t 53)) none none)),q2 (aP 55 1 8 51 54),q0 (iv 5 55)]))))) (.reg [iv 13 6,pA 14 13 1,iv 6 14]))))) (rR [iv 56 5,iv 4 56])))) [.t 4]:=yA none Try.func11 (by kernel_rfl)
theorem yLJ : Has Try.prog 12 28 (rS [bX 2 1 0,bX 3 1 1,mN 4 1] (rS [mN 5 1] (.seq (rS [lA 8 2,nA 9 8,mA 10 0] (bL 0 (rS [tA 11 10 9] (.seq (cX 11 0) (.seq (.block 1 (rS [iv 12 10,xA 13 4 8 10,dA 14 4 13,ia 7 (.alloc [.c (.b false),.nil 1,.c (.i 0),.c (.i 0)]),iv 6 12,tN 4 7 14] (rS [dA 15 4 7,lA 16 3,c2 17 24 15 16,oI 18 .neq 17 3] (cI 18 (.reg [iv 19 5,iv 20 6,bS 21 1 20,aP 22 1 8 19 21,iv 5 22]))))) (.reg [pA 23 10 1,iv 10 23])))))) (rS [iv 24 5,ia 25 (.mkf 26 [.t 2,.t 3]),c2 26 25 24 25] (rR [iv 27 5,iv 4 27]))))) [.t 4]:=yA none Try.func12 (by kernel_rfl)
theorem yrq : Has Try.prog 17 12 (rS [bX 2 4 0,mA 4 0] (rS [fA 5 0 2,dA 6 2 5,iv 7 1,c2 8 29 6 7,iv 1 8] (iS [iv 9 1,oI 10 .lss 9 0] 10 (rR [mA 4 (-1)]) (rR [iv 11 1,iv 4 11])))) [.t 4]:=yA none Try.func17 (by kernel_rfl)
theorem yjU : Has Try.prog 19 15 (rS [bX 1 4 0,ia 2 (.alloc [.c (.b false),.nil 1,.c (.i 0),.c (.i 0)])] (rS [ia 3 (.alloc [.c (.b false),.nil 1,.c (.i 0),.c (.i 0)])] (rS [fA 4 0 1,dA 5 2 4,c1 6 31 5,fA 7 0 3,tN 2 7 6] (rS [fA 8 2 1,lA 9 8,fA 10 2 3,tS 10 9] (rS [fA 11 3 1,lA 12 11,fA 13 3 3,tS 13 12] (rR [dA 14 4 3,tN 4 2 14])))))) [.cl 2 4]:=yA none Try.func19 (by kernel_rfl)
def ykh : SC:=rS [bX 2 4 0,bX 3 4 1,bA 4 false] (iS [fA 5 0 2,dA 6 2 5,fA 7 0 3,dA 8 2 7,c2 9 33 6 8,nN 10 9] 10 (rR [bA 4 false]) (iS [fA 11 2 2,lA 12 11,fA 13 2 3,lA 14 13,oA 15 .neq 12 14] 15 (rR [bA 4 false]) (iS [fA 16 3 2,lA 17 16,fA 18 3 3,lA 19 18,oA 20 .neq 17 19] 20 (rR [bA 4 false]) (rR [bA 4 true]))))
theorem yri : Has Try.prog 21 21 ykh [.t 4]:=yA none Try.func21 (by kernel_rfl)
theorem yMf : Has Try.prog 22 29 (rS [bX 2 4 0,mA 4 0] (iS [dA 5 4 2,c1 6 34 5,nN 7 6,iv 8 7,g8 8 false 9 1,gA 8 false 10 2 2,hA 8 false 11 10,ig 8 false 12 (.call 30 [.t 9,.t 11,kI 1000000]),g9 8 false 13 12,pT 14 8 13] 14 (rR [mA 4 3]) (iS [fA 15 3 2,lA 16 15,iv 17 1,ia 18 (.call 30 [.t 16,kI 0,.t 17])] 18 (rR [mA 4 (-1)]) (rQ [fA 19 0 2,dA 20 2 19,c1 21 35 20,iv 22 1,fA 23 2 2,lA 24 23,oA 25 .sub 22 24,oI 26 .quo 25 20,oA 27 .sub 21 26,ia 28 (.mx [kI 0,.t 27]),iv 4 28] .ret)))) [.t 4]:=yA none Try.func22 (by kernel_rfl)
theorem yLF : Has Try.prog 23 66 (rS [bX 3 4 0,bX 4 4 1,bA 6 false] (rS [dA 9 4 3,iv 10 2,c2 11 22 9 10,iv 7 11] (rS [dA 12 4 4,iv 13 2,c2 14 22 12 13,iv 8 14] (.seq (.block 0 (rS [iv 16 7,oI 17 .eql 16 3,iv 18 17,g8 18 false 19 8,ig 18 false 20 (.bin .eql (.t 19) (kI 3)),pT 21 18 20,iv 15 21] (cT 15 (rR [bA 6 false]) (rS [iv 23 7,iv 24 8,oA 25 .neq 23 24,iv 22 25] (cT 22 (rR [iv 26 7,iv 27 8,tA 28 26 27,iv 6 28]) (rS [iv 30 7,oI 31 .eql 30 (-1),iv 32 31,gA 32 true 33 3 3,hA 32 true 34 33,gA 32 true 35 3 4,hA 32 true 36 35,ig 32 true 37 (.bin .neq (.t 34) (.t 36)),pF 38 32 37,iv 29 38] (cT 29 (rR [fA 39 3 3,lA 40 39,fA 41 3 4,lA 42 41,tA 43 40 42,iv 6 43]) (rS [fA 45 2 3,lA 46 45,fA 47 2 4,lA 48 47,oA 49 .neq 46 48,iv 44 49] (cI 44 (rR [fA 50 2 3,lA 51 50,fA 52 2 4,lA 53 52,tA 54 51 53,iv 6 54])))))))))) (rQ [fA 55 0 3,dA 56 2 55,c1 57 36 56,ia 58 (.idx 1 (.t 57) (kI 0)),lA 59 58,fA 60 0 4,dA 61 2 60,c1 62 36 61,ia 63 (.idx 1 (.t 62) (kI 0)),lA 64 63,tA 65 59 64,iv 6 65] .ret))))) [.t 6]:=yA none Try.func23 (by kernel_rfl)
theorem yMd : Has Try.prog 24 34 (rS [bX 2 4 0,mA 4 0] (iS [dA 5 4 2,c1 6 37 5,nN 7 6,iv 8 7,g8 8 false 9 1,gA 8 false 10 2 2,hA 8 false 11 10,ig 8 false 12 (.call 32 [.t 9,.t 11,kI 1000000]),g9 8 false 13 12,pT 14 8 13] 14 (rR [mA 4 3]) (iS [fA 15 3 2,lA 16 15,oI 17 .neq 16 (-1),iv 18 17,gA 18 true 19 3 2,hA 18 true 20 19,g8 18 true 21 1,ig 18 true 22 (.bin .leq (.t 20) (.t 21)),pF 23 18 22] 23 (rR [mA 4 (-1)]) (rQ [fA 24 0 2,dA 25 2 24,c1 26 38 25,iv 27 1,fA 28 2 2,lA 29 28,oA 30 .sub 27 29,oI 31 .quo 30 20,oA 32 .sub 26 31,ia 33 (.mx [kI 0,.t 32]),iv 4 33] .ret)))) [.t 4]:=yA none Try.func24 (by kernel_rfl)
theorem yK1 : Has Try.prog 25 9 (.reg [iv 4 0,iv 5 0,nA 6 5,iv 7 1,c3 8 39 4 6 7]) []:=yA none Try.func25 (by kernel_rfl)
def yLc : SC:=rS [mA 6 0] (.seq (rQ [lA 7 2,iv 8 0,xA 9 4 7 8,dA 10 4 9,lA 11 2,iv 12 1,xA 13 4 11 12,dA 14 4 13,lA 15 3,c3 16 27 10 14 15] (cI 16 (rR [mA 6 (-1)]))) (.seq (rQ [lA 17 2,iv 18 1,xA 19 4 17 18,dA 20 4 19,lA 21 2,iv 22 0,xA 23 4 21 22,dA 24 4 23,lA 25 3,c3 26 27 20 24 25] (cI 26 (rR [mA 6 1]))) (rR [mA 6 0])))
theorem yLA : Has Try.prog 26 27 yLc [.t 6]:=yA none Try.func26 (by kernel_rfl)
theorem yLH : Has Try.prog 27 62 (rS [bX 3 4 0,bX 4 4 1,bA 6 false] (rQ [dA 9 4 3,iv 10 2,c2 11 24 9 10,dA 12 4 4,iv 13 2,c2 14 24 12 13,iv 7 11,iv 8 14] (iS [iv 15 7,oI 16 .eql 15 3,iv 17 16,g8 17 false 18 8,ig 17 false 19 (.bin .eql (.t 18) (kI 3)),pT 20 17 19] 20 (rR [bA 6 false]) (iS [iv 21 7,iv 22 8,oA 23 .neq 21 22] 23 (rR [iv 24 7,iv 25 8,tA 26 24 25,iv 6 26]) (iS [iv 27 7,oI 28 .eql 27 (-1),iv 29 28,gA 29 true 30 3 3,hA 29 true 31 30,gA 29 true 32 3 4,hA 29 true 33 32,ig 29 true 34 (.bin .neq (.t 31) (.t 33)),pF 35 29 34] 35 (rR [fA 36 3 3,lA 37 36,fA 38 3 4,lA 39 38,tA 40 37 39,iv 6 40]) (iS [fA 41 2 3,lA 42 41,fA 43 2 4,lA 44 43,oA 45 .neq 42 44] 45 (rR [fA 46 2 3,lA 47 46,fA 48 2 4,lA 49 48,tA 50 47 49,iv 6 50]) (rQ [fA 51 0 3,dA 52 2 51,c1 53 40 52,ia 54 (.idx 1 (.t 53) (kI 0)),lA 55 54,fA 56 0 4,dA 57 2 56,c1 58 40 57,ia 59 (.idx 1 (.t 58) (kI 0)),lA 60 59,tA 61 55 60,iv 6 61] .ret))))))) [.t 6]:=yA none Try.func27 (by kernel_rfl)
theorem ypX : Has Try.prog 29 12 (rS [bX 2 2 0,mA 4 0] (rS [fA 5 1 2,lA 6 5,iv 7 1,c2 8 42 6 7,iv 1 8] (iS [iv 9 1,oI 10 .lss 9 0] 10 (rR [mA 4 (-1)]) (rR [iv 11 1,iv 4 11])))) [.t 4]:=yA none Try.func29 (by kernel_rfl)
def ylw : SC:=rS [bA 6 false] (rR [iv 7 0,iv 8 1,oA 9 .geq 7 8,iv 10 9,g8 10 true 11 0,g8 10 true 12 2,ig 10 true 13 (.bin .leq (.t 11) (.t 12)),pF 14 10 13,iv 6 14])
theorem ysx : Has Try.prog 30 15 ylw [.t 6]:=yA none Try.func30 (by kernel_rfl)
theorem yiU : Has Try.prog 31 12 (rS [bX 1 2 0,ia 2 (.alloc [.c (.b false),.nil 1])] (rS [ia 3 (.alloc [.c (.b false),.nil 1])] (rS [fA 4 0 1,lA 5 4,fA 6 0 3,tS 6 5] (rS [fA 7 1 1,lA 8 7,c1 9 43 8,fA 10 1 3,tS 10 9] (rR [dA 11 2 3,tN 2 2 11]))))) [.cl 2 2]:=yA none Try.func31 (by kernel_rfl)
def yi1 : SC:=rS [bA 6 false] (rR [iv 7 0,iv 8 1,oA 9 .geq 7 8,iv 10 9,g8 10 true 11 0,g8 10 true 12 2,ig 10 true 13 (.bin .leq (.t 11) (.t 12)),pF 14 10 13,iv 6 14])
theorem yot : Has Try.prog 32 15 yi1 [.t 6]:=yA none Try.func32 (by kernel_rfl)
def yiE : SC:=rS [bX 2 2 0,bX 3 2 1,bA 4 false] (iS [fA 5 0 2,lA 6 5,fA 7 0 3,lA 8 7,ia 9 (.beq true (.t 6) (.t 8))] 9 (rR [bA 4 false]) (iS [fA 10 1 2,lA 11 10,fA 12 1 3,lA 13 12,c2 14 44 11 13,nN 15 14] 15 (rR [bA 4 false]) (rR [bA 4 true])))
theorem yoZ : Has Try.prog 33 16 yiE [.t 4]:=yA none Try.func33 (by kernel_rfl)
theorem yqt : Has Try.prog 34 16 (rS [bX 1 4 0,bA 2 false] (rR [fA 3 0 1,dA 4 2 3,c1 5 45 4,iv 6 5,gA 6 true 7 2 1,hA 6 true 8 7,ig 6 true 9 (.call 30 [.t 8,kI 0,kI 1000000]),pF 10 6 9,iv 11 10,gA 11 true 12 3 1,hA 11 true 13 12,ig 11 true 14 (.call 30 [.t 13,kI (-1),kI 1000000]),pF 15 11 14,iv 2 15])) [.t 2]:=yA none Try.func34 (by kernel_rfl)
theorem yL3 : Has Try.prog 35 29 (rS [bX 1 2 0,mA 2 0] (rS [dA 6 2 1,c1 7 46 6,iv 3 7] (iS [dA 8 2 1,c1 9 45 8,nN 10 9] 10 (rR [mA 2 (-1)]) (rS [iv 11 3,ia 12 (.idx 6 (.t 11) (kI 0)),fA 13 5 12,lA 14 13,iv 4 14] (.seq (rS [mA 5 0] (bL 0 (xS [iv 15 5,iv 16 3,nA 17 16,tA 18 15 17] 18 0 (.seq (.block 1 (.reg [iv 21 4,iv 22 3,iv 23 5,xA 24 6 22 23,fA 25 5 24,lA 26 25,ia 27 (.mn [.t 21,.t 26]),iv 4 27])) (.reg [iv 19 5,pA 20 19 1,iv 5 20]))))) (rR [iv 28 4,iv 2 28])))))) [.t 2]:=yA none Try.func35 (by kernel_rfl)
theorem ysG : Has Try.prog 36 28 (rS [bX 1 2 0,mN 2 1] (rS [bZ 6 1,iv 3 6] (rS [dA 7 2 1,c1 8 46 7,iv 4 8] (.seq (rS [mA 5 0] (bL 0 (xS [iv 9 5,iv 10 4,nA 11 10,tA 12 9 11,iv 13 12,ig 13 true 14 (.ldn 2 (.t 1)),ig 13 true 15 (.call 45 [.t 14]),pF 16 13 15] 16 0 (.seq (.block 1 (.reg [iv 19 3,iv 20 4,iv 21 5,xA 22 6 20 21,fA 23 0 22,lA 24 23,bS 25 1 24,aP 26 1 8 19 25,iv 3 26])) (.reg [iv 17 5,pA 18 17 1,iv 5 18]))))) (rR [iv 27 3,iv 2 27]))))) [.t 2]:=yA none Try.func36 (by kernel_rfl)
theorem yqU : Has Try.prog 37 16 (rS [bX 1 4 0,bA 2 false] (rR [fA 3 0 1,dA 4 2 3,c1 5 47 4,iv 6 5,gA 6 true 7 2 1,hA 6 true 8 7,ig 6 true 9 (.call 32 [.t 8,kI 0,kI 1000000]),pF 10 6 9,iv 11 10,gA 11 true 12 3 1,hA 11 true 13 12,ig 11 true 14 (.call 32 [.t 13,kI (-1),kI 1000000]),pF 15 11 14,iv 2 15])) [.t 2]:=yA none Try.func37 (by kernel_rfl)
theorem yMa : Has Try.prog 38 29 (rS [bX 1 2 0,mA 2 0] (iS [dA 6 2 1,c1 7 47 6,nN 8 7] 8 (rR [mA 2 (-1)]) (rS [fA 9 1 1,lA 10 9,ia 11 (.idx 1 (.t 10) (kI 0)),lA 12 11,ia 13 (.idx 6 (.t 12) (kI 0)),fA 14 5 13,lA 15 14,iv 3 15] (.seq (rS [dA 16 2 1,c1 17 48 16,nA 18 17,mA 19 0] (bL 0 (rS [tA 20 19 18] (.seq (cX 20 0) (.seq (.block 1 (rS [xA 21 6 17 19,dA 22 6 21,ia 5 (.alloc [.c (.i 0),.c (.i 0),.c (.i 0),.c (.i 0),.c (.i 0),.c (.i 0)]),tN 6 5 22] (.reg [iv 23 3,fA 24 5 5,lA 25 24,ia 26 (.mn [.t 23,.t 25]),iv 3 26]))) (.reg [pA 27 19 1,iv 19 27])))))) (rR [iv 28 3,iv 2 28]))))) [.t 2]:=yA none Try.func38 (by kernel_rfl)
theorem yK5 : Has Try.prog 39 63 (rS [mA 6 20] (rS [iv 10 6,mA 7 0,iv 8 10] (.seq (bL 0 (xS [iv 11 8,iv 12 1,oA 13 .leq 11 12] 13 0 (.block 1 (rS [iv 14 0,iv 15 7,iv 16 8,iv 17 2,ia 18 (.call 49 [.t 14,.t 15,.t 16,.t 17])] (rS [iv 19 8,iv 7 19] (.reg [iv 20 8,iv 21 6,oA 22 .add 20 21,iv 8 22])))))) (rS [iv 23 0,iv 24 7,iv 25 1,iv 26 2,ia 27 (.call 49 [.t 23,.t 24,.t 25,.t 26])] (bL 2 (xS [iv 28 6,iv 29 1,tA 30 28 29] 30 2 (.block 3 (rS [iv 31 6,ia 32 (.bin .mul (kI 2) (.t 31)),mA 7 0,iv 8 32] (.seq (bL 4 (xS [iv 33 8,iv 34 1,oA 35 .leq 33 34] 35 4 (.block 5 (rS [iv 36 0,iv 37 7,iv 38 7,iv 39 6,oA 40 .add 38 39,iv 41 8,iv 42 2,ia 43 (.call 50 [.t 36,.t 37,.t 40,.t 41,.t 42])] (rS [iv 44 8,iv 7 44] (.reg [iv 45 8,iv 46 6,ia 47 (.bin .mul (kI 2) (.t 46)),oA 48 .add 45 47,iv 8 48])))))) (.seq (rS [iv 49 7,iv 50 6,oA 51 .add 49 50,iv 9 51] (rS [iv 52 9,iv 53 1,tA 54 52 53] (cI 54 (.reg [iv 55 0,iv 56 7,iv 57 9,iv 58 1,iv 59 2,ia 60 (.call 50 [.t 55,.t 56,.t 57,.t 58,.t 59])])))) (.reg [iv 61 6,oI 62 .mul 61 2,iv 6 62]))))))))))) []:=yA none Try.func39 (by kernel_rfl)
theorem ysm : Has Try.prog 40 23 (rS [bX 1 2 0,mN 2 1] (iS [dA 6 2 1,c1 7 47 6,nN 8 7] 8 (rR [mN 2 1]) (rS [mN 3 1] (.seq (rS [dA 9 2 1,c1 10 48 9,nA 11 10,mA 12 0] (bL 0 (rS [tA 13 12 11] (.seq (cX 13 0) (.seq (.block 1 (rS [xA 14 6 10 12,dA 15 6 14,ia 5 (.alloc [.c (.i 0),.c (.i 0),.c (.i 0),.c (.i 0),.c (.i 0),.c (.i 0)]),tN 6 5 15] (.reg [iv 16 3,fA 17 0 5,lA 18 17,bS 19 1 18,aP 20 1 8 16 19,iv 3 20]))) (.reg [pA 21 12 1,iv 12 21])))))) (rR [iv 22 3,iv 2 22]))))) [.t 2]:=yA none Try.func40 (by kernel_rfl)
theorem ynp : Has Try.prog 42 27 (rS [mA 4 0] (rS [iv 6 1,iv 7 0,nA 8 7,oA 9 .sub 6 8,iv 1 9] (iS [iv 10 1,oI 11 .lss 10 0] 11 (rR [mA 4 (-1)]) (.seq (rS [mA 5 0] (bL 0 (xS [iv 12 5,iv 13 0,nA 14 13,tA 15 12 14] 15 0 (.seq (.block 1 (rS [iv 18 0,iv 19 5,xA 20 1 18 19,lA 21 20,iv 22 1,c2 23 51 21 22,iv 1 23] (rS [iv 24 1,oI 25 .lss 24 0] (cI 25 (rR [mA 4 (-1)]))))) (.reg [iv 16 5,pA 17 16 1,iv 5 17]))))) (rR [iv 26 1,iv 4 26]))))) [.t 4]:=yA none Try.func42 (by kernel_rfl)
theorem yim : Has Try.prog 43 23 (rS [mN 2 1] (rS [iv 5 0,nA 6 5,ia 7 (.mks 1 24 [.sl 6 []] (.t 6) (.t 6)),iv 3 7] (.seq (rS [mA 4 0] (bL 0 (xS [iv 8 4,iv 9 0,nA 10 9,tA 11 8 10] 11 0 (.seq (.block 1 (.reg [iv 14 3,iv 15 4,iv 16 0,iv 17 4,xA 18 1 16 17,lA 19 18,c1 20 52 19,xA 21 1 14 15,tS 21 20])) (.reg [iv 12 4,pA 13 12 1,iv 4 13]))))) (rR [iv 22 3,iv 2 22])))) [.t 2]:=yA none Try.func43 (by kernel_rfl)
theorem ync : Has Try.prog 44 27 (rS [bA 4 false] (iS [iv 6 0,nA 7 6,iv 8 1,nA 9 8,oA 10 .neq 7 9] 10 (rR [bA 4 false]) (.seq (rS [mA 5 0] (bL 0 (xS [iv 11 5,iv 12 0,nA 13 12,tA 14 11 13] 14 0 (.seq (.block 1 (rQ [iv 17 0,iv 18 5,xA 19 1 17 18,lA 20 19,iv 21 1,iv 22 5,xA 23 1 21 22,lA 24 23,c2 25 53 20 24,nN 26 25] (cI 26 (rR [bA 4 false])))) (.reg [iv 15 5,pA 16 15 1,iv 5 16]))))) (rR [bA 4 true])))) [.t 4]:=yA none Try.func44 (by kernel_rfl)
theorem yoi : Has Try.prog 45 59 (rS [bX 1 2 0,bA 2 false] (rS [dA 7 2 1,c1 8 46 7,iv 3 8] (.seq (rS [mA 4 0] (bL 0 (xS [iv 9 4,fA 10 1 1,lA 11 10,nA 12 11,tA 13 9 12] 13 0 (.seq (.block 1 (rS [fA 16 1 1,lA 17 16,iv 18 4,xA 19 1 17 18,lA 20 19,nA 21 20,oI 22 .eql 21 0] (cI 22 (rR [bA 2 false])))) (.reg [iv 14 4,pA 15 14 1,iv 4 15]))))) (.seq (rS [mA 5 0] (bL 2 (xS [iv 23 5,iv 24 3,nA 25 24,tA 26 23 25,iv 27 26,g8 27 true 28 3,ig 27 true 29 (.len (.t 28)),ig 27 true 30 (.bin .leq (.t 29) (kI 6)),pF 31 27 30] 31 2 (.seq (.block 3 (iS [iv 34 3,iv 35 5,xA 36 6 34 35,dA 37 6 36,c1 38 54 37,nN 39 38] 39 (rR [bA 2 false]) (rS [mA 6 0] (bL 4 (xS [iv 40 6,iv 41 5,tA 42 40 41] 42 4 (.seq (.block 5 (rQ [iv 45 3,iv 46 6,xA 47 6 45 46,fA 48 0 47,lA 49 48,iv 50 3,iv 51 5,xA 52 6 50 51,fA 53 0 52,lA 54 53,oA 55 .eql 49 54] (cI 55 (rR [bA 2 false])))) (.reg [iv 43 6,pA 44 43 1,iv 6 44]))))))) (.reg [iv 32 5,pA 33 32 1,iv 5 33]))))) (rR [iv 56 3,nA 57 56,ia 58 (.call 30 [.t 57,kI 1,kI 6]),iv 2 58]))))) [.t 2]:=yA none Try.func45 (by kernel_rfl)
theorem ynj : Has Try.prog 46 21 (rS [bX 1 2 0,mN 2 6] (rS [bZ 5 6,iv 3 5] (.seq (rS [mA 4 0] (bL 0 (xS [iv 6 4,fA 7 1 1,lA 8 7,nA 9 8,tA 10 6 9] 10 0 (.seq (.block 1 (.reg [iv 13 3,fA 14 1 1,lA 15 14,iv 16 4,xA 17 1 15 16,lA 18 17,aP 19 6 48 13 18,iv 3 19])) (.reg [iv 11 4,pA 12 11 1,iv 4 12]))))) (rR [iv 20 3,iv 2 20])))) [.t 2]:=yA none Try.func46 (by kernel_rfl)
theorem yoE : Has Try.prog 47 60 (rS [bX 1 2 0,bA 2 false] (iS [fA 9 1 1,lA 10 9,nA 11 10,oI 12 .eql 11 0,iv 13 12,gA 13 false 14 1 1,hA 13 false 15 14,ig 13 false 16 (.len (.t 15)),ig 13 false 17 (.bin .gtr (.t 16) (kI 6)),pT 18 13 17] 18 (rR [bA 2 false]) (rS [ia 3 (.alloca 1 6 [.i 0])] (rS [mA 4 0] (.seq (rS [fA 19 1 1,lA 20 19,nA 21 20,mA 22 0] (bL 0 (rS [tA 23 22 21] (.seq (cX 23 0) (.seq (.block 1 (rS [xA 24 1 20 22,lA 25 24,iv 6 25] (iS [iv 26 6,nA 27 26,oI 28 .eql 27 0,iv 29 28,g8 29 false 30 4,g8 29 false 31 6,ig 29 false 32 (.len (.t 31)),ig 29 false 33 (.bin .add (.t 30) (.t 32)),ig 29 false 34 (.bin .gtr (.t 33) (kI 6)),pT 35 29 34] 35 (rR [bA 2 false]) (rS [iv 36 6,nA 37 36,mA 38 0] (bL 2 (rS [tA 39 38 37] (.seq (cX 39 2) (.seq (.block 3 (rS [xA 40 6 36 38,dA 41 6 40,ia 8 (.alloc [.c (.i 0),.c (.i 0),.c (.i 0),.c (.i 0),.c (.i 0),.c (.i 0)]),tN 6 8 41] (.seq (rQ [dA 42 6 8,c1 43 55 42,nN 44 43,iv 45 44,g8 45 false 46 4,ig 45 false 47 (.sla 1 6 (.t 3) (.t 46)),gA 45 false 48 0 8,hA 45 false 49 48,ig 45 false 50 (.call 56 [.t 47,.t 49]),pT 51 45 50] (cI 51 (rR [bA 2 false]))) (rS [iv 52 4,fA 53 0 8,lA 54 53,ia 55 (.ida 1 6 (.t 3) (.t 52)),tS 55 54] (.reg [iv 56 4,pA 57 56 1,iv 4 57]))))) (.reg [pA 58 38 1,iv 38 58]))))))))) (.reg [pA 59 22 1,iv 22 59])))))) (rR [bA 2 true])))))) [.t 2]:=yA none Try.func47 (by kernel_rfl)
theorem yoM : Has Try.prog 48 18 (rS [bX 1 2 0,mN 2 6] (rS [mN 3 6] (.seq (rS [fA 6 1 1,lA 7 6,nA 8 7,mA 9 0] (bL 0 (rS [tA 10 9 8] (.seq (cX 10 0) (.seq (.block 1 (rS [xA 11 1 7 9,lA 12 11,iv 5 12] (.reg [iv 13 3,iv 14 5,aP 15 6 48 13 14,iv 3 15]))) (.reg [pA 16 9 1,iv 9 16])))))) (rR [iv 17 3,iv 2 17])))) [.t 2]:=yA none Try.func48 (by kernel_rfl)
theorem yKZ : Has Try.prog 49 53 (rS [iv 10 1,pA 11 10 1,iv 8 11] (bL 0 (xS [iv 12 8,iv 13 2,tA 14 12 13] 14 0 (.seq (.block 1 (rS [iv 17 8,iv 9 17] (bL 2 (.seq (rQ [iv 18 9,iv 19 1,oA 20 .gtr 18 19,iv 21 20,g8 21 true 22 3,g8 21 true 23 0,g8 21 true 24 9,ig 21 true 25 (.idx 1 (.t 23) (.t 24)),hA 21 true 26 25,g8 21 true 27 0,g8 21 true 28 9,ig 21 true 29 (.bin .sub (.t 28) (kI 1)),ig 21 true 30 (.idx 1 (.t 27) (.t 29)),hA 21 true 31 30,ig 21 true 32 (.callv (.t 22) [.t 26,.t 31]),ig 21 true 33 (.bin .lss (.t 32) (kI 0)),pF 34 21 33] (cX 34 2)) (.seq (.block 3 (.rege [q0 (iv 37 0),q0 (iv 38 9),q3 (iv 39 0),q3 (iv 40 9),q3 (oI 41 .sub 40 1),q0 (iv 42 0),q0 (iv 43 9),q0 (oI 44 .sub 43 1),q0 (xA 45 1 42 44),q0 (lA 46 45),q0 (iv 47 0),q0 (iv 48 9),q0 (xA 49 1 47 48),q0 (lA 50 49),q0 (xA 51 1 37 38),q4 2 false [2,3,4] (tS 51 46),q0 (xA 52 1 39 41),q2 (tS 52 50)])) (.reg [iv 35 9,oI 36 .sub 35 1,iv 9 36])))))) (.reg [iv 15 8,pA 16 15 1,iv 8 16]))))) []:=yA none Try.func49 (by kernel_rfl)
def yKS : SC:=iS [iv 25 2,iv 26 1,oA 27 .sub 25 26,oI 28 .eql 27 1] 28 (rS [iv 29 2,iv 10 29] (rS [iv 30 3,iv 11 30] (.seq (bL 0 (xS [iv 31 10,iv 32 11,tA 33 31 32] 33 0 (.block 1 (rS [iv 34 10,iv 35 11,oA 36 .add 34 35,ia 37 (.cvt 3 (.t 36)),ia 38 (.bit .shr (.t 37) (kI 1)),ia 39 (.cvt 0 (.t 38)),iv 12 39] (rQ [iv 40 4,iv 41 0,iv 42 12,xA 43 1 41 42,lA 44 43,iv 45 0,iv 46 1,xA 47 1 45 46,lA 48 47,ia 49 (.callv (.t 40) [.t 44,.t 48]),oI 50 .lss 49 0] (cT 50 (.reg [iv 51 12,pA 52 51 1,iv 10 52]) (.reg [iv 53 12,iv 11 53]))))))) (.seq (rS [iv 54 1,iv 13 54] (bL 2 (xS [iv 55 13,iv 56 10,oI 57 .sub 56 1,tA 58 55 57] 58 2 (.seq (.block 3 (.rege [q0 (iv 61 0),q0 (iv 62 13),q3 (iv 63 0),q3 (iv 64 13),q3 (pA 65 64 1),q0 (iv 66 0),q0 (iv 67 13),q0 (pA 68 67 1),q0 (xA 69 1 66 68),q0 (lA 70 69),q0 (iv 71 0),q0 (iv 72 13),q0 (xA 73 1 71 72),q0 (lA 74 73),q0 (xA 75 1 61 62),q4 2 false [2,3,4] (tS 75 70),q0 (xA 76 1 63 65),q2 (tS 76 74)])) (.reg [iv 59 13,pA 60 59 1,iv 13 60]))))) .ret)))) (iS [iv 77 3,iv 78 2,oA 79 .sub 77 78,oI 80 .eql 79 1] 80 (rS [iv 81 1,iv 14 81] (rS [iv 82 2,iv 15 82] (.seq (bL 4 (xS [iv 83 14,iv 84 15,tA 85 83 84] 85 4 (.block 5 (rS [iv 86 14,iv 87 15,oA 88 .add 86 87,ia 89 (.cvt 3 (.t 88)),ia 90 (.bit .shr (.t 89) (kI 1)),ia 91 (.cvt 0 (.t 90)),iv 16 91] (rQ [iv 92 4,iv 93 0,iv 94 2,xA 95 1 93 94,lA 96 95,iv 97 0,iv 98 16,xA 99 1 97 98,lA 100 99,ia 101 (.callv (.t 92) [.t 96,.t 100]),oI 102 .lss 101 0,nN 103 102] (cT 103 (.reg [iv 104 16,pA 105 104 1,iv 14 105]) (.reg [iv 106 16,iv 15 106]))))))) (.seq (rS [iv 107 2,iv 17 107] (bL 6 (xS [iv 108 17,iv 109 14,oA 110 .gtr 108 109] 110 6 (.seq (.block 7 (.rege [q0 (iv 113 0),q0 (iv 114 17),q3 (iv 115 0),q3 (iv 116 17),q3 (oI 117 .sub 116 1),q0 (iv 118 0),q0 (iv 119 17),q0 (oI 120 .sub 119 1),q0 (xA 121 1 118 120),q0 (lA 122 121),q0 (iv 123 0),q0 (iv 124 17),q0 (xA 125 1 123 124),q0 (lA 126 125),q0 (xA 127 1 113 114),q4 2 false [2,3,4] (tS 127 122),q0 (xA 128 1 115 117),q2 (tS 128 126)])) (.reg [iv 111 17,oI 112 .sub 111 1,iv 17 112]))))) .ret)))) (rS [iv 129 1,iv 130 3,oA 131 .add 129 130,ia 132 (.cvt 3 (.t 131)),ia 133 (.bit .shr (.t 132) (kI 1)),ia 134 (.cvt 0 (.t 133)),iv 18 134] (rS [iv 135 18,iv 136 2,oA 137 .add 135 136,iv 19 137] (rS [mA 20 0,mA 21 0] (.seq (rS [iv 138 2,iv 139 18,oA 140 .gtr 138 139] (cT 140 (rS [iv 141 19,iv 142 3,oA 143 .sub 141 142,iv 20 143] (.reg [iv 144 18,iv 21 144])) (rS [iv 145 1,iv 20 145] (.reg [iv 146 2,iv 21 146])))) (rS [iv 147 19,oI 148 .sub 147 1,iv 22 148] (.seq (bL 8 (xS [iv 149 20,iv 150 21,tA 151 149 150] 151 8 (.block 9 (rS [iv 152 20,iv 153 21,oA 154 .add 152 153,ia 155 (.cvt 3 (.t 154)),ia 156 (.bit .shr (.t 155) (kI 1)),ia 157 (.cvt 0 (.t 156)),iv 23 157] (rQ [iv 158 4,iv 159 0,iv 160 22,iv 161 23,oA 162 .sub 160 161,xA 163 1 159 162,lA 164 163,iv 165 0,iv 166 23,xA 167 1 165 166,lA 168 167,ia 169 (.callv (.t 158) [.t 164,.t 168]),oI 170 .lss 169 0,nN 171 170] (cT 171 (.reg [iv 172 23,pA 173 172 1,iv 20 173]) (.reg [iv 174 23,iv 21 174]))))))) (rS [iv 175 19,iv 176 20,oA 177 .sub 175 176,iv 24 177] (iS [iv 178 20,iv 179 2,tA 180 178 179,iv 181 180,g8 181 true 182 2,g8 181 true 183 24,ig 181 true 184 (.bin .lss (.t 182) (.t 183)),pF 185 181 184] 185 (.reg [iv 186 0,iv 187 20,iv 188 2,iv 189 24,iv 190 4,ia 191 (.call 57 [.t 186,.t 187,.t 188,.t 189,.t 190])]) (iS [iv 192 1,iv 193 20,tA 194 192 193,iv 195 194,g8 195 true 196 20,g8 195 true 197 18,ig 195 true 198 (.bin .lss (.t 196) (.t 197)),pF 199 195 198] 199 (.reg [iv 200 0,iv 201 1,iv 202 20,iv 203 18,iv 204 4,ia 205 (.call 50 [.t 200,.t 201,.t 202,.t 203,.t 204])]) (rS [iv 206 18,iv 207 24,tA 208 206 207,iv 209 208,g8 209 true 210 24,g8 209 true 211 3,ig 209 true 212 (.bin .lss (.t 210) (.t 211)),pF 213 209 212] (cI 213 (.reg [iv 214 0,iv 215 18,iv 216 24,iv 217 3,iv 218 4,ia 219 (.call 50 [.t 214,.t 215,.t 216,.t 217,.t 218])])))))))))))))
theorem yKW : Has Try.prog 50 220 yKS []:=yA none Try.func50 (by kernel_rfl)
def yi3 : SC:=rS [mA 4 0] (rS [iv 5 1,iv 6 0,nA 7 6,oA 8 .sub 5 7,iv 1 8] (iS [iv 9 1,oI 10 .lss 9 0] 10 (rR [mA 4 (-1)]) (rR [iv 11 1,iv 4 11])))
theorem yoU : Has Try.prog 51 12 yi3 [.t 4]:=yA none Try.func51 (by kernel_rfl)
theorem yiM : Has Try.prog 52 23 (rS [mN 2 6] (rS [iv 5 0,nA 6 5,ia 7 (.mks 6 48 [.i 0,.i 0,.i 0,.i 0,.i 0,.i 0] (.t 6) (.t 6)),iv 3 7] (.seq (rS [mA 4 0] (bL 0 (xS [iv 8 4,iv 9 0,nA 10 9,tA 11 8 10] 11 0 (.seq (.block 1 (.reg [iv 14 3,iv 15 4,iv 16 0,iv 17 4,xA 18 6 16 17,dA 19 6 18,c1 20 58 19,xA 21 6 14 15,tN 6 21 20])) (.reg [iv 12 4,pA 13 12 1,iv 4 13]))))) (rR [iv 22 3,iv 2 22])))) [.t 2]:=yA none Try.func52 (by kernel_rfl)
theorem yoL : Has Try.prog 53 27 (rS [bA 4 false] (iS [iv 6 0,nA 7 6,iv 8 1,nA 9 8,oA 10 .neq 7 9] 10 (rR [bA 4 false]) (.seq (rS [mA 5 0] (bL 0 (xS [iv 11 5,iv 12 0,nA 13 12,tA 14 11 13] 14 0 (.seq (.block 1 (rQ [iv 17 0,iv 18 5,xA 19 6 17 18,dA 20 6 19,iv 21 1,iv 22 5,xA 23 6 21 22,dA 24 6 23,c2 25 59 20 24,nN 26 25] (cI 26 (rR [bA 4 false])))) (.reg [iv 15 5,pA 16 15 1,iv 5 16]))))) (rR [bA 4 true])))) [.t 4]:=yA none Try.func53 (by kernel_rfl)
theorem yrf : Has Try.prog 54 31 (rS [bX 1 6 0,bA 2 false] (rR [fA 3 0 1,lA 4 3,ia 5 (.call 30 [.t 4,kI 1,kI 9999]),iv 6 5,gA 6 true 7 1 1,hA 6 true 8 7,ig 6 true 9 (.call 30 [.t 8,kI 1,kI 200]),pF 10 6 9,iv 11 10,gA 11 true 12 2 1,hA 11 true 13 12,ig 11 true 14 (.call 30 [.t 13,kI 1,kI 30]),pF 15 11 14,iv 16 15,gA 16 true 17 3 1,hA 16 true 18 17,ig 16 true 19 (.call 30 [.t 18,kI 1,kI 100]),pF 20 16 19,iv 21 20,gA 21 true 22 4 1,hA 21 true 23 22,ig 21 true 24 (.call 30 [.t 23,kI 1,kI 50]),pF 25 21 24,iv 26 25,gA 26 true 27 5 1,hA 26 true 28 27,ig 26 true 29 (.call 30 [.t 28,kI 0,kI 2]),pF 30 26 29,iv 2 30])) [.t 2]:=yA none Try.func54 (by kernel_rfl)
theorem yqo : Has Try.prog 55 31 (rS [bX 1 6 0,bA 2 false] (rR [fA 3 0 1,lA 4 3,ia 5 (.call 32 [.t 4,kI 1,kI 9999]),iv 6 5,gA 6 true 7 1 1,hA 6 true 8 7,ig 6 true 9 (.call 32 [.t 8,kI 1,kI 200]),pF 10 6 9,iv 11 10,gA 11 true 12 2 1,hA 11 true 13 12,ig 11 true 14 (.call 32 [.t 13,kI 1,kI 30]),pF 15 11 14,iv 16 15,gA 16 true 17 3 1,hA 16 true 18 17,ig 16 true 19 (.call 32 [.t 18,kI 1,kI 100]),pF 20 16 19,iv 21 20,gA 21 true 22 4 1,hA 21 true 23 22,ig 21 true 24 (.call 32 [.t 23,kI 1,kI 50]),pF 25 21 24,iv 26 25,gA 26 true 27 5 1,hA 26 true 28 27,ig 26 true 29 (.call 32 [.t 28,kI 0,kI 2]),pF 30 26 29,iv 2 30])) [.t 2]:=yA none Try.func55 (by kernel_rfl)
theorem yfu : Has Try.prog 56 9 (rS [bA 4 false] (rR [iv 5 0,iv 6 1,c2 7 60 5 6,oI 8 .geq 7 0,iv 4 8])) [.t 4]:=yA none Try.func56 (by kernel_rfl)
theorem yLd : Has Try.prog 57 58 (rS [iv 12 2,iv 13 1,oA 14 .sub 12 13,iv 10 14] (rS [iv 15 3,iv 16 2,oA 17 .sub 15 16,iv 11 17] (.seq (bL 0 (xS [iv 18 10,iv 19 11,oA 20 .neq 18 19] 20 0 (.block 1 (rS [iv 21 10,iv 22 11,oA 23 .gtr 21 22] (cT 23 (rS [iv 24 0,iv 25 2,iv 26 10,oA 27 .sub 25 26,iv 28 2,iv 29 11,iv 30 4,ia 31 (.call 61 [.t 24,.t 27,.t 28,.t 29,.t 30])] (.reg [iv 32 10,iv 33 11,oA 34 .sub 32 33,iv 10 34])) (rS [iv 35 0,iv 36 2,iv 37 10,oA 38 .sub 36 37,iv 39 2,iv 40 11,oA 41 .add 39 40,iv 42 10,oA 43 .sub 41 42,iv 44 10,iv 45 4,ia 46 (.call 61 [.t 35,.t 38,.t 43,.t 44,.t 45])] (.reg [iv 47 11,iv 48 10,oA 49 .sub 47 48,iv 11 49]))))))) (.reg [iv 50 0,iv 51 2,iv 52 10,oA 53 .sub 51 52,iv 54 2,iv 55 10,iv 56 4,ia 57 (.call 61 [.t 50,.t 53,.t 54,.t 55,.t 56])])))) []:=yA none Try.func57 (by kernel_rfl)
theorem yq9 : Has Try.prog 58 23 (rS [bX 1 6 0,ia 2 (.alloc [.c (.i 0),.c (.i 0),.c (.i 0),.c (.i 0),.c (.i 0),.c (.i 0)])] (rS [ia 3 (.alloc [.c (.i 0),.c (.i 0),.c (.i 0),.c (.i 0),.c (.i 0),.c (.i 0)])] (rS [fA 4 0 1,lA 5 4,fA 6 0 3,tS 6 5] (rS [fA 7 1 1,lA 8 7,fA 9 1 3,tS 9 8] (rS [fA 10 2 1,lA 11 10,fA 12 2 3,tS 12 11] (rS [fA 13 3 1,lA 14 13,fA 15 3 3,tS 15 14] (rS [fA 16 4 1,lA 17 16,fA 18 4 3,tS 18 17] (rS [fA 19 5 1,lA 20 19,fA 21 5 3,tS 21 20] (rR [dA 22 6 3,tN 6 2 22]))))))))) [.cl 2 6]:=yA none Try.func58 (by kernel_rfl)
def yj8 : SC:=rS [bX 2 6 0,bX 3 6 1,bA 4 false] (iS [fA 5 0 2,lA 6 5,fA 7 0 3,lA 8 7,oA 9 .neq 6 8] 9 (rR [bA 4 false]) (iS [fA 10 1 2,lA 11 10,fA 12 1 3,lA 13 12,oA 14 .neq 11 13] 14 (rR [bA 4 false]) (iS [fA 15 2 2,lA 16 15,fA 17 2 3,lA 18 17,oA 19 .neq 16 18] 19 (rR [bA 4 false]) (iS [fA 20 3 2,lA 21 20,fA 22 3 3,lA 23 22,oA 24 .neq 21 23] 24 (rR [bA 4 false]) (iS [fA 25 4 2,lA 26 25,fA 27 4 3,lA 28 27,oA 29 .neq 26 28] 29 (rR [bA 4 false]) (iS [fA 30 5 2,lA 31 30,fA 32 5 3,lA 33 32,oA 34 .neq 31 33] 34 (rR [bA 4 false]) (rR [bA 4 true])))))))
theorem yq1 : Has Try.prog 59 35 yj8 [.t 4]:=yA none Try.func59 (by kernel_rfl)
theorem ygi : Has Try.prog 60 19 (rS [mA 4 0] (.seq (rS [iv 6 0,nA 7 6,mA 8 0] (bL 0 (rS [tA 9 8 7] (.seq (cX 9 0) (.seq (.block 1 (rS [iv 10 8,iv 5 10] (rS [iv 11 1,iv 12 0,iv 13 5,xA 14 1 12 13,lA 15 14,oA 16 .eql 11 15] (cI 16 (rR [iv 17 5,iv 4 17]))))) (.reg [pA 18 8 1,iv 8 18])))))) (rR [mA 4 (-1)]))) [.t 4]:=yA none Try.func60 (by kernel_rfl)
theorem yLa : Has Try.prog 61 38 (rS [mA 10 0] (bL 0 (xS [iv 11 10,iv 12 3,tA 13 11 12] 13 0 (.seq (.block 1 (.rege [q0 (iv 16 0),q0 (iv 17 1),q0 (iv 18 10),q0 (oA 19 .add 17 18),q3 (iv 20 0),q3 (iv 21 2),q3 (iv 22 10),q3 (oA 23 .add 21 22),q0 (iv 24 0),q0 (iv 25 2),q0 (iv 26 10),q0 (oA 27 .add 25 26),q0 (xA 28 1 24 27),q0 (lA 29 28),q0 (iv 30 0),q0 (iv 31 1),q0 (iv 32 10),q0 (oA 33 .add 31 32),q0 (xA 34 1 30 33),q0 (lA 35 34),q0 (xA 36 1 16 19),q4 2 false [4,5,6,7] (tS 36 29),q0 (xA 37 1 20 23),q2 (tS 37 35)])) (.reg [iv 14 10,pA 15 14 1,iv 10 15]))))) []:=yA none Try.func61 (by kernel_rfl)
theorem yLj : Has Try.prog 4 74 (rS [bA 4 false] (rS [mA 5 1048576] (rS [iv 13 0,iv 14 5,c2 15 5 13 14,iv 5 15] (iS [iv 16 5,oI 17 .lss 16 0] 17 (rR [bA 4 true]) (rS [iv 18 0,c1 19 7 18,iv 20 1,c2 21 11 19 20,iv 6 21] (rS [iv 22 0,c1 23 7 22,iv 7 23] (rS [iv 24 7,iv 25 1,c2 26 12 24 25,iv 8 26] (iS [iv 27 8,iv 28 6,c2 29 13 27 28,nN 30 29] 30 (rR [bA 4 false]) (iS [iv 31 7,iv 32 0,c1 33 7 32,c2 34 10 31 33,nN 35 34] 35 (rR [bA 4 false]) (rS [mA 9 1] (rS [iv 36 7,iv 37 9,c2 38 14 36 37,iv 9 38] (iS [iv 39 9,oI 40 .lss 39 0,iv 41 40,g8 41 false 42 8,g8 41 false 43 6,ig 41 false 44 (.call 13 [.t 42,.t 43]),g9 41 false 45 44,pT 46 41 45] 46 (rR [bA 4 false]) (rS [mA 10 1] (rS [iv 47 8,iv 48 10,c2 49 15 47 48,iv 10 49] (rS [mA 11 1] (rS [iv 50 8,iv 51 11,c2 52 16 50 51,iv 11 52] (iS [iv 53 11,oI 54 .lss 53 0] 54 (rR [bA 4 false]) (iS [iv 55 11,iv 56 10,oA 57 .neq 55 56] 57 (rR [bA 4 false]) (rS [iv 58 0,c1 59 7 58,iv 60 1,c2 61 12 59 60,iv 12 61] (iS [iv 62 12,iv 63 6,c2 64 13 62 63,nN 65 64] 65 (rR [bA 4 false]) (rS [mA 11 1] (rS [iv 66 8,iv 67 11,c2 68 16 66 67,iv 11 68] (iS [iv 69 11,oI 70 .lss 69 0] 70 (rR [bA 4 false]) (iS [iv 71 11,iv 72 10,oA 73 .neq 71 72] 73 (rR [bA 4 false]) (rR [bA 4 true]))))))))))))))))))))))))) [.t 4]:=yA none Try.func4 (by kernel_rfl)
theorem yqx : Has Try.prog 13 26 (rS [bA 4 false] (iS [iv 6 0,nA 7 6,iv 8 1,nA 9 8,oA 10 .neq 7 9] 10 (rR [bA 4 false]) (.seq (rS [mA 5 0] (bL 0 (xS [iv 11 5,iv 12 0,nA 13 12,tA 14 11 13] 14 0 (.seq (.block 1 (rQ [iv 17 0,iv 18 5,xA 19 1 17 18,lA 20 19,iv 21 1,iv 22 5,xA 23 1 21 22,lA 24 23,oA 25 .neq 20 24] (cI 25 (rR [bA 4 false])))) (.reg [iv 15 5,pA 16 15 1,iv 5 16]))))) (rR [bA 4 true])))) [.t 4]:=yA none Try.func13 (by kernel_rfl)
def yeP : SC:=rS [mA 4 0] (.seq (rS [mA 5 0] (bL 0 (xS [iv 6 5,iv 7 0,nA 8 7,tA 9 6 8] 9 0 (.seq (.block 1 (rS [iv 12 0,iv 13 5,iv 14 1,oI 15 .rem 14 3,oI 16 .eql 15 0,xA 17 4 12 13,fA 18 0 17,fA 19 0 18,tS 19 16] (rS [iv 20 1,pA 21 20 1,iv 1 21] (rS [iv 22 0,iv 23 5,xA 24 4 22 23,fA 25 0 24,fA 26 1 25,lA 27 26,iv 28 1,c2 29 28 27 28,iv 1 29] (rS [iv 30 0,iv 31 5,iv 32 1,xA 33 4 30 31,fA 34 2 33,tS 34 32] (rS [iv 35 1,pA 36 35 1,iv 1 36] (rS [iv 37 0,iv 38 5,iv 39 1,xA 40 4 37 38,fA 41 3 40,tS 41 39] (.reg [iv 42 1,pA 43 42 1,iv 1 43])))))))) (.reg [iv 10 5,pA 11 10 1,iv 5 11]))))) (rR [iv 44 1,iv 4 44]))
theorem yhe : Has Try.prog 14 45 yeP [.t 4]:=yA none Try.func14 (by kernel_rfl)
def yfw : SC:=rS [mA 4 0] (.seq (rS [mA 5 0] (bL 0 (xS [iv 6 5,iv 7 0,nA 8 7,tA 9 6 8] 9 0 (.seq (.block 1 (rS [iv 12 0,iv 13 5,iv 14 1,xA 15 1 12 13,tS 15 14] (.reg [iv 16 1,pA 17 16 1,iv 1 17]))) (.reg [iv 10 5,pA 11 10 1,iv 5 11]))))) (rR [iv 18 1,iv 4 18]))
theorem yiA : Has Try.prog 15 19 yfw [.t 4]:=yA none Try.func15 (by kernel_rfl)
theorem yno : Has Try.prog 16 21 (rS [mA 4 0] (.seq (rS [mA 5 0] (bL 0 (xS [iv 6 5,iv 7 0,nA 8 7,tA 9 6 8] 9 0 (.seq (.block 1 (iS [iv 12 0,iv 13 5,xA 14 1 12 13,lA 15 14,iv 16 1,oA 17 .neq 15 16] 17 (rR [mA 4 (-1)]) (.reg [iv 18 1,pA 19 18 1,iv 1 19]))) (.reg [iv 10 5,pA 11 10 1,iv 5 11]))))) (rR [iv 20 1,iv 4 20]))) [.t 4]:=yA none Try.func16 (by kernel_rfl)
def yem : SC:=rS [mA 4 0] (.seq (rS [mA 5 0] (bL 0 (xS [iv 6 5,iv 7 0,nA 8 7,tA 9 6 8] 9 0 (.seq (.block 1 (.reg [iv 12 0,iv 13 5,xA 14 1 12 13,lA 15 14,iv 16 1,c2 17 41 15 16,iv 1 17])) (.reg [iv 10 5,pA 11 10 1,iv 5 11]))))) (rR [iv 18 1,iv 4 18]))
theorem ygG : Has Try.prog 28 19 yem [.t 4]:=yA none Try.func28 (by kernel_rfl)
def yeO : SC:=rS [mA 4 0] (.seq (rS [mA 5 0] (bL 0 (xS [iv 6 5,iv 7 0,nA 8 7,tA 9 6 8] 9 0 (.seq (.block 1 (rS [iv 12 0,iv 13 5,iv 14 1,xA 15 6 12 13,fA 16 0 15,tS 16 14] (rS [iv 17 1,pA 18 17 1,iv 1 18] (rS [iv 19 0,iv 20 5,iv 21 1,xA 22 6 19 20,fA 23 1 22,tS 23 21] (rS [iv 24 1,pA 25 24 1,iv 1 25] (rS [iv 26 0,iv 27 5,iv 28 1,xA 29 6 26 27,fA 30 2 29,tS 30 28] (rS [iv 31 1,pA 32 31 1,iv 1 32] (rS [iv 33 0,iv 34 5,iv 35 1,xA 36 6 33 34,fA 37 3 36,tS 37 35] (rS [iv 38 1,pA 39 38 1,iv 1 39] (rS [iv 40 0,iv 41 5,iv 42 1,xA 43 6 40 41,fA 44 4 43,tS 44 42] (rS [iv 45 1,pA 46 45 1,iv 1 46] (rS [iv 47 0,iv 48 5,iv 49 1,xA 50 6 47 48,fA 51 5 50,tS 51 49] (.reg [iv 52 1,pA 53 52 1,iv 1 53]))))))))))))) (.reg [iv 10 5,pA 11 10 1,iv 5 11]))))) (rR [iv 54 1,iv 4 54]))
theorem yhb : Has Try.prog 41 55 yeO [.t 4]:=yA none Try.func41 (by kernel_rfl)
def inRange (n a b : Int) : Bool:=decide (a ≤ n) && decide (n ≤ b)
theorem yC (n a b : Int) : yB Try.prog 32 [.c (.i n),.c (.i a),.c (.i b)] (.c (.b (inRange n a b))):=by
 refine yh yot ?_
 simp -dsimp -implicitDefEqProofs [yi1,inRange]
 exact ⟨fun h=>by simp [h],fun h=>by simp [Int.not_le.2 h]⟩
theorem yD (n a b : Int) : yB Try.prog 30 [.c (.i n),.c (.i a),.c (.i b)] (.c (.b (inRange n a b))):=by
 refine yh ysx ?_
 simp -dsimp -implicitDefEqProofs [ylw,inRange]
 exact ⟨fun h=>by simp [h],fun h=>by simp [Int.not_le.2 h]⟩
structure Entry where
 From : Int
 To : Int
 Amount : Int
 Time : Int
 Why : Int
 deriving Inhabited,DecidableEq
@[simp] def Entry.enc (e : Entry) : List C:=[.i e.From,.i e.To,.i e.Amount,.i e.Time,.i e.Why]
theorem yL {α : Type} {p : α → Bool} {l : List α} {k : Nat} {e : α} (he : l[k]? = some e) (h : ∀ x ∈ l.take k,p x = true) (hp : p e = true) : ∀ x ∈ l.take (k + 1),p x = true:=by
 intro x hx
 rw [List.take_succ_eq_append_getElem (List.getElem?_eq_some_iff.1 he).1] at hx
 rcases List.mem_append.1 hx with h1 | h1
 ·exact h x h1
 ·rw [List.mem_singleton] at h1
  have:=(List.getElem?_eq_some_iff.1 he).2
  rw [h1,this]; exact hp
theorem yX {α : Type} {p : α → Bool} {l : List α} {k : Nat} (hk : l.length ≤ k) (h : ∀ x ∈ l.take k,p x = true) : l.all p = true:=by
 rw [List.take_of_length_le hk] at h
 exact List.all_eq_true.2 h
theorem all_false {α : Type} {p : α → Bool} {l : List α} {k : Nat} {e : α} (he : l[k]? = some e) (hp : p e = false) : l.all p = false:=by
 rw [List.all_eq_false]
 exact ⟨e,List.mem_of_getElem? he,by simp [hp]⟩
theorem yG {k n : Nat} (h : k < n) : ((k : Int) < (n : Int)) = True:=by simp [h]
theorem yaB {k n : Nat} (h : n ≤ k) : ((k : Int) < (n : Int)) = False:=by simp [h]
structure Way where
 Long : Int
 Bed : Int
 deriving DecidableEq,Inhabited
@[simp] def Way.enc (e : Way) : List C:=[.i e.Long,.i e.Bed]
def partly {α : Type} (f : α → List C) (z : List C) (es : List α) (k : Nat) : List (List C):=(es.take k).map f ++ List.replicate (es.length - k) z
theorem yak {α : Type} {f : α → List C} {z : List C} {es : List α} {k : Nat} (h : k ≤ es.length) : (partly f z es k).length = es.length:=by
 simp [partly]; omega
theorem yab {α : Type} {f : α → List C} {z : List C} {es : List α} : partly f z es 0 = List.replicate es.length z:=by simp [partly]
theorem yam {α : Type} {f : α → List C} {z : List C} {es : List α} {k : Nat} (h : es.length ≤ k) : partly f z es k = es.map f:=by
 simp [partly,List.take_of_length_le h,Nat.sub_eq_zero_of_le h]
theorem yaj {α : Type} {f : α → List C} {z : List C} {es : List α} {k : Nat} {e : α} (h : es[k]? = some e) : (partly f z es k).set k (f e) = partly f z es (k + 1):=by
 have hk:=(List.getElem?_eq_some_iff.1 h).1
 have he:=(List.getElem?_eq_some_iff.1 h).2
 unfold partly
 rw [List.set_append_right _ _ (by simp; omega)]
 have h1 : ((es.take k).map f).length = k:=by simp; omega
 rw [h1,Nat.sub_self,show es.length - k = (es.length - (k + 1)) + 1 by omega,List.replicate_succ,List.set_cons_zero,List.take_succ_eq_append_getElem hk,he]
 simp
theorem ydK {α : Type} {f : α → List C} {z : List C} {es : List α} {k n : Nat} (hz : z.length = n) (hf : ∀ e,(f e).length = n) (h : k < es.length) : ((partly f z es k)[k]?.getD []).length = n:=by
 unfold partly
 rw [List.getElem?_append_right (by simp; omega)]
 have h1 : ((es.take k).map f).length = k:=by simp; omega
 rw [h1,Nat.sub_self,List.getElem?_replicate,if_pos (by omega)]
 exact hz
theorem yav {α : Type} {f : α → List C} {z : List C} {es : List α} {k n : Nat} (hz : z.length = n) (h : k < es.length) : ((partly f z es k)[k]?.getD []).drop n = []:=by
 apply List.drop_eq_nil_of_le
 unfold partly
 rw [List.getElem?_append_right (by simp; omega)]
 have h1 : ((es.take k).map f).length = k:=by simp; omega
 rw [h1,Nat.sub_self,List.getElem?_replicate,if_pos (by omega)]
 simp [hz]
theorem yw {k n : Nat} (hk : k < n) (h : n ≤ maxLen) : inI ((k : Int) + 1):=by unfold maxLen at h; unfold inI; omega
def szS (n : Nat) (left : Int) : Int:=if left - n < 0 then -1 else left - n
theorem yaR {α : Type} {l m : List α} {k : Nat} {e f : α} (he : l[k]? = some e) (hf : m[k]? = some f) (h : l.take k = m.take k) (hef : e = f) : l.take (k + 1) = m.take (k + 1):=by
 rw [List.take_succ,List.take_succ,he,hf,h,hef]
theorem ybG {α : Type} {l m : List α} {k : Nat} {e f : α} (he : l[k]? = some e) (hf : m[k]? = some f) (hef : e ≠ f) : l ≠ m:=by
 rintro rfl
 rw [he] at hf
 exact hef (Option.some.inj hf)
theorem ybf {α : Type} {l m : List α} {k : Nat} (hl : l.length ≤ k) (hm : l.length = m.length) (h : l.take k = m.take k) : l = m:=by
 rwa [List.take_of_length_le hl,List.take_of_length_le (by omega)] at h
abbrev yJ (n : Int) : List C:=[.i n]
theorem ykZ (es fs : List Int) : yB Try.prog 13 [.c (.sl 1 (es.map yJ)),.c (.sl 1 (fs.map yJ))] (.c (.b (decide (es = fs)))):=by
 refine yh yqx ?_
 simp -dsimp -implicitDefEqProofs
 intro hl1 hl2
 refine ⟨fun h e=>h (by rw [e]),fun hlen=>?_⟩
 have hlen' : es.length = fs.length:=by omega
 refine yg (ι:=Nat) (fun k=>k ≤ es.length ∧ es.take k = fs.take k) (fun k=>yO [(0,.c (.sl 1 (es.map yJ))),(1,.c (.sl 1 (fs.map yJ))),(5,.c (.i k))] []) (fun k=>es.length - k) 0 (by simp) (by apply yj <;> simp) ?_
 rintro k ⟨hk,htk⟩
 rcases Nat.lt_or_ge k es.length with hlt | hge
 ·obtain ⟨e,he⟩ : ∃ e,es[k]? = some e:=⟨_,List.getElem?_eq_getElem hlt⟩
  obtain ⟨f,hf⟩ : ∃ f,fs[k]? = some f:=⟨_,List.getElem?_eq_getElem (by omega)⟩
  simp -dsimp -implicitDefEqProofs [he,hf,yG hlt,yG (hlen' ▸ hlt)]
  intro _
  refine ⟨fun h=>ybG he hf h,fun h=>⟨yw hlt hl1,k + 1,⟨hlt,yaR he hf htk h⟩,by omega,by apply yj <;> simp⟩⟩
 ·simp -dsimp -implicitDefEqProofs [yaB hge]
  intro _
  exact ybf hge hlen' htk
structure Tariff where
 Base : Int
 PerArea : Int
 PerClass : List Int
 Weights : List Int
 deriving DecidableEq
@[simp] def Tariff.enc (t : Tariff) : List C:=[.i t.Base,.i t.PerArea,.sl 1 (t.PerClass.map yJ),.sl 1 (t.Weights.map yJ)]
def Tariff.small (t : Tariff) : Prop:=t.PerClass.length ≤ 1048576 ∧ t.Weights.length ≤ 1048576
theorem yF {n a b : Int} : inRange n a b = true ↔ a ≤ n ∧ n ≤ b:=by simp [inRange]
theorem ycG {n a b : Int} : inRange n a b = false ↔ n < a ∨ b < n:=by
 simp only [inRange,Bool.and_eq_false_iff,decide_eq_false_iff_not]; omega
def ybm (a : Int) (f : Int → Int) : Int:=if a < 0 then -1 else f a
def yaw {α : Type} (f : α → Int → Int) : List α → Int → Int
 | [],l=>l
 | x :: xs,l=>ybm (f x l) (yaw f xs)
def yeE {α : Type} (f : α → Int → Int) (xs : List α) (l : Int) : Int:=ybm (szS xs.length l) (yaw f xs)
def yey {α : Type} (f : α → Int → Int) (sm : α → Prop) : Prop:=∀ x l,0 ≤ l → l ≤ 1048576 → f x l = -1 ∨ (0 ≤ f x l ∧ f x l ≤ l ∧ sm x)
def ycs {α : Type} (sm : α → Prop) (xs : List α) : Prop:=xs.length ≤ 1048576 ∧ ∀ x ∈ xs,sm x
theorem yK {a : Int} {f : Int → Int} (h : a < 0) : ybm a f = -1:=by simp [ybm,h]
theorem yu {a : Int} {f : Int → Int} (h : 0 ≤ a) : ybm a f = f a:=by simp [ybm,Int.not_lt.2 h]
theorem yhU {α : Type} : yey (fun (xs : List α) l=>szS xs.length l) (ycs fun _ : α=>True):=by
 intro xs l h0 h1
 simp only [szS]
 unfold ycs
 split
 ·exact .inl rfl
 ·exact .inr ⟨by omega,by omega,by omega,fun _ _=>trivial⟩
theorem yzy {α : Type} {f : α → Int → Int} {sm : α → Prop} (h : yey f sm) {x : α} {l : Int} (h0 : 0 ≤ l) (h1 : l ≤ 1048576) (hp : 0 ≤ f x l) : sm x:=by
 rcases h x l h0 h1 with e | ⟨_,_,e⟩
 ·omega
 ·exact e
theorem yrK {α : Type} {f : α → Int → Int} {sm : α → Prop} (h : yey f sm) : ∀ (xs : List α) (l : Int),0 ≤ l → l ≤ 1048576 → yaw f xs l = -1 ∨ (0 ≤ yaw f xs l ∧ yaw f xs l ≤ l ∧ ∀ x ∈ xs,sm x)
 | [],l,h0,h1=>.inr ⟨h0,Int.le_refl _,by simp⟩
 | x :: xs,l,h0,h1=>by
  simp only [yaw]
  rcases h x l h0 h1 with e | ⟨e1,e2,e3⟩
  ·exact .inl (yK (by omega))
  ·rw [yu e1]
   rcases yrK h xs (f x l) e1 (by omega) with e | ⟨e4,e5,e6⟩
   ·exact .inl e
   ·exact .inr ⟨e4,by omega,by simp; exact ⟨e3,e6⟩⟩
theorem ygj {α : Type} {f : α → Int → Int} {sm : α → Prop} (h : yey f sm) : yey (yeE f) (ycs sm):=by
 intro xs l h0 h1
 unfold yeE
 rcases yhU xs l h0 h1 with e | ⟨e1,e2,e3⟩
 ·exact .inl (yK (by simp only at e; omega))
 ·simp only at e1 e2
  rw [yu e1]
  rcases yrK h xs _ e1 (by omega) with e | ⟨e4,e5,e6⟩
  ·exact .inl e
  ·exact .inr ⟨e4,by omega,e3.1,e6⟩
structure Boat where
 Id : Int
 Length : Int
 Width : Int
 Draught : Int
 Speed : Int
 Class : Int
 deriving DecidableEq,Inhabited
@[simp] def Boat.enc (e : Boat) : List C:=[.i e.Id,.i e.Length,.i e.Width,.i e.Draught,.i e.Speed,.i e.Class]
-- Boat
theorem yud (e : Boat) : yB Try.prog 58 [.agg (e.enc.map .c)] (.agg (e.enc.map .c)):=by
 refine yh yq9 ?_
 simp -dsimp -implicitDefEqProofs
theorem yyR (a b : Boat) : yB Try.prog 59 [.agg (a.enc.map .c),.agg (b.enc.map .c)] (.c (.b (decide (a = b)))):=by
 refine yh yq1 ?_
 obtain ⟨a0,a1,a2,a3,a4,a5⟩:=a
 obtain ⟨b0,b1,b2,b3,b4,b5⟩:=b
 simp -dsimp -implicitDefEqProofs [yj8,Boat.mk.injEq]
 refine ⟨fun h=>by simp_all,fun h0=>?_⟩
 refine ⟨fun h=>by simp_all,fun h1=>?_⟩
 refine ⟨fun h=>by simp_all,fun h2=>?_⟩
 refine ⟨fun h=>by simp_all,fun h3=>?_⟩
 refine ⟨fun h=>by simp_all,fun h4=>?_⟩
 refine ⟨fun h=>by simp_all,fun h5=>?_⟩
 simp_all
-- []Boat
def yex (xs : List Boat) (l : Int) : Int:=szS xs.length l
def ygC : List Boat → Prop:=ycs fun _=>True
theorem ymH : yey yex ygC:=yhU
theorem yvS (xs : List Boat) (l : Int) (h0 : 0 ≤ l) (h1 : l ≤ 1048576) : yB Try.prog 51 [.c (.sl 6 (xs.map Boat.enc)),.c (.i l)] (.c (.i (yex xs l))):=by
 refine yh yoU ?_
 simp -dsimp -implicitDefEqProofs [yi3,yex,szS]
 intro hl
 unfold maxLen at hl
 refine ⟨by unfold inI; omega,fun h=>?_,fun h=>?_⟩ <;> intros <;> omega
theorem yxQ (xs : List Boat) (hl : ygC xs) : yB Try.prog 52 [.c (.sl 6 (xs.map Boat.enc))] (.c (.sl 6 (xs.map Boat.enc))):=by
 refine yh yiM ?_
 simp -dsimp -implicitDefEqProofs
 intro hlen
 have hl1:=hl.1
 refine ⟨by omega,?_⟩
 refine yg (ι:=Nat) (fun k=>k ≤ xs.length) (fun k=>yO [(0,.c (.sl 6 (xs.map Boat.enc))),(3,.own 7 6 xs.length),(4,.c (.i k))] [(7,.row 6 (partly Boat.enc [.i 0,.i 0,.i 0,.i 0,.i 0,.i 0] xs k))]) (fun k=>xs.length - k) 0 (by simp) (by apply yj <;> simp [yab]) ?_
 rintro k hk
 rcases Nat.lt_or_ge k xs.length with hlt | hge
 ·obtain ⟨e,he⟩ : ∃ e,xs[k]? = some e:=⟨_,List.getElem?_eq_getElem hlt⟩
  have hs:=yaj (f:=Boat.enc) (z:=[.i 0,.i 0,.i 0,.i 0,.i 0,.i 0]) he
  have hd:=yav (f:=Boat.enc) (z:=[.i 0,.i 0,.i 0,.i 0,.i 0,.i 0]) (n:=6) rfl hlt
  simp only [Boat.enc] at hs
  simp -dsimp -implicitDefEqProofs [he,yG hlt]
  refine fun _=>yaP (yud e ) (by simp) rfl ?_
  simp -dsimp -implicitDefEqProofs [yG hlt,yak hk,hd,hs]
  exact ⟨hlt,yw hlt hlen,k + 1,hlt,by omega,by apply yj <;> simp⟩
 ·simp -dsimp -implicitDefEqProofs [yaB hge]
  intro _
  rw [yam hge,List.take_of_length_le (by simp)]
theorem yxD (es fs : List Boat) : yB Try.prog 53 [.c (.sl 6 (es.map Boat.enc)),.c (.sl 6 (fs.map Boat.enc))] (.c (.b (decide (es = fs)))):=by
 refine yh yoL ?_
 simp -dsimp -implicitDefEqProofs
 intro hl1 hl2
 refine ⟨fun h e=>h (by rw [e]),fun hlen=>?_⟩
 have hlen' : es.length = fs.length:=by omega
 refine yg (ι:=Nat) (fun k=>k ≤ es.length ∧ es.take k = fs.take k) (fun k=>yO [(0,.c (.sl 6 (es.map Boat.enc))),(1,.c (.sl 6 (fs.map Boat.enc))),(5,.c (.i k))] []) (fun k=>es.length - k) 0 (by simp) (by apply yj <;> simp) ?_
 rintro k ⟨hk,htk⟩
 rcases Nat.lt_or_ge k es.length with hlt | hge
 ·obtain ⟨e,he⟩ : ∃ e,es[k]? = some e:=⟨_,List.getElem?_eq_getElem hlt⟩
  obtain ⟨f,hf⟩ : ∃ f,fs[k]? = some f:=⟨_,List.getElem?_eq_getElem (by omega)⟩
  simp -dsimp -implicitDefEqProofs [he,hf,yG hlt,yG (hlen' ▸ hlt)]
  intro _
  refine yaC (yyR e f) ?_
  simp -dsimp -implicitDefEqProofs
  refine ⟨fun h=>ybG he hf h,fun h=>⟨yw hlt hl1,k + 1,⟨hlt,yaR he hf htk h⟩,by omega,by apply yj <;> simp⟩⟩
 ·simp -dsimp -implicitDefEqProofs [yaB hge]
  intro _
  exact ybf hge hlen' htk
abbrev yai (xs : List Boat) : List C:=[.sl 6 (xs.map Boat.enc)]
-- [][]Boat
def yeb : List (List Boat) → Int → Int:=yeE yex
def yej : List (List Boat) → Prop:=ycs ygC
theorem ysL : yey yeb yej:=ygj ymH
theorem yt7 (xs : List (List Boat)) (l : Int) (h0 : 0 ≤ l) (h1 : l ≤ 1048576) : yB Try.prog 42 [.c (.sl 1 (xs.map yai)),.c (.i l)] (.c (.i (yeb xs l))):=by
 refine yh ynp ?_
 simp -dsimp -implicitDefEqProofs
 intro hl
 have hs : szS xs.length l = if l - xs.length < 0 then -1 else l - xs.length:=rfl
 refine ⟨by unfold maxLen at hl; unfold inI; omega,fun h=>?_,fun h=>?_⟩
 ·simp [yeb,yeE,ybm,hs,h]
 have h' : 0 ≤ l - xs.length:=by omega
 have e0 : yeb xs l = yaw yex xs (l - xs.length):=by
  have : szS xs.length l = l - xs.length:=by rw [hs,if_neg (by omega)]
  simp only [yeb,yeE]
  rw [this,yu h']
 refine yg (ι:=Nat × Int) (fun p=>p.1 ≤ xs.length ∧ 0 ≤ p.2 ∧ p.2 ≤ 1048576 ∧ yaw yex (xs.drop p.1) p.2 = yeb xs l) (fun p=>yO [(0,.c (.sl 1 (xs.map yai))),(1,.c (.i p.2)),(5,.c (.i p.1))] []) (fun p=>xs.length - p.1) (0,l - xs.length) ⟨by simp,h',by simp only; omega,by simp [e0]⟩ (by apply yj <;> simp) ?_
 rintro ⟨k,q⟩ ⟨hk,hq0,hq1,hf⟩
 simp only at hk hq0 hq1 hf
 rcases Nat.lt_or_ge k xs.length with hlt | hge
 ·obtain ⟨e,he⟩ : ∃ e,xs[k]? = some e:=⟨_,List.getElem?_eq_getElem hlt⟩
  have hd : xs.drop k = e :: xs.drop (k + 1):=by
   rw [List.drop_eq_getElem_cons hlt,(List.getElem?_eq_some_iff.1 he).2]
  rw [hd,yaw] at hf
  simp -dsimp -implicitDefEqProofs [he,yG hlt]
  refine fun _=>yaQ (yvS e q hq0 hq1) (by simp) rfl ?_
  simp -dsimp -implicitDefEqProofs
  refine ⟨fun h=>by rw [← hf,yK h],fun h=>⟨yw hlt hl,k + 1,⟨yex e q,?_⟩⟩⟩
  rw [yu h] at hf
  have hle : yex e q ≤ 1048576:=by
   rcases ymH e q hq0 hq1 with e1 | e1
   ·omega
   ·omega
  exact ⟨⟨hlt,h,hle,hf⟩,by omega,by apply yj <;> simp⟩
 ·simp -dsimp -implicitDefEqProofs [yaB hge]
  rw [List.drop_of_length_le hge] at hf
  intro _
  first | simpa [yaw] using hf | simpa [yaw] using hf.symm
theorem ywr (xs : List (List Boat)) (hl : yej xs) : yB Try.prog 43 [.c (.sl 1 (xs.map yai))] (.c (.sl 1 (xs.map yai))):=by
 refine yh yim ?_
 simp -dsimp -implicitDefEqProofs
 intro hlen
 have hl1:=hl.1
 refine ⟨by omega,?_⟩
 refine yg (ι:=Nat) (fun k=>k ≤ xs.length) (fun k=>yO [(0,.c (.sl 1 (xs.map yai))),(3,.own 7 1 xs.length),(4,.c (.i k))] [(7,.row 1 (partly yai [.sl 6 []] xs k))]) (fun k=>xs.length - k) 0 (by simp) (by apply yj <;> simp [yab]) ?_
 rintro k hk
 rcases Nat.lt_or_ge k xs.length with hlt | hge
 ·obtain ⟨e,he⟩ : ∃ e,xs[k]? = some e:=⟨_,List.getElem?_eq_getElem hlt⟩
  have hs:=yaj (f:=yai) (z:=[.sl 6 []]) he
  have hd : ((partly yai [.sl 6 []] xs k)[k]?.getD []).set 0 (.sl 6 (e.map Boat.enc)) = [.sl 6 (e.map Boat.enc)]:=by
   have:=ydK (f:=yai) (z:=[.sl 6 []]) (n:=1) rfl (fun _=>rfl) hlt
   obtain ⟨x,hx⟩:=List.length_eq_one_iff.1 this
   rw [hx]; rfl
  have hs2 : (partly yai [.sl 6 []] xs k).set k [.sl 6 (e.map Boat.enc)] = partly yai [.sl 6 []] xs (k + 1):=hs
  simp -dsimp -implicitDefEqProofs [he,yG hlt]
  refine fun _=>yaP (yxQ e (hl.2 e (List.mem_of_getElem? he))) (by simp) rfl ?_
  simp -dsimp -implicitDefEqProofs [yG hlt,yak hk,hd,hs2]
  exact ⟨hlt,yw hlt hlen,k + 1,hlt,by omega,by apply yj <;> simp⟩
 ·simp -dsimp -implicitDefEqProofs [yaB hge]
  intro _
  rw [yam hge,List.take_of_length_le (by simp)]
theorem yvt (es fs : List (List Boat)) : yB Try.prog 44 [.c (.sl 1 (es.map yai)),.c (.sl 1 (fs.map yai))] (.c (.b (decide (es = fs)))):=by
 refine yh ync ?_
 simp -dsimp -implicitDefEqProofs
 intro hl1 hl2
 refine ⟨fun h e=>h (by rw [e]),fun hlen=>?_⟩
 have hlen' : es.length = fs.length:=by omega
 refine yg (ι:=Nat) (fun k=>k ≤ es.length ∧ es.take k = fs.take k) (fun k=>yO [(0,.c (.sl 1 (es.map yai))),(1,.c (.sl 1 (fs.map yai))),(5,.c (.i k))] []) (fun k=>es.length - k) 0 (by simp) (by apply yj <;> simp) ?_
 rintro k ⟨hk,htk⟩
 rcases Nat.lt_or_ge k es.length with hlt | hge
 ·obtain ⟨e,he⟩ : ∃ e,es[k]? = some e:=⟨_,List.getElem?_eq_getElem hlt⟩
  obtain ⟨f,hf⟩ : ∃ f,fs[k]? = some f:=⟨_,List.getElem?_eq_getElem (by omega)⟩
  simp -dsimp -implicitDefEqProofs [he,hf,yG hlt,yG (hlen' ▸ hlt)]
  intro _
  refine yaC (yxD e f) ?_
  simp -dsimp -implicitDefEqProofs
  refine ⟨fun h=>ybG he hf h,fun h=>⟨yw hlt hl1,k + 1,⟨hlt,yaR he hf htk h⟩,by omega,by apply yj <;> simp⟩⟩
 ·simp -dsimp -implicitDefEqProofs [yaB hge]
  intro _
  exact ybf hge hlen' htk
structure Train where
 Up : Bool
 Rows : List (List Boat)
 deriving DecidableEq,Inhabited
@[simp] def Train.enc (e : Train) : List C:=[.b e.Up,.sl 1 (e.Rows.map yai)]
-- Train
def yb2 (e : Train) (l : Int) : Int:=ybm (yeb e.Rows l) fun l=>l
def Train.small (e : Train) : Prop:=yej e.Rows
theorem ye7 : yey yb2 Train.small:=by
 intro e l h0 h1
 unfold yb2
 rcases ysL e.Rows _ h0 h1 with e0 | ⟨a0,b0,s0⟩
 ·exact .inl (yK (by omega))
 rw [yu a0]
 exact .inr ⟨a0,by omega,s0⟩
theorem yhF (e : Train) (l : Int) (h0 : 0 ≤ l) (h1 : l ≤ 1048576) : yB Try.prog 29 [.agg (e.enc.map .c),.c (.i l)] (.c (.i (yb2 e l))):=by
 refine yh ypX ?_
 simp -dsimp -implicitDefEqProofs
 refine yc (yt7 e.Rows _ h0 h1) ?_
 simp -dsimp -implicitDefEqProofs
 refine ⟨fun h=>by simp [yb2,yK h],fun p0=>?_⟩
 simp [yb2,yu p0]
theorem yjt (e : Train) (hl : Train.small e) : yB Try.prog 31 [.agg (e.enc.map .c)] (.agg (e.enc.map .c)):=by
 refine yh yiU ?_
 simp -dsimp -implicitDefEqProofs
 refine yS (ywr e.Rows hl) ?_
 simp -dsimp -implicitDefEqProofs
theorem yjG (a b : Train) : yB Try.prog 33 [.agg (a.enc.map .c),.agg (b.enc.map .c)] (.c (.b (decide (a = b)))):=by
 refine yh yoZ ?_
 obtain ⟨a0,a1⟩:=a
 obtain ⟨b0,b1⟩:=b
 simp -dsimp -implicitDefEqProofs [yiE,Train.mk.injEq]
 refine ⟨fun h=>by simp_all,fun h0=>?_⟩
 refine yc (yvt a1 b1) ?_
 simp -dsimp -implicitDefEqProofs
 refine ⟨fun h=>by simp_all,fun h1=>?_⟩
 simp_all
structure Mover where
 Train : Train
 Place : Int
 deriving DecidableEq,Inhabited
@[simp] def Mover.enc (e : Mover) : List C:=[.b e.Train.Up,.sl 1 (e.Train.Rows.map yai),.i e.Place]
-- Mover
def Mover.small (e : Mover) : Prop:=e.Train.small
theorem yvh {α : Type} {B : Nat} : ∀ {l : List (List α)},(∀ r ∈ l,r.length ≤ B) → l.flatten.length ≤ l.length * B
 | [],_=>by simp
 | r :: l,h=>by
  have h1:=yvh (l:=l) fun x hx=>h x (by simp [hx])
  have h2:=h r (by simp)
  simp only [List.flatten_cons,List.length_append,List.length_cons,Nat.add_mul,Nat.one_mul]
  omega
def heads {α : Type} (l : List (List α)) (k : Nat) : List α:=(l.take k).flatten
theorem yeU {α : Type} {l : List (List α)} : heads l 0 = []:=rfl
theorem yhH {α : Type} {l : List (List α)} {k : Nat} {r : List α} (h : l[k]? = some r) : heads l (k + 1) = heads l k ++ r:=by
 unfold heads; rw [List.take_succ,h]; simp
theorem yjI {α : Type} {l : List (List α)} {k : Nat} (h : l.length ≤ k) : heads l k = l.flatten:=by
 unfold heads; rw [List.take_of_length_le h]
theorem yi0 {α : Type} {l : List (List α)} (h : ycs (ycs fun _ : α=>True) l) (k : Nat) : (heads l k).length ≤ 1099511627776:=by
 have h1:=yvh (l:=l.take k) (B:=1048576) fun r hr=>(h.2 r (List.mem_of_mem_take hr)).1
 have h2:=h.1
 have h3 : (l.take k).length ≤ 1048576:=by simp; omega
 have h4:=Nat.mul_le_mul_right 1048576 h3
 unfold heads
 omega
def Train.yas (t : Train) : List Boat:=t.Rows.flatten
theorem yzj {t : Train} (h : t.small) : t.yas.length ≤ 1099511627776:=by
 have:=yi0 h t.Rows.length
 rwa [yjI (Nat.le_refl _)] at this
theorem yoX (t : Train) (h : t.small) : yB Try.prog 46 [.agg (t.enc.map .c)] (.c (.sl 6 (t.yas.map Boat.enc))):=by
 refine yh ynj ?_
 simp -dsimp -implicitDefEqProofs
 refine yg (ι:=Nat) (fun k=>k ≤ t.Rows.length) (fun k=>yO [(1,.box 1 0),(3,.own 5 6 (heads t.Rows k).length),(4,.c (.i k))] [(1,.box (t.enc.map .c)),(5,.row 6 ((heads t.Rows k).map Boat.enc))]) (fun k=>t.Rows.length - k) 0 (by simp) (by apply yj <;> simp [yeU]) ?_
 rintro k hk
 rcases Nat.lt_or_ge k t.Rows.length with hlt | hge
 ·obtain ⟨r,hr⟩ : ∃ r,t.Rows[k]? = some r:=⟨_,List.getElem?_eq_getElem hlt⟩
  have hb:=yi0 h (k + 1)
  have hf:=yhH hr
  rw [hf,List.length_append] at hb
  have hm:=h.1
  simp -dsimp -implicitDefEqProofs [hr,yG hlt]
  intro hlen
  refine ⟨by omega,yw hlt hlen,k + 1,hlt,by omega,?_⟩
  apply yj <;> simp [hf]
 ·simp -dsimp -implicitDefEqProofs [yaB hge]
  rw [yjI hge]
  intro _
  rw [List.take_of_length_le (by rw [List.length_map]; exact Nat.le_refl _)]; rfl
def ybr (b : Boat) : Bool:=inRange b.Id 1 9999 && inRange b.Length 1 200 && inRange b.Width 1 30 && inRange b.Draught 1 100 && inRange b.Speed 1 50 && inRange b.Class 0 2
theorem yvm (b : Boat) : yB Try.prog 54 [.agg (b.enc.map .c)] (.c (.b (ybr b))):=by
 refine yh yrf ?_
 simp -dsimp -implicitDefEqProofs
 refine yc (yD b.Id 1 9999) ?_
 simp -dsimp -implicitDefEqProofs
 refine ⟨fun h=>?_,fun h=>by simp [ybr,h]⟩
 refine yc (yD b.Length 1 200) ?_
 simp -dsimp -implicitDefEqProofs
 refine ⟨fun h1=>?_,fun h1=>by simp [ybr,h1]⟩
 refine yc (yD b.Width 1 30) ?_
 simp -dsimp -implicitDefEqProofs
 refine ⟨fun h2=>?_,fun h1=>by simp [ybr,h1]⟩
 refine yc (yD b.Draught 1 100) ?_
 simp -dsimp -implicitDefEqProofs
 refine ⟨fun h3=>?_,fun h1=>by simp [ybr,h1]⟩
 refine yc (yD b.Speed 1 50) ?_
 simp -dsimp -implicitDefEqProofs
 refine ⟨fun h4=>?_,fun h1=>by simp [ybr,h1]⟩
 refine yc (yD b.Class 0 2) ?_
 simp -dsimp -implicitDefEqProofs
 simp [ybr,h,h1,h2,h3,h4]
theorem yuc (b : Boat) : yB Try.prog 55 [.agg (b.enc.map .c)] (.c (.b (ybr b))):=by
 refine yh yqo ?_
 simp -dsimp -implicitDefEqProofs
 refine yc (yC b.Id 1 9999) ?_
 simp -dsimp -implicitDefEqProofs
 refine ⟨fun h=>?_,fun h=>by simp [ybr,h]⟩
 refine yc (yC b.Length 1 200) ?_
 simp -dsimp -implicitDefEqProofs
 refine ⟨fun h1=>?_,fun h1=>by simp [ybr,h1]⟩
 refine yc (yC b.Width 1 30) ?_
 simp -dsimp -implicitDefEqProofs
 refine ⟨fun h2=>?_,fun h1=>by simp [ybr,h1]⟩
 refine yc (yC b.Draught 1 100) ?_
 simp -dsimp -implicitDefEqProofs
 refine ⟨fun h3=>?_,fun h1=>by simp [ybr,h1]⟩
 refine yc (yC b.Speed 1 50) ?_
 simp -dsimp -implicitDefEqProofs
 refine ⟨fun h4=>?_,fun h1=>by simp [ybr,h1]⟩
 refine yc (yC b.Class 0 2) ?_
 simp -dsimp -implicitDefEqProofs
 simp [ybr,h,h1,h2,h3,h4]
def indexOf (l : List Int) (n : Int) : Int:=match l.findIdx? (fun x=>n == x) with | some i=>i | none=>-1
theorem yph {l : List Int} {n : Int} : (0 ≤ indexOf l n) = (n ∈ l):=by
 unfold indexOf
 cases h : l.findIdx? (fun x=>n == x) with
 | none =>
  rw [List.findIdx?_eq_none_iff] at h
  show (0 ≤ (-1 : Int)) = _
  simp only [eq_iff_iff]
  refine ⟨fun h1=>by omega,fun hm=>?_⟩
  have:=h n hm
  simp at this
 | some i =>
  rw [List.findIdx?_eq_some_iff_getElem] at h
  obtain ⟨hi,h1,_⟩:=h
  simp only [eq_iff_iff]
  refine ⟨fun _=>?_,fun _=>by omega⟩
  have : n = l[i]:=by simpa using h1
  rw [this]; exact List.getElem_mem _
theorem yww {l : List Int} {n : Int} {k : Nat} (h : l[k]? = some n) (hn : ∀ x ∈ l.take k,n ≠ x) : indexOf l n = k:=by
 unfold indexOf
 have : l.findIdx? (fun x=>n == x) = some k:=by
  rw [List.findIdx?_eq_some_iff_getElem]
  obtain ⟨hk1,hk2⟩:=List.getElem?_eq_some_iff.1 h
  refine ⟨hk1,by simp [hk2],fun j hj=>?_⟩
  have:=hn (l[j]'(by omega)) (List.mem_take_iff_getElem.2 ⟨j,by omega,rfl⟩)
  simpa using this
 rw [this]
theorem yv9 {l : List Int} {n : Int} {k : Nat} (hk : l.length ≤ k) (hn : ∀ x ∈ l.take k,n ≠ x) : indexOf l n = -1:=by
 rw [List.take_of_length_le hk] at hn
 unfold indexOf
 have : l.findIdx? (fun x=>n == x) = none:=by
  rw [List.findIdx?_eq_none_iff]
  intro x hx
  simpa using hn x hx
 rw [this]
theorem yzA {l : List Int} {n x : Int} {k : Nat} (h : l[k]? = some x) (hx : n ≠ x) (hn : ∀ x ∈ l.take k,n ≠ x) : ∀ x ∈ l.take (k + 1),n ≠ x:=by
 intro y hy
 rw [List.take_succ,h] at hy
 rcases List.mem_append.1 hy with h1 | h1
 ·exact hn y h1
 ·simp at h1; rw [h1]; exact hx
theorem yBu (l : List Int) (n : Int) : yB Try.prog 60 [.c (.sl 1 (l.map yJ)),.c (.i n)] (.c (.i (indexOf l n))):=by
 refine yh ygi ?_
 simp -dsimp -implicitDefEqProofs
 intro hlen
 refine yg (ι:=Nat) (fun k=>k ≤ l.length ∧ ∀ x ∈ l.take k,n ≠ x) (fun k=>yO [(0,.c (.sl 1 (l.map yJ))),(1,.c (.i n)),(7,.c (.i l.length)),(8,.c (.i k))] []) (fun k=>l.length - k) 0 (by simp) (by apply yj <;> simp) ?_
 rintro k ⟨hk,hn⟩
 rcases Nat.lt_or_ge k l.length with hlt | hge
 ·obtain ⟨x,hx⟩ : ∃ x,l[k]? = some x:=⟨_,List.getElem?_eq_getElem hlt⟩
  simp -dsimp -implicitDefEqProofs [hx,yG hlt]
  refine ⟨fun h=>?_,fun h=>⟨yw hlt hlen,k + 1,⟨hlt,yzA hx h hn⟩,by omega,by apply yj <;> simp⟩⟩
  exact yww (h ▸ hx) hn
 ·simp -dsimp -implicitDefEqProofs [yaB hge]
  exact yv9 hge hn
theorem ypJ (l : List Int) (n : Int) : yB Try.prog 56 [.c (.sl 1 (l.map yJ)),.c (.i n)] (.c (.b (decide (n ∈ l)))):=by
 refine yh yfu ?_
 simp -dsimp -implicitDefEqProofs
 refine yc (yBu l n) ?_
 simp -dsimp -implicitDefEqProofs [yph]
def yfy (b : Boat) : Int:=b.Id
def full (r : List Boat) : Bool:=decide (r.length ≠ 0)
theorem ytQ {r : List Boat} : full r = true ↔ r.length ≠ 0:=by simp [full]
def yP (t : Train) : Bool:=t.Rows.all full && t.yas.all ybr && decide ((t.yas.map yfy).Nodup) && inRange t.yas.length 1 6
theorem ykm {l : List Boat} {k : Nat} {b : Boat} (h : l[k]? = some b) : (((l.take (k + 1)).map yfy).Nodup ↔ ((l.take k).map yfy).Nodup ∧ b.Id ∉ (l.take k).map yfy):=by
 rw [List.take_succ,h,List.map_append]
 simp only [Option.toList_some,List.map_cons,List.map_nil,List.nodup_append,List.nodup_cons,List.not_mem_nil,not_false_eq_true,List.nodup_nil,and_self,true_and,List.mem_singleton,forall_eq,yfy]
 constructor
 ·rintro ⟨h1,h2⟩; exact ⟨h1,fun hm=>h2 _ hm rfl⟩
 ·rintro ⟨h1,h2⟩; exact ⟨h1,fun x hx e=>h2 (e ▸ hx)⟩
theorem yyf {l : List Boat} {k : Nat} (h : ¬ ((l.take k).map yfy).Nodup) : ¬ (l.map yfy).Nodup:=by
 intro hn
 refine h ?_
 rw [← List.take_append_drop k l,List.map_append] at hn
 exact (List.nodup_append.1 hn).1
def yry (l : List Boat) (k : Nat) : List Int:=(l.take k).map yfy
theorem yds (t : Train) (h : t.small) : yB Try.prog 45 [.agg (t.enc.map .c)] (.c (.b (yP t))):=by
 refine yh yoi ?_
 simp -dsimp -implicitDefEqProofs
 refine yS (yoX t h) ?_
 simp -dsimp -implicitDefEqProofs
 refine yg (ι:=Nat) (fun k=>k ≤ t.Rows.length ∧ ∀ r ∈ t.Rows.take k,full r = true) (fun k=>yO [(1,.box 1 0),(3,.c (.sl 6 (t.yas.map Boat.enc))),(4,.c (.i k))] [(1,.box (t.enc.map .c))]) (fun k=>t.Rows.length - k) 0 (by simp) (by apply yj <;> simp) ?_
 rintro k ⟨hk,hall⟩
 rcases Nat.lt_or_ge k t.Rows.length with hlt | hge
 ·obtain ⟨r,hr⟩ : ∃ r,t.Rows[k]? = some r:=⟨_,List.getElem?_eq_getElem hlt⟩
  simp -dsimp -implicitDefEqProofs [hr,yG hlt]
  intro hlen _
  refine ⟨fun h0=>?_,fun h0=>?_⟩
  ·have : t.Rows.all full = false:=all_false (p:=full) hr (by simp [full,h0])
   simp only [yP,this,Bool.false_and]
  ·exact ⟨yw hlt hlen,k + 1,⟨by omega,yL (p:=full) hr hall (by simp [full,h0])⟩,by omega,by apply yj <;> simp⟩
 ·have hrows:=yX (p:=full) hge hall
  simp -dsimp -implicitDefEqProofs [yaB hge]
  intro _
  have hbl:=yzj h
  refine yg (ι:=Nat) (fun k=>k ≤ t.yas.length ∧ (∀ b ∈ t.yas.take k,ybr b = true) ∧ (yry t.yas k).Nodup) (fun k=>yO [(3,.c (.sl 6 (t.yas.map Boat.enc))),(5,.c (.i k))] []) (fun k=>t.yas.length - k) 0 (by simp [yry]) (by apply yj <;> simp) ?_
  rintro k ⟨hk,hok,hnd⟩
  have fin : t.yas.length ≤ 6 → k = t.yas.length → yP t = inRange t.yas.length 1 6:=by
   intro h6 e
   have h1:=yX (p:=ybr) (by omega) hok
   rw [e,yry,List.take_length] at hnd
   simp [yP,hrows,h1,hnd]
  rcases Nat.lt_or_ge k t.yas.length with hlt | hge
  ·obtain ⟨b,hb⟩ : ∃ b,t.yas[k]? = some b:=⟨_,List.getElem?_eq_getElem hlt⟩
   by_cases h6 : t.yas.length ≤ 6
   ·have h6' : ((t.yas.length : Int) ≤ 6) = True:=by simp; omega
    simp -dsimp -implicitDefEqProofs [hb,yG hlt,h6']
    intro hlen
    refine yc (yvm b) ?_
    simp -dsimp -implicitDefEqProofs
    refine ⟨fun h1=>?_,fun h1=>?_⟩
    ·have : t.yas.all ybr = false:=all_false (p:=ybr) hb h1
     simp only [yP,this,Bool.false_and,Bool.and_false]
    have hok':=yL (p:=ybr) hb hok h1
    refine yg (ι:=Nat) (fun i=>i ≤ k ∧ b.Id ∉ yry t.yas i) (fun i=>yO [(3,.c (.sl 6 (t.yas.map Boat.enc))),(5,.c (.i k)),(6,.c (.i i))] []) (fun i=>k - i) 0 (by simp [yry]) (by apply yj <;> simp) ?_
    rintro i ⟨hi,hni⟩
    rcases Nat.lt_or_ge i k with hlt2 | hge2
    ·obtain ⟨c,hc⟩ : ∃ c,t.yas[i]? = some c:=⟨_,List.getElem?_eq_getElem (by omega)⟩
     have hi3 : (i : Int) < t.yas.length:=by omega
     simp -dsimp -implicitDefEqProofs [hb,hc,yG hlt,yG hlt2,hi3]
     refine ⟨fun h2=>?_,fun h2=>?_⟩
     ·have : ¬ (t.yas.map yfy).Nodup:=by
       refine yyf (k:=k + 1) fun hn=>?_
       refine ((ykm hb).1 hn).2 ?_
       rw [← h2]
       exact List.mem_map.2 ⟨c,List.mem_iff_getElem?.2 ⟨i,by rw [List.getElem?_take,if_pos hlt2]; exact hc⟩,rfl⟩
      simp [yP,this]
     ·refine ⟨by unfold inI; omega,i + 1,⟨hlt2,?_⟩,by omega,by apply yj <;> simp⟩
      rw [yry,List.take_succ,hc,List.map_append]
      simp only [List.mem_append,Option.toList_some,List.map_cons,List.map_nil,List.mem_singleton,yfy]
      rintro (h3 | h3)
      ·exact hni h3
      ·exact h2 h3.symm
    ·simp -dsimp -implicitDefEqProofs [yaB hge2]
     have e : i = k:=by omega
     rw [e] at hni
     exact ⟨by unfold inI; omega,k + 1,⟨hlt,hok',(ykm hb).2 ⟨hnd,hni⟩⟩,by omega,by apply yj <;> simp⟩
   ·have h6' : ((t.yas.length : Int) ≤ 6) = False:=by simp; omega
    simp -dsimp -implicitDefEqProofs [hb,yG hlt,h6']
    intro hlen
    refine yc (yD t.yas.length 1 6) ?_
    simp -dsimp -implicitDefEqProofs
    have h7 : inRange t.yas.length 1 6 = false:=ycG.2 (by omega)
    simp only [yP,h7,Bool.and_false]
  ·simp -dsimp -implicitDefEqProofs [yaB hge]
   intro hlen
   refine yc (yD t.yas.length 1 6) ?_
   simp -dsimp -implicitDefEqProofs
   by_cases h6 : t.yas.length ≤ 6
   ·rw [fin h6 (by omega)]
   ·have h7 : inRange t.yas.length 1 6 = false:=ycG.2 (by omega)
    simp only [yP,h7,Bool.and_false]
theorem yvl {t : Train} {k : Nat} {r : List Boat} (h : t.Rows[k]? = some r) : ∃ m,t.yas = heads t.Rows k ++ r ++ m:=by
 refine ⟨(t.Rows.drop (k + 1)).flatten,?_⟩
 unfold Train.yas
 conv=>lhs; rw [← List.take_append_drop (k + 1) t.Rows]
 rw [List.flatten_append,← yhH h]; rfl
theorem yBC {t : Train} {k : Nat} {r : List Boat} (h : t.Rows[k]? = some r) (h0 : r.length = 0) : yP t = false:=by
 have : t.Rows.all full = false:=all_false (p:=full) h (by simp [full,h0])
 simp only [yP,this,Bool.false_and]
theorem yD8 {t : Train} (h : 6 < t.yas.length) : yP t = false:=by
 have h7 : inRange t.yas.length 1 6 = false:=ycG.2 (by omega)
 simp only [yP,h7,Bool.and_false]
theorem yBq {t : Train} {b : Boat} (hb : b ∈ t.yas) (h : ybr b = false) : yP t = false:=by
 obtain ⟨i,hi⟩:=List.getElem?_of_mem hb
 have : t.yas.all ybr = false:=all_false (p:=ybr) hi h
 simp only [yP,this,Bool.false_and,Bool.and_false]
theorem yEq {t : Train} (h : ¬ (t.yas.map yfy).Nodup) : yP t = false:=by simp [yP,h]
def yfA (l : List Boat) : List (List C):=(l.map yfy).map yJ ++ List.replicate (6 - l.length) [.i 0]
theorem yzV {l : List Boat} (h : l.length ≤ 6) : (yfA l).length = 6:=by simp [yfA]; omega
theorem yyx {l : List Boat} {n : Nat} (h : n = l.length) : (yfA l).take n = (l.map yfy).map yJ:=by
 subst h; unfold yfA; rw [List.take_append_of_le_length (by simp),List.take_of_length_le (by simp)]
theorem yyK {l : List Boat} {b : Boat} (h : l.length < 6) : (yfA l).set l.length [.i b.Id] = yfA (l ++ [b]):=by
 unfold yfA
 rw [List.set_append_right _ _ (by simp)]
 have h1 : ((l.map yfy).map yJ).length = l.length:=by simp
 rw [h1,Nat.sub_self,show 6 - l.length = (6 - (l.length + 1)) + 1 by omega,List.replicate_succ,List.set_cons_zero]
 simp [yfy]
theorem yzC {l : List Boat} (h : l.length < 6) : (yfA l)[l.length]?.getD [] = [.i 0]:=by
 unfold yfA
 rw [List.getElem?_append_right (by simp)]
 have h1 : ((l.map yfy).map yJ).length = l.length:=by simp
 rw [h1,Nat.sub_self,List.getElem?_replicate,if_pos (by omega)]; rfl
theorem yzu : yfA [] = List.replicate 6 [.i 0]:=rfl
structure Met (l : List Boat) : Prop where
 ok : ∀ b ∈ l,ybr b = true
 nd : (l.map yfy).Nodup
 len : l.length ≤ 6
theorem Met.snoc {l : List Boat} {b : Boat} (h : Met l) (h1 : ybr b = true) (h2 : b.Id ∉ l.map yfy) (h3 : l.length < 6) : Met (l ++ [b]):=by
 refine ⟨?_,?_,by simp; omega⟩
 ·intro x hx
  rcases List.mem_append.1 hx with hx | hx
  ·exact h.ok x hx
  ·rw [List.mem_singleton.1 hx]; exact h1
 ·have:=@ykm (l ++ [b]) l.length b (by simp)
  rw [show l.length + 1 = (l ++ [b]).length by simp,List.take_length] at this
  rw [this,List.take_left']
  ·exact ⟨h.nd,h2⟩
  ·rfl
def yfe (t : Train) (k : Nat) (r : List Boat) (j : Nat) : List Boat:=heads t.Rows k ++ r.take j
theorem yoG {t : Train} {k : Nat} {r : List Boat} : yfe t k r 0 = heads t.Rows k:=by simp [yfe]
theorem yvY {t : Train} {k : Nat} {r : List Boat} {j : Nat} {b : Boat} (h : r[j]? = some b) : yfe t k r (j + 1) = yfe t k r j ++ [b]:=by
 unfold yfe; rw [List.take_succ,h]; simp
theorem yrL {t : Train} {k : Nat} {r : List Boat} {j : Nat} (hr : t.Rows[k]? = some r) (h : r.length ≤ j) : yfe t k r j = heads t.Rows (k + 1):=by
 unfold yfe; rw [List.take_of_length_le h,yhH hr]
theorem yxV {t : Train} {k : Nat} {r : List Boat} {j : Nat} (h : j ≤ r.length) : (yfe t k r j).length = (heads t.Rows k).length + j:=by
 unfold yfe; simp; omega
theorem ydp (t : Train) (h : t.small) : yB Try.prog 47 [.agg (t.enc.map .c)] (.c (.b (yP t))):=by
 refine yh yoE ?_
 simp -dsimp -implicitDefEqProofs
 intro hlen
 refine ⟨fun h0 _=>⟨fun h1=>?_,fun h1 _=>?_⟩,fun h0=>?_⟩
 ·by_cases h2 : yP t = false
  ·exact h2
  ·exfalso
   have h3 : yP t = true:=by simpa using h2
   simp only [yP,Bool.and_eq_true,List.all_eq_true] at h3
   obtain ⟨⟨⟨h4,_⟩,_⟩,h5⟩:=h3
   have h6:=yF.1 h5
   have : ∀ l : List (List Boat),(∀ r ∈ l,full r = true) → l.length ≤ l.flatten.length:=by
    intro l
    induction l with
    | nil=>simp
    | cons r l ih =>
     intro hl
     have e1:=ih fun x hx=>hl x (by simp [hx])
     have e2:=ytQ.1 (hl r (by simp))
     simp only [List.length_cons,List.flatten_cons,List.length_append]; omega
   have:=this t.Rows h4
   unfold Train.yas at h6
   omega
 ·refine yg (ι:=Nat) (fun k=>k ≤ t.Rows.length ∧ (∀ r ∈ t.Rows.take k,full r = true) ∧ Met (heads t.Rows k)) (fun k=>yO [(3,.row 3 1 0 0),(4,.c (.i (heads t.Rows k).length)),(20,.c (.sl 1 (t.Rows.map yai))),(21,.c (.i t.Rows.length)),(22,.c (.i k))] [(3,.row 1 (yfA (heads t.Rows k)))]) (fun k=>t.Rows.length - k) 0 ⟨by simp,by simp,by simp [yeU],by simp [yeU],by simp [yeU]⟩ (by apply yj <;> simp [yeU,yzu]) ?_
  rintro k ⟨hk,hall,hm⟩
  rcases Nat.lt_or_ge k t.Rows.length with hlt | hge
  ·obtain ⟨r,hr⟩ : ∃ r,t.Rows[k]? = some r:=⟨_,List.getElem?_eq_getElem hlt⟩
   have hml:=hm.len
   have hrs:=(h.2 r (List.mem_of_getElem? hr)).1
   obtain ⟨rest,hsp⟩:=yvl hr
   simp -dsimp -implicitDefEqProofs [hr,yG hlt]
   intro hrl
   refine ⟨fun hr0 _=>⟨by unfold inI; omega,fun h6=>?_,fun h6 _=>?_⟩,fun hr0=>?_⟩
   ·refine yD8 ?_
    rw [hsp]; simp only [List.length_append]; omega
   ·refine yg (ι:=Nat) (fun j=>j ≤ r.length ∧ Met (yfe t k r j)) (fun j=>yO [(3,.row 3 1 0 0),(4,.c (.i (yfe t k r j).length)),(20,.c (.sl 1 (t.Rows.map yai))),(21,.c (.i t.Rows.length)),(22,.c (.i k)),(36,.c (.sl 6 (r.map Boat.enc))),(37,.c (.i r.length)),(38,.c (.i j))] [(3,.row 1 (yfA (yfe t k r j)))]) (fun j=>r.length - j) 0 ⟨by simp,by rw [yoG]; exact hm⟩ (by apply yj <;> simp [yoG]) ?_
    rintro j ⟨hj,hmj⟩
    rcases Nat.lt_or_ge j r.length with hlt2 | hge2
    ·obtain ⟨b,hb⟩ : ∃ b,r[j]? = some b:=⟨_,List.getElem?_eq_getElem hlt2⟩
     have hsl:=yxV (t:=t) (k:=k) hj
     have hlt6 : (yfe t k r j).length < 6:=by omega
     have hmem : b ∈ t.yas:=by
      rw [hsp]; simp only [List.mem_append]; exact .inl (.inr (List.mem_of_getElem? hb))
     simp -dsimp -implicitDefEqProofs [hb,yG hlt2]
     refine yaC (yuc b) ?_
     simp -dsimp -implicitDefEqProofs
     refine ⟨fun h2=>?_,fun h2=>yBq hmem h2⟩
     have hsn:=yzV hmj.len
     refine ⟨by omega,hsn,?_⟩
     refine ⟨_,_,ypJ ((yfe t k r j).map yfy) b.Id,by simp [yyx],.inr rfl,?_⟩
     simp -dsimp -implicitDefEqProofs [yG hlt2,yzC hlt6,yyK hlt6]
     refine ⟨fun x hx he=>yEq fun hn=>?_,fun h3=>?_⟩
     ·have hsp2 : t.yas = yfe t k r j ++ (b :: (r.drop (j + 1) ++ rest)):=by
       rw [hsp]; unfold yfe
       have : r = r.take j ++ b :: r.drop (j + 1):=by
        conv=>lhs; rw [← List.take_append_drop j r]
        rw [List.drop_eq_getElem_cons hlt2,(List.getElem?_eq_some_iff.1 hb).2]
       conv=>lhs; rw [this]
       simp
      rw [hsp2,List.map_append,List.map_cons] at hn
      exact (List.nodup_append.1 hn).2.2 _ (List.mem_map_of_mem hx) _ (List.mem_cons_self) he
     ·have hni : b.Id ∉ (yfe t k r j).map yfy:=by
       intro hm'
       obtain ⟨x,hx,he⟩:=List.mem_map.1 hm'
       exact h3 x hx he
      have hs1:=yvY (t:=t) (k:=k) hb
      refine ⟨by omega,by omega,by unfold inI; omega,by unfold inI; omega,j + 1,⟨hlt2,by rw [hs1]; exact hmj.snoc h2 hni hlt6⟩,by omega,?_⟩
      apply yj <;> simp [hs1]
    ·simp -dsimp -implicitDefEqProofs [yaB hge2]
     rw [yrL hr hge2] at hmj
     refine ⟨by unfold inI; omega,k + 1,⟨hlt,yL (p:=full) hr hall (by simp [full,hr0]),hmj⟩,by omega,?_⟩
     apply yj <;> simp [yrL hr hge2]
   ·exact yBC hr (by simp [hr0])
  ·simp -dsimp -implicitDefEqProofs [yaB hge]
   rw [yjI hge] at hm
   have hr1:=yX (p:=full) hge hall
   have hb1 : t.yas.all ybr = true:=List.all_eq_true.2 hm.ok
   have hl1 : 0 < t.yas.length:=by
    obtain ⟨r,l,e⟩:=List.exists_cons_of_ne_nil h0
    have:=ytQ.1 (List.all_eq_true.1 hr1 r (by rw [e]; simp))
    unfold Train.yas
    rw [e]; simp only [List.flatten_cons,List.length_append]; omega
   have hl2 : t.yas.length ≤ 6:=hm.len
   have h7 : inRange t.yas.length 1 6 = true:=yF.2 (by omega)
   have hn1 : (t.yas.map yfy).Nodup:=hm.nd
   simp [yP,hr1,hb1,hn1,h7]
 ·have : t.yas = []:=by simp [Train.yas,h0]
  have h7 : inRange t.yas.length 1 6 = false:=by rw [this]; rfl
  simp only [yP,h7,Bool.and_false]
def minOf (f : Boat → Int) (l : List Boat) (z : Int) : Int:=l.foldl (fun m b=>if f b < m then f b else m) z
def yLK (f : Boat → Int) (l : List Boat) (z : Int) (k : Nat) : Int:=minOf f (l.take k) z
theorem yL8 {f : Boat → Int} {l : List Boat} {z : Int} : yLK f l z 0 = z:=rfl
theorem yL1 {f : Boat → Int} {l : List Boat} {z : Int} {k : Nat} {b : Boat} (h : l[k]? = some b) : yLK f l z (k + 1) = if f b < yLK f l z k then f b else yLK f l z k:=by
 unfold yLK minOf; rw [List.take_succ,h,List.foldl_append]; rfl
theorem yMj {f : Boat → Int} {l : List Boat} {z : Int} {k : Nat} (h : l.length ≤ k) : yLK f l z k = minOf f l z:=by
 unfold yLK; rw [List.take_of_length_le h]
theorem yMv {f : Boat → Int} {a b : Int} : ∀ {l : List Boat} {z : Int},(∀ x ∈ l,a ≤ f x ∧ f x ≤ b) → a ≤ z → z ≤ b → a ≤ minOf f l z ∧ minOf f l z ≤ b
 | [],z,_,h1,h2=>⟨h1,h2⟩
 | x :: l,z,h,h1,h2=>by
  have:=h x (by simp)
  unfold minOf
  rw [List.foldl_cons]
  refine yMv (l:=l) (fun y hy=>h y (by simp [hy])) ?_ ?_ <;> split <;> omega
structure TrainFacts (t : Train) : Prop where
 rows : ∀ r ∈ t.Rows,full r = true
 ok : ∀ b ∈ t.yas,ybr b = true
 nd : (t.yas.map yfy).Nodup
 pos : 1 ≤ t.yas.length
 len : t.yas.length ≤ 6
theorem yhY {t : Train} (h : yP t = true) : TrainFacts t:=by
 simp only [yP,Bool.and_eq_true,List.all_eq_true,decide_eq_true_eq] at h
 obtain ⟨⟨⟨h1,h2⟩,h3⟩,h4⟩:=h
 have h5:=yF.1 h4
 exact ⟨h1,h2,h3,by omega,by omega⟩
theorem yMg {b : Boat} (h : ybr b = true) : (1 ≤ b.Id ∧ b.Id ≤ 9999) ∧ (1 ≤ b.Length ∧ b.Length ≤ 200) ∧ (1 ≤ b.Width ∧ b.Width ≤ 30) ∧ (1 ≤ b.Draught ∧ b.Draught ≤ 100) ∧ (1 ≤ b.Speed ∧ b.Speed ≤ 50) ∧ (0 ≤ b.Class ∧ b.Class ≤ 2):=by
 simp only [ybr,Bool.and_eq_true] at h
 obtain ⟨⟨⟨⟨⟨h1,h2⟩,h3⟩,h4⟩,h5⟩,h6⟩:=h
 exact ⟨yF.1 h1,yF.1 h2,yF.1 h3,yF.1 h4,yF.1 h5,yF.1 h6⟩
theorem yya (t : Train) (h : t.small) : yB Try.prog 48 [.agg (t.enc.map .c)] (.c (.sl 6 (t.yas.map Boat.enc))):=by
 refine yh yoM ?_
 simp -dsimp -implicitDefEqProofs
 intro hlen
 refine ymd (k0:=6) 3 6 (by simp) (by simp) (by decide) ?_
 refine yg (ι:=Nat) (fun k=>k ≤ t.Rows.length) (fun k=>yO [(3,.own 3 6 (heads t.Rows k).length),(7,.c (.sl 1 (t.Rows.map yai))),(8,.c (.i t.Rows.length)),(9,.c (.i k))] [(3,.row 6 ((heads t.Rows k).map Boat.enc))]) (fun k=>t.Rows.length - k) 0 (by simp) (by apply yj <;> simp [yeU]) ?_
 rintro k hk
 rcases Nat.lt_or_ge k t.Rows.length with hlt | hge
 ·obtain ⟨r,hr⟩ : ∃ r,t.Rows[k]? = some r:=⟨_,List.getElem?_eq_getElem hlt⟩
  have hb:=yi0 h (k + 1)
  have hf:=yhH hr
  rw [hf,List.length_append] at hb
  simp -dsimp -implicitDefEqProofs [hr,yG hlt]
  refine ⟨by omega,yw hlt hlen,k + 1,hlt,by omega,?_⟩
  apply yj <;> simp [hf]
 ·simp -dsimp -implicitDefEqProofs [yaB hge]
  rw [yjI hge]
  rw [List.take_of_length_le (by rw [List.length_map]; exact Nat.le_refl _)]; rfl
def yMM (f : Boat → Int) (l : List Boat) : Int:=match l with | b :: _=>f b | []=>0
theorem yNi {l : List Boat} {b : Boat} (h : l[0]? = some b) (f : Boat → Int) : yMM f l = f b:=by
 cases l with
 | nil=>simp at h
 | cons x l=>simp at h; rw [h]; rfl
theorem yLO {t : Train} (h : TrainFacts t) : ∃ r b,t.Rows[0]? = some r ∧ r[0]? = some b ∧ t.yas[0]? = some b:=by
 have h1:=h.pos
 cases hr : t.Rows with
 | nil=>unfold Train.yas at h1; rw [hr] at h1; simp at h1
 | cons r l =>
  have h2:=ytQ.1 (h.rows r (by rw [hr]; simp))
  cases r with
  | nil=>simp at h2
  | cons b r=>exact ⟨b :: r,b,rfl,rfl,by unfold Train.yas; rw [hr]; rfl⟩
def ykx : List Int → Prop:=ycs fun _=>True
structure Point where
 X : Int
 Y : Int
 deriving DecidableEq,Inhabited
@[simp] def Point.enc (e : Point) : List C:=[.i e.X,.i e.Y]
-- Point
def yfO : List Point → Prop:=ycs fun _=>True
structure Reach where
 Table : List Point
 Volume : Int
 Pipe : List Int
 deriving DecidableEq,Inhabited
@[simp] def Reach.enc (e : Reach) : List C:=[.sl 2 (e.Table.map Point.enc),.i e.Volume,.sl 1 (e.Pipe.map yJ)]
-- Reach
def Reach.small (e : Reach) : Prop:=yfO e.Table ∧ ykx e.Pipe
def yK3 (t : Train) : Int:=if yP t then minOf Boat.Class t.yas (yMM Boat.Class t.yas) else -1
theorem yMC {t : Train} (h : yP t = true) : 0 ≤ yK3 t ∧ yK3 t ≤ 2:=by
 unfold yK3
 rw [if_pos h]
 have hf:=yhY h
 obtain ⟨r,b0,e1,e2,e3⟩:=yLO hf
 have:=yMg (hf.ok b0 (List.mem_of_getElem? e3))
 exact yMv (fun x hx=>by have:=yMg (hf.ok x hx); omega) (by rw [yNi e3]; omega) (by rw [yNi e3]; omega)
theorem yKT (t : Train) (h : t.small) : yB Try.prog 38 [.agg (t.enc.map .c)] (.c (.i (yK3 t))):=by
 refine yh yMa ?_
 simp -dsimp -implicitDefEqProofs
 refine yc (ydp t h) ?_
 simp -dsimp -implicitDefEqProofs
 refine ⟨fun h1=>by simp [yK3,h1],fun h1=>?_⟩
 obtain ⟨r,b0,e1,e2,e3⟩:=yLO (yhY h1)
 have l1 : 0 < t.Rows.length:=(List.getElem?_eq_some_iff.1 e1).1
 have l2 : 0 < r.length:=(List.getElem?_eq_some_iff.1 e2).1
 have f1:=(List.getElem?_eq_some_iff.1 e1).2
 have f2:=(List.getElem?_eq_some_iff.1 e2).2
 simp -dsimp -implicitDefEqProofs [e1,e2,l1,l2,f1,f2]
 refine yS (yya t h) ?_
 simp -dsimp -implicitDefEqProofs
 intro hlen
 refine yg (ι:=Nat) (fun k=>k ≤ t.yas.length) (fun k=>yO [(3,.c (.i (yLK Boat.Class t.yas b0.Class k))),(17,.c (.sl 6 (t.yas.map Boat.enc))),(18,.c (.i t.yas.length)),(19,.c (.i k))] []) (fun k=>t.yas.length - k) 0 (by simp) (by apply yj <;> simp [yL8]) ?_
 rintro k hk
 rcases Nat.lt_or_ge k t.yas.length with hlt | hge
 ·obtain ⟨b,hb⟩ : ∃ b,t.yas[k]? = some b:=⟨_,List.getElem?_eq_getElem hlt⟩
  simp -dsimp -implicitDefEqProofs [hb,yG hlt]
  refine ⟨yw hlt hlen,k + 1,hlt,by omega,?_⟩
  apply yj <;> simp [yL1 hb]
 ·simp -dsimp -implicitDefEqProofs [yaB hge]
  simp [yK3,h1,yMj hge,yNi e3]
theorem yMm (t : Train) (h : t.small) : yB Try.prog 35 [.agg (t.enc.map .c)] (.c (.i (yK3 t))):=by
 refine yh yL3 ?_
 simp -dsimp -implicitDefEqProofs
 refine yS (yoX t h) ?_
 simp -dsimp -implicitDefEqProofs
 refine yc (yds t h) ?_
 simp -dsimp -implicitDefEqProofs
 refine ⟨fun h1=>by simp [yK3,h1],fun h1=>?_⟩
 obtain ⟨r,b0,e1,e2,e3⟩:=yLO (yhY h1)
 have l1 : 0 < t.yas.length:=(List.getElem?_eq_some_iff.1 e3).1
 have f3:=(List.getElem?_eq_some_iff.1 e3).2
 simp -dsimp -implicitDefEqProofs [e3,l1,f3]
 refine yg (ι:=Nat) (fun k=>k ≤ t.yas.length) (fun k=>yO [(3,.c (.sl 6 (t.yas.map Boat.enc))),(4,.c (.i (yLK Boat.Class t.yas b0.Class k))),(5,.c (.i k))] []) (fun k=>t.yas.length - k) 0 (by simp) (by apply yj <;> simp [yL8]) ?_
 rintro k hk
 rcases Nat.lt_or_ge k t.yas.length with hlt | hge
 ·obtain ⟨b,hb⟩ : ∃ b,t.yas[k]? = some b:=⟨_,List.getElem?_eq_getElem hlt⟩
  simp -dsimp -implicitDefEqProofs [hb,yG hlt]
  intro hlen
  refine ⟨yw hlt hlen,k + 1,hlt,by omega,?_⟩
  apply yj <;> simp [yL1 hb]
 ·simp -dsimp -implicitDefEqProofs [yaB hge]
  intro _
  simp [yK3,h1,yMj hge,yNi e3]
theorem ymz {α β : Type} {f : α → β} {l : List α} : (l.map f).take l.length = l.map f:=List.take_of_length_le (by simp)
def yaY (t : Train) : List Int:=if yP t then t.yas.map yfy else []
def yfv (t : Train) (k : Nat) : List Int:=(t.yas.take k).map yfy
theorem ygs {t : Train} : yfv t 0 = []:=rfl
theorem ymO {t : Train} {k : Nat} {b : Boat} (h : t.yas[k]? = some b) : yfv t (k + 1) = yfv t k ++ [b.Id]:=by
 unfold yfv; rw [List.take_succ,h,List.map_append]; rfl
theorem yo4 {t : Train} {k : Nat} (h : t.yas.length ≤ k) : yfv t k = t.yas.map yfy:=by
 unfold yfv; rw [List.take_of_length_le h]
theorem yp8 {t : Train} {k : Nat} (h : k ≤ t.yas.length) : (yfv t k).length = k:=by
 unfold yfv; simp; omega
theorem yuz (t : Train) (h : t.small) : yB Try.prog 40 [.agg (t.enc.map .c)] (.c (.sl 1 ((yaY t).map yJ))):=by
 refine yh ysm ?_
 simp -dsimp -implicitDefEqProofs
 refine yc (ydp t h) ?_
 cases h1 : yP t with
 | false=>simp -dsimp -implicitDefEqProofs; simp [yaY,h1]
 | true =>
  have tf:=yhY h1
  have h6:=tf.len
  simp -dsimp -implicitDefEqProofs
  refine yS (yya t h) ?_
  simp -dsimp -implicitDefEqProofs
  intro hlen
  refine ymd (k0:=1) 3 1 (by simp) (by simp) (by decide) ?_
  refine yg (ι:=Nat) (fun k=>k ≤ t.yas.length) (fun k=>yO [(3,.own 3 1 (yfv t k).length),(10,.c (.sl 6 (t.yas.map Boat.enc))),(11,.c (.i t.yas.length)),(12,.c (.i k))] [(3,.row 1 ((yfv t k).map yJ))]) (fun k=>t.yas.length - k) 0 (by simp) (by apply yj <;> simp [ygs]) ?_
  rintro k hk
  have hkl:=yp8 hk
  rcases Nat.lt_or_ge k t.yas.length with hlt | hge
  ·obtain ⟨b,hb⟩ : ∃ b,t.yas[k]? = some b:=⟨_,List.getElem?_eq_getElem hlt⟩
   simp -dsimp -implicitDefEqProofs [hb,yG hlt]
   refine ⟨by omega,yw hlt hlen,k + 1,hlt,by omega,?_⟩
   apply yj <;> simp [ymO hb]
  ·simp -dsimp -implicitDefEqProofs [yaB hge]
   rw [ymz,yo4 hge]
   simp [yaY,h1]
theorem yvW (t : Train) (h : t.small) : yB Try.prog 36 [.agg (t.enc.map .c)] (.c (.sl 1 ((yaY t).map yJ))):=by
 refine yh ysG ?_
 simp -dsimp -implicitDefEqProofs
 refine yS (yoX t h) ?_
 simp -dsimp -implicitDefEqProofs
 refine yg (ι:=Nat) (fun k=>k ≤ t.yas.length ∧ (k ≠ 0 → yP t = true)) (fun k=>yO [(1,.box 1 0),(3,.own 6 1 (yfv t k).length),(4,.c (.sl 6 (t.yas.map Boat.enc))),(5,.c (.i k))] [(1,.box (t.enc.map .c)),(6,.row 1 ((yfv t k).map yJ))]) (fun k=>t.yas.length - k) 0 (by simp) (by apply yj <;> simp [ygs]) ?_
 rintro k ⟨hk,hok⟩
 have hkl:=yp8 hk
 have fin : yP t = false → k = 0:=fun h1=>by
  rcases Nat.eq_zero_or_pos k with e | e
  ·exact e
  ·rw [hok (by omega)] at h1; cases h1
 rcases Nat.lt_or_ge k t.yas.length with hlt | hge
 ·obtain ⟨b,hb⟩ : ∃ b,t.yas[k]? = some b:=⟨_,List.getElem?_eq_getElem hlt⟩
  simp -dsimp -implicitDefEqProofs [hb,yG hlt]
  intro hlen
  refine yc (yds t h) ?_
  cases h1 : yP t with
  | false =>
   have:=fin h1
   subst this
   simp -dsimp -implicitDefEqProofs
   simp [yaY,h1,ygs]
  | true =>
   have h6:=(yhY h1).len
   simp -dsimp -implicitDefEqProofs [hb,yG hlt]
   refine ⟨by omega,yw hlt hlen,k + 1,by first | exact ⟨hlt,fun _=>h1⟩ | exact hlt,by omega,?_⟩
   apply yj <;> simp [ymO hb]
 ·simp -dsimp -implicitDefEqProofs [yaB hge]
  intro _
  rw [ymz]
  by_cases h1 : yP t = true
  ·rw [yo4 hge]; simp [yaY,h1]
  ·have:=fin (by simpa using h1)
   subst this
   simp [yaY,h1,ygs]
def ybV : List Train → Prop:=ycs Train.small
structure Lock where
 Length : Int
 Width : Int
 SillAbove : Int
 SillBelow : Int
 Base : Int
 Area : Int
 Rate : Int
 Water : Int
 Gate : Int
 Inside : List Train
 deriving DecidableEq,Inhabited
@[simp] def Lock.enc (e : Lock) : List C:=[.i e.Length,.i e.Width,.i e.SillAbove,.i e.SillBelow,.i e.Base,.i e.Area,.i e.Rate,.i e.Water,.i e.Gate,.sl 2 (e.Inside.map Train.enc)]
-- Lock
def Lock.small (e : Lock) : Prop:=ybV e.Inside
structure Weir where
 Gates : Int
 Open : Int
 Step : Int
 Crest : Int
 Width : Int
 deriving DecidableEq,Inhabited
@[simp] def Weir.enc (e : Weir) : List C:=[.i e.Gates,.i e.Open,.i e.Step,.i e.Crest,.i e.Width]
-- Weir
structure Rule where
 Low : Int
 High : Int
 Flood : Int
 deriving DecidableEq,Inhabited
@[simp] def Rule.enc (e : Rule) : List C:=[.i e.Low,.i e.High,.i e.Flood]
-- Rule
structure Pause where
 From : Int
 Until : Int
 deriving DecidableEq,Inhabited
@[simp] def Pause.enc (e : Pause) : List C:=[.i e.From,.i e.Until]
-- Pause
def yfI : List Pause → Prop:=ycs fun _=>True
structure Turn where
 Up : Bool
 Count : Int
 deriving DecidableEq,Inhabited
@[simp] def Turn.enc (e : Turn) : List C:=[.b e.Up,.i e.Count]
-- Turn
structure CallT where
 Train : Train
 Since : Int
 Booked : Int
 deriving DecidableEq,Inhabited
@[simp] def CallT.enc (e : CallT) : List C:=[.b e.Train.Up,.sl 1 (e.Train.Rows.map yai),.i e.Since,.i e.Booked]
-- Call
def ydJ (e : CallT) (l : Int) : Int:=ybm (yb2 e.Train l) fun l=>l
def CallT.small (e : CallT) : Prop:=e.Train.small
theorem yn9 : yey ydJ CallT.small:=by
 intro e l h0 h1
 unfold ydJ
 rcases ye7 e.Train _ h0 h1 with e0 | ⟨a0,b0,s0⟩
 ·exact .inl (yK (by omega))
 rw [yu a0]
 exact .inr ⟨a0,by omega,s0⟩
theorem yyC (e : CallT) (l : Int) (h0 : 0 ≤ l) (h1 : l ≤ 1048576) : yB Try.prog 17 [.agg (e.enc.map .c),.c (.i l)] (.c (.i (ydJ e l))):=by
 refine yh yrq ?_
 simp -dsimp -implicitDefEqProofs
 refine yc (yhF e.Train _ h0 h1) ?_
 simp -dsimp -implicitDefEqProofs
 refine ⟨fun h=>by simp [ydJ,yK h],fun p0=>?_⟩
 simp [ydJ,yu p0]
theorem yzv (e : CallT) (hl : CallT.small e) : yB Try.prog 19 [.agg (e.enc.map .c)] (.agg (e.enc.map .c)):=by
 refine yh yjU ?_
 simp -dsimp -implicitDefEqProofs
 refine yS (yjt e.Train hl) ?_
 simp -dsimp -implicitDefEqProofs
theorem yzt (a b : CallT) : yB Try.prog 21 [.agg (a.enc.map .c),.agg (b.enc.map .c)] (.c (.b (decide (a = b)))):=by
 refine yh yri ?_
 obtain ⟨a0,a1,a2⟩:=a
 obtain ⟨b0,b1,b2⟩:=b
 simp -dsimp -implicitDefEqProofs [ykh,CallT.mk.injEq]
 refine yc (yjG a0 b0) ?_
 simp -dsimp -implicitDefEqProofs
 refine ⟨fun h=>by simp_all,fun h0=>?_⟩
 refine ⟨fun h=>by simp_all,fun h1=>?_⟩
 refine ⟨fun h=>by simp_all,fun h2=>?_⟩
 simp_all
-- []Call
def yfd : List CallT → Int → Int:=yeE ydJ
def yfi : List CallT → Prop:=ycs CallT.small
theorem yu4 : yey yfd yfi:=ygj yn9
theorem yvO (xs : List CallT) (l : Int) (h0 : 0 ≤ l) (h1 : l ≤ 1048576) : yB Try.prog 5 [.c (.sl 4 (xs.map CallT.enc)),.c (.i l)] (.c (.i (yfd xs l))):=by
 refine yh ypT ?_
 simp -dsimp -implicitDefEqProofs
 intro hl
 have hs : szS xs.length l = if l - xs.length < 0 then -1 else l - xs.length:=rfl
 refine ⟨by unfold maxLen at hl; unfold inI; omega,fun h=>?_,fun h=>?_⟩
 ·simp [yfd,yeE,ybm,hs,h]
 have h' : 0 ≤ l - xs.length:=by omega
 have e0 : yfd xs l = yaw ydJ xs (l - xs.length):=by
  have : szS xs.length l = l - xs.length:=by rw [hs,if_neg (by omega)]
  simp only [yfd,yeE]
  rw [this,yu h']
 refine yg (ι:=Nat × Int) (fun p=>p.1 ≤ xs.length ∧ 0 ≤ p.2 ∧ p.2 ≤ 1048576 ∧ yaw ydJ (xs.drop p.1) p.2 = yfd xs l) (fun p=>yO [(0,.c (.sl 4 (xs.map CallT.enc))),(1,.c (.i p.2)),(5,.c (.i p.1))] []) (fun p=>xs.length - p.1) (0,l - xs.length) ⟨by simp,h',by simp only; omega,by simp [e0]⟩ (by apply yj <;> simp) ?_
 rintro ⟨k,q⟩ ⟨hk,hq0,hq1,hf⟩
 simp only at hk hq0 hq1 hf
 rcases Nat.lt_or_ge k xs.length with hlt | hge
 ·obtain ⟨e,he⟩ : ∃ e,xs[k]? = some e:=⟨_,List.getElem?_eq_getElem hlt⟩
  have hd : xs.drop k = e :: xs.drop (k + 1):=by
   rw [List.drop_eq_getElem_cons hlt,(List.getElem?_eq_some_iff.1 he).2]
  rw [hd,yaw] at hf
  simp -dsimp -implicitDefEqProofs [he,yG hlt]
  refine fun _=>yaQ (yyC e q hq0 hq1) (by simp) rfl ?_
  simp -dsimp -implicitDefEqProofs
  refine ⟨fun h=>by rw [← hf,yK h],fun h=>⟨yw hlt hl,k + 1,⟨ydJ e q,?_⟩⟩⟩
  rw [yu h] at hf
  have hle : ydJ e q ≤ 1048576:=by
   rcases yn9 e q hq0 hq1 with e1 | e1
   ·omega
   ·omega
  exact ⟨⟨hlt,h,hle,hf⟩,by omega,by apply yj <;> simp⟩
 ·simp -dsimp -implicitDefEqProofs [yaB hge]
  rw [List.drop_of_length_le hge] at hf
  intro _
  first | simpa [yaw] using hf | simpa [yaw] using hf.symm
theorem yxE (xs : List CallT) (hl : yfi xs) : yB Try.prog 7 [.c (.sl 4 (xs.map CallT.enc))] (.c (.sl 4 (xs.map CallT.enc))):=by
 refine yh yiL ?_
 simp -dsimp -implicitDefEqProofs
 intro hlen
 have hl1:=hl.1
 refine ⟨by omega,?_⟩
 refine yg (ι:=Nat) (fun k=>k ≤ xs.length) (fun k=>yO [(0,.c (.sl 4 (xs.map CallT.enc))),(3,.own 7 4 xs.length),(4,.c (.i k))] [(7,.row 4 (partly CallT.enc [.b false,.sl 1 [],.i 0,.i 0] xs k))]) (fun k=>xs.length - k) 0 (by simp) (by apply yj <;> simp [yab]) ?_
 rintro k hk
 rcases Nat.lt_or_ge k xs.length with hlt | hge
 ·obtain ⟨e,he⟩ : ∃ e,xs[k]? = some e:=⟨_,List.getElem?_eq_getElem hlt⟩
  have hs:=yaj (f:=CallT.enc) (z:=[.b false,.sl 1 [],.i 0,.i 0]) he
  have hd:=yav (f:=CallT.enc) (z:=[.b false,.sl 1 [],.i 0,.i 0]) (n:=4) rfl hlt
  simp only [CallT.enc,Train.enc] at hs
  simp -dsimp -implicitDefEqProofs [he,yG hlt]
  refine fun _=>yaP (yzv e (hl.2 e (List.mem_of_getElem? he))) (by simp) rfl ?_
  simp -dsimp -implicitDefEqProofs [yG hlt,yak hk,hd,hs]
  exact ⟨hlt,yw hlt hlen,k + 1,hlt,by omega,by apply yj <;> simp⟩
 ·simp -dsimp -implicitDefEqProofs [yaB hge]
  intro _
  rw [yam hge,List.take_of_length_le (by simp)]
theorem yxI (es fs : List CallT) : yB Try.prog 10 [.c (.sl 4 (es.map CallT.enc)),.c (.sl 4 (fs.map CallT.enc))] (.c (.b (decide (es = fs)))):=by
 refine yh yoS ?_
 simp -dsimp -implicitDefEqProofs
 intro hl1 hl2
 refine ⟨fun h e=>h (by rw [e]),fun hlen=>?_⟩
 have hlen' : es.length = fs.length:=by omega
 refine yg (ι:=Nat) (fun k=>k ≤ es.length ∧ es.take k = fs.take k) (fun k=>yO [(0,.c (.sl 4 (es.map CallT.enc))),(1,.c (.sl 4 (fs.map CallT.enc))),(5,.c (.i k))] []) (fun k=>es.length - k) 0 (by simp) (by apply yj <;> simp) ?_
 rintro k ⟨hk,htk⟩
 rcases Nat.lt_or_ge k es.length with hlt | hge
 ·obtain ⟨e,he⟩ : ∃ e,es[k]? = some e:=⟨_,List.getElem?_eq_getElem hlt⟩
  obtain ⟨f,hf⟩ : ∃ f,fs[k]? = some f:=⟨_,List.getElem?_eq_getElem (by omega)⟩
  simp -dsimp -implicitDefEqProofs [he,hf,yG hlt,yG (hlen' ▸ hlt)]
  intro _
  refine yaC (yzt e f) ?_
  simp -dsimp -implicitDefEqProofs
  refine ⟨fun h=>ybG he hf h,fun h=>⟨yw hlt hl1,k + 1,⟨hlt,yaR he hf htk h⟩,by omega,by apply yj <;> simp⟩⟩
 ·simp -dsimp -implicitDefEqProofs [yaB hge]
  intro _
  exact ybf hge hlen' htk
structure Work where
 Lock : Lock
 Weir : Weir
 Rule : Rule
 Pauses : List Pause
 Turn : Turn
 Calls : List CallT
 deriving DecidableEq,Inhabited
@[simp] def Work.enc (e : Work) : List C:=[.i e.Lock.Length,.i e.Lock.Width,.i e.Lock.SillAbove,.i e.Lock.SillBelow,.i e.Lock.Base,.i e.Lock.Area,.i e.Lock.Rate,.i e.Lock.Water,.i e.Lock.Gate,.sl 2 (e.Lock.Inside.map Train.enc),.i e.Weir.Gates,.i e.Weir.Open,.i e.Weir.Step,.i e.Weir.Crest,.i e.Weir.Width,.i e.Rule.Low,.i e.Rule.High,.i e.Rule.Flood,.sl 2 (e.Pauses.map Pause.enc),.b e.Turn.Up,.i e.Turn.Count,.sl 4 (e.Calls.map CallT.enc)]
-- Work
def Work.small (e : Work) : Prop:=e.Lock.small ∧ yfI e.Pauses ∧ yfi e.Calls
def yb9 (c : CallT) : Bool:=yP c.Train && inRange c.Since 0 1000000 && inRange c.Booked (-1) 1000000
theorem ytF (c : CallT) (h : c.small) : yB Try.prog 37 [.agg (c.enc.map .c)] (.c (.b (yb9 c))):=by
 refine yh yqU ?_
 simp -dsimp -implicitDefEqProofs
 refine yc (ydp c.Train h) ?_
 cases h0 : yP c.Train with
 | false=>simp -dsimp -implicitDefEqProofs; simp [yb9,h0]
 | true =>
 simp -dsimp -implicitDefEqProofs
 refine yc (yC c.Since 0 1000000) ?_
 cases h1 : inRange c.Since 0 1000000 with
 | false=>simp -dsimp -implicitDefEqProofs; simp [yb9,h0,h1]
 | true =>
 simp -dsimp -implicitDefEqProofs
 refine yc (yC c.Booked (-1) 1000000) ?_
 cases h2 : inRange c.Booked (-1) 1000000 with
 | false=>simp -dsimp -implicitDefEqProofs; simp [yb9,h0,h1,h2]
 | true =>
  simp -dsimp -implicitDefEqProofs; simp [yb9,h0,h1,h2]
theorem yt9 (c : CallT) (h : c.small) : yB Try.prog 34 [.agg (c.enc.map .c)] (.c (.b (yb9 c))):=by
 refine yh yqt ?_
 simp -dsimp -implicitDefEqProofs
 refine yc (yds c.Train h) ?_
 cases h0 : yP c.Train with
 | false=>simp -dsimp -implicitDefEqProofs; simp [yb9,h0]
 | true =>
 simp -dsimp -implicitDefEqProofs
 refine yc (yD c.Since 0 1000000) ?_
 cases h1 : inRange c.Since 0 1000000 with
 | false=>simp -dsimp -implicitDefEqProofs; simp [yb9,h0,h1]
 | true =>
 simp -dsimp -implicitDefEqProofs
 refine yc (yD c.Booked (-1) 1000000) ?_
 cases h2 : inRange c.Booked (-1) 1000000 with
 | false=>simp -dsimp -implicitDefEqProofs; simp [yb9,h0,h1,h2]
 | true =>
  simp -dsimp -implicitDefEqProofs; simp [yb9,h0,h1,h2]
def yKQ (c : CallT) (now : Int) : Int :=
 if yb9 c = true ∧ inRange now c.Since 1000000 = true then
  if c.Booked ≠ -1 ∧ c.Booked ≤ now then -1 else if (now - c.Since).tdiv 20 < yK3 c.Train then yK3 c.Train - (now - c.Since).tdiv 20 else 0
 else 3
structure CallFacts (c : CallT) : Prop where
 tr : yP c.Train = true
 cls : 0 ≤ yK3 c.Train ∧ yK3 c.Train ≤ 2
 snc : 0 ≤ c.Since ∧ c.Since ≤ 1000000
 bkd : -1 ≤ c.Booked ∧ c.Booked ≤ 1000000
theorem yLP {c : CallT} (h : yb9 c = true) : CallFacts c:=by
 simp only [yb9,Bool.and_eq_true] at h
 obtain ⟨⟨h1,h2⟩,h3⟩:=h
 exact ⟨h1,yMC h1,yF.1 h2,yF.1 h3⟩
theorem yKV (c : CallT) (now : Int) (h : c.small) : yB Try.prog 24 [.agg (c.enc.map .c),.c (.i now)] (.c (.i (yKQ c now))):=by
 refine yh yMd ?_
 simp -dsimp -implicitDefEqProofs
 first
  | refine yaQ (ytF c h) (by simp) rfl ?_
  | refine yaP (ytF c h) (by simp) rfl ?_
  | refine ⟨_,_,ytF c h,by simp,.inr rfl,?_⟩
  | refine ⟨_,_,ytF c h,by simp,.inl rfl,?_⟩
  | refine ya2 (ytF c h) (by simp) (.inr rfl) ?_
  | refine ya2 (ytF c h) (by simp) (.inl rfl) ?_
 cases h1 : yb9 c with
 | false=>simp -dsimp -implicitDefEqProofs; simp [yKQ,h1]
 | true =>
 have cf:=yLP h1
 have f1:=cf.cls; have f2:=cf.snc; have f3:=cf.bkd
 simp -dsimp -implicitDefEqProofs
 first
  | refine yaQ (yC now c.Since 1000000) (by simp) rfl ?_
  | refine yaP (yC now c.Since 1000000) (by simp) rfl ?_
  | refine ⟨_,_,yC now c.Since 1000000,by simp,.inr rfl,?_⟩
  | refine ⟨_,_,yC now c.Since 1000000,by simp,.inl rfl,?_⟩
  | refine ya2 (yC now c.Since 1000000) (by simp) (.inr rfl) ?_
  | refine ya2 (yC now c.Since 1000000) (by simp) (.inl rfl) ?_
 cases h2 : inRange now c.Since 1000000 with
 | false=>simp -dsimp -implicitDefEqProofs; simp [yKQ,h1,h2]
 | true =>
 have r2:=yF.1 h2
 have hq : 0 ≤ (now - c.Since).tdiv 20 ∧ (now - c.Since).tdiv 20 ≤ 50000:=by
  rw [Int.tdiv_eq_ediv_of_nonneg (by omega)]; omega
 have fin : ¬ (c.Booked ≠ -1 ∧ c.Booked ≤ now) → yKQ c now = if (now - c.Since).tdiv 20 < yK3 c.Train then yK3 c.Train - (now - c.Since).tdiv 20 else 0:=fun hn=>by
  unfold yKQ; rw [if_pos ⟨h1,h2⟩,if_neg hn]
 have fyes : (c.Booked ≠ -1 ∧ c.Booked ≤ now) → yKQ c now = -1:=fun hn=>by
  unfold yKQ; rw [if_pos ⟨h1,h2⟩,if_pos hn]
 by_cases hb : c.Booked = -1
 ·simp -dsimp -implicitDefEqProofs [hb]
  first
   | refine yaQ (yKT c.Train h) (by simp) rfl ?_
   | refine yaP (yKT c.Train h) (by simp) rfl ?_
   | refine ⟨_,_,yKT c.Train h,by simp,.inr rfl,?_⟩
   | refine ⟨_,_,yKT c.Train h,by simp,.inl rfl,?_⟩
   | refine ya2 (yKT c.Train h) (by simp) (.inr rfl) ?_
   | refine ya2 (yKT c.Train h) (by simp) (.inl rfl) ?_
  simp -dsimp -implicitDefEqProofs
  refine ⟨by unfold inI; omega,by unfold inI; omega,by unfold inI; omega,?_⟩
  rw [fin (by simp [hb])]
 ·by_cases hb2 : c.Booked ≤ now
  ·simp -dsimp -implicitDefEqProofs [hb,hb2]
   rw [fyes ⟨hb,hb2⟩]
  ·simp -dsimp -implicitDefEqProofs [hb,hb2]
   first
    | refine yaQ (yKT c.Train h) (by simp) rfl ?_
    | refine yaP (yKT c.Train h) (by simp) rfl ?_
    | refine ⟨_,_,yKT c.Train h,by simp,.inr rfl,?_⟩
    | refine ⟨_,_,yKT c.Train h,by simp,.inl rfl,?_⟩
    | refine ya2 (yKT c.Train h) (by simp) (.inr rfl) ?_
    | refine ya2 (yKT c.Train h) (by simp) (.inl rfl) ?_
   simp -dsimp -implicitDefEqProofs
   refine ⟨by unfold inI; omega,by unfold inI; omega,by unfold inI; omega,?_⟩
   rw [fin (by simp [hb]; omega)]
theorem yLz {c : CallT} {now : Int} (h : yKQ c now ≠ 3) : yP c.Train = true ∧ 0 < (yaY c.Train).length:=by
 by_cases h1 : yb9 c = true
 ·have h2:=(yLP h1).tr
  exact ⟨h2,by rw [yaY,if_pos h2,List.length_map]; exact (yhY h2).pos⟩
 ·exact absurd (by simp [yKQ,h1]) h
def before (a b : CallT) (now : Int) : Bool :=
 if yKQ a now = 3 ∨ yKQ b now = 3 then false
 else if yKQ a now ≠ yKQ b now then decide (yKQ a now < yKQ b now)
 else if yKQ a now = -1 ∧ a.Booked ≠ b.Booked then decide (a.Booked < b.Booked)
 else if a.Since ≠ b.Since then decide (a.Since < b.Since)
 else decide ((yaY a.Train)[0]?.getD 0 < (yaY b.Train)[0]?.getD 0)
theorem yKR (a b : CallT) (now : Int) (ha : a.small) (hb : b.small) : yB Try.prog 27 [.agg (a.enc.map .c),.agg (b.enc.map .c),.c (.i now)] (.c (.b (before a b now))):=by
 refine yh yLH ?_
 simp -dsimp -implicitDefEqProofs
 first
  | refine yaQ (yKV a now ha) (by simp) rfl ?_
  | refine yaP (yKV a now ha) (by simp) rfl ?_
  | refine ⟨_,_,yKV a now ha,by simp,.inr rfl,?_⟩
  | refine ⟨_,_,yKV a now ha,by simp,.inl rfl,?_⟩
  | refine ya2 (yKV a now ha) (by simp) (.inr rfl) ?_
  | refine ya2 (yKV a now ha) (by simp) (.inl rfl) ?_
 simp -dsimp -implicitDefEqProofs
 first
  | refine yaQ (yKV b now hb) (by simp) rfl ?_
  | refine yaP (yKV b now hb) (by simp) rfl ?_
  | refine ⟨_,_,yKV b now hb,by simp,.inr rfl,?_⟩
  | refine ⟨_,_,yKV b now hb,by simp,.inl rfl,?_⟩
  | refine ya2 (yKV b now hb) (by simp) (.inr rfl) ?_
  | refine ya2 (yKV b now hb) (by simp) (.inl rfl) ?_
 by_cases h1 : yKQ a now = 3
 ·simp -dsimp -implicitDefEqProofs [h1]
  simp [before,h1]
 by_cases h2 : yKQ b now = 3
 ·simp -dsimp -implicitDefEqProofs [h1,h2]
  simp [before,h2]
 by_cases h3 : yKQ a now = yKQ b now
 rotate_left
 ·simp -dsimp -implicitDefEqProofs [h1,h2,h3]
  simp [before,h1,h2,h3]
 have last : a.Since = b.Since → ¬ (yKQ a now = -1 ∧ a.Booked ≠ b.Booked) → before a b now = decide ((yaY a.Train)[0]?.getD 0 < (yaY b.Train)[0]?.getD 0):=fun h5 h6=>by
  unfold before; rw [if_neg (by simp [h1,h2]),if_neg (by simp [h3]),if_neg h6,if_neg (by simp [h5])]
 have snc : a.Since ≠ b.Since → ¬ (yKQ a now = -1 ∧ a.Booked ≠ b.Booked) → before a b now = decide (a.Since < b.Since):=fun h5 h6=>by
  unfold before; rw [if_neg (by simp [h1,h2]),if_neg (by simp [h3]),if_neg h6,if_pos h5]
 have bkd : (yKQ a now = -1 ∧ a.Booked ≠ b.Booked) → before a b now = decide (a.Booked < b.Booked):=fun h6=>by
  unfold before; rw [if_neg (by simp [h1,h2]),if_neg (by simp [h3]),if_pos h6]
 obtain ⟨_,pa⟩:=yLz h1
 obtain ⟨_,pb⟩:=yLz h2
 obtain ⟨x,hx⟩ : ∃ x,(yaY a.Train)[0]? = some x:=⟨_,List.getElem?_eq_getElem pa⟩
 obtain ⟨y,hy⟩ : ∃ x,(yaY b.Train)[0]? = some x:=⟨_,List.getElem?_eq_getElem pb⟩
 have gx:=(List.getElem?_eq_some_iff.1 hx).2
 have gy:=(List.getElem?_eq_some_iff.1 hy).2
 by_cases h6 : yKQ a now = -1 ∧ a.Booked ≠ b.Booked
 ·have h3' : yKQ b now = -1:=by rw [← h3]; exact h6.1
  simp -dsimp -implicitDefEqProofs [h1,h2,h3,h6.1,h6.2,h3']
  rw [bkd h6]
 by_cases h5 : a.Since = b.Since
 rotate_left
 ·by_cases h7 : yKQ a now = -1
  ·have h8 : a.Booked = b.Booked:=by
    by_cases h : a.Booked = b.Booked
    ·exact h
    ·exact absurd ⟨h7,h⟩ h6
   have h3' : yKQ b now = -1:=by rw [← h3]; exact h7
   simp -dsimp -implicitDefEqProofs [h7,h8,h5,h3']
   rw [snc h5 h6]
  ·have h3' : ¬ yKQ b now = -1:=by rw [← h3]; exact h7
   simp -dsimp -implicitDefEqProofs [h1,h2,h3,h5,h3']
   rw [snc h5 h6]
 ·have hl:=last h5 h6
  rw [hx,hy] at hl
  simp only [Option.getD_some] at hl
  by_cases h7 : yKQ a now = -1
  ·have h8 : a.Booked = b.Booked:=by
    by_cases h : a.Booked = b.Booked
    ·exact h
    ·exact absurd ⟨h7,h⟩ h6
   have h3' : yKQ b now = -1:=by rw [← h3]; exact h7
   simp -dsimp -implicitDefEqProofs [h7,h8,h5,h3']
   first
    | refine yaQ (yuz a.Train ha) (by simp) rfl ?_
    | refine yaP (yuz a.Train ha) (by simp) rfl ?_
    | refine ⟨_,_,yuz a.Train ha,by simp,.inr rfl,?_⟩
    | refine ⟨_,_,yuz a.Train ha,by simp,.inl rfl,?_⟩
    | refine ya2 (yuz a.Train ha) (by simp) (.inr rfl) ?_
    | refine ya2 (yuz a.Train ha) (by simp) (.inl rfl) ?_
   simp -dsimp -implicitDefEqProofs [pa,hx,gx]
   first
    | refine yaQ (yuz b.Train hb) (by simp) rfl ?_
    | refine yaP (yuz b.Train hb) (by simp) rfl ?_
    | refine ⟨_,_,yuz b.Train hb,by simp,.inr rfl,?_⟩
    | refine ⟨_,_,yuz b.Train hb,by simp,.inl rfl,?_⟩
    | refine ya2 (yuz b.Train hb) (by simp) (.inr rfl) ?_
    | refine ya2 (yuz b.Train hb) (by simp) (.inl rfl) ?_
   simp -dsimp -implicitDefEqProofs [pb,hy,gy]
   rw [hl]
  ·have h3' : ¬ yKQ b now = -1:=by rw [← h3]; exact h7
   simp -dsimp -implicitDefEqProofs [h1,h2,h3,h5,h3']
   first
    | refine yaQ (yuz a.Train ha) (by simp) rfl ?_
    | refine yaP (yuz a.Train ha) (by simp) rfl ?_
    | refine ⟨_,_,yuz a.Train ha,by simp,.inr rfl,?_⟩
    | refine ⟨_,_,yuz a.Train ha,by simp,.inl rfl,?_⟩
    | refine ya2 (yuz a.Train ha) (by simp) (.inr rfl) ?_
    | refine ya2 (yuz a.Train ha) (by simp) (.inl rfl) ?_
   simp -dsimp -implicitDefEqProofs [pa,hx,gx]
   first
    | refine yaQ (yuz b.Train hb) (by simp) rfl ?_
    | refine yaP (yuz b.Train hb) (by simp) rfl ?_
    | refine ⟨_,_,yuz b.Train hb,by simp,.inr rfl,?_⟩
    | refine ⟨_,_,yuz b.Train hb,by simp,.inl rfl,?_⟩
    | refine ya2 (yuz b.Train hb) (by simp) (.inr rfl) ?_
    | refine ya2 (yuz b.Train hb) (by simp) (.inl rfl) ?_
   simp -dsimp -implicitDefEqProofs [pb,hy,gy]
   rw [hl]
def yKP (x : Nat) : List C:=[.i x]
def yLY (lt : Nat → Nat → Bool) (x : Nat) (P : List Nat) : List Nat:=(P.reverse.dropWhile (lt x)).reverse ++ x :: (P.reverse.takeWhile (lt x)).reverse
def yLg (lt : Nat → Nat → Bool) (xs : List Nat) : Nat → List Nat
 | 0=>[]
 | i + 1=>match xs[i]? with
  | some x=>yLY lt x (yLg lt xs i)
  | none=>yLg lt xs i
theorem yLs {p : Nat → Bool} : ∀ {a b : List Nat},(∀ x ∈ a,p x = true) → (∀ y l,b = y :: l → p y = false) → (a ++ b).takeWhile p = a ∧ (a ++ b).dropWhile p = b
 | [],[],_,_=>⟨rfl,rfl⟩
 | [],y :: l,_,h=>by
  have:=h y l rfl
  simp [List.takeWhile_cons,List.dropWhile_cons,this]
 | x :: a,b,h1,h2=>by
  have hx:=h1 x (by simp)
  obtain ⟨e1,e2⟩:=yLs (p:=p) (a:=a) (b:=b) (fun y hy=>h1 y (by simp [hy])) h2
  simp [List.takeWhile_cons,List.dropWhile_cons,hx,e1,e2]
theorem yMo {lt : Nat → Nat → Bool} {x : Nat} {P l1 l2 : List Nat} (e : l1 ++ l2 = P) (h2 : ∀ y ∈ l2,lt x y = true) (h1 : ∀ l y,l1 = l ++ [y] → lt x y = false) : yLY lt x P = l1 ++ x :: l2:=by
 have hr : P.reverse = l2.reverse ++ l1.reverse:=by rw [← e,List.reverse_append]
 obtain ⟨e1,e2⟩:=yLs (p:=lt x) (a:=l2.reverse) (b:=l1.reverse) (fun y hy=>h2 y (List.mem_reverse.1 hy)) (fun y l h=>h1 l.reverse y (by
  have:=congrArg List.reverse h
  simpa using this))
 unfold yLY
 rw [hr,e1,e2,List.reverse_reverse,List.reverse_reverse]
theorem yMZ {lt : Nat → Nat → Bool} {x : Nat} {P : List Nat} : (yLY lt x P).Perm (x :: P):=by
 have h : (P.reverse.dropWhile (lt x)).reverse ++ (P.reverse.takeWhile (lt x)).reverse = P:=by
  rw [← List.reverse_append,List.takeWhile_append_dropWhile,List.reverse_reverse]
 unfold yLY
 refine List.perm_middle.trans ?_
 rw [h]
theorem yLe {lt : Nat → Nat → Bool} {xs : List Nat} {i x : Nat} (h : xs[i]? = some x) : yLg lt xs (i + 1) = yLY lt x (yLg lt xs i):=by
 rw [yLg,h]
theorem yLx {lt : Nat → Nat → Bool} {xs : List Nat} : ∀ i : Nat,i ≤ xs.length → (yLg lt xs i).Perm (xs.take i)
 | 0,_=>by simp [yLg]
 | i + 1,h=>by
  have ih:=yLx (lt:=lt) (xs:=xs) i (by omega)
  rw [yLe (List.getElem?_eq_getElem (show i < xs.length by omega)),List.take_succ,List.getElem?_eq_getElem (show i < xs.length by omega)]
  refine yMZ.trans ((ih.cons _).trans ?_)
  exact (List.perm_append_singleton _ _).symm
def sorted (lt : Nat → Nat → Bool) (xs : List Nat) : List Nat:=yLg lt xs xs.length
theorem sorted_perm {lt : Nat → Nat → Bool} {xs : List Nat} : (sorted lt xs).Perm xs:=by
 have:=yLx (lt:=lt) (xs:=xs) xs.length (Nat.le_refl _)
 rwa [List.take_length] at this
def gO (lt : Nat → Nat → Bool) (xs : List Nat) (i : Nat) : List Nat:=yLg lt xs i ++ xs.drop i
def gM (xs l1 l2 : List Nat) (x i : Nat) : List Nat:=(l1 ++ x :: l2) ++ xs.drop (i + 1)
theorem yNq {lt : Nat → Nat → Bool} {xs : List Nat} (h : 1 ≤ xs.length) : gO lt xs 1 = xs:=by
 obtain ⟨x,l,rfl⟩ : ∃ x l,xs = x :: l:=by cases xs with | nil=>simp at h | cons x l=>exact ⟨x,l,rfl⟩
 simp [gO,yLg,yLY]
theorem yNp {lt : Nat → Nat → Bool} {xs : List Nat} : gO lt xs xs.length = sorted lt xs:=by simp [gO,sorted]
theorem gO_go {lt : Nat → Nat → Bool} {xs : List Nat} {i x : Nat} (h : xs[i]? = some x) : gO lt xs i = gM xs (yLg lt xs i) [] x i:=by
 have hlt:=(List.getElem?_eq_some_iff.1 h).1
 have hx:=(List.getElem?_eq_some_iff.1 h).2
 unfold gO gM
 rw [List.drop_eq_getElem_cons hlt,hx]; simp
theorem yNc {lt : Nat → Nat → Bool} {xs : List Nat} {i x : Nat} {l1 l2 : List Nat} (hx : xs[i]? = some x) (h : yLY lt x (yLg lt xs i) = l1 ++ x :: l2) : gM xs l1 l2 x i = gO lt xs (i + 1):=by
 unfold gO gM; rw [yLe hx,h]
theorem yNt {xs : List Nat} {i x : Nat} {l1 l2 : List Nat} (h : l1.length + l2.length = i) (h2 : i < xs.length) : (gM xs l1 l2 x i).length = xs.length:=by simp [gM]; omega
theorem yNo {xs : List Nat} {i x y : Nat} {l l2 : List Nat} : (gM xs (l ++ [y]) l2 x i)[l.length + 1]? = some x ∧ (gM xs (l ++ [y]) l2 x i)[l.length]? = some y ∧
 ((gM xs (l ++ [y]) l2 x i).set (l.length + 1) y).set l.length x = gM xs l (y :: l2) x i:=by
 unfold gM
 simp only [List.append_assoc,List.cons_append,List.nil_append]
 refine ⟨by simp [List.getElem?_append],by simp [List.getElem?_append],?_⟩
 simp [List.set_append]
def yKO (cmp : Nat → Nat → Int) (x y : Nat) : Bool:=decide (cmp x y < 0)
theorem yMR (o : List Nat) : (cw 1 (o.map yKP)).closed:=by
 cases o with
 | nil=>simp [cw,C.closed]
 | cons x l=>simp [cw,C.closed,yKP]
theorem yME (f : Nat) (a b : List C) : InF Try.prog 49 (.c (.sl 1 [])) (.c (.sl 1 [])) [.c (.i 0),.c (.i 0),.fn f [.elt a,.elt b]] (.tup []):=by
 refine ybO yKZ (by simp) (by simp) rfl fun hwf=>?_
 simp -dsimp -implicitDefEqProofs
 refine ⟨by unfold inI; omega,?_⟩
 refine yg (ι:=Unit) (fun _=>True) (fun _=>yO [(2,.c (.i 0)),(8,.c (.i 1)),(1000000,.c (.sl 1 []))] []) (fun _=>0) () trivial (by apply yj <;> simp) ?_
 rintro _ _
 simp -dsimp -implicitDefEqProofs
 simp [yml]
theorem yM4 (f : Nat) (a b : List C) : InF Try.prog 39 (.c (.sl 1 [])) (.c (.sl 1 [])) [.c (.i 0),.fn f [.elt a,.elt b]] (.tup []):=by
 refine ybO yK5 (by simp) (by simp) rfl fun hwf=>?_
 simp -dsimp -implicitDefEqProofs
 refine yg (ι:=Unit) (fun _=>True) (fun _=>yO [(0,.c (.sl 1 [])),(1,.c (.i 0)),(2,.fn f [.elt a,.elt b]),(6,.c (.i 20)),(7,.c (.i 0)),(8,.c (.i 20)),(1000000,.c (.sl 1 []))] []) (fun _=>0) () trivial (by apply yj <;> simp) ?_
 rintro _ _
 simp -dsimp -implicitDefEqProofs
 refine ycW (up:=none) (yME f a b) (by simp) rfl rfl (yb6 rfl) ?_
 simp -dsimp -implicitDefEqProofs
 refine yg (ι:=Unit) (fun _=>True) (fun _=>yO [(1,.c (.i 0)),(6,.c (.i 20)),(1000000,.c (.sl 1 []))] []) (fun _=>0) () trivial (by apply yj <;> simp) ?_
 rintro _ _
 simp -dsimp -implicitDefEqProofs
 simp [yml]
theorem yMe (f : Nat) (a b : List C) : InF Try.prog 25 (.c (.sl 1 [])) (.c (.sl 1 [])) [.fn f [.elt a,.elt b]] (.tup []):=by
 refine ybO yK1 (by simp) (by simp) rfl fun hwf=>?_
 simp -dsimp -implicitDefEqProofs
 refine ycW (up:=none) (yM4 f a b) (by simp) rfl rfl (yb6 rfl) ?_
 simp -dsimp -implicitDefEqProofs
 simp [yml]
def yLX (list : List CallT) (now : Int) (x y : Nat) : Int :=
 match list[x]?,list[y]? with
 | some a,some b=>if before a b now then -1 else if before b a now then 1 else 0
 | _,_=>0
theorem yMA (list : List CallT) (now : Int) (hs : yfi list) (x y : Nat) (hx : x < list.length) (hy : y < list.length) :
 yB Try.prog 26 [.c (.i x),.c (.i y),.elt [.sl 4 (list.map CallT.enc)],.elt [.i now]] (.c (.i (yLX list now x y))):=by
 obtain ⟨a,ha⟩ : ∃ e,list[x]? = some e:=⟨_,List.getElem?_eq_getElem hx⟩
 obtain ⟨b,hb⟩ : ∃ e,list[y]? = some e:=⟨_,List.getElem?_eq_getElem hy⟩
 have g1:=(List.getElem?_eq_some_iff.1 ha).2
 have g2:=(List.getElem?_eq_some_iff.1 hb).2
 have sa:=hs.2 a (List.mem_of_getElem? ha)
 have sb:=hs.2 b (List.mem_of_getElem? hb)
 have e : yLX list now x y = if before a b now then -1 else if before b a now then 1 else 0:=by simp [yLX,ha,hb]
 rw [e]
 refine yh yLA ?_
 simp -dsimp -implicitDefEqProofs [yLc,ha,hb,g1,g2,hx,hy]
 first
  | refine yaQ (yKR a b now sa sb) (by simp) rfl ?_
  | refine yaP (yKR a b now sa sb) (by simp) rfl ?_
  | refine ⟨_,_,yKR a b now sa sb,by simp,.inr rfl,?_⟩
  | refine ⟨_,_,yKR a b now sa sb,by simp,.inl rfl,?_⟩
  | refine ya2 (yKR a b now sa sb) (by simp) (.inr rfl) ?_
  | refine ya2 (yKR a b now sa sb) (by simp) (.inl rfl) ?_
 cases h1 : before a b now with
 | true=>simp -dsimp -implicitDefEqProofs
 | false =>
 simp -dsimp -implicitDefEqProofs [ha,hb,g1,g2,hx,hy]
 first
  | refine yaQ (yKR b a now sb sa) (by simp) rfl ?_
  | refine yaP (yKR b a now sb sa) (by simp) rfl ?_
  | refine ⟨_,_,yKR b a now sb sa,by simp,.inr rfl,?_⟩
  | refine ⟨_,_,yKR b a now sb sa,by simp,.inl rfl,?_⟩
  | refine ya2 (yKR b a now sb sa) (by simp) (.inr rfl) ?_
  | refine ya2 (yKR b a now sb sa) (by simp) (.inl rfl) ?_
 cases h2 : before b a now with
 | true=>simp -dsimp -implicitDefEqProofs
 | false=>simp -dsimp -implicitDefEqProofs
def yK2 (list : List CallT) (now : Int) (k : Nat) : List Nat:=(List.range k).filter fun i=>decide (yKQ (list[i]?.getD default) now ≠ 3)
theorem yLV {list : List CallT} {now : Int} {k : Nat} {c : CallT} (h : list[k]? = some c) : yK2 list now (k + 1) = if yKQ c now = 3 then yK2 list now k else yK2 list now k ++ [k]:=by
 unfold yK2
 rw [List.range_succ,List.filter_append]
 by_cases h2 : yKQ c now = 3 <;> simp [h,h2]
theorem yMV {list : List CallT} {now : Int} {k x : Nat} (h : x ∈ yK2 list now k) : x < k:=by
 unfold yK2 at h
 exact List.mem_range.1 (List.mem_filter.1 h).1
theorem yLG {list : List CallT} {now : Int} {k : Nat} : (yK2 list now k).length ≤ k:=by
 unfold yK2
 exact Nat.le_trans (List.length_filter_le _ _) (by simp)
def yLb (list : List CallT) (now : Int) : List Nat:=sorted (yKO (yLX list now)) (yK2 list now list.length)
structure SWO (lt : Nat → Nat → Bool) (S : Nat → Prop) : Prop where
 asym : ∀ x y,S x → S y → lt x y = true → lt y x = false
 trans : ∀ x y z,S x → S y → S z → lt x y = true → lt y z = true → lt x z = true
 neg : ∀ x y z,S x → S y → S z → lt x y = false → lt y z = false → lt x z = false
def tot (lt : Nat → Nat → Bool) (x y : Nat) : Prop:=lt x y = true ∨ (lt y x = false ∧ x < y)
section
variable {lt : Nat → Nat → Bool} {S : Nat → Prop}
theorem yLy (h : SWO lt S) {x y z : Nat} (hx : S x) (hy : S y) (hz : S z) (h1 : tot lt x y) (h2 : tot lt y z) : tot lt x z:=by
 rcases h1 with h1 | ⟨h1,h1'⟩ <;> rcases h2 with h2 | ⟨h2,h2'⟩
 ·exact .inl (h.trans x y z hx hy hz h1 h2)
 ·left
  cases h3 : lt x z with
  | true=>rfl
  | false=>rw [h.neg x z y hx hz hy h3 h2] at h1; cases h1
 ·left
  cases h3 : lt x z with
  | true=>rfl
  | false=>rw [h.neg y x z hy hx hz h1 h3] at h2; cases h2
 ·exact .inr ⟨h.neg z y x hz hy hx h2 h1,by omega⟩
theorem yMy (h : SWO lt S) {x y : Nat} (hx : S x) (hy : S y) (h1 : tot lt x y) (h2 : tot lt y x) : False:=by
 rcases h1 with h1 | ⟨h1,h1'⟩ <;> rcases h2 with h2 | ⟨h2,h2'⟩
 ·rw [h.asym x y hx hy h1] at h2; cases h2
 ·rw [h1] at h2; cases h2
 ·rw [h1] at h2; cases h2
 ·omega
theorem yMO {x y : Nat} (h : x ≠ y) : tot lt x y ∨ tot lt y x:=by
 cases h1 : lt x y with
 | true=>exact .inl (.inl h1)
 | false =>
  cases h2 : lt y x with
  | true=>exact .inr (.inl h2)
  | false =>
   rcases Nat.lt_or_gt_of_ne h with h | h
   ·exact .inl (.inr ⟨h2,h⟩)
   ·exact .inr (.inr ⟨h1,h⟩)
theorem yK4 (h : SWO lt S) : ∀ {a b : List Nat},(∀ x ∈ a,S x) → a.Perm b → a.Pairwise (tot lt) → b.Pairwise (tot lt) → a = b
 | [],b,_,hp,_,_=>(List.nil_perm.1 hp).symm
 | x :: a,[],_,hp,_,_=>by simp at hp
 | x :: a,y :: b,hS,hp,ha,hb=>by
  rw [List.pairwise_cons] at ha hb
  have e : x = y:=by
   rcases Decidable.em (x = y) with e | e
   ·exact e
   ·have h1 : x ∈ b:=by
     have : x ∈ y :: b:=hp.mem_iff.1 (by simp)
     rcases List.mem_cons.1 this with h1 | h1
     ·exact absurd h1 e
     ·exact h1
    have h2 : y ∈ a:=by
     have : y ∈ x :: a:=hp.mem_iff.2 (by simp)
     rcases List.mem_cons.1 this with h2 | h2
     ·exact absurd h2.symm e
     ·exact h2
    exact (yMy h (hS x (by simp)) (hS y (by simp [h2])) (ha.1 y h2) (hb.1 x h1)).elim
  subst e
  rw [yK4 h (fun z hz=>hS z (by simp [hz])) hp.cons_inv ha.2 hb.2]
theorem yLD (h : SWO lt S) {x : Nat} (hx : S x) : ∀ {a : List Nat},(∀ y ∈ a,S y) → x ∉ a → a.Pairwise (tot lt) → ∃ b : List Nat,b.Perm (x :: a) ∧ b.Pairwise (tot lt)
 | [],_,_,_=>⟨[x],.refl _,by simp⟩
 | y :: a,hS,hn,ha=>by
  have hxy : x ≠ y:=fun e=>hn (by simp [e])
  rw [List.pairwise_cons] at ha
  rcases yMO (lt:=lt) hxy with h1 | h1
  ·refine ⟨x :: y :: a,.refl _,?_⟩
   rw [List.pairwise_cons,List.pairwise_cons]
   refine ⟨fun z hz=>?_,ha⟩
   rcases List.mem_cons.1 hz with rfl | hz
   ·exact h1
   ·exact yLy h hx (hS y (by simp)) (hS z (by simp [hz])) h1 (ha.1 z hz)
  ·obtain ⟨b,hb1,hb2⟩:=yLD h hx (a:=a) (fun z hz=>hS z (by simp [hz])) (fun e=>hn (by simp [e])) ha.2
   refine ⟨y :: b,(hb1.cons y).trans (.swap _ _ _),?_⟩
   rw [List.pairwise_cons]
   refine ⟨fun z hz=>?_,hb2⟩
   rcases List.mem_cons.1 (hb1.mem_iff.1 hz) with rfl | hz
   ·exact h1
   ·exact ha.1 z hz
theorem yLC (h : SWO lt S) : ∀ {a : List Nat},(∀ y ∈ a,S y) → a.Nodup → ∃ b : List Nat,b.Perm a ∧ b.Pairwise (tot lt)
 | [],_,_=>⟨[],.refl _,by simp⟩
 | x :: a,hS,hn=>by
  rw [List.nodup_cons] at hn
  obtain ⟨b,h1,h2⟩:=yLC h (a:=a) (fun y hy=>hS y (by simp [hy])) hn.2
  obtain ⟨c,h3,h4⟩:=yLD h (hS x (by simp)) (a:=b) (fun y hy=>hS y (by simp [h1.mem_iff.1 hy])) (fun e=>hn.1 (h1.mem_iff.1 e)) h2
  exact ⟨c,h3.trans (h1.cons x),h4⟩
theorem yLQ (h : SWO lt S) : ∀ {a : List Nat},(∀ y ∈ a,S y) → a.Pairwise (tot lt) → a.Nodup
 | [],_,_=>by simp
 | x :: a,hS,ha=>by
  rw [List.pairwise_cons] at ha
  rw [List.nodup_cons]
  refine ⟨fun e=>?_,yLQ h (fun y hy=>hS y (by simp [hy])) ha.2⟩
  have:=ha.1 x e
  exact yMy h (hS x (by simp)) (hS x (by simp)) this this
theorem yNb (h : SWO lt S) {x : Nat} {P : List Nat} (hx : S x) (hP : ∀ y ∈ P,S y) (hlt : ∀ y ∈ P,y < x) (hs : P.Pairwise (tot lt)) : (yLY lt x P).Pairwise (tot lt):=by
 have e : (P.reverse.dropWhile (lt x)).reverse ++ (P.reverse.takeWhile (lt x)).reverse = P:=by
  rw [← List.reverse_append,List.takeWhile_append_dropWhile,List.reverse_reverse]
 have h2 : ∀ y ∈ (P.reverse.takeWhile (lt x)).reverse,lt x y = true:=fun y hy=>List.all_eq_true.1 List.all_takeWhile y (List.mem_reverse.1 hy)
 have h1 : ∀ l y,(P.reverse.dropWhile (lt x)).reverse = l ++ [y] → lt x y = false:=by
  intro l y he
  have he2 : P.reverse.dropWhile (lt x) = y :: l.reverse:=by
   have:=congrArg List.reverse he
   simpa using this
  have:=List.head?_dropWhile_not (lt x) P.reverse
  rw [he2] at this
  simpa using this
 unfold yLY
 generalize (P.reverse.dropWhile (lt x)).reverse = l1 at *
 generalize (P.reverse.takeWhile (lt x)).reverse = l2 at *
 subst e
 rw [List.pairwise_append] at hs ⊢
 obtain ⟨s1,s2,s3⟩:=hs
 refine ⟨s1,?_,fun a ha b hb=>?_⟩
 ·rw [List.pairwise_cons]; exact ⟨fun y hy=>.inl (h2 y hy),s2⟩
 ·rcases List.mem_cons.1 hb with rfl | hb
  ·rcases List.eq_nil_or_concat l1 with e | ⟨l,z,e⟩
   ·subst e; cases ha
   ·rw [List.concat_eq_append] at e
    have hz:=h1 l z e
    subst e
    have hzx : tot lt z b:=.inr ⟨hz,hlt z (by simp)⟩
    rcases List.mem_append.1 ha with ha' | ha'
    ·rw [List.pairwise_append] at s1
     exact yLy h (hP a (by simp [ha'])) (hP z (by simp)) hx (s1.2.2 a ha' z (by simp)) hzx
    ·rw [List.mem_singleton] at ha'; subst ha'; exact hzx
  ·exact s3 a ha b hb
theorem yMw (h : SWO lt S) {xs : List Nat} (hS : ∀ y ∈ xs,S y) (hup : xs.Pairwise (·< ·)) : ∀ i : Nat,i ≤ xs.length → (yLg lt xs i).Pairwise (tot lt)
 | 0,_=>by simp [yLg]
 | i + 1,hi=>by
  have hx : xs[i]? = some (xs[i]'(by omega)):=List.getElem?_eq_getElem (by omega)
  have hp:=yLx (lt:=lt) (xs:=xs) i (by omega)
  rw [yLe hx]
  refine yNb h (hS _ (List.getElem_mem _)) (fun y hy=>hS y (List.mem_of_mem_take (hp.mem_iff.1 hy))) (fun y hy=>?_) (yMw h hS hup i (by omega))
  obtain ⟨j,hj,rfl⟩:=List.mem_iff_getElem.1 (hp.mem_iff.1 hy)
  rw [List.length_take] at hj
  rw [List.getElem_take]
  exact List.pairwise_iff_getElem.1 hup j i _ _ (by omega)
theorem yLI (h : SWO lt S) {xs : List Nat} (hS : ∀ y ∈ xs,S y) (hup : xs.Pairwise (·< ·)) : (sorted lt xs).Pairwise (tot lt):=yMw h hS hup _ (Nat.le_refl _)
end
section
variable {lt : Nat → Nat → Bool} {S : Nat → Prop} {l r : List Nat}
theorem yMc (h : SWO lt S) {x u : Nat} {i : Nat} (sl : l.Pairwise (tot lt)) (hx : x ∈ l.take i) (hu : l[i - 1]? = some u) : x = u ∨ tot lt x u:=by
 obtain ⟨k,hk,rfl⟩:=List.mem_iff_getElem.1 hx
 rw [List.length_take] at hk
 rw [List.getElem_take]
 obtain ⟨hi,rfl⟩:=List.getElem?_eq_some_iff.1 hu
 rcases Nat.lt_or_ge k (i - 1) with h1 | h1
 ·exact .inr (List.pairwise_iff_getElem.1 sl k (i - 1) _ _ h1)
 ·have : k = i - 1:=by omega
  subst this; exact .inl rfl
theorem yLU (h : SWO lt S) {y v : Nat} {j : Nat} (sr : r.Pairwise (tot lt)) (hy : y ∈ r.drop j) (hv : r[j]? = some v) : y = v ∨ tot lt v y:=by
 obtain ⟨k,hk,rfl⟩:=List.mem_iff_getElem.1 hy
 rw [List.length_drop] at hk
 rw [List.getElem_drop]
 obtain ⟨hj,rfl⟩:=List.getElem?_eq_some_iff.1 hv
 rcases Nat.eq_zero_or_pos k with h1 | h1
 ·subst h1; exact .inl rfl
 ·exact .inr (List.pairwise_iff_getElem.1 sr j (j + k) _ _ (by omega))
theorem yMi (h : SWO lt S) (hl : ∀ x ∈ l,S x) (hr : ∀ x ∈ r,S x) (sl : l.Pairwise (tot lt)) (sr : r.Pairwise (tot lt)) {i j : Nat}
 (hA : i = 0 ∨ r.length ≤ j ∨ ∃ u v,l[i - 1]? = some u ∧ r[j]? = some v ∧ tot lt u v) {x y : Nat} (hx : x ∈ l.take i) (hy : y ∈ r.drop j) : tot lt x y:=by
 rcases hA with e | e | ⟨u,v,hu,hv,huv⟩
 ·subst e; simp at hx
 ·rw [List.drop_of_length_le e] at hy; cases hy
 ·have su:=hl u (List.mem_of_getElem? hu)
  have sv:=hr v (List.mem_of_getElem? hv)
  have sx:=hl x (List.mem_of_mem_take hx)
  have sy:=hr y (List.mem_of_mem_drop hy)
  have h1 : tot lt x v:=by
   rcases yMc h sl hx hu with e | e
   ·rw [e]; exact huv
   ·exact yLy h sx su sv e huv
  rcases yLU h sr hy hv with e | e
  ·rw [e]; exact h1
  ·exact yLy h sx sv sy h1 e
theorem yNf (h : SWO lt S) (hl : ∀ x ∈ l,S x) (hr : ∀ x ∈ r,S x) (sl : l.Pairwise (tot lt)) (sr : r.Pairwise (tot lt)) {i j : Nat}
 (hA : i = 0 ∨ r.length ≤ j ∨ ∃ u v,l[i - 1]? = some u ∧ r[j]? = some v ∧ tot lt u v)
 (hB : j = 0 ∨ l.length ≤ i ∨ ∃ u v,r[j - 1]? = some u ∧ l[i]? = some v ∧ tot lt u v) : ∀ x ∈ l.take i ++ r.take j,∀ y ∈ l.drop i ++ r.drop j,tot lt x y:=by
 have pw : ∀ {a : List Nat} {k : Nat},a.Pairwise (tot lt) → ∀ x ∈ a.take k,∀ y ∈ a.drop k,tot lt x y:=by
  intro a k ha x hx y hy
  rw [← List.take_append_drop k a,List.pairwise_append] at ha
  exact ha.2.2 x hx y hy
 intro x hx y hy
 rcases List.mem_append.1 hx with hx | hx <;> rcases List.mem_append.1 hy with hy | hy
 ·exact pw sl x hx y hy
 ·exact yMi h hl hr sl sr hA hx hy
 ·exact yMi h hr hl sr sl hB hx hy
 ·exact pw sr x hx y hy
theorem halves (h : SWO lt S) (hl : ∀ x ∈ l,S x) (hr : ∀ x ∈ r,S x) {i j : Nat} {o o1 o2 : List Nat} (ho : o.Perm (l ++ r)) (so : o.Pairwise (tot lt))
 (h1 : o1.Perm (l.take i ++ r.take j)) (s1 : o1.Pairwise (tot lt)) (h2 : o2.Perm (l.drop i ++ r.drop j)) (s2 : o2.Pairwise (tot lt))
 (hc : ∀ x ∈ l.take i ++ r.take j,∀ y ∈ l.drop i ++ r.drop j,tot lt x y) : o = o1 ++ o2:=by
 have hp : (o1 ++ o2).Perm (l ++ r):=by
  refine (h1.append h2).trans ?_
  have e : (l.take i ++ r.take j ++ (l.drop i ++ r.drop j)).Perm (l.take i ++ l.drop i ++ (r.take j ++ r.drop j)):=by
   rw [List.append_assoc,List.append_assoc]
   refine .append_left _ ?_
   rw [← List.append_assoc,← List.append_assoc]
   exact .append_right _ List.perm_append_comm
  rw [List.take_append_drop,List.take_append_drop] at e
  exact e
 refine yK4 h (fun x hx=>?_) (ho.trans hp.symm) so ?_
 ·rcases List.mem_append.1 (ho.mem_iff.1 hx) with hx | hx
  ·exact hl x hx
  ·exact hr x hx
 ·rw [List.pairwise_append]
  exact ⟨s1,s2,fun x hx y hy=>hc x (h1.mem_iff.1 hx) y (h2.mem_iff.1 hy)⟩
theorem yMJ {x y : Nat} (h : x < y) (h1 : lt y x = false) : tot lt x y:=by
 cases h2 : lt x y with
 | true=>exact .inl h2
 | false=>exact .inr ⟨h1,h⟩
theorem yMs (h : SWO lt S) (hl : ∀ x ∈ l,S x) (hr : ∀ x ∈ r,S x) (sl : l.Pairwise (tot lt)) (sr : r.Pairwise (tot lt)) (hc : ∀ x ∈ l,∀ y ∈ r,x < y) : (l ++ r).Nodup:=by
 rw [List.nodup_append]
 refine ⟨yLQ h hl sl,yLQ h hr sr,fun x hx y hy e=>?_⟩
 have:=hc x hx y hy
 omega
end
theorem yMq {P R Q : List Nat} {x y : Nat} {i j : Nat} (hi : i = P.length) (hj : j = P.length + 1 + R.length) : (P ++ x :: (R ++ y :: Q))[i]? = some x ∧ (P ++ x :: (R ++ y :: Q))[j]? = some y ∧
 ((P ++ x :: (R ++ y :: Q)).set i y).set j x = P ++ y :: (R ++ x :: Q):=by
 subst hi hj
 refine ⟨by simp [List.getElem?_append],?_,?_⟩
 ·rw [List.getElem?_append_right (by omega),show P.length + 1 + R.length - P.length = R.length + 1 by omega,List.getElem?_cons_succ,List.getElem?_append_right (by omega)]
  simp
 ·rw [List.set_append,if_neg (by omega),Nat.sub_self,List.set_cons_zero,List.set_append,if_neg (by omega),show P.length + 1 + R.length - P.length = R.length + 1 by omega,List.set_cons_succ,List.set_append,if_neg (by omega),Nat.sub_self,List.set_cons_zero]
theorem yLZ {A l B : List Nat} {t k : Nat} (hk : k = A.length + t) (h : t < l.length) : (A ++ (l ++ B))[k]? = l[t]?:=by
 subst hk
 rw [List.getElem?_append_right (by omega),Nat.add_sub_cancel_left,List.getElem?_append_left h]
theorem set_mid {A l B : List Nat} {t k v : Nat} (hk : k = A.length + t) (h : t < l.length) : (A ++ (l ++ B)).set k v = A ++ (l.set t v ++ B):=by
 subst hk
 rw [List.set_append_right _ _ (by omega),Nat.add_sub_cancel_left,List.set_append_left _ _ h]
def yKU (A l B : List Nat) : List Nat:=A ++ (l ++ B)
theorem yK6 {A l B : List Nat} : (yKU A l B).length = A.length + l.length + B.length:=by simp [yKU]; omega
theorem yNs {A B xs l l2 : List Nat} {t x y q j m : Nat} (hq : q = A.length) (hj : j = q + l.length + 1) (hm : m = q + l.length) :
 (yKU A (gM xs (l ++ [y]) l2 x t) B)[j]? = some x ∧ (yKU A (gM xs (l ++ [y]) l2 x t) B)[m]? = some y ∧
 ((yKU A (gM xs (l ++ [y]) l2 x t) B).set j y).set m x = yKU A (gM xs l (y :: l2) x t) B:=by
 unfold yKU
 obtain ⟨w1,w2,w3⟩:=yNo (xs:=xs) (i:=t) (x:=x) (y:=y) (l:=l) (l2:=l2)
 have k1:=(List.getElem?_eq_some_iff.1 w1).1
 have k2:=(List.getElem?_eq_some_iff.1 w2).1
 refine ⟨by rw [yLZ (t:=l.length + 1) (by omega) k1]; exact w1,by rw [yLZ (t:=l.length) (by omega) k2]; exact w2,?_⟩
 rw [set_mid (t:=l.length + 1) (by omega) k1,set_mid (t:=l.length) (by omega) (by simpa using k2),w3]
section
variable {lt : Nat → Nat → Bool} {S : Nat → Prop} {l r : List Nat}
theorem yNr (h : SWO lt S) (hr : ∀ x ∈ r,S x) {x y : Nat} {k : Nat} (hx : S x) (sr : r.Pairwise (tot lt)) (hy : r[k]? = some y) (hl : lt y x = true) : ∀ u ∈ r.take (k + 1),lt u x = true:=by
 intro u hu
 have hy0:=hr y (List.mem_of_getElem? hy)
 have hu0:=hr u (List.mem_of_mem_take hu)
 rcases yMc (i:=k + 1) h sr hu (by simpa using hy) with e | e
 ·rw [e]; exact hl
 ·cases h1 : lt u x with
  | true=>rfl
  | false =>
   cases h2 : lt y u with
   | true=>rcases e with e | e
           ·rw [h.asym u y hu0 hy0 e] at h2; cases h2
           ·rw [e.1] at h2; cases h2
   | false=>rw [h.neg y u x hy0 hu0 hx h2 h1] at hl; cases hl
theorem yNj (h : SWO lt S) (hr : ∀ x ∈ r,S x) {x y : Nat} {k : Nat} (hx : S x) (sr : r.Pairwise (tot lt)) (hy : r[k]? = some y) (hl : lt y x = false) : ∀ u ∈ r.drop k,lt u x = false:=by
 intro u hu
 have hy0:=hr y (List.mem_of_getElem? hy)
 have hu0:=hr u (List.mem_of_mem_drop hu)
 rcases yLU h sr hu hy with e | e
 ·rw [e]; exact hl
 ·have h3 : lt u y = false:=by
   rcases e with e | e
   ·exact h.asym y u hy0 hu0 e
   ·exact e.1
  exact h.neg u y x hu0 hy0 hx h3 hl
theorem yNl (h : SWO lt S) (hr : ∀ x ∈ r,S x) {x y : Nat} {k : Nat} (hx : S x) (sr : r.Pairwise (tot lt)) (hy : r[k]? = some y) (hl : lt x y = false) : ∀ u ∈ r.take (k + 1),lt x u = false:=by
 intro u hu
 have hy0:=hr y (List.mem_of_getElem? hy)
 have hu0:=hr u (List.mem_of_mem_take hu)
 rcases yMc (i:=k + 1) h sr hu (by simpa using hy) with e | e
 ·rw [e]; exact hl
 ·have h3 : lt y u = false:=by
   rcases e with e | e
   ·exact h.asym u y hu0 hy0 e
   ·exact e.1
  exact h.neg x y u hx hy0 hu0 hl h3
theorem yM6 (h : SWO lt S) (hr : ∀ x ∈ r,S x) {x y : Nat} {k : Nat} (hx : S x) (sr : r.Pairwise (tot lt)) (hy : r[k]? = some y) (hl : lt x y = true) : ∀ u ∈ r.drop k,lt x u = true:=by
 intro u hu
 have hy0:=hr y (List.mem_of_getElem? hy)
 have hu0:=hr u (List.mem_of_mem_drop hu)
 rcases yLU h sr hu hy with e | e
 ·rw [e]; exact hl
 ·cases h1 : lt x u with
  | true=>rfl
  | false =>
   have h3 : lt u y = false:=by
    rcases e with e | e
    ·exact h.asym y u hy0 hu0 e
    ·exact e.1
   rw [h.neg x u y hx hu0 hy0 h1 h3] at hl; cases hl
theorem yM8 (h : SWO lt S) (hr : ∀ x ∈ r,S x) {x : Nat} {k : Nat} {o : List Nat} (hx : S x) (sr : r.Pairwise (tot lt)) (hlt : ∀ u ∈ r,x < u) (h1 : ∀ u ∈ r.take k,lt u x = true) (h2 : ∀ u ∈ r.drop k,lt u x = false)
 (po : o.Perm ([x] ++ r)) (so : o.Pairwise (tot lt)) : o = r.take k ++ x :: r.drop k:=by
 have hp : (r.take k ++ x :: r.drop k).Perm ([x] ++ r):=by
  refine List.perm_middle.trans ?_
  rw [List.take_append_drop]; exact .refl _
 refine yK4 h (S:=S) (fun u hu=>?_) (po.trans hp.symm) so ?_
 ·rcases List.mem_append.1 (po.mem_iff.1 hu) with hu | hu
  ·simp at hu; subst hu; exact hx
  ·exact hr u hu
 ·rw [← List.take_append_drop k r,List.pairwise_append] at sr
  rw [List.pairwise_append,List.pairwise_cons]
  refine ⟨sr.1,⟨fun u hu=>yMJ (hlt u (List.mem_of_mem_drop hu)) (h2 u hu),sr.2.1⟩,fun u hu v hv=>?_⟩
  rcases List.mem_cons.1 hv with rfl | hv
  ·exact .inl (h1 u hu)
  ·exact sr.2.2 u hu v hv
theorem yMQ (h : SWO lt S) (hl : ∀ x ∈ l,S x) {y : Nat} {k : Nat} {o : List Nat} (hy : S y) (sl : l.Pairwise (tot lt)) (hlt : ∀ u ∈ l,u < y) (h1 : ∀ u ∈ l.take k,lt y u = false) (h2 : ∀ u ∈ l.drop k,lt y u = true)
 (po : o.Perm (l ++ [y])) (so : o.Pairwise (tot lt)) : o = l.take k ++ y :: l.drop k:=by
 have hp : (l.take k ++ y :: l.drop k).Perm (l ++ [y]):=by
  refine List.perm_middle.trans ?_
  rw [List.take_append_drop]
  exact (List.perm_append_comm (l₁:=[y]) (l₂:=l))
 refine yK4 h (S:=S) (fun u hu=>?_) (po.trans hp.symm) so ?_
 ·rcases List.mem_append.1 (po.mem_iff.1 hu) with hu | hu
  ·exact hl u hu
  ·simp at hu; subst hu; exact hy
 ·rw [← List.take_append_drop k l,List.pairwise_append] at sl
  rw [List.pairwise_append,List.pairwise_cons]
  refine ⟨sl.1,⟨fun u hu=>.inl (h2 u hu),sl.2.1⟩,fun u hu v hv=>?_⟩
  rcases List.mem_cons.1 hv with rfl | hv
  ·exact yMJ (hlt u (List.mem_of_mem_take hu)) (h1 u hu)
  ·exact sl.2.2 u hu v hv
end
theorem yL7 (cmp : Nat → Nat → Int) (A xs B M0 M1 : List Nat) (hM0 : M0 = yKU A xs B) (hM1 : M1 = yKU A (sorted (yKO cmp) xs) B) (q e N : Nat) (hq : q = A.length) (he : e = q + xs.length) (hN : N = M0.length) (hn : 1 ≤ N) (hn2 : N ≤ 1048576) (f : Nat) (a b : List C) (hf : ∃ fn,Try.prog.funcs[f]? = some fn ∧ fn.body.isSome = true ∧ (fn.name != "runtime.NumGoroutine") = true)
 (hc : ∀ x y : Nat,x ∈ xs → y ∈ xs → yB Try.prog f [.c (.i x),.c (.i y),.elt a,.elt b] (.c (.i (cmp x y)))) :
 InF Try.prog 49 (.c (cw 1 (M0.map yKP))) (.c (cw 1 (M1.map yKP))) [.c (.i q),.c (.i e),.fn f [.elt a,.elt b]] (.tup []):=by
 have hpl : (sorted (yKO cmp) xs).length = xs.length:=sorted_perm.length_eq
 have hL : M1.length = N:=by rw [hN,hM0,hM1,yK6,yK6,hpl]
 have hN2 : q + xs.length + B.length = N:=by rw [hN,hM0,yK6]; omega
 rw [yb4 (by rw [List.length_map]; omega),yb4 (by rw [List.length_map,hL]; omega)]
 refine ybO yKZ (by simp) (by simp) rfl fun hwf=>?_
 have hg1 : gO (yKO cmp) xs 1 = xs ∨ xs.length = 0:=by
  rcases Nat.eq_zero_or_pos xs.length with h | h
  ·exact .inr h
  ·exact .inl (yNq h)
 have hg2 : gO (yKO cmp) xs 1 = xs:=by
  rcases hg1 with h | h
  ·exact h
  ·rw [List.length_eq_zero_iff] at h; subst h; rfl
 have hg3 : xs.length = 0 → sorted (yKO cmp) xs = xs:=fun h=>by rw [List.length_eq_zero_iff] at h; subst h; rfl
 simp -dsimp -implicitDefEqProofs
 refine ⟨by unfold inI; omega,?_⟩
 refine yg (ι:=Nat) (fun i=>q + 1 ≤ i ∧ (i ≤ e ∨ i = q + 1)) (fun i=>yO [(0,.own 0 1 N),(1,.c (.i q)),(2,.c (.i e)),(3,.fn f [.elt a,.elt b]),(8,.c (.i i)),(1000000,.own 0 1 N)] [(0,.row 1 ((yKU A (gO (yKO cmp) xs (i - q)) B).map yKP))]) (fun i=>e - i) (q + 1) ⟨Nat.le_refl _,.inr rfl⟩ (by apply yj <;> simp [hg2,hN,hM0]) ?_
 rintro i ⟨hi1,hi⟩
 rcases Nat.lt_or_ge i e with hlt | hge
 ·obtain ⟨t,ht⟩ : ∃ t,t = i - q:=⟨_,rfl⟩
  rw [← ht]
  have hop:=yLx (lt:=yKO cmp) (xs:=xs) t (by omega)
  have hol : (yLg (yKO cmp) xs t).length = t:=by rw [hop.length_eq,List.length_take]; omega
  have hom : ∀ y ∈ yLg (yKO cmp) xs t,y ∈ xs:=fun y hy=>List.mem_of_mem_take (hop.mem_iff.1 hy)
  obtain ⟨x,hx⟩ : ∃ x,xs[t]? = some x:=⟨_,List.getElem?_eq_getElem (by omega)⟩
  have hxm:=List.mem_of_getElem? hx
  have ht1 : i + 1 - q = t + 1:=by omega
  simp -dsimp -implicitDefEqProofs [yG hlt]
  rw [gO_go hx]
  generalize hP : yLg (yKO cmp) xs t = P at *
  refine yg (ι:=Nat × List Nat × List Nat) (fun p=>p.1 = q + p.2.1.length ∧ p.2.1 ++ p.2.2 = P ∧ ∀ y ∈ p.2.2,yKO cmp x y = true) (fun p=>yO [(0,.own 0 1 N),(1,.c (.i q)),(2,.c (.i e)),(3,.fn f [.elt a,.elt b]),(8,.c (.i i)),(9,.c (.i p.1)),(1000000,.own 0 1 N)] [(0,.row 1 ((yKU A (gM xs p.2.1 p.2.2 x t) B).map yKP))]) (fun p=>p.1) (i,P,[]) ⟨by simp only; omega,by simp,by simp⟩ (by apply yj <;> simp) ?_
  rintro ⟨j,l1,l2⟩ ⟨hj,he2,h2⟩
  simp only at hj he2 h2
  rcases List.eq_nil_or_concat l1 with e0 | ⟨l,y,e0⟩
  ·subst e0
   have hins:=yMo (lt:=yKO cmp) (x:=x) he2 h2 (fun l y h=>by simp at h)
   have hend:=yNc (lt:=yKO cmp) hx (by rw [hP]; exact hins)
   have hjq : j = q:=by simpa using hj
   subst hjq
   simp -dsimp -implicitDefEqProofs
   refine ⟨by unfold inI; omega,i + 1,⟨by omega,by omega⟩,by omega,?_⟩
   apply yj <;> simp [hend,ht1]
  ·rw [List.concat_eq_append] at e0
   subst e0
   have hyP : y ∈ xs:=hom y (by rw [← he2]; simp)
   have hj2 : j = q + l.length + 1:=by rw [hj]; simp; omega
   obtain ⟨m,hm⟩ : ∃ m,m = q + l.length:=⟨_,rfl⟩
   obtain ⟨w1,w2,w3⟩:=yNs (A:=A) (B:=B) (xs:=xs) (t:=t) (x:=x) (y:=y) (l:=l) (l2:=l2) hq hj2 hm
   have hend:=fun h=>yNc (lt:=yKO cmp) (l1:=l ++ [y]) (l2:=l2) hx (by rw [hP]; exact yMo (lt:=yKO cmp) (x:=x) he2 h2 h)
   have hlen : (yKU A (gM xs (l ++ [y]) l2 x t) B).length = N:=by
    have:=yNt (x:=x) (xs:=xs) (l1:=l ++ [y]) (l2:=l2) (i:=t) (by rw [← List.length_append,he2,hol]) (by omega)
    rw [yK6,this]; omega
   have hll : j < N:=by rw [← hlen]; exact (List.getElem?_eq_some_iff.1 w1).1
   have hMe : (∀ l' y',l ++ [y] = l' ++ [y'] → yKO cmp x y' = false) → yKU A (gM xs (l ++ [y]) l2 x t) B = yKU A (gO (yKO cmp) xs (t + 1)) B:=fun h=>by rw [hend h]
   clear hend
   generalize yKU A (gM xs (l ++ [y]) l2 x t) B = M at *
   have v1:=(List.getElem?_eq_some_iff.1 w1).2
   have v2:=(List.getElem?_eq_some_iff.1 w2).2
   have k1 : j < M.length:=(List.getElem?_eq_some_iff.1 w1).1
   have k2 : m < M.length:=(List.getElem?_eq_some_iff.1 w2).1
   have ej : ((j : Int) - 1) = (m : Int):=by omega
   have j0 : ((q : Int) < (j : Int)) = True:=by simp; omega
   have j0' : (q < j) = True:=by simp; omega
   have mn : m < N:=by omega
   have hf' : ∃ fn,Try.prog.funcs[f]? = some fn ∧ fn.body.isSome = true ∧ ¬fn.name = "runtime.NumGoroutine":=by simpa using hf
   simp -dsimp -implicitDefEqProofs [j0,j0',ej,w1,w2,v1,v2,k1,k2,yKP,hll,mn]
   refine ⟨by unfold inI; omega,hf',?_⟩
   refine yaC (hc x y hxm hyP) ?_
   have hr2 : ∀ h,((M.map yKP).set j [C.i y])[m]'h = [C.i y]:=by intro h; rw [List.getElem_set_ne (by omega)]; simp [v2,yKP]
   have hs3 : ((M.map yKP).set j [C.i y]).set m [C.i x] = (yKU A (gM xs l (y :: l2) x t) B).map yKP:=by rw [← w3,List.map_set,List.map_set]; rfl
   simp -dsimp -implicitDefEqProofs [ej,w1,w2,v1,v2,k1,k2,hll,mn,hr2,hs3]
   refine ⟨fun hcm=>?_,fun hcm=>?_⟩
   ·refine ⟨by unfold inI; omega,m,l,y :: l2,⟨hm,by rw [← he2]; simp,fun z hz=>?_⟩,by omega,?_⟩
    ·rcases List.mem_cons.1 hz with hz | hz
     ·subst hz; simp [yKO]; omega
     ·exact h2 z hz
    ·apply yj <;> simp [yKP,w1,w2,v1,v2,hr2,hs3]
   ·have hM:=hMe fun l' y' h=>by
     have:=(List.append_inj' h rfl).2
     simp at this; subst this; simp [yKO]; omega
    refine ⟨by unfold inI; omega,i + 1,⟨by omega,by omega⟩,by omega,?_⟩
    apply yj <;> simp [hM,ht1]
 ·have hfin : gO (yKO cmp) xs (i - q) = sorted (yKO cmp) xs:=by
   rcases Nat.eq_zero_or_pos xs.length with h | h
   ·rw [hg3 h]; rw [show i - q = 1 by omega,hg2]
   ·rw [show i - q = xs.length by omega,yNp]
  simp -dsimp -implicitDefEqProofs [yaB hge]
  rw [hfin,← hM1]
  refine ⟨by rw [List.take_of_length_le (by rw [List.length_map,hL]; exact Nat.le_refl _)],?_⟩
  simp [yml]
def yLp (P X R Y Q : List Nat) (i : Nat) : List Nat:=P ++ ((Y.take i ++ X.drop i) ++ (R ++ ((X.take i ++ Y.drop i) ++ Q)))
theorem yL2 {P X R Y Q : List Nat} {i n : Nat} (hX : X.length = n) (hY : Y.length = n) (hi : i ≤ n) : (yLp P X R Y Q i).length = P.length + n + R.length + n + Q.length:=by
 simp [yLp]; omega
theorem yM5 {P X R Y Q : List Nat} {i n x y p q : Nat} (hX : X.length = n) (hY : Y.length = n) (hx : X[i]? = some x) (hy : Y[i]? = some y) (hp : p = P.length + i) (hq : q = P.length + n + R.length + i) :
 (yLp P X R Y Q i)[p]? = some x ∧ (yLp P X R Y Q i)[q]? = some y ∧ ((yLp P X R Y Q i).set p y).set q x = yLp P X R Y Q (i + 1):=by
 have i1:=(List.getElem?_eq_some_iff.1 hx).1
 have i2:=(List.getElem?_eq_some_iff.1 hy).1
 have d1 : X.drop i = x :: X.drop (i + 1):=by rw [List.drop_eq_getElem_cons i1,(List.getElem?_eq_some_iff.1 hx).2]
 have d2 : Y.drop i = y :: Y.drop (i + 1):=by rw [List.drop_eq_getElem_cons i2,(List.getElem?_eq_some_iff.1 hy).2]
 have t1 : X.take (i + 1) = X.take i ++ [x]:=by rw [List.take_succ,hx]; rfl
 have t2 : Y.take (i + 1) = Y.take i ++ [y]:=by rw [List.take_succ,hy]; rfl
 have e1 : yLp P X R Y Q i = (P ++ Y.take i) ++ x :: ((X.drop (i + 1) ++ (R ++ X.take i)) ++ y :: (Y.drop (i + 1) ++ Q)):=by
  unfold yLp; rw [d1,d2]; simp
 have e2 : yLp P X R Y Q (i + 1) = (P ++ Y.take i) ++ y :: ((X.drop (i + 1) ++ (R ++ X.take i)) ++ x :: (Y.drop (i + 1) ++ Q)):=by
  unfold yLp; rw [t1,t2]; simp
 rw [e1,e2]
 exact yMq (by simp; omega) (by simp; omega)
theorem yMB {P X R Y Q : List Nat} : yLp P X R Y Q 0 = P ++ (X ++ (R ++ (Y ++ Q))):=by simp [yLp]
theorem yMH {P X R Y Q : List Nat} {n : Nat} (hX : X.length = n) (hY : Y.length = n) : yLp P X R Y Q n = P ++ (Y ++ (R ++ (X ++ Q))):=by
 unfold yLp
 rw [show X.drop n = [] from List.drop_of_length_le (by omega),show X.take n = X from List.take_of_length_le (by omega),show Y.drop n = [] from List.drop_of_length_le (by omega),show Y.take n = Y from List.take_of_length_le (by omega)]; simp
end Go.Proofs.Ytefegahoniahkaa
