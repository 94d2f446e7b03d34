/- What the law FnExactTollsTrue stands on: contracts of functions, what each answers as plain Lean, in short form (names, layout). -/
import Derived.Test.YtjojilkdkgmbgaaGreatSExactTollsTrueA3
import Derived.Test.YtjojilkdkgmbgaaGreatProg
import Derived.KernelRfl
import Derived.Test.YtjojilkdkgmbgaaGreatSExactTollsTrueA4
import Derived.Test.YtjojilkdkgmbgaaGreatSExactTollsTrueA7
import Derived.Test.YtjojilkdkgmbgaaGreatSExactTollsTrueA8
import Derived.Test.YtjojilkdkgmbgaaGreatSExactTollsTrueA9
import Derived.Test.YtjojilkdkgmbgaaGreatSExactTollsTrueA10
import Derived.Test.YtjojilkdkgmbgaaGreatSExactTollsTrueA5
import Derived.Test.YtjojilkdkgmbgaaGreatSExactTollsTrueA6
set_option linter.all false
namespace Go.Proofs.YtjojilkdkgmbgaaGreat
open Go.RowKit
abbrev kI (n : Int) : X:=.k (.c (.i n))
abbrev kB (b : Bool) : X:=.k (.c (.b b))
abbrev iv (d n : Nat) : Ins:=⟨none,some d,.mv (.t n)⟩
abbrev ia (d : Nat) (o : IOp) : Ins:=⟨none,some d,o⟩
abbrev ig (t : Nat) (b : Bool) (d : Nat) (o : IOp) : Ins:=⟨some (t,b),some d,o⟩
abbrev ie (o : IOp) : Ins:=⟨none,none,o⟩
abbrev fA (d k a : Nat) : Ins:=ia d (.fld k (.t a))
abbrev lA (d a : Nat) : Ins:=ia d (.ld1 (.t a))
abbrev dA (d k a : Nat) : Ins:=ia d (.ldn k (.t a))
abbrev xA (d k a b : Nat) : Ins:=ia d (.idx k (.t a) (.t b))
abbrev mA (d : Nat) (n : Int) : Ins:=ia d (.mv (kI n))
abbrev bA (d : Nat) (b : Bool) : Ins:=ia d (.mv (kB b))
abbrev nA (d a : Nat) : Ins:=ia d (.len (.t a))
abbrev pA (d a : Nat) (n : Int) : Ins:=ia d (.bin .add (.t a) (kI n))
abbrev tA (d a b : Nat) : Ins:=ia d (.bin .lss (.t a) (.t b))
abbrev oA (d : Nat) (o : BinOp) (a b : Nat) : Ins:=ia d (.bin o (.t a) (.t b))
abbrev oI (d : Nat) (o : BinOp) (a : Nat) (n : Int) : Ins:=ia d (.bin o (.t a) (kI n))
abbrev nN (d a : Nat) : Ins:=ia d (.not (.t a))
abbrev c1 (d f a : Nat) : Ins:=ia d (.call f [.t a])
abbrev c2 (d f a b : Nat) : Ins:=ia d (.call f [.t a,.t b])
abbrev c3 (d f a b c : Nat) : Ins:=ia d (.call f [.t a,.t b,.t c])
abbrev bZ (d k : Nat) : Ins:=ia d (.bsl k [])
abbrev bS (d k a : Nat) : Ins:=ia d (.bsl k [.t a])
abbrev aP (d k b x y : Nat) : Ins:=ia d (.app k b (.t x) (.t y))
abbrev pT (d a b : Nat) : Ins:=ia d (.pick (.t a) (kB true) (.t b))
abbrev pF (d a b : Nat) : Ins:=ia d (.pick (.t a) (.t b) (kB false))
abbrev eX (d i a : Nat) : Ins:=ia d (.ext i (.t a))
abbrev bX (d n a : Nat) : Ins:=ia d (.box n (.t a))
abbrev mN (d k : Nat) : Ins:=ia d (.mv (.k (.nil k)))
abbrev tS (a b : Nat) : Ins:=ie (.st1 (.t a) (.t b))
abbrev tN (n a b : Nat) : Ins:=ie (.stn n (.t a) (.t b))
abbrev gA (c : Nat) (b : Bool) (d k a : Nat) : Ins:=ig c b d (.fld k (.t a))
abbrev hA (c : Nat) (b : Bool) (d a : Nat) : Ins:=ig c b d (.ld1 (.t a))
abbrev g8 (c : Nat) (b : Bool) (d a : Nat) : Ins:=ig c b d (.mv (.t a))
abbrev g9 (c : Nat) (b : Bool) (d a : Nat) : Ins:=ig c b d (.not (.t a))
abbrev q0 (i : Ins) : RIns:=⟨0,false,[],i⟩
abbrev q1 (i : Ins) : RIns:=⟨1,false,[],i⟩
abbrev q2 (i : Ins) : RIns:=⟨2,false,[],i⟩
abbrev q3 (i : Ins) : RIns:=⟨0,true,[],i⟩
abbrev q4 (k : Nat) (n : Bool) (c : List Nat) (i : Ins) : RIns:=⟨k,n,c,i⟩
abbrev rR (l : List Ins) : SC:=.seq (.reg l) .ret
abbrev rS (l : List Ins) (c : SC) : SC:=.seq (.reg l) c
abbrev rQ (l : List Ins) (c : SC) : SC:=.seq (.regq l) c
abbrev rE (l : List RIns) (c : SC) : SC:=.seq (.rege l) c
abbrev cX (t n : Nat) : SC:=.cond (.t t) .skip (.exit n)
abbrev cI (t : Nat) (c : SC) : SC:=.cond (.t t) c .skip
abbrev cT (t : Nat) (a b : SC) : SC:=.cond (.t t) a b
abbrev iS (l : List Ins) (t : Nat) (c d : SC) : SC:=.seq (.seq (.reg l) (.cond (.t t) c .skip)) d
abbrev xS (l : List Ins) (t n : Nat) (d : SC) : SC:=.seq (.seq (.reg l) (.cond (.t t) .skip (.exit n))) d
abbrev bL (n : Nat) (c : SC) : SC:=.block n (.loop c)
theorem yA {P : Program} {f N : Nat} {c : SC} {rs : List RS} {fn : Func} (fl : Option (List Nat)) (hf : P.funcs[f]? = some fn) (h : (fn.ntmps,fn.body.bind (ygf fl P N),yep P fn.results.toList,decide (N ≤ ycZ)) = (N,some c,some rs,true)) : Has P f N c rs:=by
 simp only [Prod.mk.injEq,decide_eq_true_eq] at h
 obtain ⟨h1,h2,h3,h4⟩:=h
 cases hb : fn.body with
 | none=>rw [hb] at h2; cases h2
 | some code=>rw [hb] at h2; exact ⟨h4,fn,code,hf,hb,h1,⟨fl,h2⟩,h3⟩
section
variable {P : Program} {f N d : Nat} {c : SC} {rs : List RS} {avs args : List AV} {res : AV} {s : St} {K : St → Prop} {k : AV → Prop} {ob : Nat → Obj} {dd : Option Nat} {kN : St → Prop} {T : Tag (k,kN)} {T1 : Tag k}
theorem yh (hf : Has P f N c rs) (H : wpS P N c (yh2 args) (fun e s=>match e with | .exit _=>False | _=>yml s rs res)) (hN : args.length ≤ N:=by simp) : yB P f args res:=ywS hf hN fun _=>H
theorem yJu (hf : Has P f N c rs) (H : ygO args → wpS P N c (yh2 args) (fun e s=>match e with | .exit _=>False | _=>yml s rs res)) (hN : args.length ≤ N:=by simp) : yB P f args res:=ywS hf hN H
theorem yan (hf : Has P f N c rs) (H : wpS P N c (yh2 args) (fun e s=>match e with | .exit _=>False | _=>yiF s rs res)) (hN : args.length ≤ N:=by simp) : ybh P f args res:=yv3 hf hN fun _=>H
theorem yc (hp : yB P f args res) (hK : K (s.put dd res)) (ho : ybD s avs args:=by simp) (hs : res.scalar = true:=by rfl) : yfo P f avs dd s K:=yaQ hp ho hs hK
theorem yS (hp : yB P f args res) (hK : K (s.put dd res)) (ho : ybD s avs args:=by simp) (hs : avs.all AV.ycJ = true:=by rfl) : yfo P f avs dd s K:=yaP hp ho hs hK
theorem yaC (hp : yB P f args res) (hK : k res) (ho : ybD (ycF ob) avs args:=by simp) (hs : res.scalar = true:=by rfl) : ysj P f avs ob k T1:=⟨_,_,hp,ho,.inr hs,hK⟩
theorem yyA (hp : yB P f args res) (hK : k res) (ho : ybD (ycF ob) avs args:=by simp) (hs : avs.all AV.ycJ = true:=by rfl) : ysj P f avs ob k T1:=⟨_,_,hp,ho,.inl hs,hK⟩
theorem yb1 (hp : yB P f args res) (hK : k res) (ho : ybD s avs args:=by simp) (hs : res.scalar = true:=by rfl) : ylY P f avs dd s k kN T:=ya2 hp ho (.inr hs) hK
theorem yY (hp : yB P f args res) (hK : k res) (ho : ybD s avs args:=by simp) (hs : avs.all AV.ycJ = true:=by rfl) : ylY P f avs dd s k kN T:=ya2 hp ho (.inl hs) hK
end
attribute [simp] AV.ygy AV.ymf Obj.ygy
theorem ySE : Has Tryz.prog 3 27 (rS [bX 1 16 0,bA 2 false] (rS [mA 3 1048576] (rS [dA 7 16 1,iv 8 3,c2 9 6 7 8,iv 3 9] (iS [iv 10 3,oI 11 .lss 10 0] 11 (rR [bA 2 true]) (rS [dA 12 16 1,c1 13 8 12,c1 14 7 13,iv 4 14] (rS [dA 15 16 1,c1 16 8 15,ia 5 (.alloc [.c (.i 0),.nil 3,.nil 2,.nil 22,.nil 1,.nil 2,.nil 1,.c (.i 0),.c (.i 0),.nil 1,.nil 1,.nil 5,.nil 4,.c (.i 0),.c (.i 0),.c (.i 0)]),tN 16 5 16] (rS [dA 17 16 5,c1 18 9 17,iv 6 18] (iS [iv 19 6,iv 20 4,ia 21 (.beq true (.t 19) (.t 20))] 21 (rR [bA 2 false]) (.seq (rQ [dA 22 16 5,dA 23 16 1,c1 24 8 23,c2 25 10 22 24,nN 26 25] (cI 26 (rR [bA 2 false]))) (rR [bA 2 true])))))))))) [.t 2]:=yA none Tryz.func3 (by kernel_rfl)
theorem ylx : Has Tryz.prog 6 60 (rS [bX 2 16 0,mA 4 0] (rS [fA 5 1 2,lA 6 5,iv 7 1,c2 8 17 6 7,iv 1 8] (iS [iv 9 1,oI 10 .lss 9 0] 10 (rR [mA 4 (-1)]) (rS [fA 11 2 2,lA 12 11,iv 13 1,c2 14 18 12 13,iv 1 14] (iS [iv 15 1,oI 16 .lss 15 0] 16 (rR [mA 4 (-1)]) (rS [fA 17 3 2,lA 18 17,iv 19 1,c2 20 19 18 19,iv 1 20] (iS [iv 21 1,oI 22 .lss 21 0] 22 (rR [mA 4 (-1)]) (rS [fA 23 4 2,lA 24 23,iv 25 1,c2 26 20 24 25,iv 1 26] (iS [iv 27 1,oI 28 .lss 27 0] 28 (rR [mA 4 (-1)]) (rS [fA 29 5 2,lA 30 29,iv 31 1,c2 32 21 30 31,iv 1 32] (iS [iv 33 1,oI 34 .lss 33 0] 34 (rR [mA 4 (-1)]) (rS [fA 35 6 2,lA 36 35,iv 37 1,c2 38 22 36 37,iv 1 38] (iS [iv 39 1,oI 40 .lss 39 0] 40 (rR [mA 4 (-1)]) (rS [fA 41 7 2,dA 42 4 41,iv 43 1,c2 44 23 42 43,iv 1 44] (iS [iv 45 1,oI 46 .lss 45 0] 46 (rR [mA 4 (-1)]) (rS [fA 47 11 2,lA 48 47,iv 49 1,c2 50 24 48 49,iv 1 50] (iS [iv 51 1,oI 52 .lss 51 0] 52 (rR [mA 4 (-1)]) (rS [fA 53 12 2,lA 54 53,iv 55 1,c2 56 25 54 55,iv 1 56] (iS [iv 57 1,oI 58 .lss 57 0] 58 (rR [mA 4 (-1)]) (rR [iv 59 1,iv 4 59])))))))))))))))))))) [.t 4]:=yA none Tryz.func6 (by kernel_rfl)
theorem yTi : Has Tryz.prog 7 81 (rS [bX 1 16 0,bA 2 false] (rS [bZ 9 5,iv 3 9] (.seq (rS [mA 4 0] (bL 0 (xS [iv 10 4,fA 11 12 1,lA 12 11,nA 13 12,tA 14 10 13] 14 0 (.seq (.block 1 (rS [fA 17 12 1,lA 18 17,iv 19 4,xA 20 4 18 19,dA 21 4 20,ia 5 (.alloc [.c (.i 0),.c (.i 0),.c (.b false),.nil 1]),tN 4 5 21] (rS [iv 23 3,fA 24 7 1,dA 25 4 24,fA 26 2 5,dA 27 2 26,fA 28 0 5,lA 29 28,c3 30 27 25 27 29,c2 31 26 23 30,iv 22 31,eX 32 0 22,eX 33 1 22,iv 3 32] (rS [fA 34 2 5,dA 35 2 34,c1 36 28 35,iv 6 36] (rS [mA 7 0] (bL 2 (xS [iv 37 7,iv 38 6,nA 39 38,tA 40 37 39] 40 2 (.seq (.block 3 (rQ [fA 43 6 1,lA 44 43,iv 45 6,iv 46 7,xA 47 1 45 46,lA 48 47,c2 49 29 44 48,oI 50 .eql 49 0] (cI 50 (rR [bA 2 false])))) (.reg [iv 41 7,pA 42 41 1,iv 7 42]))))))))) (.reg [iv 15 4,pA 16 15 1,iv 4 16]))))) (.seq (rS [mA 8 0] (bL 4 (xS [iv 51 8,iv 52 3,nA 53 52,tA 54 51 53,iv 55 54,g8 55 true 56 3,ig 55 true 57 (.len (.t 56)),gA 55 true 58 11 1,hA 55 true 59 58,ig 55 true 60 (.len (.t 59)),ig 55 true 61 (.bin .eql (.t 57) (.t 60)),pF 62 55 61] 62 4 (.seq (.block 5 (rQ [iv 65 3,iv 66 8,xA 67 5 65 66,dA 68 5 67,fA 69 11 1,lA 70 69,iv 71 8,xA 72 5 70 71,dA 73 5 72,ia 74 (.eqn true 5 (.t 68) (.t 73))] (cI 74 (rR [bA 2 false])))) (.reg [iv 63 8,pA 64 63 1,iv 8 64]))))) (rR [iv 75 3,nA 76 75,fA 77 11 1,lA 78 77,nA 79 78,oA 80 .eql 76 79,iv 2 80]))))) [.t 2]:=yA none Tryz.func7 (by kernel_rfl)
theorem ygH : Has Tryz.prog 8 53 (rS [bX 1 16 0,ia 2 (.alloc [.c (.i 0),.nil 3,.nil 2,.nil 22,.nil 1,.nil 2,.nil 1,.c (.i 0),.c (.i 0),.nil 1,.nil 1,.nil 5,.nil 4,.c (.i 0),.c (.i 0),.c (.i 0)])] (rS [ia 3 (.alloc [.c (.i 0),.nil 3,.nil 2,.nil 22,.nil 1,.nil 2,.nil 1,.c (.i 0),.c (.i 0),.nil 1,.nil 1,.nil 5,.nil 4,.c (.i 0),.c (.i 0),.c (.i 0)])] (rS [fA 4 0 1,lA 5 4,fA 6 0 3,tS 6 5] (rS [fA 7 1 1,lA 8 7,c1 9 30 8,fA 10 1 3,tS 10 9] (rS [fA 11 2 1,lA 12 11,c1 13 31 12,fA 14 2 3,tS 14 13] (rS [fA 15 3 1,lA 16 15,c1 17 32 16,fA 18 3 3,tS 18 17] (rS [fA 19 4 1,lA 20 19,c1 21 33 20,fA 22 4 3,tS 22 21] (rS [fA 23 5 1,lA 24 23,c1 25 34 24,fA 26 5 3,tS 26 25] (rS [fA 27 6 1,lA 28 27,c1 29 35 28,fA 30 6 3,tS 30 29] (rS [fA 31 7 1,dA 32 4 31,c1 33 36 32,fA 34 7 3,tN 4 34 33] (rS [fA 35 11 1,lA 36 35,c1 37 37 36,fA 38 11 3,tS 38 37] (rS [fA 39 12 1,lA 40 39,c1 41 38 40,fA 42 12 3,tS 42 41] (rS [fA 43 13 1,lA 44 43,fA 45 13 3,tS 45 44] (rS [fA 46 14 1,lA 47 46,fA 48 14 3,tS 48 47] (rS [fA 49 15 1,lA 50 49,fA 51 15 3,tS 51 50] (rR [dA 52 16 3,tN 16 2 52])))))))))))))))) [.cl 2 16]:=yA none Tryz.func8 (by kernel_rfl)
theorem yTc : Has Tryz.prog 9 46 (rS [bX 1 16 0,bA 2 false] (rS [mN 3 5] (.seq (rS [fA 8 12 1,lA 9 8,nA 10 9,mA 11 0] (bL 0 (rS [tA 12 11 10] (.seq (cX 12 0) (.seq (.block 1 (rS [xA 13 4 9 11,dA 14 4 13,ia 5 (.alloc [.c (.i 0),.c (.i 0),.c (.b false),.nil 1]),tN 4 5 14] (rS [iv 16 3,fA 17 7 1,dA 18 4 17,fA 19 2 5,dA 20 2 19,fA 21 0 5,lA 22 21,c3 23 40 18 20 22,c2 24 39 16 23,iv 15 24,eX 25 0 15,eX 26 1 15,iv 3 25] (rS [fA 27 2 5,dA 28 2 27,c1 29 41 28,nA 30 29,mA 31 0] (bL 2 (rS [tA 32 31 30] (.seq (cX 32 2) (.seq (.block 3 (rS [xA 33 1 29 31,lA 34 33,iv 7 34] (rS [fA 35 6 1,lA 36 35,iv 37 7,c2 38 42 36 37,nN 39 38] (cI 39 (rR [bA 2 false]))))) (.reg [pA 40 31 1,iv 31 40]))))))))) (.reg [pA 41 11 1,iv 11 41])))))) (rR [iv 42 3,fA 43 11 1,lA 44 43,c2 45 43 42 44,iv 2 45])))) [.t 2]:=yA none Tryz.func9 (by kernel_rfl)
def ygr : SC:=rS [bX 2 16 0,bX 3 16 1,bA 4 false] (iS [fA 5 0 2,lA 6 5,fA 7 0 3,lA 8 7,oA 9 .neq 6 8] 9 (rR [bA 4 false]) (iS [fA 10 1 2,lA 11 10,fA 12 1 3,lA 13 12,c2 14 44 11 13,nN 15 14] 15 (rR [bA 4 false]) (iS [fA 16 2 2,lA 17 16,fA 18 2 3,lA 19 18,c2 20 45 17 19,nN 21 20] 21 (rR [bA 4 false]) (iS [fA 22 3 2,lA 23 22,fA 24 3 3,lA 25 24,c2 26 46 23 25,nN 27 26] 27 (rR [bA 4 false]) (iS [fA 28 4 2,lA 29 28,fA 30 4 3,lA 31 30,c2 32 47 29 31,nN 33 32] 33 (rR [bA 4 false]) (iS [fA 34 5 2,lA 35 34,fA 36 5 3,lA 37 36,c2 38 48 35 37,nN 39 38] 39 (rR [bA 4 false]) (iS [fA 40 6 2,lA 41 40,fA 42 6 3,lA 43 42,c2 44 49 41 43,nN 45 44] 45 (rR [bA 4 false]) (iS [fA 46 7 2,dA 47 4 46,fA 48 7 3,dA 49 4 48,c2 50 50 47 49,nN 51 50] 51 (rR [bA 4 false]) (iS [fA 52 11 2,lA 53 52,fA 54 11 3,lA 55 54,c2 56 51 53 55,nN 57 56] 57 (rR [bA 4 false]) (iS [fA 58 12 2,lA 59 58,fA 60 12 3,lA 61 60,c2 62 52 59 61,nN 63 62] 63 (rR [bA 4 false]) (iS [fA 64 13 2,lA 65 64,fA 66 13 3,lA 67 66,oA 68 .neq 65 67] 68 (rR [bA 4 false]) (iS [fA 69 14 2,lA 70 69,fA 71 14 3,lA 72 71,oA 73 .neq 70 72] 73 (rR [bA 4 false]) (iS [fA 74 15 2,lA 75 74,fA 76 15 3,lA 77 76,oA 78 .neq 75 77] 78 (rR [bA 4 false]) (rR [bA 4 true]))))))))))))))
theorem ylL : Has Tryz.prog 10 79 ygr [.t 4]:=yA none Tryz.func10 (by kernel_rfl)
theorem ynv : Has Tryz.prog 17 27 (rS [mA 4 0] (rS [iv 6 1,iv 7 0,nA 8 7,oA 9 .sub 6 8,iv 1 9] (iS [iv 10 1,oI 11 .lss 10 0] 11 (rR [mA 4 (-1)]) (.seq (rS [mA 5 0] (bL 0 (xS [iv 12 5,iv 13 0,nA 14 13,tA 15 12 14] 15 0 (.seq (.block 1 (rS [iv 18 0,iv 19 5,xA 20 3 18 19,dA 21 3 20,iv 22 1,c2 23 82 21 22,iv 1 23] (rS [iv 24 1,oI 25 .lss 24 0] (cI 25 (rR [mA 4 (-1)]))))) (.reg [iv 16 5,pA 17 16 1,iv 5 17]))))) (rR [iv 26 1,iv 4 26]))))) [.t 4]:=yA none Tryz.func17 (by kernel_rfl)
def yj9 : SC:=rS [mA 4 0] (rS [iv 5 1,iv 6 0,nA 7 6,oA 8 .sub 5 7,iv 1 8] (iS [iv 9 1,oI 10 .lss 9 0] 10 (rR [mA 4 (-1)]) (rR [iv 11 1,iv 4 11])))
theorem yqz : Has Tryz.prog 18 12 yj9 [.t 4]:=yA none Tryz.func18 (by kernel_rfl)
theorem ypK : Has Tryz.prog 19 27 (rS [mA 4 0] (rS [iv 6 1,iv 7 0,nA 8 7,oA 9 .sub 6 8,iv 1 9] (iS [iv 10 1,oI 11 .lss 10 0] 11 (rR [mA 4 (-1)]) (.seq (rS [mA 5 0] (bL 0 (xS [iv 12 5,iv 13 0,nA 14 13,tA 15 12 14] 15 0 (.seq (.block 1 (rS [iv 18 0,iv 19 5,xA 20 22 18 19,dA 21 22 20,iv 22 1,c2 23 83 21 22,iv 1 23] (rS [iv 24 1,oI 25 .lss 24 0] (cI 25 (rR [mA 4 (-1)]))))) (.reg [iv 16 5,pA 17 16 1,iv 5 17]))))) (rR [iv 26 1,iv 4 26]))))) [.t 4]:=yA none Tryz.func19 (by kernel_rfl)
theorem yma : Has Tryz.prog 20 27 (rS [mA 4 0] (rS [iv 6 1,iv 7 0,nA 8 7,oA 9 .sub 6 8,iv 1 9] (iS [iv 10 1,oI 11 .lss 10 0] 11 (rR [mA 4 (-1)]) (.seq (rS [mA 5 0] (bL 0 (xS [iv 12 5,iv 13 0,nA 14 13,tA 15 12 14] 15 0 (.seq (.block 1 (rS [iv 18 0,iv 19 5,xA 20 1 18 19,lA 21 20,iv 22 1,c2 23 84 21 22,iv 1 23] (rS [iv 24 1,oI 25 .lss 24 0] (cI 25 (rR [mA 4 (-1)]))))) (.reg [iv 16 5,pA 17 16 1,iv 5 17]))))) (rR [iv 26 1,iv 4 26]))))) [.t 4]:=yA none Tryz.func20 (by kernel_rfl)
theorem ynN : Has Tryz.prog 21 27 (rS [mA 4 0] (rS [iv 6 1,iv 7 0,nA 8 7,oA 9 .sub 6 8,iv 1 9] (iS [iv 10 1,oI 11 .lss 10 0] 11 (rR [mA 4 (-1)]) (.seq (rS [mA 5 0] (bL 0 (xS [iv 12 5,iv 13 0,nA 14 13,tA 15 12 14] 15 0 (.seq (.block 1 (rS [iv 18 0,iv 19 5,xA 20 2 18 19,dA 21 2 20,iv 22 1,c2 23 85 21 22,iv 1 23] (rS [iv 24 1,oI 25 .lss 24 0] (cI 25 (rR [mA 4 (-1)]))))) (.reg [iv 16 5,pA 17 16 1,iv 5 17]))))) (rR [iv 26 1,iv 4 26]))))) [.t 4]:=yA none Tryz.func21 (by kernel_rfl)
def yj7 : SC:=rS [mA 4 0] (rS [iv 5 1,iv 6 0,nA 7 6,oA 8 .sub 5 7,iv 1 8] (iS [iv 9 1,oI 10 .lss 9 0] 10 (rR [mA 4 (-1)]) (rR [iv 11 1,iv 4 11])))
theorem yrh : Has Tryz.prog 22 12 yj7 [.t 4]:=yA none Tryz.func22 (by kernel_rfl)
theorem yng : Has Tryz.prog 23 18 (rS [bX 2 4 0,mA 4 0] (rS [fA 5 2 2,lA 6 5,iv 7 1,c2 8 22 6 7,iv 1 8] (iS [iv 9 1,oI 10 .lss 9 0] 10 (rR [mA 4 (-1)]) (rS [fA 11 3 2,lA 12 11,iv 13 1,c2 14 22 12 13,iv 1 14] (iS [iv 15 1,oI 16 .lss 15 0] 16 (rR [mA 4 (-1)]) (rR [iv 17 1,iv 4 17])))))) [.t 4]:=yA none Tryz.func23 (by kernel_rfl)
def yix : SC:=rS [mA 4 0] (rS [iv 5 1,iv 6 0,nA 7 6,oA 8 .sub 5 7,iv 1 8] (iS [iv 9 1,oI 10 .lss 9 0] 10 (rR [mA 4 (-1)]) (rR [iv 11 1,iv 4 11])))
theorem ynm : Has Tryz.prog 24 12 yix [.t 4]:=yA none Tryz.func24 (by kernel_rfl)
theorem ylD : Has Tryz.prog 25 27 (rS [mA 4 0] (rS [iv 6 1,iv 7 0,nA 8 7,oA 9 .sub 6 8,iv 1 9] (iS [iv 10 1,oI 11 .lss 10 0] 11 (rR [mA 4 (-1)]) (.seq (rS [mA 5 0] (bL 0 (xS [iv 12 5,iv 13 0,nA 14 13,tA 15 12 14] 15 0 (.seq (.block 1 (rS [iv 18 0,iv 19 5,xA 20 4 18 19,dA 21 4 20,iv 22 1,c2 23 86 21 22,iv 1 23] (rS [iv 24 1,oI 25 .lss 24 0] (cI 25 (rR [mA 4 (-1)]))))) (.reg [iv 16 5,pA 17 16 1,iv 5 17]))))) (rR [iv 26 1,iv 4 26]))))) [.t 4]:=yA none Tryz.func25 (by kernel_rfl)
theorem yS5 : Has Tryz.prog 26 24 (rS [mN 4 5,bA 5 false] (rS [bZ 7 5,iv 8 0,aP 9 5 40 7 8,iv 10 1,aP 11 5 40 9 10,iv 6 11] (iS [iv 12 0,c1 13 87 12,nN 14 13,iv 15 14,g8 15 false 16 6,ig 15 false 17 (.call 87 [.t 16]),g9 15 false 18 17,pT 19 15 18] 19 (rR [bZ 20 5,iv 21 0,aP 22 5 40 20 21,iv 4 22,bA 5 false]) (rR [iv 23 6,iv 4 23,bA 5 true])))) [.t 4,.t 5]:=yA none Tryz.func26 (by kernel_rfl)
theorem yS4 : Has Tryz.prog 27 58 (rS [bX 3 4 0,bX 4 2 1,mN 6 5] (rS [bZ 10 5,iv 7 10] (iS [dA 11 4 3,c1 12 88 11,nN 13 12,iv 14 13,ig 14 false 15 (.ldn 2 (.t 4)),ig 14 false 16 (.call 89 [.t 15]),g9 14 false 17 16,pT 18 14 17,iv 19 18,g8 19 false 20 2,ig 19 false 21 (.call 78 [.t 20,kI 0,kI 1000000]),g9 19 false 22 21,pT 23 19 22] 23 (rR [iv 24 7,iv 6 24]) (rQ [dA 25 4 3,dA 26 2 4,c2 27 91 25 26,fA 28 3 3,lA 29 28,c2 30 90 27 29,iv 8 30] (.seq (rS [mA 9 0] (bL 0 (xS [iv 31 9,iv 32 8,nA 33 32,tA 34 31 33] 34 0 (.seq (.block 1 (rS [iv 37 8,iv 38 9,xA 39 1 37 38,lA 40 39,oI 41 .gtr 40 0] (cI 41 (.rege [q0 (iv 42 7),q0 (iv 43 9),q0 (pA 44 43 1),q0 (iv 45 8),q0 (iv 46 9),q0 (xA 47 1 45 46),q0 (lA 48 47),q0 (iv 49 2),q0 (dA 50 2 4),q0 (c1 51 28 50),q0 (ia 52 (.idx 1 (.t 51) (kI 0))),q0 (lA 53 52),q0 (ia 54 (.bld [.c (.i 0),.c (.i 0),.c (.i 0),.c (.i 0),.c (.i 0)] [(0,1,kI 0),(1,1,.t 44),(2,1,.t 48),(3,1,.t 49),(4,1,.t 53)])),q1 (bS 55 5 54),q2 (aP 56 5 40 42 55),q0 (iv 7 56)])))) (.reg [iv 35 9,pA 36 35 1,iv 9 36]))))) (rR [iv 57 7,iv 6 57])))))) [.t 6]:=yA none Tryz.func27 (by kernel_rfl)
theorem ysG : Has Tryz.prog 28 28 (rS [bX 1 2 0,mN 2 1] (rS [bZ 6 1,iv 3 6] (rS [dA 7 2 1,c1 8 92 7,iv 4 8] (.seq (rS [mA 5 0] (bL 0 (xS [iv 9 5,iv 10 4,nA 11 10,tA 12 9 11,iv 13 12,ig 13 true 14 (.ldn 2 (.t 1)),ig 13 true 15 (.call 89 [.t 14]),pF 16 13 15] 16 0 (.seq (.block 1 (.reg [iv 19 3,iv 20 4,iv 21 5,xA 22 6 20 21,fA 23 0 22,lA 24 23,bS 25 1 24,aP 26 1 8 19 25,iv 3 26])) (.reg [iv 17 5,pA 18 17 1,iv 5 18]))))) (rR [iv 27 3,iv 2 27]))))) [.t 2]:=yA none Tryz.func28 (by kernel_rfl)
theorem yTo : Has Tryz.prog 29 22 (rS [mA 4 0] (rS [mA 5 0] (.seq (rS [mA 6 0] (bL 0 (xS [iv 7 6,iv 8 0,nA 9 8,tA 10 7 9] 10 0 (.seq (.block 1 (rS [iv 13 0,iv 14 6,xA 15 1 13 14,lA 16 15,iv 17 1,oA 18 .eql 16 17] (cI 18 (.reg [iv 19 5,pA 20 19 1,iv 5 20])))) (.reg [iv 11 6,pA 12 11 1,iv 6 12]))))) (rR [iv 21 5,iv 4 21])))) [.t 4]:=yA none Tryz.func29 (by kernel_rfl)
theorem yii : Has Tryz.prog 30 23 (rS [mN 2 3] (rS [iv 5 0,nA 6 5,ia 7 (.mks 3 56 [.sl 2 [],.i 0,.sl 1 []] (.t 6) (.t 6)),iv 3 7] (.seq (rS [mA 4 0] (bL 0 (xS [iv 8 4,iv 9 0,nA 10 9,tA 11 8 10] 11 0 (.seq (.block 1 (.reg [iv 14 3,iv 15 4,iv 16 0,iv 17 4,xA 18 3 16 17,dA 19 3 18,c1 20 93 19,xA 21 3 14 15,tN 3 21 20])) (.reg [iv 12 4,pA 13 12 1,iv 4 13]))))) (rR [iv 22 3,iv 2 22])))) [.t 2]:=yA none Tryz.func30 (by kernel_rfl)
theorem yj5 : Has Tryz.prog 31 23 (rS [mN 2 2] (rS [iv 5 0,nA 6 5,ia 7 (.mks 2 16 [.i 0,.i 0] (.t 6) (.t 6)),iv 3 7] (.seq (rS [mA 4 0] (bL 0 (xS [iv 8 4,iv 9 0,nA 10 9,tA 11 8 10] 11 0 (.seq (.block 1 (.reg [iv 14 3,iv 15 4,iv 16 0,iv 17 4,xA 18 2 16 17,dA 19 2 18,c1 20 94 19,xA 21 2 14 15,tN 2 21 20])) (.reg [iv 12 4,pA 13 12 1,iv 4 13]))))) (rR [iv 22 3,iv 2 22])))) [.t 2]:=yA none Tryz.func31 (by kernel_rfl)
theorem yjm : Has Tryz.prog 32 23 (rS [mN 2 22] (rS [iv 5 0,nA 6 5,ia 7 (.mks 22 224 [.i 0,.i 0,.i 0,.i 0,.i 0,.i 0,.i 0,.i 0,.i 0,.sl 2 [],.i 0,.i 0,.i 0,.i 0,.i 0,.i 0,.i 0,.i 0,.sl 2 [],.b false,.i 0,.sl 4 []] (.t 6) (.t 6)),iv 3 7] (.seq (rS [mA 4 0] (bL 0 (xS [iv 8 4,iv 9 0,nA 10 9,tA 11 8 10] 11 0 (.seq (.block 1 (.reg [iv 14 3,iv 15 4,iv 16 0,iv 17 4,xA 18 22 16 17,dA 19 22 18,c1 20 95 19,xA 21 22 14 15,tN 22 21 20])) (.reg [iv 12 4,pA 13 12 1,iv 4 13]))))) (rR [iv 22 3,iv 2 22])))) [.t 2]:=yA none Tryz.func32 (by kernel_rfl)
theorem ygW : Has Tryz.prog 33 23 (rS [mN 2 1] (rS [iv 5 0,nA 6 5,ia 7 (.mks 1 24 [.sl 3 []] (.t 6) (.t 6)),iv 3 7] (.seq (rS [mA 4 0] (bL 0 (xS [iv 8 4,iv 9 0,nA 10 9,tA 11 8 10] 11 0 (.seq (.block 1 (.reg [iv 14 3,iv 15 4,iv 16 0,iv 17 4,xA 18 1 16 17,lA 19 18,c1 20 96 19,xA 21 1 14 15,tS 21 20])) (.reg [iv 12 4,pA 13 12 1,iv 4 13]))))) (rR [iv 22 3,iv 2 22])))) [.t 2]:=yA none Tryz.func33 (by kernel_rfl)
theorem yij : Has Tryz.prog 34 23 (rS [mN 2 2] (rS [iv 5 0,nA 6 5,ia 7 (.mks 2 32 [.b false,.sl 1 []] (.t 6) (.t 6)),iv 3 7] (.seq (rS [mA 4 0] (bL 0 (xS [iv 8 4,iv 9 0,nA 10 9,tA 11 8 10] 11 0 (.seq (.block 1 (.reg [iv 14 3,iv 15 4,iv 16 0,iv 17 4,xA 18 2 16 17,dA 19 2 18,c1 20 97 19,xA 21 2 14 15,tN 2 21 20])) (.reg [iv 12 4,pA 13 12 1,iv 4 13]))))) (rR [iv 22 3,iv 2 22])))) [.t 2]:=yA none Tryz.func34 (by kernel_rfl)
theorem yjT : Has Tryz.prog 35 22 (rS [mN 2 1] (rS [iv 5 0,nA 6 5,ia 7 (.mks 1 8 [.i 0] (.t 6) (.t 6)),iv 3 7] (.seq (rS [mA 4 0] (bL 0 (xS [iv 8 4,iv 9 0,nA 10 9,tA 11 8 10] 11 0 (.seq (.block 1 (.reg [iv 14 3,iv 15 4,iv 16 0,iv 17 4,xA 18 1 16 17,lA 19 18,xA 20 1 14 15,tS 20 19])) (.reg [iv 12 4,pA 13 12 1,iv 4 13]))))) (rR [iv 21 3,iv 2 21])))) [.t 2]:=yA none Tryz.func35 (by kernel_rfl)
theorem yil : Has Tryz.prog 36 19 (rS [bX 1 4 0,ia 2 (.alloc [.c (.i 0),.c (.i 0),.nil 1,.nil 1])] (rS [ia 3 (.alloc [.c (.i 0),.c (.i 0),.nil 1,.nil 1])] (rS [fA 4 0 1,lA 5 4,fA 6 0 3,tS 6 5] (rS [fA 7 1 1,lA 8 7,fA 9 1 3,tS 9 8] (rS [fA 10 2 1,lA 11 10,c1 12 35 11,fA 13 2 3,tS 13 12] (rS [fA 14 3 1,lA 15 14,c1 16 35 15,fA 17 3 3,tS 17 16] (rR [dA 18 4 3,tN 4 2 18]))))))) [.cl 2 4]:=yA none Tryz.func36 (by kernel_rfl)
theorem yiv : Has Tryz.prog 37 23 (rS [mN 2 5] (rS [iv 5 0,nA 6 5,ia 7 (.mks 5 40 [.i 0,.i 0,.i 0,.i 0,.i 0] (.t 6) (.t 6)),iv 3 7] (.seq (rS [mA 4 0] (bL 0 (xS [iv 8 4,iv 9 0,nA 10 9,tA 11 8 10] 11 0 (.seq (.block 1 (.reg [iv 14 3,iv 15 4,iv 16 0,iv 17 4,xA 18 5 16 17,dA 19 5 18,c1 20 98 19,xA 21 5 14 15,tN 5 21 20])) (.reg [iv 12 4,pA 13 12 1,iv 4 13]))))) (rR [iv 22 3,iv 2 22])))) [.t 2]:=yA none Tryz.func37 (by kernel_rfl)
theorem ygz : Has Tryz.prog 38 23 (rS [mN 2 4] (rS [iv 5 0,nA 6 5,ia 7 (.mks 4 48 [.i 0,.i 0,.b false,.sl 1 []] (.t 6) (.t 6)),iv 3 7] (.seq (rS [mA 4 0] (bL 0 (xS [iv 8 4,iv 9 0,nA 10 9,tA 11 8 10] 11 0 (.seq (.block 1 (.reg [iv 14 3,iv 15 4,iv 16 0,iv 17 4,xA 18 4 16 17,dA 19 4 18,c1 20 99 19,xA 21 4 14 15,tN 4 21 20])) (.reg [iv 12 4,pA 13 12 1,iv 4 13]))))) (rR [iv 22 3,iv 2 22])))) [.t 2]:=yA none Tryz.func38 (by kernel_rfl)
theorem yS2 : Has Tryz.prog 39 28 (rS [mN 4 5,bA 5 false] (iS [iv 6 0,c1 7 100 6,nN 8 7,iv 9 8,g8 9 false 10 1,ig 9 false 11 (.len (.t 10)),ig 9 false 12 (.bin .gtr (.t 11) (kI 2000)),pT 13 9 12,iv 14 13,g8 14 false 15 0,g8 14 false 16 1,ig 14 false 17 (.bsl 1 [.t 15,.t 16]),ig 14 false 18 (.call 101 [.t 17]),ig 14 false 19 (.call 100 [.t 18]),g9 14 false 20 19,pT 21 14 20] 21 (rR [iv 22 0,c1 23 102 22,iv 4 23,bA 5 false]) (rR [iv 24 0,iv 25 1,ia 26 (.bsl 1 [.t 24,.t 25]),c1 27 101 26,iv 4 27,bA 5 true]))) [.t 4,.t 5]:=yA none Tryz.func39 (by kernel_rfl)
theorem yS1 : Has Tryz.prog 40 53 (rS [bX 3 4 0,bX 4 2 1,mN 6 5] (iS [dA 11 4 3,c1 12 103 11,nN 13 12,iv 14 13,ig 14 false 15 (.ldn 2 (.t 4)),ig 14 false 16 (.call 104 [.t 15]),g9 14 false 17 16,pT 18 14 17,iv 19 18,g8 19 false 20 2,ig 19 false 21 (.call 105 [.t 20,kI 0,kI 1000000]),g9 19 false 22 21,pT 23 19 22] 23 (rR [mN 6 5]) (rS [dA 24 2 4,c1 25 41 24,ia 26 (.idx 1 (.t 25) (kI 0)),lA 27 26,iv 7 27] (rS [mN 8 5] (.seq (rQ [dA 28 4 3,dA 29 2 4,c2 30 107 28 29,fA 31 3 3,lA 32 31,c2 33 106 30 32,nA 34 33,mA 35 0] (bL 0 (rS [tA 36 35 34] (.seq (cX 36 0) (.seq (.block 1 (rS [iv 37 35,xA 38 1 33 35,lA 39 38,iv 9 37,iv 10 39] (rS [iv 40 10,oI 41 .gtr 40 0] (cI 41 (.reg [iv 42 8,iv 43 9,pA 44 43 1,iv 45 10,iv 46 2,iv 47 7,ia 48 (.bld [.c (.i 0),.c (.i 0),.c (.i 0),.c (.i 0),.c (.i 0)] [(0,1,kI 0),(1,1,.t 44),(2,1,.t 45),(3,1,.t 46),(4,1,.t 47)]),bS 49 5 48,aP 50 5 40 42 49,iv 8 50]))))) (.reg [pA 51 35 1,iv 35 51])))))) (rR [iv 52 8,iv 6 52])))))) [.t 6]:=yA none Tryz.func40 (by kernel_rfl)
theorem ysm : Has Tryz.prog 41 23 (rS [bX 1 2 0,mN 2 1] (iS [dA 6 2 1,c1 7 104 6,nN 8 7] 8 (rR [mN 2 1]) (rS [mN 3 1] (.seq (rS [dA 9 2 1,c1 10 108 9,nA 11 10,mA 12 0] (bL 0 (rS [tA 13 12 11] (.seq (cX 13 0) (.seq (.block 1 (rS [xA 14 6 10 12,dA 15 6 14,ia 5 (.alloc [.c (.i 0),.c (.i 0),.c (.i 0),.c (.i 0),.c (.i 0),.c (.i 0)]),tN 6 5 15] (.reg [iv 16 3,fA 17 0 5,lA 18 17,bS 19 1 18,aP 20 1 8 16 19,iv 3 20]))) (.reg [pA 21 12 1,iv 12 21])))))) (rR [iv 22 3,iv 2 22]))))) [.t 2]:=yA none Tryz.func41 (by kernel_rfl)
theorem yfu : Has Tryz.prog 42 9 (rS [bA 4 false] (rR [iv 5 0,iv 6 1,c2 7 109 5 6,oI 8 .geq 7 0,iv 4 8])) [.t 4]:=yA none Tryz.func42 (by kernel_rfl)
theorem ySe : Has Tryz.prog 43 26 (rS [bA 4 false] (iS [iv 6 0,nA 7 6,iv 8 1,nA 9 8,oA 10 .neq 7 9] 10 (rR [bA 4 false]) (.seq (rS [iv 11 0,nA 12 11,mA 13 0] (bL 0 (rS [tA 14 13 12] (.seq (cX 14 0) (.seq (.block 1 (rS [iv 15 13,iv 5 15] (rQ [iv 16 0,iv 17 5,xA 18 5 16 17,dA 19 5 18,iv 20 1,iv 21 5,xA 22 5 20 21,dA 23 5 22,ia 24 (.eqn true 5 (.t 19) (.t 23))] (cI 24 (rR [bA 4 false]))))) (.reg [pA 25 13 1,iv 13 25])))))) (rR [bA 4 true])))) [.t 4]:=yA none Tryz.func43 (by kernel_rfl)
theorem ynu : Has Tryz.prog 44 27 (rS [bA 4 false] (iS [iv 6 0,nA 7 6,iv 8 1,nA 9 8,oA 10 .neq 7 9] 10 (rR [bA 4 false]) (.seq (rS [mA 5 0] (bL 0 (xS [iv 11 5,iv 12 0,nA 13 12,tA 14 11 13] 14 0 (.seq (.block 1 (rQ [iv 17 0,iv 18 5,xA 19 3 17 18,dA 20 3 19,iv 21 1,iv 22 5,xA 23 3 21 22,dA 24 3 23,c2 25 110 20 24,nN 26 25] (cI 26 (rR [bA 4 false])))) (.reg [iv 15 5,pA 16 15 1,iv 5 16]))))) (rR [bA 4 true])))) [.t 4]:=yA none Tryz.func44 (by kernel_rfl)
theorem yqr : Has Tryz.prog 45 27 (rS [bA 4 false] (iS [iv 6 0,nA 7 6,iv 8 1,nA 9 8,oA 10 .neq 7 9] 10 (rR [bA 4 false]) (.seq (rS [mA 5 0] (bL 0 (xS [iv 11 5,iv 12 0,nA 13 12,tA 14 11 13] 14 0 (.seq (.block 1 (rQ [iv 17 0,iv 18 5,xA 19 2 17 18,dA 20 2 19,iv 21 1,iv 22 5,xA 23 2 21 22,dA 24 2 23,c2 25 111 20 24,nN 26 25] (cI 26 (rR [bA 4 false])))) (.reg [iv 15 5,pA 16 15 1,iv 5 16]))))) (rR [bA 4 true])))) [.t 4]:=yA none Tryz.func45 (by kernel_rfl)
theorem yo1 : Has Tryz.prog 46 27 (rS [bA 4 false] (iS [iv 6 0,nA 7 6,iv 8 1,nA 9 8,oA 10 .neq 7 9] 10 (rR [bA 4 false]) (.seq (rS [mA 5 0] (bL 0 (xS [iv 11 5,iv 12 0,nA 13 12,tA 14 11 13] 14 0 (.seq (.block 1 (rQ [iv 17 0,iv 18 5,xA 19 22 17 18,dA 20 22 19,iv 21 1,iv 22 5,xA 23 22 21 22,dA 24 22 23,c2 25 112 20 24,nN 26 25] (cI 26 (rR [bA 4 false])))) (.reg [iv 15 5,pA 16 15 1,iv 5 16]))))) (rR [bA 4 true])))) [.t 4]:=yA none Tryz.func46 (by kernel_rfl)
theorem ymn : Has Tryz.prog 47 27 (rS [bA 4 false] (iS [iv 6 0,nA 7 6,iv 8 1,nA 9 8,oA 10 .neq 7 9] 10 (rR [bA 4 false]) (.seq (rS [mA 5 0] (bL 0 (xS [iv 11 5,iv 12 0,nA 13 12,tA 14 11 13] 14 0 (.seq (.block 1 (rQ [iv 17 0,iv 18 5,xA 19 1 17 18,lA 20 19,iv 21 1,iv 22 5,xA 23 1 21 22,lA 24 23,c2 25 113 20 24,nN 26 25] (cI 26 (rR [bA 4 false])))) (.reg [iv 15 5,pA 16 15 1,iv 5 16]))))) (rR [bA 4 true])))) [.t 4]:=yA none Tryz.func47 (by kernel_rfl)
theorem ynC : Has Tryz.prog 48 27 (rS [bA 4 false] (iS [iv 6 0,nA 7 6,iv 8 1,nA 9 8,oA 10 .neq 7 9] 10 (rR [bA 4 false]) (.seq (rS [mA 5 0] (bL 0 (xS [iv 11 5,iv 12 0,nA 13 12,tA 14 11 13] 14 0 (.seq (.block 1 (rQ [iv 17 0,iv 18 5,xA 19 2 17 18,dA 20 2 19,iv 21 1,iv 22 5,xA 23 2 21 22,dA 24 2 23,c2 25 114 20 24,nN 26 25] (cI 26 (rR [bA 4 false])))) (.reg [iv 15 5,pA 16 15 1,iv 5 16]))))) (rR [bA 4 true])))) [.t 4]:=yA none Tryz.func48 (by kernel_rfl)
theorem yqx : Has Tryz.prog 49 26 (rS [bA 4 false] (iS [iv 6 0,nA 7 6,iv 8 1,nA 9 8,oA 10 .neq 7 9] 10 (rR [bA 4 false]) (.seq (rS [mA 5 0] (bL 0 (xS [iv 11 5,iv 12 0,nA 13 12,tA 14 11 13] 14 0 (.seq (.block 1 (rQ [iv 17 0,iv 18 5,xA 19 1 17 18,lA 20 19,iv 21 1,iv 22 5,xA 23 1 21 22,lA 24 23,oA 25 .neq 20 24] (cI 25 (rR [bA 4 false])))) (.reg [iv 15 5,pA 16 15 1,iv 5 16]))))) (rR [bA 4 true])))) [.t 4]:=yA none Tryz.func49 (by kernel_rfl)
def yiy : SC:=rS [bX 2 4 0,bX 3 4 1,bA 4 false] (iS [fA 5 0 2,lA 6 5,fA 7 0 3,lA 8 7,oA 9 .neq 6 8] 9 (rR [bA 4 false]) (iS [fA 10 1 2,lA 11 10,fA 12 1 3,lA 13 12,oA 14 .neq 11 13] 14 (rR [bA 4 false]) (iS [fA 15 2 2,lA 16 15,fA 17 2 3,lA 18 17,c2 19 49 16 18,nN 20 19] 20 (rR [bA 4 false]) (iS [fA 21 3 2,lA 22 21,fA 23 3 3,lA 24 23,c2 25 49 22 24,nN 26 25] 26 (rR [bA 4 false]) (rR [bA 4 true])))))
theorem ym8 : Has Tryz.prog 50 27 yiy [.t 4]:=yA none Tryz.func50 (by kernel_rfl)
theorem ynh : Has Tryz.prog 51 27 (rS [bA 4 false] (iS [iv 6 0,nA 7 6,iv 8 1,nA 9 8,oA 10 .neq 7 9] 10 (rR [bA 4 false]) (.seq (rS [mA 5 0] (bL 0 (xS [iv 11 5,iv 12 0,nA 13 12,tA 14 11 13] 14 0 (.seq (.block 1 (rQ [iv 17 0,iv 18 5,xA 19 5 17 18,dA 20 5 19,iv 21 1,iv 22 5,xA 23 5 21 22,dA 24 5 23,c2 25 115 20 24,nN 26 25] (cI 26 (rR [bA 4 false])))) (.reg [iv 15 5,pA 16 15 1,iv 5 16]))))) (rR [bA 4 true])))) [.t 4]:=yA none Tryz.func51 (by kernel_rfl)
theorem ylI : Has Tryz.prog 52 27 (rS [bA 4 false] (iS [iv 6 0,nA 7 6,iv 8 1,nA 9 8,oA 10 .neq 7 9] 10 (rR [bA 4 false]) (.seq (rS [mA 5 0] (bL 0 (xS [iv 11 5,iv 12 0,nA 13 12,tA 14 11 13] 14 0 (.seq (.block 1 (rQ [iv 17 0,iv 18 5,xA 19 4 17 18,dA 20 4 19,iv 21 1,iv 22 5,xA 23 4 21 22,dA 24 4 23,c2 25 116 20 24,nN 26 25] (cI 26 (rR [bA 4 false])))) (.reg [iv 15 5,pA 16 15 1,iv 5 16]))))) (rR [bA 4 true])))) [.t 4]:=yA none Tryz.func52 (by kernel_rfl)
def ylw : SC:=rS [bA 6 false] (rR [iv 7 0,iv 8 1,oA 9 .geq 7 8,iv 10 9,g8 10 true 11 0,g8 10 true 12 2,ig 10 true 13 (.bin .leq (.t 11) (.t 12)),pF 14 10 13,iv 6 14])
theorem ysx : Has Tryz.prog 78 15 ylw [.t 6]:=yA none Tryz.func78 (by kernel_rfl)
theorem ypp : Has Tryz.prog 82 18 (rS [bX 2 3 0,mA 4 0] (rS [fA 5 0 2,lA 6 5,iv 7 1,c2 8 166 6 7,iv 1 8] (iS [iv 9 1,oI 10 .lss 9 0] 10 (rR [mA 4 (-1)]) (rS [fA 11 2 2,lA 12 11,iv 13 1,c2 14 22 12 13,iv 1 14] (iS [iv 15 1,oI 16 .lss 15 0] 16 (rR [mA 4 (-1)]) (rR [iv 17 1,iv 4 17])))))) [.t 4]:=yA none Tryz.func82 (by kernel_rfl)
theorem yqH : Has Tryz.prog 83 24 (rS [bX 2 22 0,mA 4 0] (rS [fA 5 0 2,dA 6 10 5,iv 7 1,c2 8 167 6 7,iv 1 8] (iS [iv 9 1,oI 10 .lss 9 0] 10 (rR [mA 4 (-1)]) (rS [fA 11 18 2,lA 12 11,iv 13 1,c2 14 168 12 13,iv 1 14] (iS [iv 15 1,oI 16 .lss 15 0] 16 (rR [mA 4 (-1)]) (rS [fA 17 21 2,lA 18 17,iv 19 1,c2 20 169 18 19,iv 1 20] (iS [iv 21 1,oI 22 .lss 21 0] 22 (rR [mA 4 (-1)]) (rR [iv 23 1,iv 4 23])))))))) [.t 4]:=yA none Tryz.func83 (by kernel_rfl)
theorem ynH : Has Tryz.prog 84 27 (rS [mA 4 0] (rS [iv 6 1,iv 7 0,nA 8 7,oA 9 .sub 6 8,iv 1 9] (iS [iv 10 1,oI 11 .lss 10 0] 11 (rR [mA 4 (-1)]) (.seq (rS [mA 5 0] (bL 0 (xS [iv 12 5,iv 13 0,nA 14 13,tA 15 12 14] 15 0 (.seq (.block 1 (rS [iv 18 0,iv 19 5,xA 20 3 18 19,dA 21 3 20,iv 22 1,c2 23 170 21 22,iv 1 23] (rS [iv 24 1,oI 25 .lss 24 0] (cI 25 (rR [mA 4 (-1)]))))) (.reg [iv 16 5,pA 17 16 1,iv 5 17]))))) (rR [iv 26 1,iv 4 26]))))) [.t 4]:=yA none Tryz.func84 (by kernel_rfl)
theorem ypX : Has Tryz.prog 85 12 (rS [bX 2 2 0,mA 4 0] (rS [fA 5 1 2,lA 6 5,iv 7 1,c2 8 171 6 7,iv 1 8] (iS [iv 9 1,oI 10 .lss 9 0] 10 (rR [mA 4 (-1)]) (rR [iv 11 1,iv 4 11])))) [.t 4]:=yA none Tryz.func85 (by kernel_rfl)
theorem ymq : Has Tryz.prog 86 12 (rS [bX 2 4 0,mA 4 0] (rS [fA 5 2 2,dA 6 2 5,iv 7 1,c2 8 85 6 7,iv 1 8] (iS [iv 9 1,oI 10 .lss 9 0] 10 (rR [mA 4 (-1)]) (rR [iv 11 1,iv 4 11])))) [.t 4]:=yA none Tryz.func86 (by kernel_rfl)
theorem yro : Has Tryz.prog 87 19 (rS [bA 2 false] (.seq (rS [mA 3 0] (bL 0 (xS [iv 4 3,iv 5 0,nA 6 5,tA 7 4 6] 7 0 (.seq (.block 1 (rS [iv 10 0,iv 11 3,xA 12 5 10 11,dA 13 5 12,c1 14 172 13,nN 15 14] (cI 15 (rR [bA 2 false])))) (.reg [iv 8 3,pA 9 8 1,iv 3 9]))))) (rR [iv 16 0,nA 17 16,oI 18 .leq 17 2000,iv 2 18]))) [.t 2]:=yA none Tryz.func87 (by kernel_rfl)
theorem ynI : Has Tryz.prog 88 63 (rS [bX 1 4 0,bA 2 false] (iS [fA 6 0 1,lA 7 6,ia 8 (.call 78 [.t 7,kI 0,kI 10000]),nN 9 8,iv 10 9,gA 10 false 11 1 1,hA 10 false 12 11,ig 10 false 13 (.call 78 [.t 12,kI 0,kI 100]),g9 10 false 14 13,pT 15 10 14,iv 16 15,gA 16 false 17 2 1,hA 16 false 18 17,ig 16 false 19 (.len (.t 18)),ig 16 false 20 (.bin .neq (.t 19) (kI 3)),pT 21 16 20,iv 22 21,gA 22 false 23 3 1,hA 22 false 24 23,ig 22 false 25 (.len (.t 24)),ig 22 false 26 (.call 78 [.t 25,kI 1,kI 11]),g9 22 false 27 26,pT 28 22 27] 28 (rR [bA 2 false]) (.seq (rS [mA 3 0] (bL 0 (xS [iv 29 3,oI 30 .lss 29 3] 30 0 (.seq (.block 1 (rS [fA 33 2 1,lA 34 33,iv 35 3,xA 36 1 34 35,lA 37 36,ia 38 (.call 78 [.t 37,kI 0,kI 10000]),nN 39 38] (cI 39 (rR [bA 2 false])))) (.reg [iv 31 3,pA 32 31 1,iv 3 32]))))) (rS [mA 4 0] (.seq (rS [mA 5 0] (bL 2 (xS [iv 40 5,fA 41 3 1,lA 42 41,nA 43 42,tA 44 40 43] 44 2 (.seq (.block 3 (iS [fA 47 3 1,lA 48 47,iv 49 5,xA 50 1 48 49,lA 51 50,ia 52 (.call 78 [.t 51,kI 0,kI 1000]),nN 53 52] 53 (rR [bA 2 false]) (.reg [iv 54 4,fA 55 3 1,lA 56 55,iv 57 5,xA 58 1 56 57,lA 59 58,oA 60 .add 54 59,iv 4 60]))) (.reg [iv 45 5,pA 46 45 1,iv 5 46]))))) (rR [iv 61 4,oI 62 .gtr 61 0,iv 2 62])))))) [.t 2]:=yA none Tryz.func88 (by kernel_rfl)
theorem yoi : Has Tryz.prog 89 59 (rS [bX 1 2 0,bA 2 false] (rS [dA 7 2 1,c1 8 92 7,iv 3 8] (.seq (rS [mA 4 0] (bL 0 (xS [iv 9 4,fA 10 1 1,lA 11 10,nA 12 11,tA 13 9 12] 13 0 (.seq (.block 1 (rS [fA 16 1 1,lA 17 16,iv 18 4,xA 19 1 17 18,lA 20 19,nA 21 20,oI 22 .eql 21 0] (cI 22 (rR [bA 2 false])))) (.reg [iv 14 4,pA 15 14 1,iv 4 15]))))) (.seq (rS [mA 5 0] (bL 2 (xS [iv 23 5,iv 24 3,nA 25 24,tA 26 23 25,iv 27 26,g8 27 true 28 3,ig 27 true 29 (.len (.t 28)),ig 27 true 30 (.bin .leq (.t 29) (kI 6)),pF 31 27 30] 31 2 (.seq (.block 3 (iS [iv 34 3,iv 35 5,xA 36 6 34 35,dA 37 6 36,c1 38 173 37,nN 39 38] 39 (rR [bA 2 false]) (rS [mA 6 0] (bL 4 (xS [iv 40 6,iv 41 5,tA 42 40 41] 42 4 (.seq (.block 5 (rQ [iv 45 3,iv 46 6,xA 47 6 45 46,fA 48 0 47,lA 49 48,iv 50 3,iv 51 5,xA 52 6 50 51,fA 53 0 52,lA 54 53,oA 55 .eql 49 54] (cI 55 (rR [bA 2 false])))) (.reg [iv 43 6,pA 44 43 1,iv 6 44]))))))) (.reg [iv 32 5,pA 33 32 1,iv 5 33]))))) (rR [iv 56 3,nA 57 56,ia 58 (.call 78 [.t 57,kI 1,kI 6]),iv 2 58]))))) [.t 2]:=yA none Tryz.func89 (by kernel_rfl)
theorem yTr : Has Tryz.prog 90 112 (rS [mN 4 1] (rS [bZ 13 1,iv 5 13] (rS [bZ 14 1,iv 6 14] (rS [mA 7 0] (.seq (rS [mA 8 0] (bL 0 (xS [iv 15 8,iv 16 1,nA 17 16,tA 18 15 17] 18 0 (.seq (.block 1 (iS [iv 21 1,iv 22 8,xA 23 1 21 22,lA 24 23,ia 25 (.call 78 [.t 24,kI 0,kI 1000000]),nN 26 25,iv 27 26,g8 27 false 28 1,ig 27 false 29 (.len (.t 28)),ig 27 false 30 (.bin .gtr (.t 29) (kI 12)),pT 31 27 30] 31 (rR [iv 32 5,iv 4 32]) (.reg [iv 33 7,iv 34 1,iv 35 8,xA 36 1 34 35,lA 37 36,oA 38 .add 33 37,iv 7 38]))) (.reg [iv 19 8,pA 20 19 1,iv 8 20]))))) (iS [iv 39 7,oI 40 .eql 39 0,iv 41 40,g8 41 false 42 0,ig 41 false 43 (.call 78 [.t 42,kI 0,kI 1000000000]),g9 41 false 44 43,pT 45 41 44] 45 (rR [iv 46 5,iv 4 46]) (rS [iv 47 0,iv 9 47] (.seq (rS [mA 10 0] (bL 2 (xS [iv 48 10,iv 49 1,nA 50 49,tA 51 48 50] 51 2 (.seq (.block 3 (rS [iv 54 5,iv 55 0,iv 56 1,iv 57 10,xA 58 1 56 57,lA 59 58,oA 60 .mul 55 59,iv 61 7,oA 62 .quo 60 61,bS 63 1 62,aP 64 1 8 54 63,iv 5 64] (rS [iv 65 6,iv 66 0,iv 67 1,iv 68 10,xA 69 1 67 68,lA 70 69,oA 71 .mul 66 70,iv 72 7,oA 73 .rem 71 72,bS 74 1 73,aP 75 1 8 65 74,iv 6 75] (.reg [iv 76 9,iv 77 5,iv 78 10,xA 79 1 77 78,lA 80 79,oA 81 .sub 76 80,iv 9 81])))) (.reg [iv 52 10,pA 53 52 1,iv 10 53]))))) (.seq (bL 4 (xS [iv 82 9,oI 83 .gtr 82 0] 83 4 (.block 5 (rS [mA 11 0] (.seq (rS [mA 12 1] (bL 6 (xS [iv 84 12,iv 85 6,nA 86 85,tA 87 84 86] 87 6 (.seq (.block 7 (rQ [iv 90 6,iv 91 12,xA 92 1 90 91,lA 93 92,iv 94 6,iv 95 11,xA 96 1 94 95,lA 97 96,oA 98 .gtr 93 97] (cI 98 (.reg [iv 99 12,iv 11 99])))) (.reg [iv 88 12,pA 89 88 1,iv 12 89]))))) (rS [iv 100 5,iv 101 11,xA 102 1 100 101,lA 103 102,pA 104 103 1,xA 105 1 100 101,tS 105 104] (rS [iv 106 6,iv 107 11,xA 108 1 106 107,ie (.st1 (.t 108) (kI (-1)))] (.reg [iv 109 9,oI 110 .sub 109 1,iv 9 110])))))))) (rR [iv 111 5,iv 4 111])))))))))) [.t 4]:=yA none Tryz.func90 (by kernel_rfl)
theorem yTG : Has Tryz.prog 91 32 (rS [bX 2 4 0,bX 3 2 1,mA 4 0] (iS [dA 5 4 2,c1 6 88 5,nN 7 6,iv 8 7,ig 8 false 9 (.ldn 2 (.t 3)),ig 8 false 10 (.call 89 [.t 9]),g9 8 false 11 10,pT 12 8 11] 12 (rR [mA 4 0]) (rQ [fA 13 0 2,lA 14 13,fA 15 1 2,lA 16 15,dA 17 2 3,c1 18 174 17,oA 19 .mul 16 18,dA 20 2 3,c1 21 175 20,oA 22 .mul 19 21,oI 23 .quo 22 100,oA 24 .add 14 23,fA 25 2 2,lA 26 25,dA 27 2 3,c1 28 176 27,xA 29 1 26 28,lA 30 29,oA 31 .add 24 30,iv 4 31] .ret))) [.t 4]:=yA none Tryz.func91 (by kernel_rfl)
theorem ynj : Has Tryz.prog 92 21 (rS [bX 1 2 0,mN 2 6] (rS [bZ 5 6,iv 3 5] (.seq (rS [mA 4 0] (bL 0 (xS [iv 6 4,fA 7 1 1,lA 8 7,nA 9 8,tA 10 6 9] 10 0 (.seq (.block 1 (.reg [iv 13 3,fA 14 1 1,lA 15 14,iv 16 4,xA 17 1 15 16,lA 18 17,aP 19 6 48 13 18,iv 3 19])) (.reg [iv 11 4,pA 12 11 1,iv 4 12]))))) (rR [iv 20 3,iv 2 20])))) [.t 2]:=yA none Tryz.func92 (by kernel_rfl)
theorem yiN : Has Tryz.prog 93 16 (rS [bX 1 3 0,ia 2 (.alloc [.nil 2,.c (.i 0),.nil 1])] (rS [ia 3 (.alloc [.nil 2,.c (.i 0),.nil 1])] (rS [fA 4 0 1,lA 5 4,c1 6 177 5,fA 7 0 3,tS 7 6] (rS [fA 8 1 1,lA 9 8,fA 10 1 3,tS 10 9] (rS [fA 11 2 1,lA 12 11,c1 13 35 12,fA 14 2 3,tS 14 13] (rR [dA 15 3 3,tN 3 2 15])))))) [.cl 2 3]:=yA none Tryz.func93 (by kernel_rfl)
theorem ys1 : Has Tryz.prog 94 11 (rS [bX 1 2 0,ia 2 (.alloc [.c (.i 0),.c (.i 0)])] (rS [ia 3 (.alloc [.c (.i 0),.c (.i 0)])] (rS [fA 4 0 1,lA 5 4,fA 6 0 3,tS 6 5] (rS [fA 7 1 1,lA 8 7,fA 9 1 3,tS 9 8] (rR [dA 10 2 3,tN 2 2 10]))))) [.cl 2 2]:=yA none Tryz.func94 (by kernel_rfl)
theorem yka : Has Tryz.prog 95 29 (rS [bX 1 22 0,ia 2 (.alloc [.c (.i 0),.c (.i 0),.c (.i 0),.c (.i 0),.c (.i 0),.c (.i 0),.c (.i 0),.c (.i 0),.c (.i 0),.nil 2,.c (.i 0),.c (.i 0),.c (.i 0),.c (.i 0),.c (.i 0),.c (.i 0),.c (.i 0),.c (.i 0),.nil 2,.c (.b false),.c (.i 0),.nil 4])] (rS [ia 3 (.alloc [.c (.i 0),.c (.i 0),.c (.i 0),.c (.i 0),.c (.i 0),.c (.i 0),.c (.i 0),.c (.i 0),.c (.i 0),.nil 2,.c (.i 0),.c (.i 0),.c (.i 0),.c (.i 0),.c (.i 0),.c (.i 0),.c (.i 0),.c (.i 0),.nil 2,.c (.b false),.c (.i 0),.nil 4])] (rS [fA 4 0 1,dA 5 10 4,c1 6 178 5,fA 7 0 3,tN 10 7 6] (rS [fA 8 10 1,dA 9 5 8,c1 10 179 9,fA 11 10 3,tN 5 11 10] (rS [fA 12 15 1,dA 13 3 12,c1 14 180 13,fA 15 15 3,tN 3 15 14] (rS [fA 16 18 1,lA 17 16,c1 18 181 17,fA 19 18 3,tS 19 18] (rS [fA 20 19 1,dA 21 2 20,c1 22 182 21,fA 23 19 3,tN 2 23 22] (rS [fA 24 21 1,lA 25 24,c1 26 183 25,fA 27 21 3,tS 27 26] (rR [dA 28 22 3,tN 22 2 28]))))))))) [.cl 2 22]:=yA none Tryz.func95 (by kernel_rfl)
theorem yiz : Has Tryz.prog 96 23 (rS [mN 2 3] (rS [iv 5 0,nA 6 5,ia 7 (.mks 3 40 [.b false,.sl 1 [],.i 0] (.t 6) (.t 6)),iv 3 7] (.seq (rS [mA 4 0] (bL 0 (xS [iv 8 4,iv 9 0,nA 10 9,tA 11 8 10] 11 0 (.seq (.block 1 (.reg [iv 14 3,iv 15 4,iv 16 0,iv 17 4,xA 18 3 16 17,dA 19 3 18,c1 20 184 19,xA 21 3 14 15,tN 3 21 20])) (.reg [iv 12 4,pA 13 12 1,iv 4 13]))))) (rR [iv 22 3,iv 2 22])))) [.t 2]:=yA none Tryz.func96 (by kernel_rfl)
theorem yiU : Has Tryz.prog 97 12 (rS [bX 1 2 0,ia 2 (.alloc [.c (.b false),.nil 1])] (rS [ia 3 (.alloc [.c (.b false),.nil 1])] (rS [fA 4 0 1,lA 5 4,fA 6 0 3,tS 6 5] (rS [fA 7 1 1,lA 8 7,c1 9 185 8,fA 10 1 3,tS 10 9] (rR [dA 11 2 3,tN 2 2 11]))))) [.cl 2 2]:=yA none Tryz.func97 (by kernel_rfl)
theorem ypm : Has Tryz.prog 98 20 (rS [bX 1 5 0,ia 2 (.alloc [.c (.i 0),.c (.i 0),.c (.i 0),.c (.i 0),.c (.i 0)])] (rS [ia 3 (.alloc [.c (.i 0),.c (.i 0),.c (.i 0),.c (.i 0),.c (.i 0)])] (rS [fA 4 0 1,lA 5 4,fA 6 0 3,tS 6 5] (rS [fA 7 1 1,lA 8 7,fA 9 1 3,tS 9 8] (rS [fA 10 2 1,lA 11 10,fA 12 2 3,tS 12 11] (rS [fA 13 3 1,lA 14 13,fA 15 3 3,tS 15 14] (rS [fA 16 4 1,lA 17 16,fA 18 4 3,tS 18 17] (rR [dA 19 5 3,tN 5 2 19])))))))) [.cl 2 5]:=yA none Tryz.func98 (by kernel_rfl)
theorem yg7 : Has Tryz.prog 99 15 (rS [bX 1 4 0,ia 2 (.alloc [.c (.i 0),.c (.i 0),.c (.b false),.nil 1])] (rS [ia 3 (.alloc [.c (.i 0),.c (.i 0),.c (.b false),.nil 1])] (rS [fA 4 0 1,lA 5 4,fA 6 0 3,tS 6 5] (rS [fA 7 1 1,lA 8 7,fA 9 1 3,tS 9 8] (rS [fA 10 2 1,dA 11 2 10,c1 12 97 11,fA 13 2 3,tN 2 13 12] (rR [dA 14 4 3,tN 4 2 14])))))) [.cl 2 4]:=yA none Tryz.func99 (by kernel_rfl)
theorem yqI : Has Tryz.prog 100 18 (rS [bA 2 false] (iS [iv 5 0,nA 6 5,oI 7 .gtr 6 2000] 7 (rR [bA 2 false]) (.seq (rS [iv 8 0,nA 9 8,mA 10 0] (bL 0 (rS [tA 11 10 9] (.seq (cX 11 0) (.seq (.block 1 (rS [xA 12 5 8 10,dA 13 5 12,ia 4 (.alloc [.c (.i 0),.c (.i 0),.c (.i 0),.c (.i 0),.c (.i 0)]),tN 5 4 13] (rS [dA 14 5 4,c1 15 186 14,nN 16 15] (cI 16 (rR [bA 2 false]))))) (.reg [pA 17 10 1,iv 10 17])))))) (rR [bA 2 true])))) [.t 2]:=yA none Tryz.func100 (by kernel_rfl)
theorem ySd : Has Tryz.prog 101 36 (rS [mN 2 5] (rS [mA 3 0] (.seq (rS [iv 9 0,nA 10 9,mA 11 0] (bL 0 (rS [tA 12 11 10] (.seq (cX 12 0) (.seq (.block 1 (rS [xA 13 1 9 11,lA 14 13,iv 5 14] (rS [iv 15 3,iv 16 5,nA 17 16,oA 18 .add 15 17,iv 3 18] (rS [iv 19 3,oI 20 .lss 19 0] (cI 20 (.reg [ia 21 .bad,ie .bad])))))) (.reg [pA 22 11 1,iv 11 22])))))) (rS [iv 23 3,ia 24 (.call 187 [.k (.nil 5),.t 23]),iv 6 24] (.seq (rS [iv 25 0,nA 26 25,mA 27 0] (bL 2 (rS [tA 28 27 26] (.seq (cX 28 2) (.seq (.block 3 (rS [xA 29 1 25 27,lA 30 29,iv 8 30] (.reg [iv 31 6,iv 32 8,aP 33 5 40 31 32,iv 6 33]))) (.reg [pA 34 27 1,iv 27 34])))))) (rR [iv 35 6,iv 2 35])))))) [.t 2]:=yA none Tryz.func101 (by kernel_rfl)
def ybu : SC:=rS [mN 2 5] (iS [iv 3 0,ia 4 (.isn (.t 3))] 4 (rR [mN 2 5]) (rR [bZ 5 5,iv 6 0,aP 7 5 40 5 6,iv 2 7]))
theorem yc5 : Has Tryz.prog 102 8 ybu [.t 2]:=yA none Tryz.func102 (by kernel_rfl)
theorem ynP : Has Tryz.prog 103 63 (rS [bX 1 4 0,bA 2 false] (iS [fA 8 0 1,lA 9 8,ia 10 (.call 105 [.t 9,kI 0,kI 10000]),nN 11 10,iv 12 11,gA 12 false 13 1 1,hA 12 false 14 13,ig 12 false 15 (.call 105 [.t 14,kI 0,kI 100]),g9 12 false 16 15,pT 17 12 16,iv 18 17,gA 18 false 19 2 1,hA 18 false 20 19,ig 18 false 21 (.len (.t 20)),ig 18 false 22 (.bin .neq (.t 21) (kI 3)),pT 23 18 22,iv 24 23,gA 24 false 25 3 1,hA 24 false 26 25,ig 24 false 27 (.len (.t 26)),ig 24 false 28 (.bin .lss (.t 27) (kI 1)),pT 29 24 28,iv 30 29,gA 30 false 31 3 1,hA 30 false 32 31,ig 30 false 33 (.len (.t 32)),ig 30 false 34 (.bin .gtr (.t 33) (kI 11)),pT 35 30 34] 35 (rR [bA 2 false]) (.seq (rS [fA 36 2 1,lA 37 36,nA 38 37,mA 39 0] (bL 0 (rS [tA 40 39 38] (.seq (cX 40 0) (.seq (.block 1 (rS [xA 41 1 37 39,lA 42 41,iv 4 42] (rS [iv 43 4,ia 44 (.call 105 [.t 43,kI 0,kI 10000]),nN 45 44] (cI 45 (rR [bA 2 false]))))) (.reg [pA 46 39 1,iv 39 46])))))) (rS [mA 5 0] (.seq (rS [fA 47 3 1,lA 48 47,nA 49 48,mA 50 0] (bL 2 (rS [tA 51 50 49] (.seq (cX 51 2) (.seq (.block 3 (rS [xA 52 1 48 50,lA 53 52,iv 7 53] (iS [iv 54 7,ia 55 (.call 105 [.t 54,kI 0,kI 1000]),nN 56 55] 56 (rR [bA 2 false]) (.reg [iv 57 5,iv 58 7,oA 59 .add 57 58,iv 5 59])))) (.reg [pA 60 50 1,iv 50 60])))))) (rR [iv 61 5,oI 62 .gtr 61 0,iv 2 62])))))) [.t 2]:=yA none Tryz.func103 (by kernel_rfl)
theorem yoE : Has Tryz.prog 104 60 (rS [bX 1 2 0,bA 2 false] (iS [fA 9 1 1,lA 10 9,nA 11 10,oI 12 .eql 11 0,iv 13 12,gA 13 false 14 1 1,hA 13 false 15 14,ig 13 false 16 (.len (.t 15)),ig 13 false 17 (.bin .gtr (.t 16) (kI 6)),pT 18 13 17] 18 (rR [bA 2 false]) (rS [ia 3 (.alloca 1 6 [.i 0])] (rS [mA 4 0] (.seq (rS [fA 19 1 1,lA 20 19,nA 21 20,mA 22 0] (bL 0 (rS [tA 23 22 21] (.seq (cX 23 0) (.seq (.block 1 (rS [xA 24 1 20 22,lA 25 24,iv 6 25] (iS [iv 26 6,nA 27 26,oI 28 .eql 27 0,iv 29 28,g8 29 false 30 4,g8 29 false 31 6,ig 29 false 32 (.len (.t 31)),ig 29 false 33 (.bin .add (.t 30) (.t 32)),ig 29 false 34 (.bin .gtr (.t 33) (kI 6)),pT 35 29 34] 35 (rR [bA 2 false]) (rS [iv 36 6,nA 37 36,mA 38 0] (bL 2 (rS [tA 39 38 37] (.seq (cX 39 2) (.seq (.block 3 (rS [xA 40 6 36 38,dA 41 6 40,ia 8 (.alloc [.c (.i 0),.c (.i 0),.c (.i 0),.c (.i 0),.c (.i 0),.c (.i 0)]),tN 6 8 41] (.seq (rQ [dA 42 6 8,c1 43 188 42,nN 44 43,iv 45 44,g8 45 false 46 4,ig 45 false 47 (.sla 1 6 (.t 3) (.t 46)),gA 45 false 48 0 8,hA 45 false 49 48,ig 45 false 50 (.call 42 [.t 47,.t 49]),pT 51 45 50] (cI 51 (rR [bA 2 false]))) (rS [iv 52 4,fA 53 0 8,lA 54 53,ia 55 (.ida 1 6 (.t 3) (.t 52)),tS 55 54] (.reg [iv 56 4,pA 57 56 1,iv 4 57]))))) (.reg [pA 58 38 1,iv 38 58]))))))))) (.reg [pA 59 22 1,iv 22 59])))))) (rR [bA 2 true])))))) [.t 2]:=yA none Tryz.func104 (by kernel_rfl)
def yi1 : SC:=rS [bA 6 false] (rR [iv 7 0,iv 8 1,oA 9 .geq 7 8,iv 10 9,g8 10 true 11 0,g8 10 true 12 2,ig 10 true 13 (.bin .leq (.t 11) (.t 12)),pF 14 10 13,iv 6 14])
theorem yot : Has Tryz.prog 105 15 yi1 [.t 6]:=yA none Tryz.func105 (by kernel_rfl)
theorem yTp : Has Tryz.prog 106 93 (rS [bX 2 1 0,bX 3 1 1,mN 4 1] (iS [lA 14 2,ia 15 (.call 105 [.t 14,kI 0,kI 1000000000]),nN 16 15,iv 17 16,hA 17 false 18 3,ig 17 false 19 (.len (.t 18)),ig 17 false 20 (.bin .lss (.t 19) (kI 1)),pT 21 17 20,iv 22 21,hA 22 false 23 3,ig 22 false 24 (.len (.t 23)),ig 22 false 25 (.bin .gtr (.t 24) (kI 12)),pT 26 22 25] 26 (rR [mN 4 1]) (rS [ia 5 (.alloc [.c (.i 0)]),ie (.st1 (.t 5) (kI 0))] (.seq (rS [lA 27 3,nA 28 27,mA 29 0] (bL 0 (rS [tA 30 29 28] (.seq (cX 30 0) (.seq (.block 1 (rS [xA 31 1 27 29,lA 32 31,iv 7 32] (iS [iv 33 7,ia 34 (.call 105 [.t 33,kI 0,kI 1000000]),nN 35 34] 35 (rR [mN 4 1]) (.reg [lA 36 5,iv 37 7,oA 38 .add 36 37,tS 5 38])))) (.reg [pA 39 29 1,iv 29 39])))))) (iS [lA 40 5,oI 41 .eql 40 0] 41 (rR [mN 4 1]) (rS [lA 42 3,nA 43 42,ia 44 (.mks 1 8 [.i 0] (.t 43) (.t 43)),iv 8 44] (rS [lA 45 3,nA 46 45,ia 47 (.mks 1 8 [.i 0] (.t 46) (.t 46)),iv 9 47] (rS [lA 48 2,iv 10 48] (.seq (rS [lA 49 3,nA 50 49,mA 51 0] (bL 2 (rS [tA 52 51 50] (.seq (cX 52 2) (.seq (.block 3 (rS [iv 53 51,xA 54 1 49 51,lA 55 54,iv 11 53,iv 12 55] (rS [iv 56 8,iv 57 11,lA 58 2,iv 59 12,oA 60 .mul 58 59,lA 61 5,oA 62 .quo 60 61,xA 63 1 56 57,tS 63 62] (rS [iv 64 10,iv 65 8,iv 66 11,xA 67 1 65 66,lA 68 67,oA 69 .sub 64 68,iv 10 69] (.reg [iv 70 9,iv 71 11,iv 72 11,xA 73 1 70 71,tS 73 72]))))) (.reg [pA 74 51 1,iv 51 74])))))) (rS [iv 75 9,ia 76 (.mkf 190 [.t 2,.t 3,.t 5]),c2 77 189 75 76] (.seq (rS [mA 13 0] (bL 4 (xS [iv 78 13,iv 79 10,tA 80 78 79] 80 4 (.seq (.block 5 (.reg [iv 83 8,iv 84 9,iv 85 13,xA 86 1 84 85,lA 87 86,xA 88 1 83 87,lA 89 88,pA 90 89 1,xA 91 1 83 87,tS 91 90])) (.reg [iv 81 13,pA 82 81 1,iv 13 82]))))) (rR [iv 92 8,iv 4 92])))))))))))) [.t 4]:=yA none Tryz.func106 (by kernel_rfl)
theorem yTE : Has Tryz.prog 107 32 (rS [bX 2 4 0,bX 3 2 1,mA 4 0] (iS [dA 5 4 2,c1 6 103 5,nN 7 6,iv 8 7,ig 8 false 9 (.ldn 2 (.t 3)),ig 8 false 10 (.call 104 [.t 9]),g9 8 false 11 10,pT 12 8 11] 12 (rR [mA 4 0]) (rQ [fA 13 0 2,lA 14 13,fA 15 1 2,lA 16 15,dA 17 2 3,c1 18 191 17,oA 19 .mul 16 18,dA 20 2 3,c1 21 192 20,oA 22 .mul 19 21,oI 23 .quo 22 100,oA 24 .add 14 23,fA 25 2 2,lA 26 25,dA 27 2 3,c1 28 193 27,xA 29 1 26 28,lA 30 29,oA 31 .add 24 30,iv 4 31] .ret))) [.t 4]:=yA none Tryz.func107 (by kernel_rfl)
theorem yoM : Has Tryz.prog 108 18 (rS [bX 1 2 0,mN 2 6] (rS [mN 3 6] (.seq (rS [fA 6 1 1,lA 7 6,nA 8 7,mA 9 0] (bL 0 (rS [tA 10 9 8] (.seq (cX 10 0) (.seq (.block 1 (rS [xA 11 1 7 9,lA 12 11,iv 5 12] (.reg [iv 13 3,iv 14 5,aP 15 6 48 13 14,iv 3 15]))) (.reg [pA 16 9 1,iv 9 16])))))) (rR [iv 17 3,iv 2 17])))) [.t 2]:=yA none Tryz.func108 (by kernel_rfl)
theorem ygi : Has Tryz.prog 109 19 (rS [mA 4 0] (.seq (rS [iv 6 0,nA 7 6,mA 8 0] (bL 0 (rS [tA 9 8 7] (.seq (cX 9 0) (.seq (.block 1 (rS [iv 10 8,iv 5 10] (rS [iv 11 1,iv 12 0,iv 13 5,xA 14 1 12 13,lA 15 14,oA 16 .eql 11 15] (cI 16 (rR [iv 17 5,iv 4 17]))))) (.reg [pA 18 8 1,iv 8 18])))))) (rR [mA 4 (-1)]))) [.t 4]:=yA none Tryz.func109 (by kernel_rfl)
def yjl : SC:=rS [bX 2 3 0,bX 3 3 1,bA 4 false] (iS [fA 5 0 2,lA 6 5,fA 7 0 3,lA 8 7,c2 9 194 6 8,nN 10 9] 10 (rR [bA 4 false]) (iS [fA 11 1 2,lA 12 11,fA 13 1 3,lA 14 13,oA 15 .neq 12 14] 15 (rR [bA 4 false]) (iS [fA 16 2 2,lA 17 16,fA 18 2 3,lA 19 18,c2 20 49 17 19,nN 21 20] 21 (rR [bA 4 false]) (rR [bA 4 true]))))
theorem yn6 : Has Tryz.prog 110 22 yjl [.t 4]:=yA none Tryz.func110 (by kernel_rfl)
def ykN : SC:=rS [bX 2 2 0,bX 3 2 1,bA 4 false] (iS [fA 5 0 2,lA 6 5,fA 7 0 3,lA 8 7,oA 9 .neq 6 8] 9 (rR [bA 4 false]) (iS [fA 10 1 2,lA 11 10,fA 12 1 3,lA 13 12,oA 14 .neq 11 13] 14 (rR [bA 4 false]) (rR [bA 4 true])))
theorem ysB : Has Tryz.prog 111 15 ykN [.t 4]:=yA none Tryz.func111 (by kernel_rfl)
def yj1 : SC:=rS [bX 2 22 0,bX 3 22 1,bA 4 false] (iS [fA 5 0 2,dA 6 10 5,fA 7 0 3,dA 8 10 7,c2 9 195 6 8,nN 10 9] 10 (rR [bA 4 false]) (iS [fA 11 10 2,dA 12 5 11,fA 13 10 3,dA 14 5 13,c2 15 196 12 14,nN 16 15] 16 (rR [bA 4 false]) (iS [fA 17 15 2,dA 18 3 17,fA 19 15 3,dA 20 3 19,c2 21 197 18 20,nN 22 21] 22 (rR [bA 4 false]) (iS [fA 23 18 2,lA 24 23,fA 25 18 3,lA 26 25,c2 27 198 24 26,nN 28 27] 28 (rR [bA 4 false]) (iS [fA 29 19 2,dA 30 2 29,fA 31 19 3,dA 32 2 31,c2 33 199 30 32,nN 34 33] 34 (rR [bA 4 false]) (iS [fA 35 21 2,lA 36 35,fA 37 21 3,lA 38 37,c2 39 200 36 38,nN 40 39] 40 (rR [bA 4 false]) (rR [bA 4 true])))))))
theorem yqq : Has Tryz.prog 112 41 yj1 [.t 4]:=yA none Tryz.func112 (by kernel_rfl)
theorem ynq : Has Tryz.prog 113 27 (rS [bA 4 false] (iS [iv 6 0,nA 7 6,iv 8 1,nA 9 8,oA 10 .neq 7 9] 10 (rR [bA 4 false]) (.seq (rS [mA 5 0] (bL 0 (xS [iv 11 5,iv 12 0,nA 13 12,tA 14 11 13] 14 0 (.seq (.block 1 (rQ [iv 17 0,iv 18 5,xA 19 3 17 18,dA 20 3 19,iv 21 1,iv 22 5,xA 23 3 21 22,dA 24 3 23,c2 25 201 20 24,nN 26 25] (cI 26 (rR [bA 4 false])))) (.reg [iv 15 5,pA 16 15 1,iv 5 16]))))) (rR [bA 4 true])))) [.t 4]:=yA none Tryz.func113 (by kernel_rfl)
def yiE : SC:=rS [bX 2 2 0,bX 3 2 1,bA 4 false] (iS [fA 5 0 2,lA 6 5,fA 7 0 3,lA 8 7,ia 9 (.beq true (.t 6) (.t 8))] 9 (rR [bA 4 false]) (iS [fA 10 1 2,lA 11 10,fA 12 1 3,lA 13 12,c2 14 202 11 13,nN 15 14] 15 (rR [bA 4 false]) (rR [bA 4 true])))
theorem yoZ : Has Tryz.prog 114 16 yiE [.t 4]:=yA none Tryz.func114 (by kernel_rfl)
def yja : SC:=rS [bX 2 5 0,bX 3 5 1,bA 4 false] (iS [fA 5 0 2,lA 6 5,fA 7 0 3,lA 8 7,oA 9 .neq 6 8] 9 (rR [bA 4 false]) (iS [fA 10 1 2,lA 11 10,fA 12 1 3,lA 13 12,oA 14 .neq 11 13] 14 (rR [bA 4 false]) (iS [fA 15 2 2,lA 16 15,fA 17 2 3,lA 18 17,oA 19 .neq 16 18] 19 (rR [bA 4 false]) (iS [fA 20 3 2,lA 21 20,fA 22 3 3,lA 23 22,oA 24 .neq 21 23] 24 (rR [bA 4 false]) (iS [fA 25 4 2,lA 26 25,fA 27 4 3,lA 28 27,oA 29 .neq 26 28] 29 (rR [bA 4 false]) (rR [bA 4 true]))))))
theorem yn0 : Has Tryz.prog 115 30 yja [.t 4]:=yA none Tryz.func115 (by kernel_rfl)
def yhh : SC:=rS [bX 2 4 0,bX 3 4 1,bA 4 false] (iS [fA 5 0 2,lA 6 5,fA 7 0 3,lA 8 7,oA 9 .neq 6 8] 9 (rR [bA 4 false]) (iS [fA 10 1 2,lA 11 10,fA 12 1 3,lA 13 12,oA 14 .neq 11 13] 14 (rR [bA 4 false]) (iS [fA 15 2 2,dA 16 2 15,fA 17 2 3,dA 18 2 17,c2 19 114 16 18,nN 20 19] 20 (rR [bA 4 false]) (rR [bA 4 true]))))
theorem ymw : Has Tryz.prog 116 21 yhh [.t 4]:=yA none Tryz.func116 (by kernel_rfl)
def yiq : SC:=rS [mA 4 0] (rS [iv 5 1,iv 6 0,nA 7 6,oA 8 .sub 5 7,iv 1 8] (iS [iv 9 1,oI 10 .lss 9 0] 10 (rR [mA 4 (-1)]) (rR [iv 11 1,iv 4 11])))
theorem ynd : Has Tryz.prog 166 12 yiq [.t 4]:=yA none Tryz.func166 (by kernel_rfl)
theorem yqV : Has Tryz.prog 167 12 (rS [bX 2 10 0,mA 4 0] (rS [fA 5 9 2,lA 6 5,iv 7 1,c2 8 21 6 7,iv 1 8] (iS [iv 9 1,oI 10 .lss 9 0] 10 (rR [mA 4 (-1)]) (rR [iv 11 1,iv 4 11])))) [.t 4]:=yA none Tryz.func167 (by kernel_rfl)
def yir : SC:=rS [mA 4 0] (rS [iv 5 1,iv 6 0,nA 7 6,oA 8 .sub 5 7,iv 1 8] (iS [iv 9 1,oI 10 .lss 9 0] 10 (rR [mA 4 (-1)]) (rR [iv 11 1,iv 4 11])))
theorem ynK : Has Tryz.prog 168 12 yir [.t 4]:=yA none Tryz.func168 (by kernel_rfl)
theorem ypT : Has Tryz.prog 169 27 (rS [mA 4 0] (rS [iv 6 1,iv 7 0,nA 8 7,oA 9 .sub 6 8,iv 1 9] (iS [iv 10 1,oI 11 .lss 10 0] 11 (rR [mA 4 (-1)]) (.seq (rS [mA 5 0] (bL 0 (xS [iv 12 5,iv 13 0,nA 14 13,tA 15 12 14] 15 0 (.seq (.block 1 (rS [iv 18 0,iv 19 5,xA 20 4 18 19,dA 21 4 20,iv 22 1,c2 23 258 21 22,iv 1 23] (rS [iv 24 1,oI 25 .lss 24 0] (cI 25 (rR [mA 4 (-1)]))))) (.reg [iv 16 5,pA 17 16 1,iv 5 17]))))) (rR [iv 26 1,iv 4 26]))))) [.t 4]:=yA none Tryz.func169 (by kernel_rfl)
theorem ypW : Has Tryz.prog 170 12 (rS [bX 2 3 0,mA 4 0] (rS [fA 5 0 2,dA 6 2 5,iv 7 1,c2 8 85 6 7,iv 1 8] (iS [iv 9 1,oI 10 .lss 9 0] 10 (rR [mA 4 (-1)]) (rR [iv 11 1,iv 4 11])))) [.t 4]:=yA none Tryz.func170 (by kernel_rfl)
theorem ynp : Has Tryz.prog 171 27 (rS [mA 4 0] (rS [iv 6 1,iv 7 0,nA 8 7,oA 9 .sub 6 8,iv 1 9] (iS [iv 10 1,oI 11 .lss 10 0] 11 (rR [mA 4 (-1)]) (.seq (rS [mA 5 0] (bL 0 (xS [iv 12 5,iv 13 0,nA 14 13,tA 15 12 14] 15 0 (.seq (.block 1 (rS [iv 18 0,iv 19 5,xA 20 1 18 19,lA 21 20,iv 22 1,c2 23 259 21 22,iv 1 23] (rS [iv 24 1,oI 25 .lss 24 0] (cI 25 (rR [mA 4 (-1)]))))) (.reg [iv 16 5,pA 17 16 1,iv 5 17]))))) (rR [iv 26 1,iv 4 26]))))) [.t 4]:=yA none Tryz.func171 (by kernel_rfl)
theorem yqb : Has Tryz.prog 172 33 (rS [bX 1 5 0,bA 2 false] (rR [fA 3 0 1,lA 4 3,fA 5 1 1,lA 6 5,oA 7 .neq 4 6,iv 8 7,gA 8 true 9 0 1,hA 8 true 10 9,ig 8 true 11 (.call 78 [.t 10,kI 0,kI 11]),pF 12 8 11,iv 13 12,gA 13 true 14 1 1,hA 13 true 15 14,ig 13 true 16 (.call 78 [.t 15,kI 0,kI 11]),pF 17 13 16,iv 18 17,gA 18 true 19 2 1,hA 18 true 20 19,ig 18 true 21 (.call 78 [.t 20,kI 1,kI 1000000000]),pF 22 18 21,iv 23 22,gA 23 true 24 3 1,hA 23 true 25 24,ig 23 true 26 (.call 78 [.t 25,kI 0,kI 1000000]),pF 27 23 26,iv 28 27,gA 28 true 29 4 1,hA 28 true 30 29,ig 28 true 31 (.call 78 [.t 30,kI 0,kI 9999]),pF 32 28 31,iv 2 32])) [.t 2]:=yA none Tryz.func172 (by kernel_rfl)
theorem yrf : Has Tryz.prog 173 31 (rS [bX 1 6 0,bA 2 false] (rR [fA 3 0 1,lA 4 3,ia 5 (.call 78 [.t 4,kI 1,kI 9999]),iv 6 5,gA 6 true 7 1 1,hA 6 true 8 7,ig 6 true 9 (.call 78 [.t 8,kI 1,kI 200]),pF 10 6 9,iv 11 10,gA 11 true 12 2 1,hA 11 true 13 12,ig 11 true 14 (.call 78 [.t 13,kI 1,kI 30]),pF 15 11 14,iv 16 15,gA 16 true 17 3 1,hA 16 true 18 17,ig 16 true 19 (.call 78 [.t 18,kI 1,kI 100]),pF 20 16 19,iv 21 20,gA 21 true 22 4 1,hA 21 true 23 22,ig 21 true 24 (.call 78 [.t 23,kI 1,kI 50]),pF 25 21 24,iv 26 25,gA 26 true 27 5 1,hA 26 true 28 27,ig 26 true 29 (.call 78 [.t 28,kI 0,kI 2]),pF 30 26 29,iv 2 30])) [.t 2]:=yA none Tryz.func173 (by kernel_rfl)
theorem yTq : Has Tryz.prog 174 43 (rS [bX 1 2 0,mA 2 0] (rS [mA 3 0] (.seq (rS [mA 4 0] (bL 0 (xS [iv 7 4,fA 8 1 1,lA 9 8,nA 10 9,tA 11 7 10,iv 12 11,ig 12 true 13 (.ldn 2 (.t 1)),ig 12 true 14 (.call 89 [.t 13]),pF 15 12 14] 15 0 (.seq (.block 1 (rS [mA 5 0] (.seq (rS [mA 6 0] (bL 2 (xS [iv 18 6,fA 19 1 1,lA 20 19,iv 21 4,xA 22 1 20 21,lA 23 22,nA 24 23,tA 25 18 24] 25 2 (.seq (.block 3 (.reg [iv 28 5,fA 29 1 1,lA 30 29,iv 31 4,xA 32 1 30 31,lA 33 32,iv 34 6,xA 35 6 33 34,fA 36 1 35,lA 37 36,ia 38 (.mx [.t 28,.t 37]),iv 5 38])) (.reg [iv 26 6,pA 27 26 1,iv 6 27]))))) (.reg [iv 39 3,iv 40 5,oA 41 .add 39 40,iv 3 41])))) (.reg [iv 16 4,pA 17 16 1,iv 4 17]))))) (rR [iv 42 3,iv 2 42])))) [.t 2]:=yA none Tryz.func174 (by kernel_rfl)
theorem yTz : Has Tryz.prog 175 43 (rS [bX 1 2 0,mA 2 0] (rS [mA 3 0] (.seq (rS [mA 4 0] (bL 0 (xS [iv 7 4,fA 8 1 1,lA 9 8,nA 10 9,tA 11 7 10,iv 12 11,ig 12 true 13 (.ldn 2 (.t 1)),ig 12 true 14 (.call 89 [.t 13]),pF 15 12 14] 15 0 (.seq (.block 1 (rS [mA 5 0] (.seq (rS [mA 6 0] (bL 2 (xS [iv 18 6,fA 19 1 1,lA 20 19,iv 21 4,xA 22 1 20 21,lA 23 22,nA 24 23,tA 25 18 24] 25 2 (.seq (.block 3 (.reg [iv 28 5,fA 29 1 1,lA 30 29,iv 31 4,xA 32 1 30 31,lA 33 32,iv 34 6,xA 35 6 33 34,fA 36 2 35,lA 37 36,oA 38 .add 28 37,iv 5 38])) (.reg [iv 26 6,pA 27 26 1,iv 6 27]))))) (.reg [iv 39 3,iv 40 5,ia 41 (.mx [.t 39,.t 40]),iv 3 41])))) (.reg [iv 16 4,pA 17 16 1,iv 4 17]))))) (rR [iv 42 3,iv 2 42])))) [.t 2]:=yA none Tryz.func175 (by kernel_rfl)
theorem yL3 : Has Tryz.prog 176 29 (rS [bX 1 2 0,mA 2 0] (rS [dA 6 2 1,c1 7 92 6,iv 3 7] (iS [dA 8 2 1,c1 9 89 8,nN 10 9] 10 (rR [mA 2 (-1)]) (rS [iv 11 3,ia 12 (.idx 6 (.t 11) (kI 0)),fA 13 5 12,lA 14 13,iv 4 14] (.seq (rS [mA 5 0] (bL 0 (xS [iv 15 5,iv 16 3,nA 17 16,tA 18 15 17] 18 0 (.seq (.block 1 (.reg [iv 21 4,iv 22 3,iv 23 5,xA 24 6 22 23,fA 25 5 24,lA 26 25,ia 27 (.mn [.t 21,.t 26]),iv 4 27])) (.reg [iv 19 5,pA 20 19 1,iv 5 20]))))) (rR [iv 28 4,iv 2 28])))))) [.t 2]:=yA none Tryz.func176 (by kernel_rfl)
theorem yiu : Has Tryz.prog 177 23 (rS [mN 2 2] (rS [iv 5 0,nA 6 5,ia 7 (.mks 2 16 [.i 0,.i 0] (.t 6) (.t 6)),iv 3 7] (.seq (rS [mA 4 0] (bL 0 (xS [iv 8 4,iv 9 0,nA 10 9,tA 11 8 10] 11 0 (.seq (.block 1 (.reg [iv 14 3,iv 15 4,iv 16 0,iv 17 4,xA 18 2 16 17,dA 19 2 18,c1 20 260 19,xA 21 2 14 15,tN 2 21 20])) (.reg [iv 12 4,pA 13 12 1,iv 4 13]))))) (rR [iv 22 3,iv 2 22])))) [.t 2]:=yA none Tryz.func177 (by kernel_rfl)
theorem ykg : Has Tryz.prog 178 36 (rS [bX 1 10 0,ia 2 (.alloc [.c (.i 0),.c (.i 0),.c (.i 0),.c (.i 0),.c (.i 0),.c (.i 0),.c (.i 0),.c (.i 0),.c (.i 0),.nil 2])] (rS [ia 3 (.alloc [.c (.i 0),.c (.i 0),.c (.i 0),.c (.i 0),.c (.i 0),.c (.i 0),.c (.i 0),.c (.i 0),.c (.i 0),.nil 2])] (rS [fA 4 0 1,lA 5 4,fA 6 0 3,tS 6 5] (rS [fA 7 1 1,lA 8 7,fA 9 1 3,tS 9 8] (rS [fA 10 2 1,lA 11 10,fA 12 2 3,tS 12 11] (rS [fA 13 3 1,lA 14 13,fA 15 3 3,tS 15 14] (rS [fA 16 4 1,lA 17 16,fA 18 4 3,tS 18 17] (rS [fA 19 5 1,lA 20 19,fA 21 5 3,tS 21 20] (rS [fA 22 6 1,lA 23 22,fA 24 6 3,tS 24 23] (rS [fA 25 7 1,lA 26 25,fA 27 7 3,tS 27 26] (rS [fA 28 8 1,lA 29 28,fA 30 8 3,tS 30 29] (rS [fA 31 9 1,lA 32 31,c1 33 34 32,fA 34 9 3,tS 34 33] (rR [dA 35 10 3,tN 10 2 35]))))))))))))) [.cl 2 10]:=yA none Tryz.func178 (by kernel_rfl)
theorem yq2 : Has Tryz.prog 179 20 (rS [bX 1 5 0,ia 2 (.alloc [.c (.i 0),.c (.i 0),.c (.i 0),.c (.i 0),.c (.i 0)])] (rS [ia 3 (.alloc [.c (.i 0),.c (.i 0),.c (.i 0),.c (.i 0),.c (.i 0)])] (rS [fA 4 0 1,lA 5 4,fA 6 0 3,tS 6 5] (rS [fA 7 1 1,lA 8 7,fA 9 1 3,tS 9 8] (rS [fA 10 2 1,lA 11 10,fA 12 2 3,tS 12 11] (rS [fA 13 3 1,lA 14 13,fA 15 3 3,tS 15 14] (rS [fA 16 4 1,lA 17 16,fA 18 4 3,tS 18 17] (rR [dA 19 5 3,tN 5 2 19])))))))) [.cl 2 5]:=yA none Tryz.func179 (by kernel_rfl)
theorem yqZ : Has Tryz.prog 180 14 (rS [bX 1 3 0,ia 2 (.alloc [.c (.i 0),.c (.i 0),.c (.i 0)])] (rS [ia 3 (.alloc [.c (.i 0),.c (.i 0),.c (.i 0)])] (rS [fA 4 0 1,lA 5 4,fA 6 0 3,tS 6 5] (rS [fA 7 1 1,lA 8 7,fA 9 1 3,tS 9 8] (rS [fA 10 2 1,lA 11 10,fA 12 2 3,tS 12 11] (rR [dA 13 3 3,tN 3 2 13])))))) [.cl 2 3]:=yA none Tryz.func180 (by kernel_rfl)
theorem yis : Has Tryz.prog 181 23 (rS [mN 2 2] (rS [iv 5 0,nA 6 5,ia 7 (.mks 2 16 [.i 0,.i 0] (.t 6) (.t 6)),iv 3 7] (.seq (rS [mA 4 0] (bL 0 (xS [iv 8 4,iv 9 0,nA 10 9,tA 11 8 10] 11 0 (.seq (.block 1 (.reg [iv 14 3,iv 15 4,iv 16 0,iv 17 4,xA 18 2 16 17,dA 19 2 18,c1 20 261 19,xA 21 2 14 15,tN 2 21 20])) (.reg [iv 12 4,pA 13 12 1,iv 4 13]))))) (rR [iv 22 3,iv 2 22])))) [.t 2]:=yA none Tryz.func181 (by kernel_rfl)
theorem yqv : Has Tryz.prog 182 11 (rS [bX 1 2 0,ia 2 (.alloc [.c (.b false),.c (.i 0)])] (rS [ia 3 (.alloc [.c (.b false),.c (.i 0)])] (rS [fA 4 0 1,lA 5 4,fA 6 0 3,tS 6 5] (rS [fA 7 1 1,lA 8 7,fA 9 1 3,tS 9 8] (rR [dA 10 2 3,tN 2 2 10]))))) [.cl 2 2]:=yA none Tryz.func182 (by kernel_rfl)
theorem yiL : Has Tryz.prog 183 23 (rS [mN 2 4] (rS [iv 5 0,nA 6 5,ia 7 (.mks 4 48 [.b false,.sl 1 [],.i 0,.i 0] (.t 6) (.t 6)),iv 3 7] (.seq (rS [mA 4 0] (bL 0 (xS [iv 8 4,iv 9 0,nA 10 9,tA 11 8 10] 11 0 (.seq (.block 1 (.reg [iv 14 3,iv 15 4,iv 16 0,iv 17 4,xA 18 4 16 17,dA 19 4 18,c1 20 262 19,xA 21 4 14 15,tN 4 21 20])) (.reg [iv 12 4,pA 13 12 1,iv 4 13]))))) (rR [iv 22 3,iv 2 22])))) [.t 2]:=yA none Tryz.func183 (by kernel_rfl)
theorem yiQ : Has Tryz.prog 184 12 (rS [bX 1 3 0,ia 2 (.alloc [.c (.b false),.nil 1,.c (.i 0)])] (rS [ia 3 (.alloc [.c (.b false),.nil 1,.c (.i 0)])] (rS [fA 4 0 1,dA 5 2 4,c1 6 97 5,fA 7 0 3,tN 2 7 6] (rS [fA 8 2 1,lA 9 8,fA 10 2 3,tS 10 9] (rR [dA 11 3 3,tN 3 2 11]))))) [.cl 2 3]:=yA none Tryz.func184 (by kernel_rfl)
theorem yim : Has Tryz.prog 185 23 (rS [mN 2 1] (rS [iv 5 0,nA 6 5,ia 7 (.mks 1 24 [.sl 6 []] (.t 6) (.t 6)),iv 3 7] (.seq (rS [mA 4 0] (bL 0 (xS [iv 8 4,iv 9 0,nA 10 9,tA 11 8 10] 11 0 (.seq (.block 1 (.reg [iv 14 3,iv 15 4,iv 16 0,iv 17 4,xA 18 1 16 17,lA 19 18,c1 20 263 19,xA 21 1 14 15,tS 21 20])) (.reg [iv 12 4,pA 13 12 1,iv 4 13]))))) (rR [iv 22 3,iv 2 22])))) [.t 2]:=yA none Tryz.func185 (by kernel_rfl)
theorem ypP : Has Tryz.prog 186 33 (rS [bX 1 5 0,bA 2 false] (rR [fA 3 0 1,lA 4 3,fA 5 1 1,lA 6 5,oA 7 .neq 4 6,iv 8 7,gA 8 true 9 0 1,hA 8 true 10 9,ig 8 true 11 (.call 105 [.t 10,kI 0,kI 11]),pF 12 8 11,iv 13 12,gA 13 true 14 1 1,hA 13 true 15 14,ig 13 true 16 (.call 105 [.t 15,kI 0,kI 11]),pF 17 13 16,iv 18 17,gA 18 true 19 2 1,hA 18 true 20 19,ig 18 true 21 (.call 105 [.t 20,kI 1,kI 1000000000]),pF 22 18 21,iv 23 22,gA 23 true 24 3 1,hA 23 true 25 24,ig 23 true 26 (.call 105 [.t 25,kI 0,kI 1000000]),pF 27 23 26,iv 28 27,gA 28 true 29 4 1,hA 28 true 30 29,ig 28 true 31 (.call 105 [.t 30,kI 0,kI 9999]),pF 32 28 31,iv 2 32])) [.t 2]:=yA none Tryz.func186 (by kernel_rfl)
theorem ySg : Has Tryz.prog 187 27 (rS [mN 4 5] (iS [iv 5 1,oI 6 .lss 5 0] 6 (.reg [ia 7 .bad,ie .bad]) (.seq (rS [iv 8 1,iv 9 0,ia 10 (.cap (.t 9)),iv 11 0,nA 12 11,oA 13 .sub 10 12,oA 14 .sub 8 13,iv 1 14] (rS [iv 15 1,oI 16 .gtr 15 0] (cI 16 (.reg [iv 17 0,iv 18 0,ia 19 (.cap (.t 18)),ia 20 (.slc 5 (.t 17) none (some (.t 19)) none),iv 21 1,ia 22 (.appz 5 40 [.i 0,.i 0,.i 0,.i 0,.i 0] (.t 20) (.t 21)),iv 23 0,nA 24 23,ia 25 (.slc 5 (.t 22) none (some (.t 24)) none),iv 0 25])))) (rR [iv 26 0,iv 4 26])))) [.t 4]:=yA none Tryz.func187 (by kernel_rfl)
theorem yqo : Has Tryz.prog 188 31 (rS [bX 1 6 0,bA 2 false] (rR [fA 3 0 1,lA 4 3,ia 5 (.call 105 [.t 4,kI 1,kI 9999]),iv 6 5,gA 6 true 7 1 1,hA 6 true 8 7,ig 6 true 9 (.call 105 [.t 8,kI 1,kI 200]),pF 10 6 9,iv 11 10,gA 11 true 12 2 1,hA 11 true 13 12,ig 11 true 14 (.call 105 [.t 13,kI 1,kI 30]),pF 15 11 14,iv 16 15,gA 16 true 17 3 1,hA 16 true 18 17,ig 16 true 19 (.call 105 [.t 18,kI 1,kI 100]),pF 20 16 19,iv 21 20,gA 21 true 22 4 1,hA 21 true 23 22,ig 21 true 24 (.call 105 [.t 23,kI 1,kI 50]),pF 25 21 24,iv 26 25,gA 26 true 27 5 1,hA 26 true 28 27,ig 26 true 29 (.call 105 [.t 28,kI 0,kI 2]),pF 30 26 29,iv 2 30])) [.t 2]:=yA none Tryz.func188 (by kernel_rfl)
theorem yK1 : Has Tryz.prog 189 9 (.reg [iv 4 0,iv 5 0,nA 6 5,iv 7 1,c3 8 264 4 6 7]) []:=yA none Tryz.func189 (by kernel_rfl)
def ySy : SC:=rS [mA 7 0] (rQ [lA 8 2,lA 9 3,iv 10 1,xA 11 1 9 10,lA 12 11,oA 13 .mul 8 12,lA 14 4,oA 15 .rem 13 14,lA 16 2,lA 17 3,iv 18 0,xA 19 1 17 18,lA 20 19,oA 21 .mul 16 20,lA 22 4,oA 23 .rem 21 22,oA 24 .sub 15 23,iv 7 24] .ret)
theorem yS7 : Has Tryz.prog 190 25 ySy [.t 7]:=yA none Tryz.func190 (by kernel_rfl)
theorem yTs : Has Tryz.prog 191 35 (rS [bX 1 2 0,mA 2 0] (iS [dA 9 2 1,c1 10 104 9,nN 11 10] 11 (rR [mA 2 0]) (rS [mA 3 0] (.seq (rS [fA 12 1 1,lA 13 12,nA 14 13,mA 15 0] (bL 0 (rS [tA 16 15 14] (.seq (cX 16 0) (.seq (.block 1 (rS [xA 17 1 13 15,lA 18 17,iv 5 18] (rS [mA 6 0] (.seq (rS [iv 19 5,nA 20 19,mA 21 0] (bL 2 (rS [tA 22 21 20] (.seq (cX 22 2) (.seq (.block 3 (rS [xA 23 6 19 21,dA 24 6 23,ia 8 (.alloc [.c (.i 0),.c (.i 0),.c (.i 0),.c (.i 0),.c (.i 0),.c (.i 0)]),tN 6 8 24] (.reg [iv 25 6,fA 26 1 8,lA 27 26,ia 28 (.mx [.t 25,.t 27]),iv 6 28]))) (.reg [pA 29 21 1,iv 21 29])))))) (.reg [iv 30 3,iv 31 6,oA 32 .add 30 31,iv 3 32]))))) (.reg [pA 33 15 1,iv 15 33])))))) (rR [iv 34 3,iv 2 34]))))) [.t 2]:=yA none Tryz.func191 (by kernel_rfl)
theorem yTC : Has Tryz.prog 192 35 (rS [bX 1 2 0,mA 2 0] (iS [dA 9 2 1,c1 10 104 9,nN 11 10] 11 (rR [mA 2 0]) (rS [mA 3 0] (.seq (rS [fA 12 1 1,lA 13 12,nA 14 13,mA 15 0] (bL 0 (rS [tA 16 15 14] (.seq (cX 16 0) (.seq (.block 1 (rS [xA 17 1 13 15,lA 18 17,iv 5 18] (rS [mA 6 0] (.seq (rS [iv 19 5,nA 20 19,mA 21 0] (bL 2 (rS [tA 22 21 20] (.seq (cX 22 2) (.seq (.block 3 (rS [xA 23 6 19 21,dA 24 6 23,ia 8 (.alloc [.c (.i 0),.c (.i 0),.c (.i 0),.c (.i 0),.c (.i 0),.c (.i 0)]),tN 6 8 24] (.reg [iv 25 6,fA 26 2 8,lA 27 26,oA 28 .add 25 27,iv 6 28]))) (.reg [pA 29 21 1,iv 21 29])))))) (.reg [iv 30 3,iv 31 6,ia 32 (.mx [.t 30,.t 31]),iv 3 32]))))) (.reg [pA 33 15 1,iv 15 33])))))) (rR [iv 34 3,iv 2 34]))))) [.t 2]:=yA none Tryz.func192 (by kernel_rfl)
theorem yMa : Has Tryz.prog 193 29 (rS [bX 1 2 0,mA 2 0] (iS [dA 6 2 1,c1 7 104 6,nN 8 7] 8 (rR [mA 2 (-1)]) (rS [fA 9 1 1,lA 10 9,ia 11 (.idx 1 (.t 10) (kI 0)),lA 12 11,ia 13 (.idx 6 (.t 12) (kI 0)),fA 14 5 13,lA 15 14,iv 3 15] (.seq (rS [dA 16 2 1,c1 17 108 16,nA 18 17,mA 19 0] (bL 0 (rS [tA 20 19 18] (.seq (cX 20 0) (.seq (.block 1 (rS [xA 21 6 17 19,dA 22 6 21,ia 5 (.alloc [.c (.i 0),.c (.i 0),.c (.i 0),.c (.i 0),.c (.i 0),.c (.i 0)]),tN 6 5 22] (.reg [iv 23 3,fA 24 5 5,lA 25 24,ia 26 (.mn [.t 23,.t 25]),iv 3 26]))) (.reg [pA 27 19 1,iv 19 27])))))) (rR [iv 28 3,iv 2 28]))))) [.t 2]:=yA none Tryz.func193 (by kernel_rfl)
theorem ynO : Has Tryz.prog 194 27 (rS [bA 4 false] (iS [iv 6 0,nA 7 6,iv 8 1,nA 9 8,oA 10 .neq 7 9] 10 (rR [bA 4 false]) (.seq (rS [mA 5 0] (bL 0 (xS [iv 11 5,iv 12 0,nA 13 12,tA 14 11 13] 14 0 (.seq (.block 1 (rQ [iv 17 0,iv 18 5,xA 19 2 17 18,dA 20 2 19,iv 21 1,iv 22 5,xA 23 2 21 22,dA 24 2 23,c2 25 265 20 24,nN 26 25] (cI 26 (rR [bA 4 false])))) (.reg [iv 15 5,pA 16 15 1,iv 5 16]))))) (rR [bA 4 true])))) [.t 4]:=yA none Tryz.func194 (by kernel_rfl)
def ykf : SC:=rS [bX 2 10 0,bX 3 10 1,bA 4 false] (iS [fA 5 0 2,lA 6 5,fA 7 0 3,lA 8 7,oA 9 .neq 6 8] 9 (rR [bA 4 false]) (iS [fA 10 1 2,lA 11 10,fA 12 1 3,lA 13 12,oA 14 .neq 11 13] 14 (rR [bA 4 false]) (iS [fA 15 2 2,lA 16 15,fA 17 2 3,lA 18 17,oA 19 .neq 16 18] 19 (rR [bA 4 false]) (iS [fA 20 3 2,lA 21 20,fA 22 3 3,lA 23 22,oA 24 .neq 21 23] 24 (rR [bA 4 false]) (iS [fA 25 4 2,lA 26 25,fA 27 4 3,lA 28 27,oA 29 .neq 26 28] 29 (rR [bA 4 false]) (iS [fA 30 5 2,lA 31 30,fA 32 5 3,lA 33 32,oA 34 .neq 31 33] 34 (rR [bA 4 false]) (iS [fA 35 6 2,lA 36 35,fA 37 6 3,lA 38 37,oA 39 .neq 36 38] 39 (rR [bA 4 false]) (iS [fA 40 7 2,lA 41 40,fA 42 7 3,lA 43 42,oA 44 .neq 41 43] 44 (rR [bA 4 false]) (iS [fA 45 8 2,lA 46 45,fA 47 8 3,lA 48 47,oA 49 .neq 46 48] 49 (rR [bA 4 false]) (iS [fA 50 9 2,lA 51 50,fA 52 9 3,lA 53 52,c2 54 48 51 53,nN 55 54] 55 (rR [bA 4 false]) (rR [bA 4 true])))))))))))
theorem yq4 : Has Tryz.prog 195 56 ykf [.t 4]:=yA none Tryz.func195 (by kernel_rfl)
def ykd : SC:=rS [bX 2 5 0,bX 3 5 1,bA 4 false] (iS [fA 5 0 2,lA 6 5,fA 7 0 3,lA 8 7,oA 9 .neq 6 8] 9 (rR [bA 4 false]) (iS [fA 10 1 2,lA 11 10,fA 12 1 3,lA 13 12,oA 14 .neq 11 13] 14 (rR [bA 4 false]) (iS [fA 15 2 2,lA 16 15,fA 17 2 3,lA 18 17,oA 19 .neq 16 18] 19 (rR [bA 4 false]) (iS [fA 20 3 2,lA 21 20,fA 22 3 3,lA 23 22,oA 24 .neq 21 23] 24 (rR [bA 4 false]) (iS [fA 25 4 2,lA 26 25,fA 27 4 3,lA 28 27,oA 29 .neq 26 28] 29 (rR [bA 4 false]) (rR [bA 4 true]))))))
theorem yqK : Has Tryz.prog 196 30 ykd [.t 4]:=yA none Tryz.func196 (by kernel_rfl)
def yjW : SC:=rS [bX 2 3 0,bX 3 3 1,bA 4 false] (iS [fA 5 0 2,lA 6 5,fA 7 0 3,lA 8 7,oA 9 .neq 6 8] 9 (rR [bA 4 false]) (iS [fA 10 1 2,lA 11 10,fA 12 1 3,lA 13 12,oA 14 .neq 11 13] 14 (rR [bA 4 false]) (iS [fA 15 2 2,lA 16 15,fA 17 2 3,lA 18 17,oA 19 .neq 16 18] 19 (rR [bA 4 false]) (rR [bA 4 true]))))
theorem yqs : Has Tryz.prog 197 20 yjW [.t 4]:=yA none Tryz.func197 (by kernel_rfl)
theorem ynE : Has Tryz.prog 198 27 (rS [bA 4 false] (iS [iv 6 0,nA 7 6,iv 8 1,nA 9 8,oA 10 .neq 7 9] 10 (rR [bA 4 false]) (.seq (rS [mA 5 0] (bL 0 (xS [iv 11 5,iv 12 0,nA 13 12,tA 14 11 13] 14 0 (.seq (.block 1 (rQ [iv 17 0,iv 18 5,xA 19 2 17 18,dA 20 2 19,iv 21 1,iv 22 5,xA 23 2 21 22,dA 24 2 23,c2 25 266 20 24,nN 26 25] (cI 26 (rR [bA 4 false])))) (.reg [iv 15 5,pA 16 15 1,iv 5 16]))))) (rR [bA 4 true])))) [.t 4]:=yA none Tryz.func198 (by kernel_rfl)
def yj6 : SC:=rS [bX 2 2 0,bX 3 2 1,bA 4 false] (iS [fA 5 0 2,lA 6 5,fA 7 0 3,lA 8 7,ia 9 (.beq true (.t 6) (.t 8))] 9 (rR [bA 4 false]) (iS [fA 10 1 2,lA 11 10,fA 12 1 3,lA 13 12,oA 14 .neq 11 13] 14 (rR [bA 4 false]) (rR [bA 4 true])))
theorem yqu : Has Tryz.prog 199 15 yj6 [.t 4]:=yA none Tryz.func199 (by kernel_rfl)
theorem yoS : Has Tryz.prog 200 27 (rS [bA 4 false] (iS [iv 6 0,nA 7 6,iv 8 1,nA 9 8,oA 10 .neq 7 9] 10 (rR [bA 4 false]) (.seq (rS [mA 5 0] (bL 0 (xS [iv 11 5,iv 12 0,nA 13 12,tA 14 11 13] 14 0 (.seq (.block 1 (rQ [iv 17 0,iv 18 5,xA 19 4 17 18,dA 20 4 19,iv 21 1,iv 22 5,xA 23 4 21 22,dA 24 4 23,c2 25 267 20 24,nN 26 25] (cI 26 (rR [bA 4 false])))) (.reg [iv 15 5,pA 16 15 1,iv 5 16]))))) (rR [bA 4 true])))) [.t 4]:=yA none Tryz.func200 (by kernel_rfl)
def yiH : SC:=rS [bX 2 3 0,bX 3 3 1,bA 4 false] (iS [fA 5 0 2,dA 6 2 5,fA 7 0 3,dA 8 2 7,c2 9 114 6 8,nN 10 9] 10 (rR [bA 4 false]) (iS [fA 11 2 2,lA 12 11,fA 13 2 3,lA 14 13,oA 15 .neq 12 14] 15 (rR [bA 4 false]) (rR [bA 4 true])))
theorem yoz : Has Tryz.prog 201 16 yiH [.t 4]:=yA none Tryz.func201 (by kernel_rfl)
theorem ync : Has Tryz.prog 202 27 (rS [bA 4 false] (iS [iv 6 0,nA 7 6,iv 8 1,nA 9 8,oA 10 .neq 7 9] 10 (rR [bA 4 false]) (.seq (rS [mA 5 0] (bL 0 (xS [iv 11 5,iv 12 0,nA 13 12,tA 14 11 13] 14 0 (.seq (.block 1 (rQ [iv 17 0,iv 18 5,xA 19 1 17 18,lA 20 19,iv 21 1,iv 22 5,xA 23 1 21 22,lA 24 23,c2 25 268 20 24,nN 26 25] (cI 26 (rR [bA 4 false])))) (.reg [iv 15 5,pA 16 15 1,iv 5 16]))))) (rR [bA 4 true])))) [.t 4]:=yA none Tryz.func202 (by kernel_rfl)
theorem yrq : Has Tryz.prog 258 12 (rS [bX 2 4 0,mA 4 0] (rS [fA 5 0 2,dA 6 2 5,iv 7 1,c2 8 85 6 7,iv 1 8] (iS [iv 9 1,oI 10 .lss 9 0] 10 (rR [mA 4 (-1)]) (rR [iv 11 1,iv 4 11])))) [.t 4]:=yA none Tryz.func258 (by kernel_rfl)
def yi3 : SC:=rS [mA 4 0] (rS [iv 5 1,iv 6 0,nA 7 6,oA 8 .sub 5 7,iv 1 8] (iS [iv 9 1,oI 10 .lss 9 0] 10 (rR [mA 4 (-1)]) (rR [iv 11 1,iv 4 11])))
theorem yoU : Has Tryz.prog 259 12 yi3 [.t 4]:=yA none Tryz.func259 (by kernel_rfl)
theorem ypj : Has Tryz.prog 260 11 (rS [bX 1 2 0,ia 2 (.alloc [.c (.i 0),.c (.i 0)])] (rS [ia 3 (.alloc [.c (.i 0),.c (.i 0)])] (rS [fA 4 0 1,lA 5 4,fA 6 0 3,tS 6 5] (rS [fA 7 1 1,lA 8 7,fA 9 1 3,tS 9 8] (rR [dA 10 2 3,tN 2 2 10]))))) [.cl 2 2]:=yA none Tryz.func260 (by kernel_rfl)
theorem yqk : Has Tryz.prog 261 11 (rS [bX 1 2 0,ia 2 (.alloc [.c (.i 0),.c (.i 0)])] (rS [ia 3 (.alloc [.c (.i 0),.c (.i 0)])] (rS [fA 4 0 1,lA 5 4,fA 6 0 3,tS 6 5] (rS [fA 7 1 1,lA 8 7,fA 9 1 3,tS 9 8] (rR [dA 10 2 3,tN 2 2 10]))))) [.cl 2 2]:=yA none Tryz.func261 (by kernel_rfl)
theorem yjU : Has Tryz.prog 262 15 (rS [bX 1 4 0,ia 2 (.alloc [.c (.b false),.nil 1,.c (.i 0),.c (.i 0)])] (rS [ia 3 (.alloc [.c (.b false),.nil 1,.c (.i 0),.c (.i 0)])] (rS [fA 4 0 1,dA 5 2 4,c1 6 97 5,fA 7 0 3,tN 2 7 6] (rS [fA 8 2 1,lA 9 8,fA 10 2 3,tS 10 9] (rS [fA 11 3 1,lA 12 11,fA 13 3 3,tS 13 12] (rR [dA 14 4 3,tN 4 2 14])))))) [.cl 2 4]:=yA none Tryz.func262 (by kernel_rfl)
theorem yiM : Has Tryz.prog 263 23 (rS [mN 2 6] (rS [iv 5 0,nA 6 5,ia 7 (.mks 6 48 [.i 0,.i 0,.i 0,.i 0,.i 0,.i 0] (.t 6) (.t 6)),iv 3 7] (.seq (rS [mA 4 0] (bL 0 (xS [iv 8 4,iv 9 0,nA 10 9,tA 11 8 10] 11 0 (.seq (.block 1 (.reg [iv 14 3,iv 15 4,iv 16 0,iv 17 4,xA 18 6 16 17,dA 19 6 18,c1 20 303 19,xA 21 6 14 15,tN 6 21 20])) (.reg [iv 12 4,pA 13 12 1,iv 4 13]))))) (rR [iv 22 3,iv 2 22])))) [.t 2]:=yA none Tryz.func263 (by kernel_rfl)
theorem yK5 : Has Tryz.prog 264 63 (rS [mA 6 20] (rS [iv 10 6,mA 7 0,iv 8 10] (.seq (bL 0 (xS [iv 11 8,iv 12 1,oA 13 .leq 11 12] 13 0 (.block 1 (rS [iv 14 0,iv 15 7,iv 16 8,iv 17 2,ia 18 (.call 304 [.t 14,.t 15,.t 16,.t 17])] (rS [iv 19 8,iv 7 19] (.reg [iv 20 8,iv 21 6,oA 22 .add 20 21,iv 8 22])))))) (rS [iv 23 0,iv 24 7,iv 25 1,iv 26 2,ia 27 (.call 304 [.t 23,.t 24,.t 25,.t 26])] (bL 2 (xS [iv 28 6,iv 29 1,tA 30 28 29] 30 2 (.block 3 (rS [iv 31 6,ia 32 (.bin .mul (kI 2) (.t 31)),mA 7 0,iv 8 32] (.seq (bL 4 (xS [iv 33 8,iv 34 1,oA 35 .leq 33 34] 35 4 (.block 5 (rS [iv 36 0,iv 37 7,iv 38 7,iv 39 6,oA 40 .add 38 39,iv 41 8,iv 42 2,ia 43 (.call 305 [.t 36,.t 37,.t 40,.t 41,.t 42])] (rS [iv 44 8,iv 7 44] (.reg [iv 45 8,iv 46 6,ia 47 (.bin .mul (kI 2) (.t 46)),oA 48 .add 45 47,iv 8 48])))))) (.seq (rS [iv 49 7,iv 50 6,oA 51 .add 49 50,iv 9 51] (rS [iv 52 9,iv 53 1,tA 54 52 53] (cI 54 (.reg [iv 55 0,iv 56 7,iv 57 9,iv 58 1,iv 59 2,ia 60 (.call 305 [.t 55,.t 56,.t 57,.t 58,.t 59])])))) (.reg [iv 61 6,oI 62 .mul 61 2,iv 6 62]))))))))))) []:=yA none Tryz.func264 (by kernel_rfl)
def yiZ : SC:=rS [bX 2 2 0,bX 3 2 1,bA 4 false] (iS [fA 5 0 2,lA 6 5,fA 7 0 3,lA 8 7,oA 9 .neq 6 8] 9 (rR [bA 4 false]) (iS [fA 10 1 2,lA 11 10,fA 12 1 3,lA 13 12,oA 14 .neq 11 13] 14 (rR [bA 4 false]) (rR [bA 4 true])))
theorem yoo : Has Tryz.prog 265 15 yiZ [.t 4]:=yA none Tryz.func265 (by kernel_rfl)
def yiD : SC:=rS [bX 2 2 0,bX 3 2 1,bA 4 false] (iS [fA 5 0 2,lA 6 5,fA 7 0 3,lA 8 7,oA 9 .neq 6 8] 9 (rR [bA 4 false]) (iS [fA 10 1 2,lA 11 10,fA 12 1 3,lA 13 12,oA 14 .neq 11 13] 14 (rR [bA 4 false]) (rR [bA 4 true])))
theorem ypk : Has Tryz.prog 266 15 yiD [.t 4]:=yA none Tryz.func266 (by kernel_rfl)
def ykh : SC:=rS [bX 2 4 0,bX 3 4 1,bA 4 false] (iS [fA 5 0 2,dA 6 2 5,fA 7 0 3,dA 8 2 7,c2 9 114 6 8,nN 10 9] 10 (rR [bA 4 false]) (iS [fA 11 2 2,lA 12 11,fA 13 2 3,lA 14 13,oA 15 .neq 12 14] 15 (rR [bA 4 false]) (iS [fA 16 3 2,lA 17 16,fA 18 3 3,lA 19 18,oA 20 .neq 17 19] 20 (rR [bA 4 false]) (rR [bA 4 true]))))
theorem yri : Has Tryz.prog 267 21 ykh [.t 4]:=yA none Tryz.func267 (by kernel_rfl)
theorem yoL : Has Tryz.prog 268 27 (rS [bA 4 false] (iS [iv 6 0,nA 7 6,iv 8 1,nA 9 8,oA 10 .neq 7 9] 10 (rR [bA 4 false]) (.seq (rS [mA 5 0] (bL 0 (xS [iv 11 5,iv 12 0,nA 13 12,tA 14 11 13] 14 0 (.seq (.block 1 (rQ [iv 17 0,iv 18 5,xA 19 6 17 18,dA 20 6 19,iv 21 1,iv 22 5,xA 23 6 21 22,dA 24 6 23,c2 25 306 20 24,nN 26 25] (cI 26 (rR [bA 4 false])))) (.reg [iv 15 5,pA 16 15 1,iv 5 16]))))) (rR [bA 4 true])))) [.t 4]:=yA none Tryz.func268 (by kernel_rfl)
theorem yq9 : Has Tryz.prog 303 23 (rS [bX 1 6 0,ia 2 (.alloc [.c (.i 0),.c (.i 0),.c (.i 0),.c (.i 0),.c (.i 0),.c (.i 0)])] (rS [ia 3 (.alloc [.c (.i 0),.c (.i 0),.c (.i 0),.c (.i 0),.c (.i 0),.c (.i 0)])] (rS [fA 4 0 1,lA 5 4,fA 6 0 3,tS 6 5] (rS [fA 7 1 1,lA 8 7,fA 9 1 3,tS 9 8] (rS [fA 10 2 1,lA 11 10,fA 12 2 3,tS 12 11] (rS [fA 13 3 1,lA 14 13,fA 15 3 3,tS 15 14] (rS [fA 16 4 1,lA 17 16,fA 18 4 3,tS 18 17] (rS [fA 19 5 1,lA 20 19,fA 21 5 3,tS 21 20] (rR [dA 22 6 3,tN 6 2 22]))))))))) [.cl 2 6]:=yA none Tryz.func303 (by kernel_rfl)
theorem yKZ : Has Tryz.prog 304 53 (rS [iv 10 1,pA 11 10 1,iv 8 11] (bL 0 (xS [iv 12 8,iv 13 2,tA 14 12 13] 14 0 (.seq (.block 1 (rS [iv 17 8,iv 9 17] (bL 2 (.seq (rQ [iv 18 9,iv 19 1,oA 20 .gtr 18 19,iv 21 20,g8 21 true 22 3,g8 21 true 23 0,g8 21 true 24 9,ig 21 true 25 (.idx 1 (.t 23) (.t 24)),hA 21 true 26 25,g8 21 true 27 0,g8 21 true 28 9,ig 21 true 29 (.bin .sub (.t 28) (kI 1)),ig 21 true 30 (.idx 1 (.t 27) (.t 29)),hA 21 true 31 30,ig 21 true 32 (.callv (.t 22) [.t 26,.t 31]),ig 21 true 33 (.bin .lss (.t 32) (kI 0)),pF 34 21 33] (cX 34 2)) (.seq (.block 3 (.rege [q0 (iv 37 0),q0 (iv 38 9),q3 (iv 39 0),q3 (iv 40 9),q3 (oI 41 .sub 40 1),q0 (iv 42 0),q0 (iv 43 9),q0 (oI 44 .sub 43 1),q0 (xA 45 1 42 44),q0 (lA 46 45),q0 (iv 47 0),q0 (iv 48 9),q0 (xA 49 1 47 48),q0 (lA 50 49),q0 (xA 51 1 37 38),q4 2 false [2,3,4] (tS 51 46),q0 (xA 52 1 39 41),q2 (tS 52 50)])) (.reg [iv 35 9,oI 36 .sub 35 1,iv 9 36])))))) (.reg [iv 15 8,pA 16 15 1,iv 8 16]))))) []:=yA none Tryz.func304 (by kernel_rfl)
def yj8 : SC:=rS [bX 2 6 0,bX 3 6 1,bA 4 false] (iS [fA 5 0 2,lA 6 5,fA 7 0 3,lA 8 7,oA 9 .neq 6 8] 9 (rR [bA 4 false]) (iS [fA 10 1 2,lA 11 10,fA 12 1 3,lA 13 12,oA 14 .neq 11 13] 14 (rR [bA 4 false]) (iS [fA 15 2 2,lA 16 15,fA 17 2 3,lA 18 17,oA 19 .neq 16 18] 19 (rR [bA 4 false]) (iS [fA 20 3 2,lA 21 20,fA 22 3 3,lA 23 22,oA 24 .neq 21 23] 24 (rR [bA 4 false]) (iS [fA 25 4 2,lA 26 25,fA 27 4 3,lA 28 27,oA 29 .neq 26 28] 29 (rR [bA 4 false]) (iS [fA 30 5 2,lA 31 30,fA 32 5 3,lA 33 32,oA 34 .neq 31 33] 34 (rR [bA 4 false]) (rR [bA 4 true])))))))
theorem yq1 : Has Tryz.prog 306 35 yj8 [.t 4]:=yA none Tryz.func306 (by kernel_rfl)
def inRange (n a b : Int) : Bool:=decide (a ≤ n) && decide (n ≤ b)
theorem yC (n a b : Int) : yB Tryz.prog 105 [.c (.i n),.c (.i a),.c (.i b)] (.c (.b (inRange n a b))):=by
 refine yh yot ?_
 simp -dsimp -implicitDefEqProofs [yi1,inRange]
 exact ⟨fun h=>by simp [h],fun h=>by simp [Int.not_le.2 h]⟩
theorem yD (n a b : Int) : yB Tryz.prog 78 [.c (.i n),.c (.i a),.c (.i b)] (.c (.b (inRange n a b))):=by
 refine yh ysx ?_
 simp -dsimp -implicitDefEqProofs [ylw,inRange]
 exact ⟨fun h=>by simp [h],fun h=>by simp [Int.not_le.2 h]⟩
structure Entry where
 From : Int
 To : Int
 Amount : Int
 Time : Int
 Why : Int
 deriving Inhabited,DecidableEq
@[simp] def Entry.enc (e : Entry) : List C:=[.i e.From,.i e.To,.i e.Amount,.i e.Time,.i e.Why]
def ycl (e : Entry) : Bool:=decide (e.From ≠ e.To) && inRange e.From 0 11 && inRange e.To 0 11 && inRange e.Amount 1 1000000000 && inRange e.Time 0 1000000 && inRange e.Why 0 9999
theorem ysa (e : Entry) : yB Tryz.prog 186 [.agg (e.enc.map .c)] (.c (.b (ycl e))):=by
 refine yh ypP ?_
 simp -dsimp -implicitDefEqProofs
 refine ⟨fun h=>?_,fun h=>by simp [ycl,h]⟩
 refine yc (yC e.From 0 11) ?_
 simp -dsimp -implicitDefEqProofs
 refine ⟨fun h1=>?_,fun h1=>by simp [ycl,h1]⟩
 refine yc (yC e.To 0 11) ?_
 simp -dsimp -implicitDefEqProofs
 refine ⟨fun h2=>?_,fun h1=>by simp [ycl,h1]⟩
 refine yc (yC e.Amount 1 1000000000) ?_
 simp -dsimp -implicitDefEqProofs
 refine ⟨fun h3=>?_,fun h1=>by simp [ycl,h1]⟩
 refine yc (yC e.Time 0 1000000) ?_
 simp -dsimp -implicitDefEqProofs
 refine ⟨fun h4=>?_,fun h1=>by simp [ycl,h1]⟩
 refine yc (yC e.Why 0 9999) ?_
 simp -dsimp -implicitDefEqProofs
 simp [ycl,h,h1,h2,h3,h4]
def yht (es : List Entry) : Bool:=decide (es.length ≤ 2000) && es.all ycl
theorem yL {α : Type} {p : α → Bool} {l : List α} {k : Nat} {e : α} (he : l[k]? = some e) (h : ∀ x ∈ l.take k,p x = true) (hp : p e = true) : ∀ x ∈ l.take (k + 1),p x = true:=by
 intro x hx
 rw [List.take_succ_eq_append_getElem (List.getElem?_eq_some_iff.1 he).1] at hx
 rcases List.mem_append.1 hx with h1 | h1
 ·exact h x h1
 ·rw [List.mem_singleton] at h1
  have:=(List.getElem?_eq_some_iff.1 he).2
  rw [h1,this]; exact hp
theorem yX {α : Type} {p : α → Bool} {l : List α} {k : Nat} (hk : l.length ≤ k) (h : ∀ x ∈ l.take k,p x = true) : l.all p = true:=by
 rw [List.take_of_length_le hk] at h
 exact List.all_eq_true.2 h
theorem all_false {α : Type} {p : α → Bool} {l : List α} {k : Nat} {e : α} (he : l[k]? = some e) (hp : p e = false) : l.all p = false:=by
 rw [List.all_eq_false]
 exact ⟨e,List.mem_of_getElem? he,by simp [hp]⟩
theorem yG {k n : Nat} (h : k < n) : ((k : Int) < (n : Int)) = True:=by simp [h]
theorem yaB {k n : Nat} (h : n ≤ k) : ((k : Int) < (n : Int)) = False:=by simp [h]
theorem yvn (es : List Entry) : yB Tryz.prog 100 [.c (.sl 5 (es.map Entry.enc))] (.c (.b (yht es))):=by
 refine yh yqI ?_
 simp -dsimp -implicitDefEqProofs
 intro hlen
 refine ⟨fun h=>by simp [yht]; omega,fun h _=>?_⟩
 refine yg (ι:=Nat) (fun k=>k ≤ es.length ∧ ∀ e ∈ es.take k,ycl e = true) (fun k=>yO [(8,.c (.sl 5 (es.map Entry.enc))),(9,.c (.i es.length)),(10,.c (.i k))] []) (fun k=>es.length - k) 0 (by simp) (by apply yj <;> simp [AV.ygy,AV.ymf]) ?_
 rintro k ⟨hk,hall⟩
 rcases Nat.lt_or_ge k es.length with hlt | hge
 ·obtain ⟨e,he⟩ : ∃ e,es[k]? = some e:=⟨_,List.getElem?_eq_getElem hlt⟩
  simp -dsimp -implicitDefEqProofs [he,yG hlt]
  refine yc (ysa e) ?_
  simp -dsimp -implicitDefEqProofs
  refine ⟨fun h1=>by simp [yht,all_false he h1],fun h1=>?_⟩
  refine ⟨by unfold maxLen at hlen; constructor <;> omega,k + 1,⟨by omega,yL he hall h1⟩,by omega,?_⟩
  apply yj <;> simp [AV.ygy,AV.ymf]
 ·simp -dsimp -implicitDefEqProofs [yaB hge]
  have:=yX hge hall
  simp [yht,this]; omega
structure Way where
 Long : Int
 Bed : Int
 deriving DecidableEq,Inhabited
@[simp] def Way.enc (e : Way) : List C:=[.i e.Long,.i e.Bed]
theorem yxc (e : Way) : yB Tryz.prog 94 [.agg (e.enc.map .c)] (.agg (e.enc.map .c)):=by
 refine yh ys1 ?_
 simp -dsimp -implicitDefEqProofs
theorem ysd (e : Entry) : yB Tryz.prog 172 [.agg (e.enc.map .c)] (.c (.b (ycl e))):=by
 refine yh yqb ?_
 simp -dsimp -implicitDefEqProofs
 refine ⟨fun h=>?_,fun h=>by simp [ycl,h]⟩
 refine yc (yD e.From 0 11) ?_
 simp -dsimp -implicitDefEqProofs
 refine ⟨fun h1=>?_,fun h1=>by simp [ycl,h1]⟩
 refine yc (yD e.To 0 11) ?_
 simp -dsimp -implicitDefEqProofs
 refine ⟨fun h2=>?_,fun h1=>by simp [ycl,h1]⟩
 refine yc (yD e.Amount 1 1000000000) ?_
 simp -dsimp -implicitDefEqProofs
 refine ⟨fun h3=>?_,fun h1=>by simp [ycl,h1]⟩
 refine yc (yD e.Time 0 1000000) ?_
 simp -dsimp -implicitDefEqProofs
 refine ⟨fun h4=>?_,fun h1=>by simp [ycl,h1]⟩
 refine yc (yD e.Why 0 9999) ?_
 simp -dsimp -implicitDefEqProofs
 simp [ycl,h,h1,h2,h3,h4]
theorem yrC (e : Entry) : yB Tryz.prog 98 [.agg (e.enc.map .c)] (.agg (e.enc.map .c)):=by
 refine yh ypm ?_
 simp -dsimp -implicitDefEqProofs
theorem yxo (e f : Entry) : yB Tryz.prog 115 [.agg (e.enc.map .c),.agg (f.enc.map .c)] (.c (.b (decide (e = f)))):=by
 refine yh yn0 ?_
 obtain ⟨a1,a2,a3,a4,a5⟩:=e
 obtain ⟨b1,b2,b3,b4,b5⟩:=f
 simp -dsimp -implicitDefEqProofs [yja,Entry.mk.injEq]
 refine ⟨fun h=>by simp [h],fun h=>⟨fun h1=>by simp [h1],fun h1=>⟨fun h2=>by simp [h2],fun h2=>⟨fun h3=>by simp [h3],fun h3=>⟨fun h4=>by simp [h4],fun h4=>by simp [h,h1,h2,h3,h4]⟩⟩⟩⟩⟩
def partly {α : Type} (f : α → List C) (z : List C) (es : List α) (k : Nat) : List (List C):=(es.take k).map f ++ List.replicate (es.length - k) z
theorem yak {α : Type} {f : α → List C} {z : List C} {es : List α} {k : Nat} (h : k ≤ es.length) : (partly f z es k).length = es.length:=by
 simp [partly]; omega
theorem yab {α : Type} {f : α → List C} {z : List C} {es : List α} : partly f z es 0 = List.replicate es.length z:=by simp [partly]
theorem yam {α : Type} {f : α → List C} {z : List C} {es : List α} {k : Nat} (h : es.length ≤ k) : partly f z es k = es.map f:=by
 simp [partly,List.take_of_length_le h,Nat.sub_eq_zero_of_le h]
theorem yaj {α : Type} {f : α → List C} {z : List C} {es : List α} {k : Nat} {e : α} (h : es[k]? = some e) : (partly f z es k).set k (f e) = partly f z es (k + 1):=by
 have hk:=(List.getElem?_eq_some_iff.1 h).1
 have he:=(List.getElem?_eq_some_iff.1 h).2
 unfold partly
 rw [List.set_append_right _ _ (by simp; omega)]
 have h1 : ((es.take k).map f).length = k:=by simp; omega
 rw [h1,Nat.sub_self,show es.length - k = (es.length - (k + 1)) + 1 by omega,List.replicate_succ,List.set_cons_zero,List.take_succ_eq_append_getElem hk,he]
 simp
theorem ydK {α : Type} {f : α → List C} {z : List C} {es : List α} {k n : Nat} (hz : z.length = n) (hf : ∀ e,(f e).length = n) (h : k < es.length) : ((partly f z es k)[k]?.getD []).length = n:=by
 unfold partly
 rw [List.getElem?_append_right (by simp; omega)]
 have h1 : ((es.take k).map f).length = k:=by simp; omega
 rw [h1,Nat.sub_self,List.getElem?_replicate,if_pos (by omega)]
 exact hz
theorem yav {α : Type} {f : α → List C} {z : List C} {es : List α} {k n : Nat} (hz : z.length = n) (h : k < es.length) : ((partly f z es k)[k]?.getD []).drop n = []:=by
 apply List.drop_eq_nil_of_le
 unfold partly
 rw [List.getElem?_append_right (by simp; omega)]
 have h1 : ((es.take k).map f).length = k:=by simp; omega
 rw [h1,Nat.sub_self,List.getElem?_replicate,if_pos (by omega)]
 simp [hz]
theorem yw {k n : Nat} (hk : k < n) (h : n ≤ maxLen) : inI ((k : Int) + 1):=by unfold maxLen at h; unfold inI; omega
def szS (n : Nat) (left : Int) : Int:=if left - n < 0 then -1 else left - n
theorem yvG (es : List Entry) (hl : es.length ≤ 1048576) : yB Tryz.prog 37 [.c (.sl 5 (es.map Entry.enc))] (.c (.sl 5 (es.map Entry.enc))):=by
 refine yh yiv ?_
 simp -dsimp -implicitDefEqProofs
 intro hlen
 refine ⟨by omega,?_⟩
 refine yg (ι:=Nat) (fun k=>k ≤ es.length) (fun k=>yO [(0,.c (.sl 5 (es.map Entry.enc))),(3,.own 7 5 es.length),(4,.c (.i k))] [(7,.row 5 (partly Entry.enc [.i 0,.i 0,.i 0,.i 0,.i 0] es k))]) (fun k=>es.length - k) 0 (by simp) (by apply yj <;> simp [yab]) ?_
 rintro k hk
 rcases Nat.lt_or_ge k es.length with hlt | hge
 ·obtain ⟨e,he⟩ : ∃ e,es[k]? = some e:=⟨_,List.getElem?_eq_getElem hlt⟩
  have hs:=yaj (f:=Entry.enc) (z:=[.i 0,.i 0,.i 0,.i 0,.i 0]) he
  have hd:=yav (f:=Entry.enc) (z:=[.i 0,.i 0,.i 0,.i 0,.i 0]) (n:=5) rfl hlt
  simp only [Entry.enc] at hs
  simp -dsimp -implicitDefEqProofs [he,yG hlt]
  refine fun _=>yaP (yrC e) (by simp) rfl ?_
  simp -dsimp -implicitDefEqProofs [yG hlt,yak hk,hd,hs]
  refine ⟨hlt,yw hlt hlen,k + 1,hlt,by omega,by apply yj <;> simp⟩
 ·simp -dsimp -implicitDefEqProofs [yaB hge]
  intro _
  rw [yam hge,List.take_of_length_le (by simp)]
theorem yaR {α : Type} {l m : List α} {k : Nat} {e f : α} (he : l[k]? = some e) (hf : m[k]? = some f) (h : l.take k = m.take k) (hef : e = f) : l.take (k + 1) = m.take (k + 1):=by
 rw [List.take_succ,List.take_succ,he,hf,h,hef]
theorem ybG {α : Type} {l m : List α} {k : Nat} {e f : α} (he : l[k]? = some e) (hf : m[k]? = some f) (hef : e ≠ f) : l ≠ m:=by
 rintro rfl
 rw [he] at hf
 exact hef (Option.some.inj hf)
theorem ybf {α : Type} {l m : List α} {k : Nat} (hl : l.length ≤ k) (hm : l.length = m.length) (h : l.take k = m.take k) : l = m:=by
 rwa [List.take_of_length_le hl,List.take_of_length_le (by omega)] at h
theorem ywt (es fs : List Entry) : yB Tryz.prog 51 [.c (.sl 5 (es.map Entry.enc)),.c (.sl 5 (fs.map Entry.enc))] (.c (.b (decide (es = fs)))):=by
 refine yh ynh ?_
 simp -dsimp -implicitDefEqProofs
 intro hl1 hl2
 refine ⟨fun h e=>h (by rw [e]),fun hlen=>?_⟩
 have hlen' : es.length = fs.length:=by omega
 refine yg (ι:=Nat) (fun k=>k ≤ es.length ∧ es.take k = fs.take k) (fun k=>yO [(0,.c (.sl 5 (es.map Entry.enc))),(1,.c (.sl 5 (fs.map Entry.enc))),(5,.c (.i k))] []) (fun k=>es.length - k) 0 (by simp) (by apply yj <;> simp) ?_
 rintro k ⟨hk,htk⟩
 rcases Nat.lt_or_ge k es.length with hlt | hge
 ·obtain ⟨e,he⟩ : ∃ e,es[k]? = some e:=⟨_,List.getElem?_eq_getElem hlt⟩
  obtain ⟨f,hf⟩ : ∃ f,fs[k]? = some f:=⟨_,List.getElem?_eq_getElem (by omega)⟩
  simp -dsimp -implicitDefEqProofs [he,hf,yG hlt,yG (hlen' ▸ hlt)]
  intro _
  refine yaC (yxo e f) ?_
  simp -dsimp -implicitDefEqProofs
  refine ⟨fun h=>ybG he hf h,fun h=>⟨yw hlt hl1,k + 1,⟨hlt,yaR he hf htk h⟩,by omega,by apply yj <;> simp⟩⟩
 ·simp -dsimp -implicitDefEqProofs [yaB hge]
  intro _
  exact ybf hge hlen' htk
theorem yuL (es : List Entry) : yB Tryz.prog 87 [.c (.sl 5 (es.map Entry.enc))] (.c (.b (yht es))):=by
 refine yh yro ?_
 simp -dsimp -implicitDefEqProofs
 refine yg (ι:=Nat) (fun k=>k ≤ es.length ∧ ∀ e ∈ es.take k,ycl e = true) (fun k=>yO [(0,.c (.sl 5 (es.map Entry.enc))),(3,.c (.i k))] []) (fun k=>es.length - k) 0 (by simp) (by apply yj <;> simp) ?_
 rintro k ⟨hk,hall⟩
 rcases Nat.lt_or_ge k es.length with hlt | hge
 ·obtain ⟨e,he⟩ : ∃ e,es[k]? = some e:=⟨_,List.getElem?_eq_getElem hlt⟩
  simp -dsimp -implicitDefEqProofs [he,yG hlt]
  intro hlen
  refine yc (ysd e) ?_
  simp -dsimp -implicitDefEqProofs
  refine ⟨fun h1=>by simp [yht,all_false he h1],fun h1=>?_⟩
  exact ⟨yw hlt hlen,k + 1,⟨by omega,yL he hall h1⟩,by omega,by apply yj <;> simp⟩
 ·simp -dsimp -implicitDefEqProofs [yaB hge]
  have:=yX hge hall
  simp only [yht,this,Bool.and_true]
  intro _
  exact decide_eq_decide.2 (by omega)
abbrev yJ (n : Int) : List C:=[.i n]
theorem yz0 (es : List Int) (left : Int) (h0 : 0 ≤ left) (h1 : left ≤ 1048576) : yB Tryz.prog 22 [.c (.sl 1 (es.map yJ)),.c (.i left)] (.c (.i (szS es.length left))):=by
 refine yh yrh ?_
 simp -dsimp -implicitDefEqProofs [yj7,szS]
 intro hl
 unfold maxLen at hl
 refine ⟨by unfold inI; omega,fun h=>?_,fun h=>?_⟩ <;> intros <;> omega
theorem ylC (es : List Int) (hl : es.length ≤ 1048576) : yB Tryz.prog 35 [.c (.sl 1 (es.map yJ))] (.c (.sl 1 (es.map yJ))):=by
 refine yh yjT ?_
 simp -dsimp -implicitDefEqProofs
 intro hlen
 refine ⟨by omega,?_⟩
 refine yg (ι:=Nat) (fun k=>k ≤ es.length) (fun k=>yO [(0,.c (.sl 1 (es.map yJ))),(3,.own 7 1 es.length),(4,.c (.i k))] [(7,.row 1 (partly yJ [.i 0] es k))]) (fun k=>es.length - k) 0 (by simp) (by apply yj <;> simp [yab]) ?_
 rintro k hk
 rcases Nat.lt_or_ge k es.length with hlt | hge
 ·obtain ⟨e,he⟩ : ∃ e,es[k]? = some e:=⟨_,List.getElem?_eq_getElem hlt⟩
  have hs:=yaj (f:=yJ) (z:=[.i 0]) he
  have hd : ((partly yJ [.i 0] es k)[k]?.getD []).set 0 (.i e) = [.i e]:=by
   have:=ydK (f:=yJ) (z:=[.i 0]) (n:=1) rfl (fun _=>rfl) hlt
   obtain ⟨x,hx⟩:=List.length_eq_one_iff.1 this
   rw [hx]; rfl
  simp -dsimp -implicitDefEqProofs [he,yG hlt]
  intro _
  rw [hd,show (partly yJ [.i 0] es k).set k [.i e] = partly yJ [.i 0] es (k + 1) from hs]
  exact ⟨by rw [yak hk]; exact hlt,yw hlt hlen,k + 1,hlt,by omega,by apply yj <;> simp⟩
 ·simp -dsimp -implicitDefEqProofs [yaB hge]
  intro _
  rw [yam hge,List.take_of_length_le (by simp)]
theorem ykZ (es fs : List Int) : yB Tryz.prog 49 [.c (.sl 1 (es.map yJ)),.c (.sl 1 (fs.map yJ))] (.c (.b (decide (es = fs)))):=by
 refine yh yqx ?_
 simp -dsimp -implicitDefEqProofs
 intro hl1 hl2
 refine ⟨fun h e=>h (by rw [e]),fun hlen=>?_⟩
 have hlen' : es.length = fs.length:=by omega
 refine yg (ι:=Nat) (fun k=>k ≤ es.length ∧ es.take k = fs.take k) (fun k=>yO [(0,.c (.sl 1 (es.map yJ))),(1,.c (.sl 1 (fs.map yJ))),(5,.c (.i k))] []) (fun k=>es.length - k) 0 (by simp) (by apply yj <;> simp) ?_
 rintro k ⟨hk,htk⟩
 rcases Nat.lt_or_ge k es.length with hlt | hge
 ·obtain ⟨e,he⟩ : ∃ e,es[k]? = some e:=⟨_,List.getElem?_eq_getElem hlt⟩
  obtain ⟨f,hf⟩ : ∃ f,fs[k]? = some f:=⟨_,List.getElem?_eq_getElem (by omega)⟩
  simp -dsimp -implicitDefEqProofs [he,hf,yG hlt,yG (hlen' ▸ hlt)]
  intro _
  refine ⟨fun h=>ybG he hf h,fun h=>⟨yw hlt hl1,k + 1,⟨hlt,yaR he hf htk h⟩,by omega,by apply yj <;> simp⟩⟩
 ·simp -dsimp -implicitDefEqProofs [yaB hge]
  intro _
  exact ybf hge hlen' htk
structure Tariff where
 Base : Int
 PerArea : Int
 PerClass : List Int
 Weights : List Int
 deriving DecidableEq
@[simp] def Tariff.enc (t : Tariff) : List C:=[.i t.Base,.i t.PerArea,.sl 1 (t.PerClass.map yJ),.sl 1 (t.Weights.map yJ)]
def Tariff.small (t : Tariff) : Prop:=t.PerClass.length ≤ 1048576 ∧ t.Weights.length ≤ 1048576
theorem ywB (t : Tariff) (h : t.small) : yB Tryz.prog 36 [.agg (t.enc.map .c)] (.agg (t.enc.map .c)):=by
 refine yh yil ?_
 simp -dsimp -implicitDefEqProofs
 refine yS (ylC t.PerClass h.1) ?_
 simp -dsimp -implicitDefEqProofs
 refine yS (ylC t.Weights h.2) ?_
 simp -dsimp -implicitDefEqProofs
theorem yv1 (t u : Tariff) : yB Tryz.prog 50 [.agg (t.enc.map .c),.agg (u.enc.map .c)] (.c (.b (decide (t = u)))):=by
 refine yh ym8 ?_
 obtain ⟨t1,t2,t3,t4⟩:=t
 obtain ⟨u1,u2,u3,u4⟩:=u
 simp -dsimp -implicitDefEqProofs [yiy,Tariff.mk.injEq]
 refine ⟨fun h=>by simp [h],fun h=>⟨fun h1=>by simp [h1],fun h1=>?_⟩⟩
 refine yc (ykZ t3 u3) ?_
 simp -dsimp -implicitDefEqProofs
 refine ⟨fun h2 _ _ h3=>absurd h3 h2,fun h2=>?_⟩
 refine yc (ykZ t4 u4) ?_
 simp -dsimp -implicitDefEqProofs
 simp [h,h1,h2]
theorem ypy {l : List Int} {k : Nat} {x : Int} (h : l[k]? = some x) : (l.take (k + 1)).sum = (l.take k).sum + x:=by
 rw [List.take_succ,h]; simp
def sumTo (l : List Int) (k : Nat) : Int:=(l.take k).sum
theorem yf6 {l : List Int} : sumTo l 0 = 0:=rfl
theorem yia {l : List Int} {k : Nat} {x : Int} (h : l[k]? = some x) : sumTo l (k + 1) = sumTo l k + x:=ypy h
theorem ymm {l : List Int} {k : Nat} (h : l.length ≤ k) : sumTo l k = l.sum:=by unfold sumTo; rw [List.take_of_length_le h]
def ya9 (t : Tariff) : Bool:=inRange t.Base 0 10000 && inRange t.PerArea 0 100 && decide (t.PerClass.length = 3) && inRange t.Weights.length 1 11 &&
 t.PerClass.all (fun n=>inRange n 0 10000) && t.Weights.all (fun n=>inRange n 0 1000) && decide (0 < t.Weights.sum)
theorem yF {n a b : Int} : inRange n a b = true ↔ a ≤ n ∧ n ≤ b:=by simp [inRange]
theorem ycG {n a b : Int} : inRange n a b = false ↔ n < a ∨ b < n:=by
 simp only [inRange,Bool.and_eq_false_iff,decide_eq_false_iff_not]; omega
theorem yjC : ∀ {l : List Int} {b : Int},(∀ x ∈ l,inRange x 0 b = true) → 0 ≤ l.sum ∧ l.sum ≤ b * l.length
 | [],b,_=>by simp
 | x :: l,b,h=>by
  have h1:=yjC (l:=l) (b:=b) fun y hy=>h y (by simp [hy])
  have h2:=yF.1 (h x (by simp))
  simp only [List.sum_cons,List.length_cons,Int.natCast_add,Int.natCast_one,Int.mul_add,Int.mul_one]
  omega
theorem yqB (t : Tariff) : yB Tryz.prog 103 [.agg (t.enc.map .c)] (.c (.b (ya9 t))):=by
 refine yh ynP ?_
 simp -dsimp -implicitDefEqProofs
 refine yc (yC t.Base 0 10000) ?_
 simp -dsimp -implicitDefEqProofs
 refine ⟨fun h1=>?_,fun h1=>by simp [ya9,h1]⟩
 refine yc (yC t.PerArea 0 100) ?_
 simp -dsimp -implicitDefEqProofs
 refine ⟨fun h2=>?_,fun h2=>by simp [ya9,h2]⟩
 intro hc
 refine ⟨fun h3 hw=>⟨fun h4 _=>⟨fun h5=>?_,fun h5 _=>?_⟩,fun h4=>?_⟩,fun h3=>?_⟩
 ·have : inRange t.Weights.length 1 11 = false:=ycG.2 (by omega)
  simp [ya9,this]
 ·have h3' : t.PerClass.length = 3:=by omega
  have h6 : inRange t.Weights.length 1 11 = true:=yF.2 (by omega)
  refine yg (ι:=Nat) (fun k=>k ≤ t.PerClass.length ∧ ∀ n ∈ t.PerClass.take k,inRange n 0 10000 = true) (fun k=>yO [(1,.box 1 0),(37,.c (.sl 1 (t.PerClass.map yJ))),(38,.c (.i t.PerClass.length)),(39,.c (.i k))] [(1,.box (t.enc.map .c))]) (fun k=>t.PerClass.length - k) 0 (by simp) (by apply yj <;> simp) ?_
  rintro k ⟨hk,hall⟩
  rcases Nat.lt_or_ge k t.PerClass.length with hlt | hge
  ·obtain ⟨e,he⟩ : ∃ e,t.PerClass[k]? = some e:=⟨_,List.getElem?_eq_getElem hlt⟩
   simp -dsimp -implicitDefEqProofs [he,yG hlt]
   refine yc (yC e 0 10000) ?_
   simp -dsimp -implicitDefEqProofs
   refine ⟨fun h1=>by simp [ya9,all_false (p:=fun n=>inRange n 0 10000) he h1],fun h1=>?_⟩
   exact ⟨yw hlt hc,k + 1,⟨by omega,yL (p:=fun n=>inRange n 0 10000) he hall h1⟩,by omega,by apply yj <;> simp⟩
  ·have h7:=yX (p:=fun n=>inRange n 0 10000) hge hall
   simp -dsimp -implicitDefEqProofs [yaB hge]
   intro _
   refine yg (ι:=Nat) (fun k=>k ≤ t.Weights.length ∧ ∀ n ∈ t.Weights.take k,inRange n 0 1000 = true) (fun k=>yO [(5,.c (.i (t.Weights.take k).sum)),(48,.c (.sl 1 (t.Weights.map yJ))),(49,.c (.i t.Weights.length)),(50,.c (.i k))] []) (fun k=>t.Weights.length - k) 0 (by simp) (by apply yj <;> simp) ?_
   rintro k ⟨hk,hall⟩
   rcases Nat.lt_or_ge k t.Weights.length with hlt | hge
   ·obtain ⟨e,he⟩ : ∃ e,t.Weights[k]? = some e:=⟨_,List.getElem?_eq_getElem hlt⟩
    simp -dsimp -implicitDefEqProofs [he,yG hlt]
    refine yc (yC e 0 1000) ?_
    simp -dsimp -implicitDefEqProofs [he,yG hlt]
    refine ⟨fun h1=>by simp [ya9,all_false (p:=fun n=>inRange n 0 1000) he h1],fun h1=>?_⟩
    have hs:=yjC hall
    have hx:=yF.1 h1
    have hl : (t.Weights.take k).length ≤ 11:=by simp; omega
    exact ⟨by unfold inI; omega,yw hlt hw,k + 1,⟨by omega,yL (p:=fun n=>inRange n 0 1000) he hall h1⟩,by omega,by apply yj <;> simp [ypy he]⟩
   ·have h8:=yX (p:=fun n=>inRange n 0 1000) hge hall
    simp -dsimp -implicitDefEqProofs [yaB hge]
    rw [List.take_of_length_le hge]
    simp [ya9,h1,h2,h3',h6,h7,h8]
 ·have : inRange t.Weights.length 1 11 = false:=ycG.2 (by omega)
  simp [ya9,this]
 ·have : ¬ t.PerClass.length = 3:=by omega
  simp [ya9,this]
theorem yre (t : Tariff) : yB Tryz.prog 88 [.agg (t.enc.map .c)] (.c (.b (ya9 t))):=by
 refine yh ynI ?_
 simp -dsimp -implicitDefEqProofs
 refine yc (yD t.Base 0 10000) ?_
 simp -dsimp -implicitDefEqProofs
 refine ⟨fun h1=>?_,fun h1=>by simp [ya9,h1]⟩
 refine yc (yD t.PerArea 0 100) ?_
 simp -dsimp -implicitDefEqProofs
 refine ⟨fun h2=>?_,fun h2=>by simp [ya9,h2]⟩
 intro hc
 refine ⟨fun h3 hw=>?_,fun h3=>?_⟩
 ·have h3' : t.PerClass.length = 3:=by omega
  refine yc (yD t.Weights.length 1 11) ?_
  simp -dsimp -implicitDefEqProofs
  refine ⟨fun h6=>?_,fun h6=>?_⟩
  ·simp [ya9,h6]
  have h6':=yF.1 h6
  refine yg (ι:=Nat) (fun k=>k ≤ t.PerClass.length ∧ ∀ n ∈ t.PerClass.take k,inRange n 0 10000 = true) (fun k=>yO [(1,.box 1 0),(3,.c (.i k))] [(1,.box (t.enc.map .c))]) (fun k=>t.PerClass.length - k) 0 (by simp) (by apply yj <;> simp) ?_
  rintro k ⟨hk,hall⟩
  rcases Nat.lt_or_ge k t.PerClass.length with hlt | hge
  ·obtain ⟨e,he⟩ : ∃ e,t.PerClass[k]? = some e:=⟨_,List.getElem?_eq_getElem hlt⟩
   have hlt3 : ((k : Int) < 3) = True:=by simp; omega
   simp -dsimp -implicitDefEqProofs [he,hlt3,yG hlt]
   refine yc (yD e 0 10000) ?_
   simp -dsimp -implicitDefEqProofs
   refine ⟨fun h1=>by simp [ya9,all_false (p:=fun n=>inRange n 0 10000) he h1],fun h1=>?_⟩
   exact ⟨yw hlt hc,k + 1,⟨by omega,yL (p:=fun n=>inRange n 0 10000) he hall h1⟩,by omega,by apply yj <;> simp⟩
  ·have h7:=yX (p:=fun n=>inRange n 0 10000) hge hall
   have hge3 : ((k : Int) < 3) = False:=by simp; omega
   simp -dsimp -implicitDefEqProofs [hge3]
   refine yg (ι:=Nat) (fun k=>k ≤ t.Weights.length ∧ ∀ n ∈ t.Weights.take k,inRange n 0 1000 = true) (fun k=>yO [(1,.box 1 0),(4,.c (.i (t.Weights.take k).sum)),(5,.c (.i k))] [(1,.box (t.enc.map .c))]) (fun k=>t.Weights.length - k) 0 (by simp) (by apply yj <;> simp) ?_
   rintro k ⟨hk,hall⟩
   rcases Nat.lt_or_ge k t.Weights.length with hlt | hge
   ·obtain ⟨e,he⟩ : ∃ e,t.Weights[k]? = some e:=⟨_,List.getElem?_eq_getElem hlt⟩
    simp -dsimp -implicitDefEqProofs [he,yG hlt]
    intro _
    refine yc (yD e 0 1000) ?_
    simp -dsimp -implicitDefEqProofs [he,yG hlt]
    refine ⟨fun h1=>by simp [ya9,all_false (p:=fun n=>inRange n 0 1000) he h1],fun h1=>?_⟩
    have hs:=yjC hall
    have hx:=yF.1 h1
    have hl : (t.Weights.take k).length ≤ 11:=by simp; omega
    exact ⟨by unfold inI; omega,yw hlt hw,k + 1,⟨by omega,yL (p:=fun n=>inRange n 0 1000) he hall h1⟩,by omega,by apply yj <;> simp [ypy he]⟩
   ·have h8:=yX (p:=fun n=>inRange n 0 1000) hge hall
    simp -dsimp -implicitDefEqProofs [yaB hge]
    rw [List.take_of_length_le hge]
    simp [ya9,h1,h2,h3',h6,h7,h8]
 ·have : ¬ t.PerClass.length = 3:=by omega
  simp [ya9,this]
def vAt (l : List Int) (k : Nat) : Int:=l[k]?.getD 0
theorem ySA {l : List Int} {k : Nat} {x : Int} (h : l[k]? = some x) : vAt l k = x:=by simp [vAt,h]
def yR4 (l : List Int) : Nat → Nat
 | 0=>0
 | k + 1=>if vAt l (yR4 l k) < vAt l k then k else yR4 l k
theorem yT1 {l : List Int} : yR4 l 0 = 0:=rfl
theorem ySk {l : List Int} {k : Nat} : yR4 l (k + 1) = if vAt l (yR4 l k) < vAt l k then k else yR4 l k:=rfl
theorem ySG {l : List Int} (h : 0 < l.length) : ∀ {k : Nat},k ≤ l.length → yR4 l k < l.length
 | 0,_=>h
 | k + 1,hk=>by
  rw [ySk]
  split
  ·omega
  ·exact ySG h (by omega)
theorem yTe {l : List Int} : ∀ {k j : Nat},j < k → vAt l j ≤ vAt l (yR4 l k)
 | k + 1,j,hj=>by
  rw [ySk]
  rcases Nat.lt_or_ge j k with h | h
  ·have:=yTe (l:=l) h
   split <;> omega
  ·have : j = k:=by omega
   subst this
   split <;> omega
theorem yS8 {l : List Int} : ∀ {k j : Nat},j < yR4 l k → vAt l j < vAt l (yR4 l k)
 | 0,j,h=>by simp [yR4] at h
 | k + 1,j,h=>by
  rw [ySk] at h ⊢
  split at h
  ·rename_i h2
   rw [if_pos h2]
   have:=yTe (l:=l) (show j < k from h)
   omega
  ·rename_i h2
   rw [if_neg h2]
   exact yS8 h
theorem yUc {l : List Int} {n a : Nat} (h : a < n) (h1 : ∀ x,x < n → vAt l x ≤ vAt l a) (h2 : ∀ x,x < a → vAt l x < vAt l a) (hn : n ≤ l.length) : yR4 l n = a:=by
 have g1:=yTe (l:=l) h
 have g2 : yR4 l n < l.length:=ySG (by omega) hn
 have g3 : yR4 l n < n:=by
  have : ∀ k : Nat,0 < k → yR4 l k < k:=by
   intro k
   induction k with
   | zero=>intro h; omega
   | succ k ih =>
    intro _
    rw [ySk]
    split
    ·omega
    ·rcases Nat.eq_zero_or_pos k with e | e
     ·subst e; simp [yR4]
     ·have:=ih e; omega
  exact this n (by omega)
 have g4:=h1 _ g3
 rcases Nat.lt_trichotomy a (yR4 l n) with e | e | e
 ·have:=yS8 e; omega
 ·exact e.symm
 ·have:=h2 _ e; omega
def better (R : List Int) (x y : Nat) : Prop:=vAt R y < vAt R x ∨ (vAt R x = vAt R y ∧ x < y)
def ySH (R : List Int) (i : Nat) (x : Nat) : Bool:=decide (vAt R i ≤ vAt R x)
def yUg (R : List Int) (i : Nat) (P : List Nat) : List Nat:=P.takeWhile (ySH R i) ++ i :: P.dropWhile (ySH R i)
def ySh (R : List Int) : Nat → List Nat
 | 0=>[]
 | i + 1=>yUg R i (ySh R i)
theorem yT3 {p : Nat → Bool} : ∀ {l1 l2 : List Nat},(∀ x ∈ l1,p x = true) → (∀ x ∈ l2,p x = false) → (l1 ++ l2).takeWhile p = l1 ∧ (l1 ++ l2).dropWhile p = l2
 | [],[],_,_=>⟨rfl,rfl⟩
 | [],x :: l,_,h=>by
  have:=h x (by simp)
  simp [List.takeWhile_cons,List.dropWhile_cons,this]
 | x :: l,l2,h1,h2=>by
  have hx:=h1 x (by simp)
  obtain ⟨e1,e2⟩:=yT3 (p:=p) (l1:=l) (l2:=l2) (fun y hy=>h1 y (by simp [hy])) h2
  simp [List.takeWhile_cons,List.dropWhile_cons,hx,e1,e2]
theorem ySU {p : Nat → Bool} : ∀ {l r : List Nat} {y : Nat},l.dropWhile p = y :: r → p y = false
 | [],r,y,h=>by simp at h
 | x :: l,r,y,h=>by
  rw [List.dropWhile_cons] at h
  split at h
  ·exact ySU h
  ·rename_i hx
   cases h
   simpa using hx
theorem yUa {R : List Int} {i : Nat} {P l1 l2 : List Nat} (hP : P.Pairwise (better R)) (e : l1 ++ l2 = P) (h2 : ∀ x ∈ l2,vAt R x < vAt R i) (h1 : ∀ l y,l1 = l ++ [y] → vAt R i ≤ vAt R y) : yUg R i P = l1 ++ i :: l2:=by
 subst e
 have hall : ∀ x ∈ l1,ySH R i x = true:=by
  rcases List.eq_nil_or_concat l1 with e | ⟨l,y,e⟩
  ·subst e; simp
  ·have hy:=h1 l y (by simpa using e)
   subst e
   intro x hx
   simp only [ySH,decide_eq_true_eq]
   rw [List.concat_eq_append] at hx hP
   rcases List.mem_append.1 hx with hx | hx
   ·have:=(List.pairwise_append.1 (List.pairwise_append.1 hP).1).2.2 x hx y (by simp)
    unfold better at this; omega
   ·rw [List.mem_singleton] at hx; subst hx; exact hy
 obtain ⟨e1,e2⟩:=yT3 (p:=ySH R i) hall (fun x hx=>by have:=h2 x hx; simp only [ySH,decide_eq_false_iff_not]; omega)
 unfold yUg
 rw [e1,e2]
structure OrdFacts (R : List Int) (i : Nat) (o : List Nat) : Prop where
 len : o.length = i
 lt : ∀ x ∈ o,x < i
 pw : o.Pairwise (better R)
 all : ∀ x,x < i → x ∈ o
theorem ySo (R : List Int) : ∀ i : Nat,OrdFacts R i (ySh R i)
 | 0=>⟨rfl,by simp [ySh],by simp [ySh],fun x h=>by omega⟩
 | i + 1=>by
  have f:=ySo R i
  show OrdFacts R (i + 1) (yUg R i (ySh R i))
  generalize ySh R i = P at f
  have e:=List.takeWhile_append_dropWhile (p:=ySH R i) (l:=P)
  have h1 : ∀ x ∈ P.takeWhile (ySH R i),vAt R i ≤ vAt R x:=fun x hx=>by
   have : ySH R i x = true:=by
    have:=List.all_takeWhile (p:=ySH R i) (l:=P)
    exact List.all_eq_true.1 this x hx
   simpa [ySH] using this
  have h2 : ∀ x ∈ P.dropWhile (ySH R i),vAt R x < vAt R i:=by
   intro x hx
   have hpw : (P.dropWhile (ySH R i)).Pairwise (better R):=by have:=f.pw; rw [← e] at this; exact (List.pairwise_append.1 this).2.1
   have hh : ∀ y l,P.dropWhile (ySH R i) = y :: l → vAt R y < vAt R i:=by
    intro y l hy
    have:=ySU hy
    simpa [ySH] using this
   cases hd : P.dropWhile (ySH R i) with
   | nil=>rw [hd] at hx; cases hx
   | cons y l =>
    have hy:=hh y l hd
    rw [hd] at hx hpw
    rcases List.mem_cons.1 hx with e | e
    ·subst e; exact hy
    ·have:=(List.pairwise_cons.1 hpw).1 x e
     unfold better at this; omega
  have hlen : (P.takeWhile (ySH R i)).length + (P.dropWhile (ySH R i)).length = i:=by rw [← List.length_append,e,f.len]
  have hmem : ∀ x,x ∈ P ↔ x ∈ P.takeWhile (ySH R i) ∨ x ∈ P.dropWhile (ySH R i):=fun x=>by rw [← List.mem_append,e]
  refine ⟨by simp only [yUg,List.length_append,List.length_cons]; omega,fun x hx=>?_,?_,fun x hx=>?_⟩
  ·rcases List.mem_append.1 hx with hx | hx
   ·have:=f.lt x ((hmem x).2 (.inl hx)); omega
   ·rcases List.mem_cons.1 hx with hx | hx
    ·omega
    ·have:=f.lt x ((hmem x).2 (.inr hx)); omega
  ·have hpw:=f.pw
   rw [← e] at hpw
   obtain ⟨p1,p2,p3⟩:=List.pairwise_append.1 hpw
   refine List.pairwise_append.2 ⟨p1,List.pairwise_cons.2 ⟨fun y hy=>.inl (h2 y hy),p2⟩,fun x hx y hy=>?_⟩
   rcases List.mem_cons.1 hy with hy | hy
   ·subst hy
    have a1:=h1 x hx
    have a2:=f.lt x ((hmem x).2 (.inl hx))
    unfold better; omega
   ·exact p3 x hx y hy
  ·rcases Nat.lt_or_ge x i with h | h
   ·rcases (hmem x).1 (f.all x h) with h | h
    ·exact List.mem_append_left _ h
    ·exact List.mem_append_right _ (List.mem_cons_of_mem _ h)
   ·have : x = i:=by omega
    subst this
    exact List.mem_append_right _ (List.mem_cons_self ..)
def ySt (out : List Int) (o : List Nat) (j : Nat) : List Int:=(o.take j).foldl (fun s x=>s.set x (vAt s x + 1)) out
def ySj (R : List Int) (o : List Nat) (j : Nat) : List Int:=(o.take j).foldl (fun s x=>s.set x (-1)) R
theorem yTL {out : List Int} {o : List Nat} : ySt out o 0 = out:=rfl
theorem yTk {out : List Int} {o : List Nat} : ySj out o 0 = out:=rfl
theorem yS0 {out : List Int} {o : List Nat} {j x : Nat} (h : o[j]? = some x) : ySt out o (j + 1) = (ySt out o j).set x (vAt (ySt out o j) x + 1):=by
 unfold ySt; rw [List.take_succ,h,List.foldl_append]; rfl
theorem ySY {out : List Int} {o : List Nat} {j x : Nat} (h : o[j]? = some x) : ySj out o (j + 1) = (ySj out o j).set x (-1):=by
 unfold ySj; rw [List.take_succ,h,List.foldl_append]; rfl
theorem yTa {out : List Int} {o : List Nat} : ∀ j : Nat,(ySt out o j).length = out.length
 | 0=>rfl
 | j + 1=>by
  cases h : o[j]? with
  | none =>
   have hl : o.length ≤ j:=by simpa using h
   have e : ySt out o (j + 1) = ySt out o j:=by unfold ySt; rw [List.take_of_length_le (by omega),List.take_of_length_le hl]
   rw [e,yTa j]
  | some x=>rw [yS0 h,List.length_set,yTa j]
theorem ySs {out : List Int} {o : List Nat} : ∀ j : Nat,(ySj out o j).length = out.length
 | 0=>rfl
 | j + 1=>by
  cases h : o[j]? with
  | none =>
   have hl : o.length ≤ j:=by simpa using h
   have e : ySj out o (j + 1) = ySj out o j:=by unfold ySj; rw [List.take_of_length_le (by omega),List.take_of_length_le hl]
   rw [e,ySs j]
  | some x=>rw [ySY h,List.length_set,ySs j]
theorem yUp {l : List Int} {i j : Nat} {v : Int} (h : i < l.length) : vAt (l.set i v) j = if i = j then v else vAt l j:=by
 unfold vAt
 rw [List.getElem?_set]
 by_cases e : i = j
 ·simp [e,e ▸ h]
 ·simp [e]
theorem yTg {R : List Int} {o : List Nat} (ho : ∀ x ∈ o,x < R.length) : ∀ (j y : Nat),vAt (ySj R o j) y = if y ∈ o.take j then -1 else vAt R y
 | 0,y=>by simp [yTk]
 | j + 1,y=>by
  cases h : o[j]? with
  | none =>
   have hl : o.length ≤ j:=by simpa using h
   have e : ySj R o (j + 1) = ySj R o j:=by unfold ySj; rw [List.take_of_length_le (by omega),List.take_of_length_le hl]
   rw [e,yTg ho j y,List.take_of_length_le hl,List.take_of_length_le (by omega)]
  | some x =>
   rw [ySY h,yUp (by rw [ySs]; exact ho x (List.mem_of_getElem? h)),yTg ho j y,List.take_succ,h]
   by_cases e : x = y
   ·simp [e]
   ·have : y ≠ x:=fun h=>e h.symm
    simp [e,this]
theorem yUn {R : List Int} (hR : ∀ x,0 ≤ vAt R x) {j a : Nat} (h : (ySh R R.length)[j]? = some a) : yR4 (ySj R (ySh R R.length) j) (ySj R (ySh R R.length) j).length = a:=by
 have f:=ySo R R.length
 generalize ySh R R.length = o at *
 have hj:=(List.getElem?_eq_some_iff.1 h).1
 have ha:=f.lt a (List.mem_of_getElem? h)
 have irr : ∀ x,¬ better R x x:=fun x h=>by unfold better at h; omega
 have hsplit : o = o.take j ++ a :: o.drop (j + 1):=by
  rw [← (List.getElem?_eq_some_iff.1 h).2,List.getElem_cons_drop,List.take_append_drop]
 have hpw:=f.pw
 rw [hsplit] at hpw
 obtain ⟨p1,p2,p3⟩:=List.pairwise_append.1 hpw
 have hnot : a ∉ o.take j:=fun hm=>irr a (p3 a hm a (by simp))
 have hat:=yTg (R:=R) f.lt j
 have hva : vAt (ySj R o j) a = vAt R a:=by rw [hat,if_neg hnot]
 have key : ∀ x,x < R.length → x ∉ o.take j → x = a ∨ better R a x:=by
  intro x hx hn
  have:=f.all x hx
  rw [hsplit] at this
  rcases List.mem_append.1 this with h1 | h1
  ·exact absurd h1 hn
  ·rcases List.mem_cons.1 h1 with h1 | h1
   ·exact .inl h1
   ·exact .inr ((List.pairwise_cons.1 p2).1 x h1)
 rw [ySs]
 refine yUc ha (fun x hx=>?_) (fun x hx=>?_) (by rw [ySs]; exact Nat.le_refl _)
 ·rw [hva,hat]
  split
  ·have:=hR a; omega
  ·rename_i hn
   rcases key x hx hn with e | e
   ·subst e; exact Int.le_refl _
   ·unfold better at e; omega
 ·rw [hva,hat]
  split
  ·have:=hR a; omega
  ·rename_i hn
   rcases key x (by omega) hn with e | e
   ·omega
   ·unfold better at e; omega
def ySX : Nat → List Int → List Int → List Int
 | 0,out,_=>out
 | n + 1,out,rest=>ySX n (out.set (yR4 rest rest.length) (vAt out (yR4 rest rest.length) + 1)) (rest.set (yR4 rest rest.length) (-1))
theorem yTN {R Q : List Int} (hR : ∀ x,0 ≤ vAt R x) : ∀ (m j : Nat),j + m ≤ R.length → ySX m (ySt Q (ySh R R.length) j) (ySj R (ySh R R.length) j) = ySt Q (ySh R R.length) (j + m)
 | 0,j,_=>rfl
 | m + 1,j,h=>by
  have hj : j < (ySh R R.length).length:=by rw [(ySo R R.length).len]; omega
  obtain ⟨a,ha⟩ : ∃ a,(ySh R R.length)[j]? = some a:=⟨_,List.getElem?_eq_getElem hj⟩
  have hp:=yUn hR ha
  unfold ySX
  rw [hp,← yS0 ha,← ySY ha,yTN hR m (j + 1) (by omega)]
  congr 1; omega
def quota (t s w : Int) : Int:=(t * w).tdiv s
def ySp (t s w : Int) : Int:=(t * w).tmod s
def yR8 (t : Int) (ws : List Int) : Bool:=inRange t 0 1000000000 && decide (1 ≤ ws.length) && decide (ws.length ≤ 12) && ws.all (fun w=>inRange w 0 1000000) && decide (ws.sum ≠ 0)
def ySb (t : Int) (ws : List Int) : Int:=t - (ws.map (quota t ws.sum)).sum
def yR3 (t : Int) (ws : List Int) : List Int:=if yR8 t ws then ySX (ySb t ws).toNat (ws.map (quota t ws.sum)) (ws.map (ySp t ws.sum)) else []
structure ShareFacts (t : Int) (ws : List Int) : Prop where
 tot : 0 ≤ t ∧ t ≤ 1000000000
 len : 1 ≤ ws.length ∧ ws.length ≤ 12
 rng : ∀ w ∈ ws,0 ≤ w ∧ w ≤ 1000000
 sum : 1 ≤ ws.sum ∧ ws.sum ≤ 12000000
theorem sum_bnd {l : List Int} {m : Int} (h : ∀ x ∈ l,0 ≤ x ∧ x ≤ m) : 0 ≤ l.sum ∧ l.sum ≤ m * l.length:=by
 induction l with
 | nil=>simp
 | cons a l ih =>
  have h1:=ih fun x hx=>h x (by simp [hx])
  have h2:=h a (by simp)
  simp only [List.sum_cons,List.length_cons,Int.natCast_add,Int.natCast_one,Int.mul_add,Int.mul_one]
  omega
theorem ySN {t : Int} {ws : List Int} (h : yR8 t ws = true) : ShareFacts t ws:=by
 simp only [yR8,Bool.and_eq_true,decide_eq_true_eq,List.all_eq_true] at h
 obtain ⟨⟨⟨⟨h1,h2⟩,h3⟩,h4⟩,h5⟩:=h
 have hr : ∀ w ∈ ws,0 ≤ w ∧ w ≤ 1000000:=fun w hw=>yF.1 (h4 w hw)
 have hs:=sum_bnd hr
 exact ⟨yF.1 h1,⟨h2,h3⟩,hr,by omega⟩
theorem ySi {t s w : Int} (ht : 0 ≤ t ∧ t ≤ 1000000000) (hs : 1 ≤ s) (hw : 0 ≤ w ∧ w ≤ 1000000) : 0 ≤ quota t s w ∧ quota t s w ≤ 1000000000000000 ∧ 0 ≤ ySp t s w ∧ ySp t s w < s ∧ s * quota t s w + ySp t s w = t * w ∧ 0 ≤ t * w ∧ t * w ≤ 1000000000000000:=by
 have h0 : 0 ≤ t * w:=Int.mul_nonneg ht.1 hw.1
 have h1 : t * w ≤ 1000000000 * 1000000:=Int.mul_le_mul ht.2 hw.2 hw.1 (by omega)
 unfold quota ySp
 rw [Int.tdiv_eq_ediv_of_nonneg h0,Int.tmod_eq_emod_of_nonneg h0]
 have a1:=Int.emod_nonneg (t * w) (show s ≠ 0 by omega)
 have a2:=Int.emod_lt_of_pos (t * w) (show 0 < s by omega)
 have a3:=Int.mul_ediv_add_emod (t * w) s
 have a4 : 0 ≤ t * w / s:=Int.ediv_nonneg h0 (by omega)
 have a5 : t * w / s ≤ t * w:=Int.ediv_le_self _ h0
 exact ⟨a4,by omega,a1,a2,a3,h0,by omega⟩
theorem yTw {t s : Int} (ht : 0 ≤ t ∧ t ≤ 1000000000) (hs : 1 ≤ s) : ∀ {ws : List Int},(∀ w ∈ ws,0 ≤ w ∧ w ≤ 1000000) → s * (ws.map (quota t s)).sum + (ws.map (ySp t s)).sum = t * ws.sum
 | [],_=>by simp
 | w :: ws,h=>by
  have ih:=yTw ht hs (ws:=ws) fun x hx=>h x (by simp [hx])
  have q:=(ySi (t:=t) (s:=s) ht hs (h w (by simp))).2.2.2.2.1
  simp only [List.map_cons,List.sum_cons,Int.mul_add]
  omega
theorem yTv {t : Int} {ws : List Int} (h : ShareFacts t ws) : 0 ≤ ySb t ws ∧ ySb t ws < ws.length:=by
 have hs:=yTw h.tot h.sum.1 h.rng
 have hr:=sum_bnd (l:=ws.map (ySp t ws.sum)) (m:=ws.sum - 1) (fun x hx=>by
  obtain ⟨w,hw,rfl⟩:=List.mem_map.1 hx
  have:=ySi h.tot h.sum.1 (h.rng w hw)
  omega)
 rw [List.length_map] at hr
 have e : ws.sum * ySb t ws = (ws.map (ySp t ws.sum)).sum:=by
  unfold ySb; rw [Int.mul_sub,Int.mul_comm ws.sum t]; omega
 have hp:=h.sum.1
 have hl:=h.len.1
 constructor
 ·rcases Int.lt_or_le (ySb t ws) 0 with h1 | h1
  ·have:=Int.mul_neg_of_pos_of_neg (show 0 < ws.sum by omega) h1
   omega
  ·exact h1
 ·rcases Int.lt_or_le (ySb t ws) ws.length with h1 | h1
  ·exact h1
  ·have h2:=Int.mul_le_mul_of_nonneg_left h1 (show 0 ≤ ws.sum by omega)
   have h3 : (ws.sum - 1) * (ws.length : Int) < ws.sum * (ws.length : Int):=Int.mul_lt_mul_of_pos_right (by omega) (by omega)
   omega
theorem yTl {t : Int} {ws : List Int} (h : yR8 t ws = true) : yR3 t ws = ySt (ws.map (quota t ws.sum)) (ySh (ws.map (ySp t ws.sum)) ws.length) (ySb t ws).toNat:=by
 have f:=ySN h
 have hl:=yTv f
 have hR : ∀ x,0 ≤ vAt (ws.map (ySp t ws.sum)) x:=by
  intro x
  unfold vAt
  cases hx : (ws.map (ySp t ws.sum))[x]? with
  | none=>simp
  | some r =>
   rw [List.getElem?_map,Option.map_eq_some_iff] at hx
   obtain ⟨w,hw,rfl⟩:=hx
   exact (ySi f.tot f.sum.1 (f.rng w (List.mem_of_getElem? hw))).2.2.1
 have key:=yTN (Q:=ws.map (quota t ws.sum)) hR (ySb t ws).toNat 0 (by rw [List.length_map]; omega)
 rw [yTL,yTk,List.length_map,Nat.zero_add] at key
 rw [yR3,if_pos h,key]
def yR5 (x : Nat) : List C:=[.i x]
theorem yT7 (t s : Int) (ws : List Int) (ht : 0 ≤ t ∧ t ≤ 1000000000) (hs : 1 ≤ s) (hs2 : s ≤ 12000000) (hw : ∀ w ∈ ws,0 ≤ w ∧ w ≤ 1000000) (x y : Nat) (hx : x < ws.length) (hy : y < ws.length) :
 yB Tryz.prog 190 [.c (.i x),.c (.i y),.elt [.i t],.elt [.sl 1 (ws.map yJ)],.elt [.i s]] (.c (.i (vAt (ws.map (ySp t s)) y - vAt (ws.map (ySp t s)) x))):=by
 obtain ⟨wx,hwx⟩ : ∃ e,ws[x]? = some e:=⟨_,List.getElem?_eq_getElem hx⟩
 obtain ⟨wy,hwy⟩ : ∃ e,ws[y]? = some e:=⟨_,List.getElem?_eq_getElem hy⟩
 have g1:=(List.getElem?_eq_some_iff.1 hwx).2
 have g2:=(List.getElem?_eq_some_iff.1 hwy).2
 have q1:=ySi ht hs (hw wx (List.mem_of_getElem? hwx))
 have q2:=ySi ht hs (hw wy (List.mem_of_getElem? hwy))
 have e1 : vAt (ws.map (ySp t s)) x = ySp t s wx:=ySA (by simp [hwx])
 have e2 : vAt (ws.map (ySp t s)) y = ySp t s wy:=ySA (by simp [hwy])
 rw [e1,e2]
 unfold ySp at *
 refine yh yS7 ?_
 simp -dsimp -implicitDefEqProofs [ySy,hwx,hwy,g1,g2,hx,hy]
 refine ⟨by unfold inI; omega,by omega,by unfold inI; omega,by unfold inI; omega,by omega,by unfold inI; omega,by unfold inI; omega⟩
def yS6 (R : List Int) (i n : Nat) : List Nat:=ySh R i ++ List.range' i (n - i)
def ySw (l1 l2 : List Nat) (i n : Nat) : List Nat:=(l1 ++ i :: l2) ++ List.range' (i + 1) (n - (i + 1))
theorem yUh {R : List Int} {n : Nat} (h : 1 ≤ n) : yS6 R 1 n = List.range n:=by
 have : ySh R 1 = [0]:=rfl
 unfold yS6
 rw [this,List.range_eq_range',show n = (n - 1) + 1 by omega,List.range'_succ]; simp
theorem yUe {R : List Int} {n : Nat} : yS6 R n n = ySh R n:=by simp [yS6]
theorem yUk {R : List Int} {i n : Nat} (h : i < n) : yS6 R i n = ySw (ySh R i) [] i n:=by
 unfold yS6 ySw
 rw [show n - i = (n - (i + 1)) + 1 by omega,List.range'_succ]; simp
theorem yTQ {R : List Int} {i n : Nat} {l1 l2 : List Nat} (h : ySh R (i + 1) = l1 ++ i :: l2) : ySw l1 l2 i n = yS6 R (i + 1) n:=by unfold yS6 ySw; rw [h]
theorem yUf {i n : Nat} {l1 l2 : List Nat} (h : l1.length + l2.length = i) (h2 : i < n) : (ySw l1 l2 i n).length = n:=by simp [ySw]; omega
theorem yUd {i n y : Nat} {l l2 : List Nat} : (ySw (l ++ [y]) l2 i n)[l.length + 1]? = some i ∧ (ySw (l ++ [y]) l2 i n)[l.length]? = some y ∧
 ((ySw (l ++ [y]) l2 i n).set (l.length + 1) y).set l.length i = ySw l (y :: l2) i n:=by
 unfold ySw
 simp only [List.append_assoc,List.cons_append,List.nil_append]
 refine ⟨by simp [List.getElem?_append],by simp [List.getElem?_append],?_⟩
 simp [List.set_append]
theorem yUb (R : List Int) (n : Nat) (hn : 1 ≤ n) (hn2 : n ≤ 1000) (f : Nat) (a b c : List C) (hf : ∃ fn,Tryz.prog.funcs[f]? = some fn ∧ fn.body.isSome = true ∧ (fn.name != "runtime.NumGoroutine") = true)
 (hc : ∀ x y : Nat,x < n → y < n → yB Tryz.prog f [.c (.i x),.c (.i y),.elt a,.elt b,.elt c] (.c (.i (vAt R y - vAt R x)))) :
 InF Tryz.prog 304 (.c (cw 1 ((List.range n).map yR5))) (.c (cw 1 ((ySh R n).map yR5))) [.c (.i 0),.c (.i n),.fn f [.elt a,.elt b,.elt c]] (.tup []):=by
 have hon:=ySo R n
 rw [yb4 (by simp; omega),yb4 (by rw [List.length_map,hon.len]; omega)]
 refine ybO yKZ (by simp) (by simp) rfl fun hwf=>?_
 simp -dsimp -implicitDefEqProofs
 refine ⟨by unfold inI; omega,?_⟩
 refine yg (ι:=Nat) (fun i=>1 ≤ i ∧ i ≤ n) (fun i=>yO [(0,.own 0 1 n),(1,.c (.i 0)),(2,.c (.i n)),(3,.fn f [.elt a,.elt b,.elt c]),(8,.c (.i i)),(1000000,.own 0 1 n)] [(0,.row 1 ((yS6 R i n).map yR5))]) (fun i=>n - i) 1 ⟨Nat.le_refl _,hn⟩ (by apply yj <;> simp [yUh hn]) ?_
 rintro i ⟨hi1,hi⟩
 have fi:=ySo R i
 rcases Nat.lt_or_ge i n with hlt | hge
 ·simp -dsimp -implicitDefEqProofs [yG hlt]
  rw [yUk hlt]
  have hsuc : ySh R (i + 1) = yUg R i (ySh R i):=rfl
  generalize ySh R i = P at *
  refine yg (ι:=List Nat × List Nat) (fun p=>p.1 ++ p.2 = P ∧ ∀ x ∈ p.2,vAt R x < vAt R i) (fun p=>yO [(0,.own 0 1 n),(1,.c (.i 0)),(2,.c (.i n)),(3,.fn f [.elt a,.elt b,.elt c]),(8,.c (.i i)),(9,.c (.i p.1.length)),(1000000,.own 0 1 n)] [(0,.row 1 ((ySw p.1 p.2 i n).map yR5))]) (fun p=>p.1.length) (P,[]) ⟨by simp,by simp⟩ (by apply yj <;> simp [fi.len]) ?_
  rintro ⟨l1,l2⟩ ⟨he,h2⟩
  simp only at he h2
  rcases List.eq_nil_or_concat l1 with e | ⟨l,y,e⟩
  ·subst e
   have hins:=yUa (R:=R) (i:=i) fi.pw he h2 (fun l y h=>by simp at h)
   rw [← hsuc] at hins
   have hend:=yTQ (n:=n) hins
   simp -dsimp -implicitDefEqProofs
   refine ⟨by unfold inI; omega,i + 1,⟨by omega,by omega⟩,by omega,?_⟩
   apply yj <;> simp [hend]
  ·rw [List.concat_eq_append] at e
   subst e
   have hlen:=yUf (n:=n) (l1:=l ++ [y]) (l2:=l2) (by rw [← List.length_append,he,fi.len]) hlt
   have hyP : y < i:=fi.lt y (by rw [← he]; simp)
   obtain ⟨w1,w2,w3⟩:=yUd (i:=i) (n:=n) (y:=y) (l:=l) (l2:=l2)
   have hend:=fun h=>yTQ (n:=n) (R:=R) (l1:=l ++ [y]) (l2:=l2) (i:=i) (by rw [hsuc]; exact yUa (R:=R) (i:=i) fi.pw he h2 h)
   have hll : l.length + 1 < n:=by rw [← hlen]; exact (List.getElem?_eq_some_iff.1 w1).1
   have e0 : (((l ++ [y]).length : Nat) : Int) = ((l.length + 1 : Nat) : Int):=by simp
   rw [e0]
   generalize ySw (l ++ [y]) l2 i n = M at *
   obtain ⟨m,hm⟩ : ∃ m,m = l.length:=⟨_,rfl⟩
   obtain ⟨j,hj⟩ : ∃ j,j = l.length + 1:=⟨_,rfl⟩
   rw [← hj] at w1 w3 hll ⊢
   rw [← hm] at w2 w3
   have v1:=(List.getElem?_eq_some_iff.1 w1).2
   have v2:=(List.getElem?_eq_some_iff.1 w2).2
   have k1 : j < M.length:=(List.getElem?_eq_some_iff.1 w1).1
   have k2 : m < M.length:=(List.getElem?_eq_some_iff.1 w2).1
   have ej : ((j : Int) - 1) = (m : Int):=by omega
   have j0 : 0 < j:=by omega
   have mn : m < n:=by omega
   have hf' : ∃ fn,Tryz.prog.funcs[f]? = some fn ∧ fn.body.isSome = true ∧ ¬fn.name = "runtime.NumGoroutine":=by simpa using hf
   simp -dsimp -implicitDefEqProofs [j0,ej,w1,w2,v1,v2,k1,k2,yR5,hll,mn]
   refine ⟨by unfold inI; omega,hf',?_⟩
   first
    | refine yaQ (hc i y (by omega) (by omega)) (by simp) rfl ?_
    | refine yaP (hc i y (by omega) (by omega)) (by simp) rfl ?_
    | refine ⟨_,_,hc i y (by omega) (by omega),by simp,.inr rfl,?_⟩
    | refine ⟨_,_,hc i y (by omega) (by omega),by simp,.inl rfl,?_⟩
    | refine ya2 (hc i y (by omega) (by omega)) (by simp) (.inr rfl) ?_
    | refine ya2 (hc i y (by omega) (by omega)) (by simp) (.inl rfl) ?_
   have hr2 : ∀ h,((M.map yR5).set j [C.i y])[m]'h = [C.i y]:=by intro h; rw [List.getElem_set_ne (by omega)]; simp [v2,yR5]
   have hs3 : ((M.map yR5).set j [C.i y]).set m [C.i i] = (ySw l (y :: l2) i n).map yR5:=by rw [← w3,List.map_set,List.map_set]; rfl
   simp -dsimp -implicitDefEqProofs [ej,w1,w2,v1,v2,k1,k2,hll,mn,hr2,hs3]
   refine ⟨fun hcm=>?_,fun hcm=>?_⟩
   ·refine ⟨by unfold inI; omega,l,y :: l2,⟨by rw [← he]; simp,fun x hx=>?_⟩,by omega,?_⟩
    ·rcases List.mem_cons.1 hx with hx | hx
     ·subst hx; omega
     ·exact h2 x hx
    ·apply yj <;> simp [yR5,w1,w2,v1,v2,← hm,hr2,hs3]
   ·have hM:=hend fun l' y' h=>by
     have:=(List.append_inj' h rfl).2
     simp at this; subst this; omega
    refine ⟨by unfold inI; omega,i + 1,⟨by omega,by omega⟩,by omega,?_⟩
    apply yj <;> simp [hM]
 ·have : i = n:=by omega
  subst this
  simp -dsimp -implicitDefEqProofs
  rw [yUe]
  refine ⟨by rw [List.take_of_length_le (by rw [List.length_map,fi.len]; exact Nat.le_refl _)],?_⟩
  simp [yml]
theorem yUm (R : List Int) (n : Nat) (hn : 1 ≤ n) (hn2 : n ≤ 19) (f : Nat) (a b c : List C) (hf : ∃ fn,Tryz.prog.funcs[f]? = some fn ∧ fn.body.isSome = true ∧ (fn.name != "runtime.NumGoroutine") = true)
 (hc : ∀ x y : Nat,x < n → y < n → yB Tryz.prog f [.c (.i x),.c (.i y),.elt a,.elt b,.elt c] (.c (.i (vAt R y - vAt R x)))) :
 InF Tryz.prog 264 (.c (cw 1 ((List.range n).map yR5))) (.c (cw 1 ((ySh R n).map yR5))) [.c (.i n),.fn f [.elt a,.elt b,.elt c]] (.tup []):=by
 have hon:=ySo R n
 have hi:=yUb R n hn (by omega) f a b c hf hc
 have hcw : cw 1 ((ySh R n).map yR5) = .ow 1 ((ySh R n).map yR5):=yb4 (by rw [List.length_map,hon.len]; omega)
 have hcw0 : cw 1 ((List.range n).map yR5) = .ow 1 ((List.range n).map yR5):=yb4 (by simp; omega)
 have n1 : ((20 : Int) ≤ (n : Int)) = False:=by simp; omega
 have n2 : ((20 : Int) < (n : Int)) = False:=by simp; omega
 have n3 : (20 ≤ n) = False:=by simp; omega
 have n4 : (20 < n) = False:=by simp; omega
 rw [hcw,hcw0]
 refine ybO yK5 (by simp) (by simp) rfl fun hwf=>?_
 simp -dsimp -implicitDefEqProofs
 refine yg (ι:=Unit) (fun _=>True) (fun _=>yO [(0,.own 0 1 n),(1,.c (.i n)),(2,.fn f [.elt a,.elt b,.elt c]),(6,.c (.i 20)),(7,.c (.i 0)),(8,.c (.i 20)),(1000000,.own 0 1 n)] [(0,.row 1 ((List.range n).map yR5))]) (fun _=>0) () trivial (by apply yj <;> simp) ?_
 rintro _ _
 simp -dsimp -implicitDefEqProofs [n1,n3]
 refine ycW (up:=some (0,.row 1 ((ySh R n).map yR5))) hi (by simp) rfl rfl (ybY (rows:=(List.range n).map yR5) (by simp) rfl rfl (by simp) (by simp [hon.len]) rfl rfl) ?_
 simp -dsimp -implicitDefEqProofs
 refine yg (ι:=Unit) (fun _=>True) (fun _=>yO [(0,.own 0 1 n),(1,.c (.i n)),(6,.c (.i 20)),(1000000,.own 0 1 n)] [(0,.row 1 ((ySh R n).map yR5))]) (fun _=>0) () trivial (by apply yj <;> simp) ?_
 rintro _ _
 simp -dsimp -implicitDefEqProofs [n2,n4]
 exact ⟨by rw [List.take_of_length_le (by rw [List.length_map,hon.len]; exact Nat.le_refl _)],by simp [yml]⟩
theorem yTT (R : List Int) (n : Nat) (hn : 1 ≤ n) (hn2 : n ≤ 19) (f : Nat) (a b c : List C) (hf : ∃ fn,Tryz.prog.funcs[f]? = some fn ∧ fn.body.isSome = true ∧ (fn.name != "runtime.NumGoroutine") = true)
 (hc : ∀ x y : Nat,x < n → y < n → yB Tryz.prog f [.c (.i x),.c (.i y),.elt a,.elt b,.elt c] (.c (.i (vAt R y - vAt R x)))) :
 InF Tryz.prog 189 (.c (cw 1 ((List.range n).map yR5))) (.c (cw 1 ((ySh R n).map yR5))) [.fn f [.elt a,.elt b,.elt c]] (.tup []):=by
 have hon:=ySo R n
 have hi:=yUm R n hn (by omega) f a b c hf hc
 have hcw : cw 1 ((ySh R n).map yR5) = .ow 1 ((ySh R n).map yR5):=yb4 (by rw [List.length_map,hon.len]; omega)
 have hcw0 : cw 1 ((List.range n).map yR5) = .ow 1 ((List.range n).map yR5):=yb4 (by simp; omega)
 rw [hcw,hcw0]
 refine ybO yK1 (by simp) (by simp) rfl fun hwf=>?_
 simp -dsimp -implicitDefEqProofs
 intro _
 refine ycW (up:=some (0,.row 1 ((ySh R n).map yR5))) hi (by simp) rfl rfl (ybY (rows:=(List.range n).map yR5) (by simp) rfl rfl (by simp) (by simp [hon.len]) rfl rfl) ?_
 simp -dsimp -implicitDefEqProofs
 exact ⟨by rw [List.take_of_length_le (by rw [List.length_map,hon.len]; exact Nat.le_refl _)],by simp [yml]⟩
theorem ySa {t : Int} {ws : List Int} (h : yR8 t ws = false) : yR3 t ws = []:=by simp [yR3,h]
theorem yTY {ws : List Int} {k : Nat} (h12 : ws.length ≤ 12) (h : ∀ x ∈ ws.take k,inRange x 0 1000000 = true) : 0 ≤ sumTo ws k ∧ sumTo ws k ≤ 12000000:=by
 have:=sum_bnd (l:=ws.take k) (m:=1000000) fun x hx=>yF.1 (h x hx)
 have e : (ws.take k).length ≤ 12:=by rw [List.length_take]; omega
 unfold sumTo
 omega
theorem yTX {Q : List Int} {o : List Nat} {m : Int} (hm : 0 ≤ m) (hQ : ∀ x ∈ Q,0 ≤ x ∧ x ≤ m) : ∀ (j : Nat),∀ x ∈ ySt Q o j,0 ≤ x ∧ x ≤ m + j
 | 0,x,hx=>by have:=hQ x hx; omega
 | j + 1,x,hx=>by
  have ih:=yTX hm hQ (o:=o) j
  have e2 : ((j + 1 : Nat) : Int) = j + 1:=by simp
  cases h : o[j]? with
  | none =>
   have hl : o.length ≤ j:=by simpa using h
   have e : ySt Q o (j + 1) = ySt Q o j:=by unfold ySt; rw [List.take_of_length_le (by omega),List.take_of_length_le hl]
   rw [e] at hx
   have:=ih x hx
   omega
  | some a =>
   rw [yS0 h] at hx
   rcases List.mem_or_eq_of_mem_set hx with hx | rfl
   ·have:=ih x hx; omega
   ·have : 0 ≤ vAt (ySt Q o j) a ∧ vAt (ySt Q o j) a ≤ m + j:=by
     unfold vAt
     cases hv : (ySt Q o j)[a]? with
     | none=>simp; omega
     | some v=>exact ih v (List.mem_of_getElem? hv)
    omega
theorem yTH (t : Int) (ws : List Int) : ybh Tryz.prog 106 [.c (.i t),.c (.sl 1 (ws.map yJ))] (.c (.ow 1 ((yR3 t ws).map yJ))):=by
 refine yan yTp ?_
 simp -dsimp -implicitDefEqProofs
 refine yc (yC t 0 1000000000) ?_
 cases ht : inRange t 0 1000000000 with
 | false=>simp -dsimp -implicitDefEqProofs; rw [ySa (by simp [yR8,ht])]
 | true =>
 simp -dsimp -implicitDefEqProofs
 refine fun hlen=>⟨fun h1=>?_,fun h1=>?_⟩
 rotate_left
 ·rw [ySa (by simp [yR8]; omega)]
 refine fun _=>⟨fun h12=>by rw [ySa (by simp [yR8]; omega)],fun h12=>?_⟩
 have h12 : ws.length ≤ 12:=by omega
 have h1 : 1 ≤ ws.length:=by omega
 refine fun _=>yg (ι:=Nat) (fun k=>k ≤ ws.length ∧ ∀ x ∈ ws.take k,inRange x 0 1000000 = true) (fun k=>yO [(2,.box 2 0),(3,.box 3 0),(5,.box 5 0),(27,.c (.sl 1 (ws.map yJ))),(28,.c (.i ws.length)),(29,.c (.i k))] [(2,.box [.c (.i t)]),(3,.box [.c (.sl 1 (ws.map yJ))]),(5,.box [.c (.i (sumTo ws k))])]) (fun k=>ws.length - k) 0 (by simp) (by apply yj <;> simp [yf6]) ?_
 rintro k ⟨hk,hall⟩
 rcases Nat.lt_or_ge k ws.length with hlt | hge
 ·obtain ⟨x,hx⟩ : ∃ x,ws[k]? = some x:=⟨_,List.getElem?_eq_getElem hlt⟩
  have g1:=(List.getElem?_eq_some_iff.1 hx).2
  simp -dsimp -implicitDefEqProofs [hx,g1,yG hlt,hlt]
  refine yc (yC x 0 1000000) ?_
  cases hr : inRange x 0 1000000 with
  | false=>simp -dsimp -implicitDefEqProofs; rw [ySa (by have:=all_false (p:=fun w=>inRange w 0 1000000) hx hr; simp [yR8,this])]
  | true =>
   simp -dsimp -implicitDefEqProofs
   have hall':=yL (p:=fun n=>inRange n 0 1000000) hx hall hr
   have hs:=yTY h12 hall'
   rw [yia hx] at hs
   refine ⟨by unfold inI; omega,yw hlt hlen,k + 1,⟨hlt,hall'⟩,by omega,?_⟩
   apply yj <;> simp [yia hx]
 ·have hall2:=yX (p:=fun n=>inRange n 0 1000000) hge hall
  simp -dsimp -implicitDefEqProofs [yaB hge]
  rw [ymm hge]
  refine ⟨fun h0=>by rw [ySa (by simp [yR8,h0])],fun h0=>?_⟩
  have hok : yR8 t ws = true:=by simp [yR8,ht,h12,h1,hall2,h0]
  have f:=ySN hok
  have hlft:=yTv f
  rw [yTl hok]
  have ft:=f.tot; have fs:=f.sum; have frng:=f.rng
  refine fun _=>⟨by omega,fun _=>⟨by omega,fun _=>?_⟩⟩
  obtain ⟨Q,hQd⟩ : ∃ Q,Q = ws.map (quota t ws.sum):=⟨_,rfl⟩
  have hQl : Q.length = ws.length:=by rw [hQd,List.length_map]
  have hQr : ∀ q ∈ Q,0 ≤ q ∧ q ≤ 1000000000000000:=fun q hq=>by
   rw [hQd] at hq
   obtain ⟨w,hw,rfl⟩:=List.mem_map.1 hq
   have:=ySi ft fs.1 (frng w hw)
   omega
  have hrest : ySb t ws = t - Q.sum:=by rw [hQd]; rfl
  rw [← hQd]
  refine yg (ι:=Nat) (fun k=>k ≤ ws.length) (fun k=>yO [(2,.box 2 0),(3,.box 3 0),(5,.box 5 0),(8,.own 44 1 ws.length),(9,.own 47 1 ws.length),(10,.c (.i (t - sumTo Q k))),(49,.c (.sl 1 (ws.map yJ))),(50,.c (.i ws.length)),(51,.c (.i k))]
   [(2,.box [.c (.i t)]),(3,.box [.c (.sl 1 (ws.map yJ))]),(5,.box [.c (.i ws.sum)]),(44,.row 1 (partly yJ [.i 0] Q k)),(47,.row 1 (partly yR5 [.i 0] (List.range ws.length) k))]) (fun k=>ws.length - k) 0 (by simp) (by apply yj <;> simp [yf6,yab,hQl]) ?_
  clear hall hk hge k
  rintro k hk
  rcases Nat.lt_or_ge k ws.length with hlt | hge
  ·obtain ⟨w,hw⟩ : ∃ x,ws[k]? = some x:=⟨_,List.getElem?_eq_getElem hlt⟩
   have g1:=(List.getElem?_eq_some_iff.1 hw).2
   have hQ : Q[k]? = some (quota t ws.sum w):=by rw [hQd]; simp [hw]
   have hO : (List.range ws.length)[k]? = some k:=by simp [hlt]
   have q1:=ySi ft fs.1 (frng w (List.mem_of_getElem? hw))
   have hs1:=yaj (f:=yJ) (z:=[.i 0]) hQ
   have hs2:=yaj (f:=yR5) (z:=[.i 0]) hO
   have hl1:=yak (f:=yJ) (z:=[.i 0]) (es:=Q) (k:=k) (by omega)
   have hl2:=yak (f:=yR5) (z:=[.i 0]) (es:=List.range ws.length) (k:=k) (by simp; omega)
   have hd1 : ((partly yJ [.i 0] Q k)[k]?.getD []).set 0 (.i (quota t ws.sum w)) = [.i (quota t ws.sum w)]:=by
    have:=ydK (f:=yJ) (z:=[.i 0]) (n:=1) (es:=Q) (k:=k) rfl (fun _=>rfl) (by omega)
    obtain ⟨x,hx⟩:=List.length_eq_one_iff.1 this
    rw [hx]; rfl
   have hd2 : ((partly yR5 [.i 0] (List.range ws.length) k)[k]?.getD []).set 0 (.i k) = [.i k]:=by
    have:=ydK (f:=yR5) (z:=[.i 0]) (n:=1) (es:=List.range ws.length) (k:=k) rfl (fun _=>rfl) (by simp; omega)
    obtain ⟨x,hx⟩:=List.length_eq_one_iff.1 this
    rw [hx]; rfl
   rw [List.length_range] at hl2
   have hsum:=yia hQ
   have hb1:=sum_bnd (l:=Q.take k) (m:=1000000000000000) fun x hx=>hQr x (List.mem_of_mem_take hx)
   have hbl : (Q.take k).length ≤ 12:=by rw [List.length_take]; omega
   have hb1' : 0 ≤ sumTo Q k ∧ sumTo Q k ≤ 12000000000000000:=by unfold sumTo; omega
   have hqd : (t * w).tdiv ws.sum = quota t ws.sum w:=rfl
   have hs1' : (partly yJ [.i 0] Q k).set k [.i (quota t ws.sum w)] = partly yJ [.i 0] Q (k + 1):=hs1
   have hs2' : (partly yR5 [.i 0] (List.range ws.length) k).set k [.i k] = partly yR5 [.i 0] (List.range ws.length) (k + 1):=hs2
   have hself : (partly yJ [.i 0] Q (k + 1))[k]? = some [.i (quota t ws.sum w)]:=by rw [← hs1']; exact List.getElem?_set_self (by omega)
   generalize partly yJ [.i 0] Q k = A at *
   generalize hA' : partly yJ [.i 0] Q (k + 1) = A' at *
   generalize partly yR5 [.i 0] (List.range ws.length) k = B at *
   generalize hB' : partly yR5 [.i 0] (List.range ws.length) (k + 1) = B' at *
   have hk1 : k < A.length:=by omega
   have hk2 : k < B.length:=by omega
   have hd1' : A[k].set 0 (C.i (quota t ws.sum w)) = [C.i (quota t ws.sum w)]:=by rw [List.getElem?_eq_getElem hk1] at hd1; exact hd1
   have hd2' : B[k].set 0 (C.i k) = [C.i k]:=by rw [List.getElem?_eq_getElem hk2] at hd2; exact hd2
   simp -dsimp -implicitDefEqProofs [hw,g1,yG hlt,hlt,hqd,hl1,hl2,hd1',hd2',hs1',hs2',hself,hQl]
   have hl3 : A'.length = Q.length:=by rw [← hs1',List.length_set,hl1]
   refine ⟨by unfold inI; omega,by omega,by unfold inI; omega,by omega,?_⟩
   refine ⟨by unfold inI; omega,?_⟩
   refine ⟨by unfold inI; omega,k + 1,hlt,by omega,?_⟩
   apply yj <;> simp [hd1',hd2',hs1',hs2',hsum,hA',hB']
   omega
  ·have hkn : k = ws.length:=by omega
   subst hkn
   have p1:=yam (f:=yJ) (z:=[.i 0]) (es:=Q) (k:=ws.length) (by omega)
   have p2:=yam (f:=yR5) (z:=[.i 0]) (es:=List.range ws.length) (k:=ws.length) (by simp)
   simp -dsimp -implicitDefEqProofs [p1,p2]
   rw [ymm (by omega),← hrest]
   have hord:=ySo (ws.map (ySp t ws.sum)) ws.length
   have hR : (ws.map (ySp t ws.sum)).length = ws.length:=by simp
   have hcmp:=yT7 t ws.sum ws ft fs.1 fs.2 frng
   have hsort:=yTT (ws.map (ySp t ws.sum)) ws.length h1 (by omega) 190 [.i t] [.sl 1 (ws.map yJ)] [.i ws.sum] ⟨Tryz.f190,Tryz.func190,rfl,by decide⟩ hcmp
   generalize ySh (ws.map (ySp t ws.sum)) ws.length = o at *
   refine yMY (up:=some (47,.row 1 (o.map yR5))) hsort ⟨yNu ⟨yMz (by simp) (by simp [ydf]),yMz (by simp) (by simp [ydf]),yMz (by simp) (by simp [ydf]),trivial⟩,trivial⟩ (by rw [yb4 (by rw [List.length_map,hord.len]; omega)]; simp [C.closed,yR5]) rfl (ybY (rows:=(List.range ws.length).map yR5) (by simp) rfl rfl (by simp) (by simp [hord.len]) rfl rfl) ?_
   have hp1 : ∀ x ∈ o,x < Q.length:=fun x hx=>by have:=hord.lt x hx; omega
   simp -dsimp -implicitDefEqProofs
   have hn0 : ((ySb t ws).toNat : Int) = ySb t ws:=Int.toNat_of_nonneg hlft.1
   have hnl : (ySb t ws).toNat < ws.length:=by omega
   rw [← hn0]
   generalize (ySb t ws).toNat = n at *
   have hshl : ∀ j : Nat,(ySt Q o j).length = ws.length:=fun j=>by rw [yTa,hQl]
   refine yg (ι:=Nat) (fun j=>j ≤ n) (fun j=>yO [(8,.own 44 1 ws.length),(9,.own 47 1 ws.length),(10,.c (.i n)),(13,.c (.i j))] [(44,.row 1 ((ySt Q o j).map yJ)),(47,.row 1 (o.map yR5))]) (fun j=>n - j) 0 (by simp) (by apply yj <;> simp [yTL]) ?_
   rintro j hj
   rcases Nat.lt_or_ge j n with hlt | hge
   ·have hjo : j < o.length:=by rw [hord.len]; omega
    obtain ⟨a,ha⟩ : ∃ a,o[j]? = some a:=⟨_,List.getElem?_eq_getElem hjo⟩
    have ga:=(List.getElem?_eq_some_iff.1 ha).2
    have hal:=hord.lt a (List.mem_of_getElem? ha)
    have hss:=yS0 (out:=Q) ha
    have hl:=hshl j
    have hbd:=yTX (o:=o) (m:=1000000000000000) (by omega) hQr j
    generalize ySt Q o j = S at *
    obtain ⟨v,hv⟩ : ∃ v,S[a]? = some v:=⟨_,List.getElem?_eq_getElem (by omega)⟩
    have gv:=(List.getElem?_eq_some_iff.1 hv).2
    have hvv:=ySA hv
    have hb:=hbd v (List.mem_of_getElem? hv)
    have hs4 : (S.map yJ).set a [.i (v + 1)] = (ySt Q o (j + 1)).map yJ:=by rw [hss,hvv,List.map_set]
    have hln : j < ws.length:=by omega
    have hal2 : a < S.length:=by omega
    simp -dsimp -implicitDefEqProofs [ha,ga,yG hlt,hlt,hjo,yR5,hv,gv,hal,hal2,hln,hs4]
    refine ⟨by unfold inI; omega,by unfold inI; omega,j + 1,hlt,by omega,?_⟩
    apply yj <;> simp
   ·have : j = n:=by omega
    subst this
    simp -dsimp -implicitDefEqProofs
    rw [List.take_of_length_le (by rw [List.length_map,hshl]; exact Nat.le_refl _)]
theorem ySJ (t : Int) (ws : List Int) : (yR3 t ws).length ≤ 12:=by
 cases h : yR8 t ws with
 | false=>rw [ySa h]; simp
 | true=>rw [yTl h,yTa,List.length_map]; exact (ySN h).len.2
theorem yTu (t : Int) (ws : List Int) : yB Tryz.prog 106 [.c (.i t),.c (.sl 1 (ws.map yJ))] (.c (.sl 1 ((yR3 t ws).map yJ))):=(yTH t ws).pure (by simp)
def pre (l : List Int) (k : Nat) : List Int:=l.take k
theorem yUl {l : List Int} : pre l 0 = []:=rfl
theorem yT9 {l : List Int} {k : Nat} (h : k ≤ l.length) : (pre l k).length = k:=by simp [pre]; omega
theorem yTW {l : List Int} {k : Nat} {x : Int} (h : l[k]? = some x) : pre l (k + 1) = pre l k ++ [x]:=by unfold pre; rw [List.take_succ,h]; rfl
theorem yT8 {l : List Int} {k : Nat} (h : l.length ≤ k) : pre l k = l:=by unfold pre; exact List.take_of_length_le h
structure Picks (t : Int) (ws : List Int) (m : Nat) (out rest : List Int) : Prop where
 lo : out.length = ws.length
 lr : rest.length = ws.length
 all : ySX m out rest = yR3 t ws
 few : m ≤ 12
 rng : ∀ x ∈ out,0 ≤ x ∧ x ≤ 1000000000000100 - m
theorem Picks.next {t : Int} {ws : List Int} {m : Nat} {out rest : List Int} (h : Picks t ws (m + 1) out rest) (hp : 1 ≤ ws.length) :
 Picks t ws m (out.set (yR4 rest ws.length) (vAt out (yR4 rest ws.length) + 1)) (rest.set (yR4 rest ws.length) (-1)):=by
 have hl:=h.lr
 refine ⟨by rw [List.length_set]; exact h.lo,by rw [List.length_set]; exact hl,?_,by have:=h.few; omega,fun x hx=>?_⟩
 ·rw [← h.all,ySX,hl]
 ·have e : ((m + 1 : Nat) : Int) = m + 1:=by simp
  have r:=h.rng
  rw [e] at r
  rcases List.mem_or_eq_of_mem_set hx with hx | rfl
  ·have:=r x hx; omega
  ·have hlt : yR4 rest ws.length < out.length:=by rw [h.lo,← hl]; exact ySG (by omega) (by omega)
   have:=r (vAt out (yR4 rest ws.length)) (by unfold vAt; rw [List.getElem?_eq_getElem hlt]; exact List.getElem_mem hlt)
   omega
end Go.Proofs.YtjojilkdkgmbgaaGreat
