/- What the law FnExactBoatsOnce stands on: contracts of functions, what each answers as plain Lean, in short form (names, layout). -/
import Derived.Test.YtpkpdbohalbbaaaGreatSExactBoatsOnceA3
import Derived.Test.YtpkpdbohalbbaaaGreatProg
import Derived.KernelRfl
import Derived.Test.YtpkpdbohalbbaaaGreatSExactBoatsOnceA4
import Derived.Test.YtpkpdbohalbbaaaGreatSExactBoatsOnceA7
import Derived.Test.YtpkpdbohalbbaaaGreatSExactBoatsOnceA8
import Derived.Test.YtpkpdbohalbbaaaGreatSExactBoatsOnceA9
import Derived.Test.YtpkpdbohalbbaaaGreatSExactBoatsOnceA10
import Derived.Test.YtpkpdbohalbbaaaGreatSExactBoatsOnceA11
import Derived.Test.YtpkpdbohalbbaaaGreatSExactBoatsOnceA5
import Derived.Test.YtpkpdbohalbbaaaGreatSExactBoatsOnceA6
set_option linter.all false
namespace Go.Proofs.YtpkpdbohalbbaaaGreat
open Go.RowKit
abbrev kI (n : Int) : X:=.k (.c (.i n))
abbrev kB (b : Bool) : X:=.k (.c (.b b))
abbrev iv (d n : Nat) : Ins:=⟨none,some d,.mv (.t n)⟩
abbrev ia (d : Nat) (o : IOp) : Ins:=⟨none,some d,o⟩
abbrev ig (t : Nat) (b : Bool) (d : Nat) (o : IOp) : Ins:=⟨some (t,b),some d,o⟩
abbrev ie (o : IOp) : Ins:=⟨none,none,o⟩
abbrev fA (d k a : Nat) : Ins:=ia d (.fld k (.t a))
abbrev lA (d a : Nat) : Ins:=ia d (.ld1 (.t a))
abbrev dA (d k a : Nat) : Ins:=ia d (.ldn k (.t a))
abbrev xA (d k a b : Nat) : Ins:=ia d (.idx k (.t a) (.t b))
abbrev mA (d : Nat) (n : Int) : Ins:=ia d (.mv (kI n))
abbrev bA (d : Nat) (b : Bool) : Ins:=ia d (.mv (kB b))
abbrev nA (d a : Nat) : Ins:=ia d (.len (.t a))
abbrev pA (d a : Nat) (n : Int) : Ins:=ia d (.bin .add (.t a) (kI n))
abbrev tA (d a b : Nat) : Ins:=ia d (.bin .lss (.t a) (.t b))
abbrev oA (d : Nat) (o : BinOp) (a b : Nat) : Ins:=ia d (.bin o (.t a) (.t b))
abbrev oI (d : Nat) (o : BinOp) (a : Nat) (n : Int) : Ins:=ia d (.bin o (.t a) (kI n))
abbrev nN (d a : Nat) : Ins:=ia d (.not (.t a))
abbrev c1 (d f a : Nat) : Ins:=ia d (.call f [.t a])
abbrev c2 (d f a b : Nat) : Ins:=ia d (.call f [.t a,.t b])
abbrev c3 (d f a b c : Nat) : Ins:=ia d (.call f [.t a,.t b,.t c])
abbrev bZ (d k : Nat) : Ins:=ia d (.bsl k [])
abbrev bS (d k a : Nat) : Ins:=ia d (.bsl k [.t a])
abbrev aP (d k b x y : Nat) : Ins:=ia d (.app k b (.t x) (.t y))
abbrev pT (d a b : Nat) : Ins:=ia d (.pick (.t a) (kB true) (.t b))
abbrev pF (d a b : Nat) : Ins:=ia d (.pick (.t a) (.t b) (kB false))
abbrev eX (d i a : Nat) : Ins:=ia d (.ext i (.t a))
abbrev bX (d n a : Nat) : Ins:=ia d (.box n (.t a))
abbrev mN (d k : Nat) : Ins:=ia d (.mv (.k (.nil k)))
abbrev tS (a b : Nat) : Ins:=ie (.st1 (.t a) (.t b))
abbrev tN (n a b : Nat) : Ins:=ie (.stn n (.t a) (.t b))
abbrev gA (c : Nat) (b : Bool) (d k a : Nat) : Ins:=ig c b d (.fld k (.t a))
abbrev hA (c : Nat) (b : Bool) (d a : Nat) : Ins:=ig c b d (.ld1 (.t a))
abbrev g8 (c : Nat) (b : Bool) (d a : Nat) : Ins:=ig c b d (.mv (.t a))
abbrev g9 (c : Nat) (b : Bool) (d a : Nat) : Ins:=ig c b d (.not (.t a))
abbrev q0 (i : Ins) : RIns:=⟨0,false,[],i⟩
abbrev q1 (i : Ins) : RIns:=⟨1,false,[],i⟩
abbrev q2 (i : Ins) : RIns:=⟨2,false,[],i⟩
abbrev q3 (i : Ins) : RIns:=⟨0,true,[],i⟩
abbrev q4 (k : Nat) (n : Bool) (c : List Nat) (i : Ins) : RIns:=⟨k,n,c,i⟩
abbrev rR (l : List Ins) : SC:=.seq (.reg l) .ret
abbrev rS (l : List Ins) (c : SC) : SC:=.seq (.reg l) c
abbrev rQ (l : List Ins) (c : SC) : SC:=.seq (.regq l) c
abbrev rE (l : List RIns) (c : SC) : SC:=.seq (.rege l) c
abbrev cX (t n : Nat) : SC:=.cond (.t t) .skip (.exit n)
abbrev cI (t : Nat) (c : SC) : SC:=.cond (.t t) c .skip
abbrev cT (t : Nat) (a b : SC) : SC:=.cond (.t t) a b
abbrev iS (l : List Ins) (t : Nat) (c d : SC) : SC:=.seq (.seq (.reg l) (.cond (.t t) c .skip)) d
abbrev xS (l : List Ins) (t n : Nat) (d : SC) : SC:=.seq (.seq (.reg l) (.cond (.t t) .skip (.exit n))) d
abbrev bL (n : Nat) (c : SC) : SC:=.block n (.loop c)
theorem yA {P : Program} {f N : Nat} {c : SC} {rs : List RS} {fn : Func} (fl : Option (List Nat)) (hf : P.funcs[f]? = some fn) (h : (fn.ntmps,fn.body.bind (ygf fl P N),yep P fn.results.toList,decide (N ≤ ycZ)) = (N,some c,some rs,true)) : Has P f N c rs:=by
 simp only [Prod.mk.injEq,decide_eq_true_eq] at h
 obtain ⟨h1,h2,h3,h4⟩:=h
 cases hb : fn.body with
 | none=>rw [hb] at h2; cases h2
 | some code=>rw [hb] at h2; exact ⟨h4,fn,code,hf,hb,h1,⟨fl,h2⟩,h3⟩
section
variable {P : Program} {f N d : Nat} {c : SC} {rs : List RS} {avs args : List AV} {res : AV} {s : St} {K : St → Prop} {k : AV → Prop} {ob : Nat → Obj} {dd : Option Nat} {kN : St → Prop} {T : Tag (k,kN)} {T1 : Tag k}
theorem yh (hf : Has P f N c rs) (H : wpS P N c (yh2 args) (fun e s=>match e with | .exit _=>False | _=>yml s rs res)) (hN : args.length ≤ N:=by simp) : yB P f args res:=ywS hf hN fun _=>H
theorem yJu (hf : Has P f N c rs) (H : ygO args → wpS P N c (yh2 args) (fun e s=>match e with | .exit _=>False | _=>yml s rs res)) (hN : args.length ≤ N:=by simp) : yB P f args res:=ywS hf hN H
theorem yan (hf : Has P f N c rs) (H : wpS P N c (yh2 args) (fun e s=>match e with | .exit _=>False | _=>yiF s rs res)) (hN : args.length ≤ N:=by simp) : ybh P f args res:=yv3 hf hN fun _=>H
theorem yc (hp : yB P f args res) (hK : K (s.put dd res)) (ho : ybD s avs args:=by simp) (hs : res.scalar = true:=by rfl) : yfo P f avs dd s K:=yaQ hp ho hs hK
theorem yS (hp : yB P f args res) (hK : K (s.put dd res)) (ho : ybD s avs args:=by simp) (hs : avs.all AV.ycJ = true:=by rfl) : yfo P f avs dd s K:=yaP hp ho hs hK
theorem yaC (hp : yB P f args res) (hK : k res) (ho : ybD (ycF ob) avs args:=by simp) (hs : res.scalar = true:=by rfl) : ysj P f avs ob k T1:=⟨_,_,hp,ho,.inr hs,hK⟩
theorem yyA (hp : yB P f args res) (hK : k res) (ho : ybD (ycF ob) avs args:=by simp) (hs : avs.all AV.ycJ = true:=by rfl) : ysj P f avs ob k T1:=⟨_,_,hp,ho,.inl hs,hK⟩
theorem yb1 (hp : yB P f args res) (hK : k res) (ho : ybD s avs args:=by simp) (hs : res.scalar = true:=by rfl) : ylY P f avs dd s k kN T:=ya2 hp ho (.inr hs) hK
theorem yY (hp : yB P f args res) (hK : k res) (ho : ybD s avs args:=by simp) (hs : avs.all AV.ycJ = true:=by rfl) : ylY P f avs dd s k kN T:=ya2 hp ho (.inl hs) hK
end
attribute [simp] AV.ygy AV.ymf Obj.ygy
theorem yUH : Has Tryz.prog 3 27 (rS [bX 1 16 0,bA 2 false] (rS [mA 3 1048576] (rS [dA 7 16 1,iv 8 3,c2 9 5 7 8,iv 3 9] (iS [iv 10 3,oI 11 .lss 10 0] 11 (rR [bA 2 true]) (rS [dA 12 16 1,c1 13 7 12,c1 14 6 13,iv 4 14] (rS [dA 15 16 1,c1 16 7 15,ia 5 (.alloc [.c (.i 0),.nil 3,.nil 2,.nil 22,.nil 1,.nil 2,.nil 1,.c (.i 0),.c (.i 0),.nil 1,.nil 1,.nil 5,.nil 4,.c (.i 0),.c (.i 0),.c (.i 0)]),tN 16 5 16] (rS [dA 17 16 5,c1 18 8 17,iv 6 18] (iS [iv 19 6,iv 20 4,ia 21 (.beq true (.t 19) (.t 20))] 21 (rR [bA 2 false]) (.seq (rQ [dA 22 16 5,dA 23 16 1,c1 24 7 23,c2 25 9 22 24,nN 26 25] (cI 26 (rR [bA 2 false]))) (rR [bA 2 true])))))))))) [.t 2]:=yA none Tryz.func3 (by kernel_rfl)
theorem ylx : Has Tryz.prog 5 60 (rS [bX 2 16 0,mA 4 0] (rS [fA 5 1 2,lA 6 5,iv 7 1,c2 8 12 6 7,iv 1 8] (iS [iv 9 1,oI 10 .lss 9 0] 10 (rR [mA 4 (-1)]) (rS [fA 11 2 2,lA 12 11,iv 13 1,c2 14 13 12 13,iv 1 14] (iS [iv 15 1,oI 16 .lss 15 0] 16 (rR [mA 4 (-1)]) (rS [fA 17 3 2,lA 18 17,iv 19 1,c2 20 14 18 19,iv 1 20] (iS [iv 21 1,oI 22 .lss 21 0] 22 (rR [mA 4 (-1)]) (rS [fA 23 4 2,lA 24 23,iv 25 1,c2 26 15 24 25,iv 1 26] (iS [iv 27 1,oI 28 .lss 27 0] 28 (rR [mA 4 (-1)]) (rS [fA 29 5 2,lA 30 29,iv 31 1,c2 32 16 30 31,iv 1 32] (iS [iv 33 1,oI 34 .lss 33 0] 34 (rR [mA 4 (-1)]) (rS [fA 35 6 2,lA 36 35,iv 37 1,c2 38 17 36 37,iv 1 38] (iS [iv 39 1,oI 40 .lss 39 0] 40 (rR [mA 4 (-1)]) (rS [fA 41 7 2,dA 42 4 41,iv 43 1,c2 44 18 42 43,iv 1 44] (iS [iv 45 1,oI 46 .lss 45 0] 46 (rR [mA 4 (-1)]) (rS [fA 47 11 2,lA 48 47,iv 49 1,c2 50 19 48 49,iv 1 50] (iS [iv 51 1,oI 52 .lss 51 0] 52 (rR [mA 4 (-1)]) (rS [fA 53 12 2,lA 54 53,iv 55 1,c2 56 20 54 55,iv 1 56] (iS [iv 57 1,oI 58 .lss 57 0] 58 (rR [mA 4 (-1)]) (rR [iv 59 1,iv 4 59])))))))))))))))))))) [.t 4]:=yA none Tryz.func5 (by kernel_rfl)
theorem yUT : Has Tryz.prog 6 28 (rS [bX 1 16 0,bA 2 false] (rS [dA 5 16 1,c1 6 21 5,iv 3 6] (.seq (rS [mA 4 0] (bL 0 (xS [iv 7 4,fA 8 6 1,lA 9 8,nA 10 9,tA 11 7 10] 11 0 (.seq (.block 1 (rS [iv 14 3,fA 15 6 1,lA 16 15,iv 17 4,xA 18 1 16 17,lA 19 18,c2 20 22 14 19,oI 21 .neq 20 1] (cI 21 (rR [bA 2 false])))) (.reg [iv 12 4,pA 13 12 1,iv 4 13]))))) (rR [iv 22 3,nA 23 22,fA 24 6 1,lA 25 24,nA 26 25,oA 27 .eql 23 26,iv 2 27])))) [.t 2]:=yA none Tryz.func6 (by kernel_rfl)
theorem ygH : Has Tryz.prog 7 53 (rS [bX 1 16 0,ia 2 (.alloc [.c (.i 0),.nil 3,.nil 2,.nil 22,.nil 1,.nil 2,.nil 1,.c (.i 0),.c (.i 0),.nil 1,.nil 1,.nil 5,.nil 4,.c (.i 0),.c (.i 0),.c (.i 0)])] (rS [ia 3 (.alloc [.c (.i 0),.nil 3,.nil 2,.nil 22,.nil 1,.nil 2,.nil 1,.c (.i 0),.c (.i 0),.nil 1,.nil 1,.nil 5,.nil 4,.c (.i 0),.c (.i 0),.c (.i 0)])] (rS [fA 4 0 1,lA 5 4,fA 6 0 3,tS 6 5] (rS [fA 7 1 1,lA 8 7,c1 9 23 8,fA 10 1 3,tS 10 9] (rS [fA 11 2 1,lA 12 11,c1 13 24 12,fA 14 2 3,tS 14 13] (rS [fA 15 3 1,lA 16 15,c1 17 25 16,fA 18 3 3,tS 18 17] (rS [fA 19 4 1,lA 20 19,c1 21 26 20,fA 22 4 3,tS 22 21] (rS [fA 23 5 1,lA 24 23,c1 25 27 24,fA 26 5 3,tS 26 25] (rS [fA 27 6 1,lA 28 27,c1 29 28 28,fA 30 6 3,tS 30 29] (rS [fA 31 7 1,dA 32 4 31,c1 33 29 32,fA 34 7 3,tN 4 34 33] (rS [fA 35 11 1,lA 36 35,c1 37 30 36,fA 38 11 3,tS 38 37] (rS [fA 39 12 1,lA 40 39,c1 41 31 40,fA 42 12 3,tS 42 41] (rS [fA 43 13 1,lA 44 43,fA 45 13 3,tS 45 44] (rS [fA 46 14 1,lA 47 46,fA 48 14 3,tS 48 47] (rS [fA 49 15 1,lA 50 49,fA 51 15 3,tS 51 50] (rR [dA 52 16 3,tN 16 2 52])))))))))))))))) [.cl 2 16]:=yA none Tryz.func7 (by kernel_rfl)
theorem yUU : Has Tryz.prog 8 41 (rS [bX 1 16 0,bA 2 false] (rS [dA 9 16 1,c1 10 32 9,iv 3 10] (iS [iv 11 3,nA 12 11,fA 13 6 1,lA 14 13,nA 15 14,oA 16 .neq 12 15] 16 (rR [bA 2 false]) (rS [ia 17 .mkm,iv 4 17] (.seq (rS [iv 18 3,nA 19 18,mA 20 0] (bL 0 (rS [tA 21 20 19] (.seq (cX 21 0) (.seq (.block 1 (rS [xA 22 1 18 20,lA 23 22,iv 6 23] (.reg [iv 24 4,iv 25 6,ia 26 (.mlk (.t 24) (.t 25)),pA 27 26 1,ie (.mup (.t 24) (.t 25) (.t 27))]))) (.reg [pA 28 20 1,iv 20 28])))))) (.seq (rS [fA 29 6 1,lA 30 29,nA 31 30,mA 32 0] (bL 2 (rS [tA 33 32 31] (.seq (cX 33 2) (.seq (.block 3 (rS [xA 34 1 30 32,lA 35 34,iv 8 35] (rS [iv 36 4,iv 37 8,ia 38 (.mlk (.t 36) (.t 37)),oI 39 .neq 38 1] (cI 39 (rR [bA 2 false]))))) (.reg [pA 40 32 1,iv 32 40])))))) (rR [bA 2 true]))))))) [.t 2]:=yA none Tryz.func8 (by kernel_rfl)
def ygr : SC:=rS [bX 2 16 0,bX 3 16 1,bA 4 false] (iS [fA 5 0 2,lA 6 5,fA 7 0 3,lA 8 7,oA 9 .neq 6 8] 9 (rR [bA 4 false]) (iS [fA 10 1 2,lA 11 10,fA 12 1 3,lA 13 12,c2 14 33 11 13,nN 15 14] 15 (rR [bA 4 false]) (iS [fA 16 2 2,lA 17 16,fA 18 2 3,lA 19 18,c2 20 34 17 19,nN 21 20] 21 (rR [bA 4 false]) (iS [fA 22 3 2,lA 23 22,fA 24 3 3,lA 25 24,c2 26 35 23 25,nN 27 26] 27 (rR [bA 4 false]) (iS [fA 28 4 2,lA 29 28,fA 30 4 3,lA 31 30,c2 32 36 29 31,nN 33 32] 33 (rR [bA 4 false]) (iS [fA 34 5 2,lA 35 34,fA 36 5 3,lA 37 36,c2 38 37 35 37,nN 39 38] 39 (rR [bA 4 false]) (iS [fA 40 6 2,lA 41 40,fA 42 6 3,lA 43 42,c2 44 38 41 43,nN 45 44] 45 (rR [bA 4 false]) (iS [fA 46 7 2,dA 47 4 46,fA 48 7 3,dA 49 4 48,c2 50 39 47 49,nN 51 50] 51 (rR [bA 4 false]) (iS [fA 52 11 2,lA 53 52,fA 54 11 3,lA 55 54,c2 56 40 53 55,nN 57 56] 57 (rR [bA 4 false]) (iS [fA 58 12 2,lA 59 58,fA 60 12 3,lA 61 60,c2 62 41 59 61,nN 63 62] 63 (rR [bA 4 false]) (iS [fA 64 13 2,lA 65 64,fA 66 13 3,lA 67 66,oA 68 .neq 65 67] 68 (rR [bA 4 false]) (iS [fA 69 14 2,lA 70 69,fA 71 14 3,lA 72 71,oA 73 .neq 70 72] 73 (rR [bA 4 false]) (iS [fA 74 15 2,lA 75 74,fA 76 15 3,lA 77 76,oA 78 .neq 75 77] 78 (rR [bA 4 false]) (rR [bA 4 true]))))))))))))))
theorem ylL : Has Tryz.prog 9 79 ygr [.t 4]:=yA none Tryz.func9 (by kernel_rfl)
theorem ynv : Has Tryz.prog 12 27 (rS [mA 4 0] (rS [iv 6 1,iv 7 0,nA 8 7,oA 9 .sub 6 8,iv 1 9] (iS [iv 10 1,oI 11 .lss 10 0] 11 (rR [mA 4 (-1)]) (.seq (rS [mA 5 0] (bL 0 (xS [iv 12 5,iv 13 0,nA 14 13,tA 15 12 14] 15 0 (.seq (.block 1 (rS [iv 18 0,iv 19 5,xA 20 3 18 19,dA 21 3 20,iv 22 1,c2 23 48 21 22,iv 1 23] (rS [iv 24 1,oI 25 .lss 24 0] (cI 25 (rR [mA 4 (-1)]))))) (.reg [iv 16 5,pA 17 16 1,iv 5 17]))))) (rR [iv 26 1,iv 4 26]))))) [.t 4]:=yA none Tryz.func12 (by kernel_rfl)
def yj9 : SC:=rS [mA 4 0] (rS [iv 5 1,iv 6 0,nA 7 6,oA 8 .sub 5 7,iv 1 8] (iS [iv 9 1,oI 10 .lss 9 0] 10 (rR [mA 4 (-1)]) (rR [iv 11 1,iv 4 11])))
theorem yqz : Has Tryz.prog 13 12 yj9 [.t 4]:=yA none Tryz.func13 (by kernel_rfl)
theorem ypK : Has Tryz.prog 14 27 (rS [mA 4 0] (rS [iv 6 1,iv 7 0,nA 8 7,oA 9 .sub 6 8,iv 1 9] (iS [iv 10 1,oI 11 .lss 10 0] 11 (rR [mA 4 (-1)]) (.seq (rS [mA 5 0] (bL 0 (xS [iv 12 5,iv 13 0,nA 14 13,tA 15 12 14] 15 0 (.seq (.block 1 (rS [iv 18 0,iv 19 5,xA 20 22 18 19,dA 21 22 20,iv 22 1,c2 23 49 21 22,iv 1 23] (rS [iv 24 1,oI 25 .lss 24 0] (cI 25 (rR [mA 4 (-1)]))))) (.reg [iv 16 5,pA 17 16 1,iv 5 17]))))) (rR [iv 26 1,iv 4 26]))))) [.t 4]:=yA none Tryz.func14 (by kernel_rfl)
theorem yma : Has Tryz.prog 15 27 (rS [mA 4 0] (rS [iv 6 1,iv 7 0,nA 8 7,oA 9 .sub 6 8,iv 1 9] (iS [iv 10 1,oI 11 .lss 10 0] 11 (rR [mA 4 (-1)]) (.seq (rS [mA 5 0] (bL 0 (xS [iv 12 5,iv 13 0,nA 14 13,tA 15 12 14] 15 0 (.seq (.block 1 (rS [iv 18 0,iv 19 5,xA 20 1 18 19,lA 21 20,iv 22 1,c2 23 50 21 22,iv 1 23] (rS [iv 24 1,oI 25 .lss 24 0] (cI 25 (rR [mA 4 (-1)]))))) (.reg [iv 16 5,pA 17 16 1,iv 5 17]))))) (rR [iv 26 1,iv 4 26]))))) [.t 4]:=yA none Tryz.func15 (by kernel_rfl)
theorem ynN : Has Tryz.prog 16 27 (rS [mA 4 0] (rS [iv 6 1,iv 7 0,nA 8 7,oA 9 .sub 6 8,iv 1 9] (iS [iv 10 1,oI 11 .lss 10 0] 11 (rR [mA 4 (-1)]) (.seq (rS [mA 5 0] (bL 0 (xS [iv 12 5,iv 13 0,nA 14 13,tA 15 12 14] 15 0 (.seq (.block 1 (rS [iv 18 0,iv 19 5,xA 20 2 18 19,dA 21 2 20,iv 22 1,c2 23 51 21 22,iv 1 23] (rS [iv 24 1,oI 25 .lss 24 0] (cI 25 (rR [mA 4 (-1)]))))) (.reg [iv 16 5,pA 17 16 1,iv 5 17]))))) (rR [iv 26 1,iv 4 26]))))) [.t 4]:=yA none Tryz.func16 (by kernel_rfl)
def yj7 : SC:=rS [mA 4 0] (rS [iv 5 1,iv 6 0,nA 7 6,oA 8 .sub 5 7,iv 1 8] (iS [iv 9 1,oI 10 .lss 9 0] 10 (rR [mA 4 (-1)]) (rR [iv 11 1,iv 4 11])))
theorem yrh : Has Tryz.prog 17 12 yj7 [.t 4]:=yA none Tryz.func17 (by kernel_rfl)
theorem yng : Has Tryz.prog 18 18 (rS [bX 2 4 0,mA 4 0] (rS [fA 5 2 2,lA 6 5,iv 7 1,c2 8 17 6 7,iv 1 8] (iS [iv 9 1,oI 10 .lss 9 0] 10 (rR [mA 4 (-1)]) (rS [fA 11 3 2,lA 12 11,iv 13 1,c2 14 17 12 13,iv 1 14] (iS [iv 15 1,oI 16 .lss 15 0] 16 (rR [mA 4 (-1)]) (rR [iv 17 1,iv 4 17])))))) [.t 4]:=yA none Tryz.func18 (by kernel_rfl)
def yix : SC:=rS [mA 4 0] (rS [iv 5 1,iv 6 0,nA 7 6,oA 8 .sub 5 7,iv 1 8] (iS [iv 9 1,oI 10 .lss 9 0] 10 (rR [mA 4 (-1)]) (rR [iv 11 1,iv 4 11])))
theorem ynm : Has Tryz.prog 19 12 yix [.t 4]:=yA none Tryz.func19 (by kernel_rfl)
theorem ylD : Has Tryz.prog 20 27 (rS [mA 4 0] (rS [iv 6 1,iv 7 0,nA 8 7,oA 9 .sub 6 8,iv 1 9] (iS [iv 10 1,oI 11 .lss 10 0] 11 (rR [mA 4 (-1)]) (.seq (rS [mA 5 0] (bL 0 (xS [iv 12 5,iv 13 0,nA 14 13,tA 15 12 14] 15 0 (.seq (.block 1 (rS [iv 18 0,iv 19 5,xA 20 4 18 19,dA 21 4 20,iv 22 1,c2 23 52 21 22,iv 1 23] (rS [iv 24 1,oI 25 .lss 24 0] (cI 25 (rR [mA 4 (-1)]))))) (.reg [iv 16 5,pA 17 16 1,iv 5 17]))))) (rR [iv 26 1,iv 4 26]))))) [.t 4]:=yA none Tryz.func20 (by kernel_rfl)
theorem yUW : Has Tryz.prog 21 112 (rS [bX 1 16 0,mN 2 1] (rS [bZ 10 1,iv 3 10] (.seq (rS [mA 4 0] (bL 0 (xS [iv 11 4,fA 12 4 1,lA 13 12,nA 14 13,tA 15 11 14] 15 0 (.seq (.block 1 (rS [mA 5 0] (bL 2 (xS [iv 18 5,fA 19 4 1,lA 20 19,iv 21 4,xA 22 1 20 21,lA 23 22,nA 24 23,tA 25 18 24] 25 2 (.seq (.block 3 (.reg [iv 28 3,fA 29 4 1,lA 30 29,iv 31 4,xA 32 1 30 31,lA 33 32,iv 34 5,xA 35 3 33 34,fA 36 0 35,dA 37 2 36,c1 38 53 37,aP 39 1 8 28 38,iv 3 39])) (.reg [iv 26 5,pA 27 26 1,iv 5 27])))))) (.reg [iv 16 4,pA 17 16 1,iv 4 17]))))) (.seq (rS [mA 6 0] (bL 4 (xS [iv 40 6,fA 41 3 1,lA 42 41,nA 43 42,tA 44 40 43] 44 4 (.seq (.block 5 (.seq (rS [mA 7 0] (bL 6 (xS [iv 47 7,fA 48 3 1,lA 49 48,iv 50 6,xA 51 22 49 50,fA 52 21 51,lA 53 52,nA 54 53,tA 55 47 54] 55 6 (.seq (.block 7 (.reg [iv 58 3,fA 59 3 1,lA 60 59,iv 61 6,xA 62 22 60 61,fA 63 21 62,lA 64 63,iv 65 7,xA 66 4 64 65,fA 67 0 66,dA 68 2 67,c1 69 53 68,aP 70 1 8 58 69,iv 3 70])) (.reg [iv 56 7,pA 57 56 1,iv 7 57]))))) (rS [mA 8 0] (bL 8 (xS [iv 71 8,fA 72 3 1,lA 73 72,iv 74 6,xA 75 22 73 74,fA 76 0 75,fA 77 9 76,lA 78 77,nA 79 78,tA 80 71 79] 80 8 (.seq (.block 9 (.reg [iv 83 3,fA 84 3 1,lA 85 84,iv 86 6,xA 87 22 85 86,fA 88 0 87,fA 89 9 88,lA 90 89,iv 91 8,xA 92 2 90 91,dA 93 2 92,c1 94 53 93,aP 95 1 8 83 94,iv 3 95])) (.reg [iv 81 8,pA 82 81 1,iv 8 82]))))))) (.reg [iv 45 6,pA 46 45 1,iv 6 46]))))) (.seq (rS [mA 9 0] (bL 10 (xS [iv 96 9,fA 97 5 1,lA 98 97,nA 99 98,tA 100 96 99] 100 10 (.seq (.block 11 (.reg [iv 103 3,fA 104 5 1,lA 105 104,iv 106 9,xA 107 2 105 106,dA 108 2 107,c1 109 53 108,aP 110 1 8 103 109,iv 3 110])) (.reg [iv 101 9,pA 102 101 1,iv 9 102]))))) (rR [iv 111 3,iv 2 111])))))) [.t 2]:=yA none Tryz.func21 (by kernel_rfl)
theorem yTo : Has Tryz.prog 22 22 (rS [mA 4 0] (rS [mA 5 0] (.seq (rS [mA 6 0] (bL 0 (xS [iv 7 6,iv 8 0,nA 9 8,tA 10 7 9] 10 0 (.seq (.block 1 (rS [iv 13 0,iv 14 6,xA 15 1 13 14,lA 16 15,iv 17 1,oA 18 .eql 16 17] (cI 18 (.reg [iv 19 5,pA 20 19 1,iv 5 20])))) (.reg [iv 11 6,pA 12 11 1,iv 6 12]))))) (rR [iv 21 5,iv 4 21])))) [.t 4]:=yA none Tryz.func22 (by kernel_rfl)
theorem yii : Has Tryz.prog 23 23 (rS [mN 2 3] (rS [iv 5 0,nA 6 5,ia 7 (.mks 3 56 [.sl 2 [],.i 0,.sl 1 []] (.t 6) (.t 6)),iv 3 7] (.seq (rS [mA 4 0] (bL 0 (xS [iv 8 4,iv 9 0,nA 10 9,tA 11 8 10] 11 0 (.seq (.block 1 (.reg [iv 14 3,iv 15 4,iv 16 0,iv 17 4,xA 18 3 16 17,dA 19 3 18,c1 20 54 19,xA 21 3 14 15,tN 3 21 20])) (.reg [iv 12 4,pA 13 12 1,iv 4 13]))))) (rR [iv 22 3,iv 2 22])))) [.t 2]:=yA none Tryz.func23 (by kernel_rfl)
theorem yj5 : Has Tryz.prog 24 23 (rS [mN 2 2] (rS [iv 5 0,nA 6 5,ia 7 (.mks 2 16 [.i 0,.i 0] (.t 6) (.t 6)),iv 3 7] (.seq (rS [mA 4 0] (bL 0 (xS [iv 8 4,iv 9 0,nA 10 9,tA 11 8 10] 11 0 (.seq (.block 1 (.reg [iv 14 3,iv 15 4,iv 16 0,iv 17 4,xA 18 2 16 17,dA 19 2 18,c1 20 55 19,xA 21 2 14 15,tN 2 21 20])) (.reg [iv 12 4,pA 13 12 1,iv 4 13]))))) (rR [iv 22 3,iv 2 22])))) [.t 2]:=yA none Tryz.func24 (by kernel_rfl)
theorem yjm : Has Tryz.prog 25 23 (rS [mN 2 22] (rS [iv 5 0,nA 6 5,ia 7 (.mks 22 224 [.i 0,.i 0,.i 0,.i 0,.i 0,.i 0,.i 0,.i 0,.i 0,.sl 2 [],.i 0,.i 0,.i 0,.i 0,.i 0,.i 0,.i 0,.i 0,.sl 2 [],.b false,.i 0,.sl 4 []] (.t 6) (.t 6)),iv 3 7] (.seq (rS [mA 4 0] (bL 0 (xS [iv 8 4,iv 9 0,nA 10 9,tA 11 8 10] 11 0 (.seq (.block 1 (.reg [iv 14 3,iv 15 4,iv 16 0,iv 17 4,xA 18 22 16 17,dA 19 22 18,c1 20 56 19,xA 21 22 14 15,tN 22 21 20])) (.reg [iv 12 4,pA 13 12 1,iv 4 13]))))) (rR [iv 22 3,iv 2 22])))) [.t 2]:=yA none Tryz.func25 (by kernel_rfl)
theorem ygW : Has Tryz.prog 26 23 (rS [mN 2 1] (rS [iv 5 0,nA 6 5,ia 7 (.mks 1 24 [.sl 3 []] (.t 6) (.t 6)),iv 3 7] (.seq (rS [mA 4 0] (bL 0 (xS [iv 8 4,iv 9 0,nA 10 9,tA 11 8 10] 11 0 (.seq (.block 1 (.reg [iv 14 3,iv 15 4,iv 16 0,iv 17 4,xA 18 1 16 17,lA 19 18,c1 20 57 19,xA 21 1 14 15,tS 21 20])) (.reg [iv 12 4,pA 13 12 1,iv 4 13]))))) (rR [iv 22 3,iv 2 22])))) [.t 2]:=yA none Tryz.func26 (by kernel_rfl)
theorem yij : Has Tryz.prog 27 23 (rS [mN 2 2] (rS [iv 5 0,nA 6 5,ia 7 (.mks 2 32 [.b false,.sl 1 []] (.t 6) (.t 6)),iv 3 7] (.seq (rS [mA 4 0] (bL 0 (xS [iv 8 4,iv 9 0,nA 10 9,tA 11 8 10] 11 0 (.seq (.block 1 (.reg [iv 14 3,iv 15 4,iv 16 0,iv 17 4,xA 18 2 16 17,dA 19 2 18,c1 20 58 19,xA 21 2 14 15,tN 2 21 20])) (.reg [iv 12 4,pA 13 12 1,iv 4 13]))))) (rR [iv 22 3,iv 2 22])))) [.t 2]:=yA none Tryz.func27 (by kernel_rfl)
theorem yjT : Has Tryz.prog 28 22 (rS [mN 2 1] (rS [iv 5 0,nA 6 5,ia 7 (.mks 1 8 [.i 0] (.t 6) (.t 6)),iv 3 7] (.seq (rS [mA 4 0] (bL 0 (xS [iv 8 4,iv 9 0,nA 10 9,tA 11 8 10] 11 0 (.seq (.block 1 (.reg [iv 14 3,iv 15 4,iv 16 0,iv 17 4,xA 18 1 16 17,lA 19 18,xA 20 1 14 15,tS 20 19])) (.reg [iv 12 4,pA 13 12 1,iv 4 13]))))) (rR [iv 21 3,iv 2 21])))) [.t 2]:=yA none Tryz.func28 (by kernel_rfl)
theorem yil : Has Tryz.prog 29 19 (rS [bX 1 4 0,ia 2 (.alloc [.c (.i 0),.c (.i 0),.nil 1,.nil 1])] (rS [ia 3 (.alloc [.c (.i 0),.c (.i 0),.nil 1,.nil 1])] (rS [fA 4 0 1,lA 5 4,fA 6 0 3,tS 6 5] (rS [fA 7 1 1,lA 8 7,fA 9 1 3,tS 9 8] (rS [fA 10 2 1,lA 11 10,c1 12 28 11,fA 13 2 3,tS 13 12] (rS [fA 14 3 1,lA 15 14,c1 16 28 15,fA 17 3 3,tS 17 16] (rR [dA 18 4 3,tN 4 2 18]))))))) [.cl 2 4]:=yA none Tryz.func29 (by kernel_rfl)
theorem yiv : Has Tryz.prog 30 23 (rS [mN 2 5] (rS [iv 5 0,nA 6 5,ia 7 (.mks 5 40 [.i 0,.i 0,.i 0,.i 0,.i 0] (.t 6) (.t 6)),iv 3 7] (.seq (rS [mA 4 0] (bL 0 (xS [iv 8 4,iv 9 0,nA 10 9,tA 11 8 10] 11 0 (.seq (.block 1 (.reg [iv 14 3,iv 15 4,iv 16 0,iv 17 4,xA 18 5 16 17,dA 19 5 18,c1 20 59 19,xA 21 5 14 15,tN 5 21 20])) (.reg [iv 12 4,pA 13 12 1,iv 4 13]))))) (rR [iv 22 3,iv 2 22])))) [.t 2]:=yA none Tryz.func30 (by kernel_rfl)
theorem ygz : Has Tryz.prog 31 23 (rS [mN 2 4] (rS [iv 5 0,nA 6 5,ia 7 (.mks 4 48 [.i 0,.i 0,.b false,.sl 1 []] (.t 6) (.t 6)),iv 3 7] (.seq (rS [mA 4 0] (bL 0 (xS [iv 8 4,iv 9 0,nA 10 9,tA 11 8 10] 11 0 (.seq (.block 1 (.reg [iv 14 3,iv 15 4,iv 16 0,iv 17 4,xA 18 4 16 17,dA 19 4 18,c1 20 60 19,xA 21 4 14 15,tN 4 21 20])) (.reg [iv 12 4,pA 13 12 1,iv 4 13]))))) (rR [iv 22 3,iv 2 22])))) [.t 2]:=yA none Tryz.func31 (by kernel_rfl)
theorem yUX : Has Tryz.prog 32 83 (rS [bX 1 16 0,mN 2 1] (rS [mN 3 1] (.seq (rS [fA 16 4 1,lA 17 16,nA 18 17,mA 19 0] (bL 0 (rS [tA 20 19 18] (.seq (cX 20 0) (.seq (.block 1 (rS [xA 21 1 17 19,lA 22 21,iv 5 22] (rS [iv 23 5,nA 24 23,mA 25 0] (bL 2 (rS [tA 26 25 24] (.seq (cX 26 2) (.seq (.block 3 (rS [xA 27 3 23 25,dA 28 3 27,ia 7 (.alloc [.c (.b false),.nil 1,.c (.i 0)]),tN 3 7 28] (.reg [iv 29 3,fA 30 0 7,dA 31 2 30,c1 32 61 31,aP 33 1 8 29 32,iv 3 33]))) (.reg [pA 34 25 1,iv 25 34])))))))) (.reg [pA 35 19 1,iv 19 35])))))) (.seq (rS [fA 36 3 1,lA 37 36,nA 38 37,mA 39 0] (bL 4 (rS [tA 40 39 38] (.seq (cX 40 4) (.seq (.block 5 (rS [xA 41 22 37 39,dA 42 22 41,ia 9 (.alloc [.c (.i 0),.c (.i 0),.c (.i 0),.c (.i 0),.c (.i 0),.c (.i 0),.c (.i 0),.c (.i 0),.c (.i 0),.nil 2,.c (.i 0),.c (.i 0),.c (.i 0),.c (.i 0),.c (.i 0),.c (.i 0),.c (.i 0),.c (.i 0),.nil 2,.c (.b false),.c (.i 0),.nil 4]),tN 22 9 42] (.seq (rS [fA 43 21 9,lA 44 43,nA 45 44,mA 46 0] (bL 6 (rS [tA 47 46 45] (.seq (cX 47 6) (.seq (.block 7 (rS [xA 48 4 44 46,dA 49 4 48,ia 11 (.alloc [.c (.b false),.nil 1,.c (.i 0),.c (.i 0)]),tN 4 11 49] (.reg [iv 50 3,fA 51 0 11,dA 52 2 51,c1 53 61 52,aP 54 1 8 50 53,iv 3 54]))) (.reg [pA 55 46 1,iv 46 55])))))) (rS [fA 56 0 9,fA 57 9 56,lA 58 57,nA 59 58,mA 60 0] (bL 8 (rS [tA 61 60 59] (.seq (cX 61 8) (.seq (.block 9 (rS [xA 62 2 58 60,dA 63 2 62,ia 13 (.alloc [.c (.b false),.nil 1]),tN 2 13 63] (.reg [iv 64 3,dA 65 2 13,c1 66 61 65,aP 67 1 8 64 66,iv 3 67]))) (.reg [pA 68 60 1,iv 60 68]))))))))) (.reg [pA 69 39 1,iv 39 69])))))) (.seq (rS [fA 70 5 1,lA 71 70,nA 72 71,mA 73 0] (bL 10 (rS [tA 74 73 72] (.seq (cX 74 10) (.seq (.block 11 (rS [xA 75 2 71 73,dA 76 2 75,ia 15 (.alloc [.c (.b false),.nil 1]),tN 2 15 76] (.reg [iv 77 3,dA 78 2 15,c1 79 61 78,aP 80 1 8 77 79,iv 3 80]))) (.reg [pA 81 73 1,iv 73 81])))))) (rR [iv 82 3,iv 2 82])))))) [.t 2]:=yA none Tryz.func32 (by kernel_rfl)
theorem ynu : Has Tryz.prog 33 27 (rS [bA 4 false] (iS [iv 6 0,nA 7 6,iv 8 1,nA 9 8,oA 10 .neq 7 9] 10 (rR [bA 4 false]) (.seq (rS [mA 5 0] (bL 0 (xS [iv 11 5,iv 12 0,nA 13 12,tA 14 11 13] 14 0 (.seq (.block 1 (rQ [iv 17 0,iv 18 5,xA 19 3 17 18,dA 20 3 19,iv 21 1,iv 22 5,xA 23 3 21 22,dA 24 3 23,c2 25 62 20 24,nN 26 25] (cI 26 (rR [bA 4 false])))) (.reg [iv 15 5,pA 16 15 1,iv 5 16]))))) (rR [bA 4 true])))) [.t 4]:=yA none Tryz.func33 (by kernel_rfl)
theorem yqr : Has Tryz.prog 34 27 (rS [bA 4 false] (iS [iv 6 0,nA 7 6,iv 8 1,nA 9 8,oA 10 .neq 7 9] 10 (rR [bA 4 false]) (.seq (rS [mA 5 0] (bL 0 (xS [iv 11 5,iv 12 0,nA 13 12,tA 14 11 13] 14 0 (.seq (.block 1 (rQ [iv 17 0,iv 18 5,xA 19 2 17 18,dA 20 2 19,iv 21 1,iv 22 5,xA 23 2 21 22,dA 24 2 23,c2 25 63 20 24,nN 26 25] (cI 26 (rR [bA 4 false])))) (.reg [iv 15 5,pA 16 15 1,iv 5 16]))))) (rR [bA 4 true])))) [.t 4]:=yA none Tryz.func34 (by kernel_rfl)
theorem yo1 : Has Tryz.prog 35 27 (rS [bA 4 false] (iS [iv 6 0,nA 7 6,iv 8 1,nA 9 8,oA 10 .neq 7 9] 10 (rR [bA 4 false]) (.seq (rS [mA 5 0] (bL 0 (xS [iv 11 5,iv 12 0,nA 13 12,tA 14 11 13] 14 0 (.seq (.block 1 (rQ [iv 17 0,iv 18 5,xA 19 22 17 18,dA 20 22 19,iv 21 1,iv 22 5,xA 23 22 21 22,dA 24 22 23,c2 25 64 20 24,nN 26 25] (cI 26 (rR [bA 4 false])))) (.reg [iv 15 5,pA 16 15 1,iv 5 16]))))) (rR [bA 4 true])))) [.t 4]:=yA none Tryz.func35 (by kernel_rfl)
theorem ymn : Has Tryz.prog 36 27 (rS [bA 4 false] (iS [iv 6 0,nA 7 6,iv 8 1,nA 9 8,oA 10 .neq 7 9] 10 (rR [bA 4 false]) (.seq (rS [mA 5 0] (bL 0 (xS [iv 11 5,iv 12 0,nA 13 12,tA 14 11 13] 14 0 (.seq (.block 1 (rQ [iv 17 0,iv 18 5,xA 19 1 17 18,lA 20 19,iv 21 1,iv 22 5,xA 23 1 21 22,lA 24 23,c2 25 65 20 24,nN 26 25] (cI 26 (rR [bA 4 false])))) (.reg [iv 15 5,pA 16 15 1,iv 5 16]))))) (rR [bA 4 true])))) [.t 4]:=yA none Tryz.func36 (by kernel_rfl)
theorem ynC : Has Tryz.prog 37 27 (rS [bA 4 false] (iS [iv 6 0,nA 7 6,iv 8 1,nA 9 8,oA 10 .neq 7 9] 10 (rR [bA 4 false]) (.seq (rS [mA 5 0] (bL 0 (xS [iv 11 5,iv 12 0,nA 13 12,tA 14 11 13] 14 0 (.seq (.block 1 (rQ [iv 17 0,iv 18 5,xA 19 2 17 18,dA 20 2 19,iv 21 1,iv 22 5,xA 23 2 21 22,dA 24 2 23,c2 25 66 20 24,nN 26 25] (cI 26 (rR [bA 4 false])))) (.reg [iv 15 5,pA 16 15 1,iv 5 16]))))) (rR [bA 4 true])))) [.t 4]:=yA none Tryz.func37 (by kernel_rfl)
theorem yqx : Has Tryz.prog 38 26 (rS [bA 4 false] (iS [iv 6 0,nA 7 6,iv 8 1,nA 9 8,oA 10 .neq 7 9] 10 (rR [bA 4 false]) (.seq (rS [mA 5 0] (bL 0 (xS [iv 11 5,iv 12 0,nA 13 12,tA 14 11 13] 14 0 (.seq (.block 1 (rQ [iv 17 0,iv 18 5,xA 19 1 17 18,lA 20 19,iv 21 1,iv 22 5,xA 23 1 21 22,lA 24 23,oA 25 .neq 20 24] (cI 25 (rR [bA 4 false])))) (.reg [iv 15 5,pA 16 15 1,iv 5 16]))))) (rR [bA 4 true])))) [.t 4]:=yA none Tryz.func38 (by kernel_rfl)
def yiy : SC:=rS [bX 2 4 0,bX 3 4 1,bA 4 false] (iS [fA 5 0 2,lA 6 5,fA 7 0 3,lA 8 7,oA 9 .neq 6 8] 9 (rR [bA 4 false]) (iS [fA 10 1 2,lA 11 10,fA 12 1 3,lA 13 12,oA 14 .neq 11 13] 14 (rR [bA 4 false]) (iS [fA 15 2 2,lA 16 15,fA 17 2 3,lA 18 17,c2 19 38 16 18,nN 20 19] 20 (rR [bA 4 false]) (iS [fA 21 3 2,lA 22 21,fA 23 3 3,lA 24 23,c2 25 38 22 24,nN 26 25] 26 (rR [bA 4 false]) (rR [bA 4 true])))))
theorem ym8 : Has Tryz.prog 39 27 yiy [.t 4]:=yA none Tryz.func39 (by kernel_rfl)
theorem ynh : Has Tryz.prog 40 27 (rS [bA 4 false] (iS [iv 6 0,nA 7 6,iv 8 1,nA 9 8,oA 10 .neq 7 9] 10 (rR [bA 4 false]) (.seq (rS [mA 5 0] (bL 0 (xS [iv 11 5,iv 12 0,nA 13 12,tA 14 11 13] 14 0 (.seq (.block 1 (rQ [iv 17 0,iv 18 5,xA 19 5 17 18,dA 20 5 19,iv 21 1,iv 22 5,xA 23 5 21 22,dA 24 5 23,c2 25 67 20 24,nN 26 25] (cI 26 (rR [bA 4 false])))) (.reg [iv 15 5,pA 16 15 1,iv 5 16]))))) (rR [bA 4 true])))) [.t 4]:=yA none Tryz.func40 (by kernel_rfl)
theorem ylI : Has Tryz.prog 41 27 (rS [bA 4 false] (iS [iv 6 0,nA 7 6,iv 8 1,nA 9 8,oA 10 .neq 7 9] 10 (rR [bA 4 false]) (.seq (rS [mA 5 0] (bL 0 (xS [iv 11 5,iv 12 0,nA 13 12,tA 14 11 13] 14 0 (.seq (.block 1 (rQ [iv 17 0,iv 18 5,xA 19 4 17 18,dA 20 4 19,iv 21 1,iv 22 5,xA 23 4 21 22,dA 24 4 23,c2 25 68 20 24,nN 26 25] (cI 26 (rR [bA 4 false])))) (.reg [iv 15 5,pA 16 15 1,iv 5 16]))))) (rR [bA 4 true])))) [.t 4]:=yA none Tryz.func41 (by kernel_rfl)
theorem ypp : Has Tryz.prog 48 18 (rS [bX 2 3 0,mA 4 0] (rS [fA 5 0 2,lA 6 5,iv 7 1,c2 8 87 6 7,iv 1 8] (iS [iv 9 1,oI 10 .lss 9 0] 10 (rR [mA 4 (-1)]) (rS [fA 11 2 2,lA 12 11,iv 13 1,c2 14 17 12 13,iv 1 14] (iS [iv 15 1,oI 16 .lss 15 0] 16 (rR [mA 4 (-1)]) (rR [iv 17 1,iv 4 17])))))) [.t 4]:=yA none Tryz.func48 (by kernel_rfl)
theorem yqH : Has Tryz.prog 49 24 (rS [bX 2 22 0,mA 4 0] (rS [fA 5 0 2,dA 6 10 5,iv 7 1,c2 8 88 6 7,iv 1 8] (iS [iv 9 1,oI 10 .lss 9 0] 10 (rR [mA 4 (-1)]) (rS [fA 11 18 2,lA 12 11,iv 13 1,c2 14 89 12 13,iv 1 14] (iS [iv 15 1,oI 16 .lss 15 0] 16 (rR [mA 4 (-1)]) (rS [fA 17 21 2,lA 18 17,iv 19 1,c2 20 90 18 19,iv 1 20] (iS [iv 21 1,oI 22 .lss 21 0] 22 (rR [mA 4 (-1)]) (rR [iv 23 1,iv 4 23])))))))) [.t 4]:=yA none Tryz.func49 (by kernel_rfl)
theorem ynH : Has Tryz.prog 50 27 (rS [mA 4 0] (rS [iv 6 1,iv 7 0,nA 8 7,oA 9 .sub 6 8,iv 1 9] (iS [iv 10 1,oI 11 .lss 10 0] 11 (rR [mA 4 (-1)]) (.seq (rS [mA 5 0] (bL 0 (xS [iv 12 5,iv 13 0,nA 14 13,tA 15 12 14] 15 0 (.seq (.block 1 (rS [iv 18 0,iv 19 5,xA 20 3 18 19,dA 21 3 20,iv 22 1,c2 23 91 21 22,iv 1 23] (rS [iv 24 1,oI 25 .lss 24 0] (cI 25 (rR [mA 4 (-1)]))))) (.reg [iv 16 5,pA 17 16 1,iv 5 17]))))) (rR [iv 26 1,iv 4 26]))))) [.t 4]:=yA none Tryz.func50 (by kernel_rfl)
theorem ypX : Has Tryz.prog 51 12 (rS [bX 2 2 0,mA 4 0] (rS [fA 5 1 2,lA 6 5,iv 7 1,c2 8 92 6 7,iv 1 8] (iS [iv 9 1,oI 10 .lss 9 0] 10 (rR [mA 4 (-1)]) (rR [iv 11 1,iv 4 11])))) [.t 4]:=yA none Tryz.func51 (by kernel_rfl)
theorem ymq : Has Tryz.prog 52 12 (rS [bX 2 4 0,mA 4 0] (rS [fA 5 2 2,dA 6 2 5,iv 7 1,c2 8 51 6 7,iv 1 8] (iS [iv 9 1,oI 10 .lss 9 0] 10 (rR [mA 4 (-1)]) (rR [iv 11 1,iv 4 11])))) [.t 4]:=yA none Tryz.func52 (by kernel_rfl)
theorem ysG : Has Tryz.prog 53 28 (rS [bX 1 2 0,mN 2 1] (rS [bZ 6 1,iv 3 6] (rS [dA 7 2 1,c1 8 93 7,iv 4 8] (.seq (rS [mA 5 0] (bL 0 (xS [iv 9 5,iv 10 4,nA 11 10,tA 12 9 11,iv 13 12,ig 13 true 14 (.ldn 2 (.t 1)),ig 13 true 15 (.call 94 [.t 14]),pF 16 13 15] 16 0 (.seq (.block 1 (.reg [iv 19 3,iv 20 4,iv 21 5,xA 22 6 20 21,fA 23 0 22,lA 24 23,bS 25 1 24,aP 26 1 8 19 25,iv 3 26])) (.reg [iv 17 5,pA 18 17 1,iv 5 18]))))) (rR [iv 27 3,iv 2 27]))))) [.t 2]:=yA none Tryz.func53 (by kernel_rfl)
theorem yiN : Has Tryz.prog 54 16 (rS [bX 1 3 0,ia 2 (.alloc [.nil 2,.c (.i 0),.nil 1])] (rS [ia 3 (.alloc [.nil 2,.c (.i 0),.nil 1])] (rS [fA 4 0 1,lA 5 4,c1 6 95 5,fA 7 0 3,tS 7 6] (rS [fA 8 1 1,lA 9 8,fA 10 1 3,tS 10 9] (rS [fA 11 2 1,lA 12 11,c1 13 28 12,fA 14 2 3,tS 14 13] (rR [dA 15 3 3,tN 3 2 15])))))) [.cl 2 3]:=yA none Tryz.func54 (by kernel_rfl)
theorem ys1 : Has Tryz.prog 55 11 (rS [bX 1 2 0,ia 2 (.alloc [.c (.i 0),.c (.i 0)])] (rS [ia 3 (.alloc [.c (.i 0),.c (.i 0)])] (rS [fA 4 0 1,lA 5 4,fA 6 0 3,tS 6 5] (rS [fA 7 1 1,lA 8 7,fA 9 1 3,tS 9 8] (rR [dA 10 2 3,tN 2 2 10]))))) [.cl 2 2]:=yA none Tryz.func55 (by kernel_rfl)
theorem yka : Has Tryz.prog 56 29 (rS [bX 1 22 0,ia 2 (.alloc [.c (.i 0),.c (.i 0),.c (.i 0),.c (.i 0),.c (.i 0),.c (.i 0),.c (.i 0),.c (.i 0),.c (.i 0),.nil 2,.c (.i 0),.c (.i 0),.c (.i 0),.c (.i 0),.c (.i 0),.c (.i 0),.c (.i 0),.c (.i 0),.nil 2,.c (.b false),.c (.i 0),.nil 4])] (rS [ia 3 (.alloc [.c (.i 0),.c (.i 0),.c (.i 0),.c (.i 0),.c (.i 0),.c (.i 0),.c (.i 0),.c (.i 0),.c (.i 0),.nil 2,.c (.i 0),.c (.i 0),.c (.i 0),.c (.i 0),.c (.i 0),.c (.i 0),.c (.i 0),.c (.i 0),.nil 2,.c (.b false),.c (.i 0),.nil 4])] (rS [fA 4 0 1,dA 5 10 4,c1 6 96 5,fA 7 0 3,tN 10 7 6] (rS [fA 8 10 1,dA 9 5 8,c1 10 97 9,fA 11 10 3,tN 5 11 10] (rS [fA 12 15 1,dA 13 3 12,c1 14 98 13,fA 15 15 3,tN 3 15 14] (rS [fA 16 18 1,lA 17 16,c1 18 99 17,fA 19 18 3,tS 19 18] (rS [fA 20 19 1,dA 21 2 20,c1 22 100 21,fA 23 19 3,tN 2 23 22] (rS [fA 24 21 1,lA 25 24,c1 26 101 25,fA 27 21 3,tS 27 26] (rR [dA 28 22 3,tN 22 2 28]))))))))) [.cl 2 22]:=yA none Tryz.func56 (by kernel_rfl)
theorem yiz : Has Tryz.prog 57 23 (rS [mN 2 3] (rS [iv 5 0,nA 6 5,ia 7 (.mks 3 40 [.b false,.sl 1 [],.i 0] (.t 6) (.t 6)),iv 3 7] (.seq (rS [mA 4 0] (bL 0 (xS [iv 8 4,iv 9 0,nA 10 9,tA 11 8 10] 11 0 (.seq (.block 1 (.reg [iv 14 3,iv 15 4,iv 16 0,iv 17 4,xA 18 3 16 17,dA 19 3 18,c1 20 102 19,xA 21 3 14 15,tN 3 21 20])) (.reg [iv 12 4,pA 13 12 1,iv 4 13]))))) (rR [iv 22 3,iv 2 22])))) [.t 2]:=yA none Tryz.func57 (by kernel_rfl)
theorem yiU : Has Tryz.prog 58 12 (rS [bX 1 2 0,ia 2 (.alloc [.c (.b false),.nil 1])] (rS [ia 3 (.alloc [.c (.b false),.nil 1])] (rS [fA 4 0 1,lA 5 4,fA 6 0 3,tS 6 5] (rS [fA 7 1 1,lA 8 7,c1 9 103 8,fA 10 1 3,tS 10 9] (rR [dA 11 2 3,tN 2 2 11]))))) [.cl 2 2]:=yA none Tryz.func58 (by kernel_rfl)
theorem ypm : Has Tryz.prog 59 20 (rS [bX 1 5 0,ia 2 (.alloc [.c (.i 0),.c (.i 0),.c (.i 0),.c (.i 0),.c (.i 0)])] (rS [ia 3 (.alloc [.c (.i 0),.c (.i 0),.c (.i 0),.c (.i 0),.c (.i 0)])] (rS [fA 4 0 1,lA 5 4,fA 6 0 3,tS 6 5] (rS [fA 7 1 1,lA 8 7,fA 9 1 3,tS 9 8] (rS [fA 10 2 1,lA 11 10,fA 12 2 3,tS 12 11] (rS [fA 13 3 1,lA 14 13,fA 15 3 3,tS 15 14] (rS [fA 16 4 1,lA 17 16,fA 18 4 3,tS 18 17] (rR [dA 19 5 3,tN 5 2 19])))))))) [.cl 2 5]:=yA none Tryz.func59 (by kernel_rfl)
theorem yg7 : Has Tryz.prog 60 15 (rS [bX 1 4 0,ia 2 (.alloc [.c (.i 0),.c (.i 0),.c (.b false),.nil 1])] (rS [ia 3 (.alloc [.c (.i 0),.c (.i 0),.c (.b false),.nil 1])] (rS [fA 4 0 1,lA 5 4,fA 6 0 3,tS 6 5] (rS [fA 7 1 1,lA 8 7,fA 9 1 3,tS 9 8] (rS [fA 10 2 1,dA 11 2 10,c1 12 58 11,fA 13 2 3,tN 2 13 12] (rR [dA 14 4 3,tN 4 2 14])))))) [.cl 2 4]:=yA none Tryz.func60 (by kernel_rfl)
theorem ysm : Has Tryz.prog 61 23 (rS [bX 1 2 0,mN 2 1] (iS [dA 6 2 1,c1 7 79 6,nN 8 7] 8 (rR [mN 2 1]) (rS [mN 3 1] (.seq (rS [dA 9 2 1,c1 10 104 9,nA 11 10,mA 12 0] (bL 0 (rS [tA 13 12 11] (.seq (cX 13 0) (.seq (.block 1 (rS [xA 14 6 10 12,dA 15 6 14,ia 5 (.alloc [.c (.i 0),.c (.i 0),.c (.i 0),.c (.i 0),.c (.i 0),.c (.i 0)]),tN 6 5 15] (.reg [iv 16 3,fA 17 0 5,lA 18 17,bS 19 1 18,aP 20 1 8 16 19,iv 3 20]))) (.reg [pA 21 12 1,iv 12 21])))))) (rR [iv 22 3,iv 2 22]))))) [.t 2]:=yA none Tryz.func61 (by kernel_rfl)
def yjl : SC:=rS [bX 2 3 0,bX 3 3 1,bA 4 false] (iS [fA 5 0 2,lA 6 5,fA 7 0 3,lA 8 7,c2 9 105 6 8,nN 10 9] 10 (rR [bA 4 false]) (iS [fA 11 1 2,lA 12 11,fA 13 1 3,lA 14 13,oA 15 .neq 12 14] 15 (rR [bA 4 false]) (iS [fA 16 2 2,lA 17 16,fA 18 2 3,lA 19 18,c2 20 38 17 19,nN 21 20] 21 (rR [bA 4 false]) (rR [bA 4 true]))))
theorem yn6 : Has Tryz.prog 62 22 yjl [.t 4]:=yA none Tryz.func62 (by kernel_rfl)
def ykN : SC:=rS [bX 2 2 0,bX 3 2 1,bA 4 false] (iS [fA 5 0 2,lA 6 5,fA 7 0 3,lA 8 7,oA 9 .neq 6 8] 9 (rR [bA 4 false]) (iS [fA 10 1 2,lA 11 10,fA 12 1 3,lA 13 12,oA 14 .neq 11 13] 14 (rR [bA 4 false]) (rR [bA 4 true])))
theorem ysB : Has Tryz.prog 63 15 ykN [.t 4]:=yA none Tryz.func63 (by kernel_rfl)
def yj1 : SC:=rS [bX 2 22 0,bX 3 22 1,bA 4 false] (iS [fA 5 0 2,dA 6 10 5,fA 7 0 3,dA 8 10 7,c2 9 106 6 8,nN 10 9] 10 (rR [bA 4 false]) (iS [fA 11 10 2,dA 12 5 11,fA 13 10 3,dA 14 5 13,c2 15 107 12 14,nN 16 15] 16 (rR [bA 4 false]) (iS [fA 17 15 2,dA 18 3 17,fA 19 15 3,dA 20 3 19,c2 21 108 18 20,nN 22 21] 22 (rR [bA 4 false]) (iS [fA 23 18 2,lA 24 23,fA 25 18 3,lA 26 25,c2 27 109 24 26,nN 28 27] 28 (rR [bA 4 false]) (iS [fA 29 19 2,dA 30 2 29,fA 31 19 3,dA 32 2 31,c2 33 110 30 32,nN 34 33] 34 (rR [bA 4 false]) (iS [fA 35 21 2,lA 36 35,fA 37 21 3,lA 38 37,c2 39 111 36 38,nN 40 39] 40 (rR [bA 4 false]) (rR [bA 4 true])))))))
theorem yqq : Has Tryz.prog 64 41 yj1 [.t 4]:=yA none Tryz.func64 (by kernel_rfl)
theorem ynq : Has Tryz.prog 65 27 (rS [bA 4 false] (iS [iv 6 0,nA 7 6,iv 8 1,nA 9 8,oA 10 .neq 7 9] 10 (rR [bA 4 false]) (.seq (rS [mA 5 0] (bL 0 (xS [iv 11 5,iv 12 0,nA 13 12,tA 14 11 13] 14 0 (.seq (.block 1 (rQ [iv 17 0,iv 18 5,xA 19 3 17 18,dA 20 3 19,iv 21 1,iv 22 5,xA 23 3 21 22,dA 24 3 23,c2 25 112 20 24,nN 26 25] (cI 26 (rR [bA 4 false])))) (.reg [iv 15 5,pA 16 15 1,iv 5 16]))))) (rR [bA 4 true])))) [.t 4]:=yA none Tryz.func65 (by kernel_rfl)
def yiE : SC:=rS [bX 2 2 0,bX 3 2 1,bA 4 false] (iS [fA 5 0 2,lA 6 5,fA 7 0 3,lA 8 7,ia 9 (.beq true (.t 6) (.t 8))] 9 (rR [bA 4 false]) (iS [fA 10 1 2,lA 11 10,fA 12 1 3,lA 13 12,c2 14 113 11 13,nN 15 14] 15 (rR [bA 4 false]) (rR [bA 4 true])))
theorem yoZ : Has Tryz.prog 66 16 yiE [.t 4]:=yA none Tryz.func66 (by kernel_rfl)
def yja : SC:=rS [bX 2 5 0,bX 3 5 1,bA 4 false] (iS [fA 5 0 2,lA 6 5,fA 7 0 3,lA 8 7,oA 9 .neq 6 8] 9 (rR [bA 4 false]) (iS [fA 10 1 2,lA 11 10,fA 12 1 3,lA 13 12,oA 14 .neq 11 13] 14 (rR [bA 4 false]) (iS [fA 15 2 2,lA 16 15,fA 17 2 3,lA 18 17,oA 19 .neq 16 18] 19 (rR [bA 4 false]) (iS [fA 20 3 2,lA 21 20,fA 22 3 3,lA 23 22,oA 24 .neq 21 23] 24 (rR [bA 4 false]) (iS [fA 25 4 2,lA 26 25,fA 27 4 3,lA 28 27,oA 29 .neq 26 28] 29 (rR [bA 4 false]) (rR [bA 4 true]))))))
theorem yn0 : Has Tryz.prog 67 30 yja [.t 4]:=yA none Tryz.func67 (by kernel_rfl)
def yhh : SC:=rS [bX 2 4 0,bX 3 4 1,bA 4 false] (iS [fA 5 0 2,lA 6 5,fA 7 0 3,lA 8 7,oA 9 .neq 6 8] 9 (rR [bA 4 false]) (iS [fA 10 1 2,lA 11 10,fA 12 1 3,lA 13 12,oA 14 .neq 11 13] 14 (rR [bA 4 false]) (iS [fA 15 2 2,dA 16 2 15,fA 17 2 3,dA 18 2 17,c2 19 66 16 18,nN 20 19] 20 (rR [bA 4 false]) (rR [bA 4 true]))))
theorem ymw : Has Tryz.prog 68 21 yhh [.t 4]:=yA none Tryz.func68 (by kernel_rfl)
def ylw : SC:=rS [bA 6 false] (rR [iv 7 0,iv 8 1,oA 9 .geq 7 8,iv 10 9,g8 10 true 11 0,g8 10 true 12 2,ig 10 true 13 (.bin .leq (.t 11) (.t 12)),pF 14 10 13,iv 6 14])
theorem ysx : Has Tryz.prog 69 15 ylw [.t 6]:=yA none Tryz.func69 (by kernel_rfl)
def yi1 : SC:=rS [bA 6 false] (rR [iv 7 0,iv 8 1,oA 9 .geq 7 8,iv 10 9,g8 10 true 11 0,g8 10 true 12 2,ig 10 true 13 (.bin .leq (.t 11) (.t 12)),pF 14 10 13,iv 6 14])
theorem yot : Has Tryz.prog 77 15 yi1 [.t 6]:=yA none Tryz.func77 (by kernel_rfl)
theorem yoE : Has Tryz.prog 79 60 (rS [bX 1 2 0,bA 2 false] (iS [fA 9 1 1,lA 10 9,nA 11 10,oI 12 .eql 11 0,iv 13 12,gA 13 false 14 1 1,hA 13 false 15 14,ig 13 false 16 (.len (.t 15)),ig 13 false 17 (.bin .gtr (.t 16) (kI 6)),pT 18 13 17] 18 (rR [bA 2 false]) (rS [ia 3 (.alloca 1 6 [.i 0])] (rS [mA 4 0] (.seq (rS [fA 19 1 1,lA 20 19,nA 21 20,mA 22 0] (bL 0 (rS [tA 23 22 21] (.seq (cX 23 0) (.seq (.block 1 (rS [xA 24 1 20 22,lA 25 24,iv 6 25] (iS [iv 26 6,nA 27 26,oI 28 .eql 27 0,iv 29 28,g8 29 false 30 4,g8 29 false 31 6,ig 29 false 32 (.len (.t 31)),ig 29 false 33 (.bin .add (.t 30) (.t 32)),ig 29 false 34 (.bin .gtr (.t 33) (kI 6)),pT 35 29 34] 35 (rR [bA 2 false]) (rS [iv 36 6,nA 37 36,mA 38 0] (bL 2 (rS [tA 39 38 37] (.seq (cX 39 2) (.seq (.block 3 (rS [xA 40 6 36 38,dA 41 6 40,ia 8 (.alloc [.c (.i 0),.c (.i 0),.c (.i 0),.c (.i 0),.c (.i 0),.c (.i 0)]),tN 6 8 41] (.seq (rQ [dA 42 6 8,c1 43 126 42,nN 44 43,iv 45 44,g8 45 false 46 4,ig 45 false 47 (.sla 1 6 (.t 3) (.t 46)),gA 45 false 48 0 8,hA 45 false 49 48,ig 45 false 50 (.call 85 [.t 47,.t 49]),pT 51 45 50] (cI 51 (rR [bA 2 false]))) (rS [iv 52 4,fA 53 0 8,lA 54 53,ia 55 (.ida 1 6 (.t 3) (.t 52)),tS 55 54] (.reg [iv 56 4,pA 57 56 1,iv 4 57]))))) (.reg [pA 58 38 1,iv 38 58]))))))))) (.reg [pA 59 22 1,iv 22 59])))))) (rR [bA 2 true])))))) [.t 2]:=yA none Tryz.func79 (by kernel_rfl)
theorem yfu : Has Tryz.prog 85 9 (rS [bA 4 false] (rR [iv 5 0,iv 6 1,c2 7 133 5 6,oI 8 .geq 7 0,iv 4 8])) [.t 4]:=yA none Tryz.func85 (by kernel_rfl)
def yiq : SC:=rS [mA 4 0] (rS [iv 5 1,iv 6 0,nA 7 6,oA 8 .sub 5 7,iv 1 8] (iS [iv 9 1,oI 10 .lss 9 0] 10 (rR [mA 4 (-1)]) (rR [iv 11 1,iv 4 11])))
theorem ynd : Has Tryz.prog 87 12 yiq [.t 4]:=yA none Tryz.func87 (by kernel_rfl)
theorem yqV : Has Tryz.prog 88 12 (rS [bX 2 10 0,mA 4 0] (rS [fA 5 9 2,lA 6 5,iv 7 1,c2 8 16 6 7,iv 1 8] (iS [iv 9 1,oI 10 .lss 9 0] 10 (rR [mA 4 (-1)]) (rR [iv 11 1,iv 4 11])))) [.t 4]:=yA none Tryz.func88 (by kernel_rfl)
def yir : SC:=rS [mA 4 0] (rS [iv 5 1,iv 6 0,nA 7 6,oA 8 .sub 5 7,iv 1 8] (iS [iv 9 1,oI 10 .lss 9 0] 10 (rR [mA 4 (-1)]) (rR [iv 11 1,iv 4 11])))
theorem ynK : Has Tryz.prog 89 12 yir [.t 4]:=yA none Tryz.func89 (by kernel_rfl)
theorem ypT : Has Tryz.prog 90 27 (rS [mA 4 0] (rS [iv 6 1,iv 7 0,nA 8 7,oA 9 .sub 6 8,iv 1 9] (iS [iv 10 1,oI 11 .lss 10 0] 11 (rR [mA 4 (-1)]) (.seq (rS [mA 5 0] (bL 0 (xS [iv 12 5,iv 13 0,nA 14 13,tA 15 12 14] 15 0 (.seq (.block 1 (rS [iv 18 0,iv 19 5,xA 20 4 18 19,dA 21 4 20,iv 22 1,c2 23 134 21 22,iv 1 23] (rS [iv 24 1,oI 25 .lss 24 0] (cI 25 (rR [mA 4 (-1)]))))) (.reg [iv 16 5,pA 17 16 1,iv 5 17]))))) (rR [iv 26 1,iv 4 26]))))) [.t 4]:=yA none Tryz.func90 (by kernel_rfl)
theorem ypW : Has Tryz.prog 91 12 (rS [bX 2 3 0,mA 4 0] (rS [fA 5 0 2,dA 6 2 5,iv 7 1,c2 8 51 6 7,iv 1 8] (iS [iv 9 1,oI 10 .lss 9 0] 10 (rR [mA 4 (-1)]) (rR [iv 11 1,iv 4 11])))) [.t 4]:=yA none Tryz.func91 (by kernel_rfl)
theorem ynp : Has Tryz.prog 92 27 (rS [mA 4 0] (rS [iv 6 1,iv 7 0,nA 8 7,oA 9 .sub 6 8,iv 1 9] (iS [iv 10 1,oI 11 .lss 10 0] 11 (rR [mA 4 (-1)]) (.seq (rS [mA 5 0] (bL 0 (xS [iv 12 5,iv 13 0,nA 14 13,tA 15 12 14] 15 0 (.seq (.block 1 (rS [iv 18 0,iv 19 5,xA 20 1 18 19,lA 21 20,iv 22 1,c2 23 135 21 22,iv 1 23] (rS [iv 24 1,oI 25 .lss 24 0] (cI 25 (rR [mA 4 (-1)]))))) (.reg [iv 16 5,pA 17 16 1,iv 5 17]))))) (rR [iv 26 1,iv 4 26]))))) [.t 4]:=yA none Tryz.func92 (by kernel_rfl)
theorem ynj : Has Tryz.prog 93 21 (rS [bX 1 2 0,mN 2 6] (rS [bZ 5 6,iv 3 5] (.seq (rS [mA 4 0] (bL 0 (xS [iv 6 4,fA 7 1 1,lA 8 7,nA 9 8,tA 10 6 9] 10 0 (.seq (.block 1 (.reg [iv 13 3,fA 14 1 1,lA 15 14,iv 16 4,xA 17 1 15 16,lA 18 17,aP 19 6 48 13 18,iv 3 19])) (.reg [iv 11 4,pA 12 11 1,iv 4 12]))))) (rR [iv 20 3,iv 2 20])))) [.t 2]:=yA none Tryz.func93 (by kernel_rfl)
theorem yoi : Has Tryz.prog 94 59 (rS [bX 1 2 0,bA 2 false] (rS [dA 7 2 1,c1 8 93 7,iv 3 8] (.seq (rS [mA 4 0] (bL 0 (xS [iv 9 4,fA 10 1 1,lA 11 10,nA 12 11,tA 13 9 12] 13 0 (.seq (.block 1 (rS [fA 16 1 1,lA 17 16,iv 18 4,xA 19 1 17 18,lA 20 19,nA 21 20,oI 22 .eql 21 0] (cI 22 (rR [bA 2 false])))) (.reg [iv 14 4,pA 15 14 1,iv 4 15]))))) (.seq (rS [mA 5 0] (bL 2 (xS [iv 23 5,iv 24 3,nA 25 24,tA 26 23 25,iv 27 26,g8 27 true 28 3,ig 27 true 29 (.len (.t 28)),ig 27 true 30 (.bin .leq (.t 29) (kI 6)),pF 31 27 30] 31 2 (.seq (.block 3 (iS [iv 34 3,iv 35 5,xA 36 6 34 35,dA 37 6 36,c1 38 136 37,nN 39 38] 39 (rR [bA 2 false]) (rS [mA 6 0] (bL 4 (xS [iv 40 6,iv 41 5,tA 42 40 41] 42 4 (.seq (.block 5 (rQ [iv 45 3,iv 46 6,xA 47 6 45 46,fA 48 0 47,lA 49 48,iv 50 3,iv 51 5,xA 52 6 50 51,fA 53 0 52,lA 54 53,oA 55 .eql 49 54] (cI 55 (rR [bA 2 false])))) (.reg [iv 43 6,pA 44 43 1,iv 6 44]))))))) (.reg [iv 32 5,pA 33 32 1,iv 5 33]))))) (rR [iv 56 3,nA 57 56,ia 58 (.call 69 [.t 57,kI 1,kI 6]),iv 2 58]))))) [.t 2]:=yA none Tryz.func94 (by kernel_rfl)
theorem yiu : Has Tryz.prog 95 23 (rS [mN 2 2] (rS [iv 5 0,nA 6 5,ia 7 (.mks 2 16 [.i 0,.i 0] (.t 6) (.t 6)),iv 3 7] (.seq (rS [mA 4 0] (bL 0 (xS [iv 8 4,iv 9 0,nA 10 9,tA 11 8 10] 11 0 (.seq (.block 1 (.reg [iv 14 3,iv 15 4,iv 16 0,iv 17 4,xA 18 2 16 17,dA 19 2 18,c1 20 137 19,xA 21 2 14 15,tN 2 21 20])) (.reg [iv 12 4,pA 13 12 1,iv 4 13]))))) (rR [iv 22 3,iv 2 22])))) [.t 2]:=yA none Tryz.func95 (by kernel_rfl)
theorem ykg : Has Tryz.prog 96 36 (rS [bX 1 10 0,ia 2 (.alloc [.c (.i 0),.c (.i 0),.c (.i 0),.c (.i 0),.c (.i 0),.c (.i 0),.c (.i 0),.c (.i 0),.c (.i 0),.nil 2])] (rS [ia 3 (.alloc [.c (.i 0),.c (.i 0),.c (.i 0),.c (.i 0),.c (.i 0),.c (.i 0),.c (.i 0),.c (.i 0),.c (.i 0),.nil 2])] (rS [fA 4 0 1,lA 5 4,fA 6 0 3,tS 6 5] (rS [fA 7 1 1,lA 8 7,fA 9 1 3,tS 9 8] (rS [fA 10 2 1,lA 11 10,fA 12 2 3,tS 12 11] (rS [fA 13 3 1,lA 14 13,fA 15 3 3,tS 15 14] (rS [fA 16 4 1,lA 17 16,fA 18 4 3,tS 18 17] (rS [fA 19 5 1,lA 20 19,fA 21 5 3,tS 21 20] (rS [fA 22 6 1,lA 23 22,fA 24 6 3,tS 24 23] (rS [fA 25 7 1,lA 26 25,fA 27 7 3,tS 27 26] (rS [fA 28 8 1,lA 29 28,fA 30 8 3,tS 30 29] (rS [fA 31 9 1,lA 32 31,c1 33 27 32,fA 34 9 3,tS 34 33] (rR [dA 35 10 3,tN 10 2 35]))))))))))))) [.cl 2 10]:=yA none Tryz.func96 (by kernel_rfl)
theorem yq2 : Has Tryz.prog 97 20 (rS [bX 1 5 0,ia 2 (.alloc [.c (.i 0),.c (.i 0),.c (.i 0),.c (.i 0),.c (.i 0)])] (rS [ia 3 (.alloc [.c (.i 0),.c (.i 0),.c (.i 0),.c (.i 0),.c (.i 0)])] (rS [fA 4 0 1,lA 5 4,fA 6 0 3,tS 6 5] (rS [fA 7 1 1,lA 8 7,fA 9 1 3,tS 9 8] (rS [fA 10 2 1,lA 11 10,fA 12 2 3,tS 12 11] (rS [fA 13 3 1,lA 14 13,fA 15 3 3,tS 15 14] (rS [fA 16 4 1,lA 17 16,fA 18 4 3,tS 18 17] (rR [dA 19 5 3,tN 5 2 19])))))))) [.cl 2 5]:=yA none Tryz.func97 (by kernel_rfl)
theorem yqZ : Has Tryz.prog 98 14 (rS [bX 1 3 0,ia 2 (.alloc [.c (.i 0),.c (.i 0),.c (.i 0)])] (rS [ia 3 (.alloc [.c (.i 0),.c (.i 0),.c (.i 0)])] (rS [fA 4 0 1,lA 5 4,fA 6 0 3,tS 6 5] (rS [fA 7 1 1,lA 8 7,fA 9 1 3,tS 9 8] (rS [fA 10 2 1,lA 11 10,fA 12 2 3,tS 12 11] (rR [dA 13 3 3,tN 3 2 13])))))) [.cl 2 3]:=yA none Tryz.func98 (by kernel_rfl)
theorem yis : Has Tryz.prog 99 23 (rS [mN 2 2] (rS [iv 5 0,nA 6 5,ia 7 (.mks 2 16 [.i 0,.i 0] (.t 6) (.t 6)),iv 3 7] (.seq (rS [mA 4 0] (bL 0 (xS [iv 8 4,iv 9 0,nA 10 9,tA 11 8 10] 11 0 (.seq (.block 1 (.reg [iv 14 3,iv 15 4,iv 16 0,iv 17 4,xA 18 2 16 17,dA 19 2 18,c1 20 138 19,xA 21 2 14 15,tN 2 21 20])) (.reg [iv 12 4,pA 13 12 1,iv 4 13]))))) (rR [iv 22 3,iv 2 22])))) [.t 2]:=yA none Tryz.func99 (by kernel_rfl)
theorem yqv : Has Tryz.prog 100 11 (rS [bX 1 2 0,ia 2 (.alloc [.c (.b false),.c (.i 0)])] (rS [ia 3 (.alloc [.c (.b false),.c (.i 0)])] (rS [fA 4 0 1,lA 5 4,fA 6 0 3,tS 6 5] (rS [fA 7 1 1,lA 8 7,fA 9 1 3,tS 9 8] (rR [dA 10 2 3,tN 2 2 10]))))) [.cl 2 2]:=yA none Tryz.func100 (by kernel_rfl)
theorem yiL : Has Tryz.prog 101 23 (rS [mN 2 4] (rS [iv 5 0,nA 6 5,ia 7 (.mks 4 48 [.b false,.sl 1 [],.i 0,.i 0] (.t 6) (.t 6)),iv 3 7] (.seq (rS [mA 4 0] (bL 0 (xS [iv 8 4,iv 9 0,nA 10 9,tA 11 8 10] 11 0 (.seq (.block 1 (.reg [iv 14 3,iv 15 4,iv 16 0,iv 17 4,xA 18 4 16 17,dA 19 4 18,c1 20 139 19,xA 21 4 14 15,tN 4 21 20])) (.reg [iv 12 4,pA 13 12 1,iv 4 13]))))) (rR [iv 22 3,iv 2 22])))) [.t 2]:=yA none Tryz.func101 (by kernel_rfl)
theorem yiQ : Has Tryz.prog 102 12 (rS [bX 1 3 0,ia 2 (.alloc [.c (.b false),.nil 1,.c (.i 0)])] (rS [ia 3 (.alloc [.c (.b false),.nil 1,.c (.i 0)])] (rS [fA 4 0 1,dA 5 2 4,c1 6 58 5,fA 7 0 3,tN 2 7 6] (rS [fA 8 2 1,lA 9 8,fA 10 2 3,tS 10 9] (rR [dA 11 3 3,tN 3 2 11]))))) [.cl 2 3]:=yA none Tryz.func102 (by kernel_rfl)
theorem yim : Has Tryz.prog 103 23 (rS [mN 2 1] (rS [iv 5 0,nA 6 5,ia 7 (.mks 1 24 [.sl 6 []] (.t 6) (.t 6)),iv 3 7] (.seq (rS [mA 4 0] (bL 0 (xS [iv 8 4,iv 9 0,nA 10 9,tA 11 8 10] 11 0 (.seq (.block 1 (.reg [iv 14 3,iv 15 4,iv 16 0,iv 17 4,xA 18 1 16 17,lA 19 18,c1 20 140 19,xA 21 1 14 15,tS 21 20])) (.reg [iv 12 4,pA 13 12 1,iv 4 13]))))) (rR [iv 22 3,iv 2 22])))) [.t 2]:=yA none Tryz.func103 (by kernel_rfl)
theorem yoM : Has Tryz.prog 104 18 (rS [bX 1 2 0,mN 2 6] (rS [mN 3 6] (.seq (rS [fA 6 1 1,lA 7 6,nA 8 7,mA 9 0] (bL 0 (rS [tA 10 9 8] (.seq (cX 10 0) (.seq (.block 1 (rS [xA 11 1 7 9,lA 12 11,iv 5 12] (.reg [iv 13 3,iv 14 5,aP 15 6 48 13 14,iv 3 15]))) (.reg [pA 16 9 1,iv 9 16])))))) (rR [iv 17 3,iv 2 17])))) [.t 2]:=yA none Tryz.func104 (by kernel_rfl)
theorem ynO : Has Tryz.prog 105 27 (rS [bA 4 false] (iS [iv 6 0,nA 7 6,iv 8 1,nA 9 8,oA 10 .neq 7 9] 10 (rR [bA 4 false]) (.seq (rS [mA 5 0] (bL 0 (xS [iv 11 5,iv 12 0,nA 13 12,tA 14 11 13] 14 0 (.seq (.block 1 (rQ [iv 17 0,iv 18 5,xA 19 2 17 18,dA 20 2 19,iv 21 1,iv 22 5,xA 23 2 21 22,dA 24 2 23,c2 25 141 20 24,nN 26 25] (cI 26 (rR [bA 4 false])))) (.reg [iv 15 5,pA 16 15 1,iv 5 16]))))) (rR [bA 4 true])))) [.t 4]:=yA none Tryz.func105 (by kernel_rfl)
def ykf : SC:=rS [bX 2 10 0,bX 3 10 1,bA 4 false] (iS [fA 5 0 2,lA 6 5,fA 7 0 3,lA 8 7,oA 9 .neq 6 8] 9 (rR [bA 4 false]) (iS [fA 10 1 2,lA 11 10,fA 12 1 3,lA 13 12,oA 14 .neq 11 13] 14 (rR [bA 4 false]) (iS [fA 15 2 2,lA 16 15,fA 17 2 3,lA 18 17,oA 19 .neq 16 18] 19 (rR [bA 4 false]) (iS [fA 20 3 2,lA 21 20,fA 22 3 3,lA 23 22,oA 24 .neq 21 23] 24 (rR [bA 4 false]) (iS [fA 25 4 2,lA 26 25,fA 27 4 3,lA 28 27,oA 29 .neq 26 28] 29 (rR [bA 4 false]) (iS [fA 30 5 2,lA 31 30,fA 32 5 3,lA 33 32,oA 34 .neq 31 33] 34 (rR [bA 4 false]) (iS [fA 35 6 2,lA 36 35,fA 37 6 3,lA 38 37,oA 39 .neq 36 38] 39 (rR [bA 4 false]) (iS [fA 40 7 2,lA 41 40,fA 42 7 3,lA 43 42,oA 44 .neq 41 43] 44 (rR [bA 4 false]) (iS [fA 45 8 2,lA 46 45,fA 47 8 3,lA 48 47,oA 49 .neq 46 48] 49 (rR [bA 4 false]) (iS [fA 50 9 2,lA 51 50,fA 52 9 3,lA 53 52,c2 54 37 51 53,nN 55 54] 55 (rR [bA 4 false]) (rR [bA 4 true])))))))))))
theorem yq4 : Has Tryz.prog 106 56 ykf [.t 4]:=yA none Tryz.func106 (by kernel_rfl)
def ykd : SC:=rS [bX 2 5 0,bX 3 5 1,bA 4 false] (iS [fA 5 0 2,lA 6 5,fA 7 0 3,lA 8 7,oA 9 .neq 6 8] 9 (rR [bA 4 false]) (iS [fA 10 1 2,lA 11 10,fA 12 1 3,lA 13 12,oA 14 .neq 11 13] 14 (rR [bA 4 false]) (iS [fA 15 2 2,lA 16 15,fA 17 2 3,lA 18 17,oA 19 .neq 16 18] 19 (rR [bA 4 false]) (iS [fA 20 3 2,lA 21 20,fA 22 3 3,lA 23 22,oA 24 .neq 21 23] 24 (rR [bA 4 false]) (iS [fA 25 4 2,lA 26 25,fA 27 4 3,lA 28 27,oA 29 .neq 26 28] 29 (rR [bA 4 false]) (rR [bA 4 true]))))))
theorem yqK : Has Tryz.prog 107 30 ykd [.t 4]:=yA none Tryz.func107 (by kernel_rfl)
def yjW : SC:=rS [bX 2 3 0,bX 3 3 1,bA 4 false] (iS [fA 5 0 2,lA 6 5,fA 7 0 3,lA 8 7,oA 9 .neq 6 8] 9 (rR [bA 4 false]) (iS [fA 10 1 2,lA 11 10,fA 12 1 3,lA 13 12,oA 14 .neq 11 13] 14 (rR [bA 4 false]) (iS [fA 15 2 2,lA 16 15,fA 17 2 3,lA 18 17,oA 19 .neq 16 18] 19 (rR [bA 4 false]) (rR [bA 4 true]))))
theorem yqs : Has Tryz.prog 108 20 yjW [.t 4]:=yA none Tryz.func108 (by kernel_rfl)
theorem ynE : Has Tryz.prog 109 27 (rS [bA 4 false] (iS [iv 6 0,nA 7 6,iv 8 1,nA 9 8,oA 10 .neq 7 9] 10 (rR [bA 4 false]) (.seq (rS [mA 5 0] (bL 0 (xS [iv 11 5,iv 12 0,nA 13 12,tA 14 11 13] 14 0 (.seq (.block 1 (rQ [iv 17 0,iv 18 5,xA 19 2 17 18,dA 20 2 19,iv 21 1,iv 22 5,xA 23 2 21 22,dA 24 2 23,c2 25 142 20 24,nN 26 25] (cI 26 (rR [bA 4 false])))) (.reg [iv 15 5,pA 16 15 1,iv 5 16]))))) (rR [bA 4 true])))) [.t 4]:=yA none Tryz.func109 (by kernel_rfl)
def yj6 : SC:=rS [bX 2 2 0,bX 3 2 1,bA 4 false] (iS [fA 5 0 2,lA 6 5,fA 7 0 3,lA 8 7,ia 9 (.beq true (.t 6) (.t 8))] 9 (rR [bA 4 false]) (iS [fA 10 1 2,lA 11 10,fA 12 1 3,lA 13 12,oA 14 .neq 11 13] 14 (rR [bA 4 false]) (rR [bA 4 true])))
theorem yqu : Has Tryz.prog 110 15 yj6 [.t 4]:=yA none Tryz.func110 (by kernel_rfl)
theorem yoS : Has Tryz.prog 111 27 (rS [bA 4 false] (iS [iv 6 0,nA 7 6,iv 8 1,nA 9 8,oA 10 .neq 7 9] 10 (rR [bA 4 false]) (.seq (rS [mA 5 0] (bL 0 (xS [iv 11 5,iv 12 0,nA 13 12,tA 14 11 13] 14 0 (.seq (.block 1 (rQ [iv 17 0,iv 18 5,xA 19 4 17 18,dA 20 4 19,iv 21 1,iv 22 5,xA 23 4 21 22,dA 24 4 23,c2 25 143 20 24,nN 26 25] (cI 26 (rR [bA 4 false])))) (.reg [iv 15 5,pA 16 15 1,iv 5 16]))))) (rR [bA 4 true])))) [.t 4]:=yA none Tryz.func111 (by kernel_rfl)
def yiH : SC:=rS [bX 2 3 0,bX 3 3 1,bA 4 false] (iS [fA 5 0 2,dA 6 2 5,fA 7 0 3,dA 8 2 7,c2 9 66 6 8,nN 10 9] 10 (rR [bA 4 false]) (iS [fA 11 2 2,lA 12 11,fA 13 2 3,lA 14 13,oA 15 .neq 12 14] 15 (rR [bA 4 false]) (rR [bA 4 true])))
theorem yoz : Has Tryz.prog 112 16 yiH [.t 4]:=yA none Tryz.func112 (by kernel_rfl)
theorem ync : Has Tryz.prog 113 27 (rS [bA 4 false] (iS [iv 6 0,nA 7 6,iv 8 1,nA 9 8,oA 10 .neq 7 9] 10 (rR [bA 4 false]) (.seq (rS [mA 5 0] (bL 0 (xS [iv 11 5,iv 12 0,nA 13 12,tA 14 11 13] 14 0 (.seq (.block 1 (rQ [iv 17 0,iv 18 5,xA 19 1 17 18,lA 20 19,iv 21 1,iv 22 5,xA 23 1 21 22,lA 24 23,c2 25 144 20 24,nN 26 25] (cI 26 (rR [bA 4 false])))) (.reg [iv 15 5,pA 16 15 1,iv 5 16]))))) (rR [bA 4 true])))) [.t 4]:=yA none Tryz.func113 (by kernel_rfl)
theorem yqo : Has Tryz.prog 126 31 (rS [bX 1 6 0,bA 2 false] (rR [fA 3 0 1,lA 4 3,ia 5 (.call 77 [.t 4,kI 1,kI 9999]),iv 6 5,gA 6 true 7 1 1,hA 6 true 8 7,ig 6 true 9 (.call 77 [.t 8,kI 1,kI 200]),pF 10 6 9,iv 11 10,gA 11 true 12 2 1,hA 11 true 13 12,ig 11 true 14 (.call 77 [.t 13,kI 1,kI 30]),pF 15 11 14,iv 16 15,gA 16 true 17 3 1,hA 16 true 18 17,ig 16 true 19 (.call 77 [.t 18,kI 1,kI 100]),pF 20 16 19,iv 21 20,gA 21 true 22 4 1,hA 21 true 23 22,ig 21 true 24 (.call 77 [.t 23,kI 1,kI 50]),pF 25 21 24,iv 26 25,gA 26 true 27 5 1,hA 26 true 28 27,ig 26 true 29 (.call 77 [.t 28,kI 0,kI 2]),pF 30 26 29,iv 2 30])) [.t 2]:=yA none Tryz.func126 (by kernel_rfl)
theorem ygi : Has Tryz.prog 133 19 (rS [mA 4 0] (.seq (rS [iv 6 0,nA 7 6,mA 8 0] (bL 0 (rS [tA 9 8 7] (.seq (cX 9 0) (.seq (.block 1 (rS [iv 10 8,iv 5 10] (rS [iv 11 1,iv 12 0,iv 13 5,xA 14 1 12 13,lA 15 14,oA 16 .eql 11 15] (cI 16 (rR [iv 17 5,iv 4 17]))))) (.reg [pA 18 8 1,iv 8 18])))))) (rR [mA 4 (-1)]))) [.t 4]:=yA none Tryz.func133 (by kernel_rfl)
theorem yrq : Has Tryz.prog 134 12 (rS [bX 2 4 0,mA 4 0] (rS [fA 5 0 2,dA 6 2 5,iv 7 1,c2 8 51 6 7,iv 1 8] (iS [iv 9 1,oI 10 .lss 9 0] 10 (rR [mA 4 (-1)]) (rR [iv 11 1,iv 4 11])))) [.t 4]:=yA none Tryz.func134 (by kernel_rfl)
def yi3 : SC:=rS [mA 4 0] (rS [iv 5 1,iv 6 0,nA 7 6,oA 8 .sub 5 7,iv 1 8] (iS [iv 9 1,oI 10 .lss 9 0] 10 (rR [mA 4 (-1)]) (rR [iv 11 1,iv 4 11])))
theorem yoU : Has Tryz.prog 135 12 yi3 [.t 4]:=yA none Tryz.func135 (by kernel_rfl)
theorem yrf : Has Tryz.prog 136 31 (rS [bX 1 6 0,bA 2 false] (rR [fA 3 0 1,lA 4 3,ia 5 (.call 69 [.t 4,kI 1,kI 9999]),iv 6 5,gA 6 true 7 1 1,hA 6 true 8 7,ig 6 true 9 (.call 69 [.t 8,kI 1,kI 200]),pF 10 6 9,iv 11 10,gA 11 true 12 2 1,hA 11 true 13 12,ig 11 true 14 (.call 69 [.t 13,kI 1,kI 30]),pF 15 11 14,iv 16 15,gA 16 true 17 3 1,hA 16 true 18 17,ig 16 true 19 (.call 69 [.t 18,kI 1,kI 100]),pF 20 16 19,iv 21 20,gA 21 true 22 4 1,hA 21 true 23 22,ig 21 true 24 (.call 69 [.t 23,kI 1,kI 50]),pF 25 21 24,iv 26 25,gA 26 true 27 5 1,hA 26 true 28 27,ig 26 true 29 (.call 69 [.t 28,kI 0,kI 2]),pF 30 26 29,iv 2 30])) [.t 2]:=yA none Tryz.func136 (by kernel_rfl)
theorem ypj : Has Tryz.prog 137 11 (rS [bX 1 2 0,ia 2 (.alloc [.c (.i 0),.c (.i 0)])] (rS [ia 3 (.alloc [.c (.i 0),.c (.i 0)])] (rS [fA 4 0 1,lA 5 4,fA 6 0 3,tS 6 5] (rS [fA 7 1 1,lA 8 7,fA 9 1 3,tS 9 8] (rR [dA 10 2 3,tN 2 2 10]))))) [.cl 2 2]:=yA none Tryz.func137 (by kernel_rfl)
theorem yqk : Has Tryz.prog 138 11 (rS [bX 1 2 0,ia 2 (.alloc [.c (.i 0),.c (.i 0)])] (rS [ia 3 (.alloc [.c (.i 0),.c (.i 0)])] (rS [fA 4 0 1,lA 5 4,fA 6 0 3,tS 6 5] (rS [fA 7 1 1,lA 8 7,fA 9 1 3,tS 9 8] (rR [dA 10 2 3,tN 2 2 10]))))) [.cl 2 2]:=yA none Tryz.func138 (by kernel_rfl)
theorem yjU : Has Tryz.prog 139 15 (rS [bX 1 4 0,ia 2 (.alloc [.c (.b false),.nil 1,.c (.i 0),.c (.i 0)])] (rS [ia 3 (.alloc [.c (.b false),.nil 1,.c (.i 0),.c (.i 0)])] (rS [fA 4 0 1,dA 5 2 4,c1 6 58 5,fA 7 0 3,tN 2 7 6] (rS [fA 8 2 1,lA 9 8,fA 10 2 3,tS 10 9] (rS [fA 11 3 1,lA 12 11,fA 13 3 3,tS 13 12] (rR [dA 14 4 3,tN 4 2 14])))))) [.cl 2 4]:=yA none Tryz.func139 (by kernel_rfl)
theorem yiM : Has Tryz.prog 140 23 (rS [mN 2 6] (rS [iv 5 0,nA 6 5,ia 7 (.mks 6 48 [.i 0,.i 0,.i 0,.i 0,.i 0,.i 0] (.t 6) (.t 6)),iv 3 7] (.seq (rS [mA 4 0] (bL 0 (xS [iv 8 4,iv 9 0,nA 10 9,tA 11 8 10] 11 0 (.seq (.block 1 (.reg [iv 14 3,iv 15 4,iv 16 0,iv 17 4,xA 18 6 16 17,dA 19 6 18,c1 20 171 19,xA 21 6 14 15,tN 6 21 20])) (.reg [iv 12 4,pA 13 12 1,iv 4 13]))))) (rR [iv 22 3,iv 2 22])))) [.t 2]:=yA none Tryz.func140 (by kernel_rfl)
def yiZ : SC:=rS [bX 2 2 0,bX 3 2 1,bA 4 false] (iS [fA 5 0 2,lA 6 5,fA 7 0 3,lA 8 7,oA 9 .neq 6 8] 9 (rR [bA 4 false]) (iS [fA 10 1 2,lA 11 10,fA 12 1 3,lA 13 12,oA 14 .neq 11 13] 14 (rR [bA 4 false]) (rR [bA 4 true])))
theorem yoo : Has Tryz.prog 141 15 yiZ [.t 4]:=yA none Tryz.func141 (by kernel_rfl)
def yiD : SC:=rS [bX 2 2 0,bX 3 2 1,bA 4 false] (iS [fA 5 0 2,lA 6 5,fA 7 0 3,lA 8 7,oA 9 .neq 6 8] 9 (rR [bA 4 false]) (iS [fA 10 1 2,lA 11 10,fA 12 1 3,lA 13 12,oA 14 .neq 11 13] 14 (rR [bA 4 false]) (rR [bA 4 true])))
theorem ypk : Has Tryz.prog 142 15 yiD [.t 4]:=yA none Tryz.func142 (by kernel_rfl)
def ykh : SC:=rS [bX 2 4 0,bX 3 4 1,bA 4 false] (iS [fA 5 0 2,dA 6 2 5,fA 7 0 3,dA 8 2 7,c2 9 66 6 8,nN 10 9] 10 (rR [bA 4 false]) (iS [fA 11 2 2,lA 12 11,fA 13 2 3,lA 14 13,oA 15 .neq 12 14] 15 (rR [bA 4 false]) (iS [fA 16 3 2,lA 17 16,fA 18 3 3,lA 19 18,oA 20 .neq 17 19] 20 (rR [bA 4 false]) (rR [bA 4 true]))))
theorem yri : Has Tryz.prog 143 21 ykh [.t 4]:=yA none Tryz.func143 (by kernel_rfl)
theorem yoL : Has Tryz.prog 144 27 (rS [bA 4 false] (iS [iv 6 0,nA 7 6,iv 8 1,nA 9 8,oA 10 .neq 7 9] 10 (rR [bA 4 false]) (.seq (rS [mA 5 0] (bL 0 (xS [iv 11 5,iv 12 0,nA 13 12,tA 14 11 13] 14 0 (.seq (.block 1 (rQ [iv 17 0,iv 18 5,xA 19 6 17 18,dA 20 6 19,iv 21 1,iv 22 5,xA 23 6 21 22,dA 24 6 23,c2 25 172 20 24,nN 26 25] (cI 26 (rR [bA 4 false])))) (.reg [iv 15 5,pA 16 15 1,iv 5 16]))))) (rR [bA 4 true])))) [.t 4]:=yA none Tryz.func144 (by kernel_rfl)
theorem yq9 : Has Tryz.prog 171 23 (rS [bX 1 6 0,ia 2 (.alloc [.c (.i 0),.c (.i 0),.c (.i 0),.c (.i 0),.c (.i 0),.c (.i 0)])] (rS [ia 3 (.alloc [.c (.i 0),.c (.i 0),.c (.i 0),.c (.i 0),.c (.i 0),.c (.i 0)])] (rS [fA 4 0 1,lA 5 4,fA 6 0 3,tS 6 5] (rS [fA 7 1 1,lA 8 7,fA 9 1 3,tS 9 8] (rS [fA 10 2 1,lA 11 10,fA 12 2 3,tS 12 11] (rS [fA 13 3 1,lA 14 13,fA 15 3 3,tS 15 14] (rS [fA 16 4 1,lA 17 16,fA 18 4 3,tS 18 17] (rS [fA 19 5 1,lA 20 19,fA 21 5 3,tS 21 20] (rR [dA 22 6 3,tN 6 2 22]))))))))) [.cl 2 6]:=yA none Tryz.func171 (by kernel_rfl)
def yj8 : SC:=rS [bX 2 6 0,bX 3 6 1,bA 4 false] (iS [fA 5 0 2,lA 6 5,fA 7 0 3,lA 8 7,oA 9 .neq 6 8] 9 (rR [bA 4 false]) (iS [fA 10 1 2,lA 11 10,fA 12 1 3,lA 13 12,oA 14 .neq 11 13] 14 (rR [bA 4 false]) (iS [fA 15 2 2,lA 16 15,fA 17 2 3,lA 18 17,oA 19 .neq 16 18] 19 (rR [bA 4 false]) (iS [fA 20 3 2,lA 21 20,fA 22 3 3,lA 23 22,oA 24 .neq 21 23] 24 (rR [bA 4 false]) (iS [fA 25 4 2,lA 26 25,fA 27 4 3,lA 28 27,oA 29 .neq 26 28] 29 (rR [bA 4 false]) (iS [fA 30 5 2,lA 31 30,fA 32 5 3,lA 33 32,oA 34 .neq 31 33] 34 (rR [bA 4 false]) (rR [bA 4 true])))))))
theorem yq1 : Has Tryz.prog 172 35 yj8 [.t 4]:=yA none Tryz.func172 (by kernel_rfl)
def inRange (n a b : Int) : Bool:=decide (a ≤ n) && decide (n ≤ b)
theorem yC (n a b : Int) : yB Tryz.prog 77 [.c (.i n),.c (.i a),.c (.i b)] (.c (.b (inRange n a b))):=by
 refine yh yot ?_
 simp -dsimp -implicitDefEqProofs [yi1,inRange]
 exact ⟨fun h=>by simp [h],fun h=>by simp [Int.not_le.2 h]⟩
theorem yD (n a b : Int) : yB Tryz.prog 69 [.c (.i n),.c (.i a),.c (.i b)] (.c (.b (inRange n a b))):=by
 refine yh ysx ?_
 simp -dsimp -implicitDefEqProofs [ylw,inRange]
 exact ⟨fun h=>by simp [h],fun h=>by simp [Int.not_le.2 h]⟩
structure Entry where
 From : Int
 To : Int
 Amount : Int
 Time : Int
 Why : Int
 deriving Inhabited,DecidableEq
@[simp] def Entry.enc (e : Entry) : List C:=[.i e.From,.i e.To,.i e.Amount,.i e.Time,.i e.Why]
theorem yL {α : Type} {p : α → Bool} {l : List α} {k : Nat} {e : α} (he : l[k]? = some e) (h : ∀ x ∈ l.take k,p x = true) (hp : p e = true) : ∀ x ∈ l.take (k + 1),p x = true:=by
 intro x hx
 rw [List.take_succ_eq_append_getElem (List.getElem?_eq_some_iff.1 he).1] at hx
 rcases List.mem_append.1 hx with h1 | h1
 ·exact h x h1
 ·rw [List.mem_singleton] at h1
  have:=(List.getElem?_eq_some_iff.1 he).2
  rw [h1,this]; exact hp
theorem yX {α : Type} {p : α → Bool} {l : List α} {k : Nat} (hk : l.length ≤ k) (h : ∀ x ∈ l.take k,p x = true) : l.all p = true:=by
 rw [List.take_of_length_le hk] at h
 exact List.all_eq_true.2 h
theorem all_false {α : Type} {p : α → Bool} {l : List α} {k : Nat} {e : α} (he : l[k]? = some e) (hp : p e = false) : l.all p = false:=by
 rw [List.all_eq_false]
 exact ⟨e,List.mem_of_getElem? he,by simp [hp]⟩
theorem yG {k n : Nat} (h : k < n) : ((k : Int) < (n : Int)) = True:=by simp [h]
theorem yaB {k n : Nat} (h : n ≤ k) : ((k : Int) < (n : Int)) = False:=by simp [h]
structure Way where
 Long : Int
 Bed : Int
 deriving DecidableEq,Inhabited
@[simp] def Way.enc (e : Way) : List C:=[.i e.Long,.i e.Bed]
theorem yxc (e : Way) : yB Tryz.prog 55 [.agg (e.enc.map .c)] (.agg (e.enc.map .c)):=by
 refine yh ys1 ?_
 simp -dsimp -implicitDefEqProofs
theorem yrC (e : Entry) : yB Tryz.prog 59 [.agg (e.enc.map .c)] (.agg (e.enc.map .c)):=by
 refine yh ypm ?_
 simp -dsimp -implicitDefEqProofs
theorem yxo (e f : Entry) : yB Tryz.prog 67 [.agg (e.enc.map .c),.agg (f.enc.map .c)] (.c (.b (decide (e = f)))):=by
 refine yh yn0 ?_
 obtain ⟨a1,a2,a3,a4,a5⟩:=e
 obtain ⟨b1,b2,b3,b4,b5⟩:=f
 simp -dsimp -implicitDefEqProofs [yja,Entry.mk.injEq]
 refine ⟨fun h=>by simp [h],fun h=>⟨fun h1=>by simp [h1],fun h1=>⟨fun h2=>by simp [h2],fun h2=>⟨fun h3=>by simp [h3],fun h3=>⟨fun h4=>by simp [h4],fun h4=>by simp [h,h1,h2,h3,h4]⟩⟩⟩⟩⟩
def partly {α : Type} (f : α → List C) (z : List C) (es : List α) (k : Nat) : List (List C):=(es.take k).map f ++ List.replicate (es.length - k) z
theorem yak {α : Type} {f : α → List C} {z : List C} {es : List α} {k : Nat} (h : k ≤ es.length) : (partly f z es k).length = es.length:=by
 simp [partly]; omega
theorem yab {α : Type} {f : α → List C} {z : List C} {es : List α} : partly f z es 0 = List.replicate es.length z:=by simp [partly]
theorem yam {α : Type} {f : α → List C} {z : List C} {es : List α} {k : Nat} (h : es.length ≤ k) : partly f z es k = es.map f:=by
 simp [partly,List.take_of_length_le h,Nat.sub_eq_zero_of_le h]
theorem yaj {α : Type} {f : α → List C} {z : List C} {es : List α} {k : Nat} {e : α} (h : es[k]? = some e) : (partly f z es k).set k (f e) = partly f z es (k + 1):=by
 have hk:=(List.getElem?_eq_some_iff.1 h).1
 have he:=(List.getElem?_eq_some_iff.1 h).2
 unfold partly
 rw [List.set_append_right _ _ (by simp; omega)]
 have h1 : ((es.take k).map f).length = k:=by simp; omega
 rw [h1,Nat.sub_self,show es.length - k = (es.length - (k + 1)) + 1 by omega,List.replicate_succ,List.set_cons_zero,List.take_succ_eq_append_getElem hk,he]
 simp
theorem ydK {α : Type} {f : α → List C} {z : List C} {es : List α} {k n : Nat} (hz : z.length = n) (hf : ∀ e,(f e).length = n) (h : k < es.length) : ((partly f z es k)[k]?.getD []).length = n:=by
 unfold partly
 rw [List.getElem?_append_right (by simp; omega)]
 have h1 : ((es.take k).map f).length = k:=by simp; omega
 rw [h1,Nat.sub_self,List.getElem?_replicate,if_pos (by omega)]
 exact hz
theorem yav {α : Type} {f : α → List C} {z : List C} {es : List α} {k n : Nat} (hz : z.length = n) (h : k < es.length) : ((partly f z es k)[k]?.getD []).drop n = []:=by
 apply List.drop_eq_nil_of_le
 unfold partly
 rw [List.getElem?_append_right (by simp; omega)]
 have h1 : ((es.take k).map f).length = k:=by simp; omega
 rw [h1,Nat.sub_self,List.getElem?_replicate,if_pos (by omega)]
 simp [hz]
theorem yw {k n : Nat} (hk : k < n) (h : n ≤ maxLen) : inI ((k : Int) + 1):=by unfold maxLen at h; unfold inI; omega
def szS (n : Nat) (left : Int) : Int:=if left - n < 0 then -1 else left - n
theorem yvG (es : List Entry) (hl : es.length ≤ 1048576) : yB Tryz.prog 30 [.c (.sl 5 (es.map Entry.enc))] (.c (.sl 5 (es.map Entry.enc))):=by
 refine yh yiv ?_
 simp -dsimp -implicitDefEqProofs
 intro hlen
 refine ⟨by omega,?_⟩
 refine yg (ι:=Nat) (fun k=>k ≤ es.length) (fun k=>yO [(0,.c (.sl 5 (es.map Entry.enc))),(3,.own 7 5 es.length),(4,.c (.i k))] [(7,.row 5 (partly Entry.enc [.i 0,.i 0,.i 0,.i 0,.i 0] es k))]) (fun k=>es.length - k) 0 (by simp) (by apply yj <;> simp [yab]) ?_
 rintro k hk
 rcases Nat.lt_or_ge k es.length with hlt | hge
 ·obtain ⟨e,he⟩ : ∃ e,es[k]? = some e:=⟨_,List.getElem?_eq_getElem hlt⟩
  have hs:=yaj (f:=Entry.enc) (z:=[.i 0,.i 0,.i 0,.i 0,.i 0]) he
  have hd:=yav (f:=Entry.enc) (z:=[.i 0,.i 0,.i 0,.i 0,.i 0]) (n:=5) rfl hlt
  simp only [Entry.enc] at hs
  simp -dsimp -implicitDefEqProofs [he,yG hlt]
  refine fun _=>yaP (yrC e) (by simp) rfl ?_
  simp -dsimp -implicitDefEqProofs [yG hlt,yak hk,hd,hs]
  refine ⟨hlt,yw hlt hlen,k + 1,hlt,by omega,by apply yj <;> simp⟩
 ·simp -dsimp -implicitDefEqProofs [yaB hge]
  intro _
  rw [yam hge,List.take_of_length_le (by simp)]
theorem yaR {α : Type} {l m : List α} {k : Nat} {e f : α} (he : l[k]? = some e) (hf : m[k]? = some f) (h : l.take k = m.take k) (hef : e = f) : l.take (k + 1) = m.take (k + 1):=by
 rw [List.take_succ,List.take_succ,he,hf,h,hef]
theorem ybG {α : Type} {l m : List α} {k : Nat} {e f : α} (he : l[k]? = some e) (hf : m[k]? = some f) (hef : e ≠ f) : l ≠ m:=by
 rintro rfl
 rw [he] at hf
 exact hef (Option.some.inj hf)
theorem ybf {α : Type} {l m : List α} {k : Nat} (hl : l.length ≤ k) (hm : l.length = m.length) (h : l.take k = m.take k) : l = m:=by
 rwa [List.take_of_length_le hl,List.take_of_length_le (by omega)] at h
theorem ywt (es fs : List Entry) : yB Tryz.prog 40 [.c (.sl 5 (es.map Entry.enc)),.c (.sl 5 (fs.map Entry.enc))] (.c (.b (decide (es = fs)))):=by
 refine yh ynh ?_
 simp -dsimp -implicitDefEqProofs
 intro hl1 hl2
 refine ⟨fun h e=>h (by rw [e]),fun hlen=>?_⟩
 have hlen' : es.length = fs.length:=by omega
 refine yg (ι:=Nat) (fun k=>k ≤ es.length ∧ es.take k = fs.take k) (fun k=>yO [(0,.c (.sl 5 (es.map Entry.enc))),(1,.c (.sl 5 (fs.map Entry.enc))),(5,.c (.i k))] []) (fun k=>es.length - k) 0 (by simp) (by apply yj <;> simp) ?_
 rintro k ⟨hk,htk⟩
 rcases Nat.lt_or_ge k es.length with hlt | hge
 ·obtain ⟨e,he⟩ : ∃ e,es[k]? = some e:=⟨_,List.getElem?_eq_getElem hlt⟩
  obtain ⟨f,hf⟩ : ∃ f,fs[k]? = some f:=⟨_,List.getElem?_eq_getElem (by omega)⟩
  simp -dsimp -implicitDefEqProofs [he,hf,yG hlt,yG (hlen' ▸ hlt)]
  intro _
  refine yaC (yxo e f) ?_
  simp -dsimp -implicitDefEqProofs
  refine ⟨fun h=>ybG he hf h,fun h=>⟨yw hlt hl1,k + 1,⟨hlt,yaR he hf htk h⟩,by omega,by apply yj <;> simp⟩⟩
 ·simp -dsimp -implicitDefEqProofs [yaB hge]
  intro _
  exact ybf hge hlen' htk
abbrev yJ (n : Int) : List C:=[.i n]
theorem yz0 (es : List Int) (left : Int) (h0 : 0 ≤ left) (h1 : left ≤ 1048576) : yB Tryz.prog 17 [.c (.sl 1 (es.map yJ)),.c (.i left)] (.c (.i (szS es.length left))):=by
 refine yh yrh ?_
 simp -dsimp -implicitDefEqProofs [yj7,szS]
 intro hl
 unfold maxLen at hl
 refine ⟨by unfold inI; omega,fun h=>?_,fun h=>?_⟩ <;> intros <;> omega
theorem ylC (es : List Int) (hl : es.length ≤ 1048576) : yB Tryz.prog 28 [.c (.sl 1 (es.map yJ))] (.c (.sl 1 (es.map yJ))):=by
 refine yh yjT ?_
 simp -dsimp -implicitDefEqProofs
 intro hlen
 refine ⟨by omega,?_⟩
 refine yg (ι:=Nat) (fun k=>k ≤ es.length) (fun k=>yO [(0,.c (.sl 1 (es.map yJ))),(3,.own 7 1 es.length),(4,.c (.i k))] [(7,.row 1 (partly yJ [.i 0] es k))]) (fun k=>es.length - k) 0 (by simp) (by apply yj <;> simp [yab]) ?_
 rintro k hk
 rcases Nat.lt_or_ge k es.length with hlt | hge
 ·obtain ⟨e,he⟩ : ∃ e,es[k]? = some e:=⟨_,List.getElem?_eq_getElem hlt⟩
  have hs:=yaj (f:=yJ) (z:=[.i 0]) he
  have hd : ((partly yJ [.i 0] es k)[k]?.getD []).set 0 (.i e) = [.i e]:=by
   have:=ydK (f:=yJ) (z:=[.i 0]) (n:=1) rfl (fun _=>rfl) hlt
   obtain ⟨x,hx⟩:=List.length_eq_one_iff.1 this
   rw [hx]; rfl
  simp -dsimp -implicitDefEqProofs [he,yG hlt]
  intro _
  rw [hd,show (partly yJ [.i 0] es k).set k [.i e] = partly yJ [.i 0] es (k + 1) from hs]
  exact ⟨by rw [yak hk]; exact hlt,yw hlt hlen,k + 1,hlt,by omega,by apply yj <;> simp⟩
 ·simp -dsimp -implicitDefEqProofs [yaB hge]
  intro _
  rw [yam hge,List.take_of_length_le (by simp)]
theorem ykZ (es fs : List Int) : yB Tryz.prog 38 [.c (.sl 1 (es.map yJ)),.c (.sl 1 (fs.map yJ))] (.c (.b (decide (es = fs)))):=by
 refine yh yqx ?_
 simp -dsimp -implicitDefEqProofs
 intro hl1 hl2
 refine ⟨fun h e=>h (by rw [e]),fun hlen=>?_⟩
 have hlen' : es.length = fs.length:=by omega
 refine yg (ι:=Nat) (fun k=>k ≤ es.length ∧ es.take k = fs.take k) (fun k=>yO [(0,.c (.sl 1 (es.map yJ))),(1,.c (.sl 1 (fs.map yJ))),(5,.c (.i k))] []) (fun k=>es.length - k) 0 (by simp) (by apply yj <;> simp) ?_
 rintro k ⟨hk,htk⟩
 rcases Nat.lt_or_ge k es.length with hlt | hge
 ·obtain ⟨e,he⟩ : ∃ e,es[k]? = some e:=⟨_,List.getElem?_eq_getElem hlt⟩
  obtain ⟨f,hf⟩ : ∃ f,fs[k]? = some f:=⟨_,List.getElem?_eq_getElem (by omega)⟩
  simp -dsimp -implicitDefEqProofs [he,hf,yG hlt,yG (hlen' ▸ hlt)]
  intro _
  refine ⟨fun h=>ybG he hf h,fun h=>⟨yw hlt hl1,k + 1,⟨hlt,yaR he hf htk h⟩,by omega,by apply yj <;> simp⟩⟩
 ·simp -dsimp -implicitDefEqProofs [yaB hge]
  intro _
  exact ybf hge hlen' htk
structure Tariff where
 Base : Int
 PerArea : Int
 PerClass : List Int
 Weights : List Int
 deriving DecidableEq
@[simp] def Tariff.enc (t : Tariff) : List C:=[.i t.Base,.i t.PerArea,.sl 1 (t.PerClass.map yJ),.sl 1 (t.Weights.map yJ)]
def Tariff.small (t : Tariff) : Prop:=t.PerClass.length ≤ 1048576 ∧ t.Weights.length ≤ 1048576
theorem ywB (t : Tariff) (h : t.small) : yB Tryz.prog 29 [.agg (t.enc.map .c)] (.agg (t.enc.map .c)):=by
 refine yh yil ?_
 simp -dsimp -implicitDefEqProofs
 refine yS (ylC t.PerClass h.1) ?_
 simp -dsimp -implicitDefEqProofs
 refine yS (ylC t.Weights h.2) ?_
 simp -dsimp -implicitDefEqProofs
theorem yv1 (t u : Tariff) : yB Tryz.prog 39 [.agg (t.enc.map .c),.agg (u.enc.map .c)] (.c (.b (decide (t = u)))):=by
 refine yh ym8 ?_
 obtain ⟨t1,t2,t3,t4⟩:=t
 obtain ⟨u1,u2,u3,u4⟩:=u
 simp -dsimp -implicitDefEqProofs [yiy,Tariff.mk.injEq]
 refine ⟨fun h=>by simp [h],fun h=>⟨fun h1=>by simp [h1],fun h1=>?_⟩⟩
 refine yc (ykZ t3 u3) ?_
 simp -dsimp -implicitDefEqProofs
 refine ⟨fun h2 _ _ h3=>absurd h3 h2,fun h2=>?_⟩
 refine yc (ykZ t4 u4) ?_
 simp -dsimp -implicitDefEqProofs
 simp [h,h1,h2]
theorem yF {n a b : Int} : inRange n a b = true ↔ a ≤ n ∧ n ≤ b:=by simp [inRange]
theorem ycG {n a b : Int} : inRange n a b = false ↔ n < a ∨ b < n:=by
 simp only [inRange,Bool.and_eq_false_iff,decide_eq_false_iff_not]; omega
def vAt (l : List Int) (k : Nat) : Int:=l[k]?.getD 0
def yR4 (l : List Int) : Nat → Nat
 | 0=>0
 | k + 1=>if vAt l (yR4 l k) < vAt l k then k else yR4 l k
theorem ySk {l : List Int} {k : Nat} : yR4 l (k + 1) = if vAt l (yR4 l k) < vAt l k then k else yR4 l k:=rfl
theorem ySG {l : List Int} (h : 0 < l.length) : ∀ {k : Nat},k ≤ l.length → yR4 l k < l.length
 | 0,_=>h
 | k + 1,hk=>by
  rw [ySk]
  split
  ·omega
  ·exact ySG h (by omega)
def ySX : Nat → List Int → List Int → List Int
 | 0,out,_=>out
 | n + 1,out,rest=>ySX n (out.set (yR4 rest rest.length) (vAt out (yR4 rest rest.length) + 1)) (rest.set (yR4 rest rest.length) (-1))
def quota (t s w : Int) : Int:=(t * w).tdiv s
def remn (t s w : Int) : Int:=(t * w).tmod s
def yR8 (t : Int) (ws : List Int) : Bool:=inRange t 0 1000000000 && decide (1 ≤ ws.length) && decide (ws.length ≤ 12) && ws.all (fun w=>inRange w 0 1000000) && decide (ws.sum ≠ 0)
def ySb (t : Int) (ws : List Int) : Int:=t - (ws.map (quota t ws.sum)).sum
def yR3 (t : Int) (ws : List Int) : List Int:=if yR8 t ws then ySX (ySb t ws).toNat (ws.map (quota t ws.sum)) (ws.map (remn t ws.sum)) else []
structure Picks (t : Int) (ws : List Int) (m : Nat) (out rest : List Int) : Prop where
 lo : out.length = ws.length
 lr : rest.length = ws.length
 all : ySX m out rest = yR3 t ws
 few : m ≤ 12
 rng : ∀ x ∈ out,0 ≤ x ∧ x ≤ 1000000000000100 - m
theorem Picks.next {t : Int} {ws : List Int} {m : Nat} {out rest : List Int} (h : Picks t ws (m + 1) out rest) (hp : 1 ≤ ws.length) :
 Picks t ws m (out.set (yR4 rest ws.length) (vAt out (yR4 rest ws.length) + 1)) (rest.set (yR4 rest ws.length) (-1)):=by
 have hl:=h.lr
 refine ⟨by rw [List.length_set]; exact h.lo,by rw [List.length_set]; exact hl,?_,by have:=h.few; omega,fun x hx=>?_⟩
 ·rw [← h.all,ySX,hl]
 ·have e : ((m + 1 : Nat) : Int) = m + 1:=by simp
  have r:=h.rng
  rw [e] at r
  rcases List.mem_or_eq_of_mem_set hx with hx | rfl
  ·have:=r x hx; omega
  ·have hlt : yR4 rest ws.length < out.length:=by rw [h.lo,← hl]; exact ySG (by omega) (by omega)
   have:=r (vAt out (yR4 rest ws.length)) (by unfold vAt; rw [List.getElem?_eq_getElem hlt]; exact List.getElem_mem hlt)
   omega
def ybm (a : Int) (f : Int → Int) : Int:=if a < 0 then -1 else f a
def yaw {α : Type} (f : α → Int → Int) : List α → Int → Int
 | [],l=>l
 | x :: xs,l=>ybm (f x l) (yaw f xs)
def yeE {α : Type} (f : α → Int → Int) (xs : List α) (l : Int) : Int:=ybm (szS xs.length l) (yaw f xs)
def yey {α : Type} (f : α → Int → Int) (sm : α → Prop) : Prop:=∀ x l,0 ≤ l → l ≤ 1048576 → f x l = -1 ∨ (0 ≤ f x l ∧ f x l ≤ l ∧ sm x)
def ycs {α : Type} (sm : α → Prop) (xs : List α) : Prop:=xs.length ≤ 1048576 ∧ ∀ x ∈ xs,sm x
theorem yK {a : Int} {f : Int → Int} (h : a < 0) : ybm a f = -1:=by simp [ybm,h]
theorem yu {a : Int} {f : Int → Int} (h : 0 ≤ a) : ybm a f = f a:=by simp [ybm,Int.not_lt.2 h]
theorem yhU {α : Type} : yey (fun (xs : List α) l=>szS xs.length l) (ycs fun _ : α=>True):=by
 intro xs l h0 h1
 simp only [szS]
 unfold ycs
 split
 ·exact .inl rfl
 ·exact .inr ⟨by omega,by omega,by omega,fun _ _=>trivial⟩
theorem yzy {α : Type} {f : α → Int → Int} {sm : α → Prop} (h : yey f sm) {x : α} {l : Int} (h0 : 0 ≤ l) (h1 : l ≤ 1048576) (hp : 0 ≤ f x l) : sm x:=by
 rcases h x l h0 h1 with e | ⟨_,_,e⟩
 ·omega
 ·exact e
theorem yin {α : Type} {f : α → Int → Int} {sm : α → Prop} (h : yey f sm) (x : α) {l : Int} (h0 : 0 ≤ l) (h1 : l ≤ 1048576) (hp : 0 ≤ f x l) : f x l ≤ 1048576:=by
 rcases h x l h0 h1 with e | ⟨_,e,_⟩
 ·omega
 ·omega
theorem yrK {α : Type} {f : α → Int → Int} {sm : α → Prop} (h : yey f sm) : ∀ (xs : List α) (l : Int),0 ≤ l → l ≤ 1048576 → yaw f xs l = -1 ∨ (0 ≤ yaw f xs l ∧ yaw f xs l ≤ l ∧ ∀ x ∈ xs,sm x)
 | [],l,h0,h1=>.inr ⟨h0,Int.le_refl _,by simp⟩
 | x :: xs,l,h0,h1=>by
  simp only [yaw]
  rcases h x l h0 h1 with e | ⟨e1,e2,e3⟩
  ·exact .inl (yK (by omega))
  ·rw [yu e1]
   rcases yrK h xs (f x l) e1 (by omega) with e | ⟨e4,e5,e6⟩
   ·exact .inl e
   ·exact .inr ⟨e4,by omega,by simp; exact ⟨e3,e6⟩⟩
theorem ygj {α : Type} {f : α → Int → Int} {sm : α → Prop} (h : yey f sm) : yey (yeE f) (ycs sm):=by
 intro xs l h0 h1
 unfold yeE
 rcases yhU xs l h0 h1 with e | ⟨e1,e2,e3⟩
 ·exact .inl (yK (by simp only at e; omega))
 ·simp only at e1 e2
  rw [yu e1]
  rcases yrK h xs _ e1 (by omega) with e | ⟨e4,e5,e6⟩
  ·exact .inl e
  ·exact .inr ⟨e4,by omega,e3.1,e6⟩
structure Boat where
 Id : Int
 Length : Int
 Width : Int
 Draught : Int
 Speed : Int
 Class : Int
 deriving DecidableEq,Inhabited
@[simp] def Boat.enc (e : Boat) : List C:=[.i e.Id,.i e.Length,.i e.Width,.i e.Draught,.i e.Speed,.i e.Class]
-- Boat
theorem yud (e : Boat) : yB Tryz.prog 171 [.agg (e.enc.map .c)] (.agg (e.enc.map .c)):=by
 refine yh yq9 ?_
 simp -dsimp -implicitDefEqProofs
theorem yyR (a b : Boat) : yB Tryz.prog 172 [.agg (a.enc.map .c),.agg (b.enc.map .c)] (.c (.b (decide (a = b)))):=by
 refine yh yq1 ?_
 obtain ⟨a0,a1,a2,a3,a4,a5⟩:=a
 obtain ⟨b0,b1,b2,b3,b4,b5⟩:=b
 simp -dsimp -implicitDefEqProofs [yj8,Boat.mk.injEq]
 refine ⟨fun h=>by simp_all,fun h0=>?_⟩
 refine ⟨fun h=>by simp_all,fun h1=>?_⟩
 refine ⟨fun h=>by simp_all,fun h2=>?_⟩
 refine ⟨fun h=>by simp_all,fun h3=>?_⟩
 refine ⟨fun h=>by simp_all,fun h4=>?_⟩
 refine ⟨fun h=>by simp_all,fun h5=>?_⟩
 simp_all
-- []Boat
def yex (xs : List Boat) (l : Int) : Int:=szS xs.length l
def ygC : List Boat → Prop:=ycs fun _=>True
theorem ymH : yey yex ygC:=yhU
theorem yvS (xs : List Boat) (l : Int) (h0 : 0 ≤ l) (h1 : l ≤ 1048576) : yB Tryz.prog 135 [.c (.sl 6 (xs.map Boat.enc)),.c (.i l)] (.c (.i (yex xs l))):=by
 refine yh yoU ?_
 simp -dsimp -implicitDefEqProofs [yi3,yex,szS]
 intro hl
 unfold maxLen at hl
 refine ⟨by unfold inI; omega,fun h=>?_,fun h=>?_⟩ <;> intros <;> omega
theorem yxQ (xs : List Boat) (hl : ygC xs) : yB Tryz.prog 140 [.c (.sl 6 (xs.map Boat.enc))] (.c (.sl 6 (xs.map Boat.enc))):=by
 refine yh yiM ?_
 simp -dsimp -implicitDefEqProofs
 intro hlen
 have hl1:=hl.1
 refine ⟨by omega,?_⟩
 refine yg (ι:=Nat) (fun k=>k ≤ xs.length) (fun k=>yO [(0,.c (.sl 6 (xs.map Boat.enc))),(3,.own 7 6 xs.length),(4,.c (.i k))] [(7,.row 6 (partly Boat.enc [.i 0,.i 0,.i 0,.i 0,.i 0,.i 0] xs k))]) (fun k=>xs.length - k) 0 (by simp) (by apply yj <;> simp [yab]) ?_
 rintro k hk
 rcases Nat.lt_or_ge k xs.length with hlt | hge
 ·obtain ⟨e,he⟩ : ∃ e,xs[k]? = some e:=⟨_,List.getElem?_eq_getElem hlt⟩
  have hs:=yaj (f:=Boat.enc) (z:=[.i 0,.i 0,.i 0,.i 0,.i 0,.i 0]) he
  have hd:=yav (f:=Boat.enc) (z:=[.i 0,.i 0,.i 0,.i 0,.i 0,.i 0]) (n:=6) rfl hlt
  simp only [Boat.enc] at hs
  simp -dsimp -implicitDefEqProofs [he,yG hlt]
  refine fun _=>yaP (yud e ) (by simp) rfl ?_
  simp -dsimp -implicitDefEqProofs [yG hlt,yak hk,hd,hs]
  exact ⟨hlt,yw hlt hlen,k + 1,hlt,by omega,by apply yj <;> simp⟩
 ·simp -dsimp -implicitDefEqProofs [yaB hge]
  intro _
  rw [yam hge,List.take_of_length_le (by simp)]
theorem yxD (es fs : List Boat) : yB Tryz.prog 144 [.c (.sl 6 (es.map Boat.enc)),.c (.sl 6 (fs.map Boat.enc))] (.c (.b (decide (es = fs)))):=by
 refine yh yoL ?_
 simp -dsimp -implicitDefEqProofs
 intro hl1 hl2
 refine ⟨fun h e=>h (by rw [e]),fun hlen=>?_⟩
 have hlen' : es.length = fs.length:=by omega
 refine yg (ι:=Nat) (fun k=>k ≤ es.length ∧ es.take k = fs.take k) (fun k=>yO [(0,.c (.sl 6 (es.map Boat.enc))),(1,.c (.sl 6 (fs.map Boat.enc))),(5,.c (.i k))] []) (fun k=>es.length - k) 0 (by simp) (by apply yj <;> simp) ?_
 rintro k ⟨hk,htk⟩
 rcases Nat.lt_or_ge k es.length with hlt | hge
 ·obtain ⟨e,he⟩ : ∃ e,es[k]? = some e:=⟨_,List.getElem?_eq_getElem hlt⟩
  obtain ⟨f,hf⟩ : ∃ f,fs[k]? = some f:=⟨_,List.getElem?_eq_getElem (by omega)⟩
  simp -dsimp -implicitDefEqProofs [he,hf,yG hlt,yG (hlen' ▸ hlt)]
  intro _
  refine yaC (yyR e f) ?_
  simp -dsimp -implicitDefEqProofs
  refine ⟨fun h=>ybG he hf h,fun h=>⟨yw hlt hl1,k + 1,⟨hlt,yaR he hf htk h⟩,by omega,by apply yj <;> simp⟩⟩
 ·simp -dsimp -implicitDefEqProofs [yaB hge]
  intro _
  exact ybf hge hlen' htk
abbrev yai (xs : List Boat) : List C:=[.sl 6 (xs.map Boat.enc)]
-- [][]Boat
def yeb : List (List Boat) → Int → Int:=yeE yex
def yej : List (List Boat) → Prop:=ycs ygC
theorem ysL : yey yeb yej:=ygj ymH
theorem yt7 (xs : List (List Boat)) (l : Int) (h0 : 0 ≤ l) (h1 : l ≤ 1048576) : yB Tryz.prog 92 [.c (.sl 1 (xs.map yai)),.c (.i l)] (.c (.i (yeb xs l))):=by
 refine yh ynp ?_
 simp -dsimp -implicitDefEqProofs
 intro hl
 have hs : szS xs.length l = if l - xs.length < 0 then -1 else l - xs.length:=rfl
 refine ⟨by unfold maxLen at hl; unfold inI; omega,fun h=>?_,fun h=>?_⟩
 ·simp [yeb,yeE,ybm,hs,h]
 have h' : 0 ≤ l - xs.length:=by omega
 have e0 : yeb xs l = yaw yex xs (l - xs.length):=by
  have : szS xs.length l = l - xs.length:=by rw [hs,if_neg (by omega)]
  simp only [yeb,yeE]
  rw [this,yu h']
 refine yg (ι:=Nat × Int) (fun p=>p.1 ≤ xs.length ∧ 0 ≤ p.2 ∧ p.2 ≤ 1048576 ∧ yaw yex (xs.drop p.1) p.2 = yeb xs l) (fun p=>yO [(0,.c (.sl 1 (xs.map yai))),(1,.c (.i p.2)),(5,.c (.i p.1))] []) (fun p=>xs.length - p.1) (0,l - xs.length) ⟨by simp,h',by simp only; omega,by simp [e0]⟩ (by apply yj <;> simp) ?_
 rintro ⟨k,q⟩ ⟨hk,hq0,hq1,hf⟩
 simp only at hk hq0 hq1 hf
 rcases Nat.lt_or_ge k xs.length with hlt | hge
 ·obtain ⟨e,he⟩ : ∃ e,xs[k]? = some e:=⟨_,List.getElem?_eq_getElem hlt⟩
  have hd : xs.drop k = e :: xs.drop (k + 1):=by
   rw [List.drop_eq_getElem_cons hlt,(List.getElem?_eq_some_iff.1 he).2]
  rw [hd,yaw] at hf
  simp -dsimp -implicitDefEqProofs [he,yG hlt]
  refine fun _=>yaQ (yvS e q hq0 hq1) (by simp) rfl ?_
  simp -dsimp -implicitDefEqProofs
  refine ⟨fun h=>by rw [← hf,yK h],fun h=>⟨yw hlt hl,k + 1,⟨yex e q,?_⟩⟩⟩
  rw [yu h] at hf
  have hle : yex e q ≤ 1048576:=by
   rcases ymH e q hq0 hq1 with e1 | e1
   ·omega
   ·omega
  exact ⟨⟨hlt,h,hle,hf⟩,by omega,by apply yj <;> simp⟩
 ·simp -dsimp -implicitDefEqProofs [yaB hge]
  rw [List.drop_of_length_le hge] at hf
  intro _
  first | simpa [yaw] using hf | simpa [yaw] using hf.symm
theorem ywr (xs : List (List Boat)) (hl : yej xs) : yB Tryz.prog 103 [.c (.sl 1 (xs.map yai))] (.c (.sl 1 (xs.map yai))):=by
 refine yh yim ?_
 simp -dsimp -implicitDefEqProofs
 intro hlen
 have hl1:=hl.1
 refine ⟨by omega,yQd ?_⟩
 simp -dsimp -implicitDefEqProofs
 refine yg (ι:=Nat) (fun k=>k ≤ xs.length) (fun k=>yO [(0,.c (.sl 1 (xs.map yai))),(3,.own 7 1 xs.length),(4,.c (.i k))] [(7,.row 1 (partly yai [.sl 6 []] xs k))]) (fun k=>xs.length - k) 0 (by simp) (by apply yj <;> simp [yab]) ?_
 rintro k hk
 rcases Nat.lt_or_ge k xs.length with hlt | hge
 ·obtain ⟨e,he⟩ : ∃ e,xs[k]? = some e:=⟨_,List.getElem?_eq_getElem hlt⟩
  have hs:=yaj (f:=yai) (z:=[.sl 6 []]) he
  have hd : ((partly yai [.sl 6 []] xs k)[k]?.getD []).set 0 (.sl 6 (e.map Boat.enc)) = [.sl 6 (e.map Boat.enc)]:=by
   have:=ydK (f:=yai) (z:=[.sl 6 []]) (n:=1) rfl (fun _=>rfl) hlt
   obtain ⟨x,hx⟩:=List.length_eq_one_iff.1 this
   rw [hx]; rfl
  have hs2 : (partly yai [.sl 6 []] xs k).set k [.sl 6 (e.map Boat.enc)] = partly yai [.sl 6 []] xs (k + 1):=hs
  simp -dsimp -implicitDefEqProofs [he,yG hlt]
  refine fun _=>yaP (yxQ e (hl.2 e (List.mem_of_getElem? he))) (by simp) rfl ?_
  simp -dsimp -implicitDefEqProofs [yG hlt,yak hk,hd,hs2]
  exact ⟨hlt,yw hlt hlen,k + 1,hlt,by omega,by apply yj <;> simp⟩
 ·simp -dsimp -implicitDefEqProofs [yaB hge]
  intro _
  rw [yam hge,List.take_of_length_le (by simp)]
theorem yvt (es fs : List (List Boat)) : yB Tryz.prog 113 [.c (.sl 1 (es.map yai)),.c (.sl 1 (fs.map yai))] (.c (.b (decide (es = fs)))):=by
 refine yh ync ?_
 simp -dsimp -implicitDefEqProofs
 intro hl1 hl2
 refine ⟨fun h e=>h (by rw [e]),fun hlen=>?_⟩
 have hlen' : es.length = fs.length:=by omega
 refine yg (ι:=Nat) (fun k=>k ≤ es.length ∧ es.take k = fs.take k) (fun k=>yO [(0,.c (.sl 1 (es.map yai))),(1,.c (.sl 1 (fs.map yai))),(5,.c (.i k))] []) (fun k=>es.length - k) 0 (by simp) (by apply yj <;> simp) ?_
 rintro k ⟨hk,htk⟩
 rcases Nat.lt_or_ge k es.length with hlt | hge
 ·obtain ⟨e,he⟩ : ∃ e,es[k]? = some e:=⟨_,List.getElem?_eq_getElem hlt⟩
  obtain ⟨f,hf⟩ : ∃ f,fs[k]? = some f:=⟨_,List.getElem?_eq_getElem (by omega)⟩
  simp -dsimp -implicitDefEqProofs [he,hf,yG hlt,yG (hlen' ▸ hlt)]
  intro _
  refine yaC (yxD e f) ?_
  simp -dsimp -implicitDefEqProofs
  refine ⟨fun h=>ybG he hf h,fun h=>⟨yw hlt hl1,k + 1,⟨hlt,yaR he hf htk h⟩,by omega,by apply yj <;> simp⟩⟩
 ·simp -dsimp -implicitDefEqProofs [yaB hge]
  intro _
  exact ybf hge hlen' htk
structure Train where
 Up : Bool
 Rows : List (List Boat)
 deriving DecidableEq,Inhabited
@[simp] def Train.enc (e : Train) : List C:=[.b e.Up,.sl 1 (e.Rows.map yai)]
-- Train
def yb2 (e : Train) (l : Int) : Int:=ybm (yeb e.Rows l) fun l=>l
def Train.small (e : Train) : Prop:=yej e.Rows
theorem ye7 : yey yb2 Train.small:=by
 intro e l h0 h1
 unfold yb2
 rcases ysL e.Rows _ h0 h1 with e0 | ⟨a0,b0,s0⟩
 ·exact .inl (yK (by omega))
 rw [yu a0]
 exact .inr ⟨a0,by omega,s0⟩
theorem yhF (e : Train) (l : Int) (h0 : 0 ≤ l) (h1 : l ≤ 1048576) : yB Tryz.prog 51 [.agg (e.enc.map .c),.c (.i l)] (.c (.i (yb2 e l))):=by
 refine yh ypX ?_
 simp -dsimp -implicitDefEqProofs
 refine yc (yt7 e.Rows _ h0 h1) ?_
 simp -dsimp -implicitDefEqProofs
 refine ⟨fun h=>by simp [yb2,yK h],fun p0=>?_⟩
 simp [yb2,yu p0]
theorem yjt (e : Train) (hl : Train.small e) : yB Tryz.prog 58 [.agg (e.enc.map .c)] (.agg (e.enc.map .c)):=by
 refine yh yiU ?_
 simp -dsimp -implicitDefEqProofs
 refine yS (ywr e.Rows hl) ?_
 simp -dsimp -implicitDefEqProofs
theorem yjG (a b : Train) : yB Tryz.prog 66 [.agg (a.enc.map .c),.agg (b.enc.map .c)] (.c (.b (decide (a = b)))):=by
 refine yh yoZ ?_
 obtain ⟨a0,a1⟩:=a
 obtain ⟨b0,b1⟩:=b
 simp -dsimp -implicitDefEqProofs [yiE,Train.mk.injEq]
 refine ⟨fun h=>by simp_all,fun h0=>?_⟩
 refine yc (yvt a1 b1) ?_
 simp -dsimp -implicitDefEqProofs
 refine ⟨fun h=>by simp_all,fun h1=>?_⟩
 simp_all
structure Mover where
 Train : Train
 Place : Int
 deriving DecidableEq,Inhabited
@[simp] def Mover.enc (e : Mover) : List C:=[.b e.Train.Up,.sl 1 (e.Train.Rows.map yai),.i e.Place]
-- Mover
def ycV (e : Mover) (l : Int) : Int:=ybm (yb2 e.Train l) fun l=>l
def Mover.small (e : Mover) : Prop:=e.Train.small
theorem ymQ : yey ycV Mover.small:=by
 intro e l h0 h1
 unfold ycV
 rcases ye7 e.Train _ h0 h1 with e0 | ⟨a0,b0,s0⟩
 ·exact .inl (yK (by omega))
 rw [yu a0]
 exact .inr ⟨a0,by omega,s0⟩
theorem yvT (e : Mover) (l : Int) (h0 : 0 ≤ l) (h1 : l ≤ 1048576) : yB Tryz.prog 91 [.agg (e.enc.map .c),.c (.i l)] (.c (.i (ycV e l))):=by
 refine yh ypW ?_
 simp -dsimp -implicitDefEqProofs
 refine yc (yhF e.Train _ h0 h1) ?_
 simp -dsimp -implicitDefEqProofs
 refine ⟨fun h=>by simp [ycV,yK h],fun p0=>?_⟩
 simp [ycV,yu p0]
theorem yyk (e : Mover) (hl : Mover.small e) : yB Tryz.prog 102 [.agg (e.enc.map .c)] (.agg (e.enc.map .c)):=by
 refine yh yiQ ?_
 simp -dsimp -implicitDefEqProofs
 refine yS (yjt e.Train hl) ?_
 simp -dsimp -implicitDefEqProofs
theorem yxY (a b : Mover) : yB Tryz.prog 112 [.agg (a.enc.map .c),.agg (b.enc.map .c)] (.c (.b (decide (a = b)))):=by
 refine yh yoz ?_
 obtain ⟨a0,a1⟩:=a
 obtain ⟨b0,b1⟩:=b
 simp -dsimp -implicitDefEqProofs [yiH,Mover.mk.injEq]
 refine yc (yjG a0 b0) ?_
 simp -dsimp -implicitDefEqProofs
 refine ⟨fun h=>by simp_all,fun h0=>?_⟩
 refine ⟨fun h=>by simp_all,fun h1=>?_⟩
 simp_all
theorem yvh {α : Type} {B : Nat} : ∀ {l : List (List α)},(∀ r ∈ l,r.length ≤ B) → l.flatten.length ≤ l.length * B
 | [],_=>by simp
 | r :: l,h=>by
  have h1:=yvh (l:=l) fun x hx=>h x (by simp [hx])
  have h2:=h r (by simp)
  simp only [List.flatten_cons,List.length_append,List.length_cons,Nat.add_mul,Nat.one_mul]
  omega
def heads {α : Type} (l : List (List α)) (k : Nat) : List α:=(l.take k).flatten
theorem yeU {α : Type} {l : List (List α)} : heads l 0 = []:=rfl
theorem yhH {α : Type} {l : List (List α)} {k : Nat} {r : List α} (h : l[k]? = some r) : heads l (k + 1) = heads l k ++ r:=by
 unfold heads; rw [List.take_succ,h]; simp
theorem yjI {α : Type} {l : List (List α)} {k : Nat} (h : l.length ≤ k) : heads l k = l.flatten:=by
 unfold heads; rw [List.take_of_length_le h]
theorem yi0 {α : Type} {l : List (List α)} (h : ycs (ycs fun _ : α=>True) l) (k : Nat) : (heads l k).length ≤ 1099511627776:=by
 have h1:=yvh (l:=l.take k) (B:=1048576) fun r hr=>(h.2 r (List.mem_of_mem_take hr)).1
 have h2:=h.1
 have h3 : (l.take k).length ≤ 1048576:=by simp; omega
 have h4:=Nat.mul_le_mul_right 1048576 h3
 unfold heads
 omega
def Train.yas (t : Train) : List Boat:=t.Rows.flatten
theorem yzj {t : Train} (h : t.small) : t.yas.length ≤ 1099511627776:=by
 have:=yi0 h t.Rows.length
 rwa [yjI (Nat.le_refl _)] at this
theorem yoX (t : Train) (h : t.small) : yB Tryz.prog 93 [.agg (t.enc.map .c)] (.c (.sl 6 (t.yas.map Boat.enc))):=by
 refine yh ynj ?_
 simp -dsimp -implicitDefEqProofs
 refine yg (ι:=Nat) (fun k=>k ≤ t.Rows.length) (fun k=>yO [(1,.box 1 0),(3,.own 5 6 (heads t.Rows k).length),(4,.c (.i k))] [(1,.box (t.enc.map .c)),(5,.row 6 ((heads t.Rows k).map Boat.enc))]) (fun k=>t.Rows.length - k) 0 (by simp) (by apply yj <;> simp [yeU]) ?_
 rintro k hk
 rcases Nat.lt_or_ge k t.Rows.length with hlt | hge
 ·obtain ⟨r,hr⟩ : ∃ r,t.Rows[k]? = some r:=⟨_,List.getElem?_eq_getElem hlt⟩
  have hb:=yi0 h (k + 1)
  have hf:=yhH hr
  rw [hf,List.length_append] at hb
  have hm:=h.1
  simp -dsimp -implicitDefEqProofs [hr,yG hlt]
  intro hlen
  refine ⟨by omega,yw hlt hlen,k + 1,hlt,by omega,?_⟩
  apply yj <;> simp [hf]
 ·simp -dsimp -implicitDefEqProofs [yaB hge]
  rw [yjI hge]
  intro _
  rw [List.take_of_length_le (by rw [List.length_map]; exact Nat.le_refl _)]; rfl
def ybr (b : Boat) : Bool:=inRange b.Id 1 9999 && inRange b.Length 1 200 && inRange b.Width 1 30 && inRange b.Draught 1 100 && inRange b.Speed 1 50 && inRange b.Class 0 2
theorem yvm (b : Boat) : yB Tryz.prog 136 [.agg (b.enc.map .c)] (.c (.b (ybr b))):=by
 refine yh yrf ?_
 simp -dsimp -implicitDefEqProofs
 refine yc (yD b.Id 1 9999) ?_
 simp -dsimp -implicitDefEqProofs
 refine ⟨fun h=>?_,fun h=>by simp [ybr,h]⟩
 refine yc (yD b.Length 1 200) ?_
 simp -dsimp -implicitDefEqProofs
 refine ⟨fun h1=>?_,fun h1=>by simp [ybr,h1]⟩
 refine yc (yD b.Width 1 30) ?_
 simp -dsimp -implicitDefEqProofs
 refine ⟨fun h2=>?_,fun h1=>by simp [ybr,h1]⟩
 refine yc (yD b.Draught 1 100) ?_
 simp -dsimp -implicitDefEqProofs
 refine ⟨fun h3=>?_,fun h1=>by simp [ybr,h1]⟩
 refine yc (yD b.Speed 1 50) ?_
 simp -dsimp -implicitDefEqProofs
 refine ⟨fun h4=>?_,fun h1=>by simp [ybr,h1]⟩
 refine yc (yD b.Class 0 2) ?_
 simp -dsimp -implicitDefEqProofs
 simp [ybr,h,h1,h2,h3,h4]
theorem yuc (b : Boat) : yB Tryz.prog 126 [.agg (b.enc.map .c)] (.c (.b (ybr b))):=by
 refine yh yqo ?_
 simp -dsimp -implicitDefEqProofs
 refine yc (yC b.Id 1 9999) ?_
 simp -dsimp -implicitDefEqProofs
 refine ⟨fun h=>?_,fun h=>by simp [ybr,h]⟩
 refine yc (yC b.Length 1 200) ?_
 simp -dsimp -implicitDefEqProofs
 refine ⟨fun h1=>?_,fun h1=>by simp [ybr,h1]⟩
 refine yc (yC b.Width 1 30) ?_
 simp -dsimp -implicitDefEqProofs
 refine ⟨fun h2=>?_,fun h1=>by simp [ybr,h1]⟩
 refine yc (yC b.Draught 1 100) ?_
 simp -dsimp -implicitDefEqProofs
 refine ⟨fun h3=>?_,fun h1=>by simp [ybr,h1]⟩
 refine yc (yC b.Speed 1 50) ?_
 simp -dsimp -implicitDefEqProofs
 refine ⟨fun h4=>?_,fun h1=>by simp [ybr,h1]⟩
 refine yc (yC b.Class 0 2) ?_
 simp -dsimp -implicitDefEqProofs
 simp [ybr,h,h1,h2,h3,h4]
def indexOf (l : List Int) (n : Int) : Int:=match l.findIdx? (fun x=>n == x) with | some i=>i | none=>-1
theorem yph {l : List Int} {n : Int} : (0 ≤ indexOf l n) = (n ∈ l):=by
 unfold indexOf
 cases h : l.findIdx? (fun x=>n == x) with
 | none =>
  rw [List.findIdx?_eq_none_iff] at h
  show (0 ≤ (-1 : Int)) = _
  simp only [eq_iff_iff]
  refine ⟨fun h1=>by omega,fun hm=>?_⟩
  have:=h n hm
  simp at this
 | some i =>
  rw [List.findIdx?_eq_some_iff_getElem] at h
  obtain ⟨hi,h1,_⟩:=h
  simp only [eq_iff_iff]
  refine ⟨fun _=>?_,fun _=>by omega⟩
  have : n = l[i]:=by simpa using h1
  rw [this]; exact List.getElem_mem _
theorem yww {l : List Int} {n : Int} {k : Nat} (h : l[k]? = some n) (hn : ∀ x ∈ l.take k,n ≠ x) : indexOf l n = k:=by
 unfold indexOf
 have : l.findIdx? (fun x=>n == x) = some k:=by
  rw [List.findIdx?_eq_some_iff_getElem]
  obtain ⟨hk1,hk2⟩:=List.getElem?_eq_some_iff.1 h
  refine ⟨hk1,by simp [hk2],fun j hj=>?_⟩
  have:=hn (l[j]'(by omega)) (List.mem_take_iff_getElem.2 ⟨j,by omega,rfl⟩)
  simpa using this
 rw [this]
theorem yv9 {l : List Int} {n : Int} {k : Nat} (hk : l.length ≤ k) (hn : ∀ x ∈ l.take k,n ≠ x) : indexOf l n = -1:=by
 rw [List.take_of_length_le hk] at hn
 unfold indexOf
 have : l.findIdx? (fun x=>n == x) = none:=by
  rw [List.findIdx?_eq_none_iff]
  intro x hx
  simpa using hn x hx
 rw [this]
theorem yzA {l : List Int} {n x : Int} {k : Nat} (h : l[k]? = some x) (hx : n ≠ x) (hn : ∀ x ∈ l.take k,n ≠ x) : ∀ x ∈ l.take (k + 1),n ≠ x:=by
 intro y hy
 rw [List.take_succ,h] at hy
 rcases List.mem_append.1 hy with h1 | h1
 ·exact hn y h1
 ·simp at h1; rw [h1]; exact hx
theorem yBu (l : List Int) (n : Int) : yB Tryz.prog 133 [.c (.sl 1 (l.map yJ)),.c (.i n)] (.c (.i (indexOf l n))):=by
 refine yh ygi ?_
 simp -dsimp -implicitDefEqProofs
 intro hlen
 refine yg (ι:=Nat) (fun k=>k ≤ l.length ∧ ∀ x ∈ l.take k,n ≠ x) (fun k=>yO [(0,.c (.sl 1 (l.map yJ))),(1,.c (.i n)),(7,.c (.i l.length)),(8,.c (.i k))] []) (fun k=>l.length - k) 0 (by simp) (by apply yj <;> simp) ?_
 rintro k ⟨hk,hn⟩
 rcases Nat.lt_or_ge k l.length with hlt | hge
 ·obtain ⟨x,hx⟩ : ∃ x,l[k]? = some x:=⟨_,List.getElem?_eq_getElem hlt⟩
  simp -dsimp -implicitDefEqProofs [hx,yG hlt]
  refine ⟨fun h=>?_,fun h=>⟨yw hlt hlen,k + 1,⟨hlt,yzA hx h hn⟩,by omega,by apply yj <;> simp⟩⟩
  exact yww (h ▸ hx) hn
 ·simp -dsimp -implicitDefEqProofs [yaB hge]
  exact yv9 hge hn
theorem ypJ (l : List Int) (n : Int) : yB Tryz.prog 85 [.c (.sl 1 (l.map yJ)),.c (.i n)] (.c (.b (decide (n ∈ l)))):=by
 refine yh yfu ?_
 simp -dsimp -implicitDefEqProofs
 refine yc (yBu l n) ?_
 simp -dsimp -implicitDefEqProofs [yph]
def yfy (b : Boat) : Int:=b.Id
def full (r : List Boat) : Bool:=decide (r.length ≠ 0)
theorem ytQ {r : List Boat} : full r = true ↔ r.length ≠ 0:=by simp [full]
def yP (t : Train) : Bool:=t.Rows.all full && t.yas.all ybr && decide ((t.yas.map yfy).Nodup) && inRange t.yas.length 1 6
theorem ykm {l : List Boat} {k : Nat} {b : Boat} (h : l[k]? = some b) : (((l.take (k + 1)).map yfy).Nodup ↔ ((l.take k).map yfy).Nodup ∧ b.Id ∉ (l.take k).map yfy):=by
 rw [List.take_succ,h,List.map_append]
 simp only [Option.toList_some,List.map_cons,List.map_nil,List.nodup_append,List.nodup_cons,List.not_mem_nil,not_false_eq_true,List.nodup_nil,and_self,true_and,List.mem_singleton,forall_eq,yfy]
 constructor
 ·rintro ⟨h1,h2⟩; exact ⟨h1,fun hm=>h2 _ hm rfl⟩
 ·rintro ⟨h1,h2⟩; exact ⟨h1,fun x hx e=>h2 (e ▸ hx)⟩
theorem yyf {l : List Boat} {k : Nat} (h : ¬ ((l.take k).map yfy).Nodup) : ¬ (l.map yfy).Nodup:=by
 intro hn
 refine h ?_
 rw [← List.take_append_drop k l,List.map_append] at hn
 exact (List.nodup_append.1 hn).1
def yry (l : List Boat) (k : Nat) : List Int:=(l.take k).map yfy
theorem yds (t : Train) (h : t.small) : yB Tryz.prog 94 [.agg (t.enc.map .c)] (.c (.b (yP t))):=by
 refine yh yoi ?_
 simp -dsimp -implicitDefEqProofs
 refine yS (yoX t h) ?_
 simp -dsimp -implicitDefEqProofs
 refine yg (ι:=Nat) (fun k=>k ≤ t.Rows.length ∧ ∀ r ∈ t.Rows.take k,full r = true) (fun k=>yO [(1,.box 1 0),(3,.c (.sl 6 (t.yas.map Boat.enc))),(4,.c (.i k))] [(1,.box (t.enc.map .c))]) (fun k=>t.Rows.length - k) 0 (by simp) (by apply yj <;> simp) ?_
 rintro k ⟨hk,hall⟩
 rcases Nat.lt_or_ge k t.Rows.length with hlt | hge
 ·obtain ⟨r,hr⟩ : ∃ r,t.Rows[k]? = some r:=⟨_,List.getElem?_eq_getElem hlt⟩
  simp -dsimp -implicitDefEqProofs [hr,yG hlt]
  intro hlen _
  refine ⟨fun h0=>?_,fun h0=>?_⟩
  ·have : t.Rows.all full = false:=all_false (p:=full) hr (by simp [full,h0])
   simp only [yP,this,Bool.false_and]
  ·exact ⟨yw hlt hlen,k + 1,⟨by omega,yL (p:=full) hr hall (by simp [full,h0])⟩,by omega,by apply yj <;> simp⟩
 ·have hrows:=yX (p:=full) hge hall
  simp -dsimp -implicitDefEqProofs [yaB hge]
  intro _
  have hbl:=yzj h
  refine yg (ι:=Nat) (fun k=>k ≤ t.yas.length ∧ (∀ b ∈ t.yas.take k,ybr b = true) ∧ (yry t.yas k).Nodup) (fun k=>yO [(3,.c (.sl 6 (t.yas.map Boat.enc))),(5,.c (.i k))] []) (fun k=>t.yas.length - k) 0 (by simp [yry]) (by apply yj <;> simp) ?_
  rintro k ⟨hk,hok,hnd⟩
  have fin : t.yas.length ≤ 6 → k = t.yas.length → yP t = inRange t.yas.length 1 6:=by
   intro h6 e
   have h1:=yX (p:=ybr) (by omega) hok
   rw [e,yry,List.take_length] at hnd
   simp [yP,hrows,h1,hnd]
  rcases Nat.lt_or_ge k t.yas.length with hlt | hge
  ·obtain ⟨b,hb⟩ : ∃ b,t.yas[k]? = some b:=⟨_,List.getElem?_eq_getElem hlt⟩
   by_cases h6 : t.yas.length ≤ 6
   ·have h6' : ((t.yas.length : Int) ≤ 6) = True:=by simp; omega
    simp -dsimp -implicitDefEqProofs [hb,yG hlt,h6']
    intro hlen
    refine yc (yvm b) ?_
    simp -dsimp -implicitDefEqProofs
    refine ⟨fun h1=>?_,fun h1=>?_⟩
    ·have : t.yas.all ybr = false:=all_false (p:=ybr) hb h1
     simp only [yP,this,Bool.false_and,Bool.and_false]
    have hok':=yL (p:=ybr) hb hok h1
    refine yg (ι:=Nat) (fun i=>i ≤ k ∧ b.Id ∉ yry t.yas i) (fun i=>yO [(3,.c (.sl 6 (t.yas.map Boat.enc))),(5,.c (.i k)),(6,.c (.i i))] []) (fun i=>k - i) 0 (by simp [yry]) (by apply yj <;> simp) ?_
    rintro i ⟨hi,hni⟩
    rcases Nat.lt_or_ge i k with hlt2 | hge2
    ·obtain ⟨c,hc⟩ : ∃ c,t.yas[i]? = some c:=⟨_,List.getElem?_eq_getElem (by omega)⟩
     have hi3 : (i : Int) < t.yas.length:=by omega
     simp -dsimp -implicitDefEqProofs [hb,hc,yG hlt,yG hlt2,hi3]
     refine ⟨fun h2=>?_,fun h2=>?_⟩
     ·have : ¬ (t.yas.map yfy).Nodup:=by
       refine yyf (k:=k + 1) fun hn=>?_
       refine ((ykm hb).1 hn).2 ?_
       rw [← h2]
       exact List.mem_map.2 ⟨c,List.mem_iff_getElem?.2 ⟨i,by rw [List.getElem?_take,if_pos hlt2]; exact hc⟩,rfl⟩
      simp [yP,this]
     ·refine ⟨by unfold inI; omega,i + 1,⟨hlt2,?_⟩,by omega,by apply yj <;> simp⟩
      rw [yry,List.take_succ,hc,List.map_append]
      simp only [List.mem_append,Option.toList_some,List.map_cons,List.map_nil,List.mem_singleton,yfy]
      rintro (h3 | h3)
      ·exact hni h3
      ·exact h2 h3.symm
    ·simp -dsimp -implicitDefEqProofs [yaB hge2]
     have e : i = k:=by omega
     rw [e] at hni
     exact ⟨by unfold inI; omega,k + 1,⟨hlt,hok',(ykm hb).2 ⟨hnd,hni⟩⟩,by omega,by apply yj <;> simp⟩
   ·have h6' : ((t.yas.length : Int) ≤ 6) = False:=by simp; omega
    simp -dsimp -implicitDefEqProofs [hb,yG hlt,h6']
    intro hlen
    refine yc (yD t.yas.length 1 6) ?_
    simp -dsimp -implicitDefEqProofs
    have h7 : inRange t.yas.length 1 6 = false:=ycG.2 (by omega)
    simp only [yP,h7,Bool.and_false]
  ·simp -dsimp -implicitDefEqProofs [yaB hge]
   intro hlen
   refine yc (yD t.yas.length 1 6) ?_
   simp -dsimp -implicitDefEqProofs
   by_cases h6 : t.yas.length ≤ 6
   ·rw [fin h6 (by omega)]
   ·have h7 : inRange t.yas.length 1 6 = false:=ycG.2 (by omega)
    simp only [yP,h7,Bool.and_false]
theorem yvl {t : Train} {k : Nat} {r : List Boat} (h : t.Rows[k]? = some r) : ∃ m,t.yas = heads t.Rows k ++ r ++ m:=by
 refine ⟨(t.Rows.drop (k + 1)).flatten,?_⟩
 unfold Train.yas
 conv=>lhs; rw [← List.take_append_drop (k + 1) t.Rows]
 rw [List.flatten_append,← yhH h]; rfl
theorem yBC {t : Train} {k : Nat} {r : List Boat} (h : t.Rows[k]? = some r) (h0 : r.length = 0) : yP t = false:=by
 have : t.Rows.all full = false:=all_false (p:=full) h (by simp [full,h0])
 simp only [yP,this,Bool.false_and]
theorem yD8 {t : Train} (h : 6 < t.yas.length) : yP t = false:=by
 have h7 : inRange t.yas.length 1 6 = false:=ycG.2 (by omega)
 simp only [yP,h7,Bool.and_false]
theorem yBq {t : Train} {b : Boat} (hb : b ∈ t.yas) (h : ybr b = false) : yP t = false:=by
 obtain ⟨i,hi⟩:=List.getElem?_of_mem hb
 have : t.yas.all ybr = false:=all_false (p:=ybr) hi h
 simp only [yP,this,Bool.false_and,Bool.and_false]
theorem yEq {t : Train} (h : ¬ (t.yas.map yfy).Nodup) : yP t = false:=by simp [yP,h]
def yfA (l : List Boat) : List (List C):=(l.map yfy).map yJ ++ List.replicate (6 - l.length) [.i 0]
theorem yzV {l : List Boat} (h : l.length ≤ 6) : (yfA l).length = 6:=by simp [yfA]; omega
theorem yyx {l : List Boat} {n : Nat} (h : n = l.length) : (yfA l).take n = (l.map yfy).map yJ:=by
 subst h; unfold yfA; rw [List.take_append_of_le_length (by simp),List.take_of_length_le (by simp)]
theorem yyK {l : List Boat} {b : Boat} (h : l.length < 6) : (yfA l).set l.length [.i b.Id] = yfA (l ++ [b]):=by
 unfold yfA
 rw [List.set_append_right _ _ (by simp)]
 have h1 : ((l.map yfy).map yJ).length = l.length:=by simp
 rw [h1,Nat.sub_self,show 6 - l.length = (6 - (l.length + 1)) + 1 by omega,List.replicate_succ,List.set_cons_zero]
 simp [yfy]
theorem yzC {l : List Boat} (h : l.length < 6) : (yfA l)[l.length]?.getD [] = [.i 0]:=by
 unfold yfA
 rw [List.getElem?_append_right (by simp)]
 have h1 : ((l.map yfy).map yJ).length = l.length:=by simp
 rw [h1,Nat.sub_self,List.getElem?_replicate,if_pos (by omega)]; rfl
theorem yzu : yfA [] = List.replicate 6 [.i 0]:=rfl
structure Met (l : List Boat) : Prop where
 ok : ∀ b ∈ l,ybr b = true
 nd : (l.map yfy).Nodup
 len : l.length ≤ 6
theorem Met.snoc {l : List Boat} {b : Boat} (h : Met l) (h1 : ybr b = true) (h2 : b.Id ∉ l.map yfy) (h3 : l.length < 6) : Met (l ++ [b]):=by
 refine ⟨?_,?_,by simp; omega⟩
 ·intro x hx
  rcases List.mem_append.1 hx with hx | hx
  ·exact h.ok x hx
  ·rw [List.mem_singleton.1 hx]; exact h1
 ·have:=@ykm (l ++ [b]) l.length b (by simp)
  rw [show l.length + 1 = (l ++ [b]).length by simp,List.take_length] at this
  rw [this,List.take_left']
  ·exact ⟨h.nd,h2⟩
  ·rfl
def yfe (t : Train) (k : Nat) (r : List Boat) (j : Nat) : List Boat:=heads t.Rows k ++ r.take j
theorem yoG {t : Train} {k : Nat} {r : List Boat} : yfe t k r 0 = heads t.Rows k:=by simp [yfe]
theorem yvY {t : Train} {k : Nat} {r : List Boat} {j : Nat} {b : Boat} (h : r[j]? = some b) : yfe t k r (j + 1) = yfe t k r j ++ [b]:=by
 unfold yfe; rw [List.take_succ,h]; simp
theorem yrL {t : Train} {k : Nat} {r : List Boat} {j : Nat} (hr : t.Rows[k]? = some r) (h : r.length ≤ j) : yfe t k r j = heads t.Rows (k + 1):=by
 unfold yfe; rw [List.take_of_length_le h,yhH hr]
theorem yxV {t : Train} {k : Nat} {r : List Boat} {j : Nat} (h : j ≤ r.length) : (yfe t k r j).length = (heads t.Rows k).length + j:=by
 unfold yfe; simp; omega
theorem ydp (t : Train) (h : t.small) : yB Tryz.prog 79 [.agg (t.enc.map .c)] (.c (.b (yP t))):=by
 refine yh yoE ?_
 simp -dsimp -implicitDefEqProofs
 intro hlen
 refine ⟨fun h0 _=>⟨fun h1=>?_,fun h1 _=>?_⟩,fun h0=>?_⟩
 ·by_cases h2 : yP t = false
  ·exact h2
  ·exfalso
   have h3 : yP t = true:=by simpa using h2
   simp only [yP,Bool.and_eq_true,List.all_eq_true] at h3
   obtain ⟨⟨⟨h4,_⟩,_⟩,h5⟩:=h3
   have h6:=yF.1 h5
   have : ∀ l : List (List Boat),(∀ r ∈ l,full r = true) → l.length ≤ l.flatten.length:=by
    intro l
    induction l with
    | nil=>simp
    | cons r l ih =>
     intro hl
     have e1:=ih fun x hx=>hl x (by simp [hx])
     have e2:=ytQ.1 (hl r (by simp))
     simp only [List.length_cons,List.flatten_cons,List.length_append]; omega
   have:=this t.Rows h4
   unfold Train.yas at h6
   omega
 ·refine yg (ι:=Nat) (fun k=>k ≤ t.Rows.length ∧ (∀ r ∈ t.Rows.take k,full r = true) ∧ Met (heads t.Rows k)) (fun k=>yO [(3,.row 3 1 0 0),(4,.c (.i (heads t.Rows k).length)),(20,.c (.sl 1 (t.Rows.map yai))),(21,.c (.i t.Rows.length)),(22,.c (.i k))] [(3,.row 1 (yfA (heads t.Rows k)))]) (fun k=>t.Rows.length - k) 0 ⟨by simp,by simp,by simp [yeU],by simp [yeU],by simp [yeU]⟩ (by apply yj <;> simp [yeU,yzu]) ?_
  rintro k ⟨hk,hall,hm⟩
  rcases Nat.lt_or_ge k t.Rows.length with hlt | hge
  ·obtain ⟨r,hr⟩ : ∃ r,t.Rows[k]? = some r:=⟨_,List.getElem?_eq_getElem hlt⟩
   have hml:=hm.len
   have hrs:=(h.2 r (List.mem_of_getElem? hr)).1
   obtain ⟨rest,hsp⟩:=yvl hr
   simp -dsimp -implicitDefEqProofs [hr,yG hlt]
   intro hrl
   refine ⟨fun hr0 _=>⟨by unfold inI; omega,fun h6=>?_,fun h6 _=>?_⟩,fun hr0=>?_⟩
   ·refine yD8 ?_
    rw [hsp]; simp only [List.length_append]; omega
   ·refine yg (ι:=Nat) (fun j=>j ≤ r.length ∧ Met (yfe t k r j)) (fun j=>yO [(3,.row 3 1 0 0),(4,.c (.i (yfe t k r j).length)),(20,.c (.sl 1 (t.Rows.map yai))),(21,.c (.i t.Rows.length)),(22,.c (.i k)),(36,.c (.sl 6 (r.map Boat.enc))),(37,.c (.i r.length)),(38,.c (.i j))] [(3,.row 1 (yfA (yfe t k r j)))]) (fun j=>r.length - j) 0 ⟨by simp,by rw [yoG]; exact hm⟩ (by apply yj <;> simp [yoG]) ?_
    rintro j ⟨hj,hmj⟩
    rcases Nat.lt_or_ge j r.length with hlt2 | hge2
    ·obtain ⟨b,hb⟩ : ∃ b,r[j]? = some b:=⟨_,List.getElem?_eq_getElem hlt2⟩
     have hsl:=yxV (t:=t) (k:=k) hj
     have hlt6 : (yfe t k r j).length < 6:=by omega
     have hmem : b ∈ t.yas:=by
      rw [hsp]; simp only [List.mem_append]; exact .inl (.inr (List.mem_of_getElem? hb))
     simp -dsimp -implicitDefEqProofs [hb,yG hlt2]
     refine yaC (yuc b) ?_
     simp -dsimp -implicitDefEqProofs
     refine ⟨fun h2=>?_,fun h2=>yBq hmem h2⟩
     have hsn:=yzV hmj.len
     refine ⟨by omega,hsn,?_⟩
     refine ⟨_,_,ypJ ((yfe t k r j).map yfy) b.Id,by simp [yyx],.inr rfl,?_⟩
     simp -dsimp -implicitDefEqProofs [yG hlt2,yzC hlt6,yyK hlt6]
     refine ⟨fun x hx he=>yEq fun hn=>?_,fun h3=>?_⟩
     ·have hsp2 : t.yas = yfe t k r j ++ (b :: (r.drop (j + 1) ++ rest)):=by
       rw [hsp]; unfold yfe
       have : r = r.take j ++ b :: r.drop (j + 1):=by
        conv=>lhs; rw [← List.take_append_drop j r]
        rw [List.drop_eq_getElem_cons hlt2,(List.getElem?_eq_some_iff.1 hb).2]
       conv=>lhs; rw [this]
       simp
      rw [hsp2,List.map_append,List.map_cons] at hn
      exact (List.nodup_append.1 hn).2.2 _ (List.mem_map_of_mem hx) _ (List.mem_cons_self) he
     ·have hni : b.Id ∉ (yfe t k r j).map yfy:=by
       intro hm'
       obtain ⟨x,hx,he⟩:=List.mem_map.1 hm'
       exact h3 x hx he
      have hs1:=yvY (t:=t) (k:=k) hb
      refine ⟨by omega,by omega,by unfold inI; omega,by unfold inI; omega,j + 1,⟨hlt2,by rw [hs1]; exact hmj.snoc h2 hni hlt6⟩,by omega,?_⟩
      apply yj <;> simp [hs1]
    ·simp -dsimp -implicitDefEqProofs [yaB hge2]
     rw [yrL hr hge2] at hmj
     refine ⟨by unfold inI; omega,k + 1,⟨hlt,yL (p:=full) hr hall (by simp [full,hr0]),hmj⟩,by omega,?_⟩
     apply yj <;> simp [yrL hr hge2]
   ·exact yBC hr (by simp [hr0])
  ·simp -dsimp -implicitDefEqProofs [yaB hge]
   rw [yjI hge] at hm
   have hr1:=yX (p:=full) hge hall
   have hb1 : t.yas.all ybr = true:=List.all_eq_true.2 hm.ok
   have hl1 : 0 < t.yas.length:=by
    obtain ⟨r,l,e⟩:=List.exists_cons_of_ne_nil h0
    have:=ytQ.1 (List.all_eq_true.1 hr1 r (by rw [e]; simp))
    unfold Train.yas
    rw [e]; simp only [List.flatten_cons,List.length_append]; omega
   have hl2 : t.yas.length ≤ 6:=hm.len
   have h7 : inRange t.yas.length 1 6 = true:=yF.2 (by omega)
   have hn1 : (t.yas.map yfy).Nodup:=hm.nd
   simp [yP,hr1,hb1,hn1,h7]
 ·have : t.yas = []:=by simp [Train.yas,h0]
  have h7 : inRange t.yas.length 1 6 = false:=by rw [this]; rfl
  simp only [yP,h7,Bool.and_false]
structure TrainFacts (t : Train) : Prop where
 rows : ∀ r ∈ t.Rows,full r = true
 ok : ∀ b ∈ t.yas,ybr b = true
 nd : (t.yas.map yfy).Nodup
 pos : 1 ≤ t.yas.length
 len : t.yas.length ≤ 6
theorem yhY {t : Train} (h : yP t = true) : TrainFacts t:=by
 simp only [yP,Bool.and_eq_true,List.all_eq_true,decide_eq_true_eq] at h
 obtain ⟨⟨⟨h1,h2⟩,h3⟩,h4⟩:=h
 have h5:=yF.1 h4
 exact ⟨h1,h2,h3,by omega,by omega⟩
theorem yya (t : Train) (h : t.small) : yB Tryz.prog 104 [.agg (t.enc.map .c)] (.c (.sl 6 (t.yas.map Boat.enc))):=by
 refine yh yoM ?_
 simp -dsimp -implicitDefEqProofs
 intro hlen
 refine ymd (k0:=6) 3 6 (by simp) (by simp) (by decide) ?_
 refine yg (ι:=Nat) (fun k=>k ≤ t.Rows.length) (fun k=>yO [(3,.own 3 6 (heads t.Rows k).length),(7,.c (.sl 1 (t.Rows.map yai))),(8,.c (.i t.Rows.length)),(9,.c (.i k))] [(3,.row 6 ((heads t.Rows k).map Boat.enc))]) (fun k=>t.Rows.length - k) 0 (by simp) (by apply yj <;> simp [yeU]) ?_
 rintro k hk
 rcases Nat.lt_or_ge k t.Rows.length with hlt | hge
 ·obtain ⟨r,hr⟩ : ∃ r,t.Rows[k]? = some r:=⟨_,List.getElem?_eq_getElem hlt⟩
  have hb:=yi0 h (k + 1)
  have hf:=yhH hr
  rw [hf,List.length_append] at hb
  simp -dsimp -implicitDefEqProofs [hr,yG hlt]
  refine ⟨by omega,yw hlt hlen,k + 1,hlt,by omega,?_⟩
  apply yj <;> simp [hf]
 ·simp -dsimp -implicitDefEqProofs [yaB hge]
  rw [yjI hge]
  rw [List.take_of_length_le (by rw [List.length_map]; exact Nat.le_refl _)]; rfl
def yhJ (xs : List Int) (l : Int) : Int:=szS xs.length l
def ykx : List Int → Prop:=ycs fun _=>True
theorem yeY : yey yhJ ykx:=yhU
theorem yjw (xs : List Int) (l : Int) (h0 : 0 ≤ l) (h1 : l ≤ 1048576) : yB Tryz.prog 17 [.c (.sl 1 (xs.map yJ)),.c (.i l)] (.c (.i (yhJ xs l))):=yz0 xs l h0 h1
structure Point where
 X : Int
 Y : Int
 deriving DecidableEq,Inhabited
@[simp] def Point.enc (e : Point) : List C:=[.i e.X,.i e.Y]
-- Point
theorem yrB (e : Point) : yB Tryz.prog 137 [.agg (e.enc.map .c)] (.agg (e.enc.map .c)):=by
 refine yh ypj ?_
 simp -dsimp -implicitDefEqProofs
theorem yyp (a b : Point) : yB Tryz.prog 141 [.agg (a.enc.map .c),.agg (b.enc.map .c)] (.c (.b (decide (a = b)))):=by
 refine yh yoo ?_
 obtain ⟨a0,a1⟩:=a
 obtain ⟨b0,b1⟩:=b
 simp -dsimp -implicitDefEqProofs [yiZ,Point.mk.injEq]
 refine ⟨fun h=>by simp_all,fun h0=>?_⟩
 refine ⟨fun h=>by simp_all,fun h1=>?_⟩
 simp_all
-- []Point
def yg2 (xs : List Point) (l : Int) : Int:=szS xs.length l
def yfO : List Point → Prop:=ycs fun _=>True
theorem ylh : yey yg2 yfO:=yhU
theorem yuC (xs : List Point) (l : Int) (h0 : 0 ≤ l) (h1 : l ≤ 1048576) : yB Tryz.prog 87 [.c (.sl 2 (xs.map Point.enc)),.c (.i l)] (.c (.i (yg2 xs l))):=by
 refine yh ynd ?_
 simp -dsimp -implicitDefEqProofs [yiq,yg2,szS]
 intro hl
 unfold maxLen at hl
 refine ⟨by unfold inI; omega,fun h=>?_,fun h=>?_⟩ <;> intros <;> omega
theorem yvM (xs : List Point) (hl : yfO xs) : yB Tryz.prog 95 [.c (.sl 2 (xs.map Point.enc))] (.c (.sl 2 (xs.map Point.enc))):=by
 refine yh yiu ?_
 simp -dsimp -implicitDefEqProofs
 intro hlen
 have hl1:=hl.1
 refine ⟨by omega,?_⟩
 refine yg (ι:=Nat) (fun k=>k ≤ xs.length) (fun k=>yO [(0,.c (.sl 2 (xs.map Point.enc))),(3,.own 7 2 xs.length),(4,.c (.i k))] [(7,.row 2 (partly Point.enc [.i 0,.i 0] xs k))]) (fun k=>xs.length - k) 0 (by simp) (by apply yj <;> simp [yab]) ?_
 rintro k hk
 rcases Nat.lt_or_ge k xs.length with hlt | hge
 ·obtain ⟨e,he⟩ : ∃ e,xs[k]? = some e:=⟨_,List.getElem?_eq_getElem hlt⟩
  have hs:=yaj (f:=Point.enc) (z:=[.i 0,.i 0]) he
  have hd:=yav (f:=Point.enc) (z:=[.i 0,.i 0]) (n:=2) rfl hlt
  simp only [Point.enc] at hs
  simp -dsimp -implicitDefEqProofs [he,yG hlt]
  refine fun _=>yaP (yrB e ) (by simp) rfl ?_
  simp -dsimp -implicitDefEqProofs [yG hlt,yak hk,hd,hs]
  exact ⟨hlt,yw hlt hlen,k + 1,hlt,by omega,by apply yj <;> simp⟩
 ·simp -dsimp -implicitDefEqProofs [yaB hge]
  intro _
  rw [yam hge,List.take_of_length_le (by simp)]
theorem yvv (es fs : List Point) : yB Tryz.prog 105 [.c (.sl 2 (es.map Point.enc)),.c (.sl 2 (fs.map Point.enc))] (.c (.b (decide (es = fs)))):=by
 refine yh ynO ?_
 simp -dsimp -implicitDefEqProofs
 intro hl1 hl2
 refine ⟨fun h e=>h (by rw [e]),fun hlen=>?_⟩
 have hlen' : es.length = fs.length:=by omega
 refine yg (ι:=Nat) (fun k=>k ≤ es.length ∧ es.take k = fs.take k) (fun k=>yO [(0,.c (.sl 2 (es.map Point.enc))),(1,.c (.sl 2 (fs.map Point.enc))),(5,.c (.i k))] []) (fun k=>es.length - k) 0 (by simp) (by apply yj <;> simp) ?_
 rintro k ⟨hk,htk⟩
 rcases Nat.lt_or_ge k es.length with hlt | hge
 ·obtain ⟨e,he⟩ : ∃ e,es[k]? = some e:=⟨_,List.getElem?_eq_getElem hlt⟩
  obtain ⟨f,hf⟩ : ∃ f,fs[k]? = some f:=⟨_,List.getElem?_eq_getElem (by omega)⟩
  simp -dsimp -implicitDefEqProofs [he,hf,yG hlt,yG (hlen' ▸ hlt)]
  intro _
  refine yaC (yyp e f) ?_
  simp -dsimp -implicitDefEqProofs
  refine ⟨fun h=>ybG he hf h,fun h=>⟨yw hlt hl1,k + 1,⟨hlt,yaR he hf htk h⟩,by omega,by apply yj <;> simp⟩⟩
 ·simp -dsimp -implicitDefEqProofs [yaB hge]
  intro _
  exact ybf hge hlen' htk
structure Reach where
 Table : List Point
 Volume : Int
 Pipe : List Int
 deriving DecidableEq,Inhabited
@[simp] def Reach.enc (e : Reach) : List C:=[.sl 2 (e.Table.map Point.enc),.i e.Volume,.sl 1 (e.Pipe.map yJ)]
-- Reach
def ycy (e : Reach) (l : Int) : Int:=ybm (yg2 e.Table l) fun l=>ybm (yhJ e.Pipe l) fun l=>l
def Reach.small (e : Reach) : Prop:=yfO e.Table ∧ ykx e.Pipe
theorem ymW : yey ycy Reach.small:=by
 intro e l h0 h1
 unfold ycy
 rcases ylh e.Table _ h0 h1 with e0 | ⟨a0,b0,s0⟩
 ·exact .inl (yK (by omega))
 rw [yu a0]
 rcases yeY e.Pipe _ a0 (by omega) with e1 | ⟨a1,b1,s1⟩
 ·exact .inl (yK (by omega))
 rw [yu a1]
 exact .inr ⟨a1,by omega,s0,s1⟩
theorem yvH (e : Reach) (l : Int) (h0 : 0 ≤ l) (h1 : l ≤ 1048576) : yB Tryz.prog 48 [.agg (e.enc.map .c),.c (.i l)] (.c (.i (ycy e l))):=by
 refine yh ypp ?_
 simp -dsimp -implicitDefEqProofs
 refine yc (yuC e.Table _ h0 h1) ?_
 simp -dsimp -implicitDefEqProofs
 refine ⟨fun h=>by simp [ycy,yK h],fun p0=>?_⟩
 have q0:=yin ylh e.Table h0 h1 p0
 refine yc (yjw e.Pipe _ p0 q0) ?_
 simp -dsimp -implicitDefEqProofs
 refine ⟨fun h=>by simp [ycy,yu p0,yK h],fun p1=>?_⟩
 simp [ycy,yu p0,yu p1]
theorem yxy (e : Reach) (hl : Reach.small e) : yB Tryz.prog 54 [.agg (e.enc.map .c)] (.agg (e.enc.map .c)):=by
 refine yh yiN ?_
 simp -dsimp -implicitDefEqProofs
 refine yS (yvM e.Table (hl.1)) ?_
 simp -dsimp -implicitDefEqProofs
 refine yS (ylC e.Pipe (hl.2.1)) ?_
 simp -dsimp -implicitDefEqProofs
theorem yx6 (a b : Reach) : yB Tryz.prog 62 [.agg (a.enc.map .c),.agg (b.enc.map .c)] (.c (.b (decide (a = b)))):=by
 refine yh yn6 ?_
 obtain ⟨a0,a1,a2⟩:=a
 obtain ⟨b0,b1,b2⟩:=b
 simp -dsimp -implicitDefEqProofs [yjl,Reach.mk.injEq]
 refine yc (yvv a0 b0) ?_
 simp -dsimp -implicitDefEqProofs
 refine ⟨fun h=>by simp_all,fun h0=>?_⟩
 refine ⟨fun h=>by simp_all,fun h1=>?_⟩
 refine yc (ykZ a2 b2) ?_
 simp -dsimp -implicitDefEqProofs
 refine ⟨fun h=>by simp_all,fun h2=>?_⟩
 simp_all
def follows (a b : Point) : Bool:=decide (a.X < b.X) && decide (a.Y ≤ b.Y)
def ydq (e : Tariff) (l : Int) : Int:=ybm (yhJ e.PerClass l) fun l=>ybm (yhJ e.Weights l) fun l=>l
theorem ylo : yey ydq Tariff.small:=by
 intro e l h0 h1
 unfold ydq
 rcases yeY e.PerClass _ h0 h1 with e0 | ⟨a0,b0,s0⟩
 ·exact .inl (yK (by omega))
 rw [yu a0]
 rcases yeY e.Weights _ a0 (by omega) with e1 | ⟨a1,b1,s1⟩
 ·exact .inl (yK (by omega))
 rw [yu a1]
 exact .inr ⟨a1,by omega,s0.1,s1.1⟩
theorem yuv (e : Tariff) (l : Int) (h0 : 0 ≤ l) (h1 : l ≤ 1048576) : yB Tryz.prog 18 [.agg (e.enc.map .c),.c (.i l)] (.c (.i (ydq e l))):=by
 refine yh yng ?_
 simp -dsimp -implicitDefEqProofs
 refine yc (yjw e.PerClass _ h0 h1) ?_
 simp -dsimp -implicitDefEqProofs
 refine ⟨fun h=>by simp [ydq,yK h],fun p0=>?_⟩
 have q0:=yin yeY e.PerClass h0 h1 p0
 refine yc (yjw e.Weights _ p0 q0) ?_
 simp -dsimp -implicitDefEqProofs
 refine ⟨fun h=>by simp [ydq,yu p0,yK h],fun p1=>?_⟩
 simp [ydq,yu p0,yu p1]
theorem ymz {α β : Type} {f : α → β} {l : List α} : (l.map f).take l.length = l.map f:=List.take_of_length_le (by simp)
def yaY (t : Train) : List Int:=if yP t then t.yas.map yfy else []
def yfv (t : Train) (k : Nat) : List Int:=(t.yas.take k).map yfy
theorem ygs {t : Train} : yfv t 0 = []:=rfl
theorem ymO {t : Train} {k : Nat} {b : Boat} (h : t.yas[k]? = some b) : yfv t (k + 1) = yfv t k ++ [b.Id]:=by
 unfold yfv; rw [List.take_succ,h,List.map_append]; rfl
theorem yo4 {t : Train} {k : Nat} (h : t.yas.length ≤ k) : yfv t k = t.yas.map yfy:=by
 unfold yfv; rw [List.take_of_length_le h]
theorem yp8 {t : Train} {k : Nat} (h : k ≤ t.yas.length) : (yfv t k).length = k:=by
 unfold yfv; simp; omega
theorem yuz (t : Train) (h : t.small) : yB Tryz.prog 61 [.agg (t.enc.map .c)] (.c (.sl 1 ((yaY t).map yJ))):=by
 refine yh ysm ?_
 simp -dsimp -implicitDefEqProofs
 refine yc (ydp t h) ?_
 cases h1 : yP t with
 | false=>simp -dsimp -implicitDefEqProofs; simp [yaY,h1]
 | true =>
  have tf:=yhY h1
  have h6:=tf.len
  simp -dsimp -implicitDefEqProofs
  refine yS (yya t h) ?_
  simp -dsimp -implicitDefEqProofs
  intro hlen
  refine ymd (k0:=1) 3 1 (by simp) (by simp) (by decide) ?_
  refine yg (ι:=Nat) (fun k=>k ≤ t.yas.length) (fun k=>yO [(3,.own 3 1 (yfv t k).length),(10,.c (.sl 6 (t.yas.map Boat.enc))),(11,.c (.i t.yas.length)),(12,.c (.i k))] [(3,.row 1 ((yfv t k).map yJ))]) (fun k=>t.yas.length - k) 0 (by simp) (by apply yj <;> simp [ygs]) ?_
  rintro k hk
  have hkl:=yp8 hk
  rcases Nat.lt_or_ge k t.yas.length with hlt | hge
  ·obtain ⟨b,hb⟩ : ∃ b,t.yas[k]? = some b:=⟨_,List.getElem?_eq_getElem hlt⟩
   simp -dsimp -implicitDefEqProofs [hb,yG hlt]
   refine ⟨by omega,yw hlt hlen,k + 1,hlt,by omega,?_⟩
   apply yj <;> simp [ymO hb]
  ·simp -dsimp -implicitDefEqProofs [yaB hge]
   rw [ymz,yo4 hge]
   simp [yaY,h1]
theorem yvW (t : Train) (h : t.small) : yB Tryz.prog 53 [.agg (t.enc.map .c)] (.c (.sl 1 ((yaY t).map yJ))):=by
 refine yh ysG ?_
 simp -dsimp -implicitDefEqProofs
 refine yS (yoX t h) ?_
 simp -dsimp -implicitDefEqProofs
 refine yg (ι:=Nat) (fun k=>k ≤ t.yas.length ∧ (k ≠ 0 → yP t = true)) (fun k=>yO [(1,.box 1 0),(3,.own 6 1 (yfv t k).length),(4,.c (.sl 6 (t.yas.map Boat.enc))),(5,.c (.i k))] [(1,.box (t.enc.map .c)),(6,.row 1 ((yfv t k).map yJ))]) (fun k=>t.yas.length - k) 0 (by simp) (by apply yj <;> simp [ygs]) ?_
 rintro k ⟨hk,hok⟩
 have hkl:=yp8 hk
 have fin : yP t = false → k = 0:=fun h1=>by
  rcases Nat.eq_zero_or_pos k with e | e
  ·exact e
  ·rw [hok (by omega)] at h1; cases h1
 rcases Nat.lt_or_ge k t.yas.length with hlt | hge
 ·obtain ⟨b,hb⟩ : ∃ b,t.yas[k]? = some b:=⟨_,List.getElem?_eq_getElem hlt⟩
  simp -dsimp -implicitDefEqProofs [hb,yG hlt]
  intro hlen
  refine yc (yds t h) ?_
  cases h1 : yP t with
  | false =>
   have:=fin h1
   subst this
   simp -dsimp -implicitDefEqProofs
   simp [yaY,h1,ygs]
  | true =>
   have h6:=(yhY h1).len
   simp -dsimp -implicitDefEqProofs [hb,yG hlt]
   refine ⟨by omega,yw hlt hlen,k + 1,by first | exact ⟨hlt,fun _=>h1⟩ | exact hlt,by omega,?_⟩
   apply yj <;> simp [ymO hb]
 ·simp -dsimp -implicitDefEqProofs [yaB hge]
  intro _
  rw [ymz]
  by_cases h1 : yP t = true
  ·rw [yo4 hge]; simp [yaY,h1]
  ·have:=fin (by simpa using h1)
   subst this
   simp [yaY,h1,ygs]
def lens (a b : Nat) (k : Nat) : Int:=if k = 0 then 0 else if k = 1 then a else a + b
def ydk : List Train → Int → Int:=yeE yb2
def ybV : List Train → Prop:=ycs Train.small
theorem yhu : yey ydk ybV:=ygj ye7
theorem ym0 (xs : List Train) (l : Int) (h0 : 0 ≤ l) (h1 : l ≤ 1048576) : yB Tryz.prog 16 [.c (.sl 2 (xs.map Train.enc)),.c (.i l)] (.c (.i (ydk xs l))):=by
 refine yh ynN ?_
 simp -dsimp -implicitDefEqProofs
 intro hl
 have hs : szS xs.length l = if l - xs.length < 0 then -1 else l - xs.length:=rfl
 refine ⟨by unfold maxLen at hl; unfold inI; omega,fun h=>?_,fun h=>?_⟩
 ·simp [ydk,yeE,ybm,hs,h]
 have h' : 0 ≤ l - xs.length:=by omega
 have e0 : ydk xs l = yaw yb2 xs (l - xs.length):=by
  have : szS xs.length l = l - xs.length:=by rw [hs,if_neg (by omega)]
  simp only [ydk,yeE]
  rw [this,yu h']
 refine yg (ι:=Nat × Int) (fun p=>p.1 ≤ xs.length ∧ 0 ≤ p.2 ∧ p.2 ≤ 1048576 ∧ yaw yb2 (xs.drop p.1) p.2 = ydk xs l) (fun p=>yO [(0,.c (.sl 2 (xs.map Train.enc))),(1,.c (.i p.2)),(5,.c (.i p.1))] []) (fun p=>xs.length - p.1) (0,l - xs.length) ⟨by simp,h',by simp only; omega,by simp [e0]⟩ (by apply yj <;> simp) ?_
 rintro ⟨k,q⟩ ⟨hk,hq0,hq1,hf⟩
 simp only at hk hq0 hq1 hf
 rcases Nat.lt_or_ge k xs.length with hlt | hge
 ·obtain ⟨e,he⟩ : ∃ e,xs[k]? = some e:=⟨_,List.getElem?_eq_getElem hlt⟩
  have hd : xs.drop k = e :: xs.drop (k + 1):=by
   rw [List.drop_eq_getElem_cons hlt,(List.getElem?_eq_some_iff.1 he).2]
  rw [hd,yaw] at hf
  simp -dsimp -implicitDefEqProofs [he,yG hlt]
  refine fun _=>yaQ (yhF e q hq0 hq1) (by simp) rfl ?_
  simp -dsimp -implicitDefEqProofs
  refine ⟨fun h=>by rw [← hf,yK h],fun h=>⟨yw hlt hl,k + 1,⟨yb2 e q,?_⟩⟩⟩
  rw [yu h] at hf
  have hle : yb2 e q ≤ 1048576:=by
   rcases ye7 e q hq0 hq1 with e1 | e1
   ·omega
   ·omega
  exact ⟨⟨hlt,h,hle,hf⟩,by omega,by apply yj <;> simp⟩
 ·simp -dsimp -implicitDefEqProofs [yaB hge]
  rw [List.drop_of_length_le hge] at hf
  intro _
  first | simpa [yaw] using hf | simpa [yaw] using hf.symm
theorem ypD (xs : List Train) (hl : ybV xs) : yB Tryz.prog 27 [.c (.sl 2 (xs.map Train.enc))] (.c (.sl 2 (xs.map Train.enc))):=by
 refine yh yij ?_
 simp -dsimp -implicitDefEqProofs
 intro hlen
 have hl1:=hl.1
 refine ⟨by omega,?_⟩
 refine yg (ι:=Nat) (fun k=>k ≤ xs.length) (fun k=>yO [(0,.c (.sl 2 (xs.map Train.enc))),(3,.own 7 2 xs.length),(4,.c (.i k))] [(7,.row 2 (partly Train.enc [.b false,.sl 1 []] xs k))]) (fun k=>xs.length - k) 0 (by simp) (by apply yj <;> simp [yab]) ?_
 rintro k hk
 rcases Nat.lt_or_ge k xs.length with hlt | hge
 ·obtain ⟨e,he⟩ : ∃ e,xs[k]? = some e:=⟨_,List.getElem?_eq_getElem hlt⟩
  have hs:=yaj (f:=Train.enc) (z:=[.b false,.sl 1 []]) he
  have hd:=yav (f:=Train.enc) (z:=[.b false,.sl 1 []]) (n:=2) rfl hlt
  simp only [Train.enc] at hs
  simp -dsimp -implicitDefEqProofs [he,yG hlt]
  refine fun _=>yaP (yjt e (hl.2 e (List.mem_of_getElem? he))) (by simp) rfl ?_
  simp -dsimp -implicitDefEqProofs [yG hlt,yak hk,hd,hs]
  exact ⟨hlt,yw hlt hlen,k + 1,hlt,by omega,by apply yj <;> simp⟩
 ·simp -dsimp -implicitDefEqProofs [yaB hge]
  intro _
  rw [yam hge,List.take_of_length_le (by simp)]
theorem ypz (es fs : List Train) : yB Tryz.prog 37 [.c (.sl 2 (es.map Train.enc)),.c (.sl 2 (fs.map Train.enc))] (.c (.b (decide (es = fs)))):=by
 refine yh ynC ?_
 simp -dsimp -implicitDefEqProofs
 intro hl1 hl2
 refine ⟨fun h e=>h (by rw [e]),fun hlen=>?_⟩
 have hlen' : es.length = fs.length:=by omega
 refine yg (ι:=Nat) (fun k=>k ≤ es.length ∧ es.take k = fs.take k) (fun k=>yO [(0,.c (.sl 2 (es.map Train.enc))),(1,.c (.sl 2 (fs.map Train.enc))),(5,.c (.i k))] []) (fun k=>es.length - k) 0 (by simp) (by apply yj <;> simp) ?_
 rintro k ⟨hk,htk⟩
 rcases Nat.lt_or_ge k es.length with hlt | hge
 ·obtain ⟨e,he⟩ : ∃ e,es[k]? = some e:=⟨_,List.getElem?_eq_getElem hlt⟩
  obtain ⟨f,hf⟩ : ∃ f,fs[k]? = some f:=⟨_,List.getElem?_eq_getElem (by omega)⟩
  simp -dsimp -implicitDefEqProofs [he,hf,yG hlt,yG (hlen' ▸ hlt)]
  intro _
  refine yaC (yjG e f) ?_
  simp -dsimp -implicitDefEqProofs
  refine ⟨fun h=>ybG he hf h,fun h=>⟨yw hlt hl1,k + 1,⟨hlt,yaR he hf htk h⟩,by omega,by apply yj <;> simp⟩⟩
 ·simp -dsimp -implicitDefEqProofs [yaB hge]
  intro _
  exact ybf hge hlen' htk
structure Lock where
 Length : Int
 Width : Int
 SillAbove : Int
 SillBelow : Int
 Base : Int
 Area : Int
 Rate : Int
 Water : Int
 Gate : Int
 Inside : List Train
 deriving DecidableEq,Inhabited
@[simp] def Lock.enc (e : Lock) : List C:=[.i e.Length,.i e.Width,.i e.SillAbove,.i e.SillBelow,.i e.Base,.i e.Area,.i e.Rate,.i e.Water,.i e.Gate,.sl 2 (e.Inside.map Train.enc)]
-- Lock
def ygm (e : Lock) (l : Int) : Int:=ybm (ydk e.Inside l) fun l=>l
def Lock.small (e : Lock) : Prop:=ybV e.Inside
theorem yoa : yey ygm Lock.small:=by
 intro e l h0 h1
 unfold ygm
 rcases yhu e.Inside _ h0 h1 with e0 | ⟨a0,b0,s0⟩
 ·exact .inl (yK (by omega))
 rw [yu a0]
 exact .inr ⟨a0,by omega,s0⟩
theorem yxv (e : Lock) (l : Int) (h0 : 0 ≤ l) (h1 : l ≤ 1048576) : yB Tryz.prog 88 [.agg (e.enc.map .c),.c (.i l)] (.c (.i (ygm e l))):=by
 refine yh yqV ?_
 simp -dsimp -implicitDefEqProofs
 refine yc (ym0 e.Inside _ h0 h1) ?_
 simp -dsimp -implicitDefEqProofs
 refine ⟨fun h=>by simp [ygm,yK h],fun p0=>?_⟩
 simp [ygm,yu p0]
theorem yAz (e : Lock) (hl : Lock.small e) : yB Tryz.prog 96 [.agg (e.enc.map .c)] (.agg (e.enc.map .c)):=by
 refine yh ykg ?_
 simp -dsimp -implicitDefEqProofs
 refine yS (ypD e.Inside hl) ?_
 simp -dsimp -implicitDefEqProofs
theorem yy8 (a b : Lock) : yB Tryz.prog 106 [.agg (a.enc.map .c),.agg (b.enc.map .c)] (.c (.b (decide (a = b)))):=by
 refine yh yq4 ?_
 obtain ⟨a0,a1,a2,a3,a4,a5,a6,a7,a8,a9⟩:=a
 obtain ⟨b0,b1,b2,b3,b4,b5,b6,b7,b8,b9⟩:=b
 simp -dsimp -implicitDefEqProofs [ykf,Lock.mk.injEq]
 refine ⟨fun h=>by simp_all,fun h0=>?_⟩
 refine ⟨fun h=>by simp_all,fun h1=>?_⟩
 refine ⟨fun h=>by simp_all,fun h2=>?_⟩
 refine ⟨fun h=>by simp_all,fun h3=>?_⟩
 refine ⟨fun h=>by simp_all,fun h4=>?_⟩
 refine ⟨fun h=>by simp_all,fun h5=>?_⟩
 refine ⟨fun h=>by simp_all,fun h6=>?_⟩
 refine ⟨fun h=>by simp_all,fun h7=>?_⟩
 refine ⟨fun h=>by simp_all,fun h8=>?_⟩
 refine yc (ypz a9 b9) ?_
 simp -dsimp -implicitDefEqProofs
 refine ⟨fun h=>by simp_all,fun h9=>?_⟩
 simp_all
structure Weir where
 Gates : Int
 Open : Int
 Step : Int
 Crest : Int
 Width : Int
 deriving DecidableEq,Inhabited
@[simp] def Weir.enc (e : Weir) : List C:=[.i e.Gates,.i e.Open,.i e.Step,.i e.Crest,.i e.Width]
-- Weir
theorem yuN (e : Weir) : yB Tryz.prog 97 [.agg (e.enc.map .c)] (.agg (e.enc.map .c)):=by
 refine yh yq2 ?_
 simp -dsimp -implicitDefEqProofs
theorem yAt (a b : Weir) : yB Tryz.prog 107 [.agg (a.enc.map .c),.agg (b.enc.map .c)] (.c (.b (decide (a = b)))):=by
 refine yh yqK ?_
 obtain ⟨a0,a1,a2,a3,a4⟩:=a
 obtain ⟨b0,b1,b2,b3,b4⟩:=b
 simp -dsimp -implicitDefEqProofs [ykd,Weir.mk.injEq]
 refine ⟨fun h=>by simp_all,fun h0=>?_⟩
 refine ⟨fun h=>by simp_all,fun h1=>?_⟩
 refine ⟨fun h=>by simp_all,fun h2=>?_⟩
 refine ⟨fun h=>by simp_all,fun h3=>?_⟩
 refine ⟨fun h=>by simp_all,fun h4=>?_⟩
 simp_all
structure Rule where
 Low : Int
 High : Int
 Flood : Int
 deriving DecidableEq,Inhabited
@[simp] def Rule.enc (e : Rule) : List C:=[.i e.Low,.i e.High,.i e.Flood]
-- Rule
theorem yvb (e : Rule) : yB Tryz.prog 98 [.agg (e.enc.map .c)] (.agg (e.enc.map .c)):=by
 refine yh yqZ ?_
 simp -dsimp -implicitDefEqProofs
theorem yy7 (a b : Rule) : yB Tryz.prog 108 [.agg (a.enc.map .c),.agg (b.enc.map .c)] (.c (.b (decide (a = b)))):=by
 refine yh yqs ?_
 obtain ⟨a0,a1,a2⟩:=a
 obtain ⟨b0,b1,b2⟩:=b
 simp -dsimp -implicitDefEqProofs [yjW,Rule.mk.injEq]
 refine ⟨fun h=>by simp_all,fun h0=>?_⟩
 refine ⟨fun h=>by simp_all,fun h1=>?_⟩
 refine ⟨fun h=>by simp_all,fun h2=>?_⟩
 simp_all
structure Pause where
 From : Int
 Until : Int
 deriving DecidableEq,Inhabited
@[simp] def Pause.enc (e : Pause) : List C:=[.i e.From,.i e.Until]
-- Pause
theorem yr1 (e : Pause) : yB Tryz.prog 138 [.agg (e.enc.map .c)] (.agg (e.enc.map .c)):=by
 refine yh yqk ?_
 simp -dsimp -implicitDefEqProofs
theorem yx9 (a b : Pause) : yB Tryz.prog 142 [.agg (a.enc.map .c),.agg (b.enc.map .c)] (.c (.b (decide (a = b)))):=by
 refine yh ypk ?_
 obtain ⟨a0,a1⟩:=a
 obtain ⟨b0,b1⟩:=b
 simp -dsimp -implicitDefEqProofs [yiD,Pause.mk.injEq]
 refine ⟨fun h=>by simp_all,fun h0=>?_⟩
 refine ⟨fun h=>by simp_all,fun h1=>?_⟩
 simp_all
-- []Pause
def yhi (xs : List Pause) (l : Int) : Int:=szS xs.length l
def yfI : List Pause → Prop:=ycs fun _=>True
theorem ykI : yey yhi yfI:=yhU
theorem yt6 (xs : List Pause) (l : Int) (h0 : 0 ≤ l) (h1 : l ≤ 1048576) : yB Tryz.prog 89 [.c (.sl 2 (xs.map Pause.enc)),.c (.i l)] (.c (.i (yhi xs l))):=by
 refine yh ynK ?_
 simp -dsimp -implicitDefEqProofs [yir,yhi,szS]
 intro hl
 unfold maxLen at hl
 refine ⟨by unfold inI; omega,fun h=>?_,fun h=>?_⟩ <;> intros <;> omega
theorem ywj (xs : List Pause) (hl : yfI xs) : yB Tryz.prog 99 [.c (.sl 2 (xs.map Pause.enc))] (.c (.sl 2 (xs.map Pause.enc))):=by
 refine yh yis ?_
 simp -dsimp -implicitDefEqProofs
 intro hlen
 have hl1:=hl.1
 refine ⟨by omega,?_⟩
 refine yg (ι:=Nat) (fun k=>k ≤ xs.length) (fun k=>yO [(0,.c (.sl 2 (xs.map Pause.enc))),(3,.own 7 2 xs.length),(4,.c (.i k))] [(7,.row 2 (partly Pause.enc [.i 0,.i 0] xs k))]) (fun k=>xs.length - k) 0 (by simp) (by apply yj <;> simp [yab]) ?_
 rintro k hk
 rcases Nat.lt_or_ge k xs.length with hlt | hge
 ·obtain ⟨e,he⟩ : ∃ e,xs[k]? = some e:=⟨_,List.getElem?_eq_getElem hlt⟩
  have hs:=yaj (f:=Pause.enc) (z:=[.i 0,.i 0]) he
  have hd:=yav (f:=Pause.enc) (z:=[.i 0,.i 0]) (n:=2) rfl hlt
  simp only [Pause.enc] at hs
  simp -dsimp -implicitDefEqProofs [he,yG hlt]
  refine fun _=>yaP (yr1 e ) (by simp) rfl ?_
  simp -dsimp -implicitDefEqProofs [yG hlt,yak hk,hd,hs]
  exact ⟨hlt,yw hlt hlen,k + 1,hlt,by omega,by apply yj <;> simp⟩
 ·simp -dsimp -implicitDefEqProofs [yaB hge]
  intro _
  rw [yam hge,List.take_of_length_le (by simp)]
theorem yvs (es fs : List Pause) : yB Tryz.prog 109 [.c (.sl 2 (es.map Pause.enc)),.c (.sl 2 (fs.map Pause.enc))] (.c (.b (decide (es = fs)))):=by
 refine yh ynE ?_
 simp -dsimp -implicitDefEqProofs
 intro hl1 hl2
 refine ⟨fun h e=>h (by rw [e]),fun hlen=>?_⟩
 have hlen' : es.length = fs.length:=by omega
 refine yg (ι:=Nat) (fun k=>k ≤ es.length ∧ es.take k = fs.take k) (fun k=>yO [(0,.c (.sl 2 (es.map Pause.enc))),(1,.c (.sl 2 (fs.map Pause.enc))),(5,.c (.i k))] []) (fun k=>es.length - k) 0 (by simp) (by apply yj <;> simp) ?_
 rintro k ⟨hk,htk⟩
 rcases Nat.lt_or_ge k es.length with hlt | hge
 ·obtain ⟨e,he⟩ : ∃ e,es[k]? = some e:=⟨_,List.getElem?_eq_getElem hlt⟩
  obtain ⟨f,hf⟩ : ∃ f,fs[k]? = some f:=⟨_,List.getElem?_eq_getElem (by omega)⟩
  simp -dsimp -implicitDefEqProofs [he,hf,yG hlt,yG (hlen' ▸ hlt)]
  intro _
  refine yaC (yx9 e f) ?_
  simp -dsimp -implicitDefEqProofs
  refine ⟨fun h=>ybG he hf h,fun h=>⟨yw hlt hl1,k + 1,⟨hlt,yaR he hf htk h⟩,by omega,by apply yj <;> simp⟩⟩
 ·simp -dsimp -implicitDefEqProofs [yaB hge]
  intro _
  exact ybf hge hlen' htk
structure Turn where
 Up : Bool
 Count : Int
 deriving DecidableEq,Inhabited
@[simp] def Turn.enc (e : Turn) : List C:=[.b e.Up,.i e.Count]
-- Turn
theorem ytT (e : Turn) : yB Tryz.prog 100 [.agg (e.enc.map .c)] (.agg (e.enc.map .c)):=by
 refine yh yqv ?_
 simp -dsimp -implicitDefEqProofs
theorem yzT (a b : Turn) : yB Tryz.prog 110 [.agg (a.enc.map .c),.agg (b.enc.map .c)] (.c (.b (decide (a = b)))):=by
 refine yh yqu ?_
 obtain ⟨a0,a1⟩:=a
 obtain ⟨b0,b1⟩:=b
 simp -dsimp -implicitDefEqProofs [yj6,Turn.mk.injEq]
 refine ⟨fun h=>by simp_all,fun h0=>?_⟩
 refine ⟨fun h=>by simp_all,fun h1=>?_⟩
 simp_all
structure CallT where
 Train : Train
 Since : Int
 Booked : Int
 deriving DecidableEq,Inhabited
@[simp] def CallT.enc (e : CallT) : List C:=[.b e.Train.Up,.sl 1 (e.Train.Rows.map yai),.i e.Since,.i e.Booked]
-- Call
def ydJ (e : CallT) (l : Int) : Int:=ybm (yb2 e.Train l) fun l=>l
def CallT.small (e : CallT) : Prop:=e.Train.small
theorem yn9 : yey ydJ CallT.small:=by
 intro e l h0 h1
 unfold ydJ
 rcases ye7 e.Train _ h0 h1 with e0 | ⟨a0,b0,s0⟩
 ·exact .inl (yK (by omega))
 rw [yu a0]
 exact .inr ⟨a0,by omega,s0⟩
theorem yyC (e : CallT) (l : Int) (h0 : 0 ≤ l) (h1 : l ≤ 1048576) : yB Tryz.prog 134 [.agg (e.enc.map .c),.c (.i l)] (.c (.i (ydJ e l))):=by
 refine yh yrq ?_
 simp -dsimp -implicitDefEqProofs
 refine yc (yhF e.Train _ h0 h1) ?_
 simp -dsimp -implicitDefEqProofs
 refine ⟨fun h=>by simp [ydJ,yK h],fun p0=>?_⟩
 simp [ydJ,yu p0]
theorem yzv (e : CallT) (hl : CallT.small e) : yB Tryz.prog 139 [.agg (e.enc.map .c)] (.agg (e.enc.map .c)):=by
 refine yh yjU ?_
 simp -dsimp -implicitDefEqProofs
 refine yS (yjt e.Train hl) ?_
 simp -dsimp -implicitDefEqProofs
theorem yzt (a b : CallT) : yB Tryz.prog 143 [.agg (a.enc.map .c),.agg (b.enc.map .c)] (.c (.b (decide (a = b)))):=by
 refine yh yri ?_
 obtain ⟨a0,a1,a2⟩:=a
 obtain ⟨b0,b1,b2⟩:=b
 simp -dsimp -implicitDefEqProofs [ykh,CallT.mk.injEq]
 refine yc (yjG a0 b0) ?_
 simp -dsimp -implicitDefEqProofs
 refine ⟨fun h=>by simp_all,fun h0=>?_⟩
 refine ⟨fun h=>by simp_all,fun h1=>?_⟩
 refine ⟨fun h=>by simp_all,fun h2=>?_⟩
 simp_all
-- []Call
def yfd : List CallT → Int → Int:=yeE ydJ
def yfi : List CallT → Prop:=ycs CallT.small
theorem yu4 : yey yfd yfi:=ygj yn9
theorem yvO (xs : List CallT) (l : Int) (h0 : 0 ≤ l) (h1 : l ≤ 1048576) : yB Tryz.prog 90 [.c (.sl 4 (xs.map CallT.enc)),.c (.i l)] (.c (.i (yfd xs l))):=by
 refine yh ypT ?_
 simp -dsimp -implicitDefEqProofs
 intro hl
 have hs : szS xs.length l = if l - xs.length < 0 then -1 else l - xs.length:=rfl
 refine ⟨by unfold maxLen at hl; unfold inI; omega,fun h=>?_,fun h=>?_⟩
 ·simp [yfd,yeE,ybm,hs,h]
 have h' : 0 ≤ l - xs.length:=by omega
 have e0 : yfd xs l = yaw ydJ xs (l - xs.length):=by
  have : szS xs.length l = l - xs.length:=by rw [hs,if_neg (by omega)]
  simp only [yfd,yeE]
  rw [this,yu h']
 refine yg (ι:=Nat × Int) (fun p=>p.1 ≤ xs.length ∧ 0 ≤ p.2 ∧ p.2 ≤ 1048576 ∧ yaw ydJ (xs.drop p.1) p.2 = yfd xs l) (fun p=>yO [(0,.c (.sl 4 (xs.map CallT.enc))),(1,.c (.i p.2)),(5,.c (.i p.1))] []) (fun p=>xs.length - p.1) (0,l - xs.length) ⟨by simp,h',by simp only; omega,by simp [e0]⟩ (by apply yj <;> simp) ?_
 rintro ⟨k,q⟩ ⟨hk,hq0,hq1,hf⟩
 simp only at hk hq0 hq1 hf
 rcases Nat.lt_or_ge k xs.length with hlt | hge
 ·obtain ⟨e,he⟩ : ∃ e,xs[k]? = some e:=⟨_,List.getElem?_eq_getElem hlt⟩
  have hd : xs.drop k = e :: xs.drop (k + 1):=by
   rw [List.drop_eq_getElem_cons hlt,(List.getElem?_eq_some_iff.1 he).2]
  rw [hd,yaw] at hf
  simp -dsimp -implicitDefEqProofs [he,yG hlt]
  refine fun _=>yaQ (yyC e q hq0 hq1) (by simp) rfl ?_
  simp -dsimp -implicitDefEqProofs
  refine ⟨fun h=>by rw [← hf,yK h],fun h=>⟨yw hlt hl,k + 1,⟨ydJ e q,?_⟩⟩⟩
  rw [yu h] at hf
  have hle : ydJ e q ≤ 1048576:=by
   rcases yn9 e q hq0 hq1 with e1 | e1
   ·omega
   ·omega
  exact ⟨⟨hlt,h,hle,hf⟩,by omega,by apply yj <;> simp⟩
 ·simp -dsimp -implicitDefEqProofs [yaB hge]
  rw [List.drop_of_length_le hge] at hf
  intro _
  first | simpa [yaw] using hf | simpa [yaw] using hf.symm
theorem yxE (xs : List CallT) (hl : yfi xs) : yB Tryz.prog 101 [.c (.sl 4 (xs.map CallT.enc))] (.c (.sl 4 (xs.map CallT.enc))):=by
 refine yh yiL ?_
 simp -dsimp -implicitDefEqProofs
 intro hlen
 have hl1:=hl.1
 refine ⟨by omega,?_⟩
 refine yg (ι:=Nat) (fun k=>k ≤ xs.length) (fun k=>yO [(0,.c (.sl 4 (xs.map CallT.enc))),(3,.own 7 4 xs.length),(4,.c (.i k))] [(7,.row 4 (partly CallT.enc [.b false,.sl 1 [],.i 0,.i 0] xs k))]) (fun k=>xs.length - k) 0 (by simp) (by apply yj <;> simp [yab]) ?_
 rintro k hk
 rcases Nat.lt_or_ge k xs.length with hlt | hge
 ·obtain ⟨e,he⟩ : ∃ e,xs[k]? = some e:=⟨_,List.getElem?_eq_getElem hlt⟩
  have hs:=yaj (f:=CallT.enc) (z:=[.b false,.sl 1 [],.i 0,.i 0]) he
  have hd:=yav (f:=CallT.enc) (z:=[.b false,.sl 1 [],.i 0,.i 0]) (n:=4) rfl hlt
  simp only [CallT.enc,Train.enc] at hs
  simp -dsimp -implicitDefEqProofs [he,yG hlt]
  refine fun _=>yaP (yzv e (hl.2 e (List.mem_of_getElem? he))) (by simp) rfl ?_
  simp -dsimp -implicitDefEqProofs [yG hlt,yak hk,hd,hs]
  exact ⟨hlt,yw hlt hlen,k + 1,hlt,by omega,by apply yj <;> simp⟩
 ·simp -dsimp -implicitDefEqProofs [yaB hge]
  intro _
  rw [yam hge,List.take_of_length_le (by simp)]
theorem yxI (es fs : List CallT) : yB Tryz.prog 111 [.c (.sl 4 (es.map CallT.enc)),.c (.sl 4 (fs.map CallT.enc))] (.c (.b (decide (es = fs)))):=by
 refine yh yoS ?_
 simp -dsimp -implicitDefEqProofs
 intro hl1 hl2
 refine ⟨fun h e=>h (by rw [e]),fun hlen=>?_⟩
 have hlen' : es.length = fs.length:=by omega
 refine yg (ι:=Nat) (fun k=>k ≤ es.length ∧ es.take k = fs.take k) (fun k=>yO [(0,.c (.sl 4 (es.map CallT.enc))),(1,.c (.sl 4 (fs.map CallT.enc))),(5,.c (.i k))] []) (fun k=>es.length - k) 0 (by simp) (by apply yj <;> simp) ?_
 rintro k ⟨hk,htk⟩
 rcases Nat.lt_or_ge k es.length with hlt | hge
 ·obtain ⟨e,he⟩ : ∃ e,es[k]? = some e:=⟨_,List.getElem?_eq_getElem hlt⟩
  obtain ⟨f,hf⟩ : ∃ f,fs[k]? = some f:=⟨_,List.getElem?_eq_getElem (by omega)⟩
  simp -dsimp -implicitDefEqProofs [he,hf,yG hlt,yG (hlen' ▸ hlt)]
  intro _
  refine yaC (yzt e f) ?_
  simp -dsimp -implicitDefEqProofs
  refine ⟨fun h=>ybG he hf h,fun h=>⟨yw hlt hl1,k + 1,⟨hlt,yaR he hf htk h⟩,by omega,by apply yj <;> simp⟩⟩
 ·simp -dsimp -implicitDefEqProofs [yaB hge]
  intro _
  exact ybf hge hlen' htk
structure Work where
 Lock : Lock
 Weir : Weir
 Rule : Rule
 Pauses : List Pause
 Turn : Turn
 Calls : List CallT
 deriving DecidableEq,Inhabited
@[simp] def Work.enc (e : Work) : List C:=[.i e.Lock.Length,.i e.Lock.Width,.i e.Lock.SillAbove,.i e.Lock.SillBelow,.i e.Lock.Base,.i e.Lock.Area,.i e.Lock.Rate,.i e.Lock.Water,.i e.Lock.Gate,.sl 2 (e.Lock.Inside.map Train.enc),.i e.Weir.Gates,.i e.Weir.Open,.i e.Weir.Step,.i e.Weir.Crest,.i e.Weir.Width,.i e.Rule.Low,.i e.Rule.High,.i e.Rule.Flood,.sl 2 (e.Pauses.map Pause.enc),.b e.Turn.Up,.i e.Turn.Count,.sl 4 (e.Calls.map CallT.enc)]
-- Work
def ycY (e : Work) (l : Int) : Int:=ybm (ygm e.Lock l) fun l=>ybm (yhi e.Pauses l) fun l=>ybm (yfd e.Calls l) fun l=>l
def Work.small (e : Work) : Prop:=e.Lock.small ∧ yfI e.Pauses ∧ yfi e.Calls
theorem yn3 : yey ycY Work.small:=by
 intro e l h0 h1
 unfold ycY
 rcases yoa e.Lock _ h0 h1 with e0 | ⟨a0,b0,s0⟩
 ·exact .inl (yK (by omega))
 rw [yu a0]
 rcases ykI e.Pauses _ a0 (by omega) with e1 | ⟨a1,b1,s1⟩
 ·exact .inl (yK (by omega))
 rw [yu a1]
 rcases yu4 e.Calls _ a1 (by omega) with e2 | ⟨a2,b2,s2⟩
 ·exact .inl (yK (by omega))
 rw [yu a2]
 exact .inr ⟨a2,by omega,s0,s1,s2⟩
theorem yym (e : Work) (l : Int) (h0 : 0 ≤ l) (h1 : l ≤ 1048576) : yB Tryz.prog 49 [.agg (e.enc.map .c),.c (.i l)] (.c (.i (ycY e l))):=by
 refine yh yqH ?_
 simp -dsimp -implicitDefEqProofs
 refine yc (yxv e.Lock _ h0 h1) ?_
 simp -dsimp -implicitDefEqProofs
 refine ⟨fun h=>by simp [ycY,yK h],fun p0=>?_⟩
 have q0:=yin yoa e.Lock h0 h1 p0
 refine yc (yt6 e.Pauses _ p0 q0) ?_
 simp -dsimp -implicitDefEqProofs
 refine ⟨fun h=>by simp [ycY,yu p0,yK h],fun p1=>?_⟩
 have q1:=yin ykI e.Pauses p0 q0 p1
 refine yc (yvO e.Calls _ p1 q1) ?_
 simp -dsimp -implicitDefEqProofs
 refine ⟨fun h=>by simp [ycY,yu p0,yu p1,yK h],fun p2=>?_⟩
 simp [ycY,yu p0,yu p1,yu p2]
theorem yzs (e : Work) (hl : Work.small e) : yB Tryz.prog 56 [.agg (e.enc.map .c)] (.agg (e.enc.map .c)):=by
 refine yh yka ?_
 simp -dsimp -implicitDefEqProofs
 refine yS (yAz e.Lock (hl.1)) ?_
 simp -dsimp -implicitDefEqProofs
 refine yS (yuN e.Weir) ?_
 simp -dsimp -implicitDefEqProofs
 refine yS (yvb e.Rule) ?_
 simp -dsimp -implicitDefEqProofs
 refine yS (ywj e.Pauses (hl.2.1)) ?_
 simp -dsimp -implicitDefEqProofs
 refine yS (ytT e.Turn) ?_
 simp -dsimp -implicitDefEqProofs
 refine yS (yxE e.Calls (hl.2.2)) ?_
 simp -dsimp -implicitDefEqProofs
theorem yy2 (a b : Work) : yB Tryz.prog 64 [.agg (a.enc.map .c),.agg (b.enc.map .c)] (.c (.b (decide (a = b)))):=by
 refine yh yqq ?_
 obtain ⟨a0,a1,a2,a3,a4,a5⟩:=a
 obtain ⟨b0,b1,b2,b3,b4,b5⟩:=b
 simp -dsimp -implicitDefEqProofs [yj1,Work.mk.injEq]
 refine yc (yy8 a0 b0) ?_
 simp -dsimp -implicitDefEqProofs
 refine ⟨fun h=>by simp_all,fun h0=>?_⟩
 refine yc (yAt a1 b1) ?_
 simp -dsimp -implicitDefEqProofs
 refine ⟨fun h=>by simp_all,fun h1=>?_⟩
 refine yc (yy7 a2 b2) ?_
 simp -dsimp -implicitDefEqProofs
 refine ⟨fun h=>by simp_all,fun h2=>?_⟩
 refine yc (yvs a3 b3) ?_
 simp -dsimp -implicitDefEqProofs
 refine ⟨fun h=>by simp_all,fun h3=>?_⟩
 refine yc (yzT a4 b4) ?_
 simp -dsimp -implicitDefEqProofs
 refine ⟨fun h=>by simp_all,fun h4=>?_⟩
 refine yc (yxI a5 b5) ?_
 simp -dsimp -implicitDefEqProofs
 refine ⟨fun h=>by simp_all,fun h5=>?_⟩
 simp_all
def ygY (xs : List Entry) (l : Int) : Int:=szS xs.length l
def ykU : List Entry → Prop:=ycs fun _=>True
theorem ykP : yey ygY ykU:=yhU
theorem yuw (xs : List Entry) (l : Int) (h0 : 0 ≤ l) (h1 : l ≤ 1048576) : yB Tryz.prog 19 [.c (.sl 5 (xs.map Entry.enc)),.c (.i l)] (.c (.i (ygY xs l))):=by
 refine yh ynm ?_
 simp -dsimp -implicitDefEqProofs [yix,ygY,szS]
 intro hl
 unfold maxLen at hl
 refine ⟨by unfold inI; omega,fun h=>?_,fun h=>?_⟩ <;> intros <;> omega
theorem yBf (a b : Way) : yB Tryz.prog 63 [.agg (a.enc.map .c),.agg (b.enc.map .c)] (.c (.b (decide (a = b)))):=by
 refine yh ysB ?_
 obtain ⟨a0,a1⟩:=a
 obtain ⟨b0,b1⟩:=b
 simp -dsimp -implicitDefEqProofs [ykN,Way.mk.injEq]
 refine ⟨fun h=>by simp_all,fun h0=>?_⟩
 refine ⟨fun h=>by simp_all,fun h1=>?_⟩
 simp_all
-- []Reach
def yd8 : List Reach → Int → Int:=yeE ycy
def ycN : List Reach → Prop:=ycs Reach.small
theorem ykV : yey yd8 ycN:=ygj ymW
theorem yuf (xs : List Reach) (l : Int) (h0 : 0 ≤ l) (h1 : l ≤ 1048576) : yB Tryz.prog 12 [.c (.sl 3 (xs.map Reach.enc)),.c (.i l)] (.c (.i (yd8 xs l))):=by
 refine yh ynv ?_
 simp -dsimp -implicitDefEqProofs
 intro hl
 have hs : szS xs.length l = if l - xs.length < 0 then -1 else l - xs.length:=rfl
 refine ⟨by unfold maxLen at hl; unfold inI; omega,fun h=>?_,fun h=>?_⟩
 ·simp [yd8,yeE,ybm,hs,h]
 have h' : 0 ≤ l - xs.length:=by omega
 have e0 : yd8 xs l = yaw ycy xs (l - xs.length):=by
  have : szS xs.length l = l - xs.length:=by rw [hs,if_neg (by omega)]
  simp only [yd8,yeE]
  rw [this,yu h']
 refine yg (ι:=Nat × Int) (fun p=>p.1 ≤ xs.length ∧ 0 ≤ p.2 ∧ p.2 ≤ 1048576 ∧ yaw ycy (xs.drop p.1) p.2 = yd8 xs l) (fun p=>yO [(0,.c (.sl 3 (xs.map Reach.enc))),(1,.c (.i p.2)),(5,.c (.i p.1))] []) (fun p=>xs.length - p.1) (0,l - xs.length) ⟨by simp,h',by simp only; omega,by simp [e0]⟩ (by apply yj <;> simp) ?_
 rintro ⟨k,q⟩ ⟨hk,hq0,hq1,hf⟩
 simp only at hk hq0 hq1 hf
 rcases Nat.lt_or_ge k xs.length with hlt | hge
 ·obtain ⟨e,he⟩ : ∃ e,xs[k]? = some e:=⟨_,List.getElem?_eq_getElem hlt⟩
  have hd : xs.drop k = e :: xs.drop (k + 1):=by
   rw [List.drop_eq_getElem_cons hlt,(List.getElem?_eq_some_iff.1 he).2]
  rw [hd,yaw] at hf
  simp -dsimp -implicitDefEqProofs [he,yG hlt]
  refine fun _=>yaQ (yvH e q hq0 hq1) (by simp) rfl ?_
  simp -dsimp -implicitDefEqProofs
  refine ⟨fun h=>by rw [← hf,yK h],fun h=>⟨yw hlt hl,k + 1,⟨ycy e q,?_⟩⟩⟩
  rw [yu h] at hf
  have hle : ycy e q ≤ 1048576:=by
   rcases ymW e q hq0 hq1 with e1 | e1
   ·omega
   ·omega
  exact ⟨⟨hlt,h,hle,hf⟩,by omega,by apply yj <;> simp⟩
 ·simp -dsimp -implicitDefEqProofs [yaB hge]
  rw [List.drop_of_length_le hge] at hf
  intro _
  first | simpa [yaw] using hf | simpa [yaw] using hf.symm
end Go.Proofs.YtpkpdbohalbbaaaGreat
