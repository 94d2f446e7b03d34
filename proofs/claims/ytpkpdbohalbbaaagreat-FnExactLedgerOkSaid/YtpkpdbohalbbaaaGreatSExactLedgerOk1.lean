/- What the law FnExactLedgerOk stands on: contracts of functions, what each answers as plain Lean, in short form (names, layout). -/
import Derived.Test.YtpkpdbohalbbaaaGreatSExactLedgerOkA3
import Derived.Test.YtpkpdbohalbbaaaGreatProg
import Derived.KernelRfl
import Derived.Test.YtpkpdbohalbbaaaGreatSExactLedgerOkA4
import Derived.Test.YtpkpdbohalbbaaaGreatSExactLedgerOkA7
import Derived.Test.YtpkpdbohalbbaaaGreatSExactLedgerOkA8
import Derived.Test.YtpkpdbohalbbaaaGreatSExactLedgerOkA9
import Derived.Test.YtpkpdbohalbbaaaGreatSExactLedgerOkA10
import Derived.Test.YtpkpdbohalbbaaaGreatSExactLedgerOkA11
import Derived.Test.YtpkpdbohalbbaaaGreatSExactLedgerOkA5
import Derived.Test.YtpkpdbohalbbaaaGreatSExactLedgerOkA6
set_option linter.all false
namespace Go.Proofs.YtpkpdbohalbbaaaGreat
open Go.RowKit
abbrev kI (n : Int) : X:=.k (.c (.i n))
abbrev kB (b : Bool) : X:=.k (.c (.b b))
abbrev iv (d n : Nat) : Ins:=⟨none,some d,.mv (.t n)⟩
abbrev ia (d : Nat) (o : IOp) : Ins:=⟨none,some d,o⟩
abbrev ig (t : Nat) (b : Bool) (d : Nat) (o : IOp) : Ins:=⟨some (t,b),some d,o⟩
abbrev ie (o : IOp) : Ins:=⟨none,none,o⟩
abbrev fA (d k a : Nat) : Ins:=ia d (.fld k (.t a))
abbrev lA (d a : Nat) : Ins:=ia d (.ld1 (.t a))
abbrev dA (d k a : Nat) : Ins:=ia d (.ldn k (.t a))
abbrev xA (d k a b : Nat) : Ins:=ia d (.idx k (.t a) (.t b))
abbrev mA (d : Nat) (n : Int) : Ins:=ia d (.mv (kI n))
abbrev bA (d : Nat) (b : Bool) : Ins:=ia d (.mv (kB b))
abbrev nA (d a : Nat) : Ins:=ia d (.len (.t a))
abbrev pA (d a : Nat) (n : Int) : Ins:=ia d (.bin .add (.t a) (kI n))
abbrev tA (d a b : Nat) : Ins:=ia d (.bin .lss (.t a) (.t b))
abbrev oA (d : Nat) (o : BinOp) (a b : Nat) : Ins:=ia d (.bin o (.t a) (.t b))
abbrev oI (d : Nat) (o : BinOp) (a : Nat) (n : Int) : Ins:=ia d (.bin o (.t a) (kI n))
abbrev nN (d a : Nat) : Ins:=ia d (.not (.t a))
abbrev c1 (d f a : Nat) : Ins:=ia d (.call f [.t a])
abbrev c2 (d f a b : Nat) : Ins:=ia d (.call f [.t a,.t b])
abbrev c3 (d f a b c : Nat) : Ins:=ia d (.call f [.t a,.t b,.t c])
abbrev bZ (d k : Nat) : Ins:=ia d (.bsl k [])
abbrev bS (d k a : Nat) : Ins:=ia d (.bsl k [.t a])
abbrev aP (d k b x y : Nat) : Ins:=ia d (.app k b (.t x) (.t y))
abbrev pT (d a b : Nat) : Ins:=ia d (.pick (.t a) (kB true) (.t b))
abbrev pF (d a b : Nat) : Ins:=ia d (.pick (.t a) (.t b) (kB false))
abbrev eX (d i a : Nat) : Ins:=ia d (.ext i (.t a))
abbrev bX (d n a : Nat) : Ins:=ia d (.box n (.t a))
abbrev mN (d k : Nat) : Ins:=ia d (.mv (.k (.nil k)))
abbrev tS (a b : Nat) : Ins:=ie (.st1 (.t a) (.t b))
abbrev tN (n a b : Nat) : Ins:=ie (.stn n (.t a) (.t b))
abbrev gA (c : Nat) (b : Bool) (d k a : Nat) : Ins:=ig c b d (.fld k (.t a))
abbrev hA (c : Nat) (b : Bool) (d a : Nat) : Ins:=ig c b d (.ld1 (.t a))
abbrev g8 (c : Nat) (b : Bool) (d a : Nat) : Ins:=ig c b d (.mv (.t a))
abbrev g9 (c : Nat) (b : Bool) (d a : Nat) : Ins:=ig c b d (.not (.t a))
abbrev q0 (i : Ins) : RIns:=⟨0,false,[],i⟩
abbrev q1 (i : Ins) : RIns:=⟨1,false,[],i⟩
abbrev q2 (i : Ins) : RIns:=⟨2,false,[],i⟩
abbrev q3 (i : Ins) : RIns:=⟨0,true,[],i⟩
abbrev q4 (k : Nat) (n : Bool) (c : List Nat) (i : Ins) : RIns:=⟨k,n,c,i⟩
abbrev rR (l : List Ins) : SC:=.seq (.reg l) .ret
abbrev rS (l : List Ins) (c : SC) : SC:=.seq (.reg l) c
abbrev rQ (l : List Ins) (c : SC) : SC:=.seq (.regq l) c
abbrev rE (l : List RIns) (c : SC) : SC:=.seq (.rege l) c
abbrev cX (t n : Nat) : SC:=.cond (.t t) .skip (.exit n)
abbrev cI (t : Nat) (c : SC) : SC:=.cond (.t t) c .skip
abbrev cT (t : Nat) (a b : SC) : SC:=.cond (.t t) a b
abbrev iS (l : List Ins) (t : Nat) (c d : SC) : SC:=.seq (.seq (.reg l) (.cond (.t t) c .skip)) d
abbrev xS (l : List Ins) (t n : Nat) (d : SC) : SC:=.seq (.seq (.reg l) (.cond (.t t) .skip (.exit n))) d
abbrev bL (n : Nat) (c : SC) : SC:=.block n (.loop c)
theorem yA {P : Program} {f N : Nat} {c : SC} {rs : List RS} {fn : Func} (fl : Option (List Nat)) (hf : P.funcs[f]? = some fn) (h : (fn.ntmps,fn.body.bind (ygf fl P N),yep P fn.results.toList,decide (N ≤ ycZ)) = (N,some c,some rs,true)) : Has P f N c rs:=by
 simp only [Prod.mk.injEq,decide_eq_true_eq] at h
 obtain ⟨h1,h2,h3,h4⟩:=h
 cases hb : fn.body with
 | none=>rw [hb] at h2; cases h2
 | some code=>rw [hb] at h2; exact ⟨h4,fn,code,hf,hb,h1,⟨fl,h2⟩,h3⟩
section
variable {P : Program} {f N d : Nat} {c : SC} {rs : List RS} {avs args : List AV} {res : AV} {s : St} {K : St → Prop} {k : AV → Prop} {ob : Nat → Obj} {dd : Option Nat} {kN : St → Prop} {T : Tag (k,kN)} {T1 : Tag k}
theorem yh (hf : Has P f N c rs) (H : wpS P N c (yh2 args) (fun e s=>match e with | .exit _=>False | _=>yml s rs res)) (hN : args.length ≤ N:=by simp) : yB P f args res:=ywS hf hN fun _=>H
theorem yJu (hf : Has P f N c rs) (H : ygO args → wpS P N c (yh2 args) (fun e s=>match e with | .exit _=>False | _=>yml s rs res)) (hN : args.length ≤ N:=by simp) : yB P f args res:=ywS hf hN H
theorem yan (hf : Has P f N c rs) (H : wpS P N c (yh2 args) (fun e s=>match e with | .exit _=>False | _=>yiF s rs res)) (hN : args.length ≤ N:=by simp) : ybh P f args res:=yv3 hf hN fun _=>H
theorem yc (hp : yB P f args res) (hK : K (s.put dd res)) (ho : ybD s avs args:=by simp) (hs : res.scalar = true:=by rfl) : yfo P f avs dd s K:=yaQ hp ho hs hK
theorem yS (hp : yB P f args res) (hK : K (s.put dd res)) (ho : ybD s avs args:=by simp) (hs : avs.all AV.ycJ = true:=by rfl) : yfo P f avs dd s K:=yaP hp ho hs hK
theorem yaC (hp : yB P f args res) (hK : k res) (ho : ybD (ycF ob) avs args:=by simp) (hs : res.scalar = true:=by rfl) : ysj P f avs ob k T1:=⟨_,_,hp,ho,.inr hs,hK⟩
theorem yyA (hp : yB P f args res) (hK : k res) (ho : ybD (ycF ob) avs args:=by simp) (hs : avs.all AV.ycJ = true:=by rfl) : ysj P f avs ob k T1:=⟨_,_,hp,ho,.inl hs,hK⟩
theorem yb1 (hp : yB P f args res) (hK : k res) (ho : ybD s avs args:=by simp) (hs : res.scalar = true:=by rfl) : ylY P f avs dd s k kN T:=ya2 hp ho (.inr hs) hK
theorem yY (hp : yB P f args res) (hK : k res) (ho : ybD s avs args:=by simp) (hs : avs.all AV.ycJ = true:=by rfl) : ylY P f avs dd s k kN T:=ya2 hp ho (.inl hs) hK
end
attribute [simp] AV.ygy AV.ymf Obj.ygy
theorem ylx : Has Tryz.prog 5 60 (rS [bX 2 16 0,mA 4 0] (rS [fA 5 1 2,lA 6 5,iv 7 1,c2 8 12 6 7,iv 1 8] (iS [iv 9 1,oI 10 .lss 9 0] 10 (rR [mA 4 (-1)]) (rS [fA 11 2 2,lA 12 11,iv 13 1,c2 14 13 12 13,iv 1 14] (iS [iv 15 1,oI 16 .lss 15 0] 16 (rR [mA 4 (-1)]) (rS [fA 17 3 2,lA 18 17,iv 19 1,c2 20 14 18 19,iv 1 20] (iS [iv 21 1,oI 22 .lss 21 0] 22 (rR [mA 4 (-1)]) (rS [fA 23 4 2,lA 24 23,iv 25 1,c2 26 15 24 25,iv 1 26] (iS [iv 27 1,oI 28 .lss 27 0] 28 (rR [mA 4 (-1)]) (rS [fA 29 5 2,lA 30 29,iv 31 1,c2 32 16 30 31,iv 1 32] (iS [iv 33 1,oI 34 .lss 33 0] 34 (rR [mA 4 (-1)]) (rS [fA 35 6 2,lA 36 35,iv 37 1,c2 38 17 36 37,iv 1 38] (iS [iv 39 1,oI 40 .lss 39 0] 40 (rR [mA 4 (-1)]) (rS [fA 41 7 2,dA 42 4 41,iv 43 1,c2 44 18 42 43,iv 1 44] (iS [iv 45 1,oI 46 .lss 45 0] 46 (rR [mA 4 (-1)]) (rS [fA 47 11 2,lA 48 47,iv 49 1,c2 50 19 48 49,iv 1 50] (iS [iv 51 1,oI 52 .lss 51 0] 52 (rR [mA 4 (-1)]) (rS [fA 53 12 2,lA 54 53,iv 55 1,c2 56 20 54 55,iv 1 56] (iS [iv 57 1,oI 58 .lss 57 0] 58 (rR [mA 4 (-1)]) (rR [iv 59 1,iv 4 59])))))))))))))))))))) [.t 4]:=yA none Tryz.func5 (by kernel_rfl)
theorem yUT : Has Tryz.prog 6 28 (rS [bX 1 16 0,bA 2 false] (rS [dA 5 16 1,c1 6 21 5,iv 3 6] (.seq (rS [mA 4 0] (bL 0 (xS [iv 7 4,fA 8 6 1,lA 9 8,nA 10 9,tA 11 7 10] 11 0 (.seq (.block 1 (rS [iv 14 3,fA 15 6 1,lA 16 15,iv 17 4,xA 18 1 16 17,lA 19 18,c2 20 22 14 19,oI 21 .neq 20 1] (cI 21 (rR [bA 2 false])))) (.reg [iv 12 4,pA 13 12 1,iv 4 13]))))) (rR [iv 22 3,nA 23 22,fA 24 6 1,lA 25 24,nA 26 25,oA 27 .eql 23 26,iv 2 27])))) [.t 2]:=yA none Tryz.func6 (by kernel_rfl)
theorem ygH : Has Tryz.prog 7 53 (rS [bX 1 16 0,ia 2 (.alloc [.c (.i 0),.nil 3,.nil 2,.nil 22,.nil 1,.nil 2,.nil 1,.c (.i 0),.c (.i 0),.nil 1,.nil 1,.nil 5,.nil 4,.c (.i 0),.c (.i 0),.c (.i 0)])] (rS [ia 3 (.alloc [.c (.i 0),.nil 3,.nil 2,.nil 22,.nil 1,.nil 2,.nil 1,.c (.i 0),.c (.i 0),.nil 1,.nil 1,.nil 5,.nil 4,.c (.i 0),.c (.i 0),.c (.i 0)])] (rS [fA 4 0 1,lA 5 4,fA 6 0 3,tS 6 5] (rS [fA 7 1 1,lA 8 7,c1 9 23 8,fA 10 1 3,tS 10 9] (rS [fA 11 2 1,lA 12 11,c1 13 24 12,fA 14 2 3,tS 14 13] (rS [fA 15 3 1,lA 16 15,c1 17 25 16,fA 18 3 3,tS 18 17] (rS [fA 19 4 1,lA 20 19,c1 21 26 20,fA 22 4 3,tS 22 21] (rS [fA 23 5 1,lA 24 23,c1 25 27 24,fA 26 5 3,tS 26 25] (rS [fA 27 6 1,lA 28 27,c1 29 28 28,fA 30 6 3,tS 30 29] (rS [fA 31 7 1,dA 32 4 31,c1 33 29 32,fA 34 7 3,tN 4 34 33] (rS [fA 35 11 1,lA 36 35,c1 37 30 36,fA 38 11 3,tS 38 37] (rS [fA 39 12 1,lA 40 39,c1 41 31 40,fA 42 12 3,tS 42 41] (rS [fA 43 13 1,lA 44 43,fA 45 13 3,tS 45 44] (rS [fA 46 14 1,lA 47 46,fA 48 14 3,tS 48 47] (rS [fA 49 15 1,lA 50 49,fA 51 15 3,tS 51 50] (rR [dA 52 16 3,tN 16 2 52])))))))))))))))) [.cl 2 16]:=yA none Tryz.func7 (by kernel_rfl)
theorem yUU : Has Tryz.prog 8 41 (rS [bX 1 16 0,bA 2 false] (rS [dA 9 16 1,c1 10 32 9,iv 3 10] (iS [iv 11 3,nA 12 11,fA 13 6 1,lA 14 13,nA 15 14,oA 16 .neq 12 15] 16 (rR [bA 2 false]) (rS [ia 17 .mkm,iv 4 17] (.seq (rS [iv 18 3,nA 19 18,mA 20 0] (bL 0 (rS [tA 21 20 19] (.seq (cX 21 0) (.seq (.block 1 (rS [xA 22 1 18 20,lA 23 22,iv 6 23] (.reg [iv 24 4,iv 25 6,ia 26 (.mlk (.t 24) (.t 25)),pA 27 26 1,ie (.mup (.t 24) (.t 25) (.t 27))]))) (.reg [pA 28 20 1,iv 20 28])))))) (.seq (rS [fA 29 6 1,lA 30 29,nA 31 30,mA 32 0] (bL 2 (rS [tA 33 32 31] (.seq (cX 33 2) (.seq (.block 3 (rS [xA 34 1 30 32,lA 35 34,iv 8 35] (rS [iv 36 4,iv 37 8,ia 38 (.mlk (.t 36) (.t 37)),oI 39 .neq 38 1] (cI 39 (rR [bA 2 false]))))) (.reg [pA 40 32 1,iv 32 40])))))) (rR [bA 2 true]))))))) [.t 2]:=yA none Tryz.func8 (by kernel_rfl)
def ygr : SC:=rS [bX 2 16 0,bX 3 16 1,bA 4 false] (iS [fA 5 0 2,lA 6 5,fA 7 0 3,lA 8 7,oA 9 .neq 6 8] 9 (rR [bA 4 false]) (iS [fA 10 1 2,lA 11 10,fA 12 1 3,lA 13 12,c2 14 33 11 13,nN 15 14] 15 (rR [bA 4 false]) (iS [fA 16 2 2,lA 17 16,fA 18 2 3,lA 19 18,c2 20 34 17 19,nN 21 20] 21 (rR [bA 4 false]) (iS [fA 22 3 2,lA 23 22,fA 24 3 3,lA 25 24,c2 26 35 23 25,nN 27 26] 27 (rR [bA 4 false]) (iS [fA 28 4 2,lA 29 28,fA 30 4 3,lA 31 30,c2 32 36 29 31,nN 33 32] 33 (rR [bA 4 false]) (iS [fA 34 5 2,lA 35 34,fA 36 5 3,lA 37 36,c2 38 37 35 37,nN 39 38] 39 (rR [bA 4 false]) (iS [fA 40 6 2,lA 41 40,fA 42 6 3,lA 43 42,c2 44 38 41 43,nN 45 44] 45 (rR [bA 4 false]) (iS [fA 46 7 2,dA 47 4 46,fA 48 7 3,dA 49 4 48,c2 50 39 47 49,nN 51 50] 51 (rR [bA 4 false]) (iS [fA 52 11 2,lA 53 52,fA 54 11 3,lA 55 54,c2 56 40 53 55,nN 57 56] 57 (rR [bA 4 false]) (iS [fA 58 12 2,lA 59 58,fA 60 12 3,lA 61 60,c2 62 41 59 61,nN 63 62] 63 (rR [bA 4 false]) (iS [fA 64 13 2,lA 65 64,fA 66 13 3,lA 67 66,oA 68 .neq 65 67] 68 (rR [bA 4 false]) (iS [fA 69 14 2,lA 70 69,fA 71 14 3,lA 72 71,oA 73 .neq 70 72] 73 (rR [bA 4 false]) (iS [fA 74 15 2,lA 75 74,fA 76 15 3,lA 77 76,oA 78 .neq 75 77] 78 (rR [bA 4 false]) (rR [bA 4 true]))))))))))))))
theorem ylL : Has Tryz.prog 9 79 ygr [.t 4]:=yA none Tryz.func9 (by kernel_rfl)
theorem ynv : Has Tryz.prog 12 27 (rS [mA 4 0] (rS [iv 6 1,iv 7 0,nA 8 7,oA 9 .sub 6 8,iv 1 9] (iS [iv 10 1,oI 11 .lss 10 0] 11 (rR [mA 4 (-1)]) (.seq (rS [mA 5 0] (bL 0 (xS [iv 12 5,iv 13 0,nA 14 13,tA 15 12 14] 15 0 (.seq (.block 1 (rS [iv 18 0,iv 19 5,xA 20 3 18 19,dA 21 3 20,iv 22 1,c2 23 48 21 22,iv 1 23] (rS [iv 24 1,oI 25 .lss 24 0] (cI 25 (rR [mA 4 (-1)]))))) (.reg [iv 16 5,pA 17 16 1,iv 5 17]))))) (rR [iv 26 1,iv 4 26]))))) [.t 4]:=yA none Tryz.func12 (by kernel_rfl)
def yj9 : SC:=rS [mA 4 0] (rS [iv 5 1,iv 6 0,nA 7 6,oA 8 .sub 5 7,iv 1 8] (iS [iv 9 1,oI 10 .lss 9 0] 10 (rR [mA 4 (-1)]) (rR [iv 11 1,iv 4 11])))
theorem yqz : Has Tryz.prog 13 12 yj9 [.t 4]:=yA none Tryz.func13 (by kernel_rfl)
theorem ynw : Has Tryz.prog 71 83 (rS [bX 1 16 0,bA 2 false] (iS [fA 7 5 1,lA 8 7,nA 9 8,oI 10 .gtr 9 500,iv 11 10,gA 11 false 12 6 1,hA 11 false 13 12,ig 11 false 14 (.len (.t 13)),ig 11 false 15 (.bin .gtr (.t 14) (kI 2000)),pT 16 11 15,iv 17 16,gA 17 false 18 12 1,hA 17 false 19 18,ig 17 false 20 (.len (.t 19)),ig 17 false 21 (.bin .gtr (.t 20) (kI 500)),pT 22 17 21] 22 (rR [bA 2 false]) (.seq (rS [mA 3 0] (bL 0 (xS [iv 23 3,fA 24 5 1,lA 25 24,nA 26 25,tA 27 23 26] 27 0 (.seq (.block 1 (rS [fA 30 5 1,lA 31 30,iv 32 3,xA 33 2 31 32,dA 34 2 33,c1 35 94 34,nN 36 35] (cI 36 (rR [bA 2 false])))) (.reg [iv 28 3,pA 29 28 1,iv 3 29]))))) (.seq (rS [mA 4 0] (bL 2 (xS [iv 37 4,fA 38 6 1,lA 39 38,nA 40 39,tA 41 37 40] 41 2 (.seq (.block 3 (rS [fA 44 6 1,lA 45 44,iv 46 4,xA 47 1 45 46,lA 48 47,ia 49 (.call 69 [.t 48,kI 1,kI 9999]),nN 50 49] (cI 50 (rR [bA 2 false])))) (.reg [iv 42 4,pA 43 42 1,iv 4 43]))))) (.seq (rS [mA 5 0] (bL 4 (xS [iv 51 5,fA 52 12 1,lA 53 52,nA 54 53,tA 55 51 54] 55 4 (.seq (.block 5 (rS [fA 58 12 1,lA 59 58,iv 60 5,xA 61 4 59 60,dA 62 4 61,ia 6 (.alloc [.c (.i 0),.c (.i 0),.c (.b false),.nil 1]),tN 4 6 62] (rS [fA 63 0 6,lA 64 63,ia 65 (.call 69 [.t 64,kI 0,kI 1000000]),nN 66 65,iv 67 66,gA 67 false 68 1 6,hA 67 false 69 68,gA 67 false 70 3 1,hA 67 false 71 70,ig 67 false 72 (.len (.t 71)),ig 67 false 73 (.bin .sub (.t 72) (kI 1)),ig 67 false 74 (.call 69 [.t 69,kI 0,.t 73]),g9 67 false 75 74,pT 76 67 75,iv 77 76,gA 77 false 78 2 6,ig 77 false 79 (.ldn 2 (.t 78)),ig 77 false 80 (.call 94 [.t 79]),g9 77 false 81 80,pT 82 77 81] (cI 82 (rR [bA 2 false]))))) (.reg [iv 56 5,pA 57 56 1,iv 5 57]))))) (rR [bA 2 true])))))) [.t 2]:=yA none Tryz.func71 (by kernel_rfl)
theorem ynI : Has Tryz.prog 72 63 (rS [bX 1 4 0,bA 2 false] (iS [fA 6 0 1,lA 7 6,ia 8 (.call 69 [.t 7,kI 0,kI 10000]),nN 9 8,iv 10 9,gA 10 false 11 1 1,hA 10 false 12 11,ig 10 false 13 (.call 69 [.t 12,kI 0,kI 100]),g9 10 false 14 13,pT 15 10 14,iv 16 15,gA 16 false 17 2 1,hA 16 false 18 17,ig 16 false 19 (.len (.t 18)),ig 16 false 20 (.bin .neq (.t 19) (kI 3)),pT 21 16 20,iv 22 21,gA 22 false 23 3 1,hA 22 false 24 23,ig 22 false 25 (.len (.t 24)),ig 22 false 26 (.call 69 [.t 25,kI 1,kI 11]),g9 22 false 27 26,pT 28 22 27] 28 (rR [bA 2 false]) (.seq (rS [mA 3 0] (bL 0 (xS [iv 29 3,oI 30 .lss 29 3] 30 0 (.seq (.block 1 (rS [fA 33 2 1,lA 34 33,iv 35 3,xA 36 1 34 35,lA 37 36,ia 38 (.call 69 [.t 37,kI 0,kI 10000]),nN 39 38] (cI 39 (rR [bA 2 false])))) (.reg [iv 31 3,pA 32 31 1,iv 3 32]))))) (rS [mA 4 0] (.seq (rS [mA 5 0] (bL 2 (xS [iv 40 5,fA 41 3 1,lA 42 41,nA 43 42,tA 44 40 43] 44 2 (.seq (.block 3 (iS [fA 47 3 1,lA 48 47,iv 49 5,xA 50 1 48 49,lA 51 50,ia 52 (.call 69 [.t 51,kI 0,kI 1000]),nN 53 52] 53 (rR [bA 2 false]) (.reg [iv 54 4,fA 55 3 1,lA 56 55,iv 57 5,xA 58 1 56 57,lA 59 58,oA 60 .add 54 59,iv 4 60]))) (.reg [iv 45 5,pA 46 45 1,iv 5 46]))))) (rR [iv 61 4,oI 62 .gtr 61 0,iv 2 62])))))) [.t 2]:=yA none Tryz.func72 (by kernel_rfl)
theorem yro : Has Tryz.prog 73 19 (rS [bA 2 false] (.seq (rS [mA 3 0] (bL 0 (xS [iv 4 3,iv 5 0,nA 6 5,tA 7 4 6] 7 0 (.seq (.block 1 (rS [iv 10 0,iv 11 3,xA 12 5 10 11,dA 13 5 12,c1 14 118 13,nN 15 14] (cI 15 (rR [bA 2 false])))) (.reg [iv 8 3,pA 9 8 1,iv 3 9]))))) (rR [iv 16 0,nA 17 16,oI 18 .leq 17 2000,iv 2 18]))) [.t 2]:=yA none Tryz.func73 (by kernel_rfl)
theorem yN7 : Has Tryz.prog 74 28 (rS [bX 1 16 0,mA 2 0] (iS [dA 5 16 1,c1 6 42 5,nN 7 6] 7 (rR [mA 2 0]) (rS [fA 8 1 1,lA 9 8,c1 10 119 9,iv 3 10] (.seq (rS [mA 4 0] (bL 0 (xS [iv 11 4,fA 12 3 1,lA 13 12,nA 14 13,tA 15 11 14] 15 0 (.seq (.block 1 (.reg [iv 18 3,fA 19 3 1,lA 20 19,iv 21 4,xA 22 22 20 21,fA 23 0 22,fA 24 7 23,lA 25 24,oA 26 .add 18 25,iv 3 26])) (.reg [iv 16 4,pA 17 16 1,iv 4 17]))))) (rR [iv 27 3,iv 2 27]))))) [.t 2]:=yA none Tryz.func74 (by kernel_rfl)
theorem yS5 : Has Tryz.prog 75 24 (rS [mN 4 5,bA 5 false] (rS [bZ 7 5,iv 8 0,aP 9 5 40 7 8,iv 10 1,aP 11 5 40 9 10,iv 6 11] (iS [iv 12 0,c1 13 73 12,nN 14 13,iv 15 14,g8 15 false 16 6,ig 15 false 17 (.call 73 [.t 16]),g9 15 false 18 17,pT 19 15 18] 19 (rR [bZ 20 5,iv 21 0,aP 22 5 40 20 21,iv 4 22,bA 5 false]) (rR [iv 23 6,iv 4 23,bA 5 true])))) [.t 4,.t 5]:=yA none Tryz.func75 (by kernel_rfl)
theorem yS4 : Has Tryz.prog 76 58 (rS [bX 3 4 0,bX 4 2 1,mN 6 5] (rS [bZ 10 5,iv 7 10] (iS [dA 11 4 3,c1 12 72 11,nN 13 12,iv 14 13,ig 14 false 15 (.ldn 2 (.t 4)),ig 14 false 16 (.call 94 [.t 15]),g9 14 false 17 16,pT 18 14 17,iv 19 18,g8 19 false 20 2,ig 19 false 21 (.call 69 [.t 20,kI 0,kI 1000000]),g9 19 false 22 21,pT 23 19 22] 23 (rR [iv 24 7,iv 6 24]) (rQ [dA 25 4 3,dA 26 2 4,c2 27 121 25 26,fA 28 3 3,lA 29 28,c2 30 120 27 29,iv 8 30] (.seq (rS [mA 9 0] (bL 0 (xS [iv 31 9,iv 32 8,nA 33 32,tA 34 31 33] 34 0 (.seq (.block 1 (rS [iv 37 8,iv 38 9,xA 39 1 37 38,lA 40 39,oI 41 .gtr 40 0] (cI 41 (.rege [q0 (iv 42 7),q0 (iv 43 9),q0 (pA 44 43 1),q0 (iv 45 8),q0 (iv 46 9),q0 (xA 47 1 45 46),q0 (lA 48 47),q0 (iv 49 2),q0 (dA 50 2 4),q0 (c1 51 53 50),q0 (ia 52 (.idx 1 (.t 51) (kI 0))),q0 (lA 53 52),q0 (ia 54 (.bld [.c (.i 0),.c (.i 0),.c (.i 0),.c (.i 0),.c (.i 0)] [(0,1,kI 0),(1,1,.t 44),(2,1,.t 48),(3,1,.t 49),(4,1,.t 53)])),q1 (bS 55 5 54),q2 (aP 56 5 40 42 55),q0 (iv 7 56)])))) (.reg [iv 35 9,pA 36 35 1,iv 9 36]))))) (rR [iv 57 7,iv 6 57])))))) [.t 6]:=yA none Tryz.func76 (by kernel_rfl)
theorem ypQ : Has Tryz.prog 78 90 (rS [bX 1 16 0,bA 2 false] (rS [fA 10 1 1,lA 11 10,nA 12 11,iv 3 12] (iS [fA 13 1 1,lA 14 13,c1 15 122 14,nN 16 15,iv 17 16,g8 17 false 18 3,ig 17 false 19 (.bin .lss (.t 18) (kI 2)),pT 20 17 19,iv 21 20,gA 21 false 22 2 1,hA 21 false 23 22,ig 21 false 24 (.len (.t 23)),g8 21 false 25 3,ig 21 false 26 (.bin .neq (.t 24) (.t 25)),pT 27 21 26,iv 28 27,gA 28 false 29 4 1,hA 28 false 30 29,ig 28 false 31 (.len (.t 30)),g8 28 false 32 3,ig 28 false 33 (.bin .neq (.t 31) (.t 32)),pT 34 28 33,iv 35 34,gA 35 false 36 3 1,hA 35 false 37 36,ig 35 false 38 (.len (.t 37)),g8 35 false 39 3,ig 35 false 40 (.bin .sub (.t 39) (kI 1)),ig 35 false 41 (.bin .neq (.t 38) (.t 40)),pT 42 35 41] 42 (rR [bA 2 false]) (.seq (rS [fA 43 2 1,lA 44 43,nA 45 44,mA 46 0] (bL 0 (rS [tA 47 46 45] (.seq (cX 47 0) (.seq (.block 1 (rS [iv 48 46,xA 49 2 44 46,dA 50 2 49,ia 5 (.alloc [.c (.i 0),.c (.i 0)]),iv 4 48,tN 2 5 50] (iS [dA 51 2 5,c1 52 123 51,nN 53 52,iv 54 53,gA 54 false 55 4 1,hA 54 false 56 55,g8 54 false 57 4,ig 54 false 58 (.idx 1 (.t 56) (.t 57)),hA 54 false 59 58,ig 54 false 60 (.len (.t 59)),ig 54 false 61 (.bin .gtr (.t 60) (kI 24)),pT 62 54 61] 62 (rR [bA 2 false]) (rS [fA 63 4 1,lA 64 63,iv 65 4,xA 66 1 64 65,lA 67 66,nA 68 67,mA 69 0] (bL 2 (rS [tA 70 69 68] (.seq (cX 70 2) (.seq (.block 3 (rS [xA 71 3 67 69,dA 72 3 71,ia 7 (.alloc [.c (.b false),.nil 1,.c (.i 0)]),tN 3 7 72] (rS [dA 73 3 7,dA 74 2 5,c2 75 124 73 74,nN 76 75] (cI 76 (rR [bA 2 false]))))) (.reg [pA 77 69 1,iv 69 77]))))))))) (.reg [pA 78 46 1,iv 46 78])))))) (.seq (rS [fA 79 3 1,lA 80 79,nA 81 80,mA 82 0] (bL 4 (rS [tA 83 82 81] (.seq (cX 83 4) (.seq (.block 5 (rS [xA 84 22 80 82,dA 85 22 84,ia 9 (.alloc [.c (.i 0),.c (.i 0),.c (.i 0),.c (.i 0),.c (.i 0),.c (.i 0),.c (.i 0),.c (.i 0),.c (.i 0),.nil 2,.c (.i 0),.c (.i 0),.c (.i 0),.c (.i 0),.c (.i 0),.c (.i 0),.c (.i 0),.c (.i 0),.nil 2,.c (.b false),.c (.i 0),.nil 4]),tN 22 9 85] (rS [dA 86 22 9,c1 87 125 86,nN 88 87] (cI 88 (rR [bA 2 false]))))) (.reg [pA 89 82 1,iv 82 89])))))) (rR [bA 2 true])))))) [.t 2]:=yA none Tryz.func78 (by kernel_rfl)
theorem ynP : Has Tryz.prog 80 63 (rS [bX 1 4 0,bA 2 false] (iS [fA 8 0 1,lA 9 8,ia 10 (.call 77 [.t 9,kI 0,kI 10000]),nN 11 10,iv 12 11,gA 12 false 13 1 1,hA 12 false 14 13,ig 12 false 15 (.call 77 [.t 14,kI 0,kI 100]),g9 12 false 16 15,pT 17 12 16,iv 18 17,gA 18 false 19 2 1,hA 18 false 20 19,ig 18 false 21 (.len (.t 20)),ig 18 false 22 (.bin .neq (.t 21) (kI 3)),pT 23 18 22,iv 24 23,gA 24 false 25 3 1,hA 24 false 26 25,ig 24 false 27 (.len (.t 26)),ig 24 false 28 (.bin .lss (.t 27) (kI 1)),pT 29 24 28,iv 30 29,gA 30 false 31 3 1,hA 30 false 32 31,ig 30 false 33 (.len (.t 32)),ig 30 false 34 (.bin .gtr (.t 33) (kI 11)),pT 35 30 34] 35 (rR [bA 2 false]) (.seq (rS [fA 36 2 1,lA 37 36,nA 38 37,mA 39 0] (bL 0 (rS [tA 40 39 38] (.seq (cX 40 0) (.seq (.block 1 (rS [xA 41 1 37 39,lA 42 41,iv 4 42] (rS [iv 43 4,ia 44 (.call 77 [.t 43,kI 0,kI 10000]),nN 45 44] (cI 45 (rR [bA 2 false]))))) (.reg [pA 46 39 1,iv 39 46])))))) (rS [mA 5 0] (.seq (rS [fA 47 3 1,lA 48 47,nA 49 48,mA 50 0] (bL 2 (rS [tA 51 50 49] (.seq (cX 51 2) (.seq (.block 3 (rS [xA 52 1 48 50,lA 53 52,iv 7 53] (iS [iv 54 7,ia 55 (.call 77 [.t 54,kI 0,kI 1000]),nN 56 55] 56 (rR [bA 2 false]) (.reg [iv 57 5,iv 58 7,oA 59 .add 57 58,iv 5 59])))) (.reg [pA 60 50 1,iv 50 60])))))) (rR [iv 61 5,oI 62 .gtr 61 0,iv 2 62])))))) [.t 2]:=yA none Tryz.func80 (by kernel_rfl)
theorem yqI : Has Tryz.prog 81 18 (rS [bA 2 false] (iS [iv 5 0,nA 6 5,oI 7 .gtr 6 2000] 7 (rR [bA 2 false]) (.seq (rS [iv 8 0,nA 9 8,mA 10 0] (bL 0 (rS [tA 11 10 9] (.seq (cX 11 0) (.seq (.block 1 (rS [xA 12 5 8 10,dA 13 5 12,ia 4 (.alloc [.c (.i 0),.c (.i 0),.c (.i 0),.c (.i 0),.c (.i 0)]),tN 5 4 13] (rS [dA 14 5 4,c1 15 127 14,nN 16 15] (cI 16 (rR [bA 2 false]))))) (.reg [pA 17 10 1,iv 10 17])))))) (rR [bA 2 true])))) [.t 2]:=yA none Tryz.func81 (by kernel_rfl)
theorem yN8 : Has Tryz.prog 82 26 (rS [bX 1 16 0,mA 2 0] (iS [dA 6 16 1,c1 7 45 6,nN 8 7] 8 (rR [mA 2 0]) (rS [fA 9 1 1,lA 10 9,c1 11 128 10,iv 3 11] (.seq (rS [fA 12 3 1,lA 13 12,nA 14 13,mA 15 0] (bL 0 (rS [tA 16 15 14] (.seq (cX 16 0) (.seq (.block 1 (rS [xA 17 22 13 15,dA 18 22 17,ia 5 (.alloc [.c (.i 0),.c (.i 0),.c (.i 0),.c (.i 0),.c (.i 0),.c (.i 0),.c (.i 0),.c (.i 0),.c (.i 0),.nil 2,.c (.i 0),.c (.i 0),.c (.i 0),.c (.i 0),.c (.i 0),.c (.i 0),.c (.i 0),.c (.i 0),.nil 2,.c (.b false),.c (.i 0),.nil 4]),tN 22 5 18] (.reg [iv 19 3,fA 20 0 5,fA 21 7 20,lA 22 21,oA 23 .add 19 22,iv 3 23]))) (.reg [pA 24 15 1,iv 15 24])))))) (rR [iv 25 3,iv 2 25]))))) [.t 2]:=yA none Tryz.func82 (by kernel_rfl)
theorem yS2 : Has Tryz.prog 83 28 (rS [mN 4 5,bA 5 false] (iS [iv 6 0,c1 7 81 6,nN 8 7,iv 9 8,g8 9 false 10 1,ig 9 false 11 (.len (.t 10)),ig 9 false 12 (.bin .gtr (.t 11) (kI 2000)),pT 13 9 12,iv 14 13,g8 14 false 15 0,g8 14 false 16 1,ig 14 false 17 (.bsl 1 [.t 15,.t 16]),ig 14 false 18 (.call 129 [.t 17]),ig 14 false 19 (.call 81 [.t 18]),g9 14 false 20 19,pT 21 14 20] 21 (rR [iv 22 0,c1 23 130 22,iv 4 23,bA 5 false]) (rR [iv 24 0,iv 25 1,ia 26 (.bsl 1 [.t 24,.t 25]),c1 27 129 26,iv 4 27,bA 5 true]))) [.t 4,.t 5]:=yA none Tryz.func83 (by kernel_rfl)
theorem yS1 : Has Tryz.prog 84 53 (rS [bX 3 4 0,bX 4 2 1,mN 6 5] (iS [dA 11 4 3,c1 12 80 11,nN 13 12,iv 14 13,ig 14 false 15 (.ldn 2 (.t 4)),ig 14 false 16 (.call 79 [.t 15]),g9 14 false 17 16,pT 18 14 17,iv 19 18,g8 19 false 20 2,ig 19 false 21 (.call 77 [.t 20,kI 0,kI 1000000]),g9 19 false 22 21,pT 23 19 22] 23 (rR [mN 6 5]) (rS [dA 24 2 4,c1 25 61 24,ia 26 (.idx 1 (.t 25) (kI 0)),lA 27 26,iv 7 27] (rS [mN 8 5] (.seq (rQ [dA 28 4 3,dA 29 2 4,c2 30 132 28 29,fA 31 3 3,lA 32 31,c2 33 131 30 32,nA 34 33,mA 35 0] (bL 0 (rS [tA 36 35 34] (.seq (cX 36 0) (.seq (.block 1 (rS [iv 37 35,xA 38 1 33 35,lA 39 38,iv 9 37,iv 10 39] (rS [iv 40 10,oI 41 .gtr 40 0] (cI 41 (.reg [iv 42 8,iv 43 9,pA 44 43 1,iv 45 10,iv 46 2,iv 47 7,ia 48 (.bld [.c (.i 0),.c (.i 0),.c (.i 0),.c (.i 0),.c (.i 0)] [(0,1,kI 0),(1,1,.t 44),(2,1,.t 45),(3,1,.t 46),(4,1,.t 47)]),bS 49 5 48,aP 50 5 40 42 49,iv 8 50]))))) (.reg [pA 51 35 1,iv 35 51])))))) (rR [iv 52 8,iv 6 52])))))) [.t 6]:=yA none Tryz.func84 (by kernel_rfl)
theorem ySe : Has Tryz.prog 86 26 (rS [bA 4 false] (iS [iv 6 0,nA 7 6,iv 8 1,nA 9 8,oA 10 .neq 7 9] 10 (rR [bA 4 false]) (.seq (rS [iv 11 0,nA 12 11,mA 13 0] (bL 0 (rS [tA 14 13 12] (.seq (cX 14 0) (.seq (.block 1 (rS [iv 15 13,iv 5 15] (rQ [iv 16 0,iv 17 5,xA 18 5 16 17,dA 19 5 18,iv 20 1,iv 21 5,xA 22 5 20 21,dA 23 5 22,ia 24 (.eqn true 5 (.t 19) (.t 23))] (cI 24 (rR [bA 4 false]))))) (.reg [pA 25 13 1,iv 13 25])))))) (rR [bA 4 true])))) [.t 4]:=yA none Tryz.func86 (by kernel_rfl)
theorem yog : Has Tryz.prog 114 32 (rS [bA 2 false] (rS [mA 3 0] (.seq (rS [mA 4 0] (bL 0 (xS [iv 5 4,iv 6 0,nA 7 6,tA 8 5 7] 8 0 (.seq (.block 1 (iS [iv 11 0,iv 12 4,xA 13 3 11 12,dA 14 3 13,c1 15 145 14,nN 16 15] 16 (rR [bA 2 false]) (.reg [iv 17 3,iv 18 0,iv 19 4,xA 20 3 18 19,dA 21 3 20,c1 22 146 21,oA 23 .add 17 22,ia 24 (.mn [.t 23,kI 1000000001]),iv 3 24]))) (.reg [iv 9 4,pA 10 9 1,iv 4 10]))))) (rR [iv 25 0,nA 26 25,ia 27 (.call 69 [.t 26,kI 1,kI 6]),iv 28 27,g8 28 true 29 3,ig 28 true 30 (.bin .leq (.t 29) (kI 1000000000)),pF 31 28 30,iv 2 31])))) [.t 2]:=yA none Tryz.func114 (by kernel_rfl)
theorem yss : Has Tryz.prog 115 11 (rS [bX 1 2 0,bA 2 false] (rR [fA 3 0 1,lA 4 3,ia 5 (.call 69 [.t 4,kI 1,kI 10000]),iv 6 5,gA 6 true 7 1 1,hA 6 true 8 7,ig 6 true 9 (.call 147 [.t 8]),pF 10 6 9,iv 2 10])) [.t 2]:=yA none Tryz.func115 (by kernel_rfl)
theorem yqn : Has Tryz.prog 116 47 (rS [bX 1 22 0,bA 2 false] (.seq (rS [mA 3 0] (bL 0 (xS [iv 4 3,fA 5 21 1,lA 6 5,nA 7 6,tA 8 4 7] 8 0 (.seq (.block 1 (rS [fA 11 21 1,lA 12 11,iv 13 3,xA 14 4 12 13,dA 15 4 14,c1 16 148 15,nN 17 16] (cI 17 (rR [bA 2 false])))) (.reg [iv 9 3,pA 10 9 1,iv 3 10]))))) (rR [fA 18 21 1,lA 19 18,nA 20 19,oI 21 .leq 20 24,iv 22 21,gA 22 true 23 0 1,ig 22 true 24 (.ldn 10 (.t 23)),ig 22 true 25 (.call 149 [.t 24]),pF 26 22 25,iv 27 26,gA 27 true 28 10 1,ig 27 true 29 (.ldn 5 (.t 28)),ig 27 true 30 (.call 150 [.t 29]),pF 31 27 30,iv 32 31,gA 32 true 33 15 1,ig 32 true 34 (.ldn 3 (.t 33)),ig 32 true 35 (.call 151 [.t 34]),pF 36 32 35,iv 37 36,gA 37 true 38 18 1,hA 37 true 39 38,ig 37 true 40 (.call 152 [.t 39]),pF 41 37 40,iv 42 41,gA 42 true 43 19 1,ig 42 true 44 (.ldn 2 (.t 43)),ig 42 true 45 (.call 153 [.t 44]),pF 46 42 45,iv 2 46]))) [.t 2]:=yA none Tryz.func116 (by kernel_rfl)
theorem ypB : Has Tryz.prog 117 19 (rS [bX 2 3 0,bX 3 2 1,bA 4 false] (rR [dA 5 2 3,c1 6 115 5,iv 7 6,gA 7 true 8 0 2,ig 7 true 9 (.ldn 2 (.t 8)),ig 7 true 10 (.call 94 [.t 9]),pF 11 7 10,iv 12 11,gA 12 true 13 2 2,hA 12 true 14 13,gA 12 true 15 0 3,hA 12 true 16 15,ig 12 true 17 (.call 69 [.t 14,kI 0,.t 16]),pF 18 12 17,iv 4 18])) [.t 4]:=yA none Tryz.func117 (by kernel_rfl)
theorem yqb : Has Tryz.prog 118 33 (rS [bX 1 5 0,bA 2 false] (rR [fA 3 0 1,lA 4 3,fA 5 1 1,lA 6 5,oA 7 .neq 4 6,iv 8 7,gA 8 true 9 0 1,hA 8 true 10 9,ig 8 true 11 (.call 69 [.t 10,kI 0,kI 11]),pF 12 8 11,iv 13 12,gA 13 true 14 1 1,hA 13 true 15 14,ig 13 true 16 (.call 69 [.t 15,kI 0,kI 11]),pF 17 13 16,iv 18 17,gA 18 true 19 2 1,hA 18 true 20 19,ig 18 true 21 (.call 69 [.t 20,kI 1,kI 1000000000]),pF 22 18 21,iv 23 22,gA 23 true 24 3 1,hA 23 true 25 24,ig 23 true 26 (.call 69 [.t 25,kI 0,kI 1000000]),pF 27 23 26,iv 28 27,gA 28 true 29 4 1,hA 28 true 30 29,ig 28 true 31 (.call 69 [.t 30,kI 0,kI 9999]),pF 32 28 31,iv 2 32])) [.t 2]:=yA none Tryz.func118 (by kernel_rfl)
theorem yNX : Has Tryz.prog 119 23 (rS [mA 2 0] (rS [mA 3 0] (.seq (rS [mA 4 0] (bL 0 (xS [iv 5 4,iv 6 0,nA 7 6,tA 8 5 7,iv 9 8,g8 9 true 10 0,ig 9 true 11 (.call 114 [.t 10]),pF 12 9 11] 12 0 (.seq (.block 1 (.reg [iv 15 3,iv 16 0,iv 17 4,xA 18 3 16 17,dA 19 3 18,c1 20 146 19,oA 21 .add 15 20,iv 3 21])) (.reg [iv 13 4,pA 14 13 1,iv 4 14]))))) (rR [iv 22 3,iv 2 22])))) [.t 2]:=yA none Tryz.func119 (by kernel_rfl)
theorem yTr : Has Tryz.prog 120 112 (rS [mN 4 1] (rS [bZ 13 1,iv 5 13] (rS [bZ 14 1,iv 6 14] (rS [mA 7 0] (.seq (rS [mA 8 0] (bL 0 (xS [iv 15 8,iv 16 1,nA 17 16,tA 18 15 17] 18 0 (.seq (.block 1 (iS [iv 21 1,iv 22 8,xA 23 1 21 22,lA 24 23,ia 25 (.call 69 [.t 24,kI 0,kI 1000000]),nN 26 25,iv 27 26,g8 27 false 28 1,ig 27 false 29 (.len (.t 28)),ig 27 false 30 (.bin .gtr (.t 29) (kI 12)),pT 31 27 30] 31 (rR [iv 32 5,iv 4 32]) (.reg [iv 33 7,iv 34 1,iv 35 8,xA 36 1 34 35,lA 37 36,oA 38 .add 33 37,iv 7 38]))) (.reg [iv 19 8,pA 20 19 1,iv 8 20]))))) (iS [iv 39 7,oI 40 .eql 39 0,iv 41 40,g8 41 false 42 0,ig 41 false 43 (.call 69 [.t 42,kI 0,kI 1000000000]),g9 41 false 44 43,pT 45 41 44] 45 (rR [iv 46 5,iv 4 46]) (rS [iv 47 0,iv 9 47] (.seq (rS [mA 10 0] (bL 2 (xS [iv 48 10,iv 49 1,nA 50 49,tA 51 48 50] 51 2 (.seq (.block 3 (rS [iv 54 5,iv 55 0,iv 56 1,iv 57 10,xA 58 1 56 57,lA 59 58,oA 60 .mul 55 59,iv 61 7,oA 62 .quo 60 61,bS 63 1 62,aP 64 1 8 54 63,iv 5 64] (rS [iv 65 6,iv 66 0,iv 67 1,iv 68 10,xA 69 1 67 68,lA 70 69,oA 71 .mul 66 70,iv 72 7,oA 73 .rem 71 72,bS 74 1 73,aP 75 1 8 65 74,iv 6 75] (.reg [iv 76 9,iv 77 5,iv 78 10,xA 79 1 77 78,lA 80 79,oA 81 .sub 76 80,iv 9 81])))) (.reg [iv 52 10,pA 53 52 1,iv 10 53]))))) (.seq (bL 4 (xS [iv 82 9,oI 83 .gtr 82 0] 83 4 (.block 5 (rS [mA 11 0] (.seq (rS [mA 12 1] (bL 6 (xS [iv 84 12,iv 85 6,nA 86 85,tA 87 84 86] 87 6 (.seq (.block 7 (rQ [iv 90 6,iv 91 12,xA 92 1 90 91,lA 93 92,iv 94 6,iv 95 11,xA 96 1 94 95,lA 97 96,oA 98 .gtr 93 97] (cI 98 (.reg [iv 99 12,iv 11 99])))) (.reg [iv 88 12,pA 89 88 1,iv 12 89]))))) (rS [iv 100 5,iv 101 11,xA 102 1 100 101,lA 103 102,pA 104 103 1,xA 105 1 100 101,tS 105 104] (rS [iv 106 6,iv 107 11,xA 108 1 106 107,ie (.st1 (.t 108) (kI (-1)))] (.reg [iv 109 9,oI 110 .sub 109 1,iv 9 110])))))))) (rR [iv 111 5,iv 4 111])))))))))) [.t 4]:=yA none Tryz.func120 (by kernel_rfl)
theorem yTG : Has Tryz.prog 121 32 (rS [bX 2 4 0,bX 3 2 1,mA 4 0] (iS [dA 5 4 2,c1 6 72 5,nN 7 6,iv 8 7,ig 8 false 9 (.ldn 2 (.t 3)),ig 8 false 10 (.call 94 [.t 9]),g9 8 false 11 10,pT 12 8 11] 12 (rR [mA 4 0]) (rQ [fA 13 0 2,lA 14 13,fA 15 1 2,lA 16 15,dA 17 2 3,c1 18 154 17,oA 19 .mul 16 18,dA 20 2 3,c1 21 155 20,oA 22 .mul 19 21,oI 23 .quo 22 100,oA 24 .add 14 23,fA 25 2 2,lA 26 25,dA 27 2 3,c1 28 156 27,xA 29 1 26 28,lA 30 29,oA 31 .add 24 30,iv 4 31] .ret))) [.t 4]:=yA none Tryz.func121 (by kernel_rfl)
theorem yp0 : Has Tryz.prog 122 30 (rS [bA 2 false] (iS [iv 6 0,nA 7 6,oI 8 .lss 7 1,iv 9 8,g8 9 false 10 0,ig 9 false 11 (.len (.t 10)),ig 9 false 12 (.bin .gtr (.t 11) (kI 6)),pT 13 9 12] 13 (rR [bA 2 false]) (rS [mA 3 0] (.seq (rS [iv 14 0,nA 15 14,mA 16 0] (bL 0 (rS [tA 17 16 15] (.seq (cX 17 0) (.seq (.block 1 (rS [xA 18 3 14 16,dA 19 3 18,ia 5 (.alloc [.nil 2,.c (.i 0),.nil 1]),tN 3 5 19] (iS [dA 20 3 5,c1 21 157 20,nN 22 21] 22 (rR [bA 2 false]) (.reg [iv 23 3,dA 24 3 5,c1 25 158 24,oA 26 .add 23 25,iv 3 26])))) (.reg [pA 27 16 1,iv 16 27])))))) (rR [iv 28 3,oI 29 .leq 28 1000000000,iv 2 29]))))) [.t 2]:=yA none Tryz.func122 (by kernel_rfl)
theorem yth : Has Tryz.prog 123 11 (rS [bX 1 2 0,bA 2 false] (rR [fA 3 0 1,lA 4 3,ia 5 (.call 77 [.t 4,kI 1,kI 10000]),iv 6 5,gA 6 true 7 1 1,hA 6 true 8 7,ig 6 true 9 (.call 77 [.t 8,kI 0,kI 100000]),pF 10 6 9,iv 2 10])) [.t 2]:=yA none Tryz.func123 (by kernel_rfl)
theorem ypL : Has Tryz.prog 124 19 (rS [bX 2 3 0,bX 3 2 1,bA 4 false] (rR [dA 5 2 3,c1 6 123 5,iv 7 6,gA 7 true 8 0 2,ig 7 true 9 (.ldn 2 (.t 8)),ig 7 true 10 (.call 79 [.t 9]),pF 11 7 10,iv 12 11,gA 12 true 13 2 2,hA 12 true 14 13,gA 12 true 15 0 3,hA 12 true 16 15,ig 12 true 17 (.call 77 [.t 14,kI 0,.t 16]),pF 18 12 17,iv 4 18])) [.t 4]:=yA none Tryz.func124 (by kernel_rfl)
theorem yqA : Has Tryz.prog 125 48 (rS [bX 1 22 0,bA 2 false] (iS [fA 5 0 1,dA 6 10 5,c1 7 159 6,nN 8 7,iv 9 8,gA 9 false 10 10 1,ig 9 false 11 (.ldn 5 (.t 10)),ig 9 false 12 (.call 160 [.t 11]),g9 9 false 13 12,pT 14 9 13,iv 15 14,gA 15 false 16 15 1,ig 15 false 17 (.ldn 3 (.t 16)),ig 15 false 18 (.call 161 [.t 17]),g9 15 false 19 18,pT 20 15 19,iv 21 20,gA 21 false 22 18 1,hA 21 false 23 22,ig 21 false 24 (.call 162 [.t 23]),g9 21 false 25 24,pT 26 21 25,iv 27 26,gA 27 false 28 19 1,ig 27 false 29 (.ldn 2 (.t 28)),ig 27 false 30 (.call 163 [.t 29]),g9 27 false 31 30,pT 32 27 31] 32 (rR [bA 2 false]) (iS [fA 33 21 1,lA 34 33,nA 35 34,oI 36 .gtr 35 24] 36 (rR [bA 2 false]) (.seq (rS [fA 37 21 1,lA 38 37,nA 39 38,mA 40 0] (bL 0 (rS [tA 41 40 39] (.seq (cX 41 0) (.seq (.block 1 (rS [xA 42 4 38 40,dA 43 4 42,ia 4 (.alloc [.c (.b false),.nil 1,.c (.i 0),.c (.i 0)]),tN 4 4 43] (rS [dA 44 4 4,c1 45 164 44,nN 46 45] (cI 46 (rR [bA 2 false]))))) (.reg [pA 47 40 1,iv 40 47])))))) (rR [bA 2 true]))))) [.t 2]:=yA none Tryz.func125 (by kernel_rfl)
theorem ypP : Has Tryz.prog 127 33 (rS [bX 1 5 0,bA 2 false] (rR [fA 3 0 1,lA 4 3,fA 5 1 1,lA 6 5,oA 7 .neq 4 6,iv 8 7,gA 8 true 9 0 1,hA 8 true 10 9,ig 8 true 11 (.call 77 [.t 10,kI 0,kI 11]),pF 12 8 11,iv 13 12,gA 13 true 14 1 1,hA 13 true 15 14,ig 13 true 16 (.call 77 [.t 15,kI 0,kI 11]),pF 17 13 16,iv 18 17,gA 18 true 19 2 1,hA 18 true 20 19,ig 18 true 21 (.call 77 [.t 20,kI 1,kI 1000000000]),pF 22 18 21,iv 23 22,gA 23 true 24 3 1,hA 23 true 25 24,ig 23 true 26 (.call 77 [.t 25,kI 0,kI 1000000]),pF 27 23 26,iv 28 27,gA 28 true 29 4 1,hA 28 true 30 29,ig 28 true 31 (.call 77 [.t 30,kI 0,kI 9999]),pF 32 28 31,iv 2 32])) [.t 2]:=yA none Tryz.func127 (by kernel_rfl)
theorem yNZ : Has Tryz.prog 128 21 (rS [mA 2 0] (iS [iv 6 0,c1 7 122 6,nN 8 7] 8 (rR [mA 2 0]) (rS [mA 3 0] (.seq (rS [iv 9 0,nA 10 9,mA 11 0] (bL 0 (rS [tA 12 11 10] (.seq (cX 12 0) (.seq (.block 1 (rS [xA 13 3 9 11,dA 14 3 13,ia 5 (.alloc [.nil 2,.c (.i 0),.nil 1]),tN 3 5 14] (.reg [iv 15 3,dA 16 3 5,c1 17 158 16,oA 18 .add 15 17,iv 3 18]))) (.reg [pA 19 11 1,iv 11 19])))))) (rR [iv 20 3,iv 2 20]))))) [.t 2]:=yA none Tryz.func128 (by kernel_rfl)
theorem ySd : Has Tryz.prog 129 36 (rS [mN 2 5] (rS [mA 3 0] (.seq (rS [iv 9 0,nA 10 9,mA 11 0] (bL 0 (rS [tA 12 11 10] (.seq (cX 12 0) (.seq (.block 1 (rS [xA 13 1 9 11,lA 14 13,iv 5 14] (rS [iv 15 3,iv 16 5,nA 17 16,oA 18 .add 15 17,iv 3 18] (rS [iv 19 3,oI 20 .lss 19 0] (cI 20 (.reg [ia 21 .bad,ie .bad])))))) (.reg [pA 22 11 1,iv 11 22])))))) (rS [iv 23 3,ia 24 (.call 165 [.k (.nil 5),.t 23]),iv 6 24] (.seq (rS [iv 25 0,nA 26 25,mA 27 0] (bL 2 (rS [tA 28 27 26] (.seq (cX 28 2) (.seq (.block 3 (rS [xA 29 1 25 27,lA 30 29,iv 8 30] (.reg [iv 31 6,iv 32 8,aP 33 5 40 31 32,iv 6 33]))) (.reg [pA 34 27 1,iv 27 34])))))) (rR [iv 35 6,iv 2 35])))))) [.t 2]:=yA none Tryz.func129 (by kernel_rfl)
def ybu : SC:=rS [mN 2 5] (iS [iv 3 0,ia 4 (.isn (.t 3))] 4 (rR [mN 2 5]) (rR [bZ 5 5,iv 6 0,aP 7 5 40 5 6,iv 2 7]))
theorem yc5 : Has Tryz.prog 130 8 ybu [.t 2]:=yA none Tryz.func130 (by kernel_rfl)
theorem yTp : Has Tryz.prog 131 93 (rS [bX 2 1 0,bX 3 1 1,mN 4 1] (iS [lA 14 2,ia 15 (.call 77 [.t 14,kI 0,kI 1000000000]),nN 16 15,iv 17 16,hA 17 false 18 3,ig 17 false 19 (.len (.t 18)),ig 17 false 20 (.bin .lss (.t 19) (kI 1)),pT 21 17 20,iv 22 21,hA 22 false 23 3,ig 22 false 24 (.len (.t 23)),ig 22 false 25 (.bin .gtr (.t 24) (kI 12)),pT 26 22 25] 26 (rR [mN 4 1]) (rS [ia 5 (.alloc [.c (.i 0)]),ie (.st1 (.t 5) (kI 0))] (.seq (rS [lA 27 3,nA 28 27,mA 29 0] (bL 0 (rS [tA 30 29 28] (.seq (cX 30 0) (.seq (.block 1 (rS [xA 31 1 27 29,lA 32 31,iv 7 32] (iS [iv 33 7,ia 34 (.call 77 [.t 33,kI 0,kI 1000000]),nN 35 34] 35 (rR [mN 4 1]) (.reg [lA 36 5,iv 37 7,oA 38 .add 36 37,tS 5 38])))) (.reg [pA 39 29 1,iv 29 39])))))) (iS [lA 40 5,oI 41 .eql 40 0] 41 (rR [mN 4 1]) (rS [lA 42 3,nA 43 42,ia 44 (.mks 1 8 [.i 0] (.t 43) (.t 43)),iv 8 44] (rS [lA 45 3,nA 46 45,ia 47 (.mks 1 8 [.i 0] (.t 46) (.t 46)),iv 9 47] (rS [lA 48 2,iv 10 48] (.seq (rS [lA 49 3,nA 50 49,mA 51 0] (bL 2 (rS [tA 52 51 50] (.seq (cX 52 2) (.seq (.block 3 (rS [iv 53 51,xA 54 1 49 51,lA 55 54,iv 11 53,iv 12 55] (rS [iv 56 8,iv 57 11,lA 58 2,iv 59 12,oA 60 .mul 58 59,lA 61 5,oA 62 .quo 60 61,xA 63 1 56 57,tS 63 62] (rS [iv 64 10,iv 65 8,iv 66 11,xA 67 1 65 66,lA 68 67,oA 69 .sub 64 68,iv 10 69] (.reg [iv 70 9,iv 71 11,iv 72 11,xA 73 1 70 71,tS 73 72]))))) (.reg [pA 74 51 1,iv 51 74])))))) (rS [iv 75 9,ia 76 (.mkf 167 [.t 2,.t 3,.t 5]),c2 77 166 75 76] (.seq (rS [mA 13 0] (bL 4 (xS [iv 78 13,iv 79 10,tA 80 78 79] 80 4 (.seq (.block 5 (.reg [iv 83 8,iv 84 9,iv 85 13,xA 86 1 84 85,lA 87 86,xA 88 1 83 87,lA 89 88,pA 90 89 1,xA 91 1 83 87,tS 91 90])) (.reg [iv 81 13,pA 82 81 1,iv 13 82]))))) (rR [iv 92 8,iv 4 92])))))))))))) [.t 4]:=yA none Tryz.func131 (by kernel_rfl)
theorem yTE : Has Tryz.prog 132 32 (rS [bX 2 4 0,bX 3 2 1,mA 4 0] (iS [dA 5 4 2,c1 6 80 5,nN 7 6,iv 8 7,ig 8 false 9 (.ldn 2 (.t 3)),ig 8 false 10 (.call 79 [.t 9]),g9 8 false 11 10,pT 12 8 11] 12 (rR [mA 4 0]) (rQ [fA 13 0 2,lA 14 13,fA 15 1 2,lA 16 15,dA 17 2 3,c1 18 168 17,oA 19 .mul 16 18,dA 20 2 3,c1 21 169 20,oA 22 .mul 19 21,oI 23 .quo 22 100,oA 24 .add 14 23,fA 25 2 2,lA 26 25,dA 27 2 3,c1 28 170 27,xA 29 1 26 28,lA 30 29,oA 31 .add 24 30,iv 4 31] .ret))) [.t 4]:=yA none Tryz.func132 (by kernel_rfl)
theorem ynW : Has Tryz.prog 145 37 (rS [bX 1 3 0,bA 2 false] (iS [fA 4 0 1,lA 5 4,c1 6 173 5,nN 7 6,iv 8 7,gA 8 false 9 1 1,hA 8 false 10 9,ig 8 false 11 (.call 69 [.t 10,kI 0,kI 1000000000]),g9 8 false 12 11,pT 13 8 12,iv 14 13,gA 14 false 15 2 1,hA 14 false 16 15,ig 14 false 17 (.len (.t 16)),ig 14 false 18 (.bin .gtr (.t 17) (kI 12)),pT 19 14 18] 19 (rR [bA 2 false]) (.seq (rS [mA 3 0] (bL 0 (xS [iv 20 3,fA 21 2 1,lA 22 21,nA 23 22,tA 24 20 23] 24 0 (.seq (.block 1 (rS [fA 27 2 1,lA 28 27,iv 29 3,xA 30 1 28 29,lA 31 30,ia 32 (.call 69 [.t 31,kI 0,kI 1000000000]),nN 33 32] (cI 33 (rR [bA 2 false])))) (.reg [iv 25 3,pA 26 25 1,iv 3 26]))))) (rR [dA 34 3 1,c1 35 146 34,oI 36 .leq 35 1000000000,iv 2 36])))) [.t 2]:=yA none Tryz.func145 (by kernel_rfl)
theorem yrp : Has Tryz.prog 146 22 (rS [bX 1 3 0,mA 2 0] (rS [fA 5 1 1,lA 6 5,iv 3 6] (.seq (rS [mA 4 0] (bL 0 (xS [iv 7 4,fA 8 2 1,lA 9 8,nA 10 9,tA 11 7 10] 11 0 (.seq (.block 1 (.reg [iv 14 3,fA 15 2 1,lA 16 15,iv 17 4,xA 18 1 16 17,lA 19 18,oA 20 .add 14 19,iv 3 20])) (.reg [iv 12 4,pA 13 12 1,iv 4 13]))))) (rR [iv 21 3,iv 2 21])))) [.t 2]:=yA none Tryz.func146 (by kernel_rfl)
theorem ynt : Has Tryz.prog 147 5 (rS [bA 2 false] (rR [iv 3 0,ia 4 (.call 69 [.t 3,kI 0,kI 100000]),iv 2 4])) [.t 2]:=yA none Tryz.func147 (by kernel_rfl)
theorem yqt : Has Tryz.prog 148 16 (rS [bX 1 4 0,bA 2 false] (rR [fA 3 0 1,dA 4 2 3,c1 5 94 4,iv 6 5,gA 6 true 7 2 1,hA 6 true 8 7,ig 6 true 9 (.call 69 [.t 8,kI 0,kI 1000000]),pF 10 6 9,iv 11 10,gA 11 true 12 3 1,hA 11 true 13 12,ig 11 true 14 (.call 69 [.t 13,kI (-1),kI 1000000]),pF 15 11 14,iv 2 15])) [.t 2]:=yA none Tryz.func148 (by kernel_rfl)
theorem yra : Has Tryz.prog 149 51 (rS [bX 1 10 0,bA 2 false] (rR [fA 3 0 1,lA 4 3,ia 5 (.call 69 [.t 4,kI 1,kI 1000]),iv 6 5,gA 6 true 7 1 1,hA 6 true 8 7,ig 6 true 9 (.call 69 [.t 8,kI 1,kI 100]),pF 10 6 9,iv 11 10,gA 11 true 12 2 1,hA 11 true 13 12,ig 11 true 14 (.call 147 [.t 13]),pF 15 11 14,iv 16 15,gA 16 true 17 3 1,hA 16 true 18 17,ig 16 true 19 (.call 147 [.t 18]),pF 20 16 19,iv 21 20,gA 21 true 22 4 1,hA 21 true 23 22,ig 21 true 24 (.call 147 [.t 23]),pF 25 21 24,iv 26 25,gA 26 true 27 5 1,hA 26 true 28 27,ig 26 true 29 (.call 69 [.t 28,kI 1,kI 10000]),pF 30 26 29,iv 31 30,gA 31 true 32 6 1,hA 31 true 33 32,ig 31 true 34 (.call 69 [.t 33,kI 1,kI 100000]),pF 35 31 34,iv 36 35,gA 36 true 37 7 1,hA 36 true 38 37,ig 36 true 39 (.call 69 [.t 38,kI 0,kI 1000000000]),pF 40 36 39,iv 41 40,gA 41 true 42 8 1,hA 41 true 43 42,ig 41 true 44 (.call 69 [.t 43,kI 0,kI 2]),pF 45 41 44,iv 46 45,gA 46 true 47 9 1,hA 46 true 48 47,ig 46 true 49 (.call 174 [.t 48]),pF 50 46 49,iv 2 50])) [.t 2]:=yA none Tryz.func149 (by kernel_rfl)
theorem yq7 : Has Tryz.prog 150 29 (rS [bX 1 5 0,bA 2 false] (rR [fA 3 0 1,lA 4 3,ia 5 (.call 69 [.t 4,kI 1,kI 8]),iv 6 5,gA 6 true 7 1 1,hA 6 true 8 7,gA 6 true 9 0 1,hA 6 true 10 9,ig 6 true 11 (.bin .mul (kI 10) (.t 10)),ig 6 true 12 (.call 69 [.t 8,kI 0,.t 11]),pF 13 6 12,iv 14 13,gA 14 true 15 2 1,hA 14 true 16 15,ig 14 true 17 (.call 69 [.t 16,kI 1,kI 80]),pF 18 14 17,iv 19 18,gA 19 true 20 3 1,hA 19 true 21 20,ig 19 true 22 (.call 69 [.t 21,kI 0,kI 100000]),pF 23 19 22,iv 24 23,gA 24 true 25 4 1,hA 24 true 26 25,ig 24 true 27 (.call 69 [.t 26,kI 1,kI 1000]),pF 28 24 27,iv 2 28])) [.t 2]:=yA none Tryz.func150 (by kernel_rfl)
theorem yq6 : Has Tryz.prog 151 30 (rS [bX 1 3 0,bA 2 false] (rR [fA 3 0 1,lA 4 3,c1 5 147 4,iv 6 5,gA 6 true 7 1 1,hA 6 true 8 7,ig 6 true 9 (.call 147 [.t 8]),pF 10 6 9,iv 11 10,gA 11 true 12 2 1,hA 11 true 13 12,ig 11 true 14 (.call 147 [.t 13]),pF 15 11 14,iv 16 15,gA 16 true 17 0 1,hA 16 true 18 17,gA 16 true 19 1 1,hA 16 true 20 19,ig 16 true 21 (.bin .lss (.t 18) (.t 20)),pF 22 16 21,iv 23 22,gA 23 true 24 1 1,hA 23 true 25 24,gA 23 true 26 2 1,hA 23 true 27 26,ig 23 true 28 (.bin .leq (.t 25) (.t 27)),pF 29 23 28,iv 2 29])) [.t 2]:=yA none Tryz.func151 (by kernel_rfl)
theorem yny : Has Tryz.prog 152 47 (rS [bA 2 false] (rS [mA 3 0] (.seq (rS [mA 4 0] (bL 0 (xS [iv 5 4,iv 6 0,nA 7 6,tA 8 5 7] 8 0 (.seq (.block 1 (.seq (rQ [iv 11 0,iv 12 4,xA 13 2 11 12,fA 14 0 13,lA 15 14,iv 16 3,tA 17 15 16,iv 18 17,g8 18 false 19 0,g8 18 false 20 4,ig 18 false 21 (.idx 2 (.t 19) (.t 20)),gA 18 false 22 1 21,hA 18 false 23 22,g8 18 false 24 0,g8 18 false 25 4,ig 18 false 26 (.idx 2 (.t 24) (.t 25)),gA 18 false 27 0 26,hA 18 false 28 27,ig 18 false 29 (.bin .leq (.t 23) (.t 28)),pT 30 18 29,iv 31 30,g8 31 false 32 0,g8 31 false 33 4,ig 31 false 34 (.idx 2 (.t 32) (.t 33)),gA 31 false 35 1 34,hA 31 false 36 35,ig 31 false 37 (.bin .gtr (.t 36) (kI 1000000)),pT 38 31 37] (cI 38 (rR [bA 2 false]))) (.reg [iv 39 0,iv 40 4,xA 41 2 39 40,fA 42 1 41,lA 43 42,iv 3 43]))) (.reg [iv 9 4,pA 10 9 1,iv 4 10]))))) (rR [iv 44 0,nA 45 44,oI 46 .leq 45 8,iv 2 46])))) [.t 2]:=yA none Tryz.func152 (by kernel_rfl)
theorem yrl : Has Tryz.prog 153 6 (rS [bX 1 2 0,bA 2 false] (rR [fA 3 1 1,lA 4 3,ia 5 (.call 69 [.t 4,kI 0,kI 1000000]),iv 2 5])) [.t 2]:=yA none Tryz.func153 (by kernel_rfl)
theorem yTq : Has Tryz.prog 154 43 (rS [bX 1 2 0,mA 2 0] (rS [mA 3 0] (.seq (rS [mA 4 0] (bL 0 (xS [iv 7 4,fA 8 1 1,lA 9 8,nA 10 9,tA 11 7 10,iv 12 11,ig 12 true 13 (.ldn 2 (.t 1)),ig 12 true 14 (.call 94 [.t 13]),pF 15 12 14] 15 0 (.seq (.block 1 (rS [mA 5 0] (.seq (rS [mA 6 0] (bL 2 (xS [iv 18 6,fA 19 1 1,lA 20 19,iv 21 4,xA 22 1 20 21,lA 23 22,nA 24 23,tA 25 18 24] 25 2 (.seq (.block 3 (.reg [iv 28 5,fA 29 1 1,lA 30 29,iv 31 4,xA 32 1 30 31,lA 33 32,iv 34 6,xA 35 6 33 34,fA 36 1 35,lA 37 36,ia 38 (.mx [.t 28,.t 37]),iv 5 38])) (.reg [iv 26 6,pA 27 26 1,iv 6 27]))))) (.reg [iv 39 3,iv 40 5,oA 41 .add 39 40,iv 3 41])))) (.reg [iv 16 4,pA 17 16 1,iv 4 17]))))) (rR [iv 42 3,iv 2 42])))) [.t 2]:=yA none Tryz.func154 (by kernel_rfl)
theorem yTz : Has Tryz.prog 155 43 (rS [bX 1 2 0,mA 2 0] (rS [mA 3 0] (.seq (rS [mA 4 0] (bL 0 (xS [iv 7 4,fA 8 1 1,lA 9 8,nA 10 9,tA 11 7 10,iv 12 11,ig 12 true 13 (.ldn 2 (.t 1)),ig 12 true 14 (.call 94 [.t 13]),pF 15 12 14] 15 0 (.seq (.block 1 (rS [mA 5 0] (.seq (rS [mA 6 0] (bL 2 (xS [iv 18 6,fA 19 1 1,lA 20 19,iv 21 4,xA 22 1 20 21,lA 23 22,nA 24 23,tA 25 18 24] 25 2 (.seq (.block 3 (.reg [iv 28 5,fA 29 1 1,lA 30 29,iv 31 4,xA 32 1 30 31,lA 33 32,iv 34 6,xA 35 6 33 34,fA 36 2 35,lA 37 36,oA 38 .add 28 37,iv 5 38])) (.reg [iv 26 6,pA 27 26 1,iv 6 27]))))) (.reg [iv 39 3,iv 40 5,ia 41 (.mx [.t 39,.t 40]),iv 3 41])))) (.reg [iv 16 4,pA 17 16 1,iv 4 17]))))) (rR [iv 42 3,iv 2 42])))) [.t 2]:=yA none Tryz.func155 (by kernel_rfl)
theorem yL3 : Has Tryz.prog 156 29 (rS [bX 1 2 0,mA 2 0] (rS [dA 6 2 1,c1 7 93 6,iv 3 7] (iS [dA 8 2 1,c1 9 94 8,nN 10 9] 10 (rR [mA 2 (-1)]) (rS [iv 11 3,ia 12 (.idx 6 (.t 11) (kI 0)),fA 13 5 12,lA 14 13,iv 4 14] (.seq (rS [mA 5 0] (bL 0 (xS [iv 15 5,iv 16 3,nA 17 16,tA 18 15 17] 18 0 (.seq (.block 1 (.reg [iv 21 4,iv 22 3,iv 23 5,xA 24 6 22 23,fA 25 5 24,lA 26 25,ia 27 (.mn [.t 21,.t 26]),iv 4 27])) (.reg [iv 19 5,pA 20 19 1,iv 5 20]))))) (rR [iv 28 4,iv 2 28])))))) [.t 2]:=yA none Tryz.func156 (by kernel_rfl)
theorem yo5 : Has Tryz.prog 157 43 (rS [bX 1 3 0,bA 2 false] (iS [fA 6 0 1,lA 7 6,c1 8 175 7,nN 9 8,iv 10 9,gA 10 false 11 1 1,hA 10 false 12 11,ig 10 false 13 (.call 77 [.t 12,kI 0,kI 1000000000]),g9 10 false 14 13,pT 15 10 14,iv 16 15,gA 16 false 17 2 1,hA 16 false 18 17,ig 16 false 19 (.len (.t 18)),ig 16 false 20 (.bin .gtr (.t 19) (kI 12)),pT 21 16 20] 21 (rR [bA 2 false]) (rS [fA 22 1 1,lA 23 22,ia 24 (.bin .sub (kI 1000000000) (.t 23)),iv 3 24] (.seq (rS [fA 25 2 1,lA 26 25,nA 27 26,mA 28 0] (bL 0 (rS [tA 29 28 27] (.seq (cX 29 0) (.seq (.block 1 (rS [xA 30 1 26 28,lA 31 30,iv 5 31] (iS [iv 32 5,oI 33 .lss 32 0,iv 34 33,g8 34 false 35 5,g8 34 false 36 3,ig 34 false 37 (.bin .gtr (.t 35) (.t 36)),pT 38 34 37] 38 (rR [bA 2 false]) (.reg [iv 39 3,iv 40 5,oA 41 .sub 39 40,iv 3 41])))) (.reg [pA 42 28 1,iv 28 42])))))) (rR [bA 2 true]))))) [.t 2]:=yA none Tryz.func157 (by kernel_rfl)
theorem yo0 : Has Tryz.prog 158 23 (rS [bX 1 3 0,mA 2 0] (iS [dA 6 3 1,c1 7 157 6,nN 8 7] 8 (rR [mA 2 0]) (rS [fA 9 1 1,lA 10 9,iv 3 10] (.seq (rS [fA 11 2 1,lA 12 11,nA 13 12,mA 14 0] (bL 0 (rS [tA 15 14 13] (.seq (cX 15 0) (.seq (.block 1 (rS [xA 16 1 12 14,lA 17 16,iv 5 17] (.reg [iv 18 3,iv 19 5,oA 20 .add 18 19,iv 3 20]))) (.reg [pA 21 14 1,iv 14 21])))))) (rR [iv 22 3,iv 2 22]))))) [.t 2]:=yA none Tryz.func158 (by kernel_rfl)
theorem yrj : Has Tryz.prog 159 51 (rS [bX 1 10 0,bA 2 false] (rR [fA 3 0 1,lA 4 3,ia 5 (.call 77 [.t 4,kI 1,kI 1000]),iv 6 5,gA 6 true 7 1 1,hA 6 true 8 7,ig 6 true 9 (.call 77 [.t 8,kI 1,kI 100]),pF 10 6 9,iv 11 10,gA 11 true 12 2 1,hA 11 true 13 12,ig 11 true 14 (.call 77 [.t 13,kI 0,kI 100000]),pF 15 11 14,iv 16 15,gA 16 true 17 3 1,hA 16 true 18 17,ig 16 true 19 (.call 77 [.t 18,kI 0,kI 100000]),pF 20 16 19,iv 21 20,gA 21 true 22 4 1,hA 21 true 23 22,ig 21 true 24 (.call 77 [.t 23,kI 0,kI 100000]),pF 25 21 24,iv 26 25,gA 26 true 27 5 1,hA 26 true 28 27,ig 26 true 29 (.call 77 [.t 28,kI 1,kI 10000]),pF 30 26 29,iv 31 30,gA 31 true 32 6 1,hA 31 true 33 32,ig 31 true 34 (.call 77 [.t 33,kI 1,kI 100000]),pF 35 31 34,iv 36 35,gA 36 true 37 7 1,hA 36 true 38 37,ig 36 true 39 (.call 77 [.t 38,kI 0,kI 1000000000]),pF 40 36 39,iv 41 40,gA 41 true 42 8 1,hA 41 true 43 42,ig 41 true 44 (.call 77 [.t 43,kI 0,kI 2]),pF 45 41 44,iv 46 45,gA 46 true 47 9 1,hA 46 true 48 47,ig 46 true 49 (.call 176 [.t 48]),pF 50 46 49,iv 2 50])) [.t 2]:=yA none Tryz.func159 (by kernel_rfl)
theorem yqY : Has Tryz.prog 160 29 (rS [bX 1 5 0,bA 2 false] (rR [fA 3 0 1,lA 4 3,ia 5 (.call 77 [.t 4,kI 1,kI 8]),iv 6 5,gA 6 true 7 1 1,hA 6 true 8 7,gA 6 true 9 0 1,hA 6 true 10 9,ig 6 true 11 (.bin .mul (kI 10) (.t 10)),ig 6 true 12 (.call 77 [.t 8,kI 0,.t 11]),pF 13 6 12,iv 14 13,gA 14 true 15 2 1,hA 14 true 16 15,ig 14 true 17 (.call 77 [.t 16,kI 1,kI 80]),pF 18 14 17,iv 19 18,gA 19 true 20 3 1,hA 19 true 21 20,ig 19 true 22 (.call 77 [.t 21,kI 0,kI 100000]),pF 23 19 22,iv 24 23,gA 24 true 25 4 1,hA 24 true 26 25,ig 24 true 27 (.call 77 [.t 26,kI 1,kI 1000]),pF 28 24 27,iv 2 28])) [.t 2]:=yA none Tryz.func160 (by kernel_rfl)
theorem yqW : Has Tryz.prog 161 30 (rS [bX 1 3 0,bA 2 false] (rR [fA 3 0 1,lA 4 3,ia 5 (.call 77 [.t 4,kI 0,kI 100000]),iv 6 5,gA 6 true 7 1 1,hA 6 true 8 7,ig 6 true 9 (.call 77 [.t 8,kI 0,kI 100000]),pF 10 6 9,iv 11 10,gA 11 true 12 2 1,hA 11 true 13 12,ig 11 true 14 (.call 77 [.t 13,kI 0,kI 100000]),pF 15 11 14,iv 16 15,gA 16 true 17 0 1,hA 16 true 18 17,gA 16 true 19 1 1,hA 16 true 20 19,ig 16 true 21 (.bin .lss (.t 18) (.t 20)),pF 22 16 21,iv 23 22,gA 23 true 24 1 1,hA 23 true 25 24,gA 23 true 26 2 1,hA 23 true 27 26,ig 23 true 28 (.bin .leq (.t 25) (.t 27)),pF 29 23 28,iv 2 29])) [.t 2]:=yA none Tryz.func161 (by kernel_rfl)
theorem ynJ : Has Tryz.prog 162 34 (rS [bA 2 false] (iS [iv 6 0,nA 7 6,oI 8 .gtr 7 8] 8 (rR [bA 2 false]) (rS [mA 3 0] (.seq (rS [iv 9 0,nA 10 9,mA 11 0] (bL 0 (rS [tA 12 11 10] (.seq (cX 12 0) (.seq (.block 1 (rS [xA 13 2 9 11,dA 14 2 13,ia 5 (.alloc [.c (.i 0),.c (.i 0)]),tN 2 5 14] (iS [fA 15 0 5,lA 16 15,iv 17 3,tA 18 16 17,iv 19 18,gA 19 false 20 1 5,hA 19 false 21 20,gA 19 false 22 0 5,hA 19 false 23 22,ig 19 false 24 (.bin .leq (.t 21) (.t 23)),pT 25 19 24,iv 26 25,gA 26 false 27 1 5,hA 26 false 28 27,ig 26 false 29 (.bin .gtr (.t 28) (kI 1000000)),pT 30 26 29] 30 (rR [bA 2 false]) (.reg [fA 31 1 5,lA 32 31,iv 3 32])))) (.reg [pA 33 11 1,iv 11 33])))))) (rR [bA 2 true]))))) [.t 2]:=yA none Tryz.func162 (by kernel_rfl)
theorem yqP : Has Tryz.prog 163 6 (rS [bX 1 2 0,bA 2 false] (rR [fA 3 1 1,lA 4 3,ia 5 (.call 77 [.t 4,kI 0,kI 1000000]),iv 2 5])) [.t 2]:=yA none Tryz.func163 (by kernel_rfl)
theorem yqU : Has Tryz.prog 164 16 (rS [bX 1 4 0,bA 2 false] (rR [fA 3 0 1,dA 4 2 3,c1 5 79 4,iv 6 5,gA 6 true 7 2 1,hA 6 true 8 7,ig 6 true 9 (.call 77 [.t 8,kI 0,kI 1000000]),pF 10 6 9,iv 11 10,gA 11 true 12 3 1,hA 11 true 13 12,ig 11 true 14 (.call 77 [.t 13,kI (-1),kI 1000000]),pF 15 11 14,iv 2 15])) [.t 2]:=yA none Tryz.func164 (by kernel_rfl)
theorem ySg : Has Tryz.prog 165 27 (rS [mN 4 5] (iS [iv 5 1,oI 6 .lss 5 0] 6 (.reg [ia 7 .bad,ie .bad]) (.seq (rS [iv 8 1,iv 9 0,ia 10 (.cap (.t 9)),iv 11 0,nA 12 11,oA 13 .sub 10 12,oA 14 .sub 8 13,iv 1 14] (rS [iv 15 1,oI 16 .gtr 15 0] (cI 16 (.reg [iv 17 0,iv 18 0,ia 19 (.cap (.t 18)),ia 20 (.slc 5 (.t 17) none (some (.t 19)) none),iv 21 1,ia 22 (.appz 5 40 [.i 0,.i 0,.i 0,.i 0,.i 0] (.t 20) (.t 21)),iv 23 0,nA 24 23,ia 25 (.slc 5 (.t 22) none (some (.t 24)) none),iv 0 25])))) (rR [iv 26 0,iv 4 26])))) [.t 4]:=yA none Tryz.func165 (by kernel_rfl)
theorem yK1 : Has Tryz.prog 166 9 (.reg [iv 4 0,iv 5 0,nA 6 5,iv 7 1,c3 8 177 4 6 7]) []:=yA none Tryz.func166 (by kernel_rfl)
def ySy : SC:=rS [mA 7 0] (rQ [lA 8 2,lA 9 3,iv 10 1,xA 11 1 9 10,lA 12 11,oA 13 .mul 8 12,lA 14 4,oA 15 .rem 13 14,lA 16 2,lA 17 3,iv 18 0,xA 19 1 17 18,lA 20 19,oA 21 .mul 16 20,lA 22 4,oA 23 .rem 21 22,oA 24 .sub 15 23,iv 7 24] .ret)
theorem yS7 : Has Tryz.prog 167 25 ySy [.t 7]:=yA none Tryz.func167 (by kernel_rfl)
theorem yTs : Has Tryz.prog 168 35 (rS [bX 1 2 0,mA 2 0] (iS [dA 9 2 1,c1 10 79 9,nN 11 10] 11 (rR [mA 2 0]) (rS [mA 3 0] (.seq (rS [fA 12 1 1,lA 13 12,nA 14 13,mA 15 0] (bL 0 (rS [tA 16 15 14] (.seq (cX 16 0) (.seq (.block 1 (rS [xA 17 1 13 15,lA 18 17,iv 5 18] (rS [mA 6 0] (.seq (rS [iv 19 5,nA 20 19,mA 21 0] (bL 2 (rS [tA 22 21 20] (.seq (cX 22 2) (.seq (.block 3 (rS [xA 23 6 19 21,dA 24 6 23,ia 8 (.alloc [.c (.i 0),.c (.i 0),.c (.i 0),.c (.i 0),.c (.i 0),.c (.i 0)]),tN 6 8 24] (.reg [iv 25 6,fA 26 1 8,lA 27 26,ia 28 (.mx [.t 25,.t 27]),iv 6 28]))) (.reg [pA 29 21 1,iv 21 29])))))) (.reg [iv 30 3,iv 31 6,oA 32 .add 30 31,iv 3 32]))))) (.reg [pA 33 15 1,iv 15 33])))))) (rR [iv 34 3,iv 2 34]))))) [.t 2]:=yA none Tryz.func168 (by kernel_rfl)
theorem yTC : Has Tryz.prog 169 35 (rS [bX 1 2 0,mA 2 0] (iS [dA 9 2 1,c1 10 79 9,nN 11 10] 11 (rR [mA 2 0]) (rS [mA 3 0] (.seq (rS [fA 12 1 1,lA 13 12,nA 14 13,mA 15 0] (bL 0 (rS [tA 16 15 14] (.seq (cX 16 0) (.seq (.block 1 (rS [xA 17 1 13 15,lA 18 17,iv 5 18] (rS [mA 6 0] (.seq (rS [iv 19 5,nA 20 19,mA 21 0] (bL 2 (rS [tA 22 21 20] (.seq (cX 22 2) (.seq (.block 3 (rS [xA 23 6 19 21,dA 24 6 23,ia 8 (.alloc [.c (.i 0),.c (.i 0),.c (.i 0),.c (.i 0),.c (.i 0),.c (.i 0)]),tN 6 8 24] (.reg [iv 25 6,fA 26 2 8,lA 27 26,oA 28 .add 25 27,iv 6 28]))) (.reg [pA 29 21 1,iv 21 29])))))) (.reg [iv 30 3,iv 31 6,ia 32 (.mx [.t 30,.t 31]),iv 3 32]))))) (.reg [pA 33 15 1,iv 15 33])))))) (rR [iv 34 3,iv 2 34]))))) [.t 2]:=yA none Tryz.func169 (by kernel_rfl)
theorem yMa : Has Tryz.prog 170 29 (rS [bX 1 2 0,mA 2 0] (iS [dA 6 2 1,c1 7 79 6,nN 8 7] 8 (rR [mA 2 (-1)]) (rS [fA 9 1 1,lA 10 9,ia 11 (.idx 1 (.t 10) (kI 0)),lA 12 11,ia 13 (.idx 6 (.t 12) (kI 0)),fA 14 5 13,lA 15 14,iv 3 15] (.seq (rS [dA 16 2 1,c1 17 104 16,nA 18 17,mA 19 0] (bL 0 (rS [tA 20 19 18] (.seq (cX 20 0) (.seq (.block 1 (rS [xA 21 6 17 19,dA 22 6 21,ia 5 (.alloc [.c (.i 0),.c (.i 0),.c (.i 0),.c (.i 0),.c (.i 0),.c (.i 0)]),tN 6 5 22] (.reg [iv 23 3,fA 24 5 5,lA 25 24,ia 26 (.mn [.t 23,.t 25]),iv 3 26]))) (.reg [pA 27 19 1,iv 19 27])))))) (rR [iv 28 3,iv 2 28]))))) [.t 2]:=yA none Tryz.func170 (by kernel_rfl)
theorem yp7 : Has Tryz.prog 173 61 (rS [bA 2 false] (.seq (rS [mA 3 0] (bL 0 (xS [iv 4 3,iv 5 0,nA 6 5,tA 7 4 6] 7 0 (.seq (.block 1 (rQ [iv 10 0,iv 11 3,xA 12 2 10 11,fA 13 0 12,lA 14 13,ia 15 (.call 69 [.t 14,kI 0,kI 1000000000]),nN 16 15,iv 17 16,g8 17 false 18 0,g8 17 false 19 3,ig 17 false 20 (.idx 2 (.t 18) (.t 19)),gA 17 false 21 1 20,hA 17 false 22 21,ig 17 false 23 (.call 69 [.t 22,kI 0,kI 1000000000]),g9 17 false 24 23,pT 25 17 24,iv 26 25,g8 26 false 27 3,ig 26 false 28 (.bin .gtr (.t 27) (kI 0)),g8 26 false 29 28,g8 29 true 30 0,g8 29 true 31 3,ig 29 true 32 (.idx 2 (.t 30) (.t 31)),gA 29 true 33 0 32,hA 29 true 34 33,g8 29 true 35 0,g8 29 true 36 3,ig 29 true 37 (.bin .sub (.t 36) (kI 1)),ig 29 true 38 (.idx 2 (.t 35) (.t 37)),gA 29 true 39 0 38,hA 29 true 40 39,ig 29 true 41 (.bin .leq (.t 34) (.t 40)),g8 29 true 42 41,g8 42 false 43 0,g8 42 false 44 3,ig 42 false 45 (.idx 2 (.t 43) (.t 44)),gA 42 false 46 1 45,hA 42 false 47 46,g8 42 false 48 0,g8 42 false 49 3,ig 42 false 50 (.bin .sub (.t 49) (kI 1)),ig 42 false 51 (.idx 2 (.t 48) (.t 50)),gA 42 false 52 1 51,hA 42 false 53 52,ig 42 false 54 (.bin .lss (.t 47) (.t 53)),ig 29 true 55 (.pick (.t 42) (kB true) (.t 54)),ig 26 false 56 (.pick (.t 29) (.t 55) (kB false)),pT 57 26 56] (cI 57 (rR [bA 2 false])))) (.reg [iv 8 3,pA 9 8 1,iv 3 9]))))) (rR [iv 58 0,nA 59 58,ia 60 (.call 69 [.t 59,kI 2,kI 20]),iv 2 60]))) [.t 2]:=yA none Tryz.func173 (by kernel_rfl)
theorem ylX : Has Tryz.prog 174 23 (rS [bA 2 false] (.seq (rS [mA 3 0] (bL 0 (xS [iv 4 3,iv 5 0,nA 6 5,tA 7 4 6] 7 0 (.seq (.block 1 (rS [iv 10 0,iv 11 3,xA 12 2 10 11,dA 13 2 12,c1 14 94 13,nN 15 14,iv 16 15,g8 16 false 17 0,ig 16 false 18 (.len (.t 17)),ig 16 false 19 (.bin .gtr (.t 18) (kI 8)),pT 20 16 19] (cI 20 (rR [bA 2 false])))) (.reg [iv 8 3,pA 9 8 1,iv 3 9]))))) (rR [iv 21 0,c1 22 178 21,iv 2 22]))) [.t 2]:=yA none Tryz.func174 (by kernel_rfl)
theorem ypw : Has Tryz.prog 175 55 (rS [bA 2 false] (iS [iv 5 0,nA 6 5,oI 7 .lss 6 2,iv 8 7,g8 8 false 9 0,ig 8 false 10 (.len (.t 9)),ig 8 false 11 (.bin .gtr (.t 10) (kI 20)),pT 12 8 11] 12 (rR [bA 2 false]) (.seq (rS [iv 13 0,nA 14 13,mA 15 0] (bL 0 (rS [tA 16 15 14] (.seq (cX 16 0) (.seq (.block 1 (rS [iv 17 15,xA 18 2 13 15,dA 19 2 18,ia 4 (.alloc [.c (.i 0),.c (.i 0)]),iv 3 17,tN 2 4 19] (iS [fA 20 0 4,lA 21 20,ia 22 (.call 77 [.t 21,kI 0,kI 1000000000]),nN 23 22,iv 24 23,gA 24 false 25 1 4,hA 24 false 26 25,ig 24 false 27 (.call 77 [.t 26,kI 0,kI 1000000000]),g9 24 false 28 27,pT 29 24 28] 29 (rR [bA 2 false]) (rQ [iv 30 3,oI 31 .gtr 30 0,iv 32 31,g8 32 true 33 0,g8 32 true 34 3,ig 32 true 35 (.bin .sub (.t 34) (kI 1)),ig 32 true 36 (.idx 2 (.t 33) (.t 35)),gA 32 true 37 0 36,hA 32 true 38 37,gA 32 true 39 0 4,hA 32 true 40 39,ig 32 true 41 (.bin .geq (.t 38) (.t 40)),g8 32 true 42 41,g8 42 false 43 0,g8 42 false 44 3,ig 42 false 45 (.bin .sub (.t 44) (kI 1)),ig 42 false 46 (.idx 2 (.t 43) (.t 45)),gA 42 false 47 1 46,hA 42 false 48 47,gA 42 false 49 1 4,hA 42 false 50 49,ig 42 false 51 (.bin .gtr (.t 48) (.t 50)),ig 32 true 52 (.pick (.t 42) (kB true) (.t 51)),pF 53 32 52] (cI 53 (rR [bA 2 false])))))) (.reg [pA 54 15 1,iv 15 54])))))) (rR [bA 2 true])))) [.t 2]:=yA none Tryz.func175 (by kernel_rfl)
theorem yiB : Has Tryz.prog 176 36 (rS [bA 2 false] (iS [iv 8 0,nA 9 8,oI 10 .gtr 9 8] 10 (rR [bA 2 false]) (rS [mN 3 1] (.seq (rS [iv 11 0,nA 12 11,mA 13 0] (bL 0 (rS [tA 14 13 12] (.seq (cX 14 0) (.seq (.block 1 (rS [xA 15 2 11 13,dA 16 2 15,ia 5 (.alloc [.c (.b false),.nil 1]),tN 2 5 16] (iS [dA 17 2 5,c1 18 79 17,nN 19 18] 19 (rR [bA 2 false]) (rS [dA 20 2 5,c1 21 61 20,nA 22 21,mA 23 0] (bL 2 (rS [tA 24 23 22] (.seq (cX 24 2) (.seq (.block 3 (rS [xA 25 1 21 23,lA 26 25,iv 7 26] (iS [iv 27 3,iv 28 7,c2 29 85 27 28] 29 (rR [bA 2 false]) (.reg [iv 30 3,iv 31 7,bS 32 1 31,aP 33 1 8 30 32,iv 3 33])))) (.reg [pA 34 23 1,iv 23 34]))))))))) (.reg [pA 35 13 1,iv 13 35])))))) (rR [bA 2 true]))))) [.t 2]:=yA none Tryz.func176 (by kernel_rfl)
theorem yK5 : Has Tryz.prog 177 63 (rS [mA 6 20] (rS [iv 10 6,mA 7 0,iv 8 10] (.seq (bL 0 (xS [iv 11 8,iv 12 1,oA 13 .leq 11 12] 13 0 (.block 1 (rS [iv 14 0,iv 15 7,iv 16 8,iv 17 2,ia 18 (.call 179 [.t 14,.t 15,.t 16,.t 17])] (rS [iv 19 8,iv 7 19] (.reg [iv 20 8,iv 21 6,oA 22 .add 20 21,iv 8 22])))))) (rS [iv 23 0,iv 24 7,iv 25 1,iv 26 2,ia 27 (.call 179 [.t 23,.t 24,.t 25,.t 26])] (bL 2 (xS [iv 28 6,iv 29 1,tA 30 28 29] 30 2 (.block 3 (rS [iv 31 6,ia 32 (.bin .mul (kI 2) (.t 31)),mA 7 0,iv 8 32] (.seq (bL 4 (xS [iv 33 8,iv 34 1,oA 35 .leq 33 34] 35 4 (.block 5 (rS [iv 36 0,iv 37 7,iv 38 7,iv 39 6,oA 40 .add 38 39,iv 41 8,iv 42 2,ia 43 (.call 180 [.t 36,.t 37,.t 40,.t 41,.t 42])] (rS [iv 44 8,iv 7 44] (.reg [iv 45 8,iv 46 6,ia 47 (.bin .mul (kI 2) (.t 46)),oA 48 .add 45 47,iv 8 48])))))) (.seq (rS [iv 49 7,iv 50 6,oA 51 .add 49 50,iv 9 51] (rS [iv 52 9,iv 53 1,tA 54 52 53] (cI 54 (.reg [iv 55 0,iv 56 7,iv 57 9,iv 58 1,iv 59 2,ia 60 (.call 180 [.t 55,.t 56,.t 57,.t 58,.t 59])])))) (.reg [iv 61 6,oI 62 .mul 61 2,iv 6 62]))))))))))) []:=yA none Tryz.func177 (by kernel_rfl)
theorem yjO : Has Tryz.prog 178 44 (rS [bA 2 false] (rS [bZ 8 1,iv 3 8] (.seq (rS [mA 4 0] (bL 0 (xS [iv 9 4,iv 10 0,nA 11 10,tA 12 9 11] 12 0 (.seq (.block 1 (rS [iv 15 0,iv 16 4,xA 17 2 15 16,dA 18 2 17,c1 19 53 18,iv 5 19] (.seq (rS [mA 6 0] (bL 2 (xS [iv 20 6,iv 21 5,nA 22 21,tA 23 20 22] 23 2 (.seq (.block 3 (rS [mA 7 0] (bL 4 (xS [iv 26 7,iv 27 3,nA 28 27,tA 29 26 28] 29 4 (.seq (.block 5 (rQ [iv 32 3,iv 33 7,xA 34 1 32 33,lA 35 34,iv 36 5,iv 37 6,xA 38 1 36 37,lA 39 38,oA 40 .eql 35 39] (cI 40 (rR [bA 2 false])))) (.reg [iv 30 7,pA 31 30 1,iv 7 31])))))) (.reg [iv 24 6,pA 25 24 1,iv 6 25]))))) (.reg [iv 41 3,iv 42 5,aP 43 1 8 41 42,iv 3 43])))) (.reg [iv 13 4,pA 14 13 1,iv 4 14]))))) (rR [bA 2 true])))) [.t 2]:=yA none Tryz.func178 (by kernel_rfl)
theorem yKZ : Has Tryz.prog 179 53 (rS [iv 10 1,pA 11 10 1,iv 8 11] (bL 0 (xS [iv 12 8,iv 13 2,tA 14 12 13] 14 0 (.seq (.block 1 (rS [iv 17 8,iv 9 17] (bL 2 (.seq (rQ [iv 18 9,iv 19 1,oA 20 .gtr 18 19,iv 21 20,g8 21 true 22 3,g8 21 true 23 0,g8 21 true 24 9,ig 21 true 25 (.idx 1 (.t 23) (.t 24)),hA 21 true 26 25,g8 21 true 27 0,g8 21 true 28 9,ig 21 true 29 (.bin .sub (.t 28) (kI 1)),ig 21 true 30 (.idx 1 (.t 27) (.t 29)),hA 21 true 31 30,ig 21 true 32 (.callv (.t 22) [.t 26,.t 31]),ig 21 true 33 (.bin .lss (.t 32) (kI 0)),pF 34 21 33] (cX 34 2)) (.seq (.block 3 (.rege [q0 (iv 37 0),q0 (iv 38 9),q3 (iv 39 0),q3 (iv 40 9),q3 (oI 41 .sub 40 1),q0 (iv 42 0),q0 (iv 43 9),q0 (oI 44 .sub 43 1),q0 (xA 45 1 42 44),q0 (lA 46 45),q0 (iv 47 0),q0 (iv 48 9),q0 (xA 49 1 47 48),q0 (lA 50 49),q0 (xA 51 1 37 38),q4 2 false [2,3,4] (tS 51 46),q0 (xA 52 1 39 41),q2 (tS 52 50)])) (.reg [iv 35 9,oI 36 .sub 35 1,iv 9 36])))))) (.reg [iv 15 8,pA 16 15 1,iv 8 16]))))) []:=yA none Tryz.func179 (by kernel_rfl)
theorem ypK : Has Tryz.prog 14 27 (rS [mA 4 0] (rS [iv 6 1,iv 7 0,nA 8 7,oA 9 .sub 6 8,iv 1 9] (iS [iv 10 1,oI 11 .lss 10 0] 11 (rR [mA 4 (-1)]) (.seq (rS [mA 5 0] (bL 0 (xS [iv 12 5,iv 13 0,nA 14 13,tA 15 12 14] 15 0 (.seq (.block 1 (rS [iv 18 0,iv 19 5,xA 20 22 18 19,dA 21 22 20,iv 22 1,c2 23 49 21 22,iv 1 23] (rS [iv 24 1,oI 25 .lss 24 0] (cI 25 (rR [mA 4 (-1)]))))) (.reg [iv 16 5,pA 17 16 1,iv 5 17]))))) (rR [iv 26 1,iv 4 26]))))) [.t 4]:=yA none Tryz.func14 (by kernel_rfl)
theorem yma : Has Tryz.prog 15 27 (rS [mA 4 0] (rS [iv 6 1,iv 7 0,nA 8 7,oA 9 .sub 6 8,iv 1 9] (iS [iv 10 1,oI 11 .lss 10 0] 11 (rR [mA 4 (-1)]) (.seq (rS [mA 5 0] (bL 0 (xS [iv 12 5,iv 13 0,nA 14 13,tA 15 12 14] 15 0 (.seq (.block 1 (rS [iv 18 0,iv 19 5,xA 20 1 18 19,lA 21 20,iv 22 1,c2 23 50 21 22,iv 1 23] (rS [iv 24 1,oI 25 .lss 24 0] (cI 25 (rR [mA 4 (-1)]))))) (.reg [iv 16 5,pA 17 16 1,iv 5 17]))))) (rR [iv 26 1,iv 4 26]))))) [.t 4]:=yA none Tryz.func15 (by kernel_rfl)
theorem ynN : Has Tryz.prog 16 27 (rS [mA 4 0] (rS [iv 6 1,iv 7 0,nA 8 7,oA 9 .sub 6 8,iv 1 9] (iS [iv 10 1,oI 11 .lss 10 0] 11 (rR [mA 4 (-1)]) (.seq (rS [mA 5 0] (bL 0 (xS [iv 12 5,iv 13 0,nA 14 13,tA 15 12 14] 15 0 (.seq (.block 1 (rS [iv 18 0,iv 19 5,xA 20 2 18 19,dA 21 2 20,iv 22 1,c2 23 51 21 22,iv 1 23] (rS [iv 24 1,oI 25 .lss 24 0] (cI 25 (rR [mA 4 (-1)]))))) (.reg [iv 16 5,pA 17 16 1,iv 5 17]))))) (rR [iv 26 1,iv 4 26]))))) [.t 4]:=yA none Tryz.func16 (by kernel_rfl)
def yj7 : SC:=rS [mA 4 0] (rS [iv 5 1,iv 6 0,nA 7 6,oA 8 .sub 5 7,iv 1 8] (iS [iv 9 1,oI 10 .lss 9 0] 10 (rR [mA 4 (-1)]) (rR [iv 11 1,iv 4 11])))
theorem yrh : Has Tryz.prog 17 12 yj7 [.t 4]:=yA none Tryz.func17 (by kernel_rfl)
theorem yng : Has Tryz.prog 18 18 (rS [bX 2 4 0,mA 4 0] (rS [fA 5 2 2,lA 6 5,iv 7 1,c2 8 17 6 7,iv 1 8] (iS [iv 9 1,oI 10 .lss 9 0] 10 (rR [mA 4 (-1)]) (rS [fA 11 3 2,lA 12 11,iv 13 1,c2 14 17 12 13,iv 1 14] (iS [iv 15 1,oI 16 .lss 15 0] 16 (rR [mA 4 (-1)]) (rR [iv 17 1,iv 4 17])))))) [.t 4]:=yA none Tryz.func18 (by kernel_rfl)
def yix : SC:=rS [mA 4 0] (rS [iv 5 1,iv 6 0,nA 7 6,oA 8 .sub 5 7,iv 1 8] (iS [iv 9 1,oI 10 .lss 9 0] 10 (rR [mA 4 (-1)]) (rR [iv 11 1,iv 4 11])))
theorem ynm : Has Tryz.prog 19 12 yix [.t 4]:=yA none Tryz.func19 (by kernel_rfl)
theorem ylD : Has Tryz.prog 20 27 (rS [mA 4 0] (rS [iv 6 1,iv 7 0,nA 8 7,oA 9 .sub 6 8,iv 1 9] (iS [iv 10 1,oI 11 .lss 10 0] 11 (rR [mA 4 (-1)]) (.seq (rS [mA 5 0] (bL 0 (xS [iv 12 5,iv 13 0,nA 14 13,tA 15 12 14] 15 0 (.seq (.block 1 (rS [iv 18 0,iv 19 5,xA 20 4 18 19,dA 21 4 20,iv 22 1,c2 23 52 21 22,iv 1 23] (rS [iv 24 1,oI 25 .lss 24 0] (cI 25 (rR [mA 4 (-1)]))))) (.reg [iv 16 5,pA 17 16 1,iv 5 17]))))) (rR [iv 26 1,iv 4 26]))))) [.t 4]:=yA none Tryz.func20 (by kernel_rfl)
theorem yUW : Has Tryz.prog 21 112 (rS [bX 1 16 0,mN 2 1] (rS [bZ 10 1,iv 3 10] (.seq (rS [mA 4 0] (bL 0 (xS [iv 11 4,fA 12 4 1,lA 13 12,nA 14 13,tA 15 11 14] 15 0 (.seq (.block 1 (rS [mA 5 0] (bL 2 (xS [iv 18 5,fA 19 4 1,lA 20 19,iv 21 4,xA 22 1 20 21,lA 23 22,nA 24 23,tA 25 18 24] 25 2 (.seq (.block 3 (.reg [iv 28 3,fA 29 4 1,lA 30 29,iv 31 4,xA 32 1 30 31,lA 33 32,iv 34 5,xA 35 3 33 34,fA 36 0 35,dA 37 2 36,c1 38 53 37,aP 39 1 8 28 38,iv 3 39])) (.reg [iv 26 5,pA 27 26 1,iv 5 27])))))) (.reg [iv 16 4,pA 17 16 1,iv 4 17]))))) (.seq (rS [mA 6 0] (bL 4 (xS [iv 40 6,fA 41 3 1,lA 42 41,nA 43 42,tA 44 40 43] 44 4 (.seq (.block 5 (.seq (rS [mA 7 0] (bL 6 (xS [iv 47 7,fA 48 3 1,lA 49 48,iv 50 6,xA 51 22 49 50,fA 52 21 51,lA 53 52,nA 54 53,tA 55 47 54] 55 6 (.seq (.block 7 (.reg [iv 58 3,fA 59 3 1,lA 60 59,iv 61 6,xA 62 22 60 61,fA 63 21 62,lA 64 63,iv 65 7,xA 66 4 64 65,fA 67 0 66,dA 68 2 67,c1 69 53 68,aP 70 1 8 58 69,iv 3 70])) (.reg [iv 56 7,pA 57 56 1,iv 7 57]))))) (rS [mA 8 0] (bL 8 (xS [iv 71 8,fA 72 3 1,lA 73 72,iv 74 6,xA 75 22 73 74,fA 76 0 75,fA 77 9 76,lA 78 77,nA 79 78,tA 80 71 79] 80 8 (.seq (.block 9 (.reg [iv 83 3,fA 84 3 1,lA 85 84,iv 86 6,xA 87 22 85 86,fA 88 0 87,fA 89 9 88,lA 90 89,iv 91 8,xA 92 2 90 91,dA 93 2 92,c1 94 53 93,aP 95 1 8 83 94,iv 3 95])) (.reg [iv 81 8,pA 82 81 1,iv 8 82]))))))) (.reg [iv 45 6,pA 46 45 1,iv 6 46]))))) (.seq (rS [mA 9 0] (bL 10 (xS [iv 96 9,fA 97 5 1,lA 98 97,nA 99 98,tA 100 96 99] 100 10 (.seq (.block 11 (.reg [iv 103 3,fA 104 5 1,lA 105 104,iv 106 9,xA 107 2 105 106,dA 108 2 107,c1 109 53 108,aP 110 1 8 103 109,iv 3 110])) (.reg [iv 101 9,pA 102 101 1,iv 9 102]))))) (rR [iv 111 3,iv 2 111])))))) [.t 2]:=yA none Tryz.func21 (by kernel_rfl)
theorem yTo : Has Tryz.prog 22 22 (rS [mA 4 0] (rS [mA 5 0] (.seq (rS [mA 6 0] (bL 0 (xS [iv 7 6,iv 8 0,nA 9 8,tA 10 7 9] 10 0 (.seq (.block 1 (rS [iv 13 0,iv 14 6,xA 15 1 13 14,lA 16 15,iv 17 1,oA 18 .eql 16 17] (cI 18 (.reg [iv 19 5,pA 20 19 1,iv 5 20])))) (.reg [iv 11 6,pA 12 11 1,iv 6 12]))))) (rR [iv 21 5,iv 4 21])))) [.t 4]:=yA none Tryz.func22 (by kernel_rfl)
theorem yii : Has Tryz.prog 23 23 (rS [mN 2 3] (rS [iv 5 0,nA 6 5,ia 7 (.mks 3 56 [.sl 2 [],.i 0,.sl 1 []] (.t 6) (.t 6)),iv 3 7] (.seq (rS [mA 4 0] (bL 0 (xS [iv 8 4,iv 9 0,nA 10 9,tA 11 8 10] 11 0 (.seq (.block 1 (.reg [iv 14 3,iv 15 4,iv 16 0,iv 17 4,xA 18 3 16 17,dA 19 3 18,c1 20 54 19,xA 21 3 14 15,tN 3 21 20])) (.reg [iv 12 4,pA 13 12 1,iv 4 13]))))) (rR [iv 22 3,iv 2 22])))) [.t 2]:=yA none Tryz.func23 (by kernel_rfl)
theorem yj5 : Has Tryz.prog 24 23 (rS [mN 2 2] (rS [iv 5 0,nA 6 5,ia 7 (.mks 2 16 [.i 0,.i 0] (.t 6) (.t 6)),iv 3 7] (.seq (rS [mA 4 0] (bL 0 (xS [iv 8 4,iv 9 0,nA 10 9,tA 11 8 10] 11 0 (.seq (.block 1 (.reg [iv 14 3,iv 15 4,iv 16 0,iv 17 4,xA 18 2 16 17,dA 19 2 18,c1 20 55 19,xA 21 2 14 15,tN 2 21 20])) (.reg [iv 12 4,pA 13 12 1,iv 4 13]))))) (rR [iv 22 3,iv 2 22])))) [.t 2]:=yA none Tryz.func24 (by kernel_rfl)
theorem yjm : Has Tryz.prog 25 23 (rS [mN 2 22] (rS [iv 5 0,nA 6 5,ia 7 (.mks 22 224 [.i 0,.i 0,.i 0,.i 0,.i 0,.i 0,.i 0,.i 0,.i 0,.sl 2 [],.i 0,.i 0,.i 0,.i 0,.i 0,.i 0,.i 0,.i 0,.sl 2 [],.b false,.i 0,.sl 4 []] (.t 6) (.t 6)),iv 3 7] (.seq (rS [mA 4 0] (bL 0 (xS [iv 8 4,iv 9 0,nA 10 9,tA 11 8 10] 11 0 (.seq (.block 1 (.reg [iv 14 3,iv 15 4,iv 16 0,iv 17 4,xA 18 22 16 17,dA 19 22 18,c1 20 56 19,xA 21 22 14 15,tN 22 21 20])) (.reg [iv 12 4,pA 13 12 1,iv 4 13]))))) (rR [iv 22 3,iv 2 22])))) [.t 2]:=yA none Tryz.func25 (by kernel_rfl)
theorem ygW : Has Tryz.prog 26 23 (rS [mN 2 1] (rS [iv 5 0,nA 6 5,ia 7 (.mks 1 24 [.sl 3 []] (.t 6) (.t 6)),iv 3 7] (.seq (rS [mA 4 0] (bL 0 (xS [iv 8 4,iv 9 0,nA 10 9,tA 11 8 10] 11 0 (.seq (.block 1 (.reg [iv 14 3,iv 15 4,iv 16 0,iv 17 4,xA 18 1 16 17,lA 19 18,c1 20 57 19,xA 21 1 14 15,tS 21 20])) (.reg [iv 12 4,pA 13 12 1,iv 4 13]))))) (rR [iv 22 3,iv 2 22])))) [.t 2]:=yA none Tryz.func26 (by kernel_rfl)
theorem yij : Has Tryz.prog 27 23 (rS [mN 2 2] (rS [iv 5 0,nA 6 5,ia 7 (.mks 2 32 [.b false,.sl 1 []] (.t 6) (.t 6)),iv 3 7] (.seq (rS [mA 4 0] (bL 0 (xS [iv 8 4,iv 9 0,nA 10 9,tA 11 8 10] 11 0 (.seq (.block 1 (.reg [iv 14 3,iv 15 4,iv 16 0,iv 17 4,xA 18 2 16 17,dA 19 2 18,c1 20 58 19,xA 21 2 14 15,tN 2 21 20])) (.reg [iv 12 4,pA 13 12 1,iv 4 13]))))) (rR [iv 22 3,iv 2 22])))) [.t 2]:=yA none Tryz.func27 (by kernel_rfl)
theorem yjT : Has Tryz.prog 28 22 (rS [mN 2 1] (rS [iv 5 0,nA 6 5,ia 7 (.mks 1 8 [.i 0] (.t 6) (.t 6)),iv 3 7] (.seq (rS [mA 4 0] (bL 0 (xS [iv 8 4,iv 9 0,nA 10 9,tA 11 8 10] 11 0 (.seq (.block 1 (.reg [iv 14 3,iv 15 4,iv 16 0,iv 17 4,xA 18 1 16 17,lA 19 18,xA 20 1 14 15,tS 20 19])) (.reg [iv 12 4,pA 13 12 1,iv 4 13]))))) (rR [iv 21 3,iv 2 21])))) [.t 2]:=yA none Tryz.func28 (by kernel_rfl)
theorem yil : Has Tryz.prog 29 19 (rS [bX 1 4 0,ia 2 (.alloc [.c (.i 0),.c (.i 0),.nil 1,.nil 1])] (rS [ia 3 (.alloc [.c (.i 0),.c (.i 0),.nil 1,.nil 1])] (rS [fA 4 0 1,lA 5 4,fA 6 0 3,tS 6 5] (rS [fA 7 1 1,lA 8 7,fA 9 1 3,tS 9 8] (rS [fA 10 2 1,lA 11 10,c1 12 28 11,fA 13 2 3,tS 13 12] (rS [fA 14 3 1,lA 15 14,c1 16 28 15,fA 17 3 3,tS 17 16] (rR [dA 18 4 3,tN 4 2 18]))))))) [.cl 2 4]:=yA none Tryz.func29 (by kernel_rfl)
theorem yiv : Has Tryz.prog 30 23 (rS [mN 2 5] (rS [iv 5 0,nA 6 5,ia 7 (.mks 5 40 [.i 0,.i 0,.i 0,.i 0,.i 0] (.t 6) (.t 6)),iv 3 7] (.seq (rS [mA 4 0] (bL 0 (xS [iv 8 4,iv 9 0,nA 10 9,tA 11 8 10] 11 0 (.seq (.block 1 (.reg [iv 14 3,iv 15 4,iv 16 0,iv 17 4,xA 18 5 16 17,dA 19 5 18,c1 20 59 19,xA 21 5 14 15,tN 5 21 20])) (.reg [iv 12 4,pA 13 12 1,iv 4 13]))))) (rR [iv 22 3,iv 2 22])))) [.t 2]:=yA none Tryz.func30 (by kernel_rfl)
theorem ygz : Has Tryz.prog 31 23 (rS [mN 2 4] (rS [iv 5 0,nA 6 5,ia 7 (.mks 4 48 [.i 0,.i 0,.b false,.sl 1 []] (.t 6) (.t 6)),iv 3 7] (.seq (rS [mA 4 0] (bL 0 (xS [iv 8 4,iv 9 0,nA 10 9,tA 11 8 10] 11 0 (.seq (.block 1 (.reg [iv 14 3,iv 15 4,iv 16 0,iv 17 4,xA 18 4 16 17,dA 19 4 18,c1 20 60 19,xA 21 4 14 15,tN 4 21 20])) (.reg [iv 12 4,pA 13 12 1,iv 4 13]))))) (rR [iv 22 3,iv 2 22])))) [.t 2]:=yA none Tryz.func31 (by kernel_rfl)
theorem yUX : Has Tryz.prog 32 83 (rS [bX 1 16 0,mN 2 1] (rS [mN 3 1] (.seq (rS [fA 16 4 1,lA 17 16,nA 18 17,mA 19 0] (bL 0 (rS [tA 20 19 18] (.seq (cX 20 0) (.seq (.block 1 (rS [xA 21 1 17 19,lA 22 21,iv 5 22] (rS [iv 23 5,nA 24 23,mA 25 0] (bL 2 (rS [tA 26 25 24] (.seq (cX 26 2) (.seq (.block 3 (rS [xA 27 3 23 25,dA 28 3 27,ia 7 (.alloc [.c (.b false),.nil 1,.c (.i 0)]),tN 3 7 28] (.reg [iv 29 3,fA 30 0 7,dA 31 2 30,c1 32 61 31,aP 33 1 8 29 32,iv 3 33]))) (.reg [pA 34 25 1,iv 25 34])))))))) (.reg [pA 35 19 1,iv 19 35])))))) (.seq (rS [fA 36 3 1,lA 37 36,nA 38 37,mA 39 0] (bL 4 (rS [tA 40 39 38] (.seq (cX 40 4) (.seq (.block 5 (rS [xA 41 22 37 39,dA 42 22 41,ia 9 (.alloc [.c (.i 0),.c (.i 0),.c (.i 0),.c (.i 0),.c (.i 0),.c (.i 0),.c (.i 0),.c (.i 0),.c (.i 0),.nil 2,.c (.i 0),.c (.i 0),.c (.i 0),.c (.i 0),.c (.i 0),.c (.i 0),.c (.i 0),.c (.i 0),.nil 2,.c (.b false),.c (.i 0),.nil 4]),tN 22 9 42] (.seq (rS [fA 43 21 9,lA 44 43,nA 45 44,mA 46 0] (bL 6 (rS [tA 47 46 45] (.seq (cX 47 6) (.seq (.block 7 (rS [xA 48 4 44 46,dA 49 4 48,ia 11 (.alloc [.c (.b false),.nil 1,.c (.i 0),.c (.i 0)]),tN 4 11 49] (.reg [iv 50 3,fA 51 0 11,dA 52 2 51,c1 53 61 52,aP 54 1 8 50 53,iv 3 54]))) (.reg [pA 55 46 1,iv 46 55])))))) (rS [fA 56 0 9,fA 57 9 56,lA 58 57,nA 59 58,mA 60 0] (bL 8 (rS [tA 61 60 59] (.seq (cX 61 8) (.seq (.block 9 (rS [xA 62 2 58 60,dA 63 2 62,ia 13 (.alloc [.c (.b false),.nil 1]),tN 2 13 63] (.reg [iv 64 3,dA 65 2 13,c1 66 61 65,aP 67 1 8 64 66,iv 3 67]))) (.reg [pA 68 60 1,iv 60 68]))))))))) (.reg [pA 69 39 1,iv 39 69])))))) (.seq (rS [fA 70 5 1,lA 71 70,nA 72 71,mA 73 0] (bL 10 (rS [tA 74 73 72] (.seq (cX 74 10) (.seq (.block 11 (rS [xA 75 2 71 73,dA 76 2 75,ia 15 (.alloc [.c (.b false),.nil 1]),tN 2 15 76] (.reg [iv 77 3,dA 78 2 15,c1 79 61 78,aP 80 1 8 77 79,iv 3 80]))) (.reg [pA 81 73 1,iv 73 81])))))) (rR [iv 82 3,iv 2 82])))))) [.t 2]:=yA none Tryz.func32 (by kernel_rfl)
theorem ynu : Has Tryz.prog 33 27 (rS [bA 4 false] (iS [iv 6 0,nA 7 6,iv 8 1,nA 9 8,oA 10 .neq 7 9] 10 (rR [bA 4 false]) (.seq (rS [mA 5 0] (bL 0 (xS [iv 11 5,iv 12 0,nA 13 12,tA 14 11 13] 14 0 (.seq (.block 1 (rQ [iv 17 0,iv 18 5,xA 19 3 17 18,dA 20 3 19,iv 21 1,iv 22 5,xA 23 3 21 22,dA 24 3 23,c2 25 62 20 24,nN 26 25] (cI 26 (rR [bA 4 false])))) (.reg [iv 15 5,pA 16 15 1,iv 5 16]))))) (rR [bA 4 true])))) [.t 4]:=yA none Tryz.func33 (by kernel_rfl)
theorem yqr : Has Tryz.prog 34 27 (rS [bA 4 false] (iS [iv 6 0,nA 7 6,iv 8 1,nA 9 8,oA 10 .neq 7 9] 10 (rR [bA 4 false]) (.seq (rS [mA 5 0] (bL 0 (xS [iv 11 5,iv 12 0,nA 13 12,tA 14 11 13] 14 0 (.seq (.block 1 (rQ [iv 17 0,iv 18 5,xA 19 2 17 18,dA 20 2 19,iv 21 1,iv 22 5,xA 23 2 21 22,dA 24 2 23,c2 25 63 20 24,nN 26 25] (cI 26 (rR [bA 4 false])))) (.reg [iv 15 5,pA 16 15 1,iv 5 16]))))) (rR [bA 4 true])))) [.t 4]:=yA none Tryz.func34 (by kernel_rfl)
theorem yo1 : Has Tryz.prog 35 27 (rS [bA 4 false] (iS [iv 6 0,nA 7 6,iv 8 1,nA 9 8,oA 10 .neq 7 9] 10 (rR [bA 4 false]) (.seq (rS [mA 5 0] (bL 0 (xS [iv 11 5,iv 12 0,nA 13 12,tA 14 11 13] 14 0 (.seq (.block 1 (rQ [iv 17 0,iv 18 5,xA 19 22 17 18,dA 20 22 19,iv 21 1,iv 22 5,xA 23 22 21 22,dA 24 22 23,c2 25 64 20 24,nN 26 25] (cI 26 (rR [bA 4 false])))) (.reg [iv 15 5,pA 16 15 1,iv 5 16]))))) (rR [bA 4 true])))) [.t 4]:=yA none Tryz.func35 (by kernel_rfl)
theorem ymn : Has Tryz.prog 36 27 (rS [bA 4 false] (iS [iv 6 0,nA 7 6,iv 8 1,nA 9 8,oA 10 .neq 7 9] 10 (rR [bA 4 false]) (.seq (rS [mA 5 0] (bL 0 (xS [iv 11 5,iv 12 0,nA 13 12,tA 14 11 13] 14 0 (.seq (.block 1 (rQ [iv 17 0,iv 18 5,xA 19 1 17 18,lA 20 19,iv 21 1,iv 22 5,xA 23 1 21 22,lA 24 23,c2 25 65 20 24,nN 26 25] (cI 26 (rR [bA 4 false])))) (.reg [iv 15 5,pA 16 15 1,iv 5 16]))))) (rR [bA 4 true])))) [.t 4]:=yA none Tryz.func36 (by kernel_rfl)
theorem ynC : Has Tryz.prog 37 27 (rS [bA 4 false] (iS [iv 6 0,nA 7 6,iv 8 1,nA 9 8,oA 10 .neq 7 9] 10 (rR [bA 4 false]) (.seq (rS [mA 5 0] (bL 0 (xS [iv 11 5,iv 12 0,nA 13 12,tA 14 11 13] 14 0 (.seq (.block 1 (rQ [iv 17 0,iv 18 5,xA 19 2 17 18,dA 20 2 19,iv 21 1,iv 22 5,xA 23 2 21 22,dA 24 2 23,c2 25 66 20 24,nN 26 25] (cI 26 (rR [bA 4 false])))) (.reg [iv 15 5,pA 16 15 1,iv 5 16]))))) (rR [bA 4 true])))) [.t 4]:=yA none Tryz.func37 (by kernel_rfl)
theorem yqx : Has Tryz.prog 38 26 (rS [bA 4 false] (iS [iv 6 0,nA 7 6,iv 8 1,nA 9 8,oA 10 .neq 7 9] 10 (rR [bA 4 false]) (.seq (rS [mA 5 0] (bL 0 (xS [iv 11 5,iv 12 0,nA 13 12,tA 14 11 13] 14 0 (.seq (.block 1 (rQ [iv 17 0,iv 18 5,xA 19 1 17 18,lA 20 19,iv 21 1,iv 22 5,xA 23 1 21 22,lA 24 23,oA 25 .neq 20 24] (cI 25 (rR [bA 4 false])))) (.reg [iv 15 5,pA 16 15 1,iv 5 16]))))) (rR [bA 4 true])))) [.t 4]:=yA none Tryz.func38 (by kernel_rfl)
def yiy : SC:=rS [bX 2 4 0,bX 3 4 1,bA 4 false] (iS [fA 5 0 2,lA 6 5,fA 7 0 3,lA 8 7,oA 9 .neq 6 8] 9 (rR [bA 4 false]) (iS [fA 10 1 2,lA 11 10,fA 12 1 3,lA 13 12,oA 14 .neq 11 13] 14 (rR [bA 4 false]) (iS [fA 15 2 2,lA 16 15,fA 17 2 3,lA 18 17,c2 19 38 16 18,nN 20 19] 20 (rR [bA 4 false]) (iS [fA 21 3 2,lA 22 21,fA 23 3 3,lA 24 23,c2 25 38 22 24,nN 26 25] 26 (rR [bA 4 false]) (rR [bA 4 true])))))
theorem ym8 : Has Tryz.prog 39 27 yiy [.t 4]:=yA none Tryz.func39 (by kernel_rfl)
theorem ynh : Has Tryz.prog 40 27 (rS [bA 4 false] (iS [iv 6 0,nA 7 6,iv 8 1,nA 9 8,oA 10 .neq 7 9] 10 (rR [bA 4 false]) (.seq (rS [mA 5 0] (bL 0 (xS [iv 11 5,iv 12 0,nA 13 12,tA 14 11 13] 14 0 (.seq (.block 1 (rQ [iv 17 0,iv 18 5,xA 19 5 17 18,dA 20 5 19,iv 21 1,iv 22 5,xA 23 5 21 22,dA 24 5 23,c2 25 67 20 24,nN 26 25] (cI 26 (rR [bA 4 false])))) (.reg [iv 15 5,pA 16 15 1,iv 5 16]))))) (rR [bA 4 true])))) [.t 4]:=yA none Tryz.func40 (by kernel_rfl)
theorem ylI : Has Tryz.prog 41 27 (rS [bA 4 false] (iS [iv 6 0,nA 7 6,iv 8 1,nA 9 8,oA 10 .neq 7 9] 10 (rR [bA 4 false]) (.seq (rS [mA 5 0] (bL 0 (xS [iv 11 5,iv 12 0,nA 13 12,tA 14 11 13] 14 0 (.seq (.block 1 (rQ [iv 17 0,iv 18 5,xA 19 4 17 18,dA 20 4 19,iv 21 1,iv 22 5,xA 23 4 21 22,dA 24 4 23,c2 25 68 20 24,nN 26 25] (cI 26 (rR [bA 4 false])))) (.reg [iv 15 5,pA 16 15 1,iv 5 16]))))) (rR [bA 4 true])))) [.t 4]:=yA none Tryz.func41 (by kernel_rfl)
theorem ypp : Has Tryz.prog 48 18 (rS [bX 2 3 0,mA 4 0] (rS [fA 5 0 2,lA 6 5,iv 7 1,c2 8 87 6 7,iv 1 8] (iS [iv 9 1,oI 10 .lss 9 0] 10 (rR [mA 4 (-1)]) (rS [fA 11 2 2,lA 12 11,iv 13 1,c2 14 17 12 13,iv 1 14] (iS [iv 15 1,oI 16 .lss 15 0] 16 (rR [mA 4 (-1)]) (rR [iv 17 1,iv 4 17])))))) [.t 4]:=yA none Tryz.func48 (by kernel_rfl)
theorem yqH : Has Tryz.prog 49 24 (rS [bX 2 22 0,mA 4 0] (rS [fA 5 0 2,dA 6 10 5,iv 7 1,c2 8 88 6 7,iv 1 8] (iS [iv 9 1,oI 10 .lss 9 0] 10 (rR [mA 4 (-1)]) (rS [fA 11 18 2,lA 12 11,iv 13 1,c2 14 89 12 13,iv 1 14] (iS [iv 15 1,oI 16 .lss 15 0] 16 (rR [mA 4 (-1)]) (rS [fA 17 21 2,lA 18 17,iv 19 1,c2 20 90 18 19,iv 1 20] (iS [iv 21 1,oI 22 .lss 21 0] 22 (rR [mA 4 (-1)]) (rR [iv 23 1,iv 4 23])))))))) [.t 4]:=yA none Tryz.func49 (by kernel_rfl)
theorem ynH : Has Tryz.prog 50 27 (rS [mA 4 0] (rS [iv 6 1,iv 7 0,nA 8 7,oA 9 .sub 6 8,iv 1 9] (iS [iv 10 1,oI 11 .lss 10 0] 11 (rR [mA 4 (-1)]) (.seq (rS [mA 5 0] (bL 0 (xS [iv 12 5,iv 13 0,nA 14 13,tA 15 12 14] 15 0 (.seq (.block 1 (rS [iv 18 0,iv 19 5,xA 20 3 18 19,dA 21 3 20,iv 22 1,c2 23 91 21 22,iv 1 23] (rS [iv 24 1,oI 25 .lss 24 0] (cI 25 (rR [mA 4 (-1)]))))) (.reg [iv 16 5,pA 17 16 1,iv 5 17]))))) (rR [iv 26 1,iv 4 26]))))) [.t 4]:=yA none Tryz.func50 (by kernel_rfl)
theorem ypX : Has Tryz.prog 51 12 (rS [bX 2 2 0,mA 4 0] (rS [fA 5 1 2,lA 6 5,iv 7 1,c2 8 92 6 7,iv 1 8] (iS [iv 9 1,oI 10 .lss 9 0] 10 (rR [mA 4 (-1)]) (rR [iv 11 1,iv 4 11])))) [.t 4]:=yA none Tryz.func51 (by kernel_rfl)
theorem ymq : Has Tryz.prog 52 12 (rS [bX 2 4 0,mA 4 0] (rS [fA 5 2 2,dA 6 2 5,iv 7 1,c2 8 51 6 7,iv 1 8] (iS [iv 9 1,oI 10 .lss 9 0] 10 (rR [mA 4 (-1)]) (rR [iv 11 1,iv 4 11])))) [.t 4]:=yA none Tryz.func52 (by kernel_rfl)
theorem ysG : Has Tryz.prog 53 28 (rS [bX 1 2 0,mN 2 1] (rS [bZ 6 1,iv 3 6] (rS [dA 7 2 1,c1 8 93 7,iv 4 8] (.seq (rS [mA 5 0] (bL 0 (xS [iv 9 5,iv 10 4,nA 11 10,tA 12 9 11,iv 13 12,ig 13 true 14 (.ldn 2 (.t 1)),ig 13 true 15 (.call 94 [.t 14]),pF 16 13 15] 16 0 (.seq (.block 1 (.reg [iv 19 3,iv 20 4,iv 21 5,xA 22 6 20 21,fA 23 0 22,lA 24 23,bS 25 1 24,aP 26 1 8 19 25,iv 3 26])) (.reg [iv 17 5,pA 18 17 1,iv 5 18]))))) (rR [iv 27 3,iv 2 27]))))) [.t 2]:=yA none Tryz.func53 (by kernel_rfl)
theorem yiN : Has Tryz.prog 54 16 (rS [bX 1 3 0,ia 2 (.alloc [.nil 2,.c (.i 0),.nil 1])] (rS [ia 3 (.alloc [.nil 2,.c (.i 0),.nil 1])] (rS [fA 4 0 1,lA 5 4,c1 6 95 5,fA 7 0 3,tS 7 6] (rS [fA 8 1 1,lA 9 8,fA 10 1 3,tS 10 9] (rS [fA 11 2 1,lA 12 11,c1 13 28 12,fA 14 2 3,tS 14 13] (rR [dA 15 3 3,tN 3 2 15])))))) [.cl 2 3]:=yA none Tryz.func54 (by kernel_rfl)
theorem ys1 : Has Tryz.prog 55 11 (rS [bX 1 2 0,ia 2 (.alloc [.c (.i 0),.c (.i 0)])] (rS [ia 3 (.alloc [.c (.i 0),.c (.i 0)])] (rS [fA 4 0 1,lA 5 4,fA 6 0 3,tS 6 5] (rS [fA 7 1 1,lA 8 7,fA 9 1 3,tS 9 8] (rR [dA 10 2 3,tN 2 2 10]))))) [.cl 2 2]:=yA none Tryz.func55 (by kernel_rfl)
theorem yka : Has Tryz.prog 56 29 (rS [bX 1 22 0,ia 2 (.alloc [.c (.i 0),.c (.i 0),.c (.i 0),.c (.i 0),.c (.i 0),.c (.i 0),.c (.i 0),.c (.i 0),.c (.i 0),.nil 2,.c (.i 0),.c (.i 0),.c (.i 0),.c (.i 0),.c (.i 0),.c (.i 0),.c (.i 0),.c (.i 0),.nil 2,.c (.b false),.c (.i 0),.nil 4])] (rS [ia 3 (.alloc [.c (.i 0),.c (.i 0),.c (.i 0),.c (.i 0),.c (.i 0),.c (.i 0),.c (.i 0),.c (.i 0),.c (.i 0),.nil 2,.c (.i 0),.c (.i 0),.c (.i 0),.c (.i 0),.c (.i 0),.c (.i 0),.c (.i 0),.c (.i 0),.nil 2,.c (.b false),.c (.i 0),.nil 4])] (rS [fA 4 0 1,dA 5 10 4,c1 6 96 5,fA 7 0 3,tN 10 7 6] (rS [fA 8 10 1,dA 9 5 8,c1 10 97 9,fA 11 10 3,tN 5 11 10] (rS [fA 12 15 1,dA 13 3 12,c1 14 98 13,fA 15 15 3,tN 3 15 14] (rS [fA 16 18 1,lA 17 16,c1 18 99 17,fA 19 18 3,tS 19 18] (rS [fA 20 19 1,dA 21 2 20,c1 22 100 21,fA 23 19 3,tN 2 23 22] (rS [fA 24 21 1,lA 25 24,c1 26 101 25,fA 27 21 3,tS 27 26] (rR [dA 28 22 3,tN 22 2 28]))))))))) [.cl 2 22]:=yA none Tryz.func56 (by kernel_rfl)
theorem yiz : Has Tryz.prog 57 23 (rS [mN 2 3] (rS [iv 5 0,nA 6 5,ia 7 (.mks 3 40 [.b false,.sl 1 [],.i 0] (.t 6) (.t 6)),iv 3 7] (.seq (rS [mA 4 0] (bL 0 (xS [iv 8 4,iv 9 0,nA 10 9,tA 11 8 10] 11 0 (.seq (.block 1 (.reg [iv 14 3,iv 15 4,iv 16 0,iv 17 4,xA 18 3 16 17,dA 19 3 18,c1 20 102 19,xA 21 3 14 15,tN 3 21 20])) (.reg [iv 12 4,pA 13 12 1,iv 4 13]))))) (rR [iv 22 3,iv 2 22])))) [.t 2]:=yA none Tryz.func57 (by kernel_rfl)
theorem yiU : Has Tryz.prog 58 12 (rS [bX 1 2 0,ia 2 (.alloc [.c (.b false),.nil 1])] (rS [ia 3 (.alloc [.c (.b false),.nil 1])] (rS [fA 4 0 1,lA 5 4,fA 6 0 3,tS 6 5] (rS [fA 7 1 1,lA 8 7,c1 9 103 8,fA 10 1 3,tS 10 9] (rR [dA 11 2 3,tN 2 2 11]))))) [.cl 2 2]:=yA none Tryz.func58 (by kernel_rfl)
theorem ypm : Has Tryz.prog 59 20 (rS [bX 1 5 0,ia 2 (.alloc [.c (.i 0),.c (.i 0),.c (.i 0),.c (.i 0),.c (.i 0)])] (rS [ia 3 (.alloc [.c (.i 0),.c (.i 0),.c (.i 0),.c (.i 0),.c (.i 0)])] (rS [fA 4 0 1,lA 5 4,fA 6 0 3,tS 6 5] (rS [fA 7 1 1,lA 8 7,fA 9 1 3,tS 9 8] (rS [fA 10 2 1,lA 11 10,fA 12 2 3,tS 12 11] (rS [fA 13 3 1,lA 14 13,fA 15 3 3,tS 15 14] (rS [fA 16 4 1,lA 17 16,fA 18 4 3,tS 18 17] (rR [dA 19 5 3,tN 5 2 19])))))))) [.cl 2 5]:=yA none Tryz.func59 (by kernel_rfl)
theorem yg7 : Has Tryz.prog 60 15 (rS [bX 1 4 0,ia 2 (.alloc [.c (.i 0),.c (.i 0),.c (.b false),.nil 1])] (rS [ia 3 (.alloc [.c (.i 0),.c (.i 0),.c (.b false),.nil 1])] (rS [fA 4 0 1,lA 5 4,fA 6 0 3,tS 6 5] (rS [fA 7 1 1,lA 8 7,fA 9 1 3,tS 9 8] (rS [fA 10 2 1,dA 11 2 10,c1 12 58 11,fA 13 2 3,tN 2 13 12] (rR [dA 14 4 3,tN 4 2 14])))))) [.cl 2 4]:=yA none Tryz.func60 (by kernel_rfl)
theorem ysm : Has Tryz.prog 61 23 (rS [bX 1 2 0,mN 2 1] (iS [dA 6 2 1,c1 7 79 6,nN 8 7] 8 (rR [mN 2 1]) (rS [mN 3 1] (.seq (rS [dA 9 2 1,c1 10 104 9,nA 11 10,mA 12 0] (bL 0 (rS [tA 13 12 11] (.seq (cX 13 0) (.seq (.block 1 (rS [xA 14 6 10 12,dA 15 6 14,ia 5 (.alloc [.c (.i 0),.c (.i 0),.c (.i 0),.c (.i 0),.c (.i 0),.c (.i 0)]),tN 6 5 15] (.reg [iv 16 3,fA 17 0 5,lA 18 17,bS 19 1 18,aP 20 1 8 16 19,iv 3 20]))) (.reg [pA 21 12 1,iv 12 21])))))) (rR [iv 22 3,iv 2 22]))))) [.t 2]:=yA none Tryz.func61 (by kernel_rfl)
def yjl : SC:=rS [bX 2 3 0,bX 3 3 1,bA 4 false] (iS [fA 5 0 2,lA 6 5,fA 7 0 3,lA 8 7,c2 9 105 6 8,nN 10 9] 10 (rR [bA 4 false]) (iS [fA 11 1 2,lA 12 11,fA 13 1 3,lA 14 13,oA 15 .neq 12 14] 15 (rR [bA 4 false]) (iS [fA 16 2 2,lA 17 16,fA 18 2 3,lA 19 18,c2 20 38 17 19,nN 21 20] 21 (rR [bA 4 false]) (rR [bA 4 true]))))
theorem yn6 : Has Tryz.prog 62 22 yjl [.t 4]:=yA none Tryz.func62 (by kernel_rfl)
def ykN : SC:=rS [bX 2 2 0,bX 3 2 1,bA 4 false] (iS [fA 5 0 2,lA 6 5,fA 7 0 3,lA 8 7,oA 9 .neq 6 8] 9 (rR [bA 4 false]) (iS [fA 10 1 2,lA 11 10,fA 12 1 3,lA 13 12,oA 14 .neq 11 13] 14 (rR [bA 4 false]) (rR [bA 4 true])))
theorem ysB : Has Tryz.prog 63 15 ykN [.t 4]:=yA none Tryz.func63 (by kernel_rfl)
def yj1 : SC:=rS [bX 2 22 0,bX 3 22 1,bA 4 false] (iS [fA 5 0 2,dA 6 10 5,fA 7 0 3,dA 8 10 7,c2 9 106 6 8,nN 10 9] 10 (rR [bA 4 false]) (iS [fA 11 10 2,dA 12 5 11,fA 13 10 3,dA 14 5 13,c2 15 107 12 14,nN 16 15] 16 (rR [bA 4 false]) (iS [fA 17 15 2,dA 18 3 17,fA 19 15 3,dA 20 3 19,c2 21 108 18 20,nN 22 21] 22 (rR [bA 4 false]) (iS [fA 23 18 2,lA 24 23,fA 25 18 3,lA 26 25,c2 27 109 24 26,nN 28 27] 28 (rR [bA 4 false]) (iS [fA 29 19 2,dA 30 2 29,fA 31 19 3,dA 32 2 31,c2 33 110 30 32,nN 34 33] 34 (rR [bA 4 false]) (iS [fA 35 21 2,lA 36 35,fA 37 21 3,lA 38 37,c2 39 111 36 38,nN 40 39] 40 (rR [bA 4 false]) (rR [bA 4 true])))))))
theorem yqq : Has Tryz.prog 64 41 yj1 [.t 4]:=yA none Tryz.func64 (by kernel_rfl)
theorem ynq : Has Tryz.prog 65 27 (rS [bA 4 false] (iS [iv 6 0,nA 7 6,iv 8 1,nA 9 8,oA 10 .neq 7 9] 10 (rR [bA 4 false]) (.seq (rS [mA 5 0] (bL 0 (xS [iv 11 5,iv 12 0,nA 13 12,tA 14 11 13] 14 0 (.seq (.block 1 (rQ [iv 17 0,iv 18 5,xA 19 3 17 18,dA 20 3 19,iv 21 1,iv 22 5,xA 23 3 21 22,dA 24 3 23,c2 25 112 20 24,nN 26 25] (cI 26 (rR [bA 4 false])))) (.reg [iv 15 5,pA 16 15 1,iv 5 16]))))) (rR [bA 4 true])))) [.t 4]:=yA none Tryz.func65 (by kernel_rfl)
def yiE : SC:=rS [bX 2 2 0,bX 3 2 1,bA 4 false] (iS [fA 5 0 2,lA 6 5,fA 7 0 3,lA 8 7,ia 9 (.beq true (.t 6) (.t 8))] 9 (rR [bA 4 false]) (iS [fA 10 1 2,lA 11 10,fA 12 1 3,lA 13 12,c2 14 113 11 13,nN 15 14] 15 (rR [bA 4 false]) (rR [bA 4 true])))
theorem yoZ : Has Tryz.prog 66 16 yiE [.t 4]:=yA none Tryz.func66 (by kernel_rfl)
def yja : SC:=rS [bX 2 5 0,bX 3 5 1,bA 4 false] (iS [fA 5 0 2,lA 6 5,fA 7 0 3,lA 8 7,oA 9 .neq 6 8] 9 (rR [bA 4 false]) (iS [fA 10 1 2,lA 11 10,fA 12 1 3,lA 13 12,oA 14 .neq 11 13] 14 (rR [bA 4 false]) (iS [fA 15 2 2,lA 16 15,fA 17 2 3,lA 18 17,oA 19 .neq 16 18] 19 (rR [bA 4 false]) (iS [fA 20 3 2,lA 21 20,fA 22 3 3,lA 23 22,oA 24 .neq 21 23] 24 (rR [bA 4 false]) (iS [fA 25 4 2,lA 26 25,fA 27 4 3,lA 28 27,oA 29 .neq 26 28] 29 (rR [bA 4 false]) (rR [bA 4 true]))))))
theorem yn0 : Has Tryz.prog 67 30 yja [.t 4]:=yA none Tryz.func67 (by kernel_rfl)
def yhh : SC:=rS [bX 2 4 0,bX 3 4 1,bA 4 false] (iS [fA 5 0 2,lA 6 5,fA 7 0 3,lA 8 7,oA 9 .neq 6 8] 9 (rR [bA 4 false]) (iS [fA 10 1 2,lA 11 10,fA 12 1 3,lA 13 12,oA 14 .neq 11 13] 14 (rR [bA 4 false]) (iS [fA 15 2 2,dA 16 2 15,fA 17 2 3,dA 18 2 17,c2 19 66 16 18,nN 20 19] 20 (rR [bA 4 false]) (rR [bA 4 true]))))
theorem ymw : Has Tryz.prog 68 21 yhh [.t 4]:=yA none Tryz.func68 (by kernel_rfl)
def ylw : SC:=rS [bA 6 false] (rR [iv 7 0,iv 8 1,oA 9 .geq 7 8,iv 10 9,g8 10 true 11 0,g8 10 true 12 2,ig 10 true 13 (.bin .leq (.t 11) (.t 12)),pF 14 10 13,iv 6 14])
theorem ysx : Has Tryz.prog 69 15 ylw [.t 6]:=yA none Tryz.func69 (by kernel_rfl)
def yi1 : SC:=rS [bA 6 false] (rR [iv 7 0,iv 8 1,oA 9 .geq 7 8,iv 10 9,g8 10 true 11 0,g8 10 true 12 2,ig 10 true 13 (.bin .leq (.t 11) (.t 12)),pF 14 10 13,iv 6 14])
theorem yot : Has Tryz.prog 77 15 yi1 [.t 6]:=yA none Tryz.func77 (by kernel_rfl)
theorem yoE : Has Tryz.prog 79 60 (rS [bX 1 2 0,bA 2 false] (iS [fA 9 1 1,lA 10 9,nA 11 10,oI 12 .eql 11 0,iv 13 12,gA 13 false 14 1 1,hA 13 false 15 14,ig 13 false 16 (.len (.t 15)),ig 13 false 17 (.bin .gtr (.t 16) (kI 6)),pT 18 13 17] 18 (rR [bA 2 false]) (rS [ia 3 (.alloca 1 6 [.i 0])] (rS [mA 4 0] (.seq (rS [fA 19 1 1,lA 20 19,nA 21 20,mA 22 0] (bL 0 (rS [tA 23 22 21] (.seq (cX 23 0) (.seq (.block 1 (rS [xA 24 1 20 22,lA 25 24,iv 6 25] (iS [iv 26 6,nA 27 26,oI 28 .eql 27 0,iv 29 28,g8 29 false 30 4,g8 29 false 31 6,ig 29 false 32 (.len (.t 31)),ig 29 false 33 (.bin .add (.t 30) (.t 32)),ig 29 false 34 (.bin .gtr (.t 33) (kI 6)),pT 35 29 34] 35 (rR [bA 2 false]) (rS [iv 36 6,nA 37 36,mA 38 0] (bL 2 (rS [tA 39 38 37] (.seq (cX 39 2) (.seq (.block 3 (rS [xA 40 6 36 38,dA 41 6 40,ia 8 (.alloc [.c (.i 0),.c (.i 0),.c (.i 0),.c (.i 0),.c (.i 0),.c (.i 0)]),tN 6 8 41] (.seq (rQ [dA 42 6 8,c1 43 126 42,nN 44 43,iv 45 44,g8 45 false 46 4,ig 45 false 47 (.sla 1 6 (.t 3) (.t 46)),gA 45 false 48 0 8,hA 45 false 49 48,ig 45 false 50 (.call 85 [.t 47,.t 49]),pT 51 45 50] (cI 51 (rR [bA 2 false]))) (rS [iv 52 4,fA 53 0 8,lA 54 53,ia 55 (.ida 1 6 (.t 3) (.t 52)),tS 55 54] (.reg [iv 56 4,pA 57 56 1,iv 4 57]))))) (.reg [pA 58 38 1,iv 38 58]))))))))) (.reg [pA 59 22 1,iv 22 59])))))) (rR [bA 2 true])))))) [.t 2]:=yA none Tryz.func79 (by kernel_rfl)
theorem yfu : Has Tryz.prog 85 9 (rS [bA 4 false] (rR [iv 5 0,iv 6 1,c2 7 133 5 6,oI 8 .geq 7 0,iv 4 8])) [.t 4]:=yA none Tryz.func85 (by kernel_rfl)
def yiq : SC:=rS [mA 4 0] (rS [iv 5 1,iv 6 0,nA 7 6,oA 8 .sub 5 7,iv 1 8] (iS [iv 9 1,oI 10 .lss 9 0] 10 (rR [mA 4 (-1)]) (rR [iv 11 1,iv 4 11])))
theorem ynd : Has Tryz.prog 87 12 yiq [.t 4]:=yA none Tryz.func87 (by kernel_rfl)
theorem yqV : Has Tryz.prog 88 12 (rS [bX 2 10 0,mA 4 0] (rS [fA 5 9 2,lA 6 5,iv 7 1,c2 8 16 6 7,iv 1 8] (iS [iv 9 1,oI 10 .lss 9 0] 10 (rR [mA 4 (-1)]) (rR [iv 11 1,iv 4 11])))) [.t 4]:=yA none Tryz.func88 (by kernel_rfl)
def yir : SC:=rS [mA 4 0] (rS [iv 5 1,iv 6 0,nA 7 6,oA 8 .sub 5 7,iv 1 8] (iS [iv 9 1,oI 10 .lss 9 0] 10 (rR [mA 4 (-1)]) (rR [iv 11 1,iv 4 11])))
theorem ynK : Has Tryz.prog 89 12 yir [.t 4]:=yA none Tryz.func89 (by kernel_rfl)
theorem ypT : Has Tryz.prog 90 27 (rS [mA 4 0] (rS [iv 6 1,iv 7 0,nA 8 7,oA 9 .sub 6 8,iv 1 9] (iS [iv 10 1,oI 11 .lss 10 0] 11 (rR [mA 4 (-1)]) (.seq (rS [mA 5 0] (bL 0 (xS [iv 12 5,iv 13 0,nA 14 13,tA 15 12 14] 15 0 (.seq (.block 1 (rS [iv 18 0,iv 19 5,xA 20 4 18 19,dA 21 4 20,iv 22 1,c2 23 134 21 22,iv 1 23] (rS [iv 24 1,oI 25 .lss 24 0] (cI 25 (rR [mA 4 (-1)]))))) (.reg [iv 16 5,pA 17 16 1,iv 5 17]))))) (rR [iv 26 1,iv 4 26]))))) [.t 4]:=yA none Tryz.func90 (by kernel_rfl)
theorem ypW : Has Tryz.prog 91 12 (rS [bX 2 3 0,mA 4 0] (rS [fA 5 0 2,dA 6 2 5,iv 7 1,c2 8 51 6 7,iv 1 8] (iS [iv 9 1,oI 10 .lss 9 0] 10 (rR [mA 4 (-1)]) (rR [iv 11 1,iv 4 11])))) [.t 4]:=yA none Tryz.func91 (by kernel_rfl)
theorem ynp : Has Tryz.prog 92 27 (rS [mA 4 0] (rS [iv 6 1,iv 7 0,nA 8 7,oA 9 .sub 6 8,iv 1 9] (iS [iv 10 1,oI 11 .lss 10 0] 11 (rR [mA 4 (-1)]) (.seq (rS [mA 5 0] (bL 0 (xS [iv 12 5,iv 13 0,nA 14 13,tA 15 12 14] 15 0 (.seq (.block 1 (rS [iv 18 0,iv 19 5,xA 20 1 18 19,lA 21 20,iv 22 1,c2 23 135 21 22,iv 1 23] (rS [iv 24 1,oI 25 .lss 24 0] (cI 25 (rR [mA 4 (-1)]))))) (.reg [iv 16 5,pA 17 16 1,iv 5 17]))))) (rR [iv 26 1,iv 4 26]))))) [.t 4]:=yA none Tryz.func92 (by kernel_rfl)
theorem ynj : Has Tryz.prog 93 21 (rS [bX 1 2 0,mN 2 6] (rS [bZ 5 6,iv 3 5] (.seq (rS [mA 4 0] (bL 0 (xS [iv 6 4,fA 7 1 1,lA 8 7,nA 9 8,tA 10 6 9] 10 0 (.seq (.block 1 (.reg [iv 13 3,fA 14 1 1,lA 15 14,iv 16 4,xA 17 1 15 16,lA 18 17,aP 19 6 48 13 18,iv 3 19])) (.reg [iv 11 4,pA 12 11 1,iv 4 12]))))) (rR [iv 20 3,iv 2 20])))) [.t 2]:=yA none Tryz.func93 (by kernel_rfl)
theorem yoi : Has Tryz.prog 94 59 (rS [bX 1 2 0,bA 2 false] (rS [dA 7 2 1,c1 8 93 7,iv 3 8] (.seq (rS [mA 4 0] (bL 0 (xS [iv 9 4,fA 10 1 1,lA 11 10,nA 12 11,tA 13 9 12] 13 0 (.seq (.block 1 (rS [fA 16 1 1,lA 17 16,iv 18 4,xA 19 1 17 18,lA 20 19,nA 21 20,oI 22 .eql 21 0] (cI 22 (rR [bA 2 false])))) (.reg [iv 14 4,pA 15 14 1,iv 4 15]))))) (.seq (rS [mA 5 0] (bL 2 (xS [iv 23 5,iv 24 3,nA 25 24,tA 26 23 25,iv 27 26,g8 27 true 28 3,ig 27 true 29 (.len (.t 28)),ig 27 true 30 (.bin .leq (.t 29) (kI 6)),pF 31 27 30] 31 2 (.seq (.block 3 (iS [iv 34 3,iv 35 5,xA 36 6 34 35,dA 37 6 36,c1 38 136 37,nN 39 38] 39 (rR [bA 2 false]) (rS [mA 6 0] (bL 4 (xS [iv 40 6,iv 41 5,tA 42 40 41] 42 4 (.seq (.block 5 (rQ [iv 45 3,iv 46 6,xA 47 6 45 46,fA 48 0 47,lA 49 48,iv 50 3,iv 51 5,xA 52 6 50 51,fA 53 0 52,lA 54 53,oA 55 .eql 49 54] (cI 55 (rR [bA 2 false])))) (.reg [iv 43 6,pA 44 43 1,iv 6 44]))))))) (.reg [iv 32 5,pA 33 32 1,iv 5 33]))))) (rR [iv 56 3,nA 57 56,ia 58 (.call 69 [.t 57,kI 1,kI 6]),iv 2 58]))))) [.t 2]:=yA none Tryz.func94 (by kernel_rfl)
theorem yiu : Has Tryz.prog 95 23 (rS [mN 2 2] (rS [iv 5 0,nA 6 5,ia 7 (.mks 2 16 [.i 0,.i 0] (.t 6) (.t 6)),iv 3 7] (.seq (rS [mA 4 0] (bL 0 (xS [iv 8 4,iv 9 0,nA 10 9,tA 11 8 10] 11 0 (.seq (.block 1 (.reg [iv 14 3,iv 15 4,iv 16 0,iv 17 4,xA 18 2 16 17,dA 19 2 18,c1 20 137 19,xA 21 2 14 15,tN 2 21 20])) (.reg [iv 12 4,pA 13 12 1,iv 4 13]))))) (rR [iv 22 3,iv 2 22])))) [.t 2]:=yA none Tryz.func95 (by kernel_rfl)
theorem ykg : Has Tryz.prog 96 36 (rS [bX 1 10 0,ia 2 (.alloc [.c (.i 0),.c (.i 0),.c (.i 0),.c (.i 0),.c (.i 0),.c (.i 0),.c (.i 0),.c (.i 0),.c (.i 0),.nil 2])] (rS [ia 3 (.alloc [.c (.i 0),.c (.i 0),.c (.i 0),.c (.i 0),.c (.i 0),.c (.i 0),.c (.i 0),.c (.i 0),.c (.i 0),.nil 2])] (rS [fA 4 0 1,lA 5 4,fA 6 0 3,tS 6 5] (rS [fA 7 1 1,lA 8 7,fA 9 1 3,tS 9 8] (rS [fA 10 2 1,lA 11 10,fA 12 2 3,tS 12 11] (rS [fA 13 3 1,lA 14 13,fA 15 3 3,tS 15 14] (rS [fA 16 4 1,lA 17 16,fA 18 4 3,tS 18 17] (rS [fA 19 5 1,lA 20 19,fA 21 5 3,tS 21 20] (rS [fA 22 6 1,lA 23 22,fA 24 6 3,tS 24 23] (rS [fA 25 7 1,lA 26 25,fA 27 7 3,tS 27 26] (rS [fA 28 8 1,lA 29 28,fA 30 8 3,tS 30 29] (rS [fA 31 9 1,lA 32 31,c1 33 27 32,fA 34 9 3,tS 34 33] (rR [dA 35 10 3,tN 10 2 35]))))))))))))) [.cl 2 10]:=yA none Tryz.func96 (by kernel_rfl)
theorem yq2 : Has Tryz.prog 97 20 (rS [bX 1 5 0,ia 2 (.alloc [.c (.i 0),.c (.i 0),.c (.i 0),.c (.i 0),.c (.i 0)])] (rS [ia 3 (.alloc [.c (.i 0),.c (.i 0),.c (.i 0),.c (.i 0),.c (.i 0)])] (rS [fA 4 0 1,lA 5 4,fA 6 0 3,tS 6 5] (rS [fA 7 1 1,lA 8 7,fA 9 1 3,tS 9 8] (rS [fA 10 2 1,lA 11 10,fA 12 2 3,tS 12 11] (rS [fA 13 3 1,lA 14 13,fA 15 3 3,tS 15 14] (rS [fA 16 4 1,lA 17 16,fA 18 4 3,tS 18 17] (rR [dA 19 5 3,tN 5 2 19])))))))) [.cl 2 5]:=yA none Tryz.func97 (by kernel_rfl)
theorem yqZ : Has Tryz.prog 98 14 (rS [bX 1 3 0,ia 2 (.alloc [.c (.i 0),.c (.i 0),.c (.i 0)])] (rS [ia 3 (.alloc [.c (.i 0),.c (.i 0),.c (.i 0)])] (rS [fA 4 0 1,lA 5 4,fA 6 0 3,tS 6 5] (rS [fA 7 1 1,lA 8 7,fA 9 1 3,tS 9 8] (rS [fA 10 2 1,lA 11 10,fA 12 2 3,tS 12 11] (rR [dA 13 3 3,tN 3 2 13])))))) [.cl 2 3]:=yA none Tryz.func98 (by kernel_rfl)
theorem yis : Has Tryz.prog 99 23 (rS [mN 2 2] (rS [iv 5 0,nA 6 5,ia 7 (.mks 2 16 [.i 0,.i 0] (.t 6) (.t 6)),iv 3 7] (.seq (rS [mA 4 0] (bL 0 (xS [iv 8 4,iv 9 0,nA 10 9,tA 11 8 10] 11 0 (.seq (.block 1 (.reg [iv 14 3,iv 15 4,iv 16 0,iv 17 4,xA 18 2 16 17,dA 19 2 18,c1 20 138 19,xA 21 2 14 15,tN 2 21 20])) (.reg [iv 12 4,pA 13 12 1,iv 4 13]))))) (rR [iv 22 3,iv 2 22])))) [.t 2]:=yA none Tryz.func99 (by kernel_rfl)
theorem yqv : Has Tryz.prog 100 11 (rS [bX 1 2 0,ia 2 (.alloc [.c (.b false),.c (.i 0)])] (rS [ia 3 (.alloc [.c (.b false),.c (.i 0)])] (rS [fA 4 0 1,lA 5 4,fA 6 0 3,tS 6 5] (rS [fA 7 1 1,lA 8 7,fA 9 1 3,tS 9 8] (rR [dA 10 2 3,tN 2 2 10]))))) [.cl 2 2]:=yA none Tryz.func100 (by kernel_rfl)
theorem yiL : Has Tryz.prog 101 23 (rS [mN 2 4] (rS [iv 5 0,nA 6 5,ia 7 (.mks 4 48 [.b false,.sl 1 [],.i 0,.i 0] (.t 6) (.t 6)),iv 3 7] (.seq (rS [mA 4 0] (bL 0 (xS [iv 8 4,iv 9 0,nA 10 9,tA 11 8 10] 11 0 (.seq (.block 1 (.reg [iv 14 3,iv 15 4,iv 16 0,iv 17 4,xA 18 4 16 17,dA 19 4 18,c1 20 139 19,xA 21 4 14 15,tN 4 21 20])) (.reg [iv 12 4,pA 13 12 1,iv 4 13]))))) (rR [iv 22 3,iv 2 22])))) [.t 2]:=yA none Tryz.func101 (by kernel_rfl)
theorem yiQ : Has Tryz.prog 102 12 (rS [bX 1 3 0,ia 2 (.alloc [.c (.b false),.nil 1,.c (.i 0)])] (rS [ia 3 (.alloc [.c (.b false),.nil 1,.c (.i 0)])] (rS [fA 4 0 1,dA 5 2 4,c1 6 58 5,fA 7 0 3,tN 2 7 6] (rS [fA 8 2 1,lA 9 8,fA 10 2 3,tS 10 9] (rR [dA 11 3 3,tN 3 2 11]))))) [.cl 2 3]:=yA none Tryz.func102 (by kernel_rfl)
theorem yim : Has Tryz.prog 103 23 (rS [mN 2 1] (rS [iv 5 0,nA 6 5,ia 7 (.mks 1 24 [.sl 6 []] (.t 6) (.t 6)),iv 3 7] (.seq (rS [mA 4 0] (bL 0 (xS [iv 8 4,iv 9 0,nA 10 9,tA 11 8 10] 11 0 (.seq (.block 1 (.reg [iv 14 3,iv 15 4,iv 16 0,iv 17 4,xA 18 1 16 17,lA 19 18,c1 20 140 19,xA 21 1 14 15,tS 21 20])) (.reg [iv 12 4,pA 13 12 1,iv 4 13]))))) (rR [iv 22 3,iv 2 22])))) [.t 2]:=yA none Tryz.func103 (by kernel_rfl)
theorem yoM : Has Tryz.prog 104 18 (rS [bX 1 2 0,mN 2 6] (rS [mN 3 6] (.seq (rS [fA 6 1 1,lA 7 6,nA 8 7,mA 9 0] (bL 0 (rS [tA 10 9 8] (.seq (cX 10 0) (.seq (.block 1 (rS [xA 11 1 7 9,lA 12 11,iv 5 12] (.reg [iv 13 3,iv 14 5,aP 15 6 48 13 14,iv 3 15]))) (.reg [pA 16 9 1,iv 9 16])))))) (rR [iv 17 3,iv 2 17])))) [.t 2]:=yA none Tryz.func104 (by kernel_rfl)
theorem ynO : Has Tryz.prog 105 27 (rS [bA 4 false] (iS [iv 6 0,nA 7 6,iv 8 1,nA 9 8,oA 10 .neq 7 9] 10 (rR [bA 4 false]) (.seq (rS [mA 5 0] (bL 0 (xS [iv 11 5,iv 12 0,nA 13 12,tA 14 11 13] 14 0 (.seq (.block 1 (rQ [iv 17 0,iv 18 5,xA 19 2 17 18,dA 20 2 19,iv 21 1,iv 22 5,xA 23 2 21 22,dA 24 2 23,c2 25 141 20 24,nN 26 25] (cI 26 (rR [bA 4 false])))) (.reg [iv 15 5,pA 16 15 1,iv 5 16]))))) (rR [bA 4 true])))) [.t 4]:=yA none Tryz.func105 (by kernel_rfl)
def ykf : SC:=rS [bX 2 10 0,bX 3 10 1,bA 4 false] (iS [fA 5 0 2,lA 6 5,fA 7 0 3,lA 8 7,oA 9 .neq 6 8] 9 (rR [bA 4 false]) (iS [fA 10 1 2,lA 11 10,fA 12 1 3,lA 13 12,oA 14 .neq 11 13] 14 (rR [bA 4 false]) (iS [fA 15 2 2,lA 16 15,fA 17 2 3,lA 18 17,oA 19 .neq 16 18] 19 (rR [bA 4 false]) (iS [fA 20 3 2,lA 21 20,fA 22 3 3,lA 23 22,oA 24 .neq 21 23] 24 (rR [bA 4 false]) (iS [fA 25 4 2,lA 26 25,fA 27 4 3,lA 28 27,oA 29 .neq 26 28] 29 (rR [bA 4 false]) (iS [fA 30 5 2,lA 31 30,fA 32 5 3,lA 33 32,oA 34 .neq 31 33] 34 (rR [bA 4 false]) (iS [fA 35 6 2,lA 36 35,fA 37 6 3,lA 38 37,oA 39 .neq 36 38] 39 (rR [bA 4 false]) (iS [fA 40 7 2,lA 41 40,fA 42 7 3,lA 43 42,oA 44 .neq 41 43] 44 (rR [bA 4 false]) (iS [fA 45 8 2,lA 46 45,fA 47 8 3,lA 48 47,oA 49 .neq 46 48] 49 (rR [bA 4 false]) (iS [fA 50 9 2,lA 51 50,fA 52 9 3,lA 53 52,c2 54 37 51 53,nN 55 54] 55 (rR [bA 4 false]) (rR [bA 4 true])))))))))))
theorem yq4 : Has Tryz.prog 106 56 ykf [.t 4]:=yA none Tryz.func106 (by kernel_rfl)
def ykd : SC:=rS [bX 2 5 0,bX 3 5 1,bA 4 false] (iS [fA 5 0 2,lA 6 5,fA 7 0 3,lA 8 7,oA 9 .neq 6 8] 9 (rR [bA 4 false]) (iS [fA 10 1 2,lA 11 10,fA 12 1 3,lA 13 12,oA 14 .neq 11 13] 14 (rR [bA 4 false]) (iS [fA 15 2 2,lA 16 15,fA 17 2 3,lA 18 17,oA 19 .neq 16 18] 19 (rR [bA 4 false]) (iS [fA 20 3 2,lA 21 20,fA 22 3 3,lA 23 22,oA 24 .neq 21 23] 24 (rR [bA 4 false]) (iS [fA 25 4 2,lA 26 25,fA 27 4 3,lA 28 27,oA 29 .neq 26 28] 29 (rR [bA 4 false]) (rR [bA 4 true]))))))
theorem yqK : Has Tryz.prog 107 30 ykd [.t 4]:=yA none Tryz.func107 (by kernel_rfl)
def yjW : SC:=rS [bX 2 3 0,bX 3 3 1,bA 4 false] (iS [fA 5 0 2,lA 6 5,fA 7 0 3,lA 8 7,oA 9 .neq 6 8] 9 (rR [bA 4 false]) (iS [fA 10 1 2,lA 11 10,fA 12 1 3,lA 13 12,oA 14 .neq 11 13] 14 (rR [bA 4 false]) (iS [fA 15 2 2,lA 16 15,fA 17 2 3,lA 18 17,oA 19 .neq 16 18] 19 (rR [bA 4 false]) (rR [bA 4 true]))))
theorem yqs : Has Tryz.prog 108 20 yjW [.t 4]:=yA none Tryz.func108 (by kernel_rfl)
theorem ynE : Has Tryz.prog 109 27 (rS [bA 4 false] (iS [iv 6 0,nA 7 6,iv 8 1,nA 9 8,oA 10 .neq 7 9] 10 (rR [bA 4 false]) (.seq (rS [mA 5 0] (bL 0 (xS [iv 11 5,iv 12 0,nA 13 12,tA 14 11 13] 14 0 (.seq (.block 1 (rQ [iv 17 0,iv 18 5,xA 19 2 17 18,dA 20 2 19,iv 21 1,iv 22 5,xA 23 2 21 22,dA 24 2 23,c2 25 142 20 24,nN 26 25] (cI 26 (rR [bA 4 false])))) (.reg [iv 15 5,pA 16 15 1,iv 5 16]))))) (rR [bA 4 true])))) [.t 4]:=yA none Tryz.func109 (by kernel_rfl)
def yj6 : SC:=rS [bX 2 2 0,bX 3 2 1,bA 4 false] (iS [fA 5 0 2,lA 6 5,fA 7 0 3,lA 8 7,ia 9 (.beq true (.t 6) (.t 8))] 9 (rR [bA 4 false]) (iS [fA 10 1 2,lA 11 10,fA 12 1 3,lA 13 12,oA 14 .neq 11 13] 14 (rR [bA 4 false]) (rR [bA 4 true])))
theorem yqu : Has Tryz.prog 110 15 yj6 [.t 4]:=yA none Tryz.func110 (by kernel_rfl)
theorem yoS : Has Tryz.prog 111 27 (rS [bA 4 false] (iS [iv 6 0,nA 7 6,iv 8 1,nA 9 8,oA 10 .neq 7 9] 10 (rR [bA 4 false]) (.seq (rS [mA 5 0] (bL 0 (xS [iv 11 5,iv 12 0,nA 13 12,tA 14 11 13] 14 0 (.seq (.block 1 (rQ [iv 17 0,iv 18 5,xA 19 4 17 18,dA 20 4 19,iv 21 1,iv 22 5,xA 23 4 21 22,dA 24 4 23,c2 25 143 20 24,nN 26 25] (cI 26 (rR [bA 4 false])))) (.reg [iv 15 5,pA 16 15 1,iv 5 16]))))) (rR [bA 4 true])))) [.t 4]:=yA none Tryz.func111 (by kernel_rfl)
def yiH : SC:=rS [bX 2 3 0,bX 3 3 1,bA 4 false] (iS [fA 5 0 2,dA 6 2 5,fA 7 0 3,dA 8 2 7,c2 9 66 6 8,nN 10 9] 10 (rR [bA 4 false]) (iS [fA 11 2 2,lA 12 11,fA 13 2 3,lA 14 13,oA 15 .neq 12 14] 15 (rR [bA 4 false]) (rR [bA 4 true])))
theorem yoz : Has Tryz.prog 112 16 yiH [.t 4]:=yA none Tryz.func112 (by kernel_rfl)
theorem ync : Has Tryz.prog 113 27 (rS [bA 4 false] (iS [iv 6 0,nA 7 6,iv 8 1,nA 9 8,oA 10 .neq 7 9] 10 (rR [bA 4 false]) (.seq (rS [mA 5 0] (bL 0 (xS [iv 11 5,iv 12 0,nA 13 12,tA 14 11 13] 14 0 (.seq (.block 1 (rQ [iv 17 0,iv 18 5,xA 19 1 17 18,lA 20 19,iv 21 1,iv 22 5,xA 23 1 21 22,lA 24 23,c2 25 144 20 24,nN 26 25] (cI 26 (rR [bA 4 false])))) (.reg [iv 15 5,pA 16 15 1,iv 5 16]))))) (rR [bA 4 true])))) [.t 4]:=yA none Tryz.func113 (by kernel_rfl)
theorem yqo : Has Tryz.prog 126 31 (rS [bX 1 6 0,bA 2 false] (rR [fA 3 0 1,lA 4 3,ia 5 (.call 77 [.t 4,kI 1,kI 9999]),iv 6 5,gA 6 true 7 1 1,hA 6 true 8 7,ig 6 true 9 (.call 77 [.t 8,kI 1,kI 200]),pF 10 6 9,iv 11 10,gA 11 true 12 2 1,hA 11 true 13 12,ig 11 true 14 (.call 77 [.t 13,kI 1,kI 30]),pF 15 11 14,iv 16 15,gA 16 true 17 3 1,hA 16 true 18 17,ig 16 true 19 (.call 77 [.t 18,kI 1,kI 100]),pF 20 16 19,iv 21 20,gA 21 true 22 4 1,hA 21 true 23 22,ig 21 true 24 (.call 77 [.t 23,kI 1,kI 50]),pF 25 21 24,iv 26 25,gA 26 true 27 5 1,hA 26 true 28 27,ig 26 true 29 (.call 77 [.t 28,kI 0,kI 2]),pF 30 26 29,iv 2 30])) [.t 2]:=yA none Tryz.func126 (by kernel_rfl)
theorem ygi : Has Tryz.prog 133 19 (rS [mA 4 0] (.seq (rS [iv 6 0,nA 7 6,mA 8 0] (bL 0 (rS [tA 9 8 7] (.seq (cX 9 0) (.seq (.block 1 (rS [iv 10 8,iv 5 10] (rS [iv 11 1,iv 12 0,iv 13 5,xA 14 1 12 13,lA 15 14,oA 16 .eql 11 15] (cI 16 (rR [iv 17 5,iv 4 17]))))) (.reg [pA 18 8 1,iv 8 18])))))) (rR [mA 4 (-1)]))) [.t 4]:=yA none Tryz.func133 (by kernel_rfl)
theorem yrq : Has Tryz.prog 134 12 (rS [bX 2 4 0,mA 4 0] (rS [fA 5 0 2,dA 6 2 5,iv 7 1,c2 8 51 6 7,iv 1 8] (iS [iv 9 1,oI 10 .lss 9 0] 10 (rR [mA 4 (-1)]) (rR [iv 11 1,iv 4 11])))) [.t 4]:=yA none Tryz.func134 (by kernel_rfl)
def yi3 : SC:=rS [mA 4 0] (rS [iv 5 1,iv 6 0,nA 7 6,oA 8 .sub 5 7,iv 1 8] (iS [iv 9 1,oI 10 .lss 9 0] 10 (rR [mA 4 (-1)]) (rR [iv 11 1,iv 4 11])))
theorem yoU : Has Tryz.prog 135 12 yi3 [.t 4]:=yA none Tryz.func135 (by kernel_rfl)
theorem yrf : Has Tryz.prog 136 31 (rS [bX 1 6 0,bA 2 false] (rR [fA 3 0 1,lA 4 3,ia 5 (.call 69 [.t 4,kI 1,kI 9999]),iv 6 5,gA 6 true 7 1 1,hA 6 true 8 7,ig 6 true 9 (.call 69 [.t 8,kI 1,kI 200]),pF 10 6 9,iv 11 10,gA 11 true 12 2 1,hA 11 true 13 12,ig 11 true 14 (.call 69 [.t 13,kI 1,kI 30]),pF 15 11 14,iv 16 15,gA 16 true 17 3 1,hA 16 true 18 17,ig 16 true 19 (.call 69 [.t 18,kI 1,kI 100]),pF 20 16 19,iv 21 20,gA 21 true 22 4 1,hA 21 true 23 22,ig 21 true 24 (.call 69 [.t 23,kI 1,kI 50]),pF 25 21 24,iv 26 25,gA 26 true 27 5 1,hA 26 true 28 27,ig 26 true 29 (.call 69 [.t 28,kI 0,kI 2]),pF 30 26 29,iv 2 30])) [.t 2]:=yA none Tryz.func136 (by kernel_rfl)
theorem ypj : Has Tryz.prog 137 11 (rS [bX 1 2 0,ia 2 (.alloc [.c (.i 0),.c (.i 0)])] (rS [ia 3 (.alloc [.c (.i 0),.c (.i 0)])] (rS [fA 4 0 1,lA 5 4,fA 6 0 3,tS 6 5] (rS [fA 7 1 1,lA 8 7,fA 9 1 3,tS 9 8] (rR [dA 10 2 3,tN 2 2 10]))))) [.cl 2 2]:=yA none Tryz.func137 (by kernel_rfl)
theorem yqk : Has Tryz.prog 138 11 (rS [bX 1 2 0,ia 2 (.alloc [.c (.i 0),.c (.i 0)])] (rS [ia 3 (.alloc [.c (.i 0),.c (.i 0)])] (rS [fA 4 0 1,lA 5 4,fA 6 0 3,tS 6 5] (rS [fA 7 1 1,lA 8 7,fA 9 1 3,tS 9 8] (rR [dA 10 2 3,tN 2 2 10]))))) [.cl 2 2]:=yA none Tryz.func138 (by kernel_rfl)
theorem yjU : Has Tryz.prog 139 15 (rS [bX 1 4 0,ia 2 (.alloc [.c (.b false),.nil 1,.c (.i 0),.c (.i 0)])] (rS [ia 3 (.alloc [.c (.b false),.nil 1,.c (.i 0),.c (.i 0)])] (rS [fA 4 0 1,dA 5 2 4,c1 6 58 5,fA 7 0 3,tN 2 7 6] (rS [fA 8 2 1,lA 9 8,fA 10 2 3,tS 10 9] (rS [fA 11 3 1,lA 12 11,fA 13 3 3,tS 13 12] (rR [dA 14 4 3,tN 4 2 14])))))) [.cl 2 4]:=yA none Tryz.func139 (by kernel_rfl)
theorem yiM : Has Tryz.prog 140 23 (rS [mN 2 6] (rS [iv 5 0,nA 6 5,ia 7 (.mks 6 48 [.i 0,.i 0,.i 0,.i 0,.i 0,.i 0] (.t 6) (.t 6)),iv 3 7] (.seq (rS [mA 4 0] (bL 0 (xS [iv 8 4,iv 9 0,nA 10 9,tA 11 8 10] 11 0 (.seq (.block 1 (.reg [iv 14 3,iv 15 4,iv 16 0,iv 17 4,xA 18 6 16 17,dA 19 6 18,c1 20 171 19,xA 21 6 14 15,tN 6 21 20])) (.reg [iv 12 4,pA 13 12 1,iv 4 13]))))) (rR [iv 22 3,iv 2 22])))) [.t 2]:=yA none Tryz.func140 (by kernel_rfl)
def yiZ : SC:=rS [bX 2 2 0,bX 3 2 1,bA 4 false] (iS [fA 5 0 2,lA 6 5,fA 7 0 3,lA 8 7,oA 9 .neq 6 8] 9 (rR [bA 4 false]) (iS [fA 10 1 2,lA 11 10,fA 12 1 3,lA 13 12,oA 14 .neq 11 13] 14 (rR [bA 4 false]) (rR [bA 4 true])))
theorem yoo : Has Tryz.prog 141 15 yiZ [.t 4]:=yA none Tryz.func141 (by kernel_rfl)
def yiD : SC:=rS [bX 2 2 0,bX 3 2 1,bA 4 false] (iS [fA 5 0 2,lA 6 5,fA 7 0 3,lA 8 7,oA 9 .neq 6 8] 9 (rR [bA 4 false]) (iS [fA 10 1 2,lA 11 10,fA 12 1 3,lA 13 12,oA 14 .neq 11 13] 14 (rR [bA 4 false]) (rR [bA 4 true])))
theorem ypk : Has Tryz.prog 142 15 yiD [.t 4]:=yA none Tryz.func142 (by kernel_rfl)
def ykh : SC:=rS [bX 2 4 0,bX 3 4 1,bA 4 false] (iS [fA 5 0 2,dA 6 2 5,fA 7 0 3,dA 8 2 7,c2 9 66 6 8,nN 10 9] 10 (rR [bA 4 false]) (iS [fA 11 2 2,lA 12 11,fA 13 2 3,lA 14 13,oA 15 .neq 12 14] 15 (rR [bA 4 false]) (iS [fA 16 3 2,lA 17 16,fA 18 3 3,lA 19 18,oA 20 .neq 17 19] 20 (rR [bA 4 false]) (rR [bA 4 true]))))
theorem yri : Has Tryz.prog 143 21 ykh [.t 4]:=yA none Tryz.func143 (by kernel_rfl)
theorem yoL : Has Tryz.prog 144 27 (rS [bA 4 false] (iS [iv 6 0,nA 7 6,iv 8 1,nA 9 8,oA 10 .neq 7 9] 10 (rR [bA 4 false]) (.seq (rS [mA 5 0] (bL 0 (xS [iv 11 5,iv 12 0,nA 13 12,tA 14 11 13] 14 0 (.seq (.block 1 (rQ [iv 17 0,iv 18 5,xA 19 6 17 18,dA 20 6 19,iv 21 1,iv 22 5,xA 23 6 21 22,dA 24 6 23,c2 25 172 20 24,nN 26 25] (cI 26 (rR [bA 4 false])))) (.reg [iv 15 5,pA 16 15 1,iv 5 16]))))) (rR [bA 4 true])))) [.t 4]:=yA none Tryz.func144 (by kernel_rfl)
theorem yq9 : Has Tryz.prog 171 23 (rS [bX 1 6 0,ia 2 (.alloc [.c (.i 0),.c (.i 0),.c (.i 0),.c (.i 0),.c (.i 0),.c (.i 0)])] (rS [ia 3 (.alloc [.c (.i 0),.c (.i 0),.c (.i 0),.c (.i 0),.c (.i 0),.c (.i 0)])] (rS [fA 4 0 1,lA 5 4,fA 6 0 3,tS 6 5] (rS [fA 7 1 1,lA 8 7,fA 9 1 3,tS 9 8] (rS [fA 10 2 1,lA 11 10,fA 12 2 3,tS 12 11] (rS [fA 13 3 1,lA 14 13,fA 15 3 3,tS 15 14] (rS [fA 16 4 1,lA 17 16,fA 18 4 3,tS 18 17] (rS [fA 19 5 1,lA 20 19,fA 21 5 3,tS 21 20] (rR [dA 22 6 3,tN 6 2 22]))))))))) [.cl 2 6]:=yA none Tryz.func171 (by kernel_rfl)
def yj8 : SC:=rS [bX 2 6 0,bX 3 6 1,bA 4 false] (iS [fA 5 0 2,lA 6 5,fA 7 0 3,lA 8 7,oA 9 .neq 6 8] 9 (rR [bA 4 false]) (iS [fA 10 1 2,lA 11 10,fA 12 1 3,lA 13 12,oA 14 .neq 11 13] 14 (rR [bA 4 false]) (iS [fA 15 2 2,lA 16 15,fA 17 2 3,lA 18 17,oA 19 .neq 16 18] 19 (rR [bA 4 false]) (iS [fA 20 3 2,lA 21 20,fA 22 3 3,lA 23 22,oA 24 .neq 21 23] 24 (rR [bA 4 false]) (iS [fA 25 4 2,lA 26 25,fA 27 4 3,lA 28 27,oA 29 .neq 26 28] 29 (rR [bA 4 false]) (iS [fA 30 5 2,lA 31 30,fA 32 5 3,lA 33 32,oA 34 .neq 31 33] 34 (rR [bA 4 false]) (rR [bA 4 true])))))))
theorem yq1 : Has Tryz.prog 172 35 yj8 [.t 4]:=yA none Tryz.func172 (by kernel_rfl)
theorem yVH : Has Tryz.prog 4 27 (rS [bX 1 16 0,bA 2 false] (rS [mA 3 1048576] (rS [dA 7 16 1,iv 8 3,c2 9 5 7 8,iv 3 9] (iS [iv 10 3,oI 11 .lss 10 0] 11 (rR [bA 2 true]) (rS [dA 12 16 1,c1 13 7 12,c1 14 10 13,iv 4 14] (rS [dA 15 16 1,c1 16 7 15,ia 5 (.alloc [.c (.i 0),.nil 3,.nil 2,.nil 22,.nil 1,.nil 2,.nil 1,.c (.i 0),.c (.i 0),.nil 1,.nil 1,.nil 5,.nil 4,.c (.i 0),.c (.i 0),.c (.i 0)]),tN 16 5 16] (rS [dA 17 16 5,c1 18 11 17,iv 6 18] (iS [iv 19 6,iv 20 4,ia 21 (.beq true (.t 19) (.t 20))] 21 (rR [bA 2 false]) (.seq (rQ [dA 22 16 5,dA 23 16 1,c1 24 7 23,c2 25 9 22 24,nN 26 25] (cI 26 (rR [bA 2 false]))) (rR [bA 2 true])))))))))) [.t 2]:=yA none Tryz.func4 (by kernel_rfl)
theorem yVR : Has Tryz.prog 10 17 (rS [bX 1 16 0,bA 2 false] (rR [dA 3 16 1,c1 4 42 3,iv 5 4,ig 5 true 6 (.ldn 16 (.t 1)),ig 5 true 7 (.call 43 [.t 6]),pF 8 5 7,iv 9 8,ig 9 true 10 (.ldn 16 (.t 1)),ig 9 true 11 (.call 6 [.t 10]),pF 12 9 11,iv 13 12,ig 13 true 14 (.ldn 16 (.t 1)),ig 13 true 15 (.call 44 [.t 14]),pF 16 13 15,iv 2 16])) [.t 2]:=yA none Tryz.func10 (by kernel_rfl)
theorem yVQ : Has Tryz.prog 11 17 (rS [bX 1 16 0,bA 2 false] (rR [dA 3 16 1,c1 4 45 3,iv 5 4,ig 5 true 6 (.ldn 16 (.t 1)),ig 5 true 7 (.call 46 [.t 6]),pF 8 5 7,iv 9 8,ig 9 true 10 (.ldn 16 (.t 1)),ig 9 true 11 (.call 8 [.t 10]),pF 12 9 11,iv 13 12,ig 13 true 14 (.ldn 16 (.t 1)),ig 13 true 15 (.call 47 [.t 14]),pF 16 13 15,iv 2 16])) [.t 2]:=yA none Tryz.func11 (by kernel_rfl)
theorem yk1 : Has Tryz.prog 42 39 (rS [bX 1 16 0,bA 2 false] (rR [fA 3 0 1,lA 4 3,ia 5 (.call 69 [.t 4,kI 0,kI 1000000]),iv 6 5,gA 6 true 7 13 1,hA 6 true 8 7,ig 6 true 9 (.call 69 [.t 8,kI 0,kI 1000000000]),pF 10 6 9,iv 11 10,gA 11 true 12 14 1,hA 11 true 13 12,ig 11 true 14 (.call 69 [.t 13,kI 0,kI 1000000000]),pF 15 11 14,iv 16 15,gA 16 true 17 15 1,hA 16 true 18 17,ig 16 true 19 (.call 69 [.t 18,kI 0,kI 1000000000]),pF 20 16 19,iv 21 20,ig 21 true 22 (.ldn 16 (.t 1)),ig 21 true 23 (.call 70 [.t 22]),pF 24 21 23,iv 25 24,ig 25 true 26 (.ldn 16 (.t 1)),ig 25 true 27 (.call 71 [.t 26]),pF 28 25 27,iv 29 28,gA 29 true 30 7 1,ig 29 true 31 (.ldn 4 (.t 30)),ig 29 true 32 (.call 72 [.t 31]),pF 33 29 32,iv 34 33,gA 34 true 35 11 1,hA 34 true 36 35,ig 34 true 37 (.call 73 [.t 36]),pF 38 34 37,iv 2 38])) [.t 2]:=yA none Tryz.func42 (by kernel_rfl)
theorem yVO : Has Tryz.prog 43 18 (rS [bX 1 16 0,bA 2 false] (rQ [dA 3 16 1,c1 4 42 3,iv 5 4,ig 5 true 6 (.ldn 16 (.t 1)),ig 5 true 7 (.call 74 [.t 6]),gA 5 true 8 15 1,hA 5 true 9 8,ig 5 true 10 (.bin .add (.t 7) (.t 9)),gA 5 true 11 13 1,hA 5 true 12 11,gA 5 true 13 14 1,hA 5 true 14 13,ig 5 true 15 (.bin .add (.t 12) (.t 14)),ig 5 true 16 (.bin .eql (.t 10) (.t 15)),pF 17 5 16,iv 2 17] .ret)) [.t 2]:=yA none Tryz.func43 (by kernel_rfl)
theorem yTi : Has Tryz.prog 44 81 (rS [bX 1 16 0,bA 2 false] (rS [bZ 9 5,iv 3 9] (.seq (rS [mA 4 0] (bL 0 (xS [iv 10 4,fA 11 12 1,lA 12 11,nA 13 12,tA 14 10 13] 14 0 (.seq (.block 1 (rS [fA 17 12 1,lA 18 17,iv 19 4,xA 20 4 18 19,dA 21 4 20,ia 5 (.alloc [.c (.i 0),.c (.i 0),.c (.b false),.nil 1]),tN 4 5 21] (rS [iv 23 3,fA 24 7 1,dA 25 4 24,fA 26 2 5,dA 27 2 26,fA 28 0 5,lA 29 28,c3 30 76 25 27 29,c2 31 75 23 30,iv 22 31,eX 32 0 22,eX 33 1 22,iv 3 32] (rS [fA 34 2 5,dA 35 2 34,c1 36 53 35,iv 6 36] (rS [mA 7 0] (bL 2 (xS [iv 37 7,iv 38 6,nA 39 38,tA 40 37 39] 40 2 (.seq (.block 3 (rQ [fA 43 6 1,lA 44 43,iv 45 6,iv 46 7,xA 47 1 45 46,lA 48 47,c2 49 22 44 48,oI 50 .eql 49 0] (cI 50 (rR [bA 2 false])))) (.reg [iv 41 7,pA 42 41 1,iv 7 42]))))))))) (.reg [iv 15 4,pA 16 15 1,iv 4 16]))))) (.seq (rS [mA 8 0] (bL 4 (xS [iv 51 8,iv 52 3,nA 53 52,tA 54 51 53,iv 55 54,g8 55 true 56 3,ig 55 true 57 (.len (.t 56)),gA 55 true 58 11 1,hA 55 true 59 58,ig 55 true 60 (.len (.t 59)),ig 55 true 61 (.bin .eql (.t 57) (.t 60)),pF 62 55 61] 62 4 (.seq (.block 5 (rQ [iv 65 3,iv 66 8,xA 67 5 65 66,dA 68 5 67,fA 69 11 1,lA 70 69,iv 71 8,xA 72 5 70 71,dA 73 5 72,ia 74 (.eqn true 5 (.t 68) (.t 73))] (cI 74 (rR [bA 2 false])))) (.reg [iv 63 8,pA 64 63 1,iv 8 64]))))) (rR [iv 75 3,nA 76 75,fA 77 11 1,lA 78 77,nA 79 78,oA 80 .eql 76 79,iv 2 80]))))) [.t 2]:=yA none Tryz.func44 (by kernel_rfl)
theorem ylp : Has Tryz.prog 45 109 (rS [bX 1 16 0,bA 2 false] (iS [fA 9 0 1,lA 10 9,ia 11 (.call 77 [.t 10,kI 0,kI 1000000]),nN 12 11,iv 13 12,ig 13 false 14 (.ldn 16 (.t 1)),ig 13 false 15 (.call 78 [.t 14]),g9 13 false 16 15,pT 17 13 16,iv 18 17,gA 18 false 19 5 1,hA 18 false 20 19,ig 18 false 21 (.len (.t 20)),ig 18 false 22 (.bin .gtr (.t 21) (kI 500)),pT 23 18 22,iv 24 23,gA 24 false 25 6 1,hA 24 false 26 25,ig 24 false 27 (.len (.t 26)),ig 24 false 28 (.bin .gtr (.t 27) (kI 2000)),pT 29 24 28,iv 30 29,gA 30 false 31 12 1,hA 30 false 32 31,ig 30 false 33 (.len (.t 32)),ig 30 false 34 (.bin .gtr (.t 33) (kI 500)),pT 35 30 34] 35 (rR [bA 2 false]) (.seq (rS [fA 36 5 1,lA 37 36,nA 38 37,mA 39 0] (bL 0 (rS [tA 40 39 38] (.seq (cX 40 0) (.seq (.block 1 (rS [xA 41 2 37 39,dA 42 2 41,ia 4 (.alloc [.c (.b false),.nil 1]),tN 2 4 42] (rS [dA 43 2 4,c1 44 79 43,nN 45 44] (cI 45 (rR [bA 2 false]))))) (.reg [pA 46 39 1,iv 39 46])))))) (.seq (rS [fA 47 6 1,lA 48 47,nA 49 48,mA 50 0] (bL 2 (rS [tA 51 50 49] (.seq (cX 51 2) (.seq (.block 3 (rS [xA 52 1 48 50,lA 53 52,iv 6 53] (rS [iv 54 6,ia 55 (.call 77 [.t 54,kI 1,kI 9999]),nN 56 55] (cI 56 (rR [bA 2 false]))))) (.reg [pA 57 50 1,iv 50 57])))))) (.seq (rS [fA 58 12 1,lA 59 58,nA 60 59,mA 61 0] (bL 4 (rS [tA 62 61 60] (.seq (cX 62 4) (.seq (.block 5 (rS [xA 63 4 59 61,dA 64 4 63,ia 8 (.alloc [.c (.i 0),.c (.i 0),.c (.b false),.nil 1]),tN 4 8 64] (rS [fA 65 0 8,lA 66 65,ia 67 (.call 77 [.t 66,kI 0,kI 1000000]),nN 68 67,iv 69 68,gA 69 false 70 1 8,hA 69 false 71 70,gA 69 false 72 3 1,hA 69 false 73 72,ig 69 false 74 (.len (.t 73)),ig 69 false 75 (.bin .sub (.t 74) (kI 1)),ig 69 false 76 (.call 77 [.t 71,kI 0,.t 75]),g9 69 false 77 76,pT 78 69 77,iv 79 78,gA 79 false 80 2 8,ig 79 false 81 (.ldn 2 (.t 80)),ig 79 false 82 (.call 79 [.t 81]),g9 79 false 83 82,pT 84 79 83] (cI 84 (rR [bA 2 false]))))) (.reg [pA 85 61 1,iv 61 85])))))) (rR [fA 86 7 1,dA 87 4 86,c1 88 80 87,iv 89 88,gA 89 true 90 11 1,hA 89 true 91 90,ig 89 true 92 (.call 81 [.t 91]),pF 93 89 92,iv 94 93,gA 94 true 95 13 1,hA 94 true 96 95,ig 94 true 97 (.call 77 [.t 96,kI 0,kI 1000000000]),pF 98 94 97,iv 99 98,gA 99 true 100 14 1,hA 99 true 101 100,ig 99 true 102 (.call 77 [.t 101,kI 0,kI 1000000000]),pF 103 99 102,iv 104 103,gA 104 true 105 15 1,hA 104 true 106 105,ig 104 true 107 (.call 77 [.t 106,kI 0,kI 1000000000]),pF 108 104 107,iv 2 108])))))) [.t 2]:=yA none Tryz.func45 (by kernel_rfl)
theorem yVP : Has Tryz.prog 46 18 (rS [bX 1 16 0,bA 2 false] (rQ [dA 3 16 1,c1 4 45 3,iv 5 4,ig 5 true 6 (.ldn 16 (.t 1)),ig 5 true 7 (.call 82 [.t 6]),gA 5 true 8 15 1,hA 5 true 9 8,ig 5 true 10 (.bin .add (.t 7) (.t 9)),gA 5 true 11 13 1,hA 5 true 12 11,gA 5 true 13 14 1,hA 5 true 14 13,ig 5 true 15 (.bin .add (.t 12) (.t 14)),ig 5 true 16 (.bin .eql (.t 10) (.t 15)),pF 17 5 16,iv 2 17] .ret)) [.t 2]:=yA none Tryz.func46 (by kernel_rfl)
theorem yTc : Has Tryz.prog 47 46 (rS [bX 1 16 0,bA 2 false] (rS [mN 3 5] (.seq (rS [fA 8 12 1,lA 9 8,nA 10 9,mA 11 0] (bL 0 (rS [tA 12 11 10] (.seq (cX 12 0) (.seq (.block 1 (rS [xA 13 4 9 11,dA 14 4 13,ia 5 (.alloc [.c (.i 0),.c (.i 0),.c (.b false),.nil 1]),tN 4 5 14] (rS [iv 16 3,fA 17 7 1,dA 18 4 17,fA 19 2 5,dA 20 2 19,fA 21 0 5,lA 22 21,c3 23 84 18 20 22,c2 24 83 16 23,iv 15 24,eX 25 0 15,eX 26 1 15,iv 3 25] (rS [fA 27 2 5,dA 28 2 27,c1 29 61 28,nA 30 29,mA 31 0] (bL 2 (rS [tA 32 31 30] (.seq (cX 32 2) (.seq (.block 3 (rS [xA 33 1 29 31,lA 34 33,iv 7 34] (rS [fA 35 6 1,lA 36 35,iv 37 7,c2 38 85 36 37,nN 39 38] (cI 39 (rR [bA 2 false]))))) (.reg [pA 40 31 1,iv 31 40]))))))))) (.reg [pA 41 11 1,iv 11 41])))))) (rR [iv 42 3,fA 43 11 1,lA 44 43,c2 45 86 42 44,iv 2 45])))) [.t 2]:=yA none Tryz.func47 (by kernel_rfl)
theorem ynn : Has Tryz.prog 70 100 (rS [bX 1 16 0,bA 2 false] (rS [fA 6 1 1,lA 7 6,nA 8 7,iv 3 8] (iS [fA 9 1 1,lA 10 9,c1 11 114 10,nN 12 11,iv 13 12,g8 13 false 14 3,ig 13 false 15 (.bin .lss (.t 14) (kI 2)),pT 16 13 15,iv 17 16,gA 17 false 18 2 1,hA 17 false 19 18,ig 17 false 20 (.len (.t 19)),g8 17 false 21 3,ig 17 false 22 (.bin .neq (.t 20) (.t 21)),pT 23 17 22,iv 24 23,gA 24 false 25 4 1,hA 24 false 26 25,ig 24 false 27 (.len (.t 26)),g8 24 false 28 3,ig 24 false 29 (.bin .neq (.t 27) (.t 28)),pT 30 24 29,iv 31 30,gA 31 false 32 3 1,hA 31 false 33 32,ig 31 false 34 (.len (.t 33)),g8 31 false 35 3,ig 31 false 36 (.bin .sub (.t 35) (kI 1)),ig 31 false 37 (.bin .neq (.t 34) (.t 36)),pT 38 31 37] 38 (rR [bA 2 false]) (.seq (rS [mA 4 0] (bL 0 (xS [iv 39 4,iv 40 3,tA 41 39 40] 41 0 (.seq (.block 1 (iS [fA 44 2 1,lA 45 44,iv 46 4,xA 47 2 45 46,dA 48 2 47,c1 49 115 48,nN 50 49,iv 51 50,gA 51 false 52 4 1,hA 51 false 53 52,g8 51 false 54 4,ig 51 false 55 (.idx 1 (.t 53) (.t 54)),hA 51 false 56 55,ig 51 false 57 (.len (.t 56)),ig 51 false 58 (.bin .gtr (.t 57) (kI 24)),pT 59 51 58,iv 60 59,g8 60 false 61 4,g8 60 false 62 3,ig 60 false 63 (.bin .sub (.t 62) (kI 1)),ig 60 false 64 (.bin .lss (.t 61) (.t 63)),g8 60 false 65 64,gA 65 true 66 3 1,hA 65 true 67 66,g8 65 true 68 4,ig 65 true 69 (.idx 22 (.t 67) (.t 68)),ig 65 true 70 (.ldn 22 (.t 69)),ig 65 true 71 (.call 116 [.t 70]),g9 65 true 72 71,ig 60 false 73 (.pick (.t 65) (.t 72) (kB false)),pT 74 60 73] 74 (rR [bA 2 false]) (rS [mA 5 0] (bL 2 (xS [iv 75 5,fA 76 4 1,lA 77 76,iv 78 4,xA 79 1 77 78,lA 80 79,nA 81 80,tA 82 75 81] 82 2 (.seq (.block 3 (rQ [fA 85 4 1,lA 86 85,iv 87 4,xA 88 1 86 87,lA 89 88,iv 90 5,xA 91 3 89 90,dA 92 3 91,fA 93 2 1,lA 94 93,iv 95 4,xA 96 2 94 95,dA 97 2 96,c2 98 117 92 97,nN 99 98] (cI 99 (rR [bA 2 false])))) (.reg [iv 83 5,pA 84 83 1,iv 5 84]))))))) (.reg [iv 42 4,pA 43 42 1,iv 4 43]))))) (rR [bA 2 true]))))) [.t 2]:=yA none Tryz.func70 (by kernel_rfl)
def inRange (n a b : Int) : Bool:=decide (a ≤ n) && decide (n ≤ b)
theorem yC (n a b : Int) : yB Tryz.prog 77 [.c (.i n),.c (.i a),.c (.i b)] (.c (.b (inRange n a b))):=by
 refine yh yot ?_
 simp -dsimp -implicitDefEqProofs [yi1,inRange]
 exact ⟨fun h=>by simp [h],fun h=>by simp [Int.not_le.2 h]⟩
theorem yD (n a b : Int) : yB Tryz.prog 69 [.c (.i n),.c (.i a),.c (.i b)] (.c (.b (inRange n a b))):=by
 refine yh ysx ?_
 simp -dsimp -implicitDefEqProofs [ylw,inRange]
 exact ⟨fun h=>by simp [h],fun h=>by simp [Int.not_le.2 h]⟩
structure Entry where
 From : Int
 To : Int
 Amount : Int
 Time : Int
 Why : Int
 deriving Inhabited,DecidableEq
@[simp] def Entry.enc (e : Entry) : List C:=[.i e.From,.i e.To,.i e.Amount,.i e.Time,.i e.Why]
def ycl (e : Entry) : Bool:=decide (e.From ≠ e.To) && inRange e.From 0 11 && inRange e.To 0 11 && inRange e.Amount 1 1000000000 && inRange e.Time 0 1000000 && inRange e.Why 0 9999
theorem ysa (e : Entry) : yB Tryz.prog 127 [.agg (e.enc.map .c)] (.c (.b (ycl e))):=by
 refine yh ypP ?_
 simp -dsimp -implicitDefEqProofs
 refine ⟨fun h=>?_,fun h=>by simp [ycl,h]⟩
 refine yc (yC e.From 0 11) ?_
 simp -dsimp -implicitDefEqProofs
 refine ⟨fun h1=>?_,fun h1=>by simp [ycl,h1]⟩
 refine yc (yC e.To 0 11) ?_
 simp -dsimp -implicitDefEqProofs
 refine ⟨fun h2=>?_,fun h1=>by simp [ycl,h1]⟩
 refine yc (yC e.Amount 1 1000000000) ?_
 simp -dsimp -implicitDefEqProofs
 refine ⟨fun h3=>?_,fun h1=>by simp [ycl,h1]⟩
 refine yc (yC e.Time 0 1000000) ?_
 simp -dsimp -implicitDefEqProofs
 refine ⟨fun h4=>?_,fun h1=>by simp [ycl,h1]⟩
 refine yc (yC e.Why 0 9999) ?_
 simp -dsimp -implicitDefEqProofs
 simp [ycl,h,h1,h2,h3,h4]
def yht (es : List Entry) : Bool:=decide (es.length ≤ 2000) && es.all ycl
theorem yL {α : Type} {p : α → Bool} {l : List α} {k : Nat} {e : α} (he : l[k]? = some e) (h : ∀ x ∈ l.take k,p x = true) (hp : p e = true) : ∀ x ∈ l.take (k + 1),p x = true:=by
 intro x hx
 rw [List.take_succ_eq_append_getElem (List.getElem?_eq_some_iff.1 he).1] at hx
 rcases List.mem_append.1 hx with h1 | h1
 ·exact h x h1
 ·rw [List.mem_singleton] at h1
  have:=(List.getElem?_eq_some_iff.1 he).2
  rw [h1,this]; exact hp
theorem yX {α : Type} {p : α → Bool} {l : List α} {k : Nat} (hk : l.length ≤ k) (h : ∀ x ∈ l.take k,p x = true) : l.all p = true:=by
 rw [List.take_of_length_le hk] at h
 exact List.all_eq_true.2 h
theorem all_false {α : Type} {p : α → Bool} {l : List α} {k : Nat} {e : α} (he : l[k]? = some e) (hp : p e = false) : l.all p = false:=by
 rw [List.all_eq_false]
 exact ⟨e,List.mem_of_getElem? he,by simp [hp]⟩
theorem yG {k n : Nat} (h : k < n) : ((k : Int) < (n : Int)) = True:=by simp [h]
theorem yaB {k n : Nat} (h : n ≤ k) : ((k : Int) < (n : Int)) = False:=by simp [h]
theorem yvn (es : List Entry) : yB Tryz.prog 81 [.c (.sl 5 (es.map Entry.enc))] (.c (.b (yht es))):=by
 refine yh yqI ?_
 simp -dsimp -implicitDefEqProofs
 intro hlen
 refine ⟨fun h=>by simp [yht]; omega,fun h _=>?_⟩
 refine yg (ι:=Nat) (fun k=>k ≤ es.length ∧ ∀ e ∈ es.take k,ycl e = true) (fun k=>yO [(8,.c (.sl 5 (es.map Entry.enc))),(9,.c (.i es.length)),(10,.c (.i k))] []) (fun k=>es.length - k) 0 (by simp) (by apply yj <;> simp [AV.ygy,AV.ymf]) ?_
 rintro k ⟨hk,hall⟩
 rcases Nat.lt_or_ge k es.length with hlt | hge
 ·obtain ⟨e,he⟩ : ∃ e,es[k]? = some e:=⟨_,List.getElem?_eq_getElem hlt⟩
  simp -dsimp -implicitDefEqProofs [he,yG hlt]
  refine yc (ysa e) ?_
  simp -dsimp -implicitDefEqProofs
  refine ⟨fun h1=>by simp [yht,all_false he h1],fun h1=>?_⟩
  refine ⟨by unfold maxLen at hlen; constructor <;> omega,k + 1,⟨by omega,yL he hall h1⟩,by omega,?_⟩
  apply yj <;> simp [AV.ygy,AV.ymf]
 ·simp -dsimp -implicitDefEqProofs [yaB hge]
  have:=yX hge hall
  simp [yht,this]; omega
structure Way where
 Long : Int
 Bed : Int
 deriving DecidableEq,Inhabited
@[simp] def Way.enc (e : Way) : List C:=[.i e.Long,.i e.Bed]
def yjg (e : Way) : Bool:=inRange e.Long 1 10000 && inRange e.Bed 0 100000
theorem ybj (n : Int) : yB Tryz.prog 147 [.c (.i n)] (.c (.b (inRange n 0 100000))):=by
 refine yh ynt ?_
 simp -dsimp -implicitDefEqProofs
 refine yc (yD n 0 100000) ?_
 simp -dsimp -implicitDefEqProofs
theorem ypN (e : Way) : yB Tryz.prog 123 [.agg (e.enc.map .c)] (.c (.b (yjg e))):=by
 refine yh yth ?_
 simp -dsimp -implicitDefEqProofs
 refine yc (yC e.Long 1 10000) ?_
 simp -dsimp -implicitDefEqProofs
 refine ⟨fun h=>?_,fun h=>by simp [yjg,h]⟩
 refine yc (yC e.Bed 0 100000) ?_
 simp -dsimp -implicitDefEqProofs
 simp [yjg,h]
theorem ynZ (e : Way) : yB Tryz.prog 115 [.agg (e.enc.map .c)] (.c (.b (yjg e))):=by
 refine yh yss ?_
 simp -dsimp -implicitDefEqProofs
 refine yc (yD e.Long 1 10000) ?_
 simp -dsimp -implicitDefEqProofs
 refine ⟨fun h=>?_,fun h=>by simp [yjg,h]⟩
 refine yc (ybj e.Bed) ?_
 simp -dsimp -implicitDefEqProofs
 simp [yjg,h]
theorem yxc (e : Way) : yB Tryz.prog 55 [.agg (e.enc.map .c)] (.agg (e.enc.map .c)):=by
 refine yh ys1 ?_
 simp -dsimp -implicitDefEqProofs
theorem ysd (e : Entry) : yB Tryz.prog 118 [.agg (e.enc.map .c)] (.c (.b (ycl e))):=by
 refine yh yqb ?_
 simp -dsimp -implicitDefEqProofs
 refine ⟨fun h=>?_,fun h=>by simp [ycl,h]⟩
 refine yc (yD e.From 0 11) ?_
 simp -dsimp -implicitDefEqProofs
 refine ⟨fun h1=>?_,fun h1=>by simp [ycl,h1]⟩
 refine yc (yD e.To 0 11) ?_
 simp -dsimp -implicitDefEqProofs
 refine ⟨fun h2=>?_,fun h1=>by simp [ycl,h1]⟩
 refine yc (yD e.Amount 1 1000000000) ?_
 simp -dsimp -implicitDefEqProofs
 refine ⟨fun h3=>?_,fun h1=>by simp [ycl,h1]⟩
 refine yc (yD e.Time 0 1000000) ?_
 simp -dsimp -implicitDefEqProofs
 refine ⟨fun h4=>?_,fun h1=>by simp [ycl,h1]⟩
 refine yc (yD e.Why 0 9999) ?_
 simp -dsimp -implicitDefEqProofs
 simp [ycl,h,h1,h2,h3,h4]
theorem yrC (e : Entry) : yB Tryz.prog 59 [.agg (e.enc.map .c)] (.agg (e.enc.map .c)):=by
 refine yh ypm ?_
 simp -dsimp -implicitDefEqProofs
theorem yxo (e f : Entry) : yB Tryz.prog 67 [.agg (e.enc.map .c),.agg (f.enc.map .c)] (.c (.b (decide (e = f)))):=by
 refine yh yn0 ?_
 obtain ⟨a1,a2,a3,a4,a5⟩:=e
 obtain ⟨b1,b2,b3,b4,b5⟩:=f
 simp -dsimp -implicitDefEqProofs [yja,Entry.mk.injEq]
 refine ⟨fun h=>by simp [h],fun h=>⟨fun h1=>by simp [h1],fun h1=>⟨fun h2=>by simp [h2],fun h2=>⟨fun h3=>by simp [h3],fun h3=>⟨fun h4=>by simp [h4],fun h4=>by simp [h,h1,h2,h3,h4]⟩⟩⟩⟩⟩
def partly {α : Type} (f : α → List C) (z : List C) (es : List α) (k : Nat) : List (List C):=(es.take k).map f ++ List.replicate (es.length - k) z
theorem yak {α : Type} {f : α → List C} {z : List C} {es : List α} {k : Nat} (h : k ≤ es.length) : (partly f z es k).length = es.length:=by
 simp [partly]; omega
theorem yab {α : Type} {f : α → List C} {z : List C} {es : List α} : partly f z es 0 = List.replicate es.length z:=by simp [partly]
theorem yam {α : Type} {f : α → List C} {z : List C} {es : List α} {k : Nat} (h : es.length ≤ k) : partly f z es k = es.map f:=by
 simp [partly,List.take_of_length_le h,Nat.sub_eq_zero_of_le h]
theorem yaj {α : Type} {f : α → List C} {z : List C} {es : List α} {k : Nat} {e : α} (h : es[k]? = some e) : (partly f z es k).set k (f e) = partly f z es (k + 1):=by
 have hk:=(List.getElem?_eq_some_iff.1 h).1
 have he:=(List.getElem?_eq_some_iff.1 h).2
 unfold partly
 rw [List.set_append_right _ _ (by simp; omega)]
 have h1 : ((es.take k).map f).length = k:=by simp; omega
 rw [h1,Nat.sub_self,show es.length - k = (es.length - (k + 1)) + 1 by omega,List.replicate_succ,List.set_cons_zero,List.take_succ_eq_append_getElem hk,he]
 simp
theorem ydK {α : Type} {f : α → List C} {z : List C} {es : List α} {k n : Nat} (hz : z.length = n) (hf : ∀ e,(f e).length = n) (h : k < es.length) : ((partly f z es k)[k]?.getD []).length = n:=by
 unfold partly
 rw [List.getElem?_append_right (by simp; omega)]
 have h1 : ((es.take k).map f).length = k:=by simp; omega
 rw [h1,Nat.sub_self,List.getElem?_replicate,if_pos (by omega)]
 exact hz
theorem yav {α : Type} {f : α → List C} {z : List C} {es : List α} {k n : Nat} (hz : z.length = n) (h : k < es.length) : ((partly f z es k)[k]?.getD []).drop n = []:=by
 apply List.drop_eq_nil_of_le
 unfold partly
 rw [List.getElem?_append_right (by simp; omega)]
 have h1 : ((es.take k).map f).length = k:=by simp; omega
 rw [h1,Nat.sub_self,List.getElem?_replicate,if_pos (by omega)]
 simp [hz]
theorem yw {k n : Nat} (hk : k < n) (h : n ≤ maxLen) : inI ((k : Int) + 1):=by unfold maxLen at h; unfold inI; omega
def szS (n : Nat) (left : Int) : Int:=if left - n < 0 then -1 else left - n
theorem yvG (es : List Entry) (hl : es.length ≤ 1048576) : yB Tryz.prog 30 [.c (.sl 5 (es.map Entry.enc))] (.c (.sl 5 (es.map Entry.enc))):=by
 refine yh yiv ?_
 simp -dsimp -implicitDefEqProofs
 intro hlen
 refine ⟨by omega,?_⟩
 refine yg (ι:=Nat) (fun k=>k ≤ es.length) (fun k=>yO [(0,.c (.sl 5 (es.map Entry.enc))),(3,.own 7 5 es.length),(4,.c (.i k))] [(7,.row 5 (partly Entry.enc [.i 0,.i 0,.i 0,.i 0,.i 0] es k))]) (fun k=>es.length - k) 0 (by simp) (by apply yj <;> simp [yab]) ?_
 rintro k hk
 rcases Nat.lt_or_ge k es.length with hlt | hge
 ·obtain ⟨e,he⟩ : ∃ e,es[k]? = some e:=⟨_,List.getElem?_eq_getElem hlt⟩
  have hs:=yaj (f:=Entry.enc) (z:=[.i 0,.i 0,.i 0,.i 0,.i 0]) he
  have hd:=yav (f:=Entry.enc) (z:=[.i 0,.i 0,.i 0,.i 0,.i 0]) (n:=5) rfl hlt
  simp only [Entry.enc] at hs
  simp -dsimp -implicitDefEqProofs [he,yG hlt]
  refine fun _=>yaP (yrC e) (by simp) rfl ?_
  simp -dsimp -implicitDefEqProofs [yG hlt,yak hk,hd,hs]
  refine ⟨hlt,yw hlt hlen,k + 1,hlt,by omega,by apply yj <;> simp⟩
 ·simp -dsimp -implicitDefEqProofs [yaB hge]
  intro _
  rw [yam hge,List.take_of_length_le (by simp)]
theorem yaR {α : Type} {l m : List α} {k : Nat} {e f : α} (he : l[k]? = some e) (hf : m[k]? = some f) (h : l.take k = m.take k) (hef : e = f) : l.take (k + 1) = m.take (k + 1):=by
 rw [List.take_succ,List.take_succ,he,hf,h,hef]
theorem ybG {α : Type} {l m : List α} {k : Nat} {e f : α} (he : l[k]? = some e) (hf : m[k]? = some f) (hef : e ≠ f) : l ≠ m:=by
 rintro rfl
 rw [he] at hf
 exact hef (Option.some.inj hf)
theorem ybf {α : Type} {l m : List α} {k : Nat} (hl : l.length ≤ k) (hm : l.length = m.length) (h : l.take k = m.take k) : l = m:=by
 rwa [List.take_of_length_le hl,List.take_of_length_le (by omega)] at h
theorem ywt (es fs : List Entry) : yB Tryz.prog 40 [.c (.sl 5 (es.map Entry.enc)),.c (.sl 5 (fs.map Entry.enc))] (.c (.b (decide (es = fs)))):=by
 refine yh ynh ?_
 simp -dsimp -implicitDefEqProofs
 intro hl1 hl2
 refine ⟨fun h e=>h (by rw [e]),fun hlen=>?_⟩
 have hlen' : es.length = fs.length:=by omega
 refine yg (ι:=Nat) (fun k=>k ≤ es.length ∧ es.take k = fs.take k) (fun k=>yO [(0,.c (.sl 5 (es.map Entry.enc))),(1,.c (.sl 5 (fs.map Entry.enc))),(5,.c (.i k))] []) (fun k=>es.length - k) 0 (by simp) (by apply yj <;> simp) ?_
 rintro k ⟨hk,htk⟩
 rcases Nat.lt_or_ge k es.length with hlt | hge
 ·obtain ⟨e,he⟩ : ∃ e,es[k]? = some e:=⟨_,List.getElem?_eq_getElem hlt⟩
  obtain ⟨f,hf⟩ : ∃ f,fs[k]? = some f:=⟨_,List.getElem?_eq_getElem (by omega)⟩
  simp -dsimp -implicitDefEqProofs [he,hf,yG hlt,yG (hlen' ▸ hlt)]
  intro _
  refine yaC (yxo e f) ?_
  simp -dsimp -implicitDefEqProofs
  refine ⟨fun h=>ybG he hf h,fun h=>⟨yw hlt hl1,k + 1,⟨hlt,yaR he hf htk h⟩,by omega,by apply yj <;> simp⟩⟩
 ·simp -dsimp -implicitDefEqProofs [yaB hge]
  intro _
  exact ybf hge hlen' htk
theorem yuL (es : List Entry) : yB Tryz.prog 73 [.c (.sl 5 (es.map Entry.enc))] (.c (.b (yht es))):=by
 refine yh yro ?_
 simp -dsimp -implicitDefEqProofs
 refine yg (ι:=Nat) (fun k=>k ≤ es.length ∧ ∀ e ∈ es.take k,ycl e = true) (fun k=>yO [(0,.c (.sl 5 (es.map Entry.enc))),(3,.c (.i k))] []) (fun k=>es.length - k) 0 (by simp) (by apply yj <;> simp) ?_
 rintro k ⟨hk,hall⟩
 rcases Nat.lt_or_ge k es.length with hlt | hge
 ·obtain ⟨e,he⟩ : ∃ e,es[k]? = some e:=⟨_,List.getElem?_eq_getElem hlt⟩
  simp -dsimp -implicitDefEqProofs [he,yG hlt]
  intro hlen
  refine yc (ysd e) ?_
  simp -dsimp -implicitDefEqProofs
  refine ⟨fun h1=>by simp [yht,all_false he h1],fun h1=>?_⟩
  exact ⟨yw hlt hlen,k + 1,⟨by omega,yL he hall h1⟩,by omega,by apply yj <;> simp⟩
 ·simp -dsimp -implicitDefEqProofs [yaB hge]
  have:=yX hge hall
  simp only [yht,this,Bool.and_true]
  intro _
  exact decide_eq_decide.2 (by omega)
abbrev yJ (n : Int) : List C:=[.i n]
theorem yz0 (es : List Int) (left : Int) (h0 : 0 ≤ left) (h1 : left ≤ 1048576) : yB Tryz.prog 17 [.c (.sl 1 (es.map yJ)),.c (.i left)] (.c (.i (szS es.length left))):=by
 refine yh yrh ?_
 simp -dsimp -implicitDefEqProofs [yj7,szS]
 intro hl
 unfold maxLen at hl
 refine ⟨by unfold inI; omega,fun h=>?_,fun h=>?_⟩ <;> intros <;> omega
theorem ylC (es : List Int) (hl : es.length ≤ 1048576) : yB Tryz.prog 28 [.c (.sl 1 (es.map yJ))] (.c (.sl 1 (es.map yJ))):=by
 refine yh yjT ?_
 simp -dsimp -implicitDefEqProofs
 intro hlen
 refine ⟨by omega,?_⟩
 refine yg (ι:=Nat) (fun k=>k ≤ es.length) (fun k=>yO [(0,.c (.sl 1 (es.map yJ))),(3,.own 7 1 es.length),(4,.c (.i k))] [(7,.row 1 (partly yJ [.i 0] es k))]) (fun k=>es.length - k) 0 (by simp) (by apply yj <;> simp [yab]) ?_
 rintro k hk
 rcases Nat.lt_or_ge k es.length with hlt | hge
 ·obtain ⟨e,he⟩ : ∃ e,es[k]? = some e:=⟨_,List.getElem?_eq_getElem hlt⟩
  have hs:=yaj (f:=yJ) (z:=[.i 0]) he
  have hd : ((partly yJ [.i 0] es k)[k]?.getD []).set 0 (.i e) = [.i e]:=by
   have:=ydK (f:=yJ) (z:=[.i 0]) (n:=1) rfl (fun _=>rfl) hlt
   obtain ⟨x,hx⟩:=List.length_eq_one_iff.1 this
   rw [hx]; rfl
  simp -dsimp -implicitDefEqProofs [he,yG hlt]
  intro _
  rw [hd,show (partly yJ [.i 0] es k).set k [.i e] = partly yJ [.i 0] es (k + 1) from hs]
  exact ⟨by rw [yak hk]; exact hlt,yw hlt hlen,k + 1,hlt,by omega,by apply yj <;> simp⟩
 ·simp -dsimp -implicitDefEqProofs [yaB hge]
  intro _
  rw [yam hge,List.take_of_length_le (by simp)]
theorem ykZ (es fs : List Int) : yB Tryz.prog 38 [.c (.sl 1 (es.map yJ)),.c (.sl 1 (fs.map yJ))] (.c (.b (decide (es = fs)))):=by
 refine yh yqx ?_
 simp -dsimp -implicitDefEqProofs
 intro hl1 hl2
 refine ⟨fun h e=>h (by rw [e]),fun hlen=>?_⟩
 have hlen' : es.length = fs.length:=by omega
 refine yg (ι:=Nat) (fun k=>k ≤ es.length ∧ es.take k = fs.take k) (fun k=>yO [(0,.c (.sl 1 (es.map yJ))),(1,.c (.sl 1 (fs.map yJ))),(5,.c (.i k))] []) (fun k=>es.length - k) 0 (by simp) (by apply yj <;> simp) ?_
 rintro k ⟨hk,htk⟩
 rcases Nat.lt_or_ge k es.length with hlt | hge
 ·obtain ⟨e,he⟩ : ∃ e,es[k]? = some e:=⟨_,List.getElem?_eq_getElem hlt⟩
  obtain ⟨f,hf⟩ : ∃ f,fs[k]? = some f:=⟨_,List.getElem?_eq_getElem (by omega)⟩
  simp -dsimp -implicitDefEqProofs [he,hf,yG hlt,yG (hlen' ▸ hlt)]
  intro _
  refine ⟨fun h=>ybG he hf h,fun h=>⟨yw hlt hl1,k + 1,⟨hlt,yaR he hf htk h⟩,by omega,by apply yj <;> simp⟩⟩
 ·simp -dsimp -implicitDefEqProofs [yaB hge]
  intro _
  exact ybf hge hlen' htk
structure Tariff where
 Base : Int
 PerArea : Int
 PerClass : List Int
 Weights : List Int
 deriving DecidableEq
@[simp] def Tariff.enc (t : Tariff) : List C:=[.i t.Base,.i t.PerArea,.sl 1 (t.PerClass.map yJ),.sl 1 (t.Weights.map yJ)]
def Tariff.small (t : Tariff) : Prop:=t.PerClass.length ≤ 1048576 ∧ t.Weights.length ≤ 1048576
theorem ywB (t : Tariff) (h : t.small) : yB Tryz.prog 29 [.agg (t.enc.map .c)] (.agg (t.enc.map .c)):=by
 refine yh yil ?_
 simp -dsimp -implicitDefEqProofs
 refine yS (ylC t.PerClass h.1) ?_
 simp -dsimp -implicitDefEqProofs
 refine yS (ylC t.Weights h.2) ?_
 simp -dsimp -implicitDefEqProofs
theorem yv1 (t u : Tariff) : yB Tryz.prog 39 [.agg (t.enc.map .c),.agg (u.enc.map .c)] (.c (.b (decide (t = u)))):=by
 refine yh ym8 ?_
 obtain ⟨t1,t2,t3,t4⟩:=t
 obtain ⟨u1,u2,u3,u4⟩:=u
 simp -dsimp -implicitDefEqProofs [yiy,Tariff.mk.injEq]
 refine ⟨fun h=>by simp [h],fun h=>⟨fun h1=>by simp [h1],fun h1=>?_⟩⟩
 refine yc (ykZ t3 u3) ?_
 simp -dsimp -implicitDefEqProofs
 refine ⟨fun h2 _ _ h3=>absurd h3 h2,fun h2=>?_⟩
 refine yc (ykZ t4 u4) ?_
 simp -dsimp -implicitDefEqProofs
 simp [h,h1,h2]
theorem ypy {l : List Int} {k : Nat} {x : Int} (h : l[k]? = some x) : (l.take (k + 1)).sum = (l.take k).sum + x:=by
 rw [List.take_succ,h]; simp
def sumTo (l : List Int) (k : Nat) : Int:=(l.take k).sum
theorem yf6 {l : List Int} : sumTo l 0 = 0:=rfl
theorem yia {l : List Int} {k : Nat} {x : Int} (h : l[k]? = some x) : sumTo l (k + 1) = sumTo l k + x:=ypy h
theorem ymm {l : List Int} {k : Nat} (h : l.length ≤ k) : sumTo l k = l.sum:=by unfold sumTo; rw [List.take_of_length_le h]
def ya9 (t : Tariff) : Bool:=inRange t.Base 0 10000 && inRange t.PerArea 0 100 && decide (t.PerClass.length = 3) && inRange t.Weights.length 1 11 &&
 t.PerClass.all (fun n=>inRange n 0 10000) && t.Weights.all (fun n=>inRange n 0 1000) && decide (0 < t.Weights.sum)
theorem yF {n a b : Int} : inRange n a b = true ↔ a ≤ n ∧ n ≤ b:=by simp [inRange]
theorem ycG {n a b : Int} : inRange n a b = false ↔ n < a ∨ b < n:=by
 simp only [inRange,Bool.and_eq_false_iff,decide_eq_false_iff_not]; omega
theorem yjC : ∀ {l : List Int} {b : Int},(∀ x ∈ l,inRange x 0 b = true) → 0 ≤ l.sum ∧ l.sum ≤ b * l.length
 | [],b,_=>by simp
 | x :: l,b,h=>by
  have h1:=yjC (l:=l) (b:=b) fun y hy=>h y (by simp [hy])
  have h2:=yF.1 (h x (by simp))
  simp only [List.sum_cons,List.length_cons,Int.natCast_add,Int.natCast_one,Int.mul_add,Int.mul_one]
  omega
theorem yqB (t : Tariff) : yB Tryz.prog 80 [.agg (t.enc.map .c)] (.c (.b (ya9 t))):=by
 refine yh ynP ?_
 simp -dsimp -implicitDefEqProofs
 refine yc (yC t.Base 0 10000) ?_
 simp -dsimp -implicitDefEqProofs
 refine ⟨fun h1=>?_,fun h1=>by simp [ya9,h1]⟩
 refine yc (yC t.PerArea 0 100) ?_
 simp -dsimp -implicitDefEqProofs
 refine ⟨fun h2=>?_,fun h2=>by simp [ya9,h2]⟩
 intro hc
 refine ⟨fun h3 hw=>⟨fun h4 _=>⟨fun h5=>?_,fun h5 _=>?_⟩,fun h4=>?_⟩,fun h3=>?_⟩
 ·have : inRange t.Weights.length 1 11 = false:=ycG.2 (by omega)
  simp [ya9,this]
 ·have h3' : t.PerClass.length = 3:=by omega
  have h6 : inRange t.Weights.length 1 11 = true:=yF.2 (by omega)
  refine yg (ι:=Nat) (fun k=>k ≤ t.PerClass.length ∧ ∀ n ∈ t.PerClass.take k,inRange n 0 10000 = true) (fun k=>yO [(1,.box 1 0),(37,.c (.sl 1 (t.PerClass.map yJ))),(38,.c (.i t.PerClass.length)),(39,.c (.i k))] [(1,.box (t.enc.map .c))]) (fun k=>t.PerClass.length - k) 0 (by simp) (by apply yj <;> simp) ?_
  rintro k ⟨hk,hall⟩
  rcases Nat.lt_or_ge k t.PerClass.length with hlt | hge
  ·obtain ⟨e,he⟩ : ∃ e,t.PerClass[k]? = some e:=⟨_,List.getElem?_eq_getElem hlt⟩
   simp -dsimp -implicitDefEqProofs [he,yG hlt]
   refine yc (yC e 0 10000) ?_
   simp -dsimp -implicitDefEqProofs
   refine ⟨fun h1=>by simp [ya9,all_false (p:=fun n=>inRange n 0 10000) he h1],fun h1=>?_⟩
   exact ⟨yw hlt hc,k + 1,⟨by omega,yL (p:=fun n=>inRange n 0 10000) he hall h1⟩,by omega,by apply yj <;> simp⟩
  ·have h7:=yX (p:=fun n=>inRange n 0 10000) hge hall
   simp -dsimp -implicitDefEqProofs [yaB hge]
   intro _
   refine yg (ι:=Nat) (fun k=>k ≤ t.Weights.length ∧ ∀ n ∈ t.Weights.take k,inRange n 0 1000 = true) (fun k=>yO [(5,.c (.i (t.Weights.take k).sum)),(48,.c (.sl 1 (t.Weights.map yJ))),(49,.c (.i t.Weights.length)),(50,.c (.i k))] []) (fun k=>t.Weights.length - k) 0 (by simp) (by apply yj <;> simp) ?_
   rintro k ⟨hk,hall⟩
   rcases Nat.lt_or_ge k t.Weights.length with hlt | hge
   ·obtain ⟨e,he⟩ : ∃ e,t.Weights[k]? = some e:=⟨_,List.getElem?_eq_getElem hlt⟩
    simp -dsimp -implicitDefEqProofs [he,yG hlt]
    refine yc (yC e 0 1000) ?_
    simp -dsimp -implicitDefEqProofs [he,yG hlt]
    refine ⟨fun h1=>by simp [ya9,all_false (p:=fun n=>inRange n 0 1000) he h1],fun h1=>?_⟩
    have hs:=yjC hall
    have hx:=yF.1 h1
    have hl : (t.Weights.take k).length ≤ 11:=by simp; omega
    exact ⟨by unfold inI; omega,yw hlt hw,k + 1,⟨by omega,yL (p:=fun n=>inRange n 0 1000) he hall h1⟩,by omega,by apply yj <;> simp [ypy he]⟩
   ·have h8:=yX (p:=fun n=>inRange n 0 1000) hge hall
    simp -dsimp -implicitDefEqProofs [yaB hge]
    rw [List.take_of_length_le hge]
    simp [ya9,h1,h2,h3',h6,h7,h8]
 ·have : inRange t.Weights.length 1 11 = false:=ycG.2 (by omega)
  simp [ya9,this]
 ·have : ¬ t.PerClass.length = 3:=by omega
  simp [ya9,this]
theorem yre (t : Tariff) : yB Tryz.prog 72 [.agg (t.enc.map .c)] (.c (.b (ya9 t))):=by
 refine yh ynI ?_
 simp -dsimp -implicitDefEqProofs
 refine yc (yD t.Base 0 10000) ?_
 simp -dsimp -implicitDefEqProofs
 refine ⟨fun h1=>?_,fun h1=>by simp [ya9,h1]⟩
 refine yc (yD t.PerArea 0 100) ?_
 simp -dsimp -implicitDefEqProofs
 refine ⟨fun h2=>?_,fun h2=>by simp [ya9,h2]⟩
 intro hc
 refine ⟨fun h3 hw=>?_,fun h3=>?_⟩
 ·have h3' : t.PerClass.length = 3:=by omega
  refine yc (yD t.Weights.length 1 11) ?_
  simp -dsimp -implicitDefEqProofs
  refine ⟨fun h6=>?_,fun h6=>?_⟩
  ·simp [ya9,h6]
  have h6':=yF.1 h6
  refine yg (ι:=Nat) (fun k=>k ≤ t.PerClass.length ∧ ∀ n ∈ t.PerClass.take k,inRange n 0 10000 = true) (fun k=>yO [(1,.box 1 0),(3,.c (.i k))] [(1,.box (t.enc.map .c))]) (fun k=>t.PerClass.length - k) 0 (by simp) (by apply yj <;> simp) ?_
  rintro k ⟨hk,hall⟩
  rcases Nat.lt_or_ge k t.PerClass.length with hlt | hge
  ·obtain ⟨e,he⟩ : ∃ e,t.PerClass[k]? = some e:=⟨_,List.getElem?_eq_getElem hlt⟩
   have hlt3 : ((k : Int) < 3) = True:=by simp; omega
   simp -dsimp -implicitDefEqProofs [he,hlt3,yG hlt]
   refine yc (yD e 0 10000) ?_
   simp -dsimp -implicitDefEqProofs
   refine ⟨fun h1=>by simp [ya9,all_false (p:=fun n=>inRange n 0 10000) he h1],fun h1=>?_⟩
   exact ⟨yw hlt hc,k + 1,⟨by omega,yL (p:=fun n=>inRange n 0 10000) he hall h1⟩,by omega,by apply yj <;> simp⟩
  ·have h7:=yX (p:=fun n=>inRange n 0 10000) hge hall
   have hge3 : ((k : Int) < 3) = False:=by simp; omega
   simp -dsimp -implicitDefEqProofs [hge3]
   refine yg (ι:=Nat) (fun k=>k ≤ t.Weights.length ∧ ∀ n ∈ t.Weights.take k,inRange n 0 1000 = true) (fun k=>yO [(1,.box 1 0),(4,.c (.i (t.Weights.take k).sum)),(5,.c (.i k))] [(1,.box (t.enc.map .c))]) (fun k=>t.Weights.length - k) 0 (by simp) (by apply yj <;> simp) ?_
   rintro k ⟨hk,hall⟩
   rcases Nat.lt_or_ge k t.Weights.length with hlt | hge
   ·obtain ⟨e,he⟩ : ∃ e,t.Weights[k]? = some e:=⟨_,List.getElem?_eq_getElem hlt⟩
    simp -dsimp -implicitDefEqProofs [he,yG hlt]
    intro _
    refine yc (yD e 0 1000) ?_
    simp -dsimp -implicitDefEqProofs [he,yG hlt]
    refine ⟨fun h1=>by simp [ya9,all_false (p:=fun n=>inRange n 0 1000) he h1],fun h1=>?_⟩
    have hs:=yjC hall
    have hx:=yF.1 h1
    have hl : (t.Weights.take k).length ≤ 11:=by simp; omega
    exact ⟨by unfold inI; omega,yw hlt hw,k + 1,⟨by omega,yL (p:=fun n=>inRange n 0 1000) he hall h1⟩,by omega,by apply yj <;> simp [ypy he]⟩
   ·have h8:=yX (p:=fun n=>inRange n 0 1000) hge hall
    simp -dsimp -implicitDefEqProofs [yaB hge]
    rw [List.take_of_length_le hge]
    simp [ya9,h1,h2,h3',h6,h7,h8]
 ·have : ¬ t.PerClass.length = 3:=by omega
  simp [ya9,this]
def vAt (l : List Int) (k : Nat) : Int:=l[k]?.getD 0
theorem ySA {l : List Int} {k : Nat} {x : Int} (h : l[k]? = some x) : vAt l k = x:=by simp [vAt,h]
def yR4 (l : List Int) : Nat → Nat
 | 0=>0
 | k + 1=>if vAt l (yR4 l k) < vAt l k then k else yR4 l k
theorem yT1 {l : List Int} : yR4 l 0 = 0:=rfl
theorem ySk {l : List Int} {k : Nat} : yR4 l (k + 1) = if vAt l (yR4 l k) < vAt l k then k else yR4 l k:=rfl
theorem ySG {l : List Int} (h : 0 < l.length) : ∀ {k : Nat},k ≤ l.length → yR4 l k < l.length
 | 0,_=>h
 | k + 1,hk=>by
  rw [ySk]
  split
  ·omega
  ·exact ySG h (by omega)
theorem yTe {l : List Int} : ∀ {k j : Nat},j < k → vAt l j ≤ vAt l (yR4 l k)
 | k + 1,j,hj=>by
  rw [ySk]
  rcases Nat.lt_or_ge j k with h | h
  ·have:=yTe (l:=l) h
   split <;> omega
  ·have : j = k:=by omega
   subst this
   split <;> omega
theorem yS8 {l : List Int} : ∀ {k j : Nat},j < yR4 l k → vAt l j < vAt l (yR4 l k)
 | 0,j,h=>by simp [yR4] at h
 | k + 1,j,h=>by
  rw [ySk] at h ⊢
  split at h
  ·rename_i h2
   rw [if_pos h2]
   have:=yTe (l:=l) (show j < k from h)
   omega
  ·rename_i h2
   rw [if_neg h2]
   exact yS8 h
theorem yUc {l : List Int} {n a : Nat} (h : a < n) (h1 : ∀ x,x < n → vAt l x ≤ vAt l a) (h2 : ∀ x,x < a → vAt l x < vAt l a) (hn : n ≤ l.length) : yR4 l n = a:=by
 have g1:=yTe (l:=l) h
 have g2 : yR4 l n < l.length:=ySG (by omega) hn
 have g3 : yR4 l n < n:=by
  have : ∀ k : Nat,0 < k → yR4 l k < k:=by
   intro k
   induction k with
   | zero=>intro h; omega
   | succ k ih =>
    intro _
    rw [ySk]
    split
    ·omega
    ·rcases Nat.eq_zero_or_pos k with e | e
     ·subst e; simp [yR4]
     ·have:=ih e; omega
  exact this n (by omega)
 have g4:=h1 _ g3
 rcases Nat.lt_trichotomy a (yR4 l n) with e | e | e
 ·have:=yS8 e; omega
 ·exact e.symm
 ·have:=h2 _ e; omega
def better (R : List Int) (x y : Nat) : Prop:=vAt R y < vAt R x ∨ (vAt R x = vAt R y ∧ x < y)
def ySH (R : List Int) (i : Nat) (x : Nat) : Bool:=decide (vAt R i ≤ vAt R x)
def yUg (R : List Int) (i : Nat) (P : List Nat) : List Nat:=P.takeWhile (ySH R i) ++ i :: P.dropWhile (ySH R i)
def ySh (R : List Int) : Nat → List Nat
 | 0=>[]
 | i + 1=>yUg R i (ySh R i)
theorem yT3 {p : Nat → Bool} : ∀ {l1 l2 : List Nat},(∀ x ∈ l1,p x = true) → (∀ x ∈ l2,p x = false) → (l1 ++ l2).takeWhile p = l1 ∧ (l1 ++ l2).dropWhile p = l2
 | [],[],_,_=>⟨rfl,rfl⟩
 | [],x :: l,_,h=>by
  have:=h x (by simp)
  simp [List.takeWhile_cons,List.dropWhile_cons,this]
 | x :: l,l2,h1,h2=>by
  have hx:=h1 x (by simp)
  obtain ⟨e1,e2⟩:=yT3 (p:=p) (l1:=l) (l2:=l2) (fun y hy=>h1 y (by simp [hy])) h2
  simp [List.takeWhile_cons,List.dropWhile_cons,hx,e1,e2]
theorem ySU {p : Nat → Bool} : ∀ {l r : List Nat} {y : Nat},l.dropWhile p = y :: r → p y = false
 | [],r,y,h=>by simp at h
 | x :: l,r,y,h=>by
  rw [List.dropWhile_cons] at h
  split at h
  ·exact ySU h
  ·rename_i hx
   cases h
   simpa using hx
theorem yUa {R : List Int} {i : Nat} {P l1 l2 : List Nat} (hP : P.Pairwise (better R)) (e : l1 ++ l2 = P) (h2 : ∀ x ∈ l2,vAt R x < vAt R i) (h1 : ∀ l y,l1 = l ++ [y] → vAt R i ≤ vAt R y) : yUg R i P = l1 ++ i :: l2:=by
 subst e
 have hall : ∀ x ∈ l1,ySH R i x = true:=by
  rcases List.eq_nil_or_concat l1 with e | ⟨l,y,e⟩
  ·subst e; simp
  ·have hy:=h1 l y (by simpa using e)
   subst e
   intro x hx
   simp only [ySH,decide_eq_true_eq]
   rw [List.concat_eq_append] at hx hP
   rcases List.mem_append.1 hx with hx | hx
   ·have:=(List.pairwise_append.1 (List.pairwise_append.1 hP).1).2.2 x hx y (by simp)
    unfold better at this; omega
   ·rw [List.mem_singleton] at hx; subst hx; exact hy
 obtain ⟨e1,e2⟩:=yT3 (p:=ySH R i) hall (fun x hx=>by have:=h2 x hx; simp only [ySH,decide_eq_false_iff_not]; omega)
 unfold yUg
 rw [e1,e2]
structure OrdFacts (R : List Int) (i : Nat) (o : List Nat) : Prop where
 len : o.length = i
 lt : ∀ x ∈ o,x < i
 pw : o.Pairwise (better R)
 all : ∀ x,x < i → x ∈ o
theorem ySo (R : List Int) : ∀ i : Nat,OrdFacts R i (ySh R i)
 | 0=>⟨rfl,by simp [ySh],by simp [ySh],fun x h=>by omega⟩
 | i + 1=>by
  have f:=ySo R i
  show OrdFacts R (i + 1) (yUg R i (ySh R i))
  generalize ySh R i = P at f
  have e:=List.takeWhile_append_dropWhile (p:=ySH R i) (l:=P)
  have h1 : ∀ x ∈ P.takeWhile (ySH R i),vAt R i ≤ vAt R x:=fun x hx=>by
   have : ySH R i x = true:=by
    have:=List.all_takeWhile (p:=ySH R i) (l:=P)
    exact List.all_eq_true.1 this x hx
   simpa [ySH] using this
  have h2 : ∀ x ∈ P.dropWhile (ySH R i),vAt R x < vAt R i:=by
   intro x hx
   have hpw : (P.dropWhile (ySH R i)).Pairwise (better R):=by have:=f.pw; rw [← e] at this; exact (List.pairwise_append.1 this).2.1
   have hh : ∀ y l,P.dropWhile (ySH R i) = y :: l → vAt R y < vAt R i:=by
    intro y l hy
    have:=ySU hy
    simpa [ySH] using this
   cases hd : P.dropWhile (ySH R i) with
   | nil=>rw [hd] at hx; cases hx
   | cons y l =>
    have hy:=hh y l hd
    rw [hd] at hx hpw
    rcases List.mem_cons.1 hx with e | e
    ·subst e; exact hy
    ·have:=(List.pairwise_cons.1 hpw).1 x e
     unfold better at this; omega
  have hlen : (P.takeWhile (ySH R i)).length + (P.dropWhile (ySH R i)).length = i:=by rw [← List.length_append,e,f.len]
  have hmem : ∀ x,x ∈ P ↔ x ∈ P.takeWhile (ySH R i) ∨ x ∈ P.dropWhile (ySH R i):=fun x=>by rw [← List.mem_append,e]
  refine ⟨by simp only [yUg,List.length_append,List.length_cons]; omega,fun x hx=>?_,?_,fun x hx=>?_⟩
  ·rcases List.mem_append.1 hx with hx | hx
   ·have:=f.lt x ((hmem x).2 (.inl hx)); omega
   ·rcases List.mem_cons.1 hx with hx | hx
    ·omega
    ·have:=f.lt x ((hmem x).2 (.inr hx)); omega
  ·have hpw:=f.pw
   rw [← e] at hpw
   obtain ⟨p1,p2,p3⟩:=List.pairwise_append.1 hpw
   refine List.pairwise_append.2 ⟨p1,List.pairwise_cons.2 ⟨fun y hy=>.inl (h2 y hy),p2⟩,fun x hx y hy=>?_⟩
   rcases List.mem_cons.1 hy with hy | hy
   ·subst hy
    have a1:=h1 x hx
    have a2:=f.lt x ((hmem x).2 (.inl hx))
    unfold better; omega
   ·exact p3 x hx y hy
  ·rcases Nat.lt_or_ge x i with h | h
   ·rcases (hmem x).1 (f.all x h) with h | h
    ·exact List.mem_append_left _ h
    ·exact List.mem_append_right _ (List.mem_cons_of_mem _ h)
   ·have : x = i:=by omega
    subst this
    exact List.mem_append_right _ (List.mem_cons_self ..)
def ySt (out : List Int) (o : List Nat) (j : Nat) : List Int:=(o.take j).foldl (fun s x=>s.set x (vAt s x + 1)) out
def ySj (R : List Int) (o : List Nat) (j : Nat) : List Int:=(o.take j).foldl (fun s x=>s.set x (-1)) R
theorem yTL {out : List Int} {o : List Nat} : ySt out o 0 = out:=rfl
theorem yTk {out : List Int} {o : List Nat} : ySj out o 0 = out:=rfl
theorem yS0 {out : List Int} {o : List Nat} {j x : Nat} (h : o[j]? = some x) : ySt out o (j + 1) = (ySt out o j).set x (vAt (ySt out o j) x + 1):=by
 unfold ySt; rw [List.take_succ,h,List.foldl_append]; rfl
theorem ySY {out : List Int} {o : List Nat} {j x : Nat} (h : o[j]? = some x) : ySj out o (j + 1) = (ySj out o j).set x (-1):=by
 unfold ySj; rw [List.take_succ,h,List.foldl_append]; rfl
theorem yTa {out : List Int} {o : List Nat} : ∀ j : Nat,(ySt out o j).length = out.length
 | 0=>rfl
 | j + 1=>by
  cases h : o[j]? with
  | none =>
   have hl : o.length ≤ j:=by simpa using h
   have e : ySt out o (j + 1) = ySt out o j:=by unfold ySt; rw [List.take_of_length_le (by omega),List.take_of_length_le hl]
   rw [e,yTa j]
  | some x=>rw [yS0 h,List.length_set,yTa j]
theorem ySs {out : List Int} {o : List Nat} : ∀ j : Nat,(ySj out o j).length = out.length
 | 0=>rfl
 | j + 1=>by
  cases h : o[j]? with
  | none =>
   have hl : o.length ≤ j:=by simpa using h
   have e : ySj out o (j + 1) = ySj out o j:=by unfold ySj; rw [List.take_of_length_le (by omega),List.take_of_length_le hl]
   rw [e,ySs j]
  | some x=>rw [ySY h,List.length_set,ySs j]
theorem yUp {l : List Int} {i j : Nat} {v : Int} (h : i < l.length) : vAt (l.set i v) j = if i = j then v else vAt l j:=by
 unfold vAt
 rw [List.getElem?_set]
 by_cases e : i = j
 ·simp [e,e ▸ h]
 ·simp [e]
theorem yTg {R : List Int} {o : List Nat} (ho : ∀ x ∈ o,x < R.length) : ∀ (j y : Nat),vAt (ySj R o j) y = if y ∈ o.take j then -1 else vAt R y
 | 0,y=>by simp [yTk]
 | j + 1,y=>by
  cases h : o[j]? with
  | none =>
   have hl : o.length ≤ j:=by simpa using h
   have e : ySj R o (j + 1) = ySj R o j:=by unfold ySj; rw [List.take_of_length_le (by omega),List.take_of_length_le hl]
   rw [e,yTg ho j y,List.take_of_length_le hl,List.take_of_length_le (by omega)]
  | some x =>
   rw [ySY h,yUp (by rw [ySs]; exact ho x (List.mem_of_getElem? h)),yTg ho j y,List.take_succ,h]
   by_cases e : x = y
   ·simp [e]
   ·have : y ≠ x:=fun h=>e h.symm
    simp [e,this]
theorem yUn {R : List Int} (hR : ∀ x,0 ≤ vAt R x) {j a : Nat} (h : (ySh R R.length)[j]? = some a) : yR4 (ySj R (ySh R R.length) j) (ySj R (ySh R R.length) j).length = a:=by
 have f:=ySo R R.length
 generalize ySh R R.length = o at *
 have hj:=(List.getElem?_eq_some_iff.1 h).1
 have ha:=f.lt a (List.mem_of_getElem? h)
 have irr : ∀ x,¬ better R x x:=fun x h=>by unfold better at h; omega
 have hsplit : o = o.take j ++ a :: o.drop (j + 1):=by
  rw [← (List.getElem?_eq_some_iff.1 h).2,List.getElem_cons_drop,List.take_append_drop]
 have hpw:=f.pw
 rw [hsplit] at hpw
 obtain ⟨p1,p2,p3⟩:=List.pairwise_append.1 hpw
 have hnot : a ∉ o.take j:=fun hm=>irr a (p3 a hm a (by simp))
 have hat:=yTg (R:=R) f.lt j
 have hva : vAt (ySj R o j) a = vAt R a:=by rw [hat,if_neg hnot]
 have key : ∀ x,x < R.length → x ∉ o.take j → x = a ∨ better R a x:=by
  intro x hx hn
  have:=f.all x hx
  rw [hsplit] at this
  rcases List.mem_append.1 this with h1 | h1
  ·exact absurd h1 hn
  ·rcases List.mem_cons.1 h1 with h1 | h1
   ·exact .inl h1
   ·exact .inr ((List.pairwise_cons.1 p2).1 x h1)
 rw [ySs]
 refine yUc ha (fun x hx=>?_) (fun x hx=>?_) (by rw [ySs]; exact Nat.le_refl _)
 ·rw [hva,hat]
  split
  ·have:=hR a; omega
  ·rename_i hn
   rcases key x hx hn with e | e
   ·subst e; exact Int.le_refl _
   ·unfold better at e; omega
 ·rw [hva,hat]
  split
  ·have:=hR a; omega
  ·rename_i hn
   rcases key x (by omega) hn with e | e
   ·omega
   ·unfold better at e; omega
def ySX : Nat → List Int → List Int → List Int
 | 0,out,_=>out
 | n + 1,out,rest=>ySX n (out.set (yR4 rest rest.length) (vAt out (yR4 rest rest.length) + 1)) (rest.set (yR4 rest rest.length) (-1))
theorem yTN {R Q : List Int} (hR : ∀ x,0 ≤ vAt R x) : ∀ (m j : Nat),j + m ≤ R.length → ySX m (ySt Q (ySh R R.length) j) (ySj R (ySh R R.length) j) = ySt Q (ySh R R.length) (j + m)
 | 0,j,_=>rfl
 | m + 1,j,h=>by
  have hj : j < (ySh R R.length).length:=by rw [(ySo R R.length).len]; omega
  obtain ⟨a,ha⟩ : ∃ a,(ySh R R.length)[j]? = some a:=⟨_,List.getElem?_eq_getElem hj⟩
  have hp:=yUn hR ha
  unfold ySX
  rw [hp,← yS0 ha,← ySY ha,yTN hR m (j + 1) (by omega)]
  congr 1; omega
def quota (t s w : Int) : Int:=(t * w).tdiv s
def ySp (t s w : Int) : Int:=(t * w).tmod s
def yR8 (t : Int) (ws : List Int) : Bool:=inRange t 0 1000000000 && decide (1 ≤ ws.length) && decide (ws.length ≤ 12) && ws.all (fun w=>inRange w 0 1000000) && decide (ws.sum ≠ 0)
def ySb (t : Int) (ws : List Int) : Int:=t - (ws.map (quota t ws.sum)).sum
def yR3 (t : Int) (ws : List Int) : List Int:=if yR8 t ws then ySX (ySb t ws).toNat (ws.map (quota t ws.sum)) (ws.map (ySp t ws.sum)) else []
structure ShareFacts (t : Int) (ws : List Int) : Prop where
 tot : 0 ≤ t ∧ t ≤ 1000000000
 len : 1 ≤ ws.length ∧ ws.length ≤ 12
 rng : ∀ w ∈ ws,0 ≤ w ∧ w ≤ 1000000
 sum : 1 ≤ ws.sum ∧ ws.sum ≤ 12000000
theorem sum_bnd {l : List Int} {m : Int} (h : ∀ x ∈ l,0 ≤ x ∧ x ≤ m) : 0 ≤ l.sum ∧ l.sum ≤ m * l.length:=by
 induction l with
 | nil=>simp
 | cons a l ih =>
  have h1:=ih fun x hx=>h x (by simp [hx])
  have h2:=h a (by simp)
  simp only [List.sum_cons,List.length_cons,Int.natCast_add,Int.natCast_one,Int.mul_add,Int.mul_one]
  omega
end Go.Proofs.YtpkpdbohalbbaaaGreat
