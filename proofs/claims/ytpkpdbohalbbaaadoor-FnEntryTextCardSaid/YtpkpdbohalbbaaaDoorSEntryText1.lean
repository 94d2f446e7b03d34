/- What the law FnEntryText stands on: contracts of functions, what each answers as plain Lean, in short form (names, layout). -/
import Derived.Test.YtpkpdbohalbbaaaDoorSEntryTextA3
import Derived.Test.YtpkpdbohalbbaaaDoorProg
import Derived.KernelRfl
import Derived.Test.YtpkpdbohalbbaaaDoorSEntryTextA4
import Derived.Shelf.Strings.OnBuilder
import Derived.Shelf.LaysM
import Derived.Shelf.Strconv.Itoa3
import Derived.Test.YtpkpdbohalbbaaaDoorSEntryTextA8
import Derived.WalkSmall
import Derived.Lib.ItoaMem
import Derived.Lib.Join
import Derived.Test.YtpkpdbohalbbaaaDoorSEntryTextA11
import Derived.Test.YtpkpdbohalbbaaaDoorSEntryTextA5
import Derived.Test.YtpkpdbohalbbaaaDoorSEntryTextA6
import Derived.Test.YtpkpdbohalbbaaaDoorSEntryTextA9
import Derived.Test.YtpkpdbohalbbaaaDoorTie
import Derived.Test.YtpkpdbohalbbaaaDoorCards
import Derived.Lib.LaidTab
import Derived.Stop.LaidErr
set_option linter.all false
namespace Go.Proofs.YtpkpdbohalbbaaaDoor
open Go.RowKit
open Go.ChangeShapes Go.WideShapes
abbrev kI (n : Int) : X:=.k (.c (.i n))
abbrev kB (b : Bool) : X:=.k (.c (.b b))
abbrev iv (d n : Nat) : Ins:=⟨none,some d,.mv (.t n)⟩
abbrev ia (d : Nat) (o : IOp) : Ins:=⟨none,some d,o⟩
abbrev ig (t : Nat) (b : Bool) (d : Nat) (o : IOp) : Ins:=⟨some (t,b),some d,o⟩
abbrev ie (o : IOp) : Ins:=⟨none,none,o⟩
abbrev fA (d k a : Nat) : Ins:=ia d (.fld k (.t a))
abbrev lA (d a : Nat) : Ins:=ia d (.ld1 (.t a))
abbrev dA (d k a : Nat) : Ins:=ia d (.ldn k (.t a))
abbrev xA (d k a b : Nat) : Ins:=ia d (.idx k (.t a) (.t b))
abbrev mA (d : Nat) (n : Int) : Ins:=ia d (.mv (kI n))
abbrev bA (d : Nat) (b : Bool) : Ins:=ia d (.mv (kB b))
abbrev nA (d a : Nat) : Ins:=ia d (.len (.t a))
abbrev pA (d a : Nat) (n : Int) : Ins:=ia d (.bin .add (.t a) (kI n))
abbrev tA (d a b : Nat) : Ins:=ia d (.bin .lss (.t a) (.t b))
abbrev oA (d : Nat) (o : BinOp) (a b : Nat) : Ins:=ia d (.bin o (.t a) (.t b))
abbrev oI (d : Nat) (o : BinOp) (a : Nat) (n : Int) : Ins:=ia d (.bin o (.t a) (kI n))
abbrev nN (d a : Nat) : Ins:=ia d (.not (.t a))
abbrev c1 (d f a : Nat) : Ins:=ia d (.call f [.t a])
abbrev c2 (d f a b : Nat) : Ins:=ia d (.call f [.t a,.t b])
abbrev c3 (d f a b c : Nat) : Ins:=ia d (.call f [.t a,.t b,.t c])
abbrev bZ (d k : Nat) : Ins:=ia d (.bsl k [])
abbrev bS (d k a : Nat) : Ins:=ia d (.bsl k [.t a])
abbrev aP (d k b x y : Nat) : Ins:=ia d (.app k b (.t x) (.t y))
abbrev pT (d a b : Nat) : Ins:=ia d (.pick (.t a) (kB true) (.t b))
abbrev pF (d a b : Nat) : Ins:=ia d (.pick (.t a) (.t b) (kB false))
abbrev eX (d i a : Nat) : Ins:=ia d (.ext i (.t a))
abbrev bX (d n a : Nat) : Ins:=ia d (.box n (.t a))
abbrev mN (d k : Nat) : Ins:=ia d (.mv (.k (.nil k)))
abbrev tS (a b : Nat) : Ins:=ie (.st1 (.t a) (.t b))
abbrev tN (n a b : Nat) : Ins:=ie (.stn n (.t a) (.t b))
abbrev gA (c : Nat) (b : Bool) (d k a : Nat) : Ins:=ig c b d (.fld k (.t a))
abbrev hA (c : Nat) (b : Bool) (d a : Nat) : Ins:=ig c b d (.ld1 (.t a))
abbrev g8 (c : Nat) (b : Bool) (d a : Nat) : Ins:=ig c b d (.mv (.t a))
abbrev g9 (c : Nat) (b : Bool) (d a : Nat) : Ins:=ig c b d (.not (.t a))
abbrev q0 (i : Ins) : RIns:=⟨0,false,[],i⟩
abbrev q1 (i : Ins) : RIns:=⟨1,false,[],i⟩
abbrev q2 (i : Ins) : RIns:=⟨2,false,[],i⟩
abbrev q3 (i : Ins) : RIns:=⟨0,true,[],i⟩
abbrev q4 (k : Nat) (n : Bool) (c : List Nat) (i : Ins) : RIns:=⟨k,n,c,i⟩
abbrev rR (l : List Ins) : SC:=.seq (.reg l) .ret
abbrev rS (l : List Ins) (c : SC) : SC:=.seq (.reg l) c
abbrev rQ (l : List Ins) (c : SC) : SC:=.seq (.regq l) c
abbrev rE (l : List RIns) (c : SC) : SC:=.seq (.rege l) c
abbrev cX (t n : Nat) : SC:=.cond (.t t) .skip (.exit n)
abbrev cI (t : Nat) (c : SC) : SC:=.cond (.t t) c .skip
abbrev cT (t : Nat) (a b : SC) : SC:=.cond (.t t) a b
abbrev iS (l : List Ins) (t : Nat) (c d : SC) : SC:=.seq (.seq (.reg l) (.cond (.t t) c .skip)) d
abbrev xS (l : List Ins) (t n : Nat) (d : SC) : SC:=.seq (.seq (.reg l) (.cond (.t t) .skip (.exit n))) d
abbrev bL (n : Nat) (c : SC) : SC:=.block n (.loop c)
theorem yA {P : Program} {f N : Nat} {c : SC} {rs : List RS} {fn : Func} (fl : Option (List Nat)) (hf : P.funcs[f]? = some fn) (h : (fn.ntmps,fn.body.bind (ygf fl P N),yep P fn.results.toList,decide (N ≤ ycZ)) = (N,some c,some rs,true)) : Has P f N c rs:=by
 simp only [Prod.mk.injEq,decide_eq_true_eq] at h
 obtain ⟨h1,h2,h3,h4⟩:=h
 cases hb : fn.body with
 | none=>rw [hb] at h2; cases h2
 | some code=>rw [hb] at h2; exact ⟨h4,fn,code,hf,hb,h1,⟨fl,h2⟩,h3⟩
section
variable {P : Program} {f N d : Nat} {c : SC} {rs : List RS} {avs args : List AV} {res : AV} {s : St} {K : St → Prop} {k : AV → Prop} {ob : Nat → Obj} {dd : Option Nat} {kN : St → Prop} {T : Tag (k,kN)} {T1 : Tag k}
theorem yh (hf : Has P f N c rs) (H : wpS P N c (yh2 args) (fun e s=>match e with | .exit _=>False | _=>yml s rs res)) (hN : args.length ≤ N:=by simp) : yB P f args res:=ywS hf hN fun _=>H
theorem yJu (hf : Has P f N c rs) (H : ygO args → wpS P N c (yh2 args) (fun e s=>match e with | .exit _=>False | _=>yml s rs res)) (hN : args.length ≤ N:=by simp) : yB P f args res:=ywS hf hN H
theorem yan (hf : Has P f N c rs) (H : wpS P N c (yh2 args) (fun e s=>match e with | .exit _=>False | _=>yiF s rs res)) (hN : args.length ≤ N:=by simp) : ybh P f args res:=yv3 hf hN fun _=>H
theorem yc (hp : yB P f args res) (hK : K (s.put dd res)) (ho : ybD s avs args:=by simp) (hs : res.scalar = true:=by rfl) : yfo P f avs dd s K:=yaQ hp ho hs hK
theorem yS (hp : yB P f args res) (hK : K (s.put dd res)) (ho : ybD s avs args:=by simp) (hs : avs.all AV.ycJ = true:=by rfl) : yfo P f avs dd s K:=yaP hp ho hs hK
theorem yaC (hp : yB P f args res) (hK : k res) (ho : ybD (ycF ob) avs args:=by simp) (hs : res.scalar = true:=by rfl) : ysj P f avs ob k T1:=⟨_,_,hp,ho,.inr hs,hK⟩
theorem yyA (hp : yB P f args res) (hK : k res) (ho : ybD (ycF ob) avs args:=by simp) (hs : avs.all AV.ycJ = true:=by rfl) : ysj P f avs ob k T1:=⟨_,_,hp,ho,.inl hs,hK⟩
theorem yb1 (hp : yB P f args res) (hK : k res) (ho : ybD s avs args:=by simp) (hs : res.scalar = true:=by rfl) : ylY P f avs dd s k kN T:=ya2 hp ho (.inr hs) hK
theorem yY (hp : yB P f args res) (hK : k res) (ho : ybD s avs args:=by simp) (hs : avs.all AV.ycJ = true:=by rfl) : ylY P f avs dd s k kN T:=ya2 hp ho (.inl hs) hK
end
attribute [simp] AV.ygy AV.ymf Obj.ygy
theorem yX4 : Has Tryd.prog 8 33 (rS [bX 1 5 0,ia 2 (.mv (.k (.c (.s ⟨#[]⟩))))] (iS [dA 6 5 1,c1 7 17 6,nN 8 7] 8 (rR [ia 2 (.mv (.k (.c (.s ⟨#[]⟩))))]) (rS [mN 3 1] (.seq (rS [fA 9 0 1,lA 10 9,fA 11 1 1,lA 12 11,fA 13 2 1,lA 14 13,fA 15 3 1,lA 16 15,fA 17 4 1,lA 18 17,ia 19 (.bsl 1 [.t 10,.t 12,.t 14,.t 16,.t 18]),nA 20 19,mA 21 0] (bL 0 (rS [tA 22 21 20] (.seq (cX 22 0) (.seq (.block 1 (rS [xA 23 1 19 21,lA 24 23,iv 5 24] (.reg [iv 25 3,iv 26 5,c1 27 18 26,bS 28 1 27,aP 29 1 16 25 28,iv 3 29]))) (.reg [pA 30 21 1,iv 21 30])))))) (rR [iv 31 3,ia 32 (.call 19 [.t 31,.k (.c (.s ⟨#[32]⟩))]),iv 2 32]))))) [.t 2]:=yA none Tryd.func8 (by kernel_rfl)
theorem ypP : Has Tryd.prog 17 33 (rS [bX 1 5 0,bA 2 false] (rR [fA 3 0 1,lA 4 3,fA 5 1 1,lA 6 5,oA 7 .neq 4 6,iv 8 7,gA 8 true 9 0 1,hA 8 true 10 9,ig 8 true 11 (.call 28 [.t 10,kI 0,kI 11]),pF 12 8 11,iv 13 12,gA 13 true 14 1 1,hA 13 true 15 14,ig 13 true 16 (.call 28 [.t 15,kI 0,kI 11]),pF 17 13 16,iv 18 17,gA 18 true 19 2 1,hA 18 true 20 19,ig 18 true 21 (.call 28 [.t 20,kI 1,kI 1000000000]),pF 22 18 21,iv 23 22,gA 23 true 24 3 1,hA 23 true 25 24,ig 23 true 26 (.call 28 [.t 25,kI 0,kI 1000000]),pF 27 23 26,iv 28 27,gA 28 true 29 4 1,hA 28 true 30 29,ig 28 true 31 (.call 28 [.t 30,kI 0,kI 9999]),pF 32 28 31,iv 2 32])) [.t 2]:=yA none Tryd.func17 (by kernel_rfl)
theorem yX5 : Has Tryd.prog 18 5 (rS [ia 2 (.mv (.k (.c (.s ⟨#[]⟩))))] (rR [iv 3 0,c1 4 29 3,iv 2 4])) [.t 2]:=yA none Tryd.func18 (by kernel_rfl)
def yi1 : SC:=rS [bA 6 false] (rR [iv 7 0,iv 8 1,oA 9 .geq 7 8,iv 10 9,g8 10 true 11 0,g8 10 true 12 2,ig 10 true 13 (.bin .leq (.t 11) (.t 12)),pF 14 10 13,iv 6 14])
theorem yot : Has Tryd.prog 28 15 yi1 [.t 6]:=yA none Tryd.func28 (by kernel_rfl)
def yWz : SC:=rS [ia 2 (.alloc [.c (.i 0),.c (.i 0),.c (.i 0),.c (.i 0),.c (.i 0)]),bA 3 false] (rS [iv 11 0,ia 12 (.call 22 [.t 11,.k (.c (.s ⟨#[32]⟩))]),iv 4 12] (iS [iv 13 4,nA 14 13,oI 15 .neq 14 5] 15 (rR [ia 16 (.bld [.c (.i 0),.c (.i 0),.c (.i 0),.c (.i 0),.c (.i 0)] []),tN 5 2 16,bA 3 false]) (rS [ia 5 (.alloca 1 5 [.i 0])] (.seq (rS [iv 17 4,nA 18 17,mA 19 0] (bL 0 (rS [tA 20 19 18] (.seq (cX 20 0) (.seq (.block 1 (rS [iv 21 19,xA 22 1 17 19,lA 23 22,iv 6 21,iv 7 23] (rS [iv 25 7,c1 26 23 25,iv 24 26,eX 27 0 24,eX 28 1 24,iv 8 27,iv 9 28] (iS [iv 29 9,nN 30 29] 30 (rR [ia 31 (.bld [.c (.i 0),.c (.i 0),.c (.i 0),.c (.i 0),.c (.i 0)] []),tN 5 2 31,bA 3 false]) (.reg [iv 32 6,iv 33 8,ia 34 (.ida 1 5 (.t 5) (.t 32)),tS 34 33]))))) (.reg [pA 35 19 1,iv 19 35])))))) (rS [ia 36 (.ida 1 5 (.t 5) (kI 0)),lA 37 36,ia 38 (.ida 1 5 (.t 5) (kI 1)),lA 39 38,ia 40 (.ida 1 5 (.t 5) (kI 2)),lA 41 40,ia 42 (.ida 1 5 (.t 5) (kI 3)),lA 43 42,ia 44 (.ida 1 5 (.t 5) (kI 4)),lA 45 44,ia 46 (.bld [.c (.i 0),.c (.i 0),.c (.i 0),.c (.i 0),.c (.i 0)] [(0,1,.t 37),(1,1,.t 39),(2,1,.t 41),(3,1,.t 43),(4,1,.t 45)]),ia 10 (.alloc [.c (.i 0),.c (.i 0),.c (.i 0),.c (.i 0),.c (.i 0)]),tN 5 10 46] (iS [dA 47 5 10,c1 48 17 47,nN 49 48] 49 (rR [ia 50 (.bld [.c (.i 0),.c (.i 0),.c (.i 0),.c (.i 0),.c (.i 0)] []),tN 5 2 50,bA 3 false]) (rR [dA 51 5 10,tN 5 2 51,bA 3 true])))))))
theorem yWO : Has Tryd.prog 10 52 yWz [.cl 2 5,.t 3]:=yA none Tryd.func10 (by kernel_rfl)
theorem yWX : Has Tryd.prog 22 8 (rS [mN 4 1] (rR [iv 5 0,iv 6 1,ia 7 (.call 33 [.t 5,.t 6,kI 0,kI (-1)]),iv 4 7])) [.t 4]:=yA none Tryd.func22 (by kernel_rfl)
def yWm : SC:=rS [mA 2 0,bA 3 false] (iS [iv 6 0,ia 7 (.slen (.t 6)),oI 8 .eql 7 0,iv 9 8,g8 9 false 10 0,ig 9 false 11 (.slen (.t 10)),ig 9 false 12 (.bin .gtr (.t 11) (kI 10)),pT 13 9 12,iv 14 13,g8 14 false 15 0,ig 14 false 16 (.ixs (.t 15) (kI 0)),ig 14 false 17 (.binu .eql (.t 16) (.k (.c (.u 48)))),g8 14 false 18 17,g8 18 true 19 0,ig 18 true 20 (.slen (.t 19)),ig 18 true 21 (.bin .gtr (.t 20) (kI 1)),ig 14 false 22 (.pick (.t 18) (.t 21) (kB false)),pT 23 14 22] 23 (rR [mA 2 0,bA 3 false]) (rS [mA 4 0] (.seq (rS [mA 5 0] (bL 0 (xS [iv 24 5,iv 25 0,ia 26 (.slen (.t 25)),tA 27 24 26] 27 0 (.seq (.block 1 (iS [iv 30 0,iv 31 5,ia 32 (.ixs (.t 30) (.t 31)),ia 33 (.binu .lss (.t 32) (.k (.c (.u 48)))),iv 34 33,g8 34 false 35 0,g8 34 false 36 5,ig 34 false 37 (.ixs (.t 35) (.t 36)),ig 34 false 38 (.binu .gtr (.t 37) (.k (.c (.u 57)))),pT 39 34 38] 39 (rR [mA 2 0,bA 3 false]) (.reg [iv 40 4,ia 41 (.bin .mul (kI 10) (.t 40)),iv 42 0,iv 43 5,ia 44 (.ixs (.t 42) (.t 43)),ia 45 (.binu .sub (.t 44) (.k (.c (.u 48)))),ia 46 (.cvt 0 (.t 45)),oA 47 .add 41 46,iv 4 47]))) (.reg [iv 28 5,pA 29 28 1,iv 5 29]))))) (iS [iv 48 4,oI 49 .gtr 48 1000000000] 49 (rR [mA 2 0,bA 3 false]) (rR [iv 50 4,iv 2 50,bA 3 true])))))
theorem yWU : Has Tryd.prog 23 51 yWm [.t 2,.t 3]:=yA none Tryd.func23 (by kernel_rfl)
def yWx : SC:=rS [mN 8 1] (iS [iv 12 3,oI 13 .eql 12 0] 13 (rR [mN 8 1]) (iS [iv 14 1,ia 15 (.seq false (.t 14) (.k (.c (.s ⟨#[]⟩))))] 15 (rR [iv 16 0,iv 17 3,c2 18 40 16 17,iv 8 18]) (iS [iv 19 3,oI 20 .lss 19 0] 20 (.reg [iv 21 0,iv 22 1,c2 23 41 21 22,pA 24 23 1,iv 3 24]) (rS [iv 25 3,iv 26 0,ia 27 (.slen (.t 26)),pA 28 27 1,ia 29 (.mn [.t 25,.t 28]),iv 3 29] (rS [iv 30 3,ia 31 (.mks 1 16 [.s ⟨#[]⟩] (.t 30) (.t 30)),iv 9 31] (rS [iv 32 3,oI 33 .sub 32 1,iv 3 33] (rS [mA 10 0] (.seq (bL 0 (xS [iv 34 10,iv 35 3,tA 36 34 35] 36 0 (.block 1 (rS [iv 37 0,iv 38 1,c2 39 42 37 38,iv 11 39] (iS [iv 40 11,oI 41 .lss 40 0] 41 (.exit 0) (rS [iv 42 9,iv 43 10,iv 44 0,iv 45 11,iv 46 2,oA 47 .add 45 46,ia 48 (.sls (.t 44) none (some (.t 47))),xA 49 1 42 43,tS 49 48] (rS [iv 50 0,iv 51 11,iv 52 1,ia 53 (.slen (.t 52)),oA 54 .add 51 53,ia 55 (.sls (.t 50) (some (.t 54)) none),iv 0 55] (.reg [iv 56 10,pA 57 56 1,iv 10 57])))))))) (rS [iv 58 9,iv 59 10,iv 60 0,xA 61 1 58 59,tS 61 60] (rR [iv 62 9,iv 63 10,pA 64 63 1,ia 65 (.slc 1 (.t 62) none (some (.t 64)) none),iv 8 65]))))))))))
theorem yWK : Has Tryd.prog 33 66 yWx [.t 8]:=yA none Tryd.func33 (by kernel_rfl)
def yWE : SC:=rS [mA 4 0] (iS [iv 7 1,ia 8 (.slen (.t 7)),oI 9 .eql 8 0] 9 (rR [iv 10 0,c1 11 47 10,pA 12 11 1,iv 4 12]) (iS [iv 13 1,ia 14 (.slen (.t 13)),oI 15 .eql 14 1] 15 (rR [iv 16 0,iv 17 1,ia 18 (.ixs (.t 17) (kI 0)),ia 19 (.exb 0 (.t 16) (.t 18)),iv 4 19]) (rS [mA 5 0] (bL 0 (.block 1 (rS [iv 20 0,iv 21 1,c2 22 42 20 21,iv 6 22] (iS [iv 23 6,oI 24 .eql 23 (-1)] 24 (rR [iv 25 5,iv 4 25]) (rS [iv 26 5,pA 27 26 1,iv 5 27] (.reg [iv 28 0,iv 29 6,iv 30 1,ia 31 (.slen (.t 30)),oA 32 .add 29 31,ia 33 (.sls (.t 28) (some (.t 32)) none),iv 0 33])))))))))
theorem yW1 : Has Tryd.prog 41 34 yWE [.t 4]:=yA none Tryd.func41 (by kernel_rfl)
theorem yWY : Has Tryd.prog 42 8 (rS [mA 4 0] (rR [iv 5 0,iv 6 1,c2 7 50 5 6,iv 4 7])) [.t 4]:=yA none Tryd.func42 (by kernel_rfl)
def yWj : SC:=rS [mA 4 0] (rS [iv 14 1,ia 15 (.slen (.t 14)),iv 5 15] (.seq (.block 0 (rS [iv 17 5,oI 18 .eql 17 0,iv 19 18,g8 19 false 20 1,g8 19 false 21 0,ig 19 false 22 (.seq false (.t 20) (.t 21)),pT 23 19 22,iv 16 23] (cT 16 (rR [mA 4 0]) (rS [iv 25 5,oI 26 .eql 25 1,iv 24 26] (cT 24 (rR [iv 27 0,iv 28 1,ia 29 (.ixs (.t 28) (kI 0)),c2 30 56 27 29,iv 4 30]) (rS [iv 32 5,iv 33 0,ia 34 (.slen (.t 33)),oA 35 .geq 32 34,iv 31 35] (cT 31 (rR [mA 4 (-1)]) (rS [iv 37 5,ia 38 .bad,oA 39 .leq 37 38,iv 40 39,g8 40 true 41 0,ig 40 true 42 (.slen (.t 41)),ig 40 true 43 (.bin .leq (.t 42) (kI 64)),pF 44 40 43,iv 36 44] (cI 36 (rR [iv 45 0,iv 46 1,ia 47 .bad,iv 4 47])))))))))) (rS [iv 48 1,ia 49 (.ixs (.t 48) (kI 0)),iv 6 49] (rS [iv 50 1,ia 51 (.ixs (.t 50) (kI 1)),iv 7 51] (rS [mA 8 0] (rS [iv 52 0,ia 53 (.slen (.t 52)),iv 54 5,oA 55 .sub 53 54,pA 56 55 1,iv 9 56] (rS [mA 10 0] (.seq (bL 1 (xS [iv 57 8,iv 58 9,tA 59 57 58] 59 1 (.block 2 (iS [iv 60 0,iv 61 8,ia 62 (.ixs (.t 60) (.t 61)),iv 63 6,ia 64 (.binu .neq (.t 62) (.t 63))] 64 (rS [iv 65 0,iv 66 8,pA 67 66 1,iv 68 9,ia 69 (.sls (.t 65) (some (.t 67)) (some (.t 68))),iv 70 6,c2 71 56 69 70,iv 11 71] (iS [iv 72 11,oI 73 .lss 72 0] 73 (rR [mA 4 (-1)]) (.reg [iv 74 8,iv 75 11,pA 76 75 1,oA 77 .add 74 76,iv 8 77]))) (iS [iv 78 0,iv 79 8,pA 80 79 1,ia 81 (.ixs (.t 78) (.t 80)),iv 82 7,ia 83 (.binu .eql (.t 81) (.t 82)),iv 84 83,g8 84 true 85 0,g8 84 true 86 8,g8 84 true 87 8,g8 84 true 88 5,ig 84 true 89 (.bin .add (.t 87) (.t 88)),ig 84 true 90 (.sls (.t 85) (some (.t 86)) (some (.t 89))),g8 84 true 91 1,ig 84 true 92 (.seq false (.t 90) (.t 91)),pF 93 84 92] 93 (rR [iv 94 8,iv 4 94]) (rS [iv 95 8,pA 96 95 1,iv 8 96] (rS [iv 97 10,pA 98 97 1,iv 10 98] (rS [iv 99 5,ia 100 .bad,oA 101 .leq 99 100,iv 102 101,g8 102 true 103 10,g8 102 true 104 8,ig 102 true 105 (.call 58 [.t 104]),ig 102 true 106 (.bin .gtr (.t 103) (.t 105)),pF 107 102 106] (cT 107 (rS [iv 108 0,iv 109 8,ia 110 (.sls (.t 108) (some (.t 109)) none),iv 111 1,ia 112 .bad,iv 12 112] (iS [iv 113 12,oI 114 .geq 113 0] 114 (rR [iv 115 12,iv 116 8,oA 117 .add 115 116,iv 4 117]) (rR [mA 4 (-1)]))) (rS [iv 118 5,ia 119 .bad,oA 120 .gtr 118 119,iv 121 120,g8 121 true 122 10,g8 121 true 123 8,ig 121 true 124 (.bit .shr (.t 123) (kI 4)),ig 121 true 125 (.bin .add (kI 4) (.t 124)),ig 121 true 126 (.bin .geq (.t 122) (.t 125)),pF 127 121 126,iv 128 127,g8 128 true 129 8,g8 128 true 130 9,ig 128 true 131 (.bin .lss (.t 129) (.t 130)),pF 132 128 131] (cI 132 (rS [iv 133 0,iv 134 8,ia 135 (.sls (.t 133) (some (.t 134)) none),iv 136 1,c2 137 59 135 136,iv 13 137] (iS [iv 138 13,oI 139 .lss 138 0] 139 (rR [mA 4 (-1)]) (rR [iv 140 8,iv 141 13,oA 142 .add 140 141,iv 4 142])))))))))))))) (rR [mA 4 (-1)])))))))))
theorem yWv : Has Tryd.prog 50 143 yWj [.t 4]:=yA none Tryd.func50 (by kernel_rfl)
def yWk : SC:=rS [mA 4 0] (rR [iv 5 0,iv 6 1,ia 7 (.exb 1 (.t 5) (.t 6)),iv 4 7])
theorem yWp : Has Tryd.prog 56 8 yWk [.t 4]:=yA none Tryd.func56 (by kernel_rfl)
theorem yYL : Has Tryd.prog 5 50 (rS [bA 2 false] (iS [iv 11 0,c1 12 12 11] 12 (rR [bA 2 true]) (rS [iv 13 0,c1 14 13 13,iv 3 14] (rS [bZ 15 5,iv 4 15] (.seq (rS [mA 5 0] (bL 0 (xS [iv 16 5,iv 17 3,nA 18 17,tA 19 16 18] 19 0 (.seq (.block 1 (rS [iv 22 3,iv 23 5,xA 24 5 22 23,dA 25 5 24,c1 26 8 25,iv 6 26] (rS [iv 28 6,c1 29 10 28,iv 27 29,eX 30 0 27,eX 31 1 27,ia 7 (.alloc [.c (.i 0),.c (.i 0),.c (.i 0),.c (.i 0),.c (.i 0)]),tN 5 7 30,iv 8 31] (rS [iv 33 6,ia 34 (.scat (.t 33) (.k (.c (.s ⟨#[32,49]⟩)))),c1 35 10 34,iv 32 35,eX 36 0 32,eX 37 1 32,ia 9 (.alloc [.c (.i 0),.c (.i 0),.c (.i 0),.c (.i 0),.c (.i 0)]),tN 5 9 36,iv 10 37] (iS [iv 38 8,nN 39 38,iv 40 39,g8 40 false 41 10,pT 42 40 41] 42 (rR [bA 2 false]) (.reg [iv 43 4,dA 44 5 7,bS 45 5 44,aP 46 5 40 43 45,iv 4 46])))))) (.reg [iv 20 5,pA 21 20 1,iv 5 21]))))) (rR [iv 47 4,iv 48 3,c2 49 14 47 48,iv 2 49])))))) [.t 2]:=yA none Tryd.func5 (by kernel_rfl)
theorem yZq : Has Tryd.prog 12 6 (rS [bA 2 false] (rR [iv 3 0,nA 4 3,oI 5 .gtr 4 1048576,iv 2 5])) [.t 2]:=yA none Tryd.func12 (by kernel_rfl)
theorem yY1 : Has Tryd.prog 13 6 (rS [mN 2 5] (rR [iv 3 0,c1 4 25 3,c1 5 24 4,iv 2 5])) [.t 2]:=yA none Tryd.func13 (by kernel_rfl)
theorem yYO : Has Tryd.prog 14 26 (rS [bA 4 false] (iS [iv 6 0,nA 7 6,iv 8 1,nA 9 8,oA 10 .neq 7 9] 10 (rR [bA 4 false]) (.seq (rS [mA 5 0] (bL 0 (xS [iv 11 5,iv 12 0,nA 13 12,tA 14 11 13] 14 0 (.seq (.block 1 (rQ [iv 17 0,iv 18 5,xA 19 5 17 18,dA 20 5 19,iv 21 1,iv 22 5,xA 23 5 21 22,dA 24 5 23,ia 25 (.eqn true 5 (.t 20) (.t 24))] (cI 25 (rR [bA 4 false])))) (.reg [iv 15 5,pA 16 15 1,iv 5 16]))))) (rR [bA 4 true])))) [.t 4]:=yA none Tryd.func14 (by kernel_rfl)
theorem yY6 : Has Tryd.prog 24 18 (rS [mN 2 5] (rS [bZ 5 5,iv 3 5] (.seq (rS [iv 6 0,ia 7 (.call 34 [.t 6,kI 9]),iv 4 7] (bL 0 (xS [iv 8 4,oI 9 .gtr 8 0] 9 0 (.seq (.block 1 (.reg [iv 12 3,iv 13 0,c1 14 35 13,bS 15 5 14,aP 16 5 40 12 15,iv 3 16])) (.reg [iv 10 4,oI 11 .sub 10 1,iv 4 11]))))) (rR [iv 17 3,iv 2 17])))) [.t 2]:=yA none Tryd.func24 (by kernel_rfl)
theorem yZe : Has Tryd.prog 25 32 (rS [ia 2 (.mv (.k .any))] (rS [iv 5 0,nA 6 5,ia 7 (.bin .add (kI 33173) (.t 6)),iv 3 7] (.seq (rS [mA 4 0] (bL 0 (xS [iv 8 4,iv 9 0,nA 10 9,tA 11 8 10,iv 12 11,g8 12 true 13 4,ig 12 true 14 (.bin .lss (.t 13) (kI 4000)),pF 15 12 14] 15 0 (.seq (.block 1 (.reg [iv 18 3,oI 19 .mul 18 131,iv 20 0,iv 21 4,xA 22 1 20 21,lA 23 22,ia 24 (.cvt 0 (.t 23)),oA 25 .add 19 24,pA 26 25 7,ia 27 (.bit .and (.t 26) (kI 1073741823)),iv 3 27])) (.reg [iv 16 4,pA 17 16 1,iv 4 17]))))) (rR [iv 28 0,iv 29 3,ia 30 (.bld [.nil 1,.c (.i 0),.c (.i 0)] [(0,1,.t 28),(2,1,.t 29)]),bX 31 3 30,iv 2 31])))) [.t 2]:=yA none Tryd.func25 (by kernel_rfl)
theorem yY0 : Has Tryd.prog 34 37 (rS [mA 4 0] (iS [iv 9 1,oI 10 .leq 9 0] 10 (rR [mA 4 0]) (iS [iv 11 1,oI 12 .leq 11 256] 12 (rR [iv 13 0,c1 14 43 13,iv 15 1,oA 16 .rem 14 15,iv 4 16]) (rS [iv 17 0,c1 18 43 17,iv 5 18] (rS [iv 19 0,c1 20 43 19,iv 6 20] (rS [iv 21 0,c1 22 43 21,iv 7 22] (rS [iv 23 0,c1 24 43 23,iv 8 24] (rR [iv 25 5,oI 26 .mul 25 16777216,iv 27 6,oI 28 .mul 27 65536,oA 29 .add 26 28,iv 30 7,oI 31 .mul 30 256,oA 32 .add 29 31,iv 33 8,oA 34 .add 32 33,iv 35 1,oA 36 .rem 34 35,iv 4 36])))))))) [.t 4]:=yA none Tryd.func34 (by kernel_rfl)
theorem yYZ : Has Tryd.prog 35 21 (rS [ia 2 (.alloc [.c (.i 0),.c (.i 0),.c (.i 0),.c (.i 0),.c (.i 0)])] (rS [iv 4 0,ia 5 (.call 34 [.t 4,kI 12]),iv 3 5] (rR [iv 6 3,iv 7 3,pA 8 7 1,iv 9 0,ia 10 (.call 34 [.t 9,kI 5]),oA 11 .add 8 10,oI 12 .rem 11 12,iv 13 0,ia 14 (.call 34 [.t 13,kI 500]),ia 15 (.bin .add (kI 1) (.t 14)),iv 16 0,ia 17 (.call 34 [.t 16,kI 90]),iv 18 0,ia 19 (.call 34 [.t 18,kI 90]),ia 20 (.bld [.c (.i 0),.c (.i 0),.c (.i 0),.c (.i 0),.c (.i 0)] [(0,1,.t 6),(1,1,.t 12),(2,1,.t 15),(3,1,.t 17),(4,1,.t 19)]),tN 5 2 20]))) [.cl 2 5]:=yA none Tryd.func35 (by kernel_rfl)
def yYE : SC:=rS [mA 2 0] (rS [iv 4 0,iv 5 0,ia 6 (.nck (.t 5)),fA 7 2 6,lA 8 7,ia 9 (.binw .mul (.t 8) (kI 6364136223846793005)),ia 10 (.binw .add (.t 9) (kI 1442695040888963407)),ia 11 (.nck (.t 4)),fA 12 2 11,tS 12 10] (rQ [iv 13 0,ia 14 (.nck (.t 13)),fA 15 2 14,lA 16 15,ia 17 (.bit .shr (.t 16) (kI 33)),iv 18 0,ia 19 (.nck (.t 18)),fA 20 2 19,lA 21 20,ia 22 (.bit .shr (.t 21) (kI 45)),ia 23 (.bit .xor (.t 17) (.t 22)),ia 24 (.bit .and (.t 23) (kI 255)),iv 3 24] (.seq (rQ [iv 25 0,ia 26 (.nck (.t 25)),fA 27 1 26,lA 28 27,iv 29 0,ia 30 (.nck (.t 29)),fA 31 0 30,lA 32 31,nA 33 32,tA 34 28 33] (cI 34 (rQ [iv 35 3,iv 36 0,ia 37 (.nck (.t 36)),fA 38 0 37,lA 39 38,iv 40 0,ia 41 (.nck (.t 40)),fA 42 1 41,lA 43 42,xA 44 1 39 43,lA 45 44,ia 46 (.cvt 0 (.t 45)),oA 47 .add 35 46,ia 48 (.bit .and (.t 47) (kI 255)),iv 3 48] (.reg [iv 49 0,iv 50 0,ia 51 (.nck (.t 50)),fA 52 1 51,lA 53 52,pA 54 53 1,ia 55 (.nck (.t 49)),fA 56 1 55,tS 56 54])))) (rR [iv 57 3,iv 2 57]))))
theorem yZb : Has Tryd.prog 43 58 yYE [.t 2]:=yA none Tryd.func43 (by kernel_rfl)
def inRange (n a b : Int) : Bool:=decide (a ≤ n) && decide (n ≤ b)
theorem yC (n a b : Int) : yB Tryd.prog 28 [.c (.i n),.c (.i a),.c (.i b)] (.c (.b (inRange n a b))):=by
 refine yh yot ?_
 simp -dsimp -implicitDefEqProofs [yi1,inRange]
 exact ⟨fun h=>by simp [h],fun h=>by simp [Int.not_le.2 h]⟩
structure Entry where
 From : Int
 To : Int
 Amount : Int
 Time : Int
 Why : Int
 deriving Inhabited,DecidableEq
@[simp] def Entry.enc (e : Entry) : List C:=[.i e.From,.i e.To,.i e.Amount,.i e.Time,.i e.Why]
def ycl (e : Entry) : Bool:=decide (e.From ≠ e.To) && inRange e.From 0 11 && inRange e.To 0 11 && inRange e.Amount 1 1000000000 && inRange e.Time 0 1000000 && inRange e.Why 0 9999
theorem ysa (e : Entry) : yB Tryd.prog 17 [.agg (e.enc.map .c)] (.c (.b (ycl e))):=by
 refine yh ypP ?_
 simp -dsimp -implicitDefEqProofs
 refine ⟨fun h=>?_,fun h=>by simp [ycl,h]⟩
 refine yc (yC e.From 0 11) ?_
 simp -dsimp -implicitDefEqProofs
 refine ⟨fun h1=>?_,fun h1=>by simp [ycl,h1]⟩
 refine yc (yC e.To 0 11) ?_
 simp -dsimp -implicitDefEqProofs
 refine ⟨fun h2=>?_,fun h1=>by simp [ycl,h1]⟩
 refine yc (yC e.Amount 1 1000000000) ?_
 simp -dsimp -implicitDefEqProofs
 refine ⟨fun h3=>?_,fun h1=>by simp [ycl,h1]⟩
 refine yc (yC e.Time 0 1000000) ?_
 simp -dsimp -implicitDefEqProofs
 refine ⟨fun h4=>?_,fun h1=>by simp [ycl,h1]⟩
 refine yc (yC e.Why 0 9999) ?_
 simp -dsimp -implicitDefEqProofs
 simp [ycl,h,h1,h2,h3,h4]
theorem yG {k n : Nat} (h : k < n) : ((k : Int) < (n : Int)) = True:=by simp [h]
theorem lt_f {k n : Nat} (h : n ≤ k) : ((k : Int) < (n : Int)) = False:=by simp [h]
structure Way where
 Long : Int
 Bed : Int
 deriving DecidableEq,Inhabited
@[simp] def Way.enc (e : Way) : List C:=[.i e.Long,.i e.Bed]
theorem yw {k n : Nat} (hk : k < n) (h : n ≤ maxLen) : inI ((k : Int) + 1):=by unfold maxLen at h; unfold inI; omega
abbrev yJ (n : Int) : List C:=[.i n]
structure Tariff where
 Base : Int
 PerArea : Int
 PerClass : List Int
 Weights : List Int
 deriving DecidableEq
@[simp] def Tariff.enc (t : Tariff) : List C:=[.i t.Base,.i t.PerArea,.sl 1 (t.PerClass.map yJ),.sl 1 (t.Weights.map yJ)]
def Tariff.small (t : Tariff) : Prop:=t.PerClass.length ≤ 1048576 ∧ t.Weights.length ≤ 1048576
theorem yF {n a b : Int} : inRange n a b = true ↔ a ≤ n ∧ n ≤ b:=by simp [inRange]
def bs (l : List UInt8) : ByteArray:=⟨l.toArray⟩
theorem yWi (l : List UInt8) : (bs l).size = l.length:=by simp [bs,ByteArray.size]
theorem yWA (l : List UInt8) (i : Nat) : (bs l)[i]? = l[i]?:=by
 by_cases h : i < l.length
 ·have h2 : i < (bs l).size:=by rw [yWi]; exact h
  rw [getElem?_pos (bs l) i h2,List.getElem?_eq_getElem h]
  rfl
 ·have h2 : ¬ i < (bs l).size:=by rw [yWi]; exact h
  rw [getElem?_neg (bs l) i h2,List.getElem?_eq_none (by omega)]
theorem yWs (l : List UInt8) (i : Nat) (h : i < (bs l).size) : (bs l)[i]'h = l[i]'(by rw [yWi] at h; exact h):=rfl
theorem yXb (a b : List UInt8) : bs a ++ bs b = bs (a ++ b):=by
 apply ByteArray.ext
 simp [bs]
theorem yWJ {a b : List UInt8} : (bs a = bs b) = (a = b):=by
 apply propext
 constructor
 ·intro h
  have:=congrArg (fun x : ByteArray=>x.data.toList) h
  simpa [bs] using this
 ·rintro rfl; rfl
theorem yXq (l : List UInt8) (i j : Nat) : (bs l).extract i j = bs ((l.take j).drop i):=by
 apply ByteArray.ext
 simp [bs,List.drop_take]
theorem yXt (l : List UInt8) : (bs l).data.toList = l:=by simp [bs]
def yWh (c : UInt8) : List UInt8 → List (List UInt8)
 | []=>[[]]
 | b :: l=>if b = c then [] :: yWh c l else match yWh c l with
  | []=>[[b]]
  | p :: t=>(b :: p) :: t
def hd (q : List UInt8) : List (List UInt8) → List (List UInt8)
 | []=>[q]
 | p :: t=>(q ++ p) :: t
theorem yWt (c b : UInt8) (l : List UInt8) : yWh c (b :: l) = if b = c then [] :: yWh c l else hd [b] (yWh c l):=by
 simp only [yWh]
 split
 ·rfl
 ·cases yWh c l <;> rfl
theorem yWF {c : UInt8} : ∀ {l : List UInt8},c ∉ l → yWh c l = [l]
 | [],_=>rfl
 | b :: l,h=>by
  simp only [List.mem_cons,not_or] at h
  rw [yWt,if_neg (fun e=>h.1 e.symm),yWF h.2]
  rfl
theorem yWL {c : UInt8} : ∀ {p : List UInt8} (l : List UInt8),c ∉ p → yWh c (p ++ c :: l) = p :: yWh c l
 | [],l,_=>by simp [yWh]
 | b :: p,l,h=>by
  simp only [List.mem_cons,not_or] at h
  rw [List.cons_append,yWt,if_neg (fun e=>h.1 e.symm),yWL l h.2]
  rfl
def jn : List (List UInt8) → List UInt8
 | []=>[]
 | p :: l=>match l with
  | []=>p
  | _ :: _=>p ++ 32 :: jn l
theorem yXS (p : List UInt8) : jn [p] = p:=rfl
theorem yWM (p q : List UInt8) (l : List (List UInt8)) : jn (p :: q :: l) = p ++ 32 :: jn (q :: l):=rfl
theorem yXs : ∀ {l : List (List UInt8)} (p : List UInt8),l ≠ [] → jn (l ++ [p]) = jn l ++ 32 :: p
 | [],p,h=>absurd rfl h
 | [q],p,_=>rfl
 | q :: r :: l,p,_=>by
  have ih:=yXs (l:=r :: l) p (by simp)
  show jn (q :: r :: (l ++ [p])) = _
  rw [yWM]
  have e : r :: (l ++ [p]) = (r :: l) ++ [p]:=rfl
  rw [e,ih,yWM]
  simp
theorem yXj : ∀ {l : List (List UInt8)},l ≠ [] → (∀ p ∈ l,32 ∉ p) → yWh 32 (jn l) = l
 | [],h,_=>absurd rfl h
 | [p],_,h=>yWF (h p (by simp))
 | p :: q :: l,_,h=>by
  rw [yWM,yWL _ (h p (by simp)),yXj (l:=q :: l) (by simp) fun r hr=>h r (List.mem_cons_of_mem _ hr)]
def yWH (n : Nat) : List UInt8:=if h : n = 0 then [] else yWH (n / 10) ++ [(48 + n % 10).toUInt8]
termination_by n
decreasing_by omega
theorem yWn : yWH 0 = []:=by unfold yWH; simp
theorem yWu {n : Nat} (h : n ≠ 0) : yWH n = yWH (n / 10) ++ [(48 + n % 10).toUInt8]:=by rw [yWH,dif_neg h]
def fmt (n : Nat) : List UInt8:=if n = 0 then [48] else yWH n
def yWl (b : UInt8) : Bool:=decide (48 ≤ b.toNat) && decide (b.toNat ≤ 57)
def num (l : List UInt8) : Nat:=l.foldl (fun n b=>10 * n + (b.toNat - 48)) 0
theorem yWP (l : List UInt8) (b : UInt8) : num (l ++ [b]) = 10 * num l + (b.toNat - 48):=by simp [num]
theorem yW2 (k : Nat) (h : k < 10) : ((48 + k).toUInt8).toNat = 48 + k:=by
 show (48 + k) % 256 = 48 + k
 omega
theorem yXD : ∀ n : Nat,num (yWH n) = n:=by
 intro n
 induction n using Nat.strongRecOn with
 | ind n ih =>
  by_cases h : n = 0
  ·subst h; rw [yWn]; rfl
  ·rw [yWu h,yWP,ih (n / 10) (by omega),yW2 _ (by omega)]
   omega
theorem yXL (n : Nat) : num (fmt n) = n:=by
 unfold fmt
 split
 ·rename_i h; subst h; decide
 ·exact yXD n
theorem yXA : ∀ n : Nat,∀ b ∈ yWH n,yWl b = true:=by
 intro n
 induction n using Nat.strongRecOn with
 | ind n ih =>
  intro b hb
  by_cases h : n = 0
  ·subst h; rw [yWn] at hb; cases hb
  ·rw [yWu h] at hb
   rcases List.mem_append.1 hb with hb | hb
   ·exact ih (n / 10) (by omega) b hb
   ·rw [List.mem_singleton.1 hb]
    unfold yWl
    rw [yW2 _ (by omega)]
    simp; omega
theorem yXr (n : Nat) : ∀ b ∈ fmt n,yWl b = true:=by
 intro b hb
 unfold fmt at hb
 split at hb
 ·rw [List.mem_singleton.1 hb]; decide
 ·exact yXA n b hb
theorem yXe : ∀ (k n : Nat),n < 10 ^ k → (yWH n).length ≤ k
 | 0,n,h=>by
  have : n = 0:=by simpa using h
  subst this; rw [yWn]; simp
 | k + 1,n,h=>by
  by_cases h0 : n = 0
  ·subst h0; rw [yWn]; simp
  ·rw [yWu h0]
   have:=yXe k (n / 10) (by rw [Nat.pow_succ] at h; omega)
   simp; omega
theorem yXw {n : Nat} (h : n ≤ 1000000000) : (fmt n).length ≤ 10 ∧ 1 ≤ (fmt n).length:=by
 unfold fmt
 split
 ·simp
 ·rename_i h0
  refine ⟨yXe 10 n (by omega),?_⟩
  rw [yWu h0]; simp
theorem yXH {n : Nat} (h : n ≠ 0) : ∃ b t,yWH n = b :: t ∧ b ≠ 48:=by
 induction n using Nat.strongRecOn with
 | ind n ih =>
  rw [yWu h]
  by_cases h1 : n / 10 = 0
  ·refine ⟨_,[],by rw [h1,yWn]; rfl,?_⟩
   intro e
   have:=congrArg UInt8.toNat e
   rw [yW2 _ (by omega)] at this
   have : (48 : UInt8).toNat = 48:=rfl
   omega
  ·obtain ⟨b,t,e,hb⟩:=ih (n / 10) (by omega) h1
   exact ⟨b,t ++ [_],by rw [e]; rfl,hb⟩
theorem yXf : ∀ (k : Nat) (l : List UInt8),l.length = k → (∀ b ∈ l,yWl b = true) → l.head? ≠ some 48 → yWH (num l) = l
 | 0,l,hk,_,_=>by
  have : l = []:=List.length_eq_zero_iff.1 hk
  subst this; exact yWn
 | k + 1,l,hk,hd,hh=>by
  obtain ⟨m,b,rfl⟩ : ∃ m b,l = m ++ [b]:=by
   have hne : l ≠ []:=by intro e; rw [e] at hk; cases hk
   exact ⟨l.dropLast,l.getLast hne,(List.dropLast_concat_getLast hne).symm⟩
  have hb : yWl b = true:=hd b (by simp)
  unfold yWl at hb
  simp only [Bool.and_eq_true,decide_eq_true_eq] at hb
  have hm : yWH (num m) = m:=by
   refine yXf k m (by simpa using hk) (fun c hc=>hd c (by simp [hc])) ?_
   cases m with
   | nil=>simp
   | cons c t=>simpa using hh
  have hb2 : (48 + (b.toNat - 48)).toUInt8 = b:=by
   rw [show 48 + (b.toNat - 48) = b.toNat by omega]
   exact UInt8.ofNat_toNat
  rw [yWP]
  by_cases h0 : num m = 0
  ·have hmn : m = []:=by rw [h0,yWn] at hm; exact hm.symm
   subst hmn
   have hb48 : b ≠ 48:=by simpa using hh
   have : b.toNat ≠ 48:=fun e=>hb48 (UInt8.toNat_inj.1 e)
   rw [h0,yWu (by omega),show (10 * 0 + (b.toNat - 48)) / 10 = 0 by omega,yWn,show (10 * 0 + (b.toNat - 48)) % 10 = b.toNat - 48 by omega,hb2]
  ·rw [yWu (by omega),show (10 * num m + (b.toNat - 48)) / 10 = num m by omega,show (10 * num m + (b.toNat - 48)) % 10 = b.toNat - 48 by omega,hb2,hm]
def PU (l : List UInt8) : Nat × Bool:=if l.length ≤ 10 ∧ l.all yWl = true ∧ num l ≤ 1000000000 ∧ fmt (num l) = l then (num l,true) else (0,false)
def good (l : List UInt8) : Prop:=l ≠ [] ∧ ¬ (l.head? = some 48 ∧ 1 < l.length)
theorem yXd {l : List UInt8} (hd : ∀ b ∈ l,yWl b = true) : fmt (num l) = l ↔ good l:=by
 constructor
 ·intro h
  refine ⟨fun e=>?_,fun ⟨h1,h2⟩=>?_⟩
  ·subst e; revert h; decide
  ·unfold fmt at h
   split at h
   ·rw [← h] at h2; simp at h2
   ·rename_i h0
    obtain ⟨b,t,e,hb⟩:=yXH h0
    rw [h] at e
    rw [e] at h1
    exact hb (by simpa using h1)
 ·rintro ⟨h1,h2⟩
  by_cases h3 : l.head? = some 48
  ·have h4 : l.length = 1:=by
    have : l.length ≠ 0:=fun e=>h1 (List.length_eq_zero_iff.1 e)
    have : ¬ 1 < l.length:=fun e=>h2 ⟨h3,e⟩
    omega
   match l,h4,h3 with
   | [b],_,h3 =>
    have : b = 48:=by simpa using h3
    subst this; decide
  ·have h5:=yXf l.length l rfl hd h3
   unfold fmt
   split
   ·rename_i h6
    rw [h6,yWn] at h5
    exact absurd h5.symm h1
   ·exact h5
theorem yW7 {n : Nat} (h : n ≤ 1000000000) : PU (fmt n) = (n,true):=by
 unfold PU
 rw [yXL,if_pos ⟨(yXw h).1,List.all_eq_true.2 (yXr n),h,rfl⟩]
theorem yXN : PU [] = (0,false):=by decide
theorem yXR {n : Nat} : (32 : UInt8) ∉ fmt n:=by
 intro h
 have:=yXr n 32 h
 revert this; decide
def lays156_ren : Go.Shelf.Ren:=⟨fun | 156=>19 | 165=>30 | 166=>31 | 169=>32 | 240=>38 | 241=>39 | 276=>45 | 277=>46 | n=>n,fun | 31=>40 | 9=>9 | 3=>3 | 4=>4 | 0=>0 | 20=>20 | 72=>54 | 76=>58 | 70=>52 | 37=>32 | 75=>57 | 127=>67 | 164=>72 | 5=>5 | 80=>60 | n=>n,fun | n=>n⟩
theorem lays156 : Go.Proofs.Lays.n156 Tryd.prog lays156_ren:={
 mixed:=by kernel_rfl
 f156:=Tryd.func19.trans (congrArg some (by kernel_rfl))
 f165:=Tryd.func30.trans (congrArg some (by kernel_rfl))
 f166:=Tryd.func31.trans (congrArg some (by kernel_rfl))
 f169:=Tryd.func32.trans (congrArg some (by kernel_rfl))
 f240:=Tryd.func38.trans (congrArg some (by kernel_rfl))
 f241:=Tryd.func39.trans (congrArg some (by kernel_rfl))
 f276:=Tryd.func45.trans (congrArg some (by kernel_rfl))
 f277:=Tryd.func46.trans (congrArg some (by kernel_rfl))
 t0:=Tryd.underlying0
 a0:=Tryd.isAgg0
 z0:=Tryd.sizeOf0
 v0:=Tryd.zeroValue0
 t3:=Tryd.underlying3
 a3:=Tryd.isAgg3
 z3:=Tryd.sizeOf3
 v3:=Tryd.zeroValue3
 t4:=Tryd.underlying4
 a4:=Tryd.isAgg4
 z4:=Tryd.sizeOf4
 v4:=Tryd.zeroValue4
 t9:=Tryd.underlying9
 a9:=Tryd.isAgg9
 z9:=Tryd.sizeOf9
 v9:=Tryd.zeroValue9
 t20:=Tryd.underlying20
 a20:=Tryd.isAgg20
 z20:=Tryd.sizeOf20
 v20:=Tryd.zeroValue20
 t31:=Tryd.underlying40
 a31:=Tryd.isAgg40
 z31:=Tryd.sizeOf40
 v31:=Tryd.zeroValue40
 t37:=Tryd.underlying32
 a37:=Tryd.isAgg32
 z37:=Tryd.sizeOf32
 v37:=Tryd.zeroValue32
 t70:=Tryd.underlying52
 a70:=Tryd.isAgg52
 z70:=Tryd.sizeOf52
 v70:=Tryd.zeroValue52
 t72:=Tryd.underlying54
 a72:=Tryd.isAgg54
 z72:=Tryd.sizeOf54
 v72:=Tryd.zeroValue54
 t75:=Tryd.underlying57
 a75:=Tryd.isAgg57
 z75:=Tryd.sizeOf57
 v75:=Tryd.zeroValue57
 t76:=Tryd.underlying58
 a76:=Tryd.isAgg58
 z76:=Tryd.sizeOf58
 v76:=Tryd.zeroValue58
 t127:=Tryd.underlying67
 a127:=Tryd.isAgg67
 z127:=Tryd.sizeOf67
 v127:=Tryd.zeroValue67
 t164:=Tryd.underlying72
 a164:=Tryd.isAgg72
 z164:=Tryd.sizeOf72
 v164:=Tryd.zeroValue72 }
theorem bx156 : Go.Proofs.Builder.Extra Tryd.prog lays156_ren:={
 sizeBuilder:=by kernel_rfl
 liesBuilder:=by kernel_rfl
 t5:=Tryd.underlying5
 a5:=Tryd.isAgg5
 z5:=Tryd.sizeOf5
 v5:=Tryd.zeroValue5
 infoByte:=by kernel_rfl
 cellsByte:=by kernel_rfl
 sizeByte:=by kernel_rfl
 neB5:=by decide }
def yYd : Go.Shelf.Ren:=⟨fun | 171=>29 | 243=>37 | 246=>44 | 283=>51 | 284=>52 | 285=>53 | 286=>54 | 129=>61 | 317=>60 | 318=>62 | 319=>63 | 320=>64 | 337=>67 | 338=>68 | n=>n,fun | 3=>3 | 9=>9 | 2=>2 | 4=>4 | 171=>80 | 0=>0 | 53=>81 | 37=>32 | 5=>5 | 173=>84 | 212=>88 | 51=>89 | 20=>20 | 213=>90 | 46=>79 | 232=>100 | 233=>101 | n=>n,fun | 17=>1 | 18=>4 | 19=>5 | n=>n⟩
theorem laysM171 : Go.Proofs.LaysM.n171 Tryd.prog yYd:={
 mixed:=by kernel_rfl
 f129:=Tryd.func61.trans (congrArg some (by kernel_rfl))
 f171:=Tryd.func29.trans (congrArg some (by kernel_rfl))
 f243:=Tryd.func37.trans (congrArg some (by kernel_rfl))
 f246:=Tryd.func44.trans (congrArg some (by kernel_rfl))
 f283:=Tryd.func51.trans (congrArg some (by kernel_rfl))
 f284:=Tryd.func52.trans (congrArg some (by kernel_rfl))
 f285:=Tryd.func53.trans (congrArg some (by kernel_rfl))
 f286:=Tryd.func54.trans (congrArg some (by kernel_rfl))
 f317:=Tryd.func60.trans (congrArg some (by kernel_rfl))
 f318:=Tryd.func62.trans (congrArg some (by kernel_rfl))
 f319:=Tryd.func63.trans (congrArg some (by kernel_rfl))
 f320:=Tryd.func64.trans (congrArg some (by kernel_rfl))
 f337:=Tryd.func67.trans (congrArg some (by kernel_rfl))
 f338:=Tryd.func68.trans (congrArg some (by kernel_rfl))
 t0:=Tryd.underlying0
 a0:=Tryd.isAgg0
 z0:=Tryd.sizeOf0
 v0:=Tryd.zeroValue0
 t2:=Tryd.underlying2
 a2:=Tryd.isAgg2
 z2:=Tryd.sizeOf2
 v2:=Tryd.zeroValue2
 t3:=Tryd.underlying3
 a3:=Tryd.isAgg3
 z3:=Tryd.sizeOf3
 v3:=Tryd.zeroValue3
 t4:=Tryd.underlying4
 a4:=Tryd.isAgg4
 z4:=Tryd.sizeOf4
 v4:=Tryd.zeroValue4
 t5:=Tryd.underlying5
 a5:=Tryd.isAgg5
 z5:=Tryd.sizeOf5
 v5:=Tryd.zeroValue5
 t9:=Tryd.underlying9
 a9:=Tryd.isAgg9
 z9:=Tryd.sizeOf9
 v9:=Tryd.zeroValue9
 t20:=Tryd.underlying20
 a20:=Tryd.isAgg20
 z20:=Tryd.sizeOf20
 v20:=Tryd.zeroValue20
 t37:=Tryd.underlying32
 a37:=Tryd.isAgg32
 z37:=Tryd.sizeOf32
 v37:=Tryd.zeroValue32
 t46:=Tryd.underlying79
 a46:=Tryd.isAgg79
 z46:=Tryd.sizeOf79
 v46:=Tryd.zeroValue79
 t51:=Tryd.underlying89
 a51:=Tryd.isAgg89
 z51:=Tryd.sizeOf89
 v51:=Tryd.zeroValue89
 t53:=Tryd.underlying81
 a53:=Tryd.isAgg81
 z53:=Tryd.sizeOf81
 v53:=Tryd.zeroValue81
 t171:=Tryd.underlying80
 a171:=Tryd.isAgg80
 z171:=Tryd.sizeOf80
 v171:=Tryd.zeroValue80
 t173:=Tryd.underlying84
 a173:=Tryd.isAgg84
 z173:=Tryd.sizeOf84
 v173:=Tryd.zeroValue84
 t212:=Tryd.underlying88
 a212:=Tryd.isAgg88
 z212:=Tryd.sizeOf88
 v212:=Tryd.zeroValue88
 t213:=Tryd.underlying90
 a213:=Tryd.isAgg90
 z213:=Tryd.sizeOf90
 t232:=Tryd.underlying100
 a232:=Tryd.isAgg100
 z232:=Tryd.sizeOf100
 v232:=Tryd.zeroValue100
 t233:=Tryd.underlying101
 a233:=Tryd.isAgg101
 z233:=Tryd.sizeOf101
 v233:=Tryd.zeroValue101
 g17:=by kernel_rfl
 g18:=by kernel_rfl
 g19:=by kernel_rfl
 i0:=by kernel_rfl
 i2:=by kernel_rfl
 i3:=by kernel_rfl
 i4:=by kernel_rfl
 i5:=by kernel_rfl
 i9:=by kernel_rfl
 i20:=by kernel_rfl
 i37:=by kernel_rfl
 i46:=by kernel_rfl
 i51:=by kernel_rfl
 i53:=by kernel_rfl
 i171:=by kernel_rfl
 i173:=by kernel_rfl
 i212:=by kernel_rfl
 i232:=by kernel_rfl
 i233:=by kernel_rfl
 m17:=by kernel_rfl
 m18:=by kernel_rfl
 m19:=by kernel_rfl }
def FE (e : Entry) : List UInt8:=if ycl e = true then jn [fmt e.From.toNat,fmt e.To.toNat,fmt e.Amount.toNat,fmt e.Time.toNat,fmt e.Why.toNat] else []
def pn (f : List (List UInt8)) (k : Nat) : Int:=((PU (f.getD k [])).1 : Int)
def yWw (s : List UInt8) : Entry:=⟨pn (yWh 32 s) 0,pn (yWh 32 s) 1,pn (yWh 32 s) 2,pn (yWh 32 s) 3,pn (yWh 32 s) 4⟩
def zeroE : Entry:=⟨0,0,0,0,0⟩
def yWB (s : List UInt8) : Prop:=(yWh 32 s).length = 5 ∧ (∀ p ∈ yWh 32 s,(PU p).2 = true) ∧ ycl (yWw s) = true
theorem yXC : ∀ (k : Nat) (l : List UInt8),l.length = k → (∀ b ∈ l,yWl b = true) → num l < 10 ^ k
 | 0,l,hk,_=>by
  have : l = []:=List.length_eq_zero_iff.1 hk
  subst this; decide
 | k + 1,l,hk,hd=>by
  obtain ⟨m,b,rfl⟩ : ∃ m b,l = m ++ [b]:=by
   have hne : l ≠ []:=by intro e; rw [e] at hk; cases hk
   exact ⟨l.dropLast,l.getLast hne,(List.dropLast_concat_getLast hne).symm⟩
  have hb : yWl b = true:=hd b (by simp)
  unfold yWl at hb
  simp only [Bool.and_eq_true,decide_eq_true_eq] at hb
  have:=yXC k m (by simpa using hk) fun c hc=>hd c (by simp [hc])
  rw [yWP,Nat.pow_succ]
  omega
theorem yW9 {l : List UInt8} (h : l.length ≤ 10) (hd : ∀ b ∈ l,yWl b = true) : num l < 10000000000:=by
 have h1:=yXC l.length l rfl hd
 have h2 : 10 ^ l.length ≤ 10 ^ 10:=Nat.pow_le_pow_right (by omega) h
 omega
theorem yXg {l : List UInt8} {k : Nat} {b : UInt8} (h : l[k]? = some b) : num (l.take (k + 1)) = 10 * num (l.take k) + (b.toNat - 48):=by
 rw [List.take_succ,h]
 exact yWP _ _
theorem yXv {l : List UInt8} (h : 10 < l.length) : PU l = (0,false):=by
 unfold PU
 rw [if_neg (fun e=>by omega)]
theorem yXF {l : List UInt8} {k : Nat} {b : UInt8} (h : l[k]? = some b) (hb : yWl b = false) : PU l = (0,false):=by
 unfold PU
 rw [if_neg (fun e=>by rw [List.all_eq_true.1 e.2.1 b (List.mem_of_getElem? h)] at hb; cases hb)]
theorem yXK {l : List UInt8} (hd : ∀ b ∈ l,yWl b = true) (h : ¬ good l) : PU l = (0,false):=by
 unfold PU
 rw [if_neg (fun e=>h ((yXd hd).1 e.2.2.2))]
theorem yXE {l : List UInt8} (h : ¬ good l) : PU l = (0,false):=by
 by_cases hd : l.all yWl = true
 ·exact yXK (List.all_eq_true.1 hd) h
 ·unfold PU
  rw [if_neg (fun e=>hd e.2.1)]
theorem yXz {l : List UInt8} (h : 1000000000 < num l) : PU l = (0,false):=by
 unfold PU
 rw [if_neg (fun e=>by omega)]
theorem PU_is {l : List UInt8} (h1 : l.length ≤ 10) (hd : ∀ b ∈ l,yWl b = true) (h2 : num l ≤ 1000000000) (h3 : fmt (num l) = l) : PU l = (num l,true):=by
 unfold PU
 rw [if_pos ⟨h1,List.all_eq_true.2 hd,h2,h3⟩]
theorem yW3 (l : List UInt8) : yB Tryd.prog 23 [.c (.s (bs l))] (.tup [.c (.i (PU l).1),.c (.b (PU l).2)]):=by
 refine yh yWU ?_
 by_cases hne : l = []
 ·subst hne
  simp -dsimp -implicitDefEqProofs [yWm,yWi,yXN]
 have hpos : 0 < l.length:=Nat.pos_of_ne_zero fun e=>hne (List.length_eq_zero_iff.1 e)
 by_cases h10 : 10 < l.length
 ·have t1 : (10 < (l.length : Int)) = True:=eq_true (by omega)
  simp -dsimp -implicitDefEqProofs [yWm,yWi,yXv h10,hne,t1]
 have t1 : (10 < (l.length : Int)) = False:=eq_false (by omega)
 have t2 : ((l.length : Int) ≤ 10) = True:=eq_true (by omega)
 obtain ⟨b,hb⟩ : ∃ b,l[0]? = some b:=⟨_,List.getElem?_eq_getElem hpos⟩
 have gb:=(List.getElem?_eq_some_iff.1 hb).2
 have hh : l.head? = some b:=by rw [List.head?_eq_getElem?]; exact hb
 by_cases hg : good l
 case neg =>
  have hb48 : b.toNat = 48 ∧ 1 < l.length:=by
   unfold good at hg
   rw [hh] at hg
   by_cases h1 : b = 48
   ·refine ⟨by rw [h1]; rfl,?_⟩
    by_cases h2 : 1 < l.length
    ·exact h2
    ·exact absurd ⟨hne,fun e=>h2 e.2⟩ hg
   ·exact absurd ⟨hne,fun e=>h1 (Option.some.inj e.1)⟩ hg
  have t3 : (1 < (l.length : Int)) = True:=eq_true (by omega)
  simp -dsimp -implicitDefEqProofs [yWm,yWi,yWA,yWs,hb,gb,yXE hg,hne,t1,t2,t3,hb48.1,hpos]
 have hgf : b.toNat = 48 → l.length ≤ 1:=fun e=>by
  by_cases h2 : 1 < l.length
  ·exact absurd ⟨by rw [hh]; exact congrArg some (UInt8.toNat_inj.1 e),h2⟩ hg.2
  ·omega
 have t3 : b.toNat = 48 → (1 < (l.length : Int)) = False:=fun e=>eq_false (by have:=hgf e; omega)
 by_cases hb48 : b.toNat = 48
 all_goals
  simp -dsimp -implicitDefEqProofs [yWm,yWi,yWA,yWs,hb,gb,hne,t1,t2,t3,hb48,hpos]
  intro hm
  refine yg (ι:=Nat) (fun k=>k ≤ l.length ∧ ∀ b ∈ l.take k,yWl b = true) (fun k=>yO [(0,.c (.s (bs l))),(4,.c (.i (num (l.take k)))),(5,.c (.i k))] []) (fun k=>l.length - k) 0 (by simp) (by apply yj <;> simp [num]) ?_
  rintro k ⟨hk,hall⟩
  have hnum:=yW9 (l:=l.take k) (by rw [List.length_take]; omega) hall
  rcases Nat.lt_or_ge k l.length with klt | kge
  ·obtain ⟨c,hc⟩ : ∃ c,l[k]? = some c:=⟨_,List.getElem?_eq_getElem klt⟩
   have gc:=(List.getElem?_eq_some_iff.1 hc).2
   have hnt:=yXg hc
   have hbad:=yXF hc
   have hnext : yWl c = true → ∀ b ∈ l.take (k + 1),yWl b = true:=fun h b hb=>by
    rw [List.take_succ,hc] at hb
    rcases List.mem_append.1 hb with hb | hb
    ·exact hall b hb
    ·rw [List.mem_singleton.1 hb]; exact h
   generalize num (l.take k) = v at *
   cases hdc : yWl c with
   | false =>
    rw [hbad hdc]
    have hdc2:=hdc
    simp only [yWl,Bool.and_eq_false_iff,decide_eq_false_iff_not] at hdc2
    simp -dsimp -implicitDefEqProofs [yWi,yWA,yWs,hc,gc,klt,yG klt]
    intro _
    omega
   | true =>
    have hdc2:=hdc
    simp only [yWl,Bool.and_eq_true,decide_eq_true_eq] at hdc2
    have c1 : (c.toNat < 48) = False:=eq_false (by omega)
    have c2 : (57 < c.toNat) = False:=eq_false (by omega)
    simp -dsimp -implicitDefEqProofs [yWi,yWA,yWs,hc,gc,klt,yG klt,c1,c2]
    intro _
    refine ⟨by unfold inI; omega,by unfold inI; omega,by unfold inI; omega,k + 1,⟨klt,hnext hdc⟩,by omega,?_⟩
    have e1 : (10 * (v : Int) + ((c.toNat : Int) + 208) % 256) = ((10 * v + (c.toNat - 48) : Nat) : Int):=by omega
    apply yj <;> simp [hnt,e1]
  ·rw [List.take_of_length_le kge] at hall hnum ⊢
   have hfn:=(yXd hall).2 hg
   simp -dsimp -implicitDefEqProofs [yWi,lt_f kge]
   intro _
   refine ⟨fun h=>?_,fun h=>?_⟩
   ·rw [yXz (by omega)]; simp
   ·rw [PU_is (by omega) hall (by omega) hfn]; simp
def sen (p : List UInt8) : List C:=[.s (bs p)]
def ni (n : Nat) : List C:=[.i n]
def jk (ns : List Nat) (k : Nat) : List UInt8:=jn ((ns.take k).map fmt)
theorem yXh (l : List UInt8) (c : UInt8) : yB Tryd.prog 56 [.c (.s (bs l)),.c (.u c.toNat)] (.c (.i (Lib.indexByte l c))):=by
 refine yh yWp ?_
 have e1 : c.toNat.toUInt8 = c:=UInt8.ofNat_toNat
 simp -dsimp -implicitDefEqProofs [yWk,yXt,e1]
theorem indexByte_some {c : UInt8} : ∀ {l : List UInt8},c ∈ l → ∃ m : Nat,Lib.indexByte l c = (m : Int) ∧ m < l.length ∧ c ∉ l.take m ∧ l = l.take m ++ c :: l.drop (m + 1)
 | [],h=>by cases h
 | b :: l,h=>by
  unfold Lib.indexByte
  by_cases e : b = c
  ·subst e
   refine ⟨0,by simp,by simp,by simp,by simp⟩
  ·have h2 : c ∈ l:=by
    rcases List.mem_cons.1 h with h | h
    ·exact absurd h.symm e
    ·exact h
   obtain ⟨m,i1,i2,i3,i4⟩:=indexByte_some h2
   have e2 : (b == c) = false:=by simpa using e
   refine ⟨m + 1,?_,by simp; omega,?_,?_⟩
   ·rw [i1,e2]
    have : ((m : Int) == -1) = false:=by simp
    simp [this]
   ·simp only [List.take_succ_cons,List.mem_cons,not_or]
    exact ⟨fun e3=>e e3.symm,i3⟩
   ·simp only [List.take_succ_cons,List.drop_succ_cons,List.cons_append]
    rw [← i4]
theorem yXn (l : List UInt8) (c : UInt8) : yB Tryd.prog 50 [.c (.s (bs l)),.c (.s (bs [c]))] (.c (.i (Lib.indexByte l c))):=by
 refine yh yWv ?_
 by_cases h : l = [c]
 ·subst h
  have e0 : Lib.indexByte [c] c = 0:=by simp [Lib.indexByte]
  rw [e0]
  simp -dsimp -implicitDefEqProofs [yWj,yWi,yWJ,yWA,yWs]
 have h2 : ¬ [c] = l:=fun e=>h e.symm
 simp -dsimp -implicitDefEqProofs [yWj,yWi,yWJ,h2,yWA,yWs]
 intro _
 refine yaQ (yXh l c) (by simp -dsimp -implicitDefEqProofs) rfl ?_
 simp -dsimp -implicitDefEqProofs
theorem yBu (l : List UInt8) (c : UInt8) : yB Tryd.prog 42 [.c (.s (bs l)),.c (.s (bs [c]))] (.c (.i (Lib.indexByte l c))):=by
 refine yh yWY ?_
 simp -dsimp -implicitDefEqProofs
 refine yaQ (yXn l c) (by simp -dsimp -implicitDefEqProofs) rfl ?_
 simp -dsimp -implicitDefEqProofs
theorem yXJ (l : List UInt8) (c : UInt8) : yB Tryd.prog 41 [.c (.s (bs l)),.c (.s (bs [c]))] (.c (.i (l.count c))):=by
 refine yh yW1 ?_
 have e1 : c.toNat.toUInt8 = c:=UInt8.ofNat_toNat
 simp -dsimp -implicitDefEqProofs [yWE,yWi,yWA,yWs,yXt,e1,Lib.countByte]
theorem yXu {N i : Nat} {out : List (List UInt8)} (ho : out.length = i) (hi : i ≤ N) (E : List C) (p : List UInt8) :
 (out.map sen ++ List.replicate (N + 1 - i) E)[i]? = some E ∧ (out.map sen ++ List.replicate (N + 1 - i) E).set i (sen p) = (out ++ [p]).map sen ++ List.replicate (N - i) E:=by
 have e : N + 1 - i = (N - i) + 1:=by omega
 subst ho
 rw [e,List.replicate_succ]
 constructor
 ·rw [List.getElem?_append_right (by simp)]
  simp
 ·rw [List.set_append_right _ _ (by simp)]
  simp
theorem yXo (l : List UInt8) (c : UInt8) (hl : l.length ≤ 2000000) : yB Tryd.prog 33 [.c (.s (bs l)),.c (.s (bs [c])),.c (.i 0),.c (.i (-1))] (.c (.sl 1 ((yWh c l).map sen))):=by
 refine yh yWK ?_
 have hcl : l.count c ≤ l.length:=List.count_le_length
 have b1 : (bs [c] = (⟨#[]⟩ : ByteArray)) = False:=eq_false (fun e=>by have:=congrArg ByteArray.size e; rw [yWi] at this; simp [ByteArray.size] at this)
 simp -dsimp -implicitDefEqProofs [yWx,b1]
 refine yaQ (yXJ l c) (by simp -dsimp -implicitDefEqProofs) rfl ?_
 obtain ⟨N,hN⟩ : ∃ N,l.count c = N:=⟨_,rfl⟩
 rw [hN] at hcl ⊢
 have z0 : (l.length < N) = False:=eq_false (by omega)
 have z1 : (N : Int) + 1 - 1 = N:=by omega
 simp -dsimp -implicitDefEqProofs [yWi,z0,z1]
 refine ⟨by unfold inI; omega,fun _=>⟨by unfold inI; omega,by omega,by omega,by unfold inI; omega,?_⟩⟩
 refine yg (ι:=Nat × List UInt8 × List (List UInt8)) (fun q=>q.2.2.length = q.1 ∧ yWh c l = q.2.2 ++ yWh c q.2.1 ∧ q.1 + q.2.1.count c = N ∧ q.2.1.length ≤ l.length) (fun q=>yO [(0,.c (.s (bs q.2.1))),(1,.c (.s (bs [c]))),(2,.c (.i 0)),(3,.c (.i N)),(9,.own 31 1 (N + 1)),(10,.c (.i q.1))] [(31,.row 1 (q.2.2.map sen ++ List.replicate (N + 1 - q.1) [.s ⟨#[]⟩]))]) (fun q=>N - q.1) (0,l,[]) ⟨rfl,by simp,by simp only; omega,Nat.le_refl _⟩ (by apply yj <;> simp) ?_
 rintro ⟨i,s,out⟩ ⟨ho,hs,hc,hsl⟩
 simp only at ho hs hc hsl
 rcases Nat.lt_or_ge i N with ilt | ige
 ·have hmem : c ∈ s:=List.count_pos_iff.1 (by omega)
  obtain ⟨m,m1,m2,m3,m4⟩:=indexByte_some hmem
  have hIx:=yBu s c
  rw [m1] at hIx
  have t1 : ((m : Int) < 0) = False:=eq_false (by omega)
  simp -dsimp -implicitDefEqProofs [yG ilt]
  refine yaQ (hIx) (by simp -dsimp -implicitDefEqProofs) rfl ?_
  obtain ⟨r1,r2⟩:=yXu ho (by omega : i ≤ N) [.s ⟨#[]⟩] (s.take m)
  have r3 : [C.s (bs (s.take m))] = sen (s.take m):=rfl
  have hsp : yWh c s = s.take m :: yWh c (s.drop (m + 1)):=by
   have:=yWL (s.drop (m + 1)) m3
   rw [← m4] at this
   exact this
  have hcn : s.count c = 1 + (s.drop (m + 1)).count c:=by
   have h1:=congrArg (List.count c) m4
   rw [List.count_append,List.count_cons_self,List.count_eq_zero.2 m3] at h1
   omega
  generalize hR : out.map sen ++ List.replicate (N + 1 - i) [C.s ⟨#[]⟩] = R at r1 r2 ⊢
  have hRl : i < R.length:=(List.getElem?_eq_some_iff.1 r1).1
  simp -dsimp -implicitDefEqProofs [t1,yWi,yXq,r1]
  rw [r3,r2]
  refine ⟨by unfold inI; omega,by omega,by omega,hRl,fun _=>⟨by unfold inI; omega,by omega,by omega,by unfold inI; omega,i + 1,s.drop (m + 1),out ++ [s.take m],⟨by simp; omega,by rw [hs,hsp]; simp,by omega,by simp; omega⟩,by omega,?_⟩⟩
  have e2 : N + 1 - (i + 1) = N - i:=by omega
  apply yj <;> simp [e2]
 ·have hi : i = N:=by omega
  have hnone : c ∉ s:=fun h=>by have:=List.count_pos_iff.2 h; omega
  rw [yWF hnone] at hs
  obtain ⟨r1,r2⟩:=yXu ho (by omega : i ≤ N) [.s ⟨#[]⟩] s
  have r3 : [C.s (bs s)] = sen s:=rfl
  generalize hR : out.map sen ++ List.replicate (N + 1 - i) [C.s ⟨#[]⟩] = R at r1 r2 ⊢
  have hRl : i < R.length:=(List.getElem?_eq_some_iff.1 r1).1
  simp -dsimp -implicitDefEqProofs [lt_f ige,r1]
  rw [r3,r2,hs]
  refine ⟨by omega,hRl,by unfold inI; omega,by omega,by omega,?_⟩
  rw [List.take_append_of_le_length (by simp; omega),List.take_of_length_le (by simp; omega)]
theorem yXG (l : List UInt8) (c : UInt8) (hl : l.length ≤ 2000000) : yB Tryd.prog 22 [.c (.s (bs l)),.c (.s (bs [c]))] (.c (.sl 1 ((yWh c l).map sen))):=by
 refine yh yWX ?_
 simp -dsimp -implicitDefEqProofs
 refine yaP (yXo l c hl) (by simp -dsimp -implicitDefEqProofs) rfl ?_
 simp -dsimp -implicitDefEqProofs
def nums (f : List (List UInt8)) (k : Nat) : List Int:=(List.range 5).map fun j=>if j < k then pn f j else 0
theorem yW6 (f : List (List UInt8)) (k : Nat) : (nums f k).length = 5:=by simp [nums]
theorem yXa (f : List (List UInt8)) : nums f 0 = [0,0,0,0,0]:=rfl
theorem yXk (f : List (List UInt8)) {k : Nat} (h : k < 5) : ((nums f k).map yJ).set k [.i (pn f k)] = (nums f (k + 1)).map yJ:=by
 apply List.ext_getElem?
 intro j
 rw [List.getElem?_set,List.getElem?_map,List.getElem?_map,List.length_map,yW6]
 unfold nums
 rw [List.getElem?_map,List.getElem?_map]
 rcases Nat.lt_or_ge j 5 with hj | hj
 ·rw [List.getElem?_range hj]
  by_cases e : k = j
  ·subst e; simp [h,yJ]
  ·by_cases hjk : j < k
   ·simp [e,hjk,show j < k + 1 by omega]
   ·simp [e,hjk,show ¬ j < k + 1 by omega]
 ·have : ¬ k = j:=by omega
  rw [if_neg this,List.getElem?_eq_none (by simp; omega)]
  rfl
theorem yXi {f : List (List UInt8)} {k : Nat} (h : f.length ≤ k ∨ 5 ≤ k) : nums f k = [pn f 0,pn f 1,pn f 2,pn f 3,pn f 4]:=by
 have hz : ∀ j,f.length ≤ j → pn f j = 0:=fun j hj=>by
  unfold pn
  rw [List.getD_eq_getElem?_getD,List.getElem?_eq_none hj]
  rfl
 have hone : ∀ j,j < 5 → (if j < k then pn f j else 0) = pn f j:=fun j hj=>by
  split
  ·rfl
  ·rcases h with h | h
   ·exact (hz j (by omega)).symm
   ·omega
 show [ite (0 < k) (pn f 0) 0,ite (1 < k) (pn f 1) 0,ite (2 < k) (pn f 2) 0,ite (3 < k) (pn f 3) 0,ite (4 < k) (pn f 4) 0] = _
 rw [hone 0 (by omega),hone 1 (by omega),hone 2 (by omega),hone 3 (by omega),hone 4 (by omega)]
set_option maxRecDepth 20000 in
theorem yWW (s : List UInt8) (hl : s.length ≤ 2000000) (E : Entry) (ok : Bool) (h1 : yWB s → E = yWw s ∧ ok = true) (h2 : ¬ yWB s → E = zeroE ∧ ok = false) : yB Tryd.prog 10 [.c (.s (bs s))] (.tup [.agg (E.enc.map .c),.c (.b ok)]):=by
 refine yh yWO ?_
 have hS:=yXG s 32 hl
 obtain ⟨f,hf⟩ : ∃ f,yWh 32 s = f:=⟨_,rfl⟩
 have hE : yWw s = ⟨pn f 0,pn f 1,pn f 2,pn f 3,pn f 4⟩:=by unfold yWw; rw [hf]
 have hr : yWB s ↔ f.length = 5 ∧ (∀ p ∈ f,(PU p).2 = true) ∧ ycl (yWw s) = true:=by unfold yWB; rw [hf]
 rw [hE] at hr h1
 have hOk:=ysa ⟨pn f 0,pn f 1,pn f 2,pn f 3,pn f 4⟩
 rw [hf] at hS
 have b32 : (⟨#[32]⟩ : ByteArray) = bs [32]:=rfl
 simp -dsimp -implicitDefEqProofs [yWz,b32]
 refine yaP (hS) (by simp -dsimp -implicitDefEqProofs) rfl ?_
 simp -dsimp -implicitDefEqProofs
 intro hlen
 by_cases h5 : f.length = 5
 case neg =>
  obtain ⟨rfl,rfl⟩:=h2 (fun h=>h5 (hr.1 h).1)
  have z : ((f.length : Int) = 5) = False:=eq_false (by omega)
  simp -dsimp -implicitDefEqProofs [z,h5,zeroE]
 have z : ((f.length : Int) = 5) = True:=eq_true (by omega)
 simp -dsimp -implicitDefEqProofs [z,h5]
 intro _
 refine yg (ι:=Nat) (fun k=>k ≤ 5 ∧ ∀ p ∈ f.take k,(PU p).2 = true) (fun k=>yO [(2,.box 2 0),(3,.c (.b false)),(5,.row 5 1 0 0),(17,.c (.sl 1 (f.map sen))),(18,.c (.i 5)),(19,.c (.i k))] [(2,.box [.c (.i 0),.c (.i 0),.c (.i 0),.c (.i 0),.c (.i 0)]),(5,.row 1 ((nums f k).map yJ))]) (fun k=>5 - k) 0 ⟨by simp,by simp⟩ (by apply yj <;> simp [yXa]; try rfl) ?_
 rintro k ⟨hk5,hall⟩
 rcases Nat.lt_or_ge k 5 with klt | kge
 ·obtain ⟨p,hp⟩ : ∃ p,f[k]? = some p:=⟨_,List.getElem?_eq_getElem (by omega)⟩
  have gp:=(List.getElem?_eq_some_iff.1 hp).2
  have hpn : pn f k = ((PU p).1 : Int):=by unfold pn; rw [List.getD_eq_getElem?_getD,hp]; rfl
  have t1 : ((k : Int) < 5) = True:=eq_true (by omega)
  have hset:=yXk f klt
  have hnl:=yW6 f k
  have hkl : k < f.length:=by omega
  simp -dsimp -implicitDefEqProofs [hp,gp,hkl,t1,sen]
  refine yaQ (yW3 p) (by simp -dsimp -implicitDefEqProofs) rfl ?_
  cases hpu : (PU p).2 with
  | false =>
   obtain ⟨rfl,rfl⟩:=h2 (fun h=>by
    have:=(hr.1 h).2.1 p (List.mem_of_getElem? hp)
    rw [hpu] at this; cases this)
   simp -dsimp -implicitDefEqProofs [hpu,zeroE]
  | true =>
   obtain ⟨v,hv⟩ : ∃ v,(nums f k)[k]? = some v:=⟨_,List.getElem?_eq_getElem (by omega)⟩
   have hall2 : ∀ p ∈ f.take (k + 1),(PU p).2 = true:=fun q hq=>by
    rw [List.take_succ,hp] at hq
    rcases List.mem_append.1 hq with hq | hq
    ·exact hall q hq
    ·rw [List.mem_singleton.1 hq]; exact hpu
   rw [hpn] at hset
   simp -dsimp -implicitDefEqProofs [hpu,hv,t1]
   refine ⟨by omega,by unfold inI; omega,k + 1,⟨klt,hall2⟩,by omega,?_⟩
   apply yj <;> simp [hset]
 ·have hk : k = 5:=by omega
  subst hk
  rw [List.take_of_length_le (by omega)] at hall
  rw [yXi (.inr (Nat.le_refl 5))]
  simp -dsimp -implicitDefEqProofs
  refine yaQ (hOk) (by simp -dsimp -implicitDefEqProofs) rfl ?_
  cases hok : ycl ⟨pn f 0,pn f 1,pn f 2,pn f 3,pn f 4⟩ with
  | false =>
   obtain ⟨rfl,rfl⟩:=h2 (fun h=>by
    have:=(hr.1 h).2.2
    rw [hok] at this; cases this)
   simp -dsimp -implicitDefEqProofs [zeroE]
  | true =>
   obtain ⟨rfl,rfl⟩:=h1 (hr.2 ⟨h5,hall,hok⟩)
   simp -dsimp -implicitDefEqProofs
theorem yX9 : ∀ n : Nat,n ≠ 0 → Lib.decDigits n = yWH n:=by
 intro n
 induction n using Nat.strongRecOn with
 | ind n ih =>
  intro h0
  rw [Lib.decDigits,yWu h0]
  split
  ·rename_i h
   rw [show n / 10 = 0 by omega,show n % 10 = n by omega,yWn]
   rfl
  ·rename_i h
   rw [ih (n / 10) (by omega) (by omega)]
theorem yYm (n : Nat) : Lib.itoa (n : Int) = fmt n:=by
 rw [Lib.itoa_nonneg]
 unfold fmt
 split
 ·rename_i h; subst h; rw [Lib.decDigits]; rfl
 ·rename_i h; exact yX9 n h
theorem yYh : ∀ l : List (List UInt8),Lib.join l [32] = jn l
 | []=>rfl
 | [p]=>Lib.join_one p [32]
 | p :: q :: l=>by
  have ih:=yYh (q :: l)
  rw [Lib.join_cons] at ih ⊢
  rw [yWM,← ih]
  simp [Lib.joinTail]
def yYl (o : Go.Obj) : Prop:=∃ t f,o = .cells (Lib.pow10Tab.map fun z=>Value.int .u64 z).toArray t f
theorem yYn (o : Go.Obj) (ho : yYl o) (n : Nat) (h : n ≤ 1000000000) : yX6 Tryd.prog 29 1 o [.c (.i n)] (.c (.s (bs (fmt n)))):=by
 obtain ⟨t,fz,rfl⟩:=ho
 intro w G hG hGb hob vs hvs hv
 obtain ⟨u,hu,hr⟩:=hv 0 _ rfl
 have hr' : Rd w G u (.i n):=hr
 cases hr' with
 | i hn =>
  have e : vs = #[.int .i64 n]:=by
   apply Array.ext_getElem?
   intro i
   match i with
   | 0=>rw [hu]; rfl
   | i + 1=>rw [Array.getElem?_eq_none (by rw [hvs]; simp),Array.getElem?_eq_none (by simp)]
  subst e
  refine (Any.strconv_Itoa laysM171 n (by omega) (by omega) w (by
   unfold Lib.TabIs World.var?
   rw [laysM171.m17]
   show (match w.heap[1]? with | some (.cells cs _ _)=>some cs | _=>none) = _
   rw [hob])).mono ?_
  rintro e w' ⟨rfl,k,os,rfl⟩
  refine ⟨_,rfl,?_,?_⟩
  ·refine (below_drewN (Below.refl _ w) k).trans ⟨rfl,rfl,rfl,?_,fun i hi=>?_⟩
   ·show _ ≤ ((w.drewN k).heap ++ os).size
    simp
   show ((w.drewN k).heap ++ os)[i]? = _
   rw [Array.getElem?_append_left]
   have : (w.drewN k).heap = w.heap:=rfl
   rw [this]; exact hi
  ·rw [yYm]
   have:=(yXw h).1
   exact Rd.s (bs:=bs (fmt n)) (by rw [yWi]; unfold maxLen; omega)
theorem yYg (o : Go.Obj) (ho : yYl o) (n : Nat) (h : n ≤ 1000000000) : yX6 Tryd.prog 18 1 o [.c (.i n)] (.c (.s (bs (fmt n)))):=by
 refine yX8 yX5 (by simp) fun hwf=>?_
 simp -dsimp -implicitDefEqProofs
 refine yX7 (yYn o ho n h) (by simp -dsimp -implicitDefEqProofs) (by simp -dsimp -implicitDefEqProofs) rfl ?_
 simp -dsimp -implicitDefEqProofs
theorem yYc : ∀ l : List (List UInt8),(∀ p ∈ l,p.length ≤ 20) → (jn l).length ≤ 21 * l.length
 | [],_=>by simp [jn]
 | [p],h=>by have:=h p (by simp); rw [yXS]; simp; omega
 | p :: q :: l,h=>by
  have h1:=h p (by simp)
  have h2:=yYc (q :: l) fun r hr=>h r (List.mem_cons_of_mem _ hr)
  rw [yWM]
  simp only [List.length_append,List.length_cons] at h2 ⊢
  omega
theorem yYi {s : St} {d : Option Nat} {K : St → Prop} {id n : Nat} {ps : List (List UInt8)} (ho : s.ob id = .row 1 (ps.map sen)) (hn : ps.length = n) (h1 : 1 ≤ n) (h2 : n ≤ 1000) (hl : ∀ p ∈ ps,p.length ≤ 20)
 (hK : K (s.put d (.c (.s (bs (jn ps)))))) : yfo Tryd.prog 19 [.own id 1 n,.c (.s (bs [32]))] d s K:=by
 intro g a w blk h hd vs hvs hv
 obtain ⟨u0,hu0,hr0⟩:=hv 0 _ rfl
 obtain ⟨u1,hu1,hr1⟩:=hv 1 _ rfl
 have hr1' : Rd w (Good g s.objs blk w) u1 (.s (bs [32])):=hr1
 cases hr1' with
 | s _ =>
  obtain ⟨m,hm,hle,hr0⟩:=hr0
  have hO : s.objs id = .row 1 (ps.map sen):=ho
  have hob:=h.objs id
  rw [hO] at hob
  rcases hr0 with ⟨_,hz,_⟩ | ⟨b,cap,arr0,e0,hb,rfl,hc1,hc2,hh,_⟩
  ·omega
  rcases hob with ⟨e1,e2⟩ | ⟨q,arr,e,e1,e2,e3,e4,e5⟩
  ·have : ps = []:=by simpa using e2
   subst this
   simp at hn
   omega
  have hqb : q = b:=by
   have : blk.root id = some b:=hb
   rw [this] at e1
   exact (Option.some.inj e1).symm
  subst hqb
  have ev : vs = #[.slice (some ⟨q,0,none⟩) n cap,.string (bs [32])]:=by
   apply Array.ext_getElem?
   intro i
   match i with
   | 0=>rw [hu0]; rfl
   | 1=>rw [hu1]; rfl
   | i + 2=>rw [Array.getElem?_eq_none (by rw [hvs]; simp),Array.getElem?_eq_none (by simp)]
  subst ev
  have hcells : ∀ (j : Nat) (x : ByteArray),(ps.map bs)[j]? = some x → w.cell? ⟨q,0 + j,none⟩ = some (.string x):=by
   intro j x hj
   rw [List.getElem?_map] at hj
   obtain ⟨p,hp,rfl⟩:=Option.map_eq_some_iff.1 hj
   obtain ⟨u,hu,hru⟩:=e5 j (sen p) 0 (.s (bs p)) (by rw [List.getElem?_map,hp]; rfl) rfl
   cases hru
   rw [Nat.mul_one,Nat.add_zero] at hu
   simp [World.cell?,e2,hu]
  have hjl : (Lib.join ((ps.map bs).map (·.data.toList)) (bs [32]).data.toList) = jn ps:=by
   rw [List.map_map,yXt,← yYh]
   congr 1
   exact (List.map_congr_left fun p _=>yXt p).trans (List.map_id _)
  have hjlen:=yYc ps hl
  have hlt:=yw0 e2
  have hc:=Any.strings_Join lays156 bx156 q 0 cap (ps.map bs) (bs [32]) w hcells hlt (by simp; omega) (by simp; omega) (by rw [hjl]; omega)
  rw [hjl,List.length_map,hn] at hc
  refine hc.mono ?_
  rintro e w' ⟨rfl,hbel⟩
  refine ⟨_,rfl,_,blk,hK,(h.call hbel).put hd ?_⟩
  exact Rd.s (bs:=bs (jn ps)) (by rw [yWi]; unfold maxLen; omega)
def yYb (e : Entry) : List Nat:=[e.From.toNat,e.To.toNat,e.Amount.toNat,e.Time.toNat,e.Why.toNat]
theorem yYa (o : Go.Obj) (ho : yYl o) (e : Entry) : yX6 Tryd.prog 8 1 o [.agg (e.enc.map .c)] (.c (.s (bs (FE e)))):=by
 refine yX8 yX4 (by simp) fun hwf=>?_
 simp -dsimp -implicitDefEqProofs
 refine yaQ (ysa e) (by simp -dsimp -implicitDefEqProofs) rfl ?_
 cases he : ycl e with
 | false =>
  have h1 : FE e = []:=by unfold FE; rw [he]; rfl
  rw [h1]
  simp -dsimp -implicitDefEqProofs
  rfl
 | true =>
  have h1 : FE e = jn ((yYb e).map fmt):=by unfold FE; rw [he]; rfl
  have h2:=he
  simp only [ycl,inRange,Bool.and_eq_true,decide_eq_true_eq] at h2
  obtain ⟨⟨⟨⟨⟨a1,a2⟩,a3⟩,a4⟩,a5⟩,a6⟩:=h2
  have n1 : [C.i e.From] = ni e.From.toNat:=by unfold ni; rw [Int.toNat_of_nonneg (by omega)]
  have n2 : [C.i e.To] = ni e.To.toNat:=by unfold ni; rw [Int.toNat_of_nonneg (by omega)]
  have n3 : [C.i e.Amount] = ni e.Amount.toNat:=by unfold ni; rw [Int.toNat_of_nonneg (by omega)]
  have n4 : [C.i e.Time] = ni e.Time.toNat:=by unfold ni; rw [Int.toNat_of_nonneg (by omega)]
  have n5 : [C.i e.Why] = ni e.Why.toNat:=by unfold ni; rw [Int.toNat_of_nonneg (by omega)]
  have hn : ∀ n ∈ yYb e,n ≤ 1000000000:=by
   intro n hn
   simp only [yYb,List.mem_cons,List.mem_nil_iff,or_false] at hn
   omega
  have hrow : [ni e.From.toNat,ni e.To.toNat,ni e.Amount.toNat,ni e.Time.toNat,ni e.Why.toNat] = (yYb e).map ni:=rfl
  have hl5 : (yYb e).length = 5:=rfl
  rw [h1]
  simp -dsimp -implicitDefEqProofs [n1,n2,n3,n4,n5,hrow]
  refine ⟨fun _ _=>rfl,fun _=>?_⟩
  refine ymd (k0:=1) 3 1 (by simp) (by simp) (by decide) ?_
  generalize yYb e = ns at hn hl5 ⊢
  refine yg (ι:=Nat) (fun k=>k ≤ ns.length) (fun k=>yO [(1000000,.gl 1 o),(3,.own 3 1 k),(19,.own 19 1 5),(20,.c (.i 5)),(21,.c (.i k))] [(3,.row 1 (((ns.map fmt).take k).map sen)),(19,.row 1 (ns.map ni))]) (fun k=>ns.length - k) 0 (by simp) (by apply yj <;> simp [hl5]) ?_
  rintro k hk
  have hplen : ((ns.map fmt).take k).length = k:=by rw [List.length_take,List.length_map]; omega
  rcases Nat.lt_or_ge k ns.length with klt | kge
  ·obtain ⟨n,hnk⟩ : ∃ n,ns[k]? = some n:=⟨_,List.getElem?_eq_getElem klt⟩
   have gn:=(List.getElem?_eq_some_iff.1 hnk).2
   have t1 : ((k : Int) < 5) = True:=eq_true (by omega)
   have hsucc : (ns.map fmt).take (k + 1) = (ns.map fmt).take k ++ [fmt n]:=by rw [List.take_succ,List.getElem?_map,hnk]; rfl
   generalize (ns.map fmt).take k = ps at hplen hsucc ⊢
   simp -dsimp -implicitDefEqProofs [hnk,gn,klt,t1,ni]
   refine yX7 (yYg o ho n (hn n (List.mem_of_getElem? hnk))) (by simp -dsimp -implicitDefEqProofs) (by simp -dsimp -implicitDefEqProofs) rfl ?_
   simp -dsimp -implicitDefEqProofs
   refine ⟨by omega,by omega,by unfold inI; omega,k + 1,klt,by omega,?_⟩
   have hs2 : (ns.map (sen ∘ fmt)).take (k + 1) = ps.map sen ++ [[C.s (bs (fmt n))]]:=by
    have h3:=congrArg (List.map sen) hsucc
    rw [List.map_take,List.map_map,List.map_append] at h3
    exact h3
   apply yj <;> simp [hs2,hplen]
  ·have hk5 : k = 5:=by omega
   subst hk5
   rw [List.take_of_length_le (by simp; omega)]
   have b32 : (⟨#[32]⟩ : ByteArray) = bs [32]:=rfl
   simp -dsimp -implicitDefEqProofs [b32]
   refine yYi (ps:=ns.map fmt) (by simp -dsimp -implicitDefEqProofs) (by simp [hl5]) (by omega) (by omega) ?_ ?_
   ·intro p hp
    obtain ⟨n,hn1,rfl⟩:=List.mem_map.1 hp
    have:=(yXw (hn n hn1)).1
    omega
   ·simp -dsimp -implicitDefEqProofs
theorem yY4 {a m : Int} (h0 : 0 ≤ m) (h1 : m ≤ 9223372036854775807) : 0 ≤ yBs a m ∧ yBs a m ≤ m:=by
 unfold yBs
 have h2 : (BitVec.ofInt 64 m).toNat = m.toNat:=by
  rw [BitVec.toNat_ofInt,Int.emod_eq_of_lt h0 (by omega)]
 have h3 : (BitVec.ofInt 64 a &&& BitVec.ofInt 64 m).toNat ≤ m.toNat:=by rw [BitVec.toNat_and,h2]; exact Nat.and_le_right
 rw [yfr (yZW (by omega) (by omega))]
 omega
def yZn (n : Nat) : List C:=[.u n]
def hNext (h : Int) : Int:=IntKind.i64.wrap (IntKind.i64.wrap (h * 6364136223846793005) + 1442695040888963407)
def yZr (h : Int) : Int:=yBs (yA5 (ytW (hNext h) 33) (ytW (hNext h) 45)) 255
def yYK (code : List UInt8) (p : Nat × Int) : List C:=[.sl 1 (code.map yvZ),.i p.1,.i p.2]
def yYu (code : List UInt8) (p : Nat × Int) : Nat × Int:=(if p.1 < code.length then p.1 + 1 else p.1,hNext p.2)
def yYI (code : List UInt8) (p : Nat × Int) : Int :=
 match code[p.1]? with
 | some b=>yBs (yZr p.2 + b.toNat) 255
 | none=>yZr p.2
theorem yYz {code : List UInt8} {p : Nat × Int} (h : p.1 ≤ code.length) : (yYu code p).1 ≤ code.length:=by
 unfold yYu; dsimp only; split <;> omega
theorem yYA (code : List UInt8) (p : Nat × Int) : 0 ≤ yYI code p ∧ yYI code p ≤ 255:=by
 unfold yYI
 split
 ·exact yY4 (by omega) (by omega)
 ·exact yY4 (by omega) (by omega)
theorem yZH (h : Int) : 0 ≤ yZr h ∧ yZr h ≤ 255:=yY4 (by omega) (by omega)
theorem yZQ (b : UInt8) : b.toNat ≤ 255:=by have:=b.toNat_lt; omega
theorem yYH (code : List UInt8) (p : Nat × Int) (hp : p.1 ≤ code.length) : yZB Tryd.prog 43 (yYK code p) (yYK code (yYu code p)) [] (.c (.i (yYI code p))):=by
 refine yZh yZb (by simp) fun hwf hwf2=>?_
 cases hb : code[p.1]? with
 | none =>
  have hge : code.length ≤ p.1:=by simpa using hb
  have hnl : (p.1 < code.length) = False:=by simp; omega
  simp -dsimp -implicitDefEqProofs [yYE,yYK,hnl]
  intro _
  simp [yYu,yYI,hNext,yZr,hb,hnl]
 | some b =>
  have hlt : p.1 < code.length:=(List.getElem?_eq_some_iff.1 hb).1
  have hr:=yZH p.2
  have g1:=(List.getElem?_eq_some_iff.1 hb).2
  have h8:=yZQ b
  simp only [yZr,hNext] at hr
  simp -dsimp -implicitDefEqProofs [yYE,yYK,hb,g1,hlt,yvZ]
  refine fun hl=>⟨by unfold inI; omega,by unfold maxLen at hl; unfold inI; omega,?_⟩
  simp [yYu,yYI,hNext,yZr,hb,g1,hlt]
def yYs (code : List UInt8) (n : Int) (p : Nat × Int) : Nat × Int :=
 if n ≤ 256 then yYu code p else yYu code (yYu code (yYu code (yYu code p)))
def yYv (code : List UInt8) (n : Int) (p : Nat × Int) : Int :=
 if n ≤ 256 then (yYI code p).tmod n
 else (yYI code p * 16777216 + yYI code (yYu code p) * 65536 + yYI code (yYu code (yYu code p)) * 256 + yYI code (yYu code (yYu code (yYu code p)))).tmod n
theorem yYt {code : List UInt8} {n : Int} {p : Nat × Int} (h : p.1 ≤ code.length) : (yYs code n p).1 ≤ code.length:=by
 unfold yYs
 split
 ·exact yYz h
 ·exact yYz (yYz (yYz (yYz h)))
theorem yYw {code : List UInt8} {n : Int} {p : Nat × Int} (hn : 1 ≤ n) : 0 ≤ yYv code n p ∧ yYv code n p < n:=by
 have h1:=yYA code p
 have h2:=yYA code (yYu code p)
 have h3:=yYA code (yYu code (yYu code p))
 have h4:=yYA code (yYu code (yYu code (yYu code p)))
 unfold yYv
 split
 ·rw [Int.tmod_eq_emod_of_nonneg (by omega)]
  exact ⟨Int.emod_nonneg _ (by omega),Int.emod_lt_of_pos _ (by omega)⟩
 ·rw [Int.tmod_eq_emod_of_nonneg (by omega)]
  exact ⟨Int.emod_nonneg _ (by omega),Int.emod_lt_of_pos _ (by omega)⟩
theorem yYB (code : List UInt8) (n : Int) (p : Nat × Int) (hp : p.1 ≤ code.length) (hn : 1 ≤ n) (hn2 : n ≤ 1000000) : yZB Tryd.prog 34 (yYK code p) (yYK code (yYs code n p)) [.c (.i n)] (.c (.i (yYv code n p))):=by
 refine yZh yY0 (by simp) fun hwf hwf2=>?_
 simp -dsimp -implicitDefEqProofs
 have n0 : (n ≤ 0) = False:=by simp; omega
 simp -dsimp -implicitDefEqProofs [n0]
 have hv:=yYw (code:=code) (p:=p) hn
 refine fun _=>⟨fun h=>?_,fun h=>?_⟩
 ·skip
  simp only [yYv,yYs,if_pos h] at hv ⊢
  refine yYx (yYH code p hp) (by simp ) (by simp) rfl (by simp [yU]) ?_
  simp -dsimp -implicitDefEqProofs
  refine ⟨by omega,by unfold inI; omega,?_⟩
  simp [h]; intros; omega
 ·skip
  have h' : ¬ n ≤ 256:=by omega
  simp only [yYv,yYs,if_neg h'] at hv ⊢
  have h1:=yYA code p
  have h2:=yYA code (yYu code p)
  have h3:=yYA code (yYu code (yYu code p))
  have h4:=yYA code (yYu code (yYu code (yYu code p)))
  refine yYx (yYH code p hp) (by simp ) (by simp) rfl (by simp [yU]) ?_
  simp -dsimp -implicitDefEqProofs
  refine yYx (yYH code (yYu code p) (yYz hp)) (by simp ) (by simp) rfl (by simp [yU]) ?_
  simp -dsimp -implicitDefEqProofs
  refine yYx (yYH code (yYu code (yYu code p)) (yYz (yYz hp))) (by simp ) (by simp) rfl (by simp [yU]) ?_
  simp -dsimp -implicitDefEqProofs
  refine yYx (yYH code (yYu code (yYu code (yYu code p))) (yYz (yYz (yYz hp)))) (by simp ) (by simp) rfl (by simp [yU]) ?_
  simp -dsimp -implicitDefEqProofs
  refine ⟨by unfold inI; omega,by unfold inI; omega,by unfold inI; omega,by unfold inI; omega,by unfold inI; omega,by unfold inI; omega,by omega,by unfold inI; omega,?_⟩
  simp [h']
def yZj (code : List UInt8) (p : Nat × Int) : Nat × Int:=yYs code 90 (yYs code 90 (yYs code 500 (yYs code 5 (yYs code 12 p))))
def yYM (code : List UInt8) (p : Nat × Int) : Entry :=
 ⟨yYv code 12 p,(yYv code 12 p + 1 + yYv code 5 (yYs code 12 p)).tmod 12,1 + yYv code 500 (yYs code 5 (yYs code 12 p)),
  yYv code 90 (yYs code 500 (yYs code 5 (yYs code 12 p))),yYv code 90 (yYs code 90 (yYs code 500 (yYs code 5 (yYs code 12 p))))⟩
theorem yZC {code : List UInt8} {p : Nat × Int} (h : p.1 ≤ code.length) : (yZj code p).1 ≤ code.length:=yYt (yYt (yYt (yYt (yYt h))))
theorem yZA (code : List UInt8) (p : Nat × Int) : ycl (yYM code p) = true ∧ (yYM code p).Amount ≤ 500:=by
 have h1:=yYw (code:=code) (n:=12) (p:=p) (by omega)
 have h2:=yYw (code:=code) (n:=5) (p:=yYs code 12 p) (by omega)
 have h3:=yYw (code:=code) (n:=500) (p:=yYs code 5 (yYs code 12 p)) (by omega)
 have h4:=yYw (code:=code) (n:=90) (p:=yYs code 500 (yYs code 5 (yYs code 12 p))) (by omega)
 have h5:=yYw (code:=code) (n:=90) (p:=yYs code 90 (yYs code 500 (yYs code 5 (yYs code 12 p)))) (by omega)
 unfold yYM
 generalize yYv code 12 p = a at *
 generalize yYv code 5 (yYs code 12 p) = b at *
 generalize yYv code 500 (yYs code 5 (yYs code 12 p)) = c at *
 generalize yYv code 90 (yYs code 500 (yYs code 5 (yYs code 12 p))) = d at *
 generalize yYv code 90 (yYs code 90 (yYs code 500 (yYs code 5 (yYs code 12 p)))) = e at *
 rw [Int.tmod_eq_emod_of_nonneg (by omega)]
 simp only [ycl,Bool.and_eq_true,decide_eq_true_eq,yF]
 omega
theorem yZo (code : List UInt8) (p : Nat × Int) (hp : p.1 ≤ code.length) : yZB Tryd.prog 35 (yYK code p) (yYK code (yZj code p)) [] (.agg ((yYM code p).enc.map .c)):=by
 refine yZh yYZ (by simp) fun hwf hwf2=>?_
 have h1:=yYw (code:=code) (n:=12) (p:=p) (by omega)
 have h2:=yYw (code:=code) (n:=5) (p:=yYs code 12 p) (by omega)
 have h3:=yYw (code:=code) (n:=500) (p:=yYs code 5 (yYs code 12 p)) (by omega)
 have ht : 0 ≤ (yYv code 12 p + 1 + yYv code 5 (yYs code 12 p)).tmod 12 ∧ (yYv code 12 p + 1 + yYv code 5 (yYs code 12 p)).tmod 12 < 12:=by
  rw [Int.tmod_eq_emod_of_nonneg (by omega)]; omega
 simp -dsimp -implicitDefEqProofs
 refine yYx (yYB code 12 p hp (by omega) (by omega)) (by simp ) (by simp) rfl (by simp [yU]) ?_
 simp -dsimp -implicitDefEqProofs
 refine ⟨by unfold inI; omega,?_⟩
 refine yYx (yYB code 5 (yYs code 12 p) (yYt hp) (by omega) (by omega)) (by simp ) (by simp) rfl (by simp [yU]) ?_
 simp -dsimp -implicitDefEqProofs
 refine ⟨by unfold inI; omega,by unfold inI; omega,?_⟩
 refine yYx (yYB code 500 (yYs code 5 (yYs code 12 p)) (yYt (yYt hp)) (by omega) (by omega)) (by simp ) (by simp) rfl (by simp [yU]) ?_
 simp -dsimp -implicitDefEqProofs
 refine ⟨by unfold inI; omega,?_⟩
 refine yYx (yYB code 90 (yYs code 500 (yYs code 5 (yYs code 12 p))) (yYt (yYt (yYt hp))) (by omega) (by omega)) (by simp ) (by simp) rfl (by simp [yU]) ?_
 simp -dsimp -implicitDefEqProofs
 refine yYx (yYB code 90 (yYs code 90 (yYs code 500 (yYs code 5 (yYs code 12 p)))) (yYt (yYt (yYt (yYt hp)))) (by omega) (by omega)) (by simp ) (by simp) rfl (by simp [yU]) ?_
 simp -dsimp -implicitDefEqProofs
 simp [yZj,yYM]
def yOM (code : List UInt8) (p : Nat × Int) : Nat → Nat × Int
 | 0=>p
 | k + 1=>yZj code (yOM code p k)
theorem yZt {code : List UInt8} {p : Nat × Int} (h : p.1 ≤ code.length) : ∀ k : Nat,(yOM code p k).1 ≤ code.length
 | 0=>h
 | k + 1=>yZC (yZt h k)
def yZa (code : List UInt8) (p : Nat × Int) (k : Nat) : List Entry:=(List.range k).map fun i=>yYM code (yOM code p i)
theorem yZz {code : List UInt8} {p : Nat × Int} {k : Nat} : yZa code p (k + 1) = yZa code p k ++ [yYM code (yOM code p k)]:=by simp [yZa,List.range_succ]
theorem yZm {code : List UInt8} {p : Nat × Int} {k : Nat} : (yZa code p k).length = k:=by simp [yZa]
theorem yZO {code : List UInt8} {p : Nat × Int} {k : Nat} : ∀ e ∈ yZa code p k,ycl e = true ∧ e.Amount ≤ 500:=by
 intro e he
 obtain ⟨i,_,rfl⟩:=List.mem_map.1 he
 exact yZA _ _
def yYV (code : List UInt8) (p : Nat × Int) : Nat:=(yYv code 9 p).toNat
def yZS (code : List UInt8) (p : Nat × Int) : Nat × Int:=yOM code (yYs code 9 p) (yYV code p)
def yZu (code : List UInt8) (p : Nat × Int) : List Entry:=yZa code (yYs code 9 p) (yYV code p)
theorem yZk (code : List UInt8) (p : Nat × Int) : (yYV code p : Int) = yYv code 9 p ∧ yYV code p ≤ 8:=by
 have h:=yYw (code:=code) (n:=9) (p:=p) (by omega)
 unfold yYV; omega
theorem yZw (code : List UInt8) (p : Nat × Int) (hp : p.1 ≤ code.length) : yZB Tryd.prog 24 (yYK code p) (yYK code (yZS code p)) [] (.c (.ow 5 ((yZu code p).map Entry.enc))):=by
 refine yZh yY6 (by simp) fun hwf hwf2=>?_
 have hk:=yZk code p
 have hq:=yYt (n:=9) hp
 simp -dsimp -implicitDefEqProofs
 refine yYx (yYB code 9 p hp (by omega) (by omega)) (by simp ) (by simp) rfl (by simp [yU]) ?_
 have ebn : yZS code p = yOM code (yYs code 9 p) (yYV code p):=rfl
 have ebv : yZu code p = yZa code (yYs code 9 p) (yYV code p):=rfl
 simp -dsimp -implicitDefEqProofs [ebn,ebv]
 generalize yYs code 9 p = q at *
 rw [← hk.1]
 have hk8:=hk.2
 generalize yYV code p = n at *
 refine yg (ι:=Nat) (fun j=>j ≤ n) (fun j=>yO [(0,.box 0 0),(1000000,.box 0 0),(3,.own 5 5 (yZa code q j).length),(4,.c (.i (n - j)))] [(0,.box ((yYK code (yOM code q j)).map .c)),(5,.row 5 ((yZa code q j).map Entry.enc))]) (fun j=>n - j) 0 (by simp) (by apply yj <;> simp [yOM,yZa]) ?_
 rintro j hj
 rcases Nat.lt_or_ge j n with hlt | hge
 ·have hgt : (0 < (n : Int) - (j : Int)) = True:=by simp; omega
  simp -dsimp -implicitDefEqProofs [hgt]
  refine ⟨fun _=>?_,fun h=>by omega⟩
  refine yYx (yZo code (yOM code q j) (yZt hq j)) (by simp ) (by simp) rfl (by simp [yU]) ?_
  simp -dsimp -implicitDefEqProofs
  refine ⟨by rw [yZm]; omega,by unfold inI; omega,j + 1,hlt,by omega,?_⟩
  apply yj <;> simp [yOM,yZz] <;> omega
 ·have hgt : (0 < (n : Int) - (j : Int)) = False:=by simp; omega
  have : j = n:=by omega
  subst this
  simp -dsimp -implicitDefEqProofs [hgt]
  rw [ebn,ebv,yt]; exact ⟨rfl,rfl⟩
def yZl (h : Int) (b : UInt8) : Int:=yBs (h * 131 + b.toNat + 7) 1073741823
def yYF (code : List UInt8) (k : Nat) : Int:=(code.take k).foldl yZl (33173 + code.length)
def hash (code : List UInt8) : Int:=yYF code (min code.length 4000)
theorem yYX {code : List UInt8} : yYF code 0 = 33173 + code.length:=rfl
theorem yYW {code : List UInt8} {k : Nat} {b : UInt8} (h : code[k]? = some b) : yYF code (k + 1) = yZl (yYF code k) b:=by
 unfold yYF; rw [List.take_succ,h,List.foldl_append]; rfl
theorem yZy (h : Int) (b : UInt8) : 0 ≤ yZl h b ∧ yZl h b ≤ 1073741823:=yY4 (by omega) (by omega)
theorem yY8 {code : List UInt8} (hl : code.length ≤ 1048576) : ∀ k : Nat,0 ≤ yYF code k ∧ yYF code k ≤ 1073741823
 | 0=>by rw [yYX]; omega
 | k + 1=>by
  cases h : code[k]? with
  | none =>
   have hk : code.length ≤ k:=by simpa using h
   have : yYF code (k + 1) = yYF code k:=by unfold yYF; rw [List.take_of_length_le (by omega),List.take_of_length_le hk]
   rw [this]; exact yY8 hl k
  | some b=>rw [yYW h]; exact yZy _ _
theorem yZD (code : List UInt8) (hl : code.length ≤ 1048576) : ybh Tryd.prog 25 [.c (.sl 1 (code.map yvZ))] (.c (.bx (yYK code (0,hash code)))):=by
 refine yan yZe ?_
 simp -dsimp -implicitDefEqProofs
 refine fun hlen=>⟨by unfold inI; omega,?_⟩
 refine yg (ι:=Nat) (fun k=>k ≤ min code.length 4000) (fun k=>yO [(0,.c (.sl 1 (code.map yvZ))),(3,.c (.i (yYF code k))),(4,.c (.i k))] []) (fun k=>min code.length 4000 - k) 0 (by simp) (by apply yj <;> simp [yYX]) ?_
 rintro k hk
 have hr:=yY8 hl k
 rcases Nat.lt_or_ge k code.length with hlt | hge
 ·obtain ⟨b,hb⟩ : ∃ b,code[k]? = some b:=⟨_,List.getElem?_eq_getElem hlt⟩
  have g1:=(List.getElem?_eq_some_iff.1 hb).2
  have h8:=yZQ b
  have hs:=yYW hb
  simp only [yZl] at hs
  simp -dsimp -implicitDefEqProofs [hb,g1,hlt,yvZ]
  refine fun _=>⟨fun h4=>⟨by unfold inI; omega,by unfold inI; omega,by unfold inI; omega,by unfold inI; omega,k + 1,by omega,by omega,?_⟩,fun h4=>?_⟩
  ·apply yj <;> simp [hs]
  ·have e : min code.length 4000 = k:=by omega
   simp [yYK,hash,e,C.plain]
 ·have hnl : (k < code.length) = False:=by simp; omega
  simp -dsimp -implicitDefEqProofs [hnl]
  intro _
  have e : min code.length 4000 = k:=by omega
  simp [yYK,hash,e,C.plain]
def yYD (code : List UInt8) : List Entry:=yZu code (0,hash code)
theorem yZi (code : List UInt8) : (yYD code).length ≤ 8 ∧ ∀ e ∈ yYD code,ycl e = true ∧ e.Amount ≤ 500:=by
 refine ⟨?_,yZO⟩
 unfold yYD yZu
 rw [yZm]
 exact (yZk _ _).2
theorem yZp (code : List UInt8) (hl : code.length ≤ 1048576) : ybh Tryd.prog 13 [.c (.sl 1 (code.map yvZ))] (.c (.ow 5 ((yYD code).map Entry.enc))):=by
 refine yan yY1 ?_
 have hpl : (∀ x,x ∈ yYK code (0,hash code) → x.plain = true) = True:=by simp [yYK,C.plain]
 simp -dsimp -implicitDefEqProofs
 refine yjo (yZD code hl) (by simp) rfl (by simp [yU,hpl]) ?_
 simp -dsimp -implicitDefEqProofs [hpl]
 refine yYx (yZw code (0,hash code) (by simp)) (by simp [hpl]) (by simp) rfl (by simp [yU,hpl]) ?_
 simp -dsimp -implicitDefEqProofs
 simp [yYD,yt]
theorem yZI {x : List Nat} (h : (C.sl 1 (x.map yZn)).WF) : ∃ code : List UInt8,x.map yZn = code.map yvZ:=by
 simp only [C.WF] at h
 refine ⟨x.map fun n=>UInt8.ofNat n,?_⟩
 rw [List.map_map]
 apply List.map_congr_left
 intro n hn
 have h1:=(h.2 _ (List.mem_map_of_mem hn)).2 (.u n) (by simp [yZn])
 simp only [C.WF] at h1
 simp [yZn,yvZ,Nat.mod_eq_of_lt h1]
theorem big_c (code : List UInt8) : yB Tryd.prog 12 [.c (.sl 1 (code.map yvZ))] (.c (.b (decide (1048576 < code.length)))):=by
 refine yh yZq ?_
 simp -dsimp -implicitDefEqProofs
 intro _
 omega
theorem yZd (a b : List Entry) : yB Tryd.prog 14 [.c (.sl 5 (a.map Entry.enc)),.c (.sl 5 (b.map Entry.enc))] (.c (.b (decide (a = b)))):=by
 refine yh yYO ?_
 simp -dsimp -implicitDefEqProofs
 intro hlen1 hlen2
 refine ⟨fun h=>?_,fun h=>?_⟩
 ·have : a ≠ b:=fun e=>h (by rw [e])
  simp [this]
 have hl : a.length = b.length:=by omega
 refine yg (ι:=Nat) (fun k=>k ≤ a.length ∧ a.take k = b.take k) (fun k=>yO [(0,.c (.sl 5 (a.map Entry.enc))),(1,.c (.sl 5 (b.map Entry.enc))),(5,.c (.i k))] []) (fun k=>a.length - k) 0 (by simp) (by apply yj <;> simp) ?_
 rintro k ⟨hk,he⟩
 rcases Nat.lt_or_ge k a.length with hlt | hge
 ·obtain ⟨u,hu⟩ : ∃ u,a[k]? = some u:=⟨_,List.getElem?_eq_getElem hlt⟩
  obtain ⟨v,hv⟩ : ∃ v,b[k]? = some v:=⟨_,List.getElem?_eq_getElem (by omega)⟩
  have g1:=(List.getElem?_eq_some_iff.1 hu).2
  have g2:=(List.getElem?_eq_some_iff.1 hv).2
  have hlt2 : k < b.length:=by omega
  simp -dsimp -implicitDefEqProofs [hu,hv,g1,g2,hlt,hlt2,yG hlt]
  refine fun _=>⟨fun h e=>?_,fun e1 e2 e3 e4 e5=>⟨yw hlt hlen1,k + 1,⟨hlt,?_⟩,by omega,?_⟩⟩
  ·subst e
   rw [hu] at hv
   cases hv
   simp at h
  ·have huv : u = v:=by cases u; cases v; simp_all
   rw [List.take_succ,List.take_succ,he,hu,hv,huv]
  ·apply yj <;> simp
 ·simp -dsimp -implicitDefEqProofs [lt_f hge]
  rw [List.take_of_length_le hge,List.take_of_length_le (by omega)] at he
  simp [he]
theorem yY7 (e : Entry) (he : ycl e = true) : e = ⟨(e.From.toNat : Int),(e.To.toNat : Int),(e.Amount.toNat : Int),(e.Time.toNat : Int),(e.Why.toNat : Int)⟩ ∧ ∀ n ∈ yYb e,n ≤ 1000000000:=by
 simp only [ycl,inRange,Bool.and_eq_true,decide_eq_true_eq] at he
 obtain ⟨⟨⟨⟨⟨a1,a2⟩,a3⟩,a4⟩,a5⟩,a6⟩:=he
 refine ⟨?_,fun n hn=>?_⟩
 ·rw [Int.toNat_of_nonneg (by omega),Int.toNat_of_nonneg (by omega),Int.toNat_of_nonneg (by omega),Int.toNat_of_nonneg (by omega),Int.toNat_of_nonneg (by omega)]
 ·simp only [yYb,List.mem_cons,List.mem_nil_iff,or_false] at hn
  omega
theorem yZE {e : Entry} (he : ycl e = true) : FE e = jn ((yYb e).map fmt):=by unfold FE; rw [if_pos he]; rfl
theorem yY5 (e : Entry) : ∀ p ∈ (yYb e).map fmt,(32 : UInt8) ∉ p:=by
 intro p hp
 obtain ⟨n,_,rfl⟩:=List.mem_map.1 hp
 exact yXR
theorem yY9 {e : Entry} (he : ycl e = true) : yWh 32 (FE e) = (yYb e).map fmt:=by
 rw [yZE he]
 exact yXj (by simp [yYb]) (yY5 e)
theorem yZv {e : Entry} (he : ycl e = true) : yWw (FE e) = e:=by
 obtain ⟨h1,h2⟩:=yY7 e he
 unfold yWw
 rw [yY9 he]
 have hp : ∀ n ∈ yYb e,((PU (fmt n)).1 : Int) = n:=fun n hn=>by rw [yW7 (h2 n hn)]
 conv=>rhs; rw [h1]
 show Entry.mk ((PU (fmt e.From.toNat)).1 : Int) ((PU (fmt e.To.toNat)).1 : Int) ((PU (fmt e.Amount.toNat)).1 : Int) ((PU (fmt e.Time.toNat)).1 : Int) ((PU (fmt e.Why.toNat)).1 : Int) = _
 rw [hp e.From.toNat (by simp [yYb]),hp e.To.toNat (by simp [yYb]),hp e.Amount.toNat (by simp [yYb]),hp e.Time.toNat (by simp [yYb]),hp e.Why.toNat (by simp [yYb])]
theorem yZJ {e : Entry} (he : ycl e = true) : yWB (FE e):=by
 refine ⟨by rw [yY9 he]; simp [yYb],fun p hp=>?_,by rw [yZv he]; exact he⟩
 rw [yY9 he] at hp
 obtain ⟨n,hn,rfl⟩:=List.mem_map.1 hp
 rw [yW7 ((yY7 e he).2 n hn)]
theorem yZN {e : Entry} (he : ycl e = true) : ¬ yWB (FE e ++ [32,49]):=by
 intro h
 have h1 : FE e ++ [32,49] = jn ((yYb e).map fmt ++ [[49]]):=by
  rw [yXs _ (by simp [yYb]),yZE he]
 have h2:=h.1
 rw [h1,yXj (by simp) (fun p hp=>by
  rcases List.mem_append.1 hp with hp | hp
  ·exact yY5 e p hp
  ·rw [List.mem_singleton.1 hp]; decide)] at h2
 simp [yYb] at h2
theorem yZ0 {e : Entry} (he : ycl e = true) : (FE e).length ≤ 105:=by
 rw [yZE he]
 have h:=yYc ((yYb e).map fmt) (fun p hp=>by
  obtain ⟨n,hn,rfl⟩:=List.mem_map.1 hp
  have:=(yXw ((yY7 e he).2 n hn)).1
  omega)
 simpa [yYb] using h
set_option maxRecDepth 20000 in
theorem yZc (o : Go.Obj) (ho : yYl o) (x0 : List Nat) : yX6 Tryd.prog 5 1 o [.c (.sl 1 (x0.map yZn))] (.c (.b true)):=by
 refine yX8 yYL (by simp) fun hwf=>?_
 obtain ⟨code,hcode⟩:=yZI (x:=x0) hwf.1
 rw [hcode]
 clear hwf
 simp -dsimp -implicitDefEqProofs
 refine yc (big_c code) ?_
 simp -dsimp -implicitDefEqProofs
 intro hl
 obtain ⟨d1,d2⟩:=yZi code
 refine yQ (yZp code hl) (by simp ) (by simp [AV.closed,AV.ya7,C.closed]) (by simp [yU]) ?_
 simp -dsimp -implicitDefEqProofs
 generalize yYD code = es at *
 refine yg (ι:=Nat) (fun k=>k ≤ es.length) (fun k=>yO [(1000000,.gl 1 o),(3,.own 14 5 es.length),(4,.own 15 5 k),(5,.c (.i k))] [(14,.row 5 (es.map Entry.enc)),(15,.row 5 ((es.take k).map Entry.enc))]) (fun k=>es.length - k) 0 (by simp) (by apply yj <;> simp) ?_
 rintro k hk
 have htl : (es.take k).length = k:=by rw [List.length_take]; omega
 rcases Nat.lt_or_ge k es.length with klt | kge
 ·obtain ⟨e,he⟩ : ∃ e,es[k]? = some e:=⟨_,List.getElem?_eq_getElem klt⟩
  have g1:=(List.getElem?_eq_some_iff.1 he).2
  have hok:=(d2 e (List.mem_of_getElem? he)).1
  have htk : es.take (k + 1) = es.take k ++ [e]:=by rw [List.take_succ,he]; rfl
  have hfl:=yZ0 hok
  have hr:=yZJ hok
  have hsp:=yZv hok
  have hbad:=yZN hok
  have p1:=yWW (FE e) (by omega) e true (fun _=>⟨hsp.symm,rfl⟩) (fun h=>absurd hr h)
  have p2:=yWW (FE e ++ [32,49]) (by simp; omega) zeroE false (fun h=>absurd h hbad) (fun _=>⟨rfl,rfl⟩)
  have b2 : (⟨#[32,49]⟩ : ByteArray) = bs [32,49]:=rfl
  generalize es.take k = done at htl htk ⊢
  simp -dsimp -implicitDefEqProofs [he,g1,klt,yG klt]
  intro _
  refine yX7 (yYa o ho e) (by simp -dsimp -implicitDefEqProofs) (by simp -dsimp -implicitDefEqProofs) rfl ?_
  simp -dsimp -implicitDefEqProofs
  refine yaQ (p1) (by simp -dsimp -implicitDefEqProofs) rfl ?_
  simp -dsimp -implicitDefEqProofs [b2,yXb,yWi]
  refine ⟨by unfold maxLen; omega,?_⟩
  refine yaQ (p2) (by simp -dsimp -implicitDefEqProofs) rfl ?_
  simp -dsimp -implicitDefEqProofs
  have hs2 : (es.map Entry.enc).take (k + 1) = done.map Entry.enc ++ [[.i e.From,.i e.To,.i e.Amount,.i e.Time,.i e.Why]]:=by
   have h3:=congrArg (List.map Entry.enc) htk
   rw [List.map_take,List.map_append] at h3
   exact h3
  refine ⟨htl.symm,by omega,by unfold inI; omega,k + 1,klt,by omega,?_⟩
  apply yj <;> simp [hs2,htl]
 ·obtain rfl : k = es.length:=by omega
  rw [List.take_of_length_le kge]
  simp -dsimp -implicitDefEqProofs
  intro _
  refine yaQ (yZd es es) (by simp [yt]) rfl ?_
  simp -dsimp -implicitDefEqProofs
theorem yZF {xs : List C} (h : Fits [.u] xs) : ∃ n : Nat,xs = yZn n:=by
 obtain ⟨c0,ys,rfl,h0,h⟩:=h.cons_inv
 obtain rfl:=h.ycx
 obtain ⟨n0,rfl⟩:=h0.u_inv
 exact ⟨n0,rfl⟩
theorem yYR : IsLaw Rows.fnEntryTextSpec Tryd.f5.params.size:=by
 refine ⟨rfl,fun H ds h=>?_⟩
 match ds,h with
 | [d0],_=>rfl
theorem yYJ : LawFacts Tryd.prog Tryd.f5 (Tryd.f5.resultTypes.getD 0 0) [(false,[.sl [.u]])] :=
 ⟨yrS,by kernel_rfl,by kernel_rfl,by kernel_rfl,by kernel_rfl⟩
theorem yYY (os : Os) (args : Array Value) : laidMetH Tryd.prog Rows.fnEntryTextRow.laid ((World.laidAll Tryd.prog os Rows.fnEntryTextRow.laid).forCall (fun _ _=>0) ⟨#[],args,[]⟩).memory:=by
 exact yV7 (by kernel_rfl) (laidMet_laidAll _ (by kernel_rfl) (by kernel_rfl))
theorem yZx {H : Type} : (Rows.laid_internal_strconv_uint64pow10 : DataW H) = Lib.tabData .u64 Lib.pow10Tab:=by kernel_rfl
theorem yZK (W : World) (h : laidMetH Tryd.prog Rows.fnEntryTextRow.laid W) : ∃ o,W.heap[1]? = some o ∧ yYl o:=by
 have h1:=yYj (by kernel_rfl) h
 have h2 : laidMet Tryd.prog ((_,Rows.laid_internal_strconv_uint64pow10) :: _) W:=(laidMet.tail h1).tail
 rw [yZx] at h2
 have h3:=Lib.tabIs_of_head (t:=88) (e:=81) (n:=20) laysM171.m17 (by kernel_rfl) (by kernel_rfl) (by kernel_rfl) (by kernel_rfl) (by kernel_rfl) h2
 unfold Lib.TabIs World.var? at h3
 rw [laysM171.m17] at h3
 have h4 : (match (W.heap[1]? : Option Go.Obj) with | some (Go.Obj.cells cs _ _)=>some cs | _=>none) = some (Lib.pow10Tab.map fun z=>Value.int .u64 z).toArray:=h3
 split at h4
 ·rename_i cs t f hh
  cases h4
  exact ⟨_,hh,t,f,rfl⟩
 ·cases h4
set_option maxRecDepth 100000 in
theorem yYN (os : Os) (started : os.Started) (H : Type) (enc : TypeId × Value → H) :
 ReturnsInHanded {} Tryd.checked os 5 .any (fun w args=>(Rows.fnEntryTextSpec.pre enc Tryd.prog Tryd.f5 Rows.fnEntryTextRow.domain false w args ∧ laidMetH Tryd.prog Rows.fnEntryTextRow.laid w) ∧ sizedMet enc Tryd.prog Tryd.f5 (OpenSpec.ofChange Rows.fnEntryTextSpec) false w args) (Rows.fnEntryTextSpec.post enc Tryd.prog Tryd.f5 false true false false):=by
 refine yYe (C:=Tryd.checked) yt1 started (by kernel_rfl) Tryd.func5
  (ChangeSpec.witness_shaped (enc:=enc) (C:=Tryd.checked) (os:=os) (X:=fun w _=>laidMetH Tryd.prog Rows.fnEntryTextRow.laid w) false (World.laidAll Tryd.prog os Rows.fnEntryTextRow.laid) #[.slice none 0 0] 8 (World.laidAll_os _ _ _) (World.shaped_of_ZipB (by kernel_rfl) (by kernel_rfl)) (by kernel_rfl) (by kernel_rfl) (by kernel_rfl) (yYY os _)) yYR yYJ yZK ?_
 rintro o ho avs ⟨a,avs0,rfl,ha,rfl⟩
 cases ha with
 | one h0 =>
  obtain ⟨x0,rfl⟩:=h0.ycq yZn (fun xs h=>yZF h)
  exact yZc o ho x0
theorem yYQ : ypf Tryd.prog 5 Tryd.f5 Rows.fnEntryTextSpec Rows.fnEntryTextRow = true:=by kernel_rfl
theorem yYG : Tryd.pinned.checked.prog.funcNamed Rows.fnEntryTextRow.func = some 5:=by kernel_rfl
theorem yYS : Tryd.f5.isInstance Tryd.pinned.checked.prog Rows.fnEntryTextRow.origin Rows.fnEntryTextRow.targs:=(of_decide_eq_true (by kernel_rfl))
theorem yYT : Tryd.f5.isWrapper Tryd.pinned.checked.prog Rows.fnEntryTextRow.wrapper Rows.fnEntryTextRow.mainSum:=by
 unfold Func.isWrapper; first | (rw [if_pos (by decide +kernel)]; kernel_rfl) | (rw [if_neg (by decide +kernel)]; exact ⟨rfl,rfl⟩)
theorem yY2 : Rows.FnEntryTextSaid :=
 OpenClaim.holds_of_wide (p:=Tryd.pinned) (s:=Rows.fnEntryTextSpec) (c:=Rows.fnEntryTextRow) 5 Tryd.f5 rfl rfl rfl rfl rfl rfl rfl ⟨rfl,rfl,rfl,rfl,rfl⟩ rfl rfl rfl rfl rfl yYG Tryd.func5
  (yyi yxx yYQ ⟨rfl,rfl,rfl,rfl,rfl,rfl,rfl,rfl⟩) yYS yYT (fun os started H enc _=>yYN os started H enc)
theorem FnEntryText_holds : Rows.FnEntryTextCardSaid :=
 Claim7.holds_tied_plain_at .later [] [.data,.data,.data,.data,.pinned] true (true,"96aae8ff7608ce531fa6561b67f159ee19d5c56cab7ba019f90e5a178a5be6d3") false
  yY2 (fun _ h=>by cases h) (by kernel_rfl) (fun _ h=>by cases h) fnEntryText_row_tie rfl ⟨rfl,rfl⟩ (by kernel_rfl) rfl
  (fun f fn hf hfn=>by
   obtain rfl : f = 5:=Option.some.inj (yYG.symm.trans hf) |>.symm
   obtain rfl : fn = Tryd.f5:=(Option.some.inj (Tryd.func5.symm.trans hfn)).symm
   exact ⟨by kernel_rfl,fun j t ht=>by
    rw [Tryd.params5] at ht
    rcases j with _ | j
    ·obtain rfl:=Option.some.inj ht
     kernel_rfl
    ·simp at ht⟩)
  (by kernel_rfl)
#print axioms FnEntryText_holds
end Go.Proofs.YtpkpdbohalbbaaaDoor
