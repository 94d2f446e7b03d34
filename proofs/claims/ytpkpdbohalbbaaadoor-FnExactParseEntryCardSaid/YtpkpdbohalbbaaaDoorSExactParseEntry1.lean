/- What the law FnExactParseEntry stands on: contracts of functions, what each answers as plain Lean, in short form (names, layout). -/
import Derived.Test.YtpkpdbohalbbaaaDoorSExactParseEntryA3
import Derived.Test.YtpkpdbohalbbaaaDoorProg
import Derived.KernelRfl
import Derived.Test.YtpkpdbohalbbaaaDoorSExactParseEntryA4
import Derived.Test.YtpkpdbohalbbaaaDoorSExactParseEntryA6
import Derived.Test.YtpkpdbohalbbaaaDoorSExactParseEntryA7
import Derived.Test.YtpkpdbohalbbaaaDoorTie
import Derived.Test.YtpkpdbohalbbaaaDoorCards
set_option linter.all false
namespace Go.Proofs.YtpkpdbohalbbaaaDoor
open Go.RowKit
open Go.ChangeShapes Go.WideShapes
abbrev kI (n : Int) : X:=.k (.c (.i n))
abbrev kB (b : Bool) : X:=.k (.c (.b b))
abbrev iv (d n : Nat) : Ins:=⟨none,some d,.mv (.t n)⟩
abbrev ia (d : Nat) (o : IOp) : Ins:=⟨none,some d,o⟩
abbrev ig (t : Nat) (b : Bool) (d : Nat) (o : IOp) : Ins:=⟨some (t,b),some d,o⟩
abbrev ie (o : IOp) : Ins:=⟨none,none,o⟩
abbrev fA (d k a : Nat) : Ins:=ia d (.fld k (.t a))
abbrev lA (d a : Nat) : Ins:=ia d (.ld1 (.t a))
abbrev dA (d k a : Nat) : Ins:=ia d (.ldn k (.t a))
abbrev xA (d k a b : Nat) : Ins:=ia d (.idx k (.t a) (.t b))
abbrev mA (d : Nat) (n : Int) : Ins:=ia d (.mv (kI n))
abbrev bA (d : Nat) (b : Bool) : Ins:=ia d (.mv (kB b))
abbrev nA (d a : Nat) : Ins:=ia d (.len (.t a))
abbrev pA (d a : Nat) (n : Int) : Ins:=ia d (.bin .add (.t a) (kI n))
abbrev tA (d a b : Nat) : Ins:=ia d (.bin .lss (.t a) (.t b))
abbrev oA (d : Nat) (o : BinOp) (a b : Nat) : Ins:=ia d (.bin o (.t a) (.t b))
abbrev oI (d : Nat) (o : BinOp) (a : Nat) (n : Int) : Ins:=ia d (.bin o (.t a) (kI n))
abbrev nN (d a : Nat) : Ins:=ia d (.not (.t a))
abbrev c1 (d f a : Nat) : Ins:=ia d (.call f [.t a])
abbrev c2 (d f a b : Nat) : Ins:=ia d (.call f [.t a,.t b])
abbrev c3 (d f a b c : Nat) : Ins:=ia d (.call f [.t a,.t b,.t c])
abbrev bZ (d k : Nat) : Ins:=ia d (.bsl k [])
abbrev bS (d k a : Nat) : Ins:=ia d (.bsl k [.t a])
abbrev aP (d k b x y : Nat) : Ins:=ia d (.app k b (.t x) (.t y))
abbrev pT (d a b : Nat) : Ins:=ia d (.pick (.t a) (kB true) (.t b))
abbrev pF (d a b : Nat) : Ins:=ia d (.pick (.t a) (.t b) (kB false))
abbrev eX (d i a : Nat) : Ins:=ia d (.ext i (.t a))
abbrev bX (d n a : Nat) : Ins:=ia d (.box n (.t a))
abbrev mN (d k : Nat) : Ins:=ia d (.mv (.k (.nil k)))
abbrev tS (a b : Nat) : Ins:=ie (.st1 (.t a) (.t b))
abbrev tN (n a b : Nat) : Ins:=ie (.stn n (.t a) (.t b))
abbrev gA (c : Nat) (b : Bool) (d k a : Nat) : Ins:=ig c b d (.fld k (.t a))
abbrev hA (c : Nat) (b : Bool) (d a : Nat) : Ins:=ig c b d (.ld1 (.t a))
abbrev g8 (c : Nat) (b : Bool) (d a : Nat) : Ins:=ig c b d (.mv (.t a))
abbrev g9 (c : Nat) (b : Bool) (d a : Nat) : Ins:=ig c b d (.not (.t a))
abbrev q0 (i : Ins) : RIns:=⟨0,false,[],i⟩
abbrev q1 (i : Ins) : RIns:=⟨1,false,[],i⟩
abbrev q2 (i : Ins) : RIns:=⟨2,false,[],i⟩
abbrev q3 (i : Ins) : RIns:=⟨0,true,[],i⟩
abbrev q4 (k : Nat) (n : Bool) (c : List Nat) (i : Ins) : RIns:=⟨k,n,c,i⟩
abbrev rR (l : List Ins) : SC:=.seq (.reg l) .ret
abbrev rS (l : List Ins) (c : SC) : SC:=.seq (.reg l) c
abbrev rQ (l : List Ins) (c : SC) : SC:=.seq (.regq l) c
abbrev rE (l : List RIns) (c : SC) : SC:=.seq (.rege l) c
abbrev cX (t n : Nat) : SC:=.cond (.t t) .skip (.exit n)
abbrev cI (t : Nat) (c : SC) : SC:=.cond (.t t) c .skip
abbrev cT (t : Nat) (a b : SC) : SC:=.cond (.t t) a b
abbrev iS (l : List Ins) (t : Nat) (c d : SC) : SC:=.seq (.seq (.reg l) (.cond (.t t) c .skip)) d
abbrev xS (l : List Ins) (t n : Nat) (d : SC) : SC:=.seq (.seq (.reg l) (.cond (.t t) .skip (.exit n))) d
abbrev bL (n : Nat) (c : SC) : SC:=.block n (.loop c)
theorem yA {P : Program} {f N : Nat} {c : SC} {rs : List RS} {fn : Func} (fl : Option (List Nat)) (hf : P.funcs[f]? = some fn) (h : (fn.ntmps,fn.body.bind (ygf fl P N),yep P fn.results.toList,decide (N ≤ ycZ)) = (N,some c,some rs,true)) : Has P f N c rs:=by
 simp only [Prod.mk.injEq,decide_eq_true_eq] at h
 obtain ⟨h1,h2,h3,h4⟩:=h
 cases hb : fn.body with
 | none=>rw [hb] at h2; cases h2
 | some code=>rw [hb] at h2; exact ⟨h4,fn,code,hf,hb,h1,⟨fl,h2⟩,h3⟩
section
variable {P : Program} {f N d : Nat} {c : SC} {rs : List RS} {avs args : List AV} {res : AV} {s : St} {K : St → Prop} {k : AV → Prop} {ob : Nat → Obj} {dd : Option Nat} {kN : St → Prop} {T : Tag (k,kN)} {T1 : Tag k}
theorem yh (hf : Has P f N c rs) (H : wpS P N c (yh2 args) (fun e s=>match e with | .exit _=>False | _=>yml s rs res)) (hN : args.length ≤ N:=by simp) : yB P f args res:=ywS hf hN fun _=>H
theorem yJu (hf : Has P f N c rs) (H : ygO args → wpS P N c (yh2 args) (fun e s=>match e with | .exit _=>False | _=>yml s rs res)) (hN : args.length ≤ N:=by simp) : yB P f args res:=ywS hf hN H
theorem yc (hp : yB P f args res) (hK : K (s.put dd res)) (ho : ybD s avs args:=by simp) (hs : res.scalar = true:=by rfl) : yfo P f avs dd s K:=yaQ hp ho hs hK
theorem yS (hp : yB P f args res) (hK : K (s.put dd res)) (ho : ybD s avs args:=by simp) (hs : avs.all AV.ycJ = true:=by rfl) : yfo P f avs dd s K:=yaP hp ho hs hK
theorem yaC (hp : yB P f args res) (hK : k res) (ho : ybD (ycF ob) avs args:=by simp) (hs : res.scalar = true:=by rfl) : ysj P f avs ob k T1:=⟨_,_,hp,ho,.inr hs,hK⟩
theorem yyA (hp : yB P f args res) (hK : k res) (ho : ybD (ycF ob) avs args:=by simp) (hs : avs.all AV.ycJ = true:=by rfl) : ysj P f avs ob k T1:=⟨_,_,hp,ho,.inl hs,hK⟩
theorem yb1 (hp : yB P f args res) (hK : k res) (ho : ybD s avs args:=by simp) (hs : res.scalar = true:=by rfl) : ylY P f avs dd s k kN T:=ya2 hp ho (.inr hs) hK
theorem yY (hp : yB P f args res) (hK : k res) (ho : ybD s avs args:=by simp) (hs : avs.all AV.ycJ = true:=by rfl) : ylY P f avs dd s k kN T:=ya2 hp ho (.inl hs) hK
end
attribute [simp] AV.ygy AV.ymf Obj.ygy
theorem yWI : Has Tryd.prog 6 18 (rS [bX 1 5 0,ia 2 (.mv (.k (.c (.s ⟨#[]⟩))))] (iS [dA 3 5 1,c1 4 15 3,nN 5 4] 5 (rR [ia 2 (.mv (.k (.c (.s ⟨#[]⟩))))]) (rR [fA 6 0 1,lA 7 6,fA 8 1 1,lA 9 8,fA 10 2 1,lA 11 10,fA 12 3 1,lA 13 12,fA 14 4 1,lA 15 14,ia 16 (.bsl 1 [.t 7,.t 9,.t 11,.t 13,.t 15]),ia 17 (.call 16 [.t 16,.k (.c (.s ⟨#[32]⟩))]),iv 2 17]))) [.t 2]:=yA none Tryd.func6 (by kernel_rfl)
theorem yqb : Has Tryd.prog 15 33 (rS [bX 1 5 0,bA 2 false] (rR [fA 3 0 1,lA 4 3,fA 5 1 1,lA 6 5,oA 7 .neq 4 6,iv 8 7,gA 8 true 9 0 1,hA 8 true 10 9,ig 8 true 11 (.call 26 [.t 10,kI 0,kI 11]),pF 12 8 11,iv 13 12,gA 13 true 14 1 1,hA 13 true 15 14,ig 13 true 16 (.call 26 [.t 15,kI 0,kI 11]),pF 17 13 16,iv 18 17,gA 18 true 19 2 1,hA 18 true 20 19,ig 18 true 21 (.call 26 [.t 20,kI 1,kI 1000000000]),pF 22 18 21,iv 23 22,gA 23 true 24 3 1,hA 23 true 25 24,ig 23 true 26 (.call 26 [.t 25,kI 0,kI 1000000]),pF 27 23 26,iv 28 27,gA 28 true 29 4 1,hA 28 true 30 29,ig 28 true 31 (.call 26 [.t 30,kI 0,kI 9999]),pF 32 28 31,iv 2 32])) [.t 2]:=yA none Tryd.func15 (by kernel_rfl)
theorem yW4 : Has Tryd.prog 16 26 (rS [ia 4 (.mv (.k (.c (.s ⟨#[]⟩))))] (rS [ia 5 (.mv (.k (.c (.s ⟨#[]⟩))))] (.seq (rS [mA 6 0] (bL 0 (xS [iv 7 6,iv 8 0,nA 9 8,tA 10 7 9] 10 0 (.seq (.block 1 (iS [iv 13 6,oI 14 .gtr 13 0] 14 (.reg [iv 15 5,iv 16 1,ia 17 (.scat (.t 15) (.t 16)),iv 5 17]) (.reg [iv 18 5,iv 19 0,iv 20 6,xA 21 1 19 20,lA 22 21,c1 23 27 22,ia 24 (.scat (.t 18) (.t 23)),iv 5 24]))) (.reg [iv 11 6,pA 12 11 1,iv 6 12]))))) (rR [iv 25 5,iv 4 25])))) [.t 4]:=yA none Tryd.func16 (by kernel_rfl)
theorem ypP : Has Tryd.prog 17 33 (rS [bX 1 5 0,bA 2 false] (rR [fA 3 0 1,lA 4 3,fA 5 1 1,lA 6 5,oA 7 .neq 4 6,iv 8 7,gA 8 true 9 0 1,hA 8 true 10 9,ig 8 true 11 (.call 28 [.t 10,kI 0,kI 11]),pF 12 8 11,iv 13 12,gA 13 true 14 1 1,hA 13 true 15 14,ig 13 true 16 (.call 28 [.t 15,kI 0,kI 11]),pF 17 13 16,iv 18 17,gA 18 true 19 2 1,hA 18 true 20 19,ig 18 true 21 (.call 28 [.t 20,kI 1,kI 1000000000]),pF 22 18 21,iv 23 22,gA 23 true 24 3 1,hA 23 true 25 24,ig 23 true 26 (.call 28 [.t 25,kI 0,kI 1000000]),pF 27 23 26,iv 28 27,gA 28 true 29 4 1,hA 28 true 30 29,ig 28 true 31 (.call 28 [.t 30,kI 0,kI 9999]),pF 32 28 31,iv 2 32])) [.t 2]:=yA none Tryd.func17 (by kernel_rfl)
def ylw : SC:=rS [bA 6 false] (rR [iv 7 0,iv 8 1,oA 9 .geq 7 8,iv 10 9,g8 10 true 11 0,g8 10 true 12 2,ig 10 true 13 (.bin .leq (.t 11) (.t 12)),pF 14 10 13,iv 6 14])
theorem ysx : Has Tryd.prog 26 15 ylw [.t 6]:=yA none Tryd.func26 (by kernel_rfl)
def yWr : SC:=rS [ia 2 (.mv (.k (.c (.s ⟨#[]⟩))))] (iS [iv 6 0,oI 7 .eql 6 0] 7 (rR [ia 2 (.mv (.k (.c (.s ⟨#[48]⟩))))]) (rS [iv 8 0,oI 9 .lss 8 0,iv 3 9] (rS [ia 4 (.mv (.k (.c (.s ⟨#[]⟩))))] (.seq (bL 0 (xS [iv 10 0,oI 11 .neq 10 0] 11 0 (.block 1 (rS [iv 12 0,oI 13 .rem 12 10,iv 5 13] (iS [iv 14 5,oI 15 .lss 14 0] 15 (.reg [iv 16 5,ia 17 (.neg (.t 16)),iv 5 17]) (rS [iv 18 5,c1 19 36 18,bS 20 1 19,ia 21 (.cvt 2 (.t 20)),iv 22 4,ia 23 (.scat (.t 21) (.t 22)),iv 4 23] (.reg [iv 24 0,oI 25 .quo 24 10,iv 0 25]))))))) (iS [iv 26 3] 26 (rR [iv 27 4,ia 28 (.scat (.k (.c (.s ⟨#[45]⟩))) (.t 27)),iv 2 28]) (rR [iv 29 4,iv 2 29]))))))
theorem yWT : Has Tryd.prog 27 30 yWr [.t 2]:=yA none Tryd.func27 (by kernel_rfl)
def yi1 : SC:=rS [bA 6 false] (rR [iv 7 0,iv 8 1,oA 9 .geq 7 8,iv 10 9,g8 10 true 11 0,g8 10 true 12 2,ig 10 true 13 (.bin .leq (.t 11) (.t 12)),pF 14 10 13,iv 6 14])
theorem yot : Has Tryd.prog 28 15 yi1 [.t 6]:=yA none Tryd.func28 (by kernel_rfl)
def yWD : SC:=rS [ia 2 (.mv (.k (.c (.u 0))))] (iS [iv 3 0,oI 4 .lss 3 10] 4 (rR [iv 5 0,ia 6 (.bin .add (kI 48) (.t 5)),ia 7 (.cvt 1 (.t 6)),iv 2 7]) (rR [iv 8 0,ia 9 (.bin .add (kI 97) (.t 8)),oI 10 .sub 9 10,ia 11 (.cvt 1 (.t 10)),iv 2 11]))
theorem yWV : Has Tryd.prog 36 12 yWD [.t 2]:=yA none Tryd.func36 (by kernel_rfl)
def yWo : SC:=rS [bA 2 false] (iS [iv 7 0,ia 8 (.slen (.t 7)),oI 9 .gtr 8 1048576] 9 (rR [bA 2 true]) (rS [iv 11 0,c1 12 9 11,iv 10 12,eX 13 0 10,eX 14 1 10,ia 3 (.alloc [.c (.i 0),.c (.i 0),.c (.i 0),.c (.i 0),.c (.i 0)]),tN 5 3 13,iv 4 14] (rS [iv 16 0,c1 17 10 16,iv 15 17,eX 18 0 15,eX 19 1 15,ia 5 (.alloc [.c (.i 0),.c (.i 0),.c (.i 0),.c (.i 0),.c (.i 0)]),tN 5 5 18,iv 6 19] (iS [dA 20 5 5,dA 21 5 3,c2 22 11 20 21,nN 23 22,iv 24 23,g8 24 false 25 6,g8 24 false 26 4,ig 24 false 27 (.beq true (.t 25) (.t 26)),pT 28 24 27] 28 (rR [bA 2 false]) (rR [bA 2 true])))))
theorem yWC : Has Tryd.prog 4 29 yWo [.t 2]:=yA none Tryd.func4 (by kernel_rfl)
theorem yWN : Has Tryd.prog 9 58 (rS [ia 2 (.alloc [.c (.i 0),.c (.i 0),.c (.i 0),.c (.i 0),.c (.i 0)]),bA 3 false] (rS [iv 8 0,ia 9 (.call 20 [.t 8,.k (.c (.u 32))]),iv 4 9] (rS [ia 10 (.mks 1 8 [.i 0] (kI 5) (kI 5)),iv 5 10] (.seq (rS [mA 6 0] (bL 0 (xS [iv 11 6,iv 12 4,nA 13 12,tA 14 11 13,iv 15 14,g8 15 true 16 6,ig 15 true 17 (.bin .lss (.t 16) (kI 5)),pF 18 15 17] 18 0 (.seq (.block 1 (.reg [iv 22 5,iv 23 6,iv 24 4,iv 25 6,xA 26 1 24 25,lA 27 26,c1 28 21 27,iv 21 28,eX 29 0 21,eX 30 1 21,xA 31 1 22 23,tS 31 29])) (.reg [iv 19 6,pA 20 19 1,iv 6 20]))))) (rE [q0 (iv 32 5),q0 (ia 33 (.idx 1 (.t 32) (kI 0))),q0 (lA 34 33),q0 (iv 35 5),q0 (ia 36 (.idx 1 (.t 35) (kI 1))),q0 (lA 37 36),q0 (iv 38 5),q0 (ia 39 (.idx 1 (.t 38) (kI 2))),q0 (lA 40 39),q0 (iv 41 5),q0 (ia 42 (.idx 1 (.t 41) (kI 3))),q0 (lA 43 42),q0 (iv 44 5),q0 (ia 45 (.idx 1 (.t 44) (kI 4))),q0 (lA 46 45),q0 (ia 47 (.bld [.c (.i 0),.c (.i 0),.c (.i 0),.c (.i 0),.c (.i 0)] [(0,1,.t 34),(1,1,.t 37),(2,1,.t 40),(3,1,.t 43),(4,1,.t 46)])),q1 (ia 7 (.alloc [.c (.i 0),.c (.i 0),.c (.i 0),.c (.i 0),.c (.i 0)])),q2 (tN 5 7 47)] (iS [iv 48 0,ia 49 (.seq false (.t 48) (.k (.c (.s ⟨#[]⟩)))),iv 50 49,ig 50 false 51 (.ldn 5 (.t 7)),ig 50 false 52 (.call 6 [.t 51]),g8 50 false 53 0,ig 50 false 54 (.seq true (.t 52) (.t 53)),pT 55 50 54] 55 (rR [ia 56 (.bld [.c (.i 0),.c (.i 0),.c (.i 0),.c (.i 0),.c (.i 0)] []),tN 5 2 56,bA 3 false]) (rR [dA 57 5 7,tN 5 2 57,bA 3 true]))))))) [.cl 2 5,.t 3]:=yA none Tryd.func9 (by kernel_rfl)
def yWz : SC:=rS [ia 2 (.alloc [.c (.i 0),.c (.i 0),.c (.i 0),.c (.i 0),.c (.i 0)]),bA 3 false] (rS [iv 11 0,ia 12 (.call 22 [.t 11,.k (.c (.s ⟨#[32]⟩))]),iv 4 12] (iS [iv 13 4,nA 14 13,oI 15 .neq 14 5] 15 (rR [ia 16 (.bld [.c (.i 0),.c (.i 0),.c (.i 0),.c (.i 0),.c (.i 0)] []),tN 5 2 16,bA 3 false]) (rS [ia 5 (.alloca 1 5 [.i 0])] (.seq (rS [iv 17 4,nA 18 17,mA 19 0] (bL 0 (rS [tA 20 19 18] (.seq (cX 20 0) (.seq (.block 1 (rS [iv 21 19,xA 22 1 17 19,lA 23 22,iv 6 21,iv 7 23] (rS [iv 25 7,c1 26 23 25,iv 24 26,eX 27 0 24,eX 28 1 24,iv 8 27,iv 9 28] (iS [iv 29 9,nN 30 29] 30 (rR [ia 31 (.bld [.c (.i 0),.c (.i 0),.c (.i 0),.c (.i 0),.c (.i 0)] []),tN 5 2 31,bA 3 false]) (.reg [iv 32 6,iv 33 8,ia 34 (.ida 1 5 (.t 5) (.t 32)),tS 34 33]))))) (.reg [pA 35 19 1,iv 19 35])))))) (rS [ia 36 (.ida 1 5 (.t 5) (kI 0)),lA 37 36,ia 38 (.ida 1 5 (.t 5) (kI 1)),lA 39 38,ia 40 (.ida 1 5 (.t 5) (kI 2)),lA 41 40,ia 42 (.ida 1 5 (.t 5) (kI 3)),lA 43 42,ia 44 (.ida 1 5 (.t 5) (kI 4)),lA 45 44,ia 46 (.bld [.c (.i 0),.c (.i 0),.c (.i 0),.c (.i 0),.c (.i 0)] [(0,1,.t 37),(1,1,.t 39),(2,1,.t 41),(3,1,.t 43),(4,1,.t 45)]),ia 10 (.alloc [.c (.i 0),.c (.i 0),.c (.i 0),.c (.i 0),.c (.i 0)]),tN 5 10 46] (iS [dA 47 5 10,c1 48 17 47,nN 49 48] 49 (rR [ia 50 (.bld [.c (.i 0),.c (.i 0),.c (.i 0),.c (.i 0),.c (.i 0)] []),tN 5 2 50,bA 3 false]) (rR [dA 51 5 10,tN 5 2 51,bA 3 true])))))))
theorem yWO : Has Tryd.prog 10 52 yWz [.cl 2 5,.t 3]:=yA none Tryd.func10 (by kernel_rfl)
def yja : SC:=rS [bX 2 5 0,bX 3 5 1,bA 4 false] (iS [fA 5 0 2,lA 6 5,fA 7 0 3,lA 8 7,oA 9 .neq 6 8] 9 (rR [bA 4 false]) (iS [fA 10 1 2,lA 11 10,fA 12 1 3,lA 13 12,oA 14 .neq 11 13] 14 (rR [bA 4 false]) (iS [fA 15 2 2,lA 16 15,fA 17 2 3,lA 18 17,oA 19 .neq 16 18] 19 (rR [bA 4 false]) (iS [fA 20 3 2,lA 21 20,fA 22 3 3,lA 23 22,oA 24 .neq 21 23] 24 (rR [bA 4 false]) (iS [fA 25 4 2,lA 26 25,fA 27 4 3,lA 28 27,oA 29 .neq 26 28] 29 (rR [bA 4 false]) (rR [bA 4 true]))))))
theorem yn0 : Has Tryd.prog 11 30 yja [.t 4]:=yA none Tryd.func11 (by kernel_rfl)
theorem yWZ : Has Tryd.prog 20 36 (rS [mN 4 1] (rS [bZ 8 1,iv 5 8] (rS [mA 6 0] (.seq (rS [mA 7 0] (bL 0 (xS [iv 9 7,iv 10 0,ia 11 (.slen (.t 10)),oA 12 .leq 9 11] 12 0 (.seq (.block 1 (rS [iv 15 7,iv 16 0,ia 17 (.slen (.t 16)),oA 18 .eql 15 17,iv 19 18,g8 19 false 20 0,g8 19 false 21 7,ig 19 false 22 (.ixs (.t 20) (.t 21)),g8 19 false 23 1,ig 19 false 24 (.binu .eql (.t 22) (.t 23)),pT 25 19 24] (cI 25 (rS [iv 26 5,iv 27 0,iv 28 6,iv 29 7,ia 30 (.sls (.t 27) (some (.t 28)) (some (.t 29))),bS 31 1 30,aP 32 1 16 26 31,iv 5 32] (.reg [iv 33 7,pA 34 33 1,iv 6 34]))))) (.reg [iv 13 7,pA 14 13 1,iv 7 14]))))) (rR [iv 35 5,iv 4 35]))))) [.t 4]:=yA none Tryd.func20 (by kernel_rfl)
def yWq : SC:=rS [mA 2 0,bA 3 false] (iS [iv 6 0,ia 7 (.slen (.t 6)),oI 8 .gtr 7 10] 8 (rR [mA 2 0,bA 3 false]) (rS [mA 4 0] (.seq (rS [mA 5 0] (bL 0 (xS [iv 9 5,iv 10 0,ia 11 (.slen (.t 10)),tA 12 9 11] 12 0 (.seq (.block 1 (iS [iv 15 0,iv 16 5,ia 17 (.ixs (.t 15) (.t 16)),ia 18 (.binu .lss (.t 17) (.k (.c (.u 48)))),iv 19 18,g8 19 false 20 0,g8 19 false 21 5,ig 19 false 22 (.ixs (.t 20) (.t 21)),ig 19 false 23 (.binu .gtr (.t 22) (.k (.c (.u 57)))),pT 24 19 23] 24 (rR [mA 2 0,bA 3 false]) (.reg [iv 25 4,ia 26 (.bin .mul (kI 10) (.t 25)),iv 27 0,iv 28 5,ia 29 (.ixs (.t 27) (.t 28)),ia 30 (.cvt 0 (.t 29)),oA 31 .add 26 30,oI 32 .sub 31 48,iv 4 32]))) (.reg [iv 13 5,pA 14 13 1,iv 5 14]))))) (iS [iv 33 4,oI 34 .gtr 33 1000000000,iv 35 34,g8 35 false 36 4,ig 35 false 37 (.call 27 [.t 36]),g8 35 false 38 0,ig 35 false 39 (.seq true (.t 37) (.t 38)),pT 40 35 39] 40 (rR [mA 2 0,bA 3 false]) (rR [iv 41 4,iv 2 41,bA 3 true])))))
theorem yWQ : Has Tryd.prog 21 42 yWq [.t 2,.t 3]:=yA none Tryd.func21 (by kernel_rfl)
theorem yWX : Has Tryd.prog 22 8 (rS [mN 4 1] (rR [iv 5 0,iv 6 1,ia 7 (.call 33 [.t 5,.t 6,kI 0,kI (-1)]),iv 4 7])) [.t 4]:=yA none Tryd.func22 (by kernel_rfl)
def yWm : SC:=rS [mA 2 0,bA 3 false] (iS [iv 6 0,ia 7 (.slen (.t 6)),oI 8 .eql 7 0,iv 9 8,g8 9 false 10 0,ig 9 false 11 (.slen (.t 10)),ig 9 false 12 (.bin .gtr (.t 11) (kI 10)),pT 13 9 12,iv 14 13,g8 14 false 15 0,ig 14 false 16 (.ixs (.t 15) (kI 0)),ig 14 false 17 (.binu .eql (.t 16) (.k (.c (.u 48)))),g8 14 false 18 17,g8 18 true 19 0,ig 18 true 20 (.slen (.t 19)),ig 18 true 21 (.bin .gtr (.t 20) (kI 1)),ig 14 false 22 (.pick (.t 18) (.t 21) (kB false)),pT 23 14 22] 23 (rR [mA 2 0,bA 3 false]) (rS [mA 4 0] (.seq (rS [mA 5 0] (bL 0 (xS [iv 24 5,iv 25 0,ia 26 (.slen (.t 25)),tA 27 24 26] 27 0 (.seq (.block 1 (iS [iv 30 0,iv 31 5,ia 32 (.ixs (.t 30) (.t 31)),ia 33 (.binu .lss (.t 32) (.k (.c (.u 48)))),iv 34 33,g8 34 false 35 0,g8 34 false 36 5,ig 34 false 37 (.ixs (.t 35) (.t 36)),ig 34 false 38 (.binu .gtr (.t 37) (.k (.c (.u 57)))),pT 39 34 38] 39 (rR [mA 2 0,bA 3 false]) (.reg [iv 40 4,ia 41 (.bin .mul (kI 10) (.t 40)),iv 42 0,iv 43 5,ia 44 (.ixs (.t 42) (.t 43)),ia 45 (.binu .sub (.t 44) (.k (.c (.u 48)))),ia 46 (.cvt 0 (.t 45)),oA 47 .add 41 46,iv 4 47]))) (.reg [iv 28 5,pA 29 28 1,iv 5 29]))))) (iS [iv 48 4,oI 49 .gtr 48 1000000000] 49 (rR [mA 2 0,bA 3 false]) (rR [iv 50 4,iv 2 50,bA 3 true])))))
theorem yWU : Has Tryd.prog 23 51 yWm [.t 2,.t 3]:=yA none Tryd.func23 (by kernel_rfl)
def yWx : SC:=rS [mN 8 1] (iS [iv 12 3,oI 13 .eql 12 0] 13 (rR [mN 8 1]) (iS [iv 14 1,ia 15 (.seq false (.t 14) (.k (.c (.s ⟨#[]⟩))))] 15 (rR [iv 16 0,iv 17 3,c2 18 40 16 17,iv 8 18]) (iS [iv 19 3,oI 20 .lss 19 0] 20 (.reg [iv 21 0,iv 22 1,c2 23 41 21 22,pA 24 23 1,iv 3 24]) (rS [iv 25 3,iv 26 0,ia 27 (.slen (.t 26)),pA 28 27 1,ia 29 (.mn [.t 25,.t 28]),iv 3 29] (rS [iv 30 3,ia 31 (.mks 1 16 [.s ⟨#[]⟩] (.t 30) (.t 30)),iv 9 31] (rS [iv 32 3,oI 33 .sub 32 1,iv 3 33] (rS [mA 10 0] (.seq (bL 0 (xS [iv 34 10,iv 35 3,tA 36 34 35] 36 0 (.block 1 (rS [iv 37 0,iv 38 1,c2 39 42 37 38,iv 11 39] (iS [iv 40 11,oI 41 .lss 40 0] 41 (.exit 0) (rS [iv 42 9,iv 43 10,iv 44 0,iv 45 11,iv 46 2,oA 47 .add 45 46,ia 48 (.sls (.t 44) none (some (.t 47))),xA 49 1 42 43,tS 49 48] (rS [iv 50 0,iv 51 11,iv 52 1,ia 53 (.slen (.t 52)),oA 54 .add 51 53,ia 55 (.sls (.t 50) (some (.t 54)) none),iv 0 55] (.reg [iv 56 10,pA 57 56 1,iv 10 57])))))))) (rS [iv 58 9,iv 59 10,iv 60 0,xA 61 1 58 59,tS 61 60] (rR [iv 62 9,iv 63 10,pA 64 63 1,ia 65 (.slc 1 (.t 62) none (some (.t 64)) none),iv 8 65]))))))))))
theorem yWK : Has Tryd.prog 33 66 yWx [.t 8]:=yA none Tryd.func33 (by kernel_rfl)
def yWE : SC:=rS [mA 4 0] (iS [iv 7 1,ia 8 (.slen (.t 7)),oI 9 .eql 8 0] 9 (rR [iv 10 0,c1 11 47 10,pA 12 11 1,iv 4 12]) (iS [iv 13 1,ia 14 (.slen (.t 13)),oI 15 .eql 14 1] 15 (rR [iv 16 0,iv 17 1,ia 18 (.ixs (.t 17) (kI 0)),ia 19 (.exb 0 (.t 16) (.t 18)),iv 4 19]) (rS [mA 5 0] (bL 0 (.block 1 (rS [iv 20 0,iv 21 1,c2 22 42 20 21,iv 6 22] (iS [iv 23 6,oI 24 .eql 23 (-1)] 24 (rR [iv 25 5,iv 4 25]) (rS [iv 26 5,pA 27 26 1,iv 5 27] (.reg [iv 28 0,iv 29 6,iv 30 1,ia 31 (.slen (.t 30)),oA 32 .add 29 31,ia 33 (.sls (.t 28) (some (.t 32)) none),iv 0 33])))))))))
theorem yW1 : Has Tryd.prog 41 34 yWE [.t 4]:=yA none Tryd.func41 (by kernel_rfl)
theorem yWY : Has Tryd.prog 42 8 (rS [mA 4 0] (rR [iv 5 0,iv 6 1,c2 7 50 5 6,iv 4 7])) [.t 4]:=yA none Tryd.func42 (by kernel_rfl)
def yWj : SC:=rS [mA 4 0] (rS [iv 14 1,ia 15 (.slen (.t 14)),iv 5 15] (.seq (.block 0 (rS [iv 17 5,oI 18 .eql 17 0,iv 19 18,g8 19 false 20 1,g8 19 false 21 0,ig 19 false 22 (.seq false (.t 20) (.t 21)),pT 23 19 22,iv 16 23] (cT 16 (rR [mA 4 0]) (rS [iv 25 5,oI 26 .eql 25 1,iv 24 26] (cT 24 (rR [iv 27 0,iv 28 1,ia 29 (.ixs (.t 28) (kI 0)),c2 30 56 27 29,iv 4 30]) (rS [iv 32 5,iv 33 0,ia 34 (.slen (.t 33)),oA 35 .geq 32 34,iv 31 35] (cT 31 (rR [mA 4 (-1)]) (rS [iv 37 5,ia 38 .bad,oA 39 .leq 37 38,iv 40 39,g8 40 true 41 0,ig 40 true 42 (.slen (.t 41)),ig 40 true 43 (.bin .leq (.t 42) (kI 64)),pF 44 40 43,iv 36 44] (cI 36 (rR [iv 45 0,iv 46 1,ia 47 .bad,iv 4 47])))))))))) (rS [iv 48 1,ia 49 (.ixs (.t 48) (kI 0)),iv 6 49] (rS [iv 50 1,ia 51 (.ixs (.t 50) (kI 1)),iv 7 51] (rS [mA 8 0] (rS [iv 52 0,ia 53 (.slen (.t 52)),iv 54 5,oA 55 .sub 53 54,pA 56 55 1,iv 9 56] (rS [mA 10 0] (.seq (bL 1 (xS [iv 57 8,iv 58 9,tA 59 57 58] 59 1 (.block 2 (iS [iv 60 0,iv 61 8,ia 62 (.ixs (.t 60) (.t 61)),iv 63 6,ia 64 (.binu .neq (.t 62) (.t 63))] 64 (rS [iv 65 0,iv 66 8,pA 67 66 1,iv 68 9,ia 69 (.sls (.t 65) (some (.t 67)) (some (.t 68))),iv 70 6,c2 71 56 69 70,iv 11 71] (iS [iv 72 11,oI 73 .lss 72 0] 73 (rR [mA 4 (-1)]) (.reg [iv 74 8,iv 75 11,pA 76 75 1,oA 77 .add 74 76,iv 8 77]))) (iS [iv 78 0,iv 79 8,pA 80 79 1,ia 81 (.ixs (.t 78) (.t 80)),iv 82 7,ia 83 (.binu .eql (.t 81) (.t 82)),iv 84 83,g8 84 true 85 0,g8 84 true 86 8,g8 84 true 87 8,g8 84 true 88 5,ig 84 true 89 (.bin .add (.t 87) (.t 88)),ig 84 true 90 (.sls (.t 85) (some (.t 86)) (some (.t 89))),g8 84 true 91 1,ig 84 true 92 (.seq false (.t 90) (.t 91)),pF 93 84 92] 93 (rR [iv 94 8,iv 4 94]) (rS [iv 95 8,pA 96 95 1,iv 8 96] (rS [iv 97 10,pA 98 97 1,iv 10 98] (rS [iv 99 5,ia 100 .bad,oA 101 .leq 99 100,iv 102 101,g8 102 true 103 10,g8 102 true 104 8,ig 102 true 105 (.call 58 [.t 104]),ig 102 true 106 (.bin .gtr (.t 103) (.t 105)),pF 107 102 106] (cT 107 (rS [iv 108 0,iv 109 8,ia 110 (.sls (.t 108) (some (.t 109)) none),iv 111 1,ia 112 .bad,iv 12 112] (iS [iv 113 12,oI 114 .geq 113 0] 114 (rR [iv 115 12,iv 116 8,oA 117 .add 115 116,iv 4 117]) (rR [mA 4 (-1)]))) (rS [iv 118 5,ia 119 .bad,oA 120 .gtr 118 119,iv 121 120,g8 121 true 122 10,g8 121 true 123 8,ig 121 true 124 (.bit .shr (.t 123) (kI 4)),ig 121 true 125 (.bin .add (kI 4) (.t 124)),ig 121 true 126 (.bin .geq (.t 122) (.t 125)),pF 127 121 126,iv 128 127,g8 128 true 129 8,g8 128 true 130 9,ig 128 true 131 (.bin .lss (.t 129) (.t 130)),pF 132 128 131] (cI 132 (rS [iv 133 0,iv 134 8,ia 135 (.sls (.t 133) (some (.t 134)) none),iv 136 1,c2 137 59 135 136,iv 13 137] (iS [iv 138 13,oI 139 .lss 138 0] 139 (rR [mA 4 (-1)]) (rR [iv 140 8,iv 141 13,oA 142 .add 140 141,iv 4 142])))))))))))))) (rR [mA 4 (-1)])))))))))
theorem yWv : Has Tryd.prog 50 143 yWj [.t 4]:=yA none Tryd.func50 (by kernel_rfl)
def yWk : SC:=rS [mA 4 0] (rR [iv 5 0,iv 6 1,ia 7 (.exb 1 (.t 5) (.t 6)),iv 4 7])
theorem yWp : Has Tryd.prog 56 8 yWk [.t 4]:=yA none Tryd.func56 (by kernel_rfl)
def inRange (n a b : Int) : Bool:=decide (a ≤ n) && decide (n ≤ b)
theorem yC (n a b : Int) : yB Tryd.prog 28 [.c (.i n),.c (.i a),.c (.i b)] (.c (.b (inRange n a b))):=by
 refine yh yot ?_
 simp -dsimp -implicitDefEqProofs [yi1,inRange]
 exact ⟨fun h=>by simp [h],fun h=>by simp [Int.not_le.2 h]⟩
theorem yD (n a b : Int) : yB Tryd.prog 26 [.c (.i n),.c (.i a),.c (.i b)] (.c (.b (inRange n a b))):=by
 refine yh ysx ?_
 simp -dsimp -implicitDefEqProofs [ylw,inRange]
 exact ⟨fun h=>by simp [h],fun h=>by simp [Int.not_le.2 h]⟩
structure Entry where
 From : Int
 To : Int
 Amount : Int
 Time : Int
 Why : Int
 deriving Inhabited,DecidableEq
@[simp] def Entry.enc (e : Entry) : List C:=[.i e.From,.i e.To,.i e.Amount,.i e.Time,.i e.Why]
def ycl (e : Entry) : Bool:=decide (e.From ≠ e.To) && inRange e.From 0 11 && inRange e.To 0 11 && inRange e.Amount 1 1000000000 && inRange e.Time 0 1000000 && inRange e.Why 0 9999
theorem ysa (e : Entry) : yB Tryd.prog 17 [.agg (e.enc.map .c)] (.c (.b (ycl e))):=by
 refine yh ypP ?_
 simp -dsimp -implicitDefEqProofs
 refine ⟨fun h=>?_,fun h=>by simp [ycl,h]⟩
 refine yc (yC e.From 0 11) ?_
 simp -dsimp -implicitDefEqProofs
 refine ⟨fun h1=>?_,fun h1=>by simp [ycl,h1]⟩
 refine yc (yC e.To 0 11) ?_
 simp -dsimp -implicitDefEqProofs
 refine ⟨fun h2=>?_,fun h1=>by simp [ycl,h1]⟩
 refine yc (yC e.Amount 1 1000000000) ?_
 simp -dsimp -implicitDefEqProofs
 refine ⟨fun h3=>?_,fun h1=>by simp [ycl,h1]⟩
 refine yc (yC e.Time 0 1000000) ?_
 simp -dsimp -implicitDefEqProofs
 refine ⟨fun h4=>?_,fun h1=>by simp [ycl,h1]⟩
 refine yc (yC e.Why 0 9999) ?_
 simp -dsimp -implicitDefEqProofs
 simp [ycl,h,h1,h2,h3,h4]
theorem yG {k n : Nat} (h : k < n) : ((k : Int) < (n : Int)) = True:=by simp [h]
theorem yaB {k n : Nat} (h : n ≤ k) : ((k : Int) < (n : Int)) = False:=by simp [h]
structure Way where
 Long : Int
 Bed : Int
 deriving DecidableEq,Inhabited
@[simp] def Way.enc (e : Way) : List C:=[.i e.Long,.i e.Bed]
theorem ysd (e : Entry) : yB Tryd.prog 15 [.agg (e.enc.map .c)] (.c (.b (ycl e))):=by
 refine yh yqb ?_
 simp -dsimp -implicitDefEqProofs
 refine ⟨fun h=>?_,fun h=>by simp [ycl,h]⟩
 refine yc (yD e.From 0 11) ?_
 simp -dsimp -implicitDefEqProofs
 refine ⟨fun h1=>?_,fun h1=>by simp [ycl,h1]⟩
 refine yc (yD e.To 0 11) ?_
 simp -dsimp -implicitDefEqProofs
 refine ⟨fun h2=>?_,fun h1=>by simp [ycl,h1]⟩
 refine yc (yD e.Amount 1 1000000000) ?_
 simp -dsimp -implicitDefEqProofs
 refine ⟨fun h3=>?_,fun h1=>by simp [ycl,h1]⟩
 refine yc (yD e.Time 0 1000000) ?_
 simp -dsimp -implicitDefEqProofs
 refine ⟨fun h4=>?_,fun h1=>by simp [ycl,h1]⟩
 refine yc (yD e.Why 0 9999) ?_
 simp -dsimp -implicitDefEqProofs
 simp [ycl,h,h1,h2,h3,h4]
theorem yxo (e f : Entry) : yB Tryd.prog 11 [.agg (e.enc.map .c),.agg (f.enc.map .c)] (.c (.b (decide (e = f)))):=by
 refine yh yn0 ?_
 obtain ⟨a1,a2,a3,a4,a5⟩:=e
 obtain ⟨b1,b2,b3,b4,b5⟩:=f
 simp -dsimp -implicitDefEqProofs [yja,Entry.mk.injEq]
 refine ⟨fun h=>by simp [h],fun h=>⟨fun h1=>by simp [h1],fun h1=>⟨fun h2=>by simp [h2],fun h2=>⟨fun h3=>by simp [h3],fun h3=>⟨fun h4=>by simp [h4],fun h4=>by simp [h,h1,h2,h3,h4]⟩⟩⟩⟩⟩
theorem yw {k n : Nat} (hk : k < n) (h : n ≤ maxLen) : inI ((k : Int) + 1):=by unfold maxLen at h; unfold inI; omega
abbrev yJ (n : Int) : List C:=[.i n]
structure Tariff where
 Base : Int
 PerArea : Int
 PerClass : List Int
 Weights : List Int
 deriving DecidableEq
@[simp] def Tariff.enc (t : Tariff) : List C:=[.i t.Base,.i t.PerArea,.sl 1 (t.PerClass.map yJ),.sl 1 (t.Weights.map yJ)]
def Tariff.small (t : Tariff) : Prop:=t.PerClass.length ≤ 1048576 ∧ t.Weights.length ≤ 1048576
def bs (l : List UInt8) : ByteArray:=⟨l.toArray⟩
theorem yWi (l : List UInt8) : (bs l).size = l.length:=by simp [bs,ByteArray.size]
theorem yWA (l : List UInt8) (i : Nat) : (bs l)[i]? = l[i]?:=by
 by_cases h : i < l.length
 ·have h2 : i < (bs l).size:=by rw [yWi]; exact h
  rw [getElem?_pos (bs l) i h2,List.getElem?_eq_getElem h]
  rfl
 ·have h2 : ¬ i < (bs l).size:=by rw [yWi]; exact h
  rw [getElem?_neg (bs l) i h2,List.getElem?_eq_none (by omega)]
theorem yWs (l : List UInt8) (i : Nat) (h : i < (bs l).size) : (bs l)[i]'h = l[i]'(by rw [yWi] at h; exact h):=rfl
theorem yXb (a b : List UInt8) : bs a ++ bs b = bs (a ++ b):=by
 apply ByteArray.ext
 simp [bs]
theorem yWJ {a b : List UInt8} : (bs a = bs b) = (a = b):=by
 apply propext
 constructor
 ·intro h
  have:=congrArg (fun x : ByteArray=>x.data.toList) h
  simpa [bs] using this
 ·rintro rfl; rfl
theorem yXq (l : List UInt8) (i j : Nat) : (bs l).extract i j = bs ((l.take j).drop i):=by
 apply ByteArray.ext
 simp [bs,List.drop_take]
theorem yXt (l : List UInt8) : (bs l).data.toList = l:=by simp [bs]
theorem bs_of (b : ByteArray) : b = bs b.data.toList:=by
 apply ByteArray.ext
 simp [bs]
def yWh (c : UInt8) : List UInt8 → List (List UInt8)
 | []=>[[]]
 | b :: l=>if b = c then [] :: yWh c l else match yWh c l with
  | []=>[[b]]
  | p :: t=>(b :: p) :: t
def hd (q : List UInt8) : List (List UInt8) → List (List UInt8)
 | []=>[q]
 | p :: t=>(q ++ p) :: t
theorem yWt (c b : UInt8) (l : List UInt8) : yWh c (b :: l) = if b = c then [] :: yWh c l else hd [b] (yWh c l):=by
 simp only [yWh]
 split
 ·rfl
 ·cases yWh c l <;> rfl
theorem yWS (c : UInt8) (l : List UInt8) : yWh c l ≠ []:=by
 cases l with
 | nil=>simp [yWh]
 | cons b l =>
  rw [yWt]
  split
  ·simp
  ·cases yWh c l <;> simp [hd]
theorem hd_hd (p q : List UInt8) (l : List (List UInt8)) : hd p (hd q l) = hd (p ++ q) l:=by cases l <;> simp [hd]
theorem yXB {l : List (List UInt8)} (h : l ≠ []) : hd [] l = l:=by
 cases l with
 | nil=>exact absurd rfl h
 | cons p t=>rfl
theorem yWF {c : UInt8} : ∀ {l : List UInt8},c ∉ l → yWh c l = [l]
 | [],_=>rfl
 | b :: l,h=>by
  simp only [List.mem_cons,not_or] at h
  rw [yWt,if_neg (fun e=>h.1 e.symm),yWF h.2]
  rfl
theorem yWL {c : UInt8} : ∀ {p : List UInt8} (l : List UInt8),c ∉ p → yWh c (p ++ c :: l) = p :: yWh c l
 | [],l,_=>by simp [yWh]
 | b :: p,l,h=>by
  simp only [List.mem_cons,not_or] at h
  rw [List.cons_append,yWt,if_neg (fun e=>h.1 e.symm),yWL l h.2]
  rfl
def jn : List (List UInt8) → List UInt8
 | []=>[]
 | p :: l=>match l with
  | []=>p
  | _ :: _=>p ++ 32 :: jn l
theorem yXS (p : List UInt8) : jn [p] = p:=rfl
theorem yWM (p q : List UInt8) (l : List (List UInt8)) : jn (p :: q :: l) = p ++ 32 :: jn (q :: l):=rfl
theorem yXs : ∀ {l : List (List UInt8)} (p : List UInt8),l ≠ [] → jn (l ++ [p]) = jn l ++ 32 :: p
 | [],p,h=>absurd rfl h
 | [q],p,_=>rfl
 | q :: r :: l,p,_=>by
  have ih:=yXs (l:=r :: l) p (by simp)
  show jn (q :: r :: (l ++ [p])) = _
  rw [yWM]
  have e : r :: (l ++ [p]) = (r :: l) ++ [p]:=rfl
  rw [e,ih,yWM]
  simp
theorem yXj : ∀ {l : List (List UInt8)},l ≠ [] → (∀ p ∈ l,32 ∉ p) → yWh 32 (jn l) = l
 | [],h,_=>absurd rfl h
 | [p],_,h=>yWF (h p (by simp))
 | p :: q :: l,_,h=>by
  rw [yWM,yWL _ (h p (by simp)),yXj (l:=q :: l) (by simp) fun r hr=>h r (List.mem_cons_of_mem _ hr)]
theorem yXm : ∀ l : List UInt8,jn (yWh 32 l) = l
 | []=>rfl
 | b :: l=>by
  have ih:=yXm l
  rw [yWt]
  have hne:=yWS 32 l
  cases hs : yWh 32 l with
  | nil=>exact absurd hs hne
  | cons p t =>
   rw [hs] at ih
   split
   ·rename_i e; subst e
    rw [yWM,ih]; rfl
   ·cases t with
    | nil=>simp only [hd,yXS] at ih ⊢; rw [ih]; rfl
    | cons q t =>
     simp only [hd,yWM] at ih ⊢
     rw [← ih]; rfl
def yWH (n : Nat) : List UInt8:=if h : n = 0 then [] else yWH (n / 10) ++ [(48 + n % 10).toUInt8]
termination_by n
decreasing_by omega
theorem yWn : yWH 0 = []:=by unfold yWH; simp
theorem yWu {n : Nat} (h : n ≠ 0) : yWH n = yWH (n / 10) ++ [(48 + n % 10).toUInt8]:=by rw [yWH,dif_neg h]
def fmt (n : Nat) : List UInt8:=if n = 0 then [48] else yWH n
def yWl (b : UInt8) : Bool:=decide (48 ≤ b.toNat) && decide (b.toNat ≤ 57)
def num (l : List UInt8) : Nat:=l.foldl (fun n b=>10 * n + (b.toNat - 48)) 0
theorem yWP (l : List UInt8) (b : UInt8) : num (l ++ [b]) = 10 * num l + (b.toNat - 48):=by simp [num]
theorem yW2 (k : Nat) (h : k < 10) : ((48 + k).toUInt8).toNat = 48 + k:=by
 show (48 + k) % 256 = 48 + k
 omega
theorem yXD : ∀ n : Nat,num (yWH n) = n:=by
 intro n
 induction n using Nat.strongRecOn with
 | ind n ih =>
  by_cases h : n = 0
  ·subst h; rw [yWn]; rfl
  ·rw [yWu h,yWP,ih (n / 10) (by omega),yW2 _ (by omega)]
   omega
theorem yXL (n : Nat) : num (fmt n) = n:=by
 unfold fmt
 split
 ·rename_i h; subst h; decide
 ·exact yXD n
theorem yXA : ∀ n : Nat,∀ b ∈ yWH n,yWl b = true:=by
 intro n
 induction n using Nat.strongRecOn with
 | ind n ih =>
  intro b hb
  by_cases h : n = 0
  ·subst h; rw [yWn] at hb; cases hb
  ·rw [yWu h] at hb
   rcases List.mem_append.1 hb with hb | hb
   ·exact ih (n / 10) (by omega) b hb
   ·rw [List.mem_singleton.1 hb]
    unfold yWl
    rw [yW2 _ (by omega)]
    simp; omega
theorem yXr (n : Nat) : ∀ b ∈ fmt n,yWl b = true:=by
 intro b hb
 unfold fmt at hb
 split at hb
 ·rw [List.mem_singleton.1 hb]; decide
 ·exact yXA n b hb
theorem yXe : ∀ (k n : Nat),n < 10 ^ k → (yWH n).length ≤ k
 | 0,n,h=>by
  have : n = 0:=by simpa using h
  subst this; rw [yWn]; simp
 | k + 1,n,h=>by
  by_cases h0 : n = 0
  ·subst h0; rw [yWn]; simp
  ·rw [yWu h0]
   have:=yXe k (n / 10) (by rw [Nat.pow_succ] at h; omega)
   simp; omega
theorem yXw {n : Nat} (h : n ≤ 1000000000) : (fmt n).length ≤ 10 ∧ 1 ≤ (fmt n).length:=by
 unfold fmt
 split
 ·simp
 ·rename_i h0
  refine ⟨yXe 10 n (by omega),?_⟩
  rw [yWu h0]; simp
theorem yXH {n : Nat} (h : n ≠ 0) : ∃ b t,yWH n = b :: t ∧ b ≠ 48:=by
 induction n using Nat.strongRecOn with
 | ind n ih =>
  rw [yWu h]
  by_cases h1 : n / 10 = 0
  ·refine ⟨_,[],by rw [h1,yWn]; rfl,?_⟩
   intro e
   have:=congrArg UInt8.toNat e
   rw [yW2 _ (by omega)] at this
   have : (48 : UInt8).toNat = 48:=rfl
   omega
  ·obtain ⟨b,t,e,hb⟩:=ih (n / 10) (by omega) h1
   exact ⟨b,t ++ [_],by rw [e]; rfl,hb⟩
theorem yXf : ∀ (k : Nat) (l : List UInt8),l.length = k → (∀ b ∈ l,yWl b = true) → l.head? ≠ some 48 → yWH (num l) = l
 | 0,l,hk,_,_=>by
  have : l = []:=List.length_eq_zero_iff.1 hk
  subst this; exact yWn
 | k + 1,l,hk,hd,hh=>by
  obtain ⟨m,b,rfl⟩ : ∃ m b,l = m ++ [b]:=by
   have hne : l ≠ []:=by intro e; rw [e] at hk; cases hk
   exact ⟨l.dropLast,l.getLast hne,(List.dropLast_concat_getLast hne).symm⟩
  have hb : yWl b = true:=hd b (by simp)
  unfold yWl at hb
  simp only [Bool.and_eq_true,decide_eq_true_eq] at hb
  have hm : yWH (num m) = m:=by
   refine yXf k m (by simpa using hk) (fun c hc=>hd c (by simp [hc])) ?_
   cases m with
   | nil=>simp
   | cons c t=>simpa using hh
  have hb2 : (48 + (b.toNat - 48)).toUInt8 = b:=by
   rw [show 48 + (b.toNat - 48) = b.toNat by omega]
   exact UInt8.ofNat_toNat
  rw [yWP]
  by_cases h0 : num m = 0
  ·have hmn : m = []:=by rw [h0,yWn] at hm; exact hm.symm
   subst hmn
   have hb48 : b ≠ 48:=by simpa using hh
   have : b.toNat ≠ 48:=fun e=>hb48 (UInt8.toNat_inj.1 e)
   rw [h0,yWu (by omega),show (10 * 0 + (b.toNat - 48)) / 10 = 0 by omega,yWn,show (10 * 0 + (b.toNat - 48)) % 10 = b.toNat - 48 by omega,hb2]
  ·rw [yWu (by omega),show (10 * num m + (b.toNat - 48)) / 10 = num m by omega,show (10 * num m + (b.toNat - 48)) % 10 = b.toNat - 48 by omega,hb2,hm]
def PU (l : List UInt8) : Nat × Bool:=if l.length ≤ 10 ∧ l.all yWl = true ∧ num l ≤ 1000000000 ∧ fmt (num l) = l then (num l,true) else (0,false)
def good (l : List UInt8) : Prop:=l ≠ [] ∧ ¬ (l.head? = some 48 ∧ 1 < l.length)
theorem yXd {l : List UInt8} (hd : ∀ b ∈ l,yWl b = true) : fmt (num l) = l ↔ good l:=by
 constructor
 ·intro h
  refine ⟨fun e=>?_,fun ⟨h1,h2⟩=>?_⟩
  ·subst e; revert h; decide
  ·unfold fmt at h
   split at h
   ·rw [← h] at h2; simp at h2
   ·rename_i h0
    obtain ⟨b,t,e,hb⟩:=yXH h0
    rw [h] at e
    rw [e] at h1
    exact hb (by simpa using h1)
 ·rintro ⟨h1,h2⟩
  by_cases h3 : l.head? = some 48
  ·have h4 : l.length = 1:=by
    have : l.length ≠ 0:=fun e=>h1 (List.length_eq_zero_iff.1 e)
    have : ¬ 1 < l.length:=fun e=>h2 ⟨h3,e⟩
    omega
   match l,h4,h3 with
   | [b],_,h3 =>
    have : b = 48:=by simpa using h3
    subst this; decide
  ·have h5:=yXf l.length l rfl hd h3
   unfold fmt
   split
   ·rename_i h6
    rw [h6,yWn] at h5
    exact absurd h5.symm h1
   ·exact h5
theorem yW7 {n : Nat} (h : n ≤ 1000000000) : PU (fmt n) = (n,true):=by
 unfold PU
 rw [yXL,if_pos ⟨(yXw h).1,List.all_eq_true.2 (yXr n),h,rfl⟩]
theorem yXN : PU [] = (0,false):=by decide
theorem PU_le (l : List UInt8) : (PU l).1 ≤ 1000000000:=by
 unfold PU
 split
 ·rename_i h; exact h.2.2.1
 ·simp
theorem yW5 {l : List UInt8} (h : (PU l).2 = true) : fmt (PU l).1 = l:=by
 unfold PU at h ⊢
 split
 ·rename_i h1; exact h1.2.2.2
 ·rename_i h1; rw [if_neg h1] at h; cases h
theorem yXR {n : Nat} : (32 : UInt8) ∉ fmt n:=by
 intro h
 have:=yXr n 32 h
 revert this; decide
def FE (e : Entry) : List UInt8:=if ycl e = true then jn [fmt e.From.toNat,fmt e.To.toNat,fmt e.Amount.toNat,fmt e.Time.toNat,fmt e.Why.toNat] else []
def pn (f : List (List UInt8)) (k : Nat) : Int:=((PU (f.getD k [])).1 : Int)
def yWw (s : List UInt8) : Entry:=⟨pn (yWh 32 s) 0,pn (yWh 32 s) 1,pn (yWh 32 s) 2,pn (yWh 32 s) 3,pn (yWh 32 s) 4⟩
def zeroE : Entry:=⟨0,0,0,0,0⟩
def yWB (s : List UInt8) : Prop:=(yWh 32 s).length = 5 ∧ (∀ p ∈ yWh 32 s,(PU p).2 = true) ∧ ycl (yWw s) = true
theorem five {α : Type} {l : List α} (h : l.length = 5) : ∃ a b c d e,l = [a,b,c,d,e]:=by
 match l,h with
 | [a,b,c,d,e],_=>exact ⟨a,b,c,d,e,rfl⟩
theorem yXx (s : List UInt8) : yWB s ↔ s ≠ [] ∧ FE (yWw s) = s:=by
 constructor
 ·rintro ⟨h1,h2,h3⟩
  refine ⟨fun e=>by subst e; simp [yWh] at h1,?_⟩
  obtain ⟨a,b,c,d,e,hs⟩:=five h1
  have hj:=yXm s
  unfold FE
  rw [if_pos h3]
  unfold yWw pn
  rw [hs] at h2 hj ⊢
  simp only [List.getD_cons_zero,List.getD_cons_succ,Int.toNat_natCast]
  rw [yW5 (h2 a (by simp)),yW5 (h2 b (by simp)),yW5 (h2 c (by simp)),yW5 (h2 d (by simp)),yW5 (h2 e (by simp)),hj]
 ·rintro ⟨h1,h2⟩
  have h3 : ycl (yWw s) = true:=by
   by_cases h : ycl (yWw s) = true
   ·exact h
   ·unfold FE at h2
    rw [if_neg h] at h2
    exact absurd h2.symm h1
  unfold FE at h2
  rw [if_pos h3] at h2
  have hsp:=congrArg (yWh 32) h2
  rw [yXj (by simp) (by
   intro p hp
   simp only [List.mem_cons,List.mem_nil_iff,or_false] at hp
   rcases hp with rfl | rfl | rfl | rfl | rfl <;> exact yXR)] at hsp
  have hle : ∀ k,(pn (yWh 32 s) k).toNat ≤ 1000000000:=fun k=>by unfold pn; rw [Int.toNat_natCast]; exact PU_le _
  refine ⟨by rw [← hsp]; rfl,fun p hp=>?_,h3⟩
  rw [← hsp] at hp
  simp only [List.mem_cons,List.mem_nil_iff,or_false] at hp
  rcases hp with rfl | rfl | rfl | rfl | rfl
  ·exact congrArg Prod.snd (yW7 (hle 0))
  ·exact congrArg Prod.snd (yW7 (hle 1))
  ·exact congrArg Prod.snd (yW7 (hle 2))
  ·exact congrArg Prod.snd (yW7 (hle 3))
  ·exact congrArg Prod.snd (yW7 (hle 4))
theorem yXC : ∀ (k : Nat) (l : List UInt8),l.length = k → (∀ b ∈ l,yWl b = true) → num l < 10 ^ k
 | 0,l,hk,_=>by
  have : l = []:=List.length_eq_zero_iff.1 hk
  subst this; decide
 | k + 1,l,hk,hd=>by
  obtain ⟨m,b,rfl⟩ : ∃ m b,l = m ++ [b]:=by
   have hne : l ≠ []:=by intro e; rw [e] at hk; cases hk
   exact ⟨l.dropLast,l.getLast hne,(List.dropLast_concat_getLast hne).symm⟩
  have hb : yWl b = true:=hd b (by simp)
  unfold yWl at hb
  simp only [Bool.and_eq_true,decide_eq_true_eq] at hb
  have:=yXC k m (by simpa using hk) fun c hc=>hd c (by simp [hc])
  rw [yWP,Nat.pow_succ]
  omega
theorem yW9 {l : List UInt8} (h : l.length ≤ 10) (hd : ∀ b ∈ l,yWl b = true) : num l < 10000000000:=by
 have h1:=yXC l.length l rfl hd
 have h2 : 10 ^ l.length ≤ 10 ^ 10:=Nat.pow_le_pow_right (by omega) h
 omega
theorem yXg {l : List UInt8} {k : Nat} {b : UInt8} (h : l[k]? = some b) : num (l.take (k + 1)) = 10 * num (l.take k) + (b.toNat - 48):=by
 rw [List.take_succ,h]
 exact yWP _ _
theorem yXv {l : List UInt8} (h : 10 < l.length) : PU l = (0,false):=by
 unfold PU
 rw [if_neg (fun e=>by omega)]
theorem yXF {l : List UInt8} {k : Nat} {b : UInt8} (h : l[k]? = some b) (hb : yWl b = false) : PU l = (0,false):=by
 unfold PU
 rw [if_neg (fun e=>by rw [List.all_eq_true.1 e.2.1 b (List.mem_of_getElem? h)] at hb; cases hb)]
theorem yXK {l : List UInt8} (hd : ∀ b ∈ l,yWl b = true) (h : ¬ good l) : PU l = (0,false):=by
 unfold PU
 rw [if_neg (fun e=>h ((yXd hd).1 e.2.2.2))]
theorem yXE {l : List UInt8} (h : ¬ good l) : PU l = (0,false):=by
 by_cases hd : l.all yWl = true
 ·exact yXK (List.all_eq_true.1 hd) h
 ·unfold PU
  rw [if_neg (fun e=>hd e.2.1)]
theorem yXz {l : List UInt8} (h : 1000000000 < num l) : PU l = (0,false):=by
 unfold PU
 rw [if_neg (fun e=>by omega)]
theorem yXM {l : List UInt8} (h1 : l.length ≤ 10) (hd : ∀ b ∈ l,yWl b = true) (h2 : num l ≤ 1000000000) (h3 : fmt (num l) = l) : PU l = (num l,true):=by
 unfold PU
 rw [if_pos ⟨h1,List.all_eq_true.2 hd,h2,h3⟩]
theorem yXP {l : List UInt8} (h3 : ¬ fmt (num l) = l) : PU l = (0,false):=by
 unfold PU
 rw [if_neg (fun e=>h3 e.2.2.2)]
theorem yXl (d : Nat) (h : d < 10) : yB Tryd.prog 36 [.c (.i d)] (.c (.u (48 + d))):=by
 refine yh yWV ?_
 have t1 : ((d : Int) < 10) = True:=eq_true (by omega)
 simp -dsimp -implicitDefEqProofs [yWD,t1]
 exact ⟨by unfold inI; omega,by omega⟩
theorem yWy (n : Nat) (h : n ≤ 1000000000) : yB Tryd.prog 27 [.c (.i n)] (.c (.s (bs (fmt n)))):=by
 refine yh yWT ?_
 by_cases h0 : n = 0
 ·subst h0
  simp -dsimp -implicitDefEqProofs [yWr]
  rfl
 have t2 : ((n : Int) < 0) = False:=eq_false (by omega)
 have hf : fmt n = yWH n:=by unfold fmt; rw [if_neg h0]
 rw [hf]
 simp -dsimp -implicitDefEqProofs [yWr,t2,h0]
 refine yg (ι:=Nat × List UInt8) (fun q=>q.1 ≤ 1000000000 ∧ q.2.length ≤ 1000000000 - q.1 ∧ yWH n = yWH q.1 ++ q.2) (fun q=>yO [(0,.c (.i q.1)),(3,.c (.b false)),(4,.c (.s (bs q.2)))] []) (fun q=>q.1) (n,[]) ⟨h,by simp,by simp⟩ (by apply yj <;> simp; try rfl) ?_
 rintro ⟨m,s⟩ ⟨hm,hs,hd⟩
 simp only at hm hs hd
 by_cases m0 : m = 0
 ·subst m0
  rw [yWn] at hd
  simp -dsimp -implicitDefEqProofs [hd]
 ·obtain ⟨d,hmd⟩ : ∃ d,m % 10 = d:=⟨_,rfl⟩
  obtain ⟨q,hmq⟩ : ∃ q,m / 10 = q:=⟨_,rfl⟩
  have hd10 : d < 10:=by omega
  have hq : q < m:=by omega
  have u1 : (m : Int).tmod 10 = (d : Int):=by rw [Int.tmod_eq_emod_of_nonneg (by omega)]; omega
  have u2 : (m : Int).tdiv 10 = (q : Int):=by rw [Int.tdiv_eq_ediv_of_nonneg (by omega)]; omega
  have u3 : ((d : Int) < 0) = False:=eq_false (by omega)
  have hdg:=yWu m0
  rw [hmd,hmq] at hdg
  have u4 : (m : Int) / 10 = (q : Int):=by omega
  obtain ⟨c,hc⟩ : ∃ c : UInt8,(48 + d).toUInt8 = c:=⟨_,rfl⟩
  have hcn : c.toNat = 48 + d:=by rw [← hc]; exact yW2 d hd10
  have hcb : (⟨#[c]⟩ : ByteArray) = bs [c]:=rfl
  rw [hc] at hdg
  simp -dsimp -implicitDefEqProofs [m0,u1,u2,u3]
  refine ⟨by unfold inI; omega,?_⟩
  refine yaQ (yXl d hd10) (by simp -dsimp -implicitDefEqProofs) rfl ?_
  simp -dsimp -implicitDefEqProofs
  refine ⟨[c],by unfold yvZ; rw [List.map_cons,hcn]; rfl,?_⟩
  simp -dsimp -implicitDefEqProofs [u2,u4,hcb,yXb,yWi]
  refine ⟨by unfold maxLen; omega,by unfold inI; omega,q,c :: s,⟨by omega,by simp only [List.length_cons]; omega,by rw [hd,hdg]; simp⟩,hq,?_⟩
  apply yj <;> simp
theorem yW3 (l : List UInt8) : yB Tryd.prog 23 [.c (.s (bs l))] (.tup [.c (.i (PU l).1),.c (.b (PU l).2)]):=by
 refine yh yWU ?_
 by_cases hne : l = []
 ·subst hne
  simp -dsimp -implicitDefEqProofs [yWm,yWi,yXN]
 have hpos : 0 < l.length:=Nat.pos_of_ne_zero fun e=>hne (List.length_eq_zero_iff.1 e)
 by_cases h10 : 10 < l.length
 ·have t1 : (10 < (l.length : Int)) = True:=eq_true (by omega)
  simp -dsimp -implicitDefEqProofs [yWm,yWi,yXv h10,hne,t1]
 have t1 : (10 < (l.length : Int)) = False:=eq_false (by omega)
 have t2 : ((l.length : Int) ≤ 10) = True:=eq_true (by omega)
 obtain ⟨b,hb⟩ : ∃ b,l[0]? = some b:=⟨_,List.getElem?_eq_getElem hpos⟩
 have gb:=(List.getElem?_eq_some_iff.1 hb).2
 have hh : l.head? = some b:=by rw [List.head?_eq_getElem?]; exact hb
 by_cases hg : good l
 case neg =>
  have hb48 : b.toNat = 48 ∧ 1 < l.length:=by
   unfold good at hg
   rw [hh] at hg
   by_cases h1 : b = 48
   ·refine ⟨by rw [h1]; rfl,?_⟩
    by_cases h2 : 1 < l.length
    ·exact h2
    ·exact absurd ⟨hne,fun e=>h2 e.2⟩ hg
   ·exact absurd ⟨hne,fun e=>h1 (Option.some.inj e.1)⟩ hg
  have t3 : (1 < (l.length : Int)) = True:=eq_true (by omega)
  simp -dsimp -implicitDefEqProofs [yWm,yWi,yWA,yWs,hb,gb,yXE hg,hne,t1,t2,t3,hb48.1,hpos]
 have hgf : b.toNat = 48 → l.length ≤ 1:=fun e=>by
  by_cases h2 : 1 < l.length
  ·exact absurd ⟨by rw [hh]; exact congrArg some (UInt8.toNat_inj.1 e),h2⟩ hg.2
  ·omega
 have t3 : b.toNat = 48 → (1 < (l.length : Int)) = False:=fun e=>eq_false (by have:=hgf e; omega)
 by_cases hb48 : b.toNat = 48
 all_goals
  simp -dsimp -implicitDefEqProofs [yWm,yWi,yWA,yWs,hb,gb,hne,t1,t2,t3,hb48,hpos]
  intro hm
  refine yg (ι:=Nat) (fun k=>k ≤ l.length ∧ ∀ b ∈ l.take k,yWl b = true) (fun k=>yO [(0,.c (.s (bs l))),(4,.c (.i (num (l.take k)))),(5,.c (.i k))] []) (fun k=>l.length - k) 0 (by simp) (by apply yj <;> simp [num]) ?_
  rintro k ⟨hk,hall⟩
  have hnum:=yW9 (l:=l.take k) (by rw [List.length_take]; omega) hall
  rcases Nat.lt_or_ge k l.length with klt | kge
  ·obtain ⟨c,hc⟩ : ∃ c,l[k]? = some c:=⟨_,List.getElem?_eq_getElem klt⟩
   have gc:=(List.getElem?_eq_some_iff.1 hc).2
   have hnt:=yXg hc
   have hbad:=yXF hc
   have hnext : yWl c = true → ∀ b ∈ l.take (k + 1),yWl b = true:=fun h b hb=>by
    rw [List.take_succ,hc] at hb
    rcases List.mem_append.1 hb with hb | hb
    ·exact hall b hb
    ·rw [List.mem_singleton.1 hb]; exact h
   generalize num (l.take k) = v at *
   cases hdc : yWl c with
   | false =>
    rw [hbad hdc]
    have hdc2:=hdc
    simp only [yWl,Bool.and_eq_false_iff,decide_eq_false_iff_not] at hdc2
    simp -dsimp -implicitDefEqProofs [yWi,yWA,yWs,hc,gc,klt,yG klt]
    intro _
    omega
   | true =>
    have hdc2:=hdc
    simp only [yWl,Bool.and_eq_true,decide_eq_true_eq] at hdc2
    have c1 : (c.toNat < 48) = False:=eq_false (by omega)
    have c2 : (57 < c.toNat) = False:=eq_false (by omega)
    simp -dsimp -implicitDefEqProofs [yWi,yWA,yWs,hc,gc,klt,yG klt,c1,c2]
    intro _
    refine ⟨by unfold inI; omega,by unfold inI; omega,by unfold inI; omega,k + 1,⟨klt,hnext hdc⟩,by omega,?_⟩
    have e1 : (10 * (v : Int) + ((c.toNat : Int) + 208) % 256) = ((10 * v + (c.toNat - 48) : Nat) : Int):=by omega
    apply yj <;> simp [hnt,e1]
  ·rw [List.take_of_length_le kge] at hall hnum ⊢
   have hfn:=(yXd hall).2 hg
   simp -dsimp -implicitDefEqProofs [yWi,yaB kge]
   intro _
   refine ⟨fun h=>?_,fun h=>?_⟩
   ·rw [yXz (by omega)]; simp
   ·rw [yXM (by omega) hall (by omega) hfn]; simp
theorem yW8 (l : List UInt8) : yB Tryd.prog 21 [.c (.s (bs l))] (.tup [.c (.i (PU l).1),.c (.b (PU l).2)]):=by
 refine yh yWQ ?_
 by_cases h10 : 10 < l.length
 ·have t1 : (10 < (l.length : Int)) = True:=eq_true (by omega)
  simp -dsimp -implicitDefEqProofs [yWq,yWi,yXv h10,t1]
 have t1 : (10 < (l.length : Int)) = False:=eq_false (by omega)
 simp -dsimp -implicitDefEqProofs [yWq,yWi,t1]
 intro hm
 refine yg (ι:=Nat) (fun k=>k ≤ l.length ∧ ∀ b ∈ l.take k,yWl b = true) (fun k=>yO [(0,.c (.s (bs l))),(4,.c (.i (num (l.take k)))),(5,.c (.i k))] []) (fun k=>l.length - k) 0 (by simp) (by apply yj <;> simp [num]) ?_
 rintro k ⟨hk,hall⟩
 have hnum:=yW9 (l:=l.take k) (by rw [List.length_take]; omega) hall
 rcases Nat.lt_or_ge k l.length with klt | kge
 ·obtain ⟨c,hc⟩ : ∃ c,l[k]? = some c:=⟨_,List.getElem?_eq_getElem klt⟩
  have gc:=(List.getElem?_eq_some_iff.1 hc).2
  have hnt:=yXg hc
  have hbad:=yXF hc
  have hnext : yWl c = true → ∀ b ∈ l.take (k + 1),yWl b = true:=fun h b hb=>by
   rw [List.take_succ,hc] at hb
   rcases List.mem_append.1 hb with hb | hb
   ·exact hall b hb
   ·rw [List.mem_singleton.1 hb]; exact h
  generalize num (l.take k) = v at *
  cases hdc : yWl c with
  | false =>
   rw [hbad hdc]
   have hdc2:=hdc
   simp only [yWl,Bool.and_eq_false_iff,decide_eq_false_iff_not] at hdc2
   simp -dsimp -implicitDefEqProofs [yWi,yWA,yWs,hc,gc,klt,yG klt]
   intro _
   omega
  | true =>
   have hdc2:=hdc
   simp only [yWl,Bool.and_eq_true,decide_eq_true_eq] at hdc2
   have c1 : (c.toNat < 48) = False:=eq_false (by omega)
   have c2 : (57 < c.toNat) = False:=eq_false (by omega)
   simp -dsimp -implicitDefEqProofs [yWi,yWA,yWs,hc,gc,klt,yG klt,c1,c2]
   intro _
   refine ⟨by unfold inI; omega,by unfold inI; omega,by unfold inI; omega,by unfold inI; omega,k + 1,⟨klt,hnext hdc⟩,by omega,?_⟩
   have e1 : (10 * (v : Int) + (c.toNat : Int) - 48) = ((10 * v + (c.toNat - 48) : Nat) : Int):=by omega
   apply yj <;> simp [hnt,e1]
 ·rw [List.take_of_length_le kge] at hall hnum ⊢
  have hfn:=yXd hall
  by_cases hbig : 1000000000 < num l
  ·have b1 : (1000000000 < (num l : Int)) = True:=eq_true (by omega)
   rw [yXz hbig]
   simp -dsimp -implicitDefEqProofs [yWi,yaB kge,b1]
  ·have b1 : (1000000000 < (num l : Int)) = False:=eq_false (by omega)
   simp -dsimp -implicitDefEqProofs [yWi,yaB kge,b1]
   intro _
   refine yaQ (yWy (num l) (by omega)) (by simp -dsimp -implicitDefEqProofs) rfl ?_
   by_cases hf : fmt (num l) = l
   ·rw [yXM (by omega) hall (by omega) hf]
    simp -dsimp -implicitDefEqProofs [yWJ,hf]
   ·rw [yXP hf]
    simp -dsimp -implicitDefEqProofs [yWJ,hf]
def sen (p : List UInt8) : List C:=[.s (bs p)]
theorem yXp (l : List UInt8) (c : UInt8) (hl : l.length ≤ 2000000) : yB Tryd.prog 20 [.c (.s (bs l)),.c (.u c.toNat)] (.c (.sl 1 ((yWh c l).map sen))):=by
 refine yh yWZ ?_
 simp -dsimp -implicitDefEqProofs
 refine yg (ι:=Nat × Nat × List (List UInt8)) (fun q=>(q.1 ≤ l.length ∧ q.2.1 ≤ q.1 ∧ q.2.2.length ≤ q.1 ∧ yWh c l = q.2.2 ++ hd ((l.take q.1).drop q.2.1) (yWh c (l.drop q.1))) ∨ (q.1 = l.length + 1 ∧ yWh c l = q.2.2)) (fun q=>yO [(0,.c (.s (bs l))),(1,.c (.u c.toNat)),(5,.own 8 1 q.2.2.length),(6,.c (.i q.2.1)),(7,.c (.i q.1))] [(8,.row 1 (q.2.2.map sen))]) (fun q=>l.length + 1 - q.1) (0,0,[]) (.inl ⟨by simp,by simp,by simp,by simp [yXB (yWS c l)]⟩) (by apply yj <;> simp) ?_
 rintro ⟨k,f,out⟩ hI
 simp only at hI
 rcases hI with ⟨hk,hf,ho,hs⟩ | ⟨hk,hs⟩
 ·have t1 : ((k : Int) ≤ (l.length : Int)) = True:=eq_true (by omega)
  rcases Nat.lt_or_ge k l.length with klt | kge
  ·obtain ⟨b,hb⟩ : ∃ b,l[k]? = some b:=⟨_,List.getElem?_eq_getElem klt⟩
   have gb:=(List.getElem?_eq_some_iff.1 hb).2
   have t2 : ((k : Int) = (l.length : Int)) = False:=eq_false (by omega)
   have hdr : l.drop k = b :: l.drop (k + 1):=by
    rw [List.drop_eq_getElem_cons klt,gb]
   have htk : l.take (k + 1) = l.take k ++ [b]:=by rw [List.take_succ,hb]; rfl
   have hlt : (l.take k).length = k:=by rw [List.length_take]; omega
   rw [hdr,yWt] at hs
   simp -dsimp -implicitDefEqProofs [yWi,yWA,yWs,hb,gb,klt,t1,t2,yXq]
   intro _
   refine ⟨fun h=>⟨hf,by omega,by unfold inI; omega,k + 1,k + 1,out ++ [(l.take k).drop f],.inl ⟨klt,Nat.le_refl _,by simp; omega,?_⟩,by omega,?_⟩,fun h=>⟨by unfold inI; omega,k + 1,f,out,.inl ⟨klt,by omega,by omega,?_⟩,by omega,?_⟩⟩
   ·rw [if_pos (UInt8.toNat_inj.1 h)] at hs
    have hdn : (l.take (k + 1)).drop (k + 1) = []:=List.drop_eq_nil_of_le (by rw [List.length_take]; omega)
    rw [hs,hdn,yXB (yWS c _)]
    simp [hd]
   ·apply yj <;> simp [sen]
   ·rw [if_neg (fun e=>h (by rw [e]))] at hs
    rw [hs,hd_hd,htk,List.drop_append_of_le_length (by omega)]
   ·apply yj <;> simp
  ·have hkl : k = l.length:=by omega
   subst hkl
   rw [List.drop_length,List.take_length] at hs
   simp -dsimp -implicitDefEqProofs [yWi,yXq]
   intro _
   refine ⟨hf,by omega,by unfold inI; omega,l.length + 1,l.length + 1,out ++ [l.drop f],.inr ⟨rfl,by rw [hs]; simp [yWh,hd]⟩,by omega,?_⟩
   apply yj <;> simp [sen]
 ·have t1 : ((k : Int) ≤ (l.length : Int)) = False:=eq_false (by omega)
  simp -dsimp -implicitDefEqProofs [yWi,t1]
  intro _
  rw [hs,List.take_of_length_le (by simp)]
def ni (n : Nat) : List C:=[.i n]
def jk (ns : List Nat) (k : Nat) : List UInt8:=jn ((ns.take k).map fmt)
theorem yXc (ns : List Nat) : jk ns 0 = []:=by simp [jk,jn]
theorem yXQ {ns : List Nat} {n : Nat} (h : ns[0]? = some n) : jk ns 1 = fmt n:=by
 unfold jk
 cases ns with
 | nil=>cases h
 | cons a l=>cases h; rfl
theorem yXI {ns : List Nat} {k n : Nat} (h : ns[k]? = some n) (hk : k ≠ 0) : jk ns (k + 1) = jk ns k ++ 32 :: fmt n:=by
 unfold jk
 have hl:=(List.getElem?_eq_some_iff.1 h).1
 rw [List.take_succ,h,List.map_append]
 refine yXs _ fun e=>?_
 have:=congrArg List.length e
 simp only [List.length_map,List.length_take,List.length_nil] at this
 omega
theorem yXO {ns : List Nat} {k : Nat} (h : ns.length ≤ k) : jk ns k = jn (ns.map fmt):=by unfold jk; rw [List.take_of_length_le h]
theorem yXy (ns : List Nat) (hn : ∀ n ∈ ns,n ≤ 1000000000) (hl : ns.length ≤ 1000) : yB Tryd.prog 16 [.c (.sl 1 (ns.map ni)),.c (.s (bs [32]))] (.c (.s (bs (jn (ns.map fmt))))):=by
 refine yh yW4 ?_
 simp -dsimp -implicitDefEqProofs
 refine yg (ι:=Nat) (fun k=>k ≤ ns.length ∧ (jk ns k).length ≤ 20 * k) (fun k=>yO [(0,.c (.sl 1 (ns.map ni))),(1,.c (.s (bs [32]))),(5,.c (.s (bs (jk ns k)))),(6,.c (.i k))] []) (fun k=>ns.length - k) 0 (by simp [yXc]) (by apply yj <;> simp [yXc]; try rfl) ?_
 rintro k ⟨hk,hlen⟩
 rcases Nat.lt_or_ge k ns.length with klt | kge
 ·obtain ⟨n,hb⟩ : ∃ b,ns[k]? = some b:=⟨_,List.getElem?_eq_getElem klt⟩
  have gb:=(List.getElem?_eq_some_iff.1 hb).2
  have hnl:=hn n (List.mem_of_getElem? hb)
  have hfl:=(yXw hnl).1
  by_cases k0 : k = 0
  ·subst k0
   have e1:=yXQ hb
   have e0:=yXc ns
   simp -dsimp -implicitDefEqProofs [hb,gb,klt,yG klt,ni,e0]
   intro hm
   refine yaQ (yWy n hnl) (by simp -dsimp -implicitDefEqProofs) rfl ?_
   simp -dsimp -implicitDefEqProofs [yWi,yXb]
   refine ⟨by unfold maxLen; omega,by unfold inI; omega,1,⟨by omega,by rw [e1]; omega⟩,by omega,?_⟩
   apply yj <;> simp [e1]
  ·have e1:=yXI hb k0
   have t1 : (0 < k) = True:=eq_true (by omega)
   simp -dsimp -implicitDefEqProofs [hb,gb,klt,yG klt,t1,k0,ni,yWi,yXb]
   intro hm
   refine ⟨by unfold maxLen; omega,?_⟩
   refine yaQ (yWy n hnl) (by simp -dsimp -implicitDefEqProofs) rfl ?_
   simp -dsimp -implicitDefEqProofs [yWi,yXb]
   refine ⟨by unfold maxLen; omega,yw klt hm,k + 1,⟨klt,by rw [e1]; simp; omega⟩,by omega,?_⟩
   apply yj <;> simp [e1]
 ·rw [yXO kge]
  simp -dsimp -implicitDefEqProofs [yaB kge]
theorem yWR (e : Entry) : yB Tryd.prog 6 [.agg (e.enc.map .c)] (.c (.s (bs (FE e)))):=by
 refine yh yWI ?_
 simp -dsimp -implicitDefEqProofs
 refine yaQ (ysd e) (by simp -dsimp -implicitDefEqProofs) rfl ?_
 cases he : ycl e with
 | false =>
  have h1 : FE e = []:=by unfold FE; rw [he]; rfl
  rw [h1]
  simp -dsimp -implicitDefEqProofs
  rfl
 | true =>
  have h1 : FE e = jn ([e.From.toNat,e.To.toNat,e.Amount.toNat,e.Time.toNat,e.Why.toNat].map fmt):=by unfold FE; rw [he]; rfl
  have h2:=he
  simp only [ycl,inRange,Bool.and_eq_true,decide_eq_true_eq] at h2
  obtain ⟨⟨⟨⟨⟨a1,a2⟩,a3⟩,a4⟩,a5⟩,a6⟩:=h2
  simp -dsimp -implicitDefEqProofs
  refine yaQ (yXy [e.From.toNat,e.To.toNat,e.Amount.toNat,e.Time.toNat,e.Why.toNat] ?_ (by simp)) ?_ rfl ?_
  ·intro n hn
   simp only [List.mem_cons,List.mem_nil_iff,or_false] at hn
   omega
  ·have n1 : ni e.From.toNat = [.i e.From]:=by unfold ni; rw [Int.toNat_of_nonneg (by omega)]
   have n2 : ni e.To.toNat = [.i e.To]:=by unfold ni; rw [Int.toNat_of_nonneg (by omega)]
   have n3 : ni e.Amount.toNat = [.i e.Amount]:=by unfold ni; rw [Int.toNat_of_nonneg (by omega)]
   have n4 : ni e.Time.toNat = [.i e.Time]:=by unfold ni; rw [Int.toNat_of_nonneg (by omega)]
   have n5 : ni e.Why.toNat = [.i e.Why]:=by unfold ni; rw [Int.toNat_of_nonneg (by omega)]
   simp -dsimp -implicitDefEqProofs [n1,n2,n3,n4,n5]
   rfl
  ·rw [h1]
   simp -dsimp -implicitDefEqProofs
theorem yXh (l : List UInt8) (c : UInt8) : yB Tryd.prog 56 [.c (.s (bs l)),.c (.u c.toNat)] (.c (.i (Lib.indexByte l c))):=by
 refine yh yWp ?_
 have e1 : c.toNat.toUInt8 = c:=UInt8.ofNat_toNat
 simp -dsimp -implicitDefEqProofs [yWk,yXt,e1]
theorem indexByte_some {c : UInt8} : ∀ {l : List UInt8},c ∈ l → ∃ m : Nat,Lib.indexByte l c = (m : Int) ∧ m < l.length ∧ c ∉ l.take m ∧ l = l.take m ++ c :: l.drop (m + 1)
 | [],h=>by cases h
 | b :: l,h=>by
  unfold Lib.indexByte
  by_cases e : b = c
  ·subst e
   refine ⟨0,by simp,by simp,by simp,by simp⟩
  ·have h2 : c ∈ l:=by
    rcases List.mem_cons.1 h with h | h
    ·exact absurd h.symm e
    ·exact h
   obtain ⟨m,i1,i2,i3,i4⟩:=indexByte_some h2
   have e2 : (b == c) = false:=by simpa using e
   refine ⟨m + 1,?_,by simp; omega,?_,?_⟩
   ·rw [i1,e2]
    have : ((m : Int) == -1) = false:=by simp
    simp [this]
   ·simp only [List.take_succ_cons,List.mem_cons,not_or]
    exact ⟨fun e3=>e e3.symm,i3⟩
   ·simp only [List.take_succ_cons,List.drop_succ_cons,List.cons_append]
    rw [← i4]
theorem yXn (l : List UInt8) (c : UInt8) : yB Tryd.prog 50 [.c (.s (bs l)),.c (.s (bs [c]))] (.c (.i (Lib.indexByte l c))):=by
 refine yh yWv ?_
 by_cases h : l = [c]
 ·subst h
  have e0 : Lib.indexByte [c] c = 0:=by simp [Lib.indexByte]
  rw [e0]
  simp -dsimp -implicitDefEqProofs [yWj,yWi,yWJ,yWA,yWs]
 have h2 : ¬ [c] = l:=fun e=>h e.symm
 simp -dsimp -implicitDefEqProofs [yWj,yWi,yWJ,h2,yWA,yWs]
 intro _
 refine yaQ (yXh l c) (by simp -dsimp -implicitDefEqProofs) rfl ?_
 simp -dsimp -implicitDefEqProofs
theorem yBu (l : List UInt8) (c : UInt8) : yB Tryd.prog 42 [.c (.s (bs l)),.c (.s (bs [c]))] (.c (.i (Lib.indexByte l c))):=by
 refine yh yWY ?_
 simp -dsimp -implicitDefEqProofs
 refine yaQ (yXn l c) (by simp -dsimp -implicitDefEqProofs) rfl ?_
 simp -dsimp -implicitDefEqProofs
theorem yXJ (l : List UInt8) (c : UInt8) : yB Tryd.prog 41 [.c (.s (bs l)),.c (.s (bs [c]))] (.c (.i (l.count c))):=by
 refine yh yW1 ?_
 have e1 : c.toNat.toUInt8 = c:=UInt8.ofNat_toNat
 simp -dsimp -implicitDefEqProofs [yWE,yWi,yWA,yWs,yXt,e1,Lib.countByte]
theorem yXu {N i : Nat} {out : List (List UInt8)} (ho : out.length = i) (hi : i ≤ N) (E : List C) (p : List UInt8) :
 (out.map sen ++ List.replicate (N + 1 - i) E)[i]? = some E ∧ (out.map sen ++ List.replicate (N + 1 - i) E).set i (sen p) = (out ++ [p]).map sen ++ List.replicate (N - i) E:=by
 have e : N + 1 - i = (N - i) + 1:=by omega
 subst ho
 rw [e,List.replicate_succ]
 constructor
 ·rw [List.getElem?_append_right (by simp)]
  simp
 ·rw [List.set_append_right _ _ (by simp)]
  simp
theorem yXo (l : List UInt8) (c : UInt8) (hl : l.length ≤ 2000000) : yB Tryd.prog 33 [.c (.s (bs l)),.c (.s (bs [c])),.c (.i 0),.c (.i (-1))] (.c (.sl 1 ((yWh c l).map sen))):=by
 refine yh yWK ?_
 have hcl : l.count c ≤ l.length:=List.count_le_length
 have b1 : (bs [c] = (⟨#[]⟩ : ByteArray)) = False:=eq_false (fun e=>by have:=congrArg ByteArray.size e; rw [yWi] at this; simp [ByteArray.size] at this)
 simp -dsimp -implicitDefEqProofs [yWx,b1]
 refine yaQ (yXJ l c) (by simp -dsimp -implicitDefEqProofs) rfl ?_
 obtain ⟨N,hN⟩ : ∃ N,l.count c = N:=⟨_,rfl⟩
 rw [hN] at hcl ⊢
 have z0 : (l.length < N) = False:=eq_false (by omega)
 have z1 : (N : Int) + 1 - 1 = N:=by omega
 simp -dsimp -implicitDefEqProofs [yWi,z0,z1]
 refine ⟨by unfold inI; omega,fun _=>⟨by unfold inI; omega,by omega,by omega,by unfold inI; omega,?_⟩⟩
 refine yg (ι:=Nat × List UInt8 × List (List UInt8)) (fun q=>q.2.2.length = q.1 ∧ yWh c l = q.2.2 ++ yWh c q.2.1 ∧ q.1 + q.2.1.count c = N ∧ q.2.1.length ≤ l.length) (fun q=>yO [(0,.c (.s (bs q.2.1))),(1,.c (.s (bs [c]))),(2,.c (.i 0)),(3,.c (.i N)),(9,.own 31 1 (N + 1)),(10,.c (.i q.1))] [(31,.row 1 (q.2.2.map sen ++ List.replicate (N + 1 - q.1) [.s ⟨#[]⟩]))]) (fun q=>N - q.1) (0,l,[]) ⟨rfl,by simp,by simp only; omega,Nat.le_refl _⟩ (by apply yj <;> simp) ?_
 rintro ⟨i,s,out⟩ ⟨ho,hs,hc,hsl⟩
 simp only at ho hs hc hsl
 rcases Nat.lt_or_ge i N with ilt | ige
 ·have hmem : c ∈ s:=List.count_pos_iff.1 (by omega)
  obtain ⟨m,m1,m2,m3,m4⟩:=indexByte_some hmem
  have hIx:=yBu s c
  rw [m1] at hIx
  have t1 : ((m : Int) < 0) = False:=eq_false (by omega)
  simp -dsimp -implicitDefEqProofs [yG ilt]
  refine yaQ (hIx) (by simp -dsimp -implicitDefEqProofs) rfl ?_
  obtain ⟨r1,r2⟩:=yXu ho (by omega : i ≤ N) [.s ⟨#[]⟩] (s.take m)
  have r3 : [C.s (bs (s.take m))] = sen (s.take m):=rfl
  have hsp : yWh c s = s.take m :: yWh c (s.drop (m + 1)):=by
   have:=yWL (s.drop (m + 1)) m3
   rw [← m4] at this
   exact this
  have hcn : s.count c = 1 + (s.drop (m + 1)).count c:=by
   have h1:=congrArg (List.count c) m4
   rw [List.count_append,List.count_cons_self,List.count_eq_zero.2 m3] at h1
   omega
  generalize hR : out.map sen ++ List.replicate (N + 1 - i) [C.s ⟨#[]⟩] = R at r1 r2 ⊢
  have hRl : i < R.length:=(List.getElem?_eq_some_iff.1 r1).1
  simp -dsimp -implicitDefEqProofs [t1,yWi,yXq,r1]
  rw [r3,r2]
  refine ⟨by unfold inI; omega,by omega,by omega,hRl,fun _=>⟨by unfold inI; omega,by omega,by omega,by unfold inI; omega,i + 1,s.drop (m + 1),out ++ [s.take m],⟨by simp; omega,by rw [hs,hsp]; simp,by omega,by simp; omega⟩,by omega,?_⟩⟩
  have e2 : N + 1 - (i + 1) = N - i:=by omega
  apply yj <;> simp [e2]
 ·have hi : i = N:=by omega
  have hnone : c ∉ s:=fun h=>by have:=List.count_pos_iff.2 h; omega
  rw [yWF hnone] at hs
  obtain ⟨r1,r2⟩:=yXu ho (by omega : i ≤ N) [.s ⟨#[]⟩] s
  have r3 : [C.s (bs s)] = sen s:=rfl
  generalize hR : out.map sen ++ List.replicate (N + 1 - i) [C.s ⟨#[]⟩] = R at r1 r2 ⊢
  have hRl : i < R.length:=(List.getElem?_eq_some_iff.1 r1).1
  simp -dsimp -implicitDefEqProofs [yaB ige,r1]
  rw [r3,r2,hs]
  refine ⟨by omega,hRl,by unfold inI; omega,by omega,by omega,?_⟩
  rw [List.take_append_of_le_length (by simp; omega),List.take_of_length_le (by simp; omega)]
theorem yXG (l : List UInt8) (c : UInt8) (hl : l.length ≤ 2000000) : yB Tryd.prog 22 [.c (.s (bs l)),.c (.s (bs [c]))] (.c (.sl 1 ((yWh c l).map sen))):=by
 refine yh yWX ?_
 simp -dsimp -implicitDefEqProofs
 refine yaP (yXo l c hl) (by simp -dsimp -implicitDefEqProofs) rfl ?_
 simp -dsimp -implicitDefEqProofs
def nums (f : List (List UInt8)) (k : Nat) : List Int:=(List.range 5).map fun j=>if j < k then pn f j else 0
theorem yW6 (f : List (List UInt8)) (k : Nat) : (nums f k).length = 5:=by simp [nums]
theorem yXa (f : List (List UInt8)) : nums f 0 = [0,0,0,0,0]:=rfl
theorem yXk (f : List (List UInt8)) {k : Nat} (h : k < 5) : ((nums f k).map yJ).set k [.i (pn f k)] = (nums f (k + 1)).map yJ:=by
 apply List.ext_getElem?
 intro j
 rw [List.getElem?_set,List.getElem?_map,List.getElem?_map,List.length_map,yW6]
 unfold nums
 rw [List.getElem?_map,List.getElem?_map]
 rcases Nat.lt_or_ge j 5 with hj | hj
 ·rw [List.getElem?_range hj]
  by_cases e : k = j
  ·subst e; simp [h,yJ]
  ·by_cases hjk : j < k
   ·simp [e,hjk,show j < k + 1 by omega]
   ·simp [e,hjk,show ¬ j < k + 1 by omega]
 ·have : ¬ k = j:=by omega
  rw [if_neg this,List.getElem?_eq_none (by simp; omega)]
  rfl
theorem yXi {f : List (List UInt8)} {k : Nat} (h : f.length ≤ k ∨ 5 ≤ k) : nums f k = [pn f 0,pn f 1,pn f 2,pn f 3,pn f 4]:=by
 have hz : ∀ j,f.length ≤ j → pn f j = 0:=fun j hj=>by
  unfold pn
  rw [List.getD_eq_getElem?_getD,List.getElem?_eq_none hj]
  rfl
 have hone : ∀ j,j < 5 → (if j < k then pn f j else 0) = pn f j:=fun j hj=>by
  split
  ·rfl
  ·rcases h with h | h
   ·exact (hz j (by omega)).symm
   ·omega
 show [ite (0 < k) (pn f 0) 0,ite (1 < k) (pn f 1) 0,ite (2 < k) (pn f 2) 0,ite (3 < k) (pn f 3) 0,ite (4 < k) (pn f 4) 0] = _
 rw [hone 0 (by omega),hone 1 (by omega),hone 2 (by omega),hone 3 (by omega),hone 4 (by omega)]
set_option maxRecDepth 20000 in
theorem yW0 (s : List UInt8) (hl : s.length ≤ 2000000) (E : Entry) (ok : Bool) (h1 : yWB s → E = yWw s ∧ ok = true) (h2 : ¬ yWB s → E = zeroE ∧ ok = false) : yB Tryd.prog 9 [.c (.s (bs s))] (.tup [.agg (E.enc.map .c),.c (.b ok)]):=by
 refine yh yWN ?_
 have hS:=yXp s 32 hl
 obtain ⟨f,hf⟩ : ∃ f,yWh 32 s = f:=⟨_,rfl⟩
 rw [hf] at hS
 simp -dsimp -implicitDefEqProofs
 refine yaP (hS) (by simp -dsimp -implicitDefEqProofs) rfl ?_
 simp -dsimp -implicitDefEqProofs
 refine yg (ι:=Nat) (fun k=>k ≤ f.length ∧ k ≤ 5) (fun k=>yO [(0,.c (.s (bs s))),(2,.box 2 0),(3,.c (.b false)),(4,.c (.sl 1 (f.map sen))),(5,.own 10 1 5),(6,.c (.i k))] [(2,.box [.c (.i 0),.c (.i 0),.c (.i 0),.c (.i 0),.c (.i 0)]),(10,.row 1 ((nums f k).map yJ))]) (fun k=>5 - k) 0 ⟨by simp,by simp⟩ (by apply yj <;> simp [yXa]; try rfl) ?_
 rintro k ⟨hk,hk5⟩
 by_cases hgo : k < f.length ∧ k < 5
 ·obtain ⟨p,hp⟩ : ∃ p,f[k]? = some p:=⟨_,List.getElem?_eq_getElem hgo.1⟩
  have gp:=(List.getElem?_eq_some_iff.1 hp).2
  have hpn : pn f k = ((PU p).1 : Int):=by unfold pn; rw [List.getD_eq_getElem?_getD,hp]; rfl
  have t1 : ((k : Int) < 5) = True:=eq_true (by omega)
  have hset:=yXk f hgo.2
  have hnl:=yW6 f k
  simp -dsimp -implicitDefEqProofs [hp,gp,hgo.1,yG hgo.1,t1,sen]
  intro hm
  refine yaQ (yW8 p) (by simp -dsimp -implicitDefEqProofs) rfl ?_
  obtain ⟨v,hv⟩ : ∃ v,(nums f k)[k]? = some v:=⟨_,List.getElem?_eq_getElem (by omega)⟩
  simp -dsimp -implicitDefEqProofs [hv]
  refine ⟨by omega,by omega,by unfold inI; omega,k + 1,⟨by omega,by omega⟩,by omega,?_⟩
  rw [hpn] at hset
  apply yj <;> simp [hset,yJ]
 ·have hno:=yXi (f:=f) (k:=k) (by omega)
  have c1 : k < f.length → ((k : Int) < 5) = False:=fun h=>eq_false (by omega)
  have hE : yWw s = ⟨pn f 0,pn f 1,pn f 2,pn f 3,pn f 4⟩:=by unfold yWw; rw [hf]
  have hFE:=yWR (yWw s)
  rw [hE] at hFE
  rw [hno]
  have hri:=yXx s
  rw [hE] at hri
  by_cases hkf : k < f.length
  all_goals
   by_cases hs0 : s = []
   ·have b0 : bs s = (⟨#[]⟩ : ByteArray):=by rw [hs0]; rfl
    obtain ⟨rfl,rfl⟩:=h2 (fun h=>(hri.1 h).1 hs0)
    simp -dsimp -implicitDefEqProofs [hkf,c1,b0,zeroE]
   ·have b0 : (bs s = (⟨#[]⟩ : ByteArray)) = False:=eq_false (fun h=>hs0 (yWJ.mp h))
    simp -dsimp -implicitDefEqProofs [hkf,c1,b0]
    intro _
    refine yaQ (hFE) (by simp -dsimp -implicitDefEqProofs) rfl ?_
    by_cases hq : FE ⟨pn f 0,pn f 1,pn f 2,pn f 3,pn f 4⟩ = s
    ·obtain ⟨e1,e2⟩:=h1 (hri.2 ⟨hs0,hq⟩)
     rw [e1,e2,hE]
     simp -dsimp -implicitDefEqProofs [yWJ,hq]
    ·obtain ⟨e1,e2⟩:=h2 (fun h=>hq (hri.1 h).2)
     rw [e1,e2]
     simp -dsimp -implicitDefEqProofs [yWJ,hq,zeroE]
set_option maxRecDepth 20000 in
theorem yWW (s : List UInt8) (hl : s.length ≤ 2000000) (E : Entry) (ok : Bool) (h1 : yWB s → E = yWw s ∧ ok = true) (h2 : ¬ yWB s → E = zeroE ∧ ok = false) : yB Tryd.prog 10 [.c (.s (bs s))] (.tup [.agg (E.enc.map .c),.c (.b ok)]):=by
 refine yh yWO ?_
 have hS:=yXG s 32 hl
 obtain ⟨f,hf⟩ : ∃ f,yWh 32 s = f:=⟨_,rfl⟩
 have hE : yWw s = ⟨pn f 0,pn f 1,pn f 2,pn f 3,pn f 4⟩:=by unfold yWw; rw [hf]
 have hr : yWB s ↔ f.length = 5 ∧ (∀ p ∈ f,(PU p).2 = true) ∧ ycl (yWw s) = true:=by unfold yWB; rw [hf]
 rw [hE] at hr h1
 have hOk:=ysa ⟨pn f 0,pn f 1,pn f 2,pn f 3,pn f 4⟩
 rw [hf] at hS
 have b32 : (⟨#[32]⟩ : ByteArray) = bs [32]:=rfl
 simp -dsimp -implicitDefEqProofs [yWz,b32]
 refine yaP (hS) (by simp -dsimp -implicitDefEqProofs) rfl ?_
 simp -dsimp -implicitDefEqProofs
 intro hlen
 by_cases h5 : f.length = 5
 case neg =>
  obtain ⟨rfl,rfl⟩:=h2 (fun h=>h5 (hr.1 h).1)
  have z : ((f.length : Int) = 5) = False:=eq_false (by omega)
  simp -dsimp -implicitDefEqProofs [z,h5,zeroE]
 have z : ((f.length : Int) = 5) = True:=eq_true (by omega)
 simp -dsimp -implicitDefEqProofs [z,h5]
 intro _
 refine yg (ι:=Nat) (fun k=>k ≤ 5 ∧ ∀ p ∈ f.take k,(PU p).2 = true) (fun k=>yO [(2,.box 2 0),(3,.c (.b false)),(5,.row 5 1 0 0),(17,.c (.sl 1 (f.map sen))),(18,.c (.i 5)),(19,.c (.i k))] [(2,.box [.c (.i 0),.c (.i 0),.c (.i 0),.c (.i 0),.c (.i 0)]),(5,.row 1 ((nums f k).map yJ))]) (fun k=>5 - k) 0 ⟨by simp,by simp⟩ (by apply yj <;> simp [yXa]; try rfl) ?_
 rintro k ⟨hk5,hall⟩
 rcases Nat.lt_or_ge k 5 with klt | kge
 ·obtain ⟨p,hp⟩ : ∃ p,f[k]? = some p:=⟨_,List.getElem?_eq_getElem (by omega)⟩
  have gp:=(List.getElem?_eq_some_iff.1 hp).2
  have hpn : pn f k = ((PU p).1 : Int):=by unfold pn; rw [List.getD_eq_getElem?_getD,hp]; rfl
  have t1 : ((k : Int) < 5) = True:=eq_true (by omega)
  have hset:=yXk f klt
  have hnl:=yW6 f k
  have hkl : k < f.length:=by omega
  simp -dsimp -implicitDefEqProofs [hp,gp,hkl,t1,sen]
  refine yaQ (yW3 p) (by simp -dsimp -implicitDefEqProofs) rfl ?_
  cases hpu : (PU p).2 with
  | false =>
   obtain ⟨rfl,rfl⟩:=h2 (fun h=>by
    have:=(hr.1 h).2.1 p (List.mem_of_getElem? hp)
    rw [hpu] at this; cases this)
   simp -dsimp -implicitDefEqProofs [hpu,zeroE]
  | true =>
   obtain ⟨v,hv⟩ : ∃ v,(nums f k)[k]? = some v:=⟨_,List.getElem?_eq_getElem (by omega)⟩
   have hall2 : ∀ p ∈ f.take (k + 1),(PU p).2 = true:=fun q hq=>by
    rw [List.take_succ,hp] at hq
    rcases List.mem_append.1 hq with hq | hq
    ·exact hall q hq
    ·rw [List.mem_singleton.1 hq]; exact hpu
   rw [hpn] at hset
   simp -dsimp -implicitDefEqProofs [hpu,hv,t1]
   refine ⟨by omega,by unfold inI; omega,k + 1,⟨klt,hall2⟩,by omega,?_⟩
   apply yj <;> simp [hset]
 ·have hk : k = 5:=by omega
  subst hk
  rw [List.take_of_length_le (by omega)] at hall
  rw [yXi (.inr (Nat.le_refl 5))]
  simp -dsimp -implicitDefEqProofs
  refine yaQ (hOk) (by simp -dsimp -implicitDefEqProofs) rfl ?_
  cases hok : ycl ⟨pn f 0,pn f 1,pn f 2,pn f 3,pn f 4⟩ with
  | false =>
   obtain ⟨rfl,rfl⟩:=h2 (fun h=>by
    have:=(hr.1 h).2.2
    rw [hok] at this; cases this)
   simp -dsimp -implicitDefEqProofs [zeroE]
  | true =>
   obtain ⟨rfl,rfl⟩:=h1 (hr.2 ⟨h5,hall,hok⟩)
   simp -dsimp -implicitDefEqProofs
theorem yWG (b : ByteArray) : yB Tryd.prog 4 [.c (.s b)] (.c (.b true)):=by
 rw [bs_of b]
 generalize b.data.toList = s
 refine yh yWC ?_
 simp -dsimp -implicitDefEqProofs [yWo,yWi]
 intro _
 intro hl
 have hl2 : s.length ≤ 2000000:=by omega
 obtain ⟨E,ok,h1,h2⟩ : ∃ (E : Entry) (ok : Bool),(yWB s → E = yWw s ∧ ok = true) ∧ (¬ yWB s → E = zeroE ∧ ok = false):=by
  by_cases h : yWB s
  ·exact ⟨yWw s,true,fun _=>⟨rfl,rfl⟩,fun h2=>absurd h h2⟩
  ·exact ⟨zeroE,false,fun h2=>absurd h2 h,fun _=>⟨rfl,rfl⟩⟩
 refine yaQ (yW0 s hl2 E ok h1 h2) (by simp -dsimp -implicitDefEqProofs) rfl ?_
 simp -dsimp -implicitDefEqProofs
 refine yaQ (yWW s hl2 E ok h1 h2) (by simp -dsimp -implicitDefEqProofs) rfl ?_
 simp -dsimp -implicitDefEqProofs
 refine yaQ (yxo E E) (by simp -dsimp -implicitDefEqProofs) rfl ?_
 simp -dsimp -implicitDefEqProofs
theorem yVZ : IsLaw Rows.fnExactParseEntrySpec Tryd.f4.params.size:=by
 refine ⟨rfl,fun H ds h=>?_⟩
 match ds,h with
 | [d0],_=>rfl
theorem yVX : LawFacts Tryd.prog Tryd.f4 (Tryd.f4.resultTypes.getD 0 0) [(false,[.s])] :=
 ⟨yrS,by kernel_rfl,by kernel_rfl,by kernel_rfl,by kernel_rfl⟩
theorem yV3 (os : Os) (args : Array Value) : laidMetH Tryd.prog Rows.fnExactParseEntryRow.laid ((World.laidAll Tryd.prog os Rows.fnExactParseEntryRow.laid).forCall (fun _ _=>0) ⟨#[],args,[]⟩).memory:=by
 exact yV7 (by kernel_rfl) (laidMet_laidAll _ (by kernel_rfl) (by kernel_rfl))
set_option maxRecDepth 100000 in
theorem yVY (os : Os) (started : os.Started) (H : Type) (enc : TypeId × Value → H) :
 ReturnsInHanded {} Tryd.checked os 4 .any (fun w args=>(Rows.fnExactParseEntrySpec.pre enc Tryd.prog Tryd.f4 Rows.fnExactParseEntryRow.domain false w args ∧ laidMetH Tryd.prog Rows.fnExactParseEntryRow.laid w) ∧ sizedMet enc Tryd.prog Tryd.f4 (OpenSpec.ofChange Rows.fnExactParseEntrySpec) false w args) (Rows.fnExactParseEntrySpec.post enc Tryd.prog Tryd.f4 false true false false):=by
 refine yV8 (C:=Tryd.checked) yt1 started (by kernel_rfl) Tryd.func4
  (ChangeSpec.witness_shaped (enc:=enc) (C:=Tryd.checked) (os:=os) (X:=fun w _=>laidMetH Tryd.prog Rows.fnExactParseEntryRow.laid w) false (World.laidAll Tryd.prog os Rows.fnExactParseEntryRow.laid) #[.string ⟨#[]⟩] 8 (World.laidAll_os _ _ _) (World.shaped_of_ZipB (by kernel_rfl) (by kernel_rfl)) (by kernel_rfl) (by kernel_rfl) (by kernel_rfl) (yV3 os _)) yVZ yVX ?_
 rintro avs ⟨a,avs0,rfl,ha,rfl⟩
 cases ha with
 | one h0 =>
  obtain ⟨x,rfl⟩:=Fit.s_inv h0
  exact yWG x
theorem yV0 : ypf Tryd.prog 4 Tryd.f4 Rows.fnExactParseEntrySpec Rows.fnExactParseEntryRow = true:=by kernel_rfl
theorem yVW : Tryd.pinned.checked.prog.funcNamed Rows.fnExactParseEntryRow.func = some 4:=by kernel_rfl
theorem yV1 : Tryd.f4.isInstance Tryd.pinned.checked.prog Rows.fnExactParseEntryRow.origin Rows.fnExactParseEntryRow.targs:=(of_decide_eq_true (by kernel_rfl))
theorem yV2 : Tryd.f4.isWrapper Tryd.pinned.checked.prog Rows.fnExactParseEntryRow.wrapper Rows.fnExactParseEntryRow.mainSum:=by
 unfold Func.isWrapper; first | (rw [if_pos (by decide +kernel)]; kernel_rfl) | (rw [if_neg (by decide +kernel)]; exact ⟨rfl,rfl⟩)
theorem yV4 : Rows.FnExactParseEntrySaid :=
 OpenClaim.holds_of_wide (p:=Tryd.pinned) (s:=Rows.fnExactParseEntrySpec) (c:=Rows.fnExactParseEntryRow) 4 Tryd.f4 rfl rfl rfl rfl rfl rfl rfl ⟨rfl,rfl,rfl,rfl,rfl⟩ rfl rfl rfl rfl rfl yVW Tryd.func4
  (yyi yxx yV0 ⟨rfl,rfl,rfl,rfl,rfl,rfl,rfl,rfl⟩) yV1 yV2 (fun os started H enc _=>yVY os started H enc)
theorem FnExactParseEntry_holds : Rows.FnExactParseEntryCardSaid :=
 Claim7.holds_tied_plain_at .later [] [.data,.pinned] true (true,"96aae8ff7608ce531fa6561b67f159ee19d5c56cab7ba019f90e5a178a5be6d3") false
  yV4 (fun _ h=>by cases h) (by kernel_rfl) (fun _ h=>by cases h) fnExactParseEntry_row_tie rfl ⟨rfl,rfl⟩ (by kernel_rfl) rfl
  (fun f fn hf hfn=>by
   obtain rfl : f = 4:=Option.some.inj (yVW.symm.trans hf) |>.symm
   obtain rfl : fn = Tryd.f4:=(Option.some.inj (Tryd.func4.symm.trans hfn)).symm
   exact ⟨by kernel_rfl,fun j t ht=>by
    rw [Tryd.params4] at ht
    rcases j with _ | j
    ·obtain rfl:=Option.some.inj ht
     kernel_rfl
    ·simp at ht⟩)
  (by kernel_rfl)
#print axioms FnExactParseEntry_holds
end Go.Proofs.YtpkpdbohalbbaaaDoor
