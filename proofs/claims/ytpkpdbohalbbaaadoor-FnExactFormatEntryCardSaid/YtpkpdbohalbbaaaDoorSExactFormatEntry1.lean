/- What the law FnExactFormatEntry stands on: contracts of functions, what each answers as plain Lean, in short form (names, layout). -/
import Derived.Test.YtpkpdbohalbbaaaDoorSExactFormatEntryA3
import Derived.Test.YtpkpdbohalbbaaaDoorProg
import Derived.KernelRfl
import Derived.Test.YtpkpdbohalbbaaaDoorSExactFormatEntryA4
import Derived.Shelf.Strings.OnBuilder
import Derived.Shelf.LaysM
import Derived.Shelf.Strconv.Itoa3
import Derived.Test.YtpkpdbohalbbaaaDoorSExactFormatEntryA8
import Derived.WalkSmall
import Derived.Lib.ItoaMem
import Derived.Lib.Join
import Derived.Test.YtpkpdbohalbbaaaDoorSExactFormatEntryA5
import Derived.Test.YtpkpdbohalbbaaaDoorSExactFormatEntryA6
import Derived.Test.YtpkpdbohalbbaaaDoorSExactFormatEntryA9
import Derived.Test.YtpkpdbohalbbaaaDoorTie
import Derived.Test.YtpkpdbohalbbaaaDoorCards
import Derived.Lib.LaidTab
import Derived.Stop.LaidErr
set_option linter.all false
namespace Go.Proofs.YtpkpdbohalbbaaaDoor
open Go.RowKit
open Go.ChangeShapes Go.WideShapes
abbrev kI (n : Int) : X:=.k (.c (.i n))
abbrev kB (b : Bool) : X:=.k (.c (.b b))
abbrev iv (d n : Nat) : Ins:=⟨none,some d,.mv (.t n)⟩
abbrev ia (d : Nat) (o : IOp) : Ins:=⟨none,some d,o⟩
abbrev ig (t : Nat) (b : Bool) (d : Nat) (o : IOp) : Ins:=⟨some (t,b),some d,o⟩
abbrev ie (o : IOp) : Ins:=⟨none,none,o⟩
abbrev fA (d k a : Nat) : Ins:=ia d (.fld k (.t a))
abbrev lA (d a : Nat) : Ins:=ia d (.ld1 (.t a))
abbrev dA (d k a : Nat) : Ins:=ia d (.ldn k (.t a))
abbrev xA (d k a b : Nat) : Ins:=ia d (.idx k (.t a) (.t b))
abbrev mA (d : Nat) (n : Int) : Ins:=ia d (.mv (kI n))
abbrev bA (d : Nat) (b : Bool) : Ins:=ia d (.mv (kB b))
abbrev nA (d a : Nat) : Ins:=ia d (.len (.t a))
abbrev pA (d a : Nat) (n : Int) : Ins:=ia d (.bin .add (.t a) (kI n))
abbrev tA (d a b : Nat) : Ins:=ia d (.bin .lss (.t a) (.t b))
abbrev oA (d : Nat) (o : BinOp) (a b : Nat) : Ins:=ia d (.bin o (.t a) (.t b))
abbrev oI (d : Nat) (o : BinOp) (a : Nat) (n : Int) : Ins:=ia d (.bin o (.t a) (kI n))
abbrev nN (d a : Nat) : Ins:=ia d (.not (.t a))
abbrev c1 (d f a : Nat) : Ins:=ia d (.call f [.t a])
abbrev c2 (d f a b : Nat) : Ins:=ia d (.call f [.t a,.t b])
abbrev c3 (d f a b c : Nat) : Ins:=ia d (.call f [.t a,.t b,.t c])
abbrev bZ (d k : Nat) : Ins:=ia d (.bsl k [])
abbrev bS (d k a : Nat) : Ins:=ia d (.bsl k [.t a])
abbrev aP (d k b x y : Nat) : Ins:=ia d (.app k b (.t x) (.t y))
abbrev pT (d a b : Nat) : Ins:=ia d (.pick (.t a) (kB true) (.t b))
abbrev pF (d a b : Nat) : Ins:=ia d (.pick (.t a) (.t b) (kB false))
abbrev eX (d i a : Nat) : Ins:=ia d (.ext i (.t a))
abbrev bX (d n a : Nat) : Ins:=ia d (.box n (.t a))
abbrev mN (d k : Nat) : Ins:=ia d (.mv (.k (.nil k)))
abbrev tS (a b : Nat) : Ins:=ie (.st1 (.t a) (.t b))
abbrev tN (n a b : Nat) : Ins:=ie (.stn n (.t a) (.t b))
abbrev gA (c : Nat) (b : Bool) (d k a : Nat) : Ins:=ig c b d (.fld k (.t a))
abbrev hA (c : Nat) (b : Bool) (d a : Nat) : Ins:=ig c b d (.ld1 (.t a))
abbrev g8 (c : Nat) (b : Bool) (d a : Nat) : Ins:=ig c b d (.mv (.t a))
abbrev g9 (c : Nat) (b : Bool) (d a : Nat) : Ins:=ig c b d (.not (.t a))
abbrev q0 (i : Ins) : RIns:=⟨0,false,[],i⟩
abbrev q1 (i : Ins) : RIns:=⟨1,false,[],i⟩
abbrev q2 (i : Ins) : RIns:=⟨2,false,[],i⟩
abbrev q3 (i : Ins) : RIns:=⟨0,true,[],i⟩
abbrev q4 (k : Nat) (n : Bool) (c : List Nat) (i : Ins) : RIns:=⟨k,n,c,i⟩
abbrev rR (l : List Ins) : SC:=.seq (.reg l) .ret
abbrev rS (l : List Ins) (c : SC) : SC:=.seq (.reg l) c
abbrev rQ (l : List Ins) (c : SC) : SC:=.seq (.regq l) c
abbrev rE (l : List RIns) (c : SC) : SC:=.seq (.rege l) c
abbrev cX (t n : Nat) : SC:=.cond (.t t) .skip (.exit n)
abbrev cI (t : Nat) (c : SC) : SC:=.cond (.t t) c .skip
abbrev cT (t : Nat) (a b : SC) : SC:=.cond (.t t) a b
abbrev iS (l : List Ins) (t : Nat) (c d : SC) : SC:=.seq (.seq (.reg l) (.cond (.t t) c .skip)) d
abbrev xS (l : List Ins) (t n : Nat) (d : SC) : SC:=.seq (.seq (.reg l) (.cond (.t t) .skip (.exit n))) d
abbrev bL (n : Nat) (c : SC) : SC:=.block n (.loop c)
theorem yA {P : Program} {f N : Nat} {c : SC} {rs : List RS} {fn : Func} (fl : Option (List Nat)) (hf : P.funcs[f]? = some fn) (h : (fn.ntmps,fn.body.bind (ygf fl P N),yep P fn.results.toList,decide (N ≤ ycZ)) = (N,some c,some rs,true)) : Has P f N c rs:=by
 simp only [Prod.mk.injEq,decide_eq_true_eq] at h
 obtain ⟨h1,h2,h3,h4⟩:=h
 cases hb : fn.body with
 | none=>rw [hb] at h2; cases h2
 | some code=>rw [hb] at h2; exact ⟨h4,fn,code,hf,hb,h1,⟨fl,h2⟩,h3⟩
section
variable {P : Program} {f N d : Nat} {c : SC} {rs : List RS} {avs args : List AV} {res : AV} {s : St} {K : St → Prop} {k : AV → Prop} {ob : Nat → Obj} {dd : Option Nat} {kN : St → Prop} {T : Tag (k,kN)} {T1 : Tag k}
theorem yh (hf : Has P f N c rs) (H : wpS P N c (yh2 args) (fun e s=>match e with | .exit _=>False | _=>yml s rs res)) (hN : args.length ≤ N:=by simp) : yB P f args res:=ywS hf hN fun _=>H
theorem yJu (hf : Has P f N c rs) (H : ygO args → wpS P N c (yh2 args) (fun e s=>match e with | .exit _=>False | _=>yml s rs res)) (hN : args.length ≤ N:=by simp) : yB P f args res:=ywS hf hN H
theorem yc (hp : yB P f args res) (hK : K (s.put dd res)) (ho : ybD s avs args:=by simp) (hs : res.scalar = true:=by rfl) : yfo P f avs dd s K:=yaQ hp ho hs hK
theorem yS (hp : yB P f args res) (hK : K (s.put dd res)) (ho : ybD s avs args:=by simp) (hs : avs.all AV.ycJ = true:=by rfl) : yfo P f avs dd s K:=yaP hp ho hs hK
theorem yaC (hp : yB P f args res) (hK : k res) (ho : ybD (ycF ob) avs args:=by simp) (hs : res.scalar = true:=by rfl) : ysj P f avs ob k T1:=⟨_,_,hp,ho,.inr hs,hK⟩
theorem yyA (hp : yB P f args res) (hK : k res) (ho : ybD (ycF ob) avs args:=by simp) (hs : avs.all AV.ycJ = true:=by rfl) : ysj P f avs ob k T1:=⟨_,_,hp,ho,.inl hs,hK⟩
theorem yb1 (hp : yB P f args res) (hK : k res) (ho : ybD s avs args:=by simp) (hs : res.scalar = true:=by rfl) : ylY P f avs dd s k kN T:=ya2 hp ho (.inr hs) hK
theorem yY (hp : yB P f args res) (hK : k res) (ho : ybD s avs args:=by simp) (hs : avs.all AV.ycJ = true:=by rfl) : ylY P f avs dd s k kN T:=ya2 hp ho (.inl hs) hK
end
attribute [simp] AV.ygy AV.ymf Obj.ygy
theorem yXW : Has Tryd.prog 3 14 (rS [bX 1 5 0,bA 2 false] (rS [dA 5 5 1,c1 6 7 5,c1 7 6 6,iv 3 7] (rS [dA 8 5 1,c1 9 7 8,c1 10 8 9,iv 4 10] (iS [iv 11 4,iv 12 3,ia 13 (.seq true (.t 11) (.t 12))] 13 (rR [bA 2 false]) (rR [bA 2 true]))))) [.t 2]:=yA none Tryd.func3 (by kernel_rfl)
theorem yWI : Has Tryd.prog 6 18 (rS [bX 1 5 0,ia 2 (.mv (.k (.c (.s ⟨#[]⟩))))] (iS [dA 3 5 1,c1 4 15 3,nN 5 4] 5 (rR [ia 2 (.mv (.k (.c (.s ⟨#[]⟩))))]) (rR [fA 6 0 1,lA 7 6,fA 8 1 1,lA 9 8,fA 10 2 1,lA 11 10,fA 12 3 1,lA 13 12,fA 14 4 1,lA 15 14,ia 16 (.bsl 1 [.t 7,.t 9,.t 11,.t 13,.t 15]),ia 17 (.call 16 [.t 16,.k (.c (.s ⟨#[32]⟩))]),iv 2 17]))) [.t 2]:=yA none Tryd.func6 (by kernel_rfl)
theorem ypm : Has Tryd.prog 7 20 (rS [bX 1 5 0,ia 2 (.alloc [.c (.i 0),.c (.i 0),.c (.i 0),.c (.i 0),.c (.i 0)])] (rS [ia 3 (.alloc [.c (.i 0),.c (.i 0),.c (.i 0),.c (.i 0),.c (.i 0)])] (rS [fA 4 0 1,lA 5 4,fA 6 0 3,tS 6 5] (rS [fA 7 1 1,lA 8 7,fA 9 1 3,tS 9 8] (rS [fA 10 2 1,lA 11 10,fA 12 2 3,tS 12 11] (rS [fA 13 3 1,lA 14 13,fA 15 3 3,tS 15 14] (rS [fA 16 4 1,lA 17 16,fA 18 4 3,tS 18 17] (rR [dA 19 5 3,tN 5 2 19])))))))) [.cl 2 5]:=yA none Tryd.func7 (by kernel_rfl)
theorem yX4 : Has Tryd.prog 8 33 (rS [bX 1 5 0,ia 2 (.mv (.k (.c (.s ⟨#[]⟩))))] (iS [dA 6 5 1,c1 7 17 6,nN 8 7] 8 (rR [ia 2 (.mv (.k (.c (.s ⟨#[]⟩))))]) (rS [mN 3 1] (.seq (rS [fA 9 0 1,lA 10 9,fA 11 1 1,lA 12 11,fA 13 2 1,lA 14 13,fA 15 3 1,lA 16 15,fA 17 4 1,lA 18 17,ia 19 (.bsl 1 [.t 10,.t 12,.t 14,.t 16,.t 18]),nA 20 19,mA 21 0] (bL 0 (rS [tA 22 21 20] (.seq (cX 22 0) (.seq (.block 1 (rS [xA 23 1 19 21,lA 24 23,iv 5 24] (.reg [iv 25 3,iv 26 5,c1 27 18 26,bS 28 1 27,aP 29 1 16 25 28,iv 3 29]))) (.reg [pA 30 21 1,iv 21 30])))))) (rR [iv 31 3,ia 32 (.call 19 [.t 31,.k (.c (.s ⟨#[32]⟩))]),iv 2 32]))))) [.t 2]:=yA none Tryd.func8 (by kernel_rfl)
theorem yqb : Has Tryd.prog 15 33 (rS [bX 1 5 0,bA 2 false] (rR [fA 3 0 1,lA 4 3,fA 5 1 1,lA 6 5,oA 7 .neq 4 6,iv 8 7,gA 8 true 9 0 1,hA 8 true 10 9,ig 8 true 11 (.call 26 [.t 10,kI 0,kI 11]),pF 12 8 11,iv 13 12,gA 13 true 14 1 1,hA 13 true 15 14,ig 13 true 16 (.call 26 [.t 15,kI 0,kI 11]),pF 17 13 16,iv 18 17,gA 18 true 19 2 1,hA 18 true 20 19,ig 18 true 21 (.call 26 [.t 20,kI 1,kI 1000000000]),pF 22 18 21,iv 23 22,gA 23 true 24 3 1,hA 23 true 25 24,ig 23 true 26 (.call 26 [.t 25,kI 0,kI 1000000]),pF 27 23 26,iv 28 27,gA 28 true 29 4 1,hA 28 true 30 29,ig 28 true 31 (.call 26 [.t 30,kI 0,kI 9999]),pF 32 28 31,iv 2 32])) [.t 2]:=yA none Tryd.func15 (by kernel_rfl)
theorem yW4 : Has Tryd.prog 16 26 (rS [ia 4 (.mv (.k (.c (.s ⟨#[]⟩))))] (rS [ia 5 (.mv (.k (.c (.s ⟨#[]⟩))))] (.seq (rS [mA 6 0] (bL 0 (xS [iv 7 6,iv 8 0,nA 9 8,tA 10 7 9] 10 0 (.seq (.block 1 (iS [iv 13 6,oI 14 .gtr 13 0] 14 (.reg [iv 15 5,iv 16 1,ia 17 (.scat (.t 15) (.t 16)),iv 5 17]) (.reg [iv 18 5,iv 19 0,iv 20 6,xA 21 1 19 20,lA 22 21,c1 23 27 22,ia 24 (.scat (.t 18) (.t 23)),iv 5 24]))) (.reg [iv 11 6,pA 12 11 1,iv 6 12]))))) (rR [iv 25 5,iv 4 25])))) [.t 4]:=yA none Tryd.func16 (by kernel_rfl)
theorem ypP : Has Tryd.prog 17 33 (rS [bX 1 5 0,bA 2 false] (rR [fA 3 0 1,lA 4 3,fA 5 1 1,lA 6 5,oA 7 .neq 4 6,iv 8 7,gA 8 true 9 0 1,hA 8 true 10 9,ig 8 true 11 (.call 28 [.t 10,kI 0,kI 11]),pF 12 8 11,iv 13 12,gA 13 true 14 1 1,hA 13 true 15 14,ig 13 true 16 (.call 28 [.t 15,kI 0,kI 11]),pF 17 13 16,iv 18 17,gA 18 true 19 2 1,hA 18 true 20 19,ig 18 true 21 (.call 28 [.t 20,kI 1,kI 1000000000]),pF 22 18 21,iv 23 22,gA 23 true 24 3 1,hA 23 true 25 24,ig 23 true 26 (.call 28 [.t 25,kI 0,kI 1000000]),pF 27 23 26,iv 28 27,gA 28 true 29 4 1,hA 28 true 30 29,ig 28 true 31 (.call 28 [.t 30,kI 0,kI 9999]),pF 32 28 31,iv 2 32])) [.t 2]:=yA none Tryd.func17 (by kernel_rfl)
theorem yX5 : Has Tryd.prog 18 5 (rS [ia 2 (.mv (.k (.c (.s ⟨#[]⟩))))] (rR [iv 3 0,c1 4 29 3,iv 2 4])) [.t 2]:=yA none Tryd.func18 (by kernel_rfl)
def ylw : SC:=rS [bA 6 false] (rR [iv 7 0,iv 8 1,oA 9 .geq 7 8,iv 10 9,g8 10 true 11 0,g8 10 true 12 2,ig 10 true 13 (.bin .leq (.t 11) (.t 12)),pF 14 10 13,iv 6 14])
theorem ysx : Has Tryd.prog 26 15 ylw [.t 6]:=yA none Tryd.func26 (by kernel_rfl)
def yWr : SC:=rS [ia 2 (.mv (.k (.c (.s ⟨#[]⟩))))] (iS [iv 6 0,oI 7 .eql 6 0] 7 (rR [ia 2 (.mv (.k (.c (.s ⟨#[48]⟩))))]) (rS [iv 8 0,oI 9 .lss 8 0,iv 3 9] (rS [ia 4 (.mv (.k (.c (.s ⟨#[]⟩))))] (.seq (bL 0 (xS [iv 10 0,oI 11 .neq 10 0] 11 0 (.block 1 (rS [iv 12 0,oI 13 .rem 12 10,iv 5 13] (iS [iv 14 5,oI 15 .lss 14 0] 15 (.reg [iv 16 5,ia 17 (.neg (.t 16)),iv 5 17]) (rS [iv 18 5,c1 19 36 18,bS 20 1 19,ia 21 (.cvt 2 (.t 20)),iv 22 4,ia 23 (.scat (.t 21) (.t 22)),iv 4 23] (.reg [iv 24 0,oI 25 .quo 24 10,iv 0 25]))))))) (iS [iv 26 3] 26 (rR [iv 27 4,ia 28 (.scat (.k (.c (.s ⟨#[45]⟩))) (.t 27)),iv 2 28]) (rR [iv 29 4,iv 2 29]))))))
theorem yWT : Has Tryd.prog 27 30 yWr [.t 2]:=yA none Tryd.func27 (by kernel_rfl)
def yi1 : SC:=rS [bA 6 false] (rR [iv 7 0,iv 8 1,oA 9 .geq 7 8,iv 10 9,g8 10 true 11 0,g8 10 true 12 2,ig 10 true 13 (.bin .leq (.t 11) (.t 12)),pF 14 10 13,iv 6 14])
theorem yot : Has Tryd.prog 28 15 yi1 [.t 6]:=yA none Tryd.func28 (by kernel_rfl)
def yWD : SC:=rS [ia 2 (.mv (.k (.c (.u 0))))] (iS [iv 3 0,oI 4 .lss 3 10] 4 (rR [iv 5 0,ia 6 (.bin .add (kI 48) (.t 5)),ia 7 (.cvt 1 (.t 6)),iv 2 7]) (rR [iv 8 0,ia 9 (.bin .add (kI 97) (.t 8)),oI 10 .sub 9 10,ia 11 (.cvt 1 (.t 10)),iv 2 11]))
theorem yWV : Has Tryd.prog 36 12 yWD [.t 2]:=yA none Tryd.func36 (by kernel_rfl)
def inRange (n a b : Int) : Bool:=decide (a ≤ n) && decide (n ≤ b)
theorem yC (n a b : Int) : yB Tryd.prog 28 [.c (.i n),.c (.i a),.c (.i b)] (.c (.b (inRange n a b))):=by
 refine yh yot ?_
 simp -dsimp -implicitDefEqProofs [yi1,inRange]
 exact ⟨fun h=>by simp [h],fun h=>by simp [Int.not_le.2 h]⟩
theorem yD (n a b : Int) : yB Tryd.prog 26 [.c (.i n),.c (.i a),.c (.i b)] (.c (.b (inRange n a b))):=by
 refine yh ysx ?_
 simp -dsimp -implicitDefEqProofs [ylw,inRange]
 exact ⟨fun h=>by simp [h],fun h=>by simp [Int.not_le.2 h]⟩
structure Entry where
 From : Int
 To : Int
 Amount : Int
 Time : Int
 Why : Int
 deriving Inhabited,DecidableEq
@[simp] def Entry.enc (e : Entry) : List C:=[.i e.From,.i e.To,.i e.Amount,.i e.Time,.i e.Why]
def ycl (e : Entry) : Bool:=decide (e.From ≠ e.To) && inRange e.From 0 11 && inRange e.To 0 11 && inRange e.Amount 1 1000000000 && inRange e.Time 0 1000000 && inRange e.Why 0 9999
theorem ysa (e : Entry) : yB Tryd.prog 17 [.agg (e.enc.map .c)] (.c (.b (ycl e))):=by
 refine yh ypP ?_
 simp -dsimp -implicitDefEqProofs
 refine ⟨fun h=>?_,fun h=>by simp [ycl,h]⟩
 refine yc (yC e.From 0 11) ?_
 simp -dsimp -implicitDefEqProofs
 refine ⟨fun h1=>?_,fun h1=>by simp [ycl,h1]⟩
 refine yc (yC e.To 0 11) ?_
 simp -dsimp -implicitDefEqProofs
 refine ⟨fun h2=>?_,fun h1=>by simp [ycl,h1]⟩
 refine yc (yC e.Amount 1 1000000000) ?_
 simp -dsimp -implicitDefEqProofs
 refine ⟨fun h3=>?_,fun h1=>by simp [ycl,h1]⟩
 refine yc (yC e.Time 0 1000000) ?_
 simp -dsimp -implicitDefEqProofs
 refine ⟨fun h4=>?_,fun h1=>by simp [ycl,h1]⟩
 refine yc (yC e.Why 0 9999) ?_
 simp -dsimp -implicitDefEqProofs
 simp [ycl,h,h1,h2,h3,h4]
theorem lt_t {k n : Nat} (h : k < n) : ((k : Int) < (n : Int)) = True:=by simp [h]
theorem lt_f {k n : Nat} (h : n ≤ k) : ((k : Int) < (n : Int)) = False:=by simp [h]
structure Way where
 Long : Int
 Bed : Int
 deriving DecidableEq,Inhabited
@[simp] def Way.enc (e : Way) : List C:=[.i e.Long,.i e.Bed]
theorem ysd (e : Entry) : yB Tryd.prog 15 [.agg (e.enc.map .c)] (.c (.b (ycl e))):=by
 refine yh yqb ?_
 simp -dsimp -implicitDefEqProofs
 refine ⟨fun h=>?_,fun h=>by simp [ycl,h]⟩
 refine yc (yD e.From 0 11) ?_
 simp -dsimp -implicitDefEqProofs
 refine ⟨fun h1=>?_,fun h1=>by simp [ycl,h1]⟩
 refine yc (yD e.To 0 11) ?_
 simp -dsimp -implicitDefEqProofs
 refine ⟨fun h2=>?_,fun h1=>by simp [ycl,h1]⟩
 refine yc (yD e.Amount 1 1000000000) ?_
 simp -dsimp -implicitDefEqProofs
 refine ⟨fun h3=>?_,fun h1=>by simp [ycl,h1]⟩
 refine yc (yD e.Time 0 1000000) ?_
 simp -dsimp -implicitDefEqProofs
 refine ⟨fun h4=>?_,fun h1=>by simp [ycl,h1]⟩
 refine yc (yD e.Why 0 9999) ?_
 simp -dsimp -implicitDefEqProofs
 simp [ycl,h,h1,h2,h3,h4]
theorem yrC (e : Entry) : yB Tryd.prog 7 [.agg (e.enc.map .c)] (.agg (e.enc.map .c)):=by
 refine yh ypm ?_
 simp -dsimp -implicitDefEqProofs
theorem yw {k n : Nat} (hk : k < n) (h : n ≤ maxLen) : inI ((k : Int) + 1):=by unfold maxLen at h; unfold inI; omega
abbrev ienc (n : Int) : List C:=[.i n]
structure Tariff where
 Base : Int
 PerArea : Int
 PerClass : List Int
 Weights : List Int
 deriving DecidableEq
@[simp] def Tariff.enc (t : Tariff) : List C:=[.i t.Base,.i t.PerArea,.sl 1 (t.PerClass.map ienc),.sl 1 (t.Weights.map ienc)]
def Tariff.small (t : Tariff) : Prop:=t.PerClass.length ≤ 1048576 ∧ t.Weights.length ≤ 1048576
def bs (l : List UInt8) : ByteArray:=⟨l.toArray⟩
theorem yWi (l : List UInt8) : (bs l).size = l.length:=by simp [bs,ByteArray.size]
theorem yXb (a b : List UInt8) : bs a ++ bs b = bs (a ++ b):=by
 apply ByteArray.ext
 simp [bs]
theorem yXt (l : List UInt8) : (bs l).data.toList = l:=by simp [bs]
def hd (q : List UInt8) : List (List UInt8) → List (List UInt8)
 | []=>[q]
 | p :: t=>(q ++ p) :: t
def jn : List (List UInt8) → List UInt8
 | []=>[]
 | p :: l=>match l with
  | []=>p
  | _ :: _=>p ++ 32 :: jn l
theorem yXS (p : List UInt8) : jn [p] = p:=rfl
theorem yWM (p q : List UInt8) (l : List (List UInt8)) : jn (p :: q :: l) = p ++ 32 :: jn (q :: l):=rfl
theorem yXs : ∀ {l : List (List UInt8)} (p : List UInt8),l ≠ [] → jn (l ++ [p]) = jn l ++ 32 :: p
 | [],p,h=>absurd rfl h
 | [q],p,_=>rfl
 | q :: r :: l,p,_=>by
  have ih:=yXs (l:=r :: l) p (by simp)
  show jn (q :: r :: (l ++ [p])) = _
  rw [yWM]
  have e : r :: (l ++ [p]) = (r :: l) ++ [p]:=rfl
  rw [e,ih,yWM]
  simp
def yWH (n : Nat) : List UInt8:=if h : n = 0 then [] else yWH (n / 10) ++ [(48 + n % 10).toUInt8]
termination_by n
decreasing_by omega
theorem yWn : yWH 0 = []:=by unfold yWH; simp
theorem yWu {n : Nat} (h : n ≠ 0) : yWH n = yWH (n / 10) ++ [(48 + n % 10).toUInt8]:=by rw [yWH,dif_neg h]
def fmt (n : Nat) : List UInt8:=if n = 0 then [48] else yWH n
theorem yW2 (k : Nat) (h : k < 10) : ((48 + k).toUInt8).toNat = 48 + k:=by
 show (48 + k) % 256 = 48 + k
 omega
theorem yXe : ∀ (k n : Nat),n < 10 ^ k → (yWH n).length ≤ k
 | 0,n,h=>by
  have : n = 0:=by simpa using h
  subst this; rw [yWn]; simp
 | k + 1,n,h=>by
  by_cases h0 : n = 0
  ·subst h0; rw [yWn]; simp
  ·rw [yWu h0]
   have:=yXe k (n / 10) (by rw [Nat.pow_succ] at h; omega)
   simp; omega
theorem yXw {n : Nat} (h : n ≤ 1000000000) : (fmt n).length ≤ 10 ∧ 1 ≤ (fmt n).length:=by
 unfold fmt
 split
 ·simp
 ·rename_i h0
  refine ⟨yXe 10 n (by omega),?_⟩
  rw [yWu h0]; simp
def good (l : List UInt8) : Prop:=l ≠ [] ∧ ¬ (l.head? = some 48 ∧ 1 < l.length)
def lays156_ren : Go.Shelf.Ren:=⟨fun | 156=>19 | 165=>30 | 166=>31 | 169=>32 | 240=>38 | 241=>39 | 276=>45 | 277=>46 | n=>n,fun | 31=>40 | 9=>9 | 3=>3 | 4=>4 | 0=>0 | 20=>20 | 72=>54 | 76=>58 | 70=>52 | 37=>32 | 75=>57 | 127=>67 | 164=>72 | 5=>5 | 80=>60 | n=>n,fun | n=>n⟩
theorem lays156 : Go.Proofs.Lays.n156 Tryd.prog lays156_ren:={
 mixed:=by kernel_rfl
 f156:=Tryd.func19.trans (congrArg some (by kernel_rfl))
 f165:=Tryd.func30.trans (congrArg some (by kernel_rfl))
 f166:=Tryd.func31.trans (congrArg some (by kernel_rfl))
 f169:=Tryd.func32.trans (congrArg some (by kernel_rfl))
 f240:=Tryd.func38.trans (congrArg some (by kernel_rfl))
 f241:=Tryd.func39.trans (congrArg some (by kernel_rfl))
 f276:=Tryd.func45.trans (congrArg some (by kernel_rfl))
 f277:=Tryd.func46.trans (congrArg some (by kernel_rfl))
 t0:=Tryd.underlying0
 a0:=Tryd.isAgg0
 z0:=Tryd.sizeOf0
 v0:=Tryd.zeroValue0
 t3:=Tryd.underlying3
 a3:=Tryd.isAgg3
 z3:=Tryd.sizeOf3
 v3:=Tryd.zeroValue3
 t4:=Tryd.underlying4
 a4:=Tryd.isAgg4
 z4:=Tryd.sizeOf4
 v4:=Tryd.zeroValue4
 t9:=Tryd.underlying9
 a9:=Tryd.isAgg9
 z9:=Tryd.sizeOf9
 v9:=Tryd.zeroValue9
 t20:=Tryd.underlying20
 a20:=Tryd.isAgg20
 z20:=Tryd.sizeOf20
 v20:=Tryd.zeroValue20
 t31:=Tryd.underlying40
 a31:=Tryd.isAgg40
 z31:=Tryd.sizeOf40
 v31:=Tryd.zeroValue40
 t37:=Tryd.underlying32
 a37:=Tryd.isAgg32
 z37:=Tryd.sizeOf32
 v37:=Tryd.zeroValue32
 t70:=Tryd.underlying52
 a70:=Tryd.isAgg52
 z70:=Tryd.sizeOf52
 v70:=Tryd.zeroValue52
 t72:=Tryd.underlying54
 a72:=Tryd.isAgg54
 z72:=Tryd.sizeOf54
 v72:=Tryd.zeroValue54
 t75:=Tryd.underlying57
 a75:=Tryd.isAgg57
 z75:=Tryd.sizeOf57
 v75:=Tryd.zeroValue57
 t76:=Tryd.underlying58
 a76:=Tryd.isAgg58
 z76:=Tryd.sizeOf58
 v76:=Tryd.zeroValue58
 t127:=Tryd.underlying67
 a127:=Tryd.isAgg67
 z127:=Tryd.sizeOf67
 v127:=Tryd.zeroValue67
 t164:=Tryd.underlying72
 a164:=Tryd.isAgg72
 z164:=Tryd.sizeOf72
 v164:=Tryd.zeroValue72 }
theorem bx156 : Go.Proofs.Builder.Extra Tryd.prog lays156_ren:={
 sizeBuilder:=by kernel_rfl
 liesBuilder:=by kernel_rfl
 t5:=Tryd.underlying5
 a5:=Tryd.isAgg5
 z5:=Tryd.sizeOf5
 v5:=Tryd.zeroValue5
 infoByte:=by kernel_rfl
 cellsByte:=by kernel_rfl
 sizeByte:=by kernel_rfl
 neB5:=by decide }
def yYd : Go.Shelf.Ren:=⟨fun | 171=>29 | 243=>37 | 246=>44 | 283=>51 | 284=>52 | 285=>53 | 286=>54 | 129=>61 | 317=>60 | 318=>62 | 319=>63 | 320=>64 | 337=>67 | 338=>68 | n=>n,fun | 3=>3 | 9=>9 | 2=>2 | 4=>4 | 171=>80 | 0=>0 | 53=>81 | 37=>32 | 5=>5 | 173=>84 | 212=>88 | 51=>89 | 20=>20 | 213=>90 | 46=>79 | 232=>100 | 233=>101 | n=>n,fun | 17=>1 | 18=>4 | 19=>5 | n=>n⟩
theorem laysM171 : Go.Proofs.LaysM.n171 Tryd.prog yYd:={
 mixed:=by kernel_rfl
 f129:=Tryd.func61.trans (congrArg some (by kernel_rfl))
 f171:=Tryd.func29.trans (congrArg some (by kernel_rfl))
 f243:=Tryd.func37.trans (congrArg some (by kernel_rfl))
 f246:=Tryd.func44.trans (congrArg some (by kernel_rfl))
 f283:=Tryd.func51.trans (congrArg some (by kernel_rfl))
 f284:=Tryd.func52.trans (congrArg some (by kernel_rfl))
 f285:=Tryd.func53.trans (congrArg some (by kernel_rfl))
 f286:=Tryd.func54.trans (congrArg some (by kernel_rfl))
 f317:=Tryd.func60.trans (congrArg some (by kernel_rfl))
 f318:=Tryd.func62.trans (congrArg some (by kernel_rfl))
 f319:=Tryd.func63.trans (congrArg some (by kernel_rfl))
 f320:=Tryd.func64.trans (congrArg some (by kernel_rfl))
 f337:=Tryd.func67.trans (congrArg some (by kernel_rfl))
 f338:=Tryd.func68.trans (congrArg some (by kernel_rfl))
 t0:=Tryd.underlying0
 a0:=Tryd.isAgg0
 z0:=Tryd.sizeOf0
 v0:=Tryd.zeroValue0
 t2:=Tryd.underlying2
 a2:=Tryd.isAgg2
 z2:=Tryd.sizeOf2
 v2:=Tryd.zeroValue2
 t3:=Tryd.underlying3
 a3:=Tryd.isAgg3
 z3:=Tryd.sizeOf3
 v3:=Tryd.zeroValue3
 t4:=Tryd.underlying4
 a4:=Tryd.isAgg4
 z4:=Tryd.sizeOf4
 v4:=Tryd.zeroValue4
 t5:=Tryd.underlying5
 a5:=Tryd.isAgg5
 z5:=Tryd.sizeOf5
 v5:=Tryd.zeroValue5
 t9:=Tryd.underlying9
 a9:=Tryd.isAgg9
 z9:=Tryd.sizeOf9
 v9:=Tryd.zeroValue9
 t20:=Tryd.underlying20
 a20:=Tryd.isAgg20
 z20:=Tryd.sizeOf20
 v20:=Tryd.zeroValue20
 t37:=Tryd.underlying32
 a37:=Tryd.isAgg32
 z37:=Tryd.sizeOf32
 v37:=Tryd.zeroValue32
 t46:=Tryd.underlying79
 a46:=Tryd.isAgg79
 z46:=Tryd.sizeOf79
 v46:=Tryd.zeroValue79
 t51:=Tryd.underlying89
 a51:=Tryd.isAgg89
 z51:=Tryd.sizeOf89
 v51:=Tryd.zeroValue89
 t53:=Tryd.underlying81
 a53:=Tryd.isAgg81
 z53:=Tryd.sizeOf81
 v53:=Tryd.zeroValue81
 t171:=Tryd.underlying80
 a171:=Tryd.isAgg80
 z171:=Tryd.sizeOf80
 v171:=Tryd.zeroValue80
 t173:=Tryd.underlying84
 a173:=Tryd.isAgg84
 z173:=Tryd.sizeOf84
 v173:=Tryd.zeroValue84
 t212:=Tryd.underlying88
 a212:=Tryd.isAgg88
 z212:=Tryd.sizeOf88
 v212:=Tryd.zeroValue88
 t213:=Tryd.underlying90
 a213:=Tryd.isAgg90
 z213:=Tryd.sizeOf90
 t232:=Tryd.underlying100
 a232:=Tryd.isAgg100
 z232:=Tryd.sizeOf100
 v232:=Tryd.zeroValue100
 t233:=Tryd.underlying101
 a233:=Tryd.isAgg101
 z233:=Tryd.sizeOf101
 v233:=Tryd.zeroValue101
 g17:=by kernel_rfl
 g18:=by kernel_rfl
 g19:=by kernel_rfl
 i0:=by kernel_rfl
 i2:=by kernel_rfl
 i3:=by kernel_rfl
 i4:=by kernel_rfl
 i5:=by kernel_rfl
 i9:=by kernel_rfl
 i20:=by kernel_rfl
 i37:=by kernel_rfl
 i46:=by kernel_rfl
 i51:=by kernel_rfl
 i53:=by kernel_rfl
 i171:=by kernel_rfl
 i173:=by kernel_rfl
 i212:=by kernel_rfl
 i232:=by kernel_rfl
 i233:=by kernel_rfl
 m17:=by kernel_rfl
 m18:=by kernel_rfl
 m19:=by kernel_rfl }
def FE (e : Entry) : List UInt8:=if ycl e = true then jn [fmt e.From.toNat,fmt e.To.toNat,fmt e.Amount.toNat,fmt e.Time.toNat,fmt e.Why.toNat] else []
theorem yXl (d : Nat) (h : d < 10) : yB Tryd.prog 36 [.c (.i d)] (.c (.u (48 + d))):=by
 refine yh yWV ?_
 have t1 : ((d : Int) < 10) = True:=eq_true (by omega)
 simp -dsimp -implicitDefEqProofs [yWD,t1]
 exact ⟨by unfold inI; omega,by omega⟩
theorem yWy (n : Nat) (h : n ≤ 1000000000) : yB Tryd.prog 27 [.c (.i n)] (.c (.s (bs (fmt n)))):=by
 refine yh yWT ?_
 by_cases h0 : n = 0
 ·subst h0
  simp -dsimp -implicitDefEqProofs [yWr]
  rfl
 have t2 : ((n : Int) < 0) = False:=eq_false (by omega)
 have hf : fmt n = yWH n:=by unfold fmt; rw [if_neg h0]
 rw [hf]
 simp -dsimp -implicitDefEqProofs [yWr,t2,h0]
 refine yg (ι:=Nat × List UInt8) (fun q=>q.1 ≤ 1000000000 ∧ q.2.length ≤ 1000000000 - q.1 ∧ yWH n = yWH q.1 ++ q.2) (fun q=>yO [(0,.c (.i q.1)),(3,.c (.b false)),(4,.c (.s (bs q.2)))] []) (fun q=>q.1) (n,[]) ⟨h,by simp,by simp⟩ (by apply yj <;> simp; try rfl) ?_
 rintro ⟨m,s⟩ ⟨hm,hs,hd⟩
 simp only at hm hs hd
 by_cases m0 : m = 0
 ·subst m0
  rw [yWn] at hd
  simp -dsimp -implicitDefEqProofs [hd]
 ·obtain ⟨d,hmd⟩ : ∃ d,m % 10 = d:=⟨_,rfl⟩
  obtain ⟨q,hmq⟩ : ∃ q,m / 10 = q:=⟨_,rfl⟩
  have hd10 : d < 10:=by omega
  have hq : q < m:=by omega
  have u1 : (m : Int).tmod 10 = (d : Int):=by rw [Int.tmod_eq_emod_of_nonneg (by omega)]; omega
  have u2 : (m : Int).tdiv 10 = (q : Int):=by rw [Int.tdiv_eq_ediv_of_nonneg (by omega)]; omega
  have u3 : ((d : Int) < 0) = False:=eq_false (by omega)
  have hdg:=yWu m0
  rw [hmd,hmq] at hdg
  have u4 : (m : Int) / 10 = (q : Int):=by omega
  obtain ⟨c,hc⟩ : ∃ c : UInt8,(48 + d).toUInt8 = c:=⟨_,rfl⟩
  have hcn : c.toNat = 48 + d:=by rw [← hc]; exact yW2 d hd10
  have hcb : (⟨#[c]⟩ : ByteArray) = bs [c]:=rfl
  rw [hc] at hdg
  simp -dsimp -implicitDefEqProofs [m0,u1,u2,u3]
  refine ⟨by unfold inI; omega,?_⟩
  refine yaQ (yXl d hd10) (by simp -dsimp -implicitDefEqProofs) rfl ?_
  simp -dsimp -implicitDefEqProofs
  refine ⟨[c],by unfold yvZ; rw [List.map_cons,hcn]; rfl,?_⟩
  simp -dsimp -implicitDefEqProofs [u2,u4,hcb,yXb,yWi]
  refine ⟨by unfold maxLen; omega,by unfold inI; omega,q,c :: s,⟨by omega,by simp only [List.length_cons]; omega,by rw [hd,hdg]; simp⟩,hq,?_⟩
  apply yj <;> simp
def sen (p : List UInt8) : List C:=[.s (bs p)]
def ni (n : Nat) : List C:=[.i n]
def jk (ns : List Nat) (k : Nat) : List UInt8:=jn ((ns.take k).map fmt)
theorem yXc (ns : List Nat) : jk ns 0 = []:=by simp [jk,jn]
theorem yXQ {ns : List Nat} {n : Nat} (h : ns[0]? = some n) : jk ns 1 = fmt n:=by
 unfold jk
 cases ns with
 | nil=>cases h
 | cons a l=>cases h; rfl
theorem yXI {ns : List Nat} {k n : Nat} (h : ns[k]? = some n) (hk : k ≠ 0) : jk ns (k + 1) = jk ns k ++ 32 :: fmt n:=by
 unfold jk
 have hl:=(List.getElem?_eq_some_iff.1 h).1
 rw [List.take_succ,h,List.map_append]
 refine yXs _ fun e=>?_
 have:=congrArg List.length e
 simp only [List.length_map,List.length_take,List.length_nil] at this
 omega
theorem yXO {ns : List Nat} {k : Nat} (h : ns.length ≤ k) : jk ns k = jn (ns.map fmt):=by unfold jk; rw [List.take_of_length_le h]
theorem yXy (ns : List Nat) (hn : ∀ n ∈ ns,n ≤ 1000000000) (hl : ns.length ≤ 1000) : yB Tryd.prog 16 [.c (.sl 1 (ns.map ni)),.c (.s (bs [32]))] (.c (.s (bs (jn (ns.map fmt))))):=by
 refine yh yW4 ?_
 simp -dsimp -implicitDefEqProofs
 refine yg (ι:=Nat) (fun k=>k ≤ ns.length ∧ (jk ns k).length ≤ 20 * k) (fun k=>yO [(0,.c (.sl 1 (ns.map ni))),(1,.c (.s (bs [32]))),(5,.c (.s (bs (jk ns k)))),(6,.c (.i k))] []) (fun k=>ns.length - k) 0 (by simp [yXc]) (by apply yj <;> simp [yXc]; try rfl) ?_
 rintro k ⟨hk,hlen⟩
 rcases Nat.lt_or_ge k ns.length with klt | kge
 ·obtain ⟨n,hb⟩ : ∃ b,ns[k]? = some b:=⟨_,List.getElem?_eq_getElem klt⟩
  have gb:=(List.getElem?_eq_some_iff.1 hb).2
  have hnl:=hn n (List.mem_of_getElem? hb)
  have hfl:=(yXw hnl).1
  by_cases k0 : k = 0
  ·subst k0
   have e1:=yXQ hb
   have e0:=yXc ns
   simp -dsimp -implicitDefEqProofs [hb,gb,klt,lt_t klt,ni,e0]
   intro hm
   refine yaQ (yWy n hnl) (by simp -dsimp -implicitDefEqProofs) rfl ?_
   simp -dsimp -implicitDefEqProofs [yWi,yXb]
   refine ⟨by unfold maxLen; omega,by unfold inI; omega,1,⟨by omega,by rw [e1]; omega⟩,by omega,?_⟩
   apply yj <;> simp [e1]
  ·have e1:=yXI hb k0
   have t1 : (0 < k) = True:=eq_true (by omega)
   simp -dsimp -implicitDefEqProofs [hb,gb,klt,lt_t klt,t1,k0,ni,yWi,yXb]
   intro hm
   refine ⟨by unfold maxLen; omega,?_⟩
   refine yaQ (yWy n hnl) (by simp -dsimp -implicitDefEqProofs) rfl ?_
   simp -dsimp -implicitDefEqProofs [yWi,yXb]
   refine ⟨by unfold maxLen; omega,yw klt hm,k + 1,⟨klt,by rw [e1]; simp; omega⟩,by omega,?_⟩
   apply yj <;> simp [e1]
 ·rw [yXO kge]
  simp -dsimp -implicitDefEqProofs [lt_f kge]
theorem yWR (e : Entry) : yB Tryd.prog 6 [.agg (e.enc.map .c)] (.c (.s (bs (FE e)))):=by
 refine yh yWI ?_
 simp -dsimp -implicitDefEqProofs
 refine yaQ (ysd e) (by simp -dsimp -implicitDefEqProofs) rfl ?_
 cases he : ycl e with
 | false =>
  have h1 : FE e = []:=by unfold FE; rw [he]; rfl
  rw [h1]
  simp -dsimp -implicitDefEqProofs
  rfl
 | true =>
  have h1 : FE e = jn ([e.From.toNat,e.To.toNat,e.Amount.toNat,e.Time.toNat,e.Why.toNat].map fmt):=by unfold FE; rw [he]; rfl
  have h2:=he
  simp only [ycl,inRange,Bool.and_eq_true,decide_eq_true_eq] at h2
  obtain ⟨⟨⟨⟨⟨a1,a2⟩,a3⟩,a4⟩,a5⟩,a6⟩:=h2
  simp -dsimp -implicitDefEqProofs
  refine yaQ (yXy [e.From.toNat,e.To.toNat,e.Amount.toNat,e.Time.toNat,e.Why.toNat] ?_ (by simp)) ?_ rfl ?_
  ·intro n hn
   simp only [List.mem_cons,List.mem_nil_iff,or_false] at hn
   omega
  ·have n1 : ni e.From.toNat = [.i e.From]:=by unfold ni; rw [Int.toNat_of_nonneg (by omega)]
   have n2 : ni e.To.toNat = [.i e.To]:=by unfold ni; rw [Int.toNat_of_nonneg (by omega)]
   have n3 : ni e.Amount.toNat = [.i e.Amount]:=by unfold ni; rw [Int.toNat_of_nonneg (by omega)]
   have n4 : ni e.Time.toNat = [.i e.Time]:=by unfold ni; rw [Int.toNat_of_nonneg (by omega)]
   have n5 : ni e.Why.toNat = [.i e.Why]:=by unfold ni; rw [Int.toNat_of_nonneg (by omega)]
   simp -dsimp -implicitDefEqProofs [n1,n2,n3,n4,n5]
   rfl
  ·rw [h1]
   simp -dsimp -implicitDefEqProofs
theorem yX9 : ∀ n : Nat,n ≠ 0 → Lib.decDigits n = yWH n:=by
 intro n
 induction n using Nat.strongRecOn with
 | ind n ih =>
  intro h0
  rw [Lib.decDigits,yWu h0]
  split
  ·rename_i h
   rw [show n / 10 = 0 by omega,show n % 10 = n by omega,yWn]
   rfl
  ·rename_i h
   rw [ih (n / 10) (by omega) (by omega)]
theorem yYm (n : Nat) : Lib.itoa (n : Int) = fmt n:=by
 rw [Lib.itoa_nonneg]
 unfold fmt
 split
 ·rename_i h; subst h; rw [Lib.decDigits]; rfl
 ·rename_i h; exact yX9 n h
theorem yYh : ∀ l : List (List UInt8),Lib.join l [32] = jn l
 | []=>rfl
 | [p]=>Lib.join_one p [32]
 | p :: q :: l=>by
  have ih:=yYh (q :: l)
  rw [Lib.join_cons] at ih ⊢
  rw [yWM,← ih]
  simp [Lib.joinTail]
def yYl (o : Go.Obj) : Prop:=∃ t f,o = .cells (Lib.pow10Tab.map fun z=>Value.int .u64 z).toArray t f
theorem yYn (o : Go.Obj) (ho : yYl o) (n : Nat) (h : n ≤ 1000000000) : yX6 Tryd.prog 29 1 o [.c (.i n)] (.c (.s (bs (fmt n)))):=by
 obtain ⟨t,fz,rfl⟩:=ho
 intro w G hG hGb hob vs hvs hv
 obtain ⟨u,hu,hr⟩:=hv 0 _ rfl
 have hr' : Rd w G u (.i n):=hr
 cases hr' with
 | i hn =>
  have e : vs = #[.int .i64 n]:=by
   apply Array.ext_getElem?
   intro i
   match i with
   | 0=>rw [hu]; rfl
   | i + 1=>rw [Array.getElem?_eq_none (by rw [hvs]; simp),Array.getElem?_eq_none (by simp)]
  subst e
  refine (Any.strconv_Itoa laysM171 n (by omega) (by omega) w (by
   unfold Lib.TabIs World.var?
   rw [laysM171.m17]
   show (match w.heap[1]? with | some (.cells cs _ _)=>some cs | _=>none) = _
   rw [hob])).mono ?_
  rintro e w' ⟨rfl,k,os,rfl⟩
  refine ⟨_,rfl,?_,?_⟩
  ·refine (below_drewN (Below.refl _ w) k).trans ⟨rfl,rfl,rfl,?_,fun i hi=>?_⟩
   ·show _ ≤ ((w.drewN k).heap ++ os).size
    simp
   show ((w.drewN k).heap ++ os)[i]? = _
   rw [Array.getElem?_append_left]
   have : (w.drewN k).heap = w.heap:=rfl
   rw [this]; exact hi
  ·rw [yYm]
   have:=(yXw h).1
   exact Rd.s (bs:=bs (fmt n)) (by rw [yWi]; unfold maxLen; omega)
theorem yYg (o : Go.Obj) (ho : yYl o) (n : Nat) (h : n ≤ 1000000000) : yX6 Tryd.prog 18 1 o [.c (.i n)] (.c (.s (bs (fmt n)))):=by
 refine yX8 yX5 (by simp) fun hwf=>?_
 simp -dsimp -implicitDefEqProofs
 refine yX7 (yYn o ho n h) (by simp -dsimp -implicitDefEqProofs) (by simp -dsimp -implicitDefEqProofs) rfl ?_
 simp -dsimp -implicitDefEqProofs
theorem yYc : ∀ l : List (List UInt8),(∀ p ∈ l,p.length ≤ 20) → (jn l).length ≤ 21 * l.length
 | [],_=>by simp [jn]
 | [p],h=>by have:=h p (by simp); rw [yXS]; simp; omega
 | p :: q :: l,h=>by
  have h1:=h p (by simp)
  have h2:=yYc (q :: l) fun r hr=>h r (List.mem_cons_of_mem _ hr)
  rw [yWM]
  simp only [List.length_append,List.length_cons] at h2 ⊢
  omega
theorem yYi {s : St} {d : Option Nat} {K : St → Prop} {id n : Nat} {ps : List (List UInt8)} (ho : s.ob id = .row 1 (ps.map sen)) (hn : ps.length = n) (h1 : 1 ≤ n) (h2 : n ≤ 1000) (hl : ∀ p ∈ ps,p.length ≤ 20)
 (hK : K (s.put d (.c (.s (bs (jn ps)))))) : yfo Tryd.prog 19 [.own id 1 n,.c (.s (bs [32]))] d s K:=by
 intro g a w blk h hd vs hvs hv
 obtain ⟨u0,hu0,hr0⟩:=hv 0 _ rfl
 obtain ⟨u1,hu1,hr1⟩:=hv 1 _ rfl
 have hr1' : Rd w (Good g s.objs blk w) u1 (.s (bs [32])):=hr1
 cases hr1' with
 | s _ =>
  obtain ⟨m,hm,hle,hr0⟩:=hr0
  have hO : s.objs id = .row 1 (ps.map sen):=ho
  have hob:=h.objs id
  rw [hO] at hob
  rcases hr0 with ⟨_,hz,_⟩ | ⟨b,cap,arr0,e0,hb,rfl,hc1,hc2,hh,_⟩
  ·omega
  rcases hob with ⟨e1,e2⟩ | ⟨q,arr,e,e1,e2,e3,e4,e5⟩
  ·have : ps = []:=by simpa using e2
   subst this
   simp at hn
   omega
  have hqb : q = b:=by
   have : blk.root id = some b:=hb
   rw [this] at e1
   exact (Option.some.inj e1).symm
  subst hqb
  have ev : vs = #[.slice (some ⟨q,0,none⟩) n cap,.string (bs [32])]:=by
   apply Array.ext_getElem?
   intro i
   match i with
   | 0=>rw [hu0]; rfl
   | 1=>rw [hu1]; rfl
   | i + 2=>rw [Array.getElem?_eq_none (by rw [hvs]; simp),Array.getElem?_eq_none (by simp)]
  subst ev
  have hcells : ∀ (j : Nat) (x : ByteArray),(ps.map bs)[j]? = some x → w.cell? ⟨q,0 + j,none⟩ = some (.string x):=by
   intro j x hj
   rw [List.getElem?_map] at hj
   obtain ⟨p,hp,rfl⟩:=Option.map_eq_some_iff.1 hj
   obtain ⟨u,hu,hru⟩:=e5 j (sen p) 0 (.s (bs p)) (by rw [List.getElem?_map,hp]; rfl) rfl
   cases hru
   rw [Nat.mul_one,Nat.add_zero] at hu
   simp [World.cell?,e2,hu]
  have hjl : (Lib.join ((ps.map bs).map (·.data.toList)) (bs [32]).data.toList) = jn ps:=by
   rw [List.map_map,yXt,← yYh]
   congr 1
   exact (List.map_congr_left fun p _=>yXt p).trans (List.map_id _)
  have hjlen:=yYc ps hl
  have hlt:=yw0 e2
  have hc:=Any.strings_Join lays156 bx156 q 0 cap (ps.map bs) (bs [32]) w hcells hlt (by simp; omega) (by simp; omega) (by rw [hjl]; omega)
  rw [hjl,List.length_map,hn] at hc
  refine hc.mono ?_
  rintro e w' ⟨rfl,hbel⟩
  refine ⟨_,rfl,_,blk,hK,(h.call hbel).put hd ?_⟩
  exact Rd.s (bs:=bs (jn ps)) (by rw [yWi]; unfold maxLen; omega)
def yYb (e : Entry) : List Nat:=[e.From.toNat,e.To.toNat,e.Amount.toNat,e.Time.toNat,e.Why.toNat]
theorem yYa (o : Go.Obj) (ho : yYl o) (e : Entry) : yX6 Tryd.prog 8 1 o [.agg (e.enc.map .c)] (.c (.s (bs (FE e)))):=by
 refine yX8 yX4 (by simp) fun hwf=>?_
 simp -dsimp -implicitDefEqProofs
 refine yaQ (ysa e) (by simp -dsimp -implicitDefEqProofs) rfl ?_
 cases he : ycl e with
 | false =>
  have h1 : FE e = []:=by unfold FE; rw [he]; rfl
  rw [h1]
  simp -dsimp -implicitDefEqProofs
  rfl
 | true =>
  have h1 : FE e = jn ((yYb e).map fmt):=by unfold FE; rw [he]; rfl
  have h2:=he
  simp only [ycl,inRange,Bool.and_eq_true,decide_eq_true_eq] at h2
  obtain ⟨⟨⟨⟨⟨a1,a2⟩,a3⟩,a4⟩,a5⟩,a6⟩:=h2
  have n1 : [C.i e.From] = ni e.From.toNat:=by unfold ni; rw [Int.toNat_of_nonneg (by omega)]
  have n2 : [C.i e.To] = ni e.To.toNat:=by unfold ni; rw [Int.toNat_of_nonneg (by omega)]
  have n3 : [C.i e.Amount] = ni e.Amount.toNat:=by unfold ni; rw [Int.toNat_of_nonneg (by omega)]
  have n4 : [C.i e.Time] = ni e.Time.toNat:=by unfold ni; rw [Int.toNat_of_nonneg (by omega)]
  have n5 : [C.i e.Why] = ni e.Why.toNat:=by unfold ni; rw [Int.toNat_of_nonneg (by omega)]
  have hn : ∀ n ∈ yYb e,n ≤ 1000000000:=by
   intro n hn
   simp only [yYb,List.mem_cons,List.mem_nil_iff,or_false] at hn
   omega
  have hrow : [ni e.From.toNat,ni e.To.toNat,ni e.Amount.toNat,ni e.Time.toNat,ni e.Why.toNat] = (yYb e).map ni:=rfl
  have hl5 : (yYb e).length = 5:=rfl
  rw [h1]
  simp -dsimp -implicitDefEqProofs [n1,n2,n3,n4,n5,hrow]
  refine ⟨fun _ _=>rfl,fun _=>?_⟩
  refine ymd (k0:=1) 3 1 (by simp) (by simp) (by decide) ?_
  generalize yYb e = ns at hn hl5 ⊢
  refine yg (ι:=Nat) (fun k=>k ≤ ns.length) (fun k=>yO [(1000000,.gl 1 o),(3,.own 3 1 k),(19,.own 19 1 5),(20,.c (.i 5)),(21,.c (.i k))] [(3,.row 1 (((ns.map fmt).take k).map sen)),(19,.row 1 (ns.map ni))]) (fun k=>ns.length - k) 0 (by simp) (by apply yj <;> simp [hl5]) ?_
  rintro k hk
  have hplen : ((ns.map fmt).take k).length = k:=by rw [List.length_take,List.length_map]; omega
  rcases Nat.lt_or_ge k ns.length with klt | kge
  ·obtain ⟨n,hnk⟩ : ∃ n,ns[k]? = some n:=⟨_,List.getElem?_eq_getElem klt⟩
   have gn:=(List.getElem?_eq_some_iff.1 hnk).2
   have t1 : ((k : Int) < 5) = True:=eq_true (by omega)
   have hsucc : (ns.map fmt).take (k + 1) = (ns.map fmt).take k ++ [fmt n]:=by rw [List.take_succ,List.getElem?_map,hnk]; rfl
   generalize (ns.map fmt).take k = ps at hplen hsucc ⊢
   simp -dsimp -implicitDefEqProofs [hnk,gn,klt,t1,ni]
   refine yX7 (yYg o ho n (hn n (List.mem_of_getElem? hnk))) (by simp -dsimp -implicitDefEqProofs) (by simp -dsimp -implicitDefEqProofs) rfl ?_
   simp -dsimp -implicitDefEqProofs
   refine ⟨by omega,by omega,by unfold inI; omega,k + 1,klt,by omega,?_⟩
   have hs2 : (ns.map (sen ∘ fmt)).take (k + 1) = ps.map sen ++ [[C.s (bs (fmt n))]]:=by
    have h3:=congrArg (List.map sen) hsucc
    rw [List.map_take,List.map_map,List.map_append] at h3
    exact h3
   apply yj <;> simp [hs2,hplen]
  ·have hk5 : k = 5:=by omega
   subst hk5
   rw [List.take_of_length_le (by simp; omega)]
   have b32 : (⟨#[32]⟩ : ByteArray) = bs [32]:=rfl
   simp -dsimp -implicitDefEqProofs [b32]
   refine yYi (ps:=ns.map fmt) (by simp -dsimp -implicitDefEqProofs) (by simp [hl5]) (by omega) (by omega) ?_ ?_
   ·intro p hp
    obtain ⟨n,hn1,rfl⟩:=List.mem_map.1 hp
    have:=(yXw (hn n hn1)).1
    omega
   ·simp -dsimp -implicitDefEqProofs
theorem yX3 (o : Go.Obj) (ho : yYl o) (e : Entry) : yX6 Tryd.prog 3 1 o [.agg (e.enc.map .c)] (.c (.b true)):=by
 refine yX8 yXW (by simp) fun hwf=>?_
 simp -dsimp -implicitDefEqProofs
 refine yaQ (yrC e) (by simp -dsimp -implicitDefEqProofs) rfl ?_
 simp -dsimp -implicitDefEqProofs
 refine yaQ (yWR e) (by simp -dsimp -implicitDefEqProofs) rfl ?_
 simp -dsimp -implicitDefEqProofs
 refine yaQ (yrC e) (by simp -dsimp -implicitDefEqProofs) rfl ?_
 simp -dsimp -implicitDefEqProofs
 refine yX7 (yYa o ho e) (by simp -dsimp -implicitDefEqProofs) (by simp -dsimp -implicitDefEqProofs) rfl ?_
 simp -dsimp -implicitDefEqProofs
theorem yye {xs : List C} (h : Fits [.i,.i,.i,.i,.i] xs) : ∃ e : Entry,xs = e.enc:=by
 obtain ⟨c0,ys,rfl,h0,h⟩:=h.cons_inv
 obtain ⟨c1,ys,rfl,h1,h⟩:=h.cons_inv
 obtain ⟨c2,ys,rfl,h2,h⟩:=h.cons_inv
 obtain ⟨c3,ys,rfl,h3,h⟩:=h.cons_inv
 obtain ⟨c4,ys,rfl,h4,h⟩:=h.cons_inv
 obtain rfl:=h.ycx
 obtain ⟨n0,rfl⟩:=h0.yaT
 obtain ⟨n1,rfl⟩:=h1.yaT
 obtain ⟨n2,rfl⟩:=h2.yaT
 obtain ⟨n3,rfl⟩:=h3.yaT
 obtain ⟨n4,rfl⟩:=h4.yaT
 exact ⟨⟨n0,n1,n2,n3,n4⟩,rfl⟩
theorem yXX : IsLaw Rows.fnExactFormatEntrySpec Tryd.f3.params.size:=by
 refine ⟨rfl,fun H ds h=>?_⟩
 match ds,h with
 | [d0],_=>rfl
theorem yXU : LawFacts Tryd.prog Tryd.f3 (Tryd.f3.resultTypes.getD 0 0) [(true,[.i,.i,.i,.i,.i])] :=
 ⟨yrS,by kernel_rfl,by kernel_rfl,by kernel_rfl,by kernel_rfl⟩
theorem yX2 (os : Os) (args : Array Value) : laidMetH Tryd.prog Rows.fnExactFormatEntryRow.laid ((World.laidAll Tryd.prog os Rows.fnExactFormatEntryRow.laid).forCall (fun _ _=>0) ⟨#[],args,[]⟩).memory:=by
 exact yV7 (by kernel_rfl) (laidMet_laidAll _ (by kernel_rfl) (by kernel_rfl))
theorem yYk {H : Type} : (Rows.laid_internal_strconv_uint64pow10 : DataW H) = Lib.tabData .u64 Lib.pow10Tab:=by kernel_rfl
theorem yYo (W : World) (h : laidMetH Tryd.prog Rows.fnExactFormatEntryRow.laid W) : ∃ o,W.heap[1]? = some o ∧ yYl o:=by
 have h1:=yYj (by kernel_rfl) h
 have h2 : laidMet Tryd.prog [(_,Rows.laid_internal_strconv_uint64pow10)] W:=(laidMet.tail h1).tail
 rw [yYk] at h2
 have h3:=Lib.tabIs_of_head (t:=88) (e:=81) (n:=20) laysM171.m17 (by kernel_rfl) (by kernel_rfl) (by kernel_rfl) (by kernel_rfl) (by kernel_rfl) h2
 unfold Lib.TabIs World.var? at h3
 rw [laysM171.m17] at h3
 have h4 : (match (W.heap[1]? : Option Go.Obj) with | some (Go.Obj.cells cs _ _)=>some cs | _=>none) = some (Lib.pow10Tab.map fun z=>Value.int .u64 z).toArray:=h3
 split at h4
 ·rename_i cs t f hh
  cases h4
  exact ⟨_,hh,t,f,rfl⟩
 ·cases h4
set_option maxRecDepth 100000 in
theorem yXV (os : Os) (started : os.Started) (H : Type) (enc : TypeId × Value → H) :
 ReturnsInHanded {} Tryd.checked os 3 .any (fun w args=>(Rows.fnExactFormatEntrySpec.pre enc Tryd.prog Tryd.f3 Rows.fnExactFormatEntryRow.domain false w args ∧ laidMetH Tryd.prog Rows.fnExactFormatEntryRow.laid w) ∧ sizedMet enc Tryd.prog Tryd.f3 (OpenSpec.ofChange Rows.fnExactFormatEntrySpec) false w args) (Rows.fnExactFormatEntrySpec.post enc Tryd.prog Tryd.f3 false true false false):=by
 refine yYe (C:=Tryd.checked) yt1 started (by kernel_rfl) Tryd.func3
  (ChangeSpec.witness_shaped (enc:=enc) (C:=Tryd.checked) (os:=os) (X:=fun w _=>laidMetH Tryd.prog Rows.fnExactFormatEntryRow.laid w) false (World.laidAll Tryd.prog os Rows.fnExactFormatEntryRow.laid) #[.agg #[.int .i64 0,.int .i64 0,.int .i64 0,.int .i64 0,.int .i64 0]] 8 (World.laidAll_os _ _ _) (World.shaped_of_ZipB (by kernel_rfl) (by kernel_rfl)) (by kernel_rfl) (by kernel_rfl) (by kernel_rfl) (yX2 os _)) yXX yXU yYo ?_
 rintro o ho avs ⟨a,avs0,rfl,ha,rfl⟩
 cases ha with
 | st h0 =>
  obtain ⟨x0,rfl⟩:=yye h0
  exact yX3 o ho x0
theorem yXY : ypf Tryd.prog 3 Tryd.f3 Rows.fnExactFormatEntrySpec Rows.fnExactFormatEntryRow = true:=by kernel_rfl
theorem yXT : Tryd.pinned.checked.prog.funcNamed Rows.fnExactFormatEntryRow.func = some 3:=by kernel_rfl
theorem yXZ : Tryd.f3.isInstance Tryd.pinned.checked.prog Rows.fnExactFormatEntryRow.origin Rows.fnExactFormatEntryRow.targs:=(of_decide_eq_true (by kernel_rfl))
theorem yX0 : Tryd.f3.isWrapper Tryd.pinned.checked.prog Rows.fnExactFormatEntryRow.wrapper Rows.fnExactFormatEntryRow.mainSum:=by
 unfold Func.isWrapper; first | (rw [if_pos (by decide +kernel)]; kernel_rfl) | (rw [if_neg (by decide +kernel)]; exact ⟨rfl,rfl⟩)
theorem yX1 : Rows.FnExactFormatEntrySaid :=
 OpenClaim.holds_of_wide (p:=Tryd.pinned) (s:=Rows.fnExactFormatEntrySpec) (c:=Rows.fnExactFormatEntryRow) 3 Tryd.f3 rfl rfl rfl rfl rfl rfl rfl ⟨rfl,rfl,rfl,rfl,rfl⟩ rfl rfl rfl rfl rfl yXT Tryd.func3
  (yyi yxx yXY ⟨rfl,rfl,rfl,rfl,rfl,rfl,rfl,rfl⟩) yXZ yX0 (fun os started H enc _=>yXV os started H enc)
theorem FnExactFormatEntry_holds : Rows.FnExactFormatEntryCardSaid :=
 Claim7.holds_tied_plain_at .later [] [.data,.data,.data] true (true,"96aae8ff7608ce531fa6561b67f159ee19d5c56cab7ba019f90e5a178a5be6d3") false
  yX1 (fun _ h=>by cases h) (by kernel_rfl) (fun _ h=>by cases h) fnExactFormatEntry_row_tie rfl ⟨rfl,rfl⟩ (by kernel_rfl) rfl
  (fun f fn hf hfn=>by
   obtain rfl : f = 3:=Option.some.inj (yXT.symm.trans hf) |>.symm
   obtain rfl : fn = Tryd.f3:=(Option.some.inj (Tryd.func3.symm.trans hfn)).symm
   exact ⟨by kernel_rfl,fun j t ht=>by
    rw [Tryd.params3] at ht
    rcases j with _ | j
    ·obtain rfl:=Option.some.inj ht
     kernel_rfl
    ·simp at ht⟩)
  (by kernel_rfl)
#print axioms FnExactFormatEntry_holds
end Go.Proofs.YtpkpdbohalbbaaaDoor
