/- What the law FnExactWorkLock stands on: contracts of functions, what each answers as plain Lean, in short form (names, layout). -/
import Derived.Test.YtekgilpcgbbfcaaGreatSExactWorkLockA3
import Derived.Test.YtekgilpcgbbfcaaGreatProg
import Derived.KernelRfl
import Derived.Test.YtekgilpcgbbfcaaGreatSExactWorkLockA4
import Derived.Test.YtekgilpcgbbfcaaGreatSExactWorkLockA7
import Derived.Test.YtekgilpcgbbfcaaGreatSExactWorkLockA8
import Derived.Test.YtekgilpcgbbfcaaGreatSExactWorkLockA9
import Derived.Test.YtekgilpcgbbfcaaGreatSExactWorkLockA10
import Derived.Test.YtekgilpcgbbfcaaGreatSExactWorkLockA12
import Derived.Test.YtekgilpcgbbfcaaGreatSExactWorkLockA13
import Derived.Test.YtekgilpcgbbfcaaGreatSExactWorkLockA14
import Derived.Test.YtekgilpcgbbfcaaGreatSExactWorkLockA11
import Derived.Test.YtekgilpcgbbfcaaGreatSExactWorkLockA5
import Derived.Test.YtekgilpcgbbfcaaGreatSExactWorkLockA6
set_option linter.all false
set_option maxRecDepth 100000
set_option maxHeartbeats 4000000
namespace Go.Proofs.YtekgilpcgbbfcaaGreat
open Go.RowKit
noncomputable abbrev prg:=Tryz.prog
noncomputable section
abbrev kI(n:Int):X:=.k (.c (.i n))
abbrev kB(b:Bool):X:=.k (.c (.b b))
abbrev iv(d n:Nat):Ins:=⟨none,some d,.mv (.t n)⟩
abbrev ia(d:Nat)(o:IOp):Ins:=⟨none,some d,o⟩
abbrev ig(t:Nat)(b:Bool)(d:Nat)(o:IOp):Ins:=⟨some (t,b),some d,o⟩
abbrev ie(o:IOp):Ins:=⟨none,none,o⟩
abbrev fA(d k a:Nat):Ins:=ia d (.fld k (.t a))
abbrev lA(d a:Nat):Ins:=ia d (.ld1 (.t a))
abbrev dA(d k a:Nat):Ins:=ia d (.ldn k (.t a))
abbrev xA(d k a b:Nat):Ins:=ia d (.idx k (.t a) (.t b))
abbrev mA(d:Nat)(n:Int):Ins:=ia d (.mv (kI n))
abbrev bA(d:Nat)(b:Bool):Ins:=ia d (.mv (kB b))
abbrev nA(d a:Nat):Ins:=ia d (.len (.t a))
abbrev pA(d a:Nat)(n:Int):Ins:=ia d (.bin .add (.t a) (kI n))
abbrev tA(d a b:Nat):Ins:=ia d (.bin .lss (.t a) (.t b))
abbrev oA(d:Nat)(o:BinOp)(a b:Nat):Ins:=ia d (.bin o (.t a) (.t b))
abbrev oI(d:Nat)(o:BinOp)(a:Nat)(n:Int):Ins:=ia d (.bin o (.t a) (kI n))
abbrev nN(d a:Nat):Ins:=ia d (.not (.t a))
abbrev c1(d f a:Nat):Ins:=ia d (.call f [.t a])
abbrev c2(d f a b:Nat):Ins:=ia d (.call f [.t a,.t b])
abbrev c3(d f a b c:Nat):Ins:=ia d (.call f [.t a,.t b,.t c])
abbrev bZ(d k:Nat):Ins:=ia d (.bsl k [])
abbrev bS(d k a:Nat):Ins:=ia d (.bsl k [.t a])
abbrev aP(d k b x y:Nat):Ins:=ia d (.app k b (.t x) (.t y))
abbrev pT(d a b:Nat):Ins:=ia d (.pick (.t a) (kB true) (.t b))
abbrev pF(d a b:Nat):Ins:=ia d (.pick (.t a) (.t b) (kB false))
abbrev eX(d i a:Nat):Ins:=ia d (.ext i (.t a))
abbrev bX(d n a:Nat):Ins:=ia d (.box n (.t a))
abbrev mN(d k:Nat):Ins:=ia d (.mv (.k (.nil k)))
abbrev tS(a b:Nat):Ins:=ie (.st1 (.t a) (.t b))
abbrev tN(n a b:Nat):Ins:=ie (.stn n (.t a) (.t b))
abbrev gA(c:Nat)(b:Bool)(d k a:Nat):Ins:=ig c b d (.fld k (.t a))
abbrev hA(c:Nat)(b:Bool)(d a:Nat):Ins:=ig c b d (.ld1 (.t a))
abbrev g8(c:Nat)(b:Bool)(d a:Nat):Ins:=ig c b d (.mv (.t a))
abbrev g9(c:Nat)(b:Bool)(d a:Nat):Ins:=ig c b d (.not (.t a))
abbrev q0(i:Ins):ySo:=⟨0,false,[],i⟩
abbrev q1(i:Ins):ySo:=⟨1,false,[],i⟩
abbrev q2(i:Ins):ySo:=⟨2,false,[],i⟩
abbrev q3(i:Ins):ySo:=⟨0,true,[],i⟩
abbrev q4(k:Nat)(n:Bool)(c:List Nat)(i:Ins):ySo:=⟨k,n,c,i⟩
abbrev rR(l:List Ins):SC:=.seq (.reg l) .ret
abbrev rS(l:List Ins)(c:SC):SC:=.seq (.reg l) c
abbrev rQ(l:List Ins)(c:SC):SC:=.seq (.regq l) c
abbrev rE(l:List ySo)(c:SC):SC:=.seq (.rege l) c
abbrev cX(t n:Nat):SC:=.cond (.t t) .skip (.exit n)
abbrev cI(t:Nat)(c:SC):SC:=.cond (.t t) c .skip
abbrev cT(t:Nat)(a b:SC):SC:=.cond (.t t) a b
abbrev iS(l:List Ins)(t:Nat)(c d:SC):SC:=.seq (.seq (.reg l) (.cond (.t t) c .skip)) d
abbrev xS(l:List Ins)(t n:Nat)(d:SC):SC:=.seq (.seq (.reg l) (.cond (.t t) .skip (.exit n))) d
abbrev bL(n:Nat)(c:SC):SC:=.block n (.loop c)
def jB{P:Program}{f N:Nat}{c:SC}{rs:List RS}{fn:Func}(fl:Option (List Nat))(hf:P.funcs[f]?=some fn)(h:(fn.ntmps,fn.body.bind (ydT fl P N),ybo P fn.results.toList,decide (N<=jV))=(N,some c,some rs,true):=by kernel_rfl):Has P f N c rs:=by
 simp only[Prod.mk.injEq,decide_eq_true_eq]at h;obtain⟨h1,h2,h3,h4⟩:=h;cases hb:fn.body with
 |none=>rw[hb]at h2;cases h2
 |some code=>rw[hb]at h2;exact⟨h4,fn,code,hf,hb,h1,⟨fl,h2⟩,h3⟩
section
variable {P:Program} {f N d:Nat} {c:SC} {rs:List RS} {avs args:List AV} {res:AV} {s:St} {K:St->Prop} {k:AV->Prop} {ob:Nat->Obj} {dd:Option Nat} {kN:St->Prop} {T:Tag (k,kN)} {T1:Tag k}
def dB(hf:Has P f N c rs)(H:wpS P N c (yhC args) (λe s=>match e with| .exit _=>False|_=>ybG s rs res))(hN:args.length<=N:=by simp):qB P f args res:=yDq hf hN λ_=>H
def yQy(hf:Has P f N c rs)(H:ycR args->wpS P N c (yhC args) (λe s=>match e with| .exit _=>False|_=>ybG s rs res))(hN:args.length<=N:=by simp):qB P f args res:=yDq hf hN H
def fF(hf:Has P f N c rs)(H:wpS P N c (yhC args) (λe s=>match e with| .exit _=>False|_=>ykX s rs res))(hN:args.length<=N:=by simp):nI P f args res:=yBL hf hN λ_=>H
def aA(hp:qB P f args res)(hK:K (s.put dd res))(ho:iO s avs args:=by simp)(hs:res.scalar=true:=by rfl):yat P f avs dd s K:=mD hp ho hs hK
def dD(hp:qB P f args res)(hK:K (s.put dd res))(ho:iO s avs args:=by simp)(hs:avs.all AV.nU=true:=by rfl):yat P f avs dd s K:=iF hp ho hs hK
def lC(hp:qB P f args res)(hK:k res)(ho:iO (kX ob) avs args:=by simp)(hs:res.scalar=true:=by rfl):yyf P f avs ob k T1:=⟨_,_,hp,ho,.inr hs,hK⟩
def gX(hp:qB P f args res)(hK:k res)(ho:iO (kX ob) avs args:=by simp)(hs:avs.all AV.nU=true:=by rfl):yyf P f avs ob k T1:=⟨_,_,hp,ho,.inl hs,hK⟩
def ypC(hp:qB P f args res)(hK:k res)(ho:iO s avs args:=by simp)(hs:res.scalar=true:=by rfl):ynu P f avs dd s k kN T:=nC hp ho (.inr hs) hK
def bI(hp:qB P f args res)(hK:k res)(ho:iO s avs args:=by simp)(hs:avs.all AV.nU=true:=by rfl):ynu P f avs dd s k kN T:=nC hp ho (.inl hs) hK
end
def lk1:List (Nat×Nat×Bool×List Nat)->Nat->Ins->ySo
 |[],_,i=>⟨0,false,[],i⟩
 |(n,k,b,c)::l,m,i=>if n=m then⟨k,b,c,i⟩else lk1 l m i
def zr(L:List (Nat×Nat×Bool×List Nat)):Nat->List Ins->List ySo
 |_,[]=>[]
 |n,i::l=>lk1 L n i::zr L (n+1) l
def cL(P:Program)(N:Nat):Code->List (Option (List (Nat×Nat×Bool×List Nat)))->SC×List (Option (List (Nat×Nat×Bool×List Nat)))
 | .skip,q=>(.skip,q)
 | .region _ ops draw,q=>match draw,q with
  |false,q=>(.reg ((yac P N ops ops.toList).getD []),q)
  |true,some L::q=>(.rege (zr L 0 ((yac P N ops ops.toList).getD [])),q)
  |true,_::q=>(.regq ((yac P N ops ops.toList).getD []),q)
  |true,[]=>(.skip,[])
 | .seq a b,q=>match cL P N a q with
  |(x,q)=>match cL P N b q with
   |(y,q)=>(.seq x y,q)
 | .cond c a b,q=>match cL P N a q with
  |(x,q)=>match cL P N b q with
   |(y,q)=>(.cond ((cx c).getD (.t 0)) x y,q)
 | .block id c,q=>match cL P N c q with
  |(x,q)=>(.block id x,q)
 | .loop c,q=>match cL P N c q with
  |(x,q)=>(.loop x,q)
 | .exit id,q=>(.exit id,q)
 | .ret,q=>(.ret,q)
 |_,q=>(.skip,q)
def cc(fn:Func)(N:Nat)(q:List (Option (List (Nat×Nat×Bool×List Nat)))):SC:=(cL prg N (fn.body.getD .skip) q).1
@[simp] def ev(a:SC){c:SC}(_:a=c:=by conv=>lhs;cbv):SC:=c
attribute [simp] AV.ye9 AV.yox Obj.ye9
end
end Go.Proofs.YtekgilpcgbbfcaaGreat
