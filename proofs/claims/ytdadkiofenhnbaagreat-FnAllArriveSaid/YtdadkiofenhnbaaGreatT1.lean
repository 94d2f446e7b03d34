/- What functions answer, in plain Lean. -/
import Derived.Test.YtdadkiofenhnbaaGreatTA3
import Derived.Test.YtdadkiofenhnbaaGreatProg
import Derived.KernelRfl
import Derived.Test.YtdadkiofenhnbaaGreatTA7
import Derived.Test.YtdadkiofenhnbaaGreatTA8
import Derived.Test.YtdadkiofenhnbaaGreatTA9
import Derived.Test.YtdadkiofenhnbaaGreatTA10
import Derived.Test.YtdadkiofenhnbaaGreatTA12
import Derived.Test.YtdadkiofenhnbaaGreatTA13
import Derived.Test.YtdadkiofenhnbaaGreatTA14
import Derived.Test.YtdadkiofenhnbaaGreatTA11
import Derived.Test.YtdadkiofenhnbaaGreatTA15
import Derived.Test.YtdadkiofenhnbaaGreatTA16
import Derived.Test.YtdadkiofenhnbaaGreatTA17
import Derived.Test.YtdadkiofenhnbaaGreatTA18
import Derived.Test.YtdadkiofenhnbaaGreatTA5
import Derived.Test.YtdadkiofenhnbaaGreatTA6
set_option linter.all false
set_option maxRecDepth 100000
set_option maxHeartbeats 4000000
namespace Go.Proofs.YtdadkiofenhnbaaGreat
open Go.RowKit
noncomputable abbrev prg:=Tryz.prog
noncomputable section
abbrev kI(n:Int):X:=.k (.c (.i n))
abbrev kB(b:Bool):X:=.k (.c (.b b))
abbrev iv(d n:Nat):Ins:=⟨none,some d,.mv (.t n)⟩
abbrev ia(d:Nat)(o:IOp):Ins:=⟨none,some d,o⟩
abbrev ig(t:Nat)(b:Bool)(d:Nat)(o:IOp):Ins:=⟨some (t,b),some d,o⟩
abbrev ie(o:IOp):Ins:=⟨none,none,o⟩
abbrev fA(d k a:Nat):Ins:=ia d (.fld k (.t a))
abbrev lA(d a:Nat):Ins:=ia d (.ld1 (.t a))
abbrev dA(d k a:Nat):Ins:=ia d (.ldn k (.t a))
abbrev xA(d k a b:Nat):Ins:=ia d (.idx k (.t a) (.t b))
abbrev mA(d:Nat)(n:Int):Ins:=ia d (.mv (kI n))
abbrev bA(d:Nat)(b:Bool):Ins:=ia d (.mv (kB b))
abbrev nA(d a:Nat):Ins:=ia d (.len (.t a))
abbrev pA(d a:Nat)(n:Int):Ins:=ia d (.bin .add (.t a) (kI n))
abbrev tA(d a b:Nat):Ins:=ia d (.bin .lss (.t a) (.t b))
abbrev oA(d:Nat)(o:BinOp)(a b:Nat):Ins:=ia d (.bin o (.t a) (.t b))
abbrev oI(d:Nat)(o:BinOp)(a:Nat)(n:Int):Ins:=ia d (.bin o (.t a) (kI n))
abbrev nN(d a:Nat):Ins:=ia d (.not (.t a))
abbrev c1(d f a:Nat):Ins:=ia d (.call f [.t a])
abbrev c2(d f a b:Nat):Ins:=ia d (.call f [.t a,.t b])
abbrev c3(d f a b c:Nat):Ins:=ia d (.call f [.t a,.t b,.t c])
abbrev bZ(d k:Nat):Ins:=ia d (.bsl k [])
abbrev bS(d k a:Nat):Ins:=ia d (.bsl k [.t a])
abbrev aP(d k b x y:Nat):Ins:=ia d (.app k b (.t x) (.t y))
abbrev pT(d a b:Nat):Ins:=ia d (.pick (.t a) (kB true) (.t b))
abbrev pF(d a b:Nat):Ins:=ia d (.pick (.t a) (.t b) (kB false))
abbrev eX(d i a:Nat):Ins:=ia d (.ext i (.t a))
abbrev bX(d n a:Nat):Ins:=ia d (.box n (.t a))
abbrev mN(d k:Nat):Ins:=ia d (.mv (.k (.nil k)))
abbrev tS(a b:Nat):Ins:=ie (.st1 (.t a) (.t b))
abbrev tN(n a b:Nat):Ins:=ie (.stn n (.t a) (.t b))
abbrev gA(c:Nat)(b:Bool)(d k a:Nat):Ins:=ig c b d (.fld k (.t a))
abbrev hA(c:Nat)(b:Bool)(d a:Nat):Ins:=ig c b d (.ld1 (.t a))
abbrev g8(c:Nat)(b:Bool)(d a:Nat):Ins:=ig c b d (.mv (.t a))
abbrev g9(c:Nat)(b:Bool)(d a:Nat):Ins:=ig c b d (.not (.t a))
abbrev q0(i:Ins):ySo:=⟨0,false,[],i⟩
abbrev q1(i:Ins):ySo:=⟨1,false,[],i⟩
abbrev q2(i:Ins):ySo:=⟨2,false,[],i⟩
abbrev q3(i:Ins):ySo:=⟨0,true,[],i⟩
abbrev q4(k:Nat)(n:Bool)(c:List Nat)(i:Ins):ySo:=⟨k,n,c,i⟩
abbrev rR(l:List Ins):SC:=.seq (.reg l) .ret
abbrev rS(l:List Ins)(c:SC):SC:=.seq (.reg l) c
abbrev rQ(l:List Ins)(c:SC):SC:=.seq (.regq l) c
abbrev rE(l:List ySo)(c:SC):SC:=.seq (.rege l) c
abbrev cX(t n:Nat):SC:=.cond (.t t) .skip (.exit n)
abbrev cI(t:Nat)(c:SC):SC:=.cond (.t t) c .skip
abbrev cT(t:Nat)(a b:SC):SC:=.cond (.t t) a b
abbrev iS(l:List Ins)(t:Nat)(c d:SC):SC:=.seq (.seq (.reg l) (.cond (.t t) c .skip)) d
abbrev xS(l:List Ins)(t n:Nat)(d:SC):SC:=.seq (.seq (.reg l) (.cond (.t t) .skip (.exit n))) d
abbrev bL(n:Nat)(c:SC):SC:=.block n (.loop c)
def jB{P:Program}{f N:Nat}{c:SC}{rs:List RS}{fn:Func}(fl:Option (List Nat))(hf:P.funcs[f]?=some fn)(h:(fn.ntmps,fn.body.bind (ydT fl P N),ybo P fn.results.toList,decide (N<=jV))=(N,some c,some rs,true):=by kernel_rfl):Has P f N c rs:=by
 simp only[Prod.mk.injEq,decide_eq_true_eq]at h;obtain⟨h1,h2,h3,h4⟩:=h;cases hb:fn.body with
 |none=>rw[hb]at h2;cases h2
 |some code=>rw[hb]at h2;exact⟨h4,fn,code,hf,hb,h1,⟨fl,h2⟩,h3⟩
section
variable {P:Program} {f N d:Nat} {c:SC} {rs:List RS} {avs args:List AV} {res:AV} {s:St} {K:St->Prop} {k:AV->Prop} {ob:Nat->Obj} {dd:Option Nat} {kN:St->Prop} {T:Tag (k,kN)} {T1:Tag k}
def dB(hf:Has P f N c rs)(H:wpS P N c (yhC args) (λe s=>match e with| .exit _=>False|_=>ybG s rs res))(hN:args.length<=N:=by simp):qB P f args res:=yDq hf hN λ_=>H
def yQy(hf:Has P f N c rs)(H:ycR args->wpS P N c (yhC args) (λe s=>match e with| .exit _=>False|_=>ybG s rs res))(hN:args.length<=N:=by simp):qB P f args res:=yDq hf hN H
def fF(hf:Has P f N c rs)(H:wpS P N c (yhC args) (λe s=>match e with| .exit _=>False|_=>ykX s rs res))(hN:args.length<=N:=by simp):nI P f args res:=yBL hf hN λ_=>H
def aA(hp:qB P f args res)(hK:K (s.put dd res))(ho:iO s avs args:=by simp)(hs:res.scalar=true:=by rfl):yat P f avs dd s K:=mD hp ho hs hK
def dD(hp:qB P f args res)(hK:K (s.put dd res))(ho:iO s avs args:=by simp)(hs:avs.all AV.nU=true:=by rfl):yat P f avs dd s K:=iF hp ho hs hK
def yX4{Q:Ex->St->Prop}(I:Nat->Prop)(S:Nat->St)(μ:Nat->Nat)(round:∀i,I i->wpS P N c (S i) (Ex.then (λ_ s'=>∃j,I j/\μ j<μ i/\s'.le (S j)) Q))(h0:I 0:=by simp)(hs:s.le (S 0):=by apply aB<;>simp):ynw P N c s Q:=qA I S μ 0 h0 hs round
def yX2{Q:Ex->St->Prop}(I:Nat->Prop)(S:Nat->St)(μ:Nat->Nat)(hs:s.le (S 0))(round:∀i,I i->wpS P N c (S i) (Ex.then (λ_ s'=>∃j,I j/\μ j<μ i/\s'.le (S j)) Q))(h0:I 0:=by simp):ynw P N c s Q:=qA I S μ 0 h0 hs round
def yX1{α:Type}(k:Nat)(l:List α):(k<l.length/\∃e,l[k]?=some e)\/l.length<=k:=by
 rcases zas k l.length with h|h
 .exact .inl ⟨h,_,zab h⟩
 .exact .inr h
def lC(hp:qB P f args res)(hK:k res)(ho:iO (kX ob) avs args:=by simp)(hs:res.scalar=true:=by rfl):yyf P f avs ob k T1:=⟨_,_,hp,ho,.inr hs,hK⟩
def gX(hp:qB P f args res)(hK:k res)(ho:iO (kX ob) avs args:=by simp)(hs:avs.all AV.nU=true:=by rfl):yyf P f avs ob k T1:=⟨_,_,hp,ho,.inl hs,hK⟩
def ypC(hp:qB P f args res)(hK:k res)(ho:iO s avs args:=by simp)(hs:res.scalar=true:=by rfl):ynu P f avs dd s k kN T:=nC hp ho (.inr hs) hK
def bI(hp:qB P f args res)(hK:k res)(ho:iO s avs args:=by simp)(hs:avs.all AV.nU=true:=by rfl):ynu P f avs dd s k kN T:=nC hp ho (.inl hs) hK
def yYq(hp:qB P f args res)(hK:K (s.put dd res))(ho:iO s avs args:=by simp -dsimp -implicitDefEqProofs)(hs:res.scalar=true:=by rfl):yat P f avs dd s K:=mD hp ho hs hK
def yYp(hp:qB P f args res)(hK:K (s.put dd res))(ho:iO s avs args:=by simp -dsimp -implicitDefEqProofs)(hs:avs.all AV.nU=true:=by rfl):yat P f avs dd s K:=iF hp ho hs hK
def yYs(hp:qB P f args res)(hK:k res)(ho:iO (kX ob) avs args:=by simp -dsimp -implicitDefEqProofs)(hs:res.scalar=true:=by rfl):yyf P f avs ob k T1:=⟨_,_,hp,ho,.inr hs,hK⟩
def yYt(hp:qB P f args res)(hK:k res)(ho:iO (kX ob) avs args:=by simp -dsimp -implicitDefEqProofs)(hs:avs.all AV.nU=true:=by rfl):yyf P f avs ob k T1:=⟨_,_,hp,ho,.inl hs,hK⟩
def yYr(hp:qB P f args res)(hK:k res)(ho:iO s avs args:=by simp -dsimp -implicitDefEqProofs)(hs:res.scalar=true:=by rfl):ynu P f avs dd s k kN T:=nC hp ho (.inr hs) hK
def yYo(hp:qB P f args res)(hK:k res)(ho:iO s avs args:=by simp -dsimp -implicitDefEqProofs)(hs:avs.all AV.nU=true:=by rfl):ynu P f avs dd s k kN T:=nC hp ho (.inl hs) hK
end
section
variable {P:Program} {f d:Nat} {avs args:List AV} {res:AV} {s:St} {K:St->Prop} {k:AV->Prop} {kN:St->Prop} {T:Tag (k,kN)}
def yX6(hp:nI P f args res)(hK:K (s.take d res))(ho:iO s avs args:=by simp)(hc:res.closed:=by simp[AV.closed,AV.jI,C.closed])(hfr:fD s (res.fK d):=by simp[fD]):yat P f avs (some d) s K:=sD hp ho hc hfr hK
def yX3(hp:nI P f args res)(hc:res.closed)(hK:K (s.take d res))(ho:iO s avs args:=by simp)(hfr:fD s (res.fK d):=by simp[fD]):yat P f avs (some d) s K:=sD hp ho hc hfr hK
def yX5(hp:nI P f args res)(hK:K (s.take d res))(ho:iO s avs args:=by simp)(hc:avs.all AV.nU=true:=by rfl)(hfr:fD s (res.fK d):=by simp[fD]):yat P f avs (some d) s K:=qU hp ho hc hfr hK
def yX8(hp:nI P f args res)(hK:kN (s.take d res))(ho:iO s avs args:=by simp)(hc:res.closed:=by simp[AV.closed,AV.jI,C.closed])(hfr:fD s (res.fK d):=by simp[fD]):ynu P f avs (some d) s k kN T:=pJ hp ho hc hfr hK
def yage(hp:nI P f args res)(hc:res.closed)(hK:kN (s.take d res))(ho:iO s avs args:=by simp)(hfr:fD s (res.fK d):=by simp[fD]):ynu P f avs (some d) s k kN T:=pJ hp ho hc hfr hK
def yX7(hp:nI P f args res)(hK:kN (s.take d res))(ho:iO s avs args:=by simp)(hc:avs.all AV.nU=true:=by rfl)(hfr:fD s (res.fK d):=by simp[fD]):ynu P f avs (some d) s k kN T:=yCa hp ho hc hfr hK
end
section
variable {A B C D E F G H X Y:Prop}
def goQ_(h:Y)(e:X=Y:=by conv=>lhs;simp -dsimp -implicitDefEqProofs):X:=e.mpr h
def goE_(e:X=True:=by conv=>lhs;simp -dsimp -implicitDefEqProofs):X:=of_eq_true e
def goU_(e:X=True:=by conv=>lhs;simp -dsimp -implicitDefEqProofs [jA]):X:=of_eq_true e
def goT_(h:Y)(e:X=Y:=by conv=>lhs;simp -dsimp -implicitDefEqProofs [jA]):X:=e.mpr h
def yafw(a:A)(i:Y)(j:A->X=Y:=by intro a;conv=>lhs;simp -dsimp -implicitDefEqProofs [a]):X:=(j a).mpr i
def yafv(a:A)(i:Y)(j:A->X=Y:=by intro a;conv=>lhs;simp -dsimp -implicitDefEqProofs [a,jA]):X:=(j a).mpr i
def yafA(a:A)(j:A->X=True:=by intro a;conv=>lhs;simp -dsimp -implicitDefEqProofs [a]):X:=of_eq_true (j a)
def yaed(a:A)(b:B)(i:Y)(j:A->B->X=Y:=by intro a b;conv=>lhs;simp -dsimp -implicitDefEqProofs [a,b]):X:=(j a b).mpr i
def goT_2(a:A)(b:B)(i:Y)(j:A->B->X=Y:=by intro a b;conv=>lhs;simp -dsimp -implicitDefEqProofs [a,b,jA]):X:=(j a b).mpr i
def yafJ(a:A)(b:B)(j:A->B->X=True:=by intro a b;conv=>lhs;simp -dsimp -implicitDefEqProofs [a,b]):X:=of_eq_true (j a b)
def yaeT(a:A)(b:B)(c:C)(i:Y)(j:A->B->C->X=Y:=by intro a b c;conv=>lhs;simp -dsimp -implicitDefEqProofs [a,b,c]):X:=(j a b c).mpr i
def goE_3(a:A)(b:B)(c:C)(j:A->B->C->X=True:=by intro a b c;conv=>lhs;simp -dsimp -implicitDefEqProofs [a,b,c]):X:=of_eq_true (j a b c)
def yaeV(a:A)(b:B)(c:C)(d:D)(i:Y)(j:A->B->C->D->X=Y:=by intro a b c d;conv=>lhs;simp -dsimp -implicitDefEqProofs [a,b,c,d]):X:=(j a b c d).mpr i
def goT_4(a:A)(b:B)(c:C)(d:D)(i:Y)(j:A->B->C->D->X=Y:=by intro a b c d;conv=>lhs;simp -dsimp -implicitDefEqProofs [a,b,c,d,jA]):X:=(j a b c d).mpr i
def yaff(a:A)(b:B)(c:C)(d:D)(e:E)(i:Y)(j:A->B->C->D->E->X=Y:=by intro a b c d e;conv=>lhs;simp -dsimp -implicitDefEqProofs [a,b,c,d,e]):X:=(j a b c d e).mpr i
def yafq(a:A)(b:B)(c:C)(d:D)(e:E)(f:F)(i:Y)(j:A->B->C->D->E->F->X=Y:=by intro a b c d e f;conv=>lhs;simp -dsimp -implicitDefEqProofs [a,b,c,d,e,f]):X:=(j a b c d e f).mpr i
def yafn(a:A)(b:B)(c:C)(d:D)(e:E)(f:F)(g:G)(i:Y)(j:A->B->C->D->E->F->G->X=Y:=by intro a b c d e f g;conv=>lhs;simp -dsimp -implicitDefEqProofs [a,b,c,d,e,f,g]):X:=(j a b c d e f g).mpr i
def yafK(a:A)(b:B)(c:C)(d:D)(e:E)(f:F)(g:G)(h:H)(i:Y)(j:A->B->C->D->E->F->G->H->X=Y:=by intro a b c d e f g h;conv=>lhs;simp -dsimp -implicitDefEqProofs [a,b,c,d,e,f,g,h]):X:=(j a b c d e f g h).mpr i
end
@[simp] def zW:Obj:=.box [.c (.i 0),.nil 3,.nil 2,.nil 22,.nil 1,.nil 2,.nil 1,.c (.i 0),.c (.i 0),.nil 1,.nil 1,.nil 5,.nil 4,.c (.i 0),.c (.i 0),.c (.i 0)]
def lk1:List (Nat×Nat×Bool×List Nat)->Nat->Ins->ySo
 |[],_,i=>⟨0,false,[],i⟩
 |(n,k,b,c)::l,m,i=>if n=m then⟨k,b,c,i⟩else lk1 l m i
def zr(L:List (Nat×Nat×Bool×List Nat)):Nat->List Ins->List ySo
 |_,[]=>[]
 |n,i::l=>lk1 L n i::zr L (n+1) l
def cL(P:Program)(N:Nat):Code->List (Option (List (Nat×Nat×Bool×List Nat)))->SC×List (Option (List (Nat×Nat×Bool×List Nat)))
 | .skip,q=>(.skip,q)
 | .region _ ops draw,q=>match draw,q with
  |false,q=>(.reg ((yac P N ops ops.toList).getD []),q)
  |true,some L::q=>(.rege (zr L 0 ((yac P N ops ops.toList).getD [])),q)
  |true,_::q=>(.regq ((yac P N ops ops.toList).getD []),q)
  |true,[]=>(.skip,[])
 | .seq a b,q=>match cL P N a q with
  |(x,q)=>match cL P N b q with
   |(y,q)=>(.seq x y,q)
 | .cond c a b,q=>match cL P N a q with
  |(x,q)=>match cL P N b q with
   |(y,q)=>(.cond ((cx c).getD (.t 0)) x y,q)
 | .block id c,q=>match cL P N c q with
  |(x,q)=>(.block id x,q)
 | .loop c,q=>match cL P N c q with
  |(x,q)=>(.loop x,q)
 | .exit id,q=>(.exit id,q)
 | .ret,q=>(.ret,q)
 |_,q=>(.skip,q)
def cc(fn:Func)(N:Nat)(q:List (Option (List (Nat×Nat×Bool×List Nat)))):SC:=(cL prg N (fn.body.getD .skip) q).1
@[simp] def ev(a:SC){c:SC}(_:a=c:=by conv=>lhs;cbv):SC:=c
def yX9{P:Program}{f:Nat}{fn:Func}{c:SC}(N:Nat)(q:List (Option (List (Nat×Nat×Bool×List Nat))))(rs:List RS)(hf:P.funcs[f]?=some fn)(fl:Option (List Nat):=none)(e:cc fn N q=c:=by conv=>lhs;cbv)(h:(fn.ntmps,fn.body.bind (ydT fl P N),ybo P fn.results.toList,decide (N<=jV))=(N,some c,some rs,true):=by kernel_rfl):Has P f N c rs:=jB fl hf h
attribute [simp] AV.ye9 AV.yox Obj.ye9
end
end Go.Proofs.YtdadkiofenhnbaaGreat
