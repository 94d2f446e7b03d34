/- What the law FnOnlyWater stands on: the machine, in short form (names, layout). -/
import Derived.Test.YtpiplmnecmkafaaGreatSOnlyWaterA3
set_option linter.all false
namespace Go.Proofs.YtpiplmnecmkafaaGreat
open Go.RowKit
structure Tag{α:Type}(K:α):Type where
def yvD(P:Program)(f:Nat)(xs:List AV)(d:Option Nat)(s:St)(K:St->Prop)(_:Tag K):Prop:=gW P f xs d s K
def ylf(P:Program)(f:Nat)(xs:List AV)(ob:Nat->Obj)(k:AV->Prop)(_:Tag k):Prop:=ykm P f xs ob k
def loopT(P:Program)(N:Nat)(c:SC)(s:St)(Q:Ex->St->Prop)(_:Tag Q):Prop:=yd6 P N c s Q
section
variable {P:Program} {N:Nat}
@[congr] theorem ywL{d:Option Nat}{op op':IOp}{s:St}{K:St->Prop}(h:op=op'):bD P d op s K=bD P d op' s K:=by rw[h]
@[congr] theorem yBG{op op':IOp}{ev:X->AV}{ob:Nat->Obj}{k:AV->Prop}(h:op=op'):sF P op ev ob k=sF P op' ev ob k:=by rw[h]
@[congr] theorem yz6{Q Q':Ex->St->Prop}{e:Ex}{s s':St}(h:s=s'):Ex.then Q Q' e s=Ex.then Q Q' e s':=by rw[h]
@[congr] theorem yvc{Q:Ex->St->Prop}{n:Nat}{e:Ex}{s s':St}(h:s=s'):Ex.inBlock n Q e s=Ex.inBlock n Q e s':=by rw[h]
@[congr] theorem yBc{s s':St}{d:Option Nat}{o o':Obj}{v:Nat->AV}{K:St->Prop}(h:s=s')(h2:o=o'):newP s d o v K=newP s' d o' v K:=by rw[h,h2]
@[congr] theorem yww{s:St}{ps:List (Nat×Nat×X)}{l l':List AV}{K:List AV->Prop}(h:l=l'):eY s ps l K=eY s ps l' K:=by rw[h]
@[congr] theorem yEb{c:SC}{s s':St}{Q:Ex->St->Prop}(h:s=s'):wpS P N c s Q=wpS P N c s' Q:=by rw[h]
@[congr] theorem yE7{l:List Ins}{s s':St}{K:St->Prop}(h:s=s'):wpI P l s K=wpI P l s' K:=by rw[h]
@[congr] theorem yCP{n:Nat}{l:List RIns}{h:List (Nat×Lab)}{s s':St}{K:St->Prop}(hs:s=s'):wpE P n l h s K=wpE P n l h s' K:=by rw[hs]
@[congr] theorem yEF{l:List Ins}{s s':St}{K:St->Prop}(h:s=s'):wpQ P l s K=wpQ P l s' K:=by rw[h]
@[congr] theorem yyf{c c' a a' b b':AV}{k:AV->Prop}(h1:c=c')(h2:a=a')(h3:b=b'):yI c a b k=yI c' a' b' k:=by rw[h1,h2,h3]
@[congr] theorem yBY{o:BinOp}{a a' b b':AV}{k:AV->Prop}(h2:a=a')(h3:b=b'):yi5 o a b k=yi5 o a' b' k:=by rw[h2,h3]
@[congr] theorem yBS{o:Bool}{a a' b b':AV}{k:AV->Prop}(h2:a=a')(h3:b=b'):ygh o a b k=ygh o a' b' k:=by rw[h2,h3]
@[congr] theorem yAJ{a a':AV}{k:AV->Prop}(h2:a=a'):ylH a k=ylH a' k:=by rw[h2]
@[congr] theorem yBf{a a':AV}{k:AV->Prop}(h2:a=a'):notP a k=notP a' k:=by rw[h2]
@[congr] theorem yA8{a a':AV}{k:AV->Prop}(h2:a=a'):yhS a k=yhS a' k:=by rw[h2]
@[congr] theorem yBP{o:Nat}{s:St}{a a' b b':AV}{k:AV->Prop}(h2:a=a')(h3:b=b'):ybU o s a b k=ybU o s a' b' k:=by rw[h2,h3]
@[congr] theorem yAa{o n:Nat}{a a' b b':AV}{k:AV->Prop}(h2:a=a')(h3:b=b'):ygZ o n a b k=ygZ o n a' b' k:=by rw[h2,h3]
@[congr] theorem yAq{o:Nat}{s:St}{a a':AV}{k:AV->Prop}(h2:a=a'):ycb o s a k=ycb o s a' k:=by rw[h2]
@[congr] theorem yzO{s:St}{a a':AV}{k:AV->Prop}(h2:a=a'):ybf s a k=ybf s a' k:=by rw[h2]
@[congr] theorem yzK{o:Nat}{s:St}{a a':AV}{k:AV->Prop}(h2:a=a'):ybH o s a k=ybH o s a' k:=by rw[h2]
@[congr] theorem yAB{s:St}{a a' b b':AV}{k:St->Prop}(h2:a=a')(h3:b=b'):ybj s a b k=ybj s a' b' k:=by rw[h2,h3]
@[congr] theorem yAu{o:Nat}{s:St}{a a' b b':AV}{k:St->Prop}(h2:a=a')(h3:b=b'):ydq o s a b k=ydq o s a' b' k:=by rw[h2,h3]
@[congr] theorem yzH{o:Nat}{s:St}{d:Option Nat}{a a':AV}{k:St->Prop}(h2:a=a'):yqE o s d a k=yqE o s d a' k:=by rw[h2]
@[congr] theorem yAW{o n:Nat}{z:List C}{s:St}{d:Option Nat}{a a' b b':AV}{k:St->Prop}(h2:a=a')(h3:b=b'):yjS o n z s d a b k=yjS o n z s d a' b' k:=by rw[h2,h3]
@[congr] theorem yBV{o:Nat}{s:St}{d:Option Nat}{a a':List AV}{k:St->Prop}(h2:a=a'):ygH o a s d k=ygH o a' s d k:=by rw[h2]
@[congr] theorem yzP{o:Nat}{a a':AV}{l l' h h' m m':Option AV}{k:AV->Prop}(h2:a=a')(h3:l=l')(h4:h=h')(h5:m=m'):ya6 o a l h m k=ya6 o a' l' h' m' k:=by rw[h2,h3,h4,h5]
@[congr] theorem yzF{o n:Nat}{s:St}{a a' b b':AV}{k:AV->Prop}(h2:a=a')(h3:b=b'):yeC o n s a b k=yeC o n s a' b' k:=by rw[h2,h3]
@[congr] theorem yBk{s:St}{a a':AV}{k:AV->Prop}(h2:a=a'):ybk s a k=ybk s a' k:=by rw[h2]
@[congr] theorem yxh{a a':AV}{k:AV->Prop}(h2:a=a'):ycd a k=ycd a' k:=by rw[h2]
@[congr] theorem yzD{o n:Nat}{s:St}{d:Option Nat}{a a' b b':AV}{k:St->Prop}(h2:a=a')(h3:b=b'):yb2 o n s d a b k=yb2 o n s d a' b' k:=by rw[h2,h3]
@[congr] theorem yDH{f:Int->Int->Int}{a a':List AV}{k:AV->Prop}(h2:a=a'):mmP f a k=mmP f a' k:=by rw[h2]
@[congr] theorem yz2{o:Nat}{a a':AV}{k:AV->Prop}(h2:a=a'):ygj o a k=ygj o a' k:=by rw[h2]
@[congr] theorem yBq{a a' b b':AV}{k:AV->Prop}(h2:a=a')(h3:b=b'):yie a b k=yie a' b' k:=by rw[h2,h3]
@[congr] theorem yvu{f f':AV}{l l':List AV}{d:Option Nat}{s:St}{K:St->Prop}(h:f=f')(h2:l=l'):yb1 P f l d s K=yb1 P f' l' d s K:=by rw[h,h2]
@[congr] theorem yDm{o:Nat}{s:St}{d:Option Nat}{a a' b b':AV}{k:St->Prop}(h2:a=a')(h3:b=b'):cpP o s d a b k=cpP o s d a' b' k:=by rw[h2,h3]
@[congr] theorem yA6{a a':AV}{k:AV->Prop}(h2:a=a'):yjQ a k=yjQ a' k:=by rw[h2]
@[congr] theorem yzl{a a':AV}{k:AV->Prop}(h2:a=a'):ye5 a k=ye5 a' k:=by rw[h2]
@[congr] theorem yAv{s s':St}{a a' b b' c c':AV}{K:St->Prop}(h:s=s')(h2:a=a')(h3:b=b')(h4:c=c'):ynv s a b c K=ynv s' a' b' c' K:=by rw[h,h2,h3,h4]
@[congr] theorem yzJ{n:Nat}{a a' b b':AV}{k:AV->Prop}(h2:a=a')(h3:b=b'):yoW n a b k=yoW n a' b' k:=by rw[h2,h3]
@[congr] theorem yBL{s s':St}{a a' b b':AV}{k:AV->Prop}(h:s=s')(h2:a=a')(h3:b=b'):ymz s a b k=ymz s' a' b' k:=by rw[h,h2,h3]
@[congr] theorem yzo{o:Bool}{a a' b b':AV}{k:AV->Prop}(h2:a=a')(h3:b=b'):ygy o a b k=ygy o a' b' k:=by rw[h2,h3]
@[congr] theorem yAT{o:Bool}{q:Nat}{a a' b b':AV}{k:AV->Prop}(h2:a=a')(h3:b=b'):yg6 o q a b k=yg6 o q a' b' k:=by rw[h2,h3]
@[congr] theorem yy6{a a' b b':AV}{k:AV->Prop}(h2:a=a')(h3:b=b'):yca a b k=yca a' b' k:=by rw[h2,h3]
@[congr] theorem yAZ{a a':AV}{l l' h h':Option AV}{k:AV->Prop}(h2:a=a')(h3:l=l')(h4:h=h'):ye0 a l h k=ye0 a' l' h' k:=by rw[h2,h3,h4]
@[congr] theorem yAm{o:BinOp}{a a' b b':AV}{k:AV->Prop}(h2:a=a')(h3:b=b'):yb0 o a b k=yb0 o a' b' k:=by rw[h2,h3]
@[congr] theorem yxu{o:BinOp}{a a' b b':AV}{k:AV->Prop}(h2:a=a')(h3:b=b'):xW o a b k=xW o a' b' k:=by rw[h2,h3]
@[congr] theorem yyL{o:BinOp}{a a' b b':AV}{k:AV->Prop}(h2:a=a')(h3:b=b'):ybP o a b k=ybP o a' b' k:=by rw[h2,h3]
@[congr] theorem yBZ{o:Nat}{s:St}{a a':AV}{k:AV->Prop}(h2:a=a'):bW o s a k=bW o s a' k:=by rw[h2]
@[congr] theorem yvI{a a':AV}{v:Bool}{A B:Prop}(h:a=a'):xO a v A B=xO a' v A B:=by rw[h]
@[congr] theorem yya{a a':AV}{A B:Prop}(h:a=a'):ycX a A B=ycX a' A B:=by rw[h]
@[simp ↓] theorem yCN{s:St}{Q:Ex->St->Prop}:wpS P N .skip s Q=Q .normal s:=rfl
@[simp ↓] theorem wpS_reg{l:List Ins}{s:St}{Q:Ex->St->Prop}:wpS P N (.reg l) s Q=wpI P l s (Q .normal):=rfl
@[simp ↓] theorem yB0{l:List Ins}{s:St}{Q:Ex->St->Prop}:wpS P N (.regq l) s Q=wpQ P l s (Q .normal):=rfl
@[simp ↓] theorem yCD{l:List RIns}{s:St}{Q:Ex->St->Prop}:wpS P N (.rege l) s Q=wpE P 0 l [] s (Q .normal):=rfl
@[simp ↓] theorem wpS_seq{a b:SC}{s:St}{Q:Ex->St->Prop}:wpS P N (.seq a b) s Q=wpS P N a s (Ex.then (λ_ s'=>wpS P N b s' Q) Q):=rfl
@[simp ↓] theorem wpS_cond{x:X}{a b:SC}{s:St}{Q:Ex->St->Prop}:wpS P N (.cond x a b) s Q=ycX (s.ev x) (wpS P N a s Q) (wpS P N b s Q):=rfl
@[simp ↓] theorem yzS{n:Nat}{c:SC}{s:St}{Q:Ex->St->Prop}:wpS P N (.block n c) s Q=wpS P N c s (Ex.inBlock n Q):=rfl
@[simp ↓] theorem yE8{c:SC}{s:St}{Q:Ex->St->Prop}:wpS P N (.loop c) s Q=loopT P N c s Q ⟨⟩:=rfl
@[simp ↓] theorem yFc{n:Nat}{s:St}{Q:Ex->St->Prop}:wpS P N (.exit n) s Q=Q (.exit n) s:=rfl
@[simp ↓] theorem wpS_ret{s:St}{Q:Ex->St->Prop}:wpS P N .ret s Q=Q .ret s:=rfl
@[simp ↓] theorem yv8{Q Q':Ex->St->Prop}{s:St}:Ex.then Q Q' .normal s=Q .normal s:=rfl
@[simp ↓] theorem yzG{Q Q':Ex->St->Prop}{n:Nat}{s:St}:Ex.then Q Q' (.exit n) s=Q' (.exit n) s:=rfl
@[simp ↓] theorem yDg{Q Q':Ex->St->Prop}{s:St}:Ex.then Q Q' .ret s=Q' .ret s:=rfl
@[simp ↓] theorem yrJ{Q:Ex->St->Prop}{n:Nat}{s:St}:Ex.inBlock n Q .normal s=Q .normal s:=rfl
@[simp ↓] theorem yv9{Q:Ex->St->Prop}{n:Nat}{s:St}:Ex.inBlock n Q .ret s=Q .ret s:=rfl
@[simp ↓] theorem yuw{Q:Ex->St->Prop}{n m:Nat}{s:St}:Ex.inBlock n Q (.exit m) s=if m=n then Q .normal s else Q (.exit m) s:=rfl
@[simp ↓] theorem wpI_nil{s:St}{K:St->Prop}:wpI P [] s K=K s:=rfl
@[simp ↓] theorem yCB{d:Option Nat}{op:IOp}{l:List Ins}{s:St}{K:St->Prop}:wpI P (⟨none,d,op⟩::l) s K=bD P d op s λs'=>wpI P l s' K:=rfl
def kQ(x:AV)(t:Nat)(want:Bool)(s:St)(A B:St->Prop):Prop:=
 match x with
 | .c (.b v)=>(v=want->A (s.put (some t) (.c (.b want))))/\(v=(!want)->B (s.put (some t) (.c (.b (!want)))))
 | .und=>B s
 |_=>False
theorem ydQ{s:St}{t:Nat}{v:AV}(h:s.env t=v):s.put (some t) v=s:=by
 obtain⟨env,objs⟩:=s;simp only[St.put]
 congr 1
 funext n
 unfold upd;split
 ·rename_i e;subst e;exact h.symm
 ·rfl
theorem yeY{t:Nat}{want:Bool}{s:St}{A B:St->Prop}:xO (s.env t) want (A s) (B s)=kQ (s.env t) t want s A B:=by
 unfold xO kQ;cases h:s.env t with
 | c x=>cases x with
  | b v=>
   apply propext;constructor
   ·rintro⟨h1,h2⟩
    exact⟨λe=>by rw[ydQ (by rw[h,e])];exact h1 e,λe=>by rw[ydQ (by rw[h,e])];exact h2 e⟩
   ·rintro⟨h1,h2⟩
    refine⟨λe=>?_,λe=>?_⟩
    ·have:=h1 e;rwa [ydQ (by rw[h,e])]at this
    ·have:=h2 e;rwa [ydQ (by rw[h,e])]at this
  |_=>rfl
 |_=>rfl
@[congr] theorem yv2{a a':AV}{t:Nat}{v:Bool}{s:St}{A B:St->Prop}(h:a=a'):kQ a t v s A B=kQ a' t v s A B:=by rw[h]
@[simp] theorem yDP{t:Nat}{v want:Bool}{s:St}{A B:St->Prop}:kQ (.c (.b v)) t want s A B=((v=want->A (s.put (some t) (.c (.b want))))/\(v=(!want)->B (s.put (some t) (.c (.b (!want)))))):=rfl
@[simp high] theorem yBD{t:Nat}{s:St}{A B:St->Prop}:kQ (.c (.b true)) t true s A B=A (s.put (some t) (.c (.b true))):=by simp[kQ]
@[simp high] theorem yAR{t:Nat}{s:St}{A B:St->Prop}:kQ (.c (.b true)) t false s A B=B (s.put (some t) (.c (.b true))):=by simp[kQ]
@[simp high] theorem yzs{t:Nat}{s:St}{A B:St->Prop}:kQ (.c (.b false)) t true s A B=B (s.put (some t) (.c (.b false))):=by simp[kQ]
@[simp high] theorem yBg{t:Nat}{s:St}{A B:St->Prop}:kQ (.c (.b false)) t false s A B=A (s.put (some t) (.c (.b false))):=by simp[kQ]
@[simp] theorem ywj{t:Nat}{want:Bool}{s:St}{A B:St->Prop}:kQ .und t want s A B=B s:=rfl
@[simp ↓] theorem yAn {t:Nat} {v:Bool} {d:Option Nat} {op:IOp} {l:List Ins} {s:St} {K:St->Prop}:
 wpI P (⟨some (t,v),d,op⟩::l) s K=kQ (s.env t) t v s (λs=>bD P d op s λs'=>wpI P l s' K) (λs=>wpI P l (s.put d .und) K):=
 yeY (A:=λs=>bD P d op s λs'=>wpI P l s' K) (B:=λs=>wpI P l (s.put d .und) K)
@[simp ↓] theorem wpQ_nil{s:St}{K:St->Prop}:wpQ P [] s K=K s:=rfl
@[simp ↓] theorem yCa{d:Option Nat}{op:IOp}{l:List Ins}{s:St}{K:St->Prop}:wpQ P (⟨none,d,op⟩::l) s K=sF P op s.ev s.objs λv=>wpQ P l (s.put d v) K:=rfl
@[simp ↓] theorem yzu {t:Nat} {v:Bool} {d:Option Nat} {op:IOp} {l:List Ins} {s:St} {K:St->Prop}:
 wpQ P (⟨some (t,v),d,op⟩::l) s K=kQ (s.env t) t v s (λs=>sF P op s.ev s.objs λv=>wpQ P l (s.put d v) K) (λs=>wpQ P l (s.put d .und) K):=by
 have e:wpQ P (⟨some (t,v),d,op⟩::l) s K=xO (s.env t) v (sF P op s.ev s.objs λv=>wpQ P l (s.put d v) K) (wpQ P l (s.put d .und) K):=rfl;rw[e];exact yeY (A:=λs=>sF P op s.ev s.objs λv=>wpQ P l (s.put d v) K) (B:=λs=>wpQ P l (s.put d .und) K)
@[simp ↓] theorem wpE_nil{n:Nat}{h:List (Nat×Lab)}{s:St}{K:St->Prop}:wpE P n [] h s K=K s:=by simp only[wpE]
@[simp] theorem yBo{a0}:(IOp.mv a0).fD=false:=rfl
@[simp] theorem yyO{a0}:(IOp.neg a0).fD=false:=rfl
@[simp] theorem yyZ{a0}:(IOp.isn a0).fD=false:=rfl
@[simp] theorem ywU{a0 a1}:(IOp.fld a0 a1).fD=false:=rfl
@[simp] theorem ywk{a0}:(IOp.ld1 a0).fD=false:=rfl
@[simp] theorem ywP{a0 a1}:(IOp.ldn a0 a1).fD=false:=rfl
@[simp] theorem yw8{a0 a1}:(IOp.ext a0 a1).fD=false:=rfl
@[simp] theorem yyF{a0}:(IOp.len a0).fD=false:=rfl
@[simp] theorem yvL{a0}:(IOp.slen a0).fD=false:=rfl
@[simp] theorem yxP{a0}:(IOp.nck a0).fD=false:=rfl
@[simp] theorem yx5{a0}:(IOp.cap a0).fD=false:=rfl
@[simp] theorem ywl{a0 a1}:(IOp.cvt a0 a1).fD=false:=rfl
@[simp] theorem yxV{a0 a1 a2}:(IOp.seq a0 a1 a2).fD=false:=rfl
@[simp] theorem yy4:IOp.mkm.fD=false:=rfl
@[simp] theorem ywE{a0 a1 a2}:(IOp.mup a0 a1 a2).fD=false:=rfl
@[simp] theorem yxn{a0 a1 a2}:(IOp.exb a0 a1 a2).fD=false:=rfl
@[simp] theorem yxl{a0 a1}:(IOp.mlk a0 a1).fD=false:=rfl
@[simp] theorem ywX{a0 a1 a2 a3}:(IOp.eqn a0 a1 a2 a3).fD=false:=rfl
@[simp] theorem yvV{a0 a1}:(IOp.scat a0 a1).fD=false:=rfl
@[simp] theorem yy7{a0 a1 a2}:(IOp.bit a0 a1 a2).fD=false:=rfl
@[simp] theorem yvM{a0 a1 a2}:(IOp.binu a0 a1 a2).fD=false:=rfl
@[simp] theorem ywb{a0 a1 a2}:(IOp.binw a0 a1 a2).fD=false:=rfl
@[simp] theorem ywG{a0 a1 a2}:(IOp.bin a0 a1 a2).fD=false:=rfl
@[simp] theorem yxJ{a0 a1 a2}:(IOp.beq a0 a1 a2).fD=false:=rfl
@[simp] theorem yyJ{a0 a1}:(IOp.ixs a0 a1).fD=false:=rfl
@[simp] theorem yxd{a0 a1 a2}:(IOp.idx a0 a1 a2).fD=false:=rfl
@[simp] theorem yyY{a0 a1 a2 a3}:(IOp.ida a0 a1 a2 a3).fD=false:=rfl
@[simp] theorem yyM{a0 a1 a2 a3}:(IOp.sla a0 a1 a2 a3).fD=false:=rfl
@[simp] theorem yvm{a0 a1 a2}:(IOp.pick a0 a1 a2).fD=false:=rfl
@[simp] theorem ywD{a0 a1 a2}:(IOp.sls a0 a1 a2).fD=false:=rfl
@[simp] theorem ywY{a0 a1 a2 a3 a4}:(IOp.slc a0 a1 a2 a3 a4).fD=false:=rfl
@[simp] theorem yAw{a0}:(IOp.mn a0).fD=false:=rfl
@[simp] theorem yz0{a0}:(IOp.mx a0).fD=false:=rfl
@[simp] theorem ywu{a0 a1}:(IOp.mkf a0 a1).fD=false:=rfl
@[simp] theorem ywq{a0 a1}:(IOp.bld a0 a1).fD=false:=rfl
@[simp] theorem yyU{a0}:(IOp.not a0).fD=false:=rfl
theorem ysp{i:Ins}{s:St}{kN:St->Prop}(h:i.op.fD=false):mkE P i s kN=False:=by
 obtain⟨g,d,op⟩:=i;unfold mkE;split
 ·rename_i e;simp only at e h;rw[e]at h;cases h
 ·rfl
theorem mkE_g{p:Nat×Bool}{d:Option Nat}{op:IOp}{s:St}{kN:St->Prop}:mkE P ⟨some p,d,op⟩ s kN=False:=rfl
def yeX(P:Program)(f:Nat)(xs:List AV)(d:Option Nat)(s:St)(k:AV->Prop)(kN:St->Prop)(_:Tag (k,kN)):Prop:=
 ykm P f xs s.objs k\/match d with
  |some d=>∃args res,pM P f args res/\sJ s xs args/\(res.closed\/xs.all AV.rP=true)/\tC s (res.lG d)/\kN (s.take d res)
  |none=>False
theorem yC{f d:Nat}{xs args:List AV}{res:AV}{s:St}{k:AV->Prop}{kN:St->Prop}{T:Tag (k,kN)}(hp:pM P f args res)(ho:sJ s xs args)(hc:res.closed)(hfr:tC s (res.lG d))(hK:kN (s.take d res)):yeX P f xs (some d) s k kN T:=
 .inr ⟨args,res,hp,ho,.inl hc,hfr,hK⟩
theorem tH{f:Nat}{d:Option Nat}{xs args:List AV}{res:AV}{s:St}{k:AV->Prop}{kN:St->Prop}{T:Tag (k,kN)}(hp:lC P f args res)(ho:sJ s xs args)(hc:xs.all AV.rP=true\/res.scalar=true)(hK:k res):yeX P f xs d s k kN T:=
 .inl ⟨args,res,hp,by rw[nS];exact ho,hc,hK⟩
@[simp ↓] theorem wpE_q {n:Nat} {h:List (Nat×Lab)} {d:Option Nat} {op:IOp} {l:List RIns} {s:St} {K:St->Prop} (ho:op.fD=false):wpE P n (⟨0,false,[],⟨none,d,op⟩⟩::l) h s K=sF P op s.ev s.objs λv=>wpE P (n+1) l h (s.put d v) K:=by
 have e:wpE P n (⟨0,false,[],⟨none,d,op⟩⟩::l) h s K=((sF P op s.ev s.objs λv=>true=true/\wpE P (n+1) l h (s.put d v) K)\/mkE P ⟨none,d,op⟩ s λs'=>true=true/\wpE P (n+1) l h s' K):=by rw[wpE];first|done|rfl
 rw[e,ysp ho];simp only[true_and,or_false]
@[simp ↓ low] theorem wpE_qn {n:Nat} {nt:Bool} {chk:List Nat} {h:List (Nat×Lab)} {d:Option Nat} {op:IOp} {l:List RIns} {s:St} {K:St->Prop} (ho:op.fD=false):wpE P n (⟨0,nt,chk,⟨none,d,op⟩⟩::l) h s K=
 sF P op s.ev s.objs λv=>kW chk h (oW ⟨none,d,op⟩ s v)=true/\wpE P (n+1) l (kK nt n (oW ⟨none,d,op⟩ s v) h) (s.put d v) K:=by
 have e:wpE P n (⟨0,nt,chk,⟨none,d,op⟩⟩::l) h s K=((sF P op s.ev s.objs λv=>kW chk h (oW ⟨none,d,op⟩ s v)=true/\wpE P (n+1) l (kK nt n (oW ⟨none,d,op⟩ s v) h) (s.put d v) K)\/mkE P ⟨none,d,op⟩ s λs'=>kW chk h ([],true)=true/\wpE P (n+1) l (kK nt n ([],true) h) s' K):=by rw[wpE];first|done|rfl
 rw[e,ysp ho,or_false]
@[simp ↓] theorem wpE_qc {n f:Nat} {h:List (Nat×Lab)} {d:Option Nat} {xs:List X} {l:List RIns} {s:St} {K:St->Prop}:wpE P n (⟨0,false,[],⟨none,d,.call f xs⟩⟩::l) h s K=
 yeX P f (xs.map s.ev) d s (λv=>wpE P (n+1) l h (s.put d v) K) (λs'=>wpE P (n+1) l h s' K) ⟨⟩:=by
 have e:wpE P n (⟨0,false,[],⟨none,d,.call f xs⟩⟩::l) h s K=((ykm P f (xs.map s.ev) s.objs λv=>true=true/\wpE P (n+1) l h (s.put d v) K)\/mkE P ⟨none,d,.call f xs⟩ s λs'=>true=true/\wpE P (n+1) l h s' K):=by rw[wpE];first|done|rfl
 rw[e];cases d<;>(unfold yeX mkE;simp only[true_and])
@[simp ↓] theorem wpE_qg {n:Nat} {nt:Bool} {chk:List Nat} {h:List (Nat×Lab)} {t:Nat} {b:Bool} {d:Option Nat} {op:IOp} {l:List RIns} {s:St} {K:St->Prop}:wpE P n (⟨0,nt,chk,⟨some (t,b),d,op⟩⟩::l) h s K=
 kQ (s.env t) t b s (λs=>sF P op s.ev s.objs λv=>kW chk h (oW ⟨some (t,b),d,op⟩ s v)=true/\wpE P (n+1) l (kK nt n (oW ⟨some (t,b),d,op⟩ s v) h) (s.put d v) K)
  (λs=>kW chk h (oW ⟨some (t,b),d,op⟩ s .und)=true/\wpE P (n+1) l (kK nt n (oW ⟨some (t,b),d,op⟩ s .und) h) (s.put d .und) K):=by
 have e:wpE P n (⟨0,nt,chk,⟨some (t,b),d,op⟩⟩::l) h s K=(xO (s.env t) b (sF P op s.ev s.objs λv=>kW chk h (oW ⟨some (t,b),d,op⟩ s v)=true/\wpE P (n+1) l (kK nt n (oW ⟨some (t,b),d,op⟩ s v) h) (s.put d v) K)
  (kW chk h (oW ⟨some (t,b),d,op⟩ s .und)=true/\wpE P (n+1) l (kK nt n (oW ⟨some (t,b),d,op⟩ s .und) h) (s.put d .und) K)\/mkE P ⟨some (t,b),d,op⟩ s λs'=>kW chk h ([],true)=true/\wpE P (n+1) l (kK nt n ([],true) h) s' K):=by rw[wpE];first|done|rfl
 rw[e,mkE_g,or_false]
 exact yeY (A:=λs=>sF P op s.ev s.objs λv=>kW chk h (oW ⟨some (t,b),d,op⟩ s v)=true/\wpE P (n+1) l (kK nt n (oW ⟨some (t,b),d,op⟩ s v) h) (s.put d v) K)
  (B:=λs=>kW chk h (oW ⟨some (t,b),d,op⟩ s .und)=true/\wpE P (n+1) l (kK nt n (oW ⟨some (t,b),d,op⟩ s .und) h) (s.put d .und) K)
@[simp ↓] theorem wpE_m {n:Nat} {nt:Bool} {chk:List Nat} {h:List (Nat×Lab)} {i:Ins} {l:List RIns} {s:St} {K:St->Prop}:wpE P n (⟨1,nt,chk,i⟩::l) h s K=
 (kW chk h (yqZ i)=true/\rW P i.d i.op s λs'=>wpE P (n+1) l (kK nt n (yqZ i) h) s' K):=by rw[wpE];first|done|rfl
@[simp ↓] theorem wpE_e {n:Nat} {nt:Bool} {chk:List Nat} {h:List (Nat×Lab)} {g:Option (Nat×Bool)} {d:Option Nat} {op:IOp} {l:List RIns} {s:St} {K:St->Prop} (ho:op.fD=false):wpE P n (⟨2,nt,chk,⟨g,d,op⟩⟩::l) h s K=
 (kW chk h (ylB ⟨g,d,op⟩ s)=true/\bD P d op s λs'=>wpE P (n+1) l (kK nt n (ylB ⟨g,d,op⟩ s) h) s' K):=by
 have e:wpE P n (⟨2,nt,chk,⟨g,d,op⟩⟩::l) h s K=if op.fD then ypL P ⟨g,d,op⟩ s λlab s'=>kW chk h lab=true/\wpE P (n+1) l (kK nt n lab h) s' K
  else kW chk h (ylB ⟨g,d,op⟩ s)=true/\bD P d op s λs'=>wpE P (n+1) l (kK nt n (ylB ⟨g,d,op⟩ s) h) s' K:=by rw[wpE];first|done|rfl
 rw[e,if_neg (by simp[ho])]
@[simp] theorem ywJ{a0 a1}:(IOp.st1 a0 a1).fD=false:=rfl
@[simp] theorem yyo{a0 a1 a2}:(IOp.stn a0 a1 a2).fD=false:=rfl
@[simp] theorem ywh{a0 a1 a2 a3}:(IOp.app a0 a1 a2 a3).fD=false:=rfl
@[simp] theorem yA3{a0 a1 a2}:(IOp.cp a0 a1 a2).fD=false:=rfl
@[simp] theorem ywo{a0 a1}:(IOp.bsl a0 a1).fD=false:=rfl
def ysj(P:Program)(f:Nat)(d:Option Nat)(xs:List X)(s:St)(K:Lab->St->Prop)(_:Tag K):Prop:=ypL P ⟨none,d,.call f xs⟩ s K
@[simp ↓] theorem wpE_t {n f:Nat} {nt:Bool} {chk:List Nat} {h:List (Nat×Lab)} {d:Option Nat} {xs:List X} {l:List RIns} {s:St} {K:St->Prop}:wpE P n (⟨2,nt,chk,⟨none,d,.call f xs⟩⟩::l) h s K=
 ysj P f d xs s (λlab s'=>kW chk h lab=true/\wpE P (n+1) l (kK nt n lab h) s' K) ⟨⟩:=by
 have e:wpE P n (⟨2,nt,chk,⟨none,d,.call f xs⟩⟩::l) h s K=if(IOp.call f xs).fD then ypL P ⟨none,d,.call f xs⟩ s λlab s'=>kW chk h lab=true/\wpE P (n+1) l (kK nt n lab h) s' K
  else kW chk h (ylB ⟨none,d,.call f xs⟩ s)=true/\bD P d (.call f xs) s λs'=>wpE P (n+1) l (kK nt n (ylB ⟨none,d,.call f xs⟩ s) h) s' K:=by rw[wpE];first|done|rfl
 rw[e,if_pos (show(IOp.call f xs).fD=true from rfl)];rfl
def yo7(P:Program)(f:Nat)(d:Option Nat)(t:Nat)(b:Bool)(xs:List X)(s:St)(K:St->Prop)(_:Tag K):Prop:=∃s',TrS P ⟨some (t,b),d,.call f xs⟩ s s'/\K s'
@[simp ↓] theorem wpE_s {n f:Nat} {nt:Bool} {chk:List Nat} {h:List (Nat×Lab)} {t:Nat} {b:Bool} {d:Option Nat} {xs:List X} {l:List RIns} {s:St} {K:St->Prop}:wpE P n (⟨3,nt,chk,⟨some (t,b),d,.call f xs⟩⟩::l) h s K=
 yo7 P f d t b xs s (λs'=>kW chk h ([],true)=true/\wpE P (n+1) l (kK nt n ([],true) h) s' K) ⟨⟩:=by
 rw[wpE];first|done|rfl
@[congr] theorem yvi{f t:Nat}{d:Option Nat}{b:Bool}{xs:List X}{s s':St}{K:St->Prop}{T:Tag K}(h:s=s'):yo7 P f d t b xs s K T=yo7 P f d t b xs s' K T:=by rw[h]
@[congr] theorem ywZ{d:Option Nat}{op op':IOp}{s:St}{K:St->Prop}(h:op=op'):rW P d op s K=rW P d op' s K:=by rw[h]
@[congr] theorem yA9{k:Nat}{xs xs':List AV}{s:St}{d:Option Nat}{K:St->Prop}(h:xs=xs'):ykL k xs s d K=ykL k xs' s d K:=by rw[h]
@[congr] theorem yvU{f f':AV}{l l':List AV}{ob:Nat->Obj}{k:AV->Prop}(h:f=f')(h2:l=l'):ybd P f l ob k=ybd P f' l' ob k:=by rw[h,h2]
@[simp ↓] theorem yvS{d:Option Nat}{s:St}{K:St->Prop}{zs:List AV}:rW P d (.alloc zs) s K=newP s d (.box zs) (λd=>.box d 0) K:=rfl
@[simp ↓] theorem yuH{d:Option Nat}{s:St}{K:St->Prop}{n m:Nat}{z:List C}:rW P d (.alloca n m z) s K=newP s d (.row n (List.replicate m z)) (λd=>.row d n 0 0) K:=rfl
@[simp ↓] theorem yBb{d:Option Nat}{s:St}{K:St->Prop}{n b:Nat}{z:List C}{l c:X}:rW P d (.mks n b z l c) s K=yjS n b z s d (s.ev l) (s.ev c) K:=rfl
@[simp ↓] theorem yzZ{d:Option Nat}{s:St}{K:St->Prop}{n:Nat}{xs:List X}:rW P d (.bsl n xs) s K=ykL n (xs.map s.ev) s d K:=rfl
def ysb(k:Nat)(s:St)(d:Option Nat)(K:St->Prop):Option (List (List C))->Prop
 |some rows=>(∀r∈rows,r.length=k)/\newP s d (.row k rows) (λd=>.own d k rows.length) K
 |none=>False
@[congr] theorem yzi{k:Nat}{s:St}{d:Option Nat}{K:St->Prop}{o o':Option (List (List C))}(h:o=o'):ysb k s d K o=ysb k s d K o':=by rw[h]
@[simp] theorem bslF_eq {k:Nat} {xs:List AV} {s:St} {d:Option Nat} {K:St->Prop}:ykL k xs s d K=ysb k s d K (AV.rowsOf xs):=by
 unfold ykL ysb;cases AV.rowsOf xs<;>rfl
@[simp] theorem yAG{k:Nat}{s:St}{d:Option Nat}{K:St->Prop}{rows:List (List C)}:ysb k s d K (some rows)=((∀r∈rows,r.length=k)/\newP s d (.row k rows) (λd=>.own d k rows.length) K):=rfl
@[simp ↓] theorem yzT{f:Nat}{l xs:List AV}{ob:Nat→Obj}{k:AV→Prop}:ybd P (.fn f l) xs ob k=((∃fn,P.funcs[f]?=some fn∧fn.body.isSome=true∧(fn.name != "runtime.NumGoroutine")=true)∧ylf P f (xs++l) ob k ⟨⟩):=rfl
@[simp] theorem noteL_f{n:Nat}{lab:Lab}{h:List (Nat×Lab)}:kK false n lab h=h:=rfl
@[simp] theorem noteL_t{n:Nat}{lab:Lab}{h:List (Nat×Lab)}:kK true n lab h=(n,lab)::h:=rfl
@[simp] theorem yCd{lab:Lab}{h:List (Nat×Lab)}:kW [] h lab=true:=rfl
@[simp] theorem yBH{i:Nat}{l:List Nat}{lab:Lab}{h:List (Nat×Lab)}:kW (i::l) h lab=(yS (look ([],true) h i) lab&&kW l h lab):=rfl
@[simp] theorem yAy{a b:Lab}:yS a b=((a.1.all λi=>!b.1.contains i)&&b.2):=rfl
@[simp] theorem labM_eq{g:Option (Nat×Bool)}{d:Nat}{op:IOp}:yqZ ⟨g,some d,op⟩=([2*d,2*d+1],true):=rfl
@[simp] theorem yC6{i:Ins}{s:St}{v:AV}:oW i s v=((if yiP i.op s then[]else lw ((i.op.xs.map s.ev).flatMap AV.ids))++lk ((v::i.op.xs.map s.ev).flatMap AV.ids),(v::i.op.xs.map s.ev).all AV.cl):=rfl
@[simp] theorem labE_eq{i:Ins}{s:St}:ylB i s=(lw (wOf i.op s++i.d.toList)++lk (kOf i.op s++i.d.toList),true):=rfl
@[simp] theorem lw_nil:lw []=[]:=rfl
@[simp] theorem lw_cons{i:Nat}{l:List Nat}:lw (i::l)=2*i::lw l:=rfl
@[simp] theorem lw_app{l l':List Nat}:lw (l++l')=lw l++lw l':=zaN
@[simp] theorem lk_nil:lk []=[]:=rfl
@[simp] theorem lk_cons{i:Nat}{l:List Nat}:lk (i::l)=(2*i+1)::lk l:=rfl
@[simp] theorem lk_app{l l':List Nat}:lk (l++l')=lk l++lk l':=zaN
attribute [simp] yiP AV.yeO yog
@[simp] theorem kOf_st1{s:St}{x v:X}:kOf (.st1 x v) s=if yfz s (s.ev x)then(s.ev v).ids else[]:=rfl
@[simp] theorem kOf_stn{s:St}{n:Nat}{x v:X}:kOf (.stn n x v) s=if yfz s (s.ev x)then(s.ev v).ids else[]:=rfl
@[simp] theorem kOf_cp{s:St}{k:Nat}{x v:X}:kOf (.cp k x v) s=[]:=rfl
@[simp] theorem kOf_app{s:St}{k b:Nat}{x y:X}:kOf (.app k b x y) s=yog (s.ev x) (wOf (.app k b x y) s):=rfl
@[simp] theorem kOf_bsl{s:St}{k:Nat}{xs:List X}:kOf (.bsl k xs) s=wOf (.bsl k xs) s:=rfl
def yos(y:AV):Option (List (List C))->List Nat
 |some _=>[]
 |none=>y.ids
@[simp] theorem yvW{y:AV}{r:List (List C)}:yos y (some r)=[]:=rfl
@[simp] theorem yvz{y:AV}:yos y none=y.ids:=rfl
@[simp] theorem wOf_app {s:St} {k b:Nat} {x y:X}:wOf (.app k b x y) s=(s.ev x).ids++yos (s.ev y) (jF s k (s.ev y)):=by
 simp only[wOf];cases jF s k (s.ev y)<;>rfl
@[simp] theorem wOf_st1{s:St}{x v:X}:wOf (.st1 x v) s=(s.ev x).ids++(if yfz s (s.ev x)then(s.ev v).ids else[]):=rfl
@[simp] theorem wOf_stn{s:St}{n:Nat}{x v:X}:wOf (.stn n x v) s=(s.ev x).ids++(if yfz s (s.ev x)then(s.ev v).ids else[]):=rfl
@[simp] theorem wOf_cp{s:St}{k:Nat}{x v:X}:wOf (.cp k x v) s=(s.ev x).ids:=rfl
def ytB(k n id k':Nat)(j h:Int)(K:AV->Prop):Obj->Prop
 | .row _ rows=>k'=k/\j=0/\0<=h/\h<=rows.length/\rows.length=n/\K (.own id k h.toNat)
 |_=>False
@[congr] theorem yza{k n id k':Nat}{j h:Int}{K:AV->Prop}{o o':Obj}(e:o=o'):ytB k n id k' j h K o=ytB k n id k' j h K o':=by rw[e]
@[simp] theorem yDd {k n:Nat} {s:St} {id k':Nat} {j h:Int} {K:AV->Prop}:yeC k n s (.row id k' j 0) (.c (.i h)) K=ytB k n id k' j h K (s.ob id):=by
 simp only[yeC,ytB];cases s.ob id<;>rfl
@[simp] theorem yDE{k n id k' q:Nat}{j h:Int}{K:AV->Prop}{rows:List (List C)}:ytB k n id k' j h K (.row q rows)=(k'=k/\j=0/\0<=h/\h<=rows.length/\rows.length=n/\K (.own id k h.toNat)):=rfl
@[simp] theorem yC0{s:St}{id k o:Nat}{i:Int}:yfz s (.row id k i o)=(s.ob id).tree:=rfl
@[simp] theorem yE5{s:St}{id o:Nat}:yfz s (.box id o)=false:=rfl
@[simp] theorem yzh{s:St}{id ver:Nat}{i:Int}{j k:Nat}{i':Int}{o:Nat}:yfz s (.oP id ver i j k i' o)=false:=rfl
@[simp] theorem yDo{k:Nat}{r:List (List C)}:(Obj.row k r).tree=false:=rfl
@[simp] theorem tree_tr{k v:Nat}{r:List (List C)}:(Obj.tr k v r).tree=true:=rfl
attribute [simp] IOp.xs
@[simp] theorem ids_any:AV.any.ids=[]:=rfl
@[simp] theorem ids_und:AV.und.ids=[]:=rfl
@[simp] theorem ids_c{x:C}:(AV.c x).ids=[]:=rfl
@[simp] theorem ids_nil{k:Nat}:(AV.nil k).ids=[]:=rfl
@[simp] theorem yD3{k:Nat}{r:List (List C)}:(AV.clip k r).ids=[]:=rfl
@[simp] theorem ids_elt{r:List C}:(AV.elt r).ids=[]:=rfl
@[simp] theorem ids_box{i o:Nat}:(AV.box i o).ids=[i]:=rfl
@[simp] theorem ids_row{i k o:Nat}{j:Int}:(AV.row i k j o).ids=[i]:=rfl
@[simp] theorem ids_own{i k n:Nat}:(AV.own i k n).ids=[i]:=rfl
@[simp] theorem ids_cut{i k l n:Nat}:(AV.cut i k l n).ids=[i]:=rfl
@[simp] theorem ids_sub{i ver:Nat}{n:Int}{j k m:Nat}:(AV.sub i ver n j k m).ids=[i]:=rfl
@[simp] theorem yD1{i ver:Nat}{n:Int}{j k:Nat}{m:Int}{o:Nat}:(AV.oP i ver n j k m o).ids=[i]:=rfl
@[simp] theorem ids_agg{l:List AV}:(AV.agg l).ids=l.flatMap AV.xH:=rfl
@[simp] theorem ids_fn{f:Nat}{l:List AV}:(AV.fn f l).ids=l.flatMap AV.xH:=rfl
@[simp] theorem ids_tup{l:List AV}:(AV.tup l).ids=l.flatMap AV.lK:=rfl
@[simp] theorem yCb {l:List C}:(l.map AV.c).flatMap AV.xH=[]:=by
 rw[zbK];intro x hx;obtain⟨c,_,rfl⟩:=zaO.1 hx;rfl
attribute [simp] AV.xH AV.iG AV.lK AV.cl AV.cl2 AV.cl1
@[simp] theorem cl1_map {l:List C}:(l.map AV.c).all AV.cl1=true:=by
 rw[zae];intro x hx;obtain⟨c,_,rfl⟩:=zaO.1 hx;rfl
@[simp] theorem yEz{b want:Bool}{A B:Prop}:xO (.c (.b b)) want A B=((b=want->A)/\(b=(!want)->B)):=rfl
@[simp] theorem yxF{want:Bool}{A B:Prop}:xO .und want A B=B:=rfl
@[simp high] theorem condP_t{A B:Prop}:ycX (.c (.b true)) A B=A:=by simp[ycX]
@[simp high] theorem condP_f{A B:Prop}:ycX (.c (.b false)) A B=B:=by simp[ycX]
@[simp] theorem condP_b{b:Bool}{A B:Prop}:ycX (.c (.b b)) A B=((b=true->A)/\(b=false->B)):=rfl
section
variable {d:Option Nat} {s:St} {K:St->Prop} {ev:X->AV} {ob:Nat->Obj} {k:AV->Prop}
@[simp ↓] theorem step_mv{x:X}:bD P d (.mv x) s K=K (s.put d (s.ev x)):=rfl
@[simp ↓] theorem yBA{a b c:X}:bD P d (.pick a b c) s K=yI (s.ev a) (s.ev b) (s.ev c) λv=>K (s.put d v):=rfl
@[simp ↓] theorem yCw{o:BinOp}{a b:X}:bD P d (.bin o a b) s K=yi5 o (s.ev a) (s.ev b) λv=>K (s.put d v):=rfl
@[simp ↓] theorem yES{o:Bool}{a b:X}:bD P d (.beq o a b) s K=ygh o (s.ev a) (s.ev b) λv=>K (s.put d v):=rfl
@[simp ↓] theorem yEA{a:X}:bD P d (.isn a) s K=ylH (s.ev a) λv=>K (s.put d v):=rfl
@[simp ↓] theorem yFk{a:X}:bD P d (.not a) s K=notP (s.ev a) λv=>K (s.put d v):=rfl
@[simp ↓] theorem yD9{a:X}:bD P d (.neg a) s K=yhS (s.ev a) λv=>K (s.put d v):=rfl
@[simp ↓] theorem yB3{n:Nat}{a b:X}:bD P d (.idx n a b) s K=ybU n s (s.ev a) (s.ev b) λv=>K (s.put d v):=rfl
@[simp ↓] theorem yDx{m n:Nat}{a b:X}:bD P d (.ida m n a b) s K=ygZ m n (s.ev a) (s.ev b) λv=>K (s.put d v):=rfl
@[simp ↓] theorem yC3{n:Nat}{a:X}:bD P d (.fld n a) s K=ycb n s (s.ev a) λv=>K (s.put d v):=rfl
@[simp ↓] theorem yEu{a:X}:bD P d (.ld1 a) s K=ybf s (s.ev a) λv=>K (s.put d v):=rfl
@[simp ↓] theorem yDz{n:Nat}{a:X}:bD P d (.ldn n a) s K=ybH n s (s.ev a) λv=>K (s.put d v):=rfl
@[simp ↓] theorem yEJ{a b:X}:bD P d (.st1 a b) s K=ybj s (s.ev a) (s.ev b) λs'=>K (s'.put d .und):=rfl
@[simp ↓] theorem yB9{n:Nat}{a b:X}:bD P d (.stn n a b) s K=ydq n s (s.ev a) (s.ev b) λs'=>K (s'.put d .und):=rfl
@[simp ↓] theorem yCZ{n:Nat}{a:X}:bD P d (.box n a) s K=yqE n s d (s.ev a) K:=rfl
@[simp ↓] theorem yws{zs:List AV}:bD P d (.alloc zs) s K=newP s d (.box zs) (λd=>.box d 0) K:=rfl
@[simp ↓] theorem yvl{n m:Nat}{z:List C}:bD P d (.alloca n m z) s K=newP s d (.row n (List.replicate m z)) (λd=>.row d n 0 0) K:=rfl
@[simp ↓] theorem yC2{n b:Nat}{z:List C}{l c:X}:bD P d (.mks n b z l c) s K=yjS n b z s d (s.ev l) (s.ev c) K:=rfl
@[simp ↓] theorem yDf{n:Nat}{xs:List X}:bD P d (.bsl n xs) s K=ygH n (xs.map s.ev) s d K:=rfl
@[simp ↓] theorem yDn{zs:List AV}{ps:List (Nat×Nat×X)}:bD P d (.bld zs ps) s K=eY s ps zs λl=>K (s.put d (.agg l)):=rfl
@[simp ↓] theorem yCH{n:Nat}{x:X}{lo hi m:Option X}:bD P d (.slc n x lo hi m) s K=ya6 n (s.ev x) (lo.map s.ev) (hi.map s.ev) (m.map s.ev) λv=>K (s.put d v):=rfl
@[simp ↓] theorem yE1{n m:Nat}{x h:X}:bD P d (.sla n m x h) s K=yeC n m s (s.ev x) (s.ev h) λv=>K (s.put d v):=rfl
@[simp ↓] theorem yEZ{x:X}:bD P d (.len x) s K=ybk s (s.ev x) λv=>K (s.put d v):=rfl
@[simp ↓] theorem yAj{x:X}:bD P d (.slen x) s K=ycd (s.ev x) λv=>K (s.put d v):=rfl
@[simp ↓] theorem yAf{n b:Nat}{z:List C}{x y:X}:bD P d (.appz n b z x y) s K=yj1 n b z s d (s.ev x) (s.ev y) K:=rfl
@[congr] theorem yx3{o n:Nat}{z:List C}{s:St}{d:Option Nat}{a a' b b':AV}{k:St->Prop}(h2:a=a')(h3:b=b'):yj1 o n z s d a b k=yj1 o n z s d a' b' k:=by rw[h2,h3]
@[simp] theorem yE9{k b:Nat}{z:List C}{s:St}{d:Option Nat}{j:Nat}{m:Int}{K:St->Prop}:yj1 k b z s d (.nil j) (.c (.i m)) K=(0<=m/\m.toNat*b<=140737488355328/\newP s d (.row k (List.replicate m.toNat z)) (λd=>.own d k m.toNat) K):=rfl
@[simp ↓] theorem yC1{n b:Nat}{x y:X}:bD P d (.app n b x y) s K=yb2 n b s d (s.ev x) (s.ev y) K:=rfl
@[simp ↓] theorem step_mn{xs:List X}:bD P d (.mn xs) s K=mmP (λx y=>if y<x then y else x) (xs.map s.ev) λv=>K (s.put d v):=rfl
@[simp ↓] theorem step_mx{xs:List X}:bD P d (.mx xs) s K=mmP (λx y=>if x<y then y else x) (xs.map s.ev) λv=>K (s.put d v):=rfl
@[simp ↓] theorem yCQ{n:Nat}{x:X}:bD P d (.ext n x) s K=ygj n (s.ev x) λv=>K (s.put d v):=rfl
@[simp ↓] theorem yAi{f:Nat}{xs:List X}:bD P d (.call f xs) s K=yvD P f (xs.map s.ev) d s K ⟨⟩:=rfl
@[simp ↓] theorem yEQ{x i:X}:bD P d (.ixs x i) s K=yie (s.ev x) (s.ev i) λv=>K (s.put d v):=rfl
@[simp ↓] theorem yw1{f:X}{xs:List X}:bD P d (.callv f xs) s K=yb1 P (s.ev f) (xs.map s.ev) d s K:=rfl
@[simp ↓] theorem step_cp{n:Nat}{a b:X}:bD P d (.cp n a b) s K=cpP n s d (s.ev a) (s.ev b) K:=rfl
@[simp ↓] theorem yDR{a:X}:bD P d (.cap a) s K=yjQ (s.ev a) λv=>K (s.put d v):=rfl
@[simp ↓] theorem yEC{a:X}:bD P d (.nck a) s K=ye5 (s.ev a) λv=>K (s.put d v):=rfl
@[simp ↓] theorem yDv:bD P d .mkm s K=newP s d (.mp []) (λd=>.mpr d) K:=rfl
@[simp ↓] theorem yCy{x y z:X}:bD P d (.mup x y z) s K=ynv s (s.ev x) (s.ev y) (s.ev z) λs'=>K (s'.put d .und):=rfl
@[simp ↓] theorem yCu{n:Nat}{x y:X}:bD P d (.exb n x y) s K=yoW n (s.ev x) (s.ev y) λv=>K (s.put d v):=rfl
@[simp] theorem exbP_eq{n:Nat}{bs:ByteArray}{c:Nat}{k:AV->Prop}:yoW n (.c (.s bs)) (.c (.u c)) k=k (.c (.i (if n=0 then(Lib.countByte bs.data.toList c.toUInt8:Int)else Lib.indexByte bs.data.toList c.toUInt8))):=rfl
@[simp ↓] theorem yCo{x y:X}:bD P d (.mlk x y) s K=ymz s (s.ev x) (s.ev y) λv=>K (s.put d v):=rfl
def Obj.kvs?:Obj->Option (List (Int×Int))
 | .mp l=>some l
 |_=>Option.none
@[simp] theorem kvs_mp{l:List (Int×Int)}:(Obj.mp l).kvs?=some l:=rfl
def mupR(s:St)(id:Nat)(n v:Int)(K:St->Prop):Option (List (Int×Int))->Prop
 |some kvs=>K (s.jD id (.mp (yiB n v kvs)))
 |none=>False
def mlkR(n:Int)(k:AV->Prop):Option (List (Int×Int))->Prop
 |some kvs=>k (.c (.i (yic n kvs)))
 |none=>False
@[simp] theorem yAL{s:St}{id:Nat}{n v:Int}{K:St->Prop}{kvs:List (Int×Int)}:mupR s id n v K (some kvs)=K (s.jD id (.mp (yiB n v kvs))):=rfl
@[simp] theorem yBt{n:Int}{k:AV->Prop}{kvs:List (Int×Int)}:mlkR n k (some kvs)=k (.c (.i (yic n kvs))):=rfl
@[simp ↓] theorem mupP_eq {s:St} {id:Nat} {n v:Int} {K:St->Prop}:ynv s (.mpr id) (.c (.i n)) (.c (.i v)) K=mupR s id n v K (s.ob id).kvs?:=by
 simp only[ynv];cases s.ob id<;>rfl
@[simp ↓] theorem mlkP_eq {s:St} {id:Nat} {n:Int} {k:AV->Prop}:ymz s (.mpr id) (.c (.i n)) k=mlkR n k (s.ob id).kvs?:=by
 simp only[ymz];cases s.ob id<;>rfl
@[simp ↓] theorem yDa{o:Bool}{q:Nat}{a b:X}:bD P d (.eqn o q a b) s K=yg6 o q (s.ev a) (s.ev b) λv=>K (s.put d v):=rfl
@[simp ↓] theorem step_seq{o:Bool}{a b:X}:bD P d (.seq o a b) s K=ygy o (s.ev a) (s.ev b) λv=>K (s.put d v):=rfl
@[simp ↓] theorem yAE{a b:X}:bD P d (.scat a b) s K=yca (s.ev a) (s.ev b) λv=>K (s.put d v):=rfl
@[simp ↓] theorem yEW{x:X}{lo hi:Option X}:bD P d (.sls x lo hi) s K=ye0 (s.ev x) (lo.map s.ev) (hi.map s.ev) λv=>K (s.put d v):=rfl
@[simp ↓] theorem yDq{o:BinOp}{a b:X}:bD P d (.bit o a b) s K=yb0 o (s.ev a) (s.ev b) λv=>K (s.put d v):=rfl
@[simp ↓] theorem yBU{o:BinOp}{a b:X}:bD P d (.binu o a b) s K=xW o (s.ev a) (s.ev b) λv=>K (s.put d v):=rfl
@[simp ↓] theorem yAQ{o:BinOp}{a b:X}:bD P d (.binw o a b) s K=ybP o (s.ev a) (s.ev b) λv=>K (s.put d v):=rfl
@[simp ↓] theorem yDk{n:Nat}{a:X}:bD P d (.cvt n a) s K=bW n s (s.ev a) λv=>K (s.put d v):=rfl
@[simp ↓] theorem yDl{f:Nat}{xs:List X}:bD P d (.mkf f xs) s K=((xs.map s.ev).all AV.bF=true/\K (s.put d (.fn f (xs.map s.ev)))):=rfl
@[simp ↓] theorem val_nck{a:X}:sF P (.nck a) ev ob k=ye5 (ev a) k:=rfl
@[simp ↓] theorem yFl{a:X}:sF P (.cvt 0 a) ev ob k=bW 0 (oM ob) (ev a) k:=rfl
@[simp ↓] theorem yFd{a:X}:sF P (.cvt 1 a) ev ob k=bW 1 (oM ob) (ev a) k:=rfl
@[simp ↓] theorem yCk{a:X}:sF P (.cvt 3 a) ev ob k=bW 3 (oM ob) (ev a) k:=rfl
@[simp ↓] theorem val_eqn{o:Bool}{q:Nat}{a b:X}:sF P (.eqn o q a b) ev ob k=yg6 o q (ev a) (ev b) k:=rfl
@[simp ↓] theorem val_seq{o:Bool}{a b:X}:sF P (.seq o a b) ev ob k=ygy o (ev a) (ev b) k:=rfl
@[simp ↓] theorem yCc{a b:X}:sF P (.scat a b) ev ob k=yca (ev a) (ev b) k:=rfl
@[simp ↓] theorem val_sls{x:X}{lo hi:Option X}:sF P (.sls x lo hi) ev ob k=ye0 (ev x) (lo.map ev) (hi.map ev) k:=rfl
@[simp ↓] theorem val_bit{o:BinOp}{a b:X}:sF P (.bit o a b) ev ob k=yb0 o (ev a) (ev b) k:=rfl
@[simp ↓] theorem yB1{o:BinOp}{a b:X}:sF P (.binu o a b) ev ob k=xW o (ev a) (ev b) k:=rfl
@[simp ↓] theorem yDX{o:BinOp}{a b:X}:sF P (.binw o a b) ev ob k=ybP o (ev a) (ev b) k:=rfl
@[simp ↓] theorem val_mkf{f:Nat}{xs:List X}:sF P (.mkf f xs) ev ob k=((xs.map ev).all AV.bF=true/\k (.fn f (xs.map ev))):=rfl
@[simp ↓] theorem val_mv{x:X}:sF P (.mv x) ev ob k=k (ev x):=rfl
@[simp ↓] theorem yEy{a b c:X}:sF P (.pick a b c) ev ob k=yI (ev a) (ev b) (ev c) k:=rfl
@[simp ↓] theorem val_bin{o:BinOp}{a b:X}:sF P (.bin o a b) ev ob k=yi5 o (ev a) (ev b) k:=rfl
@[simp ↓] theorem val_beq{o:Bool}{a b:X}:sF P (.beq o a b) ev ob k=ygh o (ev a) (ev b) k:=rfl
@[simp ↓] theorem val_not{a:X}:sF P (.not a) ev ob k=notP (ev a) k:=rfl
@[simp ↓] theorem val_neg{a:X}:sF P (.neg a) ev ob k=yhS (ev a) k:=rfl
@[simp ↓] theorem val_idx{n:Nat}{a b:X}:sF P (.idx n a b) ev ob k=ybU n (oM ob) (ev a) (ev b) k:=rfl
@[simp ↓] theorem val_ida{m n:Nat}{a b:X}:sF P (.ida m n a b) ev ob k=ygZ m n (ev a) (ev b) k:=rfl
@[simp ↓] theorem val_fld{n:Nat}{a:X}:sF P (.fld n a) ev ob k=ycb n (oM ob) (ev a) k:=rfl
@[simp ↓] theorem val_ld1{a:X}:sF P (.ld1 a) ev ob k=ybf (oM ob) (ev a) k:=rfl
@[simp ↓] theorem val_ldn{n:Nat}{a:X}:sF P (.ldn n a) ev ob k=ybH n (oM ob) (ev a) k:=rfl
@[simp ↓] theorem val_slc{n:Nat}{x:X}{lo hi m:Option X}:sF P (.slc n x lo hi m) ev ob k=ya6 n (ev x) (lo.map ev) (hi.map ev) (m.map ev) k:=rfl
@[simp ↓] theorem val_sla{m n:Nat}{x h:X}:sF P (.sla m n x h) ev ob k=yeC m n (oM ob) (ev x) (ev h) k:=rfl
@[simp ↓] theorem val_len{x:X}:sF P (.len x) ev ob k=ybk (oM ob) (ev x) k:=rfl
@[simp ↓] theorem yCM{x:X}:sF P (.slen x) ev ob k=ycd (ev x) k:=rfl
@[simp ↓] theorem val_mn{xs:List X}:sF P (.mn xs) ev ob k=mmP (λx y=>if y<x then y else x) (xs.map ev) k:=rfl
@[simp ↓] theorem val_mx{xs:List X}:sF P (.mx xs) ev ob k=mmP (λx y=>if x<y then y else x) (xs.map ev) k:=rfl
@[simp ↓] theorem val_ext{n:Nat}{x:X}:sF P (.ext n x) ev ob k=ygj n (ev x) k:=rfl
@[simp ↓] theorem yEV{f:Nat}{xs:List X}:sF P (.call f xs) ev ob k=ylf P f (xs.map ev) ob k ⟨⟩:=rfl
@[simp ↓] theorem val_bld{zs:List AV}{ps:List (Nat×Nat×X)}:sF P (.bld zs ps) ev ob k=eY ⟨λt=>ev (.t t),ob⟩ ps zs λl=>k (.agg l):=rfl
@[simp ↓] theorem yzd{f:X}{xs:List X}:sF P (.callv f xs) ev ob k=ybd P (ev f) (xs.map ev) ob k:=rfl
@[simp ↓] theorem step_bad:bD P d .bad s K=False:=rfl
@[simp ↓] theorem val_ixs{x i:X}:sF P (.ixs x i) ev ob k=yie (ev x) (ev i) k:=rfl
end
@[simp] theorem ev_t{s:St}{n:Nat}:s.ev (.t n)=s.env n:=rfl
@[simp] theorem ev_k{s:St}{a:AV}:s.ev (.k a)=a:=rfl
@[simp] theorem yEx{s:St}{v:AV}:s.put none v=s:=rfl
@[simp] theorem put_env{s:St}{d t:Nat}{v:AV}:(s.put (some d) v).env t=if t=d then v else s.env t:=rfl
attribute [simp] jG
@[simp] theorem put_ob{s:St}{d:Option Nat}{id:Nat}{v:AV}:(s.put d v).ob id=s.ob id:=by cases d<;>rfl
@[simp] theorem yBM{s:St}{id t:Nat}{o:Obj}:(s.jD id o).env t=s.env t:=rfl
@[simp] theorem yEB{s:St}{id i:Nat}{o:Obj}:(s.jD id o).ob i=if i=id then o else s.ob i:=rfl
@[simp] theorem yw3{s:St}{id i:Nat}{o:Obj}:(s.jD id o).objs i=if i=id then o else s.objs i:=rfl
@[simp] theorem yzQ{s:St}{id t:Nat}{o:Obj}:(s.renew id o).env t=(s.env t).kill id:=rfl
@[simp] theorem yDh{s:St}{id i:Nat}{o:Obj}:(s.renew id o).ob i=if i=id then o else(s.ob i).kill id:=rfl
@[simp] theorem yxK{s:St}{id i:Nat}{o:Obj}:(s.renew id o).objs i=if i=id then o else(s.objs i).kill id:=rfl
@[simp] theorem obSt_ob{f:Nat->Obj}{i:Nat}:(oM f).ob i=f i:=rfl
@[simp] theorem objs_ob{s:St}{i:Nat}:s.objs i=s.ob i:=rfl
@[simp] theorem yDD{L:List (Nat×AV)}{O:List (Nat×Obj)}{t:Nat}:(rD L O).env t=look .any L t:=rfl
@[simp] theorem stOf_ob{L:List (Nat×AV)}{O:List (Nat×Obj)}{t:Nat}:(rD L O).ob t=look .none O t:=rfl
@[simp] theorem ywQ{l:List AV}{t:Nat}:(ybE l).env t=(l[t]?).getD .any:=rfl
@[simp] theorem yAY{l:List AV}{t:Nat}:(ybE l).ob t=.none:=rfl
@[simp] theorem mk_env{e:Nat->AV}{o:Nat->Obj}{t:Nat}:(St.mk e o).env t=e t:=rfl
@[simp] theorem mk_ob{e:Nat->AV}{o:Nat->Obj}{t:Nat}:(St.mk e o).ob t=o t:=rfl
@[simp] theorem look_nil{α:Type}{d:α}{t:Nat}:look d [] t=d:=rfl
@[simp] theorem ywC{α:Type}{d v:α}{k t:Nat}{l:List (Nat×α)}:look d ((k,v)::l) t=if t=k then v else look d l t:=rfl
@[simp] theorem upd_app{α:Type}{k:Nat}{v:α}{f:Nat->α}{n:Nat}:upd k v f n=if n=k then v else f n:=rfl
@[simp] theorem isNone_none:Obj.none.isNone=true:=rfl
@[simp] theorem ywT{l:List AV}:(Obj.box l).isNone=false:=rfl
@[simp] theorem yxj{k:Nat}{l:List (List C)}:(Obj.row k l).isNone=false:=rfl
@[simp] theorem yBn{k v:Nat}{l:List (List C)}:(Obj.tr k v l).isNone=false:=rfl
@[simp] theorem yC8{s:St}{id t:Nat}:(s.drop id).env t=(s.env t).kill id:=rfl
@[simp] theorem drop_ob{s:St}{id i:Nat}:(s.drop id).ob i=if i=id then .none else(s.ob i).kill id:=rfl
@[simp] theorem yzf{s:St}{id i:Nat}:(s.drop id).objs i=if i=id then .none else(s.ob i).kill id:=rfl
@[simp] theorem yBQ{s:St}:s.drops []=s:=rfl
@[simp] theorem yxZ{s:St}{i:Nat}{l:List Nat}:s.drops (i::l)=(s.drop i).drops l:=rfl
@[simp ↓] theorem yAg{s:St}{d:Nat}{o:Obj}{v:Nat->AV}{K:St->Prop}:newP s (some d) o v K=((s.ob d).isNone=true/\K ((s.jD d o).put (some d) (v d))):=rfl
@[simp] theorem pickP_t {a b:AV} {k:AV->Prop}:yI (.c (.b true)) a b k=k a:=by
 unfold yI;simp only;split<;>simp
@[simp] theorem pickP_f {a b:AV} {k:AV->Prop}:yI (.c (.b false)) a b k=k b:=by
 unfold yI;simp only;split<;>simp
@[simp] theorem yzv{t x y:Bool}{k:AV->Prop}:yI (.c (.b t)) (.c (.b x)) (.c (.b y)) k=k (.c (.b (cond t x y))):=rfl
@[simp] theorem binP_ii{o:BinOp}{a b:Int}{k:AV->Prop}:yi5 o (.c (.i a)) (.c (.i b)) k=ydf o a b k:=rfl
@[simp] theorem yEI{a b:Int}{k:AV->Prop}:ydf .add a b k=(inI (a+b)/\k (.c (.i (a+b)))):=rfl
@[simp] theorem yCW{a b:Int}{k:AV->Prop}:ydf .sub a b k=(inI (a-b)/\k (.c (.i (a-b)))):=rfl
@[simp] theorem yED{a b:Int}{k:AV->Prop}:ydf .mul a b k=(inI (a*b)/\k (.c (.i (a*b)))):=rfl
@[simp] theorem yEo{a b:Int}{k:AV->Prop}:ydf .quo a b k=(b≠0/\inI (a.tdiv b)/\k (.c (.i (a.tdiv b)))):=rfl
@[simp] theorem yB7{a b:Int}{k:AV->Prop}:ydf .rem a b k=(b≠0/\inI (a.tmod b)/\k (.c (.i (a.tmod b)))):=rfl
@[simp] theorem yFb{a b:Int}{k:AV->Prop}:ydf .eql a b k=k (.c (.b (decide (a=b)))):=rfl
@[simp] theorem yDr{a b:Int}{k:AV->Prop}:ydf .neq a b k=k (.c (.b (!decide (a=b)))):=rfl
@[simp] theorem yD2{a b:Int}{k:AV->Prop}:ydf .lss a b k=k (.c (.b (decide (a<b)))):=rfl
@[simp] theorem yDN{a b:Int}{k:AV->Prop}:ydf .leq a b k=k (.c (.b (decide (a<=b)))):=rfl
@[simp] theorem yE0{a b:Int}{k:AV->Prop}:ydf .gtr a b k=k (.c (.b (decide (b<a)))):=rfl
@[simp] theorem yCY{a b:Int}{k:AV->Prop}:ydf .geq a b k=k (.c (.b (decide (b<=a)))):=rfl
@[simp] theorem beqP_ff{a b:Bool}{k:AV->Prop}:ygh false (.c (.b a)) (.c (.b b)) k=k (.c (.b (decide (a=b)))):=rfl
@[simp] theorem beqP_tt{a b:Bool}{k:AV->Prop}:ygh true (.c (.b a)) (.c (.b b)) k=k (.c (.b (!decide (a=b)))):=rfl
@[simp] theorem notP_b{a:Bool}{k:AV->Prop}:notP (.c (.b a)) k=k (.c (.b !a)):=rfl
@[simp] theorem negP_i{a:Int}{k:AV->Prop}:yhS (.c (.i a)) k=(inI (-a)/\k (.c (.i (-a)))):=rfl
@[simp] theorem isnP_sl{n:Nat}{rows:List (List C)}{k:AV->Prop}:ylH (.c (.sl n rows)) k=∀v:Bool,(v=true->rows=[])->k (.c (.b v)):=rfl
@[simp] theorem yDb{n:Nat}{k:AV->Prop}:ylH (.nil n) k=k (.c (.b true)):=rfl
@[simp] theorem yDU{id q n:Nat}{k:AV->Prop}:ylH (.own id q n) k=∀v:Bool,(v=true->n=0)->k (.c (.b v)):=rfl
@[simp] theorem idxP_sl{m m':Nat}{rows:List (List C)}{n:Int}{s:St}{k:AV->Prop}:ybU m s (.c (.sl m' rows)) (.c (.i n)) k=(m'=m/\0<=n/\n<rows.length/\k (.elt (rows.getD n.toNat []))):=rfl
@[simp] theorem yz5{m m':Nat}{rows:List (List C)}{n:Int}{s:St}{k:AV->Prop}:ybU m s (.clip m' rows) (.c (.i n)) k=(m'=m/\0<=n/\n<rows.length/\k (.elt (rows.getD n.toNat []))):=rfl
@[simp] theorem yDQ{id m m' r:Nat}{n:Int}{s:St}{k:AV->Prop}:ybU m s (.own id m' r) (.c (.i n)) k=(m'=m/\0<=n/\n<(r:Int)/\k (.row id m n 0)):=rfl
@[simp] theorem yEm{id m m' lo r:Nat}{n:Int}{s:St}{k:AV->Prop}:ybU m s (.cut id m' lo r) (.c (.i n)) k=(m'=m/\0<=n/\n<(r:Int)/\k (.row id m (lo+n) 0)):=rfl
def yrC(m:Nat)(id ver:Nat)(i:Int)(j m' r:Nat)(n:Int)(k:AV->Prop):Obj->Prop
 | .tr _ ver' _=>ver'=ver/\m'=m/\0<=n/\n<(r:Int)/\k (.oP id ver i j m n 0)
 |_=>False
@[congr] theorem yAe{m id ver:Nat}{i:Int}{j m' r:Nat}{n:Int}{k:AV->Prop}{a a':Obj}(h:a=a'):yrC m id ver i j m' r n k a=yrC m id ver i j m' r n k a':=by rw[h]
@[simp] theorem yDG{m id ver:Nat}{i:Int}{j m' r:Nat}{n:Int}{s:St}{k:AV->Prop}:ybU m s (.sub id ver i j m' r) (.c (.i n)) k=yrC m id ver i j m' r n k (s.ob id):=by first|rfl|(simp only[ybU,yrC];done)|(simp only[ybU,yrC];rfl)
@[simp] theorem idxT_tr{m id ver k0 ver':Nat}{i:Int}{j m' r:Nat}{n:Int}{rows:List (List C)}{k:AV->Prop}:yrC m id ver i j m' r n k (.tr k0 ver' rows)=(ver'=ver/\m'=m/\0<=n/\n<(r:Int)/\k (.oP id ver i j m n 0)):=rfl
@[simp] theorem yD7{id m m' n:Nat}{j q:Int}{k:AV->Prop}:ygZ m n (.row id m' j 0) (.c (.i q)) k=(m'=m/\j=0/\0<=q/\q<(n:Int)/\k (.row id m q 0)):=rfl
@[simp] theorem yCr{off id o:Nat}{s:St}{k:AV->Prop}:ycb off s (.box id o) k=k (.box id (o+off)):=rfl
@[simp] theorem yDM{off id m o:Nat}{i:Int}{s:St}{k:AV->Prop}:ycb off s (.row id m i o) k=k (.row id m i (o+off)):=rfl
@[simp] theorem yFg{off:Nat}{cs:List C}{s:St}{k:AV->Prop}:ycb off s (.elt cs) k=k (.elt (cs.drop off)):=rfl
def yrr(off id ver:Nat)(i:Int)(j q:Nat)(i':Int)(o:Nat)(k:AV->Prop):Obj->Prop
 | .tr _ ver' _=>ver'=ver/\k (.oP id ver i j q i' (o+off))
 |_=>False
@[congr] theorem yze{off id ver:Nat}{i:Int}{j q:Nat}{i':Int}{o:Nat}{k:AV->Prop}{a a':Obj}(h:a=a'):yrr off id ver i j q i' o k a=yrr off id ver i j q i' o k a':=by rw[h]
@[simp] theorem yBi{off id ver:Nat}{i:Int}{j q:Nat}{i':Int}{o:Nat}{s:St}{k:AV->Prop}:ycb off s (.oP id ver i j q i' o) k=yrr off id ver i j q i' o k (s.ob id):=by first|rfl|(simp only[ycb,yrr];done)|(simp only[ycb,yrr];rfl)
@[simp] theorem fldT_tr{off id ver k0 ver':Nat}{i:Int}{j q:Nat}{i':Int}{o:Nat}{rows:List (List C)}{k:AV->Prop}:yrr off id ver i j q i' o k (.tr k0 ver' rows)=(ver'=ver/\k (.oP id ver i j q i' (o+off))):=rfl
@[simp] theorem av_i{id ver:Nat}{i:Int}{j:Nat}{n:Int}:(C.i n).av id ver i j=.c (.i n):=rfl
@[simp] theorem av_b{id ver:Nat}{i:Int}{j:Nat}{n:Bool}:(C.b n).av id ver i j=.c (.b n):=rfl
@[simp] theorem av_u{id ver:Nat}{i:Int}{j:Nat}{n:Nat}:(C.u n).av id ver i j=.c (.u n):=rfl
@[simp] theorem av_q{id ver:Nat}{i:Int}{j:Nat}{n:Nat}:(C.q n).av id ver i j=.c (.q n):=rfl
@[simp] theorem av_s{id ver:Nat}{i:Int}{j:Nat}{n:ByteArray}:(C.s n).av id ver i j=.c (.s n):=rfl
@[simp] theorem av_sl{id ver:Nat}{i:Int}{j k:Nat}{r:List (List C)}:(C.sl k r).av id ver i j=.c (.sl k r):=rfl
@[simp] theorem av_ow{id ver:Nat}{i:Int}{j k:Nat}{r:List (List C)}:(C.ow k r).av id ver i j=.sub id ver i j k r.length:=rfl
@[simp] theorem av_ot{id ver:Nat}{i:Int}{j k:Nat}{r:List (List C)}:(C.ot k r).av id ver i j=.sub id ver i j k r.length:=rfl
@[simp] theorem av_jk{id ver:Nat}{i:Int}{j:Nat}:C.jk.av id ver i j=.any:=rfl
@[simp] theorem av2_i{n:Int}:(C.i n).av2=.c (.i n):=rfl
@[simp] theorem av2_b{n:Bool}:(C.b n).av2=.c (.b n):=rfl
@[simp] theorem av2_u{n:Nat}:(C.u n).av2=.c (.u n):=rfl
@[simp] theorem av2_q{n:Nat}:(C.q n).av2=.c (.q n):=rfl
@[simp] theorem av2_s{n:ByteArray}:(C.s n).av2=.c (.s n):=rfl
@[simp] theorem av2_sl{k:Nat}{r:List (List C)}:(C.sl k r).av2=.c (.sl k r):=rfl
@[simp] theorem avs_nil{id ver:Nat}{i:Int}{j:Nat}:avs id ver i j []=[]:=rfl
@[simp] theorem yCh{id ver:Nat}{i:Int}{j:Nat}{c:C}{l:List C}:avs id ver i j (c::l)=c.av id ver i j::avs id ver i (j+1) l:=rfl
@[simp] theorem yzx{rows:List (List C)}{i j:Nat}:cellAt rows i j=(rows[i]?).bind (·[j]?):=by unfold cellAt;cases rows[i]?<;>rfl
@[simp] theorem yEO{s:St}{x:C}{cs:List C}{k:AV->Prop}:ybf s (.elt (x::cs)) k=k (.c x):=rfl
@[simp] theorem yDK{n:Nat}{s:St}{cs:List C}{k:AV->Prop}:ybH n s (.elt cs) k=(n<=cs.length/\k (.agg ((cs.take n).map .c))):=rfl
def ykD(k:AV->Prop)(o:Nat):Obj->Prop
 | .box cells=>match cells[o]? with
  |some v=>k v
  |none=>False
 |_=>False
@[congr] theorem yy1{o:Nat}{a a':Obj}{k:AV->Prop}(h:a=a'):ykD k o a=ykD k o a':=by rw[h]
@[simp] theorem yD8{s:St}{id o:Nat}{k:AV->Prop}:ybf s (.box id o) k=ykD k o (s.ob id):=rfl
def ynf(k:AV->Prop):Option AV->Prop|some v=>k v|none=>False
@[congr] theorem yBu{a a':Option AV}{k:AV->Prop}(h:a=a'):ynf k a=ynf k a':=by rw[h]
@[simp] theorem yBy{v:AV}{k:AV->Prop}:ynf k (some v)=k v:=rfl
@[simp] theorem yAr{o:Nat}{cells:List AV}{k:AV->Prop}:ykD k o (.box cells)=ynf k cells[o]?:=by first|rfl|(simp only[ykD,ynf];done)|(simp only[ykD,ynf];rfl)
def ylM(k:AV->Prop)(n o:Nat):Obj->Prop
 | .box cells=>o+n<=cells.length/\k (.agg ((cells.drop o).take n))
 |_=>False
@[congr] theorem yvB{n o:Nat}{a a':Obj}{k:AV->Prop}(h:a=a'):ylM k n o a=ylM k n o a':=by rw[h]
@[simp] theorem yDA{s:St}{id o n:Nat}{k:AV->Prop}:ybH n s (.box id o) k=ylM k n o (s.ob id):=rfl
@[simp] theorem yyn{n o:Nat}{cells:List AV}{k:AV->Prop}:ylM k n o (.box cells)=(o+n<=cells.length/\k (.agg ((cells.drop o).take n))):=rfl
def yhr(k:AV->Prop)(m:Nat)(i:Int)(o id:Nat):Obj->Prop
 | .row k' rows=>k'=m/\i.toNat<rows.length/\o<m/\k (.c ((rows.getD i.toNat []).getD o default))
 | .tr k' ver rows=>k'=m/\i.toNat<rows.length/\o<m/\k (((rows.getD i.toNat []).getD o default).av id ver i o)
 |_=>False
@[congr] theorem yyS{m o id:Nat}{i:Int}{a a':Obj}{k:AV->Prop}(h:a=a'):yhr k m i o id a=yhr k m i o id a':=by rw[h]
@[simp] theorem yEG{s:St}{id m o:Nat}{i:Int}{k:AV->Prop}:ybf s (.row id m i o) k=yhr k m i o id (s.ob id):=by first|rfl|(simp only[ybf,yhr];done)|(simp only[ybf,yhr];rfl)
@[simp] theorem yEY{m m' ver o id:Nat}{i:Int}{rows:List (List C)}{k:AV->Prop}:yhr k m i o id (.tr m' ver rows)=(m'=m/\i.toNat<rows.length/\o<m/\k (((rows.getD i.toNat []).getD o default).av id ver i o)):=rfl
@[simp] theorem yzr{m m' o id:Nat}{i:Int}{rows:List (List C)}{k:AV->Prop}:yhr k m i o id (.row m' rows)=(m'=m/\i.toNat<rows.length/\o<m/\k (.c ((rows.getD i.toNat []).getD o default))):=rfl
def ydi(k:AV->Prop)(n m:Nat)(i:Int)(o id:Nat):Obj->Prop
 | .row k' rows=>k'=m/\i.toNat<rows.length/\o+n<=m/\k (.agg ((((rows.getD i.toNat []).drop o).take n).map .c))
 | .tr k' ver rows=>k'=m/\i.toNat<rows.length/\o+n<=m/\k (.agg (avs id ver i o (((rows.getD i.toNat []).drop o).take n)))
 |_=>False
@[congr] theorem yvp{n m o id:Nat}{i:Int}{a a':Obj}{k:AV->Prop}(h:a=a'):ydi k n m i o id a=ydi k n m i o id a':=by rw[h]
@[simp] theorem yEk{s:St}{id m o n:Nat}{i:Int}{k:AV->Prop}:ybH n s (.row id m i o) k=ydi k n m i o id (s.ob id):=by first|rfl|(simp only[ybH,ydi];done)|(simp only[ybH,ydi];rfl)
@[simp] theorem yBj{n m m' ver o id:Nat}{i:Int}{rows:List (List C)}{k:AV->Prop}:ydi k n m i o id (.tr m' ver rows)=(m'=m/\i.toNat<rows.length/\o+n<=m/\k (.agg (avs id ver i o (((rows.getD i.toNat []).drop o).take n)))):=rfl
def ymx(k:AV->Prop)(ver q:Nat)(i:Int)(j:Nat)(i':Int)(o:Nat):Obj->Prop
 | .tr _ ver' rows=>ver'=ver/\match cellAt rows i.toNat j with
  |some (.ow k' rs)=>k'=q/\i'.toNat<rs.length/\o<q/\k (.c ((rs.getD i'.toNat []).getD o default))
  |some (.ot k' rs)=>k'=q/\i'.toNat<rs.length/\o<q/\k ((rs.getD i'.toNat []).getD o default).av2
  |_=>False
 |_=>False
@[congr] theorem yAk{ver q:Nat}{i:Int}{j:Nat}{i':Int}{o:Nat}{a a':Obj}{k:AV->Prop}(h:a=a'):ymx k ver q i j i' o a=ymx k ver q i j i' o a':=by rw[h]
@[simp] theorem yAN{s:St}{id ver q:Nat}{i:Int}{j:Nat}{i':Int}{o:Nat}{k:AV->Prop}:ybf s (.oP id ver i j q i' o) k=ymx k ver q i j i' o (s.ob id):=by first|rfl|(simp only[ybf,ymx];done)|(simp only[ybf,ymx];rfl)
def srC(k:AV->Prop)(q:Nat)(i':Int)(o:Nat):Option C->Prop
 |some (.ow k' rs)=>k'=q/\i'.toNat<rs.length/\o<q/\k (.c ((rs.getD i'.toNat []).getD o default))
 |some (.ot k' rs)=>k'=q/\i'.toNat<rs.length/\o<q/\k ((rs.getD i'.toNat []).getD o default).av2
 |_=>False
@[congr] theorem yDF{q:Nat}{i':Int}{o:Nat}{a a':Option C}{k:AV->Prop}(h:a=a'):srC k q i' o a=srC k q i' o a':=by rw[h]
@[simp] theorem srLd_tr{k0 ver' ver q:Nat}{i:Int}{j:Nat}{i':Int}{o:Nat}{rows:List (List C)}{k:AV->Prop}:ymx k ver q i j i' o (.tr k0 ver' rows)=(ver'=ver/\srC k q i' o (cellAt rows i.toNat j)):=by first|rfl|(simp only[ymx,srC];done)|(simp only[ymx,srC];rfl)
@[simp] theorem srC_ow{k' q:Nat}{i':Int}{o:Nat}{rs:List (List C)}{k:AV->Prop}:srC k q i' o (some (.ow k' rs))=(k'=q/\i'.toNat<rs.length/\o<q/\k (.c ((rs.getD i'.toNat []).getD o default))):=rfl
@[simp] theorem srC_ot{k' q:Nat}{i':Int}{o:Nat}{rs:List (List C)}{k:AV->Prop}:srC k q i' o (some (.ot k' rs))=(k'=q/\i'.toNat<rs.length/\o<q/\k ((rs.getD i'.toNat []).getD o default).av2):=rfl
def yfZ(k:AV->Prop)(n ver q:Nat)(i:Int)(j:Nat)(i':Int)(o:Nat):Obj->Prop
 | .tr _ ver' rows=>ver'=ver/\match cellAt rows i.toNat j with
  |some (.ow k' rs)=>k'=q/\i'.toNat<rs.length/\o+n<=q/\k (.agg ((((rs.getD i'.toNat []).drop o).take n).map .c))
  |some (.ot k' rs)=>k'=q/\i'.toNat<rs.length/\o+n<=q/\k (.agg ((((rs.getD i'.toNat []).drop o).take n).map C.av2))
  |_=>False
 |_=>False
@[congr] theorem yyE{n ver q:Nat}{i:Int}{j:Nat}{i':Int}{o:Nat}{a a':Obj}{k:AV->Prop}(h:a=a'):yfZ k n ver q i j i' o a=yfZ k n ver q i j i' o a':=by rw[h]
@[simp] theorem yzR{s:St}{n id ver q:Nat}{i:Int}{j:Nat}{i':Int}{o:Nat}{k:AV->Prop}:ybH n s (.oP id ver i j q i' o) k=yfZ k n ver q i j i' o (s.ob id):=by first|rfl|(simp only[ybH,yfZ];done)|(simp only[ybH,yfZ];rfl)
def ypd(k:AV->Prop)(n q:Nat)(i':Int)(o:Nat):Option C->Prop
 |some (.ow k' rs)=>k'=q/\i'.toNat<rs.length/\o+n<=q/\k (.agg ((((rs.getD i'.toNat []).drop o).take n).map .c))
 |some (.ot k' rs)=>k'=q/\i'.toNat<rs.length/\o+n<=q/\k (.agg ((((rs.getD i'.toNat []).drop o).take n).map C.av2))
 |_=>False
@[congr] theorem yzt{n q:Nat}{i':Int}{o:Nat}{a a':Option C}{k:AV->Prop}(h:a=a'):ypd k n q i' o a=ypd k n q i' o a':=by rw[h]
@[simp] theorem yDs{n k0 ver' ver q:Nat}{i:Int}{j:Nat}{i':Int}{o:Nat}{rows:List (List C)}{k:AV->Prop}:yfZ k n ver q i j i' o (.tr k0 ver' rows)=(ver'=ver/\ypd k n q i' o (cellAt rows i.toNat j)):=by first|rfl|(simp only[yfZ,ypd];done)|(simp only[yfZ,ypd];rfl)
@[simp] theorem srCn_ow{n k' q:Nat}{i':Int}{o:Nat}{rs:List (List C)}{k:AV->Prop}:ypd k n q i' o (some (.ow k' rs))=(k'=q/\i'.toNat<rs.length/\o+n<=q/\k (.agg ((((rs.getD i'.toNat []).drop o).take n).map .c))):=rfl
@[simp] theorem srCn_ot{n k' q:Nat}{i':Int}{o:Nat}{rs:List (List C)}{k:AV->Prop}:ypd k n q i' o (some (.ot k' rs))=(k'=q/\i'.toNat<rs.length/\o+n<=q/\k (.agg ((((rs.getD i'.toNat []).drop o).take n).map C.av2))):=rfl
@[simp] theorem yyN{n m m' o id:Nat}{i:Int}{rows:List (List C)}{k:AV->Prop}:ydi k n m i o id (.row m' rows)=(m'=m/\i.toNat<rows.length/\o+n<=m/\k (.agg ((((rows.getD i.toNat []).drop o).take n).map .c))):=rfl
def ypx(K:St->Prop)(s:St)(id o:Nat)(v:AV):Obj->Prop
 | .box cells=>o<cells.length/\v.bF=true/\K (s.jD id (.box (cells.set o v)))
 |_=>False
@[congr] theorem yxr{s:St}{id o:Nat}{v:AV}{a a':Obj}{K:St->Prop}(h:a=a'):ypx K s id o v a=ypx K s id o v a':=by rw[h]
@[simp] theorem yEc{s:St}{id o:Nat}{v:AV}{K:St->Prop}:ybj s (.box id o) v K=ypx K s id o v (s.ob id):=rfl
@[simp] theorem yA4{s:St}{id o:Nat}{v:AV}{cells:List AV}{K:St->Prop}:ypx K s id o v (.box cells)=(o<cells.length/\v.bF=true/\K (s.jD id (.box (cells.set o v)))):=rfl
def ycw(K:St->Prop)(s:St)(id m:Nat)(i:Int)(o:Nat)(v:AV):Obj->Prop
 | .row k' rows=>match v.toC with
  |some c=>k'=m/\i.toNat<rows.length/\o<m/\K (s.jD id (.row m (rows.set i.toNat ((rows.getD i.toNat []).set o c))))
  |none=>False
 | .tr k' ver rows=>match pk1 s v with
  |some (c,ids)=>k'=m/\i.toNat<rows.length/\o<m/\ids.Nodup/\id∉ids/\K ((s.drops ids).jD id (.tr m (ver+1) (setAt rows i.toNat o c)))
  |none=>False
 |_=>False
@[congr] theorem yx2{s:St}{id m o:Nat}{i:Int}{v:AV}{a a':Obj}{K:St->Prop}(h:a=a'):ycw K s id m i o v a=ycw K s id m i o v a':=by rw[h]
@[simp] theorem yEL{s:St}{id m o:Nat}{i:Int}{v:AV}{K:St->Prop}:ybj s (.row id m i o) v K=ycw K s id m i o v (s.ob id):=by first|rfl|(simp only[ybj,ycw];done)|(simp only[ybj,ycw];rfl)
@[simp] theorem yzn{s:St}{id m m' o:Nat}{i:Int}{c:C}{rows:List (List C)}{K:St->Prop}:ycw K s id m i o (.c c) (.row m' rows)=(m'=m/\i.toNat<rows.length/\o<m/\K (s.jD id (.row m (rows.set i.toNat ((rows.getD i.toNat []).set o c))))):=rfl
@[simp] theorem yxC{s:St}{id m m' o n:Nat}{i:Int}{rows:List (List C)}{K:St->Prop}:ycw K s id m i o (.nil n) (.row m' rows)=(m'=m/\i.toNat<rows.length/\o<m/\K (s.jD id (.row m (rows.set i.toNat ((rows.getD i.toNat []).set o (.sl n [])))))):=rfl
@[simp] theorem yy9{s:St}{id m m' o n:Nat}{i:Int}{rows r:List (List C)}{K:St->Prop}:ycw K s id m i o (.clip n r) (.row m' rows)=(m'=m/\i.toNat<rows.length/\o<m/\K (s.jD id (.row m (rows.set i.toNat ((rows.getD i.toNat []).set o (.sl n r)))))):=rfl
def yqP(K:St->Prop)(s:St)(id m:Nat)(i:Int)(o m' ver:Nat)(rows:List (List C)):Option (C×List Nat)->Prop
 |some (c,ids)=>m'=m/\i.toNat<rows.length/\o<m/\ids.Nodup/\id∉ids/\K ((s.drops ids).jD id (.tr m (ver+1) (setAt rows i.toNat o c)))
 |none=>False
@[congr] theorem yz8{s:St}{id m m' ver o:Nat}{i:Int}{rows:List (List C)}{K:St->Prop}{a a':Option (C×List Nat)}(h:a=a'):yqP K s id m i o m' ver rows a=yqP K s id m i o m' ver rows a':=by rw[h]
@[simp] theorem yDi{s:St}{id m m' ver o:Nat}{i:Int}{v:AV}{rows:List (List C)}{K:St->Prop}:ycw K s id m i o v (.tr m' ver rows)=yqP K s id m i o m' ver rows (pk1 s v):=by first|rfl|(simp only[ycw,yqP];done)|(simp only[ycw,yqP];rfl)
@[simp] theorem yzA{s:St}{id m m' ver o:Nat}{i:Int}{rows:List (List C)}{c:C}{ids:List Nat}{K:St->Prop}:yqP K s id m i o m' ver rows (some (c,ids))=(m'=m/\i.toNat<rows.length/\o<m/\ids.Nodup/\id∉ids/\K ((s.drops ids).jD id (.tr m (ver+1) (setAt rows i.toNat o c)))):=rfl
@[simp] theorem plain_i{n:Int}:(C.i n).plain=true:=rfl
@[simp] theorem plain_b{n:Bool}:(C.b n).plain=true:=rfl
@[simp] theorem plain_u{n:Nat}:(C.u n).plain=true:=rfl
@[simp] theorem plain_q{n:Nat}:(C.q n).plain=true:=rfl
@[simp] theorem plain_s{n:ByteArray}:(C.s n).plain=true:=rfl
@[simp] theorem yDT{k:Nat}{r:List (List C)}:(C.sl k r).plain=true:=rfl
@[simp] theorem pk1_c{s:St}{x:C}:pk1 s (.c x)=if x.plain then some (x,[])else none:=rfl
@[simp] theorem yER{s:St}{k:Nat}{r:List (List C)}:pk1 s (.clip k r)=some (.sl k r,[]):=rfl
@[simp] theorem pk1_nil{s:St}{k:Nat}:pk1 s (.nil k)=some (.sl k [],[]):=rfl
def pkO(k id n:Nat):Obj->Option (C×List Nat)
 | .row k' rows=>if k'=k then some (.ow k (rows.take n),[id])else none
 | .tr k' _ rows=>if k'=k then some (.ot k (rows.take n),[id])else none
 |_=>none
@[simp] theorem pk1_own{s:St}{id k n:Nat}:pk1 s (.own id k n)=pkO k id n (s.ob id):=by first|rfl|(simp only[pk1,pkO];done)|(simp only[pk1,pkO];rfl)
@[simp] theorem pkO_row{k id n k':Nat}{rows:List (List C)}:pkO k id n (.row k' rows)=if k'=k then some (.ow k (rows.take n),[id])else none:=rfl
@[simp] theorem pkO_tr{k id n k' ver:Nat}{rows:List (List C)}:pkO k id n (.tr k' ver rows)=if k'=k then some (.ot k (rows.take n),[id])else none:=rfl
@[simp] theorem pkl_nil{s:St}:pkl s []=some ([],[]):=rfl
@[simp] theorem yEN {s:St} {x:AV} {l:List AV}:pkl s (x::l)=(pk1 s x).bind λp=>(pkl s l).map λq=>(p.1::q.1,p.2++q.2):=by
 simp only[pkl];cases pk1 s x<;>cases pkl s l<;>rfl
@[simp] theorem pkl_map {s:St} {l:List C} (h:l.all C.plain=true):pkl s (l.map .c)=some (l,[]):=by
 induction l with
 |nil=>rfl
 |cons x l ih=>
  simp only[zdf,zad]at h;simp[ih h.2,h.1]
@[simp] theorem pks_nil{s:St}:pks s []=some ([],[]):=rfl
@[simp] theorem yEX {s:St} {x:AV} {l:List AV}:pks s (x::l)=(pkl s x.cellsOf).bind λp=>(pks s l).map λq=>(p.1::q.1,p.2++q.2):=by
 simp only[pks];cases pkl s x.cellsOf<;>cases pks s l<;>rfl
def ynQ(K:St->Prop)(s:St)(id ver q:Nat)(i:Int)(j:Nat)(i':Int)(o:Nat)(v:AV):Obj->Prop
 | .tr k0 ver' rows=>ver'=ver/\match cellAt rows i.toNat j with
  |some (.ow k' rs)=>match v.toC with
   |some c=>k'=q/\i'.toNat<rs.length/\o<q/\K (s.jD id (.tr k0 (ver+1) (setAt rows i.toNat j (.ow q (setAt rs i'.toNat o c)))))
   |none=>False
  |_=>False
 |_=>False
@[congr] theorem yBv{s:St}{id ver q:Nat}{i:Int}{j:Nat}{i':Int}{o:Nat}{v:AV}{a a':Obj}{K:St->Prop}(h:a=a'):ynQ K s id ver q i j i' o v a=ynQ K s id ver q i j i' o v a':=by rw[h]
@[simp] theorem yzM{s:St}{id ver q:Nat}{i:Int}{j:Nat}{i':Int}{o:Nat}{v:AV}{K:St->Prop}:ybj s (.oP id ver i j q i' o) v K=ynQ K s id ver q i j i' o v (s.ob id):=by first|rfl|(simp only[ybj,ynQ];done)|(simp only[ybj,ynQ];rfl)
def yjX(K:St->Prop)(s:St)(id ver q k0:Nat)(rows:List (List C))(i:Int)(j:Nat)(i':Int)(o:Nat)(c:C):Option C->Prop
 |some (.ow k' rs)=>k'=q/\i'.toNat<rs.length/\o<q/\K (s.jD id (.tr k0 (ver+1) (setAt rows i.toNat j (.ow q (setAt rs i'.toNat o c)))))
 |_=>False
@[congr] theorem yxA{s:St}{id ver q k0:Nat}{rows:List (List C)}{i:Int}{j:Nat}{i':Int}{o:Nat}{c:C}{K:St->Prop}{a a':Option C}(h:a=a'):yjX K s id ver q k0 rows i j i' o c a=yjX K s id ver q k0 rows i j i' o c a':=by rw[h]
@[simp] theorem srSt_tr{s:St}{id ver q k0 ver':Nat}{i:Int}{j:Nat}{i':Int}{o:Nat}{c:C}{rows:List (List C)}{K:St->Prop}:ynQ K s id ver q i j i' o (.c c) (.tr k0 ver' rows)=(ver'=ver/\yjX K s id ver q k0 rows i j i' o c (cellAt rows i.toNat j)):=by first|rfl|(simp only[ynQ,yjX,AV.toC];done)|(simp only[ynQ,yjX,AV.toC];rfl)
@[simp] theorem yDC{s:St}{id ver q k0 k':Nat}{rows rs:List (List C)}{i:Int}{j:Nat}{i':Int}{o:Nat}{c:C}{K:St->Prop}:yjX K s id ver q k0 rows i j i' o c (some (.ow k' rs))=(k'=q/\i'.toNat<rs.length/\o<q/\K (s.jD id (.tr k0 (ver+1) (setAt rows i.toNat j (.ow q (setAt rs i'.toNat o c)))))):=rfl
def ylu(K:St->Prop)(s:St)(id o n:Nat)(l:List AV):Obj->Prop
 | .box cells=>o+n<=cells.length/\l.all AV.bF=true/\K (s.jD id (.box (cells.take o++l++cells.drop (o+n))))
 |_=>False
@[congr] theorem yvZ{s:St}{id o n:Nat}{l:List AV}{a a':Obj}{K:St->Prop}(h:a=a'):ylu K s id o n l a=ylu K s id o n l a':=by rw[h]
@[simp] theorem yDL{s:St}{id o n:Nat}{l:List AV}{K:St->Prop}:ydq n s (.box id o) (.agg l) K=(l.length=n/\ylu K s id o n l (s.ob id)):=rfl
@[simp] theorem ywr{s:St}{id o n:Nat}{l cells:List AV}{K:St->Prop}:ylu K s id o n l (.box cells)=(o+n<=cells.length/\l.all AV.bF=true/\K (s.jD id (.box (cells.take o++l++cells.drop (o+n))))):=rfl
def yV(K:St->Prop)(s:St)(id m:Nat)(i:Int)(o n:Nat)(l:List AV):Obj->Prop
 | .row k' rows=>match AV.lW l with
  |some cs=>k'=m/\i.toNat<rows.length/\o+n<=m/\K (s.jD id (.row m (rows.set i.toNat ((rows.getD i.toNat []).take o++cs++(rows.getD i.toNat []).drop (o+n)))))
  |none=>False
 | .tr k' ver rows=>match pkl s l with
  |some (cs,ids)=>k'=m/\i.toNat<rows.length/\o+n<=m/\ids.Nodup/\id∉ids/\K ((s.drops ids).jD id (.tr m (ver+1) (rows.set i.toNat ((rows.getD i.toNat []).take o++cs++(rows.getD i.toNat []).drop (o+n)))))
  |none=>False
 |_=>False
@[congr] theorem yv5{s:St}{id m o n:Nat}{i:Int}{l:List AV}{a a':Obj}{K:St->Prop}(h:a=a'):yV K s id m i o n l a=yV K s id m i o n l a':=by rw[h]
@[simp] theorem yCe{s:St}{id m o n:Nat}{i:Int}{l:List AV}{K:St->Prop}:ydq n s (.row id m i o) (.agg l) K=(l.length=n/\yV K s id m i o n l (s.ob id)):=by first|rfl|(simp only[ydq,yV];done)|(simp only[ydq,yV];rfl)
def yft(K:St->Prop)(s:St)(id m:Nat)(i:Int)(o n m':Nat)(rows:List (List C)):Option (List C)->Prop
 |some cs=>m'=m/\i.toNat<rows.length/\o+n<=m/\K (s.jD id (.row m (rows.set i.toNat ((rows.getD i.toNat []).take o++cs++(rows.getD i.toNat []).drop (o+n)))))
 |none=>False
@[congr] theorem yvj{s:St}{id m m' o n:Nat}{i:Int}{rows:List (List C)}{K:St->Prop}{a a':Option (List C)}(h:a=a'):yft K s id m i o n m' rows a=yft K s id m i o n m' rows a':=by rw[h]
@[simp] theorem yyG{s:St}{id m m' o n:Nat}{i:Int}{l:List AV}{rows:List (List C)}{K:St->Prop}:yV K s id m i o n l (.row m' rows)=yft K s id m i o n m' rows (AV.lW l):=by first|rfl|(simp only[yV,yft];done)|(simp only[yV,yft];rfl)
@[simp] theorem yvw {s:St} {id m m' o n:Nat} {i:Int} {cs:List C} {rows:List (List C)} {K:St->Prop}:yft K s id m i o n m' rows (some cs)=
 (m'=m/\i.toNat<rows.length/\o+n<=m/\K (s.jD id (.row m (rows.set i.toNat ((rows.getD i.toNat []).take o++cs++(rows.getD i.toNat []).drop (o+n)))))):=rfl
def ykj(K:St->Prop)(s:St)(id m:Nat)(i:Int)(o n m' ver:Nat)(rows:List (List C)):Option (List C×List Nat)->Prop
 |some (cs,ids)=>m'=m/\i.toNat<rows.length/\o+n<=m/\ids.Nodup/\id∉ids/\K ((s.drops ids).jD id (.tr m (ver+1) (rows.set i.toNat ((rows.getD i.toNat []).take o++cs++(rows.getD i.toNat []).drop (o+n)))))
 |none=>False
@[congr] theorem yxT{s:St}{id m m' ver o n:Nat}{i:Int}{rows:List (List C)}{K:St->Prop}{a a':Option (List C×List Nat)}(h:a=a'):ykj K s id m i o n m' ver rows a=ykj K s id m i o n m' ver rows a':=by rw[h]
@[simp] theorem yBC{s:St}{id m m' ver o n:Nat}{i:Int}{l:List AV}{rows:List (List C)}{K:St->Prop}:yV K s id m i o n l (.tr m' ver rows)=ykj K s id m i o n m' ver rows (pkl s l):=by first|rfl|(simp only[yV,ykj];done)|(simp only[yV,ykj];rfl)
@[simp] theorem ywV {s:St} {id m m' ver o n:Nat} {i:Int} {cs:List C} {ids:List Nat} {rows:List (List C)} {K:St->Prop}:ykj K s id m i o n m' ver rows (some (cs,ids))=
 (m'=m/\i.toNat<rows.length/\o+n<=m/\ids.Nodup/\id∉ids/\K ((s.drops ids).jD id (.tr m (ver+1) (rows.set i.toNat ((rows.getD i.toNat []).take o++cs++(rows.getD i.toNat []).drop (o+n)))))):=rfl
@[simp] theorem yC4:AV.lW []=some []:=rfl
@[simp] theorem toCs_c{x:C}{l:List AV}:AV.lW (.c x::l)=(AV.lW l).map (x::·):=by simp only[AV.lW,AV.toC];cases AV.lW l<;>rfl
@[simp] theorem toCs_n{n:Nat}{l:List AV}:AV.lW (.nil n::l)=(AV.lW l).map (.sl n []::·):=by simp only[AV.lW,AV.toC];cases AV.lW l<;>rfl
@[simp] theorem toCs_cl{n:Nat}{r:List (List C)}{l:List AV}:AV.lW (.clip n r::l)=(AV.lW l).map (.sl n r::·):=by simp only[AV.lW,AV.toC];cases AV.lW l<;>rfl
@[simp] theorem yCn{a b c:Nat}{l:List AV}:AV.lW (.own a b c::l)=none:=by first|rfl|(simp only[AV.lW,AV.toC];done)|(simp only[AV.lW,AV.toC];rfl)
@[simp] theorem yD6 {l:List C}:AV.lW (l.map .c)=some l:=by
 induction l with
 |nil=>rfl
 |cons x l ih=>simp[ih]
@[simp] theorem yrG{l:List C}:(l.map AV.c).all AV.bF=true:=by simp[zae];intro x _;rfl
@[simp] theorem yDY{x:C}:(AV.c x).bF=true:=rfl
@[simp] theorem yxD{n:Nat}:(AV.nil n).bF=true:=rfl
@[simp] theorem yv4{n:Nat}{r:List (List C)}:(AV.clip n r).bF=true:=rfl
@[simp] theorem yx9{a b:Nat}:(AV.box a b).bF=true:=rfl
@[simp] theorem ywN{a b o:Nat}{i:Int}:(AV.row a b i o).bF=true:=rfl
@[simp] theorem yw0{cs:List C}:(AV.elt cs).bF=true:=rfl
@[simp] theorem yxG{a b c:Nat}:(AV.own a b c).bF=true:=rfl
@[simp] theorem yvT{l:List AV}:(AV.agg l).cellsOf=l:=rfl
@[simp] theorem yBT{x:C}:(AV.c x).cellsOf=[.c x]:=rfl
@[simp] theorem cellsOf_nil{n:Nat}:(AV.nil n).cellsOf=[.nil n]:=rfl
@[simp] theorem yul{n:Nat}{r:List (List C)}:(AV.clip n r).cellsOf=[.clip n r]:=rfl
@[simp] theorem yvA{a b:Nat}:(AV.box a b).cellsOf=[.box a b]:=rfl
@[simp] theorem yvC{a b c:Nat}:(AV.own a b c).cellsOf=[.own a b c]:=rfl
@[simp ↓] theorem boxP_eq{n:Nat}{s:St}{d:Option Nat}{x:AV}{K:St->Prop}:yqE n s d x K=(x.cellsOf.length=n/\x.cellsOf.all AV.bF=true/\newP s d (.box x.cellsOf) (λd=>.box d 0) K):=rfl
def mkT(k k0 n:Nat)(s:St)(d:Option Nat)(K:St->Prop)(_:Tag K):Prop:=mkP k [.sl k0 []] n s d K
theorem ylJ{k k0 n:Nat}{s:St}{d:Option Nat}{K:St->Prop}{T:Tag K}(h:newP s d (.row k (List.replicate n [.sl k0 []])) (λd=>.own d k n) K):mkT k k0 n s d K T:=.inl h
@[congr] theorem yDj{k k0 n n':Nat}{s s':St}{d:Option Nat}{K:St->Prop}{T:Tag K}(h:s=s')(h2:n=n'):mkT k k0 n s d K T=mkT k k0 n' s' d K T:=by rw[h,h2]
def mkX(z:List C):Prop:=∀k0,z≠[.sl k0 []]
@[simp] theorem mkX_two{a b:C}{l:List C}:mkX (a::b::l)=True:=eq_true λk0 h=>by simp at h
@[simp] theorem mkX_nil:mkX []=True:=eq_true λk0 h=>by simp at h
@[simp] theorem mkX_i{a:Int}:mkX [.i a]=True:=eq_true λk0 h=>by simp at h
@[simp] theorem mkX_b{a:Bool}:mkX [.b a]=True:=eq_true λk0 h=>by simp at h
@[simp] theorem mkX_u{a:Nat}:mkX [.u a]=True:=eq_true λk0 h=>by simp at h
@[simp] theorem mkX_q{a:Nat}:mkX [.q a]=True:=eq_true λk0 h=>by simp at h
@[simp] theorem mkX_s{a:ByteArray}:mkX [.s a]=True:=eq_true λk0 h=>by simp at h
theorem mkP_x{k n:Nat}{z:List C}{s:St}{d:Option Nat}{K:St->Prop}(h:mkX z):mkP k z n s d K=newP s d (.row k (List.replicate n z)) (λd=>.own d k n) K:=by
 unfold mkP;split
 ·exact absurd rfl (h _)
 ·simp
@[simp] theorem mksP_sl {k b k0:Nat} {s:St} {d:Option Nat} {n m:Int} {K:St->Prop}:yjS k b [.sl k0 []] s d (.c (.i n)) (.c (.i m)) K=
 (0<=n/\n<=m/\(b:Int)*m<=281474976710656/\mkT k k0 n.toNat s d K ⟨⟩):=rfl
@[simp] theorem mksP_eq {k b:Nat} {z:List C} {s:St} {d:Option Nat} {n m:Int} {K:St->Prop} (h:mkX z):yjS k b z s d (.c (.i n)) (.c (.i m)) K=
 (0<=n/\n<=m/\(b:Int)*m<=281474976710656/\newP s d (.row k (List.replicate n.toNat z)) (λd=>.own d k n.toNat) K):=by
 show(0<=n/\n<=m/\(b:Int)*m<=281474976710656/\mkP k z n.toNat s d K)=_
 rw[mkP_x h]
def ym3(k:Nat)(s:St)(d:Option Nat)(K:St->Prop)(xs:List AV):Option (List (List C))->Prop
 |some rows=>(∀r∈rows,r.length=k)/\newP s d (.row k rows) (λd=>.own d k rows.length) K
 |none=>match pks s xs with
  |some (rows,ids)=>(∀r∈rows,r.length=k)/\ids.Nodup/\newP (s.drops ids) d (.tr k 0 rows) (λd=>.own d k rows.length) K
  |none=>False
@[congr] theorem yBW{k:Nat}{s:St}{d:Option Nat}{K:St->Prop}{xs:List AV}{a a':Option (List (List C))}(h:a=a'):ym3 k s d K xs a=ym3 k s d K xs a':=by rw[h]
@[simp] theorem bslP_eq{k:Nat}{xs:List AV}{s:St}{d:Option Nat}{K:St->Prop}:ygH k xs s d K=ym3 k s d K xs (AV.rowsOf xs):=by unfold ygH ym3;cases AV.rowsOf xs<;>rfl
@[simp] theorem yAH{k:Nat}{s:St}{d:Option Nat}{K:St->Prop}{xs:List AV}{rows:List (List C)}:ym3 k s d K xs (some rows)=((∀r∈rows,r.length=k)/\newP s d (.row k rows) (λd=>.own d k rows.length) K):=rfl
def yrd(k:Nat)(s:St)(d:Option Nat)(K:St->Prop):Option (List (List C)×List Nat)->Prop
 |some (rows,ids)=>(∀r∈rows,r.length=k)/\ids.Nodup/\newP (s.drops ids) d (.tr k 0 rows) (λd=>.own d k rows.length) K
 |none=>False
@[congr] theorem yAK{k:Nat}{s:St}{d:Option Nat}{K:St->Prop}{a a':Option (List (List C)×List Nat)}(h:a=a'):yrd k s d K a=yrd k s d K a':=by rw[h]
@[simp] theorem yzc{k:Nat}{s:St}{d:Option Nat}{K:St->Prop}{xs:List AV}:ym3 k s d K xs none=yrd k s d K (pks s xs):=by first|rfl|(simp only[ym3,yrd];done)|(simp only[ym3,yrd];rfl)
@[simp] theorem yAs{k:Nat}{s:St}{d:Option Nat}{K:St->Prop}{rows:List (List C)}{ids:List Nat}:yrd k s d K (some (rows,ids))=((∀r∈rows,r.length=k)/\ids.Nodup/\newP (s.drops ids) d (.tr k 0 rows) (λd=>.own d k rows.length) K):=rfl
@[simp] theorem ywB:AV.rowsOf []=some []:=rfl
@[simp] theorem yv3 {x:AV} {l:List AV}:AV.rowsOf (x::l)=(x.rowOf).bind λr=>(AV.rowsOf l).map (r::·):=by
 simp only[AV.rowsOf];cases x.rowOf<;>cases AV.rowsOf l<;>rfl
@[simp] theorem rowOf_c{x:C}:(AV.c x).rowOf=some [x]:=rfl
@[simp] theorem yzm{n:Nat}:(AV.nil n).rowOf=some [.sl n []]:=rfl
@[simp] theorem yAV{a b c:Nat}:(AV.own a b c).rowOf=none:=rfl
@[simp] theorem yA1{l:List AV}:(AV.agg l).rowOf=AV.lW l:=rfl
@[simp] theorem slcP_1{k k':Nat}{rows:List (List C)}{l h:Int}{K:AV->Prop}:ya6 k (.c (.sl k' rows)) (some (.c (.i l))) (some (.c (.i h))) none K=(k'=k/\0<=l/\l<=h/\h<=rows.length/\K (.c (.sl k ((rows.take h.toNat).drop l.toNat)))):=rfl
@[simp] theorem slcP_2{k k':Nat}{rows:List (List C)}{l:Int}{K:AV->Prop}:ya6 k (.c (.sl k' rows)) (some (.c (.i l))) none none K=(k'=k/\0<=l/\l<=rows.length/\K (.c (.sl k (rows.drop l.toNat)))):=rfl
@[simp] theorem slcP_3{k k':Nat}{rows:List (List C)}{h:Int}{K:AV->Prop}:ya6 k (.c (.sl k' rows)) none (some (.c (.i h))) none K=(k'=k/\0<=h/\h<=rows.length/\K (.c (.sl k (rows.take h.toNat)))):=rfl
@[simp] theorem slcP_4{k k':Nat}{rows:List (List C)}{h m:Int}{K:AV->Prop}:ya6 k (.c (.sl k' rows)) none (some (.c (.i h))) (some (.c (.i m))) K=(k'=k/\0<=h/\h=m/\h<=rows.length/\K (.clip k (rows.take h.toNat))):=rfl
@[simp] theorem slcP_5{k k' id n:Nat}{h:Int}{K:AV->Prop}:ya6 k (.own id k' n) none (some (.c (.i h))) none K=(k'=k/\0<=h/\h<=(n:Int)/\K (.own id k h.toNat)):=rfl
@[simp] theorem slcP_6{k k' id n:Nat}{l:Int}{K:AV->Prop}:ya6 k (.own id k' n) (some (.c (.i l))) none none K=(k'=k/\0<=l/\l<=(n:Int)/\K (.cut id k l.toNat (n-l.toNat))):=rfl
@[simp] theorem slcP_7{k k' id n:Nat}{l h:Int}{K:AV->Prop}:ya6 k (.own id k' n) (some (.c (.i l))) (some (.c (.i h))) none K=(k'=k/\0<=l/\l<=h/\h<=(n:Int)/\K (.cut id k l.toNat (h.toNat-l.toNat))):=rfl
@[simp] theorem slcP_8{k n:Nat}{h:Int}{K:AV->Prop}:ya6 k (.nil n) none (some (.c (.i h))) none K=(h=0/\K (.nil k)):=rfl
@[simp] theorem slcP_9{k n:Nat}{h m:Int}{K:AV->Prop}:ya6 k (.nil n) none (some (.c (.i h))) (some (.c (.i m))) K=(h=0/\m=0/\K (.nil k)):=rfl
@[simp] theorem yB2{s:St}{id k lo n:Nat}{K:AV->Prop}:ybk s (.cut id k lo n) K=(n<=maxLen->K (.c (.i n))):=rfl
def yq7(ver n:Nat)(K:AV->Prop):Obj->Prop
 | .tr _ ver' _=>ver'=ver/\(n<=maxLen->K (.c (.i n)))
 |_=>False
@[congr] theorem yAC{ver n:Nat}{K:AV->Prop}{a a':Obj}(h:a=a'):yq7 ver n K a=yq7 ver n K a':=by rw[h]
@[simp] theorem yCS{s:St}{id ver:Nat}{i:Int}{j k n:Nat}{K:AV->Prop}:ybk s (.sub id ver i j k n) K=yq7 ver n K (s.ob id):=by first|rfl|(simp only[ybk,yq7];done)|(simp only[ybk,yq7];rfl)
@[simp] theorem lenT_tr{ver n k0 ver':Nat}{rows:List (List C)}{K:AV->Prop}:yq7 ver n K (.tr k0 ver' rows)=(ver'=ver/\(n<=maxLen->K (.c (.i n)))):=rfl
@[simp] theorem lenP_sl{k:Nat}{rows:List (List C)}{s:St}{K:AV->Prop}:ybk s (.c (.sl k rows)) K=(rows.length<=maxLen->K (.c (.i rows.length))):=rfl
@[simp] theorem yz9{k:Nat}{rows:List (List C)}{s:St}{K:AV->Prop}:ybk s (.clip k rows) K=(rows.length<=maxLen->K (.c (.i rows.length))):=rfl
@[simp] theorem yCp{id k n:Nat}{s:St}{K:AV->Prop}:ybk s (.own id k n) K=(n<=maxLen->K (.c (.i n))):=rfl
@[simp] theorem yEr{s:St}{n:Nat}{K:AV->Prop}:ybk s (.nil n) K=K (.c (.i 0)):=rfl
@[simp] theorem slenP_s{bs:ByteArray}{K:AV->Prop}:ycd (.c (.s bs)) K=(bs.size<=maxLen->K (.c (.i bs.size))):=rfl
def mmK(f:Int->Int->Int)(K:AV->Prop):Option (List Int)->Prop
 |some (n::r)=>K (.c (.i (r.foldl f n)))
 |_=>False
@[congr] theorem yEs{f:Int->Int->Int}{K:AV->Prop}{a a':Option (List Int)}(h:a=a'):mmK f K a=mmK f K a':=by rw[h]
@[simp] theorem mmP_eq{f:Int->Int->Int}{l:List AV}{K:AV->Prop}:mmP f l K=mmK f K (intsOf l):=rfl
@[simp] theorem yEn{f:Int->Int->Int}{n:Int}{r:List Int}{K:AV->Prop}:mmK f K (some (n::r))=K (.c (.i (r.foldl f n))):=rfl
@[simp] theorem yxm:intsOf []=some []:=rfl
@[simp] theorem yvE{n:Int}{l:List AV}:intsOf (.c (.i n)::l)=(intsOf l).map (n::·):=rfl
@[simp] theorem yCC{i:Nat}{l:List AV}{K:AV->Prop}:ygj i (.tup l) K=ynf K l[i]?:=by unfold ygj ynf;simp only;cases l[i]?<;>rfl
@[simp] theorem ixsP_eq{bs:ByteArray}{n:Int}{K:AV->Prop}:yie (.c (.s bs)) (.c (.i n)) K=(0<=n/\n<bs.size/\K (.c (.u (bs[n.toNat]?.getD 0).toNat))):=rfl
def yfh (k by_:Nat) (s:St) (d:Option Nat) (x:AV) (K:St->Prop) (new:List (List C)):Prop:=
 match x with
  | .nil _=>new.length*by_<=140737488355328/\newP s d (.row k new) (λd=>.own d k new.length) K
  | .clip k' rows=>k'=k/\(0<new.length\/rows.length=0)/\(rows.length+new.length)*by_<=140737488355328/\newP s d (.row k (rows++new)) (λd=>.own d k (rows.length+new.length)) K
  | .own id k' n=>match s.ob id with
   | .row _ rows=>k'=k/\n=rows.length/\(rows.length+new.length)*by_<=140737488355328/\
    K ((s.renew id (.row k (rows++new))).put d (.own id k (rows.length+new.length)))
   | .tr _ _ rows=>k'=k/\n=rows.length/\(rows.length+new.length)*by_<=140737488355328/\
    K ((s.renew id (.tr k 0 (rows++new))).put d (.own id k (rows.length+new.length)))
   |_=>False
  | .sub id ver i j k' n=>match s.ob id with
   | .tr k0 ver' rows=>ver'=ver/\match cellAt rows i.toNat j with
    |some (.ow k2 rs)=>k'=k/\k2=k/\(rs.length+new.length)*by_<=140737488355328/\match d with
     |some d=>(s.ob d).isNone=true/\K (((s.jD id (.tr k0 (ver+1) (setAt rows i.toNat j .jk))).renew d (.row k (rs++new))).put (some d) (.own d k (rs.length+new.length)))
     |none=>False
    |some (.ot k2 rs)=>k'=k/\k2=k/\(rs.length+new.length)*by_<=140737488355328/\match d with
     |some d=>(s.ob d).isNone=true/\K (((s.jD id (.tr k0 (ver+1) (setAt rows i.toNat j .jk))).renew d (.tr k 0 (rs++new))).put (some d) (.own d k (rs.length+new.length)))
     |none=>False
    |_=>False
   |_=>False
  |_=>False
def appG (k by_:Nat) (s:St) (d:Option Nat) (x:AV) (K:St->Prop) (y:AV):Option (List (List C))->Prop
 |some new=>yfh k by_ s d x K new
 | none=>match tZ s k y with
  | some (idy,new)=>match x with
   | .nil _=>new.length*by_<=140737488355328/\newP (s.drop idy) d (.tr k 0 new) (λd=>.own d k new.length) K
   | .own id k' n=>id≠idy/\match s.ob id with
    | .row _ rows=>k'=k/\n=rows.length/\(rows.length+new.length)*by_<=140737488355328/\
     K (((s.drop idy).renew id (.tr k 0 (rows++new))).put d (.own id k (rows.length+new.length)))
    | .tr _ _ rows=>k'=k/\n=rows.length/\(rows.length+new.length)*by_<=140737488355328/\
     K (((s.drop idy).renew id (.tr k 0 (rows++new))).put d (.own id k (rows.length+new.length)))
    |_=>False
   |_=>False
  |none=>False
@[congr] theorem yAA{k b:Nat}{s:St}{d:Option Nat}{x y:AV}{K:St->Prop}{a a':Option (List (List C))}(h:a=a'):appG k b s d x K y a=appG k b s d x K y a':=by rw[h]
@[simp] theorem yD5 {k b:Nat} {s:St} {d:Option Nat} {x y:AV} {K:St->Prop}:yb2 k b s d x y K=appG k b s d x K y (jF s k y):=by
 unfold yb2 appG yfh;cases jF s k y with
 |none=>rfl
 |some new=>cases x<;>rfl
@[congr] theorem yBe{k b:Nat}{s:St}{d:Option Nat}{x x':AV}{K:St->Prop}{new:List (List C)}(h:x=x'):yfh k b s d x K new=yfh k b s d x' K new:=by rw[h]
@[simp] theorem yzI{k b:Nat}{s:St}{d:Option Nat}{x y:AV}{K:St->Prop}{new:List (List C)}:appG k b s d x K y (some new)=yfh k b s d x K new:=rfl
@[simp] theorem yCT{k b q:Nat}{s:St}{d:Option Nat}{K:St->Prop}{new:List (List C)}:yfh k b s d (.nil q) K new=(new.length*b<=140737488355328/\newP s d (.row k new) (λd=>.own d k new.length) K):=rfl
@[simp] theorem yzW {k k' b:Nat} {s:St} {d:Option Nat} {K:St->Prop} {rows new:List (List C)}:yfh k b s d (.clip k' rows) K new=
 (k'=k/\(0<new.length\/rows.length=0)/\(rows.length+new.length)*b<=140737488355328/\newP s d (.row k (rows++new)) (λd=>.own d k (rows.length+new.length)) K):=rfl
def yot(k b:Nat)(s:St)(d:Option Nat)(id k' n:Nat)(new:List (List C))(K:St->Prop):Obj->Prop
 | .row _ rows=>k'=k/\n=rows.length/\(rows.length+new.length)*b<=140737488355328/\K ((s.renew id (.row k (rows++new))).put d (.own id k (rows.length+new.length)))
 | .tr _ _ rows=>k'=k/\n=rows.length/\(rows.length+new.length)*b<=140737488355328/\K ((s.renew id (.tr k 0 (rows++new))).put d (.own id k (rows.length+new.length)))
 |_=>False
@[congr] theorem yAP{k b:Nat}{s:St}{d:Option Nat}{id k' n:Nat}{new:List (List C)}{K:St->Prop}{a a':Obj}(h:a=a'):yot k b s d id k' n new K a=yot k b s d id k' n new K a':=by rw[h]
@[simp] theorem yEU{k k' b id n:Nat}{s:St}{d:Option Nat}{K:St->Prop}{new:List (List C)}:yfh k b s d (.own id k' n) K new=yot k b s d id k' n new K (s.ob id):=by first|rfl|(simp only[yfh,yot];done)|(simp only[yfh,yot];rfl)
@[simp] theorem yFi {k k' b id n q:Nat} {s:St} {d:Option Nat} {K:St->Prop} {rows new:List (List C)}:yot k b s d id k' n new K (.row q rows)=
 (k'=k/\n=rows.length/\(rows.length+new.length)*b<=140737488355328/\K ((s.renew id (.row k (rows++new))).put d (.own id k (rows.length+new.length)))):=rfl
@[simp] theorem appO_tr {k k' b id n q ver:Nat} {s:St} {d:Option Nat} {K:St->Prop} {rows new:List (List C)}:yot k b s d id k' n new K (.tr q ver rows)=
 (k'=k/\n=rows.length/\(rows.length+new.length)*b<=140737488355328/\K ((s.renew id (.tr k 0 (rows++new))).put d (.own id k (rows.length+new.length)))):=rfl
def ynH(k b:Nat)(s:St)(d id ver:Nat)(i:Int)(j k':Nat)(new:List (List C))(K:St->Prop):Obj->Prop
 | .tr k0 ver' rows=>ver'=ver/\match cellAt rows i.toNat j with
  |some (.ow k2 rs)=>k'=k/\k2=k/\(rs.length+new.length)*b<=140737488355328/\(s.ob d).isNone=true/\K (((s.jD id (.tr k0 (ver+1) (setAt rows i.toNat j .jk))).renew d (.row k (rs++new))).put (some d) (.own d k (rs.length+new.length)))
  |some (.ot k2 rs)=>k'=k/\k2=k/\(rs.length+new.length)*b<=140737488355328/\(s.ob d).isNone=true/\K (((s.jD id (.tr k0 (ver+1) (setAt rows i.toNat j .jk))).renew d (.tr k 0 (rs++new))).put (some d) (.own d k (rs.length+new.length)))
  |_=>False
 |_=>False
@[congr] theorem yBx{k b:Nat}{s:St}{d id ver:Nat}{i:Int}{j k':Nat}{new:List (List C)}{K:St->Prop}{a a':Obj}(h:a=a'):ynH k b s d id ver i j k' new K a=ynH k b s d id ver i j k' new K a':=by rw[h]
@[simp] theorem yCf{k k' b id ver n:Nat}{i:Int}{j:Nat}{s:St}{d:Nat}{K:St->Prop}{new:List (List C)}:yfh k b s (some d) (.sub id ver i j k' n) K new=ynH k b s d id ver i j k' new K (s.ob id):=by first|rfl|(simp only[yfh,ynH];done)|(simp only[yfh,ynH];rfl)
def yhN(k b:Nat)(s:St)(d id ver k0:Nat)(rows:List (List C))(i:Int)(j k':Nat)(new:List (List C))(K:St->Prop):Option C->Prop
 |some (.ow k2 rs)=>k'=k/\k2=k/\(rs.length+new.length)*b<=140737488355328/\(s.ob d).isNone=true/\K (((s.jD id (.tr k0 (ver+1) (setAt rows i.toNat j .jk))).renew d (.row k (rs++new))).put (some d) (.own d k (rs.length+new.length)))
 |some (.ot k2 rs)=>k'=k/\k2=k/\(rs.length+new.length)*b<=140737488355328/\(s.ob d).isNone=true/\K (((s.jD id (.tr k0 (ver+1) (setAt rows i.toNat j .jk))).renew d (.tr k 0 (rs++new))).put (some d) (.own d k (rs.length+new.length)))
 |_=>False
@[congr] theorem yx7{k b:Nat}{s:St}{d id ver k0:Nat}{rows:List (List C)}{i:Int}{j k':Nat}{new:List (List C)}{K:St->Prop}{a a':Option C}(h:a=a'):yhN k b s d id ver k0 rows i j k' new K a=yhN k b s d id ver k0 rows i j k' new K a':=by rw[h]
@[simp] theorem appS_tr{k k' b id ver k0 ver':Nat}{i:Int}{j:Nat}{s:St}{d:Nat}{K:St->Prop}{rows new:List (List C)}:ynH k b s d id ver i j k' new K (.tr k0 ver' rows)=(ver'=ver/\yhN k b s d id ver k0 rows i j k' new K (cellAt rows i.toNat j)):=by first|rfl|(simp only[ynH,yhN];done)|(simp only[ynH,yhN];rfl)
@[simp] theorem yDI{k k' k2 b id ver k0:Nat}{i:Int}{j:Nat}{s:St}{d:Nat}{K:St->Prop}{rows rs new:List (List C)}:yhN k b s d id ver k0 rows i j k' new K (some (.ow k2 rs))=(k'=k/\k2=k/\(rs.length+new.length)*b<=140737488355328/\(s.ob d).isNone=true/\K (((s.jD id (.tr k0 (ver+1) (setAt rows i.toNat j .jk))).renew d (.row k (rs++new))).put (some d) (.own d k (rs.length+new.length)))):=rfl
@[simp] theorem yEq{k k' k2 b id ver k0:Nat}{i:Int}{j:Nat}{s:St}{d:Nat}{K:St->Prop}{rows rs new:List (List C)}:yhN k b s d id ver k0 rows i j k' new K (some (.ot k2 rs))=(k'=k/\k2=k/\(rs.length+new.length)*b<=140737488355328/\(s.ob d).isNone=true/\K (((s.jD id (.tr k0 (ver+1) (setAt rows i.toNat j .jk))).renew d (.tr k 0 (rs++new))).put (some d) (.own d k (rs.length+new.length)))):=rfl
def yk9 (k b:Nat) (s:St) (d:Option Nat) (x:AV) (K:St->Prop):Option (Nat×List (List C))->Prop
 | some (idy,new)=>match x with
  | .nil _=>new.length*b<=140737488355328/\newP (s.drop idy) d (.tr k 0 new) (λd=>.own d k new.length) K
  | .own id k' n=>id≠idy/\match s.ob id with
   | .row _ rows=>k'=k/\n=rows.length/\(rows.length+new.length)*b<=140737488355328/\
    K (((s.drop idy).renew id (.tr k 0 (rows++new))).put d (.own id k (rows.length+new.length)))
   | .tr _ _ rows=>k'=k/\n=rows.length/\(rows.length+new.length)*b<=140737488355328/\
    K (((s.drop idy).renew id (.tr k 0 (rows++new))).put d (.own id k (rows.length+new.length)))
   |_=>False
  |_=>False
 |none=>False
@[congr] theorem yAS{k b:Nat}{s:St}{d:Option Nat}{x x':AV}{K:St->Prop}{a a':Option (Nat×List (List C))}(h:a=a')(h2:x=x'):yk9 k b s d x K a=yk9 k b s d x' K a':=by rw[h,h2]
@[simp] theorem yAD{k b:Nat}{s:St}{d:Option Nat}{x y:AV}{K:St->Prop}:appG k b s d x K y none=yk9 k b s d x K (tZ s k y):=by first|rfl|(simp only[appG,yk9];done)|(simp only[appG,yk9];rfl)
@[simp] theorem yCq{k b q idy:Nat}{s:St}{d:Option Nat}{K:St->Prop}{new:List (List C)}:yk9 k b s d (.nil q) K (some (idy,new))=(new.length*b<=140737488355328/\newP (s.drop idy) d (.tr k 0 new) (λd=>.own d k new.length) K):=rfl
def yiO(k b:Nat)(s:St)(d:Option Nat)(id k' n idy:Nat)(new:List (List C))(K:St->Prop):Obj->Prop
 | .row _ rows=>k'=k/\n=rows.length/\(rows.length+new.length)*b<=140737488355328/\
  K (((s.drop idy).renew id (.tr k 0 (rows++new))).put d (.own id k (rows.length+new.length)))
 | .tr _ _ rows=>k'=k/\n=rows.length/\(rows.length+new.length)*b<=140737488355328/\
  K (((s.drop idy).renew id (.tr k 0 (rows++new))).put d (.own id k (rows.length+new.length)))
 |_=>False
@[congr] theorem yyC{k b:Nat}{s:St}{d:Option Nat}{id k' n idy:Nat}{new:List (List C)}{K:St->Prop}{a a':Obj}(h:a=a'):yiO k b s d id k' n idy new K a=yiO k b s d id k' n idy new K a':=by rw[h]
@[simp] theorem yEw{k k' b id n idy:Nat}{s:St}{d:Option Nat}{K:St->Prop}{new:List (List C)}:yk9 k b s d (.own id k' n) K (some (idy,new))=(id≠idy/\yiO k b s d id k' n idy new K (s.ob id)):=by first|rfl|(simp only[yk9,yiO];done)|(simp only[yk9,yiO];rfl)
@[simp] theorem yA2 {k k' b id n idy q:Nat} {s:St} {d:Option Nat} {K:St->Prop} {rows new:List (List C)}:yiO k b s d id k' n idy new K (.row q rows)=(k'=k/\n=rows.length/\(rows.length+new.length)*b<=140737488355328/\
 K (((s.drop idy).renew id (.tr k 0 (rows++new))).put d (.own id k (rows.length+new.length)))):=rfl
@[simp] theorem yCU {k k' b id n idy q ver:Nat} {s:St} {d:Option Nat} {K:St->Prop} {rows new:List (List C)}:yiO k b s d id k' n idy new K (.tr q ver rows)=(k'=k/\n=rows.length/\(rows.length+new.length)*b<=140737488355328/\
 K (((s.drop idy).renew id (.tr k 0 (rows++new))).put d (.own id k (rows.length+new.length)))):=rfl
def yl1(k k' id n:Nat):Obj->Option (Nat×List (List C))
 | .tr _ _ rows=>if k'=k then some (id,rows.take n)else none
 |_=>none
@[simp] theorem yBF{s:St}{k k' id n:Nat}:tZ s k (.own id k' n)=yl1 k k' id n (s.ob id):=by first|rfl|(simp only[tZ,yl1];done)|(simp only[tZ,yl1];rfl)
@[simp] theorem yz1{k k' id n q ver:Nat}{rows:List (List C)}:yl1 k k' id n (.tr q ver rows)=if k'=k then some (id,rows.take n)else none:=rfl
@[simp] theorem yy0{s:St}{k k':Nat}{rows:List (List C)}:jF s k (.c (.sl k' rows))=if k'=k then some rows else none:=rfl
@[simp] theorem yug{s:St}{k k':Nat}{rows:List (List C)}:jF s k (.clip k' rows)=if k'=k then some rows else none:=rfl
@[simp] theorem yvv{s:St}{k n:Nat}:jF s k (.nil n)=some []:=rfl
def yt8(k k' n:Nat):Obj->Option (List (List C))
 | .row _ rows=>if k'=k then some (rows.take n)else none
 |_=>none
@[simp] theorem yvn{s:St}{k k' id n:Nat}:jF s k (.own id k' n)=yt8 k k' n (s.ob id):=by simp only[jF,yt8];cases s.ob id<;>rfl
@[simp] theorem yCt{k k' n q:Nat}{rows:List (List C)}:yt8 k k' n (.row q rows)=if k'=k then some (rows.take n)else none:=rfl
@[simp] theorem srcO_tr{k k' n q ver:Nat}{rows:List (List C)}:yt8 k k' n (.tr q ver rows)=none:=rfl
def ykS(k k' lo n:Nat):Obj->Option (List (List C))
 | .row _ rows=>if k'=k then some ((rows.drop lo).take n)else none
 |_=>none
@[simp] theorem ywd{s:St}{k k' id lo n:Nat}:jF s k (.cut id k' lo n)=ykS k k' lo n (s.ob id):=by first|rfl|(simp only[jF,ykS];done)|(simp only[jF,ykS];rfl)
@[simp] theorem yxE{k k' lo n q:Nat}{rows:List (List C)}:ykS k k' lo n (.row q rows)=if k'=k then some ((rows.drop lo).take n)else none:=rfl
def cpK(k:Nat)(s:St)(d:Option Nat)(x:AV)(K:St->Prop):Option (List (List C))->Prop
 | some new=>match x with
  | .own id k' n=>match s.ob id with
   | .row _ rows=>k'=k/\n<=rows.length/\K ((s.jD id (.row k (new.take n++rows.drop (min new.length n)))).put d (.c (.i (min new.length n:Nat))))
   |_=>False
  |_=>False
 |none=>False
@[congr] theorem yDO{k:Nat}{s:St}{d:Option Nat}{x:AV}{K:St->Prop}{a a':Option (List (List C))}(h:a=a'):cpK k s d x K a=cpK k s d x K a':=by rw[h]
@[simp] theorem cpP_eq{k:Nat}{s:St}{d:Option Nat}{x y:AV}{K:St->Prop}:cpP k s d x y K=cpK k s d x K (jF s k y):=by first|rfl|(simp only[cpP,cpK];done)|(simp only[cpP,cpK];rfl)
def cpO(k:Nat)(s:St)(d:Option Nat)(id k' n:Nat)(new:List (List C))(K:St->Prop):Obj->Prop
 | .row _ rows=>k'=k/\n<=rows.length/\K ((s.jD id (.row k (new.take n++rows.drop (min new.length n)))).put d (.c (.i (min new.length n:Nat))))
 |_=>False
@[congr] theorem yDt{k:Nat}{s:St}{d:Option Nat}{id k' n:Nat}{new:List (List C)}{K:St->Prop}{a a':Obj}(h:a=a'):cpO k s d id k' n new K a=cpO k s d id k' n new K a':=by rw[h]
@[simp] theorem cpK_own{k id k' n:Nat}{s:St}{d:Option Nat}{K:St->Prop}{new:List (List C)}:cpK k s d (.own id k' n) K (some new)=cpO k s d id k' n new K (s.ob id):=by first|rfl|(simp only[cpK,cpO];done)|(simp only[cpK,cpO];rfl)
@[simp] theorem cpO_row{k id k' n q:Nat}{s:St}{d:Option Nat}{K:St->Prop}{rows new:List (List C)}:cpO k s d id k' n new K (.row q rows)=(k'=k/\n<=rows.length/\K ((s.jD id (.row k (new.take n++rows.drop (min new.length n)))).put d (.c (.i (min new.length n:Nat))))):=rfl
@[simp] theorem yCV{n:Nat}{K:AV->Prop}:yjQ (.nil n) K=K (.c (.i 0)):=rfl
@[simp] theorem yzk{k:Nat}{rows:List (List C)}{K:AV->Prop}:yjQ (.clip k rows) K=(rows.length<=maxLen->K (.c (.i rows.length))):=rfl
@[simp] theorem capP_sl{k:Nat}{rows:List (List C)}{K:AV->Prop}:yjQ (.c (.sl k rows)) K=∀n:Nat,rows.length<=n->n<=maxLen->K (.c (.i n)):=rfl
@[simp] theorem yEh{id k m:Nat}{K:AV->Prop}:yjQ (.own id k m) K=∀n:Nat,m<=n->n<=maxLen->K (.c (.i n)):=rfl
@[simp] theorem yEa{id o:Nat}{K:AV->Prop}:ye5 (.box id o) K=K (.box id o):=rfl
@[simp] theorem yDB{id k o:Nat}{i:Int}{K:AV->Prop}:ye5 (.row id k i o) K=K (.row id k i o):=rfl
@[simp] theorem yEH{cs:List C}{K:AV->Prop}:ye5 (.elt cs) K=K (.elt cs):=rfl
@[simp] theorem yFa {o:Bool} {q:Nat} {a b:List AV} {k:AV->Prop}:yg6 o q (.agg a) (.agg b) k=(match intsOf a,intsOf b with
 |some m,some n=>m.length=q/\n.length=q/\k (.c (.b (if o then !decide (m=n)else decide (m=n))))
 |_,_=>False):=rfl
@[simp] theorem seqP_f{a b:ByteArray}{k:AV->Prop}:ygy false (.c (.s a)) (.c (.s b)) k=k (.c (.b (decide (a=b)))):=rfl
@[simp] theorem seqP_t{a b:ByteArray}{k:AV->Prop}:ygy true (.c (.s a)) (.c (.s b)) k=k (.c (.b !decide (a=b))):=rfl
@[simp] theorem scatP_s{a b:ByteArray}{k:AV->Prop}:yca (.c (.s a)) (.c (.s b)) k=(a.size+b.size<=maxLen/\k (.c (.s (a++b)))):=rfl
@[simp] theorem slsP_1{a:ByteArray}{l h:Int}{K:AV->Prop}:ye0 (.c (.s a)) (some (.c (.i l))) (some (.c (.i h))) K=(0<=l/\l<=h/\h<=a.size/\K (.c (.s (a.extract l.toNat h.toNat)))):=rfl
@[simp] theorem slsP_2{a:ByteArray}{l:Int}{K:AV->Prop}:ye0 (.c (.s a)) (some (.c (.i l))) none K=(0<=l/\l<=a.size/\K (.c (.s (a.extract l.toNat a.size)))):=rfl
@[simp] theorem slsP_3{a:ByteArray}{h:Int}{K:AV->Prop}:ye0 (.c (.s a)) none (some (.c (.i h))) K=(0<=h/\h<=a.size/\K (.c (.s (a.extract 0 h.toNat)))):=rfl
@[simp] theorem yDW{a b:Int}{k:AV->Prop}:yb0 .and (.c (.i a)) (.c (.i b)) k=k (.c (.i (yjC a b))):=rfl
@[simp] theorem yDV{a b:Int}{k:AV->Prop}:yb0 .xor (.c (.i a)) (.c (.i b)) k=k (.c (.i (yt1 a b))):=rfl
@[simp] theorem yFh{a b:Int}{k:AV->Prop}:yb0 .shl (.c (.i a)) (.c (.i b)) k=(0<=b/\k (.c (.i (yqw a b)))):=rfl
@[simp] theorem yzX{a:Nat}{b:Int}{k:AV->Prop}:yb0 .shr (.c (.q a)) (.c (.i b)) k=(0<=b/\k (.c (.q (a/2^(min b.toNat 64))))):=rfl
@[simp] theorem yCg{a b:Int}{k:AV->Prop}:yb0 .shr (.c (.i a)) (.c (.i b)) k=(0<=b/\k (.c (.i (yjn a b)))):=rfl
@[simp] theorem yBh{a b:Int}{k:AV->Prop}:ybP .add (.c (.i a)) (.c (.i b)) k=k (.c (.i (IntKind.i64.wrap (a+b)))):=rfl
@[simp] theorem yzj{a b:Int}{k:AV->Prop}:ybP .mul (.c (.i a)) (.c (.i b)) k=k (.c (.i (IntKind.i64.wrap (a*b)))):=rfl
@[simp] theorem yBd{a b:Nat}{k:AV->Prop}:xW .add (.c (.u a)) (.c (.u b)) k=k (.c (.u ((a+b)%256))):=rfl
@[simp] theorem yBa{a b:Nat}{k:AV->Prop}:xW .sub (.c (.u a)) (.c (.u b)) k=k (.c (.u ((a+256-b)%256))):=rfl
@[simp] theorem yBB{a b:Nat}{k:AV->Prop}:xW .eql (.c (.u a)) (.c (.u b)) k=k (.c (.b (decide (a=b)))):=rfl
@[simp] theorem yAo{a b:Nat}{k:AV->Prop}:xW .neq (.c (.u a)) (.c (.u b)) k=k (.c (.b (!decide (a=b)))):=rfl
@[simp] theorem yBI{a b:Nat}{k:AV->Prop}:xW .lss (.c (.u a)) (.c (.u b)) k=k (.c (.b (decide (a<b)))):=rfl
@[simp] theorem yBO{a b:Nat}{k:AV->Prop}:xW .leq (.c (.u a)) (.c (.u b)) k=k (.c (.b (decide (a<=b)))):=rfl
@[simp] theorem yAl{a b:Nat}{k:AV->Prop}:xW .gtr (.c (.u a)) (.c (.u b)) k=k (.c (.b (decide (b<a)))):=rfl
@[simp] theorem yzV{a b:Nat}{k:AV->Prop}:xW .geq (.c (.u a)) (.c (.u b)) k=k (.c (.b (decide (b<=a)))):=rfl
@[simp] theorem cvtP_0u{s:St}{a:Nat}{k:AV->Prop}:bW 0 s (.c (.u a)) k=k (.c (.i a)):=rfl
@[simp] theorem cvtP_0q{s:St}{a:Nat}{k:AV->Prop}:bW 0 s (.c (.q a)) k=(a<=9223372036854775807/\k (.c (.i a))):=rfl
@[simp] theorem cvtP_3i{s:St}{a:Int}{k:AV->Prop}:bW 3 s (.c (.i a)) k=(0<=a/\k (.c (.q a.toNat))):=rfl
@[simp] theorem cvtP_0i{s:St}{a:Int}{k:AV->Prop}:bW 0 s (.c (.i a)) k=k (.c (.i a)):=rfl
@[simp] theorem cvtP_1u{s:St}{a:Nat}{k:AV->Prop}:bW 1 s (.c (.u a)) k=k (.c (.u a)):=rfl
@[simp] theorem cvtP_1i{s:St}{a:Int}{k:AV->Prop}:bW 1 s (.c (.i a)) k=k (.c (.u (a%256).toNat)):=rfl
def yqV(k:AV->Prop):Option (List (List C))->Prop
 |some rows=>∃l:List UInt8,rows=l.map ybW/\k (.c (.s ⟨l.toArray⟩))
 |none=>False
@[congr] theorem yAc{k:AV->Prop}{a a':Option (List (List C))}(h:a=a'):yqV k a=yqV k a':=by rw[h]
@[simp] theorem cvtP_2{s:St}{x:AV}{k:AV->Prop}:bW 2 s x k=yqV k (jF s 1 x):=by first|rfl|(simp only[bW,yqV];done)|(simp only[bW,yqV];rfl)
@[simp] theorem yBw{k:AV->Prop}{rows:List (List C)}:yqV k (some rows)=∃l:List UInt8,rows=l.map ybW/\k (.c (.s ⟨l.toArray⟩)):=rfl
@[simp ↓] theorem yAO{P:Program}{f:Nat}{l xs:List AV}{d:Option Nat}{s:St}{K:St→Prop}:yb1 P (.fn f l) xs d s K=((∃fn,P.funcs[f]?=some fn∧fn.body.isSome=true∧(fn.name != "runtime.NumGoroutine")=true)∧yvD P f (xs++l) d s K ⟨⟩):=rfl
@[simp] theorem kill_c{id:Nat}{x:C}:(AV.c x).kill id=.c x:=rfl
@[simp] theorem yE3{id:Nat}:AV.any.kill id=.any:=rfl
@[simp] theorem yEK{id:Nat}:AV.und.kill id=.und:=rfl
@[simp] theorem yCR{id n:Nat}:(AV.nil n).kill id=.nil n:=rfl
@[simp] theorem yEl {id i k lo n:Nat}:(AV.cut i k lo n).kill id=if i=id then .any else .cut i k lo n:=by
 simp only[AV.kill,AV.jI,AV.pO];by_cases h:i=id<;>simp[h]
@[simp] theorem yD4 {id i ver:Nat} {n:Int} {j k m:Nat}:(AV.sub i ver n j k m).kill id=if i=id then .any else .sub i ver n j k m:=by
 simp only[AV.kill,AV.jI,AV.pO];by_cases h:i=id<;>simp[h]
@[simp] theorem yAz {id i ver:Nat} {n:Int} {j k:Nat} {m:Int} {o:Nat}:(AV.oP i ver n j k m o).kill id=if i=id then .any else .oP i ver n j k m o:=by
 simp only[AV.kill,AV.jI,AV.pO];by_cases h:i=id<;>simp[h]
@[simp] theorem yAU{id n:Nat}:(AV.nil n).jI id=.nil n:=rfl
@[simp] theorem yzg{id:Nat}:AV.any.jI id=.any:=rfl
@[simp] theorem yxi{id k:Nat}{r:List (List C)}:(AV.clip k r).jI id=.clip k r:=rfl
@[simp] theorem yA5{id:Nat}{r:List C}:(AV.elt r).jI id=.elt r:=rfl
@[simp] theorem yBl {id i k n:Nat}:(AV.own i k n).jI id=if i=id then .any else .own i k n:=by
 simp only[AV.jI,AV.pO];by_cases h:i=id<;>simp[h]
@[simp] theorem yBs {id i o:Nat}:(AV.box i o).jI id=if i=id then .any else .box i o:=by
 simp only[AV.jI,AV.pO];by_cases h:i=id<;>simp[h]
@[simp] theorem yBX {id i k o:Nat} {n:Int}:(AV.row i k n o).jI id=if i=id then .any else .row i k n o:=by
 simp only[AV.jI,AV.pO];by_cases h:i=id<;>simp[h]
@[simp] theorem yDJ{id k v:Nat}{l:List (List C)}:(Obj.tr k v l).kill id=.tr k v l:=rfl
@[simp] theorem yzL{id k:Nat}{r:List (List C)}:(AV.clip k r).kill id=.clip k r:=rfl
@[simp] theorem yDS{id:Nat}{r:List C}:(AV.elt r).kill id=.elt r:=rfl
@[simp] theorem yEv {id i o:Nat}:(AV.box i o).kill id=if i=id then .any else .box i o:=by
 simp only[AV.kill,AV.jI,AV.pO];by_cases h:i=id<;>simp[h]
@[simp] theorem yEP {id i k n:Nat}:(AV.own i k n).kill id=if i=id then .any else .own i k n:=by
 simp only[AV.kill,AV.jI,AV.pO];by_cases h:i=id<;>simp[h]
@[simp] theorem yEt {id i k o:Nat} {n:Int}:(AV.row i k n o).kill id=if i=id then .any else .row i k n o:=by
 simp only[AV.kill,AV.jI,AV.pO];by_cases h:i=id<;>simp[h]
@[simp] theorem yFf {id i:Nat}:(AV.mpr i).kill id=if i=id then .any else .mpr i:=by
 simp only[AV.kill,AV.jI,AV.pO];by_cases h:i=id<;>simp[h]
@[simp] theorem kill_gl{id b:Nat}{o:Go.Obj}:(AV.gl b o).kill id=.gl b o:=rfl
@[simp] theorem yEd{id:Nat}{l:List (Int×Int)}:(Obj.mp l).kill id=.mp l:=rfl
@[simp] theorem kill1_c{id:Nat}{x:C}:(AV.c x).jI id=.c x:=rfl
@[simp] theorem yAh{id:Nat}{l:List C}:(AV.agg (l.map .c)).kill id=.agg (l.map .c):=by simp[AV.kill]
@[simp] theorem yCL{id:Nat}{l:List AV}:(AV.agg l).kill id=.agg (l.map (AV.jI id)):=rfl
@[simp] theorem yBm{id:Nat}{l:List AV}:(Obj.box l).kill id=.box (l.map (AV.jI id)):=rfl
@[simp] theorem yAb{id k:Nat}{l:List (List C)}:(Obj.row k l).kill id=.row k l:=rfl
@[simp] theorem yyz{id:Nat}:Obj.none.kill id=.none:=rfl
@[simp ↓] theorem yBz{s:St}{l:List AV}{K:List AV->Prop}:eY s [] l K=K l:=rfl
@[simp ↓] theorem yxI {s:St} {o n:Nat} {x:X} {ps:List (Nat×Nat×X)} {l:List AV} {K:List AV->Prop}:eY s ((o,n,x)::ps) l K=
 ((s.ev x).cellsOf.length=n/\(s.ev x).cellsOf.all AV.bF=true/\o+n<=l.length/\eY s ps (l.take o++(s.ev x).cellsOf++l.drop (o+n)) K):=rfl
@[simp] theorem out1_c{s:St}{z:C}{y:AV}:out1 s (.c z) y=(y=.c z):=rfl
@[simp] theorem yAM{s:St}{k:Nat}{r:List (List C)}{y:AV}:out1 s (.clip k r) y=(y=.c (.sl k r)\/y=.clip k r):=rfl
@[simp] theorem yC5{s:St}{n:Nat}{y:AV}:out1 s (.nil n) y=((∃k,y=.c (.sl k []))\/∃k,y=.nil k):=rfl
@[simp] theorem yDe{s:St}{cs:List C}{y:AV}:out1 s (.elt cs) y=(y=.elt cs):=rfl
def yqJ(k:Nat)(y:AV):Option (List (List C))->Prop
 |some r=>y=.c (.sl k r)
 |none=>False
@[simp] theorem yAX{k:Nat}{y:AV}{r:List (List C)}:yqJ k y (some r)=(y=.c (.sl k r)):=rfl
def ytc(k n:Nat)(y:AV):Obj->Prop
 | .row _ rows=>y=.c (.sl k (rows.take n))
 | .tr _ _ rows=>yqJ k y (pW (rows.take n))
 |_=>False
@[simp] theorem ysn{s:St}{id k n:Nat}{y:AV}:out1 s (.own id k n) y=ytc k n y (s.ob id):=by simp only[out1,ytc];cases s.ob id<;>rfl
@[simp] theorem yB6{k n q:Nat}{rows:List (List C)}{y:AV}:ytc k n y (.row q rows)=(y=.c (.sl k (rows.take n))):=rfl
@[simp] theorem outO_tr{k n q ver:Nat}{rows:List (List C)}{y:AV}:ytc k n y (.tr q ver rows)=yqJ k y (pW (rows.take n)):=rfl
def ykJ(k lo n:Nat)(y:AV):Obj->Prop
 | .row _ rows=>y=.c (.sl k ((rows.drop lo).take n))
 |_=>False
@[simp] theorem ysL{s:St}{id k lo n:Nat}{y:AV}:out1 s (.cut id k lo n) y=ykJ k lo n y (s.ob id):=by simp only[out1,ykJ];cases s.ob id<;>rfl
@[simp] theorem yxe{k lo n q:Nat}{rows:List (List C)}{y:AV}:ykJ k lo n y (.row q rows)=(y=.c (.sl k ((rows.drop lo).take n))):=rfl
def yoC(y:AV):Option C->Prop
 |some c=>match c.shr with
  |some z=>y=.c z
  |none=>False
 |none=>False
def yso(ver:Nat)(i:Int)(j:Nat)(y:AV):Obj->Prop
 | .tr _ ver' rows=>ver'=ver/\yoC y (cellAt rows i.toNat j)
 |_=>False
@[simp] theorem ytX{s:St}{id ver:Nat}{i:Int}{j k n:Nat}{y:AV}:out1 s (.sub id ver i j k n) y=yso ver i j y (s.ob id):=by first|rfl|(simp only[out1,yso,yoC];done)|(simp only[out1,yso,yoC];rfl)
@[simp] theorem outS_tr{ver k0 ver':Nat}{i:Int}{j:Nat}{y:AV}{rows:List (List C)}:yso ver i j y (.tr k0 ver' rows)=(ver'=ver/\yoC y (cellAt rows i.toNat j)):=rfl
@[simp] theorem outC_ow{k:Nat}{rows:List (List C)}{y:AV}:yoC y (some (.ow k rows))=(y=.c (.sl k rows)):=rfl
@[simp] theorem outC_ot {k:Nat} {rows:List (List C)} {y:AV}:yoC y (some (.ot k rows))=yqJ k y (pW rows):=by
 simp only[yoC,C.shr,yqJ];cases pW rows<;>rfl
@[simp] theorem yzq{s:St}:qW s [] []=True:=rfl
@[simp] theorem ywn{s:St}{x y:AV}{l l':List AV}:qW s (x::l) (y::l')=(out1 s x y/\qW s l l'):=rfl
@[simp] theorem yzb {s:St} {l:List C}:qW s (l.map .c) (l.map .c)=True:=by
 induction l with
 |nil=>rfl
 |cons x l ih=>simp[ih]
@[simp] theorem yE4{s:St}{l l':List AV}:iO s (.agg l) (.agg l')=qW s l l':=rfl
@[simp] theorem out2_c{s:St}{z:C}{y:AV}:iO s (.c z) y=(y=.c z):=rfl
@[simp] theorem yAI{s:St}{k:Nat}{r:List (List C)}{y:AV}:iO s (.clip k r) y=(y=.c (.sl k r)\/y=.clip k r):=rfl
@[simp] theorem yCz{s:St}{n:Nat}{y:AV}:iO s (.nil n) y=((∃k,y=.c (.sl k []))\/∃k,y=.nil k):=rfl
@[simp] theorem yCX{s:St}{cs:List C}{y:AV}:iO s (.elt cs) y=(y=.elt cs):=rfl
@[simp] theorem yCm{s:St}{id k lo n:Nat}{y:AV}:iO s (.cut id k lo n) y=ykJ k lo n y (s.ob id):=ysL
@[simp] theorem yDw{s:St}{id ver:Nat}{i:Int}{j k n:Nat}{y:AV}:iO s (.sub id ver i j k n) y=yso ver i j y (s.ob id):=ytX (k:=k) (n:=n)
@[simp] theorem out2_fn{s:St}{f f':Nat}{l l':List AV}:iO s (.fn f l) (.fn f' l')=(f=f'/\qW s l l'):=rfl
def yu9(s:St)(off:Nat)(cs:List C):Obj->Prop
 | .box cells=>qW s (cells.drop off) (cs.map .c)
 |_=>False
@[simp] theorem yCI{s:St}{id off:Nat}{cs:List C}:iO s (.box id off) (.elt cs)=yu9 s off cs (s.ob id):=by first|rfl|(simp only[iO,yu9];done)|(simp only[iO,yu9];rfl)
@[simp] theorem yFm{s:St}{off:Nat}{cs:List C}{cells:List AV}:yu9 s off cs (.box cells)=qW s (cells.drop off) (cs.map .c):=rfl
@[simp] theorem yE2{s:St}{id k n:Nat}{y:AV}:iO s (.own id k n) y=ytc k n y (s.ob id):=ysn
@[simp] theorem yz3{s:St}:sJ s [] []=True:=rfl
@[simp] theorem yxv{s:St}{x y:AV}{l l':List AV}:sJ s (x::l) (y::l')=(iO s x y/\sJ s l l'):=rfl
@[simp] theorem yDy{s:St}{r:RS}{y:AV}:ycM s [r] y=yY s r y:=rfl
@[simp] theorem yCs{s:St}{r r':RS}{y:AV}:ycM s [r,r'] y=∃ys,y=.tup ys/\ych s [r,r'] ys:=rfl
@[simp] theorem yw2{s:St}{r r' r2:RS}{y:AV}:ycM s [r,r',r2] y=∃ys,y=.tup ys/\ych s [r,r',r2] ys:=rfl
@[simp] theorem ywW{s:St}:ych s [] []=True:=rfl
@[simp] theorem yvh{s:St}{r:RS}{rs:List RS}{y:AV}{ys:List AV}:ych s (r::rs) (y::ys)=(yY s r y/\ych s rs ys):=rfl
@[simp] theorem yDp{s:St}{n:Nat}{y:AV}:yY s (.t n) y=iO s (s.env n) y:=rfl
def clA(s:St)(k:Nat)(y:AV):AV->Prop
 | .box id 0=>match s.ob id with
  | .box cells=>cells.length=k/\iO s (.agg cells) y
  |_=>False
 |_=>False
@[congr] theorem yCA{s:St}{k:Nat}{y a a':AV}(h:a=a'):clA s k y a=clA s k y a':=by rw[h]
@[simp] theorem yA7 {s:St} {n k:Nat} {y:AV}:yY s (.cl n k) y=clA s k y (s.env n):=by
 simp only[yY,clA];cases s.env n with
 |box id o=>cases o<;>rfl
 |_=>rfl
def clO(s:St)(k:Nat)(y:AV):Obj->Prop
 | .box cells=>cells.length=k/\iO s (.agg cells) y
 |_=>False
@[simp] theorem clA_box{s:St}{k id:Nat}{y:AV}:clA s k y (.box id 0)=clO s k y (s.ob id):=by first|rfl|(simp only[clA,clO];done)|(simp only[clA,clO];rfl)
@[simp] theorem clO_box{s:St}{k:Nat}{y:AV}{cells:List AV}:clO s k y (.box cells)=(cells.length=k/\iO s (.agg cells) y):=rfl
end
@[simp] theorem yv0{k k':Nat}{r r':List (List C)}:(Obj.row k r).leO (.row k' r')=(Obj.row k r=.row k' r'):=rfl
@[simp] theorem ywH{k k' v:Nat}{r r':List (List C)}:(Obj.row k r).leO (.tr k' v r')=(k=k'/\r=r'):=rfl
@[simp] theorem yAF{k k' v v':Nat}{r r':List (List C)}:(Obj.tr k v r).leO (.tr k' v' r')=(k=k'/\r=r'):=rfl
@[simp] theorem yvR{l l':List AV}:(Obj.box l).leO (.box l')=(Obj.box l=.box l'):=rfl
def ints(l:List Int):List (List C):=l.map λn=>[.i n]
@[simp] theorem yvN{l:List Int}:(ints l).length=l.length:=by simp[ints]
end Go.Proofs.YtpiplmnecmkafaaGreat
