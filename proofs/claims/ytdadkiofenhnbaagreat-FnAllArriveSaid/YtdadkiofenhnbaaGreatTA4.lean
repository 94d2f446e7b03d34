/- The machine of the proof: an abstract run of the code, proved sound. -/
import Derived.Test.YtdadkiofenhnbaaGreatTA3
set_option linter.all false
namespace Go.Proofs.YtdadkiofenhnbaaGreat
open Go.RowKit
structure Tag{α:Type}(K:α):Type where
def callT(P:Program)(f:Nat)(xs:List AV)(d:Option Nat)(s:St)(K:St->Prop)(_:Tag K):Prop:=yat P f xs d s K
def yyf(P:Program)(f:Nat)(xs:List AV)(ob:Nat->Obj)(k:AV->Prop)(_:Tag k):Prop:=yw8 P f xs ob k
def loopT(P:Program)(N:Nat)(c:SC)(s:St)(Q:Ex->St->Prop)(_:Tag Q):Prop:=ynw P N c s Q
section
variable {P:Program} {N:Nat}
@[congr] def yRe{c:SC}{s s':St}{Q:Ex->St->Prop}(h:s=s'):wpS P N c s Q=wpS P N c s' Q:=by rw[h]
@[congr] def yKy{c c' a a' b b':AV}{k:AV->Prop}(h1:c=c')(h2:a=a')(h3:b=b'):ydP c a b k=ydP c' a' b' k:=by rw[h1,h2,h3]
@[congr] def yNy{o:BinOp}{a a' b b':AV}{k:AV->Prop}(h2:a=a')(h3:b=b'):yvc o a b k=yvc o a' b' k:=by rw[h2,h3]
@[congr] def yOo{o:Bool}{a a' b b':AV}{k:AV->Prop}(h2:a=a')(h3:b=b'):yr8 o a b k=yr8 o a' b' k:=by rw[h2,h3]
@[congr] def yMv{a a':AV}{k:AV->Prop}(h2:a=a'):yxF a k=yxF a' k:=by rw[h2]
@[congr] def yNW{a a':AV}{k:AV->Prop}(h2:a=a'):notP a k=notP a' k:=by rw[h2]
@[congr] def yOm{o:Nat}{s:St}{a a' b b':AV}{k:AV->Prop}(h2:a=a')(h3:b=b'):ymX o s a b k=ymX o s a' b' k:=by rw[h2,h3]
@[congr] def yOh{o n:Nat}{a a' b b':AV}{k:AV->Prop}(h2:a=a')(h3:b=b'):yve o n a b k=yve o n a' b' k:=by rw[h2,h3]
@[congr] def yM1{o:Nat}{s:St}{a a':AV}{k:AV->Prop}(h2:a=a'):yny o s a k=yny o s a' k:=by rw[h2]
@[congr] def yOn{s:St}{a a':AV}{k:AV->Prop}(h2:a=a'):ylI s a k=ylI s a' k:=by rw[h2]
@[congr] def yOb{o:Nat}{s:St}{a a':AV}{k:AV->Prop}(h2:a=a'):ylz o s a k=ylz o s a' k:=by rw[h2]
@[congr] def yMX{s:St}{a a' b b':AV}{k:St->Prop}(h2:a=a')(h3:b=b'):ylB s a b k=ylB s a' b' k:=by rw[h2,h3]
@[congr] def yON{o:Nat}{s:St}{a a' b b':AV}{k:St->Prop}(h2:a=a')(h3:b=b'):ynn o s a b k=ynn o s a' b' k:=by rw[h2,h3]
@[congr] def yNU{o n:Nat}{z:List C}{s:St}{d:Option Nat}{a a' b b':AV}{k:St->Prop}(h2:a=a')(h3:b=b'):yvA o n z s d a b k=yvA o n z s d a' b' k:=by rw[h2,h3]
@[congr] def yOI{o:Nat}{s:St}{d:Option Nat}{a a':List AV}{k:St->Prop}(h2:a=a'):yru o a s d k=yru o a' s d k:=by rw[h2]
@[congr] def yNv{o:Nat}{a a':AV}{l l' h h' m m':Option AV}{k:AV->Prop}(h2:a=a')(h3:l=l')(h4:h=h')(h5:m=m'):yhr o a l h m k=yhr o a' l' h' m' k:=by rw[h2,h3,h4,h5]
@[congr] def yOB{o n:Nat}{s:St}{a a' b b':AV}{k:AV->Prop}(h2:a=a')(h3:b=b'):ypt o n s a b k=ypt o n s a' b' k:=by rw[h2,h3]
@[congr] def yNx{s:St}{a a':AV}{k:AV->Prop}(h2:a=a'):ylv s a k=ylv s a' k:=by rw[h2]
@[congr] def yMM{o n:Nat}{s:St}{d:Option Nat}{a a' b b':AV}{k:St->Prop}(h2:a=a')(h3:b=b'):yjm o n s d a b k=yjm o n s d a' b' k:=by rw[h2,h3]
@[congr] def yO4{f:Int->Int->Int}{a a':List AV}{k:AV->Prop}(h2:a=a'):mmP f a k=mmP f a' k:=by rw[h2]
@[congr] def yOa{o:Nat}{a a':AV}{k:AV->Prop}(h2:a=a'):yrj o a k=yrj o a' k:=by rw[h2]
@[congr] def yXY{o:Nat}{s:St}{d:Option Nat}{a a' b b':AV}{k:St->Prop}(h2:a=a')(h3:b=b'):cpP o s d a b k=cpP o s d a' b' k:=by rw[h2,h3]
@[congr] def yOz{a a':AV}{k:AV->Prop}(h2:a=a'):yv8 a k=yv8 a' k:=by rw[h2]
@[congr] def yNm{a a':AV}{k:AV->Prop}(h2:a=a'):ypl a k=ypl a' k:=by rw[h2]
@[congr] def yahY{s s':St}{a a' b b' c c':AV}{K:St->Prop}(h:s=s')(h2:a=a')(h3:b=b')(h4:c=c'):yID s a b c K=yID s' a' b' c' K:=by rw[h,h2,h3,h4]
@[congr] def yahZ{s s':St}{a a' b b':AV}{k:AV->Prop}(h:s=s')(h2:a=a')(h3:b=b'):yIS s a b k=yIS s' a' b' k:=by rw[h,h2,h3]
@[congr] def yaeI{o:Bool}{q:Nat}{a a' b b':AV}{k:AV->Prop}(h2:a=a')(h3:b=b'):yy1 o q a b k=yy1 o q a' b' k:=by rw[h2,h3]
@[congr] def yOp{o:BinOp}{a a' b b':AV}{k:AV->Prop}(h2:a=a')(h3:b=b'):ykN o a b k=ykN o a' b' k:=by rw[h2,h3]
@[congr] def yaew{o:BinOp}{a a' b b':AV}{k:AV->Prop}(h2:a=a')(h3:b=b'):ylX o a b k=ylX o a' b' k:=by rw[h2,h3]
@[congr] def yMS{o:Nat}{s:St}{a a':AV}{k:AV->Prop}(h2:a=a'):yco o s a k=yco o s a' k:=by rw[h2]
@[congr] def yLO{a a':AV}{A B:Prop}(h:a=a'):yl6 a A B=yl6 a' A B:=by rw[h]
@[simp ↓] def yPH{s:St}{Q:Ex->St->Prop}:wpS P N .skip s Q=Q .normal s:=rfl
@[simp ↓] def wpS_reg{l:List Ins}{s:St}{Q:Ex->St->Prop}:wpS P N (.reg l) s Q=wpI P l s (Q .normal):=rfl
@[simp ↓] def yO8{l:List Ins}{s:St}{Q:Ex->St->Prop}:wpS P N (.regq l) s Q=wpQ P l s (Q .normal):=rfl
@[simp ↓] def yRb{l:List ySo}{s:St}{Q:Ex->St->Prop}:wpS P N (.rege l) s Q=wpE P 0 l [] s (Q .normal):=rfl
@[simp ↓] def wpS_seq{a b:SC}{s:St}{Q:Ex->St->Prop}:wpS P N (.seq a b) s Q=wpS P N a s (Ex.then (λ_ s'=>wpS P N b s' Q) Q):=rfl
@[simp ↓] def wpS_cond{x:X}{a b:SC}{s:St}{Q:Ex->St->Prop}:wpS P N (.cond x a b) s Q=yl6 (s.ev x) (wpS P N a s Q) (wpS P N b s Q):=rfl
@[simp ↓] def yMB{n:Nat}{c:SC}{s:St}{Q:Ex->St->Prop}:wpS P N (.block n c) s Q=wpS P N c s (Ex.inBlock n Q):=rfl
@[simp ↓] def yQ1{c:SC}{s:St}{Q:Ex->St->Prop}:wpS P N (.loop c) s Q=loopT P N c s Q ⟨⟩:=rfl
@[simp ↓] def yRg{n:Nat}{s:St}{Q:Ex->St->Prop}:wpS P N (.exit n) s Q=Q (.exit n) s:=rfl
@[simp ↓] def wpS_ret{s:St}{Q:Ex->St->Prop}:wpS P N .ret s Q=Q .ret s:=rfl
@[simp ↓] def yJo{Q Q':Ex->St->Prop}{s:St}:Ex.then Q Q' .normal s=Q .normal s:=rfl
@[simp ↓] def yN5{Q Q':Ex->St->Prop}{n:Nat}{s:St}:Ex.then Q Q' (.exit n) s=Q' (.exit n) s:=rfl
@[simp ↓] def yQl{Q Q':Ex->St->Prop}{s:St}:Ex.then Q Q' .ret s=Q' .ret s:=rfl
@[simp ↓] def yFu{Q:Ex->St->Prop}{n:Nat}{s:St}:Ex.inBlock n Q .normal s=Q .normal s:=rfl
@[simp ↓] def yJf{Q:Ex->St->Prop}{n:Nat}{s:St}:Ex.inBlock n Q .ret s=Q .ret s:=rfl
@[simp ↓] def yIa{Q:Ex->St->Prop}{n m:Nat}{s:St}:Ex.inBlock n Q (.exit m) s=if m=n then Q .normal s else Q (.exit m) s:=rfl
@[simp ↓] def wpI_nil{s:St}{K:St->Prop}:wpI P [] s K=K s:=rfl
@[simp ↓] def yPp{d:Option Nat}{op:IOp}{l:List Ins}{s:St}{K:St->Prop}:wpI P (⟨none,d,op⟩::l) s K=kF P d op s λs'=>wpI P l s' K:=rfl
def yg(x:AV)(t:Nat)(want:Bool)(s:St)(A B:St->Prop):Prop:=
 match x with
 | .c (.b v)=>(v=want->A (s.put (some t) (.c (.b want))))/\(v=(!want)->B (s.put (some t) (.c (.b (!want)))))
 | .und=>B s
 |_=>False
def yoV{s:St}{t:Nat}{v:AV}(h:s.env t=v):s.put (some t) v=s:=by
 obtain⟨env,yRU⟩:=s;simp only[St.put]
 congr 1
 funext n
 unfold upd;split
 .rename_i e;subst e;exact h.symm
 .rfl
def ypb{t:Nat}{want:Bool}{s:St}{A B:St->Prop}:fZ (s.env t) want (A s) (B s)=yg (s.env t) t want s A B:=by
 unfold fZ yg;cases h:s.env t with
 | c x=>cases x with
  | b v=>
   apply propext;constructor
   .rintro⟨h1,h2⟩
    exact⟨λe=>by rw[yoV (by rw[h,e])];exact h1 e,λe=>by rw[yoV (by rw[h,e])];exact h2 e⟩
   .rintro⟨h1,h2⟩
    refine⟨λe=>?_,λe=>?_⟩
    .have:=h1 e;rwa [yoV (by rw[h,e])]at this
    .have:=h2 e;rwa [yoV (by rw[h,e])]at this
  |_=>rfl
 |_=>rfl
@[congr] def yJP{a a':AV}{t:Nat}{v:Bool}{s:St}{A B:St->Prop}(h:a=a'):yg a t v s A B=yg a' t v s A B:=by rw[h]
@[simp] def yPY{t:Nat}{v want:Bool}{s:St}{A B:St->Prop}:yg (.c (.b v)) t want s A B=((v=want->A (s.put (some t) (.c (.b want))))/\(v=(!want)->B (s.put (some t) (.c (.b (!want)))))):=rfl
@[simp high] def yNT{t:Nat}{s:St}{A B:St->Prop}:yg (.c (.b true)) t true s A B=A (s.put (some t) (.c (.b true))):=by simp[yg]
@[simp high] def yNj{t:Nat}{s:St}{A B:St->Prop}:yg (.c (.b true)) t false s A B=B (s.put (some t) (.c (.b true))):=by simp[yg]
@[simp high] def yMy{t:Nat}{s:St}{A B:St->Prop}:yg (.c (.b false)) t true s A B=B (s.put (some t) (.c (.b false))):=by simp[yg]
@[simp high] def yOE{t:Nat}{s:St}{A B:St->Prop}:yg (.c (.b false)) t false s A B=A (s.put (some t) (.c (.b false))):=by simp[yg]
@[simp] def yJX{t:Nat}{want:Bool}{s:St}{A B:St->Prop}:yg .und t want s A B=B s:=rfl
@[simp ↓] def yMC {t:Nat} {v:Bool} {d:Option Nat} {op:IOp} {l:List Ins} {s:St} {K:St->Prop}:
 wpI P (⟨some (t,v),d,op⟩::l) s K=yg (s.env t) t v s (λs=>kF P d op s λs'=>wpI P l s' K) (λs=>wpI P l (s.put d .und) K):=
 ypb (A:=λs=>kF P d op s λs'=>wpI P l s' K) (B:=λs=>wpI P l (s.put d .und) K)
@[simp ↓] def wpQ_nil{s:St}{K:St->Prop}:wpQ P [] s K=K s:=rfl
@[simp ↓] def yPi{d:Option Nat}{op:IOp}{l:List Ins}{s:St}{K:St->Prop}:wpQ P (⟨none,d,op⟩::l) s K=dJ P op s.ev s.yRU λv=>wpQ P l (s.put d v) K:=rfl
@[simp ↓] def yOM {t:Nat} {v:Bool} {d:Option Nat} {op:IOp} {l:List Ins} {s:St} {K:St->Prop}:
 wpQ P (⟨some (t,v),d,op⟩::l) s K=yg (s.env t) t v s (λs=>dJ P op s.ev s.yRU λv=>wpQ P l (s.put d v) K) (λs=>wpQ P l (s.put d .und) K):=by
 have e:wpQ P (⟨some (t,v),d,op⟩::l) s K=fZ (s.env t) v (dJ P op s.ev s.yRU λv=>wpQ P l (s.put d v) K) (wpQ P l (s.put d .und) K):=rfl;rw[e];exact ypb (A:=λs=>dJ P op s.ev s.yRU λv=>wpQ P l (s.put d v) K) (B:=λs=>wpQ P l (s.put d .und) K)
@[simp ↓] def wpE_nil{n:Nat}{h:List (Nat×Lab)}{s:St}{K:St->Prop}:wpE P n [] h s K=K s:=by simp only[wpE]
@[simp] def yOA{a0}:(IOp.mv a0).qF=false:=rfl
@[simp] def yJW{a0 a1}:(IOp.fld a0 a1).qF=false:=rfl
@[simp] def yL1{a0}:(IOp.ld1 a0).qF=false:=rfl
@[simp] def yKZ{a0 a1}:(IOp.ldn a0 a1).qF=false:=rfl
@[simp] def yMl{a0 a1}:(IOp.ext a0 a1).qF=false:=rfl
@[simp] def yK2{a0}:(IOp.len a0).qF=false:=rfl
@[simp] def yKd{a0}:(IOp.nck a0).qF=false:=rfl
@[simp] def yKV{a0 a1 a2}:(IOp.bin a0 a1 a2).qF=false:=rfl
@[simp] def yJ9{a0 a1 a2}:(IOp.idx a0 a1 a2).qF=false:=rfl
@[simp] def yI5{a0 a1 a2}:(IOp.pick a0 a1 a2).qF=false:=rfl
@[simp] def yJT{a0 a1 a2 a3 a4}:(IOp.slc a0 a1 a2 a3 a4).qF=false:=rfl
@[simp] def yOt{a0}:(IOp.mn a0).qF=false:=rfl
@[simp] def yKx{a0 a1}:(IOp.bld a0 a1).qF=false:=rfl
def yGN{i:Ins}{s:St}{kN:St->Prop}(h:i.op.qF=false):mkE P i s kN=False:=by
 obtain⟨g,d,op⟩:=i;unfold mkE;split
 .rename_i e;simp only at e h;rw[e]at h;cases h
 .rfl
def ynu(P:Program)(f:Nat)(xs:List AV)(d:Option Nat)(s:St)(k:AV->Prop)(kN:St->Prop)(_:Tag (k,kN)):Prop:=
 yw8 P f xs s.yRU k\/match d with
  |some d=>∃args res,nI P f args res/\iO s xs args/\(res.closed\/xs.all AV.nU=true)/\fD s (res.fK d)/\kN (s.take d res)
  |none=>False
def pJ{f d:Nat}{xs args:List AV}{res:AV}{s:St}{k:AV->Prop}{kN:St->Prop}{T:Tag (k,kN)}(hp:nI P f args res)(ho:iO s xs args)(hc:res.closed)(hfr:fD s (res.fK d))(hK:kN (s.take d res)):ynu P f xs (some d) s k kN T:=
 .inr ⟨args,res,hp,ho,.inl hc,hfr,hK⟩
def yCa{f d:Nat}{xs args:List AV}{res:AV}{s:St}{k:AV->Prop}{kN:St->Prop}{T:Tag (k,kN)}(hp:nI P f args res)(ho:iO s xs args)(hc:xs.all AV.nU=true)(hfr:fD s (res.fK d))(hK:kN (s.take d res)):ynu P f xs (some d) s k kN T:=
 .inr ⟨args,res,hp,ho,.inr hc,hfr,hK⟩
def nC{f:Nat}{d:Option Nat}{xs args:List AV}{res:AV}{s:St}{k:AV->Prop}{kN:St->Prop}{T:Tag (k,kN)}(hp:qB P f args res)(ho:iO s xs args)(hc:xs.all AV.nU=true\/res.scalar=true)(hK:k res):ynu P f xs d s k kN T:=
 .inl ⟨args,res,hp,by rw[yam];exact ho,hc,hK⟩
@[simp ↓] def wpE_q {n:Nat} {h:List (Nat×Lab)} {d:Option Nat} {op:IOp} {l:List ySo} {s:St} {K:St->Prop} (ho:op.qF=false):wpE P n (⟨0,false,[],⟨none,d,op⟩⟩::l) h s K=dJ P op s.ev s.yRU λv=>wpE P (n+1) l h (s.put d v) K:=by
 have e:wpE P n (⟨0,false,[],⟨none,d,op⟩⟩::l) h s K=((dJ P op s.ev s.yRU λv=>true=true/\wpE P (n+1) l h (s.put d v) K)\/mkE P ⟨none,d,op⟩ s λs'=>true=true/\wpE P (n+1) l h s' K):=by rw[wpE];first|done|rfl
 rw[e,yGN ho];simp only[true_and,or_false]
@[simp ↓ low] def wpE_qn {n:Nat} {nt:Bool} {chk:List Nat} {h:List (Nat×Lab)} {d:Option Nat} {op:IOp} {l:List ySo} {s:St} {K:St->Prop} (ho:op.qF=false):wpE P n (⟨0,nt,chk,⟨none,d,op⟩⟩::l) h s K=
 dJ P op s.ev s.yRU λv=>ybT chk h (ybH ⟨none,d,op⟩ s v)=true/\wpE P (n+1) l (iU nt n (ybH ⟨none,d,op⟩ s v) h) (s.put d v) K:=by
 have e:wpE P n (⟨0,nt,chk,⟨none,d,op⟩⟩::l) h s K=((dJ P op s.ev s.yRU λv=>ybT chk h (ybH ⟨none,d,op⟩ s v)=true/\wpE P (n+1) l (iU nt n (ybH ⟨none,d,op⟩ s v) h) (s.put d v) K)\/mkE P ⟨none,d,op⟩ s λs'=>ybT chk h ([],true)=true/\wpE P (n+1) l (iU nt n ([],true) h) s' K):=by rw[wpE];first|done|rfl
 rw[e,yGN ho,or_false]
@[simp ↓] def wpE_qc {n f:Nat} {h:List (Nat×Lab)} {d:Option Nat} {xs:List X} {l:List ySo} {s:St} {K:St->Prop}:wpE P n (⟨0,false,[],⟨none,d,.call f xs⟩⟩::l) h s K=
 ynu P f (xs.map s.ev) d s (λv=>wpE P (n+1) l h (s.put d v) K) (λs'=>wpE P (n+1) l h s' K) ⟨⟩:=by
 have e:wpE P n (⟨0,false,[],⟨none,d,.call f xs⟩⟩::l) h s K=((yw8 P f (xs.map s.ev) s.yRU λv=>true=true/\wpE P (n+1) l h (s.put d v) K)\/mkE P ⟨none,d,.call f xs⟩ s λs'=>true=true/\wpE P (n+1) l h s' K):=by rw[wpE];first|done|rfl
 rw[e];cases d<;>(unfold ynu mkE;simp only[true_and])
@[simp ↓] def yJi {n:Nat} {nt:Bool} {chk:List Nat} {h:List (Nat×Lab)} {i:Ins} {l:List ySo} {s:St} {K:St->Prop}:wpE P n (⟨1,nt,chk,i⟩::l) h s K=
 (ybT chk h (yvS i)=true/\ydf P i.d i.op s λs'=>wpE P (n+1) l (iU nt n (yvS i) h) s' K):=by rw[wpE];first|done|rfl
@[simp ↓ high] def wpE_ma {n:Nat} {nt:Bool} {chk:List Nat} {h:List (Nat×Lab)} {d:Nat} {zs:List AV} {l:List ySo} {s:St} {K:St->Prop}:wpE P n (⟨1,nt,chk,⟨none,some d,.alloc zs⟩⟩::l) h s K=
 (ybT chk h (yvS ⟨none,some d,.alloc zs⟩)=true/\newP s (some d) (.box zs) (λd=>.box d 0) λs'=>wpE P (n+1) l (iU nt n (yvS ⟨none,some d,.alloc zs⟩) h) s' K):=yJi
@[simp ↓ high] def wpE_mb {n:Nat} {nt:Bool} {chk:List Nat} {h:List (Nat×Lab)} {d k:Nat} {xs:List X} {l:List ySo} {s:St} {K:St->Prop}:wpE P n (⟨1,nt,chk,⟨none,some d,.bsl k xs⟩⟩::l) h s K=
 (ybT chk h (yvS ⟨none,some d,.bsl k xs⟩)=true/\ywj k (xs.map s.ev) s (some d) λs'=>wpE P (n+1) l (iU nt n (yvS ⟨none,some d,.bsl k xs⟩) h) s' K):=yJi
@[simp ↓] def wpE_e {n:Nat} {nt:Bool} {chk:List Nat} {h:List (Nat×Lab)} {g:Option (Nat×Bool)} {d:Option Nat} {op:IOp} {l:List ySo} {s:St} {K:St->Prop} (ho:op.qF=false):wpE P n (⟨2,nt,chk,⟨g,d,op⟩⟩::l) h s K=
 (ybT chk h (yBR ⟨g,d,op⟩ s)=true/\kF P d op s λs'=>wpE P (n+1) l (iU nt n (yBR ⟨g,d,op⟩ s) h) s' K):=by
 have e:wpE P n (⟨2,nt,chk,⟨g,d,op⟩⟩::l) h s K=if op.qF then yJA P ⟨g,d,op⟩ s λlab s'=>ybT chk h lab=true/\wpE P (n+1) l (iU nt n lab h) s' K
  else ybT chk h (yBR ⟨g,d,op⟩ s)=true/\kF P d op s λs'=>wpE P (n+1) l (iU nt n (yBR ⟨g,d,op⟩ s) h) s' K:=by rw[wpE];first|done|rfl
 rw[e,if_neg (by simp[ho])]
@[simp] def yLl{a0 a1}:(IOp.st1 a0 a1).qF=false:=rfl
@[simp] def yK6{a0 a1 a2}:(IOp.stn a0 a1 a2).qF=false:=rfl
@[simp] def yLI{a0 a1 a2 a3}:(IOp.app a0 a1 a2 a3).qF=false:=rfl
@[simp] def yM9{a0 a1 a2}:(IOp.cp a0 a1 a2).qF=false:=rfl
@[simp] def yMt{a0 a1}:(IOp.bsl a0 a1).qF=false:=rfl
def yadG(P:Program)(f:Nat)(d:Option Nat)(xs:List X)(s:St)(K:Lab->St->Prop)(_:Tag K):Prop:=yJA P ⟨none,d,.call f xs⟩ s K
@[simp ↓] def wpE_t {n f:Nat} {nt:Bool} {chk:List Nat} {h:List (Nat×Lab)} {d:Option Nat} {xs:List X} {l:List ySo} {s:St} {K:St->Prop}:wpE P n (⟨2,nt,chk,⟨none,d,.call f xs⟩⟩::l) h s K=
 yadG P f d xs s (λlab s'=>ybT chk h lab=true/\wpE P (n+1) l (iU nt n lab h) s' K) ⟨⟩:=by
 have e:wpE P n (⟨2,nt,chk,⟨none,d,.call f xs⟩⟩::l) h s K=if(IOp.call f xs).qF then yJA P ⟨none,d,.call f xs⟩ s λlab s'=>ybT chk h lab=true/\wpE P (n+1) l (iU nt n lab h) s' K
  else ybT chk h (yBR ⟨none,d,.call f xs⟩ s)=true/\kF P d (.call f xs) s λs'=>wpE P (n+1) l (iU nt n (yBR ⟨none,d,.call f xs⟩ s) h) s' K:=by rw[wpE];first|done|rfl
 rw[e,if_pos (show(IOp.call f xs).qF=true from rfl)];rfl
@[congr] def yOd{k:Nat}{xs xs':List AV}{s:St}{d:Option Nat}{K:St->Prop}(h:xs=xs'):ywj k xs s d K=ywj k xs' s d K:=by rw[h]
@[congr] def yJn{f f':AV}{l l':List AV}{ob:Nat->Obj}{k:AV->Prop}(h:f=f')(h2:l=l'):yhz P f l ob k=yhz P f' l' ob k:=by rw[h,h2]
@[simp ↓] def yM7{d:Option Nat}{s:St}{K:St->Prop}{n b:Nat}{z:List C}{l c:X}:ydf P d (.mks n b z l c) s K=yvA n b z s d (s.ev l) (s.ev c) K:=rfl
def yHg(k:Nat)(s:St)(d:Option Nat)(K:St->Prop):Option (List (List C))->Prop
 |some rows=>(∀r∈rows,r.length=k)/\newP s d (.row k rows) (λd=>.own d k rows.length) K
 |none=>False
@[congr] def yM5{k:Nat}{s:St}{d:Option Nat}{K:St->Prop}{o o':Option (List (List C))}(h:o=o'):yHg k s d K o=yHg k s d K o':=by rw[h]
@[simp] def bslF_eq {k:Nat} {xs:List AV} {s:St} {d:Option Nat} {K:St->Prop}:ywj k xs s d K=yHg k s d K (AV.rowsOf xs):=by
 unfold ywj yHg;cases AV.rowsOf xs<;>rfl
@[simp] def yMJ{k:Nat}{s:St}{d:Option Nat}{K:St->Prop}{rows:List (List C)}:yHg k s d K (some rows)=((∀r∈rows,r.length=k)/\newP s d (.row k rows) (λd=>.own d k rows.length) K):=rfl
@[simp ↓] def yNL{f:Nat}{l xs:List AV}{ob:Nat→Obj}{k:AV→Prop}:yhz P (.fn f l) xs ob k=((∃fn,P.funcs[f]?=some fn∧fn.body.isSome=true∧(fn.name != "runtime.NumGoroutine")=true)∧yyf P f (xs++l) ob k ⟨⟩):=rfl
@[simp] def noteL_f{n:Nat}{lab:Lab}{h:List (Nat×Lab)}:iU false n lab h=h:=rfl
@[simp] def noteL_t{n:Nat}{lab:Lab}{h:List (Nat×Lab)}:iU true n lab h=(n,lab)::h:=rfl
@[simp] def yO0{lab:Lab}{h:List (Nat×Lab)}:ybT [] h lab=true:=rfl
@[simp] def yOG{i:Nat}{l:List Nat}{lab:Lab}{h:List (Nat×Lab)}:ybT (i::l) h lab=(yem (look ([],true) h i) lab&&ybT l h lab):=rfl
@[simp] def yNC{a b:Lab}:yem a b=((a.1.all λi=>!b.1.contains i)&&b.2):=rfl
@[simp] def labM_eq{g:Option (Nat×Bool)}{d:Nat}{op:IOp}:yvS ⟨g,some d,op⟩=([2*d,2*d+1],true):=rfl
@[simp] def yPq{i:Ins}{s:St}{v:AV}:ybH i s v=((if yvd i.op s then[]else lw ((i.op.xs.map s.ev).flatMap AV.ids))++lk ((v::i.op.xs.map s.ev).flatMap AV.ids),(v::i.op.xs.map s.ev).all AV.cl):=rfl
@[simp] def labE_eq{i:Ins}{s:St}:yBR i s=(lw (wOf i.op s++i.d.toList)++lk (kOf i.op s++i.d.toList),true):=rfl
@[simp] def lw_nil:lw []=[]:=rfl
@[simp] def lw_cons{i:Nat}{l:List Nat}:lw (i::l)=2*i::lw l:=rfl
@[simp] def lw_app{l l':List Nat}:lw (l++l')=lw l++lw l':=zaD
@[simp] def lk_nil:lk []=[]:=rfl
@[simp] def lk_cons{i:Nat}{l:List Nat}:lk (i::l)=(2*i+1)::lk l:=rfl
@[simp] def lk_app{l l':List Nat}:lk (l++l')=lk l++lk l':=zaD
attribute [simp] yvd AV.ypm yCt
@[simp] def kOf_st1{s:St}{x v:X}:kOf (.st1 x v) s=if ypD s (s.ev x)then(s.ev v).ids else[]:=rfl
@[simp] def kOf_stn{s:St}{n:Nat}{x v:X}:kOf (.stn n x v) s=if ypD s (s.ev x)then(s.ev v).ids else[]:=rfl
@[simp] def kOf_cp{s:St}{k:Nat}{x v:X}:kOf (.cp k x v) s=[]:=rfl
@[simp] def kOf_app{s:St}{k b:Nat}{x y:X}:kOf (.app k b x y) s=yCt (s.ev x) (wOf (.app k b x y) s):=rfl
@[simp] def kOf_bsl{s:St}{k:Nat}{xs:List X}:kOf (.bsl k xs) s=wOf (.bsl k xs) s:=rfl
def yBC(y:AV):Option (List (List C))->List Nat
 |some _=>[]
 |none=>y.ids
@[simp] def yJB{y:AV}{r:List (List C)}:yBC y (some r)=[]:=rfl
@[simp] def yI7{y:AV}:yBC y none=y.ids:=rfl
@[simp] def wOf_app {s:St} {k b:Nat} {x y:X}:wOf (.app k b x y) s=(s.ev x).ids++yBC (s.ev y) (dI s k (s.ev y)):=by
 simp only[wOf];cases dI s k (s.ev y)<;>rfl
@[simp] def wOf_st1{s:St}{x v:X}:wOf (.st1 x v) s=(s.ev x).ids++(if ypD s (s.ev x)then(s.ev v).ids else[]):=rfl
@[simp] def wOf_stn{s:St}{n:Nat}{x v:X}:wOf (.stn n x v) s=(s.ev x).ids++(if ypD s (s.ev x)then(s.ev v).ids else[]):=rfl
@[simp] def wOf_cp{s:St}{k:Nat}{x v:X}:wOf (.cp k x v) s=(s.ev x).ids:=rfl
def yGj(k n id k':Nat)(j h:Int)(K:AV->Prop):Obj->Prop
 | .row _ rows=>k'=k/\j=0/\0<=h/\h<=rows.length/\rows.length=n/\K (.own id k h.toNat)
 |_=>False
@[congr] def yNQ{k n id k':Nat}{j h:Int}{K:AV->Prop}{o o':Obj}(e:o=o'):yGj k n id k' j h K o=yGj k n id k' j h K o':=by rw[e]
@[simp] def yPF {k n:Nat} {s:St} {id k':Nat} {j h:Int} {K:AV->Prop}:ypt k n s (.row id k' j 0) (.c (.i h)) K=yGj k n id k' j h K (s.ob id):=by
 simp only[ypt,yGj];cases s.ob id<;>rfl
@[simp] def yQr{k n id k' q:Nat}{j h:Int}{K:AV->Prop}{rows:List (List C)}:yGj k n id k' j h K (.row q rows)=(k'=k/\j=0/\0<=h/\h<=rows.length/\rows.length=n/\K (.own id k h.toNat)):=rfl
@[simp] def yQ9{s:St}{id k o:Nat}{i:Int}:ypD s (.row id k i o)=(s.ob id).tree:=rfl
@[simp] def yRj{s:St}{id o:Nat}:ypD s (.box id o)=false:=rfl
@[simp] def yRF{k:Nat}{r:List (List C)}:(Obj.row k r).tree=false:=rfl
@[simp] def tree_tr{k v:Nat}{r:List (List C)}:(Obj.tr k v r).tree=true:=rfl
attribute [simp] IOp.xs
@[simp] def ids_und:AV.und.ids=[]:=rfl
@[simp] def ids_c{x:C}:(AV.c x).ids=[]:=rfl
@[simp] def ids_nil{k:Nat}:(AV.nil k).ids=[]:=rfl
@[simp] def yPa{k:Nat}{r:List (List C)}:(AV.clip k r).ids=[]:=rfl
@[simp] def ids_elt{r:List C}:(AV.elt r).ids=[]:=rfl
@[simp] def ids_box{i o:Nat}:(AV.box i o).ids=[i]:=rfl
@[simp] def ids_row{i k o:Nat}{j:Int}:(AV.row i k j o).ids=[i]:=rfl
@[simp] def ids_own{i k n:Nat}:(AV.own i k n).ids=[i]:=rfl
@[simp] def ids_cut{i k l n:Nat}:(AV.cut i k l n).ids=[i]:=rfl
@[simp] def ids_sub{i ver:Nat}{n:Int}{j k m:Nat}:(AV.sub i ver n j k m).ids=[i]:=rfl
@[simp] def ids_agg{l:List AV}:(AV.agg l).ids=l.flatMap AV.nP:=rfl
@[simp] def ids_tup{l:List AV}:(AV.tup l).ids=l.flatMap AV.qV:=rfl
attribute [simp] AV.nP AV.tJ AV.qV AV.cl AV.cl2 AV.cl1
@[simp high] def condP_t{A B:Prop}:yl6 (.c (.b true)) A B=A:=by simp[yl6]
@[simp high] def condP_f{A B:Prop}:yl6 (.c (.b false)) A B=B:=by simp[yl6]
@[simp] def condP_b{b:Bool}{A B:Prop}:yl6 (.c (.b b)) A B=((b=true->A)/\(b=false->B)):=rfl
section
variable {d:Option Nat} {s:St} {K:St->Prop} {ev:X->AV} {ob:Nat->Obj} {k:AV->Prop}
@[simp ↓] def step_mv{x:X}:kF P d (.mv x) s K=K (s.put d (s.ev x)):=rfl
@[simp ↓] def yMY{a b c:X}:kF P d (.pick a b c) s K=ydP (s.ev a) (s.ev b) (s.ev c) λv=>K (s.put d v):=rfl
@[simp ↓] def yPg{o:BinOp}{a b:X}:kF P d (.bin o a b) s K=yvc o (s.ev a) (s.ev b) λv=>K (s.put d v):=rfl
@[simp ↓] def yQ3{o:Bool}{a b:X}:kF P d (.beq o a b) s K=yr8 o (s.ev a) (s.ev b) λv=>K (s.put d v):=rfl
@[simp ↓] def yPL{a:X}:kF P d (.isn a) s K=yxF (s.ev a) λv=>K (s.put d v):=rfl
@[simp ↓] def yRo{a:X}:kF P d (.not a) s K=notP (s.ev a) λv=>K (s.put d v):=rfl
@[simp ↓] def yRO{n:Nat}{a b:X}:kF P d (.idx n a b) s K=ymX n s (s.ev a) (s.ev b) λv=>K (s.put d v):=rfl
@[simp ↓] def yPr{m n:Nat}{a b:X}:kF P d (.ida m n a b) s K=yve m n (s.ev a) (s.ev b) λv=>K (s.put d v):=rfl
@[simp ↓] def yQn{n:Nat}{a:X}:kF P d (.fld n a) s K=yny n s (s.ev a) λv=>K (s.put d v):=rfl
@[simp ↓] def yPW{a:X}:kF P d (.ld1 a) s K=ylI s (s.ev a) λv=>K (s.put d v):=rfl
@[simp ↓] def yRL{n:Nat}{a:X}:kF P d (.ldn n a) s K=ylz n s (s.ev a) λv=>K (s.put d v):=rfl
@[simp ↓] def yO6{a b:X}:kF P d (.st1 a b) s K=ylB s (s.ev a) (s.ev b) λs'=>K (s'.put d .und):=rfl
@[simp ↓] def yPc{n:Nat}{a b:X}:kF P d (.stn n a b) s K=ynn n s (s.ev a) (s.ev b) λs'=>K (s'.put d .und):=rfl
@[simp ↓] def yRJ{n:Nat}{a:X}:kF P d (.box n a) s K=yIq n s d (s.ev a) K:=rfl
@[simp ↓] def yK3{zs:List AV}:kF P d (.alloc zs) s K=newP s d (.box zs) (λd=>.box d 0) K:=rfl
@[simp ↓] def yJv{n m:Nat}{z:List C}:kF P d (.alloca n m z) s K=newP s d (.row n (List.replicate m z)) (λd=>.row d n 0 0) K:=rfl
@[simp ↓] def yPN{n b:Nat}{z:List C}{l c:X}:kF P d (.mks n b z l c) s K=yvA n b z s d (s.ev l) (s.ev c) K:=rfl
@[simp ↓] def yQx{n:Nat}{xs:List X}:kF P d (.bsl n xs) s K=yru n (xs.map s.ev) s d K:=rfl
@[simp ↓] def yQg{zs:List AV}{ps:List (Nat×Nat×X)}:kF P d (.bld zs ps) s K=yd6 s ps zs λl=>K (s.put d (.agg l)):=rfl
@[simp ↓] def yPx{n:Nat}{x:X}{lo hi m:Option X}:kF P d (.slc n x lo hi m) s K=yhr n (s.ev x) (lo.map s.ev) (hi.map s.ev) (m.map s.ev) λv=>K (s.put d v):=rfl
@[simp ↓] def yO9{x:X}:kF P d (.len x) s K=ylv s (s.ev x) λv=>K (s.put d v):=rfl
@[simp ↓] def yNJ{n b:Nat}{z:List C}{x y:X}:kF P d (.appz n b z x y) s K=ywS n b z s d (s.ev x) (s.ev y) K:=rfl
@[congr] def yLu{o n:Nat}{z:List C}{s:St}{d:Option Nat}{a a' b b':AV}{k:St->Prop}(h2:a=a')(h3:b=b'):ywS o n z s d a b k=ywS o n z s d a' b' k:=by rw[h2,h3]
@[simp] def yOV{k b:Nat}{z:List C}{s:St}{d:Option Nat}{j:Nat}{m:Int}{K:St->Prop}:ywS k b z s d (.nil j) (.c (.i m)) K=(0<=m/\m.toNat*b<=140737488355328/\newP s d (.row k (List.replicate m.toNat z)) (λd=>.own d k m.toNat) K):=rfl
@[simp ↓] def yQk{n b:Nat}{x y:X}:kF P d (.app n b x y) s K=yjm n b s d (s.ev x) (s.ev y) K:=rfl
@[simp ↓] def step_mn{xs:List X}:kF P d (.mn xs) s K=mmP (λx y=>if y<x then y else x) (xs.map s.ev) λv=>K (s.put d v):=rfl
@[simp ↓] def step_mx{xs:List X}:kF P d (.mx xs) s K=mmP (λx y=>if x<y then y else x) (xs.map s.ev) λv=>K (s.put d v):=rfl
@[simp ↓] def yQC{n:Nat}{x:X}:kF P d (.ext n x) s K=yrj n (s.ev x) λv=>K (s.put d v):=rfl
@[simp ↓] def yOc{f:Nat}{xs:List X}:kF P d (.call f xs) s K=callT P f (xs.map s.ev) d s K ⟨⟩:=rfl
@[simp ↓] def step_cp{n:Nat}{a b:X}:kF P d (.cp n a b) s K=cpP n s d (s.ev a) (s.ev b) K:=rfl
@[simp ↓] def yO7{a:X}:kF P d (.cap a) s K=yv8 (s.ev a) λv=>K (s.put d v):=rfl
@[simp ↓] def yPh{a:X}:kF P d (.nck a) s K=ypl (s.ev a) λv=>K (s.put d v):=rfl
@[simp ↓] def yRB:kF P d .mkm s K=newP s d (.mp []) (λd=>.mpr d) K:=rfl
@[simp ↓] def yP0{x y z:X}:kF P d (.mup x y z) s K=yID s (s.ev x) (s.ev y) (s.ev z) λs'=>K (s'.put d .und):=rfl
@[simp ↓] def yPk{x y:X}:kF P d (.mlk x y) s K=yIS s (s.ev x) (s.ev y) λv=>K (s.put d v):=rfl
def Obj.kvs?:Obj->Option (List (Int×Int))
 | .mp l=>some l
 |_=>Option.none
@[simp] def kvs_mp{l:List (Int×Int)}:(Obj.mp l).kvs?=some l:=rfl
def mupR(s:St)(id:Nat)(n v:Int)(K:St->Prop):Option (List (Int×Int))->Prop
 |some kvs=>K (s.iG id (.mp (yu0 n v kvs)))
 |none=>False
def mlkR(n:Int)(k:AV->Prop):Option (List (Int×Int))->Prop
 |some kvs=>k (.c (.i (ytd n kvs)))
 |none=>False
@[simp] def yN4{s:St}{id:Nat}{n v:Int}{K:St->Prop}{kvs:List (Int×Int)}:mupR s id n v K (some kvs)=K (s.iG id (.mp (yu0 n v kvs))):=rfl
@[simp] def yOK{n:Int}{k:AV->Prop}{kvs:List (Int×Int)}:mlkR n k (some kvs)=k (.c (.i (ytd n kvs))):=rfl
@[simp ↓] def mupP_eq {s:St} {id:Nat} {n v:Int} {K:St->Prop}:yID s (.mpr id) (.c (.i n)) (.c (.i v)) K=mupR s id n v K (s.ob id).kvs?:=by
 simp only[yID];cases s.ob id<;>rfl
@[simp ↓] def mlkP_eq {s:St} {id:Nat} {n:Int} {k:AV->Prop}:yIS s (.mpr id) (.c (.i n)) k=mlkR n k (s.ob id).kvs?:=by
 simp only[yIS];cases s.ob id<;>rfl
@[simp ↓] def yPf{o:BinOp}{a b:X}:kF P d (.bit o a b) s K=ykN o (s.ev a) (s.ev b) λv=>K (s.put d v):=rfl
@[simp ↓] def yOr{o:BinOp}{a b:X}:kF P d (.binw o a b) s K=ylX o (s.ev a) (s.ev b) λv=>K (s.put d v):=rfl
@[simp ↓] def yP2{n:Nat}{a:X}:kF P d (.cvt n a) s K=yco n s (s.ev a) λv=>K (s.put d v):=rfl
@[simp ↓] def yQq{f:Nat}{xs:List X}:kF P d (.mkf f xs) s K=((xs.map s.ev).all AV.lH=true/\K (s.put d (.fn f (xs.map s.ev)))):=rfl
@[simp ↓] def val_nck{a:X}:dJ P (.nck a) ev ob k=ypl (ev a) k:=rfl
@[simp ↓] def yP9{a:X}:dJ P (.cvt 0 a) ev ob k=yco 0 (kX ob) (ev a) k:=rfl
@[simp ↓] def val_eqn{o:Bool}{q:Nat}{a b:X}:dJ P (.eqn o q a b) ev ob k=yy1 o q (ev a) (ev b) k:=rfl
@[simp ↓] def val_bit{o:BinOp}{a b:X}:dJ P (.bit o a b) ev ob k=ykN o (ev a) (ev b) k:=rfl
@[simp ↓] def val_mv{x:X}:dJ P (.mv x) ev ob k=k (ev x):=rfl
@[simp ↓] def yPb{a b c:X}:dJ P (.pick a b c) ev ob k=ydP (ev a) (ev b) (ev c) k:=rfl
@[simp ↓] def val_bin{o:BinOp}{a b:X}:dJ P (.bin o a b) ev ob k=yvc o (ev a) (ev b) k:=rfl
@[simp ↓] def val_beq{o:Bool}{a b:X}:dJ P (.beq o a b) ev ob k=yr8 o (ev a) (ev b) k:=rfl
@[simp ↓] def val_not{a:X}:dJ P (.not a) ev ob k=notP (ev a) k:=rfl
@[simp ↓] def val_idx{n:Nat}{a b:X}:dJ P (.idx n a b) ev ob k=ymX n (kX ob) (ev a) (ev b) k:=rfl
@[simp ↓] def val_fld{n:Nat}{a:X}:dJ P (.fld n a) ev ob k=yny n (kX ob) (ev a) k:=rfl
@[simp ↓] def val_ld1{a:X}:dJ P (.ld1 a) ev ob k=ylI (kX ob) (ev a) k:=rfl
@[simp ↓] def val_ldn{n:Nat}{a:X}:dJ P (.ldn n a) ev ob k=ylz n (kX ob) (ev a) k:=rfl
@[simp ↓] def val_slc{n:Nat}{x:X}{lo hi m:Option X}:dJ P (.slc n x lo hi m) ev ob k=yhr n (ev x) (lo.map ev) (hi.map ev) (m.map ev) k:=rfl
@[simp ↓] def val_sla{m n:Nat}{x h:X}:dJ P (.sla m n x h) ev ob k=ypt m n (kX ob) (ev x) (ev h) k:=rfl
@[simp ↓] def val_len{x:X}:dJ P (.len x) ev ob k=ylv (kX ob) (ev x) k:=rfl
@[simp ↓] def val_mn{xs:List X}:dJ P (.mn xs) ev ob k=mmP (λx y=>if y<x then y else x) (xs.map ev) k:=rfl
@[simp ↓] def val_mx{xs:List X}:dJ P (.mx xs) ev ob k=mmP (λx y=>if x<y then y else x) (xs.map ev) k:=rfl
@[simp ↓] def val_ext{n:Nat}{x:X}:dJ P (.ext n x) ev ob k=yrj n (ev x) k:=rfl
@[simp ↓] def yRs{f:Nat}{xs:List X}:dJ P (.call f xs) ev ob k=yyf P f (xs.map ev) ob k ⟨⟩:=rfl
@[simp ↓] def val_bld{zs:List AV}{ps:List (Nat×Nat×X)}:dJ P (.bld zs ps) ev ob k=yd6 ⟨λt=>ev (.t t),ob⟩ ps zs λl=>k (.agg l):=rfl
@[simp ↓] def yN2{f:X}{xs:List X}:dJ P (.callv f xs) ev ob k=yhz P (ev f) (xs.map ev) ob k:=rfl
@[simp ↓] def step_bad:kF P d .bad s K=False:=rfl
end
@[simp] def ev_t{s:St}{n:Nat}:s.ev (.t n)=s.env n:=rfl
@[simp] def ev_k{s:St}{a:AV}:s.ev (.k a)=a:=rfl
@[simp] def yQD{s:St}{v:AV}:s.put none v=s:=rfl
@[simp] def put_env{s:St}{d t:Nat}{v:AV}:(s.put (some d) v).env t=if t=d then v else s.env t:=rfl
attribute [simp] mJ
@[simp] def put_ob{s:St}{d:Option Nat}{id:Nat}{v:AV}:(s.put d v).ob id=s.ob id:=by cases d<;>rfl
@[simp] def yOg{s:St}{id t:Nat}{o:Obj}:(s.iG id o).env t=s.env t:=rfl
@[simp] def yQz{s:St}{id i:Nat}{o:Obj}:(s.iG id o).ob i=if i=id then o else s.ob i:=rfl
@[simp] def yMW{s:St}{id t:Nat}{o:Obj}:(s.renew id o).env t=(s.env t).kill id:=rfl
@[simp] def yQs{s:St}{id i:Nat}{o:Obj}:(s.renew id o).ob i=if i=id then o else(s.ob i).kill id:=rfl
@[simp] def obSt_ob{f:Nat->Obj}{i:Nat}:(kX f).ob i=f i:=rfl
@[simp] def objs_ob{s:St}{i:Nat}:s.yRU i=s.ob i:=rfl
@[simp] def yPD{L:List (Nat×AV)}{O:List (Nat×Obj)}{t:Nat}:(xC L O).env t=look .any L t:=rfl
@[simp] def stOf_ob{L:List (Nat×AV)}{O:List (Nat×Obj)}{t:Nat}:(xC L O).ob t=look .none O t:=rfl
@[simp] def yLX{l:List AV}{t:Nat}:(yhC l).env t=(l[t]?).getD .any:=rfl
@[simp] def yNI{l:List AV}{t:Nat}:(yhC l).ob t=.none:=rfl
@[simp] def mk_ob{e:Nat->AV}{o:Nat->Obj}{t:Nat}:(St.mk e o).ob t=o t:=rfl
@[simp] def look_nil{α:Type}{d:α}{t:Nat}:look d [] t=d:=rfl
@[simp] def yKz{α:Type}{d v:α}{k t:Nat}{l:List (Nat×α)}:look d ((k,v)::l) t=if t=k then v else look d l t:=rfl
@[simp] def upd_app{α:Type}{k:Nat}{v:α}{f:Nat->α}{n:Nat}:upd k v f n=if n=k then v else f n:=rfl
@[simp] def isNone_none:Obj.none.isNone=true:=rfl
@[simp] def yRw{s:St}{id t:Nat}:(s.drop id).env t=(s.env t).kill id:=rfl
@[simp] def drop_ob{s:St}{id i:Nat}:(s.drop id).ob i=if i=id then .none else(s.ob i).kill id:=rfl
@[simp] def yMD{s:St}:s.drops []=s:=rfl
@[simp] def yMs{s:St}{i:Nat}{l:List Nat}:s.drops (i::l)=(s.drop i).drops l:=rfl
@[simp ↓] def yMT{s:St}{d:Nat}{o:Obj}{v:Nat->AV}{K:St->Prop}:newP s (some d) o v K=((s.ob d).isNone=true/\K ((s.iG d o).put (some d) (v d))):=rfl
@[simp] def pickP_t {a b:AV} {k:AV->Prop}:ydP (.c (.b true)) a b k=k a:=by
 unfold ydP;simp only;split<;>simp
@[simp] def pickP_f {a b:AV} {k:AV->Prop}:ydP (.c (.b false)) a b k=k b:=by
 unfold ydP;simp only;split<;>simp
@[simp] def yNf{t x y:Bool}{k:AV->Prop}:ydP (.c (.b t)) (.c (.b x)) (.c (.b y)) k=k (.c (.b (cond t x y))):=rfl
@[simp] def binP_ii{o:BinOp}{a b:Int}{k:AV->Prop}:yvc o (.c (.i a)) (.c (.i b)) k=yni o a b k:=rfl
@[simp ↓] def yOZ{a b:Int}{k:AV->Prop}:yni .add a b k=(inI (a+b)/\k (.c (.i (a+b)))):=rfl
@[simp ↓] def yQP{a b:Int}{k:AV->Prop}:yni .sub a b k=(inI (a-b)/\k (.c (.i (a-b)))):=rfl
@[simp ↓] def yOU{a b:Int}{k:AV->Prop}:yni .mul a b k=(inI (a*b)/\k (.c (.i (a*b)))):=rfl
@[simp ↓] def yP7{a b:Int}{k:AV->Prop}:yni .quo a b k=(b≠0/\inI (a.tdiv b)/\k (.c (.i (a.tdiv b)))):=rfl
@[simp ↓] def yQF{a b:Int}{k:AV->Prop}:yni .rem a b k=(b≠0/\inI (a.tmod b)/\k (.c (.i (a.tmod b)))):=rfl
@[simp ↓] def yOX{a b:Int}{k:AV->Prop}:yni .eql a b k=k (.c (.b (decide (a=b)))):=rfl
@[simp ↓] def yPS{a b:Int}{k:AV->Prop}:yni .neq a b k=k (.c (.b (!decide (a=b)))):=rfl
@[simp ↓] def yPA{a b:Int}{k:AV->Prop}:yni .lss a b k=k (.c (.b (decide (a<b)))):=rfl
@[simp ↓] def yRv{a b:Int}{k:AV->Prop}:yni .leq a b k=k (.c (.b (decide (a<=b)))):=rfl
@[simp ↓] def yQa{a b:Int}{k:AV->Prop}:yni .gtr a b k=k (.c (.b (decide (b<a)))):=rfl
@[simp ↓] def yRM{a b:Int}{k:AV->Prop}:yni .geq a b k=k (.c (.b (decide (b<=a)))):=rfl
@[simp] def beqP_ff{a b:Bool}{k:AV->Prop}:yr8 false (.c (.b a)) (.c (.b b)) k=k (.c (.b (decide (a=b)))):=rfl
@[simp] def beqP_tt{a b:Bool}{k:AV->Prop}:yr8 true (.c (.b a)) (.c (.b b)) k=k (.c (.b (!decide (a=b)))):=rfl
@[simp] def notP_b{a:Bool}{k:AV->Prop}:notP (.c (.b a)) k=k (.c (.b !a)):=rfl
@[simp] def isnP_sl{n:Nat}{rows:List (List C)}{k:AV->Prop}:yxF (.c (.sl n rows)) k=∀v:Bool,(v=true->rows=[])->k (.c (.b v)):=rfl
@[simp] def idxP_sl{m m':Nat}{rows:List (List C)}{n:Int}{s:St}{k:AV->Prop}:ymX m s (.c (.sl m' rows)) (.c (.i n)) k=(m'=m/\0<=n/\n<rows.length/\k (.elt (rows.getD n.toNat []))):=rfl
@[simp] def yRP{id m m' r:Nat}{n:Int}{s:St}{k:AV->Prop}:ymX m s (.own id m' r) (.c (.i n)) k=(m'=m/\0<=n/\n<(r:Int)/\k (.row id m n 0)):=rfl
@[simp] def yO3{id m m' n:Nat}{j q:Int}{k:AV->Prop}:yve m n (.row id m' j 0) (.c (.i q)) k=(m'=m/\j=0/\0<=q/\q<(n:Int)/\k (.row id m q 0)):=rfl
@[simp] def yRn{off id o:Nat}{s:St}{k:AV->Prop}:yny off s (.box id o) k=k (.box id (o+off)):=rfl
@[simp] def yPw{off id m o:Nat}{i:Int}{s:St}{k:AV->Prop}:yny off s (.row id m i o) k=k (.row id m i (o+off)):=rfl
@[simp] def yQc{off:Nat}{cs:List C}{s:St}{k:AV->Prop}:yny off s (.elt cs) k=k (.elt (cs.drop off)):=rfl
@[simp] def av_i{id ver:Nat}{i:Int}{j:Nat}{n:Int}:(C.i n).av id ver i j=.c (.i n):=rfl
@[simp] def av_b{id ver:Nat}{i:Int}{j:Nat}{n:Bool}:(C.b n).av id ver i j=.c (.b n):=rfl
@[simp] def av_sl{id ver:Nat}{i:Int}{j k:Nat}{r:List (List C)}:(C.sl k r).av id ver i j=.c (.sl k r):=rfl
@[simp] def av_ow{id ver:Nat}{i:Int}{j k:Nat}{r:List (List C)}:(C.ow k r).av id ver i j=.sub id ver i j k r.length:=rfl
@[simp] def av_ot{id ver:Nat}{i:Int}{j k:Nat}{r:List (List C)}:(C.ot k r).av id ver i j=.sub id ver i j k r.length:=rfl
@[simp] def avs_nil{id ver:Nat}{i:Int}{j:Nat}:avs id ver i j []=[]:=rfl
@[simp] def yPV{id ver:Nat}{i:Int}{j:Nat}{c:C}{l:List C}:avs id ver i j (c::l)=c.av id ver i j::avs id ver i (j+1) l:=rfl
@[simp] def yOO{rows:List (List C)}{i j:Nat}:cellAt rows i j=(rows[i]?).bind (·[j]?):=by unfold cellAt;cases rows[i]?<;>rfl
@[simp] def yQ8{s:St}{x:C}{cs:List C}{k:AV->Prop}:ylI s (.elt (x::cs)) k=k (.c x):=rfl
@[simp] def yRA{n:Nat}{s:St}{cs:List C}{k:AV->Prop}:ylz n s (.elt cs) k=(n<=cs.length/\k (.agg ((cs.take n).map .c))):=rfl
def yxy(k:AV->Prop)(o:Nat):Obj->Prop
 | .box cells=>match cells[o]? with
  |some v=>k v
  |none=>False
 |_=>False
@[congr] def yMa{o:Nat}{a a':Obj}{k:AV->Prop}(h:a=a'):yxy k o a=yxy k o a':=by rw[h]
@[simp] def yPQ{s:St}{id o:Nat}{k:AV->Prop}:ylI s (.box id o) k=yxy k o (s.ob id):=rfl
def yBl(k:AV->Prop):Option AV->Prop|some v=>k v|none=>False
@[congr] def yOy{a a':Option AV}{k:AV->Prop}(h:a=a'):yBl k a=yBl k a':=by rw[h]
@[simp] def yNw{v:AV}{k:AV->Prop}:yBl k (some v)=k v:=rfl
@[simp] def yNB{o:Nat}{cells:List AV}{k:AV->Prop}:yxy k o (.box cells)=yBl k cells[o]?:=by first|rfl|(simp only[yxy,yBl];done)|(simp only[yxy,yBl];rfl)
def yyS(k:AV->Prop)(n o:Nat):Obj->Prop
 | .box cells=>o+n<=cells.length/\k (.agg ((cells.drop o).take n))
 |_=>False
@[congr] def yJq{n o:Nat}{a a':Obj}{k:AV->Prop}(h:a=a'):yyS k n o a=yyS k n o a':=by rw[h]
@[simp] def yQw{s:St}{id o n:Nat}{k:AV->Prop}:ylz n s (.box id o) k=yyS k n o (s.ob id):=rfl
@[simp] def yJ2{n o:Nat}{cells:List AV}{k:AV->Prop}:yyS k n o (.box cells)=(o+n<=cells.length/\k (.agg ((cells.drop o).take n))):=rfl
def ytu(k:AV->Prop)(m:Nat)(i:Int)(o id:Nat):Obj->Prop
 | .row k' rows=>k'=m/\i.toNat<rows.length/\o<m/\k (.c ((rows.getD i.toNat []).getD o default))
 | .tr k' ver rows=>k'=m/\i.toNat<rows.length/\o<m/\k (((rows.getD i.toNat []).getD o default).av id ver i o)
 |_=>False
@[congr] def yLA{m o id:Nat}{i:Int}{a a':Obj}{k:AV->Prop}(h:a=a'):ytu k m i o id a=ytu k m i o id a':=by rw[h]
@[simp] def yQi{s:St}{id m o:Nat}{i:Int}{k:AV->Prop}:ylI s (.row id m i o) k=ytu k m i o id (s.ob id):=by first|rfl|(simp only[ylI,ytu];done)|(simp only[ylI,ytu];rfl)
@[simp] def yRQ{m m' ver o id:Nat}{i:Int}{rows:List (List C)}{k:AV->Prop}:ytu k m i o id (.tr m' ver rows)=(m'=m/\i.toNat<rows.length/\o<m/\k (((rows.getD i.toNat []).getD o default).av id ver i o)):=rfl
@[simp] def yMP{m m' o id:Nat}{i:Int}{rows:List (List C)}{k:AV->Prop}:ytu k m i o id (.row m' rows)=(m'=m/\i.toNat<rows.length/\o<m/\k (.c ((rows.getD i.toNat []).getD o default))):=rfl
def yne(k:AV->Prop)(n m:Nat)(i:Int)(o id:Nat):Obj->Prop
 | .row k' rows=>k'=m/\i.toNat<rows.length/\o+n<=m/\k (.agg ((((rows.getD i.toNat []).drop o).take n).map .c))
 | .tr k' ver rows=>k'=m/\i.toNat<rows.length/\o+n<=m/\k (.agg (avs id ver i o (((rows.getD i.toNat []).drop o).take n)))
 |_=>False
@[congr] def yJl{n m o id:Nat}{i:Int}{a a':Obj}{k:AV->Prop}(h:a=a'):yne k n m i o id a=yne k n m i o id a':=by rw[h]
@[simp] def yRD{s:St}{id m o n:Nat}{i:Int}{k:AV->Prop}:ylz n s (.row id m i o) k=yne k n m i o id (s.ob id):=by first|rfl|(simp only[ylz,yne];done)|(simp only[ylz,yne];rfl)
@[simp] def yNc{n m m' ver o id:Nat}{i:Int}{rows:List (List C)}{k:AV->Prop}:yne k n m i o id (.tr m' ver rows)=(m'=m/\i.toNat<rows.length/\o+n<=m/\k (.agg (avs id ver i o (((rows.getD i.toNat []).drop o).take n)))):=rfl
@[simp] def yJ1{n m m' o id:Nat}{i:Int}{rows:List (List C)}{k:AV->Prop}:yne k n m i o id (.row m' rows)=(m'=m/\i.toNat<rows.length/\o+n<=m/\k (.agg ((((rows.getD i.toNat []).drop o).take n).map .c))):=rfl
def yC0(K:St->Prop)(s:St)(id o:Nat)(v:AV):Obj->Prop
 | .box cells=>o<cells.length/\v.lH=true/\K (s.iG id (.box (cells.set o v)))
 |_=>False
@[congr] def yKK{s:St}{id o:Nat}{v:AV}{a a':Obj}{K:St->Prop}(h:a=a'):yC0 K s id o v a=yC0 K s id o v a':=by rw[h]
@[simp] def yQO{s:St}{id o:Nat}{v:AV}{K:St->Prop}:ylB s (.box id o) v K=yC0 K s id o v (s.ob id):=rfl
@[simp] def yNP{s:St}{id o:Nat}{v:AV}{cells:List AV}{K:St->Prop}:yC0 K s id o v (.box cells)=(o<cells.length/\v.lH=true/\K (s.iG id (.box (cells.set o v)))):=rfl
def yka(K:St->Prop)(s:St)(id m:Nat)(i:Int)(o:Nat)(v:AV):Obj->Prop
 | .row k' rows=>match v.toC with
  |some c=>k'=m/\i.toNat<rows.length/\o<m/\K (s.iG id (.row m (rows.set i.toNat ((rows.getD i.toNat []).set o c))))
  |none=>False
 | .tr k' ver rows=>match pk1 s v with
  |some (c,ids)=>k'=m/\i.toNat<rows.length/\o<m/\ids.Nodup/\id∉ids/\K ((s.drops ids).iG id (.tr m (ver+1) (setAt rows i.toNat o c)))
  |none=>False
 |_=>False
@[congr] def yMb{s:St}{id m o:Nat}{i:Int}{v:AV}{a a':Obj}{K:St->Prop}(h:a=a'):yka K s id m i o v a=yka K s id m i o v a':=by rw[h]
@[simp] def yOW{s:St}{id m o:Nat}{i:Int}{v:AV}{K:St->Prop}:ylB s (.row id m i o) v K=yka K s id m i o v (s.ob id):=by first|rfl|(simp only[ylB,yka];done)|(simp only[ylB,yka];rfl)
@[simp] def yMQ{s:St}{id m m' o:Nat}{i:Int}{c:C}{rows:List (List C)}{K:St->Prop}:yka K s id m i o (.c c) (.row m' rows)=(m'=m/\i.toNat<rows.length/\o<m/\K (s.iG id (.row m (rows.set i.toNat ((rows.getD i.toNat []).set o c))))):=rfl
def yEy(K:St->Prop)(s:St)(id m:Nat)(i:Int)(o m' ver:Nat)(rows:List (List C)):Option (C×List Nat)->Prop
 |some (c,ids)=>m'=m/\i.toNat<rows.length/\o<m/\ids.Nodup/\id∉ids/\K ((s.drops ids).iG id (.tr m (ver+1) (setAt rows i.toNat o c)))
 |none=>False
@[congr] def yMI{s:St}{id m m' ver o:Nat}{i:Int}{rows:List (List C)}{K:St->Prop}{a a':Option (C×List Nat)}(h:a=a'):yEy K s id m i o m' ver rows a=yEy K s id m i o m' ver rows a':=by rw[h]
@[simp] def yRr{s:St}{id m m' ver o:Nat}{i:Int}{v:AV}{rows:List (List C)}{K:St->Prop}:yka K s id m i o v (.tr m' ver rows)=yEy K s id m i o m' ver rows (pk1 s v):=by first|rfl|(simp only[yka,yEy];done)|(simp only[yka,yEy];rfl)
@[simp] def yMR{s:St}{id m m' ver o:Nat}{i:Int}{rows:List (List C)}{c:C}{ids:List Nat}{K:St->Prop}:yEy K s id m i o m' ver rows (some (c,ids))=(m'=m/\i.toNat<rows.length/\o<m/\ids.Nodup/\id∉ids/\K ((s.drops ids).iG id (.tr m (ver+1) (setAt rows i.toNat o c)))):=rfl
@[simp] def plain_i{n:Int}:(C.i n).plain=true:=rfl
@[simp] def plain_b{n:Bool}:(C.b n).plain=true:=rfl
@[simp] def yQL{k:Nat}{r:List (List C)}:(C.sl k r).plain=true:=rfl
@[simp] def pk1_c{s:St}{x:C}:pk1 s (.c x)=if x.plain then some (x,[])else none:=rfl
@[simp] def pk1_nil{s:St}{k:Nat}:pk1 s (.nil k)=some (.sl k [],[]):=rfl
def pkO(k id n:Nat):Obj->Option (C×List Nat)
 | .row k' rows=>if k'=k then some (.ow k (rows.take n),[id])else none
 | .tr k' _ rows=>if k'=k then some (.ot k (rows.take n),[id])else none
 |_=>none
@[simp] def pk1_own{s:St}{id k n:Nat}:pk1 s (.own id k n)=pkO k id n (s.ob id):=by first|rfl|(simp only[pk1,pkO];done)|(simp only[pk1,pkO];rfl)
@[simp] def pkO_row{k id n k':Nat}{rows:List (List C)}:pkO k id n (.row k' rows)=if k'=k then some (.ow k (rows.take n),[id])else none:=rfl
@[simp] def pkO_tr{k id n k' ver:Nat}{rows:List (List C)}:pkO k id n (.tr k' ver rows)=if k'=k then some (.ot k (rows.take n),[id])else none:=rfl
@[simp] def pkl_nil{s:St}:pkl s []=some ([],[]):=rfl
@[simp] def yPO {s:St} {x:AV} {l:List AV}:pkl s (x::l)=(pk1 s x).bind λp=>(pkl s l).map λq=>(p.1::q.1,p.2++q.2):=by
 simp only[pkl];cases pk1 s x<;>cases pkl s l<;>rfl
@[simp] def pks_nil{s:St}:pks s []=some ([],[]):=rfl
@[simp] def yQp {s:St} {x:AV} {l:List AV}:pks s (x::l)=(pkl s x.cellsOf).bind λp=>(pks s l).map λq=>(p.1::q.1,p.2++q.2):=by
 simp only[pks];cases pkl s x.cellsOf<;>cases pks s l<;>rfl
def yyH(K:St->Prop)(s:St)(id o n:Nat)(l:List AV):Obj->Prop
 | .box cells=>o+n<=cells.length/\l.all AV.lH=true/\K (s.iG id (.box (cells.take o++l++cells.drop (o+n))))
 |_=>False
@[congr] def yJD{s:St}{id o n:Nat}{l:List AV}{a a':Obj}{K:St->Prop}(h:a=a'):yyH K s id o n l a=yyH K s id o n l a':=by rw[h]
@[simp] def yO2{s:St}{id o n:Nat}{l:List AV}{K:St->Prop}:ynn n s (.box id o) (.agg l) K=(l.length=n/\yyH K s id o n l (s.ob id)):=rfl
@[simp] def yMj{s:St}{id o n:Nat}{l cells:List AV}{K:St->Prop}:yyH K s id o n l (.box cells)=(o+n<=cells.length/\l.all AV.lH=true/\K (s.iG id (.box (cells.take o++l++cells.drop (o+n))))):=rfl
def ydY(K:St->Prop)(s:St)(id m:Nat)(i:Int)(o n:Nat)(l:List AV):Obj->Prop
 | .row k' rows=>match AV.yhD l with
  |some cs=>k'=m/\i.toNat<rows.length/\o+n<=m/\K (s.iG id (.row m (rows.set i.toNat ((rows.getD i.toNat []).take o++cs++(rows.getD i.toNat []).drop (o+n)))))
  |none=>False
 | .tr k' ver rows=>match pkl s l with
  |some (cs,ids)=>k'=m/\i.toNat<rows.length/\o+n<=m/\ids.Nodup/\id∉ids/\K ((s.drops ids).iG id (.tr m (ver+1) (rows.set i.toNat ((rows.getD i.toNat []).take o++cs++(rows.getD i.toNat []).drop (o+n)))))
  |none=>False
 |_=>False
@[congr] def yJe{s:St}{id m o n:Nat}{i:Int}{l:List AV}{a a':Obj}{K:St->Prop}(h:a=a'):ydY K s id m i o n l a=ydY K s id m i o n l a':=by rw[h]
@[simp] def yPd{s:St}{id m o n:Nat}{i:Int}{l:List AV}{K:St->Prop}:ynn n s (.row id m i o) (.agg l) K=(l.length=n/\ydY K s id m i o n l (s.ob id)):=by first|rfl|(simp only[ynn,ydY];done)|(simp only[ynn,ydY];rfl)
def ypZ(K:St->Prop)(s:St)(id m:Nat)(i:Int)(o n m':Nat)(rows:List (List C)):Option (List C)->Prop
 |some cs=>m'=m/\i.toNat<rows.length/\o+n<=m/\K (s.iG id (.row m (rows.set i.toNat ((rows.getD i.toNat []).take o++cs++(rows.getD i.toNat []).drop (o+n)))))
 |none=>False
@[congr] def yJy{s:St}{id m m' o n:Nat}{i:Int}{rows:List (List C)}{K:St->Prop}{a a':Option (List C)}(h:a=a'):ypZ K s id m i o n m' rows a=ypZ K s id m i o n m' rows a':=by rw[h]
@[simp] def yLc{s:St}{id m m' o n:Nat}{i:Int}{l:List AV}{rows:List (List C)}{K:St->Prop}:ydY K s id m i o n l (.row m' rows)=ypZ K s id m i o n m' rows (AV.yhD l):=by first|rfl|(simp only[ydY,ypZ];done)|(simp only[ydY,ypZ];rfl)
@[simp] def yI3 {s:St} {id m m' o n:Nat} {i:Int} {cs:List C} {rows:List (List C)} {K:St->Prop}:ypZ K s id m i o n m' rows (some cs)=
 (m'=m/\i.toNat<rows.length/\o+n<=m/\K (s.iG id (.row m (rows.set i.toNat ((rows.getD i.toNat []).take o++cs++(rows.getD i.toNat []).drop (o+n)))))):=rfl
@[simp] def yP1:AV.yhD []=some []:=rfl
@[simp] def toCs_c{x:C}{l:List AV}:AV.yhD (.c x::l)=(AV.yhD l).map (x::·):=by simp only[AV.yhD,AV.toC];cases AV.yhD l<;>rfl
@[simp] def toCs_n{n:Nat}{l:List AV}:AV.yhD (.nil n::l)=(AV.yhD l).map (.sl n []::·):=by simp only[AV.yhD,AV.toC];cases AV.yhD l<;>rfl
@[simp] def yPu{a b c:Nat}{l:List AV}:AV.yhD (.own a b c::l)=none:=by first|rfl|(simp only[AV.yhD,AV.toC];done)|(simp only[AV.yhD,AV.toC];rfl)
@[simp] def yRu{x:C}:(AV.c x).lH=true:=rfl
@[simp] def yLU{n:Nat}:(AV.nil n).lH=true:=rfl
@[simp] def yJs{n:Nat}{r:List (List C)}:(AV.clip n r).lH=true:=rfl
@[simp] def yKA{a b:Nat}:(AV.box a b).lH=true:=rfl
@[simp] def yLv{a b c:Nat}:(AV.own a b c).lH=true:=rfl
@[simp] def yJK{l:List AV}:(AV.agg l).cellsOf=l:=rfl
@[simp] def yOl{x:C}:(AV.c x).cellsOf=[.c x]:=rfl
@[simp] def yJF{a b c:Nat}:(AV.own a b c).cellsOf=[.own a b c]:=rfl
@[simp ↓] def boxP_eq{n:Nat}{s:St}{d:Option Nat}{x:AV}{K:St->Prop}:yIq n s d x K=(x.cellsOf.length=n/\x.cellsOf.all AV.lH=true/\newP s d (.box x.cellsOf) (λd=>.box d 0) K):=rfl
def mkT(k k0 n:Nat)(s:St)(d:Option Nat)(K:St->Prop)(_:Tag K):Prop:=mkP k [.sl k0 []] n s d K
def yoL{k k0 n:Nat}{s:St}{d:Option Nat}{K:St->Prop}{T:Tag K}(h:newP s d (.row k (List.replicate n [.sl k0 []])) (λd=>.own d k n) K):mkT k k0 n s d K T:=.inl h
def yXV{k k0 n:Nat}{s:St}{d:Option Nat}{K:St->Prop}{T:Tag K}(h:newP s d (.tr k 0 (List.replicate n [.ow k0 []])) (λd=>.own d k n) K):mkT k k0 n s d K T:=.inr h
@[congr] def yPj{k k0 n n':Nat}{s s':St}{d:Option Nat}{K:St->Prop}{T:Tag K}(h:s=s')(h2:n=n'):mkT k k0 n s d K T=mkT k k0 n' s' d K T:=by rw[h,h2]
def mkX(z:List C):Prop:=∀k0,z≠[.sl k0 []]
@[simp] def mkX_two{a b:C}{l:List C}:mkX (a::b::l)=True:=eq_true λk0 h=>by simp at h
@[simp] def mkX_i{a:Int}:mkX [.i a]=True:=eq_true λk0 h=>by simp at h
@[simp] def mkX_b{a:Bool}:mkX [.b a]=True:=eq_true λk0 h=>by simp at h
def mkP_x{k n:Nat}{z:List C}{s:St}{d:Option Nat}{K:St->Prop}(h:mkX z):mkP k z n s d K=newP s d (.row k (List.replicate n z)) (λd=>.own d k n) K:=by
 unfold mkP;split
 .exact absurd rfl (h _)
 .simp
@[simp] def mksP_sl {k b k0:Nat} {s:St} {d:Option Nat} {n m:Int} {K:St->Prop}:yvA k b [.sl k0 []] s d (.c (.i n)) (.c (.i m)) K=
 (0<=n/\n<=m/\(b:Int)*m<=281474976710656/\mkT k k0 n.toNat s d K ⟨⟩):=rfl
@[simp] def mksP_eq {k b:Nat} {z:List C} {s:St} {d:Option Nat} {n m:Int} {K:St->Prop} (h:mkX z):yvA k b z s d (.c (.i n)) (.c (.i m)) K=
 (0<=n/\n<=m/\(b:Int)*m<=281474976710656/\newP s d (.row k (List.replicate n.toNat z)) (λd=>.own d k n.toNat) K):=by
 show(0<=n/\n<=m/\(b:Int)*m<=281474976710656/\mkP k z n.toNat s d K)=_
 rw[mkP_x h]
def yA3(k:Nat)(s:St)(d:Option Nat)(K:St->Prop)(xs:List AV):Option (List (List C))->Prop
 |some rows=>(∀r∈rows,r.length=k)/\newP s d (.row k rows) (λd=>.own d k rows.length) K
 |none=>match pks s xs with
  |some (rows,ids)=>(∀r∈rows,r.length=k)/\ids.Nodup/\newP (s.drops ids) d (.tr k 0 rows) (λd=>.own d k rows.length) K
  |none=>False
@[congr] def yNh{k:Nat}{s:St}{d:Option Nat}{K:St->Prop}{xs:List AV}{a a':Option (List (List C))}(h:a=a'):yA3 k s d K xs a=yA3 k s d K xs a':=by rw[h]
@[simp] def bslP_eq{k:Nat}{xs:List AV}{s:St}{d:Option Nat}{K:St->Prop}:yru k xs s d K=yA3 k s d K xs (AV.rowsOf xs):=by unfold yru yA3;cases AV.rowsOf xs<;>rfl
@[simp] def yNa{k:Nat}{s:St}{d:Option Nat}{K:St->Prop}{xs:List AV}{rows:List (List C)}:yA3 k s d K xs (some rows)=((∀r∈rows,r.length=k)/\newP s d (.row k rows) (λd=>.own d k rows.length) K):=rfl
def yEv(k:Nat)(s:St)(d:Option Nat)(K:St->Prop):Option (List (List C)×List Nat)->Prop
 |some (rows,ids)=>(∀r∈rows,r.length=k)/\ids.Nodup/\newP (s.drops ids) d (.tr k 0 rows) (λd=>.own d k rows.length) K
 |none=>False
@[congr] def yNR{k:Nat}{s:St}{d:Option Nat}{K:St->Prop}{a a':Option (List (List C)×List Nat)}(h:a=a'):yEv k s d K a=yEv k s d K a':=by rw[h]
@[simp] def yML{k:Nat}{s:St}{d:Option Nat}{K:St->Prop}{xs:List AV}:yA3 k s d K xs none=yEv k s d K (pks s xs):=by first|rfl|(simp only[yA3,yEv];done)|(simp only[yA3,yEv];rfl)
@[simp] def yMN{k:Nat}{s:St}{d:Option Nat}{K:St->Prop}{rows:List (List C)}{ids:List Nat}:yEv k s d K (some (rows,ids))=((∀r∈rows,r.length=k)/\ids.Nodup/\newP (s.drops ids) d (.tr k 0 rows) (λd=>.own d k rows.length) K):=rfl
@[simp] def yKG:AV.rowsOf []=some []:=rfl
@[simp] def yJE {x:AV} {l:List AV}:AV.rowsOf (x::l)=(x.rowOf).bind λr=>(AV.rowsOf l).map (r::·):=by
 simp only[AV.rowsOf];cases x.rowOf<;>cases AV.rowsOf l<;>rfl
@[simp] def rowOf_c{x:C}:(AV.c x).rowOf=some [x]:=rfl
@[simp] def yOw{a b c:Nat}:(AV.own a b c).rowOf=none:=rfl
@[simp] def yOC{l:List AV}:(AV.agg l).rowOf=AV.yhD l:=rfl
@[simp] def slcP_2{k k':Nat}{rows:List (List C)}{l:Int}{K:AV->Prop}:yhr k (.c (.sl k' rows)) (some (.c (.i l))) none none K=(k'=k/\0<=l/\l<=rows.length/\K (.c (.sl k (rows.drop l.toNat)))):=rfl
@[simp] def slcP_3{k k':Nat}{rows:List (List C)}{h:Int}{K:AV->Prop}:yhr k (.c (.sl k' rows)) none (some (.c (.i h))) none K=(k'=k/\0<=h/\h<=rows.length/\K (.c (.sl k (rows.take h.toNat)))):=rfl
@[simp] def slcP_4{k k':Nat}{rows:List (List C)}{h m:Int}{K:AV->Prop}:yhr k (.c (.sl k' rows)) none (some (.c (.i h))) (some (.c (.i m))) K=(k'=k/\0<=h/\h=m/\h<=rows.length/\K (.clip k (rows.take h.toNat))):=rfl
@[simp] def slcP_5{k k' id n:Nat}{h:Int}{K:AV->Prop}:yhr k (.own id k' n) none (some (.c (.i h))) none K=(k'=k/\0<=h/\h<=(n:Int)/\K (.own id k h.toNat)):=rfl
@[simp] def slcP_6{k k' id n:Nat}{l:Int}{K:AV->Prop}:yhr k (.own id k' n) (some (.c (.i l))) none none K=(k'=k/\0<=l/\l<=(n:Int)/\K (.cut id k l.toNat (n-l.toNat))):=rfl
@[simp] def slcP_8{k n:Nat}{h:Int}{K:AV->Prop}:yhr k (.nil n) none (some (.c (.i h))) none K=(h=0/\K (.nil k)):=rfl
@[simp] def lenP_sl{k:Nat}{rows:List (List C)}{s:St}{K:AV->Prop}:ylv s (.c (.sl k rows)) K=(rows.length<=maxLen->K (.c (.i rows.length))):=rfl
@[simp] def yPm{id k n:Nat}{s:St}{K:AV->Prop}:ylv s (.own id k n) K=(n<=maxLen->K (.c (.i n))):=rfl
@[simp] def yRx{s:St}{n:Nat}{K:AV->Prop}:ylv s (.nil n) K=K (.c (.i 0)):=rfl
def mmK(f:Int->Int->Int)(K:AV->Prop):Option (List Int)->Prop
 |some (n::r)=>K (.c (.i (r.foldl f n)))
 |_=>False
@[congr] def yRk{f:Int->Int->Int}{K:AV->Prop}{a a':Option (List Int)}(h:a=a'):mmK f K a=mmK f K a':=by rw[h]
@[simp] def mmP_eq{f:Int->Int->Int}{l:List AV}{K:AV->Prop}:mmP f l K=mmK f K (intsOf l):=rfl
@[simp] def yRC{f:Int->Int->Int}{n:Int}{r:List Int}{K:AV->Prop}:mmK f K (some (n::r))=K (.c (.i (r.foldl f n))):=rfl
@[simp] def yKC:intsOf []=some []:=rfl
@[simp] def yI0{n:Int}{l:List AV}:intsOf (.c (.i n)::l)=(intsOf l).map (n::·):=rfl
@[simp] def yQH{i:Nat}{l:List AV}{K:AV->Prop}(h:i<1048576):yrj i (.tup l) K=yBl K l[i]?:=by unfold yrj yBl;simp only;cases l[i]?<;>simp[h]
def ypu (k by_:Nat) (s:St) (d:Option Nat) (x:AV) (K:St->Prop) (new:List (List C)):Prop:=
 match x with
  | .nil _=>new.length*by_<=140737488355328/\newP s d (.row k new) (λd=>.own d k new.length) K
  | .clip k' rows=>k'=k/\(0<new.length\/rows.length=0)/\(rows.length+new.length)*by_<=140737488355328/\newP s d (.row k (rows++new)) (λd=>.own d k (rows.length+new.length)) K
  | .own id k' n=>match s.ob id with
   | .row _ rows=>k'=k/\n=rows.length/\(rows.length+new.length)*by_<=140737488355328/\
    K ((s.renew id (.row k (rows++new))).put d (.own id k (rows.length+new.length)))
   | .tr _ _ rows=>k'=k/\n=rows.length/\(rows.length+new.length)*by_<=140737488355328/\
    K ((s.renew id (.tr k 0 (rows++new))).put d (.own id k (rows.length+new.length)))
   |_=>False
  | .sub id ver i j k' n=>match s.ob id with
   | .tr k0 ver' rows=>ver'=ver/\match cellAt rows i.toNat j with
    |some (.ow k2 rs)=>k'=k/\k2=k/\(rs.length+new.length)*by_<=140737488355328/\match d with
     |some d=>(s.ob d).isNone=true/\K (((s.iG id (.tr k0 (ver+1) (setAt rows i.toNat j .jk))).renew d (.row k (rs++new))).put (some d) (.own d k (rs.length+new.length)))
     |none=>False
    |some (.ot k2 rs)=>k'=k/\k2=k/\(rs.length+new.length)*by_<=140737488355328/\match d with
     |some d=>(s.ob d).isNone=true/\K (((s.iG id (.tr k0 (ver+1) (setAt rows i.toNat j .jk))).renew d (.tr k 0 (rs++new))).put (some d) (.own d k (rs.length+new.length)))
     |none=>False
    |_=>False
   |_=>False
  |_=>False
def appG (k by_:Nat) (s:St) (d:Option Nat) (x:AV) (K:St->Prop) (y:AV):Option (List (List C))->Prop
 |some new=>ypu k by_ s d x K new
 | none=>match ydk s k y with
  | some (idy,new)=>match x with
   | .nil _=>new.length*by_<=140737488355328/\newP (s.drop idy) d (.tr k 0 new) (λd=>.own d k new.length) K
   | .own id k' n=>id≠idy/\match s.ob id with
    | .row _ rows=>k'=k/\n=rows.length/\(rows.length+new.length)*by_<=140737488355328/\
     K (((s.drop idy).renew id (.tr k 0 (rows++new))).put d (.own id k (rows.length+new.length)))
    | .tr _ _ rows=>k'=k/\n=rows.length/\(rows.length+new.length)*by_<=140737488355328/\
     K (((s.drop idy).renew id (.tr k 0 (rows++new))).put d (.own id k (rows.length+new.length)))
    |_=>False
   |_=>False
  |none=>False
@[congr] def yMx{k b:Nat}{s:St}{d:Option Nat}{x y:AV}{K:St->Prop}{a a':Option (List (List C))}(h:a=a'):appG k b s d x K y a=appG k b s d x K y a':=by rw[h]
@[simp] def yRI {k b:Nat} {s:St} {d:Option Nat} {x y:AV} {K:St->Prop}:yjm k b s d x y K=appG k b s d x K y (dI s k y):=by
 unfold yjm appG ypu;cases dI s k y with
 |none=>rfl
 |some new=>cases x<;>rfl
@[congr] def yMF{k b:Nat}{s:St}{d:Option Nat}{x x':AV}{K:St->Prop}{new:List (List C)}(h:x=x'):ypu k b s d x K new=ypu k b s d x' K new:=by rw[h]
@[simp] def yNl{k b:Nat}{s:St}{d:Option Nat}{x y:AV}{K:St->Prop}{new:List (List C)}:appG k b s d x K y (some new)=ypu k b s d x K new:=rfl
@[simp] def yQS{k b q:Nat}{s:St}{d:Option Nat}{K:St->Prop}{new:List (List C)}:ypu k b s d (.nil q) K new=(new.length*b<=140737488355328/\newP s d (.row k new) (λd=>.own d k new.length) K):=rfl
@[simp] def yMZ {k k' b:Nat} {s:St} {d:Option Nat} {K:St->Prop} {rows new:List (List C)}:ypu k b s d (.clip k' rows) K new=
 (k'=k/\(0<new.length\/rows.length=0)/\(rows.length+new.length)*b<=140737488355328/\newP s d (.row k (rows++new)) (λd=>.own d k (rows.length+new.length)) K):=rfl
def yBW(k b:Nat)(s:St)(d:Option Nat)(id k' n:Nat)(new:List (List C))(K:St->Prop):Obj->Prop
 | .row _ rows=>k'=k/\n=rows.length/\(rows.length+new.length)*b<=140737488355328/\K ((s.renew id (.row k (rows++new))).put d (.own id k (rows.length+new.length)))
 | .tr _ _ rows=>k'=k/\n=rows.length/\(rows.length+new.length)*b<=140737488355328/\K ((s.renew id (.tr k 0 (rows++new))).put d (.own id k (rows.length+new.length)))
 |_=>False
@[congr] def yNb{k b:Nat}{s:St}{d:Option Nat}{id k' n:Nat}{new:List (List C)}{K:St->Prop}{a a':Obj}(h:a=a'):yBW k b s d id k' n new K a=yBW k b s d id k' n new K a':=by rw[h]
@[simp] def yPt{k k' b id n:Nat}{s:St}{d:Option Nat}{K:St->Prop}{new:List (List C)}:ypu k b s d (.own id k' n) K new=yBW k b s d id k' n new K (s.ob id):=by first|rfl|(simp only[ypu,yBW];done)|(simp only[ypu,yBW];rfl)
@[simp] def yPB {k k' b id n q:Nat} {s:St} {d:Option Nat} {K:St->Prop} {rows new:List (List C)}:yBW k b s d id k' n new K (.row q rows)=
 (k'=k/\n=rows.length/\(rows.length+new.length)*b<=140737488355328/\K ((s.renew id (.row k (rows++new))).put d (.own id k (rows.length+new.length)))):=rfl
@[simp] def appO_tr {k k' b id n q ver:Nat} {s:St} {d:Option Nat} {K:St->Prop} {rows new:List (List C)}:yBW k b s d id k' n new K (.tr q ver rows)=
 (k'=k/\n=rows.length/\(rows.length+new.length)*b<=140737488355328/\K ((s.renew id (.tr k 0 (rows++new))).put d (.own id k (rows.length+new.length)))):=rfl
def yz0(k b:Nat)(s:St)(d id ver:Nat)(i:Int)(j k':Nat)(new:List (List C))(K:St->Prop):Obj->Prop
 | .tr k0 ver' rows=>ver'=ver/\match cellAt rows i.toNat j with
  |some (.ow k2 rs)=>k'=k/\k2=k/\(rs.length+new.length)*b<=140737488355328/\(s.ob d).isNone=true/\K (((s.iG id (.tr k0 (ver+1) (setAt rows i.toNat j .jk))).renew d (.row k (rs++new))).put (some d) (.own d k (rs.length+new.length)))
  |some (.ot k2 rs)=>k'=k/\k2=k/\(rs.length+new.length)*b<=140737488355328/\(s.ob d).isNone=true/\K (((s.iG id (.tr k0 (ver+1) (setAt rows i.toNat j .jk))).renew d (.tr k 0 (rs++new))).put (some d) (.own d k (rs.length+new.length)))
  |_=>False
 |_=>False
@[congr] def yM8{k b:Nat}{s:St}{d id ver:Nat}{i:Int}{j k':Nat}{new:List (List C)}{K:St->Prop}{a a':Obj}(h:a=a'):yz0 k b s d id ver i j k' new K a=yz0 k b s d id ver i j k' new K a':=by rw[h]
@[simp] def yQA{k k' b id ver n:Nat}{i:Int}{j:Nat}{s:St}{d:Nat}{K:St->Prop}{new:List (List C)}:ypu k b s (some d) (.sub id ver i j k' n) K new=yz0 k b s d id ver i j k' new K (s.ob id):=by first|rfl|(simp only[ypu,yz0];done)|(simp only[ypu,yz0];rfl)
def yst(k b:Nat)(s:St)(d id ver k0:Nat)(rows:List (List C))(i:Int)(j k':Nat)(new:List (List C))(K:St->Prop):Option C->Prop
 |some (.ow k2 rs)=>k'=k/\k2=k/\(rs.length+new.length)*b<=140737488355328/\(s.ob d).isNone=true/\K (((s.iG id (.tr k0 (ver+1) (setAt rows i.toNat j .jk))).renew d (.row k (rs++new))).put (some d) (.own d k (rs.length+new.length)))
 |some (.ot k2 rs)=>k'=k/\k2=k/\(rs.length+new.length)*b<=140737488355328/\(s.ob d).isNone=true/\K (((s.iG id (.tr k0 (ver+1) (setAt rows i.toNat j .jk))).renew d (.tr k 0 (rs++new))).put (some d) (.own d k (rs.length+new.length)))
 |_=>False
@[congr] def yL3{k b:Nat}{s:St}{d id ver k0:Nat}{rows:List (List C)}{i:Int}{j k':Nat}{new:List (List C)}{K:St->Prop}{a a':Option C}(h:a=a'):yst k b s d id ver k0 rows i j k' new K a=yst k b s d id ver k0 rows i j k' new K a':=by rw[h]
@[simp] def appS_tr{k k' b id ver k0 ver':Nat}{i:Int}{j:Nat}{s:St}{d:Nat}{K:St->Prop}{rows new:List (List C)}:yz0 k b s d id ver i j k' new K (.tr k0 ver' rows)=(ver'=ver/\yst k b s d id ver k0 rows i j k' new K (cellAt rows i.toNat j)):=by first|rfl|(simp only[yz0,yst];done)|(simp only[yz0,yst];rfl)
@[simp] def yQt{k k' k2 b id ver k0:Nat}{i:Int}{j:Nat}{s:St}{d:Nat}{K:St->Prop}{rows rs new:List (List C)}:yst k b s d id ver k0 rows i j k' new K (some (.ow k2 rs))=(k'=k/\k2=k/\(rs.length+new.length)*b<=140737488355328/\(s.ob d).isNone=true/\K (((s.iG id (.tr k0 (ver+1) (setAt rows i.toNat j .jk))).renew d (.row k (rs++new))).put (some d) (.own d k (rs.length+new.length)))):=rfl
def yyW (k b:Nat) (s:St) (d:Option Nat) (x:AV) (K:St->Prop):Option (Nat×List (List C))->Prop
 | some (idy,new)=>match x with
  | .nil _=>new.length*b<=140737488355328/\newP (s.drop idy) d (.tr k 0 new) (λd=>.own d k new.length) K
  | .own id k' n=>id≠idy/\match s.ob id with
   | .row _ rows=>k'=k/\n=rows.length/\(rows.length+new.length)*b<=140737488355328/\
    K (((s.drop idy).renew id (.tr k 0 (rows++new))).put d (.own id k (rows.length+new.length)))
   | .tr _ _ rows=>k'=k/\n=rows.length/\(rows.length+new.length)*b<=140737488355328/\
    K (((s.drop idy).renew id (.tr k 0 (rows++new))).put d (.own id k (rows.length+new.length)))
   |_=>False
  |_=>False
 |none=>False
@[congr] def yNp{k b:Nat}{s:St}{d:Option Nat}{x x':AV}{K:St->Prop}{a a':Option (Nat×List (List C))}(h:a=a')(h2:x=x'):yyW k b s d x K a=yyW k b s d x' K a':=by rw[h,h2]
@[simp] def yNE{k b:Nat}{s:St}{d:Option Nat}{x y:AV}{K:St->Prop}:appG k b s d x K y none=yyW k b s d x K (ydk s k y):=by first|rfl|(simp only[appG,yyW];done)|(simp only[appG,yyW];rfl)
@[simp] def yQX{k b q idy:Nat}{s:St}{d:Option Nat}{K:St->Prop}{new:List (List C)}:yyW k b s d (.nil q) K (some (idy,new))=(new.length*b<=140737488355328/\newP (s.drop idy) d (.tr k 0 new) (λd=>.own d k new.length) K):=rfl
def yue(k b:Nat)(s:St)(d:Option Nat)(id k' n idy:Nat)(new:List (List C))(K:St->Prop):Obj->Prop
 | .row _ rows=>k'=k/\n=rows.length/\(rows.length+new.length)*b<=140737488355328/\
  K (((s.drop idy).renew id (.tr k 0 (rows++new))).put d (.own id k (rows.length+new.length)))
 | .tr _ _ rows=>k'=k/\n=rows.length/\(rows.length+new.length)*b<=140737488355328/\
  K (((s.drop idy).renew id (.tr k 0 (rows++new))).put d (.own id k (rows.length+new.length)))
 |_=>False
@[congr] def yMn{k b:Nat}{s:St}{d:Option Nat}{id k' n idy:Nat}{new:List (List C)}{K:St->Prop}{a a':Obj}(h:a=a'):yue k b s d id k' n idy new K a=yue k b s d id k' n idy new K a':=by rw[h]
@[simp] def yQN{k k' b id n idy:Nat}{s:St}{d:Option Nat}{K:St->Prop}{new:List (List C)}:yyW k b s d (.own id k' n) K (some (idy,new))=(id≠idy/\yue k b s d id k' n idy new K (s.ob id)):=by first|rfl|(simp only[yyW,yue];done)|(simp only[yyW,yue];rfl)
@[simp] def yNA {k k' b id n idy q:Nat} {s:St} {d:Option Nat} {K:St->Prop} {rows new:List (List C)}:yue k b s d id k' n idy new K (.row q rows)=(k'=k/\n=rows.length/\(rows.length+new.length)*b<=140737488355328/\
 K (((s.drop idy).renew id (.tr k 0 (rows++new))).put d (.own id k (rows.length+new.length)))):=rfl
@[simp] def yQU {k k' b id n idy q ver:Nat} {s:St} {d:Option Nat} {K:St->Prop} {rows new:List (List C)}:yue k b s d id k' n idy new K (.tr q ver rows)=(k'=k/\n=rows.length/\(rows.length+new.length)*b<=140737488355328/\
 K (((s.drop idy).renew id (.tr k 0 (rows++new))).put d (.own id k (rows.length+new.length)))):=rfl
def yxO(k k' id n:Nat):Obj->Option (Nat×List (List C))
 | .tr _ _ rows=>if k'=k then some (id,rows.take n)else none
 |_=>none
@[simp] def yM6{s:St}{k k' id n:Nat}:ydk s k (.own id k' n)=yxO k k' id n (s.ob id):=by first|rfl|(simp only[ydk,yxO];done)|(simp only[ydk,yxO];rfl)
@[simp] def yM4{k k' id n q ver:Nat}{rows:List (List C)}:yxO k k' id n (.tr q ver rows)=if k'=k then some (id,rows.take n)else none:=rfl
@[simp] def yKD{s:St}{k k':Nat}{rows:List (List C)}:dI s k (.c (.sl k' rows))=if k'=k then some rows else none:=rfl
def yIV(k k' n:Nat):Obj->Option (List (List C))
 | .row _ rows=>if k'=k then some (rows.take n)else none
 |_=>none
@[simp] def yJa{s:St}{k k' id n:Nat}:dI s k (.own id k' n)=yIV k k' n (s.ob id):=by simp only[dI,yIV];cases s.ob id<;>rfl
@[simp] def yPv{k k' n q:Nat}{rows:List (List C)}:yIV k k' n (.row q rows)=if k'=k then some (rows.take n)else none:=rfl
@[simp] def srcO_tr{k k' n q ver:Nat}{rows:List (List C)}:yIV k k' n (.tr q ver rows)=none:=rfl
def yyL(k k' lo n:Nat):Obj->Option (List (List C))
 | .row _ rows=>if k'=k then some ((rows.drop lo).take n)else none
 |_=>none
@[simp] def yJH{s:St}{k k' id lo n:Nat}:dI s k (.cut id k' lo n)=yyL k k' lo n (s.ob id):=by first|rfl|(simp only[dI,yyL];done)|(simp only[dI,yyL];rfl)
@[simp] def yKX{k k' lo n q:Nat}{rows:List (List C)}:yyL k k' lo n (.row q rows)=if k'=k then some ((rows.drop lo).take n)else none:=rfl
def cpK(k:Nat)(s:St)(d:Option Nat)(x:AV)(K:St->Prop):Option (List (List C))->Prop
 | some new=>match x with
  | .own id k' n=>match s.ob id with
   | .row _ rows=>k'=k/\n<=rows.length/\K ((s.iG id (.row k (new.take n++rows.drop (min new.length n)))).put d (.c (.i (min new.length n:Nat))))
   |_=>False
  |_=>False
 |none=>False
@[congr] def yXZ{k:Nat}{s:St}{d:Option Nat}{x:AV}{K:St->Prop}{a a':Option (List (List C))}(h:a=a'):cpK k s d x K a=cpK k s d x K a':=by rw[h]
@[simp] def cpP_eq{k:Nat}{s:St}{d:Option Nat}{x y:AV}{K:St->Prop}:cpP k s d x y K=cpK k s d x K (dI s k y):=by first|rfl|(simp only[cpP,cpK];done)|(simp only[cpP,cpK];rfl)
def cpO(k:Nat)(s:St)(d:Option Nat)(id k' n:Nat)(new:List (List C))(K:St->Prop):Obj->Prop
 | .row _ rows=>k'=k/\n<=rows.length/\K ((s.iG id (.row k (new.take n++rows.drop (min new.length n)))).put d (.c (.i (min new.length n:Nat))))
 |_=>False
@[congr] def yXX{k:Nat}{s:St}{d:Option Nat}{id k' n:Nat}{new:List (List C)}{K:St->Prop}{a a':Obj}(h:a=a'):cpO k s d id k' n new K a=cpO k s d id k' n new K a':=by rw[h]
@[simp] def cpK_own{k id k' n:Nat}{s:St}{d:Option Nat}{K:St->Prop}{new:List (List C)}:cpK k s d (.own id k' n) K (some new)=cpO k s d id k' n new K (s.ob id):=by first|rfl|(simp only[cpK,cpO];done)|(simp only[cpK,cpO];rfl)
@[simp] def cpO_row{k id k' n q:Nat}{s:St}{d:Option Nat}{K:St->Prop}{rows new:List (List C)}:cpO k s d id k' n new K (.row q rows)=(k'=k/\n<=rows.length/\K ((s.iG id (.row k (new.take n++rows.drop (min new.length n)))).put d (.c (.i (min new.length n:Nat))))):=rfl
@[simp] def yQW{n:Nat}{K:AV->Prop}:yv8 (.nil n) K=K (.c (.i 0)):=rfl
@[simp] def yQJ{id o:Nat}{K:AV->Prop}:ypl (.box id o) K=K (.box id o):=rfl
@[simp] def yQj{id k o:Nat}{i:Int}{K:AV->Prop}:ypl (.row id k i o) K=K (.row id k i o):=rfl
@[simp] def yPz{cs:List C}{K:AV->Prop}:ypl (.elt cs) K=K (.elt cs):=rfl
@[simp] def yP4 {o:Bool} {q:Nat} {a b:List AV} {k:AV->Prop}:yy1 o q (.agg a) (.agg b) k=(match intsOf a,intsOf b with
 |some m,some n=>m.length=q/\n.length=q/\k (.c (.b (if o then !decide (m=n)else decide (m=n))))
 |_,_=>False):=rfl
@[simp] def yPZ{a b:Int}{k:AV->Prop}:ykN .and (.c (.i a)) (.c (.i b)) k=k (.c (.i (yG1 a b))):=rfl
@[simp] def yRE{a b:Int}{k:AV->Prop}:ykN .xor (.c (.i a)) (.c (.i b)) k=k (.c (.i (yHQ a b))):=rfl
@[simp] def yPM{a b:Int}{k:AV->Prop}:ykN .shl (.c (.i a)) (.c (.i b)) k=(0<=b/\k (.c (.i (yy4 a b)))):=rfl
@[simp] def yNr{a:Nat}{b:Int}{k:AV->Prop}:ykN .shr (.c (.q a)) (.c (.i b)) k=(0<=b/\k (.c (.q (a/2^(min b.toNat 64))))):=rfl
@[simp] def yPX{a b:Int}{k:AV->Prop}:ykN .shr (.c (.i a)) (.c (.i b)) k=(0<=b/\k (.c (.i (yzh a b)))):=rfl
@[simp] def yMG{a b:Int}{k:AV->Prop}:ylX .add (.c (.i a)) (.c (.i b)) k=k (.c (.i (IntKind.i64.wrap (a+b)))):=rfl
@[simp] def yNk{a b:Int}{k:AV->Prop}:ylX .mul (.c (.i a)) (.c (.i b)) k=k (.c (.i (IntKind.i64.wrap (a*b)))):=rfl
@[simp] def cvtP_0u{s:St}{a:Nat}{k:AV->Prop}:yco 0 s (.c (.u a)) k=k (.c (.i a)):=rfl
@[simp] def cvtP_0q{s:St}{a:Nat}{k:AV->Prop}:yco 0 s (.c (.q a)) k=(a<=9223372036854775807/\k (.c (.i a))):=rfl
@[simp] def cvtP_3i{s:St}{a:Int}{k:AV->Prop}:yco 3 s (.c (.i a)) k=(0<=a/\k (.c (.q a.toNat))):=rfl
@[simp] def kill_c{id:Nat}{x:C}:(AV.c x).kill id=.c x:=rfl
@[simp] def yP6{id n:Nat}:(AV.nil n).kill id=.nil n:=rfl
@[simp] def yNq{id n:Nat}:(AV.nil n).fV id=.nil n:=rfl
@[simp] def yM0 {id i k n:Nat}:(AV.own i k n).fV id=if i=id then .any else .own i k n:=by
 simp only[AV.fV,AV.ybe];by_cases h:i=id<;>simp[h]
@[simp] def yQ4{id k v:Nat}{l:List (List C)}:(Obj.tr k v l).kill id=.tr k v l:=rfl
@[simp] def yRq{id:Nat}{r:List C}:(AV.elt r).kill id=.elt r:=rfl
@[simp] def yQB {id i o:Nat}:(AV.box i o).kill id=if i=id then .any else .box i o:=by
 simp only[AV.kill,AV.fV,AV.ybe];by_cases h:i=id<;>simp[h]
@[simp] def yQv {id i k n:Nat}:(AV.own i k n).kill id=if i=id then .any else .own i k n:=by
 simp only[AV.kill,AV.fV,AV.ybe];by_cases h:i=id<;>simp[h]
@[simp] def kill1_c{id:Nat}{x:C}:(AV.c x).fV id=.c x:=rfl
@[simp] def yMw{id:Nat}{l:List AV}:(Obj.box l).kill id=.box (l.map (AV.fV id)):=rfl
@[simp] def yOP{id k:Nat}{l:List (List C)}:(Obj.row k l).kill id=.row k l:=rfl
@[simp] def yLZ{id:Nat}:Obj.none.kill id=.none:=rfl
@[simp ↓] def yNS{s:St}{l:List AV}{K:List AV->Prop}:yd6 s [] l K=K l:=rfl
@[simp ↓] def yKo {s:St} {o n:Nat} {x:X} {ps:List (Nat×Nat×X)} {l:List AV} {K:List AV->Prop}:yd6 s ((o,n,x)::ps) l K=
 ((s.ev x).cellsOf.length=n/\(s.ev x).cellsOf.all AV.lH=true/\o+n<=l.length/\yd6 s ps (l.take o++(s.ev x).cellsOf++l.drop (o+n)) K):=rfl
@[simp] def out1_c{s:St}{z:C}{y:AV}:out1 s (.c z) y=(y=.c z):=rfl
@[simp] def yNu{s:St}{k:Nat}{r:List (List C)}{y:AV}:out1 s (.clip k r) y=(y=.c (.sl k r)\/y=.clip k r):=rfl
@[simp] def yPe{s:St}{n:Nat}{y:AV}:out1 s (.nil n) y=((∃k,y=.c (.sl k []))\/∃k,y=.nil k):=rfl
@[simp] def yRf{s:St}{cs:List C}{y:AV}:out1 s (.elt cs) y=(y=.elt cs):=rfl
def outR(k:Nat)(y:AV):Option (List (List C))->Prop
 |some r=>y=.c (.sl k r)
 |none=>False
@[simp] def yNi{k:Nat}{y:AV}{r:List (List C)}:outR k y (some r)=(y=.c (.sl k r)):=rfl
def yF4(k n:Nat)(y:AV):Obj->Prop
 | .row _ rows=>y=.c (.sl k (rows.take n))
 | .tr _ _ rows=>outR k y (yaq (rows.take n))
 |_=>False
@[simp] def yG7{s:St}{id k n:Nat}{y:AV}:out1 s (.own id k n) y=yF4 k n y (s.ob id):=by simp only[out1,yF4];cases s.ob id<;>rfl
@[simp] def yQ7{k n q:Nat}{rows:List (List C)}{y:AV}:yF4 k n y (.row q rows)=(y=.c (.sl k (rows.take n))):=rfl
@[simp] def outO_tr{k n q ver:Nat}{rows:List (List C)}{y:AV}:yF4 k n y (.tr q ver rows)=outR k y (yaq (rows.take n)):=rfl
@[simp] def yME{s:St}:ycm s [] []=True:=rfl
@[simp] def yLj{s:St}{x y:AV}{l l':List AV}:ycm s (x::l) (y::l')=(out1 s x y/\ycm s l l'):=rfl
@[simp] def yPR{s:St}{l l':List AV}:nZ s (.agg l) (.agg l')=ycm s l l':=rfl
@[simp] def out2_c{s:St}{z:C}{y:AV}:nZ s (.c z) y=(y=.c z):=rfl
@[simp] def yN8{s:St}{k:Nat}{r:List (List C)}{y:AV}:nZ s (.clip k r) y=(y=.c (.sl k r)\/y=.clip k r):=rfl
@[simp] def yO5{s:St}{n:Nat}{y:AV}:nZ s (.nil n) y=((∃k,y=.c (.sl k []))\/∃k,y=.nil k):=rfl
@[simp] def yQQ{s:St}{cs:List C}{y:AV}:nZ s (.elt cs) y=(y=.elt cs):=rfl
@[simp] def out2_fn{s:St}{f f':Nat}{l l':List AV}:nZ s (.fn f l) (.fn f' l')=(f=f'/\ycm s l l'):=rfl
@[simp] def yP3{s:St}{id k n:Nat}{y:AV}:nZ s (.own id k n) y=yF4 k n y (s.ob id):=yG7
@[simp] def yM3{s:St}:iO s [] []=True:=rfl
@[simp] def yKw{s:St}{x y:AV}{l l':List AV}:iO s (x::l) (y::l')=(nZ s x y/\iO s l l'):=rfl
@[simp] def yRR{s:St}{r:RS}{y:AV}:ybG s [r] y=ydN s r y:=rfl
@[simp] def yRy{s:St}{r r':RS}{y:AV}:ybG s [r,r'] y=∃ys,y=.tup ys/\yjv s [r,r'] ys:=rfl
@[simp] def yKa{s:St}{r r' r2:RS}{y:AV}:ybG s [r,r',r2] y=∃ys,y=.tup ys/\yjv s [r,r',r2] ys:=rfl
@[simp] def yL4{s:St}:yjv s [] []=True:=rfl
@[simp] def yJh{s:St}{r:RS}{rs:List RS}{y:AV}{ys:List AV}:yjv s (r::rs) (y::ys)=(ydN s r y/\yjv s rs ys):=rfl
@[simp] def yQ5{s:St}{n:Nat}{y:AV}:ydN s (.t n) y=nZ s (s.env n) y:=rfl
def clA(s:St)(k:Nat)(y:AV):AV->Prop
 | .box id 0=>match s.ob id with
  | .box cells=>cells.length=k/\nZ s (.agg cells) y
  |_=>False
 |_=>False
@[congr] def yRz{s:St}{k:Nat}{y a a':AV}(h:a=a'):clA s k y a=clA s k y a':=by rw[h]
@[simp] def yOD {s:St} {n k:Nat} {y:AV}:ydN s (.cl n k) y=clA s k y (s.env n):=by
 simp only[ydN,clA];cases s.env n with
 |box id o=>cases o<;>rfl
 |_=>rfl
def clO(s:St)(k:Nat)(y:AV):Obj->Prop
 | .box cells=>cells.length=k/\nZ s (.agg cells) y
 |_=>False
@[simp] def clA_box{s:St}{k id:Nat}{y:AV}:clA s k y (.box id 0)=clO s k y (s.ob id):=by first|rfl|(simp only[clA,clO];done)|(simp only[clA,clO];rfl)
@[simp] def clO_box{s:St}{k:Nat}{y:AV}{cells:List AV}:clO s k y (.box cells)=(cells.length=k/\nZ s (.agg cells) y):=rfl
end
@[simp] def yJM{k k':Nat}{r r':List (List C)}:(Obj.row k r).leO (.row k' r')=(Obj.row k r=.row k' r'):=rfl
@[simp] def yLd{k k' v:Nat}{r r':List (List C)}:(Obj.row k r).leO (.tr k' v r')=(k=k'/\r=r'):=rfl
@[simp] def yM2{k k' v v':Nat}{r r':List (List C)}:(Obj.tr k v r).leO (.tr k' v' r')=(k=k'/\r=r'):=rfl
@[simp] def yJt{l l':List AV}:(Obj.box l).leO (.box l')=(Obj.box l=.box l'):=rfl
def ints(l:List Int):List (List C):=l.map λn=>[.i n]
end Go.Proofs.YtdadkiofenhnbaaGreat
