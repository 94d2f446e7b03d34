/- The law FnAllArrive and the law FnTop holds for all arguments, without conditions. -/
import Derived.Test.YtdadkiofenhnbaaGreatT11
set_option linter.all false
set_option maxRecDepth 100000
set_option maxHeartbeats 4000000
namespace Go.Proofs.YtdadkiofenhnbaaGreat
open Go.RowKit
open Go.ChangeShapes Go.WideShapes
noncomputable section
def yacH(code:List UInt8)(id:Int)(p:Nat×Int)(hp:p.1<=code.length)(hid:0<=id/\id<=1000000):yZW prg 46 (yYV code p) (yYV code (yaaC code id p)) [.c (.i id)] (.agg [.c (.b (yY3 code id p).Up),.c (.ot 1 ((yY3 code id p).Rows.map eoB))]):=by
 refine yZP yaaZ (by simp) λhwf hwf2=>?_;have hK:=yZT code p;refine goQ_ ?_;refine yYE (yabR code 2 p hp (by omega) (by omega)) (by simp) (by simp) rfl (by simp[fD]) (goQ_ ?_);refine yYE (yYF code 4 (yYA code 2 p) (yYD hp) (by omega) (by omega)) (by simp) (by simp) rfl (by simp[fD]) (goQ_ ?_);refine⟨by unfold inI;omega,?_⟩;have hp0:(yYA code 4 (yYA code 2 p)).1<=code.length:=yYD (yYD hp);rw[<-hK.1];have eN:yaaC code id p=(yYG code id (yYA code 4 (yYA code 2 p)) (yY7 code p)).1:=rfl;have eV:(yY3 code id p).Rows=(yYG code id (yYA code 4 (yYA code 2 p)) (yY7 code p)).2:=rfl;have eU:(yY3 code id p).Up=yaaI code 2 p:=rfl;rw[eN,eV,eU];generalize yY7 code p=n at *;generalize yYA code 4 (yYA code 2 p)=p0 at *;generalize yaaI code 2 p=up at *
 refine qA (ι:=Nat×Nat) (λq=>q.1<=n) (λq=>if q.1=0 then xC [(0,.box 0 0),(1000000,.box 0 0),(1,.c (.i id)),(4,.box 4 0),(5,.box 5 0),(6,.c (.i n)),(7,.c (.i 0))] [(0,.box ((yYV code p0).map .c)),(4,.box [.c (.b false),.nil 1]),(5,.box [.c (.b up),.nil 1])]
  else xC [(0,.box 0 0),(1000000,.box 0 0),(1,.c (.i id)),(4,.box 4 0),(5,.box 5 0),(6,.c (.i n)),(7,.c (.i q.1))] [(0,.box ((yYV code (yYG code id p0 q.1).1).map .c)),(4,.box [.c (.b false),.nil 1]),(5,.box [.c (.b up),.own 54 1 (yYG code id p0 q.1).2.length]),(54,.tr 1 q.2 ((yYG code id p0 q.1).2.map eoB))]) (λq=>n-q.1) (0,0) (by simp) (by rw[if_pos rfl];apply aB<;>simp) ?_
 rintro⟨k,ver⟩ hk
 simp only at hk;rcases zaB k with e|hk0
 .subst e;have hn0:((0:Int)<(n:Int))=True:=by simp;omega
  have hn0':(0<n)=True:=by simp;omega
  rw[if_pos rfl];have hs1:yYG code id p0 1=(yZK code p0,[[yZD code id p0]]):=by simp[yYG]
  refine yaed hn0 hn0' ?_;refine⟨by unfold inI;omega,?_⟩;refine yYE (yabS code id p0 hp0) (by simp) (by simp) rfl (by simp[fD]) (goQ_ ?_);refine⟨by unfold inI;omega,1,by omega,by omega,0,?_⟩;rw[if_neg (by simp)];apply aB<;>simp[hs1,eoB]
 .have hne:(k=0)=False:=by simp;omega
  simp only[hne,if_false];have hq:=yZ1 (id:=id) hp0 k;have hln:=yZq (code:=code) (id:=id) (p:=p0) k;have hrow:=yZp (code:=code) (id:=id) (p:=p0) k
  have hsuc:yYG code id p0 (k+1)=(yYA code 2 (yZK code (yYG code id p0 k).1),if yaaI code 2 (yZK code (yYG code id p0 k).1)then addLast (yYG code id p0 k).2 (yZD code (id+k) (yYG code id p0 k).1)else(yYG code id p0 k).2++[[yZD code (id+k) (yYG code id p0 k).1]]):=by
   simp only[yYG,hne,if_false]
  generalize hQ:yYG code id p0 k=Q at *;obtain⟨q,rows⟩:=Q;simp only at hq hln hsuc hrow|-;rcases zas k n with hlt|hge
  .refine yaed (fC hlt) hlt ?_;refine⟨by unfold inI;omega,?_⟩;refine yYE (yabS code (id+k) q hq) (by simp) (by simp) rfl (by simp[fD]) (goQ_ ?_);refine⟨λ_=>?_,λh=>by omega⟩;refine yYE (yabR code 2 (yZK code q) (yabp hq) (by omega) (by omega)) (by simp) (by simp) rfl (by simp[fD]) ?_;generalize yZD code (id+k) q=b at *;have hr1:=hln.2 (by omega);cases ho:yaaI code 2 (yZK code q)with
   |false=>
    rw[ho]at hsuc;refine goQ_ ?_;have hl:=hln.1;refine⟨by omega,by unfold inI;omega,k+1,hlt,by omega,0,?_⟩;rw[if_neg (by omega)];apply aB<;>simp[hsuc,eoB]
   |true=>
    rw[ho]at hsuc;obtain⟨r0,hr0⟩:∃r,rows[rows.length-1]?=some r:=⟨_,zab (by omega)⟩;have g0:=(zaa.1 hr0).2;have hadd:addLast rows b=rows.set (rows.length-1) (r0++[b]):=by simp[addLast,hr0]
    have hl:=hln.1;have ez:((rows.length:Int)-1)=((rows.length-1:Nat):Int):=by omega
    have m1:rows.length-1<rows.length:=by omega
    obtain⟨z,hz⟩:∃z,z=rows.length-1:=⟨_,rfl⟩;rw[<-hz]at hr0 hadd ez m1;have hrl:=hrow r0 (zac hr0);have g0:=(zaa.1 hr0).2;have hset:=yacW (b:=b) hr0;have hjl:(setAt (rows.map eoB) z 0 C.jk).length=rows.length:=by simp[setAt]
    have htk:(r0.map ySa.enc++[b.enc]).take (r0.length+1)=r0.map ySa.enc++[b.enc]:=zae (by simp);simp only[ySa.enc]at htk hset;simp -dsimp -implicitDefEqProofs [ez,hr0,m1,eoB,g0,hjl,htk]
    refineλ_=>⟨by unfold inI;omega,λ_=>⟨by unfold inI;omega,by omega,by unfold inI;omega,k+1,hlt,by omega,ver+2,?_⟩⟩
    rw[if_neg (by omega)];apply aB<;>simp[hsuc,hadd,g0,htk,hset]
  .have:k=n:=by omega
   subst this;refine goQ_ ?_;rw[hQ,zae (by simp)];exact⟨rfl,rfl⟩
def gapL:List Int:=[0,3,30]
def pfrL:List Int:=[-1,0,500,1000000]
def yaaG:List Int:=[0,500,600,1000000,1000001]
def yZa(code:List UInt8)(p:Nat×Int)(t:Int):Nat->(Nat×Int)×Int×List ySf
 |0=>(p,t,[])
 |k+1=>
  let q:=yZa code p t k
  (yY1 code gapL (yYA code 20 q.1),q.2.1+(1+yYB code 20 q.1)+yYO code gapL (yYA code 20 q.1),q.2.2++[⟨q.2.1,q.2.1+(1+yYB code 20 q.1)⟩])
def yadp{x:Int}(h:x∈gapL):0<=x/\x<=30:=by
 simp[gapL]at h;omega
def yabX{code:List UInt8}{p:Nat×Int}{t:Int}(h:p.1<=code.length):∀k:Nat,(yZa code p t k).1.1<=code.length
 |0=>h
 |k+1=>yYZ (yYD (yabX h k))
def yabD{code:List UInt8}{p:Nat×Int}{t:Int}:∀k:Nat,(yZa code p t k).2.2.length=k
 |0=>rfl
 |k+1=>by simp[yZa,yabD (code:=code) (p:=p) (t:=t) k]
def yacp{code:List UInt8}{p:Nat×Int}{t:Int}(h:0<=t/\t<=20):∀k:Nat,0<=(yZa code p t k).2.1/\(yZa code p t k).2.1<=20+50*k
 |0=>by simp only[yZa];omega
 |k+1=>by
  have ih:=yacp (code:=code) (p:=p) h k;have h1:=yYC (code:=code) (n:=20) (p:=(yZa code p t k).1) (by omega);have h2:=yadp (yY6 (code:=code) (l:=gapL) (p:=yYA code 20 (yZa code p t k).1) (by simp[gapL]));simp only[yZa];omega
def yZN(code:List UInt8):Nat->Nat×Int->List ySf->(Nat×Int)×List ySf
 |0,p,l=>(p,l)
 |f+1,p,l=>if(l.length:Int)<8+yYB code 2 p then yZN code f (yYA code 2 p) (l++[⟨1000+10*l.length,1005+10*l.length⟩])else(yYA code 2 p,l)
def yack{code:List UInt8}:∀(f:Nat) {p:Nat×Int} {l:List ySf},p.1<=code.length->(yZN code f p l).1.1<=code.length
 |0,p,l,h=>h
 |f+1,p,l,h=>by
  unfold yZN;split
  .exact yack f (yYD h)
  .exact yYD h
def yabU{code:List UInt8}:∀(f:Nat) {p:Nat×Int} {l:List ySf},(yZN code f p l).2.length<=l.length+f
 |0,p,l=>Nat.le_refl _
 | f+1,p,l=>by
  unfold yZN;split
  .have:=yabU (code:=code) f (p:=yYA code 2 p) (l:=l++[⟨1000+10*l.length,1005+10*l.length⟩]);simp only[zah,zar,zbf]at this;omega
  .simp only;omega
def paP(code:List UInt8)(p:Nat×Int):Nat×Int:=yYA code 4 (yYA code 20 p)
def paK(code:List UInt8)(p:Nat×Int):Nat:=(yYB code 4 (yYA code 20 p)).toNat
def paM(code:List UInt8)(p:Nat×Int):(Nat×Int)×Int×List ySf:=yZa code (paP code p) (yYB code 20 p) (paK code p)
def paR(code:List UInt8)(d:Int)(q:Nat×Int)(l:List ySf):(Nat×Int)×List ySf:=
 if d=0 then(yY1 code yaaG (yY1 code pfrL q),l++[⟨yYO code pfrL q,yYO code yaaG (yY1 code pfrL q)⟩])
 else if d=1 then yZN code (10-l.length) q l else(q,l)
def yYW(code:List UInt8)(p:Nat×Int):(Nat×Int)×List ySf:=paR code (yYB code 10 (paM code p).1) (yYA code 10 (paM code p).1) (paM code p).2.2
def yadP(code:List UInt8)(p:Nat×Int):(paK code p:Int)=yYB code 4 (yYA code 20 p)/\paK code p<=3:=by
 have h:=yYC (code:=code) (n:=4) (p:=yYA code 20 p) (by omega);unfold paK;omega
def yaeA{code:List UInt8}{p:Nat×Int}(h:p.1<=code.length):(paM code p).1.1<=code.length:=yabX (yYD (yYD h)) _
def yaey{code:List UInt8}{d:Int}{q:Nat×Int}{l:List ySf}(h:q.1<=code.length):(paR code d q l).1.1<=code.length:=by
 unfold paR;split
 .exact yYZ (yYZ h)
 .split
  .exact yack _ h
  .exact h
def yacS{code:List UInt8}{p:Nat×Int}(h:p.1<=code.length):(yYW code p).1.1<=code.length:=yaey (yYD (yaeA h))
def yact{code:List UInt8}{p:Nat×Int}:(yYW code p).2.length<=13:=by
 have h1:=(yadP code p).2;have h2:(paM code p).2.2.length=paK code p:=yabD _;unfold yYW paR;split
 .simp;omega
 .split
  .have:=yabU (code:=code) (10-(paM code p).2.2.length) (p:=yYA code 10 (paM code p).1) (l:=(paM code p).2.2);omega
  .simp only;omega
def yacL{code:List UInt8}{f:Nat}{p:Nat×Int}{l:List ySf}:yZN code (f+1) p l=if(l.length:Int)<8+yYB code 2 p then yZN code f (yYA code 2 p) (l++[⟨1000+10*l.length,1005+10*l.length⟩])else(yYA code 2 p,l):=rfl
def yadw{code:List UInt8}{p:Nat×Int}{t:Int}{k:Nat}:yZa code p t (k+1)=(yY1 code gapL (yYA code 20 (yZa code p t k).1),(yZa code p t k).2.1+(1+yYB code 20 (yZa code p t k).1)+yYO code gapL (yYA code 20 (yZa code p t k).1),(yZa code p t k).2.2++[⟨(yZa code p t k).2.1,(yZa code p t k).2.1+(1+yYB code 20 (yZa code p t k).1)⟩]):=rfl
def yacs(code:List UInt8)(p:Nat×Int)(hp:p.1<=code.length):yZW prg 128 (yYV code p) (yYV code (yYW code p).1) [] (.c (.ow 2 ((yYW code p).2.map ySf.enc))):=by
 have hK:=yadP code p;have hR:=yYC (code:=code) (n:=20) (p:=p) (by omega);have q0:(paP code p).1<=code.length:=yYD (yYD hp);have eD:yYW code p=paR code (yYB code 10 (yZa code (paP code p) (yYB code 20 p) (paK code p)).1) (yYA code 10 (yZa code (paP code p) (yYB code 20 p) (paK code p)).1) (yZa code (paP code p) (yYB code 20 p) (paK code p)).2.2:=rfl;refine yZP yaav (by simp) λhwf hwf2=>?_;rw[eD];refine goQ_ ?_;refine yYE (yYF code 20 p hp (by omega) (by omega)) (by simp) (by simp) rfl (by simp[fD]) (goQ_ ?_);refine yYE (yYF code 4 (yYA code 20 p) (yYD hp) (by omega) (by omega)) (by simp) (by simp) rfl (by simp[fD]) (goQ_ ?_);rw[<-hK.1];have hP:yYA code 4 (yYA code 20 p)=paP code p:=rfl;rw[hP];have hn3:=hK.2;clear hK eD hP;generalize paK code p=n at *;generalize paP code p=qq at *;generalize yYB code 20 p=t0 at *;refine yX2 (λj=>j<=n) (λj=>xC [(0,.box 0 0),(1000000,.box 0 0),(3,.own 7 2 j),(4,.c (.i (yZa code qq t0 j).2.1)),(5,.c (.i (n-j)))] [(0,.box ((yYV code (yZa code qq t0 j).1).map .c)),(7,.row 2 ((yZa code qq t0 j).2.2.map ySf.enc))]) (λj=>n-j) (by apply aB<;>simp[yZa]) ?_
 rintro j hj
 have hq:=yabX (t:=t0) q0 j;have hln:=yabD (code:=code) (p:=qq) (t:=t0) j;have hrg:=yacp (code:=code) (p:=qq) (t:=t0) (by omega) j;have hsuc:=yadw (code:=code) (p:=qq) (t:=t0) (k:=j);rcases zas j n with hlt|hge
 .have hgt:(0<(n:Int)-(j:Int))=True:=eq_true (by omega);generalize yZa code qq t0 j=Q at *;obtain⟨q,t,l⟩:=Q;simp only at hq hln hrg hsuc|-;have hv:=yYC (code:=code) (n:=20) (p:=q) (by omega);have hg:=yadp (yY6 (code:=code) (l:=gapL) (p:=yYA code 20 q) (by simp[gapL]));have hpk:=yYM code gapL (yYA code 20 q) (yYD hq) (by simp[gapL]) (by simp[gapL]);have eg:gapL.map qC=[[.i 0],[.i 3],[.i 30]]:=rfl;refine yafw hgt ?_;refine⟨λ_=>?_,λh=>by omega⟩;refine yYE (yYF code 20 q hq (by omega) (by omega)) (by simp) (by simp) rfl (by simp[fD]) (goQ_ ?_);refine⟨by unfold inI;omega,by unfold inI;omega,by omega,by omega,by unfold inI;omega,?_⟩;refine yY5 (rows:=[[.i 0],[.i 3],[.i 30]]) (by simpa[eg]using hpk) (by simp) (by simp) rfl (goQ_ ?_);refine⟨by unfold inI;omega,by unfold inI;omega,j+1,hlt,by omega,?_⟩;apply aB<;>simp[hsuc]<;>omega
 .have hgt:(0<(n:Int)-(j:Int))=False:=eq_false (by omega);have:j=n:=by omega
  subst this;generalize yZa code qq t0 j=Q at *;obtain⟨q,t,l⟩:=Q;simp only at hq hln hrg hsuc|-;have hv:=yYC (code:=code) (n:=10) (p:=q) (by omega);have q1:(yYA code 10 q).1<=code.length:=yYD hq;refine yafw hgt ?_;refine yYE (yYF code 10 q hq (by omega) (by omega)) (by simp) (by simp) rfl (by simp[fD]) ?_;generalize yYB code 10 q=d at *;generalize yYA code 10 q=q' at *;refine goQ_ ?_;refine⟨λh0=>?_,λh0=>⟨λh1=>?_,λh1=>?_⟩⟩
  .have e:paR code d q' l=(yY1 code yaaG (yY1 code pfrL q'),l++[⟨yYO code pfrL q',yYO code yaaG (yY1 code pfrL q')⟩]):=if_pos h0;rw[e];have g1:=yYM code pfrL q' q1 (by simp[pfrL]) (by simp[pfrL]);have g2:=yYM code yaaG (yY1 code pfrL q') (yYZ q1) (by simp[yaaG]) (by simp[yaaG]);have e1:pfrL.map qC=[[.i (-1)],[.i 0],[.i 500],[.i 1000000]]:=rfl;have e2:yaaG.map qC=[[.i 0],[.i 500],[.i 600],[.i 1000000],[.i 1000001]]:=rfl;refine yY5 (rows:=[[.i (-1)],[.i 0],[.i 500],[.i 1000000]]) (by simpa[e1]using g1) (by simp) (by simp) rfl (goQ_ ?_);refine yY5 (rows:=[[.i 0],[.i 500],[.i 600],[.i 1000000],[.i 1000001]]) (by simpa[e2]using g2) (by simp) (by simp) rfl (goT_ ?_);refine⟨hln.symm,by omega,?_⟩;rw[zae (by simp)]
  .have e:paR code d q' l=yZN code (10-l.length) q' l:=by unfold paR;rw[if_neg h0,if_pos h1]
   rw[e];have hf0:10-l.length+l.length=10:=by omega
   have hl9:l.length<=9:=by omega
   generalize hR:yZN code (10-l.length) q' l=R;refine qA (ι:=Nat×(Nat×Int)×List ySf) (λx=>x.2.1.1<=code.length/\x.2.2.length<=9/\x.1+x.2.2.length=10/\yZN code x.1 x.2.1 x.2.2=R) (λx=>xC [(0,.box 0 0),(1000000,.box 0 0),(3,.own 7 2 x.2.2.length)] [(0,.box ((yYV code x.2.1).map .c)),(7,.row 2 (x.2.2.map ySf.enc))]) (λx=>x.1) (10-l.length,q',l) ⟨q1,hl9,hf0,hR⟩ (by apply aB<;>simp[hln]) ?_
   rintro⟨f,p2,l2⟩ ⟨i1,i2,i3,i4⟩
   simp only at i1 i2 i3 i4;obtain⟨f,rfl⟩:∃f',f=f'+1:=⟨f-1,by omega⟩;rw[yacL]at i4;have hv2:=yYC (code:=code) (n:=2) (p:=p2) (by omega);refine goQ_ ?_;intro hm;refine yYE (yYF code 2 p2 i1 (by omega) (by omega)) (by simp) (by simp) rfl (by simp[fD]) (goQ_ ?_);refine⟨by unfold inI;omega,λhlt hm2=>?_,λhge=>?_⟩
   .rw[if_pos hlt]at i4;refine⟨by unfold inI;omega,by unfold inI;omega,λ_=>⟨by unfold inI;omega,by unfold inI;omega,by omega,f,(yYA code 2 p2).1,(yYA code 2 p2).2,l2++[⟨1000+10*l2.length,1005+10*l2.length⟩],⟨yYD i1,by simp;omega,by simp;omega,i4⟩,by omega,?_⟩⟩;apply aB<;>simp
   .rw[if_neg (by omega)]at i4;rw[<-i4];simp[jA]
  .have e:paR code d q' l=(q',l):=by unfold paR;rw[if_neg h0,if_neg h1]
   rw[e];simp[jA];rw[zae (by simp;omega)]
def yacw(code:List UInt8)(p:Nat×Int)(hp:p.1<=code.length):yZW prg 128 (yYV code p) (yYV code (yYW code p).1) [] (.c (.sl 2 ((yYW code p).2.map ySf.enc))):=
 (yacs code p hp).share (by simp[AV.shr,AV.yoE]) (λl h=>by cases h)
def yaau(rs:List Reach)(ws:List Way)(wk:List yR8)(t:yRZ)(h1:ybv rs)(h2:yhE ws)(h3:ycw wk)(h4:t.small):
 qB prg 13 [.c (.sl 3 (rs.map Reach.enc)),.c (.sl 2 (ws.map Way.enc)),.c (.sl 22 (wk.map yR8.enc)),.agg (t.enc.map .c)] (.tup [.agg ((yYI rs ws wk t).1.enc.map .c),.c (.b (yYI rs ws wk t).2)]):=by
 have hr:=yabQ h1 h2 h3 h4;have hn:=yabP h1 h2 h3 h4;have hl1:=h1.1
 have hrep:∀n:Nat,yaq (List.replicate n [C.sl 3 []])=some (List.replicate n [C.sl 3 []]):=by
  intro n;induction n with
  |zero=>rfl
  |succ n ih=>rw[zbT];simp[yaq,ih,dO,C.shr]
 have hrm:(List.replicate rs.length ([]:List yR6)).map nD=List.replicate rs.length [C.sl 3 []]:=by rw[zdZ];rfl
 have hco:=yWv (yZL rs ws wk t) hr;have hW:=yabW (yZL rs ws wk t) hr;have hV:=yc1 (yZU rs ws wk t) hn;have hwr:=yacC (yZL rs ws wk t);have he:(yZL rs ws wk t).enc=[.i 0,.sl 3 (rs.map Reach.enc),.sl 2 (ws.map Way.enc),.sl 22 (wk.map yR8.enc),.sl 1 (List.replicate rs.length [C.sl 3 []]),.sl 2 [],.sl 1 [],.i t.Base,.i t.ySe,.sl 1 (t.yR5.map qC),.sl 1 (t.yR7.map qC),.sl 5 [],.sl 4 [],.i 0,.i 0,.i 0]:=by simp[yZL,yRW.enc,hrm]
 have he2:(yZU rs ws wk t).enc=[.i 0,.sl 3 (rs.map Reach.enc),.sl 2 (ws.map Way.enc),.sl 22 (wk.map yR8.enc),.sl 1 (List.replicate rs.length [C.sl 3 []]),.sl 2 [],.sl 1 [],.i t.Base,.i t.ySe,.sl 1 (t.yR5.map qC),.sl 1 (t.yR7.map qC),.sl 5 [],.sl 4 [],.i (yYN (yZL rs ws wk t)),.i 0,.i 0]:=by simp[yZU,yRW.enc,hrm]
 have hse:(yZL rs ws wk t).yXO=[.i 0,.ow 3 (rs.map Reach.enc),.ow 2 (ws.map Way.enc),.ow 22 (wk.map yR8.enc),.ot 1 (List.replicate rs.length [C.ow 3 []]),.ow 2 [],.ow 1 [],.i t.Base,.i t.ySe,.ow 1 (t.yR5.map qC),.ow 1 (t.yR7.map qC),.ow 5 [],.ow 4 [],.i 0,.i 0,.i 0]:=by simp[yZL,yRW.yXO,em,zdZ]
 have hrep2:∀n:Nat,yaq (List.replicate n [C.ow 3 []])=some (List.replicate n [C.sl 3 []]):=by
  intro n;induction n with
  |zero=>rfl
  |succ n ih=>rw[zbT,zbT];simp[yaq,ih,dO,C.shr]
 rw[he,hse]at hco;rw[he]at hW;rw[he2]at hV;have hN1:∀h:rC (yZU rs ws wk t)=true,wk.all yY0=true->yYI rs ws wk t=(yZU rs ws wk t,true):=λh h'=>by simp[yYI,h,h']
 have hN2:rC (yZU rs ws wk t)=false->yYI rs ws wk t=(yZG,false):=λh=>yaef h;have hN3:wk.all yY0=false->yYI rs ws wk t=(yZG,false):=λh=>yaes h;have he3:(yZU rs ws wk t).enc.map AV.c=_:=congrArg (List.map AV.c) he2;generalize yYN (yZL rs ws wk t)=z at *;generalize yYI rs ws wk t=R at *;generalize yZU rs ws wk t=y at *;generalize hok:rC y=ok at *;refine dB yZ5 (goQ_ ?_);intro hlen;refine⟨by omega,yoL ?_⟩;refine goQ_ ?_;refine yadt [18] hco (by simp -dsimp -implicitDefEqProofs [hrep,List.take_replicate]) rfl (by simp[fD]) (goQ_ ?_);refine mD (hW) (by simp -dsimp -implicitDefEqProofs [jA,hrep2,List.take_replicate]) rfl (goQ_ ?_);refine yX4 (λk=>k<=wk.length/\∀w∈wk.take k,yY0 w=true) (λk=>xC [(0,.c (.sl 3 (rs.map Reach.enc))),(1,.c (.sl 2 (ws.map Way.enc))),(2,.c (.sl 22 (wk.map yR8.enc))),(8,.box 8 0),(9,.c (.b false)),(10,.box 10 0),(11,.c (.i k))] [(8,zW),(10,.box [.c (.i 0),.own 20021 3 rs.length,.own 30021 2 ws.length,.own 40021 22 wk.length,.own 50021 1 rs.length,.own 60021 2 0,.own 70021 1 0,.c (.i t.Base),.c (.i t.ySe),.own 100021 1 t.yR5.length,.own 110021 1 t.yR7.length,.own 120021 5 0,.own 130021 4 0,.c (.i z),.c (.i 0),.c (.i 0)]),(20021,.row 3 (rs.map Reach.enc)),(30021,.row 2 (ws.map Way.enc)),(40021,.row 22 (wk.map yR8.enc)),(50021,.tr 1 0 (List.replicate rs.length [C.ow 3 []])),(60021,.row 2 []),(70021,.row 1 []),(100021,.row 1 (t.yR5.map qC)),(110021,.row 1 (t.yR7.map qC)),(120021,.row 5 []),(130021,.row 4 [])]) (λk=>wk.length-k) ?_
 rintro k ⟨hk,hall⟩
 rcases yX1 k wk with⟨klt,w,hw⟩|kge
 .have g1:=(zaa.1 hw).2;refine yaeV hw g1 klt (fC klt) ?_;intro hlen2;have bad:yY0 w=false->R=(yZG,false):=λh=>hN3 (all_false (p:=yY0) hw h)
  have badL:0<w.yR0.yRY.length->R=(yZG,false):=by
   intro h;have h2:¬w.yR0.yRY.length=0:=by omega
   exact bad (by simp only[yY0,decide_eq_false h2,zbG])
  have badC:0<w.Calls.length->R=(yZG,false):=by
   intro h;have h2:¬w.Calls.length=0:=by omega
   exact bad (by simp only[yY0,decide_eq_false h2,zbk])
  refineλhlen3=>⟨λhi hlen4=>⟨λhc=>?_,λhc=>?_⟩,λhi=>?_⟩
  .rw[badC hc];simp[yZG]
  .have hok:yY0 w=true:=by
    have h1:w.yR0.yRY.length=0:=by rw[hi];rfl
    have h3:w.Calls.length=0:=by rw[hc];rfl
    simp[yY0,h1,h3]
   have hall':=lD (p:=yY0) hw hall hok;refine⟨gB klt hlen2,k+1,⟨klt,hall'⟩,by omega,?_⟩;apply aB<;>simp
  .rw[badL hi];simp[yZG]
 have hall2:wk.all yY0=true:=dF (p:=yY0) kge hall;refine yafw (aG kge) ?_;intro _;refine mD (hV) (by simp -dsimp -implicitDefEqProofs [jA,hrep2,List.take_replicate]) rfl ?_;cases ok with
 |false=>
  rw[hN2 rfl];refine goQ_ ?_;simp[yZG]
 |true=>
  rw[hN1 rfl hall2];refine goQ_ ?_;simp only[yRW.enc,List.cons.injEq,C.i.injEq,C.sl.injEq,true_and,and_true]at he2;obtain⟨e0,e1,e2,e3,e4,e5,e6,e7,e8,e9,e10,e11,e12,e13,e14,e15⟩:=he2;simp only[List.map_eq_nil_iff]at e5 e6 e11 e12;simp only[e0,e1,e2,e3,e4,e5,e6,e7,e8,e9,e10,e11,e12,e13,e14,e15,hrep2,jA,outR];simp
def yYY(t:List ySc)(level:Int)(delay:Int):Reach×Bool:=
 if inRange delay 0 12 then(if xE ⟨t,fH t level,List.replicate delay.toNat 0⟩then(⟨t,fH t level,List.replicate delay.toNat 0⟩,true)else(⟨[],0,[]⟩,false))else(⟨[],0,[]⟩,false)
def yacP(t:List ySc)(level delay:Int)(hl:t.length<=1048576):nI prg 11 [.c (.sl 2 (t.map ySc.enc)),.c (.i level),.c (.i delay)] (.tup [.agg ((yYY t level delay).1.iD.map .c),.c (.b (yYY t level delay).2)]):=by
 refine fF yaaO (goQ_ ?_);refine aA (bC delay 0 12) (goQ_ ?_);cases h1:inRange delay 0 12 with
 |false=>
  refine goQ_ ?_;have e:yYY t level delay=(⟨[],0,[]⟩,false):=by simp[yYY,h1]
  rw[e];refine ycx ?_;simp
 | true=>
  have h2:=aC.1 h1;refine goQ_ ?_;refine⟨by omega,?_⟩;refine ypC (yxU t level) (goQ_ ?_);refine⟨h2.1,by omega,?_⟩;refine mD (qN ⟨t,fH t level,List.replicate delay.toNat 0⟩) (by simp[jA,qC]) rfl ?_;have e:yYY t level delay=if xE ⟨t,fH t level,List.replicate delay.toNat 0⟩then(⟨t,fH t level,List.replicate delay.toNat 0⟩,true)else(⟨[],0,[]⟩,false):=by simp[yYY,h1]
  rw[e];cases hr:xE ⟨t,fH t level,List.replicate delay.toNat 0⟩with
  |false=>
   refine goQ_ ?_;refine ycx ?_;simp
  |true=>
   refine goQ_ ?_;refine ycx ?_;simp[jA,qC]
def yacA{k:Nat}{xs:List X}{s:St}:wOf (.bsl k xs) s=(xs.map s.ev).flatMap AV.ids:=rfl
def yZt:List Int:=[1,2,3,7,0]
def yYX(code:List UInt8)(p:Nat×Int):Nat->(Nat×Int)×List Int
 |0=>(p,[])
 |k+1=>(yY1 code yZt (yYX code p k).1,(yYX code p k).2++[yYO code yZt (yYX code p k).1])
def yabv{code:List UInt8}{p:Nat×Int}(h:p.1<=code.length):∀k:Nat,(yYX code p k).1.1<=code.length
 |0=>h
 |k+1=>yYZ (yabv h k)
def yaaF{code:List UInt8}{p:Nat×Int}:∀k:Nat,(yYX code p k).2.length=k
 |0=>rfl
 |k+1=>by simp[yYX,yaaF (code:=code) (p:=p) k]
def yaaD{code:List UInt8}{p:Nat×Int}:∀k:Nat,∀w∈(yYX code p k).2,0<=w/\w<=7
 |0,w,h=>by simp[yYX]at h
 | k+1,w,h=>by
  simp only[yYX]at h;rcases zaj.1 h with h|h
  .exact yaaD k w h
  .rw[zak]at h;have h1:=yY6 (code:=code) (l:=yZt) (p:=(yYX code p k).1) (by simp[yZt]);rw[<-h]at h1;revert h1;generalize w=v;intro h1;simp[yZt]at h1;omega
def yaaf(code:List UInt8)(p:Nat×Int):Nat×Int:=yYA code 50 p
def yaaj(code:List UInt8)(p:Nat×Int):Nat×Int:=yYA code 20 (yaaf code p)
def yaal(code:List UInt8)(p:Nat×Int):Nat×Int:=yYA code 9 (yaaj code p)
def yZe(code:List UInt8)(p:Nat×Int):Nat×Int:=yYA code 30 (yaal code p)
def tarK(code:List UInt8)(p:Nat×Int):Nat:=(1+yYB code 4 (yZe code p)).toNat
def tarN(code:List UInt8)(p:Nat×Int):Nat×Int:=(yYX code (yYA code 4 (yZe code p)) (tarK code p)).1
def yabg:List Int->List Int
 |[]=>[]
 |w::l=>(w+1)::l
def yZj(code:List UInt8)(p:Nat×Int):yRZ:=
 ⟨yYB code 50 p,yYB code 20 (yaaf code p),[yYB code 9 (yaaj code p),yYB code 30 (yaal code p),0],yabg (yYX code (yYA code 4 (yZe code p)) (tarK code p)).2⟩
def yade(code:List UInt8)(p:Nat×Int):(tarK code p:Int)=1+yYB code 4 (yZe code p)/\1<=tarK code p/\tarK code p<=4:=by
 have h:=yYC (code:=code) (n:=4) (p:=yZe code p) (by omega);unfold tarK;omega
def yacE(code:List UInt8)(p:Nat×Int)(hp:p.1<=code.length):yZW prg 130 (yYV code p) (yYV code (tarN code p)) [] (.agg [.c (.i (yZj code p).Base),.c (.i (yZj code p).ySe),.c (.ow 1 ((yZj code p).yR5.map qC)),.c (.ow 1 ((yZj code p).yR7.map qC))]):=by
 have q1:(yaaf code p).1<=code.length:=yYD hp;have q2:(yaaj code p).1<=code.length:=yYD q1;have q3:(yaal code p).1<=code.length:=yYD q2;have q4:(yZe code p).1<=code.length:=yYD q3;have hK:=yade code p;refine yZP yaaq (by simp) λhwf hwf2=>?_;refine goQ_ ?_;refine yYE (yYF code 50 p hp (by omega) (by omega)) (by simp) (by simp) rfl (by simp[fD]) (goQ_ ?_);refine yYE (yYF code 20 (yaaf code p) q1 (by omega) (by omega)) (by simp[yaaf]) (by simp) rfl (by simp[fD]) (goQ_ ?_);refine yYE (yYF code 9 (yaaj code p) q2 (by omega) (by omega)) (by simp[yaaj]) (by simp) rfl (by simp[fD]) (goQ_ ?_);refine yYE (yYF code 30 (yaal code p) q3 (by omega) (by omega)) (by simp[yaal]) (by simp) rfl (by simp[fD]) (goQ_ ?_);refine yYE (yYF code 4 (yZe code p) q4 (by omega) (by omega)) (by simp[yZe]) (by simp) rfl (by simp[fD]) (goQ_ ?_);have h4:=yYC (code:=code) (n:=4) (p:=yZe code p) (by omega);refine⟨by unfold inI;omega,?_⟩;rw[<-hK.1];have q5:(yYA code 4 (yZe code p)).1<=code.length:=yYD q4;have eN:tarN code p=(yYX code (yYA code 4 (yZe code p)) (tarK code p)).1:=rfl;have eW:(yZj code p).yR7=yabg (yYX code (yYA code 4 (yZe code p)) (tarK code p)).2:=rfl;have eB:(yZj code p).Base=yYB code 50 p:=rfl;have eA:(yZj code p).ySe=yYB code 20 (yaaf code p):=rfl;have eC:(yZj code p).yR5=[yYB code 9 (yaaj code p),yYB code 30 (yaal code p),0]:=rfl;rw[eN,eW,eB,eA,eC];generalize tarK code p=n at *;generalize yYA code 4 (yZe code p)=q0 at *;generalize yYB code 50 p=vb at *;generalize yYB code 20 (yaaf code p)=va at *;generalize yYB code 9 (yaaj code p)=c0 at *;generalize yYB code 30 (yaal code p)=c1 at *
 refine qA (ι:=Nat) (λk=>k<=n) (λk=>if k=0 then xC [(0,.box 0 0),(1000000,.box 0 0),(2,.box 2 0),(3,.box 3 0),(4,.c (.i n))] [(0,.box ((yYV code q0).map .c)),(2,.box [.c (.i 0),.c (.i 0),.nil 1,.nil 1]),(3,.box [.c (.i vb),.c (.i va),.own 13 1 3,.nil 1]),(13,.row 1 [[.i c0],[.i c1],[.i 0]])]
  else xC [(0,.box 0 0),(1000000,.box 0 0),(2,.box 2 0),(3,.box 3 0),(4,.c (.i (n-k)))] [(0,.box ((yYV code (yYX code q0 k).1).map .c)),(2,.box [.c (.i 0),.c (.i 0),.nil 1,.nil 1]),(3,.box [.c (.i vb),.c (.i va),.own 13 1 3,.own 28 1 k]),(13,.row 1 [[.i c0],[.i c1],[.i 0]]),(28,.row 1 ((yYX code q0 k).2.map qC))]) (λk=>n-k) 0 (by simp) (by rw[if_pos rfl];apply aB<;>simp) ?_
 rintro k hk
 have e4:yZt.map qC=[[.i 1],[.i 2],[.i 3],[.i 7],[.i 0]]:=rfl;rcases zaB k with e|hk0
 .subst e;rw[if_pos rfl];have hn0:((0:Int)<(n:Int))=True:=by simp;omega
  have hn0':(0<n)=True:=by simp;omega
  have hpk:=yYM code yZt q0 q5 (by simp[yZt]) (by simp[yZt]);have hs1:yYX code q0 1=(yY1 code yZt q0,[yYO code yZt q0]):=by simp[yYX]
  refine yaed hn0 hn0' ?_;have hg:CurG prg 127 (yYV code q0) (yYV code (yY1 code yZt q0)) 1 ([[C.i 1],[C.i 2],[C.i 3],[C.i 7],[C.i 0]].take 5) (.c (.i (yYO code yZt q0))):=hpk;refine yaaz (id:=0) (id1:=25) hg (by simp) (by simp) (by simp) (by simp) rfl ?_;simp -dsimp -implicitDefEqProofs [yacA];refine⟨by unfold inI;omega,1,by omega,by omega,?_⟩;rw[if_neg (by omega)];apply aB<;>simp[hs1,qC]
 .have hne:(k=0)=False:=by simp;omega
  simp only[hne,if_false];have hq:=yabv (p:=q0) q5 k;have hln:=yaaF (code:=code) (p:=q0) k;have hsuc:yYX code q0 (k+1)=(yY1 code yZt (yYX code q0 k).1,(yYX code q0 k).2++[yYO code yZt (yYX code q0 k).1]):=rfl;rcases zas k n with hlt|hge
  .have hgt:(0<(n:Int)-(k:Int))=True:=by simp;omega
   generalize yYX code q0 k=Q at *;obtain⟨q,ws⟩:=Q;simp only at hq hln hsuc|-;have hpk:=yYM code yZt q hq (by simp[yZt]) (by simp[yZt]);have hg:CurG prg 127 (yYV code q) (yYV code (yY1 code yZt q)) 1 ([[C.i 1],[C.i 2],[C.i 3],[C.i 7],[C.i 0]].take 5) (.c (.i (yYO code yZt q))):=hpk;refine yafw hgt ?_;refine⟨λ_=>?_,λh=>by omega⟩;refine yaaz (id:=0) (id1:=25) hg (by simp) (by simp) (by simp) (by simp) rfl ?_;simp -dsimp -implicitDefEqProofs [hln,yacA];refine⟨by omega,by unfold inI;omega,k+1,hlt,by omega,?_⟩;rw[if_neg (by omega)];apply aB<;>simp[hsuc,qC]
   try omega
  .have hgt:(0<(n:Int)-(k:Int))=False:=by simp;omega
   have:k=n:=by omega
   subst this
   obtain⟨w0,wl,hws⟩:∃w0 wl,(yYX code q0 k).2=w0::wl:=by
    cases h:(yYX code q0 k).2 with
    |nil=>exfalso;rw[h]at hln;simp only[zbf]at hln;omega
    |cons a l=>exact⟨a,l,rfl⟩
   have hw7:=yaaD (code:=code) (p:=q0) k w0 (by rw[hws];simp);rw[hws];simp -dsimp -implicitDefEqProofs [hgt,yabg];rw[hws]at hln;refine⟨hk0,by unfold inI;omega,hk0,?_⟩;rw[zae (by simpa using Nat.le_of_eq hln)]
def yadX:∀(l:List Int),(∀x∈l,0<=x)->0<=l.sum
 |[],_=>by simp
 |a::l,h=>by
  have h1:=h a (by simp);have h2:=yadX l λx hx=>h x (by simp[hx]);rw[zaM];omega
def yadf(code:List UInt8)(p:Nat×Int):nH (yZj code p)=true/\(yZj code p).small/\(yZj code p).yR7.length<=4:=by
 have hK:=yade code p;have h1:=yYC (code:=code) (n:=50) (p:=p) (by omega);have h2:=yYC (code:=code) (n:=20) (p:=yaaf code p) (by omega);have h3:=yYC (code:=code) (n:=9) (p:=yaaj code p) (by omega);have h4:=yYC (code:=code) (n:=30) (p:=yaal code p) (by omega);have hl:=yaaF (code:=code) (p:=yYA code 4 (yZe code p)) (tarK code p);have hr:=yaaD (code:=code) (p:=yYA code 4 (yZe code p)) (tarK code p)
 have hw:∃w0 wl,(yZj code p).yR7=w0::wl/\(∀w∈w0::wl,0<=w/\w<=8)/\1<=w0/\wl.length<=3:=by
  show∃w0 wl,yabg (yYX code (yYA code 4 (yZe code p)) (tarK code p)).2=w0::wl/\_
  generalize(yYX code (yYA code 4 (yZe code p)) (tarK code p)).2=l at *;cases l with
  |nil=>simp at hl;omega
  |cons a l=>
   refine⟨a+1,l,rfl,λw hw=>?_,by have:=hr a (by simp);omega,by simp at hl;omega⟩;rcases zax.1 hw with e|e
   .have:=hr a (by simp);omega
   .have:=hr w (by simp[e]);omega
 obtain⟨w0,wl,e,hw,hw0,hwl⟩:=hw
 have hsum:0<=wl.sum:=by
  have:=yadX wl λx hx=>(hw x (by simp[hx])).1;omega
 have ec:(yZj code p).yR5=[yYB code 9 (yaaj code p),yYB code 30 (yaal code p),0]:=rfl;refine⟨?_,⟨?_,?_⟩,?_⟩
 .have a1:inRange (yZj code p).Base 0 10000=true:=aC.2 ⟨h1.1,by have:=h1.2;show yYB code 50 p<=_;omega⟩;have a2:inRange (yZj code p).ySe 0 100=true:=aC.2 ⟨h2.1,by have:=h2.2;show yYB code 20 (yaaf code p)<=_;omega⟩
  have a3:(yZj code p).yR5.all (λn=>inRange n 0 10000)=true:=by
   rw[ec,zaf];intro x hx;simp only[zax,zaH,or_false]at hx;rcases hx with rfl|rfl|rfl
   .exact aC.2 ⟨h3.1,by omega⟩
   .exact aC.2 ⟨h4.1,by omega⟩
   .decide
  have a4:(yZj code p).yR7.all (λn=>inRange n 0 1000)=true:=by
   rw[e,zaf]
   exactλx hx=>aC.2 ⟨(hw x hx).1,by have:=(hw x hx).2;omega⟩
  have a5:inRange (yZj code p).yR7.length 1 11=true:=by rw[e,zar];exact aC.2 ⟨by omega,by omega⟩
  have a6:(yZj code p).yR5.length=3:=by rw[ec];rfl
  have a7:0<(yZj code p).yR7.sum:=by rw[e,zaM];omega
  simp only[nH,a1,a2,a3,a4,a5,a6,a7,decide_true,zdH]
 .rw[ec];simp
 .rw[e];simp;omega
 .rw[e];simp;omega
def wayL:List Int:=[8,20,40]
def chlL:List Int:=[60,120]
def chwL:List Int:=[10,16]
def yZC:List Int:=[60,300,2000]
def watL:List Int:=[10,30,70]
def rcP1(code:List UInt8)(p:Nat×Int):Nat×Int:=yYA code 9 p
def rcP2(code:List UInt8)(p:Nat×Int):Nat×Int:=yYA code 30 (rcP1 code p)
def rcP3(code:List UInt8)(p:Nat×Int):Nat×Int:=yYA code 3 (rcP2 code p)
def yZZ(code:List UInt8)(p:Nat×Int):Nat×Int:=yY1 code wayL (rcP3 code p)
def wkP1(code:List UInt8)(p:Nat×Int):Nat×Int:=yY1 code chlL (yZZ code p)
def wkP2(code:List UInt8)(p:Nat×Int):Nat×Int:=yY1 code chwL (wkP1 code p)
def wkP3(code:List UInt8)(p:Nat×Int):Nat×Int:=yYA code 8 (wkP2 code p)
def wkP4(code:List UInt8)(p:Nat×Int):Nat×Int:=yY1 code yZC (wkP3 code p)
def wkP5(code:List UInt8)(p:Nat×Int):Nat×Int:=yYA code 2 (wkP4 code p)
def wkP6(code:List UInt8)(p:Nat×Int):Nat×Int:=yY1 code watL (wkP5 code p)
def wkP7(code:List UInt8)(p:Nat×Int):Nat×Int:=yYA code 9 (wkP6 code p)
def wkP8(code:List UInt8)(p:Nat×Int):Nat×Int:=yYA code 5 (wkP7 code p)
def yZ2(code:List UInt8)(p:Nat×Int):Nat×Int:=yYA code 20 (wkP8 code p)
def wkN(code:List UInt8)(p:Nat×Int):Nat×Int:=(yYW code (yZ2 code p)).1
def yadj{code:List UInt8}{p:Nat×Int}(h:p.1<=code.length):(rcP1 code p).1<=code.length:=yYD h
def yadl{code:List UInt8}{p:Nat×Int}(h:p.1<=code.length):(rcP2 code p).1<=code.length:=yYD (yadj h)
def yadi{code:List UInt8}{p:Nat×Int}(h:p.1<=code.length):(rcP3 code p).1<=code.length:=yYD (yadl h)
def yabc{code:List UInt8}{p:Nat×Int}(h:p.1<=code.length):(yZZ code p).1<=code.length:=yYZ (yadi h)
def yado{code:List UInt8}{p:Nat×Int}(h:p.1<=code.length):(wkP1 code p).1<=code.length:=yYZ (yabc h)
def yacY{code:List UInt8}{p:Nat×Int}(h:p.1<=code.length):(wkP2 code p).1<=code.length:=yYZ (yado h)
def yadc{code:List UInt8}{p:Nat×Int}(h:p.1<=code.length):(wkP3 code p).1<=code.length:=yYD (yacY h)
def yadn{code:List UInt8}{p:Nat×Int}(h:p.1<=code.length):(wkP4 code p).1<=code.length:=yYZ (yadc h)
def yada{code:List UInt8}{p:Nat×Int}(h:p.1<=code.length):(wkP5 code p).1<=code.length:=yYD (yadn h)
def yadh{code:List UInt8}{p:Nat×Int}(h:p.1<=code.length):(wkP6 code p).1<=code.length:=yYZ (yada h)
def yadm{code:List UInt8}{p:Nat×Int}(h:p.1<=code.length):(wkP7 code p).1<=code.length:=yYD (yadh h)
def yadk{code:List UInt8}{p:Nat×Int}(h:p.1<=code.length):(wkP8 code p).1<=code.length:=yYD (yadm h)
def yadb{code:List UInt8}{p:Nat×Int}(h:p.1<=code.length):(yZ2 code p).1<=code.length:=yYD (yadk h)
def yaet{code:List UInt8}{p:Nat×Int}(h:p.1<=code.length):(wkN code p).1<=code.length:=yacS (yadb h)
def yZb(bed y:Int):List ySc:=[⟨bed,0⟩,⟨bed+60,y⟩,⟨bed+90,20000⟩]
def yZz(code:List UInt8)(bed:Int)(p:Nat×Int):Reach:=(yYY (yZb bed (6000+600*yYB code 9 p)) (bed+25+yYB code 30 (rcP1 code p)) (yYB code 3 (rcP2 code p))).1
def wayV(code:List UInt8)(bed:Int)(p:Nat×Int):Way:=⟨yYO code wayL (rcP3 code p),bed⟩
def yZw(code:List UInt8)(p:Nat×Int):List ySf:=if xO (yYW code p).2 then(yYW code p).2 else[]
def yaby(code:List UInt8)(bed:Int)(p:Nat×Int):yR0:=⟨yYO code chlL (yZZ code p),yYO code chwL (wkP1 code p),bed,bed-40,bed-40,1+yYB code 8 (wkP2 code p),yYO code yZC (wkP3 code p),(1+yYB code 8 (wkP2 code p))*yYO code watL (wkP5 code p),0,[]⟩
def yacD(code:List UInt8)(bed:Int)(p:Nat×Int):ySp:=⟨2,yYB code 9 (wkP6 code p),1+yYB code 5 (wkP7 code p),bed+10,1+yYB code 20 (wkP8 code p)⟩
def yZf(code:List UInt8)(bed:Int)(p:Nat×Int):yR8:=⟨yaby code bed p,yacD code bed p,⟨bed+20,bed+45,bed+70⟩,yZw code (yZ2 code p),⟨false,0⟩,[]⟩
structure yadQ where
 p:Nat×Int
 R:List Reach
 W:List Way
 K:List yR8
def yYH(code:List UInt8)(n:Nat)(p:Nat×Int):Nat->yadQ
 |0=>⟨p,[],[],[]⟩
 |k+1=>
  let q:=yYH code n p k
  if k+1=n then⟨yZZ code q.p,q.R++[yZz code (40*(n-k:Int)) q.p],q.W++[wayV code (40*(n-k:Int)) q.p],q.K⟩
  else⟨wkN code q.p,q.R++[yZz code (40*(n-k:Int)) q.p],q.W++[wayV code (40*(n-k:Int)) q.p],q.K++[yZf code (40*(n-k:Int)) q.p]⟩
def yabo{code:List UInt8}{n:Nat}{p:Nat×Int}(h:p.1<=code.length):∀k:Nat,(yYH code n p k).p.1<=code.length
 |0=>h
 |k+1=>by
  have ih:=yabo (n:=n) h k;unfold yYH;simp only;split
  .exact yabc ih
  .exact yaet ih
def yabN{code:List UInt8}{n:Nat}{p:Nat×Int}:∀k:Nat,k<=n->(yYH code n p k).R.length=k/\(yYH code n p k).W.length=k/\(k<n->(yYH code n p k).K.length=k)/\(k=n->(yYH code n p k).K.length=n-1)
 |0,_=>by simp[yYH];omega
 |k+1,hk=>by
  have ih:=yabN (code:=code) (n:=n) (p:=p) k (by omega);unfold yYH;simp only;split
  .simp only[zah,zar,zbf];omega
  .simp only[zah,zar,zbf];omega
def yZF(code:List UInt8)(p:Nat×Int):Nat:=(2+yYB code 3 p).toNat
def yabY(code:List UInt8)(p:Nat×Int):(yZF code p:Int)=2+yYB code 3 p/\2<=yZF code p/\yZF code p<=4:=by
 have h:=yYC (code:=code) (n:=3) (p:=p) (by omega);unfold yZF;omega
def yZs(code:List UInt8)(p:Nat×Int):yadQ:=yYH code (yZF code p) (yYA code 3 p) (yZF code p)
def yaei{code:List UInt8}{p:Nat×Int}(h:p.1<=code.length):(yZs code p).p.1<=code.length:=yabo (yYD h) _
def newV(code:List UInt8)(p:Nat×Int):yRW:=(yYI (yZs code p).R (yZs code p).W (yZs code p).K (yZj code (yZs code p).p)).1
def newN(code:List UInt8)(p:Nat×Int):Nat×Int:=tarN code (yZs code p).p
def yadA{bed y:Int}(hb:0<=bed/\bed<=1000)(hy:0<=y/\y<=20000):sH (yZb bed y)=true:=by
 simp[sH,upTo,yhG,yZb,yd3,follows,inRange];omega
def yaeq(n:Nat):(List.replicate n (0:Int)).sum=0/\∀x∈List.replicate n (0:Int),amount x=true:=by
 refine⟨?_,λx hx=>by rw[(zcS.1 hx).2];decide⟩
 induction n with
 |zero=>rfl
 |succ n ih=>rw[zbT,zaM,ih];rfl
def yadr{code:List UInt8}{bed:Int}{p:Nat×Int}(hb:0<=bed/\bed<=1000):∃(t:List ySc) (v:Int) (d:Nat),yZz code bed p=⟨t,v,List.replicate d 0⟩/\t.length=3/\0<=v/\v<=20000/\d<=2/\xE ⟨t,v,List.replicate d 0⟩=true:=by
 have h1:=yYC (code:=code) (n:=9) (p:=p) (by omega);have h2:=yYC (code:=code) (n:=30) (p:=rcP1 code p) (by omega);have h3:=yYC (code:=code) (n:=3) (p:=rcP2 code p) (by omega);unfold yZz yYY;generalize yYB code 9 p=a at *;generalize yYB code 30 (rcP1 code p)=b at *;generalize yYB code 3 (rcP2 code p)=c at *;have hT:=yadA (bed:=bed) (y:=6000+600*a) hb (by omega);have p0:fO (yZb bed (6000+600*a)) 0=⟨bed,0⟩:=rfl;have p2:fO (yZb bed (6000+600*a)) ((yZb bed (6000+600*a)).length-1)=⟨bed+90,20000⟩:=rfl;have v0:=yho hT (x:=bed) (by rw[p0];exact zbj _);have v1:=yg4 hT (x:=bed+90) (by rw[p2];exact zbj _);have m0:=yo0 hT (x:=bed) (y:=bed+25+b) (by omega);have m1:=yo0 hT (x:=bed+25+b) (y:=bed+90) (by omega);rw[v0,p0]at m0;rw[v1,p2]at m1;simp only at m0 m1;have hin:inRange c 0 12=true:=aC.2 ⟨by omega,by omega⟩
 have hok:xE ⟨yZb bed (6000+600*a),fH (yZb bed (6000+600*a)) (bed+25+b),List.replicate c.toNat 0⟩=true:=by
  obtain⟨z1,z2⟩:=yaeq c.toNat;simp only[xE,sZ,hT,z1,zad,decide_eq_true_eq,zaf,zbW,zaW];exact⟨⟨⟨aC.2 ⟨by omega,by omega⟩,by omega⟩,z2⟩,by omega⟩
 rw[if_pos hin,if_pos hok];exact⟨_,_,_,rfl,rfl,by omega,by omega,by omega,hok⟩
def yaep{code:List UInt8}{p:Nat×Int}:let x:=yYO code wayL p;x=8\/x=20\/x=40:=by
 have:=yY6 (code:=code) (l:=wayL) (p:=p) (by simp[wayL]);simpa[wayL]using this
def yaez{code:List UInt8}{p:Nat×Int}:let x:=yYO code chlL p;x=60\/x=120:=by
 have:=yY6 (code:=code) (l:=chlL) (p:=p) (by simp[chlL]);simpa[chlL]using this
def yaeC{code:List UInt8}{p:Nat×Int}:let x:=yYO code chwL p;x=10\/x=16:=by
 have:=yY6 (code:=code) (l:=chwL) (p:=p) (by simp[chwL]);simpa[chwL]using this
def yaeD{code:List UInt8}{p:Nat×Int}:let x:=yYO code yZC p;x=60\/x=300\/x=2000:=by
 have:=yY6 (code:=code) (l:=yZC) (p:=p) (by simp[yZC]);simpa[yZC]using this
def yadY{code:List UInt8}{p:Nat×Int}:let x:=yYO code watL p;x=10\/x=30\/x=70:=by
 have:=yY6 (code:=code) (l:=watL) (p:=p) (by simp[watL]);simpa[watL]using this
def yabT{a w:Int}(h:1<=a/\a<=8)(hw:w=10\/w=30\/w=70):0<=a*w/\a*w<=560:=by
 rcases hw with rfl|rfl|rfl<;>omega
def yaeh{code:List UInt8}{bed:Int}{p:Nat×Int}(hb:0<=bed/\bed<=1000):ykM (wayV code bed p)=true:=by
 have h:=yaep (code:=code) (p:=rcP3 code p);simp only[ykM,wayV,zad];exact⟨aC.2 ⟨by omega,by omega⟩,aC.2 ⟨by omega,by omega⟩⟩
def yacg:Distinct []=true:=by decide
def yadE{code:List UInt8}{bed:Int}{p:Nat×Int}(hb:40<=bed/\bed<=1000):fJ (yZf code bed p)=true/\yY0 (yZf code bed p)=true/\(0<=yYT (yZf code bed p)/\yYT (yZf code bed p)<=560)/\(yZf code bed p).Calls=[]/\(yZf code bed p).yR0.yRY=[]/\(yZf code bed p).small/\(yZf code bed p).yR0.Gate=0:=by
 have e1:=yaez (code:=code) (p:=yZZ code p);have e2:=yaeC (code:=code) (p:=wkP1 code p);have e3:=yYC (code:=code) (n:=8) (p:=wkP2 code p) (by omega);have e4:=yaeD (code:=code) (p:=wkP3 code p);have e5:=yadY (code:=code) (p:=wkP5 code p);have e6:=yYC (code:=code) (n:=9) (p:=wkP6 code p) (by omega);have e7:=yYC (code:=code) (n:=5) (p:=wkP7 code p) (by omega);have e8:=yYC (code:=code) (n:=20) (p:=wkP8 code p) (by omega);have hw:=yabT (a:=1+yYB code 8 (wkP2 code p)) (by omega) e5
 have hl:lF (yaby code bed p)=true:=by
  simp only[lF,yaby,yacg,zcv,zad];exact⟨⟨⟨⟨⟨⟨⟨⟨aC.2 ⟨by omega,by omega⟩,aC.2 ⟨by omega,by omega⟩⟩,aC.2 ⟨by omega,by omega⟩⟩,aC.2 ⟨by omega,by omega⟩⟩,aC.2 ⟨by omega,by omega⟩⟩,aC.2 ⟨by omega,by omega⟩⟩,aC.2 ⟨by omega,by omega⟩⟩,aC.2 ⟨by omega,by omega⟩⟩,by decide⟩
 have hv:iZ (yacD code bed p)=true:=by
  simp only[iZ,yacD,zad];exact⟨⟨⟨⟨by decide,aC.2 ⟨by omega,by omega⟩⟩,aC.2 ⟨by omega,by omega⟩⟩,aC.2 ⟨by omega,by omega⟩⟩,aC.2 ⟨by omega,by omega⟩⟩
 have hr:ya3 ⟨bed+20,bed+45,bed+70⟩=true:=by
  simp only[ya3,zad,decide_eq_true_eq];exact⟨⟨⟨⟨aC.2 ⟨by omega,by omega⟩,aC.2 ⟨by omega,by omega⟩⟩,aC.2 ⟨by omega,by omega⟩⟩,by omega⟩,by omega⟩
 have hp:xO (yZw code (yZ2 code p))=true/\(yZw code (yZ2 code p)).length<=13:=by
  unfold yZw;split
  .rename_i h;exact⟨h,yact⟩
  .exact⟨by decide,by simp⟩
 refine⟨?_,rfl,hw,rfl,rfl,?_,rfl⟩
 .have ht:ybY ⟨false,0⟩=true:=by decide
  simp only[fJ,yZf,hl,hv,hr,hp.1,ht,zbf,zdO];rfl
 .exact⟨⟨by simp[yZf,yaby],λx hx=>by simp[yZf,yaby]at hx⟩,⟨by have:=hp.2;show(yZw code (yZ2 code p)).length<=_;omega,λ_ _=>trivial⟩,⟨by simp[yZf],λx hx=>by simp[yZf]at hx⟩⟩
structure yacO(d:yadQ)(k j:Nat):Prop where
 lr:d.R.length=k
 lw:d.W.length=k
 lk:d.K.length=j
 r:∀r∈d.R,xE r=true/\r.small/\0<=sZ r/\sZ r<=20000
 w:∀w∈d.W,ykM w=true
 k:∀w∈d.K,fJ w=true/\yY0 w=true/\(0<=yYT w/\yYT w<=560)/\w.Calls=[]/\w.yR0.yRY=[]/\w.small/\w.yR0.Gate=0
def yaaL{code:List UInt8}{n:Nat}{p:Nat×Int}(hn:n<=4):∀k:Nat,k<=n->yacO (yYH code n p k) k (min k (n-1))
 |0,_=>⟨rfl,rfl,by simp[yYH],λr h=>by simp[yYH]at h,λr h=>by simp[yYH]at h,λr h=>by simp[yYH]at h⟩
 | k+1,hk=>by
  have ih:=yaaL (code:=code) (p:=p) hn k (by omega);have hb:40<=(40*(n-k:Int))/\(40*(n-k:Int))<=1000:=by omega
  obtain⟨t,v,d,h1,h2,h3,h4,h5,h6⟩:=yadr (code:=code) (bed:=40*(n-k:Int)) (p:=(yYH code n p k).p) (by omega)
  have hr:∀r∈(yYH code n p k).R++[yZz code (40*(n-k:Int)) (yYH code n p k).p],xE r=true/\r.small/\0<=sZ r/\sZ r<=20000:=by
   intro r h;rcases zaj.1 h with h|h
   .exact ih.r r h
   .rw[zak,h1]at h;subst h;refine⟨h6,⟨⟨by simp only;omega,λ_ _=>trivial⟩,⟨by simp only[zbW];omega,λ_ _=>trivial⟩⟩,?_⟩;simp only[sZ,(yaeq d).1];omega
  have hw:∀w∈(yYH code n p k).W++[wayV code (40*(n-k:Int)) (yYH code n p k).p],ykM w=true:=by
   intro w h;rcases zaj.1 h with h|h
   .exact ih.w w h
   .rw[zak]at h;subst h;exact yaeh (by omega)
  have a1:=ih.lr;have a2:=ih.lw;have a3:=ih.lk;unfold yYH;simp only;split
  .refine⟨by simp;omega,by simp;omega,by simp only;omega,hr,hw,ih.k⟩
  .refine⟨by simp;omega,by simp;omega,by simp only[zah,zar,zbf];omega,hr,hw,λw h=>?_⟩;rcases zaj.1 h with h|h
   .exact ih.k w h
   .rw[zak]at h;subst h;exact yadE hb
def yacf{α:Type}{f:α->Int}{m:Int}:∀(l:List α),(∀x∈l,0<=f x/\f x<=m)->0<=(l.map f).sum/\(l.map f).sum<=m*l.length
 |[],_=>by simp
 |a::l,h=>by
  have ih:=yacf (f:=f) (m:=m) l λx hx=>h x (by simp[hx]);have h1:=h a (by simp);have h2:m*((a::l).length:Int)=m*l.length+m:=by rw[zar];push_cast;rw[zcE,zer]
  simp only[zaC,zaM];rw[h2];omega
def yabC(code:List UInt8)(p:Nat×Int):yacO (yZs code p) (yZF code p) (yZF code p-1)/\ybv (yZs code p).R/\yhE (yZs code p).W/\ycw (yZs code p).K:=by
 obtain⟨_,h2,h4⟩:=yabY code p
 have S:yacO (yZs code p) (yZF code p) (yZF code p-1):=by
  have:=yaaL (code:=code) (p:=yYA code 3 p) h4 (yZF code p) (Nat.le_refl _);rw[show min (yZF code p) (yZF code p-1)=yZF code p-1 by omega]at this;exact this
 have a1:=S.lr;have a2:=S.lw;have a3:=S.lk;exact⟨S,⟨by omega,λr h=>(S.r r h).2.1⟩,⟨by omega,λ_ _=>trivial⟩,⟨by omega,λw h=>(S.k w h).2.2.2.2.2.1⟩⟩
structure yahT(x:yRW):Prop where
 gate:∀w∈x.yRX,w.yR0.Gate=0
 start:x.Start<=1000000
 time:x.Time=0
 inn:x.In=0
def yadB(code:List UInt8)(p:Nat×Int):Bare (newV code p)/\(newV code p).small/\yahT (newV code p):=by
 obtain⟨S,s1,s2,s3⟩:=yabC code p;obtain⟨_,h2,h4⟩:=yabY code p;obtain⟨t1,t2,_⟩:=yadf code (yZs code p).p;have a1:=S.lr;have a2:=S.lw;have a3:=S.lk;unfold newV;generalize yZj code (yZs code p).p=T at *;generalize yZs code p=d at *;generalize yZF code p=n at *;have hno:d.K.all yY0=true:=zaf.2 λw h=>(S.k w h).2.1
 have hriv:jY d.R=true:=by
  have:=yacf (f:=sZ) (m:=20000) d.R λr h=>(S.r r h).2.2;simp only[jY,ySA,zad,decide_eq_true_eq,zaf];refine⟨⟨⟨by omega,by omega⟩,λr h=>(S.r r h).1⟩,decide_eq_true (by omega)⟩
 have hlan:(d.W.zip (List.replicate d.R.length [])).all jS=true:=by
  refine zaf.2 λq hq=>?_;obtain⟨w,l⟩:=q;obtain⟨m1,m2⟩:=List.of_mem_zip hq;rw[(zcS.1 m2).2];simp only[jS,S.w w m1,zbf,zdO];rfl
 have hwk:d.K.all fJ=true:=zaf.2 λw h=>(S.k w h).1
 have hany:∀s:Int,0<=s->s<=1000000000->rC ⟨0,d.R,d.W,d.K,List.replicate d.R.length [],[],[],T,[],[],s,0,0⟩=true:=by
  intro s g1 g2;have g3:inRange s 0 1000000000=true:=aC.2 ⟨g1,g2⟩
  have hp:sJ ⟨0,d.R,d.W,d.K,List.replicate d.R.length [],[],[],T,[],[],s,0,0⟩=true:=by
   simp only[sJ,hriv,hlan,hwk,zbW,zaW,zcv,zad];exact⟨⟨⟨decide_eq_true (by omega),decide_eq_true (by omega)⟩,decide_eq_true (by simp)⟩,decide_eq_true (by omega)⟩
  have hl:pO ⟨0,d.R,d.W,d.K,List.replicate d.R.length [],[],[],T,[],[],s,0,0⟩=true:=by
   simp[pO]
  have hbk:kU []=true:=by decide
  have h0:inRange 0 0 1000000=true:=by decide
  have h00:inRange 0 0 1000000000=true:=by decide
  simp only[rC,hp,hl,t1,hbk,g3,h0,h00,zdH]
 have hraw:rC (yZL d.R d.W d.K T)=true:=hany 0 (by omega) (by omega)
 have hwat:0<=yYN (yZL d.R d.W d.K T)/\yYN (yZL d.R d.W d.K T)<=1000000:=by
  have e1:=yacf (f:=sZ) (m:=20000) d.R λr h=>(S.r r h).2.2;have e2:=yacf (f:=yYT) (m:=560) d.K λw h=>(S.k w h).2.2.1;unfold yYN yYJ;rw[if_pos hraw]
  show 0<=(if jY d.R then ySA d.R else 0)+(d.K.map yYT).sum/\(if jY d.R then ySA d.R else 0)+(d.K.map yYT).sum<=1000000
  rw[if_pos hriv];unfold ySA;omega
 have hnew:rC (yZU d.R d.W d.K T)=true:=hany _ hwat.1 (by omega)
 have e:yYI d.R d.W d.K T=(yZU d.R d.W d.K T,true):=by
  unfold yYI;rw[hno,hnew];rfl
 rw[e];refine⟨⟨hnew,λl hl=>(zcS.1 hl).2,rfl,rfl,rfl,rfl,λw hw=>⟨(S.k w hw).2.2.2.1,(S.k w hw).2.2.2.2.1⟩,?_⟩,yabP s1 s2 s3 t2,λw hw=>(S.k w hw).2.2.2.2.2.2,hwat.2,rfl,rfl⟩
 show yYN (yZU d.R d.W d.K T)+0=yYN (yZL d.R d.W d.K T)+0
 have:yYN (yZU d.R d.W d.K T)=yYN (yZL d.R d.W d.K T):=by
  unfold yYN;rw[if_pos hnew,if_pos hraw];rfl
 rw[this]
def yacI(t:List ySc)(level delay:Int)(hl:t.length<=1048576):qB prg 11 [.c (.sl 2 (t.map ySc.enc)),.c (.i level),.c (.i delay)] (.tup [.agg ((yYY t level delay).1.enc.map .c),.c (.b (yYY t level delay).2)]):=
 (yacP t level delay hl).pure (by simp[AV.shr,AV.yEj,AV.yoE,dO,C.shr])
def yacJ{code:List UInt8}{n:Nat}{p:Nat×Int}{k:Nat}(h:k+1=n):yYH code n p (k+1)=⟨yZZ code (yYH code n p k).p,(yYH code n p k).R++[yZz code (40*(n-k:Int)) (yYH code n p k).p],(yYH code n p k).W++[wayV code (40*(n-k:Int)) (yYH code n p k).p],(yYH code n p k).K⟩:=by
 conv=>lhs;unfold yYH
 rw[if_pos h]
def yacT{code:List UInt8}{n:Nat}{p:Nat×Int}{k:Nat}(h:¬k+1=n):yYH code n p (k+1)=⟨wkN code (yYH code n p k).p,(yYH code n p k).R++[yZz code (40*(n-k:Int)) (yYH code n p k).p],(yYH code n p k).W++[wayV code (40*(n-k:Int)) (yYH code n p k).p],(yYH code n p k).K++[yZf code (40*(n-k:Int)) (yYH code n p k).p]⟩:=by
 conv=>lhs;unfold yYH
 rw[if_neg h]
def yacu:∀{a b a' b':List (List C)},yaq a=some a'->yaq b=some b'->yaq (a++b)=some (a'++b')
 |[],b,a',b',h1,h2=>by simp only[yaq]at h1;cases h1;exact h2
 | x::a,b,a',b',h1,h2=>by
  simp only[zcw,yaq]at h1|-;cases hx:dO x with
  |none=>rw[hx]at h1;cases h1
  | some y=>
   cases hl:yaq a with
   |none=>rw[hx,hl]at h1;cases h1
   |some r=>
    rw[hx,hl]at h1;cases h1;rw[yacu hl h2];rfl
def yabL(K:List yR8):yaq (K.map yR8.enc)=some (K.map yR8.enc):=by
 have h:=eF (f:=yR8.enc) (g:=yR8.enc) (λw=>by simp[dO,C.shr]) K;exact h
def yadZ(code:List UInt8)(p:Nat×Int)(hp:p.1<=code.length):yZW prg 44 (yYV code p) (yYV code (newN code p)) [] (.agg ((newV code p).enc.map .c)):=by
 obtain⟨hK,hn2,hn4⟩:=yabY code p;have h3:=yYC (code:=code) (n:=3) (p:=p) (by omega);obtain⟨_,s1,s2,s3⟩:=yabC code p;have q0:(yYA code 3 p).1<=code.length:=yYD hp;have eN:newN code p=tarN code (yZs code p).p:=rfl;have eV:newV code p=(yYI (yZs code p).R (yZs code p).W (yZs code p).K (yZj code (yZs code p).p)).1:=rfl;have eD:yZs code p=yYH code (yZF code p) (yYA code 3 p) (yZF code p):=rfl;rw[eN,eV];refine yZP yabE (by simp) λhwf hwf2=>?_;refine goQ_ ?_;refine yYE (yYF code 3 p hp (by omega) (by omega)) (by simp) (by simp) rfl (by simp[fD]) (goQ_ ?_);refine⟨by unfold inI;omega,?_⟩;rw[<-hK];rw[eD]at s1 s2 s3|-;clear eN eV eD hK;generalize yZF code p=n at *;generalize yYA code 3 p=qq at *;refine qA (ι:=Nat) (λk=>k<n) (λk=>xC [(0,.box 0 0),(1000000,.box 0 0),(2,.box 2 0),(3,.c (.i n)),(4,.own 19 3 (yYH code n qq k).R.length),(5,.own 20 2 (yYH code n qq k).W.length),(6,.own 21 22 (yYH code n qq k).K.length),(7,.c (.i k))] [(0,.box ((yYV code (yYH code n qq k).p).map .c)),(2,zW),(19,.row 3 ((yYH code n qq k).R.map Reach.enc)),(20,.row 2 ((yYH code n qq k).W.map Way.enc)),(21,.tr 22 0 ((yYH code n qq k).K.map yR8.enc))]) (λk=>n-k) 0 (by show 0<n;omega) (by apply aB<;>simp[yYH]) ?_
 rintro k hk
 have hk':k<n:=hk;have hq:=yabo (n:=n) q0 k;have hln:=yabN (code:=code) (n:=n) (p:=qq) k (by omega);have hlast:=yacJ (code:=code) (n:=n) (p:=qq) (k:=k);have hnext:=yacT (code:=code) (n:=n) (p:=qq) (k:=k);generalize hQ:yYH code n qq k=Q at *;obtain⟨q,R,W,K⟩:=Q;simp only at hq hln hlast hnext|-;obtain⟨l1,l2,l3,_⟩:=hln;have l3:=l3 hk';obtain⟨bed,hbed⟩:∃b:Int,b=40*((n:Int)-k):=⟨_,rfl⟩;rw[<-hbed]at hlast hnext;have hb:40<=bed/\bed<=160:=by omega
 have v1:=yYC (code:=code) (n:=9) (p:=q) (by omega);have v2:=yYC (code:=code) (n:=30) (p:=rcP1 code q) (by omega);have v3:=yYC (code:=code) (n:=3) (p:=rcP2 code q) (by omega);have v4:=yaep (code:=code) (p:=rcP3 code q);have w1:=yYM code wayL (rcP3 code q) (yadi hq) (by simp[wayL]) (by simp[wayL]);have y1:wayL.map qC=[[.i 8],[.i 20],[.i 40]]:=rfl;have hNR:=yacI (yZb bed (6000+600*yYB code 9 q)) (bed+25+yYB code 30 (rcP1 code q)) (yYB code 3 (rcP2 code q)) (by simp[yZb]);have hrT:(yZb bed (6000+600*yYB code 9 q)).map ySc.enc=[[.i bed,.i 0],[.i (bed+60),.i (6000+600*yYB code 9 q)],[.i (bed+90),.i 20000]]:=rfl;rw[hrT]at hNR;have eR:yZz code bed q=(yYY (yZb bed (6000+600*yYB code 9 q)) (bed+25+yYB code 30 (rcP1 code q)) (yYB code 3 (rcP2 code q))).1:=rfl;have eW:wayV code bed q=⟨yYO code wayL (rcP3 code q),bed⟩:=rfl;simp -dsimp -implicitDefEqProofs [fC hk',hk',<-hbed];refine⟨by unfold inI;omega,by unfold inI;omega,by unfold inI;omega,?_⟩;refine yYE (yYF code 9 q hq (by omega) (by omega)) (by simp) (by simp) rfl (by simp[fD]) (goQ_ ?_);refine⟨by unfold inI;omega,by unfold inI;omega,by unfold inI;omega,by unfold inI;omega,?_⟩;refine yYE (yYF code 30 (rcP1 code q) (yadj hq) (by omega) (by omega)) (by simp[rcP1]) (by simp) rfl (by simp[fD]) (goQ_ ?_);refine⟨by unfold inI;omega,?_⟩;refine yYE (yYF code 3 (rcP2 code q) (yadl hq) (by omega) (by omega)) (by simp[rcP2]) (by simp) rfl (by simp[fD]) (goQ_ ?_);refine yGz [44] hNR (by simp -dsimp -implicitDefEqProofs) rfl ?_;rw[<-eR];generalize yZz code bed q=r at *;generalize(yYY (yZb bed (6000+600*yYB code 9 q)) (bed+25+yYB code 30 (rcP1 code q)) (yYB code 3 (rcP2 code q))).2=rb at *;refine goQ_ ?_;refine⟨by omega,?_⟩;refine yY5 (rows:=[[.i 8],[.i 20],[.i 40]]) (by simpa[y1]using w1) (by simp[rcP3]) (by simp) rfl (goQ_ ?_);refine⟨by omega,by unfold inI;omega,λhend=>?_,λhgo=>?_⟩
 .have hkn:k+1=n:=by omega
  have hL:yYH code n qq n=_:=(congrArg (yYH code n qq) hkn.symm).trans (hlast hkn);rw[hL]at s1 s2 s3|-;clear hlast hnext hL;simp only at s1 s2 s3|-;refine yYE (yacE code (yZZ code q) (yabc hq)) (by simp[yZZ]) (by simp) rfl (by simp[fD]) (goQ_ ?_);have hNW:=yaau (R++[r]) (W++[wayV code bed q]) K (yZj code (yZZ code q)) s1 s2 s3 (yadf code (yZZ code q)).2.1;generalize yYI (R++[r]) (W++[wayV code bed q]) K (yZj code (yZZ code q))=X at *;refine yGz [19,20,21,30137,40137] hNW (by simp -dsimp -implicitDefEqProofs [jA,eW,yabL];exact⟨(zae (by simp)).symm,(zae (by simp)).symm⟩) rfl ?_;exact goE_
 .have hnx:=hnext (by omega);have b1:=yYM code chlL (yZZ code q) (yabc hq) (by simp[chlL]) (by simp[chlL]);have b2:=yYM code chwL (wkP1 code q) (yado hq) (by simp[chwL]) (by simp[chwL]);have b4:=yYM code yZC (wkP3 code q) (yadc hq) (by simp[yZC]) (by simp[yZC]);have b6:=yYM code watL (wkP5 code q) (yada hq) (by simp[watL]) (by simp[watL]);have f1:chlL.map qC=[[.i 60],[.i 120]]:=rfl;have f2:chwL.map qC=[[.i 10],[.i 16]]:=rfl;have f4:yZC.map qC=[[.i 60],[.i 300],[.i 2000]]:=rfl;have f6:watL.map qC=[[.i 10],[.i 30],[.i 70]]:=rfl;rw[f1]at b1;rw[f2]at b2;rw[f4]at b4;rw[f6]at b6;have r3:=yYC (code:=code) (n:=8) (p:=wkP2 code q) (by omega);have r5:=yYC (code:=code) (n:=2) (p:=wkP4 code q) (by omega);have r6:=yadY (code:=code) (p:=wkP5 code q);have r7:=yYC (code:=code) (n:=9) (p:=wkP6 code q) (by omega);have r8:=yYC (code:=code) (n:=5) (p:=wkP7 code q) (by omega);have r9:=yYC (code:=code) (n:=20) (p:=wkP8 code q) (by omega);have hwat:=yabT (a:=1+yYB code 8 (wkP2 code q)) (by omega) r6;refine yY5 (rows:=[[.i 60],[.i 120]]) (by simpa using b1) (by simp[yZZ]) (by simp) rfl (goQ_ ?_);refine yY5 (rows:=[[.i 10],[.i 16]]) (by simpa using b2) (by simp[wkP1]) (by simp) rfl (goQ_ ?_);refine⟨by unfold inI;omega,?_⟩;refine yYE (yYF code 8 (wkP2 code q) (yacY hq) (by omega) (by omega)) (by simp[wkP2]) (by simp) rfl (by simp[fD]) (goQ_ ?_);refine⟨by unfold inI;omega,?_⟩;refine yY5 (rows:=[[.i 60],[.i 300],[.i 2000]]) (by simpa using b4) (by simp[wkP3]) (by simp) rfl (goQ_ ?_);refine yYE (yYF code 2 (wkP4 code q) (yadn hq) (by omega) (by omega)) (by simp[wkP4]) (by simp) rfl (by simp[fD]) (goQ_ ?_);have hg:CurG prg 127 (yYV code (wkP5 code q)) (yYV code (yY1 code watL (wkP5 code q))) 1 ([[C.i 10],[C.i 30],[C.i 70]].take 3) (.c (.i (yYO code watL (wkP5 code q)))):=b6;refine yaaz (id:=0) (id1:=94) hg (by simp) (by simp) (by simp[wkP5]) (by simp) rfl (goQ_ ?_);have hpz:=yacw code (yZ2 code q) (yadb hq);refine⟨by unfold inI;omega,by unfold inI;omega,by unfold inI;omega,by unfold inI;omega,?_⟩;refine yZ9 (id:=0) (yYF code 9 (wkP6 code q) (yadh hq) (by omega) (by omega)) (by simp) (by simp[wkP6]) (λ_=>by simp) rfl rfl rfl (goQ_ ?_);refine yZ9 (id:=0) (yYF code 5 (wkP7 code q) (yadm hq) (by omega) (by omega)) (by simp) (by simp[wkP7]) (λ_=>by simp) rfl rfl rfl (goQ_ ?_);refine⟨by unfold inI;omega,by unfold inI;omega,?_⟩;refine yZ9 (id:=0) (yYF code 20 (wkP8 code q) (yadk hq) (by omega) (by omega)) (by simp) (by simp[wkP8]) (λ_=>by simp) rfl rfl rfl (goQ_ ?_);refine⟨by unfold inI;omega,?_⟩;refine yZ9 (id:=0) hpz (by simp) (by simp[yZ2]) (λ_=>by simp) rfl rfl rfl (goQ_ ?_);have eP:wkN code q=(yYW code (yZ2 code q)).1:=rfl;have eV:yZw code (yZ2 code q)=if xO (yYW code (yZ2 code q)).2 then(yYW code (yZ2 code q)).2 else[]:=rfl
  have eK:yZf code bed q=⟨yaby code bed q,yacD code bed q,⟨bed+20,bed+45,bed+70⟩,yZw code (yZ2 code q),⟨false,0⟩,[]⟩:=rfl;have eL:yaby code bed q=⟨yYO code chlL (yZZ code q),yYO code chwL (wkP1 code q),bed,bed-40,bed-40,1+yYB code 8 (wkP2 code q),yYO code yZC (wkP3 code q),(1+yYB code 8 (wkP2 code q))*yYO code watL (wkP5 code q),0,[]⟩:=rfl;have eX:yacD code bed q=⟨2,yYB code 9 (wkP6 code q),1+yYB code 5 (wkP7 code q),bed+10,1+yYB code 20 (wkP8 code q)⟩:=rfl;refine yYq (ylL (yYW code (yZ2 code q)).2) ?_;cases hpo:xO (yYW code (yZ2 code q)).2 with
  | false=>
   rw[hpo]at eV;refine goQ_ ?_;refine⟨by omega,by unfold inI;omega,k+1,by omega,by omega,?_⟩
   have hgs:yaq (K.map yR8.enc++[[.i (yYO code chlL (yZZ code q)),.i (yYO code chwL (wkP1 code q)),.i bed,.i (bed-40),.i (bed-40),.i (1+yYB code 8 (wkP2 code q)),.i (yYO code yZC (wkP3 code q)),.i ((1+yYB code 8 (wkP2 code q))*yYO code watL (wkP5 code q)),.i 0,.sl 2 [],.i 2,.i (yYB code 9 (wkP6 code q)),.i (1+yYB code 5 (wkP7 code q)),.i (bed+10),.i (1+yYB code 20 (wkP8 code q)),.i (bed+20),.i (bed+45),.i (bed+70),.ow 2 [],.b false,.i 0,.sl 4 []]])=some (K.map yR8.enc++[(yZf code bed q).enc]):=
    yacu (yabL K) (by simp[yaq,dO,C.shr,eV,eK,eL,eX])
   refine yVb 21 (k:=22) (v:=0) (by simp) hgs ?_;apply aB<;>simp[hnx,eP,eV,eK,eL,eX,eW]
  |true=>
   rw[hpo]at eV;refine goQ_ ?_;refine⟨by omega,by unfold inI;omega,k+1,by omega,by omega,?_⟩;apply aB<;>simp[hnx,eP,eV,eK,eL,eX,eW]
def yace{rows:List (List ySa)}{b:ySa}(h:1<=rows.length):(addLast rows b).flatten=rows.flatten++[b]:=by
 rcases zcl rows with e|⟨l,r,e⟩
 .subst e;simp at h
 .rw[zcm]at e;subst e;simp[addLast]
def yaag{code:List UInt8}{id:Int}{p:Nat×Int}(k:Nat):(yYG code id p (k+1)).2.flatten=(yYG code id p k).2.flatten++[yZD code (id+k) (yYG code id p k).1]:=by
 have ih:=yZq (code:=code) (id:=id) (p:=p) k;simp only[yYG];split
 .simp
 .simp only[];split
  .rw[yace (by omega)]
  .simp
def yZM{code:List UInt8}{id:Int}{p:Nat×Int}:∀k:Nat,(yYG code id p k).2.flatten.map yc0=(List.range k).map λi:Nat=>id+(i:Int)
 |0=>rfl
 |k+1=>by
  rw[yaag,zaD,yZM k,zdq,zaD];rfl
def yadC{x:Int}(h:x∈yZY):1<=x/\x<=200:=by
 simp[yZY]at h;omega
def yadV{code:List UInt8}{id:Int}{p:Nat×Int}(h:1<=id/\id<=9999):iL (yZD code id p)=true:=by
 have h1:=yadC (yY6 (code:=code) (l:=yZY) (p:=p) (by simp[yZY]));have h2:=yYC (code:=code) (n:=9) (p:=yZ7 code p) (by omega);have h3:=yYC (code:=code) (n:=30) (p:=yZ0 code p) (by omega);have h4:=yYC (code:=code) (n:=12) (p:=yZ3 code p) (by omega);have h5:=yYC (code:=code) (n:=3) (p:=yZ6 code p) (by omega);simp only[iL,yZD,zad];exact⟨⟨⟨⟨⟨aC.2 h,aC.2 h1⟩,aC.2 ⟨by omega,by omega⟩⟩,aC.2 ⟨by omega,by omega⟩⟩,aC.2 ⟨by omega,by omega⟩⟩,aC.2 ⟨by omega,by omega⟩⟩
def yaaH{code:List UInt8}{id:Int}{p:Nat×Int}:∀k:Nat,1<=id->id+k<=9999->∀b∈(yYG code id p k).2.flatten,iL b=true
 |0,_,_,b,h=>by simp[yYG]at h
 | k+1,h1,h2,b,h=>by
  rw[yaag]at h;rcases zaj.1 h with h|h
  .exact yaaH k h1 (by omega) b h
  .simp only[zak]at h;subst h;exact yadV ⟨by omega,by omega⟩
def yabO{code:List UInt8}{id:Int}{p:Nat×Int}(h:1<=id/\id<=9000):oC (yY3 code id p)=true:=by
 obtain⟨_,k1,k4⟩:=yZT code p;have hb:(yY3 code id p).qE=(yYG code id (yYA code 4 (yYA code 2 p)) (yY7 code p)).2.flatten:=rfl;have hr:(yY3 code id p).Rows=(yYG code id (yYA code 4 (yYA code 2 p)) (yY7 code p)).2:=rfl;simp only[oC,zad,zaf,decide_eq_true_eq];have hids:=yZM (code:=code) (id:=id) (p:=yYA code 4 (yYA code 2 p)) (yY7 code p);have hlen:=congrArg List.length hids;simp only[zal,zcY]at hlen;rw[hb,hr];refine⟨⟨⟨λr hr=>yky.2 ?_,yaaH _ (by omega) (by omega)⟩,?_⟩,aC.2 ?_⟩
 .have:=yZp _ r hr;omega
 .rw[hids];refine List.Pairwise.map _ ?_ zcL;intro a b h e;exact h (by omega)
 .rw[hlen];omega
def yacd{code:List UInt8}{id:Int}{p:Nat×Int}:(yY3 code id p).small:=by
 obtain⟨_,k1,k4⟩:=yZT code p;have h1:=yZq (code:=code) (id:=id) (p:=yYA code 4 (yYA code 2 p)) (yY7 code p);refine⟨by simp only[yY3];omega,λr hr=>⟨?_,λ_ _=>trivial⟩⟩;have:=yZp _ r hr;omega
def yacQ(code:List UInt8)(id:Int)(p:Nat×Int)(hp:p.1<=code.length)(hid:0<=id/\id<=1000000):yZW prg 46 (yYV code p) (yYV code (yaaC code id p)) [.c (.i id)] (.agg ((yY3 code id p).enc.map .c)):=by
 have hsh:yaq ((yY3 code id p).Rows.map eoB)=some ((yY3 code id p).Rows.map jE):=eF (λr=>by simp[eoB,dO,C.shr,jE]) _;exact(yacH code id p hp hid).share (by simp[AV.shr,AV.yoE,dO,C.shr,hsh]) (λl h=>by cases h)
def yacG{code:List UInt8}{id:Int}{p:Nat×Int}(h:p.1<=code.length):(yaaC code id p).1<=code.length:=yZ1 (yYD (yYD h)) _
def dtP(code:List UInt8)(n:Nat)(p:Nat×Int):Nat->Nat×Int
 |0=>p
 |j+1=>yaaC code (10*(n-j:Nat)) (dtP code n p j)
def dtS(code:List UInt8)(n:Nat)(p:Nat×Int):Nat->List yRT
 |0=>[]
 |j+1=>dtS code n p j++[yY3 code (10*(n-j:Nat)) (dtP code n p j)]
def yadS{code:List UInt8}{n:Nat}{p:Nat×Int}(h:p.1<=code.length):∀j:Nat,(dtP code n p j).1<=code.length
 |0=>h
 |j+1=>yacG (yadS h j)
def yabe{code:List UInt8}{n:Nat}{p:Nat×Int}:∀j:Nat,(dtS code n p j).length=j
 |0=>rfl
 |j+1=>by simp[dtS,yabe j]
def yadq{code:List UInt8}{id:Int}{p:Nat×Int}(h:1<=id/\id<=9000):∃k:Nat,k<=4/\lG (yY3 code id p)=(List.range k).map λi:Nat=>id+(i:Int):=by
 obtain⟨_,_,k4⟩:=yZT code p;refine⟨yY7 code p,k4,?_⟩;rw[(yZJ (yabO h)).1];exact yZM (code:=code) (id:=id) (p:=yYA code 4 (yYA code 2 p)) (yY7 code p)
structure yacX(n:Nat)(ts:List yRT):Prop where
 ok:∀t∈ts,oC t=true/\t.small
 lo:∀i∈ts.flatMap lG,10*(n-ts.length:Nat)+10<=i
 nd:(ts.flatMap lG).Nodup
def yadM{code:List UInt8}{n:Nat}{p:Nat×Int}(hn:n<=100):∀j:Nat,j<=n->yacX n (dtS code n p j)
 |0,_=>⟨λt h=>by simp[dtS]at h,λi h=>by simp[dtS]at h,by simp[dtS]⟩
 | j+1,hj=>by
  have ih:=yadM (code:=code) (p:=p) hn j (by omega);have hid:1<=(10*(n-j:Nat):Int)/\(10*(n-j:Nat):Int)<=9000:=by omega
  obtain⟨k,k4,hk⟩:=yadq (code:=code) (id:=10*(n-j:Nat)) (p:=dtP code n p j) hid;have hl:=yabe (code:=code) (n:=n) (p:=p) j;have hok:=yabO (code:=code) (id:=10*(n-j:Nat)) (p:=dtP code n p j) hid;have hsm:=yacd (code:=code) (id:=10*(n-j:Nat)) (p:=dtP code n p j);have hlo:=ih.lo;rw[hl]at hlo
  have hnew:∀i∈lG (yY3 code (10*(n-j:Nat)) (dtP code n p j)),10*(n-j:Nat)<=i/\i<=10*(n-j:Nat)+3:=by
   intro i hi;rw[hk]at hi;obtain⟨a,ha,rfl⟩:=zaP.1 hi;have:=zaN.1 ha;omega
  unfold dtS;refine⟨λt h=>?_,λi h=>?_,?_⟩
  .rcases zaj.1 h with h|h
   .exact ih.ok t h
   .rw[zak]at h;subst h;exact⟨hok,hsm⟩
  .rw[zah,hl];rw[zaV]at h;rcases zaj.1 h with h|h
   .have:=hlo i h;simp only[zar,zbf];omega
   .simp only[zaU,zdi,zbF]at h;have:=hnew i h;simp only[zar,zbf];omega
  .rw[zaV,zaY];refine⟨ih.nd,?_,λa ha b hb=>?_⟩
   .simp only[zaU,zdi,zbF];rw[hk];refine List.Pairwise.map _ ?_ zcL;intro a b h e;exact h (by omega)
   .simp only[zaU,zdi,zbF]at hb;have h1:=hlo a ha;have h2:=hnew b hb;omega
def dwX(code:List UInt8):yRW:=newV code (0,hash code)
def dwP(code:List UInt8):Nat×Int:=newN code (0,hash code)
def dwK(code:List UInt8):Nat:=(yYB code 9 (dwP code)).toNat
def dwT(code:List UInt8):List yRT:=dtS code (dwK code) (yYA code 9 (dwP code)) (dwK code)
def yadU(code:List UInt8):(dwK code:Int)=yYB code 9 (dwP code)/\dwK code<=8:=by
 have h:=yYC (code:=code) (n:=9) (p:=dwP code) (by omega);unfold dwK;omega
def yaej{code:List UInt8}{p:Nat×Int}(h:p.1<=code.length):(newN code p).1<=code.length:=yabv (yYD (yYD (yYD (yYD (yYD (yaei h)))))) _
def yaev(code:List UInt8):yacX (dwK code) (dwT code)/\(dwT code).length<=8:=by
 have h:=(yadU code).2;exact⟨yadM (by omega) _ (Nat.le_refl _),by unfold dwT;rw[yabe];exact h⟩
def yabw(code:List UInt8)(hl:code.length<=1048576):qB prg 10 [.c (.sl 1 (code.map yBD))] (.tup [.agg ((dwX code).enc.map .c),.c (.sl 2 ((dwT code).map yRT.enc))]):=by
 refine dB yZV ?_;have hpl:(∀x,x∈yYV code (0,hash code)->x.plain=true)=True:=by simp[yYV,C.plain]
 have hK:=yadU code;have hq0:(dwP code).1<=code.length:=yaej (by simp);have hnew:=yadZ code (0,hash code) (by simp);have eX:newV code (0,hash code)=dwX code:=rfl;have eP:newN code (0,hash code)=dwP code:=rfl;have eT:dwT code=dtS code (dwK code) (yYA code 9 (dwP code)) (dwK code):=rfl;rw[eX,eP]at hnew;rw[eT];generalize dwX code=x at *;refine goQ_ ?_;refine qU (yadL code hl) (by simp) rfl (by simp[fD,hpl]) (yafw hpl ?_);refine yYE hnew (by simp[hpl]) (by simp) rfl (by simp[fD]) (yafw hpl ?_);refine yYE (yYF code 9 (dwP code) hq0 (by omega) (by omega)) (by simp) (by simp) rfl (by simp[fD]) (goQ_ ?_);rw[<-hK.1];have q9:(yYA code 9 (dwP code)).1<=code.length:=yYD hq0;have hn8:=hK.2;clear hK eT eX eP hnew;generalize dwK code=n at *;generalize yYA code 9 (dwP code)=qq at *;refine yX2 (λj=>j<=n) (λj=>xC [(2,.box 2 0),(4,.box 9 0),(5,.box 5 0),(6,.own 12 2 j),(7,.c (.i (n-j)))] [(2,zW),(5,.box (x.enc.map .c)),(9,.box ((yYV code (dtP code n qq j)).map .c)),(12,.row 2 ((dtS code n qq j).map yRT.enc))]) (λj=>n-j) (by apply aB<;>simp[dtP,dtS,hpl]) ?_
 rintro j hj
 have hq:=yadS (n:=n) q9 j;have hlen:=yabe (code:=code) (n:=n) (p:=qq) j;have hp1:dtP code n qq (j+1)=yaaC code (10*(n-j:Nat)) (dtP code n qq j):=rfl;have hs1:dtS code n qq (j+1)=dtS code n qq j++[yY3 code (10*(n-j:Nat)) (dtP code n qq j)]:=rfl;rcases zas j n with hlt|hge
 .have hgt:(0<(n:Int)-(j:Int))=True:=eq_true (by omega);have hid:(10:Int)*((n:Int)-(j:Int))=10*(n-j:Nat):=by omega
  have htr:=yacQ code (10*(n-j:Nat)) (dtP code n qq j) hq (by omega);generalize dtP code n qq j=q at *;generalize dtS code n qq j=ts at *;generalize yY3 code (10*(n-j:Nat)) q=t at *;refine yafw hgt ?_;refine⟨λ_=>?_,λh=>by omega⟩;rw[hid];refine⟨by unfold inI;omega,?_⟩;refine yYE htr (by simp) (by simp) rfl (by simp[fD]) (goQ_ ?_);refine⟨hlen.symm,by omega,by unfold inI;omega,j+1,by omega,by omega,?_⟩;apply aB<;>simp[hp1,hs1]<;>omega
 .have hgt:(0<(n:Int)-(j:Int))=False:=eq_false (by omega);have:j=n:=by omega
  subst this;generalize dtS code j qq j=ts at *;refine yafw hgt ?_;rw[zae (by simp;omega)]
def yaln(b:ySa):Prop:=b.Length<=80/\b.Width<=9/\b.ySv<=30
def yajn{code:List UInt8}{id:Int}{p:Nat×Int}:yaln (yZD code id p):=by
 have h1:=yY6 (code:=code) (l:=yZY) (p:=p) (by simp[yZY]);have h2:=yYC (code:=code) (n:=9) (p:=yZ7 code p) (by omega);have h3:=yYC (code:=code) (n:=30) (p:=yZ0 code p) (by omega);simp only[yZY,zax,zaH,or_false]at h1;refine⟨?_,?_,?_⟩
 .show yYO code yZY p<=80
  unfold yZY;omega
 .show 1+yYB code 9 (yZ7 code p)<=9
  omega
 .show 1+yYB code 30 (yZ0 code p)<=30
  omega
def yajd{code:List UInt8}{id:Int}{p:Nat×Int}:∀k:Nat,∀r∈(yYG code id p k).2,∀b∈r,yaln b
 |0,r,h=>by simp[yYG]at h
 | k + 1,r,h=>by
  have ih:=yajd (code:=code) (id:=id) (p:=p) k;intro b hb;unfold yYG at h;simp only at h;split at h
  .rcases zaj.1 h with h|h
   .exact ih r h b hb
   .rw[zak]at h;subst h;rw[zak]at hb;rw[hb];exact yajn
  .simp only at h;split at h
   .unfold addLast at h;rcases zaK h with h|h
    .exact ih r h b hb
    .subst h;rcases zaj.1 hb with hb|hb
     .cases hr:(yYG code id p k).2[(yYG code id p k).2.length-1]? with
      |none=>rw[hr]at hb;cases hb
      |some r0=>
       rw[hr]at hb;exact ih r0 (zac hr) b hb
     .rw[zak]at hb;rw[hb];exact yajn
   .rcases zaj.1 h with h|h
    .exact ih r h b hb
    .rw[zak]at h;subst h;rw[zak]at hb;rw[hb];exact yajn
def yajV{code:List UInt8}{n:Nat}{p:Nat×Int}:∀j:Nat,∀t∈dtS code n p j,∀r∈t.Rows,∀b∈r,yaln b
 |0,t,h=>by simp[dtS]at h
 | j+1,t,h=>by
  unfold dtS at h;rcases zaj.1 h with h|h
  .exact yajV j t h
  .rw[zak]at h;subst h;exact yajd _
def yaiN{α:Type}{f:α->Int}{c:Int}:∀{l:List α},(∀x∈l,f x<=c)->(l.map f).sum<=c*l.length
 |[],_=>by simp
 |a::l,h=>by
  have h1:=h a (by simp);have h2:=yaiN (l:=l) λx hx=>h x (by simp[hx]);simp only[zaC,zaM,zar];rw[show((l.length+1:Nat):Int)=(l.length:Int)+1 by omega,zcE];omega
def yalg{c:Int}:∀(l:List (List ySa)) (z:Int),(∀r∈l,ycV r<=c)->z<=c->l.foldl (λm r=>if m<ycV r then ycV r else m) z<=c
 |[],z,_,h=>h
 |r::l,z,h,hz=>by
  have:=h r (by simp);rw[zbz];refine yalg l _ (λy hy=>h y (by simp[hy])) ?_;split<;>omega
def yalL{t:yRT}(h:oC t=true)(hs:∀r∈t.Rows,∀b∈r,yaln b):Fine t:=by
 have F:=lK h;have hrl:=yHX F
 have hrow:∀r∈t.Rows,r.length<=6/\∀b∈r,iL b=true:=λr hr=>by
  obtain⟨i,hi⟩:=zat hr;exact(ylj F hi).2
 refine⟨h,?_,?_,?_⟩
 .unfold oH;rw[if_pos h];refine(yuz (a:=0) (b:=30) (λb hb=>?_) (by omega) (by omega)).2;obtain⟨r,hr,hbr⟩:=List.mem_flatten.1 (show b∈t.Rows.flatten from hb);have:=ygR ((hrow r hr).2 b hbr);have:=(hs r hr b hbr).2.2;omega
 .unfold iH yBX;rw[if_pos h];refine yalg _ _ (λr hr=>?_) (by omega);have h1:=yaiN (f:=ySa.Width) (c:=9) (l:=r) λb hb=>(hs r hr b hb).2.1;have h2:=(hrow r hr).1;unfold ycV;omega
 .unfold aI;rw[if_pos h]
  have h1:=yaiN (f:=rowLen) (c:=80) (l:=t.Rows) λr hr=>by
   unfold rowLen;refine(yuz (a:=0) (b:=80) (λb hb=>?_) (by omega) (by omega)).2;have:=ygR ((hrow r hr).2 b hb);have:=(hs r hr b hb).1;omega
  omega
def yalS(code:List UInt8):∀t∈dwT code,Fine t:=λt ht=>yalL ((yaev code).1.ok t ht).1 (yajV _ t ht)
def bAdd(b:List Int)(i d:Int):List Int:=b.set i.toNat (b[i.toNat]?.getD 0+d)
def post(b:List Int)(e:ySb):List Int:=bAdd (bAdd b e.From (-e.Amount)) e.To e.Amount
def yaip:List Int:=List.replicate 12 0
def yaiB(es:List ySb)(k:Nat):List Int:=(es.take k).foldl post yaip
def yaih(es:List ySb):List Int:=if kU es then es.foldl post yaip else[]
def yajM{es:List ySb}:yaiB es 0=yaip:=rfl
def yaiR{es:List ySb}{k:Nat}{e:ySb}(h:es[k]?=some e):yaiB es (k+1)=post (yaiB es k) e:=by
 unfold yaiB;rw[zao,h,zbH];rfl
def yais{es:List ySb}{k:Nat}(h:es.length<=k):yaiB es k=es.foldl post yaip:=by
 unfold yaiB;rw[zae h]
def yakJ{b:List Int}{i d:Int}:(bAdd b i d).length=b.length:=by simp[bAdd]
def yamc{b:List Int}{e:ySb}:(post b e).length=b.length:=by simp[post,yakJ]
def yaiI{es:List ySb}:∀k:Nat,(yaiB es k).length=12
 |0=>rfl
 | k+1=>by
  cases h:es[k]? with
  |none=>
   have hl:es.length<=k:=by simpa using h
   have:=yaiI (es:=es) k;rw[yais (by omega)];rwa [yais hl]at this
  |some e=>rw[yaiR h,yamc,yaiI k]
structure yalb(e:ySb):Prop where
 ne:e.From≠e.To
 from_:0<=e.From/\e.From<=11
 to_:0<=e.To/\e.To<=11
 amt:1<=e.Amount/\e.Amount<=1000000000
 time:0<=e.Time/\e.Time<=1000000
 why:0<=e.Why/\e.Why<=9999
def yajI{e:ySb}(h:aV e=true):yalb e:=by
 simp only[aV,zad,decide_eq_true_eq]at h;obtain⟨⟨⟨⟨⟨h1,h2⟩,h3⟩,h4⟩,h5⟩,h6⟩:=h;exact⟨h1,aC.1 h2,aC.1 h3,aC.1 h4,aC.1 h5,aC.1 h6⟩
def yakf{es:List ySb}(h:kU es=true):es.length<=2000/\∀e∈es,aV e=true:=by
 simp only[kU,zad,zaf,decide_eq_true_eq]at h;exact h
def yall{b:List Int}{i d n m:Int}(h:∀x∈b,-n<=x/\x<=n)(hd: -m<=d/\d<=m)(hn:0<=n):∀x∈bAdd b i d,-(n+m)<=x/\x<=n+m:=by
 intro x hx;unfold bAdd at hx;rcases zaK hx with hx|rfl
 .have:=h x hx;omega
 .cases hb:b[i.toNat]? with
  |none=>simp;omega
  |some y=>have:=h y (zac hb);simp;omega
def yakL{es:List ySb}(h:kU es=true):∀k:Nat,∀x∈yaiB es k,-(2000000000*(k:Int))<=x/\x<=2000000000*k
 |0=>by intro x hx;rw[yajM]at hx;have:=List.eq_of_mem_replicate hx;omega
 | k+1=>by
  have ih:=yakL h k;cases hk:es[k]? with
  |none=>
   have hl:es.length<=k:=by simpa using hk
   have e1:yaiB es (k+1)=yaiB es k:=by rw[yais (by omega),yais hl]
   rw[e1];intro x hx;have:=ih x hx;have e2:((k+1:Nat):Int)=k+1:=by simp
   rw[e2];omega
  |some e=>
   have ef:=yajI ((yakf h).2 e (zac hk));have ha:=ef.amt;rw[yaiR hk];have h1:=yall (i:=e.From) (d:=-e.Amount) (m:=1000000000) ih (by omega) (by omega);have h2:=yall (i:=e.To) (d:=e.Amount) (m:=1000000000) h1 (by omega) (by omega);intro x hx;have:=h2 x hx;have e2:((k+1:Nat):Int)=k+1:=by simp
   rw[e2];omega
def yalo{b:List Int}{i d v:Int}(h:b[i.toNat]?=some v):(b.map qC).set i.toNat [.i (v+d)]=(bAdd b i d).map qC:=by
 unfold bAdd;rw[h,zaZ];rfl
def yaiQ{b:List Int}{i j d:Int}(h:i.toNat≠j.toNat):(bAdd b i d)[j.toNat]?=b[j.toNat]?:=by
 unfold bAdd;rw[zaE];simp[h]
def yami{b:List Int}{i v:Int}(h:b[i.toNat]?=some v):(b.map qC)[i.toNat]?=some [.i v]:=by simp[h]
def yajB(es:List ySb):nI prg 18 [.c (.sl 5 (es.map ySb.enc))] (.c (.ow 1 ((yaih es).map qC))):=by
 refine fF yaje (goQ_ ?_);refine aA (ykw es) ?_;cases h:kU es with
 |false=>simp -dsimp -implicitDefEqProofs;simp[yaih,h]
 | true=>
  obtain⟨hb1,hb2⟩:=yakf h;refine goQ_ ?_;intro hlen;refine yX2 (λk=>k<=es.length) (λk=>xC [(3,.own 9 1 12),(10,.c (.sl 5 (es.map ySb.enc))),(11,.c (.i es.length)),(12,.c (.i k))] [(9,.row 1 ((yaiB es k).map qC))]) (λk=>es.length-k) (by apply aB<;>simp[yajM,yaip]) ?_
  rintro k hk
  rcases yX1 k es with⟨hlt,e,he⟩|hge
  .have ef:=yajI (hb2 e (zac he));have f1:=ef.from_;have f2:=ef.to_;have f3:=ef.amt;have f4:=ef.ne;have hl:=yaiI (es:=es) k;have hin:=yakL h k;have hs:=yaiR he;generalize yaiB es k=b at *;obtain⟨v,hv⟩:∃v,b[e.From.toNat]?=some v:=⟨_,zab (by omega)⟩;obtain⟨u,hu⟩:∃v,b[e.To.toNat]?=some v:=⟨_,zab (by omega)⟩;have iv':=hin v (zac hv);have iu':=hin u (zac hu);have hne:e.From.toNat≠e.To.toNat:=by omega
   have m1:=yami hv;have m2:=yami (yaiQ (d:=-e.Amount) hne▸hu);have s1:=yalo (d:=-e.Amount) hv;have s2:=yalo (b:=bAdd b e.From (-e.Amount)) (i:=e.To) (d:=e.Amount) (by rw[yaiQ hne];exact hu);have hu':(bAdd b e.From (-e.Amount))[e.To.toNat]?=some u:=by rw[yaiQ hne];exact hu
   have g1:=(zaa.1 hv).2;have g2:=(zaa.1 hu').2;have k1:e.From.toNat<b.length:=by omega
   have k2:e.To.toNat<b.length:=by omega
   have k3:e.From<12:=by omega
   have k4:e.To<12:=by omega
   rw[<-Int.sub_eq_add_neg]at s1;simp -dsimp -implicitDefEqProofs [he,fC hlt,hv,g1,s1,hu',g2,s2,k1,k2,k3,k4,f1.1,f2.1,yakJ];refine⟨by unfold inI;omega,by unfold inI;omega,gB hlt hlen,k+1,hlt,by omega,?_⟩;apply aB<;>simp[hs,post]
  .refine yafw (aG hge) ?_;rw[yais hge,zae (by have:=yaiI (es:=es) es.length;rw[yais (Nat.le_refl _)]at this;simp[this])];simp[yaih,h]
def yaji(es:List ySb):qB prg 18 [.c (.sl 5 (es.map ySb.enc))] (.c (.sl 1 ((yaih es).map qC))):=(yajB es).pure (by simp)
def tar3:yRZ:=⟨10,0,[1,2,3],[1,2]⟩
def yale:xK 11 [1,2]=[4,7]/\xK 12 [1,2]=[4,8]/\xK 13 [1,2]=[4,9]:=by decide
def toll3{t:yRT}{now:Int}(ht:oC t=true)(hn:inRange now 0 1000000=true):∃a b w,jH tar3 t now=[⟨0,1,a,now,w⟩,⟨0,2,b,now,w⟩]/\1<=a/\1<=b/\11<=a+b/\a+b<=13/\inRange w 0 9999=true:=by
 have hc:=yvn ht;have hT:nH tar3=true:=by decide
 have hid:inRange (vAt (lG t) 0) 0 9999=true:=by
  obtain⟨_,h1,_,h4⟩:=yZJ ht
  have hm:vAt (lG t) 0∈lG t:=by
   unfold vAt;rw[zab (by omega)];exact zbo _
  have:=aC.1 (h4 _ hm);exact aC.2 (by omega)
 have hto:lT tar3 t=10+([1,2,3]:List Int)[(qO t).toNat]?.getD 0:=by
  unfold lT;rw[hT,ht];simp[tar3]
 have hok:ycT tar3 t now=true:=by simp[ycT,hT,ht,hn]
 unfold jH;rw[if_pos hok,hto];have e3:tar3.yR7=[1,2]:=rfl;rw[e3];generalize vAt (lG t) 0=w at *;have:qO t=0\/qO t=1\/qO t=2:=by omega
 rcases this with e|e|e<;>rw[e]
 .refine⟨4,7,w,?_,by omega,by omega,by omega,by omega,hid⟩
  show yb9 (xK 11 [1,2]) now w (xK 11 [1,2]).length=_
  rw[yale.1];rfl
 .refine⟨4,8,w,?_,by omega,by omega,by omega,by omega,hid⟩
  show yb9 (xK 12 [1,2]) now w (xK 12 [1,2]).length=_
  rw[yale.2.1];rfl
 .refine⟨4,9,w,?_,by omega,by omega,by omega,by omega,hid⟩
  show yb9 (xK 13 [1,2]) now w (xK 13 [1,2]).length=_
  rw[yale.2.2];rfl
def bal0(b:List Int):Int:=b[0]?.getD 0
def yakc{b:List Int}{e:ySb}(hl:b.length=12)(h0:e.From=0)(h1:e.To=1\/e.To=2):(post b e).length=12/\bal0 (post b e)=bal0 b-e.Amount:=by
 unfold bal0 post bAdd;rw[h0];refine⟨by simp[hl],?_⟩;rcases h1 with h|h
 .rw[h];simp[zaE,hl];omega
 .rw[h];simp[zaE,hl];omega
def yalV{a b:List ySb}(ha:kU a=true)(hl:a.length+b.length<=2000)(hb:∀e∈b,aV e=true):kU (a++b)=true:=by
 simp only[kU,zad,decide_eq_true_eq,zaf]at ha|-;refine⟨by rw[zah];exact hl,λe he=>?_⟩;rcases zaj.1 he with h|h
 .exact ha.2 e h
 .exact hb e h
def yakG{x:yRW}(hT:x.yRZ=tar3):∀(ps:List yR2) (b:List ySb),kU b=true->(∀p∈ps,oC p.yRT=true/\inRange p.Time 0 1000000=true)->b.length+2*ps.length<=2000->(b.foldl post yaip).length=12->
 (ps.foldl (yaaA x) b).length=b.length+2*ps.length/\kU (ps.foldl (yaaA x) b)=true/\((ps.foldl (yaaA x) b).foldl post yaip).length=12/\bal0 ((ps.foldl (yaaA x) b).foldl post yaip)<=bal0 (b.foldl post yaip)-11*ps.length
 |[],b,hb,_,_,hl=>⟨rfl,hb,hl,by simp⟩
 | p::ps,b,hb,hp,hn,hl=>by
  obtain⟨p1,p2⟩:=hp p (by simp);obtain⟨u,v,w,e,a1,a2,a3,a4,a5⟩:=toll3 p1 p2;simp only[zar]at hn
  have hok:kU (b++jH tar3 p.yRT p.Time)=true:=by
   refine yalV hb (by rw[e];simp only[zar,zbf];omega) λq hq=>?_;rw[e]at hq;have k1:inRange 0 0 11=true:=by decide
   have k2:inRange 1 0 11=true:=by decide
   have k3:inRange 2 0 11=true:=by decide
   have k4:inRange u 1 1000000000=true:=aC.2 (by omega);have k5:inRange v 1 1000000000=true:=aC.2 (by omega);rcases zax.1 hq with h|h
   .rw[h];simp[aV,k1,k2,k4,p2,a5]
   .rw[zak]at h;rw[h];simp[aV,k1,k3,k5,p2,a5]
  have es:yaaA x b p=b++jH tar3 p.yRT p.Time:=by
   unfold yaaA gJ;rw[hT,hb,hok];rfl
  have h1:=yakc (b:=b.foldl post yaip) (e:=⟨0,1,u,p.Time,w⟩) hl rfl (.inl rfl);have h2:=yakc (b:=post (b.foldl post yaip) ⟨0,1,u,p.Time,w⟩) (e:=⟨0,2,v,p.Time,w⟩) h1.1 rfl (.inr rfl)
  have hf:(b++jH tar3 p.yRT p.Time).foldl post yaip=post (post (b.foldl post yaip) ⟨0,1,u,p.Time,w⟩) ⟨0,2,v,p.Time,w⟩:=by
   rw[e,zbH];rfl
  have hlen:(b++jH tar3 p.yRT p.Time).length=b.length+2:=by rw[e];simp
  rw[zbz,es];obtain⟨q1,q2,q3,q4⟩:=yakG hT ps (b++jH tar3 p.yRT p.Time) hok (λp' h'=>hp p' (by simp[h'])) (by omega) (by rw[hf];exact h2.1);refine⟨by rw[q1,hlen];simp only[zar];omega,q2,q3,?_⟩;rw[hf]at q4;have r1:=h1.2;have r2:=h2.2;simp only at r1 r2;simp only[zar];omega
def yalU{ts:List yRT}{x:yRW}(G:Grown ts x)(hT:x.yRZ=tar3)(hl:x.yR1.length<=16):∃v l,yaih x.Book=v::l/\v<= -(11*(x.yR1.length:Int)):=by
 have S:=yagk.1 G.ok
 have hp:∀p∈x.yR1,oC p.yRT=true/\inRange p.Time 0 1000000=true:=λp h=>by
  have:=S.pasO p h;simp only[yt,zad]at this;exact⟨this.2,this.1.1⟩
 obtain⟨q1,q2,q3,q4⟩:=yakG hT x.yR1 [] (by decide) hp (by simp;omega) (by decide);rw[G.toll]at q1 q2 q3 q4;have e:yaih x.Book=x.Book.foldl post yaip:=by unfold yaih;rw[if_pos q2]
 have z:bal0 (([]:List ySb).foldl post yaip)=0:=by decide
 rw[z]at q4;rw[e];cases h:x.Book.foldl post yaip with
 |nil=>rw[h]at q3;simp at q3
 |cons v l=>
  rw[h]at q4;refine⟨v,l,rfl,?_⟩;have e0:bal0 (v::l)=v:=rfl;rw[e0]at q4;omega
def yamh{n:Int}{d:Nat}{x:yRW}(I:Here n d x)(hn:n<=99000)(ht:x.Time+1<=1000000):(ySY x 0).yRZ=x.yRZ:=by
 rw[yalj I hn ht];have hs:(older x).small:=I.small;have h1:=yahu (x:=older x);have s1:=yWk hs;have h2:=yahM (k:=(0:Nat)) s1;have s2:=ykL (k:=(0:Nat)) s1;have h3:=yahM (k:=(1:Nat)) s2;rw[h3.tar,h2.tar,h1.tar];rfl
def yakk{B:Int}(hB2:B<=99000):∀(k:Nat) {n:Int} {d:Nat} {x:yRW},Here n d x->n+300*toDo x<=B->x.Time+k<=1000000->(yUn x 0 k).yRZ=x.yRZ
 |0,_,_,_,_,_,_=>rfl
 |k+1,n,d,x,I,hB,ht=>by
  obtain⟨n1,d1,I1,b1,l1,m1,t1,p1⟩:=yaiZ hB2 k I hB (by omega);have:=yaii I1;have h:=yamh I1 (by omega) (by omega)
  show(ySY (yUn x 0 k) 0).yRZ=_
  rw[h];exact yakk hB2 k I hB (by omega)
def yail(b w:Int):yR8:=⟨⟨900,60,b,b-40,b-40,2,1000,w,0,[]⟩,⟨1,0,1,b+90,1⟩,⟨b+70,b+80,b+99⟩,[],⟨false,0⟩,[]⟩
def yagr:List Reach:=[yafE 120 6000000,yafE 80 6000000,yafE 40 6000000]
def yaid(a0 a1 a2:Int):List Way:=[⟨a0,120⟩,⟨a1,80⟩,⟨a2,40⟩]
def yagA(w0 w1:Int):List yR8:=[yail 120 w0,yail 80 w1]
def yaij(a0 a1 a2 w0 w1 s:Int):yRW:=⟨0,yagr,yaid a0 a1 a2,yagA w0 w1,[[],[],[]],[],[],tar3,[],[],s,0,0⟩
def yalI{b:Int}(hb:0<=b/\b<=1000):yYY (yahw b) (b+60) 0=(yafE b 6000000,true):=by
 have h1:=yajN (b:=b) (x:=b+60) hb (by omega);have e:fH (yahw b) (b+60)=6000000:=by rw[h1];omega
 have h2:xE ⟨yahw b,6000000,[]⟩=true:=yaie hb (by omega);have h3:inRange 0 0 12=true:=by decide
 unfold yYY;rw[h3,e];simp only[if_true,Int.toNat_zero,zdV];rw[h2];rfl
def yakm{b w:Int}(hb:40<=b/\b<=200)(hw:0<=w/\w<=255):fJ (yail b w)=true/\Gear b (yail b w):=by
 refine⟨?_,rfl,rfl,rfl,rfl,rfl,rfl,rfl,rfl,rfl,rfl⟩;have d1:inRange b 0 100000=true:=aC.2 (by omega);have d2:inRange (b-40) 0 100000=true:=aC.2 (by omega);have d3:inRange w 0 1000000000=true:=aC.2 (by omega);have d4:inRange (b+90) 0 100000=true:=aC.2 (by omega);have d5:inRange (b+70) 0 100000=true:=aC.2 (by omega);have d6:inRange (b+80) 0 100000=true:=aC.2 (by omega);have d7:inRange (b+99) 0 100000=true:=aC.2 (by omega);have e1:inRange 900 1 1000=true:=by decide
 have e2:inRange 60 1 100=true:=by decide
 have e3:inRange 2 1 10000=true:=by decide
 have e4:inRange 1000 1 100000=true:=by decide
 have e5:inRange 0 0 2=true:=by decide
 have e6:Distinct []=true:=by decide
 have e7:inRange 1 1 8=true:=by decide
 have e8:inRange 0 0 10=true:=by decide
 have e9:inRange 1 1 80=true:=by decide
 have f1:inRange 1 1 1000=true:=by decide
 have f2:xO []=true:=by decide
 have f3:ybY ⟨false,0⟩=true:=by decide
 simp[fJ,yail,lF,iZ,ya3,d1,d2,d3,d4,d5,d6,d7,e1,e2,e3,e4,e5,e6,e7,e8,e9,f1,f2,f3]
def yaiE{a0 a1 a2 w0 w1 s:Int}(h0:10<=a0/\a0<=29)(h1:10<=a1/\a1<=29)(h2:10<=a2/\a2<=29)(g0:0<=w0/\w0<=255)(g1:0<=w1/\w1<=255)(hs:0<=s/\s<=1000000000):yaio (yaij a0 a1 a2 w0 w1 s):=by
 refine⟨show inRange 0 0 1000000=true by decide,yaiw (by omega) (by omega) (by omega),by show 2<=3;omega,rfl,rfl,rfl,λk w l hw hl=>?_,λw hw=>?_,zbu _,zbu _,zbu _,λt h=>(nomatch h),λn h=>(nomatch h),λp h=>(nomatch h),show nH tar3=true by decide,show kU []=true by decide,aC.2 hs,show inRange 0 0 1000000000=true by decide,show inRange 0 0 1000000000=true by decide⟩
 .have hl':l=[]:=by
   have hm:=zac hl;have hm':l∈[([]:List yR6),[],[]]:=hm;simpa using hm'
  have hm:=zac hw;have hm':w∈yaid a0 a1 a2:=hm;simp only[yaid,zax,zaH,or_false]at hm'
  have hwy:ykM w=true:=by
   unfold ykM;rw[zad];rcases hm' with e|e|e<;>rw[e]<;>exact⟨aC.2 (by simp only;omega),aC.2 (by simp only;omega)⟩
  rw[hl'];simp[jS,hwy]
 .have hm':w∈yagA w0 w1:=hw;simp only[yagA,zax,zaH,or_false]at hm';rcases hm' with e|e<;>rw[e]
  .exact(yakm (by omega) g0).1
  .exact(yakm (by omega) g1).1
def yajx{a0 a1 a2 w0 w1 s:Int}(h:rC (yaij a0 a1 a2 w0 w1 s)=true):yYN (yaij a0 a1 a2 w0 w1 s)=18000000+w0+w1:=by
 rw[yagw h];simp[yaij,yagr,yagA,ySA,sZ,yYT,yail,yafE];omega
def yajw{a0 a1 a2 w0 w1:Int}:ybv yagr/\yhE (yaid a0 a1 a2)/\ycw (yagA w0 w1)/\tar3.small:=by
 have e:∀{α:Type} {p:α->Prop},aW p []:=λ{_ _}=>⟨by simp,λx hx=>by simp at hx⟩;have e2:∀{p:ySc},True:=trivial;refine⟨⟨by simp[yagr],λr hr=>?_⟩,⟨by simp[yaid],λ_ _=>trivial⟩,⟨by simp[yagA],λw hw=>?_⟩,?_⟩
 .simp only[yagr,zax,zaH,or_false]at hr;rcases hr with h|h|h<;>rw[h]<;>exact⟨⟨by simp[yafE,yahw],λ_ _=>trivial⟩,⟨by simp[yafE],λ_ _=>trivial⟩⟩
 .simp only[yagA,zax,zaH,or_false]at hw;rcases hw with h|h<;>rw[h]<;>exact⟨e,e,e⟩
 .exact⟨by simp[tar3],by simp[tar3]⟩
def yals{a0 a1 a2 w0 w1:Int}(h0:10<=a0/\a0<=29)(h1:10<=a1/\a1<=29)(h2:10<=a2/\a2<=29)(g0:0<=w0/\w0<=255)(g1:0<=w1/\w1<=255):yYI yagr (yaid a0 a1 a2) (yagA w0 w1) tar3=(yaij a0 a1 a2 w0 w1 (18000000+w0+w1),true):=by
 have s0:=yagk.2 (yaiE (s:=0) h0 h1 h2 g0 g1 (by omega));have s1:=yagk.2 (yaiE (s:=18000000+w0+w1) h0 h1 h2 g0 g1 (by omega));have e0:yZL yagr (yaid a0 a1 a2) (yagA w0 w1) tar3=yaij a0 a1 a2 w0 w1 0:=rfl
 have e1:yZU yagr (yaid a0 a1 a2) (yagA w0 w1) tar3=yaij a0 a1 a2 w0 w1 (18000000+w0+w1):=by
  have h:yZU yagr (yaid a0 a1 a2) (yagA w0 w1) tar3=yaij a0 a1 a2 w0 w1 (yYN (yZL yagr (yaid a0 a1 a2) (yagA w0 w1) tar3)):=rfl;rw[h,e0,yajx s0]
 have hn:(yagA w0 w1).all yY0=true:=rfl;unfold yYI;rw[e1,hn,s1];rfl
def yalw{a0 a1 a2 w0 w1:Int}(h0:10<=a0/\a0<=29)(h1:10<=a1/\a1<=29)(h2:10<=a2/\a2<=29)(g0:0<=w0/\w0<=255)(g1:0<=w1/\w1<=255):Way2 [] (yaij a0 a1 a2 w0 w1 (18000000+w0+w1)):=by
 have hS:=yaiE (s:=18000000+w0+w1) h0 h1 h2 g0 g1 (by omega);have hok:=yagk.2 hS;obtain⟨m1,m2,m3,m4⟩:=yajw (a0:=a0) (a1:=a1) (a2:=a2) (w0:=w0) (w1:=w1);have hsm:(yaij a0 a1 a2 w0 w1 (18000000+w0+w1)).small:=yabP m1 m2 m3 m4;have hk0:=yakm (b:=120) (w:=w0) (by omega) g0;have hk1:=yakm (b:=80) (w:=w1) (by omega) g1
 have hb:Bare (yaij a0 a1 a2 w0 w1 (18000000+w0+w1)):=by
  refine⟨hok,λl hl=>?_,rfl,rfl,rfl,rfl,λw hw=>?_,?_⟩
  .have hm':l∈[([]:List yR6),[],[]]:=hl;simpa using hm'
  .have hm':w∈yagA w0 w1:=hw;simp only[yagA,zax,zaH,or_false]at hm';rcases hm' with e|e<;>rw[e]<;>exact⟨rfl,rfl⟩
  .rw[yajx hok]
   show _+0=18000000+w0+w1+0
   omega
 have hx:∀b w,yaia 0 0 (yail b w)=0:=λb w=>rfl
 have hI:Here 0 0 (yaij a0 a1 a2 w0 w1 (18000000+w0+w1)):=by
  refine⟨⟨hok,⟨6000000,6000000,6000000,rfl,by omega,by omega,by omega⟩,⟨a0,a1,a2,rfl,h0,h1,h2⟩,⟨yail 120 w0,yail 80 w1,rfl,hk0.2,hk1.2⟩⟩,hsm,λj w hw=>?_,λk l w hl _ m hm=>?_,zbu _,?_⟩
  .have hj:=(zaa.1 hw).1;have hj2:j<2:=hj;have:j=0\/j=1:=by omega
   rcases this with rfl|rfl
   .cases hw;exact⟨hk0.1,hk0.2,g0,λc h=>(nomatch h),λt h=>(nomatch h),λt h=>(nomatch h),λh=>absurd rfl h⟩
   .cases hw;exact⟨hk1.1,hk1.2,g1,λc h=>(nomatch h),λt h=>(nomatch h),λt h=>(nomatch h),λh=>absurd rfl h⟩
  .have hm':l∈[([]:List yR6),[],[]]:=zac hl;have:l=[]:=by simpa using hm'
   rw[this]at hm;cases hm
  .show(0:Int)+0<=16
   omega
 exact⟨yaho hb hsm,⟨0,0,hI,by omega,by show(0:Int)+300*0<=7200*0;omega,by show(0:Int)<=24*0;omega⟩,by show(0:Int)<=0/\(0:Int)<=4*0;omega,by show 0<=18000000+w0+w1/\18000000+w0+w1<=20000000;omega,rfl,rfl⟩
def yadT{x:List Nat}(h:(C.sl 1 (x.map nenc)).WF):∃code:List UInt8,x.map nenc=code.map yBD:=by
 simp only[C.WF]at h;refine⟨x.map λn=>UInt8.ofNat n,?_⟩;rw[zdf];apply zbg;intro n hn;have h1:=(h.2 _ (zbx hn)).2 (.u n) (by simp[nenc]);simp only[C.WF]at h1;simp[nenc,yBD,zdI h1]
def yamv(code:List UInt8):qB prg 9 [.c (.sl 1 (code.map yBD))] (.c (.b (decide (1048576<code.length)))):=by
 refine dB yacN (goQ_ ?_);intro _;omega
def atV(code:List UInt8)(i:Nat):Int:=if code.length=0 then 0 else(code[(i*5+1)%code.length]?.map λb=>(b.toNat:Int)).getD 0
def yaec(code:List UInt8)(i:Nat):0<=atV code i/\atV code i<=255:=by
 unfold atV;split
 .omega
 .cases h:code[(i*5+1)%code.length]? with
  |none=>simp
  |some b=>have:=yadg b;simp;omega
def at_c(code:List UInt8)(i:Nat)(hi:i<=1000):qB prg 12 [.c (.sl 1 (code.map yBD)),.c (.i i)] (.c (.i (atV code i))):=by
 refine dB yady ?_;cases code with
 |nil=>simp -dsimp -implicitDefEqProofs [yaax];simp[atV]
 | cons b0 l=>
  obtain⟨cs,hcs⟩:∃cs,cs=b0::l:=⟨_,rfl⟩;have hl:0<cs.length:=by rw[hcs];simp
  rw[<-hcs];obtain⟨j,hj⟩:∃j,j=(i*5+1)%cs.length:=⟨_,rfl⟩;have hjl:j<cs.length:=by rw[hj];exact zes _ hl
  obtain⟨b,hb⟩:∃b,cs[j]?=some b:=⟨_,zab hjl⟩;have gb:=(zaa.1 hb).2;have h8:=yadg b;have hv:atV cs i=b.toNat:=by unfold atV;rw[if_neg (by omega),<-hj,hb];rfl
  have hji:((i:Int)*5+1).tmod cs.length=(j:Int):=by
   rw[hj,zbe (by omega),Int.natCast_emod];simp
  have hne:(cs=[])=False:=by simp only[eq_iff_iff,iff_false];intro h;rw[h]at hl;simp at hl
  have hne0:(cs.length=0)=False:=by simp only[eq_iff_iff,iff_false];omega
  rw[hv];simp -dsimp -implicitDefEqProofs [yaax,hne,hne0,hji,hb,gb,hjl,yBD]
  refineλhml=>⟨by unfold inI;omega,by unfold inI;omega,λ_=>?_⟩
  unfold maxLen at hml;unfold inI;omega
def yalY{ts:List yRT}{x:yRW}{t:yRT}{q:Nat}(W:Way2 ts x)(hf:Fine t)(hts:t.small)(hsub:∀t∈ts,oC t=true)(hl:ts.length+1<=8)(hnew:∀i∈lG t,i∉ts.flatMap lG)(hq:q<=4):(yUn (yYK x t) 0 q).yRZ=x.yRZ:=by
 obtain⟨e,g⟩:=yagl W.grown hf.ok hts hsub (by omega) hnew;obtain⟨n,d,I,hd,hn,hT⟩:=W.here;have h1:=W.time;have h4:=W.pas;have hc:=W.grown.same λ_=>true;unfold num at hc;simp only[zbA]at hc;obtain⟨J,j1,j2,j3⟩:=yajJ I hd hf hts g.ok (by omega) (by omega);exact yakk (B:=7200*(ts.length+1)) (by omega) q J (by omega) (by omega)
def yamu{ts:List yRT}{x:yRW}(W:Way2 ts x)(hl:ts.length<=8){k:Nat}(hk:k<=1000):(yUn x 0 k).yRZ=x.yRZ:=by
 obtain⟨n,d,I,hd,hn,hT⟩:=W.here;have h1:=W.time;exact yakk (B:=7200*ts.length) (by omega) k I hn (by omega)
def yalX{ts:List yRT}{x:yRW}{t:yRT}{k:Nat}{q:Int}(W:Way2 (ts.take k) x)(hT:x.yRZ=tar3)(hk:ts[k]?=some t)(hok:∀t∈ts,oC t=true/\t.small)(hf:∀t∈ts,Fine t)(hnd:(ts.flatMap lG).Nodup)(h8:ts.length<=8)(hq:0<=q/\q<=4):
 yYL x t=(yYK x t,true)/\(yYK x t).small/\Way2 (ts.take (k+1)) (yS6 (yYK x t) 0 q)/\(yS6 (yYK x t) 0 q).yRZ=tar3:=by
 have hmem:=zac hk;have klt:=(zaa.1 hk).1;obtain⟨hto,hts⟩:=hok t hmem;have hsub:∀t∈ts.take k,oC t=true:=λt h=>(hok t (zaw h)).1;have hlk:(ts.take k).length+1<=8:=by rw[zaA];omega
 have htk:ts.take (k+1)=ts.take k++[t]:=by rw[zao,hk];rfl
 have hnew:∀i∈lG t,i∉(ts.take k).flatMap lG:=by
  intro i hi hm
  have hdr:ts=ts.take k++t::ts.drop (k+1):=by
   have h1:ts.drop k=t::ts.drop (k+1):=by
    rw[zaF klt,(zaa.1 hk).2]
   rw[<-h1,zav]
  rw[hdr,zaV,zaY]at hnd;exact hnd.2.2 i hm i (by simp only[zaU,zaj];exact .inl hi) rfl
 have er:yS6 (yYK x t) 0 q=yUn (yYK x t) 0 q.toNat:=by
  unfold yS6;rw[if_pos (aC.2 (by omega))]
 obtain⟨e,w⟩:=yalH (q:=q.toNat) W (hf t hmem) hts hsub hlk hnew (by omega);have ht:=yalY (q:=q.toNat) W (hf t hmem) hts hsub hlk hnew (by omega);rw[er,htk];exact⟨e,yZO (yZQ W.grown.ok hto) W.grown.small hts,w,by rw[ht];exact hT⟩
def yakb{f:Nat}{args:List AV}{y:yRW}(h:nI prg f args (.agg (y.iD.map .c))):qB prg f args (.agg (y.enc.map .c)):=
 h.pure (by simp[AV.shr,AV.yEj,AV.yoE,dO,C.shr,yRW.iD,eF Reach.bF,eF yR8.bF,eF oV,eF yRT.bF,eF yR2.bF])
def yagh(x:yRW)(t:yRT)(hs:x.small)(ht:t.small):qB prg 14 [.agg (x.enc.map .c),.agg (t.enc.map .c)] (.tup [.agg ((yYL x t).1.enc.map .c),.c (.b (yYL x t).2)]):=
 (yafo x t hs ht).pure (by
  generalize(yYL x t).1=y;simp[AV.shr,AV.yEj,AV.yoE,dO,C.shr,yRW.iD,eF Reach.bF,eF yR8.bF,eF oV,eF yRT.bF,eF yR2.bF])
def yamp(x:yRW):∃k,(300<=k/\k<=1000)/\yS6 x 0 700=yUn x 0 k:=by
 refine⟨(700:Int).toNat,by decide,?_⟩;unfold yS6;rw[if_pos (by decide)]
def get_c(v:Int)(l:List Int):qB prg 17 [.c (.sl 1 ((v::l).map qC)),.c (.i 0)] (.c (.i v)):=by
 refine dB yakX (goQ_ ?_);intro _ h;omega
def yaka(x0:List Nat):qB prg 3 [.c (.sl 1 (x0.map nenc))] (.c (.b true)):=by
 refine yQy yaiK λhwf=>?_;obtain⟨code,hcode⟩:=yadT (x:=x0) hwf.1;rw[hcode];clear hwf;refine goQ_ ?_;refine aA (yamv code) ?_
 by_cases hbig:1048576<code.length
 .have t1:(1048576<code.length)=True:=eq_true hbig;exact yafA t1
 .have t1:(1048576<code.length)=False:=eq_false hbig;refine yafw t1 ?_;have hD:=yabw code (by omega);obtain⟨⟨tok,_,tnd⟩,t8⟩:=yaev code;have tf:=yalS code;have r0:=yaec code 0;have r1:=yaec code 1;have r2:=yaec code 2;have r3:=yaec code 3;have r4:=yaec code 4;have c0:qB prg 12 [.c (.sl 1 (code.map yBD)),.c (.i 0)] (.c (.i (atV code 0))):=at_c code 0 (by omega);have c1:qB prg 12 [.c (.sl 1 (code.map yBD)),.c (.i 1)] (.c (.i (atV code 1))):=at_c code 1 (by omega);have c2:qB prg 12 [.c (.sl 1 (code.map yBD)),.c (.i 2)] (.c (.i (atV code 2))):=at_c code 2 (by omega);have c3:qB prg 12 [.c (.sl 1 (code.map yBD)),.c (.i 3)] (.c (.i (atV code 3))):=at_c code 3 (by omega);have c4:qB prg 12 [.c (.sl 1 (code.map yBD)),.c (.i 4)] (.c (.i (atV code 4))):=at_c code 4 (by omega);generalize dwX code=xd at *;generalize dwT code=ts at *;obtain⟨a0,ha0⟩:∃a,10+(atV code 0).tmod 20=a:=⟨_,rfl⟩;obtain⟨a1,ha1⟩:∃a,10+(atV code 1).tmod 20=a:=⟨_,rfl⟩;obtain⟨a2,ha2⟩:∃a,10+(atV code 2).tmod 20=a:=⟨_,rfl⟩;have b0:10<=a0/\a0<=29:=by rw[<-ha0,zbe r0.1];omega
  have b1:10<=a1/\a1<=29:=by rw[<-ha1,zbe r1.1];omega
  have b2:10<=a2/\a2<=29:=by rw[<-ha2,zbe r2.1];omega
  have i0:inI ((atV code 0).tmod 20):=by unfold inI;omega
  have i1:inI ((atV code 1).tmod 20):=by unfold inI;omega
  have i2:inI ((atV code 2).tmod 20):=by unfold inI;omega
  generalize atV code 0=v0 at *;generalize atV code 1=v1 at *;generalize atV code 2=v2 at *;generalize atV code 3=v3 at *;generalize atV code 4=v4 at *;have hN0:=yacI (yahw 120) (120+60) 0 (by simp[yahw]);have hN1:=yacI (yahw 80) (80+60) 0 (by simp[yahw]);have hN2:=yacI (yahw 40) (40+60) 0 (by simp[yahw]);rw[yalI (by omega)]at hN0 hN1 hN2;have e0:(yahw 120).map ySc.enc=[[.i 120,.i 0],[.i 220,.i 10000000]]:=rfl;have e1:(yahw 80).map ySc.enc=[[.i 80,.i 0],[.i 180,.i 10000000]]:=rfl;have e2:(yahw 40).map ySc.enc=[[.i 40,.i 0],[.i 140,.i 10000000]]:=rfl;rw[e0,show(120:Int)+60=180 by rfl]at hN0;rw[e1,show(80:Int)+60=140 by rfl]at hN1;rw[e2,show(40:Int)+60=100 by rfl]at hN2;refine yYp hD (goQ_ ?_);refine yX4 (λk=>k<=3) (λk=>xC [(0,.c (.sl 1 (code.map yBD))),(4,.c (.sl 2 (ts.map yRT.enc))),(5,.own 22 3 k),(6,.own 23 2 k),(7,.own 24 22 (min k 2)),(8,.c (.i k))] [(22,.row 3 ((yagr.take k).map Reach.enc)),(23,.row 2 (((yaid a0 a1 a2).take k).map Way.enc)),(24,.row 22 (((yagA v3 v4).take k).map yR8.enc))]) (λk=>3-k) ?_
  rintro k hk
  have:k=0\/k=1\/k=2\/k=3:=by omega
  rcases this with rfl|rfl|rfl|rfl
  .refine goQ_ ?_
   repeat(refine⟨by first|exact i0|exact i1|exact i2|(unfold inI;omega)|omega,?_⟩)
   refine yGz [38] hN0 (by simp -dsimp -implicitDefEqProofs [yagr,yaid,yagA,yafE,yahw,yail]) rfl ?_;simp -dsimp -implicitDefEqProofs [yagr,yaid,yagA,yafE,yahw,yail]
   repeat(refine⟨by first|exact i0|exact i1|exact i2|(unfold inI;omega)|omega,?_⟩)
   refine yYq c0 (yafw ha0 ?_)
   repeat(refine⟨by first|exact i0|exact i1|exact i2|(unfold inI;omega)|omega,?_⟩)
   refine yYq c3 (goQ_ ?_)
   repeat(refine⟨by first|exact i0|exact i1|exact i2|(unfold inI;omega)|omega,?_⟩)
   refine⟨1,by omega,by omega,?_⟩;apply aB<;>simp[yagr,yaid,yagA,yafE,yahw,yail]
  .refine goQ_ ?_
   repeat(refine⟨by first|exact i0|exact i1|exact i2|(unfold inI;omega)|omega,?_⟩)
   refine yGz [38] hN1 (by simp -dsimp -implicitDefEqProofs [yagr,yaid,yagA,yafE,yahw,yail]) rfl ?_;simp -dsimp -implicitDefEqProofs [yagr,yaid,yagA,yafE,yahw,yail]
   repeat(refine⟨by first|exact i0|exact i1|exact i2|(unfold inI;omega)|omega,?_⟩)
   refine yYq c1 (yafw ha1 ?_)
   repeat(refine⟨by first|exact i0|exact i1|exact i2|(unfold inI;omega)|omega,?_⟩)
   refine yYq c4 (goQ_ ?_)
   repeat(refine⟨by first|exact i0|exact i1|exact i2|(unfold inI;omega)|omega,?_⟩)
   refine⟨2,by omega,by omega,?_⟩;apply aB<;>simp[yagr,yaid,yagA,yafE,yahw,yail]
  .refine goQ_ ?_
   repeat(refine⟨by first|exact i0|exact i1|exact i2|(unfold inI;omega)|omega,?_⟩)
   refine yGz [38] hN2 (by simp -dsimp -implicitDefEqProofs [yagr,yaid,yagA,yafE,yahw,yail]) rfl ?_;simp -dsimp -implicitDefEqProofs [yagr,yaid,yagA,yafE,yahw,yail]
   repeat(refine⟨by first|exact i0|exact i1|exact i2|(unfold inI;omega)|omega,?_⟩)
   refine yYq c2 (yafw ha2 ?_)
   repeat(refine⟨by first|exact i0|exact i1|exact i2|(unfold inI;omega)|omega,?_⟩)
   refine⟨3,by omega,by omega,?_⟩;apply aB<;>simp[yagr,yaid,yagA,yafE,yahw,yail]
  .obtain⟨m1,m2,m3,m4⟩:=yajw (a0:=a0) (a1:=a1) (a2:=a2) (w0:=v3) (w1:=v4);have hNW:=yaau yagr (yaid a0 a1 a2) (yagA v3 v4) tar3 m1 m2 m3 m4;rw[yals b0 b1 b2 r3 r4]at hNW;have hW:=yalw b0 b1 b2 r3 r4;have hT:(yaij a0 a1 a2 v3 v4 (18000000+v3+v4)).yRZ=tar3:=rfl;generalize yaij a0 a1 a2 v3 v4 (18000000+v3+v4)=x1 at *;have k1:List.take 3 (yagr.map Reach.enc)=yagr.map Reach.enc:=rfl;have k2:List.take 3 ((yaid a0 a1 a2).map Way.enc)=(yaid a0 a1 a2).map Way.enc:=rfl;have k3:List.take 3 ((yagA v3 v4).map yR8.enc)=(yagA v3 v4).map yR8.enc:=rfl;have k4:List.take 2 ((yagA v3 v4).map yR8.enc)=(yagA v3 v4).map yR8.enc:=rfl;refine goQ_ ?_;refine yGz [22,23,24,88,89] hNW (by simp -dsimp -implicitDefEqProofs [k1,k2,k3,k4,tar3,qC]) rfl (goQ_ ?_);refine qA (ι:=Nat×yRW) (λq=>q.1<=ts.length/\Way2 (ts.take q.1) q.2/\q.2.yRZ=tar3) (λq=>xC [(0,.c (.sl 1 (code.map yBD))),(4,.c (.sl 2 (ts.map yRT.enc))),(12,.box 12 0),(13,.c (.b true)),(14,.c (.i q.1))] [(12,.box (q.2.enc.map .c))]) (λq=>ts.length-q.1) (0,x1) ⟨zbu _,hW,hT⟩ (by apply aB<;>simp) ?_;clear hNW hW hT
   rintro⟨k,x⟩ ⟨hk,W,hT⟩
   simp only at hk W hT;have hs:=W.grown.small;rcases yX1 k ts with⟨klt,t,ht⟩|kge
   .have gt:=(zaa.1 ht).2;have p1:=yagh x t hs (tok t (zac ht)).2;have hAt:=at_c code k (by omega);have ra:=yaec code k;generalize atV code k=a at *;obtain⟨q,hq⟩:∃q,a.tmod 5=q:=⟨_,rfl⟩;have hq2:0<=q/\q<=4:=by rw[<-hq,zbe ra.1];omega
    obtain⟨e1,hs2,W2,hT2⟩:=yalX W hT ht tok tf tnd t8 hq2;rw[e1]at p1;have p2:=yakb (yVv (yYK x t) 0 q hs2);generalize yYK x t=y at *;generalize yS6 y 0 q=z at *;refine yaeV ht gt klt (fC klt) ?_;intro hm;refine yYo p1 (goQ_ ?_);refine yYr hAt (yafw hq ?_);refine⟨by unfold inI;omega,?_⟩;refine yYo p2 (goQ_ ?_);refine⟨gB klt hm,k+1,z,⟨klt,W2,hT2⟩,by omega,?_⟩;apply aB<;>simp
   .have:k=ts.length:=by omega
    subst this;rw[zby]at W;obtain⟨n,hn,hrun⟩:=yamp x;obtain⟨w1,w2,w3,w4⟩:=yalZ W t8 tnd hn;have w5:=yamu W t8 (k:=n) hn.2;rw[hT]at w5;have p3:=yakb (yVv x 0 700 hs);rw[hrun]at p3;generalize yUn x 0 n=z at *;obtain⟨v,l,eb,hv⟩:=yalU w4 w5 (by omega);have hL:=yafL z w4.small (zba (yaas w4.ok) (by omega));rw[w3]at hL;have hBal:=yaji z.Book;rw[eb]at hBal;have hG:=get_c v l;refine yafw (aG kge) ?_;intro hm;refine yYp p3 (goQ_ ?_);have i1:((z.yR9.length:Int)=(ts.length:Int))=True:=eq_true (by omega);have i2:((z.yR1.length:Int)=2*(ts.length:Int))=True:=eq_true (by omega);refine yaed i1 i2 ?_;intro _ _ _ _;refine⟨by unfold inI;omega,?_⟩;refine yYq hL (goQ_ ?_);intro _ hne;have hpos:=zbs.2 hne;refine yYp hBal (goQ_ ?_);refine yYq hG (goQ_ ?_);intro _;exact⟨by unfold inI;omega,by omega⟩
def yadJ{xs:List C}(h:Fits [.u] xs):∃n:Nat,xs=nenc n:=by
 obtain⟨c0,ys,rfl,h0,h⟩:=h.cons_inv;obtain rfl:=h.gW;obtain⟨n0,rfl⟩:=h0.u_inv;exact⟨n0,rfl⟩
def yahh{f:Nat}{args:List AV}{y:yRW}(h:nI prg f args (.agg (y.iD.map .c))):qB prg f args (.agg (y.enc.map .c)):=
 h.pure (by simp[AV.shr,AV.yEj,AV.yoE,dO,C.shr,yRW.iD,eF Reach.bF,eF yR8.bF,eF oV,eF yRT.bF,eF yR2.bF])
structure Going(ts:List yRT)(T I:Int)(x:yRW):Prop where
 grown:Grown ts x
 time:0<=x.Time/\x.Time<=T
 start:0<=x.Start/\x.Start<=1000000
 inn:0<=x.In/\x.In<=I
def yafg{ts:List yRT}{T I:Int}{x:yRW}(G:Going ts T I x):(yYP x).length<=1000000000:=zba (yaas G.grown.ok) (by omega)
def yagL{ts:List yRT}{T I q:Int}{x:yRW}(G:Going ts T I x)(hq:0<=q/\q<=240)(hT:T<=1000)(hI:I<=1000000):
 Going ts (T+1) (I+240) (ySY x q)/\(ySY x q).Time=x.Time+1/\∃new,(ySY x q).yR1=x.yR1++new/\∀p∈new,yagO (ySY x q) p:=by
 have h1:=G.time;have h2:=G.start;have h3:=G.inn;obtain⟨g,t,s,i,n⟩:=yagM G.grown (q:=q) (by omega) (by omega) (by omega);exact⟨⟨g,by omega,by omega,by omega⟩,t,n⟩
def yagy{ts:List yRT}{T I:Int}{x:yRW}{t:yRT}{k:Nat}(G:Going (ts.take k) T I x)(hk:ts[k]?=some t)(hok:∀t∈ts,oC t=true/\t.small)(hnd:(ts.flatMap lG).Nodup)(h8:ts.length<=8):
 yYL x t=(yYK x t,true)/\Going (ts.take (k+1)) T I (yYK x t):=by
 have hmem:=zac hk;have klt:=(zaa.1 hk).1;obtain⟨hto,hts⟩:=hok t hmem;have hsub:∀t∈ts.take k,oC t=true:=λt h=>(hok t (zaw h)).1;have hlk:(ts.take k).length<20:=by rw[zaA];omega
 have htk:ts.take (k+1)=ts.take k++[t]:=by rw[zao,hk];rfl
 have hnew:∀i∈lG t,i∉(ts.take k).flatMap lG:=by
  intro i hi hm
  have hdr:ts=ts.take k++t::ts.drop (k+1):=by
   have h1:ts.drop k=t::ts.drop (k+1):=by
    rw[zaF klt,(zaa.1 hk).2]
   rw[<-h1,zav]
  rw[hdr,zaV,zaY]at hnd;exact hnd.2.2 i hm i (by simp only[zaU,zaj];exact .inl hi) rfl
 obtain⟨e,g⟩:=yagl G.grown hto hts hsub hlk hnew;exact⟨e,by rw[htk];exact g,G.time,G.start,G.inn⟩
def Going.mono{ts:List yRT}{T I T' I':Int}{x:yRW}(G:Going ts T I x)(hT:T<=T')(hI:I<=I'):Going ts T' I' x:=by
 have:=G.time;have:=G.inn;exact⟨G.grown,by omega,G.start,by omega⟩
def yagD{ts:List yRT}(hnd:(ts.flatMap lG).Nodup)(k:Nat):((ts.take k).flatMap lG).Nodup:=by
 have h:ts=ts.take k++ts.drop k:=(zav k ts).symm;rw[h,zaV,zaY]at hnd;exact hnd.1
def yaeU{ts:List yRT}{T I:Int}{x:yRW}{k:Nat}(G:Going (ts.take k) T I x)(hnd:(ts.flatMap lG).Nodup):yS x=true/\yN x=true/\yO x=true/\yaam x=true:=by
 have h:=yagi G.grown (yagD hnd k);have h2:=h;simp only[yS,zad]at h2;exact⟨h,h2.1.1.2,h2.1.2,h2.2⟩
def yahE{y z:yRW}{new:List yR2}{p:yR2}{n:Nat}(e:z.yR1=y.yR1++new)(hn:∀p∈new,yagO z p)(h:y.yR1.length<=n)(hp:z.yR1[n]?=some p):
 p.Time=z.Time/\∃(k:Nat) (w:yR8),p.yR8=(k:Int)/\z.yRX[k]?=some w/\aI p.yRT<=w.yR0.Length/\iH p.yRT<=w.yR0.Width:=by
 rw[e,zaz h]at hp;have N:=hn p (zac hp);obtain⟨k,d,h1,h2,h3,h4⟩:=N.fits;unfold nO at h2;rw[zau]at h2;cases hw:z.yRX[k]? with
 |none=>rw[hw]at h2;cases h2
 |some w=>
  rw[hw]at h2;cases h2;exact⟨N.time,k,w,h1,hw,h3,h4⟩
def yahO(x0:List Nat):qB prg 4 [.c (.sl 1 (x0.map nenc))] (.c (.b true)):=by
 refine yQy yagd λhwf=>?_;obtain⟨code,hcode⟩:=yadT (x:=x0) hwf.1;rw[hcode];clear hwf;refine goQ_ ?_;refine aA (yamv code) ?_
 by_cases hbig:1048576<code.length
 .have t1:(1048576<code.length)=True:=eq_true hbig;exact yafA t1
 .have t1:(1048576<code.length)=False:=eq_false hbig;refine yafw t1 ?_;have hD:=yabw code (by omega);obtain⟨hB,hBs,hF⟩:=yadB code (0,hash code);have hB:Bare (dwX code):=hB;have hBs:(dwX code).small:=hBs;have hF:yahT (dwX code):=hF;have f1:=hF.time;have f2:=hF.start;have f3:=hF.inn;obtain⟨⟨tok,_,tnd⟩,t8⟩:=yaev code;clear hF;generalize dwX code=x0 at *;generalize dwT code=ts at *;have f4:=(yCL hB.ok).start;have hG0:Going (ts.take 0) 0 0 x0:=⟨yaho hB hBs,by omega,by omega,by omega⟩;refine yYp hD (goQ_ ?_);refine qA (ι:=Nat×yRW) (λq=>q.1<=ts.length/\Going (ts.take q.1) (9*q.1) (2160*q.1) q.2) (λq=>xC [(0,.c (.sl 1 (code.map yBD))),(3,.box 3 0),(4,.c (.sl 2 (ts.map yRT.enc))),(5,.c (.i q.1))] [(3,.box (q.2.enc.map .c))]) (λq=>ts.length-q.1) (0,x0) ⟨zbu _,hG0⟩ (by apply aB<;>simp) ?_
  rintro⟨k,x⟩ ⟨hk,G⟩
  simp only at hk G;have hs:=G.grown.small;rcases yX1 k ts with⟨klt,t,ht⟩|kge
  .have gt:=(zaa.1 ht).2;obtain⟨e1,G1⟩:=yagy G ht tok tnd t8;have p1:=yagh x t hs (tok t (zac ht)).2;rw[e1]at p1;generalize yYK x t=y1 at *;refine yaeV ht gt klt (fC klt) ?_;intro hm;refine yYo p1 (goQ_ ?_);have ha:=yaec code k;have hb:=yaec code (k+1);have hAt:=at_c code k (by omega);have hBt:=at_c code (k+1) (by omega);rw[show((k+1:Nat):Int)=(k:Int)+1 by omega]at hBt;generalize atV code k=a at *;generalize atV code (k+1)=b at *;have h9:0<=a.tmod 9/\a.tmod 9<=8:=by rw[zbe ha.1];omega
   have h5:0<=b.tmod 5/\b.tmod 5<=4:=by rw[zbe hb.1];omega
   refine qA (ι:=Nat×yRW) (λq=>q.1<=9/\Going (ts.take (k+1)) (9*k+q.1) (2160*k+240*q.1) q.2) (λq=>xC [(0,.c (.sl 1 (code.map yBD))),(3,.box 3 0),(4,.c (.sl 2 (ts.map yRT.enc))),(5,.c (.i k)),(6,.box 6 0),(8,.c (.i q.1))] [(3,.box (x.enc.map .c)),(6,.box (q.2.enc.map .c))]) (λq=>9-q.1) (0,y1) ⟨zbu _,by simpa using G1⟩ (by apply aB<;>simp) ?_
   rintro⟨i,y⟩ ⟨hi,Gy⟩
   simp only at hi Gy;have hys:=Gy.grown.small;refine goQ_ ?_;refine yYq hAt (goQ_ ?_);refine⟨by unfold inI;omega,?_⟩;rcases zcF (a.tmod 9) i with ige|ile
   .have hc:((i:Int)<=a.tmod 9)=False:=eq_false (by omega);refine yafw hc ?_;intro _;refine⟨gB klt hm,k+1,y,⟨klt,Gy.mono (by omega) (by omega)⟩,by omega,?_⟩;apply aB<;>simp
   .have hc:((i:Int)<=a.tmod 9)=True:=eq_true ile;obtain⟨q,hq⟩:∃q,60*b.tmod 5=q:=⟨_,rfl⟩;obtain⟨Gz,hzt,new,hnew,hnote⟩:=yagL Gy (q:=q) (by omega) (by omega) (by omega);have yaco:=yahh (yYn y q hys);obtain⟨l1,_⟩:=yaeU Gz tnd;have c1:=yafN _ Gz.grown.small (yafg Gz);have c2:=yafL _ Gz.grown.small (yafg Gz);rw[l1]at c1 c2;have hzs:=Gz.grown.small;generalize ySY y q=z at *;refine yafw hc ?_;refine⟨⟨gB klt hm,?_⟩,λh=>absurd h (by omega)⟩;refine yYr hBt (yafw hq ?_);refine⟨by unfold inI;omega,by unfold inI;omega,?_⟩;refine yYo yaco (goQ_ ?_);refine yYq c1 (goQ_ ?_);refine yYq c2 ?_;have hyt:=Gy.time;have hze:(z.Time=y.Time+1)=True:=eq_true hzt;refine yafw hze ?_;refine⟨by unfold inI;omega,?_⟩;intro hm1;have hzl:z.yR1.length=y.yR1.length+new.length:=by rw[hnew,zah]
    refine qA (ι:=Nat) (λn=>y.yR1.length<=n/\n<=z.yR1.length) (λn=>xC [(0,.c (.sl 1 (code.map yBD))),(3,.box 3 0),(4,.c (.sl 2 (ts.map yRT.enc))),(5,.c (.i k)),(6,.box 6 0),(8,.c (.i i)),(9,.box 9 0),(10,.c (.i n))] [(3,.box (x.enc.map .c)),(6,.box (y.enc.map .c)),(9,.box (z.enc.map .c))]) (λn=>z.yR1.length-n) y.yR1.length ⟨Nat.le_refl _,by omega⟩ (by apply aB<;>simp) ?_
    rintro n ⟨n1,n2⟩
    rcases yX1 n z.yR1 with⟨nlt,p,hp⟩|nge
    .have gp:=(zaa.1 hp).2;obtain⟨tm,kk,w,hk,hw,hlen,hwid⟩:=yahE hnew hnote n1 hp;have gw:=(zaa.1 hw).2;have lw:=(zaa.1 hw).1;have hps:p.yRT.small:=hzs.2.2.2.2.2.2.2.2.2 p (zac hp);have q1:=ynV p.yRT hps;have q2:=ycg p.yRT hps;have hpt:(p.Time=z.Time)=True:=eq_true tm;have w1:(w.yR0.Width<iH p.yRT)=False:=eq_false (by omega);have w2:(w.yR0.Length<aI p.yRT)=False:=eq_false (by omega);refine yaeV hp gp nlt (fC nlt) ?_;intro hm2;refine yafw hpt ?_;refine yYs q1 (yaff hk hw gw lw w1 ?_);refine yYs q2 (yaff hk hw gw lw w2 ?_);refine⟨gB nlt hm2,n+1,⟨by omega,nlt⟩,by omega,?_⟩;apply aB<;>simp
    .have:n=z.yR1.length:=by omega
     subst this;refine yafw (aG nge) ?_;intro hm2;refine⟨by unfold inI;omega,i+1,z,⟨by omega,Gz.mono (by omega) (by omega)⟩,by omega,?_⟩;apply aB<;>simp
  .have:k=ts.length:=by omega
   subst this;obtain⟨_,w1,w2,w3⟩:=yaeU G tnd;have c1:=yacK x hs;have c2:=yadz x hs (yafg G);have c3:=yacU x hs;rw[w1]at c1;rw[w2]at c2;rw[w3]at c3;refine yafw (aG kge) ?_;intro hm;refine yYq c1 (goQ_ ?_);refine yYq c2 (goQ_ ?_);refine yYq c3 ?_;exact goE_
def yaiX:ySS Rows.fnAllArriveSpec Tryz.f3.params.size:=by
 refine⟨rfl,λH ds h=>?_⟩
 match ds,h with
 |[d0],_=>rfl
def yaiC:ySD prg Tryz.f3 (Tryz.f3.resultTypes.getD 0 0) [(false,[.sl [.u]])]:=
 ⟨yxg,by kernel_rfl,by kernel_rfl,by kernel_rfl,by kernel_rfl⟩
def yaiL(os:Os)(started:os.Started)(H:Type)(enc:TypeId×Value->H):
 ReturnsInHanded {} Tryz.checked os 3 .any (Rows.fnAllArriveSpec.pre6 enc prg Tryz.f3 Rows.fnAllArriveRow.domain false) (Rows.fnAllArriveSpec.post enc prg Tryz.f3 false true false false):=by
 refine law_lifted (C:=Tryz.checked) yBc started (by kernel_rfl) Tryz.func3
  (ChangeSpec.witness6 (enc:=enc) (C:=Tryz.checked) false ⟨#[],#[.slice none 0 0],[]⟩ 8 (by kernel_rfl) (by kernel_rfl) (by kernel_rfl) (by kernel_rfl)) yaiX yaiC ?_
 rintro avs ⟨a,avs0,rfl,ha,rfl⟩
 cases ha with
 |one h0=>
  obtain⟨x0,rfl⟩:=h0.tV nenc λxs h=>yadJ h;exact yaka x0
def yaiY:yvb prg 3 Tryz.f3 Rows.fnAllArriveSpec Rows.fnAllArriveRow=true:=by kernel_rfl
def yajb:Tryz.pinned.checked.prog.funcNamed Rows.fnAllArriveRow.func=some 3:=by kernel_rfl
def yajj:Tryz.f3.isInstance Tryz.pinned.checked.prog Rows.fnAllArriveRow.origin Rows.fnAllArriveRow.targs:=(of_decide_eq_true (by kernel_rfl))
def yajk:Tryz.f3.isWrapper Tryz.pinned.checked.prog Rows.fnAllArriveRow.wrapper Rows.fnAllArriveRow.mainSum:=by
 unfold Func.isWrapper;first|(rw[if_pos (by decide+kernel)];kernel_rfl)|(rw[if_neg (by decide+kernel)];exact⟨rfl,rfl⟩)
theorem FnAllArrive_holds:Rows.FnAllArriveSaid:=
 OpenClaim.holds_of_wide (p:=Tryz.pinned) (s:=Rows.fnAllArriveSpec) (c:=Rows.fnAllArriveRow) 3 Tryz.f3 rfl rfl rfl rfl rfl rfl rfl ⟨rfl,rfl,rfl,rfl,rfl⟩ rfl rfl rfl rfl rfl yajb Tryz.func3
  (yDX yDP yaiY ⟨rfl,rfl,rfl,rfl,rfl,rfl,rfl,rfl⟩) yajj yajk (λos started H enc _=>yaiL os started H enc)
def yagz:ySS Rows.fnTopSpec Tryz.f4.params.size:=by
 refine⟨rfl,λH ds h=>?_⟩
 match ds,h with
 |[d0],_=>rfl
def yafD:ySD prg Tryz.f4 (Tryz.f4.resultTypes.getD 0 0) [(false,[.sl [.u]])]:=
 ⟨yxg,by kernel_rfl,by kernel_rfl,by kernel_rfl,by kernel_rfl⟩
def yagf(os:Os)(started:os.Started)(H:Type)(enc:TypeId×Value->H):
 ReturnsInHanded {} Tryz.checked os 4 .any (Rows.fnTopSpec.pre6 enc prg Tryz.f4 Rows.fnTopRow.domain false) (Rows.fnTopSpec.post enc prg Tryz.f4 false true false false):=by
 refine law_lifted (C:=Tryz.checked) yBc started (by kernel_rfl) Tryz.func4
  (ChangeSpec.witness6 (enc:=enc) (C:=Tryz.checked) false ⟨#[],#[.slice none 0 0],[]⟩ 8 (by kernel_rfl) (by kernel_rfl) (by kernel_rfl) (by kernel_rfl)) yagz yafD ?_
 rintro avs ⟨a,avs0,rfl,ha,rfl⟩
 cases ha with
 |one h0=>
  obtain⟨x0,rfl⟩:=h0.tV nenc λxs h=>yadJ h;exact yahO x0
def yagp:yvb prg 4 Tryz.f4 Rows.fnTopSpec Rows.fnTopRow=true:=by kernel_rfl
def yagB:Tryz.pinned.checked.prog.funcNamed Rows.fnTopRow.func=some 4:=by kernel_rfl
def yagN:Tryz.f4.isInstance Tryz.pinned.checked.prog Rows.fnTopRow.origin Rows.fnTopRow.targs:=(of_decide_eq_true (by kernel_rfl))
def yagF:Tryz.f4.isWrapper Tryz.pinned.checked.prog Rows.fnTopRow.wrapper Rows.fnTopRow.mainSum:=by
 unfold Func.isWrapper;first|(rw[if_pos (by decide+kernel)];kernel_rfl)|(rw[if_neg (by decide+kernel)];exact⟨rfl,rfl⟩)
theorem FnTop_holds:Rows.FnTopSaid:=
 OpenClaim.holds_of_wide (p:=Tryz.pinned) (s:=Rows.fnTopSpec) (c:=Rows.fnTopRow) 4 Tryz.f4 rfl rfl rfl rfl rfl rfl rfl ⟨rfl,rfl,rfl,rfl,rfl⟩ rfl rfl rfl rfl rfl yagB Tryz.func4
  (yDX yDP yagp ⟨rfl,rfl,rfl,rfl,rfl,rfl,rfl,rfl⟩) yagN yagF (λos started H enc _=>yagf os started H enc)
end
end Go.Proofs.YtdadkiofenhnbaaGreat
