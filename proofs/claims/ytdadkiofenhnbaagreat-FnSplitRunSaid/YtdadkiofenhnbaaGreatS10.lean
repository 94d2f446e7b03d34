/- What functions answer, in plain Lean. -/
import Derived.Test.YtdadkiofenhnbaaGreatS9
set_option linter.all false
set_option maxRecDepth 100000
set_option maxHeartbeats 4000000
namespace Go.Proofs.YtdadkiofenhnbaaGreat
open Go.RowKit
noncomputable section
def yadZ(code:List UInt8)(p:Nat×Int)(hp:p.1<=code.length):yZW prg 44 (yYV code p) (yYV code (newN code p)) [] (.agg ((newV code p).enc.map .c)):=by
 obtain⟨hK,hn2,hn4⟩:=yabY code p;have h3:=yYC (code:=code) (n:=3) (p:=p) (by omega);obtain⟨_,s1,s2,s3⟩:=yabC code p;have q0:(yYA code 3 p).1<=code.length:=yYD hp;have eN:newN code p=tarN code (yZs code p).p:=rfl;have eV:newV code p=(yYI (yZs code p).R (yZs code p).W (yZs code p).K (yZj code (yZs code p).p)).1:=rfl;have eD:yZs code p=yYH code (yZF code p) (yYA code 3 p) (yZF code p):=rfl;rw[eN,eV];refine yZP yabE (by simp) λhwf hwf2=>?_;refine goQ_ ?_;refine yYE (yYF code 3 p hp (by omega) (by omega)) (by simp) (by simp) rfl (by simp[fD]) (goQ_ ?_);refine⟨by unfold inI;omega,?_⟩;rw[<-hK];rw[eD]at s1 s2 s3|-;clear eN eV eD hK;generalize yZF code p=n at *;generalize yYA code 3 p=qq at *;refine qA (ι:=Nat) (λk=>k<n) (λk=>xC [(0,.box 0 0),(1000000,.box 0 0),(2,.box 2 0),(3,.c (.i n)),(4,.own 19 3 (yYH code n qq k).R.length),(5,.own 20 2 (yYH code n qq k).W.length),(6,.own 21 22 (yYH code n qq k).K.length),(7,.c (.i k))] [(0,.box ((yYV code (yYH code n qq k).p).map .c)),(2,zW),(19,.row 3 ((yYH code n qq k).R.map Reach.enc)),(20,.row 2 ((yYH code n qq k).W.map Way.enc)),(21,.tr 22 0 ((yYH code n qq k).K.map yR8.enc))]) (λk=>n-k) 0 (by show 0<n;omega) (by apply aB<;>simp[yYH]) ?_
 rintro k hk
 have hk':k<n:=hk;have hq:=yabo (n:=n) q0 k;have hln:=yabN (code:=code) (n:=n) (p:=qq) k (by omega);have hlast:=yacJ (code:=code) (n:=n) (p:=qq) (k:=k);have hnext:=yacT (code:=code) (n:=n) (p:=qq) (k:=k);generalize hQ:yYH code n qq k=Q at *;obtain⟨q,R,W,K⟩:=Q;simp only at hq hln hlast hnext|-;obtain⟨l1,l2,l3,_⟩:=hln;have l3:=l3 hk';obtain⟨bed,hbed⟩:∃b:Int,b=40*((n:Int)-k):=⟨_,rfl⟩;rw[<-hbed]at hlast hnext;have hb:40<=bed/\bed<=160:=by omega
 have v1:=yYC (code:=code) (n:=9) (p:=q) (by omega);have v2:=yYC (code:=code) (n:=30) (p:=rcP1 code q) (by omega);have v3:=yYC (code:=code) (n:=3) (p:=rcP2 code q) (by omega);have v4:=yaep (code:=code) (p:=rcP3 code q);have w1:=yYM code wayL (rcP3 code q) (yadi hq) (by simp[wayL]) (by simp[wayL]);have y1:wayL.map qC=[[.i 8],[.i 20],[.i 40]]:=rfl;have hNR:=yacI (yZb bed (6000+600*yYB code 9 q)) (bed+25+yYB code 30 (rcP1 code q)) (yYB code 3 (rcP2 code q)) (by simp[yZb]);have hrT:(yZb bed (6000+600*yYB code 9 q)).map ySc.enc=[[.i bed,.i 0],[.i (bed+60),.i (6000+600*yYB code 9 q)],[.i (bed+90),.i 20000]]:=rfl;rw[hrT]at hNR;have eR:yZz code bed q=(yYY (yZb bed (6000+600*yYB code 9 q)) (bed+25+yYB code 30 (rcP1 code q)) (yYB code 3 (rcP2 code q))).1:=rfl;have eW:wayV code bed q=⟨yYO code wayL (rcP3 code q),bed⟩:=rfl;simp -dsimp -implicitDefEqProofs [fC hk',hk',<-hbed];refine⟨by unfold inI;omega,by unfold inI;omega,by unfold inI;omega,?_⟩;refine yYE (yYF code 9 q hq (by omega) (by omega)) (by simp) (by simp) rfl (by simp[fD]) (goQ_ ?_);refine⟨by unfold inI;omega,by unfold inI;omega,by unfold inI;omega,by unfold inI;omega,?_⟩;refine yYE (yYF code 30 (rcP1 code q) (yadj hq) (by omega) (by omega)) (by simp[rcP1]) (by simp) rfl (by simp[fD]) (goQ_ ?_);refine⟨by unfold inI;omega,?_⟩;refine yYE (yYF code 3 (rcP2 code q) (yadl hq) (by omega) (by omega)) (by simp[rcP2]) (by simp) rfl (by simp[fD]) (goQ_ ?_);refine yGz [44] hNR (by simp -dsimp -implicitDefEqProofs) rfl ?_;rw[<-eR];generalize yZz code bed q=r at *;generalize(yYY (yZb bed (6000+600*yYB code 9 q)) (bed+25+yYB code 30 (rcP1 code q)) (yYB code 3 (rcP2 code q))).2=rb at *;refine goQ_ ?_;refine⟨by omega,?_⟩;refine yY5 (rows:=[[.i 8],[.i 20],[.i 40]]) (by simpa[y1]using w1) (by simp[rcP3]) (by simp) rfl (goQ_ ?_);refine⟨by omega,by unfold inI;omega,λhend=>?_,λhgo=>?_⟩
 .have hkn:k+1=n:=by omega
  have hL:yYH code n qq n=_:=(congrArg (yYH code n qq) hkn.symm).trans (hlast hkn);rw[hL]at s1 s2 s3|-;clear hlast hnext hL;simp only at s1 s2 s3|-;refine yYE (yacE code (yZZ code q) (yabc hq)) (by simp[yZZ]) (by simp) rfl (by simp[fD]) (goQ_ ?_);have hNW:=yaau (R++[r]) (W++[wayV code bed q]) K (yZj code (yZZ code q)) s1 s2 s3 (yadf code (yZZ code q)).2.1;generalize yYI (R++[r]) (W++[wayV code bed q]) K (yZj code (yZZ code q))=X at *;refine yGz [19,20,21,30137,40137] hNW (by simp -dsimp -implicitDefEqProofs [jA,eW,yabL];exact⟨(List.take_of_length_le (by simp)).symm,(List.take_of_length_le (by simp)).symm⟩) rfl ?_;exact goE_
 .have hnx:=hnext (by omega);have b1:=yYM code chlL (yZZ code q) (yabc hq) (by simp[chlL]) (by simp[chlL]);have b2:=yYM code chwL (wkP1 code q) (yado hq) (by simp[chwL]) (by simp[chwL]);have b4:=yYM code yZC (wkP3 code q) (yadc hq) (by simp[yZC]) (by simp[yZC]);have b6:=yYM code watL (wkP5 code q) (yada hq) (by simp[watL]) (by simp[watL]);have f1:chlL.map qC=[[.i 60],[.i 120]]:=rfl;have f2:chwL.map qC=[[.i 10],[.i 16]]:=rfl;have f4:yZC.map qC=[[.i 60],[.i 300],[.i 2000]]:=rfl;have f6:watL.map qC=[[.i 10],[.i 30],[.i 70]]:=rfl;rw[f1]at b1;rw[f2]at b2;rw[f4]at b4;rw[f6]at b6;have r3:=yYC (code:=code) (n:=8) (p:=wkP2 code q) (by omega);have r5:=yYC (code:=code) (n:=2) (p:=wkP4 code q) (by omega);have r6:=yadY (code:=code) (p:=wkP5 code q);have r7:=yYC (code:=code) (n:=9) (p:=wkP6 code q) (by omega);have r8:=yYC (code:=code) (n:=5) (p:=wkP7 code q) (by omega);have r9:=yYC (code:=code) (n:=20) (p:=wkP8 code q) (by omega);have hwat:=yabT (a:=1+yYB code 8 (wkP2 code q)) (by omega) r6;refine yY5 (rows:=[[.i 60],[.i 120]]) (by simpa using b1) (by simp[yZZ]) (by simp) rfl (goQ_ ?_);refine yY5 (rows:=[[.i 10],[.i 16]]) (by simpa using b2) (by simp[wkP1]) (by simp) rfl (goQ_ ?_);refine⟨by unfold inI;omega,?_⟩;refine yYE (yYF code 8 (wkP2 code q) (yacY hq) (by omega) (by omega)) (by simp[wkP2]) (by simp) rfl (by simp[fD]) (goQ_ ?_);refine⟨by unfold inI;omega,?_⟩;refine yY5 (rows:=[[.i 60],[.i 300],[.i 2000]]) (by simpa using b4) (by simp[wkP3]) (by simp) rfl (goQ_ ?_);refine yYE (yYF code 2 (wkP4 code q) (yadn hq) (by omega) (by omega)) (by simp[wkP4]) (by simp) rfl (by simp[fD]) (goQ_ ?_);have hg:CurG prg 127 (yYV code (wkP5 code q)) (yYV code (yY1 code watL (wkP5 code q))) 1 ([[C.i 10],[C.i 30],[C.i 70]].take 3) (.c (.i (yYO code watL (wkP5 code q)))):=b6;refine yaaz (id:=0) (id1:=94) hg (by simp) (by simp) (by simp[wkP5]) (by simp) rfl (goQ_ ?_);have hpz:=yacw code (yZ2 code q) (yadb hq);refine⟨by unfold inI;omega,by unfold inI;omega,by unfold inI;omega,by unfold inI;omega,?_⟩;refine yZ9 (id:=0) (yYF code 9 (wkP6 code q) (yadh hq) (by omega) (by omega)) (by simp) (by simp[wkP6]) (λ_=>by simp) rfl rfl rfl (goQ_ ?_);refine yZ9 (id:=0) (yYF code 5 (wkP7 code q) (yadm hq) (by omega) (by omega)) (by simp) (by simp[wkP7]) (λ_=>by simp) rfl rfl rfl (goQ_ ?_);refine⟨by unfold inI;omega,by unfold inI;omega,?_⟩;refine yZ9 (id:=0) (yYF code 20 (wkP8 code q) (yadk hq) (by omega) (by omega)) (by simp) (by simp[wkP8]) (λ_=>by simp) rfl rfl rfl (goQ_ ?_);refine⟨by unfold inI;omega,?_⟩;refine yZ9 (id:=0) hpz (by simp) (by simp[yZ2]) (λ_=>by simp) rfl rfl rfl (goQ_ ?_);have eP:wkN code q=(yYW code (yZ2 code q)).1:=rfl;have eV:yZw code (yZ2 code q)=if xO (yYW code (yZ2 code q)).2 then(yYW code (yZ2 code q)).2 else[]:=rfl
  have eK:yZf code bed q=⟨yaby code bed q,yacD code bed q,⟨bed+20,bed+45,bed+70⟩,yZw code (yZ2 code q),⟨false,0⟩,[]⟩:=rfl;have eL:yaby code bed q=⟨yYO code chlL (yZZ code q),yYO code chwL (wkP1 code q),bed,bed-40,bed-40,1+yYB code 8 (wkP2 code q),yYO code yZC (wkP3 code q),(1+yYB code 8 (wkP2 code q))*yYO code watL (wkP5 code q),0,[]⟩:=rfl;have eX:yacD code bed q=⟨2,yYB code 9 (wkP6 code q),1+yYB code 5 (wkP7 code q),bed+10,1+yYB code 20 (wkP8 code q)⟩:=rfl;refine yYq (ylL (yYW code (yZ2 code q)).2) ?_;cases hpo:xO (yYW code (yZ2 code q)).2 with
  | false=>
   rw[hpo]at eV;refine goQ_ ?_;refine⟨by omega,by unfold inI;omega,k+1,by omega,by omega,?_⟩
   have hgs:yaq (K.map yR8.enc++[[.i (yYO code chlL (yZZ code q)),.i (yYO code chwL (wkP1 code q)),.i bed,.i (bed-40),.i (bed-40),.i (1+yYB code 8 (wkP2 code q)),.i (yYO code yZC (wkP3 code q)),.i ((1+yYB code 8 (wkP2 code q))*yYO code watL (wkP5 code q)),.i 0,.sl 2 [],.i 2,.i (yYB code 9 (wkP6 code q)),.i (1+yYB code 5 (wkP7 code q)),.i (bed+10),.i (1+yYB code 20 (wkP8 code q)),.i (bed+20),.i (bed+45),.i (bed+70),.ow 2 [],.b false,.i 0,.sl 4 []]])=some (K.map yR8.enc++[(yZf code bed q).enc]):=
    yacu (yabL K) (by simp[yaq,dO,C.shr,eV,eK,eL,eX])
   refine yVb 21 (k:=22) (v:=0) (by simp) hgs ?_;apply aB<;>simp[hnx,eP,eV,eK,eL,eX,eW]
  |true=>
   rw[hpo]at eV;refine goQ_ ?_;refine⟨by omega,by unfold inI;omega,k+1,by omega,by omega,?_⟩;apply aB<;>simp[hnx,eP,eV,eK,eL,eX,eW]
def yace{rows:List (List ySa)}{b:ySa}(h:1<=rows.length):(addLast rows b).flatten=rows.flatten++[b]:=by
 rcases zbR rows with e|⟨l,r,e⟩
 .subst e;simp at h
 .rw[zbS]at e;subst e;simp[addLast]
def yaag{code:List UInt8}{id:Int}{p:Nat×Int}(k:Nat):(yYG code id p (k+1)).2.flatten=(yYG code id p k).2.flatten++[yZD code (id+k) (yYG code id p k).1]:=by
 have ih:=yZq (code:=code) (id:=id) (p:=p) k;simp only[yYG];split
 .simp
 .simp only[];split
  .rw[yace (by omega)]
  .simp
def yZM{code:List UInt8}{id:Int}{p:Nat×Int}:∀k:Nat,(yYG code id p k).2.flatten.map yc0=(List.range k).map λi:Nat=>id+(i:Int)
 |0=>rfl
 |k+1=>by
  rw[yaag,zaB,yZM k,zdc,zaB];rfl
def yadC{x:Int}(h:x∈yZY):1<=x/\x<=200:=by
 simp[yZY]at h;omega
def yadV{code:List UInt8}{id:Int}{p:Nat×Int}(h:1<=id/\id<=9999):iL (yZD code id p)=true:=by
 have h1:=yadC (yY6 (code:=code) (l:=yZY) (p:=p) (by simp[yZY]));have h2:=yYC (code:=code) (n:=9) (p:=yZ7 code p) (by omega);have h3:=yYC (code:=code) (n:=30) (p:=yZ0 code p) (by omega);have h4:=yYC (code:=code) (n:=12) (p:=yZ3 code p) (by omega);have h5:=yYC (code:=code) (n:=3) (p:=yZ6 code p) (by omega);simp only[iL,yZD,zad];exact⟨⟨⟨⟨⟨aC.2 h,aC.2 h1⟩,aC.2 ⟨by omega,by omega⟩⟩,aC.2 ⟨by omega,by omega⟩⟩,aC.2 ⟨by omega,by omega⟩⟩,aC.2 ⟨by omega,by omega⟩⟩
def yaaH{code:List UInt8}{id:Int}{p:Nat×Int}:∀k:Nat,1<=id->id+k<=9999->∀b∈(yYG code id p k).2.flatten,iL b=true
 |0,_,_,b,h=>by simp[yYG]at h
 | k+1,h1,h2,b,h=>by
  rw[yaag]at h;rcases zaj.1 h with h|h
  .exact yaaH k h1 (by omega) b h
  .simp only[zan]at h;subst h;exact yadV ⟨by omega,by omega⟩
def yabO{code:List UInt8}{id:Int}{p:Nat×Int}(h:1<=id/\id<=9000):oC (yY3 code id p)=true:=by
 obtain⟨_,k1,k4⟩:=yZT code p;have hb:(yY3 code id p).qE=(yYG code id (yYA code 4 (yYA code 2 p)) (yY7 code p)).2.flatten:=rfl;have hr:(yY3 code id p).Rows=(yYG code id (yYA code 4 (yYA code 2 p)) (yY7 code p)).2:=rfl;simp only[oC,zad,zae,decide_eq_true_eq];have hids:=yZM (code:=code) (id:=id) (p:=yYA code 4 (yYA code 2 p)) (yY7 code p);have hlen:=congrArg List.length hids;simp only[zam,zcI]at hlen;rw[hb,hr];refine⟨⟨⟨λr hr=>yky.2 ?_,yaaH _ (by omega) (by omega)⟩,?_⟩,aC.2 ?_⟩
 .have:=yZp _ r hr;omega
 .rw[hids];refine List.Pairwise.map _ ?_ zdx;intro a b h e;exact h (by omega)
 .rw[hlen];omega
def yacd{code:List UInt8}{id:Int}{p:Nat×Int}:(yY3 code id p).small:=by
 obtain⟨_,k1,k4⟩:=yZT code p;have h1:=yZq (code:=code) (id:=id) (p:=yYA code 4 (yYA code 2 p)) (yY7 code p);refine⟨by simp only[yY3];omega,λr hr=>⟨?_,λ_ _=>trivial⟩⟩;have:=yZp _ r hr;omega
def yacQ(code:List UInt8)(id:Int)(p:Nat×Int)(hp:p.1<=code.length)(hid:0<=id/\id<=1000000):yZW prg 46 (yYV code p) (yYV code (yaaC code id p)) [.c (.i id)] (.agg ((yY3 code id p).enc.map .c)):=by
 have hsh:yaq ((yY3 code id p).Rows.map eoB)=some ((yY3 code id p).Rows.map jE):=eF (λr=>by simp[eoB,dO,C.shr,jE]) _;exact(yacH code id p hp hid).share (by simp[AV.shr,AV.yoE,dO,C.shr,hsh]) (λl h=>by cases h)
def yacG{code:List UInt8}{id:Int}{p:Nat×Int}(h:p.1<=code.length):(yaaC code id p).1<=code.length:=yZ1 (yYD (yYD h)) _
def dtP(code:List UInt8)(n:Nat)(p:Nat×Int):Nat->Nat×Int
 |0=>p
 |j+1=>yaaC code (10*(n-j:Nat)) (dtP code n p j)
def dtS(code:List UInt8)(n:Nat)(p:Nat×Int):Nat->List yRT
 |0=>[]
 |j+1=>dtS code n p j++[yY3 code (10*(n-j:Nat)) (dtP code n p j)]
def yadS{code:List UInt8}{n:Nat}{p:Nat×Int}(h:p.1<=code.length):∀j:Nat,(dtP code n p j).1<=code.length
 |0=>h
 |j+1=>yacG (yadS h j)
def yabe{code:List UInt8}{n:Nat}{p:Nat×Int}:∀j:Nat,(dtS code n p j).length=j
 |0=>rfl
 |j+1=>by simp[dtS,yabe j]
def yadq{code:List UInt8}{id:Int}{p:Nat×Int}(h:1<=id/\id<=9000):∃k:Nat,k<=4/\lG (yY3 code id p)=(List.range k).map λi:Nat=>id+(i:Int):=by
 obtain⟨_,_,k4⟩:=yZT code p;refine⟨yY7 code p,k4,?_⟩;rw[(yZJ (yabO h)).1];exact yZM (code:=code) (id:=id) (p:=yYA code 4 (yYA code 2 p)) (yY7 code p)
structure yacX(n:Nat)(ts:List yRT):Prop where
 ok:∀t∈ts,oC t=true/\t.small
 lo:∀i∈ts.flatMap lG,10*(n-ts.length:Nat)+10<=i
 nd:(ts.flatMap lG).Nodup
def yadM{code:List UInt8}{n:Nat}{p:Nat×Int}(hn:n<=100):∀j:Nat,j<=n->yacX n (dtS code n p j)
 |0,_=>⟨λt h=>by simp[dtS]at h,λi h=>by simp[dtS]at h,by simp[dtS]⟩
 | j+1,hj=>by
  have ih:=yadM (code:=code) (p:=p) hn j (by omega);have hid:1<=(10*(n-j:Nat):Int)/\(10*(n-j:Nat):Int)<=9000:=by omega
  obtain⟨k,k4,hk⟩:=yadq (code:=code) (id:=10*(n-j:Nat)) (p:=dtP code n p j) hid;have hl:=yabe (code:=code) (n:=n) (p:=p) j;have hok:=yabO (code:=code) (id:=10*(n-j:Nat)) (p:=dtP code n p j) hid;have hsm:=yacd (code:=code) (id:=10*(n-j:Nat)) (p:=dtP code n p j);have hlo:=ih.lo;rw[hl]at hlo
  have hnew:∀i∈lG (yY3 code (10*(n-j:Nat)) (dtP code n p j)),10*(n-j:Nat)<=i/\i<=10*(n-j:Nat)+3:=by
   intro i hi;rw[hk]at hi;obtain⟨a,ha,rfl⟩:=zaM.1 hi;have:=zaQ.1 ha;omega
  unfold dtS;refine⟨λt h=>?_,λi h=>?_,?_⟩
  .rcases zaj.1 h with h|h
   .exact ih.ok t h
   .rw[zan]at h;subst h;exact⟨hok,hsm⟩
  .rw[zah,hl];rw[zbB]at h;rcases zaj.1 h with h|h
   .have:=hlo i h;simp only[zaA,zbr];omega
   .simp only[zaZ,zdy,zbH]at h;have:=hnew i h;simp only[zaA,zbr];omega
  .rw[zbB,zbb];refine⟨ih.nd,?_,λa ha b hb=>?_⟩
   .simp only[zaZ,zdy,zbH];rw[hk];refine List.Pairwise.map _ ?_ zdx;intro a b h e;exact h (by omega)
   .simp only[zaZ,zdy,zbH]at hb;have h1:=hlo a ha;have h2:=hnew b hb;omega
def dwX(code:List UInt8):yRW:=newV code (0,hash code)
def dwP(code:List UInt8):Nat×Int:=newN code (0,hash code)
def dwK(code:List UInt8):Nat:=(yYB code 9 (dwP code)).toNat
def dwT(code:List UInt8):List yRT:=dtS code (dwK code) (yYA code 9 (dwP code)) (dwK code)
def yadU(code:List UInt8):(dwK code:Int)=yYB code 9 (dwP code)/\dwK code<=8:=by
 have h:=yYC (code:=code) (n:=9) (p:=dwP code) (by omega);unfold dwK;omega
def yaej{code:List UInt8}{p:Nat×Int}(h:p.1<=code.length):(newN code p).1<=code.length:=yabv (yYD (yYD (yYD (yYD (yYD (yaei h)))))) _
def yaev(code:List UInt8):yacX (dwK code) (dwT code)/\(dwT code).length<=8:=by
 have h:=(yadU code).2;exact⟨yadM (by omega) _ (Nat.le_refl _),by unfold dwT;rw[yabe];exact h⟩
def yabw(code:List UInt8)(hl:code.length<=1048576):qB prg 10 [.c (.sl 1 (code.map yBD))] (.tup [.agg ((dwX code).enc.map .c),.c (.sl 2 ((dwT code).map yRT.enc))]):=by
 refine dB yZV ?_;have hpl:(∀x,x∈yYV code (0,hash code)->x.plain=true)=True:=by simp[yYV,C.plain]
 have hK:=yadU code;have hq0:(dwP code).1<=code.length:=yaej (by simp);have hnew:=yadZ code (0,hash code) (by simp);have eX:newV code (0,hash code)=dwX code:=rfl;have eP:newN code (0,hash code)=dwP code:=rfl;have eT:dwT code=dtS code (dwK code) (yYA code 9 (dwP code)) (dwK code):=rfl;rw[eX,eP]at hnew;rw[eT];generalize dwX code=x at *;refine goQ_ ?_;refine qU (yadL code hl) (by simp) rfl (by simp[fD,hpl]) (yafw hpl ?_);refine yYE hnew (by simp[hpl]) (by simp) rfl (by simp[fD]) (yafw hpl ?_);refine yYE (yYF code 9 (dwP code) hq0 (by omega) (by omega)) (by simp) (by simp) rfl (by simp[fD]) (goQ_ ?_);rw[<-hK.1];have q9:(yYA code 9 (dwP code)).1<=code.length:=yYD hq0;have hn8:=hK.2;clear hK eT eX eP hnew;generalize dwK code=n at *;generalize yYA code 9 (dwP code)=qq at *;refine yX2 (λj=>j<=n) (λj=>xC [(2,.box 2 0),(4,.box 9 0),(5,.box 5 0),(6,.own 12 2 j),(7,.c (.i (n-j)))] [(2,zW),(5,.box (x.enc.map .c)),(9,.box ((yYV code (dtP code n qq j)).map .c)),(12,.row 2 ((dtS code n qq j).map yRT.enc))]) (λj=>n-j) (by apply aB<;>simp[dtP,dtS,hpl]) ?_
 rintro j hj
 have hq:=yadS (n:=n) q9 j;have hlen:=yabe (code:=code) (n:=n) (p:=qq) j;have hp1:dtP code n qq (j+1)=yaaC code (10*(n-j:Nat)) (dtP code n qq j):=rfl;have hs1:dtS code n qq (j+1)=dtS code n qq j++[yY3 code (10*(n-j:Nat)) (dtP code n qq j)]:=rfl;rcases zaq j n with hlt|hge
 .have hgt:(0<(n:Int)-(j:Int))=True:=eq_true (by omega);have hid:(10:Int)*((n:Int)-(j:Int))=10*(n-j:Nat):=by omega
  have htr:=yacQ code (10*(n-j:Nat)) (dtP code n qq j) hq (by omega);generalize dtP code n qq j=q at *;generalize dtS code n qq j=ts at *;generalize yY3 code (10*(n-j:Nat)) q=t at *;refine yafw hgt ?_;refine⟨λ_=>?_,λh=>by omega⟩;rw[hid];refine⟨by unfold inI;omega,?_⟩;refine yYE htr (by simp) (by simp) rfl (by simp[fD]) (goQ_ ?_);refine⟨hlen.symm,by omega,by unfold inI;omega,j+1,by omega,by omega,?_⟩;apply aB<;>simp[hp1,hs1]<;>omega
 .have hgt:(0<(n:Int)-(j:Int))=False:=eq_false (by omega);have:j=n:=by omega
  subst this;generalize dtS code j qq j=ts at *;refine yafw hgt ?_;rw[List.take_of_length_le (by simp;omega)]
def yadT{x:List Nat}(h:(C.sl 1 (x.map nenc)).WF):∃code:List UInt8,x.map nenc=code.map yBD:=by
 simp only[C.WF]at h;refine⟨x.map λn=>UInt8.ofNat n,?_⟩;rw[zdB];apply zbe;intro n hn;have h1:=(h.2 _ (zbd hn)).2 (.u n) (by simp[nenc]);simp only[C.WF]at h1;simp[nenc,yBD,zdu h1]
def big_c(code:List UInt8):qB prg 9 [.c (.sl 1 (code.map yBD))] (.c (.b (decide (1048576<code.length)))):=by
 refine dB yacN (goQ_ ?_);intro _;omega
def atV(code:List UInt8)(i:Nat):Int:=if code.length=0 then 0 else(code[(i*5+1)%code.length]?.map λb=>(b.toNat:Int)).getD 0
def yaec(code:List UInt8)(i:Nat):0<=atV code i/\atV code i<=255:=by
 unfold atV;split
 .omega
 .cases h:code[(i*5+1)%code.length]? with
  |none=>simp
  |some b=>have:=yadg b;simp;omega
def at_c(code:List UInt8)(i:Nat)(hi:i<=1000):qB prg 12 [.c (.sl 1 (code.map yBD)),.c (.i i)] (.c (.i (atV code i))):=by
 refine dB yady ?_;cases code with
 |nil=>simp -dsimp -implicitDefEqProofs [yaax];simp[atV]
 | cons b0 l=>
  obtain⟨cs,hcs⟩:∃cs,cs=b0::l:=⟨_,rfl⟩;have hl:0<cs.length:=by rw[hcs];simp
  rw[<-hcs];obtain⟨j,hj⟩:∃j,j=(i*5+1)%cs.length:=⟨_,rfl⟩;have hjl:j<cs.length:=by rw[hj];exact zec _ hl
  obtain⟨b,hb⟩:∃b,cs[j]?=some b:=⟨_,zab hjl⟩;have gb:=(zaa.1 hb).2;have h8:=yadg b;have hv:atV cs i=b.toNat:=by unfold atV;rw[if_neg (by omega),<-hj,hb];rfl
  have hji:((i:Int)*5+1).tmod cs.length=(j:Int):=by
   rw[hj,zbK (by omega),Int.natCast_emod];simp
  have hne:(cs=[])=False:=by simp only[eq_iff_iff,iff_false];intro h;rw[h]at hl;simp at hl
  have hne0:(cs.length=0)=False:=by simp only[eq_iff_iff,iff_false];omega
  rw[hv];simp -dsimp -implicitDefEqProofs [yaax,hne,hne0,hji,hb,gb,hjl,yBD]
  refineλhml=>⟨by unfold inI;omega,by unfold inI;omega,λ_=>?_⟩
  unfold maxLen at hml;unfold inI;omega
def yabz(a b:List Int):qB prg 32 [.c (.sl 1 (a.map qC)),.c (.sl 1 (b.map qC))] (.c (.b (decide (a=b)))):=by
 refine dB yaaW (goQ_ ?_);intro hlen1 hlen2;refine⟨λh=>?_,λh=>?_⟩
 .have:a≠b:=λe=>h (by rw[e]);simp[this]
 have hl:a.length=b.length:=by omega
 refine yX4 (λk=>k<=a.length/\a.take k=b.take k) (λk=>xC [(0,.c (.sl 1 (a.map qC))),(1,.c (.sl 1 (b.map qC))),(5,.c (.i k))] []) (λk=>a.length-k) ?_
 rintro k ⟨hk,he⟩
 rcases yX1 k a with⟨hlt,u,hu⟩|hge
 .obtain⟨v,hv⟩:∃v,b[k]?=some v:=⟨_,zab (by omega)⟩;have g1:=(zaa.1 hu).2;have g2:=(zaa.1 hv).2;have hlt2:k<b.length:=by omega
  refine yafn hu hv g1 g2 hlt hlt2 (fC hlt) ?_
  refineλ_=>⟨λh e=>?_,λh=>⟨gB hlt hlen1,k+1,⟨hlt,kJ hu hv he h⟩,by omega,?_⟩⟩
  .subst e;rw[hu]at hv;cases hv;simp at h
  .apply aB<;>simp
 .refine yafw (aG hge) ?_;rw[List.take_of_length_le hge,List.take_of_length_le (by omega)]at he;simp[he]
def yabF(a b:List ySb):qB prg 35 [.c (.sl 5 (a.map ySb.enc)),.c (.sl 5 (b.map ySb.enc))] (.c (.b (decide (a=b)))):=by
 refine dB yZ4 (goQ_ ?_);intro hlen1 hlen2;refine⟨λh=>?_,λh=>?_⟩
 .have:a≠b:=λe=>h (by rw[e]);simp[this]
 have hl:a.length=b.length:=by omega
 refine yX4 (λk=>k<=a.length/\a.take k=b.take k) (λk=>xC [(0,.c (.sl 5 (a.map ySb.enc))),(1,.c (.sl 5 (b.map ySb.enc))),(5,.c (.i k))] []) (λk=>a.length-k) ?_
 rintro k ⟨hk,he⟩
 rcases yX1 k a with⟨hlt,u,hu⟩|hge
 .obtain⟨v,hv⟩:∃v,b[k]?=some v:=⟨_,zab (by omega)⟩;have g1:=(zaa.1 hu).2;have g2:=(zaa.1 hv).2;have hlt2:k<b.length:=by omega
  refine yafn hu hv g1 g2 hlt hlt2 (fC hlt) ?_
  refineλ_=>⟨λh e=>?_,λe1 e2 e3 e4 e5=>⟨gB hlt hlen1,k+1,⟨hlt,?_⟩,by omega,?_⟩⟩
  .subst e;rw[hu]at hv;cases hv;simp at h
  .have huv:u=v:=by cases u;cases v;simp_all
   rw[zao,zao,he,hu,hv,huv]
  .apply aB<;>simp
 .refine yafw (aG hge) ?_;rw[List.take_of_length_le hge,List.take_of_length_le (by omega)]at he;simp[he]
def rO(r:Reach):Int:=if xE r then 1000000000-sZ r else 0
def ybC(r:Reach)(a:Int):Bool:=xE r&&decide (0<=a)&&decide (a<=rO r)
def dU(r:Reach)(a:Int):Reach:=
 if ybC r a then(if r.ySk.length=0 then⟨r.ySg,r.ySh+a,r.ySk⟩else⟨r.ySg,r.ySh,r.ySk.set (r.ySk.length-1) (r.ySk.getD (r.ySk.length-1) 0+a)⟩)else r
def yS8(r:Reach):Reach:=
 if xE r&&decide (0<r.ySk.length)then⟨r.ySg,r.ySh+r.ySk.getD 0 0,r.ySk.tail++[0]⟩else r
def ys2(r:Reach):0<=rO r/\rO r<=1000000000:=by
 unfold rO;split
 .rename_i h;have:=(yF h).rng;omega
 .omega
def yo3(r:Reach):qB prg 275 [.agg (r.enc.map .c)] (.c (.i (rO r))):=by
 refine dB ytk (goQ_ ?_);refine aA (oL r) ?_;cases h:xE r with
 |false=>simp -dsimp -implicitDefEqProofs;simp[rO,h]
 |true=>
 have f:=(yF h).rng;have ht:ye4 r=sZ r:=by simp[ye4,h]
 refine goQ_ ?_;refine aA (yn0 r) (yafw ht ?_);refine⟨by unfold inI;omega,?_⟩;simp[rO,h]
def ynR(r:Reach):qB prg 304 [.agg (r.enc.map .c)] (.c (.i (rO r))):=by
 refine dB yte (goQ_ ?_);refine aA (qN r) ?_;cases h:xE r with
 |false=>simp -dsimp -implicitDefEqProofs;simp[rO,h]
 |true=>
 have f:=yF h;refine goQ_ ?_;refine aA (yuT r f.vol f.len f.amt) (goQ_ ?_);have f1:=f.rng;refine⟨by unfold inI;omega,?_⟩;simp[rO,h]
def yAl(r:Reach)(a:Int)(hl:r.small):nI prg 183 [.agg (r.enc.map .c),.c (.i a)] (.agg ((dU r a).iD.map .c)):=by
 refine fF yvx (goQ_ ?_);refine yX3 (ye5 r hl) (dP (Reach.aF r)) (goT_ ?_);refine aA (oL r) ?_;cases h:xE r with
 |false=>simp -dsimp -implicitDefEqProofs [jA];simp[dU,ybC,h]
 |true=>
 have f:=yF h;have f1:=f.rng;have hv:=aC.1 (show inRange r.ySh 0 1000000000=true from f.vol);have hsp:=ys2 r;have hlen12:=f.len
 have hno:¬(0<=a/\a<=rO r)->dU r a=r:=λhn=>by
  have:ybC r a=false:=by
   simp only[ybC,h,zbN,zcb,decide_eq_false_iff_not];omega
  simp[dU,this]
 have hyes:0<=a->a<=rO r->ybC r a=true:=λh1 h2=>by simp[ybC,h,h1,h2]
 refine goQ_ ?_;refine⟨λh0=>?_,λh0=>?_⟩
 rotate_left
 .rw[hno (by omega)];simp[jA]
 refine aA (yo3 r) (goQ_ ?_);refine⟨λh1=>?_,λh1=>?_⟩
 .rw[hno (by omega)];simp[jA]
 have hc:=hyes h0 (by omega);intro _;refine⟨λhp=>?_,λhp=>?_⟩
 .have e:dU r a=⟨r.ySg,r.ySh+a,r.ySk⟩:=by simp[dU,hc,hp]
  rw[e];refine⟨by unfold inI;omega,?_⟩;simp[jA]
 .have hpl:0<r.ySk.length:=zbf.2 hp;obtain⟨v,hv2⟩:∃v,r.ySk[r.ySk.length-1]?=some v:=⟨_,zab (by omega)⟩;have hva:=aC.1 (show inRange v 0 1000000000=true from f.amt v (zac hv2));have hg:r.ySk.getD (r.ySk.length-1) 0=v:=by rw[zaf,hv2];rfl
  have e:dU r a=⟨r.ySg,r.ySh,r.ySk.set (r.ySk.length-1) (v+a)⟩:=by
   have:¬r.ySk.length=0:=by omega
   simp only[dU,hc,if_true,if_neg this,hg]
  rw[e];intro _;refine⟨by unfold inI;omega,by omega,by omega,by omega,yafw hv2 ?_⟩;refine⟨by unfold inI;omega,by omega,by omega,by omega,jA.symm,?_⟩;exact(List.take_of_length_le (by simp)).symm
def Reach.yoT(r:Reach):(AV.agg (r.iD.map .c)).shr (.agg (r.enc.map .c)):=by simp[AV.shr,AV.yoE,dO,C.shr]
def yyV(r:Reach)(a:Int)(hl:r.small):qB prg 183 [.agg (r.enc.map .c),.c (.i a)] (.agg ((dU r a).enc.map .c)):=(yAl r a hl).pure (Reach.yoT _)
def yAK(r:Reach)(a:Int)(hl:r.small):qB prg 197 [.agg (r.enc.map .c),.c (.i a)] (.agg ((dU r a).enc.map .c)):=by
 refine nI.pure (res:=.agg ((dU r a).iD.map .c)) ?_ (Reach.yoT _);refine fF ywR (goQ_ ?_);refine yX3 (ypa r hl) (dP (Reach.aF r)) (goT_ ?_);refine aA (qN r) ?_;cases h:xE r with
 |false=>simp -dsimp -implicitDefEqProofs [jA];simp[dU,ybC,h]
 |true=>
 have f:=yF h;have f1:=f.rng;have hv:=aC.1 (show inRange r.ySh 0 1000000000=true from f.vol);have hsp:=ys2 r;have hlen12:=f.len
 have hno:¬(0<=a/\a<=rO r)->dU r a=r:=λhn=>by
  have:ybC r a=false:=by
   simp only[ybC,h,zbN,zcb,decide_eq_false_iff_not];omega
  simp[dU,this]
 have hyes:0<=a->a<=rO r->ybC r a=true:=λh1 h2=>by simp[ybC,h,h1,h2]
 refine goQ_ ?_;refine aA (ynR r) (goQ_ ?_);refine aA (bC a 0 (rO r)) ?_;cases hin:inRange a 0 (rO r)with
 |false=>
  have:¬(0<=a/\a<=rO r):=λh=>by rw[aC.2 h]at hin;cases hin
  rw[hno this];simp -dsimp -implicitDefEqProofs [jA]
 |true=>
 have hr:=aC.1 hin;have hc:=hyes hr.1 hr.2;refine goQ_ ?_;intro _;refine⟨λhp=>?_,λhp=>?_⟩
 .have e:dU r a=⟨r.ySg,r.ySh+a,r.ySk⟩:=by simp[dU,hc,hp]
  rw[e];refine⟨by unfold inI;omega,?_⟩;simp[jA]
 .have hpl:0<r.ySk.length:=zbf.2 hp;obtain⟨v,hv2⟩:∃v,r.ySk[r.ySk.length-1]?=some v:=⟨_,zab (by omega)⟩;have hva:=aC.1 (show inRange v 0 1000000000=true from f.amt v (zac hv2));have hg:r.ySk.getD (r.ySk.length-1) 0=v:=by rw[zaf,hv2];rfl
  have e:dU r a=⟨r.ySg,r.ySh,r.ySk.set (r.ySk.length-1) (v+a)⟩:=by
   have:¬r.ySk.length=0:=by omega
   simp only[dU,hc,if_true,if_neg this,hg]
  rw[e];intro _;refine⟨by unfold inI;omega,λ_=>⟨by unfold inI;omega,by omega,by omega,by omega,?_⟩⟩;refine yafw hv2 ?_;refine⟨by unfold inI;omega,by omega,by omega,by omega,jA.symm,?_⟩;exact(List.take_of_length_le (by simp)).symm
def yXE(xs:List Int)(h:0<xs.length):List.take xs.length (List.take xs.length (List.take (xs.length-1) (xs.map qC).tail)++((xs.map qC).drop (xs.length-1)).set 0 (((List.take xs.length (List.take (xs.length-1) (xs.map qC).tail)++(xs.map qC).drop (xs.length-1))[xs.length-1]?.getD []).set 0 (.i 0)))=(xs.map qC).tail++[qC 0]:=by
 have hl:((xs.map qC).tail).length=xs.length-1:=by simp
 have hT:List.take xs.length (List.take (xs.length-1) (xs.map qC).tail)=(xs.map qC).tail:=by
  rw[List.take_of_length_le (l:=(xs.map qC).tail) (by omega),List.take_of_length_le (by omega)]
 obtain⟨z,hz⟩:∃z,xs.drop (xs.length-1)=[z]:=zbw.1 (by simp;omega);have hd:(xs.map qC).drop (xs.length-1)=[qC z]:=by rw[<-zcF,hz];rfl
 rw[hT,hd,zax (by omega),hl];simp only[zca,zbW,zbc,zbD];exact List.take_of_length_le (by rw[zah,hl];simp;omega)
def yW0(r:Reach)(hl:r.small):nI prg 184 [.agg (r.enc.map .c)] (.agg ((yS8 r).iD.map .c)):=by
 refine fF yWj (goQ_ ?_);refine yX3 (ye5 r hl) (dP (Reach.aF r)) (goT_ ?_);intro hlen;refine⟨λhp=>?_,λhp=>?_⟩
 rotate_left
 .simp[yS8,hp,jA]
 refine aA (oL r) ?_;cases h:xE r with
 |false=>simp -dsimp -implicitDefEqProofs [jA];simp[yS8,h]
 |true=>
 have f:=yF h;have hv:=aC.1 (show inRange r.ySh 0 1000000000=true from f.vol);have hpl:0<r.ySk.length:=zbf.2 hp;obtain⟨v,hv2⟩:∃v,r.ySk[0]?=some v:=⟨_,zab hpl⟩;have hva:=aC.1 (show inRange v 0 1000000000=true from f.amt v (zac hv2))
 have hfl:yS8 r=⟨r.ySg,r.ySh+v,r.ySk.tail++[0]⟩:=by
  have hg:r.ySk.getD 0 0=v:=by rw[zaf,hv2];rfl
  simp only[yS8,h,decide_eq_true hpl,zds,if_true,hg]
 have h12:=f.len;rw[hfl];refine yafw hv2 ?_;exact⟨hpl,by unfold inI;omega,by omega,λ_=>⟨by unfold inI;omega,by omega,by omega,by omega,jA.symm,(yXE r.ySk hpl).symm⟩⟩
def yVB(r:Reach)(hl:r.small):qB prg 198 [.agg (r.enc.map .c)] (.agg ((yS8 r).enc.map .c)):=by
 refine nI.pure (res:=.agg ((yS8 r).iD.map .c)) ?_ (Reach.yoT _);refine fF yWi (goQ_ ?_);refine yX3 (ypa r hl) (dP (Reach.aF r)) (goT_ ?_);refine aA (qN r) ?_;cases h:xE r with
 |false=>simp -dsimp -implicitDefEqProofs [jA];simp[yS8,h]
 |true=>
 have f:=yF h;have hv:=aC.1 (show inRange r.ySh 0 1000000000=true from f.vol);refine goQ_ ?_;intro hlen;refine⟨λhp=>?_,λhp=>?_⟩
 .simp[yS8,hp,jA]
 have hpl:0<r.ySk.length:=zbf.2 hp;obtain⟨v,hv2⟩:∃v,r.ySk[0]?=some v:=⟨_,zab hpl⟩;have hva:=aC.1 (show inRange v 0 1000000000=true from f.amt v (zac hv2))
 have hfl:yS8 r=⟨r.ySg,r.ySh+v,r.ySk.tail++[0]⟩:=by
  have hg:r.ySk.getD 0 0=v:=by rw[zaf,hv2];rfl
  simp only[yS8,h,decide_eq_true hpl,zds,if_true,hg]
 have h12:=f.len;rw[hfl];refine yafw hv2 ?_;refine⟨hpl,by unfold inI;omega,by omega,by omega,by omega,jA.symm,?_⟩;rw[List.take_of_length_le (by simp)]
def takeN(r:Reach)(a k:Int):Int:=
 let z:=if r.ySh-k<a then r.ySh-k else a
 if 0<z then z else 0
def ycj(r:Reach)(a k:Int):Bool:=xE r&&decide (0<=a)&&decide (0<=k)
def rG(r:Reach)(a k:Int):Reach×Int:=if ycj r a k then(⟨r.ySg,r.ySh-takeN r a k,r.ySk⟩,takeN r a k)else(r,0)
def yyl(r:Reach)(a k:Int)(hl:r.small):nI prg 181 [.agg (r.enc.map .c),.c (.i a),.c (.i k)] (.tup [.agg ((rG r a k).1.iD.map .c),.c (.i (rG r a k).2)]):=by
 refine yBL ytZ (by simp) λhwf=>?_;refine goQ_ ?_;refine yX3 (ye5 r hl) (dP (Reach.aF r)) (goT_ ?_);refine aA (oL r) ?_;cases h:xE r with
 |false=>
  refine goT_ ?_;have e:rG r a k=(r,0):=by simp[rG,ycj,h]
  rw[e];refine ycx ?_;simp[jA]
 |true=>
 have f:=yF h;have hv:=aC.1 (show inRange r.ySh 0 1000000000=true from f.vol);refine goQ_ ?_;refine⟨λha=>⟨λhk=>?_,λhk=>?_⟩,λha=>?_⟩
 .have e:rG r a k=(r,0):=by
   have:¬0<=k:=by omega
   simp[rG,ycj,this]
  rw[e];refine ycx ?_;simp[jA]
 .have e:rG r a k=(⟨r.ySg,r.ySh-takeN r a k,r.ySk⟩,takeN r a k):=by simp[rG,ycj,h,ha,hk]
  rw[e]
  have hk2:inI k:=by
   have:=hwf.2.2.1;simpa[AV.wf,AV.wf1,C.WF]using this
  unfold inI at hk2;have ht:takeN r a k=(if 0<(if r.ySh-k<a then r.ySh-k else a)then(if r.ySh-k<a then r.ySh-k else a)else 0):=rfl
  have htr:0<=takeN r a k/\takeN r a k<=1000000000:=by
   rw[ht];repeat' split
   all_goals omega
  rw[<-ht];refine⟨by unfold inI;omega,by unfold inI;omega,?_⟩;refine ycx ?_;simp[jA]
 .have e:rG r a k=(r,0):=by
   have:¬0<=a:=by omega
   simp[rG,ycj,this]
  rw[e];refine ycx ?_;simp[jA]
def yvU(r:Reach)(a k:Int)(hl:r.small):qB prg 181 [.agg (r.enc.map .c),.c (.i a),.c (.i k)] (.tup [.agg ((rG r a k).1.enc.map .c),.c (.i (rG r a k).2)]):=(yyl r a k hl).pure (by simp[AV.shr,AV.yEj,AV.yoE,dO,C.shr])
def ywp(r:Reach)(a k:Int)(hl:r.small):nI prg 195 [.agg (r.enc.map .c),.c (.i a),.c (.i k)] (.tup [.agg ((rG r a k).1.iD.map .c),.c (.i (rG r a k).2)]):=by
 refine yBL ytj (by simp) λhwf=>?_;refine goQ_ ?_;refine yX3 (ypa r hl) (dP (Reach.aF r)) (goT_ ?_);refine aA (qN r) ?_;cases h:xE r with
 |false=>
  refine goT_ ?_;have e:rG r a k=(r,0):=by simp[rG,ycj,h]
  rw[e];refine ycx ?_;simp[jA]
 |true=>
 have f:=yF h;have hv:=aC.1 (show inRange r.ySh 0 1000000000=true from f.vol);refine goQ_ ?_;refine⟨λha=>⟨λhk=>?_,λhk=>?_⟩,λha=>?_⟩
 .have e:rG r a k=(r,0):=by
   have:¬0<=k:=by omega
   simp[rG,ycj,this]
  rw[e];refine ycx ?_;simp[jA]
 .have e:rG r a k=(⟨r.ySg,r.ySh-takeN r a k,r.ySk⟩,takeN r a k):=by simp[rG,ycj,h,ha,hk]
  rw[e]
  have hk2:inI k:=by
   have:=hwf.2.2.1;simpa[AV.wf,AV.wf1,C.WF]using this
  unfold inI at hk2;have ht:takeN r a k=(if 0<(if r.ySh-k<a then r.ySh-k else a)then(if r.ySh-k<a then r.ySh-k else a)else 0):=rfl
  have htr:0<=takeN r a k/\takeN r a k<=1000000000:=by
   rw[ht];repeat' split
   all_goals omega
  rw[<-ht];refine⟨by unfold inI;omega,by unfold inI;omega,?_⟩;refine ycx ?_;simp[jA]
 .have e:rG r a k=(r,0):=by
   have:¬0<=a:=by omega
   simp[rG,ycj,this]
  rw[e];refine ycx ?_;simp[jA]
def yyN(r:Reach)(a k:Int)(hl:r.small):qB prg 195 [.agg (r.enc.map .c),.c (.i a),.c (.i k)] (.tup [.agg ((rG r a k).1.enc.map .c),.c (.i (rG r a k).2)]):=(ywp r a k hl).pure (by simp[AV.shr,AV.yEj,AV.yoE,dO,C.shr])
def yTr(a b:Reach)(q k:Int):Bool:=xE a&&xE b&&decide (0<=q)&&decide (0<=k)
def yUl(b:Reach)(q:Int):Int:=if rO b<q then rO b else q
def yTe(a b:Reach)(q k:Int):Reach×Reach×Int:=
 if yTr a b q k then((rG a (yUl b q) k).1,dU b (rG a (yUl b q) k).2,(rG a (yUl b q) k).2)else(a,b,0)
def yqt(e:Reach)(hl:Reach.small e):qB prg 249 [.agg (e.enc.map .c)] (.agg (e.enc.map .c)):=(ye5 e hl).pure (Reach.yoT _)
def yWT(a b:Reach)(q k:Int)(ha:a.small)(hb:b.small):qB prg 272 [.agg (a.enc.map .c),.agg (b.enc.map .c),.c (.i q),.c (.i k)] (.tup [.agg ((yTe a b q k).1.enc.map .c),.agg ((yTe a b q k).2.1.enc.map .c),.c (.i (yTe a b q k).2.2)]):=by
 refine dB yWm ?_;have no:yTr a b q k=false->yTe a b q k=(a,b,0):=λh=>by simp[yTe,h]
 refine goQ_ ?_;refine aA (oL a) ?_;cases h1:xE a with
 |false=>
  rw[no (by simp[yTr,h1])];refine goQ_ ?_;refine bI (yqt a ha) (goQ_ ?_);refine bI (yqt b hb) ?_;exact goE_
 |true=>
 refine goQ_ ?_;refine aA (oL b) ?_;cases h2:xE b with
 |false=>
  rw[no (by simp[yTr,h2])];refine goQ_ ?_;refine bI (yqt a ha) (goQ_ ?_);refine bI (yqt b hb) ?_;exact goE_
 |true=>
 refine goQ_ ?_;refine⟨λhq=>⟨λhk=>?_,λhk=>?_⟩,λhq=>?_⟩
 .have hk':¬0<=k:=by omega
  rw[no (by simp[yTr,hk'])];refine bI (yqt a ha) (goQ_ ?_);refine bI (yqt b hb) ?_;exact goE_
 .have hc:yTr a b q k=true:=by simp[yTr,h1,h2,hq,hk]
  have e:yTe a b q k=((rG a (yUl b q) k).1,dU b (rG a (yUl b q) k).2,(rG a (yUl b q) k).2):=by simp[yTe,hc]
  rw[e];refine ypC (yo3 b) (goQ_ ?_);have hT:=yvU a (yUl b q) k ha;unfold yUl at hT|-;refine bI hT ?_;generalize rG a (if rO b<q then rO b else q) k=r at *;refine goQ_ ?_;refine bI (yyV b r.2 hb) ?_;exact goE_
 .have hq':¬0<=q:=by omega
  rw[no (by simp[yTr,hq'])];refine bI (yqt a ha) (goQ_ ?_);refine bI (yqt b hb) ?_;exact goE_
def yWY(a b:Reach)(q k:Int)(ha:a.small)(hb:b.small):qB prg 302 [.agg (a.enc.map .c),.agg (b.enc.map .c),.c (.i q),.c (.i k)] (.tup [.agg ((yTe a b q k).1.enc.map .c),.agg ((yTe a b q k).2.1.enc.map .c),.c (.i (yTe a b q k).2.2)]):=by
 refine dB yWp ?_;have no:yTr a b q k=false->yTe a b q k=(a,b,0):=λh=>by simp[yTe,h]
 refine goQ_ ?_;refine aA (qN a) ?_;cases h1:xE a with
 |false=>
  rw[no (by simp[yTr,h1])];refine goQ_ ?_;refine bI (ypc a ha) (goQ_ ?_);refine bI (ypc b hb) ?_;exact goE_
 |true=>
 refine goQ_ ?_;refine aA (qN b) ?_;cases h2:xE b with
 |false=>
  rw[no (by simp[yTr,h2])];refine goQ_ ?_;refine bI (ypc a ha) (goQ_ ?_);refine bI (ypc b hb) ?_;exact goE_
 |true=>
 refine goQ_ ?_;refine⟨λhq=>⟨λhk=>?_,λhk=>?_⟩,λhq=>?_⟩
 .have hk':¬0<=k:=by omega
  rw[no (by simp[yTr,hk'])];refine bI (ypc a ha) (goQ_ ?_);refine bI (ypc b hb) ?_;exact goE_
 .have hc:yTr a b q k=true:=by simp[yTr,h1,h2,hq,hk]
  have e:yTe a b q k=((rG a (yUl b q) k).1,dU b (rG a (yUl b q) k).2,(rG a (yUl b q) k).2):=by simp[yTe,hc]
  rw[e];refine ypC (ynR b) (goQ_ ?_);have hT:=yyN a (yUl b q) k ha;unfold yUl at hT|-;refine bI hT ?_;generalize rG a (if rO b<q then rO b else q) k=r at *;refine goQ_ ?_;refine bI (yAK b r.2 hb) ?_;exact goE_
 .have hq':¬0<=q:=by omega
  rw[no (by simp[yTr,hq'])];refine bI (ypc a ha) (goQ_ ?_);refine bI (ypc b hb) ?_;exact goE_
def yTv:Nat->Nat
 |0=>0
 |m+1=>if(yTv m+1)*(yTv m+1)<=m+1 then yTv m+1 else yTv m
def yV1:∀m:Nat,yTv m*yTv m<=m/\m<(yTv m+1)*(yTv m+1)
 |0=>by simp[yTv]
 | m+1=>by
  have ih:=yV1 m;unfold yTv;split
  .rename_i h;refine⟨h,?_⟩
   have:(yTv m+1+1)*(yTv m+1+1)=(yTv m+1)*(yTv m+1)+2*(yTv m+1)+1:=by
    rw[zbp,Nat.mul_add];omega
   omega
  .omega
def yW6{m r:Nat}(h1:r*r<=m)(h2:m<(r+1)*(r+1)):yTv m=r:=by
 obtain⟨a,b⟩:=yV1 m;rcases zcs (yTv m) r with h|h|h
 .have:(yTv m+1)*(yTv m+1)<=r*r:=zcN h h;omega
 .exact h
 .have:(r+1)*(r+1)<=yTv m*yTv m:=zcN h h;omega
def yTm(n:Int):Int:=if 0<=n/\n<=1000000000000000000 then yTv n.toNat else -1
def yW7(n:Int):qB prg 303 [.c (.i n)] (.c (.i (yTm n))):=by
 refine dB yWf (goQ_ ?_);refine aA (bC n 0 1000000000000000000) ?_;cases hin:inRange n 0 1000000000000000000 with
 |false=>
  refine goQ_ ?_;have:¬(0<=n/\n<=1000000000000000000):=λh=>by rw[aC.2 h]at hin;cases hin
  simp only[yTm,if_neg this]
 |true=>
 have hr:=aC.1 hin;refine goQ_ ?_;refine qA (ι:=Nat×Nat) (λp=>p.1<p.2/\p.2<=1000000001/\p.1*p.1<=n.toNat/\n.toNat<p.2*p.2) (λp=>xC [(0,.c (.i n)),(3,.c (.i p.1)),(4,.c (.i p.2))] []) (λp=>p.2-p.1) (0,1000000001) (by simp;omega) (by apply aB<;>simp) ?_
 rintro⟨lo,hi⟩ ⟨h1,h2,h3,h4⟩
 simp only at h1 h2 h3 h4;refine goQ_ ?_;refine⟨by unfold inI;omega,λhg=>?_,λhg=>?_⟩
 .obtain⟨m,hm⟩:∃m,m=(lo+hi)/2:=⟨_,rfl⟩;have em:((lo:Int)+hi).tdiv 2=(m:Int):=by rw[zaz (by omega)];omega
  have hmm:(m:Int)*m=((m*m:Nat):Int):=(Int.natCast_mul m m).symm;have hb:m*m<=1000000000*1000000000:=zcN (by omega) (by omega);rw[em,hmm];refine⟨by unfold inI;omega,by unfold inI;omega,by unfold inI;omega,λhc=>?_,λhc=>?_⟩
  .refine⟨m,hi,⟨by omega,h2,by omega,h4⟩,by omega,?_⟩;apply aB<;>simp
  .refine⟨lo,m,⟨by omega,by omega,h3,by omega⟩,by omega,?_⟩;apply aB<;>simp
 .have:hi=lo+1:=by omega
  subst this;simp only[yTm,if_pos hr];rw[yW6 h3 h4]
def yW3(n:Int):qB prg 273 [.c (.i n)] (.c (.i (yTm n))):=by
 refine dB yWq (goQ_ ?_);refine⟨λh0=>⟨λh1=>?_,λh1=>?_⟩,λh0=>?_⟩
 .have:¬(0<=n/\n<=1000000000000000000):=by omega
  simp only[yTm,if_neg this]
 rotate_left
 .have:¬(0<=n/\n<=1000000000000000000):=by omega
  simp only[yTm,if_neg this]
 have hr:0<=n/\n<=1000000000000000000:=by omega
 refine qA (ι:=Nat×Nat) (λp=>p.1<=p.2/\p.2<=1000000000/\p.1*p.1<=n.toNat/\n.toNat<(p.2+1)*(p.2+1)) (λp=>xC [(0,.c (.i n)),(3,.c (.i p.1)),(4,.c (.i p.2))] []) (λp=>p.2-p.1) (0,1000000000) (by simp;omega) (by apply aB<;>simp) ?_
 rintro⟨lo,hi⟩ ⟨h1,h2,h3,h4⟩
 simp only at h1 h2 h3 h4;refine goQ_ ?_;refine⟨λhg=>?_,λhg=>?_⟩
 .obtain⟨m,hm⟩:∃m,m=(lo+hi+1)/2:=⟨_,rfl⟩;have em:((lo:Int)+hi+1).tdiv 2=(m:Int):=by rw[zaz (by omega)];omega
  have hmm:(m:Int)*m=((m*m:Nat):Int):=(Int.natCast_mul m m).symm;have hb:m*m<=1000000000*1000000000:=zcN (by omega) (by omega);rw[em,hmm];refine⟨by unfold inI;omega,by unfold inI;omega,by unfold inI;omega,by unfold inI;omega,λhc=>?_,λhc=>?_⟩
  .have h4i:n<((hi:Int)+1)*(hi+1):=by
    have:((hi:Int)+1)*(hi+1)=(((hi+1)*(hi+1):Nat):Int):=by simp
    omega
   refine⟨m,hi,⟨by omega,h2,by omega,h4i⟩,by omega,?_⟩;apply aB<;>simp
  .refine⟨by unfold inI;omega,lo,m-1,⟨by omega,by omega,by omega,by rw[show((m-1:Nat):Int)+1=m by omega,hmm];omega⟩,by omega,?_⟩;apply aB<;>simp<;>omega
 .have:hi=lo:=by omega
  subst this;simp only[yTm,if_pos hr];rw[yW6 h3 h4]
def yyJ{a b A B:Int}(ha:0<=a/\a<=A)(hb:0<=b/\b<=B):0<=a*b/\a*b<=A*B:=
 ⟨zcw ha.1 hb.1,zcO ha.2 hb.2 hb.1 (by omega)⟩
def lev(x:Int):Bool:=inRange x 0 100000
structure yXD(w:ySp):Prop where
 gts:1<=w.ySu/\w.ySu<=8
 opn:0<=w.Open/\w.Open<=10*w.ySu
 stp:1<=w.Step/\w.Step<=80
 crs:0<=w.ySy/\w.ySy<=100000
 wid:1<=w.Width/\w.Width<=1000
def yTI{w:ySp}(h:iZ w=true):yXD w:=by
 simp only[iZ,zad]at h;obtain⟨⟨⟨⟨h1,h2⟩,h3⟩,h4⟩,h5⟩:=h;exact⟨aC.1 h1,aC.1 h2,aC.1 h3,aC.1 h4,aC.1 h5⟩
structure yXA(r:Rule):Prop where
 low:0<=r.Low/\r.Low<=100000
 hig:0<=r.High/\r.High<=100000
 fld:0<=r.ySx/\r.ySx<=100000
 lh:r.Low<r.High
 hf:r.High<=r.ySx
def yWt{r:Rule}(h:ya3 r=true):yXA r:=by
 simp only[ya3,zad,decide_eq_true_eq]at h;obtain⟨⟨⟨⟨h1,h2⟩,h3⟩,h4⟩,h5⟩:=h;exact⟨aC.1 h1,aC.1 h2,aC.1 h3,h4,h5⟩
def yXx{n:Int}(h:n<=1000000): -1<=yTm n/\yTm n<=1000:=by
 unfold yTm;split
 .rename_i h2;obtain⟨a,b⟩:=yV1 n.toNat;refine⟨by omega,?_⟩;rcases zaq 1000 (yTv n.toNat)with e|e
  .have:1001*1001<=yTv n.toNat*yTv n.toNat:=zcN e e;omega
  .omega
 .omega
def yWb{n:Int}(h0:0<=n)(h:n<=1000000):0<=yTm n/\yTm n<=1000:=by
 refine⟨?_,(yXx h).2⟩;unfold yTm;rw[if_pos ⟨h0,by omega⟩];omega
def yTk(w:ySp)(up down:Int):Int:=up-(if w.ySy<down then down else w.ySy)
def yTV(w:ySp)(up down:Int):Bool:=iZ w&&lev up&&lev down&&decide (0<yTk w up down)
def yS1(w:ySp)(up down:Int):Int:=if yTV w up down then(w.Open*w.Width*yTm (yTk w up down)).tdiv 10 else 0
def yWe(w:ySp)(o:Int):Int:=
 let z:=if w.Open+w.Step<o then w.Open+w.Step else o
 if z<w.Open-w.Step then w.Open-w.Step else z
@[simp] def ySp.opened(w:ySp)(o:Int):ySp:=⟨w.ySu,o,w.Step,w.ySy,w.Width⟩
def yTf(w:ySp)(o:Int):ySp:=if iZ w&&inRange o 0 (10*w.ySu)then w.opened (yWe w o)else w
def yTQ(w:ySp)(up down q:Int):Nat->Int->Int
 |0,o=>o
 |m+1,o=>if q<=yS1 (w.opened o) up down then o else yTQ w up down q m (o+1)
def yTu(w:ySp)(up down q:Int):Int:=if iZ w&&lev up&&lev down then yTQ w up down q (10*w.ySu).toNat 0 else 0
def yWs{w:ySp}{up down q:Int}{k n:Nat}(h:k<=n)(hg:q<=yS1 (w.opened k) up down):yTQ w up down q (n-k) k=k:=by
 cases hm:n-k with
 |zero=>rfl
 |succ m=>rw[yTQ,if_pos hg]
def yW2{w:ySp}{up down q:Int}{k n:Nat}(h:k<n)(hg:yS1 (w.opened k) up down<q):yTQ w up down q (n-(k+1)) ((k+1:Nat):Int)=yTQ w up down q (n-k) k:=by
 rw[show n-k=(n-(k+1))+1 by omega,yTQ,if_neg (by omega)];rfl
def wants(r:Rule)(l q:Int):Bool:=ya3 r&&inRange q 0 1000000000&&lev l&&decide (r.Low<l)
def yS5(r:Rule)(l q:Int):Int:=
 if wants r l q then(if 2*q<(q*(l-r.Low)).tdiv (r.High-r.Low)then 2*q else(q*(l-r.Low)).tdiv (r.High-r.Low))else 0
def yTa(w:ySp)(r:Rule)(up down q:Int):Bool:=iZ w&&ya3 r&&inRange q 0 1000000000&&lev up&&lev down
def yS9(w:ySp)(r:Rule)(up down q:Int):ySp:=
 if yTa w r up down q then(if r.ySx<=up then yTf w (10*w.ySu)else yTf w (yTu w up down (yS5 r up q)))else w
def ySZ(a b:Reach)(w:ySp):Reach×Reach×Int:=
 if xE a&&xE b&&iZ w then yTe a b (yS1 w (kD a) (kD b)) (fH a.ySg w.ySy)else(a,b,0)
def yUb(w:ySp)(up down:Int):qB prg 180 [.agg (w.enc.map .c),.c (.i up),.c (.i down)] (.c (.i (yS1 w up down))):=by
 refine dB yVL ?_;have no:yTV w up down=false->yS1 w up down=0:=λh=>by simp[yS1,h]
 refine goQ_ ?_;refine aA (yBa w) ?_;cases h1:iZ w with
 |false=>refine goQ_ ?_;exact no (by simp[yTV,h1])
 |true=>
 refine goQ_ ?_;refine aA (iC up 0 100000) ?_;cases h2:inRange up 0 100000 with
 |false=>refine goQ_ ?_;exact no (by simp[yTV,lev,h2])
 |true=>
 refine goQ_ ?_;refine aA (iC down 0 100000) ?_;cases h3:inRange down 0 100000 with
 |false=>refine goQ_ ?_;exact no (by simp[yTV,lev,h3])
 |true=>
 have f:=yTI h1;have f1:=f.gts;have f2:=f.opn;have f3:=f.wid;have f4:=f.crs;have u:=aC.1 h2;have d:=aC.1 h3;refine goQ_ ?_;have hh:yTk w up down=up-(if w.ySy<down then down else w.ySy):=rfl;have hd: -100000<=yTk w up down/\yTk w up down<=100000:=by rw[hh];split<;>omega
 rw[<-hh];generalize(if w.ySy<down then down else w.ySy)=c at *;refine⟨by unfold inI;omega,?_⟩
 by_cases h4:yTk w up down<=0
 .have no2:=no (by simp[yTV];omega);refine⟨λh5=>?_,λh5=>?_⟩<;>first|exact no2|omega
 .have m1:=yyJ (a:=w.Open) (b:=w.Width) (A:=80) (B:=1000) (by omega) (by omega);have r1:=yWb (n:=yTk w up down) (by omega) (by omega);have m2:=yyJ (a:=w.Open*w.Width) (b:=yTm (yTk w up down)) (A:=80000) (B:=1000) (by omega) r1
  have m3:0<=(w.Open*w.Width*yTm (yTk w up down)).tdiv 10/\(w.Open*w.Width*yTm (yTk w up down)).tdiv 10<=8000000:=by
   rw[zaz m2.1];omega
  have yes:yS1 w up down=(w.Open*w.Width*yTm (yTk w up down)).tdiv 10:=by
   have:yTV w up down=true:=by simp[yTV,lev,h1,h2,h3];omega
   simp[yS1,this]
  refine⟨λh5=>(by omega),λh5=>?_⟩;refine⟨by unfold inI;omega,?_⟩;refine lC (yW3 (yTk w up down)) (goQ_ ?_);exact⟨by unfold inI;omega,by unfold inI;omega,yes⟩
def yUe(w:ySp)(up down:Int):qB prg 196 [.agg (w.enc.map .c),.c (.i up),.c (.i down)] (.c (.i (yS1 w up down))):=by
 refine dB yVJ ?_;have no:yTV w up down=false->yS1 w up down=0:=λh=>by simp[yS1,h]
 refine goQ_ ?_;refine aA (yAj w) ?_;cases h1:iZ w with
 |false=>refine goQ_ ?_;exact no (by simp[yTV,h1])
 |true=>
 refine goQ_ ?_;refine aA (yaJ up) ?_;cases h2:inRange up 0 100000 with
 |false=>refine goQ_ ?_;exact no (by simp[yTV,lev,h2])
 |true=>
 refine goQ_ ?_;refine aA (yaJ down) ?_;cases h3:inRange down 0 100000 with
 |false=>refine goQ_ ?_;exact no (by simp[yTV,lev,h3])
 |true=>
 have f:=yTI h1;have f1:=f.gts;have f2:=f.opn;have f3:=f.wid;have f4:=f.crs;have u:=aC.1 h2;have d:=aC.1 h3;refine goQ_ ?_;have hh:yTk w up down=up-(if w.ySy<down then down else w.ySy):=rfl;have hd: -100000<=yTk w up down/\yTk w up down<=100000:=by rw[hh];split<;>omega
 rw[<-hh];generalize(if w.ySy<down then down else w.ySy)=c at *;refine⟨by unfold inI;omega,?_⟩
 by_cases h4:yTk w up down<=0
 .have no2:=no (by simp[yTV];omega);refine⟨λh5=>?_,λh5=>?_⟩<;>first|exact no2|omega
 .have m1:=yyJ (a:=w.Open) (b:=w.Width) (A:=80) (B:=1000) (by omega) (by omega);have r1:=yWb (n:=yTk w up down) (by omega) (by omega);have m2:=yyJ (a:=w.Open*w.Width) (b:=yTm (yTk w up down)) (A:=80000) (B:=1000) (by omega) r1
  have m3:0<=(w.Open*w.Width*yTm (yTk w up down)).tdiv 10/\(w.Open*w.Width*yTm (yTk w up down)).tdiv 10<=8000000:=by
   rw[zaz m2.1];omega
  have yes:yS1 w up down=(w.Open*w.Width*yTm (yTk w up down)).tdiv 10:=by
   have:yTV w up down=true:=by simp[yTV,lev,h1,h2,h3];omega
   simp[yS1,this]
  refine⟨λh5=>(by omega),λh5=>?_⟩;refine⟨by unfold inI;omega,?_⟩;refine lC (yW7 (yTk w up down)) (goQ_ ?_);exact⟨by unfold inI;omega,by unfold inI;omega,yes⟩
def yXl(n a b:Int):qB prg 353 [.c (.i n),.c (.i a),.c (.i b)] (.c (.i (if b<a\/n<a then a else if b<n then b else n))):=by
 refine dB yWG (goQ_ ?_);refine⟨λh1=>⟨λh2 h3 h4=>by omega,λh2=>⟨λh3=>?_,λh3=>?_⟩⟩,λh1 h2 h3=>by omega⟩
 .rw[if_neg (by omega),if_pos h3]
 .rw[if_neg (by omega),if_neg (by omega)]
def yUY(w:ySp)(o:Int):qB prg 268 [.agg (w.enc.map .c),.c (.i o)] (.agg ((yTf w o).enc.map .c)):=by
 refine dB yVK ?_;have no:(iZ w&&inRange o 0 (10*w.ySu))=false->yTf w o=w:=λh=>by simp[yTf,h]
 refine goQ_ ?_;refine aA (yBa w) ?_;cases h1:iZ w with
 |false=>simp -dsimp -implicitDefEqProofs;simp[no (by simp[h1])]
 |true=>
 have f:=yTI h1;have f1:=f.gts;have f2:=f.opn;have f3:=f.stp;refine goQ_ ?_;refine⟨by unfold inI;omega,?_⟩;refine aA (iC o 0 (10*w.ySu)) ?_;cases h2:inRange o 0 (10*w.ySu)with
 |false=>simp -dsimp -implicitDefEqProofs;simp[no (by simp[h2])]
 |true=>
 have u:=aC.1 h2;have yes:yTf w o=w.opened (yWe w o):=by simp[yTf,h1,h2]
 rw[yes];refine goQ_ ?_;refine⟨by unfold inI;omega,by unfold inI;omega,?_⟩;refine aA (yXl o (w.Open-w.Step) (w.Open+w.Step)) (goQ_ ?_);unfold yWe;simp only
 repeat' split
 all_goals omega
def yU1(w:ySp)(o:Int):qB prg 298 [.agg (w.enc.map .c),.c (.i o)] (.agg ((yTf w o).enc.map .c)):=by
 refine dB yVO ?_;have no:(iZ w&&inRange o 0 (10*w.ySu))=false->yTf w o=w:=λh=>by simp[yTf,h]
 refine goQ_ ?_;refine aA (yAj w) ?_;cases h1:iZ w with
 |false=>simp -dsimp -implicitDefEqProofs;simp[no (by simp[h1])]
 |true=>
 have f:=yTI h1;have f1:=f.gts;have f2:=f.opn;have f3:=f.stp;refine goQ_ ?_;refine⟨by unfold inI;omega,?_⟩;refine aA (bC o 0 (10*w.ySu)) ?_;cases h2:inRange o 0 (10*w.ySu)with
 |false=>simp -dsimp -implicitDefEqProofs;simp[no (by simp[h2])]
 |true=>
 have u:=aC.1 h2;have yes:yTf w o=w.opened (yWe w o):=by simp[yTf,h1,h2]
 rw[yes];refine goQ_ ?_;refine⟨by unfold inI;omega,by unfold inI;omega,?_⟩;unfold yWe;simp only
 repeat' split
 all_goals omega
def yWJ(w:ySp)(up down q:Int):qB prg 269 [.agg (w.enc.map .c),.c (.i up),.c (.i down),.c (.i q)] (.c (.i (yTu w up down q))):=by
 refine dB yVZ ?_;have no:(iZ w&&lev up&&lev down)=false->yTu w up down q=0:=λh=>by simp[yTu,h]
 refine goQ_ ?_;refine aA (yBa w) ?_;cases h1:iZ w with
 |false=>refine goQ_ ?_;exact no (by simp[h1])
 |true=>
 refine goQ_ ?_;refine aA (iC up 0 100000) ?_;cases h2:inRange up 0 100000 with
 |false=>refine goQ_ ?_;exact no (by simp[lev,h2])
 |true=>
 refine goQ_ ?_;refine aA (iC down 0 100000) ?_;cases h3:inRange down 0 100000 with
 |false=>refine goQ_ ?_;exact no (by simp[lev,h3])
 |true=>
 have f:=yTI h1;have f1:=f.gts;have f2:=f.opn;have f3:=f.stp;obtain⟨n,hn⟩:∃n:Nat,n=(10*w.ySu).toNat:=⟨_,rfl⟩;have hn2:10*w.ySu=(n:Int):=by omega
 have yes:yTu w up down q=yTQ w up down q n 0:=by rw[hn];simp[yTu,h1,h2,h3,lev]
 rw[yes];refine goQ_ ?_;rw[hn2];refine⟨by unfold inI;omega,?_⟩;refine qA (ι:=Nat×Int) (λz=>z.1<=n+1/\(z.1<=n->yTQ w up down q (n-z.1) z.1=yTQ w up down q n 0)/\(n<z.1->yTQ w up down q n 0=n)) (λz=>xC [(1,.c (.i up)),(2,.c (.i down)),(3,.c (.i q)),(4,.box 4 0),(8,.c (.i 0)),(9,.c (.i n)),(10,.c (.i z.1))] [(4,.box [.c (.i w.ySu),.c (.i z.2),.c (.i w.Step),.c (.i w.ySy),.c (.i w.Width)])]) (λz=>n+1-z.1) (0,w.Open) ⟨by simp,by simp,by simp⟩ (by apply aB<;>simp[Obj.leO]) ?_
 rintro⟨k,o⟩ ⟨h0,hk,he⟩
 simp only at h0 hk he;rcases zaq n k with hlt|hge
 .have q1:((k:Int)<=(n:Int))=False:=by simp;omega
  have q2:(k<=n)=False:=by simp;omega
  refine yaed q1 q2 ?_;exact(he hlt)
 .have q1:((k:Int)<=(n:Int))=True:=by simp;omega
  have q2:(k<=n)=True:=by simp;omega
  refine yaed q1 q2 ?_;refine aA (yUb (w.opened k) up down) (goQ_ ?_);have hok:=hk hge;refine⟨λhg=>?_,λhg=>?_⟩
  .rw[<-hok,yWs hge hg]
  .refine⟨by unfold inI;omega,k+1,⟨by omega,λh=>by rw[yW2 (by omega) hg,hok],λh=>?_⟩,by omega,k,?_⟩
   .rw[<-hok,show k=n by omega];simp[yTQ]
   .apply aB<;>simp[Obj.leO]
def yWx(w:ySp)(up down q:Int):qB prg 299 [.agg (w.enc.map .c),.c (.i up),.c (.i down),.c (.i q)] (.c (.i (yTu w up down q))):=by
 refine dB yWa ?_;have no:(iZ w&&lev up&&lev down)=false->yTu w up down q=0:=λh=>by simp[yTu,h]
 refine goQ_ ?_;refine aA (yAj w) ?_;cases h1:iZ w with
 |false=>refine goQ_ ?_;exact no (by simp[h1])
 |true=>
 refine goQ_ ?_;refine aA (yaJ up) ?_;cases h2:inRange up 0 100000 with
 |false=>refine goQ_ ?_;exact no (by simp[lev,h2])
 |true=>
 refine goQ_ ?_;refine aA (yaJ down) ?_;cases h3:inRange down 0 100000 with
 |false=>refine goQ_ ?_;exact no (by simp[lev,h3])
 |true=>
 have f:=yTI h1;have f1:=f.gts;have f2:=f.opn;have f3:=f.stp;obtain⟨n,hn⟩:∃n:Nat,n=(10*w.ySu).toNat:=⟨_,rfl⟩;have hn2:10*w.ySu=(n:Int):=by omega
 have yes:yTu w up down q=yTQ w up down q n 0:=by rw[hn];simp[yTu,h1,h2,h3,lev]
 rw[yes];refine goQ_ ?_;refine qA (ι:=Nat×Int) (λz=>z.1<=n/\yTQ w up down q (n-z.1) z.1=yTQ w up down q n 0) (λz=>xC [(1,.c (.i up)),(2,.c (.i down)),(3,.c (.i q)),(4,.box 4 0),(8,.c (.i 0)),(9,.c (.i z.1))] [(4,.box [.c (.i w.ySu),.c (.i z.2),.c (.i w.Step),.c (.i w.ySy),.c (.i w.Width)])]) (λz=>n-z.1) (0,w.Open) ⟨by simp,by simp⟩ (by apply aB<;>simp[Obj.leO]) ?_
 rintro⟨k,o⟩ ⟨h0,hk⟩
 simp only at h0 hk;rcases zaq k n with hlt|hge
 .have q1:((k:Int)<(n:Int))=True:=by simp;omega
  refine yaeT hn2 q1 hlt ?_;refine⟨by unfold inI;omega,?_⟩;refine aA (yUe (w.opened k) up down) (goQ_ ?_);refine⟨λhg=>?_,λhg=>?_⟩
  .rw[<-hk,yWs h0 hg]
  .refine⟨by unfold inI;omega,k+1,⟨by omega,by rw[yW2 hlt hg,hk]⟩,by omega,k,?_⟩;apply aB<;>simp[Obj.leO]
 .have q1:((k:Int)<(n:Int))=False:=by simp;omega
  have q2:(k<n)=False:=by simp;omega
  refine yaeT hn2 q1 q2 ?_;refine⟨by unfold inI;omega,?_⟩;rw[<-hk,show k=n by omega];simp[yTQ]
def yVH(r:Rule)(l q:Int):qB prg 270 [.agg (r.enc.map .c),.c (.i l),.c (.i q)] (.c (.i (yS5 r l q))):=by
 refine dB yVg ?_;have no:wants r l q=false->yS5 r l q=0:=λh=>by simp[yS5,h]
 refine goQ_ ?_;refine aA (yAx r) ?_;cases h1:ya3 r with
 |false=>refine goQ_ ?_;exact no (by simp[wants,h1])
 |true=>
 refine goQ_ ?_;refine aA (iC q 0 1000000000) ?_;cases h2:inRange q 0 1000000000 with
 |false=>refine goQ_ ?_;exact no (by simp[wants,h2])
 |true=>
 refine goQ_ ?_;refine aA (iC l 0 100000) ?_;cases h3:inRange l 0 100000 with
 |false=>refine goQ_ ?_;exact no (by simp[wants,lev,h3])
 |true=>
 have f:=yWt h1;have f1:=f.low;have f2:=f.hig;have f3:=f.lh;have u:=aC.1 h2;have d:=aC.1 h3
 by_cases h4:l<=r.Low
 .refine yafw h4 ?_;exact no (by simp[wants];omega)
 have h4':=zdU.1 h4
 have yes:yS5 r l q=if 2*q<(q*(l-r.Low)).tdiv (r.High-r.Low)then 2*q else(q*(l-r.Low)).tdiv (r.High-r.Low):=by
  have:wants r l q=true:=by simp[wants,lev,h1,h2,h3,h4']
  simp[yS5,this]
 have m1:=yyJ (a:=q) (b:=l-r.Low) (A:=1000000000) (B:=100000) (by omega) (by omega)
 have m2:0<=(q*(l-r.Low)).tdiv (r.High-r.Low)/\(q*(l-r.Low)).tdiv (r.High-r.Low)<=100000000000000:=by
  rw[zaz m1.1];refine⟨zcr m1.1 (by omega),zdY (zco _ m1.1) (by omega)⟩
 rw[yes];refine yaed h4 h4' ?_;exact⟨by unfold inI;omega,by unfold inI;omega,by unfold inI;omega,by omega,by unfold inI;omega,by unfold inI;omega⟩
def yVI(r:Rule)(l q:Int):qB prg 300 [.agg (r.enc.map .c),.c (.i l),.c (.i q)] (.c (.i (yS5 r l q))):=by
 refine dB yVm ?_;have no:wants r l q=false->yS5 r l q=0:=λh=>by simp[yS5,h]
 refine goQ_ ?_;refine aA (yzE r) ?_;cases h1:ya3 r with
 |false=>refine goQ_ ?_;exact no (by simp[wants,h1])
 |true=>
 refine goQ_ ?_;refine aA (bC q 0 1000000000) ?_;cases h2:inRange q 0 1000000000 with
 |false=>refine goQ_ ?_;exact no (by simp[wants,h2])
 |true=>
 refine goQ_ ?_;refine aA (yaJ l) ?_;cases h3:inRange l 0 100000 with
 |false=>refine goQ_ ?_;exact no (by simp[wants,lev,h3])
 |true=>
 have f:=yWt h1;have f1:=f.low;have f2:=f.hig;have f3:=f.lh;have u:=aC.1 h2;have d:=aC.1 h3
 by_cases h4:l<=r.Low
 .refine yafw h4 ?_;exact no (by simp[wants];omega)
 have h4':=zdU.1 h4
 have yes:yS5 r l q=if 2*q<(q*(l-r.Low)).tdiv (r.High-r.Low)then 2*q else(q*(l-r.Low)).tdiv (r.High-r.Low):=by
  have:wants r l q=true:=by simp[wants,lev,h1,h2,h3,h4']
  simp[yS5,this]
 have m1:=yyJ (a:=q) (b:=l-r.Low) (A:=1000000000) (B:=100000) (by omega) (by omega)
 have m2:0<=(q*(l-r.Low)).tdiv (r.High-r.Low)/\(q*(l-r.Low)).tdiv (r.High-r.Low)<=100000000000000:=by
  rw[zaz m1.1];refine⟨zcr m1.1 (by omega),zdY (zco _ m1.1) (by omega)⟩
 rw[yes];refine yaed h4 h4' ?_;refine⟨by unfold inI;omega,by unfold inI;omega,by unfold inI;omega,by unfold inI;omega,by omega,by unfold inI;omega,?_⟩
 repeat' split
 all_goals omega
def yVT(w:ySp)(r:Rule)(up down q:Int):qB prg 177 [.agg (w.enc.map .c),.agg (r.enc.map .c),.c (.i up),.c (.i down),.c (.i q)] (.agg ((yS9 w r up down q).enc.map .c)):=by
 refine dB yVx ?_;have no:yTa w r up down q=false->yS9 w r up down q=w:=λh=>by simp[yS9,h]
 refine goQ_ ?_;refine aA (yBa w) ?_;cases h1:iZ w with
 |false=>simp -dsimp -implicitDefEqProofs;simp[no (by simp[yTa,h1])]
 |true=>
 refine goQ_ ?_;refine aA (yAx r) ?_;cases h2:ya3 r with
 |false=>simp -dsimp -implicitDefEqProofs;simp[no (by simp[yTa,h2])]
 |true=>
 refine goQ_ ?_;refine aA (iC q 0 1000000000) ?_;cases h3:inRange q 0 1000000000 with
 |false=>simp -dsimp -implicitDefEqProofs;simp[no (by simp[yTa,h3])]
 |true=>
 refine goQ_ ?_;refine aA (iC up 0 100000) ?_;cases h4:inRange up 0 100000 with
 |false=>simp -dsimp -implicitDefEqProofs;simp[no (by simp[yTa,lev,h4])]
 |true=>
 refine goQ_ ?_;refine aA (iC down 0 100000) ?_;cases h5:inRange down 0 100000 with
 |false=>simp -dsimp -implicitDefEqProofs;simp[no (by simp[yTa,lev,h5])]
 |true=>
 have f:=yTI h1;have f1:=f.gts;have hc:yTa w r up down q=true:=by simp[yTa,lev,h1,h2,h3,h4,h5]
 by_cases h6:r.ySx<=up
 .have yes:yS9 w r up down q=yTf w (10*w.ySu):=by simp[yS9,hc,h6]
  rw[yes];refine yafw h6 ?_;refine⟨by unfold inI;omega,?_⟩;refine aA (yUY w (10*w.ySu)) ?_;exact goE_
 .have yes:yS9 w r up down q=yTf w (yTu w up down (yS5 r up q)):=by simp[yS9,hc,h6]
  rw[yes];refine yafw h6 ?_;refine ypC (yVH r up q) (goQ_ ?_);refine ypC (yWJ w up down (yS5 r up q)) (goQ_ ?_);refine ypC (yUY w (yTu w up down (yS5 r up q))) ?_;exact goE_
def yV6(w:ySp)(r:Rule)(up down q:Int):qB prg 192 [.agg (w.enc.map .c),.agg (r.enc.map .c),.c (.i up),.c (.i down),.c (.i q)] (.agg ((yS9 w r up down q).enc.map .c)):=by
 refine dB yVt ?_;have no:yTa w r up down q=false->yS9 w r up down q=w:=λh=>by simp[yS9,h]
 refine goQ_ ?_;refine aA (yAj w) ?_;cases h1:iZ w with
 |false=>simp -dsimp -implicitDefEqProofs;simp[no (by simp[yTa,h1])]
 |true=>
 refine goQ_ ?_;refine aA (yzE r) ?_;cases h2:ya3 r with
 |false=>simp -dsimp -implicitDefEqProofs;simp[no (by simp[yTa,h2])]
 |true=>
 refine goQ_ ?_;refine aA (bC q 0 1000000000) ?_;cases h3:inRange q 0 1000000000 with
 |false=>simp -dsimp -implicitDefEqProofs;simp[no (by simp[yTa,h3])]
 |true=>
 refine goQ_ ?_;refine aA (yaJ up) ?_;cases h4:inRange up 0 100000 with
 |false=>simp -dsimp -implicitDefEqProofs;simp[no (by simp[yTa,lev,h4])]
 |true=>
 refine goQ_ ?_;refine aA (yaJ down) ?_;cases h5:inRange down 0 100000 with
 |false=>simp -dsimp -implicitDefEqProofs;simp[no (by simp[yTa,lev,h5])]
 |true=>
 have f:=yTI h1;have f1:=f.gts;have hc:yTa w r up down q=true:=by simp[yTa,lev,h1,h2,h3,h4,h5]
 by_cases h6:r.ySx<=up
 .have yes:yS9 w r up down q=yTf w (10*w.ySu):=by simp[yS9,hc,h6]
  rw[yes];refine yafw h6 ?_;refine⟨by unfold inI;omega,?_⟩;refine aA (yU1 w (10*w.ySu)) ?_;exact goE_
 .have yes:yS9 w r up down q=yTf w (yTu w up down (yS5 r up q)):=by simp[yS9,hc,h6]
  rw[yes];refine yafw h6 ?_;refine ypC (yVI r up q) (goQ_ ?_);refine ypC (yWx w up down (yS5 r up q)) (goQ_ ?_);refine ypC (yU1 w (yTu w up down (yS5 r up q))) ?_;exact goE_
def yVM(a b:Reach)(w:ySp)(ha:a.small)(hb:b.small):qB prg 179 [.agg (a.enc.map .c),.agg (b.enc.map .c),.agg (w.enc.map .c)] (.tup [.agg ((ySZ a b w).1.enc.map .c),.agg ((ySZ a b w).2.1.enc.map .c),.c (.i (ySZ a b w).2.2)]):=by
 refine dB yVl ?_;have no:(xE a&&xE b&&iZ w)=false->ySZ a b w=(a,b,0):=λh=>by simp[ySZ,h]
 refine goQ_ ?_;refine aA (oL a) ?_;cases h1:xE a with
 |false=>
  rw[no (by simp[h1])];refine goQ_ ?_;refine bI (yqt a ha) (goQ_ ?_);refine bI (yqt b hb) ?_;exact goE_
 |true=>
 refine goQ_ ?_;refine aA (oL b) ?_;cases h2:xE b with
 |false=>
  rw[no (by simp[h2])];refine goQ_ ?_;refine bI (yqt a ha) (goQ_ ?_);refine bI (yqt b hb) ?_;exact goE_
 |true=>
 refine goQ_ ?_;refine aA (yBa w) ?_;cases h3:iZ w with
 |false=>
  rw[no (by simp[h3])];refine goQ_ ?_;refine bI (yqt a ha) (goQ_ ?_);refine bI (yqt b hb) ?_;exact goE_
 |true=>
 have yes:ySZ a b w=yTe a b (yS1 w (kD a) (kD b)) (fH a.ySg w.ySy):=by simp[ySZ,h1,h2,h3]
 rw[yes];refine goQ_ ?_;refine lC (qL a) (goQ_ ?_);refine lC (qL b) (goQ_ ?_);refine lC (yUb w (kD a) (kD b)) (goQ_ ?_);refine ypC (yxT a.ySg w.ySy) (goQ_ ?_);have hP:=yWT a b (yS1 w (kD a) (kD b)) (fH a.ySg w.ySy) ha hb;refine bI hP ?_;generalize yTe a b (yS1 w (kD a) (kD b)) (fH a.ySg w.ySy)=z at *;exact goE_
def yVN(a b:Reach)(w:ySp)(ha:a.small)(hb:b.small):qB prg 194 [.agg (a.enc.map .c),.agg (b.enc.map .c),.agg (w.enc.map .c)] (.tup [.agg ((ySZ a b w).1.enc.map .c),.agg ((ySZ a b w).2.1.enc.map .c),.c (.i (ySZ a b w).2.2)]):=by
 refine dB yVj ?_;have no:(xE a&&xE b&&iZ w)=false->ySZ a b w=(a,b,0):=λh=>by simp[ySZ,h]
 refine goQ_ ?_;refine aA (qN a) ?_;cases h1:xE a with
 |false=>
  rw[no (by simp[h1])];refine goQ_ ?_;refine bI (ypc a ha) (goQ_ ?_);refine bI (ypc b hb) ?_;exact goE_
 |true=>
 refine goQ_ ?_;refine aA (qN b) ?_;cases h2:xE b with
 |false=>
  rw[no (by simp[h2])];refine goQ_ ?_;refine bI (ypc a ha) (goQ_ ?_);refine bI (ypc b hb) ?_;exact goE_
 |true=>
 refine goQ_ ?_;refine aA (yAj w) ?_;cases h3:iZ w with
 |false=>
  rw[no (by simp[h3])];refine goQ_ ?_;refine bI (ypc a ha) (goQ_ ?_);refine bI (ypc b hb) ?_;exact goE_
 |true=>
 have yes:ySZ a b w=yTe a b (yS1 w (kD a) (kD b)) (fH a.ySg w.ySy):=by simp[ySZ,h1,h2,h3]
 rw[yes];refine goQ_ ?_;refine ypC (dN a) (goQ_ ?_);refine ypC (dN b) (goQ_ ?_);refine ypC (yUe w (kD a) (kD b)) (goQ_ ?_);refine ypC (yxU a.ySg w.ySy) (goQ_ ?_);have hP:=yWY a b (yS1 w (kD a) (kD b)) (fH a.ySg w.ySy) ha hb;refine bI hP ?_;generalize yTe a b (yS1 w (kD a) (kD b)) (fH a.ySg w.ySy)=z at *;exact goE_
def sent(q:Int):List Reach->List Reach
 |[]=>[]
 |r::l=>dU r q::l
def yUd(x:yRW)(q:Int):Bool:=decide (q<=1000000000-x.Start-x.In)
def yTo(x:yRW)(q:Int):List Reach:=if yUd x q then sent q x.yRV else x.yRV
def yTF(x:yRW)(q:Int):Bool:=rC x&& !decide (x.Time=1000000)&&decide (0<=q)
def yS0(x:yRW)(q:Int):yRW:=
 if yTF x q then⟨x.Time+1,(yTo x q).map yS8,x.ySl,x.yRX,x.yR3,x.yR9,x.ySd,x.yRZ,x.Book,x.yR1,x.Start,if yUd x q then x.In+q else x.In,x.Out⟩else x
def yTO(rs:List Reach)(k:Nat):List Reach:=(rs.take k).map yS8++rs.drop k
def yWZ{rs:List Reach}:yTO rs 0=rs:=by simp[yTO]
def yXe{rs:List Reach}{k:Nat}(h:rs.length<=k):yTO rs k=rs.map yS8:=by
 unfold yTO;rw[List.take_of_length_le h,zbY h,zbH]
def yXk{rs:List Reach}{k:Nat}:(yTO rs k).length=rs.length:=by
 unfold yTO;simp;omega
def yXB{rs:List Reach}{k:Nat}(h:k<rs.length):(yTO rs k)[k]?=rs[k]?:=by
 unfold yTO;rw[zax (by simp;omega)];simp[Nat.min_eq_left (Nat.le_of_lt h)]
def yXg{rs:List Reach}{k:Nat}{r:Reach}(h:rs[k]?=some r):(yTO rs k).set k (yS8 r)=yTO rs (k+1):=by
 have hlt:=(zaa.1 h).1;have hg:=(zaa.1 h).2;unfold yTO;rw[zao,h,zaD hlt,hg];have hl:((rs.take k).map yS8).length=k:=by simp;omega
 rw[zbP _ _ (by omega),hl];simp
def yxR{r:Reach}{a:Int}(h:r.small):(dU r a).small:=by
 unfold dU;split
 .split
  .exact h
  .exact⟨h.1,by simpa using h.2.1,λ_ _=>trivial⟩
 .exact h
def yWD{r:Reach}(h:r.small):(yS8 r).small:=by
 unfold yS8;split
 .rename_i h2;simp only[zad,decide_eq_true_eq]at h2;refine⟨h.1,?_,λ_ _=>trivial⟩;have:=h.2.1;simp;omega
 .exact h
def yXJ{q:Int}{l:List Reach}:(sent q l).length=l.length:=by cases l<;>rfl
def yTx{x:yRW}{q:Int}:(yTo x q).length=x.yRV.length:=by unfold yTo;split<;>simp[yXJ]
def yUz{x:yRW}{q:Int}(h:ybv x.yRV):ybv (yTo x q):=by
 refine⟨by rw[yTx];exact h.1,λr hr=>?_⟩;unfold yTo at hr;split at hr
 .have h2:=h.2;revert hr h2;cases x.yRV with
  |nil=>intro hr;simp[sent]at hr
  |cons a l=>
   intro hr h2;simp only[sent,zaC]at hr;rcases hr with rfl|hr
   .exact yxR (h2 a (by simp))
   .exact h2 r (by simp[hr])
 .exact h.2 r hr
def yTM{x:yRW}{q:Int}(h:x.small):(yS0 x q).small:=by
 unfold yS0;split
 .obtain⟨s1,s2⟩:=h;have p:=yUz (q:=q) s1;refine⟨⟨by simpa using p.1,λr hr=>?_⟩,s2⟩;obtain⟨r0,h0,rfl⟩:=zaM.1 hr;exact yWD (p.2 r0 h0)
 .exact h
def yFx(es:List Reach)(hl:es.length<=1048576):nI prg 176 [.c (.sl 3 (es.map Reach.enc))] (.c (.ow 3 (es.map Reach.enc))):=by
 refine fF qZ ?_;simp[mP,jA];omega
def yWX{x:yRW}(h:rC x=true):∃r l,x.yRV=r::l:=by
 simp only[rC,sJ,zad,decide_eq_true_eq]at h;obtain⟨⟨⟨⟨⟨⟨⟨h1,h2⟩,h3⟩,h4⟩,h5⟩,h6⟩,h7⟩,h8⟩:=h;have:=h2.1.1.1.1.1.2;cases hx:x.yRV with
 |nil=>rw[hx]at this;simp at this
 |cons r l=>exact⟨r,l,rfl⟩
def yXn{x:yRW}(h:rC x=true):0<=x.Time/\x.Time<=1000000:=by
 simp only[rC,zad]at h;exact aC.1 h.1.1.1.1.1.1.1
def rsC(rs:List Reach)(k:Nat):List (List C):=(yTO rs k).map Reach.enc
def yVP{rs:List Reach}{k:Nat}:(rsC rs k).length=rs.length:=by unfold rsC;rw[zam,yXk]
def yWL{rs:List Reach}{k:Nat}{r:Reach}(h:rs[k]?=some r):(rsC rs k)[k]?=some r.enc:=by
 unfold rsC;rw[zat,yXB (zaa.1 h).1,h];rfl
def yVQ{rs:List Reach}{k:Nat}{r:Reach}(h:rs[k]?=some r):(rsC rs k).set k (yS8 r).enc=rsC rs (k+1):=by
 unfold rsC;rw[<-yXg h,zaP]
def yVf{rs:List Reach}:rsC rs 0=rs.map Reach.enc:=by unfold rsC;rw[yWZ]
def yVR{rs:List Reach}{k:Nat}(h:rs.length<=k):rsC rs k=(rs.map yS8).map Reach.enc:=by unfold rsC;rw[yXe h]
def yVk(r:Reach)(hl:r.small):qB prg 184 [.agg (r.enc.map .c)] (.agg ((yS8 r).enc.map .c)):=(yW0 r hl).pure (Reach.yoT _)
def yUO{x:yRW}{q:Int}(h:yTF x q=false):yS0 x q=x:=by simp[yS0,h]
def yXU(x:yRW)(q:Int)(hl:x.small):qB prg 74 [.agg (x.enc.map .c),.c (.i q)] (.agg ((yS0 x q).enc.map .c)):=by
 have hl0:=hl;obtain⟨s1,s2,s3,s4,s5,s6,s7,s8,s9⟩:=hl;have s11:=s1.1;refine dB yWU (goQ_ ?_);refine aA (yis x hl0) ?_;cases h:rC x with
 |false=>simp -dsimp -implicitDefEqProofs;simp[yUO,yTF,h]
 |true=>
 have ht:=yXn h;have hw:=yCL h;obtain⟨r0,rl,hrl⟩:=yWX h;refine goQ_ ?_;refine⟨λht2=>?_,λht2=>?_⟩
 rotate_left
 .rw[yUO (by simp[yTF,ht2])];simp
 refine⟨λhq=>?_,λhq=>?_⟩
 .have:¬0<=q:=by omega
  rw[yUO (by simp[yTF,this])];simp
 have hc:yTF x q=true:=by simp[yTF,h,ht2,hq]
 have w1:=hw.start;have w2:=hw.inn;refine⟨by unfold inI;omega,?_⟩;refine yX5 (yFx x.yRV s11) (goT_ ?_);refine⟨by unfold inI;omega,by unfold inI;omega,λhp=>?_,λhp=>?_⟩
 .have hpi:yUd x q=true:=by simp[yUd];omega
  have hrs:yTo x q=dU r0 q::rl:=by simp[yTo,hpi,hrl,sent]
  have e:yS0 x q=⟨x.Time+1,(yTo x q).map yS8,x.ySl,x.yRX,x.yR3,x.yR9,x.ySd,x.yRZ,x.Book,x.yR1,x.Start,x.In+q,x.Out⟩:=by simp[yS0,hc,hpi]
  rw[e];have h00:x.yRV[0]?=some r0:=by rw[hrl];rfl
  have hg0:0<x.yRV.length:=by rw[hrl];simp
  have hset0:(x.yRV.map Reach.enc).set 0 (dU r0 q).enc=(yTo x q).map Reach.enc:=by rw[hrs,hrl];rfl
  have hr0:r0.small:=s1.2 r0 (by rw[hrl];simp);simp only[Reach.enc]at hset0;have g00:=(zaa.1 h00).2;refine yaeT h00 g00 hg0 ?_;refine bI (yyV r0 q hr0) (yaeV h00 g00 hg0 hset0 ?_);refine⟨by unfold inI;omega,?_⟩;intro hlen;refine yX2 (λk=>k<=x.yRV.length) (λk=>xC [(2,.box 2 0),(4,.box 4 0),(5,.box 5 0),(53,.own 28 3 x.yRV.length),(54,.c (.i x.yRV.length)),(55,.c (.i k))] [(2,.box [.c (.i x.Time),.c (.sl 3 (x.yRV.map Reach.enc)),.c (.sl 2 (x.ySl.map Way.enc)),.c (.sl 22 (x.yRX.map yR8.enc)),.c (.sl 1 (x.yR3.map nD)),.c (.sl 2 (x.yR9.map yRT.enc)),.c (.sl 1 (x.ySd.map qC)),.c (.i x.yRZ.Base),.c (.i x.yRZ.ySe),.c (.sl 1 (x.yRZ.yR5.map qC)),.c (.sl 1 (x.yRZ.yR7.map qC)),.c (.sl 5 (x.Book.map ySb.enc)),.c (.sl 4 (x.yR1.map yR2.enc)),.c (.i x.Start),.c (.i x.In),.c (.i x.Out)]),(4,zW),(5,.box [.c (.i (x.Time+1)),.own 28 3 x.yRV.length,.c (.sl 2 (x.ySl.map Way.enc)),.c (.sl 22 (x.yRX.map yR8.enc)),.c (.sl 1 (x.yR3.map nD)),.c (.sl 2 (x.yR9.map yRT.enc)),.c (.sl 1 (x.ySd.map qC)),.c (.i x.yRZ.Base),.c (.i x.yRZ.ySe),.c (.sl 1 (x.yRZ.yR5.map qC)),.c (.sl 1 (x.yRZ.yR7.map qC)),.c (.sl 5 (x.Book.map ySb.enc)),.c (.sl 4 (x.yR1.map yR2.enc)),.c (.i x.Start),.c (.i (x.In+q)),.c (.i x.Out)]),(28,.row 3 (rsC (yTo x q) k))]) (λk=>x.yRV.length-k) (by apply aB<;>simp[yVf]) ?_
  rintro k hk
  have hrl2:(rsC (yTo x q) k).length=x.yRV.length:=by rw[yVP,yTx]
  rcases zaq k x.yRV.length with klt|kge
  .obtain⟨r,hr⟩:∃r,(yTo x q)[k]?=some r:=⟨_,zab (by rw[yTx];exact klt)⟩;have hrs2:=(yUz (q:=q) s1).2 r (zac hr);have hat:=yWL hr;have hset:=yVQ hr;simp only[Reach.enc]at hat hset;have hat2:=(zaa.1 hat).2;refine yaff hrl2 hat hat2 klt (fC klt) ?_;refine bI (yVk r hrs2) (yafq hrl2 hat hat2 klt (fC klt) hset ?_);refine⟨gB klt hlen,k+1,klt,by omega,?_⟩;apply aB<;>simp[hset]
  .have hall:=yVR (rs:=(yTo x q)) (k:=k) (by rw[yTx];exact kge);refine yaed (aG kge) hall ?_;exact(List.take_of_length_le (by simp[yTx])).symm
 .have hpi:yUd x q=false:=by simp[yUd];omega
  have hrs:yTo x q=x.yRV:=by simp[yTo,hpi]
  have e:yS0 x q=⟨x.Time+1,(yTo x q).map yS8,x.ySl,x.yRX,x.yR3,x.yR9,x.ySd,x.yRZ,x.Book,x.yR1,x.Start,x.In,x.Out⟩:=by simp[yS0,hc,hpi]
  rw[e,hrs];intro hlen;refine yX2 (λk=>k<=x.yRV.length) (λk=>xC [(2,.box 2 0),(4,.box 4 0),(5,.box 5 0),(53,.own 28 3 x.yRV.length),(54,.c (.i x.yRV.length)),(55,.c (.i k))] [(2,.box [.c (.i x.Time),.c (.sl 3 (x.yRV.map Reach.enc)),.c (.sl 2 (x.ySl.map Way.enc)),.c (.sl 22 (x.yRX.map yR8.enc)),.c (.sl 1 (x.yR3.map nD)),.c (.sl 2 (x.yR9.map yRT.enc)),.c (.sl 1 (x.ySd.map qC)),.c (.i x.yRZ.Base),.c (.i x.yRZ.ySe),.c (.sl 1 (x.yRZ.yR5.map qC)),.c (.sl 1 (x.yRZ.yR7.map qC)),.c (.sl 5 (x.Book.map ySb.enc)),.c (.sl 4 (x.yR1.map yR2.enc)),.c (.i x.Start),.c (.i x.In),.c (.i x.Out)]),(4,zW),(5,.box [.c (.i (x.Time+1)),.own 28 3 x.yRV.length,.c (.sl 2 (x.ySl.map Way.enc)),.c (.sl 22 (x.yRX.map yR8.enc)),.c (.sl 1 (x.yR3.map nD)),.c (.sl 2 (x.yR9.map yRT.enc)),.c (.sl 1 (x.ySd.map qC)),.c (.i x.yRZ.Base),.c (.i x.yRZ.ySe),.c (.sl 1 (x.yRZ.yR5.map qC)),.c (.sl 1 (x.yRZ.yR7.map qC)),.c (.sl 5 (x.Book.map ySb.enc)),.c (.sl 4 (x.yR1.map yR2.enc)),.c (.i x.Start),.c (.i x.In),.c (.i x.Out)]),(28,.row 3 (rsC x.yRV k))]) (λk=>x.yRV.length-k) (by apply aB<;>simp[yVf]) ?_
  rintro k hk
  have hrl2:(rsC x.yRV k).length=x.yRV.length:=yVP;rcases yX1 k x.yRV with⟨klt,r,hr⟩|kge
  .have hrs2:=s1.2 r (zac hr);have hat:=yWL hr;have hset:=yVQ hr;simp only[Reach.enc]at hat hset;have hat2:=(zaa.1 hat).2;refine yaff hrl2 hat hat2 klt (fC klt) ?_;refine bI (yVk r hrs2) (yafq hrl2 hat hat2 klt (fC klt) hset ?_);refine⟨gB klt hlen,k+1,klt,by omega,?_⟩;apply aB<;>simp[hset]
  .have hall:=yVR (rs:=x.yRV) (k:=k) (by exact kge);refine yaed (aG kge) hall ?_;exact(List.take_of_length_le (by simp[yTx])).symm
def yW4(r:Reach)(a:Int):ydF (dU r a)=ydF r:=by
 have:(dU r a).ySg.length=r.ySg.length/\(dU r a).ySk.length=r.ySk.length:=by
  unfold dU;split
  .split
   .exact⟨rfl,rfl⟩
   .exact⟨rfl,by simp⟩
  .exact⟨rfl,rfl⟩
 unfold ydF ymT ya2;omega
def yUp(w:yR8)(v:ySp):yR8:=⟨w.yR0,v,w.Rule,w.Pauses,w.Turn,w.Calls⟩
def dR(rs:List Reach)(k:Nat):Reach:=rs.getD k default
def dW(ws:List yR8)(k:Nat):yR8:=ws.getD k default
def yTz(q:Int)(rs:List Reach)(ws:List yR8)(k:Nat):ySp:=yS9 (dW ws k).ySp (dW ws k).Rule (kD (dR rs k)) (kD (dR rs (k+1))) q
def through(q:Int)(rs:List Reach)(ws:List yR8)(k:Nat):Reach×Reach×Int:=ySZ (dR rs k) (dR rs (k+1)) (yTz q rs ws k)
def ySX(q:Int)(rs:List Reach)(ws:List yR8):Nat->List Reach×List yR8
 |0=>(rs,ws)
 | k +1=>(((ySX q rs ws k).1.set k (through q (ySX q rs ws k).1 (ySX q rs ws k).2 k).1).set (k+1) (through q (ySX q rs ws k).1 (ySX q rs ws k).2 k).2.1,
     (ySX q rs ws k).2.set k (yUp (dW (ySX q rs ws k).2 k) (yTz q (ySX q rs ws k).1 (ySX q rs ws k).2 k)))
def yTn(x:yRW)(q:Int):Bool:=rC x&&inRange q 0 1000000000
def stR(x:yRW)(q:Int):List Reach:=(ySX q x.yRV x.yRX x.yRX.length).1
def stW(x:yRW)(q:Int):List yR8:=(ySX q x.yRV x.yRX x.yRX.length).2
def yWH(rs:List Reach)(ws:List yR8)(ys:List Way)(n:Nat):Reach×Int:=
 rG (dR rs n) (yS1 (dW ws (n-1)).ySp (kD (dR rs n)) 0) (fH (dR rs n).ySg (ys.getD n default).Bed)
def yS2(x:yRW)(q:Int):yRW:=
 if yTn x q then⟨x.Time,(stR x q).set (x.yRV.length-1) (yWH (stR x q) (stW x q) x.ySl (x.yRV.length-1)).1,x.ySl,stW x q,x.yR3,x.yR9,x.ySd,x.yRZ,x.Book,x.yR1,x.Start,x.In,x.Out+(yWH (stR x q) (stW x q) x.ySl (x.yRV.length-1)).2⟩else x
def yTG{q:Int}{rs:List Reach}{ws:List yR8}:∀k:Nat,(ySX q rs ws k).1.length=rs.length/\(ySX q rs ws k).2.length=ws.length
 |0=>⟨rfl,rfl⟩
 |k+1=>by
  obtain⟨h1,h2⟩:=yTG (q:=q) (rs:=rs) (ws:=ws) k;simp[ySX,h1,h2]
def ye8{rs:List Reach}{k:Nat}(h:k<rs.length):rs[k]?=some (dR rs k):=by
 rw[dR,zaf,zab h];rfl
def yi4{ws:List yR8}{k:Nat}(h:k<ws.length):ws[k]?=some (dW ws k):=by
 rw[dW,zaf,zab h];rfl
def ywk{r:Reach}{a k:Int}(h:r.small):(rG r a k).1.small:=by
 unfold rG;split<;>exact h
def yWz{a b:Reach}{q k:Int}(ha:a.small)(hb:b.small):(yTe a b q k).1.small/\(yTe a b q k).2.1.small:=by
 unfold yTe;split
 .exact⟨ywk ha,yxR hb⟩
 .exact⟨ha,hb⟩
def yXz{a b:Reach}{w:ySp}(ha:a.small)(hb:b.small):(ySZ a b w).1.small/\(ySZ a b w).2.1.small:=by
 unfold ySZ;split
 .exact yWz ha hb
 .exact⟨ha,hb⟩
def yWS(r:Reach)(a k:Int):ydF (rG r a k).1=ydF r:=by
 unfold rG;split<;>rfl
def yXG(a b:Reach)(q k:Int):ydF (yTe a b q k).1=ydF a/\ydF (yTe a b q k).2.1=ydF b:=by
 unfold yTe;split
 .exact⟨yWS _ _ _,yW4 _ _⟩
 .exact⟨rfl,rfl⟩
def yXK(a b:Reach)(w:ySp):ydF (ySZ a b w).1=ydF a/\ydF (ySZ a b w).2.1=ydF b:=by
 unfold ySZ;split
 .exact yXG _ _ _ _
 .exact⟨rfl,rfl⟩
def yUM{α:Type}{t:α->Nat}{l:List α}{k:Nat}{a b:α}(h:l[k]?=some a)(e:t b=t a):yap t (l.set k b)=yap t l:=by
 obtain⟨hk,rfl⟩:=zaa.1 h
 have:(l.set k b).map t=l.map t:=by
  rw[zaP,e];apply zcK;intro i;rw[zaR];split
  .rename_i hi;subst hi;simp[hk]
  .rfl
 unfold yap;rw[this,zbF]
def yuN{α:Type}{sm:α->Prop}{l:List α}{k:Nat}{b:α}(h:aW sm l)(e:sm b):aW sm (l.set k b):=
 ⟨by simpa using h.1,λx hx=>by
  rcases zaS hx with hx|hx
  .exact h.2 x hx
  .rw[hx];exact e⟩
def yUk{q:Int}{rs:List Reach}{ws:List yR8}(hr:ybv rs)(hw:ycw ws)(hn:ws.length<rs.length):∀k:Nat,k<=ws.length->
 ybv (ySX q rs ws k).1/\ycw (ySX q rs ws k).2/\ydQ (ySX q rs ws k).1=ydQ rs/\yf3 (ySX q rs ws k).2=yf3 ws
 |0,_=>⟨hr,hw,rfl,rfl⟩
 | k+1,hk=>by
  obtain⟨a,b,c,d⟩:=yUk (q:=q) hr hw hn k (by omega);obtain⟨l1,l2⟩:=yTG (q:=q) (rs:=rs) (ws:=ws) k;simp only[ySX];generalize(ySX q rs ws k).1=rs' at *;generalize(ySX q rs ws k).2=ws' at *;have r1:=ye8 (rs:=rs') (k:=k) (by omega);have r2:=ye8 (rs:=rs') (k:=k+1) (by omega);have w1:=yi4 (ws:=ws') (k:=k) (by omega);have t:=yXK (dR rs' k) (dR rs' (k+1)) (yTz q rs' ws' k);have s:=yXz (w:=yTz q rs' ws' k) (a.2 _ (zac r1)) (a.2 _ (zac r2));refine⟨yuN (yuN a s.1) s.2,yuN b (show yR8.small (dW ws' k)from b.2 _ (zac w1)),?_,?_⟩
  .rw[<-c];have h2:(rs'.set k (through q rs' ws' k).1)[k+1]?=some (dR rs' (k+1)):=by rw[List.getElem?_set_ne (by omega)];exact r2
   exact(yUM h2 t.2).trans (yUM r1 t.1)
  .rw[<-d];exact yUM w1 rfl
structure ySP(x:yRW):Prop where
 two:2<=x.yRV.length
 ways:x.ySl.length=x.yRV.length
 mvs:x.yR3.length=x.yRV.length
 wks:x.yRX.length+1=x.yRV.length
def yjV{x:yRW}(h:rC x=true):ySP x:=by
 simp only[rC,zad]at h;obtain⟨⟨⟨⟨⟨⟨⟨h1,h2⟩,h3⟩,h4⟩,h5⟩,h6⟩,h7⟩,h8⟩:=h;simp only[sJ,zad,decide_eq_true_eq]at h2;obtain⟨⟨⟨⟨⟨⟨p1,p2⟩,p3⟩,p4⟩,p5⟩,p6⟩,p7⟩:=h2;exact⟨p2,p3,p4,p5⟩
def yUC{x:yRW}{q:Int}(h:x.small):(yS2 x q).small:=by
 unfold yS2;split
 .rename_i hc;simp only[yTn,zad]at hc;have pl:=yjV hc.1;have p1:=pl.wks;have p2:=pl.two;obtain⟨s1,s2,s3,s4,s5,s6,s7,s8,s9⟩:=h;obtain⟨a,b,c,d⟩:=yUk (q:=q) s1 s3 (by omega) _ (Nat.le_refl _);obtain⟨l1,l2⟩:=yTG (q:=q) (rs:=x.yRV) (ws:=x.yRX) x.yRX.length;exact⟨yuN a (ywk (a.2 _ (zac (ye8 (by have:(stR x q).length=x.yRV.length:=l1;omega))))),s2,b,s4,s5,s6,s7,s8,s9⟩
 .exact h
def yEV(es:List yR8)(hl:es.length<=1048576):nI prg 171 [.c (.sl 22 (es.map yR8.enc))] (.c (.ow 22 (es.map yR8.enc))):=by
 refine fF yQ ?_;simp -dsimp -implicitDefEqProofs [mQ,jA];omega
def ysn(r:Reach)(a k:Int):0<=(rG r a k).2/\(rG r a k).2<=1000000000:=by
 unfold rG;split
 .rename_i h;simp only[ycj,zad,decide_eq_true_eq]at h;have f:=yF h.1.1;have hv:=aC.1 (show inRange r.ySh 0 1000000000=true from f.vol);have h2:=h.2;simp only[takeN]
  repeat' split
  all_goals omega
 .simp
def yTw(rs:List Reach):List (List C):=rs.map Reach.enc
def bM(ws:List yR8):List (List C):=ws.map yR8.enc
def yUi{rs:List Reach}{k:Nat}{r:Reach}(h:rs[k]?=some r):(yTw rs)[k]?=some r.enc:=by unfold yTw;rw[zat,h];rfl
def yt5{ws:List yR8}{k:Nat}{w:yR8}(h:ws[k]?=some w):(bM ws)[k]?=some w.enc:=by unfold bM;rw[zat,h];rfl
def yUN{rs:List Reach}{k:Nat}{r:Reach}:(yTw rs).set k r.enc=yTw (rs.set k r):=by unfold yTw;rw[zaP]
def yk6{ws:List yR8}{k:Nat}{w:yR8}:(bM ws).set k w.enc=bM (ws.set k w):=by unfold bM;rw[zaP]
def yTc{rs:List Reach}:(yTw rs).length=rs.length:=by simp[yTw]
def ygI{ws:List yR8}:(bM ws).length=ws.length:=by simp[bM]
def yU9{x:yRW}{q:Int}(h:yTn x q=false):yS2 x q=x:=by simp[yS2,h]
def yXQ(x:yRW)(q:Int)(hl:x.small):qB prg 73 [.agg (x.enc.map .c),.c (.i q)] (.agg ((yS2 x q).enc.map .c)):=by
 have hl0:=hl;obtain⟨s1,s2,s3,s4,s5,s6,s7,s8,s9⟩:=hl;have s11:=s1.1;have s31:=s3.1;refine dB yWI (goQ_ ?_);refine aA (yis x hl0) ?_;cases h:rC x with
 |false=>simp -dsimp -implicitDefEqProofs;simp[yU9,yTn,h]
 |true=>
 refine goQ_ ?_;refine aA (iC q 0 1000000000) ?_;cases hq:inRange q 0 1000000000 with
 |false=>simp -dsimp -implicitDefEqProofs;simp[yU9,yTn,hq]
 |true=>
 have hc:yTn x q=true:=by simp[yTn,h,hq]
 have hw:=yCL h;have pl:=yjV h;have p1:=pl.two;have p2:=pl.ways;have p3:=pl.wks;have e:yS2 x q=⟨x.Time,(stR x q).set (x.yRV.length-1) (yWH (stR x q) (stW x q) x.ySl (x.yRV.length-1)).1,x.ySl,stW x q,x.yR3,x.yR9,x.ySd,x.yRZ,x.Book,x.yR1,x.Start,x.In,x.Out+(yWH (stR x q) (stW x q) x.ySl (x.yRV.length-1)).2⟩:=by simp[yS2,hc]
 rw[e];refine goQ_ ?_;refine yX5 (yFx x.yRV s11) (goQ_ ?_);refine yX5 (yEV x.yRX s31) (goQ_ ?_);intro hlen;refine yX2 (λk=>k<=x.yRX.length) (λk=>xC [(1,.c (.i q)),(2,.box 2 0),(4,.box 4 0),(5,.box 5 0),(34,.own 31 22 x.yRX.length),(35,.c (.i x.yRX.length)),(36,.c (.i k))] [(2,.box (x.enc.map .c)),(4,zW),(5,.box [.c (.i x.Time),.own 27 3 x.yRV.length,.c (.sl 2 (x.ySl.map Way.enc)),.own 31 22 x.yRX.length,.c (.sl 1 (x.yR3.map nD)),.c (.sl 2 (x.yR9.map yRT.enc)),.c (.sl 1 (x.ySd.map qC)),.c (.i x.yRZ.Base),.c (.i x.yRZ.ySe),.c (.sl 1 (x.yRZ.yR5.map qC)),.c (.sl 1 (x.yRZ.yR7.map qC)),.c (.sl 5 (x.Book.map ySb.enc)),.c (.sl 4 (x.yR1.map yR2.enc)),.c (.i x.Start),.c (.i x.In),.c (.i x.Out)]),(27,.row 3 (yTw (ySX q x.yRV x.yRX k).1)),(31,.row 22 (bM (ySX q x.yRV x.yRX k).2))]) (λk=>x.yRX.length-k) (by apply aB<;>simp[ySX,yTw,bM,jA]) ?_
 rintro k hk
 obtain⟨l1,l2⟩:=yTG (q:=q) (rs:=x.yRV) (ws:=x.yRX) k;obtain⟨a1,a2,_,_⟩:=yUk (q:=q) s1 s3 (by omega) k hk;have hst1:(ySX q x.yRV x.yRX (k+1)).1=((ySX q x.yRV x.yRX k).1.set k (through q (ySX q x.yRV x.yRX k).1 (ySX q x.yRV x.yRX k).2 k).1).set (k+1) (through q (ySX q x.yRV x.yRX k).1 (ySX q x.yRV x.yRX k).2 k).2.1:=rfl;have hst2:(ySX q x.yRV x.yRX (k+1)).2=(ySX q x.yRV x.yRX k).2.set k (yUp (dW (ySX q x.yRV x.yRX k).2 k) (yTz q (ySX q x.yRV x.yRX k).1 (ySX q x.yRV x.yRX k).2 k)):=rfl;rcases zaq k x.yRX.length with klt|kge
 .obtain⟨rs2,hrs2⟩:∃r,(ySX q x.yRV x.yRX (k+1)).1=r:=⟨_,rfl⟩;obtain⟨ws2,hws2⟩:∃r,(ySX q x.yRV x.yRX (k+1)).2=r:=⟨_,rfl⟩;rw[hrs2]at hst1;rw[hws2]at hst2;generalize(ySX q x.yRV x.yRX k).1=rs at *;generalize(ySX q x.yRV x.yRX k).2=ws at *;have r1:=ye8 (rs:=rs) (k:=k) (by omega);have r2:=ye8 (rs:=rs) (k:=k+1) (by omega);have w1:=yi4 (ws:=ws) (k:=k) (by omega);have sr1:=a1.2 _ (zac r1);have sr2:=a1.2 _ (zac r2);have sw1:=a2.2 _ (zac w1);have hnw:yTz q rs ws k=yS9 (dW ws k).ySp (dW ws k).Rule (kD (dR rs k)) (kD (dR rs (k+1))) q:=rfl;have hth:through q rs ws k=ySZ (dR rs k) (dR rs (k+1)) (yTz q rs ws k):=rfl;rw[hth]at hst1;have hLT:=yVM (dR rs k) (dR rs (k+1)) (yTz q rs ws k) sr1 sr2;generalize yTz q rs ws k=nw at *;have ar1:=yUi r1;have ar2:=yUi r2;have aw1:=yt5 w1;generalize dR rs k=ra at *;generalize dR rs (k+1)=rb at *;generalize dW ws k=wk at *;generalize ySZ ra rb nw=LT at *;obtain⟨k',hk'⟩:∃k',k'=k+1:=⟨_,rfl⟩;have ek:((k:Int)+1)=(k':Int):=by omega
  rw[<-hk']at ar2 hst1;have sR:∀(rs:List Reach) (j:Nat) (r:Reach),(yTw rs).set j [.sl 2 (r.ySg.map ySc.enc),.i r.ySh,.sl 1 (r.ySk.map qC)]=yTw (rs.set j r):=λ_ _ _=>yUN;have sW:=yk6 (ws:=ws) (k:=k) (w:=yUp wk nw);rw[<-hst2]at sW;simp only[Reach.enc]at ar1 ar2;simp only[yR8.enc,yUp]at aw1 sW;have gr1:=(zaa.1 ar1).2;have gr2:=(zaa.1 ar2).2;have gw1:=(zaa.1 aw1).2;have n1:k<x.yRV.length:=by omega
  have n2:k'<x.yRV.length:=by omega
  simp -dsimp -implicitDefEqProofs [yTc,ygI,l1,l2,ar1,gr1,ar2,gr2,aw1,gw1,klt,fC klt,n1,n2,ek];refine⟨by unfold inI;omega,?_⟩;refine yYr (qL ra) (goQ_ ?_);refine yYr (qL rb) (goQ_ ?_);have hSW:=yVT wk.ySp wk.Rule (kD ra) (kD rb) q;rw[<-hnw]at hSW;refine yYr hSW ?_;simp -dsimp -implicitDefEqProofs [yTc,ygI,l1,l2,ar1,gr1,ar2,gr2,aw1,gw1,klt,n1,n2,ek];refine⟨by unfold inI;omega,?_⟩;refine yYo hLT ?_;have hset:((yTw rs).set k [.sl 2 (LT.1.ySg.map ySc.enc),.i LT.1.ySh,.sl 1 (LT.1.ySk.map qC)]).set k' [.sl 2 (LT.2.1.ySg.map ySc.enc),.i LT.2.1.ySh,.sl 1 (LT.2.1.ySk.map qC)]=yTw rs2:=by rw[sR,sR,hst1]
  have hgs:∀(X:List C) (h),((yTw rs).set k X)[k']'h=[.sl 2 (rb.ySg.map ySc.enc),.i rb.ySh,.sl 1 (rb.ySk.map qC)]:=λX h=>by rw[zbM (by omega)];exact gr2
  simp -dsimp -implicitDefEqProofs [yTc,ygI,l1,l2,ar1,gr1,ar2,gr2,aw1,gw1,klt,n1,n2,ek,hset,sW,hgs];refine⟨by unfold inI;omega,k+1,klt,by omega,?_⟩;apply aB<;>simp[hset,sW,hrs2,hws2,ek,hgs]
 .have hkn:k=x.yRX.length:=by omega
  subst hkn;have hR:(ySX q x.yRV x.yRX x.yRX.length).1=stR x q:=rfl;have hW:(ySX q x.yRV x.yRX x.yRX.length).2=stW x q:=rfl;rw[hR]at l1 a1;rw[hW]at l2 a2;rw[hR,hW];generalize stR x q=rs at *;generalize stW x q=ws at *;obtain⟨n,hn⟩:∃n,n=x.yRV.length-1:=⟨_,rfl⟩;have en:((x.yRV.length:Int)-1)=(n:Int):=by omega
  obtain⟨m,hm⟩:∃m,m=n-1:=⟨_,rfl⟩;have em:((n:Int)-1)=(m:Int):=by omega
  rw[<-hn];have r1:=ye8 (rs:=rs) (k:=n) (by omega);have w1:=yi4 (ws:=ws) (k:=m) (by omega);have hy:x.ySl[n]?=some (x.ySl.getD n default):=by rw[zaf,zab (by omega)];rfl
  have sr1:=a1.2 _ (zac r1);have hT:yWH rs ws x.ySl n=rG (dR rs n) (yS1 (dW ws m).ySp (kD (dR rs n)) 0) (fH (dR rs n).ySg (x.ySl.getD n default).Bed):=by rw[hm];rfl
  rw[hT];have ar1:=yUi r1;have aw1:=yt5 w1;generalize dR rs n=ra at *;generalize dW ws m=wk at *;generalize x.ySl.getD n default=wy at *;have gy:=(zaa.1 hy).2;have sR:∀(rs:List Reach) (j:Nat) (r:Reach),(yTw rs).set j [.sl 2 (r.ySg.map ySc.enc),.i r.ySh,.sl 1 (r.ySk.map qC)]=yTw (rs.set j r):=λ_ _ _=>yUN;simp only[Reach.enc]at ar1;simp only[yR8.enc]at aw1;have gr1:=(zaa.1 ar1).2;have gw1:=(zaa.1 aw1).2;have n1:n<x.yRV.length:=by omega
  have n2:m<x.yRX.length:=by omega
  have n3:n<x.ySl.length:=by omega
  simp -dsimp -implicitDefEqProofs [yTc,ygI,l1,l2,ar1,gr1,aw1,gw1,n1,n2,n3,hy,gy,en,em];intro hlen2;refine⟨by unfold inI;omega,by unfold inI;omega,?_⟩;refine yYs (qL ra) (goQ_ ?_);refine⟨_,_,yUb wk.ySp (kD ra) 0,by simp -dsimp -implicitDefEqProofs [aw1,gw1,gr1,n2],.inr rfl,yaeV n3 hy gy en ?_⟩;refine yYr (yxT ra.ySg wy.Bed) (goQ_ ?_);have hP:=yvU ra (yS1 wk.ySp (kD ra) 0) (fH ra.ySg wy.Bed) sr1;have hto:=ysn ra (yS1 wk.ySp (kD ra) 0) (fH ra.ySg wy.Bed);refine yYo hP ?_;generalize rG ra (yS1 wk.ySp (kD ra) 0) (fH ra.ySg wy.Bed)=z at *;have w5:=hw.out;simp -dsimp -implicitDefEqProofs [yTc,l1,n1,gr1,ar1,sR,en];refine⟨by unfold inI;omega,?_,(List.take_of_length_le (by show(bM ws).length<=_;rw[ygI];omega)).symm⟩;rw[List.take_of_length_le (by rw[yTc,zbF];omega)];exact sR rs n z.1
def yaaX(x:yRW)(q:Int)(hl:x.small):nI prg 28 [.agg (x.enc.map .c),.c (.i q)] (.agg ((yS2 x q).iD.map .c)):=by
 have hp:=yUC (q:=q) hl;have hpc:=yXQ x q hl;refine fF yaac (goQ_ ?_);refine dD hpc ?_;generalize yS2 x q=r at *;refine goQ_ ?_;refine yX3 (yuq r hp) (dP (yRW.aF r)) ?_;exact goU_
def ykT(a b:Int):Int:=if b<a then b else a
def bG(l:yR0):Int:=if lF l then ykT (l.Base+l.ySn.tdiv l.Area) 100000 else 0
structure ySN(l:yR0):Prop where
 sa:0<=l.ySi/\l.ySi<=100000
 sb:0<=l.ySj/\l.ySj<=100000
 base:0<=l.Base/\l.Base<=100000
 area:1<=l.Area/\l.Area<=10000
 rate:1<=l.ySs/\l.ySs<=100000
 water:0<=l.ySn/\l.ySn<=1000000000
 gate:0<=l.Gate/\l.Gate<=2
def qW{l:yR0}(h:lF l=true):ySN l:=by
 simp only[lF,zad]at h;obtain⟨⟨⟨⟨⟨⟨⟨⟨⟨h0,h1⟩,h2⟩,h3⟩,h4⟩,h5⟩,h6⟩,h7⟩,h8⟩,h9⟩:=h;exact⟨aC.1 h2,aC.1 h3,aC.1 h4,aC.1 h5,aC.1 h6,aC.1 h7,aC.1 h8⟩
def ytP{a b:Int}(ha:0<=a/\a<=1000000000)(hb:1<=b):0<=a.tdiv b/\a.tdiv b<=1000000000:=by
 rw[zaz ha.1];exact⟨zcr ha.1 (by omega),zdY (zco _ ha.1) ha.2⟩
def yd5(l:yR0):0<=bG l/\bG l<=100000:=by
 unfold bG;split
 .rename_i h;have f:=qW h;have f1:=f.base;have f2:=ytP f.water f.area.1;unfold ykT;split<;>omega
 .omega
@[simp] def yR0.setW(l:yR0)(w:Int):yR0:=⟨l.Length,l.Width,l.ySi,l.ySj,l.Base,l.Area,l.ySs,w,l.Gate,l.yRY⟩
@[simp] def yR0.yra(l:yR0)(g:Int):yR0:=⟨l.Length,l.Width,l.ySi,l.ySj,l.Base,l.Area,l.ySs,l.ySn,g,l.yRY⟩
@[simp] def yR0.yt1(l:yR0)(ts:List yRT):yR0:=⟨l.Length,l.Width,l.ySi,l.ySj,l.Base,l.Area,l.ySs,l.ySn,l.Gate,ts⟩
def ydG(a b:Reach)(g:Int):Int:=if g=1 then kD a else kD b
def oP(l:yR0)(a b:Reach)(g:Int):Bool:=lF l&&xE a&&xE b&&decide (l.Gate=0)&&(decide (g=1)||decide (g=2))&&inRange (bG l) (ydG a b g-1) (ydG a b g+1)
def tK(l:yR0)(a b:Reach)(g:Int):yR0×Bool:=if oP l a b g then(l.yra g,true)else(l,false)
def ya1(l:yR0)(r:Reach):Int:=ykT (l.Area*(kD r-bG l)) l.ySs
def dY(l:yR0)(r:Reach):Bool:=lF l&&xE r&&decide (l.Gate=0)&&decide (bG l<kD r)
def mM(l:yR0)(r:Reach):yR0×Reach:=
 if dY l r then(if 1000000000<l.ySn+(rG r (ya1 l r) 0).2 then(l,r)else(l.setW (l.ySn+(rG r (ya1 l r) 0).2),(rG r (ya1 l r) 0).1))else(l,r)
def rV(l:yR0)(r:Reach):Int:=ykT (ykT (l.Area*(bG l-kD r)) l.ySs) l.ySn
def yYU(l:yR0)(r:Reach):Bool:=lF l&&xE r&&decide (l.Gate=0)&&decide (kD r<bG l)
def rJ(l:yR0)(r:Reach):yR0×Reach:=
 if yYU l r then(if rO r<rV l r then(l,r)else(l.setW (l.ySn-rV l r),dU r (rV l r)))else(l,r)
def yeb(l:yR0)(g:Int):Int:=if g=1 then l.ySi else l.ySj
def yaI(up:Bool):Int:=if up then 2 else 1
def lJ(l:yR0)(r:Reach)(t:yRT):Bool:=lF l&&xE r&&oC t&&decide (l.Gate=yaI t.Up)&&decide (oH t<=kD r-yeb l (yaI t.Up))
def xH(l:yR0)(r:Reach)(t:yRT):yR0×Bool:=if lJ l r t&&oO l.Length l.Width (l.yRY++[t])then(l.yt1 (l.yRY++[t]),true)else(l,false)
def leaves(l:yR0)(r:Reach)(t:yRT):Bool:=(t.Up==decide (l.Gate=1))&&decide (oH t<=kD r-yeb l l.Gate)
def yh(l:yR0)(r:Reach):Bool:=lF l&&xE r&& !decide (l.Gate=0)
def leaver(l:yR0)(r:Reach):Option Nat:=if yh l r then l.yRY.findIdx? (leaves l r)else none
def yR0.yoT(l:yR0):(AV.agg (l.iD.map .c)).shr (.agg (l.enc.map .c)):=by simp[AV.shr,AV.yoE,dO,C.shr,eF yRT.bF]
def yeo(e:yR0)(hl:yR0.small e):qB prg 250 [.agg (e.enc.map .c)] (.agg (e.enc.map .c)):=(ysC e hl).pure (yR0.yoT _)
def jQ(l:yR0)(hl:l.small):qB prg 281 [.agg (l.enc.map .c)] (.c (.i (bG l))):=by
 refine dB ylu (goQ_ ?_);refine aA (pX l hl) ?_;cases h:lF l with
 |false=>simp -dsimp -implicitDefEqProofs;simp[bG,h]
 |true=>
 have f:=qW h;have f1:=f.base;have f2:=ytP f.water f.area.1;have f3:=f.area;have e:bG l=ykT (l.Base+l.ySn.tdiv l.Area) 100000:=by simp[bG,h]
 rw[e];refine goQ_ ?_;exact⟨by omega,by unfold inI;omega,by unfold inI;omega,rfl⟩
def yvt(l:yR0)(a b:Reach)(g:Int)(hl:l.small):qB prg 278 [.agg (l.enc.map .c),.agg (a.enc.map .c),.agg (b.enc.map .c),.c (.i g)] (.tup [.agg ((tK l a b g).1.enc.map .c),.c (.b (tK l a b g).2)]):=by
 have no:oP l a b g=false->tK l a b g=(l,false):=λh=>by simp[tK,h]
 have la:=kM a;have lb:=kM b;refine dB yq7 (goQ_ ?_);refine dD (yeo l hl) (goQ_ ?_);refine aA (pX l hl) ?_;cases h1:lF l with
 |false=>rw[no (by simp[oP,h1])];simp -dsimp -implicitDefEqProofs
 |true=>
 refine goQ_ ?_;refine aA (oL a) ?_;cases h2:xE a with
 |false=>rw[no (by simp[oP,h2])];simp -dsimp -implicitDefEqProofs
 |true=>
 refine goQ_ ?_;refine aA (oL b) ?_;cases h3:xE b with
 |false=>rw[no (by simp[oP,h3])];simp -dsimp -implicitDefEqProofs
 |true=>
 by_cases h4:l.Gate=0
 rotate_left
 .rw[no (by simp[oP,h4])];simp -dsimp -implicitDefEqProofs [h4]
 have hcl:=jQ l hl
 by_cases g1:g=1
 .subst g1;have hs:ydG a b 1=kD a:=rfl;refine yafw h4 ?_;refine aA (qL a) (goQ_ ?_);refine mD (hcl) (by simp[h4]) rfl (goQ_ ?_);refine⟨by unfold inI;omega,by unfold inI;omega,?_⟩;refine aA (iC (bG l) (kD a-1) (kD a+1)) ?_;cases h5:inRange (bG l) (kD a-1) (kD a+1)with
  |false=>rw[no (by simp[oP,hs,h5])];simp -dsimp -implicitDefEqProofs [h4]
  |true=>
   have e:tK l a b 1=(l.yra 1,true):=by simp[tK,oP,h1,h2,h3,h4,hs,h5]
   rw[e];simp -dsimp -implicitDefEqProofs
 by_cases g2:g=2
 .subst g2;have hs:ydG a b 2=kD b:=rfl;refine yafw h4 ?_;refine aA (qL b) (goQ_ ?_);refine mD (hcl) (by simp[h4]) rfl (goQ_ ?_);refine⟨by unfold inI;omega,by unfold inI;omega,?_⟩;refine aA (iC (bG l) (kD b-1) (kD b+1)) ?_;cases h5:inRange (bG l) (kD b-1) (kD b+1)with
  |false=>rw[no (by simp[oP,hs,h5])];simp -dsimp -implicitDefEqProofs [h4]
  |true=>
   have e:tK l a b 2=(l.yra 2,true):=by simp[tK,oP,h1,h2,h3,h4,hs,h5]
   rw[e];simp -dsimp -implicitDefEqProofs
 .rw[no (by simp[oP,g1,g2])];simp -dsimp -implicitDefEqProofs [h4,g1,g2]
def yvH(l:yR0)(r:Reach)(hl:l.small)(hr:r.small):qB prg 282 [.agg (l.enc.map .c),.agg (r.enc.map .c)] (.tup [.agg ((mM l r).1.enc.map .c),.agg ((mM l r).2.enc.map .c)]):=by
 have no:dY l r=false->mM l r=(l,r):=λh=>by simp[mM,h]
 have la:=kM r;have lc:=yd5 l;refine dB yrz (goQ_ ?_);refine bI (yeo l hl) (goQ_ ?_);refine bI (yqt r hr) (goQ_ ?_);refine lC (pX l hl) ?_;cases h1:lF l with
 |false=>rw[no (by simp[dY,h1])];simp -dsimp -implicitDefEqProofs
 |true=>
 refine goQ_ ?_;refine lC (oL r) ?_;cases h2:xE r with
 |false=>rw[no (by simp[dY,h2])];simp -dsimp -implicitDefEqProofs
 |true=>
 by_cases h4:l.Gate=0
 rotate_left
 .rw[no (by simp[dY,h4])];simp -dsimp -implicitDefEqProofs [h4]
 have f:=qW h1;have f1:=f.area;have f2:=f.water;have f3:=f.rate;refine yafw h4 ?_;refine⟨_,_,jQ l hl,by simp[h4],.inr rfl,goQ_ ?_⟩;refine lC (qL r) (goQ_ ?_);refine⟨λh5=>?_,λh5=>?_⟩
 .rw[no (by simp[dY];omega)];simp -dsimp -implicitDefEqProofs [h4]
 have hc:dY l r=true:=by simp[dY,h1,h2,h4];omega
 have e:mM l r=if 1000000000<l.ySn+(rG r (ya1 l r) 0).2 then(l,r)else(l.setW (l.ySn+(rG r (ya1 l r) 0).2),(rG r (ya1 l r) 0).1):=by simp only[mM,hc,if_true]
 rw[e];have m1:=yyJ (a:=l.Area) (b:=kD r-bG l) (A:=10000) (B:=1000000000) (by omega) (by omega);have hP:=yvU r (ya1 l r) 0 hr;have ht:=ysn r (ya1 l r) 0;have hN:ya1 l r=ykT (l.Area*(kD r-bG l)) l.ySs:=rfl;have hN2:(if l.ySs<l.Area*(kD r-bG l)then l.ySs else l.Area*(kD r-bG l))=ya1 l r:=by rw[hN];rfl
 refine lC (qL r) (goQ_ ?_);refine⟨_,_,jQ l hl,by simp[h4],.inr rfl,?_⟩;generalize rG r (ya1 l r) 0=z at *;refine yafw hN2 ?_;refine⟨by unfold inI;omega,by unfold inI;omega,?_⟩;refine dD hP (goQ_ ?_);refine⟨by unfold inI;omega,λh6=>?_,λh6=>?_⟩
 .rw[if_pos h6];simp -dsimp -implicitDefEqProofs [h4]
 .rw[if_neg (by omega)];simp -dsimp -implicitDefEqProofs [h4];unfold inI;omega
def yty(l:yR0)(r:Reach)(hl:l.small)(hr:r.small):qB prg 283 [.agg (l.enc.map .c),.agg (r.enc.map .c)] (.tup [.agg ((rJ l r).1.enc.map .c),.agg ((rJ l r).2.enc.map .c)]):=by
 have no:yYU l r=false->rJ l r=(l,r):=λh=>by simp[rJ,h]
 have la:=kM r;have lc:=yd5 l;refine dB ypP (goQ_ ?_);refine bI (yeo l hl) (goQ_ ?_);refine bI (yqt r hr) (goQ_ ?_);refine lC (pX l hl) ?_;cases h1:lF l with
 |false=>rw[no (by simp[yYU,h1])];simp -dsimp -implicitDefEqProofs
 |true=>
 refine goQ_ ?_;refine lC (oL r) ?_;cases h2:xE r with
 |false=>rw[no (by simp[yYU,h2])];simp -dsimp -implicitDefEqProofs
 |true=>
 by_cases h4:l.Gate=0
 rotate_left
 .rw[no (by simp[yYU,h4])];simp -dsimp -implicitDefEqProofs [h4]
 have f:=qW h1;have f1:=f.area;have f2:=f.water;have f3:=f.rate;refine yafw h4 ?_;refine⟨_,_,jQ l hl,by simp[h4],.inr rfl,goQ_ ?_⟩;refine lC (qL r) (goQ_ ?_);refine⟨λh5=>?_,λh5=>?_⟩
 .rw[no (by simp[yYU];omega)];simp -dsimp -implicitDefEqProofs [h4]
 have hc:yYU l r=true:=by simp[yYU,h1,h2,h4];omega
 have e:rJ l r=if rO r<rV l r then(l,r)else(l.setW (l.ySn-rV l r),dU r (rV l r)):=by simp only[rJ,hc,if_true]
 rw[e];have m1:=yyJ (a:=l.Area) (b:=bG l-kD r) (A:=10000) (B:=100000) (by omega) (by omega);have hP:=yyV r (rV l r) hr;have hN:rV l r=ykT (ykT (l.Area*(bG l-kD r)) l.ySs) l.ySn:=rfl;refine⟨_,_,jQ l hl,by simp[h4],.inr rfl,goQ_ ?_⟩;refine lC (qL r) (goQ_ ?_);have hN2:(if l.ySn<(if l.ySs<l.Area*(bG l-kD r)then l.ySs else l.Area*(bG l-kD r))then l.ySn else(if l.ySs<l.Area*(bG l-kD r)then l.ySs else l.Area*(bG l-kD r)))=rV l r:=by rw[hN];rfl
 have hd:0<=rV l r/\rV l r<=l.ySn:=by
  rw[<-hN2];generalize l.Area*(bG l-kD r)=m at *
  (repeat' split)<;>omega
 refine⟨by unfold inI;omega,by unfold inI;omega,?_⟩;refine aA (yo3 r) (yafw hN2 ?_);refine⟨λh6=>?_,λh6=>?_⟩
 .rw[if_pos h6];simp -dsimp -implicitDefEqProofs [h4]
 rw[if_neg (show¬rO r<rV l r by omega)];refine⟨by unfold inI;omega,?_⟩;refine bI hP ?_;exact yafA h4
def yjR(l:yR0)(g:Int):qB prg 355 [.agg (l.enc.map .c),.c (.i g)] (.c (.i (yeb l g))):=by
 refine dB ywO (goQ_ ?_);refine⟨λh=>?_,λh=>?_⟩
 .simp[yeb,h]
 .simp[yeb,h]
def yA2{l:yR0}(h:lF l=true)(g:Int):0<=yeb l g/\yeb l g<=100000:=by
 have f:=qW h;have f1:=f.sa;have f2:=f.sb;unfold yeb;split<;>omega
def ylM(l:yR0)(r:Reach)(t:yRT)(hl:l.small)(ht:t.small):qB prg 288 [.agg (l.enc.map .c),.agg (r.enc.map .c),.agg (t.enc.map .c)] (.c (.b (lJ l r t))):=by
 have la:=kM r;have ld:=ydq t;refine dB yrr (goQ_ ?_);refine aA (pX l hl) ?_;cases h1:lF l with
 |false=>simp -dsimp -implicitDefEqProofs;simp[lJ,h1]
 |true=>
 refine goQ_ ?_;refine aA (oL r) ?_;cases h2:xE r with
 |false=>simp -dsimp -implicitDefEqProofs;simp[lJ,h2]
 |true=>
 refine goQ_ ?_;refine aA (gK t ht) ?_;cases h3:oC t with
 |false=>simp -dsimp -implicitDefEqProofs;simp[lJ,h3]
 |true=>
 have e:lJ l r t=(decide (l.Gate=yaI t.Up)&&decide (oH t<=kD r-yeb l (yaI t.Up))):=by simp[lJ,h1,h2,h3]
 rw[e];have hs:=yA2 h1;cases hu:t.Up with
 | true=>
  have hs2:=hs 2
  by_cases hg:l.Gate=2
  .refine yaed hu hg ?_;refine lC (qL r) (goQ_ ?_);refine⟨_,_,yjR l 2,by simp[hg],.inr rfl,goQ_ ?_⟩;refine⟨by unfold inI;omega,?_⟩;refine⟨_,_,yw t ht,by simp[hu],.inr rfl,?_⟩;simp -dsimp -implicitDefEqProofs [yaI]
   exactλ_=>hg
  .simp -dsimp -implicitDefEqProofs [hu,hg,yaI]
 | false=>
  have hs2:=hs 1
  by_cases hg:l.Gate=1
  .refine yaed hu hg ?_;refine lC (qL r) (goQ_ ?_);refine⟨_,_,yjR l 1,by simp[hg],.inr rfl,goQ_ ?_⟩;refine⟨by unfold inI;omega,?_⟩;refine⟨_,_,yw t ht,by simp[hu],.inr rfl,?_⟩;simp -dsimp -implicitDefEqProofs [yaI]
   exactλ_=>hg
  .simp -dsimp -implicitDefEqProofs [hu,hg,yaI]
def ytO(l:yR0)(r:Reach)(t:yRT)(hl:l.small)(ht:t.small):qB prg 291 [.agg (l.enc.map .c),.agg (r.enc.map .c),.agg (t.enc.map .c)] (.tup [.agg ((xH l r t).1.enc.map .c),.c (.b (xH l r t).2)]):=by
 have no:(lJ l r t&&oO l.Length l.Width (l.yRY++[t]))=false->xH l r t=(l,false):=λh=>by simp only[xH,h];rfl
 have hll:=hl.1;refine dB yql (goQ_ ?_);refine dD (yeo l hl) (goQ_ ?_);refine aA (ylM l r t hl ht) ?_;cases h1:lJ l r t with
 |false=>rw[no (by simp[h1])];simp -dsimp -implicitDefEqProofs
 |true=>
 refine goQ_ ?_;refine yage (ybj l.yRY hl) (iJ yRT.aF _ _) (goT_ ?_);refine yage (yaU t ht) (dP (yRT.aF t)) ?_;simp -dsimp -implicitDefEqProofs [jA,iW];have hshr:=eF yRT.bF (l.yRY++[t]);rw[zaB,zaB]at hshr;simp only[zbk,zcR,yRT.iD,yRT.enc]at hshr;have htk2:List.take (l.yRY.length+1) (l.yRY.map yRT.iD++[[C.b t.Up,C.ot 1 (t.Rows.map jF)]])=l.yRY.map yRT.iD++[[C.b t.Up,C.ot 1 (t.Rows.map jF)]]:=List.take_of_length_le (by simp)
 have h8:l.yRY.length<=8:=by
  have h1':=h1;simp only[lJ,lF,zad]at h1';rcases zaq 8 l.yRY.length with e|e
  .have:=yg8 e;rw[this]at h1';simp at h1'
  .exact e
 refine⟨by omega,?_⟩
 have hF:=yP (l.yRY++[t]) l ⟨by rw[zah,zaY];omega,λy hy=>by
  rcases zaj.1 hy with e|e
  .exact hl.2 y e
  .rw[zan.1 e];exact ht⟩
 rw[zaB]at hF;refine mD (hF) (by simp -dsimp -implicitDefEqProofs [hshr,htk2,jA]) rfl ?_;cases h2:oO l.Length l.Width (l.yRY++[t])with
 |false=>rw[no (by simp[h2])];simp -dsimp -implicitDefEqProofs
 |true=>
 have e:xH l r t=(l.yt1 (l.yRY++[t]),true):=by simp[xH,h1,h2]
 rw[e];exact yafJ hshr htk2
def yfI{α:Type}(l:List α)(i:Nat):List α:=l.take i++l.drop (i+1)
def sK(l:yR0)(r:Reach):yR0×yRT×Bool:=
 match leaver l r with
 |some i=>(l.yt1 (yfI l.yRY i),l.yRY.getD i ⟨false,[]⟩,true)
 |none=>(l,⟨false,[]⟩,false)
def yuH{l:List yRT}(h:aJ l)(i:Nat):aJ (l.take i)/\aJ (l.drop i):=by
 refine⟨⟨?_,λt ht=>h.2 t (zas ht)⟩,⟨?_,λt ht=>h.2 t (zaI ht)⟩⟩
 .have:=h.1;rw[zay];omega
 .have:=h.1;rw[zaJ];omega
set_option maxRecDepth 20000 in
def ysW(l:yR0)(r:Reach)(hl:l.small):qB prg 285 [.agg (l.enc.map .c),.agg (r.enc.map .c)] (.tup [.agg ((sK l r).1.enc.map .c),.agg ((sK l r).2.1.enc.map .c),.c (.b (sK l r).2.2)]):=by
 have no:leaver l r=none->sK l r=(l,⟨false,[]⟩,false):=λh=>by unfold sK;rw[h]
 have hll:=hl.1;have la:=kM r;refine dB yp6 (goQ_ ?_);refine dD (yeo l hl) (goQ_ ?_);refine aA (pX l hl) ?_;cases h1:lF l with
 |false=>rw[no (by simp[leaver,yh,h1])];simp -dsimp -implicitDefEqProofs
 |true=>
 refine goQ_ ?_;refine aA (oL r) ?_;cases h2:xE r with
 |false=>rw[no (by simp[leaver,yh,h2])];simp -dsimp -implicitDefEqProofs
 |true=>
 by_cases h4:l.Gate=0
 .rw[no (by simp[leaver,yh,h4])];simp -dsimp -implicitDefEqProofs [h4]
 have hc:yh l r=true:=by simp[yh,h1,h2,h4]
 have hs:=yA2 h1 l.Gate;have he:leaver l r=l.yRY.findIdx? (leaves l r):=by simp[leaver,hc]
 obtain⟨R,hR⟩:∃R,sK l r=R:=⟨_,rfl⟩;rw[hR];refine yafw h4 ?_;intro hlen;refine qA (ι:=Nat) (λi=>i<=l.yRY.length/\∀(j:Nat) (t:yRT),j<i->l.yRY[j]?=some t->leaves l r t=false) (λi=>xC [(2,.box 2 0),(3,.box 3 0),(4,.box 4 0),(5,.box 5 0),(6,.c (.b false)),(7,.box 7 0),(28,.c (.sl 2 (l.yRY.map yRT.enc))),(29,.c (.i l.yRY.length)),(30,.c (.i i))] [(2,.box (l.enc.map .c)),(3,.box (r.enc.map .c)),(4,.box [.c (.i 0),.c (.i 0),.c (.i 0),.c (.i 0),.c (.i 0),.c (.i 0),.c (.i 0),.c (.i 0),.c (.i 0),.nil 2]),(5,.box [.c (.b false),.nil 1]),(7,.box (l.enc.map .c))]) (λi=>l.yRY.length-i) 0 ⟨zbA _,λj t h=>by omega⟩ (by apply aB<;>simp) ?_
 rintro i ⟨hi,hno⟩
 rcases yX1 i l.yRY with⟨ilt,t,ht⟩|ige
 .have gt:=(zaa.1 ht).2;have sm:=hl.2 t (zac ht);have hd:=ydq t
  have next:leaves l r t=false->∀(j:Nat) (t:yRT),j<i+1->l.yRY[j]?=some t->leaves l r t=false:=by
   intro h0 j t' hj ht';rcases zaq j i with e|e
   .exact hno j t' e ht'
   .obtain rfl:j=i:=by omega
    rw[ht]at ht';cases ht';exact h0
  refine yaeV ht gt ilt (fC ilt) ?_;refine⟨λhu=>?_,λhu=>?_⟩
  rotate_left
  .refine⟨gB ilt hlen,i+1,⟨ilt,next (by simp[leaves,hu])⟩,by omega,?_⟩;apply aB<;>simp
  refine lC (qL r) (goQ_ ?_);refine lC (yjR l l.Gate) (goQ_ ?_);refine⟨by unfold inI;omega,?_⟩;refine lC (yw t sm) (goQ_ ?_);refine⟨λhd1=>?_,λhd1=>?_⟩
  rotate_left
  .refine⟨gB ilt hlen,i+1,⟨ilt,next (by simp[leaves];intro _;omega)⟩,by omega,?_⟩;apply aB<;>simp
  have c1:=ybj (l.yRY.take i) (yuH hl i).1;have c2:=ybj (l.yRY.drop (i+1)) (yuH hl (i+1)).2;have k1:=iJ yRT.aF 2 (l.yRY.take i);have k2:=iJ yRT.aF 2 (l.yRY.drop (i+1));rw[zaV]at c1 k1;rw[zaV]at c1;rw[zcF]at c2 k2;rw[zcF]at c2;have hyes:leaves l r t=true:=by simp[leaves,hu];omega
  have el:leaver l r=some i:=by
   rw[he,zbG];refine⟨ilt,by rw[gt];exact hyes,λj hj=>?_⟩;rw[hno j _ hj (zab (by omega))];exact zaH
  have eR:R=(l.yt1 (yfI l.yRY i),t,true):=by
   rw[<-hR];unfold sK;rw[el];simp only[zaf,ht,zbc]
  subst eR;refine⟨hi,?_⟩;refine pJ c1 (by simp) k1 (by simp[fD]) (goQ_ ?_);refine⟨by unfold inI;omega,by omega,by omega,?_⟩;refine pJ c2 (by simp) k2 (by simp[fD]) (goQ_ ?_)
  have h8:l.yRY.length<=8:=by
   have h1':=h1;simp only[lF,zad]at h1';rcases zaq 8 l.yRY.length with e|e
   .have:=yg8 e;rw[this]at h1';simp at h1'
   .exact e
  refine⟨by omega,?_⟩;refine yage (yaU t sm) (dP (yRT.aF t)) ?_;have hsh:=eF yRT.bF (yfI l.yRY i);unfold yfI at hsh;rw[zaB,zaB,zaV,zaV,zcF,zcF]at hsh;have htk:List.take (min i l.yRY.length+(l.yRY.length-(i+1))) (List.take i (l.yRY.map yRT.iD)++List.drop (i+1) (l.yRY.map yRT.iD))=List.take i (l.yRY.map yRT.iD)++List.drop (i+1) (l.yRY.map yRT.iD):=List.take_of_length_le (by simp);have htd:List.take (l.yRY.length-(i+1)) (List.drop (i+1) (l.yRY.map yRT.iD))=List.drop (i+1) (l.yRY.map yRT.iD):=List.take_of_length_le (by simp);have hbo:=eF yI t.Rows;simp -dsimp -implicitDefEqProofs [htd,htk,hsh,hbo,jA,yfI]
 .obtain rfl:i=l.yRY.length:=by omega
  have e:leaver l r=none:=by
   rw[he,zce];intro t ht;obtain⟨j,hj⟩:=zbn.1 ht;exact hno j t (zaa.1 hj).1 hj
  rw[no e]at hR;subst hR;exact yafA (aG ige)
def rF(c:yR4)(now:Int):Int:=
 if jO c=true/\inRange now c.Since 1000000=true then
  if c.Booked≠ -1/\c.Booked<=now then -1 else if(now-c.Since).tdiv 20<qO c.yRT then qO c.yRT-(now-c.Since).tdiv 20 else 0
 else 3
structure ySO(c:yR4):Prop where
 tr:oC c.yRT=true
 cls:0<=qO c.yRT/\qO c.yRT<=2
 snc:0<=c.Since/\c.Since<=1000000
 bkd: -1<=c.Booked/\c.Booked<=1000000
def yqg{c:yR4}(h:jO c=true):ySO c:=by
 simp only[jO,zad]at h;obtain⟨⟨h1,h2⟩,h3⟩:=h;exact⟨h1,yvn h1,aC.1 h2,aC.1 h3⟩
def ykx(c:yR4)(now:Int)(h:c.small):qB prg 356 [.agg (c.enc.map .c),.c (.i now)] (.c (.i (rF c now))):=by
 refine dB yvY (goQ_ ?_);refine aA (yqV c h) ?_;cases h1:jO c with
 |false=>simp -dsimp -implicitDefEqProofs;simp[rF,h1]
 |true=>
 have cf:=yqg h1;have f1:=cf.cls;have f2:=cf.snc;have f3:=cf.bkd;refine goQ_ ?_;refine aA (iC now c.Since 1000000) ?_;cases h2:inRange now c.Since 1000000 with
 |false=>simp -dsimp -implicitDefEqProofs;simp[rF,h1,h2]
 |true=>
 have r2:=aC.1 h2
 have hq:0<=(now-c.Since).tdiv 20/\(now-c.Since).tdiv 20<=50000:=by
  rw[zaz (by omega)];omega
 have fin:¬(c.Booked≠ -1/\c.Booked<=now)->rF c now=if(now-c.Since).tdiv 20<qO c.yRT then qO c.yRT-(now-c.Since).tdiv 20 else 0:=λhn=>by
  unfold rF;rw[if_pos ⟨h1,h2⟩,if_neg hn]
 have fyes:(c.Booked≠ -1/\c.Booked<=now)->rF c now= -1:=λhn=>by
  unfold rF;rw[if_pos ⟨h1,h2⟩,if_pos hn]
 by_cases hb:c.Booked= -1
 .refine yafw hb ?_;refine lC (yhh c.yRT h) (goQ_ ?_);refine⟨by unfold inI;omega,by unfold inI;omega,by unfold inI;omega,?_⟩;rw[fin (by simp[hb])]
 .by_cases hb2:c.Booked<=now
  .refine yaed hb hb2 ?_;rw[fyes ⟨hb,hb2⟩]
  .refine yaed hb hb2 ?_;refine lC (yhh c.yRT h) (goQ_ ?_);refine⟨by unfold inI;omega,by unfold inI;omega,by unfold inI;omega,?_⟩;rw[fin (by simp[hb];omega)]
def yli{c:yR4}{now:Int}(h:rF c now≠3):oC c.yRT=true/\0<(lG c.yRT).length:=by
 by_cases h1:jO c=true
 .have h2:=(yqg h1).tr;exact⟨h2,by rw[lG,if_pos h2,zam];exact(lK h2).pos⟩
 .exact absurd (by simp[rF,h1]) h
def before(a b:yR4)(now:Int):Bool:=
 if rF a now=3\/rF b now=3 then false
 else if rF a now≠rF b now then decide (rF a now<rF b now)
 else if rF a now= -1/\a.Booked≠b.Booked then decide (a.Booked<b.Booked)
 else if a.Since≠b.Since then decide (a.Since<b.Since)
 else decide ((lG a.yRT)[0]?.getD 0<(lG b.yRT)[0]?.getD 0)
def ygG(a b:yR4)(now:Int)(ha:a.small)(hb:b.small):qB prg 358 [.agg (a.enc.map .c),.agg (b.enc.map .c),.c (.i now)] (.c (.b (before a b now))):=by
 refine dB ym7 (goQ_ ?_);refine lC (ykx a now ha) (goQ_ ?_);refine lC (ykx b now hb) ?_
 by_cases h1:rF a now=3
 .refine yafw h1 ?_;simp[before,h1]
 by_cases h2:rF b now=3
 .refine yaed h1 h2 ?_;simp[before,h2]
 by_cases h3:rF a now=rF b now
 rotate_left
 .refine yaeT h1 h2 h3 ?_;simp[before,h1,h2,h3]
 have last:a.Since=b.Since->¬(rF a now= -1/\a.Booked≠b.Booked)->before a b now=decide ((lG a.yRT)[0]?.getD 0<(lG b.yRT)[0]?.getD 0):=λh5 h6=>by
  unfold before;rw[if_neg (by simp[h1,h2]),if_neg (by simp[h3]),if_neg h6,if_neg (by simp[h5])]
 have snc:a.Since≠b.Since->¬(rF a now= -1/\a.Booked≠b.Booked)->before a b now=decide (a.Since<b.Since):=λh5 h6=>by
  unfold before;rw[if_neg (by simp[h1,h2]),if_neg (by simp[h3]),if_neg h6,if_pos h5]
 have bkd:(rF a now= -1/\a.Booked≠b.Booked)->before a b now=decide (a.Booked<b.Booked):=λh6=>by
  unfold before;rw[if_neg (by simp[h1,h2]),if_neg (by simp[h3]),if_pos h6]
 obtain⟨_,pa⟩:=yli h1;obtain⟨_,pb⟩:=yli h2;obtain⟨x,hx⟩:∃x,(lG a.yRT)[0]?=some x:=⟨_,zab pa⟩;obtain⟨y,hy⟩:∃x,(lG b.yRT)[0]?=some x:=⟨_,zab pb⟩;have gx:=(zaa.1 hx).2;have gy:=(zaa.1 hy).2
 by_cases h6:rF a now= -1/\a.Booked≠b.Booked
 .have h3':rF b now= -1:=by rw[<-h3];exact h6.1
  simp -dsimp -implicitDefEqProofs [h1,h2,h3,h6.1,h6.2,h3'];rw[bkd h6]
 by_cases h5:a.Since=b.Since
 rotate_left
 .by_cases h7:rF a now= -1
  .have h8:a.Booked=b.Booked:=by
    by_cases h:a.Booked=b.Booked
    .exact h
    .exact absurd ⟨h7,h⟩ h6
   have h3':rF b now= -1:=by rw[<-h3];exact h7
   refine yaeV h7 h8 h5 h3' ?_;rw[snc h5 h6]
  .have h3':¬rF b now= -1:=by rw[<-h3];exact h7
   refine yaff h1 h2 h3 h5 h3' ?_;rw[snc h5 h6]
 .have hl:=last h5 h6;rw[hx,hy]at hl;simp only[zbc]at hl
  by_cases h7:rF a now= -1
  .have h8:a.Booked=b.Booked:=by
    by_cases h:a.Booked=b.Booked
    .exact h
    .exact absurd ⟨h7,h⟩ h6
   have h3':rF b now= -1:=by rw[<-h3];exact h7
   refine yaeV h7 h8 h5 h3' ?_;refine gX (ya0 a.yRT ha) (yaeT pa hx gx ?_);refine gX (ya0 b.yRT hb) (yaeT pb hy gy ?_);rw[hl]
  .have h3':¬rF b now= -1:=by rw[<-h3];exact h7
   refine yaff h1 h2 h3 h5 h3' ?_;refine gX (ya0 a.yRT ha) (yaeT pa hx gx ?_);refine gX (ya0 b.yRT hb) (yaeT pb hy gy ?_);rw[hl]
def kC(x:Nat):List C:=[.i x]
def yri(lt:Nat->Nat->Bool)(x:Nat)(P:List Nat):List Nat:=(P.reverse.dropWhile (lt x)).reverse++x::(P.reverse.takeWhile (lt x)).reverse
def yeu(lt:Nat->Nat->Bool)(xs:List Nat):Nat->List Nat
 |0=>[]
 |i+1=>match xs[i]? with
  |some x=>yri lt x (yeu lt xs i)
  |none=>yeu lt xs i
def yip{p:Nat->Bool}:∀{a b:List Nat},(∀x∈a,p x=true)->(∀y l,b=y::l->p y=false)->(a++b).takeWhile p=a/\(a++b).dropWhile p=b
 |[],[],_,_=>⟨rfl,rfl⟩
 |[],y::l,_,h=>by
  have:=h y l rfl;simp[zbo,zcn,this]
 |x::a,b,h1,h2=>by
  have hx:=h1 x (by simp);obtain⟨e1,e2⟩:=yip (p:=p) (a:=a) (b:=b) (λy hy=>h1 y (by simp[hy])) h2;simp[zbo,zcn,hx,e1,e2]
def yyn{lt:Nat->Nat->Bool}{x:Nat}{P l1 l2:List Nat}(e:l1++l2=P)(h2:∀y∈l2,lt x y=true)(h1:∀l y,l1=l++[y]->lt x y=false):yri lt x P=l1++x::l2:=by
 have hr:P.reverse=l2.reverse++l1.reverse:=by rw[<-e,zdb]
 obtain⟨e1,e2⟩:=yip (p:=lt x) (a:=l2.reverse) (b:=l1.reverse) (λy hy=>h2 y (zea.1 hy)) (λy l h=>h1 l.reverse y (by
  have:=congrArg List.reverse h;simpa using this))
 unfold yri;rw[hr,e1,e2,zct,zct]
def yEr{lt:Nat->Nat->Bool}{x:Nat}{P:List Nat}:(yri lt x P).Perm (x::P):=by
 have h:(P.reverse.dropWhile (lt x)).reverse++(P.reverse.takeWhile (lt x)).reverse=P:=by
  rw[<-zdb,zch,zct]
 unfold yri;refine List.perm_middle.trans ?_;rw[h]
def ydH{lt:Nat->Nat->Bool}{xs:List Nat}{i x:Nat}(h:xs[i]?=some x):yeu lt xs (i+1)=yri lt x (yeu lt xs i):=by
 rw[yeu,h]
def ylr{lt:Nat->Nat->Bool}{xs:List Nat}:∀i:Nat,i<=xs.length->(yeu lt xs i).Perm (xs.take i)
 |0,_=>by simp[yeu]
 |i+1,h=>by
  have ih:=ylr (lt:=lt) (xs:=xs) i (by omega);rw[ydH (zab (show i<xs.length by omega)),zao,zab (show i<xs.length by omega)];refine yEr.trans ((ih.cons _).trans ?_);exact(List.perm_append_singleton _ _).symm
def sorted(lt:Nat->Nat->Bool)(xs:List Nat):List Nat:=yeu lt xs xs.length
def sorted_perm{lt:Nat->Nat->Bool}{xs:List Nat}:(sorted lt xs).Perm xs:=by
 have:=ylr (lt:=lt) (xs:=xs) xs.length (Nat.le_refl _)
 rwa [List.take_length]at this
def gO(lt:Nat->Nat->Bool)(xs:List Nat)(i:Nat):List Nat:=yeu lt xs i++xs.drop i
def gM(xs l1 l2:List Nat)(x i:Nat):List Nat:=(l1++x::l2)++xs.drop (i+1)
def yJ4{lt:Nat->Nat->Bool}{xs:List Nat}(h:1<=xs.length):gO lt xs 1=xs:=by
 obtain⟨x,l,rfl⟩:∃x l,xs=x::l:=by cases xs with|nil=>simp at h|cons x l=>exact⟨x,l,rfl⟩
 simp[gO,yeu,yri]
def yLn{lt:Nat->Nat->Bool}{xs:List Nat}:gO lt xs xs.length=sorted lt xs:=by simp[gO,sorted]
def gO_go{lt:Nat->Nat->Bool}{xs:List Nat}{i x:Nat}(h:xs[i]?=some x):gO lt xs i=gM xs (yeu lt xs i) [] x i:=by
 have hlt:=(zaa.1 h).1;have hx:=(zaa.1 h).2;unfold gO gM;rw[zaD hlt,hx];simp
def yGs{lt:Nat->Nat->Bool}{xs:List Nat}{i x:Nat}{l1 l2:List Nat}(hx:xs[i]?=some x)(h:yri lt x (yeu lt xs i)=l1++x::l2):gM xs l1 l2 x i=gO lt xs (i+1):=by
 unfold gO gM;rw[ydH hx,h]
def yMp{xs:List Nat}{i x:Nat}{l1 l2:List Nat}(h:l1.length+l2.length=i)(h2:i<xs.length):(gM xs l1 l2 x i).length=xs.length:=by simp[gM];omega
def yKv{xs:List Nat}{i x y:Nat}{l l2:List Nat}:(gM xs (l++[y]) l2 x i)[l.length+1]?=some x/\(gM xs (l++[y]) l2 x i)[l.length]?=some y/\
 ((gM xs (l++[y]) l2 x i).set (l.length+1) y).set l.length x=gM xs l (y::l2) x i:=by
 unfold gM;simp only[zaW,zcU,zcD];refine⟨by simp[zcg],by simp[zcg],?_⟩;simp[zcB]
def fE(cmp:Nat->Nat->Int)(x y:Nat):Bool:=decide (cmp x y<0)
def yDZ(o:List Nat):(cw 1 (o.map kC)).closed:=by
 cases o with
 |nil=>simp[cw,C.closed]
 |cons x l=>simp[cw,C.closed,kC]
def yCP(f:Nat)(a b:List C):InF prg 377 (.c (.sl 1 [])) (.c (.sl 1 [])) [.c (.i 0),.c (.i 0),.fn f [.elt a,.elt b]] (.tup []):=by
 refine aK dM (by simp) (by simp) rfl λhwf=>?_;refine goQ_ ?_;refine⟨by unfold inI;omega,?_⟩;refine qA (ι:=Unit) (λ_=>True) (λ_=>xC [(2,.c (.i 0)),(8,.c (.i 1)),(1000000,.c (.sl 1 []))] []) (λ_=>0) () trivial (by apply aB<;>simp) ?_
 rintro _ _
 refine goQ_ ?_;simp[ybG]
def yEk(f:Nat)(a b:List C):InF prg 350 (.c (.sl 1 [])) (.c (.sl 1 [])) [.c (.i 0),.fn f [.elt a,.elt b]] (.tup []):=by
 refine aK nS (by simp) (by simp) rfl λhwf=>?_;refine goQ_ ?_;refine qA (ι:=Unit) (λ_=>True) (λ_=>xC [(0,.c (.sl 1 [])),(1,.c (.i 0)),(2,.fn f [.elt a,.elt b]),(6,.c (.i 20)),(7,.c (.i 0)),(8,.c (.i 20)),(1000000,.c (.sl 1 []))] []) (λ_=>0) () trivial (by apply aB<;>simp) ?_
 rintro _ _
 refine goQ_ ?_;refine tH (up:=none) (yCP f a b) (by simp) rfl rfl (sS rfl) (goQ_ ?_);refine qA (ι:=Unit) (λ_=>True) (λ_=>xC [(1,.c (.i 0)),(6,.c (.i 20)),(1000000,.c (.sl 1 []))] []) (λ_=>0) () trivial (by apply aB<;>simp) ?_
 rintro _ _
 refine goQ_ ?_;simp[ybG]
def yv1(f:Nat)(a b:List C):InF prg 257 (.c (.sl 1 [])) (.c (.sl 1 [])) [.fn f [.elt a,.elt b]] (.tup []):=by
 refine aK iM (by simp) (by simp) rfl λhwf=>?_;refine goQ_ ?_;refine tH (up:=none) (yEk f a b) (by simp) rfl rfl (sS rfl) (goQ_ ?_);simp[ybG]
def yrt(list:List yR4)(now:Int)(x y:Nat):Int:=
 match list[x]?,list[y]? with
 |some a,some b=>if before a b now then -1 else if before b a now then 1 else 0
 |_,_=>0
def yBw(list:List yR4)(now:Int)(hs:oM list)(x y:Nat)(hx:x<list.length)(hy:y<list.length):
 qB prg 357 [.c (.i x),.c (.i y),.elt [.sl 4 (list.map yR4.enc)],.elt [.i now]] (.c (.i (yrt list now x y))):=by
 obtain⟨a,ha⟩:∃e,list[x]?=some e:=⟨_,zab hx⟩;obtain⟨b,hb⟩:∃e,list[y]?=some e:=⟨_,zab hy⟩;have g1:=(zaa.1 ha).2;have g2:=(zaa.1 hb).2;have sa:=hs.2 a (zac ha);have sb:=hs.2 b (zac hb);have e:yrt list now x y=if before a b now then -1 else if before b a now then 1 else 0:=by simp[yrt,ha,hb]
 rw[e];refine dB ylH ?_;simp -dsimp -implicitDefEqProofs [ydi,ha,hb,g1,g2,hx,hy];refine lC (ygG a b now sa sb) ?_;cases h1:before a b now with
 |true=>simp -dsimp -implicitDefEqProofs
 |false=>
 refine yafq ha hb g1 g2 hx hy ?_;refine lC (ygG b a now sb sa) ?_;cases h2:before b a now with
 |true=>simp -dsimp -implicitDefEqProofs
 |false=>simp -dsimp -implicitDefEqProofs
def oU(list:List yR4)(now:Int)(k:Nat):List Nat:=(List.range k).filter λi=>decide (rF (list[i]?.getD default) now≠3)
def yqT{list:List yR4}{now:Int}{k:Nat}{c:yR4}(h:list[k]?=some c):oU list now (k+1)=if rF c now=3 then oU list now k else oU list now k++[k]:=by
 unfold oU;rw[zdc,zcp]
 by_cases h2:rF c now=3<;>simp[h,h2]
def yxB{list:List yR4}{now:Int}{k x:Nat}(h:x∈oU list now k):x<k:=by
 unfold oU at h;exact zaQ.1 (zbE.1 h).1
def ync{list:List yR4}{now:Int}{k:Nat}:(oU list now k).length<=k:=by
 unfold oU;exact zaX (zbQ _ _) (by simp)
def kS(list:List yR4)(now:Int):List Nat:=sorted (fE (yrt list now)) (oU list now list.length)
def yfv(t:yRT):Int:=t.qE.length
end
end Go.Proofs.YtdadkiofenhnbaaGreat
