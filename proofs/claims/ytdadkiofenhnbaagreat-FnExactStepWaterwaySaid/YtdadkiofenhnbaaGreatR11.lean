/- What functions answer, in plain Lean. -/
import Derived.Test.YtdadkiofenhnbaaGreatR10
set_option linter.all false
set_option maxRecDepth 100000
set_option maxHeartbeats 4000000
namespace Go.Proofs.YtdadkiofenhnbaaGreat
open Go.RowKit
noncomputable section
def ykI(x:yRW)(k:Int)(h0:0<=k)(h1:wm9 x k<=4000000000000000000):
 InF prg 40 (.agg (((hsW x).map H.c).map .c)) (.agg (((hsM x k).map H.c).map .c)) [.c (.i k)] (.c (.i (wm9 x k))):=by
 obtain⟨b0,b1,b2,b3,b4,b5,b6,b7,b8,b9⟩:=wkB x h0;have e1:wm1 x k=k+cnt aH x.yRV:=rfl;have e2:wm2 x k=wm1 x k+2*x.ySl.length:=rfl;have e3:wm3 x k=wm2 x k+cnt iI x.yRX:=rfl;have e4:wm4 x k=wm3 x k+cnt kG x.yR3:=rfl;have e5:wm5 x k=wm4 x k+cnt jC x.yR9:=rfl;have e6:wm6 x k=wm5 x k+x.ySd.length:=rfl;have e7:wm7 x k=wm6 x k+nT x.yRZ:=rfl;have e8:wm8 x k=wm7 x k+5*x.Book.length:=rfl;have e9:wm9 x k=wm8 x k+cnt sF x.yR1:=rfl;have m1:=yyO x.yRV k h0 (by omega);have m2:=yB9 x.ySl (wm1 x k) (by omega) (by omega);have m3:=yAp x.yRX (wm2 x k) (by omega) (by omega);have m4:=ywc x.yR3 (wm3 x k) (by omega) (by omega);have m5:=ynJ x.yR9 (wm4 x k) (by omega) (by omega);have m6:=mV x.ySd (wm5 x k) (by omega) (by omega);have m7:=yxY x.yRZ (wm6 x k) (by omega) (by omega);have m8:=yxL x.Book (wm7 x k) (by omega) (by omega);have m9:=yuo x.yR1 (wm8 x k) (by omega) (by omega);rw[<-e1]at m1;rw[<-e2]at m2;rw[<-e3]at m3;rw[<-e4]at m4;rw[<-e5]at m5;rw[<-e6]at m6;rw[<-e7]at m7;rw[<-e8]at m8;rw[<-e9]at m9;refine yMr yly (by simp) (by simp[hsW,okH,H.ok]) rfl λhwf=>?_;simp[ydg,hsW];refine ygF (ver:=0) m1 (by simp) (by simp[jD]) (by simp) rfl rfl ?_;simp;refine ypR m2 (by simp) (by simp[kE]) (by simp) rfl rfl ?_;simp;refine ygF (ver:=0) m3 (by simp) (by simp[jD]) (by simp) rfl rfl ?_;simp;refine ygF (ver:=0) m4 (by simp) (by simp[jD]) (by simp) rfl rfl ?_;simp;refine ygF (ver:=0) m5 (by simp) (by simp[jD]) (by simp) rfl rfl ?_;simp;refine ypR m6 (by simp) (by simp[kE]) (by simp) rfl rfl ?_;simp;refine yFR m7 (by decide) rfl rfl (by simp) (by simp) (by simp[kE]) (by simp[kE]) (by simp) rfl rfl ?_;simp;refine ypR m8 (by simp) (by simp[kE]) (by simp) rfl rfl ?_;simp;refine ygF (ver:=0) m9 (by simp) (by simp[jD]) (by simp) rfl rfl ?_;simp;refine yLT ?_ ?_ ?_
 .simp[hsM];exact⟨yoO.symm,(ygu (by simp)).symm,yoO.symm,yoO.symm,yoO.symm,(ygu (by simp)).symm,(ygu (by simp)).symm,(ygu (by simp)).symm,(ygu (by simp)).symm,yoO.symm⟩
 .simp[hsM,yC7,lieH];exact⟨⟨1,rfl⟩,⟨1,rfl⟩,⟨1,rfl⟩,⟨1,rfl⟩,⟨1,rfl⟩⟩
 .simp[ybG]
def yFH(x:yRW)(k:Int):List C:=[.i x.Time,.sl 3 (dH yea aH k x.yRV),.sl 2 (marked yaj 2 [] (wm1 x k) x.ySl.length),.sl 22 (dH yhA iI (wm2 x k) x.yRX),.sl 1 (dH yb6 kG (wm3 x k) x.yR3),.sl 2 (dH ycI jC (wm4 x k) x.yR9),.sl 1 (marked qC 1 [] (wm5 x k) x.ySd.length),
 .i x.yRZ.Base,.i x.yRZ.ySe,.sl 1 (marked qC 1 [] (wm6 x k) x.yRZ.yR5.length),.sl 1 (marked qC 1 [] (wm6 x k+x.yRZ.yR5.length) x.yRZ.yR7.length),.sl 5 (marked ylw 5 [] (wm7 x k) x.Book.length),.sl 4 (dH yaA sF (wm8 x k) x.yR1),.i x.Start,.i x.In,.i x.Out]
def yyC(e:yRZ)(b p:Int)(k:Int)(h0:0<=k)(h1:k+nT e<=4000000000000000000):qB prg 124 [.agg [.c (.i b),.c (.i p),.c (.sl 1 (marked qC 1 [] k e.yR5.length)),.c (.sl 1 (marked qC 1 [] (k+e.yR5.length) e.yR7.length))],.c (.i k)] (.c (.i (k+nT e))):=by
 refine dB ynY ?_;unfold nT at h1|-;simp;refine aA (yhl e.yR5.length k h0 (by omega)) ?_;have n1:(k+(e.yR5.length:Int)<0)=False:=by simp;omega
 simp[n1];refine aA (yhl e.yR7.length (k+e.yR5.length) (by omega) (by omega)) ?_;have n2:(k+(e.yR5.length:Int)+(e.yR7.length:Int)<0)=False:=by simp;omega
 simp[n2];omega
def ytf(x:yRW)(k:Int)(h0:0<=k)(h1:wm9 x k<=4000000000000000000):qB prg 41 [.agg ((yFH x k).map .c),.c (.i k)] (.c (.i (wm9 x k))):=by
 obtain⟨b0,b1,b2,b3,b4,b5,b6,b7,b8,b9⟩:=wkB x h0;have e1:wm1 x k=k+cnt aH x.yRV:=rfl;have e2:wm2 x k=wm1 x k+2*x.ySl.length:=rfl;have e3:wm3 x k=wm2 x k+cnt iI x.yRX:=rfl;have e4:wm4 x k=wm3 x k+cnt kG x.yR3:=rfl;have e5:wm5 x k=wm4 x k+cnt jC x.yR9:=rfl;have e6:wm6 x k=wm5 x k+x.ySd.length:=rfl;have e7:wm7 x k=wm6 x k+nT x.yRZ:=rfl;have e8:wm8 x k=wm7 x k+5*x.Book.length:=rfl;have e9:wm9 x k=wm8 x k+cnt sF x.yR1:=rfl;have m1:=yyz x.yRV k h0 (by omega);have m2:=yB1 x.ySl.length (wm1 x k) (by omega) (by omega);have m3:=yAm x.yRX (wm2 x k) (by omega) (by omega);have m4:=ywA x.yR3 (wm3 x k) (by omega) (by omega);have m5:=yos x.yR9 (wm4 x k) (by omega) (by omega);have m6:=yhl x.ySd.length (wm5 x k) (by omega) (by omega);have m7:=yyC x.yRZ x.yRZ.Base x.yRZ.ySe (wm6 x k) (by omega) (by omega);have m8:=yxV x.Book.length (wm7 x k) (by omega) (by omega);have m9:=ysz x.yR1 (wm8 x k) (by omega) (by omega);rw[<-e1]at m1;rw[<-e2]at m2;rw[<-e3]at m3;rw[<-e4]at m4;rw[<-e5]at m5;rw[<-e6]at m6;rw[<-e7]at m7;rw[<-e8]at m8;rw[<-e9]at m9;have n1:(wm1 x k<0)=False:=by simp;omega
 have n2:(wm2 x k<0)=False:=by simp;omega
 have n3:(wm3 x k<0)=False:=by simp;omega
 have n4:(wm4 x k<0)=False:=by simp;omega
 have n5:(wm5 x k<0)=False:=by simp;omega
 have n6:(wm6 x k<0)=False:=by simp;omega
 have n7:(wm7 x k<0)=False:=by simp;omega
 have n8:(wm8 x k<0)=False:=by simp;omega
 have n9:(wm9 x k<0)=False:=by simp;omega
 clear e1 e2 e3 e4 e5 e6 e7 e8 e9;unfold yFH;refine dB ylE ?_;simp;refine aA m1 ?_;simp[n1];refine aA m2 ?_;simp[n2];refine aA m3 ?_;simp[n3];refine aA m4 ?_;simp[n4];refine aA m5 ?_;simp[n5];refine aA m6 ?_;simp[n6];refine aA m7 ?_;simp[n7];refine aA m8 ?_;simp[n8];refine aA m9 ?_;simp[n9]
def yGL(x:yRW)(k:Int):wm9 x k<=k+27*(kV x:Int):=by
 have a1:=yJ yzI x.yRV;have a2:=yJ yB8 x.yRX;have a3:=yJ yx8 x.yR3;have a4:=yJ yqH x.yR9;have a5:=yJ yvR x.yR1;have b1:ydQ x.yRV=yap ydF x.yRV:=rfl;have b2:yf3 x.yRX=yap ygK x.yRX:=rfl;have b3:ycz x.yR3=yap ydX x.yR3:=rfl;have b4:gY x.yR9=yap iT x.yR9:=rfl;have b5:ybt x.yR1=yap yaW x.yR1:=rfl;have c1:yto x.ySl=x.ySl.length:=rfl;have c2:ya2 x.ySd=x.ySd.length:=rfl;have c3:ynt x.Book=x.Book.length:=rfl;have c4:ya2 x.yRZ.yR5=x.yRZ.yR5.length:=rfl;have c5:ya2 x.yRZ.yR7=x.yRZ.yR7.length:=rfl;simp only[wm1,wm2,wm3,wm4,wm5,wm6,wm7,wm8,wm9,nT,kV,yhf];omega
def yxi{α:Type}{f:Int->α->List C}{n:α->Nat}{k:Int}{xs:List α}:(dH f n k xs).take xs.length=dH f n k xs:=List.take_of_length_le (by rw[jD];exact Nat.le_refl _)
def em(l:List yR6):List C:=[.ow 3 (l.map yR6.enc)]
def yHe(l:List yR6):dO (em l)=some (nD l):=rfl
def yRW.yXO(e:yRW):List C:=[.i e.Time,.ow 3 (e.yRV.map Reach.enc),.ow 2 (e.ySl.map Way.enc),.ow 22 (e.yRX.map yR8.enc),.ot 1 (e.yR3.map em),.ow 2 (e.yR9.map yRT.enc),.ow 1 (e.ySd.map qC),.i e.yRZ.Base,.i e.yRZ.ySe,.ow 1 (e.yRZ.yR5.map qC),.ow 1 (e.yRZ.yR7.map qC),.ow 5 (e.Book.map ySb.enc),.ow 4 (e.yR1.map yR2.enc),.i e.Start,.i e.In,.i e.Out]
def wE(w:yR8):List C:=[.i w.yR0.Length,.i w.yR0.Width,.i w.yR0.ySi,.i w.yR0.ySj,.i w.yR0.Base,.i w.yR0.Area,.i w.yR0.ySs,.i w.yR0.ySn,.i w.yR0.Gate,.sl 2 (w.yR0.yRY.map yRT.enc),.i w.ySp.ySu,.i w.ySp.Open,.i w.ySp.Step,.i w.ySp.ySy,.i w.ySp.Width,.i w.Rule.Low,.i w.Rule.High,.i w.Rule.ySx,.ow 2 (w.Pauses.map ySf.enc),.b w.Turn.Up,.i w.Turn.Count,.ow 4 (w.Calls.map yR4.enc)]
def yK7(w:yR8):dO (wE w)=some w.enc:=rfl
def ywh(w:yR8)(hl:yR8.small w):nI prg 137 [.agg (w.enc.map .c)] (.agg ((wE w).map .c)):=by
 obtain⟨s1,s2,s3⟩:=hl;have hl1:=s3.1;have hp1:=s2.1;have hsm:=s3.2;refine fF ynq (eP ?_);refine dD (yb7 w.yR0 s1) (goT_ ?_);refine⟨by omega,?_⟩;refine yX2 (λk=>k<=w.Calls.length) (λk=>xC [(1,.box 1 0),(2,.box 2 0),(3,.box 3 0),(4,.c (.i k))] [(1,.box (w.enc.map .c)),(2,.box [.c (.i 0),.c (.i 0),.c (.i 0),.c (.i 0),.c (.i 0),.c (.i 0),.c (.i 0),.c (.i 0),.c (.i 0),.nil 2,.c (.i 0),.c (.i 0),.c (.i 0),.c (.i 0),.c (.i 0),.c (.i 0),.c (.i 0),.c (.i 0),.nil 2,.c (.b false),.c (.i 0),.nil 4]),(3,.box ((w.enc.map .c).set 18 (.own 11 2 w.Pauses.length) |>.set 21 (.own 16 4 k))),(11,.row 2 (w.Pauses.map ySf.enc)),(16,.row 4 ((w.Calls.take k).map yR4.enc))]) (λk=>w.Calls.length-k) (by apply aB<;>simp[Obj.leO]) ?_
 rintro k hk
 rcases yX1 k w.Calls with⟨klt,e1,he⟩|kge
 .have he2:=hsm e1 (zac he);have g1:=(zaa.1 he).2;have hs2:(w.Calls.map yR4.enc).take (k+1)=(w.Calls.map yR4.enc).take k++[yR4.enc e1]:=by rw[zar,zaw,he];rfl
  refine yaeV he g1 klt (fC klt) ?_;intro hlen;refine dD (ybP e1.yRT he2) ?_;simp -dsimp -implicitDefEqProofs [he,g1,klt,fC klt,jA,Nat.min_eq_left hk];refine⟨by omega,gB klt hlen,k+1,klt,by omega,?_⟩;apply aB<;>simp[Obj.leO,hs2]
 have ek:k=w.Calls.length:=by omega
 subst ek;simp -dsimp -implicitDefEqProofs [jA,wE]
def yRW.yIh(e:yRW):List C:=[.i e.Time,.ow 3 (e.yRV.map Reach.enc),.ow 2 (e.ySl.map Way.enc),.ot 22 (e.yRX.map wE),.ot 1 (e.yR3.map em),.ow 2 (e.yR9.map yRT.enc),.ow 1 (e.ySd.map qC),.i e.yRZ.Base,.i e.yRZ.ySe,.ow 1 (e.yRZ.yR5.map qC),.ow 1 (e.yRZ.yR7.map qC),.ow 5 (e.Book.map ySb.enc),.ow 4 (e.yR1.map yR2.enc),.i e.Start,.i e.In,.i e.Out]
def yEs(x:yRW)(hl:x.small):nI prg 50 [.agg (x.enc.map .c)] (.agg (x.yIh.map .c)):=by
 obtain⟨s1,s2,s3,s4,s5,s6,s7,s8,s9⟩:=hl;have t1:=s1.1;have t2:=s2.1;have t3:=s3.1;have t4:=s4.1;have t5:=s5.1;have t6:=s6.1;have t8:=s8.1;have t9:=s9.1;have t71:=s7.1;have t72:=s7.2;refine fF ytg (eP ?_);refine yX2 (λk=>k<=x.yRV.length) (λk=>xC [(1,.box 1 0),(2,.box 2 0),(3,.box 3 0),(4,.c (.i k))] [(1,.box [.c (.i x.Time),.c (.sl 3 (x.yRV.map Reach.enc)),.c (.sl 2 (x.ySl.map Way.enc)),.c (.sl 22 (x.yRX.map yR8.enc)),.c (.sl 1 (x.yR3.map nD)),.c (.sl 2 (x.yR9.map yRT.enc)),.c (.sl 1 (x.ySd.map qC)),.c (.i x.yRZ.Base),.c (.i x.yRZ.ySe),.c (.sl 1 (x.yRZ.yR5.map qC)),.c (.sl 1 (x.yRZ.yR7.map qC)),.c (.sl 5 (x.Book.map ySb.enc)),.c (.sl 4 (x.yR1.map yR2.enc)),.c (.i x.Start),.c (.i x.In),.c (.i x.Out)]),(2,zW),(3,.box [.c (.i x.Time),.own 13 3 k,.c (.sl 2 (x.ySl.map Way.enc)),.c (.sl 22 (x.yRX.map yR8.enc)),.c (.sl 1 (x.yR3.map nD)),.c (.sl 2 (x.yR9.map yRT.enc)),.c (.sl 1 (x.ySd.map qC)),.c (.i x.yRZ.Base),.c (.i x.yRZ.ySe),.c (.sl 1 (x.yRZ.yR5.map qC)),.c (.sl 1 (x.yRZ.yR7.map qC)),.c (.sl 5 (x.Book.map ySb.enc)),.c (.sl 4 (x.yR1.map yR2.enc)),.c (.i x.Start),.c (.i x.In),.c (.i x.Out)]),(13,.row 3 ((x.yRV.take k).map Reach.enc))]) (λk=>x.yRV.length-k) (by apply aB<;>simp[Obj.leO]) ?_
 rintro k hk
 rcases yX1 k x.yRV with⟨klt,e1,he⟩|kge
 .have he2:=s1.2 e1 (zac he);have g1:=(zaa.1 he).2;have hs2:(x.yRV.map Reach.enc).take (k+1)=(x.yRV.map Reach.enc).take k++[Reach.enc e1]:=by rw[zar,zaw,he];rfl
  refine yaeV he g1 klt (fC klt) ?_;intro hlen;refine bI (ypc e1 he2) ?_;simp -dsimp -implicitDefEqProofs [he,g1,klt,fC klt,jA,Nat.min_eq_left hk,iW];refine⟨by omega,gB klt hlen,k+1,klt,by omega,?_⟩;apply aB<;>simp[Obj.leO,hs2]
 have ek:k=x.yRV.length:=by omega
 subst ek;refine goT_ ?_;intro _;refine⟨by omega,?_⟩;refine yX2 (λk=>k<=x.yRX.length) (λk=>xC [(1,.box 1 0),(2,.box 2 0),(3,.box 3 0),(5,.c (.i k))] [(1,.box [.c (.i x.Time),.c (.sl 3 (x.yRV.map Reach.enc)),.c (.sl 2 (x.ySl.map Way.enc)),.c (.sl 22 (x.yRX.map yR8.enc)),.c (.sl 1 (x.yR3.map nD)),.c (.sl 2 (x.yR9.map yRT.enc)),.c (.sl 1 (x.ySd.map qC)),.c (.i x.yRZ.Base),.c (.i x.yRZ.ySe),.c (.sl 1 (x.yRZ.yR5.map qC)),.c (.sl 1 (x.yRZ.yR7.map qC)),.c (.sl 5 (x.Book.map ySb.enc)),.c (.sl 4 (x.yR1.map yR2.enc)),.c (.i x.Start),.c (.i x.In),.c (.i x.Out)]),(2,zW),(3,.box [.c (.i x.Time),.own 13 3 x.yRV.length,.own 33 2 x.ySl.length,.own 38 22 k,.c (.sl 1 (x.yR3.map nD)),.c (.sl 2 (x.yR9.map yRT.enc)),.c (.sl 1 (x.ySd.map qC)),.c (.i x.yRZ.Base),.c (.i x.yRZ.ySe),.c (.sl 1 (x.yRZ.yR5.map qC)),.c (.sl 1 (x.yRZ.yR7.map qC)),.c (.sl 5 (x.Book.map ySb.enc)),.c (.sl 4 (x.yR1.map yR2.enc)),.c (.i x.Start),.c (.i x.In),.c (.i x.Out)]),(13,.row 3 (x.yRV.map Reach.enc)),(33,.row 2 (x.ySl.map Way.enc)),(38,.tr 22 0 ((x.yRX.map wE).take k))]) (λk=>x.yRX.length-k) (by apply aB<;>simp[Obj.leO]) ?_
 rintro k hk
 rcases yX1 k x.yRX with⟨klt,e1,he⟩|kge
 .have he2:=s3.2 e1 (zac he);have g1:=(zaa.1 he).2;have hs2:(x.yRX.map wE).take (k+1)=(x.yRX.map wE).take k++[wE e1]:=by rw[zar,zaw,he];rfl
  refine yaeV he g1 klt (fC klt) ?_;intro hlen;refine yCa (ywh e1 he2) (by simp) rfl (by simp[fD,wE]) ?_;simp -dsimp -implicitDefEqProofs [he,g1,klt,fC klt,jA,Nat.min_eq_left hk,iW,wE];refine⟨by omega,gB klt hlen,k+1,klt,by omega,?_⟩;apply aB<;>simp[Obj.leO,hs2,wE]
 have ek:k=x.yRX.length:=by omega
 subst ek;refine goT_ ?_;intro _;refine yX2 (λk=>k<=x.yR3.length) (λk=>xC [(1,.box 1 0),(2,.box 2 0),(3,.box 3 0),(6,.c (.i k))] [(1,.box [.c (.i x.Time),.c (.sl 3 (x.yRV.map Reach.enc)),.c (.sl 2 (x.ySl.map Way.enc)),.c (.sl 22 (x.yRX.map yR8.enc)),.c (.sl 1 (x.yR3.map nD)),.c (.sl 2 (x.yR9.map yRT.enc)),.c (.sl 1 (x.ySd.map qC)),.c (.i x.yRZ.Base),.c (.i x.yRZ.ySe),.c (.sl 1 (x.yRZ.yR5.map qC)),.c (.sl 1 (x.yRZ.yR7.map qC)),.c (.sl 5 (x.Book.map ySb.enc)),.c (.sl 4 (x.yR1.map yR2.enc)),.c (.i x.Start),.c (.i x.In),.c (.i x.Out)]),(2,zW),(3,.box [.c (.i x.Time),.own 13 3 x.yRV.length,.own 33 2 x.ySl.length,.own 38 22 x.yRX.length,.own 58 1 k,.c (.sl 2 (x.yR9.map yRT.enc)),.c (.sl 1 (x.ySd.map qC)),.c (.i x.yRZ.Base),.c (.i x.yRZ.ySe),.c (.sl 1 (x.yRZ.yR5.map qC)),.c (.sl 1 (x.yRZ.yR7.map qC)),.c (.sl 5 (x.Book.map ySb.enc)),.c (.sl 4 (x.yR1.map yR2.enc)),.c (.i x.Start),.c (.i x.In),.c (.i x.Out)]),(13,.row 3 (x.yRV.map Reach.enc)),(33,.row 2 (x.ySl.map Way.enc)),(38,.tr 22 0 (x.yRX.map wE)),(58,if k=0 then .row 1 []else .tr 1 0 ((x.yR3.take k).map em))]) (λk=>x.yR3.length-k) (by apply aB<;>simp[Obj.leO]) ?_
 rintro k hk
 rcases yX1 k x.yR3 with⟨klt,l,hl⟩|kge
 .have hls:=s4.2 l (zac hl);have hll:=hls.1;have g1:=(zaa.1 hl).2;have hs2:(x.yR3.map em).take (k+1)=(x.yR3.map em).take k++[em l]:=by rw[zar,zaw,hl];rfl
  refine yaeV hl g1 klt (fC klt) ?_;intro hlen;generalize hZ:(if k=0 then Obj.row 1 []else .tr 1 0 ((x.yR3.map em).take k))=Z;have hz1:Z.leO Z:=by rw[<-hZ];split<;>first|rfl|exact⟨rfl,rfl⟩
  have hz2:∀i,Z.kill i=Z:=by intro i;rw[<-hZ];split<;>rfl
  have hz3:∀L,Z.ye9 L=true:=by intro L;rw[<-hZ];split<;>rfl
  simp only[Obj.leO]at hz1;simp only[Obj.ye9]at hz3;refine yX2 (λi=>i<=l.length) (λi=>xC [(1,.box 1 0),(2,.box 2 0),(3,.box 3 0),(6,.c (.i k)),(7,.own 67 3 i),(8,.c (.i i))] [(1,.box [.c (.i x.Time),.c (.sl 3 (x.yRV.map Reach.enc)),.c (.sl 2 (x.ySl.map Way.enc)),.c (.sl 22 (x.yRX.map yR8.enc)),.c (.sl 1 (x.yR3.map nD)),.c (.sl 2 (x.yR9.map yRT.enc)),.c (.sl 1 (x.ySd.map qC)),.c (.i x.yRZ.Base),.c (.i x.yRZ.ySe),.c (.sl 1 (x.yRZ.yR5.map qC)),.c (.sl 1 (x.yRZ.yR7.map qC)),.c (.sl 5 (x.Book.map ySb.enc)),.c (.sl 4 (x.yR1.map yR2.enc)),.c (.i x.Start),.c (.i x.In),.c (.i x.Out)]),(2,zW),(3,.box [.c (.i x.Time),.own 13 3 x.yRV.length,.own 33 2 x.ySl.length,.own 38 22 x.yRX.length,.own 58 1 k,.c (.sl 2 (x.yR9.map yRT.enc)),.c (.sl 1 (x.ySd.map qC)),.c (.i x.yRZ.Base),.c (.i x.yRZ.ySe),.c (.sl 1 (x.yRZ.yR5.map qC)),.c (.sl 1 (x.yRZ.yR7.map qC)),.c (.sl 5 (x.Book.map ySb.enc)),.c (.sl 4 (x.yR1.map yR2.enc)),.c (.i x.Start),.c (.i x.In),.c (.i x.Out)]),(13,.row 3 (x.yRV.map Reach.enc)),(33,.row 2 (x.ySl.map Way.enc)),(38,.tr 22 0 (x.yRX.map wE)),(58,Z),(67,.row 3 ((l.take i).map yR6.enc))]) (λi=>l.length-i) (by apply aB<;>simp[Obj.leO,hz1,hz2,hz3]) ?_
  rintro i hi
  rcases yX1 i l with⟨ilt,m,hm⟩|ige
  .have hms:=hls.2 m (zac hm);have g2:=(zaa.1 hm).2;have hs3:(l.map yR6.enc).take (i+1)=(l.map yR6.enc).take i++[yR6.enc m]:=by rw[zar,zaw,hm];rfl
   refine yafK hl hm g1 g2 klt (fC klt) ilt (fC ilt) ?_;intro hlen2;refine dD (yFb m hms) (yafv (Nat.min_eq_left hi) ?_);refine⟨by omega,gB ilt hlen2,i+1,ilt,by omega,?_⟩;apply aB<;>simp[Obj.leO,hs3,hz1,hz2,hz3]
  have ei:i=l.length:=by omega
  subst ei;simp -dsimp -implicitDefEqProofs [hl,g1,klt,fC klt,jA,hz2];intro _;subst hZ;rcases zao k with e0|e0
  .subst e0;have hs3:(x.yR3.map em).take 1=[em l]:=by simpa using hs2
   refine goT_ ?_;refine⟨by unfold inI;omega,1,klt,by omega,?_⟩;apply aB<;>simp[Obj.leO,hs3,em]
  .have hne:(k=0)=False:=by simp;omega
   refine goT_2 hne (Nat.min_eq_left hk) ?_;refine⟨by omega,gB klt hlen,k+1,klt,by omega,?_⟩;apply aB<;>simp[Obj.leO,hs2,em]
 have ek:k=x.yR3.length:=by omega
 subst ek;refine goT_ ?_;intro _;have hif:(if x.yR3=[]then Obj.row 1 []else .tr 1 0 (x.yR3.map em))=(if x.yR3.length=0 then Obj.row 1 []else .tr 1 0 (x.yR3.map em)):=by cases x.yR3<;>simp
 generalize hZ:(if x.yR3.length=0 then Obj.row 1 []else .tr 1 0 (x.yR3.map em))=Z at hif;have hz1:Z.leO Z:=by rw[<-hZ];split<;>first|rfl|exact⟨rfl,rfl⟩
 have hz2:∀i,Z.kill i=Z:=by intro i;rw[<-hZ];split<;>rfl
 have hz3:∀L,Z.ye9 L=true:=by intro L;rw[<-hZ];split<;>rfl
 simp only[Obj.leO]at hz1;simp only[Obj.ye9]at hz3;refine yX2 (λk=>k<=x.yR9.length) (λk=>xC [(1,.box 1 0),(2,.box 2 0),(3,.box 3 0),(9,.c (.i k))] [(1,.box [.c (.i x.Time),.c (.sl 3 (x.yRV.map Reach.enc)),.c (.sl 2 (x.ySl.map Way.enc)),.c (.sl 22 (x.yRX.map yR8.enc)),.c (.sl 1 (x.yR3.map nD)),.c (.sl 2 (x.yR9.map yRT.enc)),.c (.sl 1 (x.ySd.map qC)),.c (.i x.yRZ.Base),.c (.i x.yRZ.ySe),.c (.sl 1 (x.yRZ.yR5.map qC)),.c (.sl 1 (x.yRZ.yR7.map qC)),.c (.sl 5 (x.Book.map ySb.enc)),.c (.sl 4 (x.yR1.map yR2.enc)),.c (.i x.Start),.c (.i x.In),.c (.i x.Out)]),(2,zW),(3,.box [.c (.i x.Time),.own 13 3 x.yRV.length,.own 33 2 x.ySl.length,.own 38 22 x.yRX.length,.own 58 1 x.yR3.length,.own 96 2 k,.c (.sl 1 (x.ySd.map qC)),.c (.i x.yRZ.Base),.c (.i x.yRZ.ySe),.c (.sl 1 (x.yRZ.yR5.map qC)),.c (.sl 1 (x.yRZ.yR7.map qC)),.c (.sl 5 (x.Book.map ySb.enc)),.c (.sl 4 (x.yR1.map yR2.enc)),.c (.i x.Start),.c (.i x.In),.c (.i x.Out)]),(13,.row 3 (x.yRV.map Reach.enc)),(33,.row 2 (x.ySl.map Way.enc)),(38,.tr 22 0 (x.yRX.map wE)),(58,Z),(96,.row 2 ((x.yR9.take k).map yRT.enc))]) (λk=>x.yR9.length-k) (by apply aB<;>simp[Obj.leO,hif,hz1,hz2,hz3]) ?_
 rintro k hk
 rcases yX1 k x.yR9 with⟨klt,e1,he⟩|kge
 .have he2:=s5.2 e1 (zac he);have g1:=(zaa.1 he).2;have hs2:(x.yR9.map yRT.enc).take (k+1)=(x.yR9.map yRT.enc).take k++[yRT.enc e1]:=by rw[zar,zaw,he];rfl
  refine yaeV he g1 klt (fC klt) ?_;intro hlen;refine bI (ybP e1 he2) ?_;simp -dsimp -implicitDefEqProofs [he,g1,klt,fC klt,jA,Nat.min_eq_left hk,iW];refine⟨by omega,gB klt hlen,k+1,klt,by omega,?_⟩;apply aB<;>simp[Obj.leO,hif,hz1,hz2,hz3,hs2]
 have ek:k=x.yR9.length:=by omega
 subst ek;refine goT_ ?_;intro _;refine⟨by omega,by omega,by omega,by omega,?_⟩;refine yX2 (λk=>k<=x.yR1.length) (λk=>xC [(1,.box 1 0),(2,.box 2 0),(3,.box 3 0),(10,.c (.i k))] [(1,.box [.c (.i x.Time),.c (.sl 3 (x.yRV.map Reach.enc)),.c (.sl 2 (x.ySl.map Way.enc)),.c (.sl 22 (x.yRX.map yR8.enc)),.c (.sl 1 (x.yR3.map nD)),.c (.sl 2 (x.yR9.map yRT.enc)),.c (.sl 1 (x.ySd.map qC)),.c (.i x.yRZ.Base),.c (.i x.yRZ.ySe),.c (.sl 1 (x.yRZ.yR5.map qC)),.c (.sl 1 (x.yRZ.yR7.map qC)),.c (.sl 5 (x.Book.map ySb.enc)),.c (.sl 4 (x.yR1.map yR2.enc)),.c (.i x.Start),.c (.i x.In),.c (.i x.Out)]),(2,zW),(3,.box [.c (.i x.Time),.own 13 3 x.yRV.length,.own 33 2 x.ySl.length,.own 38 22 x.yRX.length,.own 58 1 x.yR3.length,.own 96 2 x.yR9.length,.own 116 1 x.ySd.length,.c (.i x.yRZ.Base),.c (.i x.yRZ.ySe),.own 121 1 x.yRZ.yR5.length,.own 128 1 x.yRZ.yR7.length,.own 135 5 x.Book.length,.own 140 4 k,.c (.i x.Start),.c (.i x.In),.c (.i x.Out)]),(13,.row 3 (x.yRV.map Reach.enc)),(33,.row 2 (x.ySl.map Way.enc)),(38,.tr 22 0 (x.yRX.map wE)),(58,Z),(96,.row 2 (x.yR9.map yRT.enc)),(116,.row 1 (x.ySd.map qC)),(121,.row 1 (x.yRZ.yR5.map qC)),(128,.row 1 (x.yRZ.yR7.map qC)),(135,.row 5 (x.Book.map ySb.enc)),(140,.row 4 ((x.yR1.take k).map yR2.enc))]) (λk=>x.yR1.length-k) (by apply aB<;>simp[Obj.leO,hif,hz1,hz2,hz3]) ?_
 rintro k hk
 rcases yX1 k x.yR1 with⟨klt,e1,he⟩|kge
 .have he2:=s9.2 e1 (zac he);have g1:=(zaa.1 he).2;have hs2:(x.yR1.map yR2.enc).take (k+1)=(x.yR1.map yR2.enc).take k++[yR2.enc e1]:=by rw[zar,zaw,he];rfl
  refine yaeV he g1 klt (fC klt) ?_;intro hlen;refine dD (ybP e1.yRT he2) ?_;simp -dsimp -implicitDefEqProofs [he,g1,klt,fC klt,jA,Nat.min_eq_left hk,iW];refine⟨by omega,gB klt hlen,k+1,klt,by omega,?_⟩;apply aB<;>simp[Obj.leO,hif,hz1,hz2,hz3,hs2]
 have ek:k=x.yR1.length:=by omega
 subst ek;refine goT_ ?_;intro _;subst hZ
 by_cases e:x.yR3.length=0
 .have e2:x.yR3=[]:=zae.1 e;simp[yRW.yIh,e2,jA]
 .simp[yRW.yIh,e,jA]
def yWv(x:yRW)(hl:x.small):nI prg 50 [.agg (x.enc.map .c)] (.agg (x.yXO.map .c)):=
 (yEs x hl).loose (by
  simp only[yRW.yIh,yRW.yXO,Los];exact⟨.same _,.same _,.same _,.flat (eF yK7 x.yRX),.same _,.same _,.same _,.same _,.same _,.same _,.same _,.same _,.same _,.same _,.same _,.same _,trivial⟩)
def yRW.qX(x:yRW)(W M:List (List C)):List C:=[.i x.Time,.ow 3 (x.yRV.map Reach.enc),.sl 2 (x.ySl.map Way.enc),.ot 22 W,.ot 1 M,.sl 2 (x.yR9.map yRT.enc),.sl 1 (x.ySd.map qC),.i x.yRZ.Base,.i x.yRZ.ySe,.sl 1 (x.yRZ.yR5.map qC),.sl 1 (x.yRZ.yR7.map qC),.sl 5 (x.Book.map ySb.enc),.ow 4 (x.yR1.map yR2.enc),.i x.Start,.i x.In,.i x.Out]
def yDS(x:yRW)(hl:x.small):nI prg 50 [.agg (x.enc.map .c)] (.agg ((x.qX (x.yRX.map yR8.enc) (x.yR3.map em)).map .c)):=
 (yEs x hl).loose (by
  simp only[yRW.yIh,yRW.qX,Los];exact⟨.same _,.same _,.give rfl,(Lo.flat (eF yK7 x.yRX)).trans (.tree _ _),.same _,.give rfl,.give rfl,.same _,.same _,.give rfl,.give rfl,.give rfl,.same _,.same _,.same _,.same _,trivial⟩)
def sent(q:Int):List Reach->List Reach
 |[]=>[]
 |r::l=>dU r q::l
def yUd(x:yRW)(q:Int):Bool:=decide (q<=1000000000-x.Start-x.In)
def yTo(x:yRW)(q:Int):List Reach:=if yUd x q then sent q x.yRV else x.yRV
def yTF(x:yRW)(q:Int):Bool:=rC x&& !decide (x.Time=1000000)&&decide (0<=q)
def yS0(x:yRW)(q:Int):yRW:=
 if yTF x q then⟨x.Time+1,(yTo x q).map yS8,x.ySl,x.yRX,x.yR3,x.yR9,x.ySd,x.yRZ,x.Book,x.yR1,x.Start,if yUd x q then x.In+q else x.In,x.Out⟩else x
def yTO(rs:List Reach)(k:Nat):List Reach:=(rs.take k).map yS8++rs.drop k
def yWZ{rs:List Reach}:yTO rs 0=rs:=by simp[yTO]
def yXe{rs:List Reach}{k:Nat}(h:rs.length<=k):yTO rs k=rs.map yS8:=by
 unfold yTO;rw[List.take_of_length_le h,zbF h,zcb]
def yXk{rs:List Reach}{k:Nat}:(yTO rs k).length=rs.length:=by
 unfold yTO;simp;omega
def yXB{rs:List Reach}{k:Nat}(h:k<rs.length):(yTO rs k)[k]?=rs[k]?:=by
 unfold yTO;rw[zau (by simp;omega)];simp[Nat.min_eq_left (Nat.le_of_lt h)]
def yXg{rs:List Reach}{k:Nat}{r:Reach}(h:rs[k]?=some r):(yTO rs k).set k (yS8 r)=yTO rs (k+1):=by
 have hlt:=(zaa.1 h).1;have hg:=(zaa.1 h).2;unfold yTO;rw[zar,h,zay hlt,hg];have hl:((rs.take k).map yS8).length=k:=by simp;omega
 rw[zbr _ _ (by omega),hl];simp
def yxR{r:Reach}{a:Int}(h:r.small):(dU r a).small:=by
 unfold dU;split
 .split
  .exact h
  .exact⟨h.1,by simpa using h.2.1,λ_ _=>trivial⟩
 .exact h
def yWD{r:Reach}(h:r.small):(yS8 r).small:=by
 unfold yS8;split
 .rename_i h2;simp only[zad,decide_eq_true_eq]at h2;refine⟨h.1,?_,λ_ _=>trivial⟩;have:=h.2.1;simp;omega
 .exact h
def yXJ{q:Int}{l:List Reach}:(sent q l).length=l.length:=by cases l<;>rfl
def yTx{x:yRW}{q:Int}:(yTo x q).length=x.yRV.length:=by unfold yTo;split<;>simp[yXJ]
def yUz{x:yRW}{q:Int}(h:ybv x.yRV):ybv (yTo x q):=by
 refine⟨by rw[yTx];exact h.1,λr hr=>?_⟩;unfold yTo at hr;split at hr
 .have h2:=h.2;revert hr h2;cases x.yRV with
  |nil=>intro hr;simp[sent]at hr
  |cons a l=>
   intro hr h2;simp only[sent,zaC]at hr;rcases hr with rfl|hr
   .exact yxR (h2 a (by simp))
   .exact h2 r (by simp[hr])
 .exact h.2 r hr
def yTM{x:yRW}{q:Int}(h:x.small):(yS0 x q).small:=by
 unfold yS0;split
 .obtain⟨s1,s2⟩:=h;have p:=yUz (q:=q) s1;refine⟨⟨by simpa using p.1,λr hr=>?_⟩,s2⟩;obtain⟨r0,h0,rfl⟩:=zaO.1 hr;exact yWD (p.2 r0 h0)
 .exact h
def yFx(es:List Reach)(hl:es.length<=1048576):nI prg 176 [.c (.sl 3 (es.map Reach.enc))] (.c (.ow 3 (es.map Reach.enc))):=by
 refine fF qZ ?_;simp[mP,jA];omega
def yWX{x:yRW}(h:rC x=true):∃r l,x.yRV=r::l:=by
 simp only[rC,sJ,zad,decide_eq_true_eq]at h;obtain⟨⟨⟨⟨⟨⟨⟨h1,h2⟩,h3⟩,h4⟩,h5⟩,h6⟩,h7⟩,h8⟩:=h;have:=h2.1.1.1.1.1.2;cases hx:x.yRV with
 |nil=>rw[hx]at this;simp at this
 |cons r l=>exact⟨r,l,rfl⟩
def yXn{x:yRW}(h:rC x=true):0<=x.Time/\x.Time<=1000000:=by
 simp only[rC,zad]at h;exact aC.1 h.1.1.1.1.1.1.1
def rsC(rs:List Reach)(k:Nat):List (List C):=(yTO rs k).map Reach.enc
def yVP{rs:List Reach}{k:Nat}:(rsC rs k).length=rs.length:=by unfold rsC;rw[zai,yXk]
def yWL{rs:List Reach}{k:Nat}{r:Reach}(h:rs[k]?=some r):(rsC rs k)[k]?=some r.enc:=by
 unfold rsC;rw[zaw,yXB (zaa.1 h).1,h];rfl
def yVQ{rs:List Reach}{k:Nat}{r:Reach}(h:rs[k]?=some r):(rsC rs k).set k (yS8 r).enc=rsC rs (k+1):=by
 unfold rsC;rw[<-yXg h,zaR]
def yVf{rs:List Reach}:rsC rs 0=rs.map Reach.enc:=by unfold rsC;rw[yWZ]
def yVR{rs:List Reach}{k:Nat}(h:rs.length<=k):rsC rs k=(rs.map yS8).map Reach.enc:=by unfold rsC;rw[yXe h]
def yVk(r:Reach)(hl:r.small):qB prg 184 [.agg (r.enc.map .c)] (.agg ((yS8 r).enc.map .c)):=(yW0 r hl).pure (Reach.yoT _)
def yUO{x:yRW}{q:Int}(h:yTF x q=false):yS0 x q=x:=by simp[yS0,h]
def yXU(x:yRW)(q:Int)(hl:x.small):qB prg 74 [.agg (x.enc.map .c),.c (.i q)] (.agg ((yS0 x q).enc.map .c)):=by
 have hl0:=hl;obtain⟨s1,s2,s3,s4,s5,s6,s7,s8,s9⟩:=hl;have s11:=s1.1;refine dB yWU (eP ?_);refine aA (yis x hl0) ?_;cases h:rC x with
 |false=>simp -dsimp -implicitDefEqProofs;simp[yUO,yTF,h]
 |true=>
 have ht:=yXn h;have hw:=yCL h;obtain⟨r0,rl,hrl⟩:=yWX h;refine eP ?_;refine⟨λht2=>?_,λht2=>?_⟩
 rotate_left
 .rw[yUO (by simp[yTF,ht2])];simp
 refine⟨λhq=>?_,λhq=>?_⟩
 .have:¬0<=q:=by omega
  rw[yUO (by simp[yTF,this])];simp
 have hc:yTF x q=true:=by simp[yTF,h,ht2,hq]
 have w1:=hw.start;have w2:=hw.inn;refine⟨by unfold inI;omega,?_⟩;refine yX5 (yFx x.yRV s11) (goT_ ?_);refine⟨by unfold inI;omega,by unfold inI;omega,λhp=>?_,λhp=>?_⟩
 .have hpi:yUd x q=true:=by simp[yUd];omega
  have hrs:yTo x q=dU r0 q::rl:=by simp[yTo,hpi,hrl,sent]
  have e:yS0 x q=⟨x.Time+1,(yTo x q).map yS8,x.ySl,x.yRX,x.yR3,x.yR9,x.ySd,x.yRZ,x.Book,x.yR1,x.Start,x.In+q,x.Out⟩:=by simp[yS0,hc,hpi]
  rw[e];have h00:x.yRV[0]?=some r0:=by rw[hrl];rfl
  have hg0:0<x.yRV.length:=by rw[hrl];simp
  have hset0:(x.yRV.map Reach.enc).set 0 (dU r0 q).enc=(yTo x q).map Reach.enc:=by rw[hrs,hrl];rfl
  have hr0:r0.small:=s1.2 r0 (by rw[hrl];simp);simp only[Reach.enc]at hset0;have g00:=(zaa.1 h00).2;refine yaeT h00 g00 hg0 ?_;refine bI (yyV r0 q hr0) (yaeV h00 g00 hg0 hset0 ?_);refine⟨by unfold inI;omega,?_⟩;intro hlen;refine yX2 (λk=>k<=x.yRV.length) (λk=>xC [(2,.box 2 0),(4,.box 4 0),(5,.box 5 0),(53,.own 28 3 x.yRV.length),(54,.c (.i x.yRV.length)),(55,.c (.i k))] [(2,.box [.c (.i x.Time),.c (.sl 3 (x.yRV.map Reach.enc)),.c (.sl 2 (x.ySl.map Way.enc)),.c (.sl 22 (x.yRX.map yR8.enc)),.c (.sl 1 (x.yR3.map nD)),.c (.sl 2 (x.yR9.map yRT.enc)),.c (.sl 1 (x.ySd.map qC)),.c (.i x.yRZ.Base),.c (.i x.yRZ.ySe),.c (.sl 1 (x.yRZ.yR5.map qC)),.c (.sl 1 (x.yRZ.yR7.map qC)),.c (.sl 5 (x.Book.map ySb.enc)),.c (.sl 4 (x.yR1.map yR2.enc)),.c (.i x.Start),.c (.i x.In),.c (.i x.Out)]),(4,zW),(5,.box [.c (.i (x.Time+1)),.own 28 3 x.yRV.length,.c (.sl 2 (x.ySl.map Way.enc)),.c (.sl 22 (x.yRX.map yR8.enc)),.c (.sl 1 (x.yR3.map nD)),.c (.sl 2 (x.yR9.map yRT.enc)),.c (.sl 1 (x.ySd.map qC)),.c (.i x.yRZ.Base),.c (.i x.yRZ.ySe),.c (.sl 1 (x.yRZ.yR5.map qC)),.c (.sl 1 (x.yRZ.yR7.map qC)),.c (.sl 5 (x.Book.map ySb.enc)),.c (.sl 4 (x.yR1.map yR2.enc)),.c (.i x.Start),.c (.i (x.In+q)),.c (.i x.Out)]),(28,.row 3 (rsC (yTo x q) k))]) (λk=>x.yRV.length-k) (by apply aB<;>simp[yVf]) ?_
  rintro k hk
  have hrl2:(rsC (yTo x q) k).length=x.yRV.length:=by rw[yVP,yTx]
  rcases zan k x.yRV.length with klt|kge
  .obtain⟨r,hr⟩:∃r,(yTo x q)[k]?=some r:=⟨_,zab (by rw[yTx];exact klt)⟩;have hrs2:=(yUz (q:=q) s1).2 r (zac hr);have hat:=yWL hr;have hset:=yVQ hr;simp only[Reach.enc]at hat hset;have hat2:=(zaa.1 hat).2;refine yaff hrl2 hat hat2 klt (fC klt) ?_;refine bI (yVk r hrs2) (yafq hrl2 hat hat2 klt (fC klt) hset ?_);refine⟨gB klt hlen,k+1,klt,by omega,?_⟩;apply aB<;>simp[hset]
  .have hall:=yVR (rs:=(yTo x q)) (k:=k) (by rw[yTx];exact kge);refine yaed (aG kge) hall ?_;exact(List.take_of_length_le (by simp[yTx])).symm
 .have hpi:yUd x q=false:=by simp[yUd];omega
  have hrs:yTo x q=x.yRV:=by simp[yTo,hpi]
  have e:yS0 x q=⟨x.Time+1,(yTo x q).map yS8,x.ySl,x.yRX,x.yR3,x.yR9,x.ySd,x.yRZ,x.Book,x.yR1,x.Start,x.In,x.Out⟩:=by simp[yS0,hc,hpi]
  rw[e,hrs];intro hlen;refine yX2 (λk=>k<=x.yRV.length) (λk=>xC [(2,.box 2 0),(4,.box 4 0),(5,.box 5 0),(53,.own 28 3 x.yRV.length),(54,.c (.i x.yRV.length)),(55,.c (.i k))] [(2,.box [.c (.i x.Time),.c (.sl 3 (x.yRV.map Reach.enc)),.c (.sl 2 (x.ySl.map Way.enc)),.c (.sl 22 (x.yRX.map yR8.enc)),.c (.sl 1 (x.yR3.map nD)),.c (.sl 2 (x.yR9.map yRT.enc)),.c (.sl 1 (x.ySd.map qC)),.c (.i x.yRZ.Base),.c (.i x.yRZ.ySe),.c (.sl 1 (x.yRZ.yR5.map qC)),.c (.sl 1 (x.yRZ.yR7.map qC)),.c (.sl 5 (x.Book.map ySb.enc)),.c (.sl 4 (x.yR1.map yR2.enc)),.c (.i x.Start),.c (.i x.In),.c (.i x.Out)]),(4,zW),(5,.box [.c (.i (x.Time+1)),.own 28 3 x.yRV.length,.c (.sl 2 (x.ySl.map Way.enc)),.c (.sl 22 (x.yRX.map yR8.enc)),.c (.sl 1 (x.yR3.map nD)),.c (.sl 2 (x.yR9.map yRT.enc)),.c (.sl 1 (x.ySd.map qC)),.c (.i x.yRZ.Base),.c (.i x.yRZ.ySe),.c (.sl 1 (x.yRZ.yR5.map qC)),.c (.sl 1 (x.yRZ.yR7.map qC)),.c (.sl 5 (x.Book.map ySb.enc)),.c (.sl 4 (x.yR1.map yR2.enc)),.c (.i x.Start),.c (.i x.In),.c (.i x.Out)]),(28,.row 3 (rsC x.yRV k))]) (λk=>x.yRV.length-k) (by apply aB<;>simp[yVf]) ?_
  rintro k hk
  have hrl2:(rsC x.yRV k).length=x.yRV.length:=yVP;rcases yX1 k x.yRV with⟨klt,r,hr⟩|kge
  .have hrs2:=s1.2 r (zac hr);have hat:=yWL hr;have hset:=yVQ hr;simp only[Reach.enc]at hat hset;have hat2:=(zaa.1 hat).2;refine yaff hrl2 hat hat2 klt (fC klt) ?_;refine bI (yVk r hrs2) (yafq hrl2 hat hat2 klt (fC klt) hset ?_);refine⟨gB klt hlen,k+1,klt,by omega,?_⟩;apply aB<;>simp[hset]
  .have hall:=yVR (rs:=x.yRV) (k:=k) (by exact kge);refine yaed (aG kge) hall ?_;exact(List.take_of_length_le (by simp[yTx])).symm
def yW4(r:Reach)(a:Int):ydF (dU r a)=ydF r:=by
 have:(dU r a).ySg.length=r.ySg.length/\(dU r a).ySk.length=r.ySk.length:=by
  unfold dU;split
  .split
   .exact⟨rfl,rfl⟩
   .exact⟨rfl,by simp⟩
  .exact⟨rfl,rfl⟩
 unfold ydF ymT ya2;omega
def yUp(w:yR8)(v:ySp):yR8:=⟨w.yR0,v,w.Rule,w.Pauses,w.Turn,w.Calls⟩
def dR(rs:List Reach)(k:Nat):Reach:=rs.getD k default
def dW(ws:List yR8)(k:Nat):yR8:=ws.getD k default
def yTz(q:Int)(rs:List Reach)(ws:List yR8)(k:Nat):ySp:=yS9 (dW ws k).ySp (dW ws k).Rule (kD (dR rs k)) (kD (dR rs (k+1))) q
def through(q:Int)(rs:List Reach)(ws:List yR8)(k:Nat):Reach×Reach×Int:=ySZ (dR rs k) (dR rs (k+1)) (yTz q rs ws k)
def ySX(q:Int)(rs:List Reach)(ws:List yR8):Nat->List Reach×List yR8
 |0=>(rs,ws)
 | k +1=>(((ySX q rs ws k).1.set k (through q (ySX q rs ws k).1 (ySX q rs ws k).2 k).1).set (k+1) (through q (ySX q rs ws k).1 (ySX q rs ws k).2 k).2.1,
     (ySX q rs ws k).2.set k (yUp (dW (ySX q rs ws k).2 k) (yTz q (ySX q rs ws k).1 (ySX q rs ws k).2 k)))
def yTn(x:yRW)(q:Int):Bool:=rC x&&inRange q 0 1000000000
def stR(x:yRW)(q:Int):List Reach:=(ySX q x.yRV x.yRX x.yRX.length).1
def stW(x:yRW)(q:Int):List yR8:=(ySX q x.yRV x.yRX x.yRX.length).2
def yWH(rs:List Reach)(ws:List yR8)(ys:List Way)(n:Nat):Reach×Int:=
 rG (dR rs n) (yS1 (dW ws (n-1)).ySp (kD (dR rs n)) 0) (fH (dR rs n).ySg (ys.getD n default).Bed)
def yS2(x:yRW)(q:Int):yRW:=
 if yTn x q then⟨x.Time,(stR x q).set (x.yRV.length-1) (yWH (stR x q) (stW x q) x.ySl (x.yRV.length-1)).1,x.ySl,stW x q,x.yR3,x.yR9,x.ySd,x.yRZ,x.Book,x.yR1,x.Start,x.In,x.Out+(yWH (stR x q) (stW x q) x.ySl (x.yRV.length-1)).2⟩else x
def yTG{q:Int}{rs:List Reach}{ws:List yR8}:∀k:Nat,(ySX q rs ws k).1.length=rs.length/\(ySX q rs ws k).2.length=ws.length
 |0=>⟨rfl,rfl⟩
 |k+1=>by
  obtain⟨h1,h2⟩:=yTG (q:=q) (rs:=rs) (ws:=ws) k;simp[ySX,h1,h2]
def ye8{rs:List Reach}{k:Nat}(h:k<rs.length):rs[k]?=some (dR rs k):=by
 rw[dR,zah,zab h];rfl
def yi4{ws:List yR8}{k:Nat}(h:k<ws.length):ws[k]?=some (dW ws k):=by
 rw[dW,zah,zab h];rfl
def ywk{r:Reach}{a k:Int}(h:r.small):(rG r a k).1.small:=by
 unfold rG;split<;>exact h
def yWz{a b:Reach}{q k:Int}(ha:a.small)(hb:b.small):(yTe a b q k).1.small/\(yTe a b q k).2.1.small:=by
 unfold yTe;split
 .exact⟨ywk ha,yxR hb⟩
 .exact⟨ha,hb⟩
def yXz{a b:Reach}{w:ySp}(ha:a.small)(hb:b.small):(ySZ a b w).1.small/\(ySZ a b w).2.1.small:=by
 unfold ySZ;split
 .exact yWz ha hb
 .exact⟨ha,hb⟩
def yWS(r:Reach)(a k:Int):ydF (rG r a k).1=ydF r:=by
 unfold rG;split<;>rfl
def yXG(a b:Reach)(q k:Int):ydF (yTe a b q k).1=ydF a/\ydF (yTe a b q k).2.1=ydF b:=by
 unfold yTe;split
 .exact⟨yWS _ _ _,yW4 _ _⟩
 .exact⟨rfl,rfl⟩
def yXK(a b:Reach)(w:ySp):ydF (ySZ a b w).1=ydF a/\ydF (ySZ a b w).2.1=ydF b:=by
 unfold ySZ;split
 .exact yXG _ _ _ _
 .exact⟨rfl,rfl⟩
def yUM{α:Type}{t:α->Nat}{l:List α}{k:Nat}{a b:α}(h:l[k]?=some a)(e:t b=t a):yap t (l.set k b)=yap t l:=by
 obtain⟨hk,rfl⟩:=zaa.1 h
 have:(l.set k b).map t=l.map t:=by
  rw[zaR,e];apply zcJ;intro i;rw[zaK];split
  .rename_i hi;subst hi;simp[hk]
  .rfl
 unfold yap;rw[this,zbA]
def yuN{α:Type}{sm:α->Prop}{l:List α}{k:Nat}{b:α}(h:aW sm l)(e:sm b):aW sm (l.set k b):=
 ⟨by simpa using h.1,λx hx=>by
  rcases zbj hx with hx|hx
  .exact h.2 x hx
  .rw[hx];exact e⟩
def yUk{q:Int}{rs:List Reach}{ws:List yR8}(hr:ybv rs)(hw:ycw ws)(hn:ws.length<rs.length):∀k:Nat,k<=ws.length->
 ybv (ySX q rs ws k).1/\ycw (ySX q rs ws k).2/\ydQ (ySX q rs ws k).1=ydQ rs/\yf3 (ySX q rs ws k).2=yf3 ws
 |0,_=>⟨hr,hw,rfl,rfl⟩
 | k+1,hk=>by
  obtain⟨a,b,c,d⟩:=yUk (q:=q) hr hw hn k (by omega);obtain⟨l1,l2⟩:=yTG (q:=q) (rs:=rs) (ws:=ws) k;simp only[ySX];generalize(ySX q rs ws k).1=rs' at *;generalize(ySX q rs ws k).2=ws' at *;have r1:=ye8 (rs:=rs') (k:=k) (by omega);have r2:=ye8 (rs:=rs') (k:=k+1) (by omega);have w1:=yi4 (ws:=ws') (k:=k) (by omega);have t:=yXK (dR rs' k) (dR rs' (k+1)) (yTz q rs' ws' k);have s:=yXz (w:=yTz q rs' ws' k) (a.2 _ (zac r1)) (a.2 _ (zac r2));refine⟨yuN (yuN a s.1) s.2,yuN b (show yR8.small (dW ws' k)from b.2 _ (zac w1)),?_,?_⟩
  .rw[<-c];have h2:(rs'.set k (through q rs' ws' k).1)[k+1]?=some (dR rs' (k+1)):=by rw[List.getElem?_set_ne (by omega)];exact r2
   exact(yUM h2 t.2).trans (yUM r1 t.1)
  .rw[<-d];exact yUM w1 rfl
structure ySP(x:yRW):Prop where
 two:2<=x.yRV.length
 ways:x.ySl.length=x.yRV.length
 mvs:x.yR3.length=x.yRV.length
 wks:x.yRX.length+1=x.yRV.length
def yjV{x:yRW}(h:rC x=true):ySP x:=by
 simp only[rC,zad]at h;obtain⟨⟨⟨⟨⟨⟨⟨h1,h2⟩,h3⟩,h4⟩,h5⟩,h6⟩,h7⟩,h8⟩:=h;simp only[sJ,zad,decide_eq_true_eq]at h2;obtain⟨⟨⟨⟨⟨⟨p1,p2⟩,p3⟩,p4⟩,p5⟩,p6⟩,p7⟩:=h2;exact⟨p2,p3,p4,p5⟩
def yUC{x:yRW}{q:Int}(h:x.small):(yS2 x q).small:=by
 unfold yS2;split
 .rename_i hc;simp only[yTn,zad]at hc;have pl:=yjV hc.1;have p1:=pl.wks;have p2:=pl.two;obtain⟨s1,s2,s3,s4,s5,s6,s7,s8,s9⟩:=h;obtain⟨a,b,c,d⟩:=yUk (q:=q) s1 s3 (by omega) _ (Nat.le_refl _);obtain⟨l1,l2⟩:=yTG (q:=q) (rs:=x.yRV) (ws:=x.yRX) x.yRX.length;exact⟨yuN a (ywk (a.2 _ (zac (ye8 (by have:(stR x q).length=x.yRV.length:=l1;omega))))),s2,b,s4,s5,s6,s7,s8,s9⟩
 .exact h
def yXv{x:yRW}{q:Int}(hs:x.small):kV (yS2 x q)=kV x:=by
 unfold yS2;split
 .rename_i hc;simp only[yTn,zad]at hc;have pl:=yjV hc.1;have p1:=pl.wks;have p2:=pl.two;obtain⟨s1,s2,s3,s4,s5,s6,s7,s8,s9⟩:=hs;obtain⟨a,b,c,d⟩:=yUk (q:=q) s1 s3 (by omega) _ (Nat.le_refl _);obtain⟨l1,l2⟩:=yTG (q:=q) (rs:=x.yRV) (ws:=x.yRX) x.yRX.length
  have e:ydQ ((stR x q).set (x.yRV.length-1) (yWH (stR x q) (stW x q) x.ySl (x.yRV.length-1)).1)=ydQ x.yRV:=by
   rw[<-c];exact yUM (ye8 (by have:(stR x q).length=x.yRV.length:=l1;omega)) (yWS _ _ _)
  unfold kV;simp only[e];rw[show yf3 (stW x q)=yf3 x.yRX from d]
 .rfl
def yEV(es:List yR8)(hl:es.length<=1048576):nI prg 171 [.c (.sl 22 (es.map yR8.enc))] (.c (.ow 22 (es.map yR8.enc))):=by
 refine fF yQ ?_;simp -dsimp -implicitDefEqProofs [mQ,jA];omega
def ysn(r:Reach)(a k:Int):0<=(rG r a k).2/\(rG r a k).2<=1000000000:=by
 unfold rG;split
 .rename_i h;simp only[ycj,zad,decide_eq_true_eq]at h;have f:=yF h.1.1;have hv:=aC.1 (show inRange r.ySh 0 1000000000=true from f.vol);have h2:=h.2;simp only[takeN]
  repeat' split
  all_goals omega
 .simp
def yTw(rs:List Reach):List (List C):=rs.map Reach.enc
def bM(ws:List yR8):List (List C):=ws.map yR8.enc
def yUi{rs:List Reach}{k:Nat}{r:Reach}(h:rs[k]?=some r):(yTw rs)[k]?=some r.enc:=by unfold yTw;rw[zaw,h];rfl
def yt5{ws:List yR8}{k:Nat}{w:yR8}(h:ws[k]?=some w):(bM ws)[k]?=some w.enc:=by unfold bM;rw[zaw,h];rfl
def yUN{rs:List Reach}{k:Nat}{r:Reach}:(yTw rs).set k r.enc=yTw (rs.set k r):=by unfold yTw;rw[zaR]
def yk6{ws:List yR8}{k:Nat}{w:yR8}:(bM ws).set k w.enc=bM (ws.set k w):=by unfold bM;rw[zaR]
def yTc{rs:List Reach}:(yTw rs).length=rs.length:=by simp[yTw]
def ygI{ws:List yR8}:(bM ws).length=ws.length:=by simp[bM]
def yU9{x:yRW}{q:Int}(h:yTn x q=false):yS2 x q=x:=by simp[yS2,h]
def yXQ(x:yRW)(q:Int)(hl:x.small):qB prg 73 [.agg (x.enc.map .c),.c (.i q)] (.agg ((yS2 x q).enc.map .c)):=by
 have hl0:=hl;obtain⟨s1,s2,s3,s4,s5,s6,s7,s8,s9⟩:=hl;have s11:=s1.1;have s31:=s3.1;refine dB yWI (eP ?_);refine aA (yis x hl0) ?_;cases h:rC x with
 |false=>simp -dsimp -implicitDefEqProofs;simp[yU9,yTn,h]
 |true=>
 refine eP ?_;refine aA (iC q 0 1000000000) ?_;cases hq:inRange q 0 1000000000 with
 |false=>simp -dsimp -implicitDefEqProofs;simp[yU9,yTn,hq]
 |true=>
 have hc:yTn x q=true:=by simp[yTn,h,hq]
 have hw:=yCL h;have pl:=yjV h;have p1:=pl.two;have p2:=pl.ways;have p3:=pl.wks;have e:yS2 x q=⟨x.Time,(stR x q).set (x.yRV.length-1) (yWH (stR x q) (stW x q) x.ySl (x.yRV.length-1)).1,x.ySl,stW x q,x.yR3,x.yR9,x.ySd,x.yRZ,x.Book,x.yR1,x.Start,x.In,x.Out+(yWH (stR x q) (stW x q) x.ySl (x.yRV.length-1)).2⟩:=by simp[yS2,hc]
 rw[e];refine eP ?_;refine yX5 (yFx x.yRV s11) (eP ?_);refine yX5 (yEV x.yRX s31) (eP ?_);intro hlen;refine yX2 (λk=>k<=x.yRX.length) (λk=>xC [(1,.c (.i q)),(2,.box 2 0),(4,.box 4 0),(5,.box 5 0),(34,.own 31 22 x.yRX.length),(35,.c (.i x.yRX.length)),(36,.c (.i k))] [(2,.box (x.enc.map .c)),(4,zW),(5,.box [.c (.i x.Time),.own 27 3 x.yRV.length,.c (.sl 2 (x.ySl.map Way.enc)),.own 31 22 x.yRX.length,.c (.sl 1 (x.yR3.map nD)),.c (.sl 2 (x.yR9.map yRT.enc)),.c (.sl 1 (x.ySd.map qC)),.c (.i x.yRZ.Base),.c (.i x.yRZ.ySe),.c (.sl 1 (x.yRZ.yR5.map qC)),.c (.sl 1 (x.yRZ.yR7.map qC)),.c (.sl 5 (x.Book.map ySb.enc)),.c (.sl 4 (x.yR1.map yR2.enc)),.c (.i x.Start),.c (.i x.In),.c (.i x.Out)]),(27,.row 3 (yTw (ySX q x.yRV x.yRX k).1)),(31,.row 22 (bM (ySX q x.yRV x.yRX k).2))]) (λk=>x.yRX.length-k) (by apply aB<;>simp[ySX,yTw,bM,jA]) ?_
 rintro k hk
 obtain⟨l1,l2⟩:=yTG (q:=q) (rs:=x.yRV) (ws:=x.yRX) k;obtain⟨a1,a2,_,_⟩:=yUk (q:=q) s1 s3 (by omega) k hk;have hst1:(ySX q x.yRV x.yRX (k+1)).1=((ySX q x.yRV x.yRX k).1.set k (through q (ySX q x.yRV x.yRX k).1 (ySX q x.yRV x.yRX k).2 k).1).set (k+1) (through q (ySX q x.yRV x.yRX k).1 (ySX q x.yRV x.yRX k).2 k).2.1:=rfl;have hst2:(ySX q x.yRV x.yRX (k+1)).2=(ySX q x.yRV x.yRX k).2.set k (yUp (dW (ySX q x.yRV x.yRX k).2 k) (yTz q (ySX q x.yRV x.yRX k).1 (ySX q x.yRV x.yRX k).2 k)):=rfl;rcases zan k x.yRX.length with klt|kge
 .obtain⟨rs2,hrs2⟩:∃r,(ySX q x.yRV x.yRX (k+1)).1=r:=⟨_,rfl⟩;obtain⟨ws2,hws2⟩:∃r,(ySX q x.yRV x.yRX (k+1)).2=r:=⟨_,rfl⟩;rw[hrs2]at hst1;rw[hws2]at hst2;generalize(ySX q x.yRV x.yRX k).1=rs at *;generalize(ySX q x.yRV x.yRX k).2=ws at *;have r1:=ye8 (rs:=rs) (k:=k) (by omega);have r2:=ye8 (rs:=rs) (k:=k+1) (by omega);have w1:=yi4 (ws:=ws) (k:=k) (by omega);have sr1:=a1.2 _ (zac r1);have sr2:=a1.2 _ (zac r2);have sw1:=a2.2 _ (zac w1);have hnw:yTz q rs ws k=yS9 (dW ws k).ySp (dW ws k).Rule (kD (dR rs k)) (kD (dR rs (k+1))) q:=rfl;have hth:through q rs ws k=ySZ (dR rs k) (dR rs (k+1)) (yTz q rs ws k):=rfl;rw[hth]at hst1;have hLT:=yVM (dR rs k) (dR rs (k+1)) (yTz q rs ws k) sr1 sr2;generalize yTz q rs ws k=nw at *;have ar1:=yUi r1;have ar2:=yUi r2;have aw1:=yt5 w1;generalize dR rs k=ra at *;generalize dR rs (k+1)=rb at *;generalize dW ws k=wk at *;generalize ySZ ra rb nw=LT at *;obtain⟨k',hk'⟩:∃k',k'=k+1:=⟨_,rfl⟩;have ek:((k:Int)+1)=(k':Int):=by omega
  rw[<-hk']at ar2 hst1;have sR:∀(rs:List Reach) (j:Nat) (r:Reach),(yTw rs).set j [.sl 2 (r.ySg.map ySc.enc),.i r.ySh,.sl 1 (r.ySk.map qC)]=yTw (rs.set j r):=λ_ _ _=>yUN;have sW:=yk6 (ws:=ws) (k:=k) (w:=yUp wk nw);rw[<-hst2]at sW;simp only[Reach.enc]at ar1 ar2;simp only[yR8.enc,yUp]at aw1 sW;have gr1:=(zaa.1 ar1).2;have gr2:=(zaa.1 ar2).2;have gw1:=(zaa.1 aw1).2;have n1:k<x.yRV.length:=by omega
  have n2:k'<x.yRV.length:=by omega
  simp -dsimp -implicitDefEqProofs [yTc,ygI,l1,l2,ar1,gr1,ar2,gr2,aw1,gw1,klt,fC klt,n1,n2,ek];refine⟨by unfold inI;omega,?_⟩;refine yYr (qL ra) (eP ?_);refine yYr (qL rb) (eP ?_);have hSW:=yVT wk.ySp wk.Rule (kD ra) (kD rb) q;rw[<-hnw]at hSW;refine yYr hSW ?_;simp -dsimp -implicitDefEqProofs [yTc,ygI,l1,l2,ar1,gr1,ar2,gr2,aw1,gw1,klt,n1,n2,ek];refine⟨by unfold inI;omega,?_⟩;refine yYo hLT ?_;have hset:((yTw rs).set k [.sl 2 (LT.1.ySg.map ySc.enc),.i LT.1.ySh,.sl 1 (LT.1.ySk.map qC)]).set k' [.sl 2 (LT.2.1.ySg.map ySc.enc),.i LT.2.1.ySh,.sl 1 (LT.2.1.ySk.map qC)]=yTw rs2:=by rw[sR,sR,hst1]
  have hgs:∀(X:List C) (h),((yTw rs).set k X)[k']'h=[.sl 2 (rb.ySg.map ySc.enc),.i rb.ySh,.sl 1 (rb.ySk.map qC)]:=λX h=>by rw[zbG (by omega)];exact gr2
  simp -dsimp -implicitDefEqProofs [yTc,ygI,l1,l2,ar1,gr1,ar2,gr2,aw1,gw1,klt,n1,n2,ek,hset,sW,hgs];refine⟨by unfold inI;omega,k+1,klt,by omega,?_⟩;apply aB<;>simp[hset,sW,hrs2,hws2,ek,hgs]
 .have hkn:k=x.yRX.length:=by omega
  subst hkn;have hR:(ySX q x.yRV x.yRX x.yRX.length).1=stR x q:=rfl;have hW:(ySX q x.yRV x.yRX x.yRX.length).2=stW x q:=rfl;rw[hR]at l1 a1;rw[hW]at l2 a2;rw[hR,hW];generalize stR x q=rs at *;generalize stW x q=ws at *;obtain⟨n,hn⟩:∃n,n=x.yRV.length-1:=⟨_,rfl⟩;have en:((x.yRV.length:Int)-1)=(n:Int):=by omega
  obtain⟨m,hm⟩:∃m,m=n-1:=⟨_,rfl⟩;have em:((n:Int)-1)=(m:Int):=by omega
  rw[<-hn];have r1:=ye8 (rs:=rs) (k:=n) (by omega);have w1:=yi4 (ws:=ws) (k:=m) (by omega);have hy:x.ySl[n]?=some (x.ySl.getD n default):=by rw[zah,zab (by omega)];rfl
  have sr1:=a1.2 _ (zac r1);have hT:yWH rs ws x.ySl n=rG (dR rs n) (yS1 (dW ws m).ySp (kD (dR rs n)) 0) (fH (dR rs n).ySg (x.ySl.getD n default).Bed):=by rw[hm];rfl
  rw[hT];have ar1:=yUi r1;have aw1:=yt5 w1;generalize dR rs n=ra at *;generalize dW ws m=wk at *;generalize x.ySl.getD n default=wy at *;have gy:=(zaa.1 hy).2;have sR:∀(rs:List Reach) (j:Nat) (r:Reach),(yTw rs).set j [.sl 2 (r.ySg.map ySc.enc),.i r.ySh,.sl 1 (r.ySk.map qC)]=yTw (rs.set j r):=λ_ _ _=>yUN;simp only[Reach.enc]at ar1;simp only[yR8.enc]at aw1;have gr1:=(zaa.1 ar1).2;have gw1:=(zaa.1 aw1).2;have n1:n<x.yRV.length:=by omega
  have n2:m<x.yRX.length:=by omega
  have n3:n<x.ySl.length:=by omega
  simp -dsimp -implicitDefEqProofs [yTc,ygI,l1,l2,ar1,gr1,aw1,gw1,n1,n2,n3,hy,gy,en,em];intro hlen2;refine⟨by unfold inI;omega,by unfold inI;omega,?_⟩;refine yYs (qL ra) (eP ?_);refine⟨_,_,yUb wk.ySp (kD ra) 0,by simp -dsimp -implicitDefEqProofs [aw1,gw1,gr1,n2],.inr rfl,yaeV n3 hy gy en ?_⟩;refine yYr (yxT ra.ySg wy.Bed) (eP ?_);have hP:=yvU ra (yS1 wk.ySp (kD ra) 0) (fH ra.ySg wy.Bed) sr1;have hto:=ysn ra (yS1 wk.ySp (kD ra) 0) (fH ra.ySg wy.Bed);refine yYo hP ?_;generalize rG ra (yS1 wk.ySp (kD ra) 0) (fH ra.ySg wy.Bed)=z at *;have w5:=hw.out;simp -dsimp -implicitDefEqProofs [yTc,l1,n1,gr1,ar1,sR,en];refine⟨by unfold inI;omega,?_,(List.take_of_length_le (by show(bM ws).length<=_;rw[ygI];omega)).symm⟩;rw[List.take_of_length_le (by rw[yTc,zbA];omega)];exact sR rs n z.1
def ytB(W:Int)(k:Nat)(a:Int×Int×Int)(t:yRT):Int×Int×Int:=
 if 0<k/\a.2.1+iH t<=W then(a.1,a.2.1+iH t,if a.2.2<aI t then aI t else a.2.2)
 else(a.1+a.2.2,iH t,aI t)
def yc6(W:Int)(l:List yRT):Nat->Int×Int×Int
 |0=>(0,0,0)
 |k+1=>match l[k]? with
  |some t=>ytB W k (yc6 W l k) t
  |none=>yc6 W l k
def oO(L W:Int)(l:List yRT):Bool:=Distinct l&&l.all (λt=>decide (iH t<=W))&&decide ((yc6 W l l.length).1+(yc6 W l l.length).2.2<=L)
def ypI{W:Int}{l:List yRT}{k:Nat}{t:yRT}(h:l[k]?=some t):yc6 W l (k+1)=ytB W k (yc6 W l k) t:=by
 simp only[yc6,h]
def yzg{W:Int}{l:List yRT}:∀k:Nat,(0<=(yc6 W l k).1/\(yc6 W l k).1<=1200*k)/\(0<=(yc6 W l k).2.1/\(yc6 W l k).2.1<=180*k)/\(0<=(yc6 W l k).2.2/\(yc6 W l k).2.2<=1200)
 |0=>by simp[yc6]
 | k+1=>by
  have ih:=yzg (W:=W) (l:=l) k;cases h:l[k]? with
  |none=>simp only[yc6,h];omega
  | some t=>
   have h1:=yhm t;have h2:=yfk t;rw[ypI h];unfold ytB;split
   .simp only;refine⟨by omega,by omega,?_⟩;split<;>omega
   .simp only;omega
def ypV{L W:Int}{l:List yRT}(h:Distinct l=false):oO L W l=false:=by simp[oO,h]
def yg8{l:List yRT}(h:8<l.length):Distinct l=false:=by
 have:decide (l.length<=8)=false:=by simp;omega
 simp[Distinct,this]
def yqp{L W:Int}{l:List yRT}{k:Nat}{t:yRT}(h:l[k]?=some t)(hw:W<iH t):oO L W l=false:=by
 have:l.all (λt=>decide (iH t<=W))=false:=all_false (p:=λt=>decide (iH t<=W)) h (by simp;omega);simp only[oO,this,zbp,zbH]
def yP(l:List yRT)(e:yR0)(hs:aJ l):qB prg 354 [.agg (e.enc.map .c),.c (.sl 2 (l.map yRT.enc))] (.c (.b (oO e.Length e.Width l))):=by
 refine dB ym5 ?_;simp;refine aA (yfU l hs) ?_;cases hd:Distinct l with
 |false=>simp;exact ypV hd
 |true=>
 have h8:l.length<=8:=by simp only[Distinct,zad,decide_eq_true_eq]at hd;exact hd.1.1
 simp;intro hlen;refine yX2 (λk=>k<=l.length/\∀t∈l.take k,decide (iH t<=e.Width)=true) (λk=>xC [(2,.box 2 0),(5,.c (.i (yc6 e.Width l k).1)),(6,.c (.i (yc6 e.Width l k).2.1)),(7,.c (.i (yc6 e.Width l k).2.2)),(15,.c (.sl 2 (l.map yRT.enc))),(16,.c (.i l.length)),(17,.c (.i k))] [(2,.box (e.enc.map .c))]) (λk=>l.length-k) (by apply aB<;>simp[yc6]) ?_
 rintro k ⟨hk,hall⟩
 have hin:=yzg (W:=e.Width) (l:=l) k;rcases yX1 k l with⟨hlt,t,ht⟩|hge
 .have hts:=hs.2 t (zac ht);have h1:=yhm t;have h2:=yfk t;have e1:=ypI (W:=e.Width) ht;simp[ht,fC hlt];refine lC (ynE t hts) ?_;simp;refine lC (ymp t hts) ?_;simp;refine⟨λhw=>(yqp ht hw),λhw=>?_⟩;have hall':=lD (p:=λt=>decide (iH t<=e.Width)) ht hall (by simpa using hw);unfold ytB at e1;have hall2:∀x∈l.take (k+1),iH x<=e.Width:=by simpa using hall'
  refine⟨λhk0=>⟨by unfold inI;omega,λhf=>?_,λhf=>?_⟩,λhk0=>?_⟩
  .have e2:=e1.trans (if_pos ⟨hk0,hf⟩);refine⟨by unfold inI;omega,gB hlt hlen,k+1,⟨hlt,hall2⟩,by omega,?_⟩;apply aB<;>simp[e2]
  .have e2:=e1.trans (if_neg (λh=>by omega));refine⟨by unfold inI;omega,gB hlt hlen,k+1,⟨hlt,hall2⟩,by omega,?_⟩;apply aB<;>simp[e2]
  .have e2:=e1.trans (if_neg (λh=>by omega));refine⟨by unfold inI;omega,gB hlt hlen,k+1,⟨hlt,hall2⟩,by omega,?_⟩;apply aB<;>simp[e2]
 .have hall2:=dF (p:=λt=>decide (iH t<=e.Width)) hge hall;have:k=l.length:=by omega
  subst this;simp;refine⟨by unfold inI;omega,?_⟩;have ha:l.all (λt=>decide (iH t<=e.Width))=true:=hall2;simp only[oO,hd,ha,zco]
def yX(l:List yRT)(e:yR0)(hs:aJ l):qB prg 314 [.agg (e.enc.map .c),.c (.sl 2 (l.map yRT.enc))] (.c (.b (oO e.Length e.Width l))):=by
 refine dB ym1 ?_;simp;intro hlen0;refine⟨λh8=>ypV (yg8 (by omega)),λh8=>?_⟩;refine yX2 (λk=>k<=l.length/\(∀t∈l.take k,oC t=true)/\∀t∈l.take k,decide (iH t<=e.Width)=true) (λk=>xC [(2,.box 2 0),(1,.c (.sl 2 (l.map yRT.enc))),(5,.c (.i (yc6 e.Width l k).1)),(7,.c (.i (yc6 e.Width l k).2.1)),(6,.c (.i (yc6 e.Width l k).2.2)),(8,.c (.i k))] [(2,.box (e.enc.map .c))]) (λk=>l.length-k) (by apply aB<;>simp[yc6]) ?_
 rintro k ⟨hk,hok,hall⟩
 have hin:=yzg (W:=e.Width) (l:=l) k;rcases yX1 k l with⟨hlt,t,ht⟩|hge
 .have hts:=hs.2 t (zac ht);have h1:=yhm t;have h2:=yfk t;have e1:=ypI (W:=e.Width) ht;simp[ht,fC hlt];intro hlen;refine aA (jJ t hts) ?_;cases hto:oC t with
  |false=>simp;exact ypV (yp8 ht hto)
  |true=>
  have hok':=lD (p:=oC) ht hok hto;simp[ht,fC hlt];refine aA (ynV t hts) ?_;simp;refine⟨λhw=>(yqp ht hw),λhw=>?_⟩;have hall':=lD (p:=λt=>decide (iH t<=e.Width)) ht hall (by simpa using hw);unfold ytB at e1;have hall2:∀x∈l.take (k+1),iH x<=e.Width:=by simpa using hall'
  refine⟨λhk0=>⟨by unfold inI;omega,λhf=>?_,λhf=>?_⟩,λhk0=>?_⟩
  .have e2:=e1.trans (if_pos ⟨hk0,hf⟩);refine⟨by unfold inI;omega,?_⟩;simp[ht,(zaa.1 ht).2,hlt,fC hlt];refine aA (ycg t hts) ?_;simp;refine⟨gB hlt hlen,k+1,⟨hlt,hok',hall2⟩,by omega,?_⟩;apply aB<;>simp[e2]
  .have e2:=e1.trans (if_neg (λh=>by omega));refine⟨by unfold inI;omega,?_⟩;simp[ht,(zaa.1 ht).2,hlt,fC hlt];refine aA (ycg t hts) ?_;simp;refine⟨gB hlt hlen,k+1,⟨hlt,hok',hall2⟩,by omega,?_⟩;apply aB<;>simp[e2]
  .have e2:=e1.trans (if_neg (λh=>by omega));refine⟨by unfold inI;omega,?_⟩;simp[ht,(zaa.1 ht).2,hlt,fC hlt];refine aA (ycg t hts) ?_;simp;refine⟨gB hlt hlen,k+1,⟨hlt,hok',hall2⟩,by omega,?_⟩;apply aB<;>simp[e2]
 .have hall2:=dF (p:=λt=>decide (iH t<=e.Width)) hge hall;have hok2:=dF (p:=oC) hge hok;have hok3:∀t∈l,oC t=true:=zaf.1 hok2;have:k=l.length:=by omega
  subst this;simp;intro _;refine⟨by unfold inI;omega,λhL=>?_,λhL=>?_⟩
  .have h88:l.length<=8:=by omega
   refine aA (yju l hs h88 hok3) ?_;simp;have:l.length<=8:=by omega
   simp[oO,Distinct,hok2,hall2,hL,this]
  .simp only[oO];have:¬((yc6 e.Width l l.length).1+(yc6 e.Width l l.length).2.2<=e.Length):=by omega
   simp[this]
def ynb(a b:Reach)(w:yR8)(c:yR4):Int:=if c.yRT.Up then kD b-w.yR0.ySj else kD a-w.yR0.ySi
def ybp(a b:Reach)(w:yR8)(c:yR4):Bool:=decide (oH c.yRT<=ynb a b w c)&&oO w.yR0.Length w.yR0.Width [c.yRT]
def able(a b:Reach)(w:yR8):List yR4:=w.Calls.filter (ybp a b w)
def ybX(a b:Reach)(w:yR8)(k:Nat):List yR4:=(w.Calls.take k).filter (ybp a b w)
def yqr{a b:Reach}{w:yR8}{k:Nat}{c:yR4}(h:w.Calls[k]?=some c):ybX a b w (k+1)=ybX a b w k++(if ybp a b w c then[c]else[]):=by
 unfold ybX;rw[zar,h,zci];cases hc:ybp a b w c<;>simp[hc]
def ys9{a b:Reach}{w:yR8}{k:Nat}(h:w.Calls.length<=k):ybX a b w k=able a b w:=by
 unfold ybX able;rw[List.take_of_length_le h]
def ytq{a b:Reach}{w:yR8}{k:Nat}:(ybX a b w k).length<=w.Calls.length:=by
 have:=zbJ (ybp a b w) (w.Calls.take k);rw[zaz]at this;unfold ybX;omega
structure ySQ(w:yR8):Prop where
 a:0<=w.yR0.ySi/\w.yR0.ySi<=100000
 b:0<=w.yR0.ySj/\w.yR0.ySj<=100000
def yBO{w:yR8}(h:fJ w=true):ySQ w:=by
 simp only[fJ,lF,zad]at h;exact⟨aC.1 h.1.1.1.1.1.1.1.1.1.1.1.1.1.2,aC.1 h.1.1.1.1.1.1.1.1.1.1.1.1.2⟩
def yyG{t:yRT}(h:t.small):aJ [t]:=⟨by simp,λx hx=>by simp at hx;rw[hx];exact h⟩
def yGg(x:yRW)(k:Nat)(w:yR8)(a b:Reach)(hs:yR8.small w)(hw:x.yRX[k]?=some w)(ha:x.yRV[k]?=some a)(hb:x.yRV[k+1]?=some b)(hsill:ySQ w)(hrl:x.yRV.length<=1048576):
 qB prg 277 [.agg (x.enc.map .c),.c (.i k)] (.c (.sl 4 ((able a b w).map yR4.enc))):=by
 have kw:=(zaa.1 hw).1;have ka:=(zaa.1 ha).1;have kb:=(zaa.1 hb).1;have gw:=(zaa.1 hw).2;have ga:=(zaa.1 ha).2;have gb:=(zaa.1 hb).2;obtain⟨q1,q2⟩:=hsill;have la:=kM a;have lb:=kM b;have hc1:=hs.2.2.1;refine dB yBd ?_;simp[yqu,hw,gw,kw,fC kw];simp[ha,ga,ka,fC ka];refine lC (qL a) ?_;simp;refine⟨by unfold inI;omega,by unfold inI;omega,by omega,by omega,?_⟩;simp[hb,gb];refine lC (qL b) ?_;simp;refine⟨by unfold inI;omega,λhlen=>?_⟩;refine jX (k0:=4) 8 4 (by simp) (by simp) (by decide) ?_;refine yX2 (λi=>i<=w.Calls.length) (λi=>xC [(2,.box 2 0),(5,.box 5 0),(6,.c (.i (kD a-w.yR0.ySi))),(7,.c (.i (kD b-w.yR0.ySj))),(8,.own 8 4 (ybX a b w i).length),(39,.c (.sl 4 (w.Calls.map yR4.enc))),(40,.c (.i w.Calls.length)),(41,.c (.i i))] [(2,.box (x.enc.map .c)),(5,.box (w.enc.map .c)),(8,.row 4 ((ybX a b w i).map yR4.enc))]) (λi=>w.Calls.length-i) (by apply aB<;>simp[ybX]) ?_
 rintro i hi
 have hil:=ytq (a:=a) (b:=b) (w:=w) (k:=i);rcases yX1 i w.Calls with⟨hlt,c,hc⟩|hge
 .have g1:=(zaa.1 hc).2;have hcs:=hs.2.2.2 c (zac hc);have e1:=yqr (a:=a) (b:=b) hc;have hd:=ydq c.yRT;have fin:∀{z:Int},z=ynb a b w c->ybp a b w c=(decide (oH c.yRT<=z)&&oO w.yR0.Length w.yR0.Width [c.yRT]):=λh=>by rw[h];rfl
  cases hu:c.yRT.Up with
  | true=>
   have fin:=fin (z:=kD b-w.yR0.ySj) (by unfold ynb;rw[if_pos hu]);simp[hc,g1,hlt,fC hlt,hu];refine mD (yw c.yRT hcs) (by simp[hu]) rfl ?_;simp;refine⟨λhd1=>?_,λhd1=>?_⟩
   .have hff:=yP [c.yRT] w.yR0 (yyG hcs);refine mD (hff) (by simp[hu]) rfl ?_;cases hf:oO w.yR0.Length w.yR0.Width [c.yRT]with
    |true=>
     have e2:ybp a b w c=true:=by rw[fin];simp[hd1,hf]
     rw[e2]at e1;simp[hu];refine⟨by omega,gB hlt hlen,i+1,hlt,by omega,?_⟩;apply aB<;>simp[e1,hu]
    |false=>
     have e2:ybp a b w c=false:=by rw[fin];simp[hf]
     rw[e2]at e1;simp;refine⟨gB hlt hlen,i+1,hlt,by omega,?_⟩;apply aB<;>simp[e1]
   .have e2:ybp a b w c=false:=by
     have:¬oH c.yRT<=kD b-w.yR0.ySj:=by omega
     rw[fin];simp[this]
    rw[e2]at e1;refine⟨gB hlt hlen,i+1,hlt,by omega,?_⟩;apply aB<;>simp[e1]
  | false=>
   have fin:=fin (z:=kD a-w.yR0.ySi) (by unfold ynb;rw[if_neg (by simp[hu])]);simp[hc,g1,hlt,fC hlt,hu];refine mD (yw c.yRT hcs) (by simp[hu]) rfl ?_;simp;refine⟨λhd1=>?_,λhd1=>?_⟩
   .have hff:=yP [c.yRT] w.yR0 (yyG hcs);refine mD (hff) (by simp[hu]) rfl ?_;cases hf:oO w.yR0.Length w.yR0.Width [c.yRT]with
    |true=>
     have e2:ybp a b w c=true:=by rw[fin];simp[hd1,hf]
     rw[e2]at e1;simp[hu];refine⟨by omega,gB hlt hlen,i+1,hlt,by omega,?_⟩;apply aB<;>simp[e1,hu]
    |false=>
     have e2:ybp a b w c=false:=by rw[fin];simp[hf]
     rw[e2]at e1;simp;refine⟨gB hlt hlen,i+1,hlt,by omega,?_⟩;apply aB<;>simp[e1]
   .have e2:ybp a b w c=false:=by
     have:¬oH c.yRT<=kD a-w.yR0.ySi:=by omega
     rw[fin];simp[this]
    rw[e2]at e1;refine⟨gB hlt hlen,i+1,hlt,by omega,?_⟩;apply aB<;>simp[e1]
 .simp[aG hge];rw[ys9 hge];exact jA.symm
def yK(x:yRW)(k:Int):List yR4:=
 if rC x&&decide (0<=k)&&decide (k<x.yRX.length)then(match x.yRX[k.toNat]?,x.yRV[k.toNat]?,x.yRV[k.toNat+1]? with
  |some w,some a,some b=>able a b w
  |_,_,_=>[])else[]
structure ySR(x:yRW)(k:Nat)(w:yR8)(a b:Reach):Prop where
 hw:x.yRX[k]?=some w
 ha:x.yRV[k]?=some a
 hb:x.yRV[k+1]?=some b
 ok:fJ w=true
 wl:x.yRX.length+1=x.yRV.length
def yKm{x:yRW}{k:Nat}(h:rC x=true)(hk:k<x.yRX.length):∃w a b,ySR x k w a b:=by
 simp only[rC,zad]at h;obtain⟨⟨⟨⟨⟨⟨⟨h1,h2⟩,h3⟩,h4⟩,h5⟩,h6⟩,h7⟩,h8⟩:=h;simp only[sJ,zad,decide_eq_true_eq,zaf]at h2;obtain⟨⟨⟨⟨⟨⟨p1,p2⟩,p3⟩,p4⟩,p5⟩,p6⟩,p7⟩:=h2;have e1:x.yRX[k]?=some x.yRX[k]:=zab hk;exact⟨x.yRX[k],x.yRV[k]'(by omega),x.yRV[k+1]'(by omega),e1,zab _,zab _,p7 _ (zac e1),p5⟩
def yHy{x:yRW}{k:Int}(h:rC x=false):yK x k=[]:=by simp[yK,h]
def yGo{x:yRW}{k:Int}(h:k<0):yK x k=[]:=by
 have:¬0<=k:=by omega
 simp[yK,this]
def yHu{x:yRW}{k:Int}(h:(x.yRX.length:Int)<=k):yK x k=[]:=by
 have:¬k<x.yRX.length:=by omega
 simp[yK,this]
def ytL{x:yRW}{k:Nat}{w:yR8}{a b:Reach}(h:rC x=true)(hw:ySR x k w a b):yK x k=able a b w:=by
 have hk:=(zaa.1 hw.hw).1;have h1:((k:Nat):Int)<x.yRX.length:=by omega
 simp[yK,h,h1,hw.hw,hw.ha,hw.hb]
def ykT(a b:Int):Int:=if b<a then b else a
def bG(l:yR0):Int:=if lF l then ykT (l.Base+l.ySn.tdiv l.Area) 100000 else 0
structure ySN(l:yR0):Prop where
 sa:0<=l.ySi/\l.ySi<=100000
 sb:0<=l.ySj/\l.ySj<=100000
 base:0<=l.Base/\l.Base<=100000
 area:1<=l.Area/\l.Area<=10000
 rate:1<=l.ySs/\l.ySs<=100000
 water:0<=l.ySn/\l.ySn<=1000000000
 gate:0<=l.Gate/\l.Gate<=2
def qW{l:yR0}(h:lF l=true):ySN l:=by
 simp only[lF,zad]at h;obtain⟨⟨⟨⟨⟨⟨⟨⟨⟨h0,h1⟩,h2⟩,h3⟩,h4⟩,h5⟩,h6⟩,h7⟩,h8⟩,h9⟩:=h;exact⟨aC.1 h2,aC.1 h3,aC.1 h4,aC.1 h5,aC.1 h6,aC.1 h7,aC.1 h8⟩
def ytP{a b:Int}(ha:0<=a/\a<=1000000000)(hb:1<=b):0<=a.tdiv b/\a.tdiv b<=1000000000:=by
 rw[zaA ha.1];exact⟨zck ha.1 (by omega),zdO (zch _ ha.1) ha.2⟩
def yd5(l:yR0):0<=bG l/\bG l<=100000:=by
 unfold bG;split
 .rename_i h;have f:=qW h;have f1:=f.base;have f2:=ytP f.water f.area.1;unfold ykT;split<;>omega
 .omega
@[simp] def yR0.setW(l:yR0)(w:Int):yR0:=⟨l.Length,l.Width,l.ySi,l.ySj,l.Base,l.Area,l.ySs,w,l.Gate,l.yRY⟩
@[simp] def yR0.yra(l:yR0)(g:Int):yR0:=⟨l.Length,l.Width,l.ySi,l.ySj,l.Base,l.Area,l.ySs,l.ySn,g,l.yRY⟩
@[simp] def yR0.yt1(l:yR0)(ts:List yRT):yR0:=⟨l.Length,l.Width,l.ySi,l.ySj,l.Base,l.Area,l.ySs,l.ySn,l.Gate,ts⟩
def ydG(a b:Reach)(g:Int):Int:=if g=1 then kD a else kD b
def oP(l:yR0)(a b:Reach)(g:Int):Bool:=lF l&&xE a&&xE b&&decide (l.Gate=0)&&(decide (g=1)||decide (g=2))&&inRange (bG l) (ydG a b g-1) (ydG a b g+1)
def tK(l:yR0)(a b:Reach)(g:Int):yR0×Bool:=if oP l a b g then(l.yra g,true)else(l,false)
def ya1(l:yR0)(r:Reach):Int:=ykT (l.Area*(kD r-bG l)) l.ySs
def dY(l:yR0)(r:Reach):Bool:=lF l&&xE r&&decide (l.Gate=0)&&decide (bG l<kD r)
def mM(l:yR0)(r:Reach):yR0×Reach:=
 if dY l r then(if 1000000000<l.ySn+(rG r (ya1 l r) 0).2 then(l,r)else(l.setW (l.ySn+(rG r (ya1 l r) 0).2),(rG r (ya1 l r) 0).1))else(l,r)
def rV(l:yR0)(r:Reach):Int:=ykT (ykT (l.Area*(bG l-kD r)) l.ySs) l.ySn
def yYU(l:yR0)(r:Reach):Bool:=lF l&&xE r&&decide (l.Gate=0)&&decide (kD r<bG l)
def rJ(l:yR0)(r:Reach):yR0×Reach:=
 if yYU l r then(if rO r<rV l r then(l,r)else(l.setW (l.ySn-rV l r),dU r (rV l r)))else(l,r)
def yeb(l:yR0)(g:Int):Int:=if g=1 then l.ySi else l.ySj
def yaI(up:Bool):Int:=if up then 2 else 1
def lJ(l:yR0)(r:Reach)(t:yRT):Bool:=lF l&&xE r&&oC t&&decide (l.Gate=yaI t.Up)&&decide (oH t<=kD r-yeb l (yaI t.Up))
def xH(l:yR0)(r:Reach)(t:yRT):yR0×Bool:=if lJ l r t&&oO l.Length l.Width (l.yRY++[t])then(l.yt1 (l.yRY++[t]),true)else(l,false)
def leaves(l:yR0)(r:Reach)(t:yRT):Bool:=(t.Up==decide (l.Gate=1))&&decide (oH t<=kD r-yeb l l.Gate)
def yh(l:yR0)(r:Reach):Bool:=lF l&&xE r&& !decide (l.Gate=0)
def leaver(l:yR0)(r:Reach):Option Nat:=if yh l r then l.yRY.findIdx? (leaves l r)else none
def yR0.yoT(l:yR0):(AV.agg (l.iD.map .c)).shr (.agg (l.enc.map .c)):=by simp[AV.shr,AV.yoE,dO,C.shr,eF yRT.bF]
def yeo(e:yR0)(hl:yR0.small e):qB prg 250 [.agg (e.enc.map .c)] (.agg (e.enc.map .c)):=(ysC e hl).pure (yR0.yoT _)
def jQ(l:yR0)(hl:l.small):qB prg 281 [.agg (l.enc.map .c)] (.c (.i (bG l))):=by
 refine dB ylu (eP ?_);refine aA (pX l hl) ?_;cases h:lF l with
 |false=>simp -dsimp -implicitDefEqProofs;simp[bG,h]
 |true=>
 have f:=qW h;have f1:=f.base;have f2:=ytP f.water f.area.1;have f3:=f.area;have e:bG l=ykT (l.Base+l.ySn.tdiv l.Area) 100000:=by simp[bG,h]
 rw[e];refine eP ?_;exact⟨by omega,by unfold inI;omega,by unfold inI;omega,rfl⟩
def yvt(l:yR0)(a b:Reach)(g:Int)(hl:l.small):qB prg 278 [.agg (l.enc.map .c),.agg (a.enc.map .c),.agg (b.enc.map .c),.c (.i g)] (.tup [.agg ((tK l a b g).1.enc.map .c),.c (.b (tK l a b g).2)]):=by
 have no:oP l a b g=false->tK l a b g=(l,false):=λh=>by simp[tK,h]
 have la:=kM a;have lb:=kM b;refine dB yq7 (eP ?_);refine dD (yeo l hl) (eP ?_);refine aA (pX l hl) ?_;cases h1:lF l with
 |false=>rw[no (by simp[oP,h1])];simp -dsimp -implicitDefEqProofs
 |true=>
 refine eP ?_;refine aA (oL a) ?_;cases h2:xE a with
 |false=>rw[no (by simp[oP,h2])];simp -dsimp -implicitDefEqProofs
 |true=>
 refine eP ?_;refine aA (oL b) ?_;cases h3:xE b with
 |false=>rw[no (by simp[oP,h3])];simp -dsimp -implicitDefEqProofs
 |true=>
 by_cases h4:l.Gate=0
 rotate_left
 .rw[no (by simp[oP,h4])];simp -dsimp -implicitDefEqProofs [h4]
 have hcl:=jQ l hl
 by_cases g1:g=1
 .subst g1;have hs:ydG a b 1=kD a:=rfl;refine eU h4 ?_;refine aA (qL a) (eP ?_);refine mD (hcl) (by simp[h4]) rfl (eP ?_);refine⟨by unfold inI;omega,by unfold inI;omega,?_⟩;refine aA (iC (bG l) (kD a-1) (kD a+1)) ?_;cases h5:inRange (bG l) (kD a-1) (kD a+1)with
  |false=>rw[no (by simp[oP,hs,h5])];simp -dsimp -implicitDefEqProofs [h4]
  |true=>
   have e:tK l a b 1=(l.yra 1,true):=by simp[tK,oP,h1,h2,h3,h4,hs,h5]
   rw[e];simp -dsimp -implicitDefEqProofs
 by_cases g2:g=2
 .subst g2;have hs:ydG a b 2=kD b:=rfl;refine eU h4 ?_;refine aA (qL b) (eP ?_);refine mD (hcl) (by simp[h4]) rfl (eP ?_);refine⟨by unfold inI;omega,by unfold inI;omega,?_⟩;refine aA (iC (bG l) (kD b-1) (kD b+1)) ?_;cases h5:inRange (bG l) (kD b-1) (kD b+1)with
  |false=>rw[no (by simp[oP,hs,h5])];simp -dsimp -implicitDefEqProofs [h4]
  |true=>
   have e:tK l a b 2=(l.yra 2,true):=by simp[tK,oP,h1,h2,h3,h4,hs,h5]
   rw[e];simp -dsimp -implicitDefEqProofs
 .rw[no (by simp[oP,g1,g2])];simp -dsimp -implicitDefEqProofs [h4,g1,g2]
def yvH(l:yR0)(r:Reach)(hl:l.small)(hr:r.small):qB prg 282 [.agg (l.enc.map .c),.agg (r.enc.map .c)] (.tup [.agg ((mM l r).1.enc.map .c),.agg ((mM l r).2.enc.map .c)]):=by
 have no:dY l r=false->mM l r=(l,r):=λh=>by simp[mM,h]
 have la:=kM r;have lc:=yd5 l;refine dB yrz (eP ?_);refine bI (yeo l hl) (eP ?_);refine bI (yqt r hr) (eP ?_);refine lC (pX l hl) ?_;cases h1:lF l with
 |false=>rw[no (by simp[dY,h1])];simp -dsimp -implicitDefEqProofs
 |true=>
 refine eP ?_;refine lC (oL r) ?_;cases h2:xE r with
 |false=>rw[no (by simp[dY,h2])];simp -dsimp -implicitDefEqProofs
 |true=>
 by_cases h4:l.Gate=0
 rotate_left
 .rw[no (by simp[dY,h4])];simp -dsimp -implicitDefEqProofs [h4]
 have f:=qW h1;have f1:=f.area;have f2:=f.water;have f3:=f.rate;refine eU h4 ?_;refine⟨_,_,jQ l hl,by simp[h4],.inr rfl,eP ?_⟩;refine lC (qL r) (eP ?_);refine⟨λh5=>?_,λh5=>?_⟩
 .rw[no (by simp[dY];omega)];simp -dsimp -implicitDefEqProofs [h4]
 have hc:dY l r=true:=by simp[dY,h1,h2,h4];omega
 have e:mM l r=if 1000000000<l.ySn+(rG r (ya1 l r) 0).2 then(l,r)else(l.setW (l.ySn+(rG r (ya1 l r) 0).2),(rG r (ya1 l r) 0).1):=by simp only[mM,hc,if_true]
 rw[e];have m1:=yyJ (a:=l.Area) (b:=kD r-bG l) (A:=10000) (B:=1000000000) (by omega) (by omega);have hP:=yvU r (ya1 l r) 0 hr;have ht:=ysn r (ya1 l r) 0;have hN:ya1 l r=ykT (l.Area*(kD r-bG l)) l.ySs:=rfl;have hN2:(if l.ySs<l.Area*(kD r-bG l)then l.ySs else l.Area*(kD r-bG l))=ya1 l r:=by rw[hN];rfl
 refine lC (qL r) (eP ?_);refine⟨_,_,jQ l hl,by simp[h4],.inr rfl,?_⟩;generalize rG r (ya1 l r) 0=z at *;refine eU hN2 ?_;refine⟨by unfold inI;omega,by unfold inI;omega,?_⟩;refine dD hP (eP ?_);refine⟨by unfold inI;omega,λh6=>?_,λh6=>?_⟩
 .rw[if_pos h6];simp -dsimp -implicitDefEqProofs [h4]
 .rw[if_neg (by omega)];simp -dsimp -implicitDefEqProofs [h4];unfold inI;omega
def yty(l:yR0)(r:Reach)(hl:l.small)(hr:r.small):qB prg 283 [.agg (l.enc.map .c),.agg (r.enc.map .c)] (.tup [.agg ((rJ l r).1.enc.map .c),.agg ((rJ l r).2.enc.map .c)]):=by
 have no:yYU l r=false->rJ l r=(l,r):=λh=>by simp[rJ,h]
 have la:=kM r;have lc:=yd5 l;refine dB ypP (eP ?_);refine bI (yeo l hl) (eP ?_);refine bI (yqt r hr) (eP ?_);refine lC (pX l hl) ?_;cases h1:lF l with
 |false=>rw[no (by simp[yYU,h1])];simp -dsimp -implicitDefEqProofs
 |true=>
 refine eP ?_;refine lC (oL r) ?_;cases h2:xE r with
 |false=>rw[no (by simp[yYU,h2])];simp -dsimp -implicitDefEqProofs
 |true=>
 by_cases h4:l.Gate=0
 rotate_left
 .rw[no (by simp[yYU,h4])];simp -dsimp -implicitDefEqProofs [h4]
 have f:=qW h1;have f1:=f.area;have f2:=f.water;have f3:=f.rate;refine eU h4 ?_;refine⟨_,_,jQ l hl,by simp[h4],.inr rfl,eP ?_⟩;refine lC (qL r) (eP ?_);refine⟨λh5=>?_,λh5=>?_⟩
 .rw[no (by simp[yYU];omega)];simp -dsimp -implicitDefEqProofs [h4]
 have hc:yYU l r=true:=by simp[yYU,h1,h2,h4];omega
 have e:rJ l r=if rO r<rV l r then(l,r)else(l.setW (l.ySn-rV l r),dU r (rV l r)):=by simp only[rJ,hc,if_true]
 rw[e];have m1:=yyJ (a:=l.Area) (b:=bG l-kD r) (A:=10000) (B:=100000) (by omega) (by omega);have hP:=yyV r (rV l r) hr;have hN:rV l r=ykT (ykT (l.Area*(bG l-kD r)) l.ySs) l.ySn:=rfl;refine⟨_,_,jQ l hl,by simp[h4],.inr rfl,eP ?_⟩;refine lC (qL r) (eP ?_);have hN2:(if l.ySn<(if l.ySs<l.Area*(bG l-kD r)then l.ySs else l.Area*(bG l-kD r))then l.ySn else(if l.ySs<l.Area*(bG l-kD r)then l.ySs else l.Area*(bG l-kD r)))=rV l r:=by rw[hN];rfl
 have hd:0<=rV l r/\rV l r<=l.ySn:=by
  rw[<-hN2];generalize l.Area*(bG l-kD r)=m at *
  (repeat' split)<;>omega
 refine⟨by unfold inI;omega,by unfold inI;omega,?_⟩;refine aA (yo3 r) (eU hN2 ?_);refine⟨λh6=>?_,λh6=>?_⟩
 .rw[if_pos h6];simp -dsimp -implicitDefEqProofs [h4]
 rw[if_neg (show¬rO r<rV l r by omega)];refine⟨by unfold inI;omega,?_⟩;refine bI hP ?_;exact yafA h4
def yjR(l:yR0)(g:Int):qB prg 355 [.agg (l.enc.map .c),.c (.i g)] (.c (.i (yeb l g))):=by
 refine dB ywO (eP ?_);refine⟨λh=>?_,λh=>?_⟩
 .simp[yeb,h]
 .simp[yeb,h]
def yA2{l:yR0}(h:lF l=true)(g:Int):0<=yeb l g/\yeb l g<=100000:=by
 have f:=qW h;have f1:=f.sa;have f2:=f.sb;unfold yeb;split<;>omega
def ylM(l:yR0)(r:Reach)(t:yRT)(hl:l.small)(ht:t.small):qB prg 288 [.agg (l.enc.map .c),.agg (r.enc.map .c),.agg (t.enc.map .c)] (.c (.b (lJ l r t))):=by
 have la:=kM r;have ld:=ydq t;refine dB yrr (eP ?_);refine aA (pX l hl) ?_;cases h1:lF l with
 |false=>simp -dsimp -implicitDefEqProofs;simp[lJ,h1]
 |true=>
 refine eP ?_;refine aA (oL r) ?_;cases h2:xE r with
 |false=>simp -dsimp -implicitDefEqProofs;simp[lJ,h2]
 |true=>
 refine eP ?_;refine aA (gK t ht) ?_;cases h3:oC t with
 |false=>simp -dsimp -implicitDefEqProofs;simp[lJ,h3]
 |true=>
 have e:lJ l r t=(decide (l.Gate=yaI t.Up)&&decide (oH t<=kD r-yeb l (yaI t.Up))):=by simp[lJ,h1,h2,h3]
 rw[e];have hs:=yA2 h1;cases hu:t.Up with
 | true=>
  have hs2:=hs 2
  by_cases hg:l.Gate=2
  .refine yaed hu hg ?_;refine lC (qL r) (eP ?_);refine⟨_,_,yjR l 2,by simp[hg],.inr rfl,eP ?_⟩;refine⟨by unfold inI;omega,?_⟩;refine⟨_,_,yw t ht,by simp[hu],.inr rfl,?_⟩;simp -dsimp -implicitDefEqProofs [yaI]
   exactλ_=>hg
  .simp -dsimp -implicitDefEqProofs [hu,hg,yaI]
 | false=>
  have hs2:=hs 1
  by_cases hg:l.Gate=1
  .refine yaed hu hg ?_;refine lC (qL r) (eP ?_);refine⟨_,_,yjR l 1,by simp[hg],.inr rfl,eP ?_⟩;refine⟨by unfold inI;omega,?_⟩;refine⟨_,_,yw t ht,by simp[hu],.inr rfl,?_⟩;simp -dsimp -implicitDefEqProofs [yaI]
   exactλ_=>hg
  .simp -dsimp -implicitDefEqProofs [hu,hg,yaI]
def ytO(l:yR0)(r:Reach)(t:yRT)(hl:l.small)(ht:t.small):qB prg 291 [.agg (l.enc.map .c),.agg (r.enc.map .c),.agg (t.enc.map .c)] (.tup [.agg ((xH l r t).1.enc.map .c),.c (.b (xH l r t).2)]):=by
 have no:(lJ l r t&&oO l.Length l.Width (l.yRY++[t]))=false->xH l r t=(l,false):=λh=>by simp only[xH,h];rfl
 have hll:=hl.1;refine dB yql ?_;simp -dsimp -implicitDefEqProofs;refine dD (yeo l hl) ?_;simp -dsimp -implicitDefEqProofs;refine aA (ylM l r t hl ht) ?_;cases h1:lJ l r t with
 |false=>rw[no (by simp[h1])];simp -dsimp -implicitDefEqProofs
 |true=>
 simp -dsimp -implicitDefEqProofs;refine pJ (ybj l.yRY hl) (by simp) (iJ yRT.aF _ _) (by simp[fD]) ?_;simp -dsimp -implicitDefEqProofs [jA];refine pJ (yaU t ht) (by simp) (dP (yRT.aF t)) (by simp[fD]) ?_;simp -dsimp -implicitDefEqProofs [jA,iW];have hshr:=eF yRT.bF (l.yRY++[t]);rw[zaB,zaB]at hshr;simp only[zbd,zcN,yRT.iD,yRT.enc]at hshr;have htk2:List.take (l.yRY.length+1) (l.yRY.map yRT.iD++[[C.b t.Up,C.ot 1 (t.Rows.map jF)]])=l.yRY.map yRT.iD++[[C.b t.Up,C.ot 1 (t.Rows.map jF)]]:=List.take_of_length_le (by simp)
 have h8:l.yRY.length<=8:=by
  have h1':=h1;simp only[lJ,lF,zad]at h1';rcases zan 8 l.yRY.length with e|e
  .have:=yg8 e;rw[this]at h1';simp at h1'
  .exact e
 refine⟨by omega,?_⟩
 have hF:=yP (l.yRY++[t]) l ⟨by rw[zak,zaY];omega,λy hy=>by
  rcases zaq.1 hy with e|e
  .exact hl.2 y e
  .rw[zas.1 e];exact ht⟩
 rw[zaB]at hF;refine mD (hF) (by simp -dsimp -implicitDefEqProofs [hshr,htk2,jA]) rfl ?_;cases h2:oO l.Length l.Width (l.yRY++[t])with
 |false=>rw[no (by simp[h2])];simp -dsimp -implicitDefEqProofs
 |true=>
 have e:xH l r t=(l.yt1 (l.yRY++[t]),true):=by simp[xH,h1,h2]
 rw[e];simp -dsimp -implicitDefEqProofs [hshr,htk2]
def yfI{α:Type}(l:List α)(i:Nat):List α:=l.take i++l.drop (i+1)
def sK(l:yR0)(r:Reach):yR0×yRT×Bool:=
 match leaver l r with
 |some i=>(l.yt1 (yfI l.yRY i),l.yRY.getD i ⟨false,[]⟩,true)
 |none=>(l,⟨false,[]⟩,false)
def yuH{l:List yRT}(h:aJ l)(i:Nat):aJ (l.take i)/\aJ (l.drop i):=by
 refine⟨⟨?_,λt ht=>h.2 t (zav ht)⟩,⟨?_,λt ht=>h.2 t (zaH ht)⟩⟩
 .have:=h.1;rw[zaz];omega
 .have:=h.1;rw[zaI];omega
set_option maxRecDepth 20000 in
def ysW(l:yR0)(r:Reach)(hl:l.small):qB prg 285 [.agg (l.enc.map .c),.agg (r.enc.map .c)] (.tup [.agg ((sK l r).1.enc.map .c),.agg ((sK l r).2.1.enc.map .c),.c (.b (sK l r).2.2)]):=by
 have no:leaver l r=none->sK l r=(l,⟨false,[]⟩,false):=λh=>by unfold sK;rw[h]
 have hll:=hl.1;have la:=kM r;refine dB yp6 ?_;simp -dsimp -implicitDefEqProofs;refine dD (yeo l hl) ?_;simp -dsimp -implicitDefEqProofs;refine aA (pX l hl) ?_;cases h1:lF l with
 |false=>rw[no (by simp[leaver,yh,h1])];simp -dsimp -implicitDefEqProofs
 |true=>
 simp -dsimp -implicitDefEqProofs;refine aA (oL r) ?_;cases h2:xE r with
 |false=>rw[no (by simp[leaver,yh,h2])];simp -dsimp -implicitDefEqProofs
 |true=>
 by_cases h4:l.Gate=0
 .rw[no (by simp[leaver,yh,h4])];simp -dsimp -implicitDefEqProofs [h4]
 have hc:yh l r=true:=by simp[yh,h1,h2,h4]
 have hs:=yA2 h1 l.Gate;have he:leaver l r=l.yRY.findIdx? (leaves l r):=by simp[leaver,hc]
 obtain⟨R,hR⟩:∃R,sK l r=R:=⟨_,rfl⟩;rw[hR];simp -dsimp -implicitDefEqProofs [h4];intro hlen;refine qA (ι:=Nat) (λi=>i<=l.yRY.length/\∀(j:Nat) (t:yRT),j<i->l.yRY[j]?=some t->leaves l r t=false) (λi=>xC [(2,.box 2 0),(3,.box 3 0),(4,.box 4 0),(5,.box 5 0),(6,.c (.b false)),(7,.box 7 0),(28,.c (.sl 2 (l.yRY.map yRT.enc))),(29,.c (.i l.yRY.length)),(30,.c (.i i))] [(2,.box (l.enc.map .c)),(3,.box (r.enc.map .c)),(4,.box [.c (.i 0),.c (.i 0),.c (.i 0),.c (.i 0),.c (.i 0),.c (.i 0),.c (.i 0),.c (.i 0),.c (.i 0),.nil 2]),(5,.box [.c (.b false),.nil 1]),(7,.box (l.enc.map .c))]) (λi=>l.yRY.length-i) 0 ⟨zby _,λj t h=>by omega⟩ (by apply aB<;>simp) ?_
 rintro i ⟨hi,hno⟩
 rcases yX1 i l.yRY with⟨ilt,t,ht⟩|ige
 .have gt:=(zaa.1 ht).2;have sm:=hl.2 t (zac ht);have hd:=ydq t
  have next:leaves l r t=false->∀(j:Nat) (t:yRT),j<i+1->l.yRY[j]?=some t->leaves l r t=false:=by
   intro h0 j t' hj ht';rcases zan j i with e|e
   .exact hno j t' e ht'
   .obtain rfl:j=i:=by omega
    rw[ht]at ht';cases ht';exact h0
  simp -dsimp -implicitDefEqProofs [ht,gt,ilt,fC ilt];refine⟨λhu=>?_,λhu=>?_⟩
  rotate_left
  .refine⟨gB ilt hlen,i+1,⟨ilt,next (by simp[leaves,hu])⟩,by omega,?_⟩;apply aB<;>simp
  refine lC (qL r) ?_;simp -dsimp -implicitDefEqProofs;refine lC (yjR l l.Gate) ?_;simp -dsimp -implicitDefEqProofs;refine⟨by unfold inI;omega,?_⟩;refine lC (yw t sm) ?_;simp -dsimp -implicitDefEqProofs;refine⟨λhd1=>?_,λhd1=>?_⟩
  rotate_left
  .refine⟨gB ilt hlen,i+1,⟨ilt,next (by simp[leaves];intro _;omega)⟩,by omega,?_⟩;apply aB<;>simp
  have c1:=ybj (l.yRY.take i) (yuH hl i).1;have c2:=ybj (l.yRY.drop (i+1)) (yuH hl (i+1)).2;have k1:=iJ yRT.aF 2 (l.yRY.take i);have k2:=iJ yRT.aF 2 (l.yRY.drop (i+1));rw[zaV]at c1 k1;rw[zaV]at c1;rw[zcB]at c2 k2;rw[zcB]at c2;have hyes:leaves l r t=true:=by simp[leaves,hu];omega
  have el:leaver l r=some i:=by
   rw[he,zbC];refine⟨ilt,by rw[gt];exact hyes,λj hj=>?_⟩;rw[hno j _ hj (zab (by omega))];exact zaG
  have eR:R=(l.yt1 (yfI l.yRY i),t,true):=by
   rw[<-hR];unfold sK;rw[el];simp only[zah,ht,zbe]
  subst eR;refine⟨hi,?_⟩;refine pJ c1 (by simp) k1 (by simp[fD]) ?_;simp -dsimp -implicitDefEqProofs;refine⟨by unfold inI;omega,by omega,by omega,?_⟩;refine pJ c2 (by simp) k2 (by simp[fD]) ?_;simp -dsimp -implicitDefEqProofs
  have h8:l.yRY.length<=8:=by
   have h1':=h1;simp only[lF,zad]at h1';rcases zan 8 l.yRY.length with e|e
   .have:=yg8 e;rw[this]at h1';simp at h1'
   .exact e
  refine⟨by omega,?_⟩;refine pJ (yaU t sm) (by simp) (dP (yRT.aF t)) (by simp[fD]) ?_;have hsh:=eF yRT.bF (yfI l.yRY i);unfold yfI at hsh;rw[zaB,zaB,zaV,zaV,zcB,zcB]at hsh;have htk:List.take (min i l.yRY.length+(l.yRY.length-(i+1))) (List.take i (l.yRY.map yRT.iD)++List.drop (i+1) (l.yRY.map yRT.iD))=List.take i (l.yRY.map yRT.iD)++List.drop (i+1) (l.yRY.map yRT.iD):=List.take_of_length_le (by simp);have htd:List.take (l.yRY.length-(i+1)) (List.drop (i+1) (l.yRY.map yRT.iD))=List.drop (i+1) (l.yRY.map yRT.iD):=List.take_of_length_le (by simp);have hbo:=eF yI t.Rows;simp -dsimp -implicitDefEqProofs [htd,htk,hsh,hbo,jA,yfI]
 .obtain rfl:i=l.yRY.length:=by omega
  have e:leaver l r=none:=by
   rw[he,zbX];intro t ht;obtain⟨j,hj⟩:=zbx.1 ht;exact hno j t (zaa.1 hj).1 hj
  rw[no e]at hR;subst hR;simp -dsimp -implicitDefEqProofs [aG ige]
def rF(c:yR4)(now:Int):Int:=
 if jO c=true/\inRange now c.Since 1000000=true then
  if c.Booked≠ -1/\c.Booked<=now then -1 else if(now-c.Since).tdiv 20<qO c.yRT then qO c.yRT-(now-c.Since).tdiv 20 else 0
 else 3
structure ySO(c:yR4):Prop where
 tr:oC c.yRT=true
 cls:0<=qO c.yRT/\qO c.yRT<=2
 snc:0<=c.Since/\c.Since<=1000000
 bkd: -1<=c.Booked/\c.Booked<=1000000
def yqg{c:yR4}(h:jO c=true):ySO c:=by
 simp only[jO,zad]at h;obtain⟨⟨h1,h2⟩,h3⟩:=h;exact⟨h1,yvn h1,aC.1 h2,aC.1 h3⟩
def ykx(c:yR4)(now:Int)(h:c.small):qB prg 356 [.agg (c.enc.map .c),.c (.i now)] (.c (.i (rF c now))):=by
 refine dB yvY (eP ?_);refine aA (yqV c h) ?_;cases h1:jO c with
 |false=>simp -dsimp -implicitDefEqProofs;simp[rF,h1]
 |true=>
 have cf:=yqg h1;have f1:=cf.cls;have f2:=cf.snc;have f3:=cf.bkd;refine eP ?_;refine aA (iC now c.Since 1000000) ?_;cases h2:inRange now c.Since 1000000 with
 |false=>simp -dsimp -implicitDefEqProofs;simp[rF,h1,h2]
 |true=>
 have r2:=aC.1 h2
 have hq:0<=(now-c.Since).tdiv 20/\(now-c.Since).tdiv 20<=50000:=by
  rw[zaA (by omega)];omega
 have fin:¬(c.Booked≠ -1/\c.Booked<=now)->rF c now=if(now-c.Since).tdiv 20<qO c.yRT then qO c.yRT-(now-c.Since).tdiv 20 else 0:=λhn=>by
  unfold rF;rw[if_pos ⟨h1,h2⟩,if_neg hn]
 have fyes:(c.Booked≠ -1/\c.Booked<=now)->rF c now= -1:=λhn=>by
  unfold rF;rw[if_pos ⟨h1,h2⟩,if_pos hn]
 by_cases hb:c.Booked= -1
 .refine eU hb ?_;refine lC (yhh c.yRT h) (eP ?_);refine⟨by unfold inI;omega,by unfold inI;omega,by unfold inI;omega,?_⟩;rw[fin (by simp[hb])]
 .by_cases hb2:c.Booked<=now
  .refine yaed hb hb2 ?_;rw[fyes ⟨hb,hb2⟩]
  .refine yaed hb hb2 ?_;refine lC (yhh c.yRT h) (eP ?_);refine⟨by unfold inI;omega,by unfold inI;omega,by unfold inI;omega,?_⟩;rw[fin (by simp[hb];omega)]
def yli{c:yR4}{now:Int}(h:rF c now≠3):oC c.yRT=true/\0<(lG c.yRT).length:=by
 by_cases h1:jO c=true
 .have h2:=(yqg h1).tr;exact⟨h2,by rw[lG,if_pos h2,zai];exact(lK h2).pos⟩
 .exact absurd (by simp[rF,h1]) h
def before(a b:yR4)(now:Int):Bool:=
 if rF a now=3\/rF b now=3 then false
 else if rF a now≠rF b now then decide (rF a now<rF b now)
 else if rF a now= -1/\a.Booked≠b.Booked then decide (a.Booked<b.Booked)
 else if a.Since≠b.Since then decide (a.Since<b.Since)
 else decide ((lG a.yRT)[0]?.getD 0<(lG b.yRT)[0]?.getD 0)
def ygG(a b:yR4)(now:Int)(ha:a.small)(hb:b.small):qB prg 358 [.agg (a.enc.map .c),.agg (b.enc.map .c),.c (.i now)] (.c (.b (before a b now))):=by
 refine dB ym7 (eP ?_);refine lC (ykx a now ha) (eP ?_);refine lC (ykx b now hb) ?_
 by_cases h1:rF a now=3
 .refine eU h1 ?_;simp[before,h1]
 by_cases h2:rF b now=3
 .refine yaed h1 h2 ?_;simp[before,h2]
 by_cases h3:rF a now=rF b now
 rotate_left
 .refine yaeT h1 h2 h3 ?_;simp[before,h1,h2,h3]
 have last:a.Since=b.Since->¬(rF a now= -1/\a.Booked≠b.Booked)->before a b now=decide ((lG a.yRT)[0]?.getD 0<(lG b.yRT)[0]?.getD 0):=λh5 h6=>by
  unfold before;rw[if_neg (by simp[h1,h2]),if_neg (by simp[h3]),if_neg h6,if_neg (by simp[h5])]
 have snc:a.Since≠b.Since->¬(rF a now= -1/\a.Booked≠b.Booked)->before a b now=decide (a.Since<b.Since):=λh5 h6=>by
  unfold before;rw[if_neg (by simp[h1,h2]),if_neg (by simp[h3]),if_neg h6,if_pos h5]
 have bkd:(rF a now= -1/\a.Booked≠b.Booked)->before a b now=decide (a.Booked<b.Booked):=λh6=>by
  unfold before;rw[if_neg (by simp[h1,h2]),if_neg (by simp[h3]),if_pos h6]
 obtain⟨_,pa⟩:=yli h1;obtain⟨_,pb⟩:=yli h2;obtain⟨x,hx⟩:∃x,(lG a.yRT)[0]?=some x:=⟨_,zab pa⟩;obtain⟨y,hy⟩:∃x,(lG b.yRT)[0]?=some x:=⟨_,zab pb⟩;have gx:=(zaa.1 hx).2;have gy:=(zaa.1 hy).2
 by_cases h6:rF a now= -1/\a.Booked≠b.Booked
 .have h3':rF b now= -1:=by rw[<-h3];exact h6.1
  simp -dsimp -implicitDefEqProofs [h1,h2,h3,h6.1,h6.2,h3'];rw[bkd h6]
 by_cases h5:a.Since=b.Since
 rotate_left
 .by_cases h7:rF a now= -1
  .have h8:a.Booked=b.Booked:=by
    by_cases h:a.Booked=b.Booked
    .exact h
    .exact absurd ⟨h7,h⟩ h6
   have h3':rF b now= -1:=by rw[<-h3];exact h7
   refine yaeV h7 h8 h5 h3' ?_;rw[snc h5 h6]
  .have h3':¬rF b now= -1:=by rw[<-h3];exact h7
   refine yaff h1 h2 h3 h5 h3' ?_;rw[snc h5 h6]
 .have hl:=last h5 h6;rw[hx,hy]at hl;simp only[zbe]at hl
  by_cases h7:rF a now= -1
  .have h8:a.Booked=b.Booked:=by
    by_cases h:a.Booked=b.Booked
    .exact h
    .exact absurd ⟨h7,h⟩ h6
   have h3':rF b now= -1:=by rw[<-h3];exact h7
   refine yaeV h7 h8 h5 h3' ?_;refine gX (ya0 a.yRT ha) (yaeT pa hx gx ?_);refine gX (ya0 b.yRT hb) (yaeT pb hy gy ?_);rw[hl]
  .have h3':¬rF b now= -1:=by rw[<-h3];exact h7
   refine yaff h1 h2 h3 h5 h3' ?_;refine gX (ya0 a.yRT ha) (yaeT pa hx gx ?_);refine gX (ya0 b.yRT hb) (yaeT pb hy gy ?_);rw[hl]
def kC(x:Nat):List C:=[.i x]
def yri(lt:Nat->Nat->Bool)(x:Nat)(P:List Nat):List Nat:=(P.reverse.dropWhile (lt x)).reverse++x::(P.reverse.takeWhile (lt x)).reverse
def yeu(lt:Nat->Nat->Bool)(xs:List Nat):Nat->List Nat
 |0=>[]
 |i+1=>match xs[i]? with
  |some x=>yri lt x (yeu lt xs i)
  |none=>yeu lt xs i
def yip{p:Nat->Bool}:∀{a b:List Nat},(∀x∈a,p x=true)->(∀y l,b=y::l->p y=false)->(a++b).takeWhile p=a/\(a++b).dropWhile p=b
 |[],[],_,_=>⟨rfl,rfl⟩
 |[],y::l,_,h=>by
  have:=h y l rfl;simp[zbm,zcg,this]
 |x::a,b,h1,h2=>by
  have hx:=h1 x (by simp);obtain⟨e1,e2⟩:=yip (p:=p) (a:=a) (b:=b) (λy hy=>h1 y (by simp[hy])) h2;simp[zbm,zcg,hx,e1,e2]
def yyn{lt:Nat->Nat->Bool}{x:Nat}{P l1 l2:List Nat}(e:l1++l2=P)(h2:∀y∈l2,lt x y=true)(h1:∀l y,l1=l++[y]->lt x y=false):yri lt x P=l1++x::l2:=by
 have hr:P.reverse=l2.reverse++l1.reverse:=by rw[<-e,zcW]
 obtain⟨e1,e2⟩:=yip (p:=lt x) (a:=l2.reverse) (b:=l1.reverse) (λy hy=>h2 y (zdR.1 hy)) (λy l h=>h1 l.reverse y (by
  have:=congrArg List.reverse h;simpa using this))
 unfold yri;rw[hr,e1,e2,zcp,zcp]
def yEr{lt:Nat->Nat->Bool}{x:Nat}{P:List Nat}:(yri lt x P).Perm (x::P):=by
 have h:(P.reverse.dropWhile (lt x)).reverse++(P.reverse.takeWhile (lt x)).reverse=P:=by
  rw[<-zcW,zbZ,zcp]
 unfold yri;refine List.perm_middle.trans ?_;rw[h]
def ydH{lt:Nat->Nat->Bool}{xs:List Nat}{i x:Nat}(h:xs[i]?=some x):yeu lt xs (i+1)=yri lt x (yeu lt xs i):=by
 rw[yeu,h]
def ylr{lt:Nat->Nat->Bool}{xs:List Nat}:∀i:Nat,i<=xs.length->(yeu lt xs i).Perm (xs.take i)
 |0,_=>by simp[yeu]
 |i+1,h=>by
  have ih:=ylr (lt:=lt) (xs:=xs) i (by omega);rw[ydH (zab (show i<xs.length by omega)),zar,zab (show i<xs.length by omega)];refine yEr.trans ((ih.cons _).trans ?_);exact(List.perm_append_singleton _ _).symm
def sorted(lt:Nat->Nat->Bool)(xs:List Nat):List Nat:=yeu lt xs xs.length
def sorted_perm{lt:Nat->Nat->Bool}{xs:List Nat}:(sorted lt xs).Perm xs:=by
 have:=ylr (lt:=lt) (xs:=xs) xs.length (Nat.le_refl _)
 rwa [List.take_length]at this
def gO(lt:Nat->Nat->Bool)(xs:List Nat)(i:Nat):List Nat:=yeu lt xs i++xs.drop i
def gM(xs l1 l2:List Nat)(x i:Nat):List Nat:=(l1++x::l2)++xs.drop (i+1)
def yJ4{lt:Nat->Nat->Bool}{xs:List Nat}(h:1<=xs.length):gO lt xs 1=xs:=by
 obtain⟨x,l,rfl⟩:∃x l,xs=x::l:=by cases xs with|nil=>simp at h|cons x l=>exact⟨x,l,rfl⟩
 simp[gO,yeu,yri]
def yLn{lt:Nat->Nat->Bool}{xs:List Nat}:gO lt xs xs.length=sorted lt xs:=by simp[gO,sorted]
def gO_go{lt:Nat->Nat->Bool}{xs:List Nat}{i x:Nat}(h:xs[i]?=some x):gO lt xs i=gM xs (yeu lt xs i) [] x i:=by
 have hlt:=(zaa.1 h).1;have hx:=(zaa.1 h).2;unfold gO gM;rw[zay hlt,hx];simp
def yGs{lt:Nat->Nat->Bool}{xs:List Nat}{i x:Nat}{l1 l2:List Nat}(hx:xs[i]?=some x)(h:yri lt x (yeu lt xs i)=l1++x::l2):gM xs l1 l2 x i=gO lt xs (i+1):=by
 unfold gO gM;rw[ydH hx,h]
def yMp{xs:List Nat}{i x:Nat}{l1 l2:List Nat}(h:l1.length+l2.length=i)(h2:i<xs.length):(gM xs l1 l2 x i).length=xs.length:=by simp[gM];omega
def yKv{xs:List Nat}{i x y:Nat}{l l2:List Nat}:(gM xs (l++[y]) l2 x i)[l.length+1]?=some x/\(gM xs (l++[y]) l2 x i)[l.length]?=some y/\
 ((gM xs (l++[y]) l2 x i).set (l.length+1) y).set l.length x=gM xs l (y::l2) x i:=by
 unfold gM;simp only[zbb,zcQ,zcj];refine⟨by simp[zbY],by simp[zbY],?_⟩;simp[zcz]
def fE(cmp:Nat->Nat->Int)(x y:Nat):Bool:=decide (cmp x y<0)
def yDZ(o:List Nat):(cw 1 (o.map kC)).closed:=by
 cases o with
 |nil=>simp[cw,C.closed]
 |cons x l=>simp[cw,C.closed,kC]
def yCP(f:Nat)(a b:List C):InF prg 377 (.c (.sl 1 [])) (.c (.sl 1 [])) [.c (.i 0),.c (.i 0),.fn f [.elt a,.elt b]] (.tup []):=by
 refine aK dM (by simp) (by simp) rfl λhwf=>?_;refine eP ?_;refine⟨by unfold inI;omega,?_⟩;refine qA (ι:=Unit) (λ_=>True) (λ_=>xC [(2,.c (.i 0)),(8,.c (.i 1)),(1000000,.c (.sl 1 []))] []) (λ_=>0) () trivial (by apply aB<;>simp) ?_
 rintro _ _
 refine eP ?_;simp[ybG]
def yEk(f:Nat)(a b:List C):InF prg 350 (.c (.sl 1 [])) (.c (.sl 1 [])) [.c (.i 0),.fn f [.elt a,.elt b]] (.tup []):=by
 refine aK nS (by simp) (by simp) rfl λhwf=>?_;refine eP ?_;refine qA (ι:=Unit) (λ_=>True) (λ_=>xC [(0,.c (.sl 1 [])),(1,.c (.i 0)),(2,.fn f [.elt a,.elt b]),(6,.c (.i 20)),(7,.c (.i 0)),(8,.c (.i 20)),(1000000,.c (.sl 1 []))] []) (λ_=>0) () trivial (by apply aB<;>simp) ?_
 rintro _ _
 refine eP ?_;refine tH (up:=none) (yCP f a b) (by simp) rfl rfl (sS rfl) (eP ?_);refine qA (ι:=Unit) (λ_=>True) (λ_=>xC [(1,.c (.i 0)),(6,.c (.i 20)),(1000000,.c (.sl 1 []))] []) (λ_=>0) () trivial (by apply aB<;>simp) ?_
 rintro _ _
 refine eP ?_;simp[ybG]
def yv1(f:Nat)(a b:List C):InF prg 257 (.c (.sl 1 [])) (.c (.sl 1 [])) [.fn f [.elt a,.elt b]] (.tup []):=by
 refine aK iM (by simp) (by simp) rfl λhwf=>?_;refine eP ?_;refine tH (up:=none) (yEk f a b) (by simp) rfl rfl (sS rfl) (eP ?_);simp[ybG]
def yrt(list:List yR4)(now:Int)(x y:Nat):Int:=
 match list[x]?,list[y]? with
 |some a,some b=>if before a b now then -1 else if before b a now then 1 else 0
 |_,_=>0
def yBw(list:List yR4)(now:Int)(hs:oM list)(x y:Nat)(hx:x<list.length)(hy:y<list.length):
 qB prg 357 [.c (.i x),.c (.i y),.elt [.sl 4 (list.map yR4.enc)],.elt [.i now]] (.c (.i (yrt list now x y))):=by
 obtain⟨a,ha⟩:∃e,list[x]?=some e:=⟨_,zab hx⟩;obtain⟨b,hb⟩:∃e,list[y]?=some e:=⟨_,zab hy⟩;have g1:=(zaa.1 ha).2;have g2:=(zaa.1 hb).2;have sa:=hs.2 a (zac ha);have sb:=hs.2 b (zac hb);have e:yrt list now x y=if before a b now then -1 else if before b a now then 1 else 0:=by simp[yrt,ha,hb]
 rw[e];refine dB ylH ?_;simp -dsimp -implicitDefEqProofs [ydi,ha,hb,g1,g2,hx,hy];refine lC (ygG a b now sa sb) ?_;cases h1:before a b now with
 |true=>simp -dsimp -implicitDefEqProofs
 |false=>
 refine yafq ha hb g1 g2 hx hy ?_;refine lC (ygG b a now sb sa) ?_;cases h2:before b a now with
 |true=>simp -dsimp -implicitDefEqProofs
 |false=>simp -dsimp -implicitDefEqProofs
def oU(list:List yR4)(now:Int)(k:Nat):List Nat:=(List.range k).filter λi=>decide (rF (list[i]?.getD default) now≠3)
def yqT{list:List yR4}{now:Int}{k:Nat}{c:yR4}(h:list[k]?=some c):oU list now (k+1)=if rF c now=3 then oU list now k else oU list now k++[k]:=by
 unfold oU;rw[zcY,zci]
 by_cases h2:rF c now=3<;>simp[h,h2]
def yxB{list:List yR4}{now:Int}{k x:Nat}(h:x∈oU list now k):x<k:=by
 unfold oU at h;exact zaT.1 (zbz.1 h).1
def ync{list:List yR4}{now:Int}{k:Nat}:(oU list now k).length<=k:=by
 unfold oU;exact zaX (zbJ _ _) (by simp)
def kS(list:List yR4)(now:Int):List Nat:=sorted (fE (yrt list now)) (oU list now list.length)
def yfv(t:yRT):Int:=t.qE.length
def yrA(t:yRT)(hs:t.small):qB prg 360 [.agg (t.enc.map .c)] (.c (.i (yfv t))):=by
 refine dB ynO ?_;have hR:t.Rows.flatten=t.qE:=rfl;refine eP ?_;intro hlen;refine yX2 (λk=>k<=t.Rows.length) (λk=>xC [(1,.box 1 0),(3,.c (.i (heads t.Rows k).length)),(7,.c (.sl 1 (t.Rows.map jE))),(8,.c (.i t.Rows.length)),(9,.c (.i k))] [(1,.box (t.enc.map .c))]) (λk=>t.Rows.length-k) (by apply aB<;>simp[yaE]) ?_
 rintro k hk
 rcases yX1 k t.Rows with⟨hlt,r,hr⟩|hge
 .have g1:=(zaa.1 hr).2;have hsu:=ydL hr;have hb:=ycH hs (k+1);have hl2:(heads t.Rows (k+1)).length=(heads t.Rows k).length+r.length:=by rw[hsu,zak]
  refine yaeV hr g1 hlt (fC hlt) ?_;intro hm;refine⟨by unfold inI;omega,gB hlt hlen,k+1,hlt,by omega,?_⟩;apply aB<;>simp[hl2]
 .have:=ydD hge;simp -dsimp -implicitDefEqProofs [aG hge,this];simp[yfv,yRT.qE,List.length_flatten]
def ytJ(c:Int)(n i:Nat):Bool:=decide (yG1 (yzh c ((n:Int)-1-i)) 1=1)
def xF(c:Int)(n k:Nat):List Nat:=(List.range k).filter λi=>ytJ c n i
def yq3{c:Int}{n k:Nat}:xF c n (k+1)=if ytJ c n k then xF c n k++[k]else xF c n k:=by
 unfold xF;rw[zcY,zci];cases h:ytJ c n k<;>simp[h]
def yb5{c:Int}{n k x:Nat}(h:x∈xF c n k):x<k:=zaT.1 (zbz.1 h).1
def ym9{c:Int}{n k:Nat}:(xF c n k).length<=k:=zaX (zbJ _ _) (by simp)
def qAt(q:List yRT)(l:List Nat):List yRT:=l.map λi=>q.getD i ⟨false,[]⟩
def yai(q:List yRT)(l:List Nat):Int:=((qAt q l).map yfv).sum
def ygs{q:List yRT}{l:List Nat}{k:Nat}{t:yRT}(h:q[k]?=some t):qAt q (l++[k])=qAt q l++[t]:=by
 simp[qAt,zah,h]
def yzt{q:List yRT}{l:List Nat}{k:Nat}{t:yRT}(h:q[k]?=some t):yai q (l++[k])=yai q l+yfv t:=by
 unfold yai;rw[ygs h];simp
def yg0{q:List yRT}{p:yRT->Prop}{l:List Nat}(hq:∀t∈q,p t)(hl:∀x∈l,x<q.length):∀t∈qAt q l,p t:=by
 intro t ht;obtain⟨x,hx,rfl⟩:=zaO.1 ht;have:=hl x hx;rw[zah,zab this];exact hq _ (zbM _)
def yFD(es:List yRT)(hl:es.length<=1048576):nI prg 359 [.c (.sl 2 (es.map yRT.enc))] (.c (.ow 2 (es.map yRT.enc))):=by
 refine fF rZ ?_;simp -dsimp -implicitDefEqProofs [kP,jA];omega
def ypM{t:yRT}(hs:t.small):0<=yfv t/\yfv t<=1099511627776:=by
 have:=ycH hs t.Rows.length;rw[ydD (Nat.le_refl _)]at this;have e:(t.qE.length)=(t.Rows.flatten).length:=rfl;unfold yfv;omega
def ylm{q:List yRT}(hq:∀t∈q,t.small):∀l:List Nat,(∀x∈l,x<q.length)->0<=yai q l/\yai q l<=1099511627776*l.length
 |[],_=>by simp[yai,qAt]
 | a::l,h=>by
  have ih:=ylm hq l λx hx=>h x (by simp[hx]);have h1:=h a (by simp);have h2:=ypM (hq _ (zbM h1))
  have e:yai q (a::l)=yfv q[a]+yai q l:=by
   simp[yai,qAt,zah,zab h1]
  rw[e,zaJ]
  push_cast
  omega
def ygf(l:yR0)(q:List yRT)(n:Nat)(s:Int×List Nat)(c:Int):Int×List Nat:=
 if s.1<yai q (xF c n n)/\oO l.Length l.Width (l.yRY++qAt q (xF c n n))=true then(yai q (xF c n n),xF c n n)else s
def aS(l:yR0)(q:List yRT)(n:Nat)(top:Nat):Nat->Int×List Nat
 |0=>(0,[])
 |k+1=>ygf l q n (aS l q n top k) ((top-k:Nat):Int)
def yau(q:List yRT):Nat:=min q.length 8
def yrO(n:Nat):Nat:=2^n-1
def yC9{n:Nat}(h:n<=8):yy4 1 (n:Int)=((yrO n:Nat):Int)+1/\yrO n<=255:=by
 have:n=0\/n=1\/n=2\/n=3\/n=4\/n=5\/n=6\/n=7\/n=8:=by omega
 rcases this with rfl|rfl|rfl|rfl|rfl|rfl|rfl|rfl|rfl<;>decide
def sQ(l:yR0)(q:List yRT):List Nat:=if lF l then(aS l q (yau q) (yrO (yau q)) (yrO (yau q))).2 else[]
def ykZ{l:yR0}{q:List yRT}{n top:Nat}(hq:∀t∈q,t.small)(hn:n<=q.length)(hn8:n<=8):∀k:Nat,(0<=(aS l q n top k).1/\(aS l q n top k).1<=10000000000000)/\(∀x∈(aS l q n top k).2,x<n)/\(aS l q n top k).2.length<=8
 |0=>by simp[aS]
 | k+1=>by
  have ih:=ykZ (l:=l) (top:=top) hq hn hn8 k;unfold aS ygf;split
  .have h1:∀x∈xF ((top-k:Nat):Int) n n,x<n:=λx hx=>yb5 hx;have h2:=ylm hq _ λx hx=>zdC (h1 x hx) hn;have h3:(xF ((top-k:Nat):Int) n n).length<=n:=ym9;exact⟨⟨by simp only;omega,by simp only;omega⟩,h1,by simp only;omega⟩
  .exact ih
set_option maxRecDepth 20000 in
def ysZ(l:yR0)(q:List yRT)(hl:l.small)(hq:∀t∈q,t.small)(hql:q.length<=1000):nI prg 289 [.agg (l.enc.map .c),.c (.sl 2 (q.map yRT.enc))] (.c (.ow 1 ((sQ l q).map kC))):=by
 refine fF ypd (eP ?_);refine aA (pX l hl) ?_;cases h1:lF l with
 |false=>simp -dsimp -implicitDefEqProofs;simp[sQ,h1]
 |true=>
 have h8:l.yRY.length<=8:=by
  have h1':=h1;simp only[lF,zad]at h1';rcases zan 8 l.yRY.length with e|e
  .have:=yg8 e;rw[this]at h1';simp at h1'
  .exact e
 have hb:sQ l q=(aS l q (yau q) (yrO (yau q)) (yrO (yau q))).2:=by simp only[sQ,h1,if_true]
 rw[hb];obtain⟨n,hn⟩:∃n,yau q=n:=⟨_,rfl⟩;have hnl:n<=q.length/\n<=8:=by rw[<-hn];unfold yau;omega
 obtain⟨ht,ht2⟩:=yC9 hnl.2;rw[hn];have hmn:(if(8:Int)<(q.length:Int)then(8:Int)else(q.length:Int))=(n:Int):=by rw[<-hn];unfold yau;split<;>omega
 obtain⟨top,htop⟩:∃top,yrO n=top:=⟨_,rfl⟩;rw[htop]at ht ht2;rw[htop];have hi0:yy4 1 (n:Int)-1=((top:Nat):Int):=by omega
 refine yaed hmn hi0 ?_
 refineλhlen=>⟨by unfold inI;omega,?_⟩
 refine jX (k0:=1) 6 1 (by simp) (by simp) (by decide) ?_;refine yX2 (λk=>k<=top) (λk=>xC [(1,.c (.sl 2 (q.map yRT.enc))),(2,.box 2 0),(5,.c (.i n)),(6,.own 6 1 (aS l q n top k).2.length),(7,.c (.i (aS l q n top k).1)),(8,.c (.i ((top-k:Nat):Int)))] [(2,.box (l.enc.map .c)),(6,.row 1 ((aS l q n top k).2.map kC))]) (λk=>top-k) (by apply aB<;>simp[aS]) ?_
 rintro k hk
 obtain⟨hB1,hB2,hB3⟩:=ykZ (l:=l) (top:=top) hq hnl.1 hnl.2 k;have hsuc:aS l q n top (k+1)=ygf l q n (aS l q n top k) ((top-k:Nat):Int):=rfl;obtain⟨B,hBe⟩:∃B,aS l q n top k=B:=⟨_,rfl⟩;rw[hBe]at hB1 hB2 hB3 hsuc|-;obtain⟨c,hc⟩:∃c,top-k=c:=⟨_,rfl⟩;rw[hc]at hsuc|-;rcases zan k top with klt|kge
 .have c0:((0:Int)<(c:Int))=True:=eq_true (by omega);have c0':(0<c)=True:=eq_true (by omega);refine yaed c0 c0' ?_;refine yX5 (yFD l.yRY hl.1) (goT_ ?_);refine jX (k0:=1) 10 1 (by simp) (by simp) (by decide) ?_;refine yX2 (λi=>i<=n) (λi=>xC [(1,.c (.sl 2 (q.map yRT.enc))),(2,.box 2 0),(5,.c (.i n)),(6,.own 6 1 B.2.length),(7,.c (.i B.1)),(8,.c (.i c)),(9,.own 28 2 (l.yRY.length+(xF c n i).length)),(10,.own 10 1 (xF c n i).length),(11,.c (.i (yai q (xF c n i)))),(12,.c (.i i))] [(2,.box (l.enc.map .c)),(6,.row 1 (B.2.map kC)),(28,.row 2 ((l.yRY++qAt q (xF c n i)).map yRT.enc)),(10,.row 1 ((xF c n i).map kC))]) (λi=>n-i) (by apply aB<;>simp[xF,qAt,yai]) ?_
  rintro i hi
  have hpl:(xF c n i).length<=i:=ym9;have hps:=yq3 (c:=c) (n:=n) (k:=i);have hql2:(qAt q (xF c n i)).length=(xF c n i).length:=by simp[qAt]
  rcases zan i n with ilt|ige
  .obtain⟨t,htq⟩:∃t,q[i]?=some t:=⟨_,zab (by omega)⟩;have gt:=(zaa.1 htq).2;have iq:i<q.length:=by omega
   have sm:=hq t (zac htq);have i0:((i:Int)<(n:Int))=True:=eq_true (by omega);have bt:=ypM sm;have bq:=ylm hq (xF c n i) λx hx=>by have:=yb5 hx;omega
   have nneg:(0:Int)<=(n:Int)-1-i:=by omega
   refine yaff i0 ilt htq gt iq ?_;refine⟨by unfold inI;omega,by unfold inI;omega,by omega,λhbt=>?_,λhbt=>?_⟩
   .rw[if_pos (show ytJ (c:Int) n i=true from decide_eq_true hbt)]at hps;have e1:=yzt (l:=xF c n i) htq;have e2:=ygs (l:=xF c n i) htq;rw[<-hps]at e1 e2;have e3:(xF c n (i+1)).length=(xF c n i).length+1:=by rw[hps,zak,zaY]
    refine⟨by omega,by omega,by omega,?_⟩;refine yYq (yrA t sm) (eP ?_);refine⟨by unfold inI;omega,by unfold inI;omega,i+1,ilt,by omega,?_⟩;have hpm:(xF c n (i+1)).map kC=(xF c n i).map kC++[[C.i i]]:=by rw[hps];simp[kC]
    have hln:l.yRY.length+(qAt q (xF c n i)).length+1=l.yRY.length+((xF c n i).length+1):=by omega
    apply aB<;>simp[e1,e2,e3,hpm,hln]
   .rw[if_neg (show¬ytJ (c:Int) n i=true fromλh=>hbt (of_decide_eq_true h))]at hps;refine⟨by unfold inI;omega,i+1,ilt,by omega,?_⟩;apply aB<;>simp[hps]
  .obtain rfl:i=n:=by omega
   refine eP ?_;have hsmq:=yg0 hq (l:=xF c i i) λx hx=>by have:=yb5 hx;omega
   have hF:=yP (l.yRY++qAt q (xF c i i)) l ⟨by rw[zak];omega,λy hy=>by
    rcases zaq.1 hy with e|e
    .exact hl.2 y e
    .exact hsmq y e⟩
   rw[zaB]at hF;have hpb:=ylm hq (xF c i i) λx hx=>by have:=yb5 hx;omega
   unfold ygf at hsuc;have ek:((top-(k+1):Nat):Int)=(c:Int)-1:=by omega
   have htk:List.take (l.yRY.length+(xF c i i).length) (l.yRY.map yRT.enc++(qAt q (xF c i i)).map yRT.enc)=l.yRY.map yRT.enc++(qAt q (xF c i i)).map yRT.enc:=List.take_of_length_le (by simp[hql2]);refine⟨λhm=>?_,λhm=>?_⟩
   .have hm':=hm;refine mD (hF) (by simp -dsimp -implicitDefEqProofs [jA,htk]) rfl ?_;cases hf:oO l.Length l.Width (l.yRY++qAt q (xF c i i))with
    |true=>
     rw[if_pos ⟨hm,hf⟩]at hsuc;refine eP ?_;refine⟨by unfold inI;omega,k+1,klt,by omega,?_⟩;refine yyv 6 10 ?_;apply aB<;>simp[hsuc,ek,AV.ren,AV.yzO,AV.ytG,Obj.ren,yas]
    |false=>
     rw[if_neg (by rw[hf];simp)]at hsuc;refine eP ?_;refine⟨by unfold inI;omega,k+1,klt,by omega,?_⟩;apply aB<;>simp[hsuc,ek]
   .rw[if_neg (λh=>by omega)]at hsuc;refine⟨by unfold inI;omega,k+1,klt,by omega,?_⟩;apply aB<;>simp[hsuc,ek]
 .obtain rfl:k=top:=by omega
  have c0:c=0:=by omega
  subst c0;refine eU hBe ?_;exact(List.take_of_length_le (by simp)).symm
def yET(es:List (List yR6))(hl:es.length<=1048576):nI prg 158 [.c (.sl 1 (es.map nD))] (.c (.ot 1 (es.map nD))):=by
 refine fF lX ?_;simp -dsimp -implicitDefEqProofs [aN,jA];omega
def yIe(es:List yR6):qB prg 159 [.c (.sl 3 (es.map yR6.enc))] (.clip 3 (es.map yR6.enc)):=by
 refine dB yu ?_;simp -dsimp -implicitDefEqProofs [bQ,jA]
def oG(x:yRW)(k:Nat)(m:yR6):yRW:={x with yR3:=x.yR3.set k (x.yR3.getD k []++[m])}
def ykB(x:yRW)(k:Nat)(m:yR6):List C:=[.i x.Time,.sl 3 (x.yRV.map Reach.enc),.sl 2 (x.ySl.map Way.enc),.sl 22 (x.yRX.map yR8.enc),.ot 1 ((x.yR3.map nD).set k [.ow 3 ((x.yR3.getD k []++[m]).map yR6.enc)]),.sl 2 (x.yR9.map yRT.enc),.sl 1 (x.ySd.map qC),.i x.yRZ.Base,.i x.yRZ.ySe,.sl 1 (x.yRZ.yR5.map qC),.sl 1 (x.yRZ.yR7.map qC),.sl 5 (x.Book.map ySb.enc),.sl 4 (x.yR1.map yR2.enc),.i x.Start,.i x.In,.i x.Out]
def yAh(x:yRW)(k:Nat)(l:List yR6)(m:yR6)(hs:x.yR3.length<=1048576)(hk:x.yR3[k]?=some l)(hll:l.length<=1048576):
 nI prg 58 [.agg (x.enc.map .c),.c (.i k),.agg (m.enc.map .c)] (.agg ((ykB x k m).map .c)):=by
 have kl:=(zaa.1 hk).1;have gl:=(zaa.1 hk).2;refine fF ypS (eP ?_);refine yX5 (yET x.yR3 hs) (goT_4 hk gl kl (fC kl) ?_);refine bI (yIe l) ?_;simp -dsimp -implicitDefEqProofs [jA,hk,gl,kl,fC kl,ykB];refine⟨by omega,?_⟩;have e1:∀y:List C,List.take (l.length+1) (List.map yR6.enc l++[y])=List.map yR6.enc l++[y]:=λy=>List.take_of_length_le (by simp);have e2:∀y:List C,List.take x.yR3.length ((List.map nD x.yR3).set k y)=(List.map nD x.yR3).set k y:=λy=>List.take_of_length_le (by simp);simp[setAt,hk,gl,kl,nD,e1,e2]
def ysh(xs:List (List yR6)):yaq (xs.map nD)=some (xs.map nD):=by
 induction xs with
 |nil=>rfl
 |cons a xs ih=>rw[zbd];simp only[yaq,ih];rfl
def yBn{rows rs:List (List C)}{r s:List C}(h:yaq rows=some rs)(hr:dO r=some s)(k:Nat):yaq (rows.set k r)=some (rs.set k s):=by
 induction rows generalizing rs k with
 |nil=>simp only[yaq,Option.some.injEq]at h;subst h;rfl
 | cons a l ih=>
  simp only[yaq]at h;cases ha:dO a with
  |none=>rw[ha]at h;cases h
  | some x=>
   cases hl:yaq l with
   |none=>rw[ha,hl]at h;cases h
   |some y=>
    rw[ha,hl]at h;simp only[Option.some.injEq]at h;subst h;cases k with
    |zero=>simp only[zbu,yaq,hr,hl]
    |succ k=>simp only[zdc,yaq,ha,ih hl k]
def yv5(x:yRW)(k:Nat)(m:yR6):yaq ((x.yR3.map nD).set k [.ow 3 ((x.yR3.getD k []++[m]).map yR6.enc)])=some ((oG x k m).yR3.map nD):=by
 rw[yBn (ysh x.yR3) (s:=nD (x.yR3.getD k []++[m])) rfl k];simp[oG,zaR]
structure SWO(lt:Nat->Nat->Bool)(S:Nat->Prop):Prop where
 asym:∀x y,S x->S y->lt x y=true->lt y x=false
 trans:∀x y z,S x->S y->S z->lt x y=true->lt y z=true->lt x z=true
 neg:∀x y z,S x->S y->S z->lt x y=false->lt y z=false->lt x z=false
def tot(lt:Nat->Nat->Bool)(x y:Nat):Prop:=lt x y=true\/(lt y x=false/\x<y)
section
variable {lt:Nat->Nat->Bool} {S:Nat->Prop}
def yk1(h:SWO lt S){x y z:Nat}(hx:S x)(hy:S y)(hz:S z)(h1:tot lt x y)(h2:tot lt y z):tot lt x z:=by
 rcases h1 with h1|⟨h1,h1'⟩<;>rcases h2 with h2|⟨h2,h2'⟩
 .exact .inl (h.trans x y z hx hy hz h1 h2)
 .left
  cases h3:lt x z with
  |true=>rfl
  |false=>rw[h.neg x z y hx hz hy h3 h2]at h1;cases h1
 .left
  cases h3:lt x z with
  |true=>rfl
  |false=>rw[h.neg y x z hy hx hz h1 h3]at h2;cases h2
 .exact .inr ⟨h.neg z y x hz hy hx h2 h1,by omega⟩
def yAa(h:SWO lt S){x y:Nat}(hx:S x)(hy:S y)(h1:tot lt x y)(h2:tot lt y x):False:=by
 rcases h1 with h1|⟨h1,h1'⟩<;>rcases h2 with h2|⟨h2,h2'⟩
 .rw[h.asym x y hx hy h1]at h2;cases h2
 .rw[h1]at h2;cases h2
 .rw[h1]at h2;cases h2
 .omega
def yE1{x y:Nat}(h:x≠y):tot lt x y\/tot lt y x:=by
 cases h1:lt x y with
 |true=>exact .inl (.inl h1)
 | false=>
  cases h2:lt y x with
  |true=>exact .inr (.inl h2)
  |false=>
   rcases zbK h with h|h
   .exact .inl (.inr ⟨h2,h⟩)
   .exact .inr (.inr ⟨h1,h⟩)
def cZ(h:SWO lt S):∀{a b:List Nat},(∀x∈a,S x)->a.Perm b->a.Pairwise (tot lt)->b.Pairwise (tot lt)->a=b
 |[],b,_,hp,_,_=>(List.nil_perm.1 hp).symm
 |x::a,[],_,hp,_,_=>by simp at hp
 | x ::a,y::b,hS,hp,ha,hb=>by
  rw[zbf]at ha hb
  have e:x=y:=by
   rcases Decidable.em (x=y)with e|e
   .exact e
   .have h1:x∈b:=by
     have:x∈y::b:=hp.mem_iff.1 (by simp);rcases zaC.1 this with h1|h1
     .exact absurd h1 e
     .exact h1
    have h2:y∈a:=by
     have:y∈x::a:=hp.mem_iff.2 (by simp);rcases zaC.1 this with h2|h2
     .exact absurd h2.symm e
     .exact h2
    exact(yAa h (hS x (by simp)) (hS y (by simp[h2])) (ha.1 y h2) (hb.1 x h1)).elim
  subst e;rw[cZ h (λz hz=>hS z (by simp[hz])) hp.cons_inv ha.2 hb.2]
def ymx(h:SWO lt S){x:Nat}(hx:S x):∀{a:List Nat},(∀y∈a,S y)->x∉a->a.Pairwise (tot lt)->∃b:List Nat,b.Perm (x::a)/\b.Pairwise (tot lt)
 |[],_,_,_=>⟨[x],.refl _,by simp⟩
 | y::a,hS,hn,ha=>by
  have hxy:x≠y:=λe=>hn (by simp[e]);rw[zbf]at ha;rcases yE1 (lt:=lt) hxy with h1|h1
  .refine⟨x::y::a,.refl _,?_⟩;rw[zbf,zbf];refine⟨λz hz=>?_,ha⟩;rcases zaC.1 hz with rfl|hz
   .exact h1
   .exact yk1 h hx (hS y (by simp)) (hS z (by simp[hz])) h1 (ha.1 z hz)
  .obtain⟨b,hb1,hb2⟩:=ymx h hx (a:=a) (λz hz=>hS z (by simp[hz])) (λe=>hn (by simp[e])) ha.2;refine⟨y::b,(hb1.cons y).trans (.swap _ _ _),?_⟩;rw[zbf];refine⟨λz hz=>?_,hb2⟩;rcases zaC.1 (hb1.mem_iff.1 hz)with rfl|hz
   .exact h1
   .exact ha.1 z hz
def yma(h:SWO lt S):∀{a:List Nat},(∀y∈a,S y)->a.Nodup->∃b:List Nat,b.Perm a/\b.Pairwise (tot lt)
 |[],_,_=>⟨[],.refl _,by simp⟩
 |x::a,hS,hn=>by
  rw[zcA]at hn;obtain⟨b,h1,h2⟩:=yma h (a:=a) (λy hy=>hS y (by simp[hy])) hn.2;obtain⟨c,h3,h4⟩:=ymx h (hS x (by simp)) (a:=b) (λy hy=>hS y (by simp[h1.mem_iff.1 hy])) (λe=>hn.1 (h1.mem_iff.1 e)) h2;exact⟨c,h3.trans (h1.cons x),h4⟩
def ypF(h:SWO lt S):∀{a:List Nat},(∀y∈a,S y)->a.Pairwise (tot lt)->a.Nodup
 |[],_,_=>by simp
 |x::a,hS,ha=>by
  rw[zbf]at ha;rw[zcA];refine⟨λe=>?_,ypF h (λy hy=>hS y (by simp[hy])) ha.2⟩;have:=ha.1 x e;exact yAa h (hS x (by simp)) (hS x (by simp)) this this
def yHo(h:SWO lt S){x:Nat}{P:List Nat}(hx:S x)(hP:∀y∈P,S y)(hlt:∀y∈P,y<x)(hs:P.Pairwise (tot lt)):(yri lt x P).Pairwise (tot lt):=by
 have e:(P.reverse.dropWhile (lt x)).reverse++(P.reverse.takeWhile (lt x)).reverse=P:=by
  rw[<-zcW,zbZ,zcp]
 have h2:∀y∈(P.reverse.takeWhile (lt x)).reverse,lt x y=true:=λy hy=>zaf.1 zdG y (zdR.1 hy)
 have h1:∀l y,(P.reverse.dropWhile (lt x)).reverse=l++[y]->lt x y=false:=by
  intro l y he
  have he2:P.reverse.dropWhile (lt x)=y::l.reverse:=by
   have:=congrArg List.reverse he;simpa using this
  have:=List.head?_dropWhile_not (lt x) P.reverse;rw[he2]at this;simpa using this
 unfold yri;generalize(P.reverse.dropWhile (lt x)).reverse=l1 at *;generalize(P.reverse.takeWhile (lt x)).reverse=l2 at *;subst e;rw[zaL]at hs|-;obtain⟨s1,s2,s3⟩:=hs;refine⟨s1,?_,λa ha b hb=>?_⟩
 .rw[zbf];exact⟨λy hy=>.inl (h2 y hy),s2⟩
 .rcases zaC.1 hb with rfl|hb
  .rcases zbS l1 with e|⟨l,z,e⟩
   .subst e;cases ha
   .rw[zbT]at e;have hz:=h1 l z e;subst e;have hzx:tot lt z b:=.inr ⟨hz,hlt z (by simp)⟩;rcases zaq.1 ha with ha'|ha'
    .rw[zaL]at s1;exact yk1 h (hP a (by simp[ha'])) (hP z (by simp)) hx (s1.2.2 a ha' z (by simp)) hzx
    .rw[zas]at ha';subst ha';exact hzx
  .exact s3 a ha b hb
def yz8(h:SWO lt S){xs:List Nat}(hS:∀y∈xs,S y)(hup:xs.Pairwise (·<·)):∀i:Nat,i<=xs.length->(yeu lt xs i).Pairwise (tot lt)
 |0,_=>by simp[yeu]
 |i+1,hi=>by
  have hx:xs[i]?=some (xs[i]'(by omega)):=zab (by omega);have hp:=ylr (lt:=lt) (xs:=xs) i (by omega);rw[ydH hx];refine yHo h (hS _ (zbM _)) (λy hy=>hS y (zav (hp.mem_iff.1 hy))) (λy hy=>?_) (yz8 h hS hup i (by omega));obtain⟨j,hj,rfl⟩:=zcq.1 (hp.mem_iff.1 hy);rw[zaz]at hj;rw[zdI];exact zcr.1 hup j i _ _ (by omega)
def yna(h:SWO lt S){xs:List Nat}(hS:∀y∈xs,S y)(hup:xs.Pairwise (·<·)):(sorted lt xs).Pairwise (tot lt):=yz8 h hS hup _ (Nat.le_refl _)
end
section
variable {lt:Nat->Nat->Bool} {S:Nat->Prop} {l r:List Nat}
def ysO(h:SWO lt S){x u:Nat}{i:Nat}(sl:l.Pairwise (tot lt))(hx:x∈l.take i)(hu:l[i-1]?=some u):x=u\/tot lt x u:=by
 obtain⟨k,hk,rfl⟩:=zcq.1 hx;rw[zaz]at hk;rw[zdI];obtain⟨hi,rfl⟩:=zaa.1 hu;rcases zan k (i-1)with h1|h1
 .exact .inr (zcr.1 sl k (i-1) _ _ h1)
 .have:k=i-1:=by omega
  subst this;exact .inl rfl
def yp7(h:SWO lt S){y v:Nat}{j:Nat}(sr:r.Pairwise (tot lt))(hy:y∈r.drop j)(hv:r[j]?=some v):y=v\/tot lt v y:=by
 obtain⟨k,hk,rfl⟩:=zcq.1 hy;rw[zaI]at hk;rw[List.getElem_drop];obtain⟨hj,rfl⟩:=zaa.1 hv;rcases zao k with h1|h1
 .subst h1;exact .inl rfl
 .exact .inr (zcr.1 sr j (j+k) _ _ (by omega))
def yxs(h:SWO lt S)(hl:∀x∈l,S x)(hr:∀x∈r,S x)(sl:l.Pairwise (tot lt))(sr:r.Pairwise (tot lt)){i j:Nat}
 (hA:i=0\/r.length<=j\/∃u v,l[i-1]?=some u/\r[j]?=some v/\tot lt u v) {x y:Nat} (hx:x∈l.take i) (hy:y∈r.drop j):tot lt x y:=by
 rcases hA with e|e|⟨u,v,hu,hv,huv⟩
 .subst e;simp at hx
 .rw[zaZ e]at hy;cases hy
 .have su:=hl u (zac hu);have sv:=hr v (zac hv);have sx:=hl x (zav hx);have sy:=hr y (zaH hy)
  have h1:tot lt x v:=by
   rcases ysO h sl hx hu with e|e
   .rw[e];exact huv
   .exact yk1 h sx su sv e huv
  rcases yp7 h sr hy hv with e|e
  .rw[e];exact h1
  .exact yk1 h sx sv sy h1 e
def yGQ(h:SWO lt S)(hl:∀x∈l,S x)(hr:∀x∈r,S x)(sl:l.Pairwise (tot lt))(sr:r.Pairwise (tot lt)){i j:Nat}
 (hA:i=0\/r.length<=j\/∃u v,l[i-1]?=some u/\r[j]?=some v/\tot lt u v)
 (hB:j=0\/l.length<=i\/∃u v,r[j-1]?=some u/\l[i]?=some v/\tot lt u v):∀x∈l.take i++r.take j,∀y∈l.drop i++r.drop j,tot lt x y:=by
 have pw:∀{a:List Nat} {k:Nat},a.Pairwise (tot lt)->∀x∈a.take k,∀y∈a.drop k,tot lt x y:=by
  intro a k ha x hx y hy;rw[<-zax k a,zaL]at ha;exact ha.2.2 x hx y hy
 intro x hx y hy;rcases zaq.1 hx with hx|hx<;>rcases zaq.1 hy with hy|hy
 .exact pw sl x hx y hy
 .exact yxs h hl hr sl sr hA hx hy
 .exact yxs h hr hl sr sl hB hx hy
 .exact pw sr x hx y hy
def halves(h:SWO lt S)(hl:∀x∈l,S x)(hr:∀x∈r,S x){i j:Nat}{o o1 o2:List Nat}(ho:o.Perm (l++r))(so:o.Pairwise (tot lt))
 (h1:o1.Perm (l.take i++r.take j)) (s1:o1.Pairwise (tot lt)) (h2:o2.Perm (l.drop i++r.drop j)) (s2:o2.Pairwise (tot lt))
 (hc:∀x∈l.take i++r.take j,∀y∈l.drop i++r.drop j,tot lt x y):o=o1++o2:=by
 have hp:(o1++o2).Perm (l++r):=by
  refine(h1.append h2).trans ?_
  have e:(l.take i++r.take j++(l.drop i++r.drop j)).Perm (l.take i++l.drop i++(r.take j++r.drop j)):=by
   rw[zbb,zbb];refine .append_left _ ?_;rw[<-zbb,<-zbb];exact .append_right _ zdr
  rw[zax,zax]at e;exact e
 refine cZ h (λx hx=>?_) (ho.trans hp.symm) so ?_
 .rcases zaq.1 (ho.mem_iff.1 hx)with hx|hx
  .exact hl x hx
  .exact hr x hx
 .rw[zaL];exact⟨s1,s2,λx hx y hy=>hc x (h1.mem_iff.1 hx) y (h2.mem_iff.1 hy)⟩
def yCn{x y:Nat}(h:x<y)(h1:lt y x=false):tot lt x y:=by
 cases h2:lt x y with
 |true=>exact .inl h2
 |false=>exact .inr ⟨h1,h⟩
def yAY(h:SWO lt S)(hl:∀x∈l,S x)(hr:∀x∈r,S x)(sl:l.Pairwise (tot lt))(sr:r.Pairwise (tot lt))(hc:∀x∈l,∀y∈r,x<y):(l++r).Nodup:=by
 rw[zba];refine⟨ypF h hl sl,ypF h hr sr,λx hx y hy e=>?_⟩;have:=hc x hx y hy;omega
end
def yx4{P R Q:List Nat}{x y:Nat}{i j:Nat}(hi:i=P.length)(hj:j=P.length+1+R.length):(P++x::(R++y::Q))[i]?=some x/\(P++x::(R++y::Q))[j]?=some y/\
 ((P++x::(R++y::Q)).set i y).set j x=P++y::(R++x::Q):=by
 subst hi hj;refine⟨by simp[zbY],?_,?_⟩
 .rw[zau (by omega),show P.length+1+R.length-P.length=R.length+1 by omega,zcD,zau (by omega)];simp
 .rw[zcz,if_neg (by omega),zbw,zbu,zcz,if_neg (by omega),show P.length+1+R.length-P.length=R.length+1 by omega,zdc,zcz,if_neg (by omega),zbw,zbu]
def yr9{A l B:List Nat}{t k:Nat}(hk:k=A.length+t)(h:t<l.length):(A++(l++B))[k]?=l[t]?:=by
 subst hk;rw[zau (by omega),zce,zaU h]
def set_mid{A l B:List Nat}{t k v:Nat}(hk:k=A.length+t)(h:t<l.length):(A++(l++B)).set k v=A++(l.set t v++B):=by
 subst hk;rw[zbr _ _ (by omega),zce,List.set_append_left _ _ h]
def pM(A l B:List Nat):List Nat:=A++(l++B)
def yc{A l B:List Nat}:(pM A l B).length=A.length+l.length+B.length:=by simp[pM];omega
def yJ3{A B xs l l2:List Nat}{t x y q j m:Nat}(hq:q=A.length)(hj:j=q+l.length+1)(hm:m=q+l.length):
 (pM A (gM xs (l++[y]) l2 x t) B)[j]?=some x/\(pM A (gM xs (l++[y]) l2 x t) B)[m]?=some y/\
 ((pM A (gM xs (l++[y]) l2 x t) B).set j y).set m x=pM A (gM xs l (y::l2) x t) B:=by
 unfold pM;obtain⟨w1,w2,w3⟩:=yKv (xs:=xs) (i:=t) (x:=x) (y:=y) (l:=l) (l2:=l2);have k1:=(zaa.1 w1).1;have k2:=(zaa.1 w2).1;refine⟨by rw[yr9 (t:=l.length+1) (by omega) k1];exact w1,by rw[yr9 (t:=l.length) (by omega) k2];exact w2,?_⟩;rw[set_mid (t:=l.length+1) (by omega) k1,set_mid (t:=l.length) (by omega) (by simpa using k2),w3]
section
variable {lt:Nat->Nat->Bool} {S:Nat->Prop} {l r:List Nat}
def yLa(h:SWO lt S)(hr:∀x∈r,S x){x y:Nat}{k:Nat}(hx:S x)(sr:r.Pairwise (tot lt))(hy:r[k]?=some y)(hl:lt y x=true):∀u∈r.take (k+1),lt u x=true:=by
 intro u hu;have hy0:=hr y (zac hy);have hu0:=hr u (zav hu);rcases ysO (i:=k+1) h sr hu (by simpa using hy)with e|e
 .rw[e];exact hl
 .cases h1 :lt u x with
  |true=>rfl
  |false=>
   cases h2:lt y u with
   | true=>rcases e with e|e
           .rw[h.asym u y hu0 hy0 e]at h2;cases h2
           .rw[e.1]at h2;cases h2
   |false=>rw[h.neg y u x hy0 hu0 hx h2 h1]at hl;cases hl
def yIv(h:SWO lt S)(hr:∀x∈r,S x){x y:Nat}{k:Nat}(hx:S x)(sr:r.Pairwise (tot lt))(hy:r[k]?=some y)(hl:lt y x=false):∀u∈r.drop k,lt u x=false:=by
 intro u hu;have hy0:=hr y (zac hy);have hu0:=hr u (zaH hu);rcases yp7 h sr hu hy with e|e
 .rw[e];exact hl
 .have h3:lt u y=false:=by
   rcases e with e|e
   .exact h.asym y u hy0 hu0 e
   .exact e.1
  exact h.neg u y x hu0 hy0 hx h3 hl
def yH4(h:SWO lt S)(hr:∀x∈r,S x){x y:Nat}{k:Nat}(hx:S x)(sr:r.Pairwise (tot lt))(hy:r[k]?=some y)(hl:lt x y=false):∀u∈r.take (k+1),lt x u=false:=by
 intro u hu;have hy0:=hr y (zac hy);have hu0:=hr u (zav hu);rcases ysO (i:=k+1) h sr hu (by simpa using hy)with e|e
 .rw[e];exact hl
 .have h3:lt y u=false:=by
   rcases e with e|e
   .exact h.asym u y hu0 hy0 e
   .exact e.1
  exact h.neg x y u hx hy0 hu0 hl h3
def yFw(h:SWO lt S)(hr:∀x∈r,S x){x y:Nat}{k:Nat}(hx:S x)(sr:r.Pairwise (tot lt))(hy:r[k]?=some y)(hl:lt x y=true):∀u∈r.drop k,lt x u=true:=by
 intro u hu;have hy0:=hr y (zac hy);have hu0:=hr u (zaH hu);rcases yp7 h sr hu hy with e|e
 .rw[e];exact hl
 .cases h1:lt x u with
  |true=>rfl
  | false=>
   have h3:lt u y=false:=by
    rcases e with e|e
    .exact h.asym y u hy0 hu0 e
    .exact e.1
   rw[h.neg x u y hx hu0 hy0 h1 h3]at hl;cases hl
def yHr(h:SWO lt S)(hr:∀x∈r,S x){x:Nat}{k:Nat}{o:List Nat}(hx:S x)(sr:r.Pairwise (tot lt))(hlt:∀u∈r,x<u)(h1:∀u∈r.take k,lt u x=true)(h2:∀u∈r.drop k,lt u x=false)
 (po:o.Perm ([x]++r)) (so:o.Pairwise (tot lt)):o=r.take k++x::r.drop k:=by
 have hp:(r.take k++x::r.drop k).Perm ([x]++r):=by
  refine List.perm_middle.trans ?_;rw[zax];exact .refl _
 refine cZ h (S:=S) (λu hu=>?_) (po.trans hp.symm) so ?_
 .rcases zaq.1 (po.mem_iff.1 hu)with hu|hu
  .simp at hu;subst hu;exact hx
  .exact hr u hu
 .rw[<-zax k r,zaL]at sr;rw[zaL,zbf];refine⟨sr.1,⟨λu hu=>yCn (hlt u (zaH hu)) (h2 u hu),sr.2.1⟩,λu hu v hv=>?_⟩;rcases zaC.1 hv with rfl|hv
  .exact .inl (h1 u hu)
  .exact sr.2.2 u hu v hv
def yD0(h:SWO lt S)(hl:∀x∈l,S x){y:Nat}{k:Nat}{o:List Nat}(hy:S y)(sl:l.Pairwise (tot lt))(hlt:∀u∈l,u<y)(h1:∀u∈l.take k,lt y u=false)(h2:∀u∈l.drop k,lt y u=true)
 (po:o.Perm (l++[y])) (so:o.Pairwise (tot lt)):o=l.take k++y::l.drop k:=by
 have hp:(l.take k++y::l.drop k).Perm (l++[y]):=by
  refine List.perm_middle.trans ?_;rw[zax];exact(zdr (l₁:=[y]) (l₂:=l))
 refine cZ h (S:=S) (λu hu=>?_) (po.trans hp.symm) so ?_
 .rcases zaq.1 (po.mem_iff.1 hu)with hu|hu
  .exact hl u hu
  .simp at hu;subst hu;exact hy
 .rw[<-zax k l,zaL]at sl;rw[zaL,zbf];refine⟨sl.1,⟨λu hu=>.inl (h2 u hu),sl.2.1⟩,λu hu v hv=>?_⟩;rcases zaC.1 hv with rfl|hv
  .exact yCn (hlt u (zav hu)) (h1 u hu)
  .exact sl.2.2 u hu v hv
end
end
end Go.Proofs.YtdadkiofenhnbaaGreat
