/- The law FnExactRunWaterway and the law FnExactStepWaterway holds for all arguments, without conditions. -/
import Derived.Test.YtdadkiofenhnbaaGreatR14
set_option linter.all false
set_option maxRecDepth 100000
set_option maxHeartbeats 4000000
namespace Go.Proofs.YtdadkiofenhnbaaGreat
open Go.RowKit
open Go.ChangeShapes Go.WideShapes
noncomputable section
def yxE{xs:List C}(h:Fits [.b,.sl [.sl [.i,.i,.i,.i,.i,.i]]] xs):∃e:yRT,xs=e.enc:=by
 obtain⟨c0,ys,rfl,h0,h⟩:=h.cons_inv;obtain⟨c1,ys,rfl,h1,h⟩:=h.cons_inv;obtain rfl:=h.gW;obtain⟨n0,rfl⟩:=h0.yz4;obtain⟨n1,rfl⟩:=h1.tV jE λ_ h=>yll h;exact⟨⟨n0,n1⟩,rfl⟩
def yDJ{xs:List C}(h:Fits [.b,.sl [.sl [.i,.i,.i,.i,.i,.i]],.i] xs):∃e:yR6,xs=e.enc:=by
 obtain⟨c0,ys,rfl,h0,h⟩:=h.cons_inv;obtain⟨c1,ys,rfl,h1,h⟩:=h.cons_inv;obtain⟨c2,ys,rfl,h2,h⟩:=h.cons_inv;obtain rfl:=h.gW;obtain⟨n0,rfl⟩:=h0.yz4;obtain⟨n1,rfl⟩:=h1.tV jE λ_ h=>yll h;obtain⟨n2,rfl⟩:=h2.nJ;exact⟨⟨⟨n0,n1⟩,n2⟩,rfl⟩
def yE6{xs:List C}(h:Fits [.i,.i] xs):∃e:ySc,xs=e.enc:=by
 obtain⟨c0,ys,rfl,h0,h⟩:=h.cons_inv;obtain⟨c1,ys,rfl,h1,h⟩:=h.cons_inv;obtain rfl:=h.gW;obtain⟨n0,rfl⟩:=h0.nJ;obtain⟨n1,rfl⟩:=h1.nJ;exact⟨⟨n0,n1⟩,rfl⟩
def yFi{xs:List C}(h:Fits [.sl [.i,.i],.i,.sl [.i]] xs):∃e:Reach,xs=e.enc:=by
 obtain⟨c0,ys,rfl,h0,h⟩:=h.cons_inv;obtain⟨c1,ys,rfl,h1,h⟩:=h.cons_inv;obtain⟨c2,ys,rfl,h2,h⟩:=h.cons_inv;obtain rfl:=h.gW;obtain⟨n0,rfl⟩:=h0.tV ySc.enc λ_ h=>yE6 h;obtain⟨n1,rfl⟩:=h1.nJ;obtain⟨n2,rfl⟩:=h2.tV qC λ_ h=>yn2 h;exact⟨⟨n0,n1,n2⟩,rfl⟩
def yEI{xs:List C}(h:Fits [.i,.i] xs):∃e:ySf,xs=e.enc:=by
 obtain⟨c0,ys,rfl,h0,h⟩:=h.cons_inv;obtain⟨c1,ys,rfl,h1,h⟩:=h.cons_inv;obtain rfl:=h.gW;obtain⟨n0,rfl⟩:=h0.nJ;obtain⟨n1,rfl⟩:=h1.nJ;exact⟨⟨n0,n1⟩,rfl⟩
def yFl{xs:List C}(h:Fits [.b,.sl [.sl [.i,.i,.i,.i,.i,.i]],.i,.i] xs):∃e:yR4,xs=e.enc:=by
 obtain⟨c0,ys,rfl,h0,h⟩:=h.cons_inv;obtain⟨c1,ys,rfl,h1,h⟩:=h.cons_inv;obtain⟨c2,ys,rfl,h2,h⟩:=h.cons_inv;obtain⟨c3,ys,rfl,h3,h⟩:=h.cons_inv;obtain rfl:=h.gW;obtain⟨n0,rfl⟩:=h0.yz4;obtain⟨n1,rfl⟩:=h1.tV jE λ_ h=>yll h;obtain⟨n2,rfl⟩:=h2.nJ;obtain⟨n3,rfl⟩:=h3.nJ;exact⟨⟨⟨n0,n1⟩,n2,n3⟩,rfl⟩
def yFr{xs:List C}(h:Fits [.i,.i,.i,.i,.i,.i,.i,.i,.i,.sl [.b,.sl [.sl [.i,.i,.i,.i,.i,.i]]],.i,.i,.i,.i,.i,.i,.i,.i,.sl [.i,.i],.b,.i,.sl [.b,.sl [.sl [.i,.i,.i,.i,.i,.i]],.i,.i]] xs):∃e:yR8,xs=e.enc:=by
 obtain⟨c0,ys,rfl,h0,h⟩:=h.cons_inv;obtain⟨c1,ys,rfl,h1,h⟩:=h.cons_inv;obtain⟨c2,ys,rfl,h2,h⟩:=h.cons_inv;obtain⟨c3,ys,rfl,h3,h⟩:=h.cons_inv;obtain⟨c4,ys,rfl,h4,h⟩:=h.cons_inv;obtain⟨c5,ys,rfl,h5,h⟩:=h.cons_inv;obtain⟨c6,ys,rfl,h6,h⟩:=h.cons_inv;obtain⟨c7,ys,rfl,h7,h⟩:=h.cons_inv;obtain⟨c8,ys,rfl,h8,h⟩:=h.cons_inv;obtain⟨c9,ys,rfl,h9,h⟩:=h.cons_inv;obtain⟨c10,ys,rfl,h10,h⟩:=h.cons_inv;obtain⟨c11,ys,rfl,h11,h⟩:=h.cons_inv;obtain⟨c12,ys,rfl,h12,h⟩:=h.cons_inv;obtain⟨c13,ys,rfl,h13,h⟩:=h.cons_inv;obtain⟨c14,ys,rfl,h14,h⟩:=h.cons_inv;obtain⟨c15,ys,rfl,h15,h⟩:=h.cons_inv;obtain⟨c16,ys,rfl,h16,h⟩:=h.cons_inv;obtain⟨c17,ys,rfl,h17,h⟩:=h.cons_inv;obtain⟨c18,ys,rfl,h18,h⟩:=h.cons_inv;obtain⟨c19,ys,rfl,h19,h⟩:=h.cons_inv;obtain⟨c20,ys,rfl,h20,h⟩:=h.cons_inv;obtain⟨c21,ys,rfl,h21,h⟩:=h.cons_inv;obtain rfl:=h.gW;obtain⟨n0,rfl⟩:=h0.nJ;obtain⟨n1,rfl⟩:=h1.nJ;obtain⟨n2,rfl⟩:=h2.nJ;obtain⟨n3,rfl⟩:=h3.nJ;obtain⟨n4,rfl⟩:=h4.nJ;obtain⟨n5,rfl⟩:=h5.nJ;obtain⟨n6,rfl⟩:=h6.nJ;obtain⟨n7,rfl⟩:=h7.nJ;obtain⟨n8,rfl⟩:=h8.nJ;obtain⟨n9,rfl⟩:=h9.tV yRT.enc λ_ h=>yxE h;obtain⟨n10,rfl⟩:=h10.nJ;obtain⟨n11,rfl⟩:=h11.nJ;obtain⟨n12,rfl⟩:=h12.nJ;obtain⟨n13,rfl⟩:=h13.nJ;obtain⟨n14,rfl⟩:=h14.nJ;obtain⟨n15,rfl⟩:=h15.nJ;obtain⟨n16,rfl⟩:=h16.nJ;obtain⟨n17,rfl⟩:=h17.nJ;obtain⟨n18,rfl⟩:=h18.tV ySf.enc λ_ h=>yEI h;obtain⟨n19,rfl⟩:=h19.yz4;obtain⟨n20,rfl⟩:=h20.nJ;obtain⟨n21,rfl⟩:=h21.tV yR4.enc λ_ h=>yFl h;exact⟨⟨⟨n0,n1,n2,n3,n4,n5,n6,n7,n8,n9⟩,⟨n10,n11,n12,n13,n14⟩,⟨n15,n16,n17⟩,n18,⟨n19,n20⟩,n21⟩,rfl⟩
def yB4{xs:List C}(h:Fits [.sl [.b,.sl [.sl [.i,.i,.i,.i,.i,.i]],.i]] xs):∃e:List yR6,xs=nD e:=by
 obtain⟨c0,ys,rfl,h0,h⟩:=h.cons_inv;obtain rfl:=h.gW;obtain⟨n0,rfl⟩:=h0.tV yR6.enc λ_ h=>yDJ h;exact⟨n0,rfl⟩
def yzs{xs:List C}(h:Fits [.i,.i,.b,.sl [.sl [.i,.i,.i,.i,.i,.i]]] xs):∃e:yR2,xs=e.enc:=by
 obtain⟨c0,ys,rfl,h0,h⟩:=h.cons_inv;obtain⟨c1,ys,rfl,h1,h⟩:=h.cons_inv;obtain⟨c2,ys,rfl,h2,h⟩:=h.cons_inv;obtain⟨c3,ys,rfl,h3,h⟩:=h.cons_inv;obtain rfl:=h.gW;obtain⟨n0,rfl⟩:=h0.nJ;obtain⟨n1,rfl⟩:=h1.nJ;obtain⟨n2,rfl⟩:=h2.yz4;obtain⟨n3,rfl⟩:=h3.tV jE λ_ h=>yll h;exact⟨⟨n0,n1,⟨n2,n3⟩⟩,rfl⟩
def yy3{xs:List C}(h:Fits [.i,.sl [.sl [.i,.i],.i,.sl [.i]],.sl [.i,.i],.sl [.i,.i,.i,.i,.i,.i,.i,.i,.i,.sl [.b,.sl [.sl [.i,.i,.i,.i,.i,.i]]],.i,.i,.i,.i,.i,.i,.i,.i,.sl [.i,.i],.b,.i,.sl [.b,.sl [.sl [.i,.i,.i,.i,.i,.i]],.i,.i]],.sl [.sl [.b,.sl [.sl [.i,.i,.i,.i,.i,.i]],.i]],.sl [.b,.sl [.sl [.i,.i,.i,.i,.i,.i]]],.sl [.i],.i,.i,.sl [.i],.sl [.i],.sl [.i,.i,.i,.i,.i],.sl [.i,.i,.b,.sl [.sl [.i,.i,.i,.i,.i,.i]]],.i,.i,.i] xs):∃e:yRW,xs=e.enc:=by
 obtain⟨c0,ys,rfl,h0,h⟩:=h.cons_inv;obtain⟨c1,ys,rfl,h1,h⟩:=h.cons_inv;obtain⟨c2,ys,rfl,h2,h⟩:=h.cons_inv;obtain⟨c3,ys,rfl,h3,h⟩:=h.cons_inv;obtain⟨c4,ys,rfl,h4,h⟩:=h.cons_inv;obtain⟨c5,ys,rfl,h5,h⟩:=h.cons_inv;obtain⟨c6,ys,rfl,h6,h⟩:=h.cons_inv;obtain⟨c7,ys,rfl,h7,h⟩:=h.cons_inv;obtain⟨c8,ys,rfl,h8,h⟩:=h.cons_inv;obtain⟨c9,ys,rfl,h9,h⟩:=h.cons_inv;obtain⟨c10,ys,rfl,h10,h⟩:=h.cons_inv;obtain⟨c11,ys,rfl,h11,h⟩:=h.cons_inv;obtain⟨c12,ys,rfl,h12,h⟩:=h.cons_inv;obtain⟨c13,ys,rfl,h13,h⟩:=h.cons_inv;obtain⟨c14,ys,rfl,h14,h⟩:=h.cons_inv;obtain⟨c15,ys,rfl,h15,h⟩:=h.cons_inv;obtain rfl:=h.gW;obtain⟨n0,rfl⟩:=h0.nJ;obtain⟨n1,rfl⟩:=h1.tV Reach.enc λ_ h=>yFi h;obtain⟨n2,rfl⟩:=h2.tV Way.enc λ_ h=>yIP h;obtain⟨n3,rfl⟩:=h3.tV yR8.enc λ_ h=>yFr h;obtain⟨n4,rfl⟩:=h4.tV nD λ_ h=>yB4 h;obtain⟨n5,rfl⟩:=h5.tV yRT.enc λ_ h=>yxE h;obtain⟨n6,rfl⟩:=h6.tV qC λ_ h=>yn2 h;obtain⟨n7,rfl⟩:=h7.nJ;obtain⟨n8,rfl⟩:=h8.nJ;obtain⟨n9,rfl⟩:=h9.tV qC λ_ h=>yn2 h;obtain⟨n10,rfl⟩:=h10.tV qC λ_ h=>yn2 h;obtain⟨n11,rfl⟩:=h11.tV ySb.enc λ_ h=>yEd h;obtain⟨n12,rfl⟩:=h12.tV yR2.enc λ_ h=>yzs h;obtain⟨n13,rfl⟩:=h13.nJ;obtain⟨n14,rfl⟩:=h14.nJ;obtain⟨n15,rfl⟩:=h15.nJ;exact⟨⟨n0,n1,n2,n3,n4,n5,n6,⟨n7,n8,n9,n10⟩,n11,n12,n13,n14,n15⟩,rfl⟩
def yYg:ySS Rows.fnExactStepWaterwaySpec Tryz.f7.params.size:=by
 refine⟨rfl,λH ds h=>?_⟩
 match ds,h with
 |[d0,d1],_=>rfl
def yYc:ySD prg Tryz.f7 (Tryz.f7.resultTypes.getD 0 0) [(true,[.i,.sl [.sl [.i,.i],.i,.sl [.i]],.sl [.i,.i],.sl [.i,.i,.i,.i,.i,.i,.i,.i,.i,.sl [.b,.sl [.sl [.i,.i,.i,.i,.i,.i]]],.i,.i,.i,.i,.i,.i,.i,.i,.sl [.i,.i],.b,.i,.sl [.b,.sl [.sl [.i,.i,.i,.i,.i,.i]],.i,.i]],.sl [.sl [.b,.sl [.sl [.i,.i,.i,.i,.i,.i]],.i]],.sl [.b,.sl [.sl [.i,.i,.i,.i,.i,.i]]],.sl [.i],.i,.i,.sl [.i],.sl [.i],.sl [.i,.i,.i,.i,.i],.sl [.i,.i,.b,.sl [.sl [.i,.i,.i,.i,.i,.i]]],.i,.i,.i]),(false,[.i])]:=
 ⟨yxg,by kernel_rfl,by kernel_rfl,by kernel_rfl,by kernel_rfl⟩
def yYe(os:Os)(started:os.Started)(H:Type)(enc:TypeId×Value->H):
 ReturnsInHanded {} Tryz.checked os 7 .any (Rows.fnExactStepWaterwaySpec.pre6 enc prg Tryz.f7 Rows.fnExactStepWaterwayRow.domain false) (Rows.fnExactStepWaterwaySpec.post enc prg Tryz.f7 false true false false):=by
 refine law_lifted (C:=Tryz.checked) yBc started (by kernel_rfl) Tryz.func7
  (ChangeSpec.witness6 (enc:=enc) (C:=Tryz.checked) false ⟨#[],#[.agg #[.int .i64 0,.slice none 0 0,.slice none 0 0,.slice none 0 0,.slice none 0 0,.slice none 0 0,.slice none 0 0,.int .i64 0,.int .i64 0,.slice none 0 0,.slice none 0 0,.slice none 0 0,.slice none 0 0,.int .i64 0,.int .i64 0,.int .i64 0],.int .i64 0],[]⟩ 8 (by kernel_rfl) (by kernel_rfl) (by kernel_rfl) (by kernel_rfl)) yYg yYc ?_
 rintro avs ⟨a,avs0,rfl,ha,b,avs1,rfl,hb,rfl⟩
 cases ha with
 | st h0=>
  cases hb with
  |one h1=>
   obtain⟨x0,rfl⟩:=yy3 h0;obtain⟨x1,rfl⟩:=h1.nJ;exact yYk x0 x1
def yYf:yvb prg 7 Tryz.f7 Rows.fnExactStepWaterwaySpec Rows.fnExactStepWaterwayRow=true:=by kernel_rfl
def yYh:Tryz.pinned.checked.prog.funcNamed Rows.fnExactStepWaterwayRow.func=some 7:=by kernel_rfl
def yYi:Tryz.f7.isInstance Tryz.pinned.checked.prog Rows.fnExactStepWaterwayRow.origin Rows.fnExactStepWaterwayRow.targs:=(of_decide_eq_true (by kernel_rfl))
def yYj:Tryz.f7.isWrapper Tryz.pinned.checked.prog Rows.fnExactStepWaterwayRow.wrapper Rows.fnExactStepWaterwayRow.mainSum:=by
 unfold Func.isWrapper;first|(rw[if_pos (by decide+kernel)];kernel_rfl)|(rw[if_neg (by decide+kernel)];exact⟨rfl,rfl⟩)
theorem FnExactStepWaterway_holds:Rows.FnExactStepWaterwaySaid:=
 OpenClaim.holds_of_wide (p:=Tryz.pinned) (s:=Rows.fnExactStepWaterwaySpec) (c:=Rows.fnExactStepWaterwayRow) 7 Tryz.f7 rfl rfl rfl rfl rfl rfl rfl ⟨rfl,rfl,rfl,rfl,rfl⟩ rfl rfl rfl rfl rfl yYh Tryz.func7
  (yDX yDP yYf ⟨rfl,rfl,rfl,rfl,rfl,rfl,rfl,rfl⟩) yYi yYj (λos started H enc _=>yYe os started H enc)
def yUa:ySS Rows.fnExactRunWaterwaySpec Tryz.f8.params.size:=by
 refine⟨rfl,λH ds h=>?_⟩
 match ds,h with
 |[d0,d1,d2],_=>rfl
def yTT:ySD prg Tryz.f8 (Tryz.f8.resultTypes.getD 0 0) [(true,[.i,.sl [.sl [.i,.i],.i,.sl [.i]],.sl [.i,.i],.sl [.i,.i,.i,.i,.i,.i,.i,.i,.i,.sl [.b,.sl [.sl [.i,.i,.i,.i,.i,.i]]],.i,.i,.i,.i,.i,.i,.i,.i,.sl [.i,.i],.b,.i,.sl [.b,.sl [.sl [.i,.i,.i,.i,.i,.i]],.i,.i]],.sl [.sl [.b,.sl [.sl [.i,.i,.i,.i,.i,.i]],.i]],.sl [.b,.sl [.sl [.i,.i,.i,.i,.i,.i]]],.sl [.i],.i,.i,.sl [.i],.sl [.i],.sl [.i,.i,.i,.i,.i],.sl [.i,.i,.b,.sl [.sl [.i,.i,.i,.i,.i,.i]]],.i,.i,.i]),(false,[.i]),(false,[.i])]:=
 ⟨yxg,by kernel_rfl,by kernel_rfl,by kernel_rfl,by kernel_rfl⟩
def yT1(os:Os)(started:os.Started)(H:Type)(enc:TypeId×Value->H):
 ReturnsInHanded {} Tryz.checked os 8 .any (Rows.fnExactRunWaterwaySpec.pre6 enc prg Tryz.f8 Rows.fnExactRunWaterwayRow.domain false) (Rows.fnExactRunWaterwaySpec.post enc prg Tryz.f8 false true false false):=by
 refine law_lifted (C:=Tryz.checked) yBc started (by kernel_rfl) Tryz.func8
  (ChangeSpec.witness6 (enc:=enc) (C:=Tryz.checked) false ⟨#[],#[.agg #[.int .i64 0,.slice none 0 0,.slice none 0 0,.slice none 0 0,.slice none 0 0,.slice none 0 0,.slice none 0 0,.int .i64 0,.int .i64 0,.slice none 0 0,.slice none 0 0,.slice none 0 0,.slice none 0 0,.int .i64 0,.int .i64 0,.int .i64 0],.int .i64 0,.int .i64 0],[]⟩ 8 (by kernel_rfl) (by kernel_rfl) (by kernel_rfl) (by kernel_rfl)) yUa yTT ?_
 rintro avs ⟨a,avs0,rfl,ha,b,avs1,rfl,hb,c,avs2,rfl,hc,rfl⟩
 cases ha with
 | st h0=>
  cases hb with
  | one h1=>
   cases hc with
   |one h2=>
    obtain⟨x0,rfl⟩:=yy3 h0;obtain⟨x1,rfl⟩:=h1.nJ;obtain⟨x2,rfl⟩:=h2.nJ;exact yUE x0 x1 x2
def yUc:yvb prg 8 Tryz.f8 Rows.fnExactRunWaterwaySpec Rows.fnExactRunWaterwayRow=true:=by kernel_rfl
def yT9:Tryz.pinned.checked.prog.funcNamed Rows.fnExactRunWaterwayRow.func=some 8:=by kernel_rfl
def yUg:Tryz.f8.isInstance Tryz.pinned.checked.prog Rows.fnExactRunWaterwayRow.origin Rows.fnExactRunWaterwayRow.targs:=(of_decide_eq_true (by kernel_rfl))
def yUh:Tryz.f8.isWrapper Tryz.pinned.checked.prog Rows.fnExactRunWaterwayRow.wrapper Rows.fnExactRunWaterwayRow.mainSum:=by
 unfold Func.isWrapper;first|(rw[if_pos (by decide+kernel)];kernel_rfl)|(rw[if_neg (by decide+kernel)];exact⟨rfl,rfl⟩)
theorem FnExactRunWaterway_holds:Rows.FnExactRunWaterwaySaid:=
 OpenClaim.holds_of_wide (p:=Tryz.pinned) (s:=Rows.fnExactRunWaterwaySpec) (c:=Rows.fnExactRunWaterwayRow) 8 Tryz.f8 rfl rfl rfl rfl rfl rfl rfl ⟨rfl,rfl,rfl,rfl,rfl⟩ rfl rfl rfl rfl rfl yT9 Tryz.func8
  (yDX yDP yUc ⟨rfl,rfl,rfl,rfl,rfl,rfl,rfl,rfl⟩) yUg yUh (λos started H enc _=>yT1 os started H enc)
end
end Go.Proofs.YtdadkiofenhnbaaGreat
