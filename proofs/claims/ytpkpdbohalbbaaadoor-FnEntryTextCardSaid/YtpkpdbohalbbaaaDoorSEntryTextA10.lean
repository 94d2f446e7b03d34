/- What the law FnEntryText stands on: the machine, in short form (names, layout). -/
import Derived.Test.YtpkpdbohalbbaaaDoorSEntryTextA4
set_option linter.all false
namespace Go.Proofs.YtpkpdbohalbbaaaDoor
open Go.RowKit
def AV.ysI : AV → AV → Prop
 | .c y,.c y'=>y.shr = some y'
 | .agg l,.agg l'=>ybQ (AV.cs l) = some (AV.cs l') ∧ l' = (AV.cs l').map .c
 | _,_=>False
def AV.shr2 : List AV → List AV → Prop
 | [],[]=>True
 | x :: l,y :: l'=>x.ysI y ∧ AV.shr2 l l'
 | _,_=>False
def AV.shr : AV → AV → Prop
 | .tup l,.tup l'=>AV.shr2 l l'
 | x,y=>x.ysI y
theorem yeC.ypM {w : World} {G G' : Nat → Prop} {v : Value} {x y : AV} {F : Nat → Prop} (h : yeC w G v x F) (hs : x.ysI y) (h1 : ∀ b,G b → G' b) (h2 : ∀ b,F b → G' b) : RV2 w G' noO noB v y:=by
 cases x with
 | c c =>
  cases y with
  | c c'=>exact OT.ypM h hs h1 h2
  | _=>exact hs.elim
 | agg l =>
  cases y with
  | agg l' =>
   obtain ⟨arr,e,hsz,Fs,a1,a2,a3⟩:=h
   obtain ⟨e1,e2⟩:=hs
   obtain ⟨g1,g2⟩:=yll e1
   rw [yeS] at g1
   have hl : (AV.cs l').length = l'.length:=yeS l'
   refine ⟨arr,e,by rw [hsz,g1,yeS],fun j z hj=>?_⟩
   rw [e2,List.getElem?_map,Option.map_eq_some_iff] at hj
   obtain ⟨c',hc',rfl⟩:=hj
   obtain ⟨c,hc,hcc⟩:=g2 j c' hc'
   have hlt : j < l.length:=by rw [← yeS l]; exact (List.getElem?_eq_some_iff.1 hc).1
   obtain ⟨u,c2,e3,hu,ho⟩:=a1 j _ (List.getElem?_eq_getElem hlt)
   have:=ytE (l:=l) (j:=j) (c:=c2) (by rw [List.getElem?_eq_getElem hlt,e3])
   rw [hc] at this; cases this
   exact ⟨u,hu,ho.ypM hcc h1 fun b hb=>h2 b (a2 j b hb)⟩
  | _=>exact hs.elim
 | _=>exact h.elim
theorem yuY : ∀ {l l' : List AV},AV.shr2 l l' → l'.length = l.length ∧ ∀ (j : Nat) (y : AV),l'[j]? = some y → ∃ x,l[j]? = some x ∧ x.ysI y
 | [],[],_=>⟨rfl,fun j y hj=>by simp at hj⟩
 | x :: l,y :: l',h=>by
  obtain ⟨h1,h2⟩:=yuY h.2
  refine ⟨by simp [h1],fun j z hj=>?_⟩
  cases j with
  | zero=>simp at hj; subst hj; exact ⟨x,rfl,h.1⟩
  | succ j=>exact h2 j z (by simpa using hj)
theorem AOk.ypM {w : World} {G G' : Nat → Prop} {v : Value} {x y : AV} {F : Nat → Prop} (h : AOk w G v x F) (hs : x.shr y) (h1 : ∀ b,G b → G' b) (h2 : ∀ b,F b → G' b) : RV w G' noO noB v y:=by
 cases x with
 | tup l =>
  cases y with
  | tup l' =>
   obtain ⟨arr,e,hsz,Fs,a1,a2,a3⟩:=h
   obtain ⟨g1,g2⟩:=yuY hs
   refine ⟨arr,e,by rw [hsz,g1],fun j z hj=>?_⟩
   obtain ⟨x,hx,hxz⟩:=g2 j z hj
   obtain ⟨u,hu,ho⟩:=a1 j x hx
   exact ⟨u,hu,ho.ypM hxz h1 fun b hb=>h2 b (a2 j b hb)⟩
  | _=>exact hs.elim
 | c c =>
  cases y <;> first
   | exact yje (yeC.ypM (x:=.c c) h hs h1 h2)
   | exact hs.elim
 | agg l =>
  cases y <;> first
   | exact yje (yeC.ypM (x:=.agg l) h hs h1 h2)
   | exact hs.elim
 | _=>exact h.elim
theorem ybh.pure {P : Program} {f : Nat} {args : List AV} {res y : AV} (h : ybh P f args res) (hs : res.shr y) : yB P f args y:=by
 intro w G hG vs hvs hv
 refine (h w G hG vs hvs hv).mono ?_
 rintro e w' ⟨v,F,rfl,hb,hF,hr⟩
 exact ⟨v,rfl,hb,hr.ypM hs (fun b hb=>hb.1) fun b hb=>.inr (hF b hb)⟩
def yf4 (s : St) (x : AV) (c : C) : Prop :=
 match x with
 | .c y=>c = y ∧ y.plain = true
 | .clip k rows=>c = .sl k rows
 | .nil _=>match c with
  | .ow _ rows=>rows = []
  | .ot _ rows=>rows = []
  | .sl _ rows=>rows = []
  | _=>False
 | .own id k n=>match c with
  | .ow k' rows=>match s.ob id with
   | .row k0 rs=>k0 = k ∧ k' = k ∧ rows = rs.take n
   | _=>False
  | .ot k' rows=>match s.ob id with
   | .row k0 rs=>k0 = k ∧ k' = k ∧ rows = rs.take n
   | .tr k0 _ rs=>k0 = k ∧ k' = k ∧ rows = rs.take n
   | _=>False
  | .sl _ rows=>n = 0 ∧ rows = []
  | _=>False
 | .box id 0=>match c with
  | .bx cs=>match s.ob id with
   | .box cells=>cells = cs.map .c ∧ cs.all C.plain = true
   | _=>False
  | _=>False
 | _=>False
def AV.oid : AV → List Nat
 | .own id _ _=>[id]
 | .box id _=>[id]
 | _=>[]
def AV.ygR : AV → List Nat
 | .agg l=>l.flatMap AV.oid
 | x=>x.oid
def ytp (s : St) : List AV → List AV → Prop
 | [],[]=>True
 | x :: l,y :: l'=>(∃ c,y = .c c ∧ yf4 s x c) ∧ ytp s l l'
 | _,_=>False
def yfM (s : St) (x y : AV) : Prop :=
 match y with
 | .c c=>yf4 s x c
 | .agg l'=>match x with
  | .agg l=>ytp s l l'
  | _=>False
 | _=>False
def yrG (s : St) : List AV → List AV → Prop
 | [],[]=>True
 | x :: l,y :: l'=>yfM s x y ∧ yrG s l l'
 | _,_=>False
def yga (s : St) : RS → Option AV
 | .t n=>match s.env n with
  | .tup _=>none
  | x=>some x
 | .cl n k=>match s.env n with
  | .box id 0=>match s.ob id with
   | .box cells=>if cells.length = k then some (.agg cells) else none
   | _=>none
  | _=>none
 | .c1 n=>match s.env n with
  | .box id 0=>match s.ob id with
   | .box [x]=>some x
   | _=>none
  | _=>none
def yeQ (s : St) : List RS → Option (List AV)
 | []=>some []
 | r :: l=>match yga s r,yeQ s l with
  | some x,some xs=>some (x :: xs)
  | _,_=>none
def yBg (s : St) (res : AV) : List AV → Prop
 | [x]=>yfM s x res ∧ x.ygR.Nodup
 | xs=>∃ ys,res = .tup ys ∧ yrG s xs ys ∧ (xs.flatMap AV.ygR).Nodup
def yiF (s : St) (rs : List RS) (res : AV) : Prop :=
 match yeQ s rs with
 | some xs=>yBg s res xs
 | none=>False
section
variable {P : Program} {g : Ghost} {s : St} {a : Act} {w : World} {L : Lay}
theorem yDN (h : Repr g s a w L) {id k n : Nat} {rows : List (List C)} {v : Value} (hO : s.ob id = .row k rows) (hv : RV1 w (Good g s.objs L w) s.objs L v (.own id k n)) :
 OT w (Good g s.objs L w) v (.ot k (rows.take n)) (L.fp id):=by
 obtain ⟨_,_,ho⟩:=yiT h hv (c:=.ow k (rows.take n)) (ids:=[id]) (by simp [pk1,hO])
 generalize rows.take n = q at ho ⊢
 cases ho with
 | sh h=>cases h
 | @ow0 a k F=>exact .ot0
 | ow vals h1 h2 h3 h4 h5 h6 h7 h8 h9 =>
  exact .ot vals (fun _ _=>noF) h1 h2 h3 h4 h5 h6 h7 (fun _ _ _ h=>h.elim) (fun _ _ _ _ _ h=>h.elim) h8 (fun i r hr j c hc=>.sh (h9 i r hr j c hc))
theorem yic (h : Repr g s a w L) {v : Value} {x : AV} {c : C} (hv : RV1 w (Good g s.objs L w) s.objs L v x) (hp : yf4 s x c) :
 ∃ F,OT w (Good g s.objs L w) v c F ∧ ∀ y,F y → ∃ i0,i0 ∈ x.oid ∧ s.objs i0 ≠ .none ∧ L.fp i0 y:=by
 have zero : ∀ {A : Option Addr} {v : Value},v = .slice A 0 0 → ∀ k,Rd w (Good g s.objs L w) v (.sl k []):=by
  intro A v e k; subst e; exact ykz
 cases x with
 | c x=>obtain ⟨rfl,hpl⟩:=hp; exact ⟨noF,.sh hv,fun y hy=>hy.elim⟩
 | clip k rows=>cases hp; exact ⟨noF,.sh (yjr hv rfl),fun y hy=>hy.elim⟩
 | nil k =>
  have e : v = .slice none 0 0:=hv
  subst e
  cases c <;> first | exact hp.elim | skip
  ·rename_i k' rows; have : rows = []:=hp; subst this; exact ⟨noF,.sh ykz,fun y hy=>hy.elim⟩
  ·rename_i k' rows; have : rows = []:=hp; subst this; exact ⟨noF,.ow0,fun y hy=>hy.elim⟩
  ·rename_i k' rows; have : rows = []:=hp; subst this; exact ⟨noF,.ot0,fun y hy=>hy.elim⟩
 | own id k n =>
  have hl : (s.objs id) ≠ .none:=by
   obtain ⟨m,ho,_⟩:=hv
   intro e; rw [e] at ho; cases ho
  cases c <;> first | exact hp.elim | skip
  ·rename_i k' rows
   obtain ⟨rfl,rfl⟩:=hp
   refine ⟨noF,.sh ?_,fun y hy=>hy.elim⟩
   obtain ⟨m,ho,hn,hv⟩:=hv
   rcases hv with ⟨_,_,A0,rfl⟩ | ⟨b,cap,arr,e,hb,rfl,h1,h2,h3,h4⟩
   ·exact ykz
   ·exact .sl (fun _ _=>default) rfl h1 h2 (by simp) (by simp) (by simp) (by simp)
  ·rename_i k' rows
   simp only [yf4] at hp
   split at hp
   ·rename_i k0 rs hO
    obtain ⟨rfl,rfl,rfl⟩:=hp
    obtain ⟨_,_,ho⟩:=yiT h hv (c:=.ow k' (rs.take n)) (ids:=[id]) (by simp [pk1,hO])
    exact ⟨_,ho,fun y hy=>⟨id,by simp [AV.oid],hl,hy⟩⟩
   ·exact hp.elim
  ·rename_i k' rows
   simp only [yf4] at hp
   split at hp
   ·rename_i k0 rs hO
    obtain ⟨rfl,rfl,rfl⟩:=hp
    exact ⟨_,yDN h hO hv,fun y hy=>⟨id,by simp [AV.oid],hl,hy⟩⟩
   ·rename_i k0 ver rs hO
    obtain ⟨rfl,rfl,rfl⟩:=hp
    obtain ⟨_,_,ho⟩:=yiT h hv (c:=.ot k' (rs.take n)) (ids:=[id]) (by simp [pk1,hO])
    exact ⟨_,ho,fun y hy=>⟨id,by simp [AV.oid],hl,hy⟩⟩
   ·exact hp.elim
 | box id off =>
  cases off with
  | succ o=>exact hp.elim
  | zero =>
   cases c <;> first | exact hp.elim | skip
   rename_i cs
   simp only [yf4] at hp
   split at hp
   ·rename_i cells hO
    obtain ⟨rfl,hpl⟩:=hp
    obtain ⟨b,cells',hO',hb,rfl⟩:=hv
    obtain ⟨arr,e,r1,r2,r3⟩:=h.box hO hb
    have hl : s.objs id ≠ .none:=by rw [show s.objs id = _ from hO]; simp
    refine ⟨L.fp id,.bx (fun j=>(arr[j]?).getD default) (fun _=>noF) r1 (by simpa using r2) (.inl hb) (fun _ _ h=>h.elim) (fun _ _ _ h=>h.elim) (fun j c hc=>?_) (fun j c hc=>?_),fun y hy=>⟨id,by simp [AV.oid],hl,hy⟩⟩
    ·obtain ⟨u,hu,_⟩:=r3 j (.c c) (by simp [hc])
     rw [hu]; rfl
    ·obtain ⟨u,hu,hr⟩:=r3 j (.c c) (by simp [hc])
     rw [hu]; exact .sh hr
   ·exact hp.elim
 | _=>exact hp.elim
theorem yw1 (h : Repr g s a w L) : ∀ {l l' : List AV} {us : List Value},ytp s l l' →
 (∀ (j : Nat) (x : AV),l[j]? = some x → ∃ u,us[j]? = some u ∧ RV1 w (Good g s.objs L w) s.objs L u x) → (l.flatMap AV.oid).Nodup →
 ∃ Fs : Nat → Nat → Prop,l'.length = l.length ∧ (∀ (j : Nat) (y : AV),l'[j]? = some y → ∃ u c,y = .c c ∧ us[j]? = some u ∧ OT w (Good g s.objs L w) u c (Fs j)) ∧
  (∀ j y,Fs j y → ∃ i0,i0 ∈ l.flatMap AV.oid ∧ s.objs i0 ≠ .none ∧ L.fp i0 y) ∧ (∀ j j' y,Fs j y → Fs j' y → j = j')
 | [],[],us,_,_,_=>⟨fun _=>noF,rfl,fun j c hj=>by simp at hj,fun _ _ h=>h.elim,fun _ _ _ h=>h.elim⟩
 | x :: l,y :: l',us,hp,hv,hnd=>by
  obtain ⟨⟨c,rfl,hc⟩,hp2⟩:=hp
  obtain ⟨u0,hu0,hr0⟩:=hv 0 x rfl
  obtain ⟨F0,hF0,hF0i⟩:=yic h hr0 hc
  rw [List.flatMap_cons] at hnd
  have hnd':=List.nodup_append.1 hnd
  obtain ⟨Fs,e1,e2,e3,e4⟩:=yw1 h (us:=us.tail) hp2 (fun j y hj=>by
   obtain ⟨u,hu,hr⟩:=hv (j + 1) y (by simpa using hj)
   exact ⟨u,by simpa [List.getElem?_tail] using hu,hr⟩) hnd'.2.1
  refine ⟨fun j=>match j with | 0=>F0 | j + 1=>Fs j,by simp [e1],fun j y' hj=>?_,fun j y hy=>?_,fun j j' y hy hy'=>?_⟩
  ·cases j with
   | zero=>simp at hj; subst hj; exact ⟨u0,c,rfl,hu0,hF0⟩
   | succ j =>
    obtain ⟨u,c',hc',hu,hr⟩:=e2 j y' (by simpa using hj)
    exact ⟨u,c',hc',by simpa [List.getElem?_tail] using hu,hr⟩
  ·rw [List.flatMap_cons]
   cases j with
   | zero=>obtain ⟨i0,m1,m2⟩:=hF0i y hy; exact ⟨i0,List.mem_append_left _ m1,m2⟩
   | succ j=>obtain ⟨i0,m1,m2⟩:=e3 j y hy; exact ⟨i0,List.mem_append_right _ m1,m2⟩
  ·have cross : ∀ j,F0 y → Fs j y → False:=by
    intro j q1 q2
    obtain ⟨i0,m1,m2,m3⟩:=hF0i y q1
    obtain ⟨i1,n1,n2,n3⟩:=e3 j y q2
    have:=h.inj i0 i1 y m2 n2 m3 n3
    subst this
    exact hnd'.2.2 i0 m1 i0 n1 rfl
   cases j with
   | zero=>cases j' with
    | zero=>rfl
    | succ j'=>exact (cross j' hy hy').elim
   | succ j=>cases j' with
    | zero=>exact (cross j hy' hy).elim
    | succ j'=>rw [e4 j j' y hy hy']
theorem yt4 {x : AV} {c : C} (h : yf4 s x c) : x.yaE = true:=by
 cases x <;> first | rfl | exact h.elim
theorem ysn (h : Repr g s a w L) {v : Value} {x y : AV} (hv : RVs g s w L v x) (hp : yfM s x y) (hnd : x.ygR.Nodup) :
 ∃ F,yeC w (Good g s.objs L w) v y F ∧ ∀ b,F b → ∃ i0,i0 ∈ x.ygR ∧ s.objs i0 ≠ .none ∧ L.fp i0 b:=by
 cases y with
 | c c =>
  have hck:=yt4 hp
  obtain ⟨F,h1,h2⟩:=yic h (hv.one1 hck) hp
  refine ⟨F,h1,fun b hb=>?_⟩
  obtain ⟨i0,m1,m2⟩:=h2 b hb
  refine ⟨i0,?_,m2⟩
  cases x <;> first | exact m1 | simp [AV.oid] at m1
 | agg l' =>
  cases x with
  | agg l =>
   obtain ⟨arr,e,hs,hl⟩:=hv
   obtain ⟨Fs,e1,e2,e3,e4⟩:=yw1 h (us:=arr.toList) hp (fun j x hj=>by obtain ⟨u,hu,hr⟩:=hl j x hj; exact ⟨u,by simpa using hu,hr⟩) hnd
   refine ⟨fun b=>∃ j,Fs j b,⟨arr,e,by rw [hs,e1],Fs,fun j y hj=>?_,fun j b hb=>⟨j,hb⟩,e4⟩,fun b hb=>let ⟨j,hj⟩:=hb; e3 j b hj⟩
   obtain ⟨u,c,hc,hu,ho⟩:=e2 j y hj
   exact ⟨u,c,hc,by simpa using hu,ho⟩
  | _=>exact hp.elim
 | _=>exact hp.elim
theorem ytR (h : Repr g s a w L) : ∀ {l l' : List AV} {us : List Value},yrG s l l' →
 (∀ (j : Nat) (x : AV),l[j]? = some x → ∃ u,us[j]? = some u ∧ RVs g s w L u x) → (l.flatMap AV.ygR).Nodup →
 ∃ Fs : Nat → Nat → Prop,l'.length = l.length ∧ (∀ (j : Nat) (y : AV),l'[j]? = some y → ∃ u,us[j]? = some u ∧ yeC w (Good g s.objs L w) u y (Fs j)) ∧
  (∀ j y,Fs j y → ∃ i0,i0 ∈ l.flatMap AV.ygR ∧ s.objs i0 ≠ .none ∧ L.fp i0 y) ∧ (∀ j j' y,Fs j y → Fs j' y → j = j')
 | [],[],us,_,_,_=>⟨fun _=>noF,rfl,fun j c hj=>by simp at hj,fun _ _ h=>h.elim,fun _ _ _ h=>h.elim⟩
 | x :: l,y :: l',us,hp,hv,hnd=>by
  obtain ⟨hp1,hp2⟩:=hp
  obtain ⟨u0,hu0,hr0⟩:=hv 0 x rfl
  rw [List.flatMap_cons] at hnd
  have hnd':=List.nodup_append.1 hnd
  obtain ⟨F0,hF0,hF0i⟩:=ysn h hr0 hp1 hnd'.1
  obtain ⟨Fs,e1,e2,e3,e4⟩:=ytR h (us:=us.tail) hp2 (fun j y hj=>by
   obtain ⟨u,hu,hr⟩:=hv (j + 1) y (by simpa using hj)
   exact ⟨u,by simpa [List.getElem?_tail] using hu,hr⟩) hnd'.2.1
  refine ⟨fun j=>match j with | 0=>F0 | j + 1=>Fs j,by simp [e1],fun j y' hj=>?_,fun j y hy=>?_,fun j j' y hy hy'=>?_⟩
  ·cases j with
   | zero=>simp at hj; subst hj; exact ⟨u0,hu0,hF0⟩
   | succ j =>
    obtain ⟨u,hu,hr⟩:=e2 j y' (by simpa using hj)
    exact ⟨u,by simpa [List.getElem?_tail] using hu,hr⟩
  ·rw [List.flatMap_cons]
   cases j with
   | zero=>obtain ⟨i0,m1,m2⟩:=hF0i y hy; exact ⟨i0,List.mem_append_left _ m1,m2⟩
   | succ j=>obtain ⟨i0,m1,m2⟩:=e3 j y hy; exact ⟨i0,List.mem_append_right _ m1,m2⟩
  ·have cross : ∀ j,F0 y → Fs j y → False:=by
    intro j q1 q2
    obtain ⟨i0,m1,m2,m3⟩:=hF0i y q1
    obtain ⟨i1,n1,n2,n3⟩:=e3 j y q2
    have:=h.inj i0 i1 y m2 n2 m3 n3
    subst this
    exact hnd'.2.2 i0 m1 i0 n1 rfl
   cases j with
   | zero=>cases j' with
    | zero=>rfl
    | succ j'=>exact (cross j' hy hy').elim
   | succ j=>cases j' with
    | zero=>exact (cross j hy' hy).elim
    | succ j'=>rw [e4 j j' y hy hy']
theorem yzg (h : Repr g s a w L) {r : ResultVar} {q : RS} {x : AV} (hq : yhM P r = some q) (hx : yga s q = some x) : ∃ v,(ygN a.tmps r).run P w = .ok v w ∧ RVs g s w L v x:=by
 cases r with
 | tmp t =>
  simp only [yhM] at hq
  split at hq
  ·rename_i hlt
   cases hq
   have:=h.at_ hlt
   simp only [yga] at hx
   split at hx
   ·cases hx
   ·cases hx; exact ⟨_,rfl,this⟩
  ·cases hq
 | cell t ty =>
  simp only [yhM] at hq
  split at hq
  case isFalse=>cases hq
  rename_i hlt
  have hen:=h.at_ hlt
  split at hq
  ·rename_i k h1 h2
   cases hq
   simp only [yga] at hx
   split at hx
   ·rename_i id hid
    rw [hid] at hen
    obtain ⟨b,cells',hO',hb,e1⟩:=hen
    split at hx
    ·rename_i cells hO
     split at hx
     ·rename_i hk
      cases hx
      obtain ⟨arr,e,b1,b2,b3⟩:=h.box hO hb
      have hr:=yjV (P:=P) (w:=w) h1 h2 (ad:=⟨b,0,none⟩) (us:=arr.toList) (by simp; omega) (fun j u hu=>by rw [add_lit,Nat.zero_add,cell_of w b1]; simpa using hu)
      exact ⟨.agg arr,by simp [ygN,e1,asAddr,hr],arr,rfl,b2,b3⟩
     ·cases hx
    ·cases hx
   ·cases hx
  ·rename_i k h1 h2
   cases hq
   simp only [yga] at hx
   split at hx
   ·rename_i id hid
    rw [hid] at hen
    obtain ⟨b,cells',hO',hb,e1⟩:=hen
    split at hx
    ·rename_i x' hO
     cases hx
     obtain ⟨arr,e,b1,b2,b3⟩:=h.box hO hb
     obtain ⟨u,hu,hru⟩:=b3 0 _ rfl
     have hr:=yki (P:=P) (w:=w) h1 (ad:=⟨b,0,none⟩) (u:=u) (by rw [cell_of w b1]; exact hu)
     exact ⟨u,by simp [ygN,e1,asAddr,hr],.of1 hru⟩
    ·cases hx
   ·cases hx
  ·cases hq
theorem yrN (h : Repr g s a w L) : ∀ {l : List ResultVar} {rs : List RS} {xs : List AV},yep P l = some rs → yeQ s rs = some xs →
 ∃ vs : List Value,(l.mapM (ygN a.tmps)).run P w = .ok vs w ∧ vs.length = xs.length ∧ vs.length = rs.length ∧ ∀ (j : Nat) (x : AV),xs[j]? = some x → ∃ u,vs[j]? = some u ∧ RVs g s w L u x
 | [],rs,xs,hc,hx=>by
  cases hc
  cases hx
  exact ⟨[],by simp,rfl,rfl,fun j y hj=>by simp at hj⟩
 | r :: l,rs,xs,hc,hx=>by
  simp only [yep] at hc
  split at hc
  ·rename_i q qs h1 h2
   cases hc
   simp only [yeQ] at hx
   split at hx
   ·rename_i x xs' x1 x2
    cases hx
    obtain ⟨v,hv,hr⟩:=yzg h h1 x1
    obtain ⟨vs,e1,e2,e3,e4⟩:=yrN h h2 x2
    refine ⟨v :: vs,by simp [List.mapM_cons,hv,e1],by simp [e2],by simp [e3],fun j z hj=>?_⟩
    cases j with
    | zero=>simp at hj; subst hj; exact ⟨v,rfl,hr⟩
    | succ j=>exact e4 j z (by simpa using hj)
   ·cases hx
  ·cases hc
theorem yAS (h : Repr g s a w L) {fn : Func} {rs : List RS} {res : AV} (hc : yep P fn.results.toList = some rs) (hy : yiF s rs res) :
 ∃ v F,(results fn a.tmps).run P w = .ok v w ∧ AOk w (Good g s.objs L w) v res F ∧ ∀ b,F b → ∃ i0,s.objs i0 ≠ .none ∧ L.fp i0 b:=by
 unfold yiF at hy
 split at hy
 case h_2=>exact hy.elim
 rename_i xs hxs
 obtain ⟨vs,e1,e2,e3,e4⟩:=yrN h hc hxs
 unfold yBg at hy
 split at hy
 ·rename_i x
  obtain ⟨hy,hnd⟩:=hy
  obtain ⟨u,hu,hr⟩:=e4 0 x rfl
  obtain ⟨F,k1,k2⟩:=ysn h hr hy hnd
  match vs,e2,hu with
  | [u'],_,hu =>
   simp at hu; subst hu
   refine ⟨_,F,ygp e1,?_,fun b hb=>let ⟨i0,_,m⟩:=k2 b hb; ⟨i0,m⟩⟩
   cases res <;> first | exact k1 | exact k1.elim
 ·rename_i hne
  obtain ⟨ys,rfl,hy,hnd⟩:=hy
  obtain ⟨Fs,f1,f2,f3,f4⟩:=ytR h (us:=vs) hy e4 hnd
  have hl : vs.toArray.size ≠ 1:=by
   intro e
   have : xs.length = 1:=by rw [← e2]; simpa using e
   match xs,this,hne with
   | [r],_,hne=>exact hne r rfl
  refine ⟨_,fun b=>∃ j,Fs j b,ygp e1,?_,fun b hb=>let ⟨j,hj⟩:=hb; let ⟨i0,_,m⟩:=f3 j b hj; ⟨i0,m⟩⟩
  rw [dif_neg hl]
  refine ⟨vs.toArray,rfl,by simp [e2,f1],Fs,fun j y hj=>?_,fun j b hb=>⟨j,hb⟩,f4⟩
  obtain ⟨u,hu,hr⟩:=f2 j y hj
  exact ⟨u,by simpa using hu,hr⟩
theorem yeC.mono {w w' : World} {G G' : Nat → Prop} {v : Value} {x : AV} {F F' : Nat → Prop} (h : yeC w G v x F) (hG : ∀ b,G b → G' b)
 (hc : ∀ (ad : Addr) (u : Value),G ad.block → w.cell? ad = some u → w'.cell? ad = some u) (hF : ∀ b,F b → F' b) (hh : ∀ b,F b → w'.heap[b]? = w.heap[b]?) : yeC w' G' v x F':=by
 cases x with
 | c c=>exact OT.mono h hG hc hF hh
 | agg l =>
  obtain ⟨arr,e,hs,Fs,h1,h2,h3⟩:=h
  refine ⟨arr,e,hs,Fs,fun j y hy=>?_,fun j b hb=>hF b (h2 j b hb),h3⟩
  obtain ⟨u,c,rfl,hu,ho⟩:=h1 j y hy
  exact ⟨u,c,rfl,hu,ho.mono hG hc (fun _ h=>h) fun b hb=>hh b (h2 j b hb)⟩
 | _=>exact h.elim
theorem AOk.mono {w w' : World} {G G' : Nat → Prop} {v : Value} {x : AV} {F F' : Nat → Prop} (h : AOk w G v x F) (hG : ∀ b,G b → G' b)
 (hc : ∀ (ad : Addr) (u : Value),G ad.block → w.cell? ad = some u → w'.cell? ad = some u) (hF : ∀ b,F b → F' b) (hh : ∀ b,F b → w'.heap[b]? = w.heap[b]?) : AOk w' G' v x F':=by
 cases x with
 | tup l =>
  obtain ⟨arr,e,hs,Fs,h1,h2,h3⟩:=h
  exact ⟨arr,e,hs,Fs,fun j y hy=>let ⟨u,hu,ho⟩:=h1 j y hy; ⟨u,hu,ho.mono hG hc (fun _ h=>h) fun b hb=>hh b (h2 j b hb)⟩,fun j b hb=>hF b (h2 j b hb),h3⟩
 | c c=>exact yeC.mono (x:=.c c) h hG hc hF hh
 | agg l=>exact yeC.mono (x:=.agg l) h hG hc hF hh
 | _=>exact h.elim
end
theorem yv3 {P : Program} {f N : Nat} {c : SC} {rs : List RS} {args : List AV} {res : AV} (hf : Has P f N c rs) (hN : args.length ≤ N)
 (H : ygO args → wpS P N c (yh2 args) (fun e s=>match e with | .exit _=>False | _=>yiF s rs res)) : ybh P f args res:=by
 obtain ⟨fn,code,h1,h2,h3,⟨fl,h4⟩,h5⟩:=hf.ok
 intro w G hG vs hvs hv
 have hwf : ygO args:=yjB args fun x hx=>by
  obtain ⟨j,hj⟩:=List.getElem?_of_mem hx
  obtain ⟨u,_,hr⟩:=hv j x hj
  exact yzI hr
 refine calls_of_wp h1 h2 ?_
 let g : Ghost:=⟨w,G,noF,N,#[]⟩
 let L0 : Lay:=⟨noB,fun _=>noF⟩
 have hgood : ∀ b,G b → Good g noO L0 w b:=fun b hb=>⟨.inl (.inl hb),fun id hid=>absurd rfl hid⟩
 have hinit : Repr g (yh2 args) { tmps:=vs ++ Array.replicate (fn.ntmps - vs.size) undef,defers:=[] } w L0:=by
  refine ⟨by simp [g]; omega,hf.small,rfl,Off.refl _ _,hG,fun b hb=>hb.elim,fun b hb h=>h.elim,fun t=>?_,fun id=>trivial,fun id b hid=>absurd rfl hid,fun i j b hi=>absurd rfl hi,fun i b hi=>absurd rfl hi⟩
  show RV _ _ _ _ _ ((args[t]?).getD .any)
  cases ht : args[t]? with
  | none=>trivial
  | some x =>
   obtain ⟨u,hu,hr⟩:=hv t x ht
   have hlt : t < vs.size:=(Array.getElem?_eq_some_iff.1 hu).1
   have hsm:=hf.small
   have : g.val { tmps:=vs ++ Array.replicate (fn.ntmps - vs.size) undef,defers:=[] } t = u:=by
    unfold Ghost.val
    rw [if_pos (by omega),Array.getD_eq_getD_getElem?,Array.getElem?_append_left hlt,hu]; rfl
   rw [this]
   exact yk5 (O:=noO) hgood hr
 refine Code.wp_mono ?_ (yjq (g:=g) rfl h4 (H hwf) hinit)
 intro e a' w' hl
 have fin : ∀ s blk,yiF s rs res → Repr g s a' w' blk → a'.defers = [] ∧ ∃ v,(results fn a'.tmps).run P w' = .ok v w' ∧ (∃ v' F,Ending.returned v = .returned v' ∧ Below w.heap.size w w' ∧ (∀ b,F b → w.heap.size ≤ b ∧ b < w'.heap.size) ∧ AOk w' (fun b=>(G b ∨ (w.heap.size ≤ b ∧ b < w'.heap.size)) ∧ ¬ F b) v' res F):=by
  intro s blk hr h
  obtain ⟨v,F,e1,e2,e3⟩:=yAS h h5 hr
  refine ⟨h.defers,v,e1,v,F,rfl,Off.below h.below,fun b hb=>?_,e2.mono (fun b hb=>⟨hb.1.elim (fun h=>h.elim .inl fun h=>h.elim) .inr,fun hF=>?_⟩) (fun _ _ _ h=>h) (fun _ h=>h) (fun _ _=>rfl)⟩
  ·obtain ⟨i0,m1,m2⟩:=e3 b hb
   obtain ⟨n1,n2⟩:=h.new i0 b m1 m2
   rcases n1 with n1 | n1
   ·exact n1.elim
   ·exact ⟨n1,n2⟩
  ·obtain ⟨i0,m1,m2⟩:=e3 b hF
   exact hb.2 i0 m1 m2
 cases e with
 | normal=>obtain ⟨s,blk,hr,h⟩:=hl; exact fin s blk hr h
 | exit id=>obtain ⟨s,blk,hr,h⟩:=hl; exact hr.elim
 | ret=>obtain ⟨s,blk,hr,h⟩:=hl; exact fin s blk hr h
 | goto l=>exact hl.elim
 | panic ch=>exact hl.elim
 | outgrown=>exact hl.elim
end Go.Proofs.YtpkpdbohalbbaaaDoor
namespace Go.Proofs.YtpkpdbohalbbaaaDoor
open Go.RowKit
def cw (k : Nat) : List (List C) → C
 | []=>.sl k []
 | r :: l=>.ow k (r :: l)
def ct (k : Nat) : List (List C) → C
 | []=>.sl k []
 | r :: l=>.ot k (r :: l)
section
variable {g : Ghost} {s : St} {a : Act} {w : World} {L : Lay}
end
section
variable {P : Program} {f : Nat} {s : St} {d : Option Nat} {avs args : List AV} {res : AV} {K : St → Prop}
def St.turned (s : St) (ups : List (Option (Nat × Obj))) : St:=⟨s.env,yaL s.objs (ups.filterMap id)⟩
end
def yjk (x : AV) (args : List AV) : St:=⟨fun t=>if t = 1000000 then x.yjS 0 else if t = 0 then x.yjS 0 else (args[t - 1]?).getD .any,yaL noO (x.yfX 0)⟩
def inP (s : St) (rs : List RS) (x' res : AV) : Prop:=yfM s (s.env 1000000) x' ∧ (s.env 1000000).ygR.Nodup ∧ yml s rs res
end Go.Proofs.YtpkpdbohalbbaaaDoor
namespace Go.Proofs.YtpkpdbohalbbaaaDoor
open Go.RowKit
section
variable {g : Ghost} {s : St} {a : Act} {w : World} {L : Lay}
end
section
variable {P : Program} {f : Nat} {s : St} {d : Option Nat} {avs args : List AV} {res : AV} {K : St → Prop}
end
end Go.Proofs.YtpkpdbohalbbaaaDoor
namespace Go.Proofs.YtpkpdbohalbbaaaDoor
open Go.RowKit
@[simp] theorem unp_c {d : Nat} {c : C} : (AV.c c).unp d = c.unp d:=rfl
@[simp] theorem unp_agg {d : Nat} {l : List AV} : (AV.agg l).unp d = .agg (yjP d 0 (AV.cs l)):=rfl
@[simp] theorem unp_tup {d : Nat} {l : List AV} : (AV.tup l).unp d = .tup (ynx d 0 l):=rfl
@[simp] theorem unp1_c {d : Nat} {c : C} : (AV.c c).yjS d = c.unp d:=rfl
@[simp] theorem yKs {d : Nat} {l : List AV} : (AV.agg l).yjS d = .agg (yjP d 0 (AV.cs l)):=rfl
@[simp] theorem unpO_c {d : Nat} {c : C} : (AV.c c).ya6 d = c.ya6 d:=rfl
@[simp] theorem yJq {d : Nat} {l : List AV} : (AV.agg l).ya6 d = ydw d 0 (AV.cs l):=rfl
@[simp] theorem yKq {d : Nat} {l : List AV} : (AV.tup l).ya6 d = yiw d 0 l:=rfl
@[simp] theorem unpO1_c {d : Nat} {c : C} : (AV.c c).yfX d = c.ya6 d:=rfl
@[simp] theorem yGV {d : Nat} {l : List AV} : (AV.agg l).yfX d = ydw d 0 (AV.cs l):=rfl
@[simp] theorem yIU {d j : Nat} : yjP d j [] = []:=rfl
@[simp] theorem yHv {d j : Nat} {c : C} {l : List C} : yjP d j (c :: l) = c.unp (sid d j) :: yjP d (j + 1) l:=rfl
@[simp] theorem yGL {d j : Nat} : ydw d j [] = []:=rfl
@[simp] theorem yDZ {d j : Nat} {c : C} {l : List C} : ydw d j (c :: l) = c.ya6 (sid d j) ++ ydw d (j + 1) l:=rfl
@[simp] theorem yHJ {d j : Nat} : ynx d j [] = []:=rfl
@[simp] theorem yG0 {d j : Nat} {c : AV} {l : List AV} : ynx d j (c :: l) = c.yjS (tid d j) :: ynx d (j + 1) l:=rfl
@[simp] theorem yGx {d j : Nat} : yiw d j [] = []:=rfl
@[simp] theorem yEa {d j : Nat} {c : AV} {l : List AV} : yiw d j (c :: l) = c.yfX (tid d j) ++ yiw d (j + 1) l:=rfl
@[simp] theorem cs_nil : AV.cs [] = []:=rfl
@[simp] theorem yIy {c : C} {l : List AV} : AV.cs (.c c :: l) = c :: AV.cs l:=rfl
attribute [simp] ylW sid tid
@[simp] theorem cunp_i {d : Nat} {n : Int} : (C.i n).unp d = .c (.i n):=rfl
@[simp] theorem cunp_b {d : Nat} {n : Bool} : (C.b n).unp d = .c (.b n):=rfl
@[simp] theorem cunp_u {d : Nat} {n : Nat} : (C.u n).unp d = .c (.u n):=rfl
@[simp] theorem cunp_q {d : Nat} {n : Nat} : (C.q n).unp d = .c (.q n):=rfl
@[simp] theorem cunp_s {d : Nat} {n : ByteArray} : (C.s n).unp d = .c (.s n):=rfl
@[simp] theorem cunp_sl {d k : Nat} {r : List (List C)} : (C.sl k r).unp d = .c (.sl k r):=rfl
@[simp] theorem cunp_ow {d k : Nat} {r : List (List C)} : (C.ow k r).unp d = .own d k r.length:=rfl
@[simp] theorem cunp_ot {d k : Nat} {r : List (List C)} : (C.ot k r).unp d = .own d k r.length:=rfl
@[simp] theorem cunpO_i {d : Nat} {n : Int} : (C.i n).ya6 d = []:=rfl
@[simp] theorem cunpO_b {d : Nat} {n : Bool} : (C.b n).ya6 d = []:=rfl
@[simp] theorem cunpO_u {d : Nat} {n : Nat} : (C.u n).ya6 d = []:=rfl
@[simp] theorem cunpO_q {d : Nat} {n : Nat} : (C.q n).ya6 d = []:=rfl
@[simp] theorem cunpO_s {d : Nat} {n : ByteArray} : (C.s n).ya6 d = []:=rfl
@[simp] theorem yIA {d k : Nat} {r : List (List C)} : (C.sl k r).ya6 d = []:=rfl
@[simp] theorem yIG {d k : Nat} {r : List (List C)} : (C.ow k r).ya6 d = [(d,.row k r)]:=rfl
@[simp] theorem yKC {d k : Nat} {r : List (List C)} : (C.ot k r).ya6 d = [(d,.tr k 0 r)]:=rfl
@[simp] theorem yDJ {O : Nat → Obj} {i : Nat} : yaL O [] i = O i:=rfl
@[simp] theorem yCs {O : Nat → Obj} {k i : Nat} {o : Obj} {l : List (Nat × Obj)} : yaL O ((k,o) :: l) i = if i = k then o else yaL O l i:=rfl
@[simp] theorem yH8 {s : St} {d t : Nat} {res : AV} : (s.take d res).env t = if t = d then res.unp d else s.env t:=rfl
@[simp] theorem take_ob {s : St} {d i : Nat} {res : AV} : (s.take d res).ob i = yaL s.objs (res.ya6 d) i:=rfl
@[simp] theorem yF2 {s : St} {d i : Nat} {res : AV} : (s.take d res).objs i = yaL s.objs (res.ya6 d) i:=rfl
@[simp] theorem yEy {s : St} {t : Nat} {ups : List (Option (Nat × Obj))} : (s.turned ups).env t = s.env t:=rfl
@[simp] theorem yE1 {s : St} {i : Nat} {ups : List (Option (Nat × Obj))} : (s.turned ups).ob i = yaL s.objs (ups.filterMap id) i:=rfl
@[simp] theorem yB4 {s : St} {i : Nat} {ups : List (Option (Nat × Obj))} : (s.turned ups).objs i = yaL s.objs (ups.filterMap id) i:=rfl
@[simp] theorem fm_nil : ([] : List (Option (Nat × Obj))).filterMap id = []:=rfl
@[simp] theorem fm_some {p : Nat × Obj} {l : List (Option (Nat × Obj))} : (some p :: l).filterMap id = p :: l.filterMap id:=rfl
@[simp] theorem fm_none {l : List (Option (Nat × Obj))} : ((none : Option (Nat × Obj)) :: l).filterMap id = l.filterMap id:=rfl
@[simp] theorem yDx {x : AV} {args : List AV} {t : Nat} : (yjk x args).env t = if t = 1000000 then x.yjS 0 else if t = 0 then x.yjS 0 else (args[t - 1]?).getD .any:=rfl
@[simp] theorem yE7 {x : AV} {args : List AV} {i : Nat} : (yjk x args).ob i = yaL noO (x.yfX 0) i:=rfl
@[simp] theorem yB6 {x : AV} {args : List AV} {i : Nat} : (yjk x args).objs i = yaL noO (x.yfX 0) i:=rfl
@[simp] theorem noO_at {i : Nat} : noO i = .none:=rfl
@[simp] theorem cw_n {k : Nat} : cw k [] = .sl k []:=rfl
@[simp] theorem cw_c {k : Nat} {r : List C} {l : List (List C)} : cw k (r :: l) = .ow k (r :: l):=rfl
@[simp] theorem ct_n {k : Nat} : ct k [] = .sl k []:=rfl
@[simp] theorem ct_c {k : Nat} {r : List C} {l : List (List C)} : ct k (r :: l) = .ot k (r :: l):=rfl
def yyZ (k k' n : Nat) (rows : List (List C)) : Obj → Prop
 | .row k0 rs=>k0 = k ∧ k' = k ∧ rows = rs.take n
 | _=>False
def ywP (k k' n : Nat) (rows : List (List C)) : Obj → Prop
 | .row k0 rs=>k0 = k ∧ k' = k ∧ rows = rs.take n
 | .tr k0 _ rs=>k0 = k ∧ k' = k ∧ rows = rs.take n
 | _=>False
def yzb (cs : List C) : Obj → Prop
 | .box cells=>cells = cs.map .c ∧ cs.all C.plain = true
 | _=>False
@[simp] theorem yHc {k k' n k0 : Nat} {rows rs : List (List C)} : yyZ k k' n rows (.row k0 rs) = (k0 = k ∧ k' = k ∧ rows = rs.take n):=rfl
@[simp] theorem yFC {k k' n k0 : Nat} {rows rs : List (List C)} : ywP k k' n rows (.row k0 rs) = (k0 = k ∧ k' = k ∧ rows = rs.take n):=rfl
@[simp] theorem yIT {k k' n k0 v : Nat} {rows rs : List (List C)} : ywP k k' n rows (.tr k0 v rs) = (k0 = k ∧ k' = k ∧ rows = rs.take n):=rfl
@[simp] theorem yHC {cs : List C} {l : List AV} : yzb cs (.box l) = (l = cs.map .c ∧ cs.all C.plain = true):=rfl
section
variable {s : St}
@[simp] theorem own1_c {x c : C} : yf4 s (.c x) c = (c = x ∧ x.plain = true):=rfl
@[simp] theorem yHb {k : Nat} {r : List (List C)} {c : C} : yf4 s (.clip k r) c = (c = .sl k r):=rfl
@[simp] theorem yBK {k k' : Nat} {r : List (List C)} : yf4 s (.nil k) (.ow k' r) = (r = []):=rfl
@[simp] theorem yCc {k k' : Nat} {r : List (List C)} : yf4 s (.nil k) (.ot k' r) = (r = []):=rfl
@[simp] theorem yBM {k k' : Nat} {r : List (List C)} : yf4 s (.nil k) (.sl k' r) = (r = []):=rfl
@[simp] theorem yBX {id k n k' : Nat} {r : List (List C)} : yf4 s (.own id k n) (.ow k' r) = yyZ k k' n r (s.ob id):=by
 cases h : s.ob id <;> simp [yf4,yyZ,h]
@[simp] theorem yB5 {id k n k' : Nat} {r : List (List C)} : yf4 s (.own id k n) (.ot k' r) = ywP k k' n r (s.ob id):=by
 cases h : s.ob id <;> simp [yf4,ywP,h]
@[simp] theorem yBZ {id k n k' : Nat} {r : List (List C)} : yf4 s (.own id k n) (.sl k' r) = (n = 0 ∧ r = []):=rfl
@[simp] theorem yJc {id : Nat} {cs : List C} : yf4 s (.box id 0) (.bx cs) = yzb cs (s.ob id):=by
 cases h : s.ob id <;> simp [yf4,yzb,h]
@[simp] theorem own2_c {x : AV} {c : C} : yfM s x (.c c) = yf4 s x c:=rfl
@[simp] theorem yJ9 {l l' : List AV} : yfM s (.agg l) (.agg l') = ytp s l l':=rfl
@[simp] theorem yHX : ytp s [] [] = True:=rfl
@[simp] theorem yGM {x : AV} {c : C} {l l' : List AV} : ytp s (x :: l) (.c c :: l') = (yf4 s x c ∧ ytp s l l'):=by
 simp [ytp]
@[simp] theorem yFm : yrG s [] [] = True:=rfl
@[simp] theorem yEi {x y : AV} {l l' : List AV} : yrG s (x :: l) (y :: l') = (yfM s x y ∧ yrG s l l'):=rfl
@[simp] theorem oid_own {id k n : Nat} : (AV.own id k n).oid = [id]:=rfl
@[simp] theorem oid_box {id n : Nat} : (AV.box id n).oid = [id]:=rfl
@[simp] theorem oid_c {c : C} : (AV.c c).oid = []:=rfl
@[simp] theorem oid_nil {n : Nat} : (AV.nil n).oid = []:=rfl
@[simp] theorem yJ4 {n : Nat} {r : List (List C)} : (AV.clip n r).oid = []:=rfl
@[simp] theorem yIz {id k n : Nat} : (AV.own id k n).ygR = [id]:=rfl
@[simp] theorem yIX {id n : Nat} : (AV.box id n).ygR = [id]:=rfl
@[simp] theorem oids_c {c : C} : (AV.c c).ygR = []:=rfl
@[simp] theorem yHR {n : Nat} : (AV.nil n).ygR = []:=rfl
@[simp] theorem yFK {n : Nat} {r : List (List C)} : (AV.clip n r).ygR = []:=rfl
@[simp] theorem yI1 {l : List AV} : (AV.agg l).ygR = l.flatMap AV.oid:=rfl
def ykB (s : St) (res x : AV) : Prop:=yfM s x res ∧ x.ygR.Nodup ∧ (match x with | .tup _=>False | _=>True)
theorem yA8 {n : Nat} {res : AV} (h : ykB s res (s.env n)) : yiF s [.t n] res:=by
 obtain ⟨h1,h2,h3⟩:=h
 have : yeQ s [.t n] = some [s.env n]:=by
  simp only [yeQ,yga]
  revert h3
  generalize s.env n = x
  cases x <;> simp
 unfold yiF
 rw [this]
 exact ⟨h1,h2⟩
theorem yAm {n : Nat} {res : AV} : yiF s [.t n] res = ykB s res (s.env n):=by
 refine propext ⟨fun h=>?_,yA8⟩
 unfold yiF at h
 simp only [yeQ,yga] at h
 unfold ykB
 revert h
 generalize s.env n = x
 cases x <;> simp [yBg] <;> intro h1 h2 <;> exact ⟨h1,h2⟩
attribute [simp] yAm
@[simp] theorem yJB {res : AV} {id k n : Nat} : ykB s res (.own id k n) = yfM s (.own id k n) res:=by simp [ykB]
@[simp] theorem yKm {res : AV} {id n : Nat} : ykB s res (.box id n) = yfM s (.box id n) res:=by simp [ykB]
@[simp] theorem ownR_c {res : AV} {c : C} : ykB s res (.c c) = yfM s (.c c) res:=by simp [ykB]
@[simp] theorem yIQ {res : AV} {k : Nat} : ykB s res (.nil k) = yfM s (.nil k) res:=by simp [ykB]
@[simp] theorem yFX {res : AV} {k : Nat} {r : List (List C)} : ykB s res (.clip k r) = yfM s (.clip k r) res:=by simp [ykB]
@[simp] theorem yKk {res : AV} {l : List AV} : ykB s res (.agg l) = (yfM s (.agg l) res ∧ (l.flatMap AV.oid).Nodup):=by simp [ykB]
def ytj : AV → Prop | .tup _=>False | _=>True
theorem yz7 {m n : Nat} {y z : AV} (h1 : yfM s (s.env m) y) (h2 : yfM s (s.env n) z) (h3 : ((s.env m).ygR ++ (s.env n).ygR).Nodup) : yiF s [.t m,.t n] (.tup [y,z]):=by
 have nt : ∀ {x y : AV},yfM s x y → ytj x:=by
  intro x y h
  cases x <;> first | trivial | (cases y <;> exact h.elim)
 have e : ∀ t,ytj (s.env t) → yga s (.t t) = some (s.env t):=by
  intro t ht
  simp only [yga]
  revert ht
  generalize s.env t = x
  cases x <;> simp [ytj]
 have : yeQ s [.t m,.t n] = some [s.env m,s.env n]:=by
  simp only [yeQ,e m (nt h1),e n (nt h2)]
 unfold yiF
 rw [this]
 exact ⟨[y,z],rfl,⟨h1,h2,trivial⟩,by simpa using h3⟩
theorem yyB {m n : Nat} {y z : AV} : yiF s [.t m,.t n] (.tup [y,z]) = (yfM s (s.env m) y ∧ yfM s (s.env n) z ∧ ((s.env m).ygR ++ (s.env n).ygR).Nodup):=by
 refine propext ⟨fun h=>?_,fun h=>yz7 h.1 h.2.1 h.2.2⟩
 unfold yiF at h
 simp only [yeQ,yga] at h
 revert h
 generalize s.env m = x
 generalize s.env n = x'
 intro h
 split at h
 ·rename_i xs hxs
  have : xs = [x,x']:=by
   cases x <;> cases x' <;> simp at hxs <;> exact hxs.symm
  subst this
  obtain ⟨ys,e,h1,h2⟩:=h
  cases e
  exact ⟨h1.1,h1.2.1,by simpa using h2⟩
 ·exact h.elim
attribute [simp] yyB
def ynT (s : St) (k : Nat) (res : AV) : Obj → Prop
 | .box cells=>cells.length = k ∧ yfM s (.agg cells) res ∧ (cells.flatMap AV.oid).Nodup
 | _=>False
def yzJ (s : St) (k : Nat) (res : AV) : AV → Prop
 | .box id 0=>ynT s k res (s.ob id)
 | _=>False
theorem yEA {n k : Nat} {res : AV} : yiF s [.cl n k] res = yzJ s k res (s.env n):=by
 unfold yiF
 simp only [yeQ,yga]
 generalize s.env n = x
 cases x with
 | box id off =>
  cases off with
  | zero =>
   simp only [yzJ]
   cases s.ob id with
   | box cells =>
    simp only [ynT]
    by_cases h : cells.length = k
    ·simp [h,yBg]
    ·simp [h]
   | _=>rfl
  | succ o=>rfl
 | _=>rfl
attribute [simp] yEA
@[simp] theorem yHt {k id : Nat} {res : AV} : yzJ s k res (.box id 0) = ynT s k res (s.ob id):=rfl
@[simp] theorem yB8 {k : Nat} {res : AV} {cells : List AV} : ynT s k res (.box cells) = (cells.length = k ∧ yfM s (.agg cells) res ∧ (cells.flatMap AV.oid).Nodup):=rfl
@[simp] theorem inP_eq {rs : List RS} {x' res : AV} : inP s rs x' res = (yfM s (s.env 1000000) x' ∧ (s.env 1000000).ygR.Nodup ∧ yml s rs res):=rfl
end
theorem yt {α β : Type} {f : α → β} {l : List α} : (l.map f).take l.length = l.map f:=List.take_of_length_le (by simp)
@[simp] theorem shr_c {c c' : C} : (AV.c c).shr (.c c') = (c.shr = some c'):=rfl
@[simp] theorem cshr_ow {k : Nat} {r : List (List C)} : (C.ow k r).shr = some (.sl k r):=rfl
@[simp] theorem cshr_sl {k : Nat} {r : List (List C)} : (C.sl k r).shr = some (.sl k r):=rfl
@[simp] theorem cshr_i {n : Int} : (C.i n).shr = some (.i n):=rfl
@[simp] theorem cshr_b {n : Bool} : (C.b n).shr = some (.b n):=rfl
end Go.Proofs.YtpkpdbohalbbaaaDoor
