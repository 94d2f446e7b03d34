/- What the law FnOnlyWater stands on: the machine, in short form (names, layout). -/
import Derived.Test.YtpiplmnecmkafaaGreatSOnlyWaterA2
set_option linter.all false
namespace Go.Proofs.YtpiplmnecmkafaaGreat
open Go.RowKit
def yeC (w : World) (G : Nat → Prop) (v : Value) (x : AV) (F : Nat → Prop) : Prop :=
 match x with
 | .c c=>OT w G v c F
 | .agg l=>∃ arr : Array Value,v = .agg arr ∧ arr.size = l.length ∧ ∃ Fs : Nat → Nat → Prop,
  (∀ (j : Nat) (y : AV),l[j]? = some y → ∃ u c,y = .c c ∧ arr[j]? = some u ∧ OT w G u c (Fs j)) ∧ (∀ j b,Fs j b → F b) ∧ (∀ j j' b,Fs j b → Fs j' b → j = j')
 | _=>False
def AOk (w : World) (G : Nat → Prop) (v : Value) (x : AV) (F : Nat → Prop) : Prop :=
 match x with
 | .tup l=>∃ arr : Array Value,v = .tuple arr ∧ arr.size = l.length ∧ ∃ Fs : Nat → Nat → Prop,
  (∀ (j : Nat) (y : AV),l[j]? = some y → ∃ u,arr[j]? = some u ∧ yeC w G u y (Fs j)) ∧ (∀ j b,Fs j b → F b) ∧ (∀ j j' b,Fs j b → Fs j' b → j = j')
 | x=>yeC w G v x F
def sid (d j : Nat) : Nat:=d + 10000 * (j + 1)
def tid (d j : Nat) : Nat:=d + 10000000 * (j + 1)
def C.unp (id : Nat) : C → AV
 | .ow k rows=>.own id k rows.length
 | .ot k rows=>.own id k rows.length
 | .bx cells=>if cells.all C.plain then .box id 0 else .any
 | .jk=>.any
 | x=>.c x
def C.ya6 (id : Nat) : C → List (Nat × Obj)
 | .ow k rows=>[(id,.row k rows)]
 | .ot k rows=>[(id,.tr k 0 rows)]
 | .bx cells=>if cells.all C.plain then [(id,.box (cells.map .c))] else []
 | _=>[]
def yjP (d : Nat) : Nat → List C → List AV
 | _,[]=>[]
 | j,c :: l=>c.unp (sid d j) :: yjP d (j + 1) l
def ydw (d : Nat) : Nat → List C → List (Nat × Obj)
 | _,[]=>[]
 | j,c :: l=>c.ya6 (sid d j) ++ ydw d (j + 1) l
def AV.cs : List AV → List C
 | []=>[]
 | .c y :: l=>y :: AV.cs l
 | _ :: l=>.jk :: AV.cs l
def AV.yjS (d : Nat) : AV → AV
 | .c y=>y.unp d
 | .agg l=>.agg (yjP d 0 (AV.cs l))
 | x=>x
def AV.yfX (d : Nat) : AV → List (Nat × Obj)
 | .c y=>y.ya6 d
 | .agg l=>ydw d 0 (AV.cs l)
 | _=>[]
def ynx (d : Nat) : Nat → List AV → List AV
 | _,[]=>[]
 | j,x :: l=>x.yjS (tid d j) :: ynx d (j + 1) l
def yiw (d : Nat) : Nat → List AV → List (Nat × Obj)
 | _,[]=>[]
 | j,x :: l=>x.yfX (tid d j) ++ yiw d (j + 1) l
def AV.unp (d : Nat) : AV → AV
 | .tup l=>.tup (ynx d 0 l)
 | x=>x.yjS d
def AV.ya6 (d : Nat) : AV → List (Nat × Obj)
 | .tup l=>yiw d 0 l
 | x=>x.yfX d
def yaL (O : Nat → Obj) : List (Nat × Obj) → Nat → Obj
 | []=>O
 | (k,o) :: l=>upd k o (yaL O l)
def yU (s : St) (l : List (Nat × Obj)) : Prop:=(∀ p,p ∈ l → s.ob p.1 = .none) ∧ (l.map (·.1)).Nodup
theorem yeL {O : Nat → Obj} : ∀ {l : List (Nat × Obj)},(l.map (·.1)).Nodup → ∀ p,p ∈ l → yaL O l p.1 = p.2
 | [],_,p,hp=>by cases hp
 | (k,o) :: l,hn,p,hp=>by
  simp only [List.map_cons,List.nodup_cons] at hn
  simp only [yaL,yaq]
  rcases List.mem_cons.1 hp with e | e
  ·subst e; simp
  ·have : p.1 ≠ k:=fun e2=>hn.1 (e2 ▸ List.mem_map_of_mem e)
   rw [if_neg this]
   exact yeL hn.2 p e
theorem yeW {O : Nat → Obj} : ∀ {l : List (Nat × Obj)} {i : Nat},i ∉ l.map (·.1) → yaL O l i = O i
 | [],i,_=>rfl
 | (k,o) :: l,i,hi=>by
  simp only [List.map_cons,List.mem_cons,not_or] at hi
  simp only [yaL,yaq]
  rw [if_neg hi.1]
  exact yeW hi.2
theorem ytE : ∀ {l : List AV} {j : Nat} {c : C},l[j]? = some (.c c) → (AV.cs l)[j]? = some c
 | [],j,c,h=>by simp at h
 | x :: l,0,c,h=>by simp at h; subst h; rfl
 | x :: l,j + 1,c,h=>by
  have:=ytE (l:=l) (j:=j) (c:=c) (by simpa using h)
  cases x <;> simpa [AV.cs] using this
theorem yeS : ∀ (l : List AV),(AV.cs l).length = l.length
 | []=>rfl
 | x :: l=>by cases x <;> simp [AV.cs,yeS l]
theorem ylW : ∀ (l : List C),AV.cs (l.map .c) = l
 | []=>rfl
 | c :: l=>by simp [AV.cs,ylW l]
def ygV (w : World) (G F : Nat → Prop) (l : List (Nat × Obj)) (Y : (Nat → Prop) → (Nat → Obj) → (Nat → Option Nat) → Prop) : Prop :=
 ∃ (R : Nat → Option Nat) (S : Nat → Nat → Prop),
  (∀ p,p ∈ l → ∀ b,(R p.1 = some b ∨ S p.1 b) → F b) ∧
  (∀ p,p ∈ l → ∀ b,R p.1 = some b → ¬ S p.1 b) ∧
  (∀ p q,p ∈ l → q ∈ l → ∀ b,(R p.1 = some b ∨ S p.1 b) → (R q.1 = some b ∨ S q.1 b) → p.1 = q.1) ∧
  (∀ (G' : Nat → Prop) (O : Nat → Obj) (B : Nat → Option Nat),(∀ b,G b → G' b) → (∀ p,p ∈ l → O p.1 = p.2 ∧ B p.1 = R p.1) → Y G' O B) ∧
  (∀ (G' : Nat → Prop) (O : Nat → Obj) (B : Nat → Option Nat),(∀ b,G b → G' b) → ∀ p,p ∈ l → yco w G' O B (S p.1) (R p.1) p.2)
section
variable {w : World} {G F : Nat → Prop} {v : Value}
theorem yjf {Y : (Nat → Prop) → (Nat → Obj) → (Nat → Option Nat) → Prop} (hY : ∀ G' O B,(∀ b,G b → G' b) → Y G' O B) : ygV w G F [] Y :=
 ⟨fun _=>none,fun _=>noF,fun p hp=>by simp at hp,fun p hp=>by simp at hp,fun p q hp=>by simp at hp,fun G' O B hG _=>hY G' O B hG,fun _ _ _ _ p hp=>by simp at hp⟩
theorem yjc {id : Nat} {o : Obj} {Y : (Nat → Prop) → (Nat → Obj) → (Nat → Option Nat) → Prop} (r : Option Nat) (S : Nat → Prop) (h1 : ∀ b,(r = some b ∨ S b) → F b) (h2 : ∀ b,r = some b → ¬ S b)
 (h3 : ∀ (G' : Nat → Prop) (O : Nat → Obj) (B : Nat → Option Nat),(∀ b,G b → G' b) → O id = o → B id = r → Y G' O B)
 (h4 : ∀ (G' : Nat → Prop) (O : Nat → Obj) (B : Nat → Option Nat),(∀ b,G b → G' b) → yco w G' O B S r o) : ygV w G F [(id,o)] Y:=by
 refine ⟨fun _=>r,fun _=>S,fun p hp b hb=>h1 b hb,fun p hp b hb=>h2 b hb,fun p q hp hq _ _ _=>?_,fun G' O B hG hO=>?_,fun G' O B hG p hp=>?_⟩
 ·simp only [List.mem_singleton] at hp hq; rw [hp,hq]
 ·obtain ⟨e1,e2⟩:=hO (id,o) (by simp)
  exact h3 G' O B hG e1 e2
 ·simp only [List.mem_singleton] at hp; subst hp
  exact h4 G' O B hG
theorem ygV.mono {F' : Nat → Prop} {l : List (Nat × Obj)} {Y Y' : (Nat → Prop) → (Nat → Obj) → (Nat → Option Nat) → Prop} (h : ygV w G F l Y) (hF : ∀ b,F b → F' b) (hY : ∀ G' O B,Y G' O B → Y' G' O B) : ygV w G F' l Y':=by
 obtain ⟨R,S,h1,h2,h3,h4,h5⟩:=h
 exact ⟨R,S,fun p hp b hb=>hF b (h1 p hp b hb),h2,h3,fun G' O B hG hO=>hY _ _ _ (h4 G' O B hG hO),h5⟩
theorem ytN {F1 F2 : Nat → Prop} {l1 l2 : List (Nat × Obj)} {Y1 Y2 : (Nat → Prop) → (Nat → Obj) → (Nat → Option Nat) → Prop} (h1 : ygV w G F1 l1 Y1) (h2 : ygV w G F2 l2 Y2) (hn : ((l1 ++ l2).map (·.1)).Nodup)
 (hd : ∀ b,F1 b → ¬ F2 b) (hF1 : ∀ b,F1 b → F b) (hF2 : ∀ b,F2 b → F b) : ygV w G F (l1 ++ l2) (fun G' O B=>Y1 G' O B ∧ Y2 G' O B):=by
 obtain ⟨R1,S1,a1,a2,a3,a4,a5⟩:=h1
 obtain ⟨R2,S2,b1,b2,b3,b4,b5⟩:=h2
 rw [List.map_append] at hn
 have hx:=(List.nodup_append.1 hn).2.2
 have in1 : ∀ p,p ∈ l1 → p.1 ∈ l1.map (·.1):=fun p hp=>List.mem_map_of_mem hp
 have in2 : ∀ p,p ∈ l2 → p.1 ∉ l1.map (·.1):=fun p hp hm=>hx _ hm _ (List.mem_map_of_mem hp) rfl
 have r1 : ∀ p,p ∈ l1 → (if p.1 ∈ l1.map (·.1) then R1 p.1 else R2 p.1) = R1 p.1:=fun p hp=>if_pos (in1 p hp)
 have r2 : ∀ p,p ∈ l2 → (if p.1 ∈ l1.map (·.1) then R1 p.1 else R2 p.1) = R2 p.1:=fun p hp=>if_neg (in2 p hp)
 have s1 : ∀ p,p ∈ l1 → (if p.1 ∈ l1.map (·.1) then S1 p.1 else S2 p.1) = S1 p.1:=fun p hp=>if_pos (in1 p hp)
 have s2 : ∀ p,p ∈ l2 → (if p.1 ∈ l1.map (·.1) then S1 p.1 else S2 p.1) = S2 p.1:=fun p hp=>if_neg (in2 p hp)
 refine ⟨fun i=>if i ∈ l1.map (·.1) then R1 i else R2 i,fun i=>if i ∈ l1.map (·.1) then S1 i else S2 i,fun p hp b hb=>?_,fun p hp b hb=>?_,fun p q hp hq b hpb hqb=>?_,fun G' O B hG hO=>⟨?_,?_⟩,fun G' O B hG p hp=>?_⟩
 ·dsimp only at hb
  rcases List.mem_append.1 hp with hp | hp
  ·rw [r1 p hp,s1 p hp] at hb; exact hF1 b (a1 p hp b hb)
  ·rw [r2 p hp,s2 p hp] at hb; exact hF2 b (b1 p hp b hb)
 ·dsimp only at hb ⊢
  rcases List.mem_append.1 hp with hp | hp
  ·rw [r1 p hp] at hb; rw [s1 p hp]; exact a2 p hp b hb
  ·rw [r2 p hp] at hb; rw [s2 p hp]; exact b2 p hp b hb
 ·dsimp only at hpb hqb
  rcases List.mem_append.1 hp with hp | hp <;> rcases List.mem_append.1 hq with hq | hq
  ·rw [r1 p hp,s1 p hp] at hpb; rw [r1 q hq,s1 q hq] at hqb
   exact a3 p q hp hq b hpb hqb
  ·rw [r1 p hp,s1 p hp] at hpb; rw [r2 q hq,s2 q hq] at hqb
   exact (hd b (a1 p hp b hpb) (b1 q hq b hqb)).elim
  ·rw [r2 p hp,s2 p hp] at hpb; rw [r1 q hq,s1 q hq] at hqb
   exact (hd b (a1 q hq b hqb) (b1 p hp b hpb)).elim
  ·rw [r2 p hp,s2 p hp] at hpb; rw [r2 q hq,s2 q hq] at hqb
   exact b3 p q hp hq b hpb hqb
 ·refine a4 G' O B hG fun p hp=>?_
  obtain ⟨e1,e2⟩:=hO p (List.mem_append_left _ hp)
  exact ⟨e1,by rw [e2]; exact r1 p hp⟩
 ·refine b4 G' O B hG fun p hp=>?_
  obtain ⟨e1,e2⟩:=hO p (List.mem_append_right _ hp)
  exact ⟨e1,by rw [e2]; exact r2 p hp⟩
 ·dsimp only
  rcases List.mem_append.1 hp with hp | hp
  ·rw [r1 p hp,s1 p hp]; exact a5 G' O B hG p hp
  ·rw [r2 p hp,s2 p hp]; exact b5 G' O B hG p hp
theorem OT.rd {c : C} (h : OT w G v c F) (hp : c.plain = true) : Rd w G v c:=by
 cases h with
 | sh h=>exact h
 | _=>simp [C.plain] at hp
theorem OT.lays {c : C} {id : Nat} (h : OT w G v c F) : ygV w G F (c.ya6 id) (fun G' O B=>RV1 w G' O B v (c.unp id)):=by
 cases h with
 | sh h =>
  have hp : ∀ (w : World) (G : Nat → Prop) (v : Value) (c : C),Rd w G v c → c.unp id = .c c ∧ c.ya6 id = []:=by
   intro w G v c h; cases h <;> exact ⟨rfl,rfl⟩
  obtain ⟨e1,e2⟩:=hp w G v c h
  rw [e1,e2]
  exact yjf fun G' O B hG=>Rd.mono h hG (fun _ _ _ h=>h)
 | jk h1 h2=>exact yjf fun G' O B hG=>trivial
 | ow0 =>
  refine yjc none noF (fun b hb=>by rcases hb with hb | hb; cases hb; exact hb.elim) (fun b hb=>by cases hb) (fun G' O B hG hO hB=>?_) (fun G' O B hG=>.inl ⟨rfl,rfl⟩)
  exact ⟨0,by rw [hO]; rfl,Nat.le_refl _,.inl ⟨hB,rfl,_,rfl⟩⟩
 | ot0 =>
  refine yjc none noF (fun b hb=>by rcases hb with hb | hb; cases hb; exact hb.elim) (fun b hb=>by cases hb) (fun G' O B hG hO hB=>?_) (fun G' O B hG=>.inl ⟨rfl,rfl⟩)
  exact ⟨0,by rw [hO]; rfl,Nat.le_refl _,.inl ⟨hB,rfl,_,rfl⟩⟩
 | @ow b0 len cap k rows arr e F0 vals h1 h2 h3 h4 h5 h6 h7 h8 h9 =>
  have hsz : rows.length * k ≤ arr.size:=Nat.le_trans (Nat.mul_le_mul_right k (by omega)) h5
  refine yjc (some b0) noF (fun b hb=>by rcases hb with hb | hb; cases hb; exact h7; exact hb.elim) (fun b _ hb=>hb) (fun G' O B hG hO hB=>?_) (fun G' O B hG=>.inr ⟨b0,arr,e,rfl,h1,hsz,h6,fun i r j c hr hc=>⟨_,h8 i r hr j c hc,(h9 i r hr j c hc).mono hG (fun _ _ _ h=>h)⟩⟩)
  exact ⟨rows.length,by rw [hO]; rfl,Nat.le_refl _,.inr ⟨b0,cap,arr,e,hB,by rw [h2],by omega,h4,h1,h5⟩⟩
 | @ot b0 len cap k rows arr e F0 vals Fs h1 h2 h3 h4 h5 h6 h7 h8 h9 h10 h11 =>
  have hsz : rows.length * k ≤ arr.size:=Nat.le_trans (Nat.mul_le_mul_right k (by omega)) h5
  refine yjc (some b0) (fun b=>∃ i j,Fs i j b) (fun b hb=>?_) (fun b hb=>?_) (fun G' O B hG hO hB=>?_) (fun G' O B hG=>.inr ⟨b0,arr,e,rfl,h1,hsz,h6,vals,Fs,fun i j x hx=>⟨⟨i,j,hx⟩,(h8 i j x hx).2⟩,h9,h10,fun i r hr j c hc=>(h11 i r hr j c hc).mono hG (fun _ _ _ h=>h) (fun _ h=>h) (fun _ _=>rfl)⟩)
  ·rcases hb with hb | ⟨i,j,hb⟩
   ·cases hb; exact h7
   ·exact (h8 i j b hb).1
  ·cases hb
   rintro ⟨i,j,hb⟩
   exact (h8 i j _ hb).2 rfl
  ·exact ⟨rows.length,by rw [hO]; rfl,Nat.le_refl _,.inr ⟨b0,cap,arr,e,hB,by rw [h2],by omega,h4,h1,h5⟩⟩
 | @bx b0 cells arr e F0 vals Fs h1 h2 h3 h4 h5 h6 h7 =>
  simp only [C.unp,C.ya6]
  split
  ·rename_i hpl
   refine yjc (some b0) noF (fun b hb=>by rcases hb with hb | hb; cases hb; exact h3; exact hb.elim) (fun b _ hb=>hb) (fun G' O B hG hO hB=>⟨b0,_,hO,hB,rfl⟩) (fun G' O B hG=>⟨b0,arr,e,rfl,h1,by simp [h2],fun j x hx=>?_⟩)
   rw [List.getElem?_map,Option.map_eq_some_iff] at hx
   obtain ⟨c,hc,rfl⟩:=hx
   exact ⟨_,h6 j c hc,((h7 j c hc).rd (List.all_eq_true.1 hpl c (List.mem_of_getElem? hc))).mono hG (fun _ _ _ h=>h)⟩
  ·exact yjf fun G' O B hG=>trivial
theorem yru (d : Nat) (us : List Value) {Fs : Nat → Nat → Prop} (hd : ∀ j j' b,Fs j b → Fs j' b → j = j') : ∀ (cs : List C) (j : Nat),
 (∀ (i : Nat) (c : C),cs[i]? = some c → ∃ u,us[j + i]? = some u ∧ OT w G u c (Fs (j + i))) → ((ydw d j cs).map (·.1)).Nodup →
 ygV w G (fun b=>∃ i,j ≤ i ∧ Fs i b) (ydw d j cs) (fun G' O B=>∀ (i : Nat) (x : AV),(yjP d j cs)[i]? = some x → ∃ u,us[j + i]? = some u ∧ RV1 w G' O B u x)
 | [],j,_,_=>yjf fun _ _ _ _ i x hx=>by simp [yjP] at hx
 | c :: cs,j,h,hn=>by
  obtain ⟨u0,hu0,h0⟩:=h 0 c rfl
  rw [Nat.add_zero] at hu0 h0
  have hn2 : ((ydw d (j + 1) cs).map (·.1)).Nodup:=by
   simp only [ydw,List.map_append] at hn
   exact (List.nodup_append.1 hn).2.1
  have ih:=yru d us hd cs (j + 1) (fun i c' hc=>by
   obtain ⟨u,hu,ho⟩:=h (i + 1) c' (by simpa using hc)
   exact ⟨u,by rw [← hu]; congr 1; omega,by rw [show j + 1 + i = j + (i + 1) by omega]; exact ho⟩) hn2
  refine (ytN (F:=fun b=>∃ i,j ≤ i ∧ Fs i b) (h0.lays (id:=sid d j)) ih hn ?_ (fun b hb=>⟨j,Nat.le_refl _,hb⟩) (fun b hb=>let ⟨i,h1,h2⟩:=hb; ⟨i,by omega,h2⟩)).mono (fun _ h=>h) ?_
  ·rintro b hb ⟨i,h1,h2⟩
   have:=hd j i b hb h2
   omega
  ·rintro G' O B ⟨y1,y2⟩ i x hx
   cases i with
   | zero=>simp [yjP] at hx; subst hx; exact ⟨u0,hu0,y1⟩
   | succ i =>
    obtain ⟨u,hu,hr⟩:=y2 i x (by simpa [yjP] using hx)
    exact ⟨u,by rw [← hu]; congr 1; omega,hr⟩
theorem ymY (d : Nat) : ∀ (cs : List C) (j : Nat),(yjP d j cs).length = cs.length
 | [],_=>rfl
 | c :: cs,j=>by simp [yjP,ymY d cs]
theorem ymI (d : Nat) : ∀ (cs : List AV) (j : Nat),(ynx d j cs).length = cs.length
 | [],_=>rfl
 | c :: cs,j=>by simp [ynx,ymI d cs]
theorem yeC.lays {x : AV} {d : Nat} (h : yeC w G v x F) (hn : ((x.yfX d).map (·.1)).Nodup) : ygV w G F (x.yfX d) (fun G' O B=>RV2 w G' O B v (x.yjS d)):=by
 cases x with
 | c c=>exact (OT.lays (id:=d) h).mono (fun _ h=>h) fun G' O B hy=>yw5 hy
 | agg l =>
  obtain ⟨arr,rfl,hs,Fs,h1,h2,h3⟩:=h
  have key:=yru (w:=w) (G:=G) d arr.toList h3 (AV.cs l) 0 (fun i c hc=>by
   have hlt : i < l.length:=by rw [← yeS l]; exact (List.getElem?_eq_some_iff.1 hc).1
   obtain ⟨u,c',e1,hu,ho⟩:=h1 i _ (List.getElem?_eq_getElem hlt)
   have hg : l[i]? = some (.c c'):=by rw [List.getElem?_eq_getElem hlt,e1]
   have:=ytE hg
   rw [hc] at this; cases this
   rw [Nat.zero_add]
   exact ⟨u,by simpa using hu,ho⟩) hn
  refine key.mono (fun b hb=>let ⟨i,_,hb⟩:=hb; h2 i b hb) fun G' O B hy=>?_
  refine ⟨arr,rfl,by rw [ymY,yeS]; exact hs,fun j x hj=>?_⟩
  obtain ⟨u,hu,hr⟩:=hy j x hj
  exact ⟨u,by simpa using hu,hr⟩
 | _=>exact h.elim
theorem yt2 (d : Nat) (us : List Value) {Fs : Nat → Nat → Prop} (hd : ∀ j j' b,Fs j b → Fs j' b → j = j') : ∀ (cs : List AV) (j : Nat),
 (∀ (i : Nat) (c : AV),cs[i]? = some c → ∃ u,us[j + i]? = some u ∧ yeC w G u c (Fs (j + i))) → ((yiw d j cs).map (·.1)).Nodup →
 ygV w G (fun b=>∃ i,j ≤ i ∧ Fs i b) (yiw d j cs) (fun G' O B=>∀ (i : Nat) (x : AV),(ynx d j cs)[i]? = some x → ∃ u,us[j + i]? = some u ∧ RV2 w G' O B u x)
 | [],j,_,_=>yjf fun _ _ _ _ i x hx=>by simp [ynx] at hx
 | c :: cs,j,h,hn=>by
  obtain ⟨u0,hu0,h0⟩:=h 0 c rfl
  rw [Nat.add_zero] at hu0 h0
  have hn1 : ((c.yfX (tid d j)).map (·.1)).Nodup:=by
   simp only [yiw,List.map_append] at hn
   exact (List.nodup_append.1 hn).1
  have hn2 : ((yiw d (j + 1) cs).map (·.1)).Nodup:=by
   simp only [yiw,List.map_append] at hn
   exact (List.nodup_append.1 hn).2.1
  have ih:=yt2 d us hd cs (j + 1) (fun i c' hc=>by
   obtain ⟨u,hu,ho⟩:=h (i + 1) c' (by simpa using hc)
   exact ⟨u,by rw [← hu]; congr 1; omega,by rw [show j + 1 + i = j + (i + 1) by omega]; exact ho⟩) hn2
  refine (ytN (F:=fun b=>∃ i,j ≤ i ∧ Fs i b) (h0.lays (d:=tid d j) hn1) ih hn ?_ (fun b hb=>⟨j,Nat.le_refl _,hb⟩) (fun b hb=>let ⟨i,h1,h2⟩:=hb; ⟨i,by omega,h2⟩)).mono (fun _ h=>h) ?_
  ·rintro b hb ⟨i,h1,h2⟩
   have:=hd j i b hb h2
   omega
  ·rintro G' O B ⟨y1,y2⟩ i x hx
   cases i with
   | zero=>simp [ynx] at hx; subst hx; exact ⟨u0,hu0,y1⟩
   | succ i =>
    obtain ⟨u,hu,hr⟩:=y2 i x (by simpa [ynx] using hx)
    exact ⟨u,by rw [← hu]; congr 1; omega,hr⟩
theorem AOk.lays {x : AV} {d : Nat} (h : AOk w G v x F) (hn : ((x.ya6 d).map (·.1)).Nodup) : ygV w G F (x.ya6 d) (fun G' O B=>RV w G' O B v (x.unp d)):=by
 cases x with
 | tup l =>
  obtain ⟨arr,rfl,hs,Fs,h1,h2,h3⟩:=h
  have key:=yt2 (w:=w) (G:=G) d arr.toList h3 l 0 (fun i c hc=>by
   obtain ⟨u,hu,ho⟩:=h1 i c hc
   rw [Nat.zero_add]
   exact ⟨u,by simpa using hu,ho⟩) hn
  refine key.mono (fun b hb=>let ⟨i,_,hb⟩:=hb; h2 i b hb) fun G' O B hy=>?_
  refine ⟨arr,rfl,by rw [ymI]; exact hs,fun j x hj=>?_⟩
  obtain ⟨u,hu,hr⟩:=hy j x hj
  exact ⟨u,by simpa using hu,hr⟩
 | c c=>exact (yeC.lays (x:=.c c) (d:=d) h hn).mono (fun _ h=>h) fun G' O B hy=>yje hy
 | agg l=>exact (yeC.lays (x:=.agg l) (d:=d) h hn).mono (fun _ h=>h) fun G' O B hy=>yje hy
 | _=>exact h.elim
end
def ybh (P : Program) (f : Nat) (args : List AV) (res : AV) : Prop :=
 ∀ (w : World) (G : Nat → Prop),(∀ b,G b → b < w.heap.size) → ∀ vs : Array Value,vs.size = args.length →
  (∀ (j : Nat) (x : AV),args[j]? = some x → ∃ u : Value,vs[j]? = some u ∧ RV w G noO noB u x) →
  Calls P f vs w fun e w'=>∃ v F,e = .returned v ∧ Below w.heap.size w w' ∧ (∀ b,F b → w.heap.size ≤ b ∧ b < w'.heap.size) ∧
   AOk w' (fun b=>(G b ∨ (w.heap.size ≤ b ∧ b < w'.heap.size)) ∧ ¬ F b) v res F
section
variable {g : Ghost} {s : St} {a : Act} {w : World} {L : Lay}
theorem Repr.got (h : Repr g s a w L) {w' : World} {G F : Nat → Prop} {v : Value} {res : AV} {d : Nat} (hb : Below w.heap.size w w') (hF : ∀ b,F b → w.heap.size ≤ b ∧ b < w'.heap.size)
 (hG : ∀ b,G b → (Good g s.objs L w b ∨ (w.heap.size ≤ b ∧ b < w'.heap.size)) ∧ ¬ F b) (ho : AOk w' G v res F) (hfr : yU s (res.ya6 d)) :
 ∃ L' : Lay,Repr g ⟨s.env,yaL s.objs (res.ya6 d)⟩ a w' L' ∧ RV w' (Good g (yaL s.objs (res.ya6 d)) L' w') (yaL s.objs (res.ya6 d)) L' v (res.unp d):=by
 obtain ⟨R,S,h1,h2,h3,h4,h5⟩:=ho.lays hfr.2
 generalize hl : res.ya6 d = l at *
 let L' : Lay:=⟨fun i=>if i ∈ l.map (·.1) then R i else L.root i,fun i=>if i ∈ l.map (·.1) then S i else L.sub i⟩
 have rt : ∀ i,L'.root i = if i ∈ l.map (·.1) then R i else L.root i:=fun i=>rfl
 have sb : ∀ i,L'.sub i = if i ∈ l.map (·.1) then S i else L.sub i:=fun i=>rfl
 have mem : ∀ i,i ∈ l.map (·.1) → ∃ p,p ∈ l ∧ p.1 = i:=fun i hi=>by obtain ⟨p,hp,e⟩:=List.mem_map.1 hi; exact ⟨p,hp,e⟩
 have fpF : ∀ i,i ∈ l.map (·.1) → ∀ b,L'.fp i b → F b:=by
  intro i hi b hf
  obtain ⟨p,hp,rfl⟩:=mem i hi
  unfold Lay.fp at hf
  rw [rt,sb,if_pos hi,if_pos hi] at hf
  exact h1 p hp b hf
 have none_ : ∀ i,i ∈ l.map (·.1) → s.objs i = .none:=by
  intro i hi
  obtain ⟨p,hp,rfl⟩:=mem i hi
  exact hfr.1 p hp
 have key:=h.ywN [] (fun i=>i ∈ l.map (·.1)) (objs':=yaL s.objs l) (w':=w') (L':=L') (X:=noF) (.of_below _ hb) (fun _ hq=>hq.elim)
  (fun i hi=>⟨by rw [yeW hi]; simp [Obj.ydm],by rw [rt,if_neg hi],by rw [sb,if_neg hi]⟩)
  (fun i b hi _ hf=>.inr (hF b (fpF i hi b hf)))
  (fun i j b hi hj _ _ hfi hfj=>by
   obtain ⟨p,hp,rfl⟩:=mem i hi
   obtain ⟨q,hq,rfl⟩:=mem j hj
   unfold Lay.fp at hfi hfj
   rw [rt,sb,if_pos hi,if_pos hi] at hfi
   rw [rt,sb,if_pos hj,if_pos hj] at hfj
   exact h3 p q hp hq b hfi hfj)
  (fun i b hi _ hr=>by
   obtain ⟨p,hp,rfl⟩:=mem i hi
   rw [rt,if_pos hi] at hr
   rw [sb,if_pos hi]
   exact h2 p hp b hr)
  (fun i hi _ hn=>absurd (none_ i hi) hn)
  (fun i k v' rows hi _ hk=>by rw [none_ i hi] at hk; cases hk)
  (fun G' K hN hM i hi=>by
   obtain ⟨p,hp,rfl⟩:=mem i hi
   rw [rt,sb,if_pos hi,if_pos hi,yeL hfr.2 p hp]
   refine h5 G' _ _ (fun b hb=>?_) p hp
   obtain ⟨e1,e2⟩:=hG b hb
   rcases e1 with e1 | e1
   ·exact K.good b e1
   ·exact hN b e1.1 e1.2 fun i hi _ hf=>e2 (fpF i hi b hf))
 obtain ⟨k1,k2,k3⟩:=key
 refine ⟨L',k1,h4 _ _ _ (fun b hb=>?_) fun p hp=>⟨yeL hfr.2 p hp,by show L'.root p.1 = _; rw [rt,if_pos (List.mem_map_of_mem hp)]⟩⟩
 obtain ⟨e1,e2⟩:=hG b hb
 rcases e1 with e1 | e1
 ·exact k2.good b e1
 ·exact k3 b e1.1 e1.2 fun i hi _ hf=>e2 (fpF i hi b hf)
end
def C.closed : C → Prop
 | .sl _ rows=>rows = []
 | .ow _ rows=>∀ r,r ∈ rows → ∀ c,c ∈ r → c.closed
 | .ot _ rows=>∀ r,r ∈ rows → ∀ c,c ∈ r → c.closed
 | .bx cells=>∀ c,c ∈ cells → c.closed
 | _=>True
termination_by c=>SizeOf.sizeOf c
decreasing_by
 all_goals first
  | (have h1:=List.sizeOf_lt_of_mem ‹_ ∈ rows›
     have h2:=List.sizeOf_lt_of_mem ‹_ ∈ r›
     simp only [C.ow.sizeOf_spec,C.ot.sizeOf_spec]
     omega)
  | (have h1:=List.sizeOf_lt_of_mem ‹_ ∈ cells›
     simp only [C.bx.sizeOf_spec]
     omega)
theorem Rd.closed {w : World} {G G' : Nat → Prop} {v : Value} {c : C} (h : Rd w G v c) (hc : c.closed) : Rd w G' v c:=by
 cases h with
 | i h=>exact .i h
 | b=>exact .b
 | u h=>exact .u h
 | q h=>exact .q h
 | s h=>exact .s h
 | sl vals h1 h2 h3 h4 h5 h6 h7 =>
  simp only [C.closed] at hc
  subst hc
  exact .sl vals h1 h2 h3 (by simp) h5 (by simp) (by simp)
theorem OT.closed {w : World} {G G' : Nat → Prop} {v : Value} {c : C} {F : Nat → Prop} (h : OT w G v c F) : c.closed → OT w G' v c F:=by
 induction h with
 | sh h=>intro hc; exact .sh (h.closed hc)
 | jk h h2=>intro _; exact .jk h h2
 | ow0=>intro _; exact .ow0
 | ot0=>intro _; exact .ot0
 | ow vals h1 h2 h3 h4 h5 h6 h7 h8 h9 =>
  intro hc
  simp only [C.closed] at hc
  exact .ow vals h1 h2 h3 h4 h5 h6 h7 h8 (fun i r hr j c hj=>(h9 i r hr j c hj).closed (hc r (List.mem_of_getElem? hr) c (List.mem_of_getElem? hj)))
 | ot vals Fs h1 h2 h3 h4 h5 h6 h7 h8 h9 h10 _ ih =>
  intro hc
  simp only [C.closed] at hc
  exact .ot vals Fs h1 h2 h3 h4 h5 h6 h7 h8 h9 h10 (fun i r hr j c hj=>ih i r hr j c hj (hc r (List.mem_of_getElem? hr) c (List.mem_of_getElem? hj)))
 | bx vals Fs h1 h2 h3 h4 h5 h6 _ ih =>
  intro hc
  simp only [C.closed] at hc
  exact .bx vals Fs h1 h2 h3 h4 h5 h6 (fun j c hj=>ih j c hj (hc c (List.mem_of_getElem? hj)))
def AV.ya7 : AV → Prop
 | .c y=>y.closed
 | .agg l=>∀ c,c ∈ AV.cs l → c.closed
 | _=>False
def AV.closed : AV → Prop
 | .tup l=>∀ x,x ∈ l → x.ya7
 | x=>x.ya7
theorem yeC.closed {w : World} {G G' : Nat → Prop} {v : Value} {x : AV} {F : Nat → Prop} (h : yeC w G v x F) (hc : x.ya7) : yeC w G' v x F:=by
 cases x with
 | c c=>exact OT.closed h hc
 | agg l =>
  obtain ⟨arr,e,hs,Fs,h1,h2,h3⟩:=h
  refine ⟨arr,e,hs,Fs,fun j y hy=>?_,h2,h3⟩
  obtain ⟨u,c,rfl,hu,ho⟩:=h1 j y hy
  exact ⟨u,c,rfl,hu,ho.closed (hc c (List.mem_of_getElem? (ytE hy)))⟩
 | _=>exact h.elim
theorem AOk.closed {w : World} {G G' : Nat → Prop} {v : Value} {x : AV} {F : Nat → Prop} (h : AOk w G v x F) (hc : x.closed) : AOk w G' v x F:=by
 cases x with
 | tup l =>
  obtain ⟨arr,e,hs,Fs,h1,h2,h3⟩:=h
  exact ⟨arr,e,hs,Fs,fun j y hy=>let ⟨u,hu,ho⟩:=h1 j y hy; ⟨u,hu,ho.closed (hc y (List.mem_of_getElem? hy))⟩,h2,h3⟩
 | c c=>exact yeC.closed (x:=.c c) h hc
 | agg l=>exact yeC.closed (x:=.agg l) h hc
 | _=>exact h.elim
section
variable {P : Program} {f : Nat} {s : St} {d : Nat} {avs args : List AV} {res : AV} {K : St → Prop}
def St.take (s : St) (d : Nat) (res : AV) : St:=⟨upd d (res.unp d) s.env,yaL s.objs (res.ya6 d)⟩
theorem yQ (hp : ybh P f args res) (ho : ybD s avs args) (hc : res.closed) (hfr : yU s (res.ya6 d)) (hK : K (s.take d res)) : yfo P f avs (some d) s K:=by
 intro g a w blk h hd vs hvs hv
 obtain ⟨h1,h2⟩:=yeN ho
 refine (hp w (All g w) (fun b hb=>yAI h hb) vs (by omega) (fun j y hj=>?_)).mono ?_
 ·obtain ⟨x,hx,hxy⟩:=h2 j y hj
  obtain ⟨u,hu,hru⟩:=hv j x hx
  exact ⟨u,hu,yje (yly h (fun _ h=>h) hru hxy)⟩
 ·rintro e w' ⟨v,F,rfl,hb,hF,hr⟩
  obtain ⟨L',k1,k2⟩:=h.got (G:=noF) hb hF (fun b hb=>hb.elim) (hr.closed hc) hfr
  exact ⟨v,rfl,_,L',hK,k1.put hd k2⟩
theorem yjo (hp : ybh P f args res) (ho : ybD s avs args) (hdat : avs.all AV.ycJ = true) (hfr : yU s (res.ya6 d)) (hK : K (s.take d res)) : yfo P f avs (some d) s K:=by
 intro g a w blk h hd vs hvs hv
 obtain ⟨h1,h2⟩:=yeN ho
 refine (hp w (Good g s.objs blk w) (fun b hb=>yhz h hb) vs (by omega) (fun j y hj=>?_)).mono ?_
 ·obtain ⟨x,hx,hxy⟩:=h2 j y hj
  obtain ⟨u,hu,hru⟩:=hv j x hx
  exact ⟨u,hu,ynR (fun _ h=>h) hru (List.all_eq_true.1 hdat x (List.mem_of_getElem? hx)) hxy⟩
 ·rintro e w' ⟨v,F,rfl,hb,hF,hr⟩
  obtain ⟨L',k1,k2⟩:=h.got hb hF (fun b hb=>hb) hr hfr
  exact ⟨v,rfl,_,L',hK,k1.put hd k2⟩
end
end Go.Proofs.YtpiplmnecmkafaaGreat
namespace Go.Proofs.YtpiplmnecmkafaaGreat
open Go.RowKit
abbrev Lab:=List Nat × Bool
def AV.cl1 : AV → Bool
 | .any=>false
 | _=>true
def AV.cl2 : AV → Bool
 | .agg l | .fn _ l=>l.all AV.cl1
 | x=>x.cl1
def AV.cl : AV → Bool
 | .tup l=>l.all AV.cl2
 | x=>x.cl2
def AV.yhv (l : List Nat) (x : AV) : AV:=l.foldl (fun x i=>x.ybs i) x
theorem ygU {i : Nat} {x : AV} (h : i ∉ x.ybz) : x.ydj i = true:=by
 cases x <;> first | rfl | (simp [AV.ybz,AV.ya8] at h; simp [AV.ydj]; exact Ne.symm h)
theorem yxS {i : Nat} {x : AV} (h : i ∉ x.ycw) : x.ywZ i = true:=by
 cases x
 case agg l=>exact List.all_eq_true.2 fun y hy=>ygU fun hi=>h (List.mem_flatMap.2 ⟨y,hy,hi⟩)
 case fn f l=>exact List.all_eq_true.2 fun y hy=>ygU fun hi=>h (List.mem_flatMap.2 ⟨y,hy,hi⟩)
 all_goals (simp only [AV.ycw] at h; simp only [AV.ywZ]; exact ygU h)
theorem ykp {i : Nat} {x : AV} (h : i ∉ x.ybz) : x.ybs i = x:=by
 unfold AV.ybs; rw [if_pos (ygU h)]
theorem ykR {α : Type} {f : α → α} {l : List α} (h : ∀ x,x ∈ l → f x = x) : l.map f = l:=by
 rw [List.map_congr_left h]; simp
theorem yys {i : Nat} {x : AV} (h : i ∉ x.ids) : x.kill i = x:=by
 cases x
 case agg l =>
  simp only [AV.kill]
  rw [ykR fun y hy=>ykp fun hi=>h (List.mem_flatMap.2 ⟨y,hy,hi⟩)]
 case fn f l =>
  simp only [AV.kill]
  rw [if_pos (List.all_eq_true.2 fun y hy=>ygU fun hi=>h (List.mem_flatMap.2 ⟨y,hy,hi⟩))]
 case tup l =>
  simp only [AV.kill]
  rw [if_pos (List.all_eq_true.2 fun y hy=>yxS fun hi=>h (List.mem_flatMap.2 ⟨y,hy,hi⟩))]
 all_goals exact ykp h
theorem yiJ {i : Nat} {x : AV} (h : (x.ybs i).cl1 = true) : x.ybs i = x:=by
 unfold AV.ybs at h ⊢
 split
 ·rfl
 ·rename_i e; rw [if_neg e] at h; cases h
theorem yz4 {x : AV} (h : x.cl = true) : x.cl1 = true:=by cases x <;> first | rfl | exact h
theorem yvR {i : Nat} {x : AV} (h : (x.kill i).cl = true) : x.kill i = x:=by
 cases x
 case agg l =>
  simp only [AV.kill,AV.cl,AV.cl2,List.all_map,List.all_eq_true] at h ⊢
  rw [ykR fun y hy=>yiJ (h y hy)]
 case fn f l =>
  simp only [AV.kill] at h ⊢
  split
  ·rfl
  ·rename_i e; rw [if_neg e] at h; cases h
 case tup l =>
  simp only [AV.kill] at h ⊢
  split
  ·rfl
  ·rename_i e; rw [if_neg e] at h; cases h
 all_goals exact yiJ (yz4 h)
theorem ydT : ∀ {l : List Nat} {x : AV},(∀ i,i ∈ l → i ∉ x.ids) → x.kills l = x
 | [],_,_=>rfl
 | a :: l,x,h=>by
  show (x.kill a).kills l = x
  rw [yys (h a (by simp))]
  exact ydT fun i hi=>h i (by simp [hi])
theorem ygt : ∀ {l : List Nat} {x : AV},(x.kills l).cl = true → x.kills l = x
 | [],_,_=>rfl
 | a :: l,x,h=>by
  have h' : ((x.kill a).kills l).cl = true:=h
  have e:=ygt h'
  show (x.kill a).kills l = x
  rw [e] at h' ⊢
  exact yvR h'
theorem yiW : ∀ {l : List Nat} {x : AV},(∀ i,i ∈ l → i ∉ x.ybz) → x.yhv l = x
 | [],_,_=>rfl
 | a :: l,x,h=>by
  show (x.ybs a).yhv l = x
  rw [ykp (h a (by simp))]
  exact yiW fun i hi=>h i (by simp [hi])
theorem ylN : ∀ {l : List Nat} {x : AV},(x.yhv l).cl1 = true → x.yhv l = x
 | [],_,_=>rfl
 | a :: l,x,h=>by
  have h' : ((x.ybs a).yhv l).cl1 = true:=h
  have e:=ylN h'
  show (x.ybs a).yhv l = x
  rw [e] at h' ⊢
  exact yiJ h'
theorem ycd {x : AV} {i : Nat} (h : i ∈ x.ya8) : i ∈ x.ybz:=by cases x <;> first | exact h | cases h
theorem ydB {x : AV} {i : Nat} (h : i ∈ x.ybz) : i ∈ x.ids:=by
 cases x
 case agg l=>obtain ⟨y,hy,hi⟩:=List.mem_flatMap.1 h; exact List.mem_flatMap.2 ⟨y,hy,ycd hi⟩
 case fn f l=>obtain ⟨y,hy,hi⟩:=List.mem_flatMap.1 h; exact List.mem_flatMap.2 ⟨y,hy,ycd hi⟩
 all_goals first | exact h | cases h
theorem yid : ∀ (l : List Nat) (cells : List AV),(Obj.box cells).kills l = .box (cells.map (AV.yhv l))
 | [],cells=>by
  show Obj.box cells = .box (cells.map (AV.yhv []))
  rw [ykR (f:=AV.yhv []) fun x _=>rfl]
 | a :: l,cells=>by
  show (Obj.box (cells.map (AV.ybs a))).kills l = _
  rw [yid l,List.map_map]
  rfl
theorem yhR : ∀ (l : List Nat) {k : Nat} {rows : List (List C)},(Obj.row k rows).kills l = .row k rows
 | [],_,_=>rfl
 | a :: l,k,rows=>yhR l
theorem yUO : ∀ (l : List Nat) {kvs : List (Int × Int)},(Obj.mp kvs).kills l = .mp kvs
 | [],_=>rfl
 | a :: l,kvs=>yUO l
theorem yih : ∀ (l : List Nat) {k v : Nat} {rows : List (List C)},(Obj.tr k v rows).kills l = .tr k v rows
 | [],_,_,_=>rfl
 | a :: l,k,v,rows=>yih l
def Obj.bare : Obj → Prop
 | .box l=>∀ x,x ∈ l → x.ybz = []
 | _=>True
theorem yt0 {l : List Nat} {o : Obj} (h : o.bare) : o.kills l = o:=by
 cases o with
 | none=>exact Obj.ydP l
 | box cells=>rw [yid,ykR fun x hx=>yiW fun i _=>by rw [h x hx]; simp]
 | mp kvs=>exact yUO l
 | row k rows=>exact yhR l 
 | tr k v rows=>exact yih l
def yko (Kl : List Nat) (U : List (Nat × Obj)) (o : Obj) (i : Nat) : Obj :=
 match U.find? (fun p=>p.1 == i) with
 | some p=>p.2
 | none=>if i ∈ Kl then .none else o.kills Kl
def St.act (s : St) (Kl : List Nat) (U : List (Nat × Obj)) (d : Option Nat) (v : AV) : St :=
 (⟨fun t=>(s.env t).kills Kl,fun i=>yko Kl U (s.objs i) i⟩ : St).put d v
theorem ylG {Kl : List Nat} {U : List (Nat × Obj)} {o : Obj} {i : Nat} (h1 : i ∉ Kl) (h2 : ∀ p,p ∈ U → p.1 ≠ i) : yko Kl U o i = o.kills Kl:=by
 unfold yko
 have : U.find? (fun p=>p.1 == i) = none:=by
  rw [List.find?_eq_none]
  intro p hp
  simpa using h2 p hp
 rw [this]
 simp [h1]
theorem St.ext' {s s' : St} (he : ∀ t,s.env t = s'.env t) (ho : ∀ i,s.objs i = s'.objs i) : s = s':=by
 obtain ⟨e,o⟩:=s
 obtain ⟨e',o'⟩:=s'
 congr
 ·exact funext he
 ·exact funext ho
theorem ydi {s : St} {d : Option Nat} {v : AV} {t : Nat} (h : d ≠ some t) : (s.put d v).env t = s.env t:=by
 cases d with
 | none=>rfl
 | some e=>show upd e v s.env t = _; rw [yaq,if_neg (fun h'=>h (by rw [h']))]
theorem put_eq {s : St} {d : Option Nat} {v : AV} {t : Nat} (h : d = some t) : (s.put d v).env t = v:=by
 subst h; show upd t v s.env t = _; rw [yaq,if_pos rfl]
theorem yaS {s : St} {d : Option Nat} {v : AV} : (s.put d v).objs = s.objs:=by cases d <;> rfl
theorem yf3 {s : St} {Kl : List Nat} {U : List (Nat × Obj)} {d : Option Nat} {v : AV} {t : Nat} (h : d ≠ some t) : (s.act Kl U d v).env t = (s.env t).kills Kl:=ydi h
theorem ysX {s : St} {Kl : List Nat} {U : List (Nat × Obj)} {d : Option Nat} {v : AV} {t : Nat} (h : d = some t) : (s.act Kl U d v).env t = v:=put_eq h
theorem yfs {s : St} {Kl : List Nat} {U : List (Nat × Obj)} {d : Option Nat} {v : AV} {i : Nat} : (s.act Kl U d v).objs i = yko Kl U (s.objs i) i:=by
 unfold St.act; rw [yaS]
section
variable {P : Program} {ev ev' : X → AV} {ob ob' : Nat → Obj}
theorem ygw {op : IOp} (hq : op.reads.isSome = true) {k : AV → Prop} (hx : ∀ x,x ∈ op.xs → ev' x = ev x) (h : yaO P op ev ob k) : yaO P op ev' ob k:=by
 have ml : ∀ xs : List X,(∀ x,x ∈ xs → ev' x = ev x) → xs.map ev' = xs.map ev:=fun xs h=>List.map_congr_left h
 have mo : ∀ x : Option X,(∀ y,y ∈ x.toList → ev' y = ev y) → x.map ev' = x.map ev:=by
  intro x h
  cases x with
  | none=>rfl
  | some x=>simp only [Option.map_some]; rw [h x (by simp)]
 cases op <;> simp only [IOp.xs,List.mem_cons,List.not_mem_nil,or_false,forall_eq_or_imp,forall_eq] at hx <;> simp only [yaO] at h ⊢
 all_goals first
  | exact h
  | (rw [hx.1,hx.2.1,hx.2.2]; exact h)
  | (rw [hx.1,hx.2]; exact h)
  | (rw [hx]; exact h)
  | (rw [ml _ hx]; exact h)
  | (rw [hx.1,ml _ hx.2]; exact h)
  | (rw [hx.1,mo _ (fun y hy=>hx.2 y (by simp [hy])),mo _ (fun y hy=>hx.2 y (by simp [hy]))]; exact h)
  | (rw [hx.1,mo _ (fun y hy=>hx.2 y (by simp [hy])),mo _ (fun y hy=>hx.2 y (by simp [hy])),mo _ (fun y hy=>hx.2 y (by simp [hy]))]; exact h)
  | (rw [← yfj (s:=⟨fun t=>ev (.t t),ob⟩)]
     ·exact h
     ·intro x hx'
      cases x with
      | t n=>exact (hx (.t n) hx').symm
      | k a=>rfl)
  | (rename_i n x
     match n,hq with
     | 0,_=>simp only at h ⊢; rw [hx]; exact h
     | 1,_=>simp only at h ⊢; rw [hx]; exact h
     | 3,_=>simp only at h ⊢; rw [hx]; exact h)
def yjY (v : AV) (o o' : Obj) : Prop :=
 match o with
 | .box l=>∃ l',o' = .box l' ∧ l'.length = l.length ∧ ∀ (j : Nat) (x : AV),l[j]? = some x → (v = x ∨ ∃ m,v = .agg m ∧ x ∈ m) → l'[j]? = some x
 | o=>o' = o
theorem yjY.refl (v : AV) (o : Obj) : yjY v o o:=by
 cases o with
 | box l=>exact ⟨l,rfl,rfl,fun _ _ h _=>h⟩
 | _=>rfl
theorem yjY.kills {v : AV} {l : List Nat} {o : Obj} (h : ∀ i,i ∈ l → i ∉ v.ids) : yjY v o (o.kills l):=by
 cases o with
 | none=>exact Obj.ydP l
 | mp kvs=>exact yUO l
 | row k rows=>exact yhR l 
 | tr k u rows=>exact yih l
 | box cells =>
  refine ⟨_,yid l cells,by simp,fun j x hx hv=>?_⟩
  rw [List.getElem?_map,hx,Option.map_some,yiW]
  intro i hi hc
  refine h i hi ?_
  rcases hv with rfl | ⟨m,rfl,hm⟩
  ·exact ydB hc
  ·exact List.mem_flatMap.2 ⟨x,hm,hc⟩
theorem yjY.yEh {v : AV} {l : List Nat} {o : Obj} (h : v.cl = true) : yjY v (o.kills l) o:=by
 cases o with
 | none=>rw [Obj.ydP]; rfl
 | mp kvs=>rw [yUO]; rfl
 | row k rows=>rw [yhR]; rfl 
 | tr k u rows=>rw [yih]; rfl
 | box cells =>
  rw [yid]
  refine ⟨_,rfl,by simp,fun j x hx hv=>?_⟩
  rw [List.getElem?_map,Option.map_eq_some_iff] at hx
  obtain ⟨y,hy,rfl⟩:=hx
  rw [hy,ylN]
  rcases hv with rfl | ⟨m,rfl,hm⟩
  ·exact yz4 h
  ·exact List.all_eq_true.1 h _ hm
theorem ytt {op : IOp} (hq : op.reads.isSome = true) (hc : op.yaf = false) {v : AV} (hob : ∀ x,x ∈ op.xs → ∀ i,i ∈ (ev x).ids → yjY v (ob i) (ob' i)) (h : ∀ k : AV → Prop,k v → yaO P op ev ob k) : ∀ k : AV → Prop,k v → yaO P op ev ob' k:=by
 intro k hk
 have hv:=h (fun r=>r = v) rfl
 have hkk:=h k hk
 have e1 : ∀ id,(ycF ob).ob id = ob id:=fun _=>rfl
 have e2 : ∀ id,(ycF ob').ob id = ob' id:=fun _=>rfl
 cases op
 case idx n x i =>
  simp only [yaO] at hkk hv ⊢
  have hx:=hob x (by simp [IOp.xs])
  revert hkk hx
  generalize ev x = a; generalize ev i = b
  intro hkk hx
  unfold yiC at hkk ⊢
  split at hkk <;> first | exact hkk | skip
  rename_i id ver i j k' m n
  have hr:=hx id (by simp [AV.ids,AV.ycw,AV.ybz,AV.ya8])
  rw [e1] at hkk
  simp only [e2]
  cases ho : ob id <;> rw [ho] at hkk hr <;> first | exact hkk.elim | skip
  have hr' : ob' id = _:=hr
  rw [hr']; exact hkk
 case fld off x =>
  simp only [yaO] at hkk hv ⊢
  have hx:=hob x (by simp [IOp.xs])
  revert hkk hx
  generalize ev x = a
  intro hkk hx
  unfold yjb at hkk ⊢
  split at hkk <;> first | exact hkk | skip
  rename_i id ver i j k' i' o
  have hr:=hx id (by simp [AV.ids,AV.ycw,AV.ybz,AV.ya8])
  rw [e1] at hkk
  simp only [e2]
  cases ho : ob id <;> rw [ho] at hkk hr <;> first | exact hkk.elim | skip
  have hr' : ob' id = _:=hr
  rw [hr']; exact hkk
 case len x =>
  simp only [yaO] at hkk hv ⊢
  have hx:=hob x (by simp [IOp.xs])
  revert hkk hx
  generalize ev x = a
  intro hkk hx
  unfold yhK at hkk ⊢
  split at hkk <;> first | exact hkk | skip
  rename_i id ver i j k' n
  have hr:=hx id (by simp [AV.ids,AV.ycw,AV.ybz,AV.ya8])
  rw [e1] at hkk
  simp only [e2]
  cases ho : ob id <;> rw [ho] at hkk hr <;> first | exact hkk.elim | skip
  have hr' : ob' id = _:=hr
  rw [hr']; exact hkk
 case sla m n x i =>
  simp only [yaO] at hkk hv ⊢
  have hx:=hob x (by simp [IOp.xs])
  revert hkk hx
  generalize ev x = a; generalize ev i = b
  intro hkk hx
  unfold ymA at hkk ⊢
  split at hkk <;> first | exact hkk.elim | skip
  rename_i id k' j h
  have hr:=hx id (by simp [AV.ids,AV.ycw,AV.ybz,AV.ya8])
  rw [e1] at hkk
  simp only [e2]
  cases ho : ob id <;> rw [ho] at hkk hr <;> first | exact hkk.elim | skip
  have hr' : ob' id = _:=hr
  rw [hr']; exact hkk
 case ld1 x =>
  simp only [yaO] at hkk hv ⊢
  have hx:=hob x (by simp [IOp.xs])
  revert hkk hv hx
  generalize ev x = a
  intro hv hkk hx
  unfold yhV at hkk hv ⊢
  split at hkk
  ·rename_i id o
   have hr:=hx id (by simp [AV.ids,AV.ycw,AV.ybz,AV.ya8])
   simp only [e1] at hkk hv
   simp only [e2]
   cases ho : ob id <;> rw [ho] at hkk hr hv <;> first | exact hkk.elim | skip
   rename_i cells
   obtain ⟨l',e3,_,e4⟩:=hr
   rw [e3]
   simp only at hv hkk ⊢
   cases hc : cells[o]? <;> rw [hc] at hv
   ·exact hv.elim
   ·rename_i u
    have hu : u = v:=hv
    subst hu
    rw [e4 o u hc (.inl rfl)]
    exact hk
  ·rename_i id k' i o
   have hr:=hx id (by simp [AV.ids,AV.ycw,AV.ybz,AV.ya8])
   rw [e1] at hkk
   simp only [e2]
   cases ho : ob id <;> rw [ho] at hkk hr <;> first | exact hkk.elim | skip
   all_goals
    have hr' : ob' id = _:=hr
    rw [hr']; exact hkk
  ·rename_i id ver i j k' i' o
   have hr:=hx id (by simp [AV.ids,AV.ycw,AV.ybz,AV.ya8])
   rw [e1] at hkk
   simp only [e2]
   cases ho : ob id <;> rw [ho] at hkk hr <;> first | exact hkk.elim | skip
   all_goals
    have hr' : ob' id = _:=hr
    rw [hr']; exact hkk
  ·exact hkk
  ·exact hkk.elim
 case ldn n x =>
  simp only [yaO] at hkk hv ⊢
  have hx:=hob x (by simp [IOp.xs])
  revert hkk hv hx
  generalize ev x = a
  intro hv hkk hx
  unfold yhX at hkk hv ⊢
  split at hkk
  ·rename_i id o
   have hr:=hx id (by simp [AV.ids,AV.ycw,AV.ybz,AV.ya8])
   simp only [e1] at hkk hv
   simp only [e2]
   cases ho : ob id <;> rw [ho] at hkk hr hv <;> first | exact hkk.elim | skip
   rename_i cells
   obtain ⟨l',e3,e5,e4⟩:=hr
   rw [e3]
   simp only at hv hkk ⊢
   obtain ⟨h1,h2⟩:=hv
   refine ⟨by omega,?_⟩
   have : (l'.drop o).take n = (cells.drop o).take n:=by
    apply List.ext_getElem?
    intro q
    rw [List.getElem?_take,List.getElem?_take]
    split
    ·rename_i hq
     rw [List.getElem?_drop,List.getElem?_drop]
     have hlt : o + q < cells.length:=by omega
     have hg:=List.getElem?_eq_getElem hlt
     rw [hg]
     refine e4 _ _ hg (.inr ⟨_,h2.symm,?_⟩)
     refine List.mem_of_getElem? (i:=q) ?_
     rw [List.getElem?_take,if_pos hq,List.getElem?_drop]; exact hg
    ·rfl
   rw [this]
   exact hkk.2
  ·rename_i id k' i o
   have hr:=hx id (by simp [AV.ids,AV.ycw,AV.ybz,AV.ya8])
   rw [e1] at hkk
   simp only [e2]
   cases ho : ob id <;> rw [ho] at hkk hr <;> first | exact hkk.elim | skip
   all_goals
    have hr' : ob' id = _:=hr
    rw [hr']; exact hkk
  ·rename_i id ver i j k' i' o
   have hr:=hx id (by simp [AV.ids,AV.ycw,AV.ybz,AV.ya8])
   rw [e1] at hkk
   simp only [e2]
   cases ho : ob id <;> rw [ho] at hkk hr <;> first | exact hkk.elim | skip
   all_goals
    have hr' : ob' id = _:=hr
    rw [hr']; exact hkk
  ·exact hkk
  ·exact hkk.elim
 case cvt n x =>
  match n,hq with
  | 0,_=>exact hkk
  | 1,_=>exact hkk
  | 3,_=>exact hkk
 case bld zs ps =>
  simp only [yaO] at hkk ⊢
  rw [← yfj (s:=⟨fun t=>ev (.t t),ob⟩)]
  ·exact hkk
  ·intro x _; cases x <;> rfl
 case call f xs=>cases hc
 case callv f xs=>cases hc
 all_goals first | exact hkk | (simp [IOp.reads] at hq)
theorem yoP {x y : AV} (h : ∀ i,i ∈ x.ya8 → ob' i = ob i) (hh : out1 (ycF ob) x y) : out1 (ycF ob') x y:=by
 have e1 : ∀ id,(ycF ob).ob id = ob id:=fun _=>rfl
 have e2 : ∀ id,(ycF ob').ob id = ob' id:=fun _=>rfl
 cases x <;> simp only [out1,e1,e2] at hh ⊢ <;> first | exact hh | (rw [h _ (by simp [AV.ya8])]; exact hh)
theorem ygk : ∀ {l l' : List AV},(∀ x,x ∈ l → ∀ i,i ∈ x.ya8 → ob' i = ob i) → yeH (ycF ob) l l' → yeH (ycF ob') l l'
 | [],[],_,_=>trivial
 | [],_ :: _,_,h=>h.elim
 | _ :: _,[],_,h=>h.elim
 | x :: l,y :: l',hx,h=>⟨yoP (hx x (by simp)) h.1,ygk (fun z hz=>hx z (by simp [hz])) h.2⟩
theorem yuU {E : Nat → Prop} (hob : ∀ i,¬ E i → ob' i = ob i) (hcell : ∀ i cells,ob i = .box cells → ∀ x,x ∈ cells → ∀ j,j ∈ x.ya8 → ¬ E j) {x y : AV} (h : ∀ j,j ∈ x.ybz → ¬ E j) (hh : ydb (ycF ob) x y) : ydb (ycF ob') x y:=by
 have e1 : ∀ id,(ycF ob).ob id = ob id:=fun _=>rfl
 have e2 : ∀ id,(ycF ob').ob id = ob' id:=fun _=>rfl
 have ne : ∀ {z : AV},(∀ j,j ∈ z.ya8 → ¬ E j) → ∀ i,i ∈ z.ya8 → ob' i = ob i:=fun hz i hi=>hob i (hz i hi)
 cases x
 case agg l =>
  cases y <;> simp only [ydb] at hh ⊢
  exact ygk (fun z hz=>ne fun j hj=>h j (List.mem_flatMap.2 ⟨z,hz,hj⟩)) hh
 case fn f l =>
  cases y <;> simp only [ydb] at hh ⊢
  exact ⟨hh.1,ygk (fun z hz=>ne fun j hj=>h j (List.mem_flatMap.2 ⟨z,hz,hj⟩)) hh.2⟩
 case box id off =>
  have hid : ob' id = ob id:=hob id (h id (by simp [AV.ybz,AV.ya8]))
  simp only [ydb,e1,e2] at hh ⊢
  rw [hid]
  cases ho : ob id <;> rw [ho] at hh <;> first | exact hh.elim | skip
  rename_i cells
  simp only at hh ⊢
  split at hh
  ·exact ygk (fun z hz=>ne (hcell id cells ho z (List.mem_of_mem_drop hz))) hh
  ·exact hh.elim
 all_goals exact yoP (y:=y) (ne fun j hj=>h j (ycd hj)) hh
theorem ycO {E : Nat → Prop} (hob : ∀ i,¬ E i → ob' i = ob i) (hcell : ∀ i cells,ob i = .box cells → ∀ x,x ∈ cells → ∀ j,j ∈ x.ya8 → ¬ E j) : ∀ {l l' : List AV},(∀ x,x ∈ l → ∀ j,j ∈ x.ybz → ¬ E j) → ybD (ycF ob) l l' → ybD (ycF ob') l l'
 | [],[],_,_=>trivial
 | [],_ :: _,_,h=>h.elim
 | _ :: _,[],_,h=>h.elim
 | x :: l,y :: l',hx,h=>⟨yuU hob hcell (hx x (by simp)) h.1,ycO hob hcell (fun z hz=>hx z (by simp [hz])) h.2⟩
theorem yo9 {op : IOp} (hq : op.reads.isSome = true) {E : Nat → Prop} (hob : ∀ i,¬ E i → ob' i = ob i) (hcell : ∀ i cells,ob i = .box cells → ∀ x,x ∈ cells → ∀ j,j ∈ x.ya8 → ¬ E j) {v : AV} (hx : ∀ x,x ∈ op.xs → ∀ j,j ∈ (ev x).ids → ¬ E j) (h : ∀ k : AV → Prop,k v → yaO P op ev ob k) : ∀ k : AV → Prop,k v → yaO P op ev ob' k:=by
 cases hc : op.yaf with
 | false=>exact ytt hq hc (fun x hx' i hi=>by rw [hob i (hx x hx' i hi)]; exact yjY.refl _ _) h
 | true =>
  intro k hk
  have hkk:=h k hk
  cases op <;> first | cases hc | skip
  ·simp only [yaO] at hkk ⊢
   obtain ⟨args,res,h1,h2,h3⟩:=hkk
   refine ⟨args,res,h1,ycO hob hcell (fun y hy=>?_) h2,h3⟩
   obtain ⟨x,hx',rfl⟩:=List.mem_map.1 hy
   exact fun j hj=>hx x hx' j (ydB hj)
  ·rename_i f xs
   simp only [yaO] at hkk ⊢
   have hf:=hx f (by simp [IOp.xs])
   revert hkk hf
   generalize ev f = fv
   intro hkk hf
   unfold yhG at hkk ⊢
   split at hkk
   ·rename_i f' l
    obtain ⟨h0,args,res,h1,h2,h3⟩:=hkk
    refine ⟨h0,args,res,h1,ycO hob hcell (fun y hy=>?_) h2,h3⟩
    rcases List.mem_append.1 hy with hy | hy
    ·obtain ⟨x,hx',rfl⟩:=List.mem_map.1 hy
     exact fun j hj=>hx x (by simp [IOp.xs,hx']) j (ydB hj)
    ·exact fun j hj=>hf j (List.mem_flatMap.2 ⟨y,hy,hj⟩)
   ·exact hkk.elim
theorem yvg {op : IOp} (hq : op.reads.isSome = true) {e : Nat} (hob : ∀ i,i ≠ e → ob' i = ob i) (hcell : ∀ i cells,ob i = .box cells → ∀ x,x ∈ cells → e ∉ x.ya8) {v : AV} (hx : ∀ x,x ∈ op.xs → e ∉ (ev x).ids) (h : ∀ k : AV → Prop,k v → yaO P op ev ob k) : ∀ k : AV → Prop,k v → yaO P op ev ob' k :=
 yo9 hq (E:=fun i=>i = e) hob (fun i cells hi x hx' j hj h=>hcell i cells hi x hx' (h ▸ hj)) (fun x hx' j hj h=>hx x hx' (h ▸ hj)) h
end
end Go.Proofs.YtpiplmnecmkafaaGreat
namespace Go.Proofs.YtpiplmnecmkafaaGreat
open Go.RowKit
def AV.ymE : AV → Bool
 | .sub _ _ _ _ _ _=>false
 | _=>true
def yoJ (op : IOp) (s : St) : Bool :=
 match op with
 | .mv _=>true
 | .len x=>(s.ev x).ymE
 | _=>false
def ywl (a : AV) (l : List Nat) : List Nat:=if a.ymE then l else []
def lw (l : List Nat) : List Nat:=l.map fun i=>2 * i
def lk (l : List Nat) : List Nat:=l.map fun i=>2 * i + 1
theorem ysW {l : List Nat} {j : Nat} : 2 * j ∈ lw l ↔ j ∈ l:=by
 unfold lw; rw [List.mem_map]
 exact ⟨fun ⟨i,hi,e⟩=>by have : i = j:=by omega
                         exact this ▸ hi,fun h=>⟨j,h,rfl⟩⟩
theorem yqi {l : List Nat} {j : Nat} : 2 * j + 1 ∈ lk l ↔ j ∈ l:=by
 unfold lk; rw [List.mem_map]
 exact ⟨fun ⟨i,hi,e⟩=>by have : i = j:=by omega
                         exact this ▸ hi,fun h=>⟨j,h,rfl⟩⟩
theorem yER {l : List Nat} {j : Nat} : ¬ 2 * j + 1 ∈ lw l:=by
 unfold lw; rw [List.mem_map]
 rintro ⟨i,_,e⟩; omega
theorem yBH {l : List Nat} {j : Nat} : ¬ 2 * j ∈ lk l:=by
 unfold lk; rw [List.mem_map]
 rintro ⟨i,_,e⟩; omega
def yeF (i : Ins) (s : St) (v : AV) : Lab:=((if yoJ i.op s then [] else lw ((i.op.xs.map s.ev).flatMap AV.ids)) ++ lk ((v :: i.op.xs.map s.ev).flatMap AV.ids),(v :: i.op.xs.map s.ev).all AV.cl)
def yyb (i : Ins) : Lab:=(lw i.d.toList ++ lk i.d.toList,true)
def yl0 (s : St) : AV → Bool
 | .row id _ _ _=>(s.ob id).tree
 | _=>false
def wOf (op : IOp) (s : St) : List Nat :=
 match op with
 | .st1 x v | .stn _ x v=>(s.ev x).ids ++ (if yl0 s (s.ev x) then (s.ev v).ids else [])
 | .app k _ x y=>(s.ev x).ids ++ (match yaF s k (s.ev y) with | some _=>[] | none=>(s.ev y).ids)
 | .cp _ x _=>(s.ev x).ids
 | .bsl _ xs=>(xs.map s.ev).flatMap AV.ids
 | _=>[]
def kOf (op : IOp) (s : St) : List Nat :=
 match op with
 | .st1 x v | .stn _ x v=>if yl0 s (s.ev x) then (s.ev v).ids else []
 | .cp _ _ _=>[]
 | .app k b x y=>ywl (s.ev x) (wOf (.app k b x y) s)
 | op=>wOf op s
def yze (op : IOp) (d : Option Nat) (s : St) : List Nat:=lw (wOf op s ++ d.toList) ++ lk (kOf op s ++ d.toList)
def ysi (i : Ins) (s : St) : Lab:=(yze i.op i.d s,true)
def ysq (k : Nat) (xs : List AV) (s : St) (d : Option Nat) (K : St → Prop) : Prop :=
 match AV.rowsOf xs with
 | some rows=>(∀ r ∈ rows,r.length = k) ∧ newP s d (.row k rows) (fun d=>.own d k rows.length) K
 | none=>False
def yfk (P : Program) (d : Option Nat) (op : IOp) (s : St) (K : St → Prop) : Prop :=
 match op with
 | .bsl k xs=>ysq k (xs.map s.ev) s d K
 | op=>yV P d op s K
section
variable {P : Program} {s : St} {K : St → Prop}
theorem ywb {op : IOp} {d : Option Nat} (h : yfk P d op s K) : yV P d op s K:=by
 cases op
 case bsl k xs =>
  simp only [yfk,ysq] at h
  simp only [yV,ynF]
  cases hr : AV.rowsOf (xs.map s.ev) <;> rw [hr] at h
  ·exact h.elim
  ·exact h
 all_goals exact h
theorem yAv {x : AV} {c : C} (h : x.toC = some c) : x.ya8 = [] ∧ x.cl1 = true:=by
 cases x <;> first | exact ⟨rfl,rfl⟩ | cases h
theorem ymy : ∀ {l : List AV} {cs : List C},AV.yeD l = some cs → ∀ x,x ∈ l → ∃ c,x.toC = some c
 | [],_,_,x,hx=>by cases hx
 | y :: l,cs,h,x,hx=>by
  simp only [AV.yeD] at h
  split at h
  ·rename_i c1 cs1 h1 h2
   rcases List.mem_cons.1 hx with rfl | hx
   ·exact ⟨_,h1⟩
   ·exact ymy h2 x hx
  ·cases h
theorem yx1 {x : AV} {c : C} (h : x.toC = some c) : x.ids = [] ∧ x.cl = true:=by
 cases x <;> first | exact ⟨rfl,rfl⟩ | cases h
theorem yvx {x : AV} {r : List C} (h : x.rowOf = some r) : x.ids = [] ∧ x.cl = true:=by
 unfold AV.rowOf at h
 cases x
 case agg l =>
  have hb:=ymy h
  refine ⟨?_,?_⟩
  ·show l.flatMap AV.ybz = []
   rw [List.flatMap_eq_nil_iff]
   intro y hy
   obtain ⟨c,hc⟩:=hb y hy
   cases y <;> first | rfl | cases hc
  ·exact List.all_eq_true.2 fun y hy=>let ⟨c,hc⟩:=hb y hy; (yAv hc).2
 all_goals
  obtain ⟨c,hc⟩:=ymy h _ (List.mem_singleton.2 rfl)
  exact yx1 hc
theorem ym3 : ∀ {l : List AV} {rows : List (List C)},AV.rowsOf l = some rows → ∀ x,x ∈ l → x.ids = [] ∧ x.cl = true
 | [],_,_,x,hx=>by cases hx
 | y :: l,cs,h,x,hx=>by
  simp only [AV.rowsOf] at h
  split at h
  ·rename_i c1 cs1 h1 h2
   rcases List.mem_cons.1 hx with rfl | hx
   ·exact yvx h1
   ·exact ym3 h2 x hx
  ·cases h
theorem ydr {d : Option Nat} {o : Obj} {v : Nat → AV} (h : newP s d o v K) : ∃ e,d = some e ∧ s.objs e = .none ∧ K ⟨upd e (v e) s.env,upd e o s.objs⟩:=by
 unfold newP at h
 split at h
 ·obtain ⟨h1,h2⟩:=h
  exact ⟨_,rfl,ydG h1,h2⟩
 ·exact h.elim
theorem yfR {e : Nat} {o : Obj} {v : Nat → AV} (h0 : s.objs e = .none) (h : K ⟨upd e (v e) s.env,upd e o s.objs⟩) : newP s (some e) o v K :=
 ⟨by show (s.objs e).isNone = true; rw [h0]; rfl,h⟩
theorem yBk {op : IOp} (ho : op.isMk = true) {d : Option Nat} (h : yfk P d op s K) : ∃ e o v,d = some e ∧ s.objs e = .none ∧ K ⟨upd e v s.env,upd e o s.objs⟩ ∧ (o.bare ∧ o ≠ .none) ∧ (∀ j,j ∈ v.ids → j = e) ∧
 (∀ x,x ∈ op.xs → (s.ev x).ids = [] ∧ (s.ev x).cl = true) ∧ ∀ s2 : St,(∀ x,x ∈ op.xs → s2.ev x = s.ev x) → s2.objs e = .none → ∀ K2 : St → Prop,K2 ⟨upd e v s2.env,upd e o s2.objs⟩ → yfk P d op s2 K2:=by
 cases op <;> first | cases ho | skip
 case alloc zs =>
  obtain ⟨e,rfl,h0,hK⟩:=ydr h
  refine ⟨e,_,_,rfl,h0,hK,⟨?_,by simp⟩,?_,fun x hx=>(by cases hx),fun s2 _ h2 K2 hK2=>(show newP s2 (some e) (.box zs) (fun d=>.box d 0) K2 from yfR h2 hK2)⟩
  ·intro x hx
   have h1 : x.ids = []:=by
    have : zs.all (fun z=>z.ids.isEmpty) = true:=ho
    have:=List.all_eq_true.1 this x hx
    simpa using this
   rw [List.eq_nil_iff_forall_not_mem]
   intro i hi
   have:=ydB hi
   rw [h1] at this
   cases this
  ·intro j hj; simpa [AV.ids,AV.ycw,AV.ybz,AV.ya8] using hj
 case alloca k n z =>
  obtain ⟨e,rfl,h0,hK⟩:=ydr h
  exact ⟨e,_,_,rfl,h0,hK,⟨trivial,by simp⟩,fun j hj=>by simpa [AV.ids,AV.ycw,AV.ybz,AV.ya8] using hj,fun x hx=>(by cases hx),fun s2 _ h2 K2 hK2=>(show newP s2 (some e) (.row k (List.replicate n z)) (fun d=>.row d k 0 0) K2 from yfR h2 hK2)⟩
 case mks k b z l c =>
  simp only [yfk,yV] at h
  have h':=h
  revert h'
  generalize hl : s.ev l = vl; generalize hc : s.ev c = vc
  intro h'
  unfold ysJ at h'
  split at h'
  ·rename_i n m
   obtain ⟨h1,h2,h3,h4⟩:=h'
   rcases h4 with h4 | h4
   case inr =>
    split at h4
    case h_2=>exact h4.elim
    obtain ⟨e,rfl,h0,hK⟩:=ydr h4
    refine ⟨e,_,_,rfl,h0,hK,⟨trivial,by simp⟩,fun j hj=>by simpa [AV.ids,AV.ycw,AV.ybz,AV.ya8] using hj,?_,fun s2 hx h5 K2 hK2=>?_⟩
    ·intro x hx
     simp only [IOp.xs,List.mem_cons,List.not_mem_nil,or_false] at hx
     rcases hx with rfl | rfl
     ·rw [hl]; exact ⟨rfl,rfl⟩
     ·rw [hc]; exact ⟨rfl,rfl⟩
    ·simp only [yfk,yV]
     rw [hx l (by simp [IOp.xs]),hx c (by simp [IOp.xs]),hl,hc]
     exact ⟨h1,h2,h3,.inr (yfR h5 hK2)⟩
   obtain ⟨e,rfl,h0,hK⟩:=ydr h4
   refine ⟨e,_,_,rfl,h0,hK,⟨trivial,by simp⟩,fun j hj=>by simpa [AV.ids,AV.ycw,AV.ybz,AV.ya8] using hj,?_,fun s2 hx h5 K2 hK2=>?_⟩
   ·intro x hx
    simp only [IOp.xs,List.mem_cons,List.not_mem_nil,or_false] at hx
    rcases hx with rfl | rfl
    ·rw [hl]; exact ⟨rfl,rfl⟩
    ·rw [hc]; exact ⟨rfl,rfl⟩
   ·simp only [yfk,yV]
    rw [hx l (by simp [IOp.xs]),hx c (by simp [IOp.xs]),hl,hc]
    exact ⟨h1,h2,h3,.inl (yfR h5 hK2)⟩
  ·exact h'.elim
 case bsl k xs =>
  simp only [yfk,ysq] at h
  cases hr : AV.rowsOf (xs.map s.ev) <;> rw [hr] at h
  ·exact h.elim
  ·rename_i rows
   obtain ⟨h1,h2⟩:=h
   obtain ⟨e,rfl,h0,hK⟩:=ydr h2
   refine ⟨e,_,_,rfl,h0,hK,⟨trivial,by simp⟩,fun j hj=>by simpa [AV.ids,AV.ycw,AV.ybz,AV.ya8] using hj,fun x hx=>ym3 hr _ (List.mem_map_of_mem hx),fun s2 hx h5 K2 hK2=>?_⟩
   simp only [yfk,ysq]
   rw [List.map_congr_left (l:=xs) hx,hr]
   exact ⟨h1,yfR h5 hK2⟩
theorem yb0 {id : Nat} {o : Obj} {v : AV} {d : Option Nat} : (s.yat id o).put d v = s.act [] [(id,o)] d v:=by
 unfold St.act
 congr 1
 refine St.ext' (fun t=>rfl) fun i=>?_
 show upd id o s.objs i = yko _ _ _ i
 unfold yko
 rw [yaq]
 by_cases e : i = id
 ·subst e; simp
 ·have e2 : ¬ id = i:=fun h=>e h.symm
  simp [e,e2,Obj.kills]
theorem ych {ids : List Nat} {id : Nat} {o : Obj} {v : AV} {d : Option Nat} : ((s.drops ids).yat id o).put d v = s.act ids [(id,o)] d v:=by
 unfold St.act
 congr 1
 refine St.ext' (fun t=>St.yjz ids s t) fun i=>?_
 show upd id o (s.drops ids).objs i = yko _ _ _ i
 unfold yko
 rw [yaq,St.ydR]
 by_cases e : i = id
 ·subst e; simp
 ·have e2 : ¬ id = i:=fun h=>e h.symm
  simp [e,e2]
theorem yrY {id : Nat} {o : Obj} {v : AV} {d : Option Nat} : (s.renew id o).put d v = s.act [id] [(id,o)] d v:=by
 unfold St.act
 congr 1
 refine St.ext' (fun t=>rfl) fun i=>?_
 show upd id o (fun i=>(s.objs i).kill id) i = yko _ _ _ i
 unfold yko
 rw [yaq]
 by_cases e : i = id
 ·subst e; simp
 ·have e2 : ¬ id = i:=fun h=>e h.symm
  simp [e,e2,Obj.kills]
theorem yjn {e : Nat} {o : Obj} {v : AV} : (⟨upd e v s.env,upd e o s.objs⟩ : St) = s.act [] [(e,o)] (some e) v:=by
 rw [← yb0]; rfl
theorem ylk {e id : Nat} {o : Obj} {v : AV} : (⟨upd e v (s.drop id).env,upd e o (s.drop id).objs⟩ : St) = s.act [id] [(e,o)] (some e) v:=by
 have:=ych (s:=s) (ids:=[id]) (id:=e) (o:=o) (v:=v) (d:=some e)
 rw [← this]; rfl
theorem yi5 {id idy : Nat} {o : Obj} {v : AV} {d : Option Nat} : ((s.drop idy).renew id o).put d v = s.act [idy,id] [(id,o)] d v:=by
 unfold St.act
 congr 1
 refine St.ext' (fun t=>rfl) fun i=>?_
 show upd id o (fun i=>((s.drop idy).objs i).kill id) i = yko _ _ _ i
 unfold yko
 rw [yaq]
 by_cases e : i = id
 ·subst e; simp
 ·have e2 : ¬ id = i:=fun h=>e h.symm
  rw [if_neg e]
  simp only [List.find?_cons,List.find?_nil,beq_eq_false_iff_ne.2 e2]
  show (upd idy .none (fun i=>(s.objs i).kill idy) i).kill id = _
  rw [yaq]
  by_cases e3 : i = idy
  ·simp [e3,Obj.kill]
  ·simp [e3,e,Obj.kills]
theorem ye4 {id e : Nat} {o o' : Obj} (ho : ∀ i,o.kill i = o) {v : AV} {d : Option Nat} : ((s.yat id o).renew e o').put d v = s.act [e] [(e,o'),(id,o)] d v:=by
 unfold St.act
 congr 1
 refine St.ext' (fun t=>rfl) fun i=>?_
 show upd e o' (fun i=>(upd id o s.objs i).kill e) i = yko _ _ _ i
 unfold yko
 rw [yaq]
 by_cases h1 : i = e
 ·subst h1; simp
 ·have h2 : ¬ e = i:=fun h=>h1 h.symm
  rw [if_neg h1]
  simp only [List.find?_cons,List.find?_nil,beq_eq_false_iff_ne.2 h2]
  rw [yaq]
  by_cases h3 : i = id
  ·subst h3; simp [ho]
  ·have h4 : ¬ id = i:=fun h=>h3 h.symm
   simp [h1,h3,beq_eq_false_iff_ne.2 h4,Obj.kills]
theorem yyT {s s2 : St} {x : AV} (h : ∀ i,i ∈ x.ya8 → s2.objs i = s.objs i) : pk1 s2 x = pk1 s x:=by
 cases x <;> first | rfl | skip
 rename_i id k n
 have : s2.ob id = s.ob id:=h id (by simp [AV.ya8])
 simp only [pk1,this]
theorem yvF {s s2 : St} : ∀ {l : List AV},(∀ x,x ∈ l → ∀ i,i ∈ x.ya8 → s2.objs i = s.objs i) → pkl s2 l = pkl s l
 | [],_=>rfl
 | x :: l,h=>by
  simp only [pkl]
  rw [yyT (h x (by simp)),yvF fun y hy=>h y (by simp [hy])]
theorem yw4 {x : AV} {c : C} {l : List Nat} (h : pk1 s x = some (c,l)) : ∀ i,i ∈ l → i ∈ x.ya8:=by
 unfold pk1 at h
 split at h <;> first
  | (cases h; intro i hi; cases hi)
  | (split at h <;> first
   | (cases h; intro i hi; cases hi)
   | (split at h <;> cases h; intro i hi; exact hi)
   | cases h)
  | cases h
theorem ytf : ∀ {l : List AV} {cs : List C} {ids : List Nat},pkl s l = some (cs,ids) → ∀ i,i ∈ ids → ∃ x,x ∈ l ∧ i ∈ x.ya8
 | [],_,_,h,i,hi=>by cases h; cases hi
 | x :: l,cs,ids,h,i,hi=>by
  simp only [pkl] at h
  split at h
  ·rename_i c a cs' as h1 h2
   cases h
   rcases List.mem_append.1 hi with hi | hi
   ·exact ⟨x,by simp,yw4 h1 i hi⟩
   ·obtain ⟨y,hy,h3⟩:=ytf h2 i hi
    exact ⟨y,by simp [hy],h3⟩
  ·cases h
theorem yzf {s s2 : St} {k : Nat} {x : AV} (h : ∀ i,i ∈ x.ids → s2.objs i = s.objs i) : yaF s2 k x = yaF s k x ∧ yfD s2 k x = yfD s k x:=by
 cases x <;> first | exact ⟨rfl,rfl⟩ | (rename_i c; cases c <;> exact ⟨rfl,rfl⟩) | skip
 ·rename_i id k' n
  have : s2.ob id = s.ob id:=h id (by simp [AV.ids,AV.ycw,AV.ybz,AV.ya8])
  simp only [yaF,yfD,this,and_self]
 ·rename_i id k' lo n
  have : s2.ob id = s.ob id:=h id (by simp [AV.ids,AV.ycw,AV.ybz,AV.ya8])
  simp only [yaF,yfD,this,and_self]
theorem yyr {k idy : Nat} {x : AV} {new : List (List C)} (h : yfD s k x = some (idy,new)) : idy ∈ x.ids:=by
 unfold yfD at h
 split at h
 ·split at h
  ·split at h
   ·cases h; simp [AV.ids,AV.ycw,AV.ybz,AV.ya8]
   ·cases h
  ·cases h
 ·cases h
end
structure EffOk0 (P : Program) (op : IOp) (d : Option Nat) (s : St) (W KW : List Nat) (Kl : List Nat) (U : List (Nat × Obj)) (v : AV) : Prop where
 kl : ∀ j,j ∈ Kl → j ∈ KW
 up : ∀ p,p ∈ U → p.1 ∈ W
 again : ∀ s2 : St,(∀ x,x ∈ op.xs → s2.ev x = s.ev x) → (∀ x,x ∈ op.xs → ∀ j,j ∈ (s.ev x).ids → s2.objs j = s.objs j) → (∀ e,d = some e → s.objs e = .none → s2.objs e = .none) → ∀ K2 : St → Prop,K2 (s2.act Kl U d v) → yV P d op s2 K2
section
variable {P : Program} {s : St} {K : St → Prop}
theorem yyQ {x v : X} {d : Option Nat} (h : yV P d (.st1 x v) s K) : ∃ Kl U u,K (s.act Kl U d u) ∧ EffOk0 P (.st1 x v) d s (wOf (.st1 x v) s ++ d.toList) (kOf (.st1 x v) s ++ d.toList) Kl U u:=by
 simp only [yV] at h
 have again : ∀ {Kl U u},(∀ s2 : St,(∀ j,j ∈ (s.ev x).ids → s2.ob j = s.ob j) → (∀ j,j ∈ (s.ev v).ids → s2.objs j = s.objs j) → ∀ K2 : St → Prop,K2 (s2.act Kl U d u) → yhW s2 (s.ev x) (s.ev v) fun s'=>K2 (s'.put d .und)) →
  ∀ s2 : St,(∀ y,y ∈ (IOp.st1 x v).xs → s2.ev y = s.ev y) → (∀ y,y ∈ (IOp.st1 x v).xs → ∀ j,j ∈ (s.ev y).ids → s2.objs j = s.objs j) → (∀ e,d = some e → s.objs e = .none → s2.objs e = .none) → ∀ K2 : St → Prop,K2 (s2.act Kl U d u) → yV P d (.st1 x v) s2 K2:=by
  intro Kl U u hh s2 hx hob _ K2 hK2
  simp only [yV]
  rw [hx x (by simp [IOp.xs]),hx v (by simp [IOp.xs])]
  exact hh s2 (fun j hj=>hob x (by simp [IOp.xs]) j hj) (fun j hj=>hob v (by simp [IOp.xs]) j hj) K2 hK2
 have hw : ∀ j,j ∈ (s.ev x).ids → j ∈ wOf (.st1 x v) s ++ d.toList:=fun j hj=>by simp [wOf,hj]
 revert h again hw
 generalize hx : s.ev x = a; generalize hv : s.ev v = b
 intro h again hw
 unfold yhW at h
 split at h
 ·rename_i id o
  cases ho : s.ob id <;> rw [ho] at h <;> first | exact h.elim | skip
  rename_i cells
  obtain ⟨h1,h2,h3⟩:=h
  rw [yb0] at h3
  refine ⟨_,_,_,h3,fun j hj=>(by cases hj),fun p hp=>?_,again fun s2 e1 _ K2 hK2=>?_⟩
  ·simp only [List.mem_singleton] at hp; subst hp; exact hw id (by simp [AV.ids,AV.ycw,AV.ybz,AV.ya8])
  ·unfold yhW
   simp only
   rw [e1 id (by simp [AV.ids,AV.ycw,AV.ybz,AV.ya8]),ho]
   exact ⟨h1,h2,by rw [yb0]; exact hK2⟩
 ·rename_i id k i o
  cases ho : s.ob id <;> rw [ho] at h <;> first | exact h.elim | skip
  ·rename_i k' rows
   cases hc : b.toC <;> rw [hc] at h <;> first | exact h.elim | skip
   rename_i c
   obtain ⟨h1,h2,h3,h4⟩:=h
   rw [yb0] at h4
   refine ⟨_,_,_,h4,fun j hj=>(by cases hj),fun p hp=>?_,again fun s2 e1 _ K2 hK2=>?_⟩
   ·simp only [List.mem_singleton] at hp; subst hp; exact hw id (by simp [AV.ids,AV.ycw,AV.ybz,AV.ya8])
   ·unfold yhW
    simp only
    rw [e1 id (by simp [AV.ids,AV.ycw,AV.ybz,AV.ya8]),ho]
    simp only [hc]
    exact ⟨h1,h2,h3,by rw [yb0]; exact hK2⟩
  ·rename_i k' ver rows
   cases hp : pk1 s b <;> rw [hp] at h <;> first | exact h.elim | skip
   rename_i q
   obtain ⟨c,ids⟩:=q
   obtain ⟨h1,h2,h3,h4,h5,h6⟩:=h
   rw [ych] at h6
   have htr : yl0 s (s.ev x) = true:=by rw [hx]; simp [yl0,ho,Obj.tree]
   refine ⟨_,_,_,h6,fun j hj=>?_,fun p hp=>?_,again fun s2 e1 e2 K2 hK2=>?_⟩
   ·have:=yw4 hp j hj
    simp [kOf,htr,hv,ydB (ycd this)]
   ·simp only [List.mem_singleton] at hp; subst hp; exact hw id (by simp [AV.ids,AV.ycw,AV.ybz,AV.ya8])
   ·unfold yhW
    simp only
    rw [e1 id (by simp [AV.ids,AV.ycw,AV.ybz,AV.ya8]),ho]
    simp only
    rw [yyT (s:=s) fun i hi=>e2 i (ydB (ycd hi)),hp]
    exact ⟨h1,h2,h3,h4,h5,by rw [ych]; exact hK2⟩
 ·rename_i id ver i j k i' o
  cases ho : s.ob id <;> rw [ho] at h <;> first | exact h.elim | skip
  rename_i k0 ver' rows
  obtain ⟨h0,h⟩:=h
  split at h
  ·rename_i k' rs hcell
   cases hc : b.toC <;> rw [hc] at h <;> first | exact h.elim | skip
   rename_i c
   obtain ⟨h1,h2,h3,h4⟩:=h
   rw [yb0] at h4
   refine ⟨_,_,_,h4,fun j hj=>(by cases hj),fun p hp=>?_,again fun s2 e1 _ K2 hK2=>?_⟩
   ·simp only [List.mem_singleton] at hp; subst hp; exact hw id (by simp [AV.ids,AV.ycw,AV.ybz,AV.ya8])
   ·unfold yhW
    simp only
    rw [e1 id (by simp [AV.ids,AV.ycw,AV.ybz,AV.ya8]),ho]
    simp only [hcell,hc]
    exact ⟨h0,h1,h2,h3,by rw [yb0]; exact hK2⟩
  ·exact h.elim
 ·exact h.elim
theorem yAj {n : Nat} {x v : X} {d : Option Nat} (h : yV P d (.stn n x v) s K) : ∃ Kl U u,K (s.act Kl U d u) ∧ EffOk0 P (.stn n x v) d s (wOf (.stn n x v) s ++ d.toList) (kOf (.stn n x v) s ++ d.toList) Kl U u:=by
 simp only [yV] at h
 have again : ∀ {Kl U u},(∀ s2 : St,(∀ j,j ∈ (s.ev x).ids → s2.ob j = s.ob j) → (∀ j,j ∈ (s.ev v).ids → s2.objs j = s.objs j) → ∀ K2 : St → Prop,K2 (s2.act Kl U d u) → ykn n s2 (s.ev x) (s.ev v) fun s'=>K2 (s'.put d .und)) →
  ∀ s2 : St,(∀ y,y ∈ (IOp.stn n x v).xs → s2.ev y = s.ev y) → (∀ y,y ∈ (IOp.stn n x v).xs → ∀ j,j ∈ (s.ev y).ids → s2.objs j = s.objs j) → (∀ e,d = some e → s.objs e = .none → s2.objs e = .none) → ∀ K2 : St → Prop,K2 (s2.act Kl U d u) → yV P d (.stn n x v) s2 K2:=by
  intro Kl U u hh s2 hx hob _ K2 hK2
  simp only [yV]
  rw [hx x (by simp [IOp.xs]),hx v (by simp [IOp.xs])]
  exact hh s2 (fun j hj=>hob x (by simp [IOp.xs]) j hj) (fun j hj=>hob v (by simp [IOp.xs]) j hj) K2 hK2
 have hw : ∀ j,j ∈ (s.ev x).ids → j ∈ wOf (.stn n x v) s ++ d.toList:=fun j hj=>by simp [wOf,hj]
 revert h again hw
 generalize hx : s.ev x = a; generalize hv : s.ev v = b
 intro h again hw
 unfold ykn at h
 split at h
 ·rename_i l
  obtain ⟨h0,h⟩:=h
  split at h
  ·rename_i id o
   cases ho : s.ob id <;> rw [ho] at h <;> first | exact h.elim | skip
   rename_i cells
   obtain ⟨h1,h2,h3⟩:=h
   rw [yb0] at h3
   refine ⟨_,_,_,h3,fun j hj=>(by cases hj),fun p hp=>?_,again fun s2 e1 _ K2 hK2=>?_⟩
   ·simp only [List.mem_singleton] at hp; subst hp; exact hw id (by simp [AV.ids,AV.ycw,AV.ybz,AV.ya8])
   ·unfold ykn
    simp only
    rw [e1 id (by simp [AV.ids,AV.ycw,AV.ybz,AV.ya8]),ho]
    exact ⟨h0,h1,h2,by rw [yb0]; exact hK2⟩
  ·rename_i id k i o
   cases ho : s.ob id <;> rw [ho] at h <;> first | exact h.elim | skip
   ·rename_i k' rows
    simp only at h
    cases hc : AV.yeD l <;> rw [hc] at h <;> first | exact h.elim | skip
    rename_i cs
    obtain ⟨h1,h2,h3,h4⟩:=h
    rw [yb0] at h4
    refine ⟨_,_,_,h4,fun j hj=>(by cases hj),fun p hp=>?_,again fun s2 e1 _ K2 hK2=>?_⟩
    ·simp only [List.mem_singleton] at hp; subst hp; exact hw id (by simp [AV.ids,AV.ycw,AV.ybz,AV.ya8])
    ·unfold ykn
     simp only
     rw [e1 id (by simp [AV.ids,AV.ycw,AV.ybz,AV.ya8]),ho]
     simp only [hc]
     exact ⟨h0,h1,h2,h3,by rw [yb0]; exact hK2⟩
   ·rename_i k' ver rows
    simp only at h
    cases hp : pkl s l <;> rw [hp] at h <;> first | exact h.elim | skip
    rename_i q
    obtain ⟨cs,ids⟩:=q
    obtain ⟨h1,h2,h3,h4,h5,h6⟩:=h
    rw [ych] at h6
    have htr : yl0 s (s.ev x) = true:=by rw [hx]; simp [yl0,ho,Obj.tree]
    have hin : ∀ y,y ∈ l → ∀ j,j ∈ y.ya8 → j ∈ (AV.agg l).ids:=fun y hy j hj=>List.mem_flatMap.2 ⟨y,hy,ycd hj⟩
    refine ⟨_,_,_,h6,fun j hj=>?_,fun p hp=>?_,again fun s2 e1 e2 K2 hK2=>?_⟩
    ·obtain ⟨y,hy,hj'⟩:=ytf hp j hj
     simp [kOf,htr,hv,hin y hy j hj']
    ·simp only [List.mem_singleton] at hp; subst hp; exact hw id (by simp [AV.ids,AV.ycw,AV.ybz,AV.ya8])
    ·unfold ykn
     simp only
     rw [e1 id (by simp [AV.ids,AV.ycw,AV.ybz,AV.ya8]),ho]
     simp only
     rw [yvF (s:=s) fun y hy i hi=>e2 i (hin y hy i hi),hp]
     exact ⟨h0,h1,h2,h3,h4,h5,by rw [ych]; exact hK2⟩
  ·exact h.elim
 ·exact h.elim
theorem yAb {k b : Nat} {x v : X} {d : Option Nat} (h : yV P d (.app k b x v) s K) : ∃ Kl U u,K (s.act Kl U d u) ∧ EffOk0 P (.app k b x v) d s (wOf (.app k b x v) s ++ d.toList) (kOf (.app k b x v) s ++ d.toList) Kl U u:=by
 simp only [yV] at h
 have again : ∀ {Kl U u},(∀ s2 : St,(∀ j,j ∈ (s.ev x).ids → s2.ob j = s.ob j) → (yaF s2 k (s.ev v) = yaF s k (s.ev v)) → (yfD s2 k (s.ev v) = yfD s k (s.ev v)) → (∀ e,d = some e → s.objs e = .none → s2.objs e = .none) → ∀ K2 : St → Prop,K2 (s2.act Kl U d u) → yiK k b s2 d (s.ev x) (s.ev v) K2) →
  ∀ s2 : St,(∀ y,y ∈ (IOp.app k b x v).xs → s2.ev y = s.ev y) → (∀ y,y ∈ (IOp.app k b x v).xs → ∀ j,j ∈ (s.ev y).ids → s2.objs j = s.objs j) → (∀ e,d = some e → s.objs e = .none → s2.objs e = .none) → ∀ K2 : St → Prop,K2 (s2.act Kl U d u) → yV P d (.app k b x v) s2 K2:=by
  intro Kl U u hh s2 hx hob hn K2 hK2
  simp only [yV]
  rw [hx x (by simp [IOp.xs]),hx v (by simp [IOp.xs])]
  have hs:=yzf (k:=k) fun j hj=>hob v (by simp [IOp.xs]) j hj
  exact hh s2 (fun j hj=>hob x (by simp [IOp.xs]) j hj) hs.1 hs.2 hn K2 hK2
 have hw : ∀ j,j ∈ (s.ev x).ids → j ∈ wOf (.app k b x v) s ++ d.toList:=fun j hj=>by simp [wOf,hj]
 have hwv : ∀ j,yaF s k (s.ev v) = none → j ∈ (s.ev v).ids → j ∈ wOf (.app k b x v) s ++ d.toList:=fun j e hj=>by simp [wOf,hj,e]
 have hwd : ∀ j,d = some j → j ∈ wOf (.app k b x v) s ++ d.toList:=fun j e=>by simp [e]
 have sid : ∀ {id k n},id ∈ (AV.own id k n).ids:=by intro id k n; simp [AV.ids,AV.ycw,AV.ybz,AV.ya8]
 revert h again hw hwv
 generalize hx : s.ev x = a; generalize hv : s.ev v = y
 intro h again hw hwv
 unfold yiK at h
 split at h
 ·rename_i new hnew
  split at h
  ·obtain ⟨h1,h2⟩:=h
   obtain ⟨e,rfl,h0,hK⟩:=ydr h2
   rw [yjn] at hK
   refine ⟨_,_,_,hK,fun j hj=>(by cases hj),fun p hp=>?_,again fun s2 e1 e2 e3 hn K2 hK2=>?_⟩
   ·simp only [List.mem_singleton] at hp; subst hp; exact hwd _ rfl
   ·unfold yiK
    rw [e2,hnew]
    refine ⟨h1,yfR (hn e rfl h0) ?_⟩
    rw [yjn]; exact hK2
  ·rename_i k' rows
   obtain ⟨h1,h1',h1'',h2⟩:=h
   obtain ⟨e,rfl,h0,hK⟩:=ydr h2
   rw [yjn] at hK
   refine ⟨_,_,_,hK,fun j hj=>(by cases hj),fun p hp=>?_,again fun s2 e1 e2 e3 hn K2 hK2=>?_⟩
   ·simp only [List.mem_singleton] at hp; subst hp; exact hwd _ rfl
   ·unfold yiK
    rw [e2,hnew]
    refine ⟨h1,h1',h1'',yfR (hn e rfl h0) ?_⟩
    rw [yjn]; exact hK2
  ·rename_i id k' n
   cases ho : s.ob id <;> rw [ho] at h <;> first | exact h.elim | skip
   all_goals
    obtain ⟨h1,h2,h3,h4⟩:=h
    rw [yrY] at h4
    refine ⟨_,_,_,h4,fun j hj=>?_,fun p hp=>?_,again fun s2 e1 e2 e3 hn K2 hK2=>?_⟩
    ·simp only [List.mem_singleton] at hj; subst hj
     rw [show kOf (.app k b x v) s = wOf (.app k b x v) s by simp [kOf,ywl,hx,AV.ymE]]; exact hw _ sid
    ·simp only [List.mem_singleton] at hp; subst hp; exact hw _ sid
    ·unfold yiK
     rw [e2,hnew]
     simp only
     rw [e1 id sid,ho]
     exact ⟨h1,h2,h3,by rw [yrY]; exact hK2⟩
  ·rename_i id ver i j k' n
   have sid2 : id ∈ (AV.sub id ver i j k' n).ids:=by simp [AV.ids,AV.ycw,AV.ybz,AV.ya8]
   cases ho : s.ob id <;> rw [ho] at h <;> first | exact h.elim | skip
   rename_i k0 ver' rows
   obtain ⟨h0,h⟩:=h
   split at h
   ·rename_i k2 rs hcell
    obtain ⟨h1,h2,h3,h⟩:=h
    cases d with
    | none=>exact h.elim
    | some e =>
     obtain ⟨h4,h5⟩:=h
     have h4':=ydG h4
     rw [ye4 (fun _=>rfl)] at h5
     refine ⟨_,_,_,h5,fun q hq=>?_,fun p hp=>?_,again fun s2 e1 e2 e3 hn K2 hK2=>?_⟩
     ·simp only [List.mem_singleton] at hq; subst hq; exact List.mem_append_right _ (by simp)
     ·simp only [List.mem_cons,List.not_mem_nil,or_false] at hp
      rcases hp with rfl | rfl
      ·exact hwd _ rfl
      ·exact hw _ sid2
     ·unfold yiK
      rw [e2,hnew]
      simp only
      rw [e1 id sid2,ho]
      simp only [hcell]
      refine ⟨h0,h1,h2,h3,?_,by rw [ye4 (fun _=>rfl)]; exact hK2⟩
      show (s2.objs e).isNone = true
      rw [hn e rfl h4']; rfl
   ·rename_i k2 rs hcell
    obtain ⟨h1,h2,h3,h⟩:=h
    cases d with
    | none=>exact h.elim
    | some e =>
     obtain ⟨h4,h5⟩:=h
     have h4':=ydG h4
     rw [ye4 (fun _=>rfl)] at h5
     refine ⟨_,_,_,h5,fun q hq=>?_,fun p hp=>?_,again fun s2 e1 e2 e3 hn K2 hK2=>?_⟩
     ·simp only [List.mem_singleton] at hq; subst hq; exact List.mem_append_right _ (by simp)
     ·simp only [List.mem_cons,List.not_mem_nil,or_false] at hp
      rcases hp with rfl | rfl
      ·exact hwd _ rfl
      ·exact hw _ sid2
     ·unfold yiK
      rw [e2,hnew]
      simp only
      rw [e1 id sid2,ho]
      simp only [hcell]
      refine ⟨h0,h1,h2,h3,?_,by rw [ye4 (fun _=>rfl)]; exact hK2⟩
      show (s2.objs e).isNone = true
      rw [hn e rfl h4']; rfl
   ·exact h.elim
  ·exact h.elim
 ·rename_i hnone
  split at h
  ·rename_i idy new hnew
   have hy : idy ∈ y.ids:=yyr hnew
   split at h
   ·obtain ⟨h1,h2⟩:=h
    obtain ⟨e,rfl,h0,hK⟩:=ydr h2
    rw [ylk] at hK
    refine ⟨_,_,_,hK,fun j hj=>?_,fun p hp=>?_,again fun s2 e1 e2 e3 hn K2 hK2=>?_⟩
    ·simp only [List.mem_singleton] at hj; subst hj
     rw [show kOf (.app k b x v) s = wOf (.app k b x v) s by simp [kOf,ywl,hx,AV.ymE]]; exact hwv _ hnone hy
    ·simp only [List.mem_singleton] at hp; subst hp; exact hwd _ rfl
    ·unfold yiK
     rw [e2,hnone,e3,hnew]
     refine ⟨h1,yfR ?_ ?_⟩
     ·have h0' : upd idy Obj.none (fun i=>(s.objs i).kill idy) e = .none:=h0
      show upd idy Obj.none (fun i=>(s2.objs i).kill idy) e = .none
      rw [yaq] at h0' ⊢
      split
      ·rfl
      ·rename_i hne
       rw [if_neg hne] at h0'
       have : s.objs e = .none:=by
        cases hs : s.objs e with
        | none=>rfl
        | _=>exact absurd h0' ((Obj.ymB _ _).2 (by rw [hs]; simp))
       rw [hn e rfl this]; rfl
     ·rw [ylk]; exact hK2
   ·rename_i id k' n
    obtain ⟨hne,h⟩:=h
    cases ho : s.ob id <;> rw [ho] at h <;> first | exact h.elim | skip
    all_goals
     obtain ⟨h1,h2,h3,h4⟩:=h
     rw [yi5] at h4
     refine ⟨_,_,_,h4,fun j hj=>?_,fun p hp=>?_,again fun s2 e1 e2 e3 hn K2 hK2=>?_⟩
     ·simp only [List.mem_cons,List.not_mem_nil,or_false] at hj
      rw [show kOf (.app k b x v) s = wOf (.app k b x v) s by simp [kOf,ywl,hx,AV.ymE]]
      rcases hj with rfl | rfl
      ·exact hwv _ hnone hy
      ·exact hw _ sid
     ·simp only [List.mem_singleton] at hp; subst hp; exact hw _ sid
     ·unfold yiK
      rw [e2,hnone,e3,hnew]
      simp only
      rw [e1 id sid,ho]
      exact ⟨hne,h1,h2,h3,by rw [yi5]; exact hK2⟩
   ·exact h.elim
  ·exact h.elim
theorem yBb {k : Nat} {x v : X} {d : Option Nat} (h : yV P d (.cp k x v) s K) : ∃ Kl U u,K (s.act Kl U d u) ∧ EffOk0 P (.cp k x v) d s (wOf (.cp k x v) s ++ d.toList) (kOf (.cp k x v) s ++ d.toList) Kl U u:=by
 simp only [yV] at h
 have again : ∀ {Kl U u},(∀ s2 : St,(∀ j,j ∈ (s.ev x).ids → s2.ob j = s.ob j) → (yaF s2 k (s.ev v) = yaF s k (s.ev v)) → ∀ K2 : St → Prop,K2 (s2.act Kl U d u) → cpP k s2 d (s.ev x) (s.ev v) K2) →
  ∀ s2 : St,(∀ y,y ∈ (IOp.cp k x v).xs → s2.ev y = s.ev y) → (∀ y,y ∈ (IOp.cp k x v).xs → ∀ j,j ∈ (s.ev y).ids → s2.objs j = s.objs j) → (∀ e,d = some e → s.objs e = .none → s2.objs e = .none) → ∀ K2 : St → Prop,K2 (s2.act Kl U d u) → yV P d (.cp k x v) s2 K2:=by
  intro Kl U u hh s2 hx hob hn K2 hK2
  simp only [yV]
  rw [hx x (by simp [IOp.xs]),hx v (by simp [IOp.xs])]
  have hs:=yzf (k:=k) fun j hj=>hob v (by simp [IOp.xs]) j hj
  exact hh s2 (fun j hj=>hob x (by simp [IOp.xs]) j hj) hs.1 K2 hK2
 have hw : ∀ j,j ∈ (s.ev x).ids → j ∈ wOf (.cp k x v) s ++ d.toList:=fun j hj=>by simp [wOf,hj]
 have sid : ∀ {id k n},id ∈ (AV.own id k n).ids:=by intro id k n; simp [AV.ids,AV.ycw,AV.ybz,AV.ya8]
 revert h again hw
 generalize hx : s.ev x = a; generalize hv : s.ev v = y
 intro h again hw
 unfold cpP at h
 split at h
 ·rename_i new hnew
  split at h
  ·rename_i id k' n
   cases ho : s.ob id <;> rw [ho] at h <;> first | exact h.elim | skip
   rename_i k2 rows
   obtain ⟨h1,h2,h3⟩:=h
   rw [yb0] at h3
   refine ⟨_,_,_,h3,fun j hj=>(by cases hj),fun p hp=>?_,again fun s2 e1 e2 K2 hK2=>?_⟩
   ·simp only [List.mem_singleton] at hp; subst hp; exact hw _ sid
   ·unfold cpP
    rw [e2,hnew]
    simp only
    rw [e1 id sid,ho]
    exact ⟨h1,h2,by rw [yb0]; exact hK2⟩
  ·exact h.elim
 ·exact h.elim
theorem yzU {s s2 : St} : ∀ {l : List AV},(∀ x,x ∈ l → ∀ y,y ∈ x.cellsOf → ∀ i,i ∈ y.ya8 → s2.objs i = s.objs i) → pks s2 l = pks s l
 | [],_=>rfl
 | x :: l,h=>by
  simp only [pks]
  rw [yvF (h x (by simp)),yzU fun y hy=>h y (by simp [hy])]
theorem ywX : ∀ {l : List AV} {cs : List (List C)} {ids : List Nat},pks s l = some (cs,ids) → ∀ i,i ∈ ids → ∃ x,x ∈ l ∧ ∃ y,y ∈ x.cellsOf ∧ i ∈ y.ya8
 | [],_,_,h,i,hi=>by cases h; cases hi
 | x :: l,cs,ids,h,i,hi=>by
  simp only [pks] at h
  split at h
  ·rename_i c a cs' as h1 h2
   cases h
   rcases List.mem_append.1 hi with hi | hi
   ·exact ⟨x,by simp,ytf h1 i hi⟩
   ·obtain ⟨y,hy,h3⟩:=ywX h2 i hi
    exact ⟨y,by simp [hy],h3⟩
  ·cases h
theorem ymG {x y : AV} (hy : y ∈ x.cellsOf) {i : Nat} (hi : i ∈ y.ya8) : i ∈ x.ids:=by
 cases x
 case agg l=>exact List.mem_flatMap.2 ⟨y,hy,ycd hi⟩
 all_goals
  simp only [AV.cellsOf,List.mem_singleton] at hy
  subst hy
  exact ydB (ycd hi)
theorem yAi {k : Nat} {xs : List X} {d : Option Nat} (h : yV P d (.bsl k xs) s K) : ∃ Kl U u,K (s.act Kl U d u) ∧ EffOk0 P (.bsl k xs) d s (wOf (.bsl k xs) s ++ d.toList) (kOf (.bsl k xs) s ++ d.toList) Kl U u:=by
 simp only [yV] at h
 have h':=h
 unfold ynF at h'
 cases hr : AV.rowsOf (xs.map s.ev) <;> rw [hr] at h' <;> simp only at h'
 ·cases hp : pks s (xs.map s.ev) <;> rw [hp] at h' <;> first | exact h'.elim | skip
  rename_i q
  obtain ⟨rows,ids⟩:=q
  obtain ⟨h1,h2,h3⟩:=h'
  obtain ⟨e,rfl,h0,hK⟩:=ydr h3
  have hact : ∀ s3 : St,(⟨upd e (.own e k rows.length) (s3.drops ids).env,upd e (.tr k 0 rows) (s3.drops ids).objs⟩ : St) = s3.act ids [(e,.tr k 0 rows)] (some e) (.own e k rows.length):=fun s3=>by rw [← ych]; rfl
  rw [hact] at hK
  refine ⟨_,_,_,hK,fun j hj=>?_,fun p hp'=>?_,fun s2 e1 e2 e3 K2 hK2=>?_⟩
  ·obtain ⟨x,hx,y,hy,hj'⟩:=ywX hp j hj
   exact List.mem_append_left _ (List.mem_flatMap.2 ⟨x,hx,ymG hy hj'⟩)
  ·simp only [List.mem_singleton] at hp'; subst hp'; simp
  ·have em : xs.map s2.ev = xs.map s.ev:=List.map_congr_left e1
   simp only [yV,ynF]
   rw [em,hr]
   simp only
   rw [yzU (s:=s) fun x hx y hy i hi=>by
    obtain ⟨z,hz,rfl⟩:=List.mem_map.1 hx
    exact e2 z hz i (ymG hy hi),hp]
   refine ⟨h1,h2,yfR ?_ (by rw [hact]; exact hK2)⟩
   rw [St.ydR] at h0 ⊢
   by_cases hE : e ∈ ids
   ·simp [hE]
   ·rw [if_neg hE] at h0 ⊢
    have : s.objs e = .none:=by
     cases hq : s.objs e with
     | none=>rfl
     | _=>exact absurd h0 ((Obj.ydO _ _).2 (by rw [hq]; simp))
    rw [e3 e rfl this]
    exact Obj.ydP _
 ·rename_i rows
  obtain ⟨h1,h3⟩:=h'
  obtain ⟨e,rfl,h0,hK⟩:=ydr h3
  rw [yjn] at hK
  refine ⟨_,_,_,hK,fun j hj=>(by cases hj),fun p hp'=>?_,fun s2 e1 e2 e3 K2 hK2=>?_⟩
  ·simp only [List.mem_singleton] at hp'; subst hp'; simp
  ·have em : xs.map s2.ev = xs.map s.ev:=List.map_congr_left e1
   simp only [yV,ynF]
   rw [em,hr]
   exact ⟨h1,yfR (e3 e rfl h0) (by rw [yjn]; exact hK2)⟩
theorem yxG {op : IOp} (ho : op.yi2 = true) {d : Option Nat} (h : yV P d op s K) : ∃ Kl U u,K (s.act Kl U d u) ∧ EffOk0 P op d s (wOf op s ++ d.toList) (kOf op s ++ d.toList) Kl U u:=by
 cases op <;> first | cases ho | skip
 ·exact yyQ h
 ·exact yAj h
 ·exact yAi h
 ·exact yAb h
 ·exact yBb h
structure EffOk (P : Program) (op : IOp) (d : Option Nat) (s : St) (W : List Nat) (Kl : List Nat) (U : List (Nat × Obj)) (v : AV) : Prop where
 kl : ∀ j,j ∈ Kl → 2 * j + 1 ∈ W
 up : ∀ p,p ∈ U → 2 * p.1 ∈ W
 again : ∀ s2 : St,(∀ x,x ∈ op.xs → s2.ev x = s.ev x) → (∀ x,x ∈ op.xs → ∀ j,j ∈ (s.ev x).ids → s2.objs j = s.objs j) → (∀ e,d = some e → s.objs e = .none → s2.objs e = .none) → ∀ K2 : St → Prop,K2 (s2.act Kl U d v) → yV P d op s2 K2
theorem yAg {op : IOp} (ho : op.yi2 = true) {d : Option Nat} (h : yV P d op s K) : ∃ Kl U u,K (s.act Kl U d u) ∧ EffOk P op d s (yze op d s) Kl U u:=by
 obtain ⟨Kl,U,u,h1,h2⟩:=yxG ho h
 exact ⟨Kl,U,u,h1,fun j hj=>List.mem_append_right _ (yqi.2 (h2.kl j hj)),fun p hp=>List.mem_append_left _ (ysW.2 (h2.up p hp)),h2.again⟩
theorem kOf_w {op : IOp} (ho : op.yi2 = true) {s : St} : ∀ j,j ∈ kOf op s → j ∈ wOf op s:=by
 intro j hj
 cases op <;> first | cases ho | skip
 ·simp only [kOf] at hj; simp only [wOf,List.mem_append]; exact .inr hj
 ·simp only [kOf] at hj; simp only [wOf,List.mem_append]; exact .inr hj
 ·exact hj
 ·simp only [kOf,ywl] at hj
  split at hj
  ·exact hj
  ·cases hj
 ·simp only [kOf] at hj; cases hj
theorem yBe {op : IOp} (ho : op.yi2 = true) {d : Option Nat} {s : St} {j : Nat} (h : 2 * j ∈ yze op d s ∨ 2 * j + 1 ∈ yze op d s) : j ∈ wOf op s ∨ d = some j:=by
 have tl : j ∈ d.toList → d = some j:=by intro h; cases d <;> simp at h; rw [h]
 unfold yze at h
 rcases h with h | h
 ·rcases List.mem_append.1 h with h | h
  ·rcases List.mem_append.1 (ysW.1 h) with h | h
   ·exact .inl h
   ·exact .inr (tl h)
  ·exact (yBH h).elim
 ·rcases List.mem_append.1 h with h | h
  ·exact (yER h).elim
  ·rcases List.mem_append.1 (yqi.1 h) with h | h
   ·exact .inl (kOf_w ho j h)
   ·exact .inr (tl h)
theorem yAO {op : IOp} (ho : op.yi2 = true) {s : St} : ∀ j,j ∈ wOf op s → ∃ x,x ∈ op.xs ∧ j ∈ (s.ev x).ids:=by
 intro j hj
 cases op <;> first | cases ho | skip
 ·rename_i x v
  simp only [wOf,List.mem_append] at hj
  rcases hj with hj | hj
  ·exact ⟨x,by simp [IOp.xs],hj⟩
  ·split at hj
   ·exact ⟨v,by simp [IOp.xs],hj⟩
   ·cases hj
 ·rename_i n x v
  simp only [wOf,List.mem_append] at hj
  rcases hj with hj | hj
  ·exact ⟨x,by simp [IOp.xs],hj⟩
  ·split at hj
   ·exact ⟨v,by simp [IOp.xs],hj⟩
   ·cases hj
 ·rename_i k xs
  simp only [wOf] at hj
  obtain ⟨a,ha,hj⟩:=List.mem_flatMap.1 hj
  obtain ⟨x,hx,rfl⟩:=List.mem_map.1 ha
  exact ⟨x,hx,hj⟩
 ·rename_i k b x v
  simp only [wOf,List.mem_append] at hj
  rcases hj with hj | hj
  ·exact ⟨x,by simp [IOp.xs],hj⟩
  ·split at hj
   ·cases hj
   ·exact ⟨v,by simp [IOp.xs],hj⟩
 ·rename_i k x v
  exact ⟨x,by simp [IOp.xs],hj⟩
end
end Go.Proofs.YtpiplmnecmkafaaGreat
namespace Go.Proofs.YtpiplmnecmkafaaGreat
open Go.RowKit
def TrQ (P : Program) (i : Ins) (lab : Lab) (s s' : St) : Prop :=
 ∃ v,s' = s.put i.d v ∧ (∀ k : AV → Prop,k v → yhl P i s.ev s.objs k) ∧ lab = yeF i s v
def TrM (P : Program) (i : Ins) (lab : Lab) (s s' : St) : Prop :=
 ∃ e o v,i.d = some e ∧ s.objs e = .none ∧ s' = ⟨upd e v s.env,upd e o s.objs⟩ ∧ (o.bare ∧ o ≠ .none) ∧ (∀ j,j ∈ v.ids → j = e) ∧ (∀ x,x ∈ i.op.xs → (s.ev x).ids = [] ∧ (s.ev x).cl = true) ∧ lab = yyb i ∧
  ∀ s2 : St,(∀ x,x ∈ i.op.xs → s2.ev x = s.ev x) → s2.objs e = .none → ∀ K2 : St → Prop,K2 ⟨upd e v s2.env,upd e o s2.objs⟩ → yfk P i.d i.op s2 K2
def mkE (P : Program) (i : Ins) (s : St) (kN : St → Prop) : Prop :=
 match i.g,i.d,i.op with
 | none,some d,.call f xs=>∃ args res,ybh P f args res ∧ ybD s (xs.map s.ev) args ∧ (res.closed ∨ (xs.map s.ev).all AV.ycJ = true) ∧ yU s (res.ya6 d) ∧ kN (s.take d res)
 | _,_,_=>False
structure MakeP (P : Program) (i : Ins) (s : St) (d : Nat) (res : AV) (f : Nat) (xs : List X) (args : List AV) : Prop where
 gd : i.g = none
 dst : i.d = some d
 opr : i.op = .call f xs
 own : ybh P f args res
 outs : ybD s (xs.map s.ev) args
 cl : res.closed ∨ (xs.map s.ev).all AV.ycJ = true
 fresh : yU s (res.ya6 d)
def TrN (P : Program) (i : Ins) (s s' : St) : Prop:=∃ d res f xs args,MakeP P i s d res f xs args ∧ s' = s.take d res
theorem yAP {P : Program} {i : Ins} {s : St} {kN : St → Prop} (h : mkE P i s kN) : ∃ d res f xs args,MakeP P i s d res f xs args ∧ kN (s.take d res):=by
 unfold mkE at h
 split at h
 ·rename_i d f xs e1 e2 e3
  obtain ⟨args,res,h1,h2,h3,h4,h5⟩:=h
  exact ⟨d,res,f,xs,args,⟨e1,e2,e3,h1,h2,h3,h4⟩,h5⟩
 ·exact h.elim
theorem MakeP.yaf {P : Program} {i : Ins} {s : St} {d : Nat} {res : AV} {f : Nat} {xs : List X} {args : List AV} (h : MakeP P i s d res f xs args) : i.op.yaf = true:=by rw [h.opr]; rfl
theorem MakeP.step {P : Program} {i : Ins} {s : St} {d : Nat} {res : AV} {f : Nat} {xs : List X} {args : List AV} (h : MakeP P i s d res f xs args) {K : St → Prop} (hK : K (s.take d res)) : yV P i.d i.op s K:=by
 rw [h.dst,h.opr]
 rcases h.cl with e | e
 ·exact yQ h.own h.outs e h.fresh hK
 ·exact yjo h.own h.outs e h.fresh hK
def TrE (P : Program) (i : Ins) (lab : Lab) (s s' : St) : Prop :=
 ∃ Kl U v,s' = s.act Kl U i.d v ∧ EffOk P i.op i.d s lab.1 Kl U v ∧ (∀ j,(2 * j ∈ lab.1 ∨ 2 * j + 1 ∈ lab.1) → (∃ x,x ∈ i.op.xs ∧ j ∈ (s.ev x).ids) ∨ i.d = some j) ∧ lab.2 = true
def Clear (s : St) (d : Nat) : Prop:=(∀ t,d ∉ (s.env t).ids) ∧ ∀ i cells,s.objs i = .box cells → ∀ x,x ∈ cells → d ∉ x.ya8
def Sound (s : St) : Prop:=∀ d,s.objs d = .none → Clear s d
theorem ylB {w : World} {G : Nat → Prop} {O : Nat → Obj} {blk : Nat → Option Nat} {v : Value} {x : AV} (h : RV1 w G O blk v x) {i : Nat} (hi : i ∈ x.ybz) : O i ≠ .none:=by
 cases x <;> simp only [AV.ybz,AV.ya8,List.mem_singleton,List.not_mem_nil] at hi <;> try (exact hi.elim)
 ·subst hi; obtain ⟨b,cells,ho,_⟩:=h; rw [ho]; simp
 ·subst hi; obtain ⟨b,m,ho,_⟩:=h; intro e; rw [e] at ho; cases ho
 ·subst hi; obtain ⟨m,ho,_⟩:=h; intro e; rw [e] at ho; cases ho
 ·exact h.elim
 ·subst hi; obtain ⟨_,_,_,ho,_⟩:=h; rw [ho]; simp
 ·subst hi; obtain ⟨_,_,_,ho,_⟩:=h; rw [ho]; simp
 ·subst hi; obtain ⟨m,A,c,ho,_⟩:=h; intro e; rw [e] at ho; cases ho
 ·exact h.elim
 ·subst hi; obtain ⟨_,_,ho,_⟩:=h; rw [ho]; simp
theorem yug {w : World} {G : Nat → Prop} {O : Nat → Obj} {blk : Nat → Option Nat} {v : Value} {x : AV} (h : RV2 w G O blk v x) {i : Nat} (hi : i ∈ x.ycw) : O i ≠ .none:=by
 cases x
 case agg l =>
  obtain ⟨arr,_,_,hl⟩:=h
  obtain ⟨y,hy,hi⟩:=List.mem_flatMap.1 hi
  obtain ⟨j,hj⟩:=List.getElem?_of_mem hy
  obtain ⟨u,_,hr⟩:=hl j y hj
  exact ylB hr hi
 case fn f l =>
  obtain ⟨arr,_,_,hl⟩:=h
  obtain ⟨y,hy,hi⟩:=List.mem_flatMap.1 hi
  obtain ⟨j,hj⟩:=List.getElem?_of_mem hy
  obtain ⟨u,_,hr⟩:=hl j y hj
  exact ylB hr hi
 all_goals (simp only [RV2] at h; simp only [AV.ycw] at hi; exact ylB h hi)
theorem yAX {w : World} {G : Nat → Prop} {O : Nat → Obj} {blk : Nat → Option Nat} {v : Value} {x : AV} (h : RV w G O blk v x) {i : Nat} (hi : i ∈ x.ids) : O i ≠ .none:=by
 cases x
 case tup l =>
  obtain ⟨arr,_,_,hl⟩:=h
  obtain ⟨y,hy,hi⟩:=List.mem_flatMap.1 hi
  obtain ⟨j,hj⟩:=List.getElem?_of_mem hy
  obtain ⟨u,_,hr⟩:=hl j y hj
  exact yug hr hi
 all_goals (simp only [RV] at h; simp only [AV.ids] at hi; exact yug h hi)
theorem Repr.sound {g : Ghost} {s : St} {a : Act} {w : World} {blk : Lay} (h : Repr g s a w blk) : Sound s:=by
 intro d hd
 refine ⟨fun t hi=>yAX (h.env t) hi hd,fun i cells ho x hx hi=>?_⟩
 have:=h.objs i
 rw [ho] at this
 obtain ⟨q,arr,e,_,_,_,hc⟩:=this
 obtain ⟨j,hj⟩:=List.getElem?_of_mem hx
 obtain ⟨u,_,hr⟩:=hc j x hj
 exact ylB hr (ycd hi) hd
theorem ev_of {s s2 : St} {x : X} (h : ∀ t,t ∈ x.tm → s2.env t = s.env t) : s2.ev x = s.ev x:=by
 cases x with
 | t n=>exact h n (by simp [X.tm])
 | k a=>rfl
theorem ycc {i : Ins} {s s2 : St} (h : ∀ t,t ∈ i.rdx → s2.env t = s.env t) : ∀ x,x ∈ i.op.xs → s2.ev x = s.ev x :=
 fun x hx=>ev_of fun t ht=>h t (List.mem_append_right _ (List.mem_flatMap.2 ⟨x,hx,ht⟩))
theorem yA0 {op : IOp} {s s2 : St} (h : ∀ x,x ∈ op.xs → s2.ev x = s.ev x) : yoJ op s2 = yoJ op s:=by
 cases op <;> first | rfl | (simp only [yoJ]; rw [h _ (by simp [IOp.xs])])
theorem ygl {i : Ins} {s s2 : St} {v : AV} (h : ∀ x,x ∈ i.op.xs → s2.ev x = s.ev x) : yeF i s2 v = yeF i s v:=by
 unfold yeF; rw [List.map_congr_left h,yA0 h]
theorem yu7 {i : Ins} {s : St} {v : AV} : (∀ j,j ∈ v.ids → 2 * j + 1 ∈ (yeF i s v).1) ∧ (∀ x,x ∈ i.op.xs → ∀ j,j ∈ (s.ev x).ids → 2 * j + 1 ∈ (yeF i s v).1) ∧ (yoJ i.op s = false → ∀ x,x ∈ i.op.xs → ∀ j,j ∈ (s.ev x).ids → 2 * j ∈ (yeF i s v).1):=by
 refine ⟨fun j hj=>List.mem_append_right _ (yqi.2 (List.mem_flatMap.2 ⟨v,by simp,hj⟩)),fun x hx j hj=>List.mem_append_right _ (yqi.2 (List.mem_flatMap.2 ⟨s.ev x,List.mem_cons_of_mem _ (List.mem_map_of_mem hx),hj⟩)),fun hm x hx j hj=>List.mem_append_left _ ?_⟩
 rw [hm]
 exact ysW.2 (List.mem_flatMap.2 ⟨s.ev x,List.mem_map_of_mem hx,hj⟩)
theorem yxh {P : Program} {op : IOp} {s : St} (hm : yoJ op s = true) {ob ob' : Nat → Obj} {k : AV → Prop} (h : yaO P op s.ev ob k) : yaO P op s.ev ob' k:=by
 cases op <;> first | exact h | cases hm | skip
 rename_i x
 simp only [yoJ] at hm
 simp only [yaO] at h ⊢
 revert hm h
 generalize s.ev x = a
 intro hm h
 cases a with
 | c y=>cases y <;> exact h
 | sub _ _ _ _ _ _=>cases hm
 | _=>exact h
theorem yBt {i : Ins} {s : St} {v : AV} (h : (yeF i s v).2 = true) : v.cl = true ∧ ∀ x,x ∈ i.op.xs → (s.ev x).cl = true:=by
 have:=List.all_eq_true.1 h
 exact ⟨this v (by simp),fun x hx=>this _ (List.mem_cons_of_mem _ (List.mem_map_of_mem hx))⟩
theorem yzX {x : AV} {want : Bool} {A B : Prop} (h : ydy x want A B) : (∃ b,x = .c (.b b)) ∨ x = .und:=by
 unfold ydy at h
 split at h
 ·exact .inl ⟨_,rfl⟩
 ·exact .inr rfl
 ·exact h.elim
theorem yoc {P : Program} {i : Ins} {ev : X → AV} {ob : Nat → Obj} {k : AV → Prop} (h : yhl P i ev ob k) : ∀ t b,i.g = some (t,b) → (∃ b,ev (.t t) = .c (.b b)) ∨ ev (.t t) = .und:=by
 intro t b hg
 unfold yhl at h
 rw [hg] at h
 exact yzX h
theorem yd4 {P : Program} {i : Ins} {ev ev' : X → AV} {ob ob' : Nat → Obj} {v : AV} (hg : ∀ t b,i.g = some (t,b) → ev' (.t t) = ev (.t t))
 (hv : (∀ k : AV → Prop,k v → yaO P i.op ev ob k) → ∀ k : AV → Prop,k v → yaO P i.op ev' ob' k) (h : ∀ k : AV → Prop,k v → yhl P i ev ob k) : ∀ k : AV → Prop,k v → yhl P i ev' ob' k:=by
 intro k hk
 unfold yhl at h ⊢
 cases hg' : i.g with
 | none=>rw [hg'] at h; exact hv h k hk
 | some p =>
  obtain ⟨t,b⟩:=p
  rw [hg'] at h
  simp only at h ⊢
  rw [hg t b hg']
  have h1:=h k hk
  unfold ydy at h h1 ⊢
  split at h1
  ·rename_i v' hv'
   refine ⟨fun e=>?_,h1.2⟩
   refine hv (fun k2 hk2=>?_) k hk
   have:=h k2 hk2
   rw [hv'] at this
   exact this.1 e
  ·exact h1
  ·exact h1.elim
structure Apart (x y : Ins) : Prop where
 xy : ∀ d,x.d = some d → d ∉ y.rdx
 ne : ∀ d,x.d = some d → y.d ≠ some d
 yx : ∀ d,y.d = some d → d ∉ x.rdx
theorem ytX {x y : Ins} (h : yoH x y = true) : Apart x y:=by
 unfold yoH at h
 rw [Bool.and_eq_true] at h
 refine ⟨fun d e=>?_,fun d e=>?_,fun d e=>?_⟩
 ·have:=h.1; rw [e] at this; simp at this; exact this.1
 ·have:=h.1; rw [e] at this; simp at this; exact this.2
 ·have:=h.2; rw [e] at this; simp at this; exact this
theorem Apart.ypZ {x y : Ins} (h : Apart x y) {s : St} {v : AV} : ∀ t,t ∈ y.rdx → (s.put x.d v).env t = s.env t:=fun t ht=>ydi fun e=>h.xy t e ht
theorem Apart.yoW {x y : Ins} (h : Apart x y) {s : St} {v : AV} : ∀ t,t ∈ x.rdx → (s.put y.d v).env t = s.env t:=fun t ht=>ydi fun e=>h.yx t e ht
theorem yff {i : Ins} {t : Nat} {b : Bool} (h : i.g = some (t,b)) : t ∈ i.rdx:=by unfold Ins.rdx; rw [h]; simp
theorem put_comm {s : St} {d e : Option Nat} {u v : AV} (h : ∀ t,d = some t → e ≠ some t) : (s.put d u).put e v = (s.put e v).put d u:=by
 refine St.ext' (fun t=>?_) fun i=>by rw [yaS,yaS,yaS,yaS]
 by_cases h1 : e = some t
 ·have h2 : d ≠ some t:=fun h'=>h t h' h1
  rw [put_eq h1,ydi h2,put_eq h1]
 ·rw [ydi h1]
  by_cases h2 : d = some t
  ·rw [put_eq h2,put_eq h2]
  ·rw [ydi h2,ydi h2,ydi h1]
section
variable {P : Program} {x y : Ins} {s s1 s2 : St} {lx ly : Lab}
theorem yCM (hy : y.op.reads.isSome = true) (hx : x.op.reads.isSome = true) (ha : Apart x y) (h1 : TrQ P x lx s s1) (h2 : TrQ P y ly s1 s2) : ∃ s1',TrQ P y ly s s1' ∧ TrQ P x lx s1' s2:=by
 obtain ⟨u,rfl,hu,rfl⟩:=h1
 obtain ⟨v,rfl,hv,rfl⟩:=h2
 have ey:=ycc (i:=y) (s:=s.put x.d u) (s2:=s) fun t ht=>(ha.ypZ t ht).symm
 have ex:=ycc (i:=x) (s:=s) (s2:=s.put y.d v) fun t ht=>ha.yoW t ht
 refine ⟨s.put y.d v,⟨v,rfl,?_,?_⟩,⟨u,put_comm ha.ne,?_,?_⟩⟩
 ·rw [yaS] at hv
  exact yd4 (fun t b hg=>(ha.ypZ t (yff hg)).symm) (fun H k hk=>ygw hy ey (H k hk)) hv
 ·exact (ygl ey).symm
 ·rw [yaS]
  exact yd4 (ev:=s.ev) (fun t b hg=>ha.yoW t (yff hg)) (fun H k hk=>ygw hx ex (H k hk)) hu
 ·exact (ygl ex).symm
theorem yho {s : St} {d : Nat} (hc : Clear s d) {x : X} (hk : x.kok = true) : d ∉ (s.ev x).ids:=by
 cases x with
 | t n=>exact hc.1 n
 | k a =>
  have : a.ids = []:=by simpa [X.kok] using hk
  show d ∉ a.ids
  rw [this]; simp
theorem new_ne {s : St} {e : Nat} {v : AV} {o : Obj} {t : Nat} (h : t ≠ e) : (⟨upd e v s.env,upd e o s.objs⟩ : St).env t = s.env t:=by
 show upd e v s.env t = _; rw [yaq,if_neg h]
theorem yfB {s : St} {e : Nat} {v : AV} {o : Obj} : (⟨upd e v s.env,upd e o s.objs⟩ : St).env e = v:=by
 show upd e v s.env e = _; rw [yaq,if_pos rfl]
theorem ya3 {s : St} {e : Nat} {v : AV} {o : Obj} {i : Nat} (h : i ≠ e) : (⟨upd e v s.env,upd e o s.objs⟩ : St).objs i = s.objs i:=by
 show upd e o s.objs i = _; rw [yaq,if_neg h]
theorem ydn {s : St} {e : Nat} {v : AV} {o : Obj} : (⟨upd e v s.env,upd e o s.objs⟩ : St).objs e = o:=by
 show upd e o s.objs e = _; rw [yaq,if_pos rfl]
theorem ywT {s : St} {e : Nat} {u v : AV} {o : Obj} {d : Option Nat} (h : d ≠ some e) : (⟨upd e v (s.put d u).env,upd e o (s.put d u).objs⟩ : St) = (⟨upd e v s.env,upd e o s.objs⟩ : St).put d u:=by
 refine St.ext' (fun t=>?_) fun i=>by rw [yaS]; rw [yaS]
 by_cases h1 : t = e
 ·subst h1; rw [yfB,ydi h,yfB]
 ·rw [new_ne h1]
  by_cases h2 : d = some t
  ·rw [put_eq h2,put_eq h2]
  ·rw [ydi h2,ydi h2,new_ne h1]
theorem yEE (hs : Sound s) (hx : x.op.reads.isSome = true) (hk : x.op.xs.all X.kok = true) (ha : Apart x y) (h1 : TrQ P x lx s s1) (h2 : TrM P y ly s1 s2) : ∃ s1',TrM P y ly s s1' ∧ TrQ P x lx s1' s2:=by
 obtain ⟨u,rfl,hu,rfl⟩:=h1
 obtain ⟨e,o,v,hd,h0,rfl,hb,hv,hxs,rfl,ag⟩:=h2
 rw [yaS] at h0
 have ey:=ycc (i:=y) (s:=s.put x.d u) (s2:=s) fun t ht=>(ha.ypZ t ht).symm
 have ev : ∀ t,t ∈ x.rdx → (⟨upd e v s.env,upd e o s.objs⟩ : St).env t = s.env t:=fun t ht=>new_ne fun h=>ha.yx e hd (h ▸ ht)
 have ex:=ycc (i:=x) ev
 have hc:=hs e h0
 have hne : x.d ≠ some e:=fun h=>ha.ne e h hd
 refine ⟨⟨upd e v s.env,upd e o s.objs⟩,⟨e,o,v,hd,h0,rfl,hb,hv,fun z hz=>by rw [ey z hz]; exact hxs z hz,rfl,fun s3 h3 h4 K hK=>ag s3 (fun z hz=>(h3 z hz).trans (ey z hz)) h4 K hK⟩,⟨u,ywT hne,?_,(ygl ex).symm⟩⟩
 refine yd4 (ev:=s.ev) (ob:=s.objs) (fun t b hg=>ev t (yff hg)) (fun H k hk'=>ygw hx ex ?_) hu
 exact yvg hx (e:=e) (fun i hi=>ya3 hi) hc.2 (fun z hz=>yho hc (List.all_eq_true.1 hk z hz)) H k hk'
theorem yCC (hs : Sound s) (hy : y.op.reads.isSome = true) (hk : y.op.xs.all X.kok = true) (ha : Apart x y) (h1 : TrM P x lx s s1) (h2 : TrQ P y ly s1 s2) : ∃ s1',TrQ P y ly s s1' ∧ TrM P x lx s1' s2:=by
 obtain ⟨e,o,v,hd,h0,rfl,hb,hv,hxs,rfl,ag⟩:=h1
 obtain ⟨u,rfl,hu,rfl⟩:=h2
 have ev : ∀ t,t ∈ y.rdx → s.env t = (⟨upd e v s.env,upd e o s.objs⟩ : St).env t:=fun t ht=>(new_ne fun (h : t = e)=>ha.xy e hd (h ▸ ht)).symm
 have ey:=ycc (i:=y) ev
 have ex:=ycc (i:=x) (s:=s) (s2:=s.put y.d u) fun t ht=>ha.yoW t ht
 have hc:=hs e h0
 have hne : y.d ≠ some e:=ha.ne e hd
 refine ⟨s.put y.d u,⟨u,rfl,?_,(ygl ey).symm⟩,⟨e,o,v,hd,by rw [yaS]; exact h0,(ywT hne).symm,hb,hv,fun z hz=>by rw [ex z hz]; exact hxs z hz,rfl,fun s3 h3 h4 K hK=>ag s3 (fun z hz=>(h3 z hz).trans (ex z hz)) h4 K hK⟩⟩
 refine yd4 (ev:=(⟨upd e v s.env,upd e o s.objs⟩ : St).ev) (fun t b hg=>ev t (yff hg)) (fun H k hk'=>ygw hy ey ?_) hu
 refine yvg hy (e:=e) (fun i hi=>(ya3 hi).symm) (fun i cells hi z hz=>?_) (fun z hz=>by rw [← ey z hz]; exact yho hc (List.all_eq_true.1 hk z hz)) H k hk'
 by_cases h : i = e
 ·subst h
  have hi' : o = .box cells:=by rw [ydn] at hi; exact hi
  subst hi'
  intro hc'
  have:=hb.1 z hz
  have h5:=ycd hc'
  rw [this] at h5; cases h5
 ·rw [ya3 h] at hi
  exact hc.2 i cells hi z hz
theorem yEo (ha : Apart x y) (h1 : TrM P x lx s s1) (h2 : TrM P y ly s1 s2) : ∃ s1',TrM P y ly s s1' ∧ TrM P x lx s1' s2:=by
 obtain ⟨e,o,v,hd,h0,rfl,hb,hv,hxs,rfl,ag⟩:=h1
 obtain ⟨e',o',v',hd',h0',rfl,hb',hv',hxs',rfl,ag'⟩:=h2
 have hne : e ≠ e':=fun h=>ha.ne e hd (h ▸ hd')
 rw [ya3 (Ne.symm hne)] at h0'
 have ey:=ycc (i:=y) (s:=⟨upd e v s.env,upd e o s.objs⟩) (s2:=s) fun t ht=>(new_ne fun (h : t = e)=>ha.xy e hd (h ▸ ht)).symm
 have ex:=ycc (i:=x) (s:=s) (s2:=⟨upd e' v' s.env,upd e' o' s.objs⟩) fun t ht=>new_ne fun h=>ha.yx e' hd' (h ▸ ht)
 refine ⟨⟨upd e' v' s.env,upd e' o' s.objs⟩,⟨e',o',v',hd',h0',rfl,hb',hv',fun z hz=>by rw [ey z hz]; exact hxs' z hz,rfl,fun s3 h3 h4 K hK=>ag' s3 (fun z hz=>(h3 z hz).trans (ey z hz)) h4 K hK⟩,
  ⟨e,o,v,hd,by rw [ya3 hne]; exact h0,?_,hb,hv,fun z hz=>by rw [ex z hz]; exact hxs z hz,rfl,fun s3 h3 h4 K hK=>ag s3 (fun z hz=>(h3 z hz).trans (ex z hz)) h4 K hK⟩⟩
 refine St.ext' (fun t=>?_) fun i=>?_
 ·by_cases h1 : t = e
  ·subst h1; rw [new_ne hne,yfB,yfB]
  ·by_cases h2 : t = e'
   ·subst h2; rw [yfB,new_ne h1,yfB]
   ·rw [new_ne h2,new_ne h1,new_ne h1,new_ne h2]
 ·by_cases h1 : i = e
  ·subst h1; rw [ya3 hne,ydn,ydn]
  ·by_cases h2 : i = e'
   ·subst h2; rw [ydn,ya3 h1,ydn]
   ·rw [ya3 h2,ya3 h1,ya3 h1,ya3 h2]
theorem ywH {s : St} {d e : Option Nat} {u v : AV} {Kl : List Nat} {U : List (Nat × Obj)} (h : ∀ t,d = some t → e ≠ some t) (hu : ∀ j,j ∈ Kl → j ∉ u.ids) : (s.put d u).act Kl U e v = (s.act Kl U e v).put d u:=by
 refine St.ext' (fun t=>?_) fun i=>by rw [yfs,yaS,yaS,yfs]
 by_cases h1 : e = some t
 ·have h2 : d ≠ some t:=fun h'=>h t h' h1
  rw [ysX h1,ydi h2,ysX h1]
 ·rw [yf3 h1]
  by_cases h2 : d = some t
  ·rw [put_eq h2,put_eq h2,ydT hu]
  ·rw [ydi h2,ydi h2,yf3 h1]
theorem yrH {Kl : List Nat} {U : List (Nat × Obj)} {W : List Nat} {o : Obj} {i : Nat} (h1 : ∀ j,j ∈ Kl → 2 * j + 1 ∈ W) (h2 : ∀ p,p ∈ U → 2 * p.1 ∈ W) (hk : 2 * i + 1 ∉ W) (h : 2 * i ∉ W) : yko Kl U o i = o.kills Kl :=
 ylG (fun hj=>hk (h1 i hj)) fun p hp e=>h (e ▸ h2 p hp)
theorem yD0 (hx : x.op.reads.isSome = true) (hcall : x.op.yaf = false) (hk : x.op.xs.all X.kok = true) (ha : Apart x y) (hdis : ∀ j,j ∈ lx.1 → j ∉ ly.1) (h1 : TrQ P x lx s s1) (h2 : TrE P y ly s1 s2) : ∃ s1',TrE P y ly s s1' ∧ TrQ P x lx s1' s2:=by
 obtain ⟨u,rfl,hu,rfl⟩:=h1
 obtain ⟨Kl,U,v,rfl,ok,hl,hcl⟩:=h2
 have ey:=ycc (i:=y) (s:=s.put x.d u) (s2:=s) fun t ht=>(ha.ypZ t ht).symm
 obtain ⟨l1,l2,l3⟩:=yu7 (i:=x) (s:=s) (v:=u)
 have hfree : ∀ {a : AV},(∀ j,j ∈ a.ids → 2 * j + 1 ∈ (yeF x s u).1) → a.kills Kl = a:=fun h=>ydT fun j hj hi=>hdis _ (h j hi) (ok.kl j hj)
 have ex : ∀ z,z ∈ x.op.xs → (s.act Kl U y.d v).ev z = s.ev z:=by
  intro z hz
  cases z with
  | t n =>
   show (s.act Kl U y.d v).env n = s.env n
   rw [yf3 fun e=>ha.yx n e (List.mem_append_right _ (List.mem_flatMap.2 ⟨_,hz,by simp [X.tm]⟩))]
   exact hfree fun j hj=>l2 _ hz j hj
  | k a=>rfl
 refine ⟨s.act Kl U y.d v,⟨Kl,U,v,rfl,⟨ok.kl,ok.up,fun s3 h3 h4 h5 K hK=>ok.again s3 (fun z hz=>(h3 z hz).trans (ey z hz)) (fun z hz j hj=>?_) (fun e he h6=>h5 e he (by rw [yaS] at h6; exact h6)) K hK⟩,fun j hj=>?_,hcl⟩,⟨u,?_,?_,(ygl ex).symm⟩⟩
 ·rw [yaS]; exact h4 z hz j (by rw [ey z hz]; exact hj)
 ·rcases hl j hj with ⟨z,hz,hj⟩ | h
  ·exact .inl ⟨z,hz,by rw [ey z hz]; exact hj⟩
  ·exact .inr h
 ·exact ywH ha.ne fun j hj hi=>hdis _ (l1 j hi) (ok.kl j hj)
 ·refine yd4 (ev:=s.ev) (ob:=s.objs) (fun t b hg=>?_) (fun H k hk'=>ygw hx ex ?_) hu
  ·show (s.act Kl U y.d v).env t = s.env t
   rw [yf3 fun e=>ha.yx t e (yff hg)]
   rcases yoc (hu (fun _=>True) trivial) t b hg with ⟨b',hb⟩ | hb
   ·have : s.env t = .c (.b b'):=hb
    rw [this]; exact ydT fun j _ hj=>by cases hj
   ·have : s.env t = .und:=hb
    rw [this]; exact ydT fun j _ hj=>by cases hj
  ·cases hm : yoJ x.op s with
   | true=>exact yxh hm (H k hk')
   | false =>
    refine ytt hx hcall (v:=u) (fun z hz i hi=>?_) H k hk'
    rw [yfs,yrH ok.kl ok.up (hdis _ (l2 z hz i hi)) (hdis _ (l3 hm z hz i hi))]
    exact yjY.kills fun j hj hi=>hdis _ (l1 j hi) (ok.kl j hj)
theorem yCR (hy : y.op.reads.isSome = true) (hcall : y.op.yaf = false) (ha : Apart x y) (hdis : ∀ j,j ∈ lx.1 → j ∉ ly.1) (hcly : ly.2 = true) (h1 : TrE P x lx s s1) (h2 : TrQ P y ly s1 s2) : ∃ s1',TrQ P y ly s s1' ∧ TrE P x lx s1' s2:=by
 obtain ⟨Kl,U,v,rfl,ok,hl,hcl⟩:=h1
 obtain ⟨u,rfl,hu,rfl⟩:=h2
 obtain ⟨l1,l2,l3⟩:=yu7 (i:=y) (s:=s.act Kl U x.d v) (v:=u)
 obtain ⟨c1,c2⟩:=yBt hcly
 have ey : ∀ z,z ∈ y.op.xs → s.ev z = (s.act Kl U x.d v).ev z:=by
  intro z hz
  cases z with
  | t n =>
   show s.env n = (s.act Kl U x.d v).env n
   have hn : x.d ≠ some n:=fun e=>ha.xy n e (List.mem_append_right _ (List.mem_flatMap.2 ⟨_,hz,by simp [X.tm]⟩))
   have hc : ((s.act Kl U x.d v).env n).cl = true:=c2 _ hz
   rw [yf3 hn] at hc ⊢
   exact (ygt hc).symm
  | k a=>rfl
 have ex:=ycc (i:=x) (s:=s) (s2:=s.put y.d u) fun t ht=>ha.yoW t ht
 refine ⟨s.put y.d u,⟨u,rfl,?_,(ygl ey).symm⟩,⟨Kl,U,v,?_,⟨ok.kl,ok.up,fun s3 h3 h4 h5 K hK=>ok.again s3 (fun z hz=>(h3 z hz).trans (ex z hz)) (fun z hz j hj=>?_) (fun e he h6=>h5 e he (by rw [yaS]; exact h6)) K hK⟩,fun j hj=>?_,hcl⟩⟩
 ·refine yd4 (fun t b hg=>?_) (fun H k hk'=>ygw hy ey ?_) hu
  ·show s.env t = (s.act Kl U x.d v).env t
   have hn : x.d ≠ some t:=fun e=>ha.xy t e (yff hg)
   have hc : ((s.act Kl U x.d v).env t).cl = true:=by
    rcases yoc (hu (fun _=>True) trivial) t b hg with ⟨b',hb⟩ | hb
    ·have : (s.act Kl U x.d v).env t = .c (.b b'):=hb
     rw [this]; rfl
    ·have : (s.act Kl U x.d v).env t = .und:=hb
     rw [this]; rfl
   rw [yf3 hn] at hc ⊢
   exact (ygt hc).symm
  ·cases hm : yoJ y.op (s.act Kl U x.d v) with
   | true=>exact yxh hm (H k hk')
   | false =>
    refine ytt hy hcall (v:=u) (fun z hz i hi=>?_) H k hk'
    rw [yfs,yrH ok.kl ok.up (fun h=>hdis _ h (l2 z hz i hi)) fun h=>hdis _ h (l3 hm z hz i hi)]
    exact yjY.yEh c1
 ·exact (ywH (fun t h h'=>ha.ne t h' h) fun j hj hi=>hdis _ (ok.kl j hj) (l1 j hi)).symm
 ·have:=h4 z hz j (by rw [ex z hz]; exact hj)
  rw [yaS] at this; exact this
 ·rcases hl j hj with ⟨z,hz,hj⟩ | h
  ·exact .inl ⟨z,hz,by rw [ex z hz]; exact hj⟩
  ·exact .inr h
theorem ylb {s : St} {e : Nat} {o : Obj} {u v : AV} {d : Option Nat} {Kl : List Nat} {U : List (Nat × Obj)} (hne : d ≠ some e) (hu : ∀ j,j ∈ u.ids → j = e) (hb : o.bare) (h1 : e ∉ Kl) (h2 : ∀ p,p ∈ U → p.1 ≠ e) :
 (⟨upd e u s.env,upd e o s.objs⟩ : St).act Kl U d v = ⟨upd e u (s.act Kl U d v).env,upd e o (s.act Kl U d v).objs⟩:=by
 refine St.ext' (fun t=>?_) fun i=>?_
 ·by_cases h : t = e
  ·subst h; rw [yf3 hne,yfB,yfB,ydT fun j hj hi=>h1 (hu j hi ▸ hj)]
  ·rw [new_ne h]
   by_cases h3 : d = some t
   ·rw [ysX h3,ysX h3]
   ·rw [yf3 h3,yf3 h3,new_ne h]
 ·rw [yfs]
  by_cases h : i = e
  ·subst h; rw [ydn,ydn,ylG h1 h2,yt0 hb]
  ·rw [ya3 h,ya3 h,yfs]
theorem yC7 (hs : Sound s) (hk : y.op.xs.all X.kok = true) (ha : Apart x y) (h1 : TrM P x lx s s1) (h2 : TrE P y ly s1 s2) : ∃ s1',TrE P y ly s s1' ∧ TrM P x lx s1' s2:=by
 obtain ⟨e,o,u,hd,h0,rfl,hb,hu,hxs,rfl,ag⟩:=h1
 obtain ⟨Kl,U,v,rfl,ok,hl,hcl⟩:=h2
 have ey:=ycc (i:=y) (s:=⟨upd e u s.env,upd e o s.objs⟩) (s2:=s) fun t ht=>(new_ne fun (h : t = e)=>ha.xy e hd (h ▸ ht)).symm
 have hc:=hs e h0
 have hne : y.d ≠ some e:=ha.ne e hd
 have hfr : ∀ z,z ∈ y.op.xs → e ∉ (s.ev z).ids:=fun z hz=>yho hc (List.all_eq_true.1 hk z hz)
 have hel : ¬ (2 * e ∈ ly.1 ∨ 2 * e + 1 ∈ ly.1):=by
  intro h
  rcases hl e h with ⟨z,hz,hj⟩ | h
  ·exact hfr z hz (by rw [ey z hz]; exact hj)
  ·exact hne h
 have hKl : e ∉ Kl:=fun h=>hel (.inr (ok.kl e h))
 have hU : ∀ p,p ∈ U → p.1 ≠ e:=fun p hp h=>hel (.inl (h ▸ ok.up p hp))
 have ex : ∀ z,z ∈ x.op.xs → (s.act Kl U y.d v).ev z = s.ev z:=by
  intro z hz
  cases z with
  | t n =>
   show (s.act Kl U y.d v).env n = s.env n
   rw [yf3 fun e=>ha.yx n e (List.mem_append_right _ (List.mem_flatMap.2 ⟨_,hz,by simp [X.tm]⟩))]
   have:=(hxs _ hz).1
   exact ydT fun j _ hj=>by rw [show (s.env n).ids = [] from this] at hj; cases hj
  | k a=>rfl
 refine ⟨s.act Kl U y.d v,⟨Kl,U,v,rfl,⟨ok.kl,ok.up,fun s3 h3 h4 h5 K hK=>ok.again s3 (fun z hz=>(h3 z hz).trans (ey z hz)) (fun z hz j hj=>?_) (fun f hf h6=>?_) K hK⟩,fun j hj=>?_,hcl⟩,
  ⟨e,o,u,hd,?_,ylb hne hu hb.1 hKl hU,hb,hu,fun z hz=>by rw [ex z hz]; exact hxs z hz,rfl,fun s3 h3 h4 K hK=>ag s3 (fun z hz=>(h3 z hz).trans (ex z hz)) h4 K hK⟩⟩
 ·rw [← ey z hz] at hj
  rw [ya3 fun (h : j = e)=>hfr z hz (h ▸ hj)]
  exact h4 z hz j hj
 ·have hfe : f ≠ e:=fun h=>hne (h ▸ hf)
  rw [ya3 hfe] at h6
  exact h5 f hf h6
 ·rcases hl j hj with ⟨z,hz,hj⟩ | h
  ·exact .inl ⟨z,hz,by rw [ey z hz]; exact hj⟩
  ·exact .inr h
 ·rw [yfs,h0,ylG hKl hU,Obj.ydP]
theorem yD5 (hs : Sound s) (hk : x.op.xs.all X.kok = true) (ha : Apart x y) (hdis : ∀ j,j ∈ lx.1 → j ∉ ly.1) (h1 : TrE P x lx s s1) (h2 : TrM P y ly s1 s2) : ∃ s1',TrM P y ly s s1' ∧ TrE P x lx s1' s2:=by
 obtain ⟨Kl,U,v,rfl,ok,hl,hcl⟩:=h1
 obtain ⟨e,o,u,hd,h0,rfl,hb,hu,hxs,rfl,ag⟩:=h2
 have hel : 2 * e ∉ lx.1:=fun h=>hdis _ h (List.mem_append_left _ (ysW.2 (by simp [hd])))
 have hel2 : 2 * e + 1 ∉ lx.1:=fun h=>hdis _ h (List.mem_append_right _ (yqi.2 (by simp [hd])))
 have hKl : e ∉ Kl:=fun h=>hel2 (ok.kl e h)
 have hU : ∀ p,p ∈ U → p.1 ≠ e:=fun p hp h=>hel (h ▸ ok.up p hp)
 rw [yfs,ylG hKl hU] at h0
 have h0' : s.objs e = .none:=by
  cases ho : s.objs e with
  | none=>rfl
  | _=>exact absurd h0 ((Obj.ydO _ _).2 (by rw [ho]; simp))
 have hc:=hs e h0'
 have hne : x.d ≠ some e:=fun h=>ha.ne e h hd
 have hfr : ∀ z,z ∈ x.op.xs → e ∉ (s.ev z).ids:=fun z hz=>yho hc (List.all_eq_true.1 hk z hz)
 have ey : ∀ z,z ∈ y.op.xs → s.ev z = (s.act Kl U x.d v).ev z:=by
  intro z hz
  cases z with
  | t n =>
   show s.env n = (s.act Kl U x.d v).env n
   have hn : x.d ≠ some n:=fun e=>ha.xy n e (List.mem_append_right _ (List.mem_flatMap.2 ⟨_,hz,by simp [X.tm]⟩))
   have hc : ((s.act Kl U x.d v).env n).cl = true:=(hxs _ hz).2
   rw [yf3 hn] at hc ⊢
   exact (ygt hc).symm
  | k a=>rfl
 have ex:=ycc (i:=x) (s:=s) (s2:=⟨upd e u s.env,upd e o s.objs⟩) fun t ht=>new_ne fun h=>ha.yx e hd (h ▸ ht)
 refine ⟨⟨upd e u s.env,upd e o s.objs⟩,⟨e,o,u,hd,h0',rfl,hb,hu,fun z hz=>by rw [ey z hz]; exact hxs z hz,rfl,fun s3 h3 h4 K hK=>ag s3 (fun z hz=>(h3 z hz).trans (ey z hz)) h4 K hK⟩,
  ⟨Kl,U,v,(ylb hne hu hb.1 hKl hU).symm,⟨ok.kl,ok.up,fun s3 h3 h4 h5 K hK=>ok.again s3 (fun z hz=>(h3 z hz).trans (ex z hz)) (fun z hz j hj=>?_) (fun f hf h6=>?_) K hK⟩,fun j hj=>?_,hcl⟩⟩
 ·have:=h4 z hz j (by rw [ex z hz]; exact hj)
  rw [ya3 fun (h : j = e)=>hfr z hz (h ▸ hj)] at this
  exact this
 ·have hfe : f ≠ e:=fun h=>hne (h ▸ hf)
  exact h5 f hf (by rw [ya3 hfe]; exact h6)
 ·rcases hl j hj with ⟨z,hz,hj⟩ | h
  ·exact .inl ⟨z,hz,by rw [ex z hz]; exact hj⟩
  ·exact .inr h
end
theorem yw2 {d : Nat} {c : C} : ∀ p,p ∈ c.ya6 d → p.2.bare ∧ p.2 ≠ .none:=by
 intro p hp
 cases c <;> simp only [C.ya6,List.not_mem_nil,List.mem_singleton] at hp <;> first | exact hp.elim | skip
 ·subst hp; exact ⟨trivial,by simp⟩
 ·subst hp; exact ⟨trivial,by simp⟩
 ·split at hp
  ·rw [List.mem_singleton] at hp
   subst hp
   refine ⟨fun x hx=>?_,by simp⟩
   obtain ⟨c,_,rfl⟩:=List.mem_map.1 hx
   rfl
  ·cases hp
theorem yva {d : Nat} : ∀ {l : List C} {j : Nat} (p : Nat × Obj),p ∈ ydw d j l → p.2.bare ∧ p.2 ≠ .none
 | [],_,p,hp=>by cases hp
 | c :: l,j,p,hp=>by
  rcases List.mem_append.1 hp with h | h
  ·exact yw2 p h
  ·exact yva p h
theorem ytI {d : Nat} {x : AV} : ∀ p,p ∈ x.yfX d → p.2.bare ∧ p.2 ≠ .none:=by
 intro p hp
 cases x <;> simp only [AV.yfX,List.not_mem_nil] at hp <;> first | exact hp.elim | skip
 ·exact yw2 p hp
 ·exact yva p hp
theorem yuA {d : Nat} : ∀ {l : List AV} {j : Nat} (p : Nat × Obj),p ∈ yiw d j l → p.2.bare ∧ p.2 ≠ .none
 | [],_,p,hp=>by cases hp
 | c :: l,j,p,hp=>by
  rcases List.mem_append.1 hp with h | h
  ·exact ytI p h
  ·exact yuA p h
theorem ys8 {d : Nat} {x : AV} : ∀ p,p ∈ x.ya6 d → p.2.bare ∧ p.2 ≠ .none:=by
 intro p hp
 cases x
 case tup l=>exact yuA p hp
 all_goals (simp only [AV.ya6] at hp; exact ytI p hp)
theorem yrU {l : List (Nat × Obj)} {i : Nat} (h : i ∈ l.map (·.1)) : ∃ p,p ∈ l ∧ p.1 = i:=by
 obtain ⟨p,hp,e⟩:=List.mem_map.1 h
 exact ⟨p,hp,e⟩
theorem ybF {s : St} {d t : Nat} {res : AV} (h : t ≠ d) : (s.take d res).env t = s.env t:=by
 show upd d _ s.env t = _; rw [yaq,if_neg h]
theorem ydF {s : St} {d : Nat} {res : AV} : (s.take d res).env d = res.unp d:=by
 show upd d _ s.env d = _; rw [yaq,if_pos rfl]
theorem ybR {s : St} {d i : Nat} {res : AV} (h : i ∉ (res.ya6 d).map (·.1)) : (s.take d res).objs i = s.objs i:=yeW h
theorem yh4 {s : St} {d : Nat} {res : AV} (hn : ((res.ya6 d).map (·.1)).Nodup) {p : Nat × Obj} (hp : p ∈ res.ya6 d) : (s.take d res).objs p.1 = p.2:=yeL hn p hp
theorem yhE {O O' : Nat → Obj} {i : Nat} (h : O i = O' i) : ∀ {l : List (Nat × Obj)},yaL O l i = yaL O' l i
 | []=>h
 | (k,o) :: l=>by
  show upd k o _ i = upd k o _ i
  rw [yaq,yaq,yhE h]
theorem yue {s : St} {x : Option Nat} {d : Nat} {u res : AV} (h : x ≠ some d) : (s.put x u).take d res = (s.take d res).put x u:=by
 refine St.ext' (fun t=>?_) fun i=>by
  rw [yaS]
  show yaL (s.put x u).objs _ i = yaL s.objs _ i
  rw [yaS]
 by_cases h1 : t = d
 ·subst h1; rw [ydF,ydi h,ydF]
 ·rw [ybF h1]
  by_cases h2 : x = some t
  ·rw [put_eq h2,put_eq h2]
  ·rw [ydi h2,ydi h2,ybF h1]
section
variable {P : Program} {x y : Ins} {s s1 s2 : St} {lx ly : Lab} {d d' : Nat} {res res' : AV} {f f' : Nat} {xs xs' : List X} {args args' : List AV}
theorem MakeP.at (h : MakeP P x s d res f xs args) {s2 : St} (he : ∀ z,z ∈ x.op.xs → s2.ev z = s.ev z) (ho : ybD s (xs.map s.ev) args → ybD s2 (xs.map s.ev) args) (hf : yU s2 (res.ya6 d)) : MakeP P x s2 d res f xs args:=by
 have e : xs.map s2.ev = xs.map s.ev:=List.map_congr_left fun z hz=>he z (by rw [h.opr]; exact hz)
 exact ⟨h.gd,h.dst,h.opr,h.own,by rw [e]; exact ho h.outs,by rw [e]; exact h.cl,hf⟩
theorem MakeP.yr7 (hs : Sound s) (h : MakeP P x s d res f xs args) (hk : x.op.xs.all X.kok = true) {e : Nat} (h0 : s.objs e = .none) : ∀ a,a ∈ xs.map s.ev → e ∉ a.ybz:=by
 intro a ha hc
 obtain ⟨z,hz,rfl⟩:=List.mem_map.1 ha
 exact yho (hs e h0) (List.all_eq_true.1 hk z (by rw [h.opr]; exact hz)) (ydB hc)
theorem MakeP.none (h : MakeP P x s d res f xs args) {i : Nat} (hi : i ∈ (res.ya6 d).map (·.1)) : s.objs i = .none:=by
 obtain ⟨p,hp,rfl⟩:=yrU hi
 exact h.fresh.1 p hp
theorem MakeP.cells (hs : Sound s) (h : MakeP P x s d res f xs args) : ∀ i cells,(s.take d res).objs i = .box cells → ∀ z,z ∈ cells → ∀ j,j ∈ z.ya8 → ¬ j ∈ (res.ya6 d).map (·.1):=by
 intro i cells hi z hz j hj hE
 by_cases hc : i ∈ (res.ya6 d).map (·.1)
 ·obtain ⟨p,hp,rfl⟩:=yrU hc
  rw [yh4 h.fresh.2 hp] at hi
  have:=(ys8 p hp).1
  rw [hi] at this
  have h2:=ycd hj
  rw [this z hz] at h2; cases h2
 ·rw [ybR hc] at hi
  exact (hs j (h.none hE)).2 i cells hi z hz hj
theorem MakeP.yAd (hs : Sound s) (h : MakeP P x s d res f xs args) : ∀ i cells,s.objs i = .box cells → ∀ z,z ∈ cells → ∀ j,j ∈ z.ya8 → ¬ j ∈ (res.ya6 d).map (·.1) :=
 fun i cells hi z hz j hj hE=>(hs j (h.none hE)).2 i cells hi z hz hj
theorem yD9 (hs : Sound s) (hx : x.op.reads.isSome = true) (hk : x.op.xs.all X.kok = true) (ha : Apart x y) (h1 : TrQ P x lx s s1) (h2 : TrN P y s1 s2) : ∃ s1',TrN P y s s1' ∧ TrQ P x lx s1' s2:=by
 obtain ⟨u,rfl,hu,rfl⟩:=h1
 obtain ⟨d,res,f,xs,args,hm,rfl⟩:=h2
 have ey:=ycc (i:=y) (s:=s.put x.d u) (s2:=s) fun t ht=>(ha.ypZ t ht).symm
 have hm' : MakeP P y s d res f xs args:=hm.at ey (fun h=>by rw [← ydC] at h ⊢; rw [yaS] at h; exact h) ⟨fun p hp=>by have:=hm.fresh.1 p hp; show s.objs p.1 = _; rw [← yaS (s:=s) (d:=x.d) (v:=u)]; exact this,hm.fresh.2⟩
 have hne : x.d ≠ some d:=fun h=>ha.ne d h hm.dst
 have ev : ∀ t,t ∈ x.rdx → (s.take d res).env t = s.env t:=fun t ht=>ybF fun h=>ha.yx d hm.dst (h ▸ ht)
 have ex:=ycc (i:=x) ev
 refine ⟨s.take d res,⟨d,res,f,xs,args,hm',rfl⟩,⟨u,yue hne,?_,(ygl ex).symm⟩⟩
 refine yd4 (ev:=s.ev) (ob:=s.objs) (fun t b hg=>ev t (yff hg)) (fun H k hk'=>ygw hx ex ?_) hu
 exact yo9 hx (E:=fun i=>i ∈ (res.ya6 d).map (·.1)) (fun i hi=>ybR hi) (hm'.yAd hs) (fun z hz j hj hE=>yho (hs j (hm'.none hE)) (List.all_eq_true.1 hk z hz) hj) H k hk'
theorem yCV (hs : Sound s) (hy : y.op.reads.isSome = true) (hk : y.op.xs.all X.kok = true) (ha : Apart x y) (h1 : TrN P x s s1) (h2 : TrQ P y ly s1 s2) : ∃ s1',TrQ P y ly s s1' ∧ TrN P x s1' s2:=by
 obtain ⟨d,res,f,xs,args,hm,rfl⟩:=h1
 obtain ⟨u,rfl,hu,rfl⟩:=h2
 have ev : ∀ t,t ∈ y.rdx → s.env t = (s.take d res).env t:=fun t ht=>(ybF fun (h : t = d)=>ha.xy d hm.dst (h ▸ ht)).symm
 have ey:=ycc (i:=y) ev
 have ex:=ycc (i:=x) (s:=s) (s2:=s.put y.d u) fun t ht=>ha.yoW t ht
 have hne : y.d ≠ some d:=ha.ne d hm.dst
 refine ⟨s.put y.d u,⟨u,rfl,?_,(ygl ey).symm⟩,⟨d,res,f,xs,args,hm.at ex (fun h=>by rw [← ydC] at h ⊢; rw [yaS]; exact h) ⟨fun p hp=>by have:=hm.fresh.1 p hp; show (s.put y.d u).objs p.1 = _; rw [yaS]; exact this,hm.fresh.2⟩,(yue hne).symm⟩⟩
 refine yd4 (ev:=(s.take d res).ev) (fun t b hg=>ev t (yff hg)) (fun H k hk'=>ygw hy ey ?_) hu
 exact yo9 hy (E:=fun i=>i ∈ (res.ya6 d).map (·.1)) (fun i hi=>(ybR hi).symm) (hm.cells hs) (fun z hz j hj hE=>yho (hs j (hm.none hE)) (List.all_eq_true.1 hk z hz) (by rw [ey z hz]; exact hj)) H k hk'
theorem yEw (hs : Sound s) (hkx : x.op.xs.all X.kok = true) (hk : y.op.xs.all X.kok = true) (ha : Apart x y) (h1 : TrN P x s s1) (h2 : TrN P y s1 s2) : ∃ s1',TrN P y s s1' ∧ TrN P x s1' s2:=by
 obtain ⟨d,res,f,xs,args,hm,rfl⟩:=h1
 obtain ⟨d',res',f',xs',args',hm',rfl⟩:=h2
 have hne : d ≠ d':=fun h=>ha.ne d hm.dst (h ▸ hm'.dst)
 have ey:=ycc (i:=y) (s:=s.take d res) (s2:=s) fun t ht=>(ybF fun (h : t = d)=>ha.xy d hm.dst (h ▸ ht)).symm
 have ex:=ycc (i:=x) (s:=s) (s2:=s.take d' res') fun t ht=>ybF fun (h : t = d')=>ha.yx d' hm'.dst (h ▸ ht)
 have hdis : ∀ i,i ∈ (res'.ya6 d').map (·.1) → i ∉ (res.ya6 d).map (·.1):=by
  intro i hi hc
  have h1:=hm'.none hi
  obtain ⟨p,hp,rfl⟩:=yrU hc
  rw [yh4 hm.fresh.2 hp] at h1
  exact (ys8 p hp).2 h1
 have hfr : ∀ i,i ∈ (res'.ya6 d').map (·.1) → s.objs i = .none:=by
  intro i hi
  have h1:=hm'.none hi
  rwa [ybR (hdis i hi)] at h1
 have hmap : xs'.map (s.take d res).ev = xs'.map s.ev:=List.map_congr_left fun z hz=>(ey z (by rw [hm'.opr]; exact hz)).symm
 have hy : MakeP P y s d' res' f' xs' args':=hm'.at ey (fun h=>by
  rw [← ydC] at h ⊢
  refine ycO (E:=fun i=>i ∈ (res.ya6 d).map (·.1)) (fun i hi=>(ybR hi).symm) (hm.cells hs) (fun a ha' j hj hE=>?_) h
  rw [hmap] at ha'
  obtain ⟨z,hz,rfl⟩:=List.mem_map.1 ha'
  exact yho (hs j (hm.none hE)) (List.all_eq_true.1 hk z (by rw [hm'.opr]; exact hz)) (ydB hj)) ⟨fun p hp=>hfr p.1 (List.mem_map_of_mem hp),hm'.fresh.2⟩
 refine ⟨s.take d' res',⟨d',res',f',xs',args',hy,rfl⟩,⟨d,res,f,xs,args,hm.at ex (fun h=>?_) ⟨fun p hp=>?_,hm.fresh.2⟩,?_⟩⟩
 ·rw [← ydC] at h ⊢
  exact ycO (E:=fun i=>i ∈ (res'.ya6 d').map (·.1)) (fun i hi=>ybR hi) (hy.yAd hs) (fun a ha' j hj hE=>hm.yr7 hs hkx (hy.none hE) a ha' hj) h
 ·show (s.take d' res').objs p.1 = _
  rw [ybR fun h=>hdis _ h (List.mem_map_of_mem hp)]
  exact hm.fresh.1 p hp
 ·refine St.ext' (fun t=>?_) fun i=>?_
  ·by_cases h1 : t = d
   ·subst h1; rw [ybF hne,ydF,ydF]
   ·by_cases h2 : t = d'
    ·subst h2; rw [ydF,ybF h1,ydF]
    ·rw [ybF h2,ybF h1,ybF h1,ybF h2]
  ·by_cases h1 : i ∈ (res.ya6 d).map (·.1)
   ·have h2 : i ∉ (res'.ya6 d').map (·.1):=fun h=>hdis i h h1
    rw [ybR h2]
    obtain ⟨p,hp,rfl⟩:=yrU h1
    rw [yh4 hm.fresh.2 hp,yh4 hm.fresh.2 hp]
   ·rw [ybR (s:=s.take d' res') h1]
    by_cases h2 : i ∈ (res'.ya6 d').map (·.1)
    ·obtain ⟨p,hp,rfl⟩:=yrU h2
     rw [yh4 hm'.fresh.2 hp,yh4 hm'.fresh.2 hp]
    ·rw [ybR h2,ybR h1,ybR h2]
theorem yCJ (hs : Sound s) (hkx : x.op.xs.all X.kok = true) (ha : Apart x y) (h1 : TrN P x s s1) (h2 : TrM P y ly s1 s2) : ∃ s1',TrM P y ly s s1' ∧ TrN P x s1' s2:=by
 obtain ⟨d,res,f,xs,args,hm,rfl⟩:=h1
 obtain ⟨e,o,v,hd,h0,rfl,hb,hv,hxs,rfl,ag⟩:=h2
 have hne : d ≠ e:=fun h=>ha.ne d hm.dst (h ▸ hd)
 have hE : e ∉ (res.ya6 d).map (·.1):=by
  intro hc
  obtain ⟨p,hp,rfl⟩:=yrU hc
  rw [yh4 hm.fresh.2 hp] at h0
  exact (ys8 p hp).2 h0
 rw [ybR hE] at h0
 have ey:=ycc (i:=y) (s:=s.take d res) (s2:=s) fun t ht=>(ybF fun (h : t = d)=>ha.xy d hm.dst (h ▸ ht)).symm
 have ex:=ycc (i:=x) (s:=s) (s2:=⟨upd e v s.env,upd e o s.objs⟩) fun t ht=>new_ne fun h=>ha.yx e hd (h ▸ ht)
 refine ⟨⟨upd e v s.env,upd e o s.objs⟩,⟨e,o,v,hd,h0,rfl,hb,hv,fun z hz=>by rw [ey z hz]; exact hxs z hz,rfl,fun s3 h3 h4 K hK=>ag s3 (fun z hz=>(h3 z hz).trans (ey z hz)) h4 K hK⟩,
  ⟨d,res,f,xs,args,hm.at ex (fun h=>?_) ⟨fun p hp=>?_,hm.fresh.2⟩,?_⟩⟩
 ·rw [← ydC] at h ⊢
  exact ycO (E:=fun i=>i = e) (fun i hi=>ya3 hi) (fun i cells hi z hz j hj hc=>(hs e h0).2 i cells hi z hz (hc ▸ hj)) (fun a ha' j hj hc=>hm.yr7 hs hkx h0 a ha' (hc ▸ hj)) h
 ·show (⟨upd e v s.env,upd e o s.objs⟩ : St).objs p.1 = _
  rw [ya3 fun (h : p.1 = e)=>hE (h ▸ List.mem_map_of_mem hp)]
  exact hm.fresh.1 p hp
 ·refine St.ext' (fun t=>?_) fun i=>?_
  ·by_cases h1 : t = e
   ·subst h1; rw [yfB,ybF (Ne.symm hne),yfB]
   ·rw [new_ne h1]
    by_cases h2 : t = d
    ·subst h2; rw [ydF,ydF]
    ·rw [ybF h2,ybF h2,new_ne h1]
  ·by_cases h1 : i = e
   ·subst h1; rw [ydn,ybR hE,ydn]
   ·rw [ya3 h1]
    exact yhE (ya3 h1).symm
theorem yEp (hs : Sound s) (hk : y.op.xs.all X.kok = true) (ha : Apart x y) (h1 : TrM P x lx s s1) (h2 : TrN P y s1 s2) : ∃ s1',TrN P y s s1' ∧ TrM P x lx s1' s2:=by
 obtain ⟨e,o,v,hd,h0,rfl,hb,hv,hxs,rfl,ag⟩:=h1
 obtain ⟨d,res,f,xs,args,hm,rfl⟩:=h2
 have hne : d ≠ e:=fun h=>ha.ne e hd (h ▸ hm.dst)
 have hE : e ∉ (res.ya6 d).map (·.1):=by
  intro hc
  have h3:=hm.none hc
  rw [ydn] at h3
  exact hb.2 h3
 have ey:=ycc (i:=y) (s:=⟨upd e v s.env,upd e o s.objs⟩) (s2:=s) fun t ht=>(new_ne fun (h : t = e)=>ha.xy e hd (h ▸ ht)).symm
 have ex:=ycc (i:=x) (s:=s) (s2:=s.take d res) fun t ht=>ybF fun (h : t = d)=>ha.yx d hm.dst (h ▸ ht)
 have hmap : xs.map (⟨upd e v s.env,upd e o s.objs⟩ : St).ev = xs.map s.ev:=List.map_congr_left fun z hz=>(ey z (by rw [hm.opr]; exact hz)).symm
 have hy : MakeP P y s d res f xs args:=hm.at ey (fun h=>by
  rw [← ydC] at h ⊢
  refine ycO (E:=fun i=>i = e) (fun i hi=>(ya3 hi).symm) (fun i cells hi z hz j hj hc=>?_) (fun a ha' j hj hc=>?_) h
  ·subst hc
   by_cases h4 : i = j
   ·subst h4
    rw [ydn] at hi
    subst hi
    have h5:=ycd hj
    rw [hb.1 z hz] at h5; cases h5
   ·rw [ya3 h4] at hi
    exact (hs j h0).2 i cells hi z hz hj
  ·subst hc
   rw [hmap] at ha'
   obtain ⟨z,hz,rfl⟩:=List.mem_map.1 ha'
   exact yho (hs j h0) (List.all_eq_true.1 hk z (by rw [hm.opr]; exact hz)) (ydB hj)) ⟨fun p hp=>by
   have h3:=hm.fresh.1 p hp
   have h4 : (⟨upd e v s.env,upd e o s.objs⟩ : St).objs p.1 = .none:=h3
   rwa [ya3 fun (h : p.1 = e)=>hE (h ▸ List.mem_map_of_mem hp)] at h4,hm.fresh.2⟩
 refine ⟨s.take d res,⟨d,res,f,xs,args,hy,rfl⟩,⟨e,o,v,hd,by rw [ybR hE]; exact h0,?_,hb,hv,fun z hz=>by rw [ex z hz]; exact hxs z hz,rfl,fun s3 h3 h4 K hK=>ag s3 (fun z hz=>(h3 z hz).trans (ex z hz)) h4 K hK⟩⟩
 refine St.ext' (fun t=>?_) fun i=>?_
 ·by_cases h1 : t = e
  ·subst h1; rw [ybF (Ne.symm hne),yfB,yfB]
  ·rw [new_ne h1]
   by_cases h2 : t = d
   ·subst h2; rw [ydF,ydF]
   ·rw [ybF h2,ybF h2,new_ne h1]
 ·by_cases h1 : i = e
  ·subst h1; rw [ybR hE,ydn,ydn]
  ·rw [ya3 h1]
   exact yhE (ya3 h1)
end
end Go.Proofs.YtpiplmnecmkafaaGreat
namespace Go.Proofs.YtpiplmnecmkafaaGreat
open Go.RowKit
def TrS (P : Program) (i : Ins) (s s' : St) : Prop :=
 match i.g with
 | none=>False
 | some (t,want)=>ydy (s.env t) want (∀ K : St → Prop,K s' → yV P i.d i.op s K) (s' = s.put i.d .und)
def Tr (P : Program) (r : RIns) (lab : Lab) (s s' : St) : Prop :=
 match r.k with
 | 0=>TrQ P r.i lab s s' ∨ TrN P r.i s s'
 | 1=>TrM P r.i lab s s'
 | 2=>TrE P r.i lab s s'
 | _=>TrS P r.i s s'
def yf5 (a b : Lab) : Bool:=(a.1.all fun i=>!b.1.contains i) && b.2
def Run (P : Program) (rs : List RIns) (lab : Nat → Lab) : List Nat → St → St → Prop
 | [],s,sf=>s = sf
 | j :: L,s,sf=>∃ r s1,rs[j]? = some r ∧ Tr P r (lab j) s s1 ∧ Run P rs lab L s1 sf
def yfl (chk : List Nat) (h : List (Nat × Lab)) (lab : Lab) : Bool:=chk.all fun i=>yf5 (look ([],true) h i) lab
def ycn (b : Bool) (n : Nat) (lab : Lab) (h : List (Nat × Lab)) : List (Nat × Lab):=if b then (n,lab) :: h else h
def yw6 (P : Program) (i : Ins) (s : St) (K : Lab → St → Prop) : Prop:=∃ lab s',TrE P i lab s s' ∧ K lab s'
def wpE (P : Program) : Nat → List RIns → List (Nat × Lab) → St → (St → Prop) → Prop
 | _,[],_,s,K=>K s
 | n,r :: l,h,s,K =>
  match r.k with
  | 0=>(yhl P r.i s.ev s.objs fun v=>yfl r.chk h (yeF r.i s v) = true ∧ wpE P (n + 1) l (ycn r.note n (yeF r.i s v) h) (s.put r.i.d v) K) ∨
      mkE P r.i s fun s'=>yfl r.chk h ([],true) = true ∧ wpE P (n + 1) l (ycn r.note n ([],true) h) s' K
  | 1=>yfl r.chk h (yyb r.i) = true ∧ yfk P r.i.d r.i.op s fun s'=>wpE P (n + 1) l (ycn r.note n (yyb r.i) h) s' K
  | 2=>if r.i.op.yaf then yw6 P r.i s fun lab s'=>yfl r.chk h lab = true ∧ wpE P (n + 1) l (ycn r.note n lab h) s' K
   else yfl r.chk h (ysi r.i s) = true ∧ yV P r.i.d r.i.op s fun s'=>wpE P (n + 1) l (ycn r.note n (ysi r.i s) h) s' K
  | _=>∃ s',TrS P r.i s s' ∧ yfl r.chk h ([],true) = true ∧ wpE P (n + 1) l (ycn r.note n ([],true) h) s' K
section
variable {P : Program} {g : Ghost} {N : Nat} {s : St} {a : Act} {w : World} {blk : Lay} {ops : Array Oper}
theorem yzD {op : IOp} (h : op.yzE = true) : op.yaf = false:=by cases op <;> first | rfl | cases h
theorem ynU {r : RIns} (h : r.ok = true) : r.i.op.xs.all X.kok = true ∧
 ((r.k = 0 ∧ r.i.op.reads.isSome = true) ∨ (r.k = 1 ∧ r.i.g = none ∧ r.i.op.isMk = true ∧ r.i.d.isSome = true) ∨ (r.k = 2 ∧ r.i.g = none ∧ (r.i.op.yaf = true ∨ (r.i.op.yaf = false ∧ r.i.op.yi2 = true))) ∨ r.k = 3):=by
 unfold RIns.ok at h
 rw [Bool.and_eq_true] at h
 refine ⟨h.2,?_⟩
 have h1:=h.1
 rw [Bool.or_eq_true,Bool.or_eq_true] at h1
 rcases h1 with (h1 | h1) | h1
 case inr =>
  simp only [Bool.and_eq_true,beq_iff_eq] at h1
  exact .inr (.inr (.inr h1.1.1))
 case inl.inr =>
  simp only [Bool.and_eq_true,beq_iff_eq] at h1
  refine .inr (.inr (.inl ⟨h1.1.1,by simpa using h1.1.2,?_⟩))
  cases hc : r.i.op.yaf with
  | true=>exact .inl rfl
  | false =>
   have h2:=h1.2
   rw [hc] at h2
   exact .inr ⟨rfl,by simp [IOp.yi2,show r.i.op.ywQ = true by simpa using h2]⟩
 unfold Ins.kind at h1
 split at h1
 ·rename_i e
  simp only [beq_iff_eq,Option.some.injEq] at h1
  exact .inl ⟨h1.symm,e⟩
 ·split at h1
  ·rename_i e
   simp only [beq_iff_eq,Option.some.injEq] at h1
   simp only [Bool.and_eq_true] at e
   exact .inr (.inl ⟨h1.symm,by simpa using e.1.1,e.1.2,e.2⟩)
  ·split at h1
   ·rename_i e
    simp only [beq_iff_eq,Option.some.injEq] at h1
    simp only [Bool.and_eq_true] at e
    exact .inr (.inr (.inl ⟨h1.symm,by simpa using e.1,.inr ⟨yzD e.2,by simp [IOp.yi2,e.2]⟩⟩))
   ·simp at h1
theorem yo2 {i : Ins} (h : i.op.reads.isSome = true) : ∃ l,i.reads = some l:=by
 obtain ⟨l,hl⟩:=Option.isSome_iff_exists.1 h
 unfold Ins.reads
 rw [hl]
 exact ⟨_,rfl⟩
theorem yCd (hN : g.N = N) (h : Repr g s a w blk) {o : Oper} {r : RIns} (hc : yeq P N ops o = some r.i) (hok : r.ok = true) {lab : Lab} {s' : St} (ht : Tr P r lab s s') :
 (Region.wanted o (yielded ops a.tmps) = true ∧ yN P g o a w (fun s2=>s2 = s')) ∨ (Region.wanted o (yielded ops a.tmps) = false ∧ Repr g s' (a.put o.dst undef) w blk):=by
 obtain ⟨hd0,op,hop,hid,hiop,hg⟩:=ymL hc
 have hd : ∀ d,o.dst = some d → d < g.N:=by rw [hN]; exact hd0
 have noguard : r.i.g = none → yV P o.dst op s (fun s2=>s2 = s') → Region.wanted o (yielded ops a.tmps) = true ∧ yN P g o a w (fun s2=>s2 = s'):=by
  intro e hst
  rcases hg with ⟨e1,e2⟩ | ⟨j,want,t,e1,e2,htl,e3⟩
  ·exact ⟨by simp [Region.wanted,e1],step_ok h hd hop hst⟩
  ·rw [e] at e3; cases e3
 obtain ⟨hk,hkind⟩:=ynU hok
 unfold Tr at ht
 rcases hkind with ⟨e,h1⟩ | ⟨e,h1,h2,h3⟩ | ⟨e,h1,h2⟩ | e
 ·rw [e] at ht
  rcases ht with ht | ht
  ·obtain ⟨v,rfl,hv,_⟩:=ht
   obtain ⟨l,hl⟩:=yo2 h1
   exact yon hN h hc hl hv
  ·obtain ⟨d,res,f,xs,args,hm,rfl⟩:=ht
   refine .inl (noguard hm.gd ?_)
   rw [← hid,← hiop]
   exact hm.step rfl
 ·rw [e] at ht
  obtain ⟨q,ob,v,hdq,h0,rfl,_,_,_,_,ag⟩:=ht
  refine .inl (noguard h1 ?_)
  rw [← hid,← hiop]
  exact ywb (ag s (fun _ _=>rfl) h0 _ rfl)
 ·rw [e] at ht
  obtain ⟨Kl,U,v,rfl,ok,_⟩:=ht
  refine .inl (noguard h1 ?_)
  rw [← hid,← hiop]
  exact ok.again s (fun _ _=>rfl) (fun _ _ _ _=>rfl) (fun _ _ h=>h) _ rfl
 ·rw [e] at ht
  replace ht : TrS P r.i s s':=ht
  unfold TrS at ht
  rcases hg with ⟨e1,e2⟩ | ⟨j,want,t,e1,e2,htl,e3⟩
  ·rw [e2] at ht; exact ht.elim
  ·rw [e3] at ht
   simp only at ht
   have hen:=h.at_ htl
   have hy : ∀ v : Bool,a.tmps.getD t undef = .bool v → yielded ops a.tmps j = some v:=by
    intro v hv
    unfold yielded
    rw [e2]
    simp only [Option.bind_some]
    have : a.tmps[t]? = some (.bool v):=by
     rw [Array.getD_eq_getD_getElem?] at hv
     cases hq : a.tmps[t]? with
     | none=>rw [hq] at hv; simp [undef] at hv
     | some u=>rw [hq] at hv; simp at hv; rw [hv]
    rw [this]
   unfold ydy at ht
   split at ht
   ·rename_i v hvv
    rw [hvv] at hen
    have hb:=hen.bool
    by_cases e : v = want
    ·refine .inl ⟨by simp [Region.wanted,e1,hy v hb,e],step_ok h hd hop ?_⟩
     rw [← hid,← hiop]
     exact ht.1 e _ rfl
    ·have hr:=ht.2 (by cases v <;> cases want <;> simp_all)
     refine .inr ⟨by simp [Region.wanted,e1,hy v hb,e],?_⟩
     rw [hr,hid]
     exact h.put hd (v:=undef) (x:=.und) (show undef = undef from rfl)
   ·rename_i hvv
    rw [hvv] at hen
    have hu : a.tmps.getD t undef = undef:=hen
    have hyn : yielded ops a.tmps j = none:=by
     unfold yielded
     rw [e2]
     simp only [Option.bind_some]
     cases hq : a.tmps[t]? with
     | none=>rfl
     | some u =>
      have : u = undef:=by rw [Array.getD_eq_getD_getElem?,hq] at hu; simpa using hu
      rw [this]; rfl
    refine .inr ⟨by simp [Region.wanted,e1,hyn],?_⟩
    rw [ht,hid]
    exact h.put hd (v:=undef) (x:=.und) (show undef = undef from rfl)
   ·exact ht.elim
theorem yw3 (hN : g.N = N) (h : Repr g s a w blk) {o : Oper} {r : RIns} (hc : yeq P N ops o = some r.i) (hok : r.ok = true) {lab : Lab} {s' : St} (ht : Tr P r lab s s') : ∃ a' w' blk',Repr g s' a' w' blk':=by
 rcases yCd (ops:=ops) hN h hc hok ht with ⟨_,ho⟩ | ⟨_,ho⟩
 ·obtain ⟨s2,a',w',blk',e,hr⟩:=ho.some_
  rw [e] at hr
  exact ⟨a',w',blk',hr⟩
 ·exact ⟨_,_,_,ho⟩
structure RegInfo (P : Program) (N : Nat) (ops : Array Oper) (rs : List RIns) (anc : List Nat) : Prop where
 len : rs.length = ops.size
 ins : ∀ (j : Nat) (o : Oper),ops[j]? = some o → ∃ r,rs[j]? = some r ∧ yeq P N ops o = some r.i
 ok : ∀ (j : Nat) (r : RIns),rs[j]? = some r → r.ok = true
 back : ∀ (j : Nat) (o : Oper),ops[j]? = some o → ∀ e ∈ o.after,Region.binds .any e = true → e.on < j
 pair : ∀ (i j : Nat) (x y : RIns),i < j → rs[i]? = some x → rs[j]? = some y → (anc.getD j 0).testBit i = true ∨ yfY x y = some true ∨ (yfY x y = some false ∧ i ∈ y.chk ∧ x.note = true)
inductive Anc (ops : List Oper) (i : Nat) : Nat → Prop where
 | edge {j : Nat} {o : Oper} {e : Edge} : ops[j]? = some o → e ∈ o.after → Region.binds .any e = true → e.on = i → Anc ops i j
 | step {j : Nat} {o : Oper} {e : Edge} : ops[j]? = some o → e ∈ o.after → Region.binds .any e = true → Anc ops i e.on → Anc ops i j
theorem ypR (all : List Oper) : ∀ (l : List Oper) (acc : List Nat),all.drop acc.length = l → (∀ j i,(acc.getD j 0).testBit i = true → Anc all i j) → ∀ j i,((ywF acc l).getD j 0).testBit i = true → Anc all i j
 | [],acc,_,h=>h
 | o :: l,acc,hd,h=>by
  have hlt : acc.length < all.length:=by
   rcases Nat.lt_or_ge acc.length all.length with h | h
   ·exact h
   ·rw [List.drop_eq_nil_of_le h] at hd; cases hd
  rw [List.drop_eq_getElem_cons hlt] at hd
  obtain ⟨ho,hl⟩:=List.cons.inj hd
  have ho' : all[acc.length]? = some o:=by rw [List.getElem?_eq_getElem hlt,ho]
  refine ypR all l _ (by simpa using hl) fun j i hb=>?_
  rcases Nat.lt_trichotomy j acc.length with e | e | e
  ·rw [List.getD,List.getElem?_append_left e] at hb
   exact h j i hb
  ·subst e
   rw [List.getD,List.getElem?_append_right (Nat.le_refl _)] at hb
   simp only [Nat.sub_self,List.getElem?_cons_zero,Option.getD_some] at hb
   have fold : ∀ (es : List Edge) (m : Nat),(∀ e,e ∈ es → e ∈ o.after) → (m.testBit i = true → Anc all i acc.length) → (es.foldl (fun m e=>if Region.binds .any e then m ||| (1 <<< e.on) ||| (acc.getD e.on 0) else m) m).testBit i = true → Anc all i acc.length:=by
    intro es
    induction es with
    | nil=>intro m _ hm hb; exact hm hb
    | cons e es ih =>
     intro m hes hm hb
     refine ih _ (fun e' he'=>hes e' (by simp [he'])) (fun hb'=>?_) hb
     dsimp only at hb'
     split at hb'
     ·rename_i hbd
      rw [Nat.testBit_or,Nat.testBit_or,Bool.or_eq_true,Bool.or_eq_true] at hb'
      rcases hb' with (hb' | hb') | hb'
      ·exact hm hb'
      ·rw [Nat.one_shiftLeft,Nat.testBit_two_pow] at hb'
       exact .edge ho' (hes e (by simp)) hbd (by simpa using hb')
      ·exact .step ho' (hes e (by simp)) hbd (h _ _ hb')
     ·exact hm hb'
   exact fold o.after.toList 0 (fun e he=>by simpa using he) (fun hb=>by simp at hb) hb
  ·rw [List.getD,List.getElem?_eq_none (by simp; omega)] at hb
   simp at hb
theorem yvE {listed : Array Bool} (hdown : ∀ (j : Nat) (o : Oper),ops[j]? = some o → listed.getD j true = true → ∀ e ∈ o.after,Region.binds .any e = true → listed.getD e.on false = true) (hsz : listed.size = ops.size) {i : Nat} :
 ∀ {j : Nat},Anc ops.toList i j → (∀ o,ops[j]? = some o → ∀ e ∈ o.after,Region.binds .any e = true → listed.getD e.on false = true) → listed.getD i false = true:=by
 intro j h
 induction h with
 | edge ho he hb hi =>
  intro hall
  have:=hall _ (by simpa using ho) _ he hb
  rwa [hi] at this
 | @step j o e ho he hb hanc ih =>
  intro hall
  have h1:=hall _ (by simpa using ho) _ he hb
  refine ih fun o' ho' e' he' hb'=>hdown _ o' ho' ?_ e' he' hb'
  rw [Array.getD_eq_getD_getElem?] at h1 ⊢
  cases hq : listed[e.on]? with
  | none=>rfl
  | some b=>rw [hq] at h1; exact h1
theorem yiI {x y : RIns} {b : Bool} (h : yfY x y = some b) : yoH x.i y.i = true:=by
 unfold yfY at h
 split at h
 ·assumption
 ·cases h
theorem yBi {a b : Lab} (h : yf5 a b = true) : (∀ j,j ∈ a.1 → j ∉ b.1) ∧ b.2 = true:=by
 unfold yf5 at h
 rw [Bool.and_eq_true] at h
 refine ⟨fun j hj hb=>?_,h.2⟩
 have:=List.all_eq_true.1 h.1 j hj
 simp at this
 exact this hb
theorem yAU {x y : RIns} {lx ly : Lab} {s1 s2 : St} (hs : Sound s) (okx : x.ok = true) (oky : y.ok = true) (hsw : yfY x y = some true ∨ (yfY x y = some false ∧ yf5 lx ly = true)) (h1 : Tr P x lx s s1) (h2 : Tr P y ly s1 s2) : ∃ s1',Tr P y ly s s1' ∧ Tr P x lx s1' s2:=by
 have ha : Apart x.i y.i:=by
  rcases hsw with h | ⟨h,_⟩
  ·exact ytX (yiI h)
  ·exact ytX (yiI h)
 have hdis : yfY x y = some false → (∀ j,j ∈ lx.1 → j ∉ ly.1) ∧ ly.2 = true:=by
  intro e
  rcases hsw with h | ⟨_,h⟩
  ·rw [e] at h; cases h
  ·exact yBi h
 obtain ⟨kx,hkx⟩:=ynU okx
 obtain ⟨ky,hky⟩:=ynU oky
 have hap : yoH x.i y.i = true:=by rcases hsw with h | ⟨h,_⟩ <;> exact yiI h
 have n3 : x.k ≠ 3 ∧ y.k ≠ 3:=by
  have : yfY x y ≠ none:=by rcases hsw with h | ⟨h,_⟩ <;> (rw [h]; simp)
  unfold yfY at this
  rw [if_pos hap] at this
  refine ⟨fun e=>this ?_,fun e=>this ?_⟩
  ·rw [e]; split <;> first | rfl | (exfalso; omega)
  ·rw [e]; split <;> first | rfl | (exfalso; omega)
 have hkx:=hkx.imp_right fun h=>h.imp_right fun h=>h.resolve_right n3.1
 have hky:=hky.imp_right fun h=>h.imp_right fun h=>h.resolve_right n3.2
 unfold Tr at h1 h2 ⊢
 rcases hkx with ⟨ex,hx1⟩ | ⟨ex,hx1,hx2,hx3⟩ | ⟨ex,hx1,hx2⟩ <;> rcases hky with ⟨ey,hy1⟩ | ⟨ey,hy1,hy2,hy3⟩ | ⟨ey,hy1,hy2⟩ <;> rw [ex] at h1 ⊢ <;> rw [ey] at h2 ⊢ <;> simp only at h1 h2 ⊢
 ·rcases h1 with h1 | h1 <;> rcases h2 with h2 | h2
  ·obtain ⟨s',a,b⟩:=yCM hy1 hx1 ha h1 h2; exact ⟨s',.inl a,.inl b⟩
  ·obtain ⟨s',a,b⟩:=yD9 hs hx1 kx ha h1 h2; exact ⟨s',.inr a,.inl b⟩
  ·obtain ⟨s',a,b⟩:=yCV hs hy1 ky ha h1 h2; exact ⟨s',.inl a,.inr b⟩
  ·obtain ⟨s',a,b⟩:=yEw hs kx ky ha h1 h2; exact ⟨s',.inr a,.inr b⟩
 ·rcases h1 with h1 | h1
  ·obtain ⟨s',a,b⟩:=yEE hs hx1 kx ha h1 h2; exact ⟨s',a,.inl b⟩
  ·obtain ⟨s',a,b⟩:=yCJ hs kx ha h1 h2; exact ⟨s',a,.inr b⟩
 ·unfold yfY at hsw hdis
  rw [if_pos hap,ex,ey] at hsw hdis
  simp only at hsw hdis
  by_cases hc : x.i.op.yaf = true
  ·rw [if_pos hc] at hsw; simp at hsw
  ·rw [if_neg hc] at hsw hdis
   rcases h1 with h1 | ⟨d,res,f,xs,args,hm,_⟩
   ·obtain ⟨s',a,b⟩:=yD0 hx1 (by simpa using hc) kx ha (hdis (by first | rfl | trivial)).1 h1 h2; exact ⟨s',a,.inl b⟩
   ·exact absurd hm.yaf hc
 ·rcases h2 with h2 | h2
  ·obtain ⟨s',a,b⟩:=yCC hs hy1 ky ha h1 h2; exact ⟨s',.inl a,b⟩
  ·obtain ⟨s',a,b⟩:=yEp hs ky ha h1 h2; exact ⟨s',.inr a,b⟩
 ·exact yEo ha h1 h2
 ·exact yC7 hs ky ha h1 h2
 ·unfold yfY at hsw hdis
  rw [if_pos hap,ex,ey] at hsw hdis
  simp only at hsw hdis
  by_cases hc : y.i.op.yaf = true
  ·rw [if_pos hc] at hsw; simp at hsw
  ·rw [if_neg hc] at hsw hdis
   rcases h2 with h2 | ⟨d,res,f,xs,args,hm,_⟩
   ·obtain ⟨s',a,b⟩:=yCR hy1 (by simpa using hc) ha (hdis (by first | rfl | trivial)).1 (hdis (by first | rfl | trivial)).2 h1 h2; exact ⟨s',.inl a,b⟩
   ·exact absurd hm.yaf hc
 ·unfold yfY at hsw hdis
  rw [if_pos hap,ex,ey] at hsw hdis
  simp only at hsw hdis
  exact yD5 hs kx ha (hdis (by first | rfl | trivial)).1 h1 h2
 ·unfold yfY at hsw
  rw [if_pos hap,ex,ey] at hsw
  simp at hsw
theorem bubble {anc : List Nat} {rs : List RIns} (hR : RegInfo P N ops rs anc) (hN : g.N = N) {lab : Nat → Lab} (hchk : ∀ (j : Nat) (r : RIns),rs[j]? = some r → ∀ i,i ∈ r.chk → yf5 (lab i) (lab j) = true) {j : Nat} {L2 : List Nat} {sf : St} :
 ∀ (L1 : List Nat) (s : St) (a : Act) (w : World) (blk : Lay),Repr g s a w blk → (∀ i,i ∈ L1 → i < j ∧ ¬ (anc.getD j 0).testBit i = true) → Run P rs lab (L1 ++ j :: L2) s sf → ∃ r s1,rs[j]? = some r ∧ Tr P r (lab j) s s1 ∧ Run P rs lab (L1 ++ L2) s1 sf:=by
 intro L1
 induction L1 with
 | nil=>intro s a w blk _ _ h; exact h
 | cons i L1 ih =>
  intro s a w blk hr hL h
  obtain ⟨x,s1,hx,ht,hrun⟩:=h
  have hi : ∃ o,ops[i]? = some o:=by
   have : i < ops.size:=by rw [← hR.len]; exact (List.getElem?_eq_some_iff.1 hx).1
   exact ⟨_,Array.getElem?_eq_getElem this⟩
  obtain ⟨o,ho⟩:=hi
  obtain ⟨x',hx',hcx⟩:=hR.ins i o ho
  rw [hx] at hx'; cases hx'
  obtain ⟨a1,w1,blk1,hr1⟩:=yw3 (ops:=ops) hN hr hcx (hR.ok i x hx) ht
  obtain ⟨y,s2,hy,hty,hrun2⟩:=ih s1 a1 w1 blk1 hr1 (fun q hq=>hL q (by simp [hq])) hrun
  obtain ⟨hij,hna⟩:=hL i (by simp)
  have hsw : yfY x y = some true ∨ (yfY x y = some false ∧ yf5 (lab i) (lab j) = true):=by
   rcases hR.pair i j x y hij hx hy with e | e | ⟨e,e1,_⟩
   ·exact absurd e hna
   ·exact .inl e
   ·exact .inr ⟨e,hchk j y hy i e1⟩
  obtain ⟨s1',h1,h2⟩:=yAU hr.sound (hR.ok i x hx) (hR.ok j y hy) hsw ht hty
  exact ⟨y,s1',hy,h1,x,s2,hx,h2,hrun2⟩
theorem yx0 {b : Bool} {n i : Nat} {lab : Lab} {h : List (Nat × Lab)} : look ([],true) (ycn b n lab h) i = if b = true ∧ i = n then lab else look ([],true) h i:=by
 unfold ycn
 cases b
 ·simp
 ·rw [if_pos rfl,yjD]; simp
theorem trace {anc : List Nat} {rs : List RIns} (hR : RegInfo P N ops rs anc) (hnote : ∀ (j : Nat) (y : RIns),rs[j]? = some y → ∀ i,i ∈ y.chk → i < j ∧ ∃ x,rs[i]? = some x ∧ x.note = true) (hN : g.N = N) {K : St → Prop} :
 ∀ (m n : Nat) (h : List (Nat × Lab)) (s : St) (a : Act) (w : World) (blk : Lay) (lab0 : Nat → Lab),n + m = rs.length → (∀ i x,i < n → rs[i]? = some x → x.note = true → look ([],true) h i = lab0 i) → Repr g s a w blk → wpE P n (rs.drop n) h s K →
  ∃ lab sf,(∀ i,i < n → lab i = lab0 i) ∧ K sf ∧ Run P rs lab (List.range' n m) s sf ∧ ∀ (j : Nat) (r : RIns),n ≤ j → rs[j]? = some r → ∀ i,i ∈ r.chk → yf5 (lab i) (lab j) = true:=by
 intro m
 induction m with
 | zero =>
  intro n h s a w blk lab0 hnm _ _ hw
  rw [List.drop_eq_nil_of_le (by omega)] at hw
  refine ⟨lab0,s,fun _ _=>rfl,hw,rfl,fun j r hj hr=>?_⟩
  have:=(List.getElem?_eq_some_iff.1 hr).1
  omega
 | succ m ih =>
  intro n h s a w blk lab0 hnm hh hr hw
  have hlt : n < rs.length:=by omega
  have hrn:=List.getElem?_eq_getElem hlt
  rw [List.drop_eq_getElem_cons hlt] at hw
  revert hrn hw
  generalize rs[n] = r
  intro hw hrn
  have hi : ∃ o,ops[n]? = some o:=⟨_,Array.getElem?_eq_getElem (by rw [← hR.len]; exact hlt)⟩
  obtain ⟨o,ho⟩:=hi
  obtain ⟨r',hr',hcr⟩:=hR.ins n o ho
  rw [hrn] at hr'; cases hr'
  have hok:=hR.ok n r hrn
  have go : ∀ (s1 : St) (ln : Lab),Tr P r ln s s1 → yfl r.chk h ln = true → wpE P (n + 1) (rs.drop (n + 1)) (ycn r.note n ln h) s1 K → ∃ lab sf,(∀ i,i < n → lab i = lab0 i) ∧ K sf ∧ Run P rs lab (List.range' n (m + 1)) s sf ∧ ∀ (j : Nat) (r : RIns),n ≤ j → rs[j]? = some r → ∀ i,i ∈ r.chk → yf5 (lab i) (lab j) = true:=by
   intro s1 ln ht hc hw1
   obtain ⟨a1,w1,blk1,hr1⟩:=yw3 (ops:=ops) hN hr hcr hok ht
   have hnx : ∀ i x,i < n + 1 → rs[i]? = some x → x.note = true → look ([],true) (ycn r.note n ln h) i = if i = n then ln else lab0 i:=by
    intro i x hin hx hxn
    rw [yx0]
    by_cases e : i = n
    ·subst e
     rw [hrn] at hx; cases hx
     simp [hxn]
    ·rw [if_neg (by simp [e]),if_neg e]
     exact hh i x (by omega) hx hxn
   obtain ⟨lab,sf,e1,e2,e3,e4⟩:=ih (n + 1) (ycn r.note n ln h) s1 a1 w1 blk1 (fun i=>if i = n then ln else lab0 i) (by omega) hnx hr1 hw1
   ·have hn : lab n = ln:=by rw [e1 n (by omega)]; simp
    refine ⟨lab,sf,fun i hin=>?_,e2,?_,fun j r2 hj hr2 i hi=>?_⟩
    ·rw [e1 i (by omega),if_neg (by omega)]
    ·rw [List.range'_succ]
     exact ⟨r,s1,hrn,by rw [hn]; exact ht,e3⟩
    ·rcases Nat.lt_or_ge n j with hj' | hj'
     ·exact e4 j r2 hj' hr2 i hi
     ·have : j = n:=by omega
      subst this
      rw [hrn] at hr2; cases hr2
      obtain ⟨hin,x,hx,hxn⟩:=hnote j r hrn i hi
      have:=List.all_eq_true.1 hc i hi
      rw [hh i x hin hx hxn] at this
      rw [hn,e1 i (by omega),if_neg (by omega)]
      exact this
  obtain ⟨hk,hkind⟩:=ynU hok
  unfold wpE at hw
  rcases hkind with ⟨e,h1⟩ | ⟨e,h1,h2,h3⟩ | ⟨e,h1,h2⟩ | e
  ·rw [e] at hw
   simp only at hw
   rcases hw with hw | hw
   ·obtain ⟨l,hl⟩:=yo2 h1
    obtain ⟨v,⟨hc,hw1⟩,hall⟩:=yu1 (P:=P) hr hl _ hw
    refine go _ _ ?_ hc hw1
    unfold Tr; rw [e]
    exact .inl ⟨v,rfl,hall,rfl⟩
   ·obtain ⟨d,res,f,xs,args,hm,hc,hw1⟩:=yAP hw
    refine go _ _ ?_ hc hw1
    unfold Tr; rw [e]
    exact .inr ⟨d,res,f,xs,args,hm,rfl⟩
  ·rw [e] at hw
   simp only at hw
   obtain ⟨hc,hw⟩:=hw
   obtain ⟨q,ob,v,a1,a2,a3,a4,a5,a6,a7⟩:=yBk h2 hw
   refine go _ _ ?_ hc a3
   unfold Tr; rw [e]
   exact ⟨q,ob,v,a1,a2,rfl,a4,a5,a6,rfl,a7⟩
  ·rw [e] at hw
   simp only at hw
   rcases h2 with h2 | ⟨h0,h2⟩
   ·rw [if_pos h2] at hw
    obtain ⟨ln,s1,ht,hc,hw1⟩:=hw
    refine go s1 ln ?_ hc hw1
    unfold Tr; rw [e]; exact ht
   rw [if_neg (by simp [h0])] at hw
   obtain ⟨hc,hw⟩:=hw
   obtain ⟨Kl,U,v,a1,a2⟩:=yAg h2 hw
   refine go _ _ ?_ hc a1
   unfold Tr; rw [e]
   refine ⟨Kl,U,v,rfl,a2,fun j hj=>?_,rfl⟩
   rcases yBe h2 hj with hj | hj
   ·exact .inl (yAO h2 j hj)
   ·exact .inr hj
  ·rw [e] at hw
   obtain ⟨s1,ht,hc,hw1⟩:=hw
   refine go s1 ([],true) ?_ hc hw1
   unfold Tr; rw [e]; exact ht
theorem yso {p q : Nat → Bool} {n j : Nat} (hj : j < n) (hp : p j = true) (hq : q j = false) (hpq : ∀ i,i ≠ j → p i = q i) :
 ∃ L1 L2,(List.range n).filter p = L1 ++ j :: L2 ∧ (List.range n).filter q = L1 ++ L2 ∧ ∀ i,i ∈ L1 → i < j ∧ p i = true:=by
 have e : List.range n = List.range j ++ j :: (List.range n).drop (j + 1):=by
  conv=>lhs; rw [← List.take_append_drop j (List.range n)]
  rw [List.take_range,Nat.min_eq_left (by omega),List.drop_eq_getElem_cons (by simpa using hj)]
  simp
 refine ⟨(List.range j).filter p,((List.range n).drop (j + 1)).filter p,?_,?_,fun i hi=>?_⟩
 ·conv=>lhs; rw [e]
  rw [List.filter_append,List.filter_cons,hp]; rfl
 ·conv=>lhs; rw [e]
  rw [List.filter_append,List.filter_cons,hq]
  congr 1
  ·apply List.filter_congr
   intro i hi
   rw [hpq i (by have:=List.mem_range.1 hi; omega)]
  ·simp only [Bool.false_eq_true,if_false]
   apply List.filter_congr
   intro i hi
   refine (hpq i ?_).symm
   rintro rfl
   obtain ⟨k,hk⟩:=List.getElem?_of_mem hi
   rw [List.getElem?_drop,List.getElem?_range] at hk
   ·simp at hk
    omega
   ·have:=(List.getElem?_eq_some_iff.1 hk).1
    simp at this; omega
 ·rw [List.mem_filter] at hi
  exact ⟨List.mem_range.1 hi.1,hi.2⟩
theorem yAk {anc : List Nat} {rs : List RIns} (hR : RegInfo P N ops rs anc) (hanc : ∀ j i,(anc.getD j 0).testBit i = true → Anc ops.toList i j) (hN : g.N = N) {lab : Nat → Lab} (hchk : ∀ (j : Nat) (r : RIns),rs[j]? = some r → ∀ i,i ∈ r.chk → yf5 (lab i) (lab j) = true) {Q : Exit → Act → World → Prop} {sf : St}
 (hQ : ∀ a' w' blk',Repr g sf a' w' blk' → Q .normal a' w') :
 ∀ (fuel : Nat) (listed : Array Bool) (s : St) (a : Act) (w : World) (blk : Lay),listed.size = ops.size → (∀ (j : Nat) (o : Oper),ops[j]? = some o → listed.getD j true = true → ∀ e ∈ o.after,Region.binds .any e = true → listed.getD e.on false = true) →
  Repr g s a w blk → Run P rs lab ((List.range ops.size).filter fun j=>!listed.getD j true) s sf → ((List.range ops.size).filter fun j=>!listed.getD j true).length = fuel → wpAny P .any ops Q fuel listed a w:=by
 intro fuel
 have done : ∀ (listed : Array Bool) (s : St) (a : Act) (w : World) (blk : Lay),listed.size = ops.size → Repr g s a w blk → Run P rs lab ((List.range ops.size).filter fun j=>!listed.getD j true) s sf → Region.ready .any ops listed = [] → Q .normal a w:=by
  intro listed s a w blk hs hr hrun hnil
  have hall : ∀ j,j < ops.size → listed.getD j true = true:=by
   intro j
   induction j using Nat.strongRecOn with
   | _ j ih =>
    intro hj
    cases hl : listed.getD j true with
    | true=>rfl
    | false =>
     exfalso
     have : j ∈ Region.ready .any ops listed:=by
      unfold Region.ready
      rw [List.mem_filter]
      refine ⟨List.mem_range.2 hj,?_⟩
      rw [Array.getElem?_eq_getElem hj]
      simp only [hl,Option.map_some,Option.getD_some,Bool.not_false,Bool.true_and,Array.all_eq_true',Bool.or_eq_true,Bool.not_eq_true']
      intro e he
      cases hb : Region.binds .any e with
      | false=>exact .inl rfl
      | true =>
       have h1:=hR.back j _ (Array.getElem?_eq_getElem hj) e he hb
       have h2:=ih e.on h1 (by omega)
       refine .inr ?_
       rw [Array.getD_eq_getD_getElem?,Array.getElem?_eq_getElem (by omega)] at h2 ⊢
       exact h2
     rw [hnil] at this
     cases this
  have : (List.range ops.size).filter (fun j=>!listed.getD j true) = []:=by
   rw [List.filter_eq_nil_iff]
   intro j hj
   simp [hall j (List.mem_range.1 hj)]
  rw [this] at hrun
  have e : s = sf:=hrun
  exact hQ a w blk (e ▸ hr)
 induction fuel with
 | zero =>
  intro listed s a w blk hs hdown hr hrun hcount
  have hnil : Region.ready .any ops listed = []:=by
   rw [List.length_eq_zero_iff,List.filter_eq_nil_iff] at hcount
   unfold Region.ready
   rw [List.filter_eq_nil_iff]
   intro j hj
   have:=hcount j hj
   simp only [Bool.not_eq_true',Bool.not_eq_false] at this
   simp [this]
  exact ⟨hnil,done listed s a w blk hs hr hrun hnil⟩
 | succ fuel ih =>
  intro listed s a w blk hs hdown hr hrun hcount
  refine ⟨fun hnil=>done listed s a w blk hs hr hrun hnil,fun i hi=>?_⟩
  unfold Region.ready at hi
  rw [List.mem_filter] at hi
  obtain ⟨hi1,hi2⟩:=hi
  have hio:=List.mem_range.1 hi1
  have ho:=Array.getElem?_eq_getElem hio
  revert ho
  generalize ops[i] = o
  intro ho
  rw [ho] at hi2
  simp only [Option.map_some,Option.getD_some,Bool.and_eq_true,Bool.not_eq_true',Array.all_eq_true',Bool.or_eq_true] at hi2
  obtain ⟨hnl,haft⟩:=hi2
  have hpre : ∀ o',ops[i]? = some o' → ∀ e ∈ o'.after,Region.binds .any e = true → listed.getD e.on false = true:=by
   intro o' ho' e he hb
   rw [ho] at ho'; cases ho'
   rcases haft e he with h | h
   ·rw [hb] at h; cases h
   ·exact h
  have hnext2 : ∀ j,j ≠ i → (listed.setIfInBounds i true).getD j true = listed.getD j true:=by
   intro j e
   rw [Array.getD_eq_getD_getElem?,Array.getElem?_setIfInBounds,if_neg (Ne.symm e),← Array.getD_eq_getD_getElem?]
  have hset : (listed.setIfInBounds i true).getD i true = true:=by
   rw [Array.getD_eq_getD_getElem?,Array.getElem?_setIfInBounds,if_pos rfl]; simp [hs,hio]
  have hset2 : ∀ j,listed.getD j false = true → (listed.setIfInBounds i true).getD j false = true:=by
   intro j hj
   rw [Array.getD_eq_getD_getElem?,Array.getElem?_setIfInBounds]
   by_cases e : i = j
   ·subst e; simp [hs,hio]
   ·rw [if_neg e,← Array.getD_eq_getD_getElem?]; exact hj
  obtain ⟨L1,L2,e1,e2,e3⟩:=yso (p:=fun j=>!listed.getD j true) (q:=fun j=>!(listed.setIfInBounds i true).getD j true) hio (by simp [hnl]) (by simp [hset]) (fun j hj=>by simp only [hnext2 j hj])
  rw [e1] at hrun hcount
  obtain ⟨r,s1,hri,ht,hrun1⟩:=bubble hR hN hchk L1 s a w blk hr (fun q hq=>⟨(e3 q hq).1,fun hb=>by
   have h1:=yvE hdown hs (hanc i q hb) hpre
   have h2 : listed.getD q true = false:=by simpa using (e3 q hq).2
   rw [Array.getD_eq_getD_getElem?] at h1 h2
   cases hq' : listed[q]? with
   | none=>rw [hq'] at h1; cases h1
   | some b=>rw [hq'] at h1 h2; simp at h1 h2; rw [h1] at h2; cases h2⟩) hrun
  obtain ⟨r',hr',hcr⟩:=hR.ins i o ho
  rw [hri] at hr'; cases hr'
  have cont : ∀ a' w' blk',Repr g s1 a' w' blk' → wpAny P .any ops Q fuel (listed.setIfInBounds i true) a' w':=by
   intro a' w' blk' hr'
   refine ih (listed.setIfInBounds i true) s1 a' w' blk' (by simpa using hs) ?_ hr' (by rw [e2]; exact hrun1) ?_
   ·intro j o' hj hlj e he hb
    by_cases h1 : j = i
    ·subst h1; exact hset2 _ (hpre o' hj e he hb)
    ·rw [hnext2 j h1] at hlj
     exact hset2 _ (hdown j o' hj hlj e he hb)
   ·rw [e2]
    simp at hcount ⊢
    omega
  unfold wpOp
  rw [ho]
  rcases yCd (ops:=ops) hN hr hcr (hR.ok i r hri) ht with ⟨e,hok⟩ | ⟨e,hrr⟩
  ·simp only [e,if_true]
   exact .inl (hok.wp fun s' blk' a' w' hs' hr'=>cont a' w' blk' (by rw [hs'] at hr'; exact hr'))
  ·simp only [e]
   exact cont _ _ _ hrr
theorem yvf {f : Nat → Ins → RIns} : ∀ {l : List Ins} {n j : Nat} {i : Ins},l[j]? = some i → ∃ r,(yAq f n l)[j]? = some r ∧ r.i = i
 | [],_,_,_,h=>by simp at h
 | x :: l,n,j,i,h=>by
  cases j with
  | zero=>simp at h; subst h; exact ⟨_,rfl,rfl⟩
  | succ j=>exact yvf (l:=l) (n:=n + 1) (by simpa using h)
theorem yuH {f : Nat → Ins → RIns} : ∀ {l : List Ins} {n : Nat},(yAq f n l).length = l.length
 | [],_=>rfl
 | x :: l,n=>by simp [yAq,yuH]
theorem ypS (hN : g.N = N) {id : Nat} {rs : List RIns} {K : St → Prop} {Q : Exit → Act → World → Prop} {cf : List Nat} (hc : ywJ cf P N ops = some rs) (h : Repr g s a w blk) (hw : wpE P 0 rs [] s K)
 (hQ : ∀ s' a' w' blk',K s' → Repr g s' a' w' blk' → Q .normal a' w') : (Code.region id ops true).wp P Q a w:=by
 unfold ywJ at hc
 split at hc
 case h_2=>cases hc
 rename_i is hci
 simp only at hc
 split at hc
 case isFalse=>cases hc
 rename_i hif
 injection hc with hc
 simp only [Bool.and_eq_true] at hif
 obtain ⟨⟨⟨⟨hmix,hoks⟩,hback⟩,hpairs⟩,hnotes⟩:=hif
 rw [hc] at hoks hpairs hnotes
 obtain ⟨hlen,hget⟩:=ye9 hci
 have hrl : rs.length = ops.size:=by rw [← hc]; simp [mkR,yuH,hlen]
 have hR : RegInfo P N ops rs (ywF [] ops.toList):=by
  refine ⟨hrl,fun j o ho=>?_,fun j r hr=>List.all_eq_true.1 hoks r (List.mem_of_getElem? hr),fun j o ho e he hb=>?_,fun i j x y hij hx hy=>?_⟩
  ·obtain ⟨i,hi,hci⟩:=hget j o (by rw [Array.getElem?_toList]; exact ho)
   obtain ⟨r,hr,hri⟩:=yvf (f:=_) (n:=0) hi
   exact ⟨r,by rw [← hc]; exact hr,by rw [hri]; exact hci⟩
  ·unfold yrF at hback
   have hj : j < ops.toList.length:=by simpa using (Array.getElem?_eq_some_iff.1 ho).1
   have:=List.all_eq_true.1 hback j (List.mem_range.2 hj)
   rw [Array.getElem?_toList,ho] at this
   simp only [Array.all_eq_true',Bool.or_eq_true,Bool.not_eq_true',decide_eq_true_eq] at this
   rcases this e he with h1 | h1
   ·rw [hb] at h1; cases h1
   ·exact h1
  ·unfold ywG at hpairs
   have:=List.all_eq_true.1 hpairs j (List.mem_range.2 (List.getElem?_eq_some_iff.1 hy).1)
   rw [hy] at this
   have:=List.all_eq_true.1 this i (List.mem_range.2 hij)
   rw [hx] at this
   simp only [Bool.or_eq_true] at this
   rcases this with h1 | h1
   ·exact .inl h1
   ·split at h1
    ·rename_i e; exact .inr (.inl e)
    ·rename_i e; simp only [Bool.and_eq_true,List.contains_eq_mem,decide_eq_true_eq] at h1; exact .inr (.inr ⟨e,h1⟩)
    ·cases h1
 have hnote : ∀ (j : Nat) (y : RIns),rs[j]? = some y → ∀ i,i ∈ y.chk → i < j ∧ ∃ x,rs[i]? = some x ∧ x.note = true:=by
  intro j y hy i hi
  unfold ywK at hnotes
  have:=List.all_eq_true.1 hnotes j (List.mem_range.2 (List.getElem?_eq_some_iff.1 hy).1)
  rw [hy] at this
  have:=List.all_eq_true.1 this i hi
  simp only [Bool.and_eq_true,decide_eq_true_eq] at this
  refine ⟨this.1,?_⟩
  have h2:=this.2
  split at h2
  ·exact ⟨_,‹_›,h2⟩
  ·cases h2
 have h1 : Repr g s a { w with drawn:=w.drawn + 1 } blk:=h.drew
 obtain ⟨lab,sf,_,hK,hrun,hchk⟩:=trace hR hnote hN rs.length 0 [] s a _ blk (fun _=>([],true)) (by omega) (fun i x hi=>absurd hi (by omega)) h1 hw
 refine wp_region_any hmix ?_
 have hlist : (List.range ops.size).filter (fun j=>!(Array.replicate ops.size false).getD j true) = List.range ops.size:=by
  rw [List.filter_eq_self]
  intro j hj
  have hlt:=List.mem_range.1 hj
  rw [Array.getD_eq_getD_getElem?]
  simp [hlt]
 refine yAk hR (ypR ops.toList ops.toList [] rfl (fun j i hb=>by simp at hb)) hN (fun j r hr=>hchk j r (by omega) hr) (fun a' w' blk' hr=>hQ _ a' w' blk' hK hr) ops.size (Array.replicate ops.size false) s a _ blk (by simp) ?_ h1 ?_ (by rw [hlist,List.length_range])
 ·intro j o hj hl
  exfalso
  have hlt : j < ops.size:=(Array.getElem?_eq_some_iff.1 hj).1
  rw [Array.getD_eq_getD_getElem?] at hl
  simp [hlt] at hl
 ·rw [hlist,List.range_eq_range',← hrl]
  exact hrun
end
end Go.Proofs.YtpiplmnecmkafaaGreat
namespace Go.Proofs.YtpiplmnecmkafaaGreat
open Go.RowKit
def lift (g : Ghost) (Q : Ex → St → Prop) : Exit → Act → World → Prop
 | .normal,a,w=>∃ s blk,Q .normal s ∧ Repr g s a w blk
 | .exit id,a,w=>∃ s blk,Q (.exit id) s ∧ Repr g s a w blk
 | .ret,a,w=>∃ s blk,Q .ret s ∧ Repr g s a w blk
 | _,_,_=>False
def yld (P : Program) (N : Nat) (c : SC) (s : St) (Q : Ex → St → Prop) : Prop :=
 ∀ g,g.N = N → ∀ fl code,ygf fl P N code = some c → ∀ a w blk,Repr g s a w blk → (Code.loop code).wp P (lift g Q) a w
def wpS (P : Program) (N : Nat) : SC → St → (Ex → St → Prop) → Prop
 | .skip,s,Q=>Q .normal s
 | .reg l,s,Q=>wpI P l s (Q .normal)
 | .regq l,s,Q=>wpQ P l s (Q .normal)
 | .rege l,s,Q=>wpE P 0 l [] s (Q .normal)
 | .seq a b,s,Q=>wpS P N a s (Ex.then (fun _ s'=>wpS P N b s' Q) Q)
 | .cond x a b,s,Q=>yj3 (s.ev x) (wpS P N a s Q) (wpS P N b s Q)
 | .block id c,s,Q=>wpS P N c s (Ex.inBlock id Q)
 | .loop c,s,Q=>yld P N c s Q
 | .exit id,s,Q=>Q (.exit id) s
 | .ret,s,Q=>Q .ret s
theorem yjq {P : Program} {g : Ghost} {N : Nat} {fl : Option (List Nat)} (hN : g.N = N) : ∀ {code : Code} {c : SC} {s : St} {Q : Ex → St → Prop} {a : Act} {w : World} {blk : Lay},
 ygf fl P N code = some c → wpS P N c s Q → Repr g s a w blk → code.wp P (lift g Q) a w:=by
 intro code
 induction code with
 | skip=>intro c s Q a w blk hc hw h; cases hc; exact wp_skip ⟨s,blk,hw,h⟩
 | region id ops draw =>
  intro c s Q a w blk hc hw h
  simp only [ygf] at hc
  split at hc
  ·rename_i hd
   subst hd
   split at hc
   ·split at hc
    ·rename_i l hl
     cases hc
     exact ypS hN hl h hw fun s' a' w' blk' k r=>⟨s',blk',k,r⟩
    ·simp only [Option.map_eq_some_iff] at hc
     obtain ⟨l,hl,rfl⟩:=hc
     exact ypx hN hl h hw fun s' a' w' blk' k r=>⟨s',blk',k,r⟩
   ·split at hc
    ·rename_i l hl
     cases hc
     exact ypx hN hl h hw fun s' a' w' blk' k r=>⟨s',blk',k,r⟩
    ·simp only [Option.map_eq_some_iff] at hc
     obtain ⟨l,hl,rfl⟩:=hc
     exact ypS hN hl h hw fun s' a' w' blk' k r=>⟨s',blk',k,r⟩
  ·rename_i hd
   simp only [Option.map_eq_some_iff] at hc
   obtain ⟨l,hl,rfl⟩:=hc
   have e : draw = false:=by simpa using hd
   subst e
   exact wp_region_list (yr4 hN hl h hw fun s' blk' a' w' k r=>⟨s',blk',k,r⟩)
 | seq x y ihx ihy =>
  intro c s Q a w blk hc hw h
  simp only [ygf] at hc
  split at hc
  ·rename_i cx cy h1 h2
   cases hc
   refine wp_seq (Code.wp_mono ?_ (ihx h1 hw h))
   intro e a' w' hl
   cases e with
   | normal=>obtain ⟨s',blk',k,r⟩:=hl; exact ihy h2 k r
   | exit id=>exact hl
   | ret=>exact hl
   | goto l=>exact hl
   | panic ch=>exact hl
   | outgrown=>exact hl
  ·cases hc
 | cond x t e iht ihe =>
  intro c s Q a w blk hc hw h
  simp only [ygf] at hc
  split at hc
  ·rename_i cx' ct ce h1 h2 h3
   cases hc
   simp only [wpS] at hw
   have hx:=h.ev h1
   unfold yj3 at hw
   split at hw
   ·rename_i v hv
    rw [hv] at hx
    refine wp_cond (t:=v) hx.bool ?_
    cases v
    ·exact ihe h3 (hw.2 rfl) h
    ·exact iht h2 (hw.1 rfl) h
   ·exact hw.elim
  ·cases hc
 | block id body ih =>
  intro c s Q a w blk hc hw h
  simp only [ygf,Option.map_eq_some_iff] at hc
  obtain ⟨cb,hb,rfl⟩:=hc
  refine wp_block (Code.wp_mono ?_ (ih hb hw h))
  intro e a' w' hl
  cases e with
  | normal=>exact hl
  | exit id' =>
   obtain ⟨s',blk',k,r⟩:=hl
   simp only [Exit.inBlock]
   simp only [Ex.inBlock] at k
   split
   ·rename_i e; rw [if_pos e] at k; exact ⟨s',blk',k,r⟩
   ·rename_i e; rw [if_neg e] at k; exact ⟨s',blk',k,r⟩
  | ret=>exact hl
  | goto l=>exact hl
  | panic ch=>exact hl
  | outgrown=>exact hl
 | loop body ih =>
  intro c s Q a w blk hc hw h
  simp only [ygf,Option.map_eq_some_iff] at hc
  obtain ⟨cb,hb,rfl⟩:=hc
  exact hw g hN fl body hb a w blk h
 | exit id=>intro c s Q a w blk hc hw h; cases hc; exact wp_exit ⟨s,blk,hw,h⟩
 | ret=>intro c s Q a w blk hc hw h; cases hc; exact wp_ret ⟨s,blk,hw,h⟩
 | rangeFunc f ps x y=>intro c s Q a w blk hc; cases hc
 | scope b=>intro c s Q a w blk hc; cases hc
 | label l=>intro c s Q a w blk hc; cases hc
 | goto l=>intro c s Q a w blk hc; cases hc
 | refuse wy=>intro c s Q a w blk hc; cases hc
def St.le (s s' : St) : Prop:=∀ (g : Ghost) (a : Act) (w : World) (blk : Lay),Repr g s a w blk → ∃ blk',Repr g s' a w blk'
theorem St.le_refl (s : St) : s.le s:=fun _ _ _ blk h=>⟨blk,h⟩
theorem yg {P : Program} {N : Nat} {c : SC} {s : St} {Q : Ex → St → Prop} {ι : Type} (I : ι → Prop) (S : ι → St) (μ : ι → Nat) (i0 : ι) (h0 : I i0) (hs : s.le (S i0))
 (round : ∀ i,I i → wpS P N c (S i) (Ex.then (fun _ s'=>∃ j,I j ∧ μ j < μ i ∧ s'.le (S j)) Q)) : yld P N c s Q:=by
 intro g hN fl code hc a w blk h b k cs
 have key : ∀ n i,μ i = n → I i → ∀ a w blk,Repr g (S i) a w blk →
  ∃ e a' w',lift g Q e a' w' ∧ Arrives P (lone (b.at a (.code code :: .inLoop code :: k)) cs w) b k cs e a' w':=by
  intro n
  induction n using Nat.strongRecOn with
  | _ n ih =>
   intro i hn hI a w blk h
   obtain ⟨e,a1,w1,hq,harr⟩:=yjq hN hc (round i hI) h b (.inLoop code :: k) cs
   cases e with
   | normal =>
    obtain ⟨s1,blk1,⟨j,hj,hlt,hle⟩,r1⟩:=hq
    obtain ⟨blk2,r2⟩:=hle g a1 w1 blk1 r1
    obtain ⟨e2,a2,w2,hq2,harr2⟩:=ih (μ j) (hn ▸ hlt) j rfl hj a1 w1 blk2 r2
    exact ⟨e2,a2,w2,hq2,.of_steps (Steps.trans harr (.one step_inLoop)) harr2⟩
   | exit id=>exact ⟨.exit id,a1,w1,hq,.pass (x:=.inLoop code) rfl (fun _ _=>.inl (by simp)) harr⟩
   | ret=>exact ⟨.ret,a1,w1,hq,.pass (x:=.inLoop code) rfl (fun _ _=>.inl (by simp)) harr⟩
   | goto l=>exact hq.elim
   | panic ch=>exact hq.elim
   | outgrown=>exact hq.elim
 obtain ⟨blk1,h1⟩:=hs g a w blk h
 obtain ⟨e,a',w',hq,harr⟩:=key _ i0 rfl h0 a w blk1 h1
 exact ⟨e,a',w',hq,.of_steps (.one step_loop) harr⟩
def AV.ymf (ids : List Nat) : AV → Bool
 | .box i _ | .row i _ _ _ | .own i _ _ | .cut i _ _ _ | .mpr i=>ids.contains i
 | .sub _ _ _ _ _ _ | .yc3 _ _ _ _ _ _ _=>false
 | _=>true
def AV.ygy (ids : List Nat) : AV → Bool
 | .agg l | .fn _ l=>l.all (AV.ymf ids)
 | .tup _=>false
 | x=>x.ymf ids
def Obj.ygy (ids : List Nat) : Obj → Bool
 | .box l=>l.all (AV.ymf ids)
 | _=>true
def Obj.leO : Obj → Obj → Prop
 | .row k rows,.tr k' _ rows'=>k = k' ∧ rows = rows'
 | .tr k _ rows,.tr k' _ rows'=>k = k' ∧ rows = rows'
 | o,o'=>o = o'
theorem Obj.yoF {o o' : Obj} (h : o.leO o') : o'.ybP = o.ybP:=by
 unfold Obj.leO at h
 split at h
 ·obtain ⟨rfl,rfl⟩:=h; rfl
 ·obtain ⟨rfl,rfl⟩:=h; rfl
 ·rw [h]
theorem Obj.yrM {o o' : Obj} (h : o.leO o') : o = o' ∨ (∃ k rows v,o = .row k rows ∧ o' = .tr k v rows) ∨ (∃ k v v' rows,o = .tr k v rows ∧ o' = .tr k v' rows):=by
 cases o <;> cases o' <;> first
  | exact .inl h
  | (obtain ⟨rfl,rfl⟩:=h; exact .inr (.inl ⟨_,_,_,rfl,rfl⟩))
  | (obtain ⟨rfl,rfl⟩:=h; exact .inr (.inr ⟨_,_,_,_,rfl,rfl⟩))
theorem Obj.yAT {l : List AV} {o' : Obj} (h : (Obj.box l).leO o') : o' = .box l:=by
 rcases Obj.yrM h with h | ⟨_,_,_,h,_⟩ | ⟨_,_,_,_,h,_⟩
 ·exact h.symm
 ·cases h
 ·cases h
theorem Obj.yVn {l : List (Int × Int)} {o' : Obj} (h : (Obj.mp l).leO o') : o' = .mp l:=by
 rcases Obj.yrM h with h | ⟨_,_,_,h,_⟩ | ⟨_,_,_,_,h,_⟩
 ·exact h.symm
 ·cases h
 ·cases h
theorem Obj.yzk {o o' : Obj} (h : o.leO o') (hn : o' ≠ .none) : o ≠ .none:=by
 unfold Obj.leO at h
 split at h
 ·simp
 ·simp
 ·rw [h]; exact hn
section
variable {g : Ghost} {s s' : St} {a : Act} {w : World} {blk : Nat → Option Nat}
theorem RV1.sub {G G' : Nat → Prop} {O O' : Nat → Obj} {ids : List Nat} {v : Value} {x : AV} (hG : ∀ b,G b → G' b) (hO : ∀ id,id ∈ ids → (O id).leO (O' id)) (h : RV1 w G O blk v x) (hr : x.ymf ids = true) : RV1 w G' O' blk v x:=by
 cases x with
 | any=>trivial
 | und=>exact h
 | c x=>exact Rd.mono h hG (fun _ _ _ h=>h)
 | nil k=>exact h
 | clip k rows=>obtain ⟨a,n,e,hr⟩:=h; exact ⟨a,n,e,hr.mono hG (fun _ _ _ h=>h)⟩
 | box id off =>
  obtain ⟨b,cells,ho,r⟩:=h
  have:=hO id (by simpa [AV.ymf] using hr)
  rw [ho] at this
  exact ⟨b,cells,Obj.yAT this,r⟩
 | gl b o=>exact ⟨hG _ h.1,h.2⟩
 | mpr id =>
  obtain ⟨b,kvs,ho,r⟩:=h
  have:=hO id (by simpa [AV.ymf] using hr)
  rw [ho] at this
  exact ⟨b,kvs,Obj.yVn this,r⟩
 | row id k i off =>
  obtain ⟨b,m,ho,r⟩:=h
  exact ⟨b,m,by rw [Obj.yoF (hO id (by simpa [AV.ymf] using hr))]; exact ho,r⟩
 | elt cs =>
  obtain ⟨ad,e,hc⟩:=h
  exact ⟨ad,e,fun j c hj=>let ⟨hg,u,hu,hr⟩:=hc j c hj; ⟨hG _ hg,u,hu,hr.mono hG (fun _ _ _ h=>h)⟩⟩
 | own id k n =>
  obtain ⟨m,ho,r⟩:=h
  exact ⟨m,by rw [Obj.yoF (hO id (by simpa [AV.ymf] using hr))]; exact ho,r⟩
 | cut id k lo n =>
  obtain ⟨m,A,c,ho,r⟩:=h
  exact ⟨m,A,c,by rw [Obj.yoF (hO id (by simpa [AV.ymf] using hr))]; exact ho,r⟩
 | sub id ver i j k n=>simp [AV.ymf] at hr
 | yc3 id ver i j k i' off=>simp [AV.ymf] at hr
 | agg l=>exact h
 | tup l=>exact h
 | fn f l=>exact h
theorem RV.sub {G G' : Nat → Prop} {O O' : Nat → Obj} {ids : List Nat} {v : Value} {x : AV} (hG : ∀ b,G b → G' b) (hO : ∀ id,id ∈ ids → (O id).leO (O' id)) (h : RV w G O blk v x) (hr : x.ygy ids = true) : RV w G' O' blk v x:=by
 cases x
 case tup l=>simp [AV.ygy] at hr
 case agg l =>
  obtain ⟨arr,e,hs,hx⟩:=h
  refine ⟨arr,e,hs,fun j x hj=>?_⟩
  obtain ⟨u,hu,hru⟩:=hx j x hj
  exact ⟨u,hu,RV1.sub hG hO hru (List.all_eq_true.1 hr x (List.mem_of_getElem? hj))⟩
 case fn f l =>
  obtain ⟨arr,e,hs,hx⟩:=h
  refine ⟨arr,e,hs,fun j x hj=>?_⟩
  obtain ⟨u,hu,hru⟩:=hx j x hj
  exact ⟨u,hu,RV1.sub hG hO hru (List.all_eq_true.1 hr x (List.mem_of_getElem? hj))⟩
 all_goals (simp only [RV,RV2] at h ⊢; exact RV1.sub hG hO h (by simpa [AV.ygy] using hr))
theorem ymP {α : Type} (d : α) (f : Nat → α) : ∀ (l : List (Nat × α)),(∀ p ∈ l,f p.1 = p.2) → ∀ t,look d l t = d ∨ (f t = look d l t ∧ (t,look d l t) ∈ l)
 | [],_,_=>.inl rfl
 | (k,v) :: l,h,t=>by
  rw [yjD]
  split
  ·rename_i e; subst e; exact .inr ⟨h (_,v) (by simp),by simp⟩
  ·rcases ymP d f l (fun p hp=>h p (by simp [hp])) t with e | ⟨e,hm⟩
   ·exact .inl e
   ·exact .inr ⟨e,by simp [hm]⟩
theorem ykT {α : Type} (d : α) (f : Nat → α) (R : α → α → Prop) : ∀ (l : List (Nat × α)),(∀ p ∈ l,R (f p.1) p.2) → ∀ t,look d l t = d ∨ (R (f t) (look d l t) ∧ (t,look d l t) ∈ l)
 | [],_,_=>.inl rfl
 | (k,v) :: l,h,t=>by
  rw [yjD]
  split
  ·rename_i e; subst e; exact .inr ⟨h (_,v) (by simp),by simp⟩
  ·rcases ykT d f R l (fun p hp=>h p (by simp [hp])) t with e | ⟨e,hm⟩
   ·exact .inl e
   ·exact .inr ⟨e,by simp [hm]⟩
def yO (L : List (Nat × AV)) (O : List (Nat × Obj)) : St:=⟨look .any L,look .none O⟩
theorem yj {L : List (Nat × AV)} {OL : List (Nat × Obj)} (he : ∀ p ∈ L,s.env p.1 = p.2) (ho : ∀ p ∈ OL,(s.objs p.1).leO p.2)
 (hr : (L.all fun p=>p.2.ygy (OL.map (·.1))) = true) (hro : (OL.all fun p=>p.2.ygy (OL.map (·.1))) = true) : s.le (yO L OL):=by
 intro g a w blk h
 have hO2 : ∀ id,look .none OL id = .none ∨ ((s.objs id).leO (look .none OL id) ∧ (id,look .none OL id) ∈ OL):=ykT Obj.none s.objs Obj.leO OL ho
 have hO : ∀ id,id ∈ OL.map (·.1) → (s.objs id).leO (look .none OL id):=by
  intro id hid
  obtain ⟨p,hp,rfl⟩:=List.mem_map.1 hid
  have : ∀ (l : List (Nat × Obj)),(∀ p ∈ l,(s.objs p.1).leO p.2) → ∀ p ∈ l,(s.objs p.1).leO (look .none l p.1):=by
   intro l
   induction l with
   | nil=>intro _ p hp; cases hp
   | cons q l ih =>
    intro hl p hp
    obtain ⟨k,v⟩:=q
    rw [yjD]
    split
    ·rename_i e; rw [e]; exact hl (k,v) (by simp)
    ·rename_i e
     rcases List.mem_cons.1 hp with e2 | e2
     ·subst e2; exact absurd rfl e
     ·exact ih (fun p hp=>hl p (by simp [hp])) p e2
  exact this OL ho p hp
 have hlv : ∀ id,look .none OL id ≠ .none → s.objs id ≠ .none:=by
  intro id hid
  rcases hO2 id with e | ⟨e,_⟩
  ·exact absurd e hid
  ·exact Obj.yzk e hid
 have hG : ∀ b,Good g s.objs blk w b → Good g (look .none OL) blk w b:=fun b hb=>⟨hb.1,fun id hid=>hb.2 id (hlv id hid)⟩
 refine ⟨blk,h.size,h.small,h.defers,h.below,h.g0,h.f0,h.g0f,fun t=>?_,fun id=>?_,fun i b hi hb=>h.new i b (hlv i hi) hb,fun i j b hi hj=>h.inj i j b (hlv i hi) (hlv j hj),fun i b hi=>h.apart i b (hlv i hi)⟩
 ·show RV w (Good g (look .none OL) blk w) (look .none OL) blk _ (look .any L t)
  rcases ymP AV.any s.env L he t with e | ⟨e,hm⟩
  ·rw [e]; trivial
  ·rw [← e]
   exact RV.sub hG hO (h.env t) (by rw [e]; exact List.all_eq_true.1 hr _ hm)
 ·show yco w (Good g (look .none OL) blk w) (look .none OL) blk _ _ (look .none OL id)
  rcases hO2 id with e | ⟨e,hm⟩
  ·rw [e]; trivial
  ·have hob:=h.objs id
   have hrr:=List.all_eq_true.1 hro _ hm
   revert e hob hrr
   generalize look .none OL id = ob
   intro e hob hrr
   rcases Obj.yrM e with e | ⟨k,rows,v',heq,rfl⟩ | ⟨k,v,v',rows,heq,rfl⟩
   ·rw [e] at hob
    cases ob with
    | none=>trivial
    | box cells =>
     obtain ⟨q,arr,e,e1,e2,e3,e4⟩:=hob
     exact ⟨q,arr,e,e1,e2,e3,fun j x hx=>let ⟨u,hu,hru⟩:=e4 j x hx; ⟨u,hu,RV1.sub hG hO hru (List.all_eq_true.1 hrr x (List.mem_of_getElem? hx))⟩⟩
    | mp kvs=>exact hob
    | row k rows =>
     rcases hob with hob | ⟨q,arr,e,e1,e2,e3,e4,e5⟩
     ·exact .inl hob
     ·exact .inr ⟨q,arr,e,e1,e2,e3,e4,fun i r j c hr hc=>let ⟨u,hu,hru⟩:=e5 i r j c hr hc; ⟨u,hu,hru.mono hG (fun _ _ _ h=>h)⟩⟩
    | tr k v rows =>
     rcases hob with hob | ⟨q,arr,e,e1,e2,e3,e4,e5⟩
     ·exact .inl hob
     ·exact .inr ⟨q,arr,e,e1,e2,e3,e4,e5.mono hG (fun _ _ _ h=>h) (fun _ h=>h) (fun _ _=>rfl)⟩
   ·rw [heq] at hob
    rcases hob with hob | ⟨q,arr,e,e1,e2,e3,e4,e5⟩
    ·exact .inl hob
    ·refine .inr ⟨q,arr,e,e1,e2,e3,e4,fun i j=>(arr[i * k + j]?).getD undef,fun _ _=>noF,fun _ _ _ h=>h.elim,fun _ _ _ _ _ h=>h.elim,fun i r hr j c hc=>?_,fun i r hr j c hc=>?_⟩
     ·obtain ⟨u,hu,_⟩:=e5 i r j c hr hc
      dsimp only; rw [hu]; rfl
     ·obtain ⟨u,hu,hru⟩:=e5 i r j c hr hc
      dsimp only; rw [hu]
      exact .sh (hru.mono hG (fun _ _ _ h=>h))
   ·rw [heq] at hob
    rcases hob with hob | ⟨q,arr,e,e1,e2,e3,e4,e5⟩
    ·exact .inl hob
    ·exact .inr ⟨q,arr,e,e1,e2,e3,e4,e5.mono hG (fun _ _ _ h=>h) (fun _ h=>h) (fun _ _=>rfl)⟩
end
theorem yn8 {P : Program} {N : Nat} {c : SC} {s : St} {Q : Ex → St → Prop} (fl : Bool) (t k : Nat) {k0 : Nat} (ht : t < ycZ) (h1 : s.env t = .nil k0) (h2 : (s.ob t).isNone = true) (h : yld P N c ⟨upd t (.own t k 0) s.env,upd t (mkO fl k []) s.objs⟩ Q) : yld P N c s Q:=by
 intro g hN fl2 code hc a w blk hr
 refine h g hN fl2 code hc a w _ (?_ : Repr g _ a w (blk.upd t none noF))
 have hv:=hr.virt (d:=t) (k:=k) fl (ydG h2)
 refine ⟨hv.size,hv.small,hv.defers,hv.below,hv.g0,hv.f0,hv.g0f,fun t'=>?_,hv.objs,hv.new,hv.inj,hv.apart⟩
 show RV _ _ _ _ _ (upd t (.own t k 0) s.env t')
 rw [yaq]
 split
 ·rename_i e
  subst e
  have:=hr.env t'
  rw [h1] at this
  exact ⟨0,by simp [upd,yqe],Nat.le_refl _,.inl ⟨by show (blk.upd _ _ _).root t' = _; rw [Lay.yaG,if_pos rfl],rfl,none,this⟩⟩
 ·exact hv.env t'
theorem ymd {P : Program} {N : Nat} {c : SC} {s : St} {Q : Ex → St → Prop} (t k : Nat) {k0 : Nat} (h1 : s.env t = .nil k0) (h2 : (s.ob t).isNone = true) (ht : t < ycZ) (h : yld P N c ⟨upd t (.own t k 0) s.env,upd t (.row k []) s.objs⟩ Q) : yld P N c s Q :=
 yn8 true t k ht h1 h2 h
theorem yfV {P : Program} {N : Nat} {c : SC} {s : St} {Q : Ex → St → Prop} (t k : Nat) {k0 : Nat} (h1 : s.env t = .nil k0) (h2 : (s.ob t).isNone = true) (ht : t < ycZ) (h : yld P N c ⟨upd t (.own t k 0) s.env,upd t (.tr k 0 []) s.objs⟩ Q) : yld P N c s Q :=
 yn8 false t k ht h1 h2 h
end Go.Proofs.YtpiplmnecmkafaaGreat
namespace Go.Proofs.YtpiplmnecmkafaaGreat
open Go.RowKit
inductive RS where
 | t (n : Nat)
 | cl (n k : Nat)
 | c1 (n : Nat)
def yhM (P : Program) : ResultVar → Option RS
 | .tmp t=>if t < ycZ then some (.t t) else none
 | .cell t ty=>if t < ycZ then match yo7 P ty,yfp P ty with
  | some true,some k=>some (.cl t k)
  | some false,some _=>some (.c1 t)
  | _,_=>none
  else none
def yep (P : Program) : List ResultVar → Option (List RS)
 | []=>some []
 | r :: l=>match yhM P r,yep P l with
  | some x,some xs=>some (x :: xs)
  | _,_=>none
def yf7 (s : St) (r : RS) (y : AV) : Prop :=
 match r with
 | .t n=>ydb s (s.env n) y
 | .cl n k=>match s.env n with
  | .box id 0=>match s.ob id with
   | .box cells=>cells.length = k ∧ ydb s (.agg cells) y
   | _=>False
  | _=>False
 | .c1 n=>match s.env n with
  | .box id 0=>match s.ob id with
   | .box [x]=>ydb s x y
   | _=>False
  | _=>False
def yi4 (s : St) : List RS → List AV → Prop
 | [],[]=>True
 | r :: l,y :: l'=>yf7 s r y ∧ yi4 s l l'
 | _,_=>False
def yml (s : St) (rs : List RS) (res : AV) : Prop :=
 match rs with
 | [r]=>yf7 s r res
 | rs=>∃ ys,res = .tup ys ∧ yi4 s rs ys
def yh2 (args : List AV) : St:=⟨fun t=>(args[t]?).getD .any,fun _=>.none⟩
structure Has (P : Program) (f N : Nat) (c : SC) (rs : List RS) : Prop where
 small : N ≤ ycZ
 ok : ∃ fn code,P.funcs[f]? = some fn ∧ fn.body = some code ∧ fn.ntmps = N ∧ (∃ fl,ygf fl P N code = some c) ∧ yep P fn.results.toList = some rs
section
variable {P : Program} {g : Ghost} {s : St} {a : Act} {w : World} {blk : Lay}
theorem yki {t : TypeId} (ht : yo7 P t = some false) {ad : Addr} {u : Value} (hu : w.cell? ad = some u) : (loadVar t ad).run P w = .ok u w:=by
 have:=ylj ht hu
 simpa [Instr.loadAt,Instr.sureAddr] using this
theorem yjV {t : TypeId} {n : Nat} (ht : yo7 P t = some true) (hn : yfp P t = some n) {ad : Addr} {us : List Value} (hl : us.length = n) (hu : ∀ j u,us[j]? = some u → w.cell? (ad.add j) = some u) :
 (loadVar t ad).run P w = .ok (.agg us.toArray) w:=by
 have:=ylv ht hn hl hu
 simpa [Instr.loadAt,Instr.sureAddr] using this
def ygN (tmps : Array Value) : ResultVar → Sem Value
 | .tmp t=>pure (tmps.getD t undef)
 | .cell a t=>do loadVar t (← asAddr (tmps.getD a undef))
theorem yxp (h : Repr g s a w blk) {r : ResultVar} {q : RS} {y : AV} (hq : yhM P r = some q) (hy : yf7 s q y) : ∃ v,(ygN a.tmps r).run P w = .ok v w ∧ RV2 w (All g w) noO noB v y:=by
 cases r with
 | tmp t =>
  simp only [yhM] at hq
  split at hq
  ·rename_i hlt
   cases hq
   exact ⟨_,rfl,yly h (fun _ h=>h) (h.at_ hlt) hy⟩
  ·cases hq
 | cell t ty =>
  simp only [yhM] at hq
  split at hq
  case isFalse=>cases hq
  rename_i hlt
  have hen:=h.at_ hlt
  split at hq
  ·rename_i k h1 h2
   cases hq
   simp only [yf7] at hy
   split at hy
   ·rename_i id hid
    rw [hid] at hen
    obtain ⟨b,cells',hO',hb,e1⟩:=hen
    split at hy
    ·rename_i cells hO
     obtain ⟨hk,hy⟩:=hy
     obtain ⟨arr,e,b1,b2,b3⟩:=h.box hO hb
     have hr:=yjV (P:=P) (w:=w) h1 h2 (ad:=⟨b,0,none⟩) (us:=arr.toList) (by simp; omega) (fun j u hu=>by rw [add_lit,Nat.zero_add,cell_of w b1]; simpa using hu)
     refine ⟨.agg arr,?_,yly h (fun _ h=>h) (x:=.agg cells) ⟨arr,rfl,b2,b3⟩ hy⟩
     simp [ygN,e1,asAddr,hr]
    ·exact hy.elim
   ·exact hy.elim
  ·rename_i k h1 h2
   cases hq
   simp only [yf7] at hy
   split at hy
   ·rename_i id hid
    rw [hid] at hen
    obtain ⟨b,cells',hO',hb,e1⟩:=hen
    split at hy
    ·rename_i x hO
     obtain ⟨arr,e,b1,b2,b3⟩:=h.box hO hb
     obtain ⟨u,hu,hru⟩:=b3 0 x rfl
     have hr:=yki (P:=P) (w:=w) h1 (ad:=⟨b,0,none⟩) (u:=u) (by rw [cell_of w b1]; exact hu)
     refine ⟨u,?_,yly h (fun _ h=>h) (.of1 hru) hy⟩
     simp [ygN,e1,asAddr,hr]
    ·exact hy.elim
   ·exact hy.elim
  ·cases hq
theorem ylZ (h : Repr g s a w blk) : ∀ {l : List ResultVar} {rs : List RS} {ys : List AV},yep P l = some rs → yi4 s rs ys →
 ∃ vs : List Value,(l.mapM (ygN a.tmps)).run P w = .ok vs w ∧ vs.length = ys.length ∧ vs.length = rs.length ∧ ∀ (j : Nat) (y : AV),ys[j]? = some y → ∃ u,vs[j]? = some u ∧ RV2 w (All g w) noO noB u y
 | [],rs,ys,hc,hy=>by
  cases hc
  cases ys with
  | nil=>exact ⟨[],by simp,rfl,rfl,fun j y hj=>by simp at hj⟩
  | cons y ys=>exact hy.elim
 | r :: l,rs,ys,hc,hy=>by
  simp only [yep] at hc
  split at hc
  ·rename_i q qs h1 h2
   cases hc
   cases ys with
   | nil=>exact hy.elim
   | cons y ys =>
    obtain ⟨v,hv,hr⟩:=yxp h h1 hy.1
    obtain ⟨vs,e1,e2,e3,e4⟩:=ylZ h h2 hy.2
    refine ⟨v :: vs,by simp [List.mapM_cons,hv,e1],by simp [e2],by simp [e3],fun j z hj=>?_⟩
    cases j with
    | zero=>simp at hj; subst hj; exact ⟨v,rfl,hr⟩
    | succ j=>exact e4 j z (by simpa using hj)
  ·cases hc
theorem ygp {fn : Func} {tmps : Array Value} {vs : List Value} (h : (fn.results.toList.mapM (ygN tmps)).run P w = .ok vs w) :
 (results fn tmps).run P w = .ok (if h : vs.toArray.size = 1 then vs.toArray[0] else .tuple vs.toArray) w:=by
 have e : (results fn tmps) = (do let vs ← fn.results.mapM (ygN tmps); pure (if h : vs.size = 1 then vs[0] else .tuple vs)):=by
  unfold results
  congr 1
 rw [e,Array.mapM_eq_mapM_toList]
 simp [h]
theorem yxa (h : Repr g s a w blk) {fn : Func} {rs : List RS} {res : AV} (hc : yep P fn.results.toList = some rs) (hy : yml s rs res) : ∃ v,(results fn a.tmps).run P w = .ok v w ∧ RV w (All g w) noO noB v res:=by
 have one : ∀ r,rs = [r] → yf7 s r res → ∃ v,(results fn a.tmps).run P w = .ok v w ∧ RV w (All g w) noO noB v res:=by
  intro r e hr
  subst e
  obtain ⟨vs,e1,e2,e3,e4⟩:=ylZ h (ys:=[res]) hc ⟨hr,trivial⟩
  obtain ⟨u,hu,hru⟩:=e4 0 res rfl
  match vs,e3,hu with
  | [u'],_,hu =>
   simp at hu; subst hu
   exact ⟨_,ygp e1,yje (by simpa using hru)⟩
 unfold yml at hy
 split at hy
 ·exact one _ rfl hy
 ·rename_i hne
  obtain ⟨ys,rfl,hy⟩:=hy
  obtain ⟨vs,e1,e2,e3,e4⟩:=ylZ h hc hy
  have hl : vs.toArray.size ≠ 1:=by
   intro e
   have : rs.length = 1:=by rw [← e3]; simpa using e
   match rs,this,hne with
   | [r],_,hne=>exact hne r rfl
  refine ⟨_,ygp e1,?_⟩
  rw [dif_neg hl]
  exact ⟨vs.toArray,rfl,by simpa using e2,fun j y hj=>by obtain ⟨u,hu,hr⟩:=e4 j y hj; exact ⟨u,by simpa using hu,hr⟩⟩
end
theorem yzI {w : World} {G : Nat → Prop} {O : Nat → Obj} {blk : Nat → Option Nat} {v : Value} {x : AV} (h : RV w G O blk v x) : x.wf:=by
 have one : ∀ {v : Value} {x : AV},RV1 w G O blk v x → x.wf1:=by
  intro v x h
  cases x with
  | elt cs =>
   obtain ⟨ad,_,hc⟩:=h
   intro z hz
   obtain ⟨j,hj⟩:=List.getElem?_of_mem hz
   obtain ⟨_,u,_,hr⟩:=hc j z hj
   exact hr.wf
  | c x=>exact Rd.wf h
  | _=>exact trivial
 cases x
 case agg l =>
  obtain ⟨arr,e,hs,hl⟩:=h
  intro y hy
  obtain ⟨j,hj⟩:=List.getElem?_of_mem hy
  obtain ⟨u,_,hr⟩:=hl j y hj
  exact one hr
 case fn f l =>
  obtain ⟨arr,e,hs,hl⟩:=h
  intro y hy
  obtain ⟨j,hj⟩:=List.getElem?_of_mem hy
  obtain ⟨u,_,hr⟩:=hl j y hj
  exact one hr
 case tup l=>trivial
 all_goals (simp only [RV,RV2] at h; exact one h)
theorem yjB : ∀ (l : List AV),(∀ x,x ∈ l → x.wf) → ygO l
 | [],_=>trivial
 | x :: l,h=>⟨h x (by simp),yjB l fun y hy=>h y (by simp [hy])⟩
theorem yzP {w : World} {G G' : Nat → Prop} {v : Value} {x : AV} (hG : ∀ b,G b → G' b) (h : RV w G noO noB v x) : RV w G' noO noB v x:=yk5 (O:=noO) (bl:=noB) hG h
theorem yDt {w w' : World} {G : Nat → Prop} {N : Nat} {vs : Array Value} {v : Value} {x : AV} (h : RV w' (All ⟨w,G,noF,N,vs⟩ w') noO noB v x) : RV w' (fun b=>G b ∨ (w.heap.size ≤ b ∧ b < w'.heap.size)) noO noB v x :=
 yzP (fun b hb=>by
  rcases hb with (hb | hb) | hb
  ·exact .inl hb
  ·exact hb.elim
  ·exact .inr hb) h
theorem ywS {P : Program} {f N : Nat} {c : SC} {rs : List RS} {args : List AV} {res : AV} (hf : Has P f N c rs) (hN : args.length ≤ N)
 (H : ygO args → wpS P N c (yh2 args) (fun e s=>match e with | .exit _=>False | _=>yml s rs res)) : yB P f args res:=by
 obtain ⟨fn,code,h1,h2,h3,⟨fl,h4⟩,h5⟩:=hf.ok
 intro w G hG vs hvs hv
 have hwf : ygO args:=yjB args fun x hx=>by
  obtain ⟨j,hj⟩:=List.getElem?_of_mem hx
  obtain ⟨u,_,hr⟩:=hv j x hj
  exact yzI hr
 refine calls_of_wp h1 h2 ?_
 let g : Ghost:=⟨w,G,noF,N,#[]⟩
 let L0 : Lay:=⟨noB,fun _=>noF⟩
 have hgood : ∀ b,G b → Good g noO L0 w b:=fun b hb=>⟨.inl (.inl hb),fun id hid=>absurd rfl hid⟩
 have hinit : Repr g (yh2 args) { tmps:=vs ++ Array.replicate (fn.ntmps - vs.size) undef,defers:=[] } w L0:=by
  refine ⟨by simp [g]; omega,hf.small,rfl,Off.refl _ _,hG,fun b hb=>hb.elim,fun b hb h=>h.elim,fun t=>?_,fun id=>trivial,fun id b hid=>absurd rfl hid,fun i j b hi=>absurd rfl hi,fun i b hi=>absurd rfl hi⟩
  show RV _ _ _ _ _ ((args[t]?).getD .any)
  cases ht : args[t]? with
  | none=>trivial
  | some x =>
   obtain ⟨u,hu,hr⟩:=hv t x ht
   have hlt : t < vs.size:=(Array.getElem?_eq_some_iff.1 hu).1
   have hsm:=hf.small
   have : g.val { tmps:=vs ++ Array.replicate (fn.ntmps - vs.size) undef,defers:=[] } t = u:=by
    unfold Ghost.val
    rw [if_pos (by omega),Array.getD_eq_getD_getElem?,Array.getElem?_append_left hlt,hu]; rfl
   rw [this]
   exact yk5 (O:=noO) hgood hr
 refine Code.wp_mono ?_ (yjq (g:=g) rfl h4 (H hwf) hinit)
 intro e a' w' hl
 have fin : ∀ s blk,yml s rs res → Repr g s a' w' blk → a'.defers = [] ∧ ∃ v,(results fn a'.tmps).run P w' = .ok v w' ∧ (∃ v',Ending.returned v = .returned v' ∧ Below w.heap.size w w' ∧ RV w' (fun b=>G b ∨ (w.heap.size ≤ b ∧ b < w'.heap.size)) noO noB v' res):=by
  intro s blk hr h
  obtain ⟨v,e1,e2⟩:=yxa h h5 hr
  exact ⟨h.defers,v,e1,v,rfl,Off.below h.below,yDt e2⟩
 cases e with
 | normal=>obtain ⟨s,blk,hr,h⟩:=hl; exact fin s blk hr h
 | exit id=>obtain ⟨s,blk,hr,h⟩:=hl; exact hr.elim
 | ret=>obtain ⟨s,blk,hr,h⟩:=hl; exact fin s blk hr h
 | goto l=>exact hl.elim
 | panic ch=>exact hl.elim
 | outgrown=>exact hl.elim
end Go.Proofs.YtpiplmnecmkafaaGreat
