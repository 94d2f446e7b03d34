/- What the law FnExactNextSide stands on: the machine, in short form (names, layout). -/
import Derived.Test.YtefegahoniahkaaSExactNextSideA2
set_option linter.all false
namespace Go.Proofs.Ytefegahoniahkaa
open Go.RowKit
def yca (w : World) (G : Nat → Prop) (v : Value) (x : AV) (F : Nat → Prop) : Prop :=
 match x with
 | .c c=>OT w G v c F
 | .agg l=>∃ arr : Array Value,v = .agg arr ∧ arr.size = l.length ∧ ∃ Fs : Nat → Nat → Prop,
  (∀ (j : Nat) (y : AV),l[j]? = some y → ∃ u c,y = .c c ∧ arr[j]? = some u ∧ OT w G u c (Fs j)) ∧ (∀ j b,Fs j b → F b) ∧ (∀ j j' b,Fs j b → Fs j' b → j = j')
 | _=>False
def AOk (w : World) (G : Nat → Prop) (v : Value) (x : AV) (F : Nat → Prop) : Prop :=
 match x with
 | .tup l=>∃ arr : Array Value,v = .tuple arr ∧ arr.size = l.length ∧ ∃ Fs : Nat → Nat → Prop,
  (∀ (j : Nat) (y : AV),l[j]? = some y → ∃ u,arr[j]? = some u ∧ yca w G u y (Fs j)) ∧ (∀ j b,Fs j b → F b) ∧ (∀ j j' b,Fs j b → Fs j' b → j = j')
 | x=>yca w G v x F
def sid (d j : Nat) : Nat:=d + 10000 * (j + 1)
def tid (d j : Nat) : Nat:=d + 10000000 * (j + 1)
def C.unp (id : Nat) : C → AV
 | .ow k rows=>.own id k rows.length
 | .ot k rows=>.own id k rows.length
 | .bx cells=>if cells.all C.plain then .box id 0 else .any
 | .jk=>.any
 | x=>.c x
def C.yar (id : Nat) : C → List (Nat × Obj)
 | .ow k rows=>[(id,.row k rows)]
 | .ot k rows=>[(id,.tr k 0 rows)]
 | .bx cells=>if cells.all C.plain then [(id,.box (cells.map .c))] else []
 | _=>[]
def yhl (d : Nat) : Nat → List C → List AV
 | _,[]=>[]
 | j,c :: l=>c.unp (sid d j) :: yhl d (j + 1) l
def yeT (d : Nat) : Nat → List C → List (Nat × Obj)
 | _,[]=>[]
 | j,c :: l=>c.yar (sid d j) ++ yeT d (j + 1) l
def AV.cs : List AV → List C
 | []=>[]
 | .c y :: l=>y :: AV.cs l
 | _ :: l=>.jk :: AV.cs l
def AV.yhi (d : Nat) : AV → AV
 | .c y=>y.unp d
 | .agg l=>.agg (yhl d 0 (AV.cs l))
 | x=>x
def AV.ydb (d : Nat) : AV → List (Nat × Obj)
 | .c y=>y.yar d
 | .agg l=>yeT d 0 (AV.cs l)
 | _=>[]
def yh5 (d : Nat) : Nat → List AV → List AV
 | _,[]=>[]
 | j,x :: l=>x.yhi (tid d j) :: yh5 d (j + 1) l
def yeL (d : Nat) : Nat → List AV → List (Nat × Obj)
 | _,[]=>[]
 | j,x :: l=>x.ydb (tid d j) ++ yeL d (j + 1) l
def AV.unp (d : Nat) : AV → AV
 | .tup l=>.tup (yh5 d 0 l)
 | x=>x.yhi d
def AV.yar (d : Nat) : AV → List (Nat × Obj)
 | .tup l=>yeL d 0 l
 | x=>x.ydb d
def yae (O : Nat → Obj) : List (Nat × Obj) → Nat → Obj
 | []=>O
 | (k,o) :: l=>upd k o (yae O l)
def yeI (s : St) (l : List (Nat × Obj)) : Prop:=(∀ p,p ∈ l → s.ob p.1 = .none) ∧ (l.map (·.1)).Nodup
theorem ycf {O : Nat → Obj} : ∀ {l : List (Nat × Obj)},(l.map (·.1)).Nodup → ∀ p,p ∈ l → yae O l p.1 = p.2
 | [],_,p,hp=>by cases hp
 | (k,o) :: l,hn,p,hp=>by
  simp only [List.map_cons,List.nodup_cons] at hn
  simp only [yae,yN]
  rcases List.mem_cons.1 hp with e | e
  ·subst e; simp
  ·have : p.1 ≠ k:=fun e2=>hn.1 (e2 ▸ List.mem_map_of_mem e)
   rw [if_neg this]
   exact ycf hn.2 p e
theorem ydl {O : Nat → Obj} : ∀ {l : List (Nat × Obj)} {i : Nat},i ∉ l.map (·.1) → yae O l i = O i
 | [],i,_=>rfl
 | (k,o) :: l,i,hi=>by
  simp only [List.map_cons,List.mem_cons,not_or] at hi
  simp only [yae,yN]
  rw [if_neg hi.1]
  exact ydl hi.2
theorem yk5 : ∀ {l : List AV} {j : Nat} {c : C},l[j]? = some (.c c) → (AV.cs l)[j]? = some c
 | [],j,c,h=>by simp at h
 | x :: l,0,c,h=>by simp at h; subst h; rfl
 | x :: l,j + 1,c,h=>by
  have:=yk5 (l:=l) (j:=j) (c:=c) (by simpa using h)
  cases x <;> simpa [AV.cs] using this
theorem ycg : ∀ (l : List AV),(AV.cs l).length = l.length
 | []=>rfl
 | x :: l=>by cases x <;> simp [AV.cs,ycg l]
theorem yqP : ∀ (l : List C),AV.cs (l.map .c) = l
 | []=>rfl
 | c :: l=>by simp [AV.cs,yqP l]
def ydY (w : World) (G F : Nat → Prop) (l : List (Nat × Obj)) (Y : (Nat → Prop) → (Nat → Obj) → (Nat → Option Nat) → Prop) : Prop :=
 ∃ (R : Nat → Option Nat) (S : Nat → Nat → Prop),
  (∀ p,p ∈ l → ∀ b,(R p.1 = some b ∨ S p.1 b) → F b) ∧
  (∀ p,p ∈ l → ∀ b,R p.1 = some b → ¬ S p.1 b) ∧
  (∀ p q,p ∈ l → q ∈ l → ∀ b,(R p.1 = some b ∨ S p.1 b) → (R q.1 = some b ∨ S q.1 b) → p.1 = q.1) ∧
  (∀ (G' : Nat → Prop) (O : Nat → Obj) (B : Nat → Option Nat),(∀ b,G b → G' b) → (∀ p,p ∈ l → O p.1 = p.2 ∧ B p.1 = R p.1) → Y G' O B) ∧
  (∀ (G' : Nat → Prop) (O : Nat → Obj) (B : Nat → Option Nat),(∀ b,G b → G' b) → ∀ p,p ∈ l → yaL w G' O B (S p.1) (R p.1) p.2)
section
variable {w : World} {G F : Nat → Prop} {v : Value}
theorem yff {Y : (Nat → Prop) → (Nat → Obj) → (Nat → Option Nat) → Prop} (hY : ∀ G' O B,(∀ b,G b → G' b) → Y G' O B) : ydY w G F [] Y :=
 ⟨fun _=>none,fun _=>noF,fun p hp=>by simp at hp,fun p hp=>by simp at hp,fun p q hp=>by simp at hp,fun G' O B hG _=>hY G' O B hG,fun _ _ _ _ p hp=>by simp at hp⟩
theorem ye8 {id : Nat} {o : Obj} {Y : (Nat → Prop) → (Nat → Obj) → (Nat → Option Nat) → Prop} (r : Option Nat) (S : Nat → Prop) (h1 : ∀ b,(r = some b ∨ S b) → F b) (h2 : ∀ b,r = some b → ¬ S b)
 (h3 : ∀ (G' : Nat → Prop) (O : Nat → Obj) (B : Nat → Option Nat),(∀ b,G b → G' b) → O id = o → B id = r → Y G' O B)
 (h4 : ∀ (G' : Nat → Prop) (O : Nat → Obj) (B : Nat → Option Nat),(∀ b,G b → G' b) → yaL w G' O B S r o) : ydY w G F [(id,o)] Y:=by
 refine ⟨fun _=>r,fun _=>S,fun p hp b hb=>h1 b hb,fun p hp b hb=>h2 b hb,fun p q hp hq _ _ _=>?_,fun G' O B hG hO=>?_,fun G' O B hG p hp=>?_⟩
 ·simp only [List.mem_singleton] at hp hq; rw [hp,hq]
 ·obtain ⟨e1,e2⟩:=hO (id,o) (by simp)
  exact h3 G' O B hG e1 e2
 ·simp only [List.mem_singleton] at hp; subst hp
  exact h4 G' O B hG
theorem ydY.mono {F' : Nat → Prop} {l : List (Nat × Obj)} {Y Y' : (Nat → Prop) → (Nat → Obj) → (Nat → Option Nat) → Prop} (h : ydY w G F l Y) (hF : ∀ b,F b → F' b) (hY : ∀ G' O B,Y G' O B → Y' G' O B) : ydY w G F' l Y':=by
 obtain ⟨R,S,h1,h2,h3,h4,h5⟩:=h
 exact ⟨R,S,fun p hp b hb=>hF b (h1 p hp b hb),h2,h3,fun G' O B hG hO=>hY _ _ _ (h4 G' O B hG hO),h5⟩
theorem ylO {F1 F2 : Nat → Prop} {l1 l2 : List (Nat × Obj)} {Y1 Y2 : (Nat → Prop) → (Nat → Obj) → (Nat → Option Nat) → Prop} (h1 : ydY w G F1 l1 Y1) (h2 : ydY w G F2 l2 Y2) (hn : ((l1 ++ l2).map (·.1)).Nodup)
 (hd : ∀ b,F1 b → ¬ F2 b) (hF1 : ∀ b,F1 b → F b) (hF2 : ∀ b,F2 b → F b) : ydY w G F (l1 ++ l2) (fun G' O B=>Y1 G' O B ∧ Y2 G' O B):=by
 obtain ⟨R1,S1,a1,a2,a3,a4,a5⟩:=h1
 obtain ⟨R2,S2,b1,b2,b3,b4,b5⟩:=h2
 rw [List.map_append] at hn
 have hx:=(List.nodup_append.1 hn).2.2
 have in1 : ∀ p,p ∈ l1 → p.1 ∈ l1.map (·.1):=fun p hp=>List.mem_map_of_mem hp
 have in2 : ∀ p,p ∈ l2 → p.1 ∉ l1.map (·.1):=fun p hp hm=>hx _ hm _ (List.mem_map_of_mem hp) rfl
 have r1 : ∀ p,p ∈ l1 → (if p.1 ∈ l1.map (·.1) then R1 p.1 else R2 p.1) = R1 p.1:=fun p hp=>if_pos (in1 p hp)
 have r2 : ∀ p,p ∈ l2 → (if p.1 ∈ l1.map (·.1) then R1 p.1 else R2 p.1) = R2 p.1:=fun p hp=>if_neg (in2 p hp)
 have s1 : ∀ p,p ∈ l1 → (if p.1 ∈ l1.map (·.1) then S1 p.1 else S2 p.1) = S1 p.1:=fun p hp=>if_pos (in1 p hp)
 have s2 : ∀ p,p ∈ l2 → (if p.1 ∈ l1.map (·.1) then S1 p.1 else S2 p.1) = S2 p.1:=fun p hp=>if_neg (in2 p hp)
 refine ⟨fun i=>if i ∈ l1.map (·.1) then R1 i else R2 i,fun i=>if i ∈ l1.map (·.1) then S1 i else S2 i,fun p hp b hb=>?_,fun p hp b hb=>?_,fun p q hp hq b hpb hqb=>?_,fun G' O B hG hO=>⟨?_,?_⟩,fun G' O B hG p hp=>?_⟩
 ·dsimp only at hb
  rcases List.mem_append.1 hp with hp | hp
  ·rw [r1 p hp,s1 p hp] at hb; exact hF1 b (a1 p hp b hb)
  ·rw [r2 p hp,s2 p hp] at hb; exact hF2 b (b1 p hp b hb)
 ·dsimp only at hb ⊢
  rcases List.mem_append.1 hp with hp | hp
  ·rw [r1 p hp] at hb; rw [s1 p hp]; exact a2 p hp b hb
  ·rw [r2 p hp] at hb; rw [s2 p hp]; exact b2 p hp b hb
 ·dsimp only at hpb hqb
  rcases List.mem_append.1 hp with hp | hp <;> rcases List.mem_append.1 hq with hq | hq
  ·rw [r1 p hp,s1 p hp] at hpb; rw [r1 q hq,s1 q hq] at hqb
   exact a3 p q hp hq b hpb hqb
  ·rw [r1 p hp,s1 p hp] at hpb; rw [r2 q hq,s2 q hq] at hqb
   exact (hd b (a1 p hp b hpb) (b1 q hq b hqb)).elim
  ·rw [r2 p hp,s2 p hp] at hpb; rw [r1 q hq,s1 q hq] at hqb
   exact (hd b (a1 q hq b hqb) (b1 p hp b hpb)).elim
  ·rw [r2 p hp,s2 p hp] at hpb; rw [r2 q hq,s2 q hq] at hqb
   exact b3 p q hp hq b hpb hqb
 ·refine a4 G' O B hG fun p hp=>?_
  obtain ⟨e1,e2⟩:=hO p (List.mem_append_left _ hp)
  exact ⟨e1,by rw [e2]; exact r1 p hp⟩
 ·refine b4 G' O B hG fun p hp=>?_
  obtain ⟨e1,e2⟩:=hO p (List.mem_append_right _ hp)
  exact ⟨e1,by rw [e2]; exact r2 p hp⟩
 ·dsimp only
  rcases List.mem_append.1 hp with hp | hp
  ·rw [r1 p hp,s1 p hp]; exact a5 G' O B hG p hp
  ·rw [r2 p hp,s2 p hp]; exact b5 G' O B hG p hp
theorem OT.rd {c : C} (h : OT w G v c F) (hp : c.plain = true) : Rd w G v c:=by
 cases h with
 | sh h=>exact h
 | _=>simp [C.plain] at hp
theorem OT.lays {c : C} {id : Nat} (h : OT w G v c F) : ydY w G F (c.yar id) (fun G' O B=>RV1 w G' O B v (c.unp id)):=by
 cases h with
 | sh h =>
  have hp : ∀ (w : World) (G : Nat → Prop) (v : Value) (c : C),Rd w G v c → c.unp id = .c c ∧ c.yar id = []:=by
   intro w G v c h; cases h <;> exact ⟨rfl,rfl⟩
  obtain ⟨e1,e2⟩:=hp w G v c h
  rw [e1,e2]
  exact yff fun G' O B hG=>Rd.mono h hG (fun _ _ _ h=>h)
 | jk h1 h2=>exact yff fun G' O B hG=>trivial
 | ow0 =>
  refine ye8 none noF (fun b hb=>by rcases hb with hb | hb; cases hb; exact hb.elim) (fun b hb=>by cases hb) (fun G' O B hG hO hB=>?_) (fun G' O B hG=>.inl ⟨rfl,rfl⟩)
  exact ⟨0,by rw [hO]; rfl,Nat.le_refl _,.inl ⟨hB,rfl,_,rfl⟩⟩
 | ot0 =>
  refine ye8 none noF (fun b hb=>by rcases hb with hb | hb; cases hb; exact hb.elim) (fun b hb=>by cases hb) (fun G' O B hG hO hB=>?_) (fun G' O B hG=>.inl ⟨rfl,rfl⟩)
  exact ⟨0,by rw [hO]; rfl,Nat.le_refl _,.inl ⟨hB,rfl,_,rfl⟩⟩
 | @ow b0 len cap k rows arr e F0 vals h1 h2 h3 h4 h5 h6 h7 h8 h9 =>
  have hsz : rows.length * k ≤ arr.size:=Nat.le_trans (Nat.mul_le_mul_right k (by omega)) h5
  refine ye8 (some b0) noF (fun b hb=>by rcases hb with hb | hb; cases hb; exact h7; exact hb.elim) (fun b _ hb=>hb) (fun G' O B hG hO hB=>?_) (fun G' O B hG=>.inr ⟨b0,arr,e,rfl,h1,hsz,h6,fun i r j c hr hc=>⟨_,h8 i r hr j c hc,(h9 i r hr j c hc).mono hG (fun _ _ _ h=>h)⟩⟩)
  exact ⟨rows.length,by rw [hO]; rfl,Nat.le_refl _,.inr ⟨b0,cap,arr,e,hB,by rw [h2],by omega,h4,h1,h5⟩⟩
 | @ot b0 len cap k rows arr e F0 vals Fs h1 h2 h3 h4 h5 h6 h7 h8 h9 h10 h11 =>
  have hsz : rows.length * k ≤ arr.size:=Nat.le_trans (Nat.mul_le_mul_right k (by omega)) h5
  refine ye8 (some b0) (fun b=>∃ i j,Fs i j b) (fun b hb=>?_) (fun b hb=>?_) (fun G' O B hG hO hB=>?_) (fun G' O B hG=>.inr ⟨b0,arr,e,rfl,h1,hsz,h6,vals,Fs,fun i j x hx=>⟨⟨i,j,hx⟩,(h8 i j x hx).2⟩,h9,h10,fun i r hr j c hc=>(h11 i r hr j c hc).mono hG (fun _ _ _ h=>h) (fun _ h=>h) (fun _ _=>rfl)⟩)
  ·rcases hb with hb | ⟨i,j,hb⟩
   ·cases hb; exact h7
   ·exact (h8 i j b hb).1
  ·cases hb
   rintro ⟨i,j,hb⟩
   exact (h8 i j _ hb).2 rfl
  ·exact ⟨rows.length,by rw [hO]; rfl,Nat.le_refl _,.inr ⟨b0,cap,arr,e,hB,by rw [h2],by omega,h4,h1,h5⟩⟩
 | @bx b0 cells arr e F0 vals Fs h1 h2 h3 h4 h5 h6 h7 =>
  simp only [C.unp,C.yar]
  split
  ·rename_i hpl
   refine ye8 (some b0) noF (fun b hb=>by rcases hb with hb | hb; cases hb; exact h3; exact hb.elim) (fun b _ hb=>hb) (fun G' O B hG hO hB=>⟨b0,_,hO,hB,rfl⟩) (fun G' O B hG=>⟨b0,arr,e,rfl,h1,by simp [h2],fun j x hx=>?_⟩)
   rw [List.getElem?_map,Option.map_eq_some_iff] at hx
   obtain ⟨c,hc,rfl⟩:=hx
   exact ⟨_,h6 j c hc,((h7 j c hc).rd (List.all_eq_true.1 hpl c (List.mem_of_getElem? hc))).mono hG (fun _ _ _ h=>h)⟩
  ·exact yff fun G' O B hG=>trivial
theorem ykq (d : Nat) (us : List Value) {Fs : Nat → Nat → Prop} (hd : ∀ j j' b,Fs j b → Fs j' b → j = j') : ∀ (cs : List C) (j : Nat),
 (∀ (i : Nat) (c : C),cs[i]? = some c → ∃ u,us[j + i]? = some u ∧ OT w G u c (Fs (j + i))) → ((yeT d j cs).map (·.1)).Nodup →
 ydY w G (fun b=>∃ i,j ≤ i ∧ Fs i b) (yeT d j cs) (fun G' O B=>∀ (i : Nat) (x : AV),(yhl d j cs)[i]? = some x → ∃ u,us[j + i]? = some u ∧ RV1 w G' O B u x)
 | [],j,_,_=>yff fun _ _ _ _ i x hx=>by simp [yhl] at hx
 | c :: cs,j,h,hn=>by
  obtain ⟨u0,hu0,h0⟩:=h 0 c rfl
  rw [Nat.add_zero] at hu0 h0
  have hn2 : ((yeT d (j + 1) cs).map (·.1)).Nodup:=by
   simp only [yeT,List.map_append] at hn
   exact (List.nodup_append.1 hn).2.1
  have ih:=ykq d us hd cs (j + 1) (fun i c' hc=>by
   obtain ⟨u,hu,ho⟩:=h (i + 1) c' (by simpa using hc)
   exact ⟨u,by rw [← hu]; congr 1; omega,by rw [show j + 1 + i = j + (i + 1) by omega]; exact ho⟩) hn2
  refine (ylO (F:=fun b=>∃ i,j ≤ i ∧ Fs i b) (h0.lays (id:=sid d j)) ih hn ?_ (fun b hb=>⟨j,Nat.le_refl _,hb⟩) (fun b hb=>let ⟨i,h1,h2⟩:=hb; ⟨i,by omega,h2⟩)).mono (fun _ h=>h) ?_
  ·rintro b hb ⟨i,h1,h2⟩
   have:=hd j i b hb h2
   omega
  ·rintro G' O B ⟨y1,y2⟩ i x hx
   cases i with
   | zero=>simp [yhl] at hx; subst hx; exact ⟨u0,hu0,y1⟩
   | succ i =>
    obtain ⟨u,hu,hr⟩:=y2 i x (by simpa [yhl] using hx)
    exact ⟨u,by rw [← hu]; congr 1; omega,hr⟩
theorem yhV (d : Nat) : ∀ (cs : List C) (j : Nat),(yhl d j cs).length = cs.length
 | [],_=>rfl
 | c :: cs,j=>by simp [yhl,yhV d cs]
theorem yhW (d : Nat) : ∀ (cs : List AV) (j : Nat),(yh5 d j cs).length = cs.length
 | [],_=>rfl
 | c :: cs,j=>by simp [yh5,yhW d cs]
theorem yca.lays {x : AV} {d : Nat} (h : yca w G v x F) (hn : ((x.ydb d).map (·.1)).Nodup) : ydY w G F (x.ydb d) (fun G' O B=>RV2 w G' O B v (x.yhi d)):=by
 cases x with
 | c c=>exact (OT.lays (id:=d) h).mono (fun _ h=>h) fun G' O B hy=>ynu hy
 | agg l =>
  obtain ⟨arr,rfl,hs,Fs,h1,h2,h3⟩:=h
  have key:=ykq (w:=w) (G:=G) d arr.toList h3 (AV.cs l) 0 (fun i c hc=>by
   have hlt : i < l.length:=by rw [← ycg l]; exact (List.getElem?_eq_some_iff.1 hc).1
   obtain ⟨u,c',e1,hu,ho⟩:=h1 i _ (List.getElem?_eq_getElem hlt)
   have hg : l[i]? = some (.c c'):=by rw [List.getElem?_eq_getElem hlt,e1]
   have:=yk5 hg
   rw [hc] at this; cases this
   rw [Nat.zero_add]
   exact ⟨u,by simpa using hu,ho⟩) hn
  refine key.mono (fun b hb=>let ⟨i,_,hb⟩:=hb; h2 i b hb) fun G' O B hy=>?_
  refine ⟨arr,rfl,by rw [yhV,ycg]; exact hs,fun j x hj=>?_⟩
  obtain ⟨u,hu,hr⟩:=hy j x hj
  exact ⟨u,by simpa using hu,hr⟩
 | _=>exact h.elim
theorem yl1 (d : Nat) (us : List Value) {Fs : Nat → Nat → Prop} (hd : ∀ j j' b,Fs j b → Fs j' b → j = j') : ∀ (cs : List AV) (j : Nat),
 (∀ (i : Nat) (c : AV),cs[i]? = some c → ∃ u,us[j + i]? = some u ∧ yca w G u c (Fs (j + i))) → ((yeL d j cs).map (·.1)).Nodup →
 ydY w G (fun b=>∃ i,j ≤ i ∧ Fs i b) (yeL d j cs) (fun G' O B=>∀ (i : Nat) (x : AV),(yh5 d j cs)[i]? = some x → ∃ u,us[j + i]? = some u ∧ RV2 w G' O B u x)
 | [],j,_,_=>yff fun _ _ _ _ i x hx=>by simp [yh5] at hx
 | c :: cs,j,h,hn=>by
  obtain ⟨u0,hu0,h0⟩:=h 0 c rfl
  rw [Nat.add_zero] at hu0 h0
  have hn1 : ((c.ydb (tid d j)).map (·.1)).Nodup:=by
   simp only [yeL,List.map_append] at hn
   exact (List.nodup_append.1 hn).1
  have hn2 : ((yeL d (j + 1) cs).map (·.1)).Nodup:=by
   simp only [yeL,List.map_append] at hn
   exact (List.nodup_append.1 hn).2.1
  have ih:=yl1 d us hd cs (j + 1) (fun i c' hc=>by
   obtain ⟨u,hu,ho⟩:=h (i + 1) c' (by simpa using hc)
   exact ⟨u,by rw [← hu]; congr 1; omega,by rw [show j + 1 + i = j + (i + 1) by omega]; exact ho⟩) hn2
  refine (ylO (F:=fun b=>∃ i,j ≤ i ∧ Fs i b) (h0.lays (d:=tid d j) hn1) ih hn ?_ (fun b hb=>⟨j,Nat.le_refl _,hb⟩) (fun b hb=>let ⟨i,h1,h2⟩:=hb; ⟨i,by omega,h2⟩)).mono (fun _ h=>h) ?_
  ·rintro b hb ⟨i,h1,h2⟩
   have:=hd j i b hb h2
   omega
  ·rintro G' O B ⟨y1,y2⟩ i x hx
   cases i with
   | zero=>simp [yh5] at hx; subst hx; exact ⟨u0,hu0,y1⟩
   | succ i =>
    obtain ⟨u,hu,hr⟩:=y2 i x (by simpa [yh5] using hx)
    exact ⟨u,by rw [← hu]; congr 1; omega,hr⟩
theorem AOk.lays {x : AV} {d : Nat} (h : AOk w G v x F) (hn : ((x.yar d).map (·.1)).Nodup) : ydY w G F (x.yar d) (fun G' O B=>RV w G' O B v (x.unp d)):=by
 cases x with
 | tup l =>
  obtain ⟨arr,rfl,hs,Fs,h1,h2,h3⟩:=h
  have key:=yl1 (w:=w) (G:=G) d arr.toList h3 l 0 (fun i c hc=>by
   obtain ⟨u,hu,ho⟩:=h1 i c hc
   rw [Nat.zero_add]
   exact ⟨u,by simpa using hu,ho⟩) hn
  refine key.mono (fun b hb=>let ⟨i,_,hb⟩:=hb; h2 i b hb) fun G' O B hy=>?_
  refine ⟨arr,rfl,by rw [yhW]; exact hs,fun j x hj=>?_⟩
  obtain ⟨u,hu,hr⟩:=hy j x hj
  exact ⟨u,by simpa using hu,hr⟩
 | c c=>exact (yca.lays (x:=.c c) (d:=d) h hn).mono (fun _ h=>h) fun G' O B hy=>yfH hy
 | agg l=>exact (yca.lays (x:=.agg l) (d:=d) h hn).mono (fun _ h=>h) fun G' O B hy=>yfH hy
 | _=>exact h.elim
end
def yjQ (P : Program) (f : Nat) (args : List AV) (res : AV) : Prop :=
 ∀ (w : World) (G : Nat → Prop),(∀ b,G b → b < w.heap.size) → ∀ vs : Array Value,vs.size = args.length →
  (∀ (j : Nat) (x : AV),args[j]? = some x → ∃ u : Value,vs[j]? = some u ∧ RV w G noO noB u x) →
  Calls P f vs w fun e w'=>∃ v F,e = .returned v ∧ Below w.heap.size w w' ∧ (∀ b,F b → w.heap.size ≤ b ∧ b < w'.heap.size) ∧
   AOk w' (fun b=>(G b ∨ (w.heap.size ≤ b ∧ b < w'.heap.size)) ∧ ¬ F b) v res F
section
variable {g : Ghost} {s : St} {a : Act} {w : World} {L : Lay}
theorem Repr.got (h : Repr g s a w L) {w' : World} {G F : Nat → Prop} {v : Value} {res : AV} {d : Nat} (hb : Below w.heap.size w w') (hF : ∀ b,F b → w.heap.size ≤ b ∧ b < w'.heap.size)
 (hG : ∀ b,G b → (Good g s.objs L w b ∨ (w.heap.size ≤ b ∧ b < w'.heap.size)) ∧ ¬ F b) (ho : AOk w' G v res F) (hfr : yeI s (res.yar d)) :
 ∃ L' : Lay,Repr g ⟨s.env,yae s.objs (res.yar d)⟩ a w' L' ∧ RV w' (Good g (yae s.objs (res.yar d)) L' w') (yae s.objs (res.yar d)) L' v (res.unp d):=by
 obtain ⟨R,S,h1,h2,h3,h4,h5⟩:=ho.lays hfr.2
 generalize hl : res.yar d = l at *
 let L' : Lay:=⟨fun i=>if i ∈ l.map (·.1) then R i else L.root i,fun i=>if i ∈ l.map (·.1) then S i else L.sub i⟩
 have rt : ∀ i,L'.root i = if i ∈ l.map (·.1) then R i else L.root i:=fun i=>rfl
 have sb : ∀ i,L'.sub i = if i ∈ l.map (·.1) then S i else L.sub i:=fun i=>rfl
 have mem : ∀ i,i ∈ l.map (·.1) → ∃ p,p ∈ l ∧ p.1 = i:=fun i hi=>by obtain ⟨p,hp,e⟩:=List.mem_map.1 hi; exact ⟨p,hp,e⟩
 have fpF : ∀ i,i ∈ l.map (·.1) → ∀ b,L'.fp i b → F b:=by
  intro i hi b hf
  obtain ⟨p,hp,rfl⟩:=mem i hi
  unfold Lay.fp at hf
  rw [rt,sb,if_pos hi,if_pos hi] at hf
  exact h1 p hp b hf
 have none_ : ∀ i,i ∈ l.map (·.1) → s.objs i = .none:=by
  intro i hi
  obtain ⟨p,hp,rfl⟩:=mem i hi
  exact hfr.1 p hp
 have key:=h.yqz [] (fun i=>i ∈ l.map (·.1)) (objs':=yae s.objs l) (w':=w') (L':=L') (X:=noF) (.of_below _ hb) (fun _ hq=>hq.elim)
  (fun i hi=>⟨by rw [ydl hi]; simp [Obj.ybR],by rw [rt,if_neg hi],by rw [sb,if_neg hi]⟩)
  (fun i b hi _ hf=>.inr (hF b (fpF i hi b hf)))
  (fun i j b hi hj _ _ hfi hfj=>by
   obtain ⟨p,hp,rfl⟩:=mem i hi
   obtain ⟨q,hq,rfl⟩:=mem j hj
   unfold Lay.fp at hfi hfj
   rw [rt,sb,if_pos hi,if_pos hi] at hfi
   rw [rt,sb,if_pos hj,if_pos hj] at hfj
   exact h3 p q hp hq b hfi hfj)
  (fun i b hi _ hr=>by
   obtain ⟨p,hp,rfl⟩:=mem i hi
   rw [rt,if_pos hi] at hr
   rw [sb,if_pos hi]
   exact h2 p hp b hr)
  (fun i hi _ hn=>absurd (none_ i hi) hn)
  (fun i k v' rows hi _ hk=>by rw [none_ i hi] at hk; cases hk)
  (fun G' K hN i hi=>by
   obtain ⟨p,hp,rfl⟩:=mem i hi
   rw [rt,sb,if_pos hi,if_pos hi,ycf hfr.2 p hp]
   refine h5 G' _ _ (fun b hb=>?_) p hp
   obtain ⟨e1,e2⟩:=hG b hb
   rcases e1 with e1 | e1
   ·exact K.good b e1
   ·exact hN b e1.1 e1.2 fun i hi _ hf=>e2 (fpF i hi b hf))
 obtain ⟨k1,k2,k3⟩:=key
 refine ⟨L',k1,h4 _ _ _ (fun b hb=>?_) fun p hp=>⟨ycf hfr.2 p hp,by show L'.root p.1 = _; rw [rt,if_pos (List.mem_map_of_mem hp)]⟩⟩
 obtain ⟨e1,e2⟩:=hG b hb
 rcases e1 with e1 | e1
 ·exact k2.good b e1
 ·exact k3 b e1.1 e1.2 fun i hi _ hf=>e2 (fpF i hi b hf)
end
def C.closed : C → Prop
 | .sl _ rows=>rows = []
 | .ow _ rows=>∀ r,r ∈ rows → ∀ c,c ∈ r → c.closed
 | .ot _ rows=>∀ r,r ∈ rows → ∀ c,c ∈ r → c.closed
 | .bx cells=>∀ c,c ∈ cells → c.closed
 | _=>True
termination_by c=>SizeOf.sizeOf c
decreasing_by
 all_goals first
  | (have h1:=List.sizeOf_lt_of_mem ‹_ ∈ rows›
     have h2:=List.sizeOf_lt_of_mem ‹_ ∈ r›
     simp only [C.ow.sizeOf_spec,C.ot.sizeOf_spec]
     omega)
  | (have h1:=List.sizeOf_lt_of_mem ‹_ ∈ cells›
     simp only [C.bx.sizeOf_spec]
     omega)
theorem Rd.closed {w : World} {G G' : Nat → Prop} {v : Value} {c : C} (h : Rd w G v c) (hc : c.closed) : Rd w G' v c:=by
 cases h with
 | i h=>exact .i h
 | b=>exact .b
 | u h=>exact .u h
 | q h=>exact .q h
 | s h=>exact .s h
 | sl vals h1 h2 h3 h4 h5 h6 h7 =>
  simp only [C.closed] at hc
  subst hc
  exact .sl vals h1 h2 h3 (by simp) h5 (by simp) (by simp)
theorem OT.closed {w : World} {G G' : Nat → Prop} {v : Value} {c : C} {F : Nat → Prop} (h : OT w G v c F) : c.closed → OT w G' v c F:=by
 induction h with
 | sh h=>intro hc; exact .sh (h.closed hc)
 | jk h h2=>intro _; exact .jk h h2
 | ow0=>intro _; exact .ow0
 | ot0=>intro _; exact .ot0
 | ow vals h1 h2 h3 h4 h5 h6 h7 h8 h9 =>
  intro hc
  simp only [C.closed] at hc
  exact .ow vals h1 h2 h3 h4 h5 h6 h7 h8 (fun i r hr j c hj=>(h9 i r hr j c hj).closed (hc r (List.mem_of_getElem? hr) c (List.mem_of_getElem? hj)))
 | ot vals Fs h1 h2 h3 h4 h5 h6 h7 h8 h9 h10 _ ih =>
  intro hc
  simp only [C.closed] at hc
  exact .ot vals Fs h1 h2 h3 h4 h5 h6 h7 h8 h9 h10 (fun i r hr j c hj=>ih i r hr j c hj (hc r (List.mem_of_getElem? hr) c (List.mem_of_getElem? hj)))
 | bx vals Fs h1 h2 h3 h4 h5 h6 _ ih =>
  intro hc
  simp only [C.closed] at hc
  exact .bx vals Fs h1 h2 h3 h4 h5 h6 (fun j c hj=>ih j c hj (hc c (List.mem_of_getElem? hj)))
def AV.ylr : AV → Prop
 | .c y=>y.closed
 | .agg l=>∀ c,c ∈ AV.cs l → c.closed
 | _=>False
def AV.closed : AV → Prop
 | .tup l=>∀ x,x ∈ l → x.ylr
 | x=>x.ylr
theorem yca.closed {w : World} {G G' : Nat → Prop} {v : Value} {x : AV} {F : Nat → Prop} (h : yca w G v x F) (hc : x.ylr) : yca w G' v x F:=by
 cases x with
 | c c=>exact OT.closed h hc
 | agg l =>
  obtain ⟨arr,e,hs,Fs,h1,h2,h3⟩:=h
  refine ⟨arr,e,hs,Fs,fun j y hy=>?_,h2,h3⟩
  obtain ⟨u,c,rfl,hu,ho⟩:=h1 j y hy
  exact ⟨u,c,rfl,hu,ho.closed (hc c (List.mem_of_getElem? (yk5 hy)))⟩
 | _=>exact h.elim
theorem AOk.closed {w : World} {G G' : Nat → Prop} {v : Value} {x : AV} {F : Nat → Prop} (h : AOk w G v x F) (hc : x.closed) : AOk w G' v x F:=by
 cases x with
 | tup l =>
  obtain ⟨arr,e,hs,Fs,h1,h2,h3⟩:=h
  exact ⟨arr,e,hs,Fs,fun j y hy=>let ⟨u,hu,ho⟩:=h1 j y hy; ⟨u,hu,ho.closed (hc y (List.mem_of_getElem? hy))⟩,h2,h3⟩
 | c c=>exact yca.closed (x:=.c c) h hc
 | agg l=>exact yca.closed (x:=.agg l) h hc
 | _=>exact h.elim
section
variable {P : Program} {f : Nat} {s : St} {d : Nat} {avs args : List AV} {res : AV} {K : St → Prop}
def St.take (s : St) (d : Nat) (res : AV) : St:=⟨upd d (res.unp d) s.env,yae s.objs (res.yar d)⟩
theorem yqN (hp : yjQ P f args res) (ho : ybt s avs args) (hc : res.closed) (hfr : yeI s (res.yar d)) (hK : K (s.take d res)) : yfs P f avs (some d) s K:=by
 intro g a w blk h hd vs hvs hv
 obtain ⟨h1,h2⟩:=yc2 ho
 refine (hp w (All g w) (fun b hb=>ym6 h hb) vs (by omega) (fun j y hj=>?_)).mono ?_
 ·obtain ⟨x,hx,hxy⟩:=h2 j y hj
  obtain ⟨u,hu,hru⟩:=hv j x hx
  exact ⟨u,hu,yfH (ygP h (fun _ h=>h) hru hxy)⟩
 ·rintro e w' ⟨v,F,rfl,hb,hF,hr⟩
  obtain ⟨L',k1,k2⟩:=h.got (G:=noF) hb hF (fun b hb=>hb.elim) (hr.closed hc) hfr
  exact ⟨v,rfl,_,L',hK,k1.put hd k2⟩
theorem yhJ (hp : yjQ P f args res) (ho : ybt s avs args) (hdat : avs.all AV.ycT = true) (hfr : yeI s (res.yar d)) (hK : K (s.take d res)) : yfs P f avs (some d) s K:=by
 intro g a w blk h hd vs hvs hv
 obtain ⟨h1,h2⟩:=yc2 ho
 refine (hp w (Good g s.objs blk w) (fun b hb=>yfT h hb) vs (by omega) (fun j y hj=>?_)).mono ?_
 ·obtain ⟨x,hx,hxy⟩:=h2 j y hj
  obtain ⟨u,hu,hru⟩:=hv j x hx
  exact ⟨u,hu,yim (fun _ h=>h) hru (List.all_eq_true.1 hdat x (List.mem_of_getElem? hx)) hxy⟩
 ·rintro e w' ⟨v,F,rfl,hb,hF,hr⟩
  obtain ⟨L',k1,k2⟩:=h.got hb hF (fun b hb=>hb) hr hfr
  exact ⟨v,rfl,_,L',hK,k1.put hd k2⟩
end
end Go.Proofs.Ytefegahoniahkaa
namespace Go.Proofs.Ytefegahoniahkaa
open Go.RowKit
abbrev Lab:=List Nat × Bool
def AV.cl1 : AV → Bool
 | .any=>false
 | _=>true
def AV.cl2 : AV → Bool
 | .agg l | .fn _ l=>l.all AV.cl1
 | x=>x.cl1
def AV.cl : AV → Bool
 | .tup l=>l.all AV.cl2
 | x=>x.cl2
def AV.yec (l : List Nat) (x : AV) : AV:=l.foldl (fun x i=>x.yat i) x
theorem yd0 {i : Nat} {x : AV} (h : i ∉ x.yau) : x.ybn i = true:=by
 cases x <;> first | rfl | (simp [AV.yau,AV.yan] at h; simp [AV.ybn]; exact Ne.symm h)
theorem yoq {i : Nat} {x : AV} (h : i ∉ x.yaW) : x.ynx i = true:=by
 cases x
 case agg l=>exact List.all_eq_true.2 fun y hy=>yd0 fun hi=>h (List.mem_flatMap.2 ⟨y,hy,hi⟩)
 case fn f l=>exact List.all_eq_true.2 fun y hy=>yd0 fun hi=>h (List.mem_flatMap.2 ⟨y,hy,hi⟩)
 all_goals (simp only [AV.yaW] at h; simp only [AV.ynx]; exact yd0 h)
theorem ygy {i : Nat} {x : AV} (h : i ∉ x.yau) : x.yat i = x:=by
 unfold AV.yat; rw [if_pos (yd0 h)]
theorem ygK {α : Type} {f : α → α} {l : List α} (h : ∀ x,x ∈ l → f x = x) : l.map f = l:=by
 rw [List.map_congr_left h]; simp
theorem yo4 {i : Nat} {x : AV} (h : i ∉ x.ids) : x.kill i = x:=by
 cases x
 case agg l =>
  simp only [AV.kill]
  rw [ygK fun y hy=>ygy fun hi=>h (List.mem_flatMap.2 ⟨y,hy,hi⟩)]
 case fn f l =>
  simp only [AV.kill]
  rw [if_pos (List.all_eq_true.2 fun y hy=>yd0 fun hi=>h (List.mem_flatMap.2 ⟨y,hy,hi⟩))]
 case tup l =>
  simp only [AV.kill]
  rw [if_pos (List.all_eq_true.2 fun y hy=>yoq fun hi=>h (List.mem_flatMap.2 ⟨y,hy,hi⟩))]
 all_goals exact ygy h
theorem yfz {i : Nat} {x : AV} (h : (x.yat i).cl1 = true) : x.yat i = x:=by
 unfold AV.yat at h ⊢
 split
 ·rfl
 ·rename_i e; rw [if_neg e] at h; cases h
theorem ypr {x : AV} (h : x.cl = true) : x.cl1 = true:=by cases x <;> first | rfl | exact h
theorem ymP {i : Nat} {x : AV} (h : (x.kill i).cl = true) : x.kill i = x:=by
 cases x
 case agg l =>
  simp only [AV.kill,AV.cl,AV.cl2,List.all_map,List.all_eq_true] at h ⊢
  rw [ygK fun y hy=>yfz (h y hy)]
 case fn f l =>
  simp only [AV.kill] at h ⊢
  split
  ·rfl
  ·rename_i e; rw [if_neg e] at h; cases h
 case tup l =>
  simp only [AV.kill] at h ⊢
  split
  ·rfl
  ·rename_i e; rw [if_neg e] at h; cases h
 all_goals exact yfz (ypr h)
theorem ybM : ∀ {l : List Nat} {x : AV},(∀ i,i ∈ l → i ∉ x.ids) → x.kills l = x
 | [],_,_=>rfl
 | a :: l,x,h=>by
  show (x.kill a).kills l = x
  rw [yo4 (h a (by simp))]
  exact ybM fun i hi=>h i (by simp [hi])
theorem ydG : ∀ {l : List Nat} {x : AV},(x.kills l).cl = true → x.kills l = x
 | [],_,_=>rfl
 | a :: l,x,h=>by
  have h' : ((x.kill a).kills l).cl = true:=h
  have e:=ydG h'
  show (x.kill a).kills l = x
  rw [e] at h' ⊢
  exact ymP h'
theorem yfe : ∀ {l : List Nat} {x : AV},(∀ i,i ∈ l → i ∉ x.yau) → x.yec l = x
 | [],_,_=>rfl
 | a :: l,x,h=>by
  show (x.yat a).yec l = x
  rw [ygy (h a (by simp))]
  exact yfe fun i hi=>h i (by simp [hi])
theorem ygU : ∀ {l : List Nat} {x : AV},(x.yec l).cl1 = true → x.yec l = x
 | [],_,_=>rfl
 | a :: l,x,h=>by
  have h' : ((x.yat a).yec l).cl1 = true:=h
  have e:=ygU h'
  show (x.yat a).yec l = x
  rw [e] at h' ⊢
  exact yfz h'
theorem yaQ {x : AV} {i : Nat} (h : i ∈ x.yan) : i ∈ x.yau:=by cases x <;> first | exact h | cases h
theorem ybE {x : AV} {i : Nat} (h : i ∈ x.yau) : i ∈ x.ids:=by
 cases x
 case agg l=>obtain ⟨y,hy,hi⟩:=List.mem_flatMap.1 h; exact List.mem_flatMap.2 ⟨y,hy,yaQ hi⟩
 case fn f l=>obtain ⟨y,hy,hi⟩:=List.mem_flatMap.1 h; exact List.mem_flatMap.2 ⟨y,hy,yaQ hi⟩
 all_goals first | exact h | cases h
theorem yeu : ∀ (l : List Nat) (cells : List AV),(Obj.box cells).kills l = .box (cells.map (AV.yec l))
 | [],cells=>by
  show Obj.box cells = .box (cells.map (AV.yec []))
  rw [ygK (f:=AV.yec []) fun x _=>rfl]
 | a :: l,cells=>by
  show (Obj.box (cells.map (AV.yat a))).kills l = _
  rw [yeu l,List.map_map]
  rfl
theorem yef : ∀ (l : List Nat) {k : Nat} {rows : List (List C)},(Obj.row k rows).kills l = .row k rows
 | [],_,_=>rfl
 | a :: l,k,rows=>yef l
theorem yeH : ∀ (l : List Nat) {k v : Nat} {rows : List (List C)},(Obj.tr k v rows).kills l = .tr k v rows
 | [],_,_,_=>rfl
 | a :: l,k,v,rows=>yeH l
def Obj.bare : Obj → Prop
 | .box l=>∀ x,x ∈ l → x.yau = []
 | _=>True
theorem ymh {l : List Nat} {o : Obj} (h : o.bare) : o.kills l = o:=by
 cases o with
 | none=>exact Obj.ybJ l
 | box cells=>rw [yeu,ygK fun x hx=>yfe fun i _=>by rw [h x hx]; simp]
 | row k rows=>exact yef l
 | tr k v rows=>exact yeH l
def ygs (Kl : List Nat) (U : List (Nat × Obj)) (o : Obj) (i : Nat) : Obj :=
 match U.find? (fun p=>p.1 == i) with
 | some p=>p.2
 | none=>if i ∈ Kl then .none else o.kills Kl
def St.act (s : St) (Kl : List Nat) (U : List (Nat × Obj)) (d : Option Nat) (v : AV) : St :=
 (⟨fun t=>(s.env t).kills Kl,fun i=>ygs Kl U (s.objs i) i⟩ : St).put d v
theorem yhb {Kl : List Nat} {U : List (Nat × Obj)} {o : Obj} {i : Nat} (h1 : i ∉ Kl) (h2 : ∀ p,p ∈ U → p.1 ≠ i) : ygs Kl U o i = o.kills Kl:=by
 unfold ygs
 have : U.find? (fun p=>p.1 == i) = none:=by
  rw [List.find?_eq_none]
  intro p hp
  simpa using h2 p hp
 rw [this]
 simp [h1]
theorem St.ext' {s s' : St} (he : ∀ t,s.env t = s'.env t) (ho : ∀ i,s.objs i = s'.objs i) : s = s':=by
 obtain ⟨e,o⟩:=s
 obtain ⟨e',o'⟩:=s'
 congr
 ·exact funext he
 ·exact funext ho
theorem ybr {s : St} {d : Option Nat} {v : AV} {t : Nat} (h : d ≠ some t) : (s.put d v).env t = s.env t:=by
 cases d with
 | none=>rfl
 | some e=>show upd e v s.env t = _; rw [yN,if_neg (fun h'=>h (by rw [h']))]
theorem put_eq {s : St} {d : Option Nat} {v : AV} {t : Nat} (h : d = some t) : (s.put d v).env t = v:=by
 subst h; show upd t v s.env t = _; rw [yN,if_pos rfl]
theorem yad {s : St} {d : Option Nat} {v : AV} : (s.put d v).objs = s.objs:=by cases d <;> rfl
theorem ydq {s : St} {Kl : List Nat} {U : List (Nat × Obj)} {d : Option Nat} {v : AV} {t : Nat} (h : d ≠ some t) : (s.act Kl U d v).env t = (s.env t).kills Kl:=ybr h
theorem yk0 {s : St} {Kl : List Nat} {U : List (Nat × Obj)} {d : Option Nat} {v : AV} {t : Nat} (h : d = some t) : (s.act Kl U d v).env t = v:=put_eq h
theorem ycy {s : St} {Kl : List Nat} {U : List (Nat × Obj)} {d : Option Nat} {v : AV} {i : Nat} : (s.act Kl U d v).objs i = ygs Kl U (s.objs i) i:=by
 unfold St.act; rw [yad]
section
variable {P : Program} {ev ev' : X → AV} {ob ob' : Nat → Obj}
theorem ydF {op : IOp} (hq : op.reads.isSome = true) {k : AV → Prop} (hx : ∀ x,x ∈ op.xs → ev' x = ev x) (h : yY P op ev ob k) : yY P op ev' ob k:=by
 have ml : ∀ xs : List X,(∀ x,x ∈ xs → ev' x = ev x) → xs.map ev' = xs.map ev:=fun xs h=>List.map_congr_left h
 have mo : ∀ x : Option X,(∀ y,y ∈ x.toList → ev' y = ev y) → x.map ev' = x.map ev:=by
  intro x h
  cases x with
  | none=>rfl
  | some x=>simp only [Option.map_some]; rw [h x (by simp)]
 cases op <;> simp only [IOp.xs,List.mem_cons,List.not_mem_nil,or_false,forall_eq_or_imp,forall_eq] at hx <;> simp only [yY] at h ⊢
 all_goals first
  | exact h
  | (rw [hx.1,hx.2.1,hx.2.2]; exact h)
  | (rw [hx.1,hx.2]; exact h)
  | (rw [hx]; exact h)
  | (rw [ml _ hx]; exact h)
  | (rw [hx.1,ml _ hx.2]; exact h)
  | (rw [hx.1,mo _ (fun y hy=>hx.2 y (by simp [hy])),mo _ (fun y hy=>hx.2 y (by simp [hy]))]; exact h)
  | (rw [hx.1,mo _ (fun y hy=>hx.2 y (by simp [hy])),mo _ (fun y hy=>hx.2 y (by simp [hy])),mo _ (fun y hy=>hx.2 y (by simp [hy]))]; exact h)
  | (rw [← ycp (s:=⟨fun t=>ev (.t t),ob⟩)]
     ·exact h
     ·intro x hx'
      cases x with
      | t n=>exact (hx (.t n) hx').symm
      | k a=>rfl)
  | (rename_i n x
     match n,hq with
     | 0,_=>simp only at h ⊢; rw [hx]; exact h
     | 1,_=>simp only at h ⊢; rw [hx]; exact h
     | 3,_=>simp only at h ⊢; rw [hx]; exact h)
def ygg (v : AV) (o o' : Obj) : Prop :=
 match o with
 | .box l=>∃ l',o' = .box l' ∧ l'.length = l.length ∧ ∀ (j : Nat) (x : AV),l[j]? = some x → (v = x ∨ ∃ m,v = .agg m ∧ x ∈ m) → l'[j]? = some x
 | o=>o' = o
theorem ygg.refl (v : AV) (o : Obj) : ygg v o o:=by
 cases o with
 | box l=>exact ⟨l,rfl,rfl,fun _ _ h _=>h⟩
 | _=>rfl
theorem ygg.kills {v : AV} {l : List Nat} {o : Obj} (h : ∀ i,i ∈ l → i ∉ v.ids) : ygg v o (o.kills l):=by
 cases o with
 | none=>exact Obj.ybJ l
 | row k rows=>exact yef l
 | tr k u rows=>exact yeH l
 | box cells =>
  refine ⟨_,yeu l cells,by simp,fun j x hx hv=>?_⟩
  rw [List.getElem?_map,hx,Option.map_some,yfe]
  intro i hi hc
  refine h i hi ?_
  rcases hv with rfl | ⟨m,rfl,hm⟩
  ·exact ybE hc
  ·exact List.mem_flatMap.2 ⟨x,hm,hc⟩
theorem ygg.ytk {v : AV} {l : List Nat} {o : Obj} (h : v.cl = true) : ygg v (o.kills l) o:=by
 cases o with
 | none=>rw [Obj.ybJ]; rfl
 | row k rows=>rw [yef]; rfl
 | tr k u rows=>rw [yeH]; rfl
 | box cells =>
  rw [yeu]
  refine ⟨_,rfl,by simp,fun j x hx hv=>?_⟩
  rw [List.getElem?_map,Option.map_eq_some_iff] at hx
  obtain ⟨y,hy,rfl⟩:=hx
  rw [hy,ygU]
  rcases hv with rfl | ⟨m,rfl,hm⟩
  ·exact ypr h
  ·exact List.all_eq_true.1 h _ hm
theorem yk9 {op : IOp} (hq : op.reads.isSome = true) (hc : op.yE = false) {v : AV} (hob : ∀ x,x ∈ op.xs → ∀ i,i ∈ (ev x).ids → ygg v (ob i) (ob' i)) (h : ∀ k : AV → Prop,k v → yY P op ev ob k) : ∀ k : AV → Prop,k v → yY P op ev ob' k:=by
 intro k hk
 have hv:=h (fun r=>r = v) rfl
 have hkk:=h k hk
 have e1 : ∀ id,(yba ob).ob id = ob id:=fun _=>rfl
 have e2 : ∀ id,(yba ob').ob id = ob' id:=fun _=>rfl
 cases op
 case idx n x i =>
  simp only [yY] at hkk hv ⊢
  have hx:=hob x (by simp [IOp.xs])
  revert hkk hx
  generalize ev x = a; generalize ev i = b
  intro hkk hx
  unfold yeV at hkk ⊢
  split at hkk <;> first | exact hkk | skip
  rename_i id ver i j k' m n
  have hr:=hx id (by simp [AV.ids,AV.yaW,AV.yau,AV.yan])
  rw [e1] at hkk
  simp only [e2]
  cases ho : ob id <;> rw [ho] at hkk hr <;> first | exact hkk.elim | skip
  have hr' : ob' id = _:=hr
  rw [hr']; exact hkk
 case fld off x =>
  simp only [yY] at hkk hv ⊢
  have hx:=hob x (by simp [IOp.xs])
  revert hkk hx
  generalize ev x = a
  intro hkk hx
  unfold yfl at hkk ⊢
  split at hkk <;> first | exact hkk | skip
  rename_i id ver i j k' i' o
  have hr:=hx id (by simp [AV.ids,AV.yaW,AV.yau,AV.yan])
  rw [e1] at hkk
  simp only [e2]
  cases ho : ob id <;> rw [ho] at hkk hr <;> first | exact hkk.elim | skip
  have hr' : ob' id = _:=hr
  rw [hr']; exact hkk
 case len x =>
  simp only [yY] at hkk hv ⊢
  have hx:=hob x (by simp [IOp.xs])
  revert hkk hx
  generalize ev x = a
  intro hkk hx
  unfold yek at hkk ⊢
  split at hkk <;> first | exact hkk | skip
  rename_i id ver i j k' n
  have hr:=hx id (by simp [AV.ids,AV.yaW,AV.yau,AV.yan])
  rw [e1] at hkk
  simp only [e2]
  cases ho : ob id <;> rw [ho] at hkk hr <;> first | exact hkk.elim | skip
  have hr' : ob' id = _:=hr
  rw [hr']; exact hkk
 case sla m n x i =>
  simp only [yY] at hkk hv ⊢
  have hx:=hob x (by simp [IOp.xs])
  revert hkk hx
  generalize ev x = a; generalize ev i = b
  intro hkk hx
  unfold yhu at hkk ⊢
  split at hkk <;> first | exact hkk.elim | skip
  rename_i id k' j h
  have hr:=hx id (by simp [AV.ids,AV.yaW,AV.yau,AV.yan])
  rw [e1] at hkk
  simp only [e2]
  cases ho : ob id <;> rw [ho] at hkk hr <;> first | exact hkk.elim | skip
  have hr' : ob' id = _:=hr
  rw [hr']; exact hkk
 case ld1 x =>
  simp only [yY] at hkk hv ⊢
  have hx:=hob x (by simp [IOp.xs])
  revert hkk hv hx
  generalize ev x = a
  intro hv hkk hx
  unfold yeC at hkk hv ⊢
  split at hkk
  ·rename_i id o
   have hr:=hx id (by simp [AV.ids,AV.yaW,AV.yau,AV.yan])
   simp only [e1] at hkk hv
   simp only [e2]
   cases ho : ob id <;> rw [ho] at hkk hr hv <;> first | exact hkk.elim | skip
   rename_i cells
   obtain ⟨l',e3,_,e4⟩:=hr
   rw [e3]
   simp only at hv hkk ⊢
   cases hc : cells[o]? <;> rw [hc] at hv
   ·exact hv.elim
   ·rename_i u
    have hu : u = v:=hv
    subst hu
    rw [e4 o u hc (.inl rfl)]
    exact hk
  ·rename_i id k' i o
   have hr:=hx id (by simp [AV.ids,AV.yaW,AV.yau,AV.yan])
   rw [e1] at hkk
   simp only [e2]
   cases ho : ob id <;> rw [ho] at hkk hr <;> first | exact hkk.elim | skip
   all_goals
    have hr' : ob' id = _:=hr
    rw [hr']; exact hkk
  ·rename_i id ver i j k' i' o
   have hr:=hx id (by simp [AV.ids,AV.yaW,AV.yau,AV.yan])
   rw [e1] at hkk
   simp only [e2]
   cases ho : ob id <;> rw [ho] at hkk hr <;> first | exact hkk.elim | skip
   all_goals
    have hr' : ob' id = _:=hr
    rw [hr']; exact hkk
  ·exact hkk
  ·exact hkk.elim
 case ldn n x =>
  simp only [yY] at hkk hv ⊢
  have hx:=hob x (by simp [IOp.xs])
  revert hkk hv hx
  generalize ev x = a
  intro hv hkk hx
  unfold yej at hkk hv ⊢
  split at hkk
  ·rename_i id o
   have hr:=hx id (by simp [AV.ids,AV.yaW,AV.yau,AV.yan])
   simp only [e1] at hkk hv
   simp only [e2]
   cases ho : ob id <;> rw [ho] at hkk hr hv <;> first | exact hkk.elim | skip
   rename_i cells
   obtain ⟨l',e3,e5,e4⟩:=hr
   rw [e3]
   simp only at hv hkk ⊢
   obtain ⟨h1,h2⟩:=hv
   refine ⟨by omega,?_⟩
   have : (l'.drop o).take n = (cells.drop o).take n:=by
    apply List.ext_getElem?
    intro q
    rw [List.getElem?_take,List.getElem?_take]
    split
    ·rename_i hq
     rw [List.getElem?_drop,List.getElem?_drop]
     have hlt : o + q < cells.length:=by omega
     have hg:=List.getElem?_eq_getElem hlt
     rw [hg]
     refine e4 _ _ hg (.inr ⟨_,h2.symm,?_⟩)
     refine List.mem_of_getElem? (i:=q) ?_
     rw [List.getElem?_take,if_pos hq,List.getElem?_drop]; exact hg
    ·rfl
   rw [this]
   exact hkk.2
  ·rename_i id k' i o
   have hr:=hx id (by simp [AV.ids,AV.yaW,AV.yau,AV.yan])
   rw [e1] at hkk
   simp only [e2]
   cases ho : ob id <;> rw [ho] at hkk hr <;> first | exact hkk.elim | skip
   all_goals
    have hr' : ob' id = _:=hr
    rw [hr']; exact hkk
  ·rename_i id ver i j k' i' o
   have hr:=hx id (by simp [AV.ids,AV.yaW,AV.yau,AV.yan])
   rw [e1] at hkk
   simp only [e2]
   cases ho : ob id <;> rw [ho] at hkk hr <;> first | exact hkk.elim | skip
   all_goals
    have hr' : ob' id = _:=hr
    rw [hr']; exact hkk
  ·exact hkk
  ·exact hkk.elim
 case cvt n x =>
  match n,hq with
  | 0,_=>exact hkk
  | 1,_=>exact hkk
  | 3,_=>exact hkk
 case bld zs ps =>
  simp only [yY] at hkk ⊢
  rw [← ycp (s:=⟨fun t=>ev (.t t),ob⟩)]
  ·exact hkk
  ·intro x _; cases x <;> rfl
 case call f xs=>cases hc
 case callv f xs=>cases hc
 all_goals first | exact hkk | (simp [IOp.reads] at hq)
theorem yiz {x y : AV} (h : ∀ i,i ∈ x.yan → ob' i = ob i) (hh : out1 (yba ob) x y) : out1 (yba ob') x y:=by
 have e1 : ∀ id,(yba ob).ob id = ob id:=fun _=>rfl
 have e2 : ∀ id,(yba ob').ob id = ob' id:=fun _=>rfl
 cases x <;> simp only [out1,e1,e2] at hh ⊢ <;> first | exact hh | (rw [h _ (by simp [AV.yan])]; exact hh)
theorem ydz : ∀ {l l' : List AV},(∀ x,x ∈ l → ∀ i,i ∈ x.yan → ob' i = ob i) → ycc (yba ob) l l' → ycc (yba ob') l l'
 | [],[],_,_=>trivial
 | [],_ :: _,_,h=>h.elim
 | _ :: _,[],_,h=>h.elim
 | x :: l,y :: l',hx,h=>⟨yiz (hx x (by simp)) h.1,ydz (fun z hz=>hx z (by simp [hz])) h.2⟩
theorem ymy {E : Nat → Prop} (hob : ∀ i,¬ E i → ob' i = ob i) (hcell : ∀ i cells,ob i = .box cells → ∀ x,x ∈ cells → ∀ j,j ∈ x.yan → ¬ E j) {x y : AV} (h : ∀ j,j ∈ x.yau → ¬ E j) (hh : ybi (yba ob) x y) : ybi (yba ob') x y:=by
 have e1 : ∀ id,(yba ob).ob id = ob id:=fun _=>rfl
 have e2 : ∀ id,(yba ob').ob id = ob' id:=fun _=>rfl
 have ne : ∀ {z : AV},(∀ j,j ∈ z.yan → ¬ E j) → ∀ i,i ∈ z.yan → ob' i = ob i:=fun hz i hi=>hob i (hz i hi)
 cases x
 case agg l =>
  cases y <;> simp only [ybi] at hh ⊢
  exact ydz (fun z hz=>ne fun j hj=>h j (List.mem_flatMap.2 ⟨z,hz,hj⟩)) hh
 case fn f l =>
  cases y <;> simp only [ybi] at hh ⊢
  exact ⟨hh.1,ydz (fun z hz=>ne fun j hj=>h j (List.mem_flatMap.2 ⟨z,hz,hj⟩)) hh.2⟩
 case box id off =>
  have hid : ob' id = ob id:=hob id (h id (by simp [AV.yau,AV.yan]))
  simp only [ybi,e1,e2] at hh ⊢
  rw [hid]
  cases ho : ob id <;> rw [ho] at hh <;> first | exact hh.elim | skip
  rename_i cells
  simp only at hh ⊢
  split at hh
  ·exact ydz (fun z hz=>ne (hcell id cells ho z (List.mem_of_mem_drop hz))) hh
  ·exact hh.elim
 all_goals exact yiz (y:=y) (ne fun j hj=>h j (yaQ hj)) hh
theorem ya6 {E : Nat → Prop} (hob : ∀ i,¬ E i → ob' i = ob i) (hcell : ∀ i cells,ob i = .box cells → ∀ x,x ∈ cells → ∀ j,j ∈ x.yan → ¬ E j) : ∀ {l l' : List AV},(∀ x,x ∈ l → ∀ j,j ∈ x.yau → ¬ E j) → ybt (yba ob) l l' → ybt (yba ob') l l'
 | [],[],_,_=>trivial
 | [],_ :: _,_,h=>h.elim
 | _ :: _,[],_,h=>h.elim
 | x :: l,y :: l',hx,h=>⟨ymy hob hcell (hx x (by simp)) h.1,ya6 hob hcell (fun z hz=>hx z (by simp [hz])) h.2⟩
theorem yiL {op : IOp} (hq : op.reads.isSome = true) {E : Nat → Prop} (hob : ∀ i,¬ E i → ob' i = ob i) (hcell : ∀ i cells,ob i = .box cells → ∀ x,x ∈ cells → ∀ j,j ∈ x.yan → ¬ E j) {v : AV} (hx : ∀ x,x ∈ op.xs → ∀ j,j ∈ (ev x).ids → ¬ E j) (h : ∀ k : AV → Prop,k v → yY P op ev ob k) : ∀ k : AV → Prop,k v → yY P op ev ob' k:=by
 cases hc : op.yE with
 | false=>exact yk9 hq hc (fun x hx' i hi=>by rw [hob i (hx x hx' i hi)]; exact ygg.refl _ _) h
 | true =>
  intro k hk
  have hkk:=h k hk
  cases op <;> first | cases hc | skip
  ·simp only [yY] at hkk ⊢
   obtain ⟨args,res,h1,h2,h3⟩:=hkk
   refine ⟨args,res,h1,ya6 hob hcell (fun y hy=>?_) h2,h3⟩
   obtain ⟨x,hx',rfl⟩:=List.mem_map.1 hy
   exact fun j hj=>hx x hx' j (ybE hj)
  ·rename_i f xs
   simp only [yY] at hkk ⊢
   have hf:=hx f (by simp [IOp.xs])
   revert hkk hf
   generalize ev f = fv
   intro hkk hf
   unfold yen at hkk ⊢
   split at hkk
   ·rename_i f' l
    obtain ⟨h0,args,res,h1,h2,h3⟩:=hkk
    refine ⟨h0,args,res,h1,ya6 hob hcell (fun y hy=>?_) h2,h3⟩
    rcases List.mem_append.1 hy with hy | hy
    ·obtain ⟨x,hx',rfl⟩:=List.mem_map.1 hy
     exact fun j hj=>hx x (by simp [IOp.xs,hx']) j (ybE hj)
    ·exact fun j hj=>hf j (List.mem_flatMap.2 ⟨y,hy,hj⟩)
   ·exact hkk.elim
theorem yl8 {op : IOp} (hq : op.reads.isSome = true) {e : Nat} (hob : ∀ i,i ≠ e → ob' i = ob i) (hcell : ∀ i cells,ob i = .box cells → ∀ x,x ∈ cells → e ∉ x.yan) {v : AV} (hx : ∀ x,x ∈ op.xs → e ∉ (ev x).ids) (h : ∀ k : AV → Prop,k v → yY P op ev ob k) : ∀ k : AV → Prop,k v → yY P op ev ob' k :=
 yiL hq (E:=fun i=>i = e) hob (fun i cells hi x hx' j hj h=>hcell i cells hi x hx' (h ▸ hj)) (fun x hx' j hj h=>hx x hx' (h ▸ hj)) h
end
end Go.Proofs.Ytefegahoniahkaa
namespace Go.Proofs.Ytefegahoniahkaa
open Go.RowKit
def AV.yhr : AV → Bool
 | .sub _ _ _ _ _ _=>false
 | _=>true
def yjl (op : IOp) (s : St) : Bool :=
 match op with
 | .mv _=>true
 | .len x=>(s.ev x).yhr
 | _=>false
def ync (a : AV) (l : List Nat) : List Nat:=if a.yhr then l else []
def lw (l : List Nat) : List Nat:=l.map fun i=>2 * i
def lk (l : List Nat) : List Nat:=l.map fun i=>2 * i + 1
theorem ylu {l : List Nat} {j : Nat} : 2 * j ∈ lw l ↔ j ∈ l:=by
 unfold lw; rw [List.mem_map]
 exact ⟨fun ⟨i,hi,e⟩=>by have : i = j:=by omega
                         exact this ▸ hi,fun h=>⟨j,h,rfl⟩⟩
theorem yit {l : List Nat} {j : Nat} : 2 * j + 1 ∈ lk l ↔ j ∈ l:=by
 unfold lk; rw [List.mem_map]
 exact ⟨fun ⟨i,hi,e⟩=>by have : i = j:=by omega
                         exact this ▸ hi,fun h=>⟨j,h,rfl⟩⟩
theorem ytU {l : List Nat} {j : Nat} : ¬ 2 * j + 1 ∈ lw l:=by
 unfold lw; rw [List.mem_map]
 rintro ⟨i,_,e⟩; omega
theorem yrr {l : List Nat} {j : Nat} : ¬ 2 * j ∈ lk l:=by
 unfold lk; rw [List.mem_map]
 rintro ⟨i,_,e⟩; omega
def yb9 (i : Ins) (s : St) (v : AV) : Lab:=((if yjl i.op s then [] else lw ((i.op.xs.map s.ev).flatMap AV.ids)) ++ lk ((v :: i.op.xs.map s.ev).flatMap AV.ids),(v :: i.op.xs.map s.ev).all AV.cl)
def yoR (i : Ins) : Lab:=(lw i.d.toList ++ lk i.d.toList,true)
def yhB (s : St) : AV → Bool
 | .row id _ _ _=>(s.ob id).tree
 | _=>false
def wOf (op : IOp) (s : St) : List Nat :=
 match op with
 | .st1 x v | .stn _ x v=>(s.ev x).ids ++ (if yhB s (s.ev x) then (s.ev v).ids else [])
 | .app k _ x y=>(s.ev x).ids ++ (match yT s k (s.ev y) with | some _=>[] | none=>(s.ev y).ids)
 | .cp _ x _=>(s.ev x).ids
 | .bsl _ xs=>(xs.map s.ev).flatMap AV.ids
 | _=>[]
def kOf (op : IOp) (s : St) : List Nat :=
 match op with
 | .st1 x v | .stn _ x v=>if yhB s (s.ev x) then (s.ev v).ids else []
 | .cp _ _ _=>[]
 | .app k b x y=>ync (s.ev x) (wOf (.app k b x y) s)
 | op=>wOf op s
def ypt (op : IOp) (d : Option Nat) (s : St) : List Nat:=lw (wOf op s ++ d.toList) ++ lk (kOf op s ++ d.toList)
def ykS (i : Ins) (s : St) : Lab:=(ypt i.op i.d s,true)
def ylo (k : Nat) (xs : List AV) (s : St) (d : Option Nat) (K : St → Prop) : Prop :=
 match AV.rowsOf xs with
 | some rows=>(∀ r ∈ rows,r.length = k) ∧ newP s d (.row k rows) (fun d=>.own d k rows.length) K
 | none=>False
def ycx (P : Program) (d : Option Nat) (op : IOp) (s : St) (K : St → Prop) : Prop :=
 match op with
 | .bsl k xs=>ylo k (xs.map s.ev) s d K
 | op=>yA P d op s K
section
variable {P : Program} {s : St} {K : St → Prop}
theorem ym5 {op : IOp} {d : Option Nat} (h : ycx P d op s K) : yA P d op s K:=by
 cases op
 case bsl k xs =>
  simp only [ycx,ylo] at h
  simp only [yA,yih]
  cases hr : AV.rowsOf (xs.map s.ev) <;> rw [hr] at h
  ·exact h.elim
  ·exact h
 all_goals exact h
theorem ypY {x : AV} {c : C} (h : x.toC = some c) : x.yan = [] ∧ x.cl1 = true:=by
 cases x <;> first | exact ⟨rfl,rfl⟩ | cases h
theorem yhG : ∀ {l : List AV} {cs : List C},AV.yb8 l = some cs → ∀ x,x ∈ l → ∃ c,x.toC = some c
 | [],_,_,x,hx=>by cases hx
 | y :: l,cs,h,x,hx=>by
  simp only [AV.yb8] at h
  split at h
  ·rename_i c1 cs1 h1 h2
   rcases List.mem_cons.1 hx with rfl | hx
   ·exact ⟨_,h1⟩
   ·exact yhG h2 x hx
  ·cases h
theorem yok {x : AV} {c : C} (h : x.toC = some c) : x.ids = [] ∧ x.cl = true:=by
 cases x <;> first | exact ⟨rfl,rfl⟩ | cases h
theorem yng {x : AV} {r : List C} (h : x.rowOf = some r) : x.ids = [] ∧ x.cl = true:=by
 unfold AV.rowOf at h
 cases x
 case agg l =>
  have hb:=yhG h
  refine ⟨?_,?_⟩
  ·show l.flatMap AV.yau = []
   rw [List.flatMap_eq_nil_iff]
   intro y hy
   obtain ⟨c,hc⟩:=hb y hy
   cases y <;> first | rfl | cases hc
  ·exact List.all_eq_true.2 fun y hy=>let ⟨c,hc⟩:=hb y hy; (ypY hc).2
 all_goals
  obtain ⟨c,hc⟩:=yhG h _ (List.mem_singleton.2 rfl)
  exact yok hc
theorem yhS : ∀ {l : List AV} {rows : List (List C)},AV.rowsOf l = some rows → ∀ x,x ∈ l → x.ids = [] ∧ x.cl = true
 | [],_,_,x,hx=>by cases hx
 | y :: l,cs,h,x,hx=>by
  simp only [AV.rowsOf] at h
  split at h
  ·rename_i c1 cs1 h1 h2
   rcases List.mem_cons.1 hx with rfl | hx
   ·exact yng h1
   ·exact yhS h2 x hx
  ·cases h
theorem ybv {d : Option Nat} {o : Obj} {v : Nat → AV} (h : newP s d o v K) : ∃ e,d = some e ∧ s.objs e = .none ∧ K ⟨upd e (v e) s.env,upd e o s.objs⟩:=by
 unfold newP at h
 split at h
 ·obtain ⟨h1,h2⟩:=h
  exact ⟨_,rfl,ybH h1,h2⟩
 ·exact h.elim
theorem yc1 {e : Nat} {o : Obj} {v : Nat → AV} (h0 : s.objs e = .none) (h : K ⟨upd e (v e) s.env,upd e o s.objs⟩) : newP s (some e) o v K :=
 ⟨by show (s.objs e).isNone = true; rw [h0]; rfl,h⟩
theorem yrD {op : IOp} (ho : op.isMk = true) {d : Option Nat} (h : ycx P d op s K) : ∃ e o v,d = some e ∧ s.objs e = .none ∧ K ⟨upd e v s.env,upd e o s.objs⟩ ∧ (o.bare ∧ o ≠ .none) ∧ (∀ j,j ∈ v.ids → j = e) ∧
 (∀ x,x ∈ op.xs → (s.ev x).ids = [] ∧ (s.ev x).cl = true) ∧ ∀ s2 : St,(∀ x,x ∈ op.xs → s2.ev x = s.ev x) → s2.objs e = .none → ∀ K2 : St → Prop,K2 ⟨upd e v s2.env,upd e o s2.objs⟩ → ycx P d op s2 K2:=by
 cases op <;> first | cases ho | skip
 case alloc zs =>
  obtain ⟨e,rfl,h0,hK⟩:=ybv h
  refine ⟨e,_,_,rfl,h0,hK,⟨?_,by simp⟩,?_,fun x hx=>(by cases hx),fun s2 _ h2 K2 hK2=>(show newP s2 (some e) (.box zs) (fun d=>.box d 0) K2 from yc1 h2 hK2)⟩
  ·intro x hx
   have h1 : x.ids = []:=by
    have : zs.all (fun z=>z.ids.isEmpty) = true:=ho
    have:=List.all_eq_true.1 this x hx
    simpa using this
   rw [List.eq_nil_iff_forall_not_mem]
   intro i hi
   have:=ybE hi
   rw [h1] at this
   cases this
  ·intro j hj; simpa [AV.ids,AV.yaW,AV.yau,AV.yan] using hj
 case alloca k n z =>
  obtain ⟨e,rfl,h0,hK⟩:=ybv h
  exact ⟨e,_,_,rfl,h0,hK,⟨trivial,by simp⟩,fun j hj=>by simpa [AV.ids,AV.yaW,AV.yau,AV.yan] using hj,fun x hx=>(by cases hx),fun s2 _ h2 K2 hK2=>(show newP s2 (some e) (.row k (List.replicate n z)) (fun d=>.row d k 0 0) K2 from yc1 h2 hK2)⟩
 case mks k b z l c =>
  simp only [ycx,yA] at h
  have h':=h
  revert h'
  generalize hl : s.ev l = vl; generalize hc : s.ev c = vc
  intro h'
  unfold ykK at h'
  split at h'
  ·rename_i n m
   obtain ⟨h1,h2,h3,h4⟩:=h'
   obtain ⟨e,rfl,h0,hK⟩:=ybv h4
   refine ⟨e,_,_,rfl,h0,hK,⟨trivial,by simp⟩,fun j hj=>by simpa [AV.ids,AV.yaW,AV.yau,AV.yan] using hj,?_,fun s2 hx h5 K2 hK2=>?_⟩
   ·intro x hx
    simp only [IOp.xs,List.mem_cons,List.not_mem_nil,or_false] at hx
    rcases hx with rfl | rfl
    ·rw [hl]; exact ⟨rfl,rfl⟩
    ·rw [hc]; exact ⟨rfl,rfl⟩
   ·simp only [ycx,yA]
    rw [hx l (by simp [IOp.xs]),hx c (by simp [IOp.xs]),hl,hc]
    exact ⟨h1,h2,h3,yc1 h5 hK2⟩
  ·exact h'.elim
 case bsl k xs =>
  simp only [ycx,ylo] at h
  cases hr : AV.rowsOf (xs.map s.ev) <;> rw [hr] at h
  ·exact h.elim
  ·rename_i rows
   obtain ⟨h1,h2⟩:=h
   obtain ⟨e,rfl,h0,hK⟩:=ybv h2
   refine ⟨e,_,_,rfl,h0,hK,⟨trivial,by simp⟩,fun j hj=>by simpa [AV.ids,AV.yaW,AV.yau,AV.yan] using hj,fun x hx=>yhS hr _ (List.mem_map_of_mem hx),fun s2 hx h5 K2 hK2=>?_⟩
   simp only [ycx,ylo]
   rw [List.map_congr_left (l:=xs) hx,hr]
   exact ⟨h1,yc1 h5 hK2⟩
theorem yaH {id : Nat} {o : Obj} {v : AV} {d : Option Nat} : (s.yP id o).put d v = s.act [] [(id,o)] d v:=by
 unfold St.act
 congr 1
 refine St.ext' (fun t=>rfl) fun i=>?_
 show upd id o s.objs i = ygs _ _ _ i
 unfold ygs
 rw [yN]
 by_cases e : i = id
 ·subst e; simp
 ·have e2 : ¬ id = i:=fun h=>e h.symm
  simp [e,e2,Obj.kills]
theorem yaP {ids : List Nat} {id : Nat} {o : Obj} {v : AV} {d : Option Nat} : ((s.drops ids).yP id o).put d v = s.act ids [(id,o)] d v:=by
 unfold St.act
 congr 1
 refine St.ext' (fun t=>St.yfX ids s t) fun i=>?_
 show upd id o (s.drops ids).objs i = ygs _ _ _ i
 unfold ygs
 rw [yN,St.ybP]
 by_cases e : i = id
 ·subst e; simp
 ·have e2 : ¬ id = i:=fun h=>e h.symm
  simp [e,e2]
theorem yku {id : Nat} {o : Obj} {v : AV} {d : Option Nat} : (s.renew id o).put d v = s.act [id] [(id,o)] d v:=by
 unfold St.act
 congr 1
 refine St.ext' (fun t=>rfl) fun i=>?_
 show upd id o (fun i=>(s.objs i).kill id) i = ygs _ _ _ i
 unfold ygs
 rw [yN]
 by_cases e : i = id
 ·subst e; simp
 ·have e2 : ¬ id = i:=fun h=>e h.symm
  simp [e,e2,Obj.kills]
theorem yfR {e : Nat} {o : Obj} {v : AV} : (⟨upd e v s.env,upd e o s.objs⟩ : St) = s.act [] [(e,o)] (some e) v:=by
 rw [← yaH]; rfl
theorem ygN {e id : Nat} {o : Obj} {v : AV} : (⟨upd e v (s.drop id).env,upd e o (s.drop id).objs⟩ : St) = s.act [id] [(e,o)] (some e) v:=by
 have:=yaP (s:=s) (ids:=[id]) (id:=e) (o:=o) (v:=v) (d:=some e)
 rw [← this]; rfl
theorem yfk {id idy : Nat} {o : Obj} {v : AV} {d : Option Nat} : ((s.drop idy).renew id o).put d v = s.act [idy,id] [(id,o)] d v:=by
 unfold St.act
 congr 1
 refine St.ext' (fun t=>rfl) fun i=>?_
 show upd id o (fun i=>((s.drop idy).objs i).kill id) i = ygs _ _ _ i
 unfold ygs
 rw [yN]
 by_cases e : i = id
 ·subst e; simp
 ·have e2 : ¬ id = i:=fun h=>e h.symm
  rw [if_neg e]
  simp only [List.find?_cons,List.find?_nil,beq_eq_false_iff_ne.2 e2]
  show (upd idy .none (fun i=>(s.objs i).kill idy) i).kill id = _
  rw [yN]
  by_cases e3 : i = idy
  ·simp [e3,Obj.kill]
  ·simp [e3,e,Obj.kills]
theorem yco {id e : Nat} {o o' : Obj} (ho : ∀ i,o.kill i = o) {v : AV} {d : Option Nat} : ((s.yP id o).renew e o').put d v = s.act [e] [(e,o'),(id,o)] d v:=by
 unfold St.act
 congr 1
 refine St.ext' (fun t=>rfl) fun i=>?_
 show upd e o' (fun i=>(upd id o s.objs i).kill e) i = ygs _ _ _ i
 unfold ygs
 rw [yN]
 by_cases h1 : i = e
 ·subst h1; simp
 ·have h2 : ¬ e = i:=fun h=>h1 h.symm
  rw [if_neg h1]
  simp only [List.find?_cons,List.find?_nil,beq_eq_false_iff_ne.2 h2]
  rw [yN]
  by_cases h3 : i = id
  ·subst h3; simp [ho]
  ·have h4 : ¬ id = i:=fun h=>h3 h.symm
   simp [h1,h3,beq_eq_false_iff_ne.2 h4,Obj.kills]
theorem ypO {s s2 : St} {x : AV} (h : ∀ i,i ∈ x.yan → s2.objs i = s.objs i) : pk1 s2 x = pk1 s x:=by
 cases x <;> first | rfl | skip
 rename_i id k n
 have : s2.ob id = s.ob id:=h id (by simp [AV.yan])
 simp only [pk1,this]
theorem yna {s s2 : St} : ∀ {l : List AV},(∀ x,x ∈ l → ∀ i,i ∈ x.yan → s2.objs i = s.objs i) → pkl s2 l = pkl s l
 | [],_=>rfl
 | x :: l,h=>by
  simp only [pkl]
  rw [ypO (h x (by simp)),yna fun y hy=>h y (by simp [hy])]
theorem ynS {x : AV} {c : C} {l : List Nat} (h : pk1 s x = some (c,l)) : ∀ i,i ∈ l → i ∈ x.yan:=by
 unfold pk1 at h
 split at h <;> first
  | (cases h; intro i hi; cases hi)
  | (split at h <;> first
   | (cases h; intro i hi; cases hi)
   | (split at h <;> cases h; intro i hi; exact hi)
   | cases h)
  | cases h
theorem yla : ∀ {l : List AV} {cs : List C} {ids : List Nat},pkl s l = some (cs,ids) → ∀ i,i ∈ ids → ∃ x,x ∈ l ∧ i ∈ x.yan
 | [],_,_,h,i,hi=>by cases h; cases hi
 | x :: l,cs,ids,h,i,hi=>by
  simp only [pkl] at h
  split at h
  ·rename_i c a cs' as h1 h2
   cases h
   rcases List.mem_append.1 hi with hi | hi
   ·exact ⟨x,by simp,ynS h1 i hi⟩
   ·obtain ⟨y,hy,h3⟩:=yla h2 i hi
    exact ⟨y,by simp [hy],h3⟩
  ·cases h
theorem yp5 {s s2 : St} {k : Nat} {x : AV} (h : ∀ i,i ∈ x.ids → s2.objs i = s.objs i) : yT s2 k x = yT s k x ∧ ycW s2 k x = ycW s k x:=by
 cases x <;> first | exact ⟨rfl,rfl⟩ | (rename_i c; cases c <;> exact ⟨rfl,rfl⟩) | skip
 ·rename_i id k' n
  have : s2.ob id = s.ob id:=h id (by simp [AV.ids,AV.yaW,AV.yau,AV.yan])
  simp only [yT,ycW,this,and_self]
 ·rename_i id k' lo n
  have : s2.ob id = s.ob id:=h id (by simp [AV.ids,AV.yaW,AV.yau,AV.yan])
  simp only [yT,ycW,this,and_self]
theorem yox {k idy : Nat} {x : AV} {new : List (List C)} (h : ycW s k x = some (idy,new)) : idy ∈ x.ids:=by
 unfold ycW at h
 split at h
 ·split at h
  ·split at h
   ·cases h; simp [AV.ids,AV.yaW,AV.yau,AV.yan]
   ·cases h
  ·cases h
 ·cases h
end
structure EffOk0 (P : Program) (op : IOp) (d : Option Nat) (s : St) (W KW : List Nat) (Kl : List Nat) (U : List (Nat × Obj)) (v : AV) : Prop where
 kl : ∀ j,j ∈ Kl → j ∈ KW
 up : ∀ p,p ∈ U → p.1 ∈ W
 again : ∀ s2 : St,(∀ x,x ∈ op.xs → s2.ev x = s.ev x) → (∀ x,x ∈ op.xs → ∀ j,j ∈ (s.ev x).ids → s2.objs j = s.objs j) → (∀ e,d = some e → s.objs e = .none → s2.objs e = .none) → ∀ K2 : St → Prop,K2 (s2.act Kl U d v) → yA P d op s2 K2
section
variable {P : Program} {s : St} {K : St → Prop}
theorem ypM {x v : X} {d : Option Nat} (h : yA P d (.st1 x v) s K) : ∃ Kl U u,K (s.act Kl U d u) ∧ EffOk0 P (.st1 x v) d s (wOf (.st1 x v) s ++ d.toList) (kOf (.st1 x v) s ++ d.toList) Kl U u:=by
 simp only [yA] at h
 have again : ∀ {Kl U u},(∀ s2 : St,(∀ j,j ∈ (s.ev x).ids → s2.ob j = s.ob j) → (∀ j,j ∈ (s.ev v).ids → s2.objs j = s.objs j) → ∀ K2 : St → Prop,K2 (s2.act Kl U d u) → yex s2 (s.ev x) (s.ev v) fun s'=>K2 (s'.put d .und)) →
  ∀ s2 : St,(∀ y,y ∈ (IOp.st1 x v).xs → s2.ev y = s.ev y) → (∀ y,y ∈ (IOp.st1 x v).xs → ∀ j,j ∈ (s.ev y).ids → s2.objs j = s.objs j) → (∀ e,d = some e → s.objs e = .none → s2.objs e = .none) → ∀ K2 : St → Prop,K2 (s2.act Kl U d u) → yA P d (.st1 x v) s2 K2:=by
  intro Kl U u hh s2 hx hob _ K2 hK2
  simp only [yA]
  rw [hx x (by simp [IOp.xs]),hx v (by simp [IOp.xs])]
  exact hh s2 (fun j hj=>hob x (by simp [IOp.xs]) j hj) (fun j hj=>hob v (by simp [IOp.xs]) j hj) K2 hK2
 have hw : ∀ j,j ∈ (s.ev x).ids → j ∈ wOf (.st1 x v) s ++ d.toList:=fun j hj=>by simp [wOf,hj]
 revert h again hw
 generalize hx : s.ev x = a; generalize hv : s.ev v = b
 intro h again hw
 unfold yex at h
 split at h
 ·rename_i id o
  cases ho : s.ob id <;> rw [ho] at h <;> first | exact h.elim | skip
  rename_i cells
  obtain ⟨h1,h2,h3⟩:=h
  rw [yaH] at h3
  refine ⟨_,_,_,h3,fun j hj=>(by cases hj),fun p hp=>?_,again fun s2 e1 _ K2 hK2=>?_⟩
  ·simp only [List.mem_singleton] at hp; subst hp; exact hw id (by simp [AV.ids,AV.yaW,AV.yau,AV.yan])
  ·unfold yex
   simp only
   rw [e1 id (by simp [AV.ids,AV.yaW,AV.yau,AV.yan]),ho]
   exact ⟨h1,h2,by rw [yaH]; exact hK2⟩
 ·rename_i id k i o
  cases ho : s.ob id <;> rw [ho] at h <;> first | exact h.elim | skip
  ·rename_i k' rows
   cases hc : b.toC <;> rw [hc] at h <;> first | exact h.elim | skip
   rename_i c
   obtain ⟨h1,h2,h3,h4⟩:=h
   rw [yaH] at h4
   refine ⟨_,_,_,h4,fun j hj=>(by cases hj),fun p hp=>?_,again fun s2 e1 _ K2 hK2=>?_⟩
   ·simp only [List.mem_singleton] at hp; subst hp; exact hw id (by simp [AV.ids,AV.yaW,AV.yau,AV.yan])
   ·unfold yex
    simp only
    rw [e1 id (by simp [AV.ids,AV.yaW,AV.yau,AV.yan]),ho]
    simp only [hc]
    exact ⟨h1,h2,h3,by rw [yaH]; exact hK2⟩
  ·rename_i k' ver rows
   cases hp : pk1 s b <;> rw [hp] at h <;> first | exact h.elim | skip
   rename_i q
   obtain ⟨c,ids⟩:=q
   obtain ⟨h1,h2,h3,h4,h5,h6⟩:=h
   rw [yaP] at h6
   have htr : yhB s (s.ev x) = true:=by rw [hx]; simp [yhB,ho,Obj.tree]
   refine ⟨_,_,_,h6,fun j hj=>?_,fun p hp=>?_,again fun s2 e1 e2 K2 hK2=>?_⟩
   ·have:=ynS hp j hj
    simp [kOf,htr,hv,ybE (yaQ this)]
   ·simp only [List.mem_singleton] at hp; subst hp; exact hw id (by simp [AV.ids,AV.yaW,AV.yau,AV.yan])
   ·unfold yex
    simp only
    rw [e1 id (by simp [AV.ids,AV.yaW,AV.yau,AV.yan]),ho]
    simp only
    rw [ypO (s:=s) fun i hi=>e2 i (ybE (yaQ hi)),hp]
    exact ⟨h1,h2,h3,h4,h5,by rw [yaP]; exact hK2⟩
 ·rename_i id ver i j k i' o
  cases ho : s.ob id <;> rw [ho] at h <;> first | exact h.elim | skip
  rename_i k0 ver' rows
  obtain ⟨h0,h⟩:=h
  split at h
  ·rename_i k' rs hcell
   cases hc : b.toC <;> rw [hc] at h <;> first | exact h.elim | skip
   rename_i c
   obtain ⟨h1,h2,h3,h4⟩:=h
   rw [yaH] at h4
   refine ⟨_,_,_,h4,fun j hj=>(by cases hj),fun p hp=>?_,again fun s2 e1 _ K2 hK2=>?_⟩
   ·simp only [List.mem_singleton] at hp; subst hp; exact hw id (by simp [AV.ids,AV.yaW,AV.yau,AV.yan])
   ·unfold yex
    simp only
    rw [e1 id (by simp [AV.ids,AV.yaW,AV.yau,AV.yan]),ho]
    simp only [hcell,hc]
    exact ⟨h0,h1,h2,h3,by rw [yaH]; exact hK2⟩
  ·exact h.elim
 ·exact h.elim
theorem ypX {n : Nat} {x v : X} {d : Option Nat} (h : yA P d (.stn n x v) s K) : ∃ Kl U u,K (s.act Kl U d u) ∧ EffOk0 P (.stn n x v) d s (wOf (.stn n x v) s ++ d.toList) (kOf (.stn n x v) s ++ d.toList) Kl U u:=by
 simp only [yA] at h
 have again : ∀ {Kl U u},(∀ s2 : St,(∀ j,j ∈ (s.ev x).ids → s2.ob j = s.ob j) → (∀ j,j ∈ (s.ev v).ids → s2.objs j = s.objs j) → ∀ K2 : St → Prop,K2 (s2.act Kl U d u) → ygt n s2 (s.ev x) (s.ev v) fun s'=>K2 (s'.put d .und)) →
  ∀ s2 : St,(∀ y,y ∈ (IOp.stn n x v).xs → s2.ev y = s.ev y) → (∀ y,y ∈ (IOp.stn n x v).xs → ∀ j,j ∈ (s.ev y).ids → s2.objs j = s.objs j) → (∀ e,d = some e → s.objs e = .none → s2.objs e = .none) → ∀ K2 : St → Prop,K2 (s2.act Kl U d u) → yA P d (.stn n x v) s2 K2:=by
  intro Kl U u hh s2 hx hob _ K2 hK2
  simp only [yA]
  rw [hx x (by simp [IOp.xs]),hx v (by simp [IOp.xs])]
  exact hh s2 (fun j hj=>hob x (by simp [IOp.xs]) j hj) (fun j hj=>hob v (by simp [IOp.xs]) j hj) K2 hK2
 have hw : ∀ j,j ∈ (s.ev x).ids → j ∈ wOf (.stn n x v) s ++ d.toList:=fun j hj=>by simp [wOf,hj]
 revert h again hw
 generalize hx : s.ev x = a; generalize hv : s.ev v = b
 intro h again hw
 unfold ygt at h
 split at h
 ·rename_i l
  obtain ⟨h0,h⟩:=h
  split at h
  ·rename_i id o
   cases ho : s.ob id <;> rw [ho] at h <;> first | exact h.elim | skip
   rename_i cells
   obtain ⟨h1,h2,h3⟩:=h
   rw [yaH] at h3
   refine ⟨_,_,_,h3,fun j hj=>(by cases hj),fun p hp=>?_,again fun s2 e1 _ K2 hK2=>?_⟩
   ·simp only [List.mem_singleton] at hp; subst hp; exact hw id (by simp [AV.ids,AV.yaW,AV.yau,AV.yan])
   ·unfold ygt
    simp only
    rw [e1 id (by simp [AV.ids,AV.yaW,AV.yau,AV.yan]),ho]
    exact ⟨h0,h1,h2,by rw [yaH]; exact hK2⟩
  ·rename_i id k i o
   cases ho : s.ob id <;> rw [ho] at h <;> first | exact h.elim | skip
   ·rename_i k' rows
    simp only at h
    cases hc : AV.yb8 l <;> rw [hc] at h <;> first | exact h.elim | skip
    rename_i cs
    obtain ⟨h1,h2,h3,h4⟩:=h
    rw [yaH] at h4
    refine ⟨_,_,_,h4,fun j hj=>(by cases hj),fun p hp=>?_,again fun s2 e1 _ K2 hK2=>?_⟩
    ·simp only [List.mem_singleton] at hp; subst hp; exact hw id (by simp [AV.ids,AV.yaW,AV.yau,AV.yan])
    ·unfold ygt
     simp only
     rw [e1 id (by simp [AV.ids,AV.yaW,AV.yau,AV.yan]),ho]
     simp only [hc]
     exact ⟨h0,h1,h2,h3,by rw [yaH]; exact hK2⟩
   ·rename_i k' ver rows
    simp only at h
    cases hp : pkl s l <;> rw [hp] at h <;> first | exact h.elim | skip
    rename_i q
    obtain ⟨cs,ids⟩:=q
    obtain ⟨h1,h2,h3,h4,h5,h6⟩:=h
    rw [yaP] at h6
    have htr : yhB s (s.ev x) = true:=by rw [hx]; simp [yhB,ho,Obj.tree]
    have hin : ∀ y,y ∈ l → ∀ j,j ∈ y.yan → j ∈ (AV.agg l).ids:=fun y hy j hj=>List.mem_flatMap.2 ⟨y,hy,yaQ hj⟩
    refine ⟨_,_,_,h6,fun j hj=>?_,fun p hp=>?_,again fun s2 e1 e2 K2 hK2=>?_⟩
    ·obtain ⟨y,hy,hj'⟩:=yla hp j hj
     simp [kOf,htr,hv,hin y hy j hj']
    ·simp only [List.mem_singleton] at hp; subst hp; exact hw id (by simp [AV.ids,AV.yaW,AV.yau,AV.yan])
    ·unfold ygt
     simp only
     rw [e1 id (by simp [AV.ids,AV.yaW,AV.yau,AV.yan]),ho]
     simp only
     rw [yna (s:=s) fun y hy i hi=>e2 i (hin y hy i hi),hp]
     exact ⟨h0,h1,h2,h3,h4,h5,by rw [yaP]; exact hK2⟩
  ·exact h.elim
 ·exact h.elim
theorem ype {k b : Nat} {x v : X} {d : Option Nat} (h : yA P d (.app k b x v) s K) : ∃ Kl U u,K (s.act Kl U d u) ∧ EffOk0 P (.app k b x v) d s (wOf (.app k b x v) s ++ d.toList) (kOf (.app k b x v) s ++ d.toList) Kl U u:=by
 simp only [yA] at h
 have again : ∀ {Kl U u},(∀ s2 : St,(∀ j,j ∈ (s.ev x).ids → s2.ob j = s.ob j) → (yT s2 k (s.ev v) = yT s k (s.ev v)) → (ycW s2 k (s.ev v) = ycW s k (s.ev v)) → (∀ e,d = some e → s.objs e = .none → s2.objs e = .none) → ∀ K2 : St → Prop,K2 (s2.act Kl U d u) → yft k b s2 d (s.ev x) (s.ev v) K2) →
  ∀ s2 : St,(∀ y,y ∈ (IOp.app k b x v).xs → s2.ev y = s.ev y) → (∀ y,y ∈ (IOp.app k b x v).xs → ∀ j,j ∈ (s.ev y).ids → s2.objs j = s.objs j) → (∀ e,d = some e → s.objs e = .none → s2.objs e = .none) → ∀ K2 : St → Prop,K2 (s2.act Kl U d u) → yA P d (.app k b x v) s2 K2:=by
  intro Kl U u hh s2 hx hob hn K2 hK2
  simp only [yA]
  rw [hx x (by simp [IOp.xs]),hx v (by simp [IOp.xs])]
  have hs:=yp5 (k:=k) fun j hj=>hob v (by simp [IOp.xs]) j hj
  exact hh s2 (fun j hj=>hob x (by simp [IOp.xs]) j hj) hs.1 hs.2 hn K2 hK2
 have hw : ∀ j,j ∈ (s.ev x).ids → j ∈ wOf (.app k b x v) s ++ d.toList:=fun j hj=>by simp [wOf,hj]
 have hwv : ∀ j,yT s k (s.ev v) = none → j ∈ (s.ev v).ids → j ∈ wOf (.app k b x v) s ++ d.toList:=fun j e hj=>by simp [wOf,hj,e]
 have hwd : ∀ j,d = some j → j ∈ wOf (.app k b x v) s ++ d.toList:=fun j e=>by simp [e]
 have sid : ∀ {id k n},id ∈ (AV.own id k n).ids:=by intro id k n; simp [AV.ids,AV.yaW,AV.yau,AV.yan]
 revert h again hw hwv
 generalize hx : s.ev x = a; generalize hv : s.ev v = y
 intro h again hw hwv
 unfold yft at h
 split at h
 ·rename_i new hnew
  split at h
  ·obtain ⟨h1,h2⟩:=h
   obtain ⟨e,rfl,h0,hK⟩:=ybv h2
   rw [yfR] at hK
   refine ⟨_,_,_,hK,fun j hj=>(by cases hj),fun p hp=>?_,again fun s2 e1 e2 e3 hn K2 hK2=>?_⟩
   ·simp only [List.mem_singleton] at hp; subst hp; exact hwd _ rfl
   ·unfold yft
    rw [e2,hnew]
    refine ⟨h1,yc1 (hn e rfl h0) ?_⟩
    rw [yfR]; exact hK2
  ·rename_i k' rows
   obtain ⟨h1,h1',h1'',h2⟩:=h
   obtain ⟨e,rfl,h0,hK⟩:=ybv h2
   rw [yfR] at hK
   refine ⟨_,_,_,hK,fun j hj=>(by cases hj),fun p hp=>?_,again fun s2 e1 e2 e3 hn K2 hK2=>?_⟩
   ·simp only [List.mem_singleton] at hp; subst hp; exact hwd _ rfl
   ·unfold yft
    rw [e2,hnew]
    refine ⟨h1,h1',h1'',yc1 (hn e rfl h0) ?_⟩
    rw [yfR]; exact hK2
  ·rename_i id k' n
   cases ho : s.ob id <;> rw [ho] at h <;> first | exact h.elim | skip
   all_goals
    obtain ⟨h1,h2,h3,h4⟩:=h
    rw [yku] at h4
    refine ⟨_,_,_,h4,fun j hj=>?_,fun p hp=>?_,again fun s2 e1 e2 e3 hn K2 hK2=>?_⟩
    ·simp only [List.mem_singleton] at hj; subst hj
     rw [show kOf (.app k b x v) s = wOf (.app k b x v) s by simp [kOf,ync,hx,AV.yhr]]; exact hw _ sid
    ·simp only [List.mem_singleton] at hp; subst hp; exact hw _ sid
    ·unfold yft
     rw [e2,hnew]
     simp only
     rw [e1 id sid,ho]
     exact ⟨h1,h2,h3,by rw [yku]; exact hK2⟩
  ·rename_i id ver i j k' n
   have sid2 : id ∈ (AV.sub id ver i j k' n).ids:=by simp [AV.ids,AV.yaW,AV.yau,AV.yan]
   cases ho : s.ob id <;> rw [ho] at h <;> first | exact h.elim | skip
   rename_i k0 ver' rows
   obtain ⟨h0,h⟩:=h
   split at h
   ·rename_i k2 rs hcell
    obtain ⟨h1,h2,h3,h⟩:=h
    cases d with
    | none=>exact h.elim
    | some e =>
     obtain ⟨h4,h5⟩:=h
     have h4':=ybH h4
     rw [yco (fun _=>rfl)] at h5
     refine ⟨_,_,_,h5,fun q hq=>?_,fun p hp=>?_,again fun s2 e1 e2 e3 hn K2 hK2=>?_⟩
     ·simp only [List.mem_singleton] at hq; subst hq; exact List.mem_append_right _ (by simp)
     ·simp only [List.mem_cons,List.not_mem_nil,or_false] at hp
      rcases hp with rfl | rfl
      ·exact hwd _ rfl
      ·exact hw _ sid2
     ·unfold yft
      rw [e2,hnew]
      simp only
      rw [e1 id sid2,ho]
      simp only [hcell]
      refine ⟨h0,h1,h2,h3,?_,by rw [yco (fun _=>rfl)]; exact hK2⟩
      show (s2.objs e).isNone = true
      rw [hn e rfl h4']; rfl
   ·rename_i k2 rs hcell
    obtain ⟨h1,h2,h3,h⟩:=h
    cases d with
    | none=>exact h.elim
    | some e =>
     obtain ⟨h4,h5⟩:=h
     have h4':=ybH h4
     rw [yco (fun _=>rfl)] at h5
     refine ⟨_,_,_,h5,fun q hq=>?_,fun p hp=>?_,again fun s2 e1 e2 e3 hn K2 hK2=>?_⟩
     ·simp only [List.mem_singleton] at hq; subst hq; exact List.mem_append_right _ (by simp)
     ·simp only [List.mem_cons,List.not_mem_nil,or_false] at hp
      rcases hp with rfl | rfl
      ·exact hwd _ rfl
      ·exact hw _ sid2
     ·unfold yft
      rw [e2,hnew]
      simp only
      rw [e1 id sid2,ho]
      simp only [hcell]
      refine ⟨h0,h1,h2,h3,?_,by rw [yco (fun _=>rfl)]; exact hK2⟩
      show (s2.objs e).isNone = true
      rw [hn e rfl h4']; rfl
   ·exact h.elim
  ·exact h.elim
 ·rename_i hnone
  split at h
  ·rename_i idy new hnew
   have hy : idy ∈ y.ids:=yox hnew
   split at h
   ·obtain ⟨h1,h2⟩:=h
    obtain ⟨e,rfl,h0,hK⟩:=ybv h2
    rw [ygN] at hK
    refine ⟨_,_,_,hK,fun j hj=>?_,fun p hp=>?_,again fun s2 e1 e2 e3 hn K2 hK2=>?_⟩
    ·simp only [List.mem_singleton] at hj; subst hj
     rw [show kOf (.app k b x v) s = wOf (.app k b x v) s by simp [kOf,ync,hx,AV.yhr]]; exact hwv _ hnone hy
    ·simp only [List.mem_singleton] at hp; subst hp; exact hwd _ rfl
    ·unfold yft
     rw [e2,hnone,e3,hnew]
     refine ⟨h1,yc1 ?_ ?_⟩
     ·have h0' : upd idy Obj.none (fun i=>(s.objs i).kill idy) e = .none:=h0
      show upd idy Obj.none (fun i=>(s2.objs i).kill idy) e = .none
      rw [yN] at h0' ⊢
      split
      ·rfl
      ·rename_i hne
       rw [if_neg hne] at h0'
       have : s.objs e = .none:=by
        cases hs : s.objs e with
        | none=>rfl
        | _=>exact absurd h0' ((Obj.yhq _ _).2 (by rw [hs]; simp))
       rw [hn e rfl this]; rfl
     ·rw [ygN]; exact hK2
   ·rename_i id k' n
    obtain ⟨hne,h⟩:=h
    cases ho : s.ob id <;> rw [ho] at h <;> first | exact h.elim | skip
    all_goals
     obtain ⟨h1,h2,h3,h4⟩:=h
     rw [yfk] at h4
     refine ⟨_,_,_,h4,fun j hj=>?_,fun p hp=>?_,again fun s2 e1 e2 e3 hn K2 hK2=>?_⟩
     ·simp only [List.mem_cons,List.not_mem_nil,or_false] at hj
      rw [show kOf (.app k b x v) s = wOf (.app k b x v) s by simp [kOf,ync,hx,AV.yhr]]
      rcases hj with rfl | rfl
      ·exact hwv _ hnone hy
      ·exact hw _ sid
     ·simp only [List.mem_singleton] at hp; subst hp; exact hw _ sid
     ·unfold yft
      rw [e2,hnone,e3,hnew]
      simp only
      rw [e1 id sid,ho]
      exact ⟨hne,h1,h2,h3,by rw [yfk]; exact hK2⟩
   ·exact h.elim
  ·exact h.elim
theorem yrN {k : Nat} {x v : X} {d : Option Nat} (h : yA P d (.cp k x v) s K) : ∃ Kl U u,K (s.act Kl U d u) ∧ EffOk0 P (.cp k x v) d s (wOf (.cp k x v) s ++ d.toList) (kOf (.cp k x v) s ++ d.toList) Kl U u:=by
 simp only [yA] at h
 have again : ∀ {Kl U u},(∀ s2 : St,(∀ j,j ∈ (s.ev x).ids → s2.ob j = s.ob j) → (yT s2 k (s.ev v) = yT s k (s.ev v)) → ∀ K2 : St → Prop,K2 (s2.act Kl U d u) → cpP k s2 d (s.ev x) (s.ev v) K2) →
  ∀ s2 : St,(∀ y,y ∈ (IOp.cp k x v).xs → s2.ev y = s.ev y) → (∀ y,y ∈ (IOp.cp k x v).xs → ∀ j,j ∈ (s.ev y).ids → s2.objs j = s.objs j) → (∀ e,d = some e → s.objs e = .none → s2.objs e = .none) → ∀ K2 : St → Prop,K2 (s2.act Kl U d u) → yA P d (.cp k x v) s2 K2:=by
  intro Kl U u hh s2 hx hob hn K2 hK2
  simp only [yA]
  rw [hx x (by simp [IOp.xs]),hx v (by simp [IOp.xs])]
  have hs:=yp5 (k:=k) fun j hj=>hob v (by simp [IOp.xs]) j hj
  exact hh s2 (fun j hj=>hob x (by simp [IOp.xs]) j hj) hs.1 K2 hK2
 have hw : ∀ j,j ∈ (s.ev x).ids → j ∈ wOf (.cp k x v) s ++ d.toList:=fun j hj=>by simp [wOf,hj]
 have sid : ∀ {id k n},id ∈ (AV.own id k n).ids:=by intro id k n; simp [AV.ids,AV.yaW,AV.yau,AV.yan]
 revert h again hw
 generalize hx : s.ev x = a; generalize hv : s.ev v = y
 intro h again hw
 unfold cpP at h
 split at h
 ·rename_i new hnew
  split at h
  ·rename_i id k' n
   cases ho : s.ob id <;> rw [ho] at h <;> first | exact h.elim | skip
   rename_i k2 rows
   obtain ⟨h1,h2,h3⟩:=h
   rw [yaH] at h3
   refine ⟨_,_,_,h3,fun j hj=>(by cases hj),fun p hp=>?_,again fun s2 e1 e2 K2 hK2=>?_⟩
   ·simp only [List.mem_singleton] at hp; subst hp; exact hw _ sid
   ·unfold cpP
    rw [e2,hnew]
    simp only
    rw [e1 id sid,ho]
    exact ⟨h1,h2,by rw [yaH]; exact hK2⟩
  ·exact h.elim
 ·exact h.elim
theorem yqM {s s2 : St} : ∀ {l : List AV},(∀ x,x ∈ l → ∀ y,y ∈ x.cellsOf → ∀ i,i ∈ y.yan → s2.objs i = s.objs i) → pks s2 l = pks s l
 | [],_=>rfl
 | x :: l,h=>by
  simp only [pks]
  rw [yna (h x (by simp)),yqM fun y hy=>h y (by simp [hy])]
theorem ynF : ∀ {l : List AV} {cs : List (List C)} {ids : List Nat},pks s l = some (cs,ids) → ∀ i,i ∈ ids → ∃ x,x ∈ l ∧ ∃ y,y ∈ x.cellsOf ∧ i ∈ y.yan
 | [],_,_,h,i,hi=>by cases h; cases hi
 | x :: l,cs,ids,h,i,hi=>by
  simp only [pks] at h
  split at h
  ·rename_i c a cs' as h1 h2
   cases h
   rcases List.mem_append.1 hi with hi | hi
   ·exact ⟨x,by simp,yla h1 i hi⟩
   ·obtain ⟨y,hy,h3⟩:=ynF h2 i hi
    exact ⟨y,by simp [hy],h3⟩
  ·cases h
theorem yh3 {x y : AV} (hy : y ∈ x.cellsOf) {i : Nat} (hi : i ∈ y.yan) : i ∈ x.ids:=by
 cases x
 case agg l=>exact List.mem_flatMap.2 ⟨y,hy,yaQ hi⟩
 all_goals
  simp only [AV.cellsOf,List.mem_singleton] at hy
  subst hy
  exact ybE (yaQ hi)
theorem yqa {k : Nat} {xs : List X} {d : Option Nat} (h : yA P d (.bsl k xs) s K) : ∃ Kl U u,K (s.act Kl U d u) ∧ EffOk0 P (.bsl k xs) d s (wOf (.bsl k xs) s ++ d.toList) (kOf (.bsl k xs) s ++ d.toList) Kl U u:=by
 simp only [yA] at h
 have h':=h
 unfold yih at h'
 cases hr : AV.rowsOf (xs.map s.ev) <;> rw [hr] at h' <;> simp only at h'
 ·cases hp : pks s (xs.map s.ev) <;> rw [hp] at h' <;> first | exact h'.elim | skip
  rename_i q
  obtain ⟨rows,ids⟩:=q
  obtain ⟨h1,h2,h3⟩:=h'
  obtain ⟨e,rfl,h0,hK⟩:=ybv h3
  have hact : ∀ s3 : St,(⟨upd e (.own e k rows.length) (s3.drops ids).env,upd e (.tr k 0 rows) (s3.drops ids).objs⟩ : St) = s3.act ids [(e,.tr k 0 rows)] (some e) (.own e k rows.length):=fun s3=>by rw [← yaP]; rfl
  rw [hact] at hK
  refine ⟨_,_,_,hK,fun j hj=>?_,fun p hp'=>?_,fun s2 e1 e2 e3 K2 hK2=>?_⟩
  ·obtain ⟨x,hx,y,hy,hj'⟩:=ynF hp j hj
   exact List.mem_append_left _ (List.mem_flatMap.2 ⟨x,hx,yh3 hy hj'⟩)
  ·simp only [List.mem_singleton] at hp'; subst hp'; simp
  ·have em : xs.map s2.ev = xs.map s.ev:=List.map_congr_left e1
   simp only [yA,yih]
   rw [em,hr]
   simp only
   rw [yqM (s:=s) fun x hx y hy i hi=>by
    obtain ⟨z,hz,rfl⟩:=List.mem_map.1 hx
    exact e2 z hz i (yh3 hy hi),hp]
   refine ⟨h1,h2,yc1 ?_ (by rw [hact]; exact hK2)⟩
   rw [St.ybP] at h0 ⊢
   by_cases hE : e ∈ ids
   ·simp [hE]
   ·rw [if_neg hE] at h0 ⊢
    have : s.objs e = .none:=by
     cases hq : s.objs e with
     | none=>rfl
     | _=>exact absurd h0 ((Obj.ybO _ _).2 (by rw [hq]; simp))
    rw [e3 e rfl this]
    exact Obj.ybJ _
 ·rename_i rows
  obtain ⟨h1,h3⟩:=h'
  obtain ⟨e,rfl,h0,hK⟩:=ybv h3
  rw [yfR] at hK
  refine ⟨_,_,_,hK,fun j hj=>(by cases hj),fun p hp'=>?_,fun s2 e1 e2 e3 K2 hK2=>?_⟩
  ·simp only [List.mem_singleton] at hp'; subst hp'; simp
  ·have em : xs.map s2.ev = xs.map s.ev:=List.map_congr_left e1
   simp only [yA,yih]
   rw [em,hr]
   exact ⟨h1,yc1 (e3 e rfl h0) (by rw [yfR]; exact hK2)⟩
theorem yn6 {op : IOp} (ho : op.ye6 = true) {d : Option Nat} (h : yA P d op s K) : ∃ Kl U u,K (s.act Kl U d u) ∧ EffOk0 P op d s (wOf op s ++ d.toList) (kOf op s ++ d.toList) Kl U u:=by
 cases op <;> first | cases ho | skip
 ·exact ypM h
 ·exact ypX h
 ·exact yqa h
 ·exact ype h
 ·exact yrN h
structure EffOk (P : Program) (op : IOp) (d : Option Nat) (s : St) (W : List Nat) (Kl : List Nat) (U : List (Nat × Obj)) (v : AV) : Prop where
 kl : ∀ j,j ∈ Kl → 2 * j + 1 ∈ W
 up : ∀ p,p ∈ U → 2 * p.1 ∈ W
 again : ∀ s2 : St,(∀ x,x ∈ op.xs → s2.ev x = s.ev x) → (∀ x,x ∈ op.xs → ∀ j,j ∈ (s.ev x).ids → s2.objs j = s.objs j) → (∀ e,d = some e → s.objs e = .none → s2.objs e = .none) → ∀ K2 : St → Prop,K2 (s2.act Kl U d v) → yA P d op s2 K2
theorem yqm {op : IOp} (ho : op.ye6 = true) {d : Option Nat} (h : yA P d op s K) : ∃ Kl U u,K (s.act Kl U d u) ∧ EffOk P op d s (ypt op d s) Kl U u:=by
 obtain ⟨Kl,U,u,h1,h2⟩:=yn6 ho h
 exact ⟨Kl,U,u,h1,fun j hj=>List.mem_append_right _ (yit.2 (h2.kl j hj)),fun p hp=>List.mem_append_left _ (ylu.2 (h2.up p hp)),h2.again⟩
theorem kOf_w {op : IOp} (ho : op.ye6 = true) {s : St} : ∀ j,j ∈ kOf op s → j ∈ wOf op s:=by
 intro j hj
 cases op <;> first | cases ho | skip
 ·simp only [kOf] at hj; simp only [wOf,List.mem_append]; exact .inr hj
 ·simp only [kOf] at hj; simp only [wOf,List.mem_append]; exact .inr hj
 ·exact hj
 ·simp only [kOf,ync] at hj
  split at hj
  ·exact hj
  ·cases hj
 ·simp only [kOf] at hj; cases hj
theorem yq6 {op : IOp} (ho : op.ye6 = true) {d : Option Nat} {s : St} {j : Nat} (h : 2 * j ∈ ypt op d s ∨ 2 * j + 1 ∈ ypt op d s) : j ∈ wOf op s ∨ d = some j:=by
 have tl : j ∈ d.toList → d = some j:=by intro h; cases d <;> simp at h; rw [h]
 unfold ypt at h
 rcases h with h | h
 ·rcases List.mem_append.1 h with h | h
  ·rcases List.mem_append.1 (ylu.1 h) with h | h
   ·exact .inl h
   ·exact .inr (tl h)
  ·exact (yrr h).elim
 ·rcases List.mem_append.1 h with h | h
  ·exact (ytU h).elim
  ·rcases List.mem_append.1 (yit.1 h) with h | h
   ·exact .inl (kOf_w ho j h)
   ·exact .inr (tl h)
theorem yrv {op : IOp} (ho : op.ye6 = true) {s : St} : ∀ j,j ∈ wOf op s → ∃ x,x ∈ op.xs ∧ j ∈ (s.ev x).ids:=by
 intro j hj
 cases op <;> first | cases ho | skip
 ·rename_i x v
  simp only [wOf,List.mem_append] at hj
  rcases hj with hj | hj
  ·exact ⟨x,by simp [IOp.xs],hj⟩
  ·split at hj
   ·exact ⟨v,by simp [IOp.xs],hj⟩
   ·cases hj
 ·rename_i n x v
  simp only [wOf,List.mem_append] at hj
  rcases hj with hj | hj
  ·exact ⟨x,by simp [IOp.xs],hj⟩
  ·split at hj
   ·exact ⟨v,by simp [IOp.xs],hj⟩
   ·cases hj
 ·rename_i k xs
  simp only [wOf] at hj
  obtain ⟨a,ha,hj⟩:=List.mem_flatMap.1 hj
  obtain ⟨x,hx,rfl⟩:=List.mem_map.1 ha
  exact ⟨x,hx,hj⟩
 ·rename_i k b x v
  simp only [wOf,List.mem_append] at hj
  rcases hj with hj | hj
  ·exact ⟨x,by simp [IOp.xs],hj⟩
  ·split at hj
   ·cases hj
   ·exact ⟨v,by simp [IOp.xs],hj⟩
 ·rename_i k x v
  exact ⟨x,by simp [IOp.xs],hj⟩
end
end Go.Proofs.Ytefegahoniahkaa
namespace Go.Proofs.Ytefegahoniahkaa
open Go.RowKit
def TrQ (P : Program) (i : Ins) (lab : Lab) (s s' : St) : Prop :=
 ∃ v,s' = s.put i.d v ∧ (∀ k : AV → Prop,k v → yd1 P i s.ev s.objs k) ∧ lab = yb9 i s v
def TrM (P : Program) (i : Ins) (lab : Lab) (s s' : St) : Prop :=
 ∃ e o v,i.d = some e ∧ s.objs e = .none ∧ s' = ⟨upd e v s.env,upd e o s.objs⟩ ∧ (o.bare ∧ o ≠ .none) ∧ (∀ j,j ∈ v.ids → j = e) ∧ (∀ x,x ∈ i.op.xs → (s.ev x).ids = [] ∧ (s.ev x).cl = true) ∧ lab = yoR i ∧
  ∀ s2 : St,(∀ x,x ∈ i.op.xs → s2.ev x = s.ev x) → s2.objs e = .none → ∀ K2 : St → Prop,K2 ⟨upd e v s2.env,upd e o s2.objs⟩ → ycx P i.d i.op s2 K2
def mkE (P : Program) (i : Ins) (s : St) (kN : St → Prop) : Prop :=
 match i.g,i.d,i.op with
 | none,some d,.call f xs=>∃ args res,yjQ P f args res ∧ ybt s (xs.map s.ev) args ∧ (res.closed ∨ (xs.map s.ev).all AV.ycT = true) ∧ yeI s (res.yar d) ∧ kN (s.take d res)
 | _,_,_=>False
structure MakeP (P : Program) (i : Ins) (s : St) (d : Nat) (res : AV) (f : Nat) (xs : List X) (args : List AV) : Prop where
 gd : i.g = none
 dst : i.d = some d
 opr : i.op = .call f xs
 own : yjQ P f args res
 outs : ybt s (xs.map s.ev) args
 cl : res.closed ∨ (xs.map s.ev).all AV.ycT = true
 fresh : yeI s (res.yar d)
def TrN (P : Program) (i : Ins) (s s' : St) : Prop:=∃ d res f xs args,MakeP P i s d res f xs args ∧ s' = s.take d res
theorem yq7 {P : Program} {i : Ins} {s : St} {kN : St → Prop} (h : mkE P i s kN) : ∃ d res f xs args,MakeP P i s d res f xs args ∧ kN (s.take d res):=by
 unfold mkE at h
 split at h
 ·rename_i d f xs e1 e2 e3
  obtain ⟨args,res,h1,h2,h3,h4,h5⟩:=h
  exact ⟨d,res,f,xs,args,⟨e1,e2,e3,h1,h2,h3,h4⟩,h5⟩
 ·exact h.elim
theorem MakeP.yE {P : Program} {i : Ins} {s : St} {d : Nat} {res : AV} {f : Nat} {xs : List X} {args : List AV} (h : MakeP P i s d res f xs args) : i.op.yE = true:=by rw [h.opr]; rfl
theorem MakeP.step {P : Program} {i : Ins} {s : St} {d : Nat} {res : AV} {f : Nat} {xs : List X} {args : List AV} (h : MakeP P i s d res f xs args) {K : St → Prop} (hK : K (s.take d res)) : yA P i.d i.op s K:=by
 rw [h.dst,h.opr]
 rcases h.cl with e | e
 ·exact yqN h.own h.outs e h.fresh hK
 ·exact yhJ h.own h.outs e h.fresh hK
def TrE (P : Program) (i : Ins) (lab : Lab) (s s' : St) : Prop :=
 ∃ Kl U v,s' = s.act Kl U i.d v ∧ EffOk P i.op i.d s lab.1 Kl U v ∧ (∀ j,(2 * j ∈ lab.1 ∨ 2 * j + 1 ∈ lab.1) → (∃ x,x ∈ i.op.xs ∧ j ∈ (s.ev x).ids) ∨ i.d = some j) ∧ lab.2 = true
def Clear (s : St) (d : Nat) : Prop:=(∀ t,d ∉ (s.env t).ids) ∧ ∀ i cells,s.objs i = .box cells → ∀ x,x ∈ cells → d ∉ x.yan
def Sound (s : St) : Prop:=∀ d,s.objs d = .none → Clear s d
theorem ygR {w : World} {G : Nat → Prop} {O : Nat → Obj} {blk : Nat → Option Nat} {v : Value} {x : AV} (h : RV1 w G O blk v x) {i : Nat} (hi : i ∈ x.yau) : O i ≠ .none:=by
 cases x <;> simp only [AV.yau,AV.yan,List.mem_singleton,List.not_mem_nil] at hi <;> try (exact hi.elim)
 ·subst hi; obtain ⟨b,cells,ho,_⟩:=h; rw [ho]; simp
 ·subst hi; obtain ⟨b,m,ho,_⟩:=h; intro e; rw [e] at ho; cases ho
 ·subst hi; obtain ⟨m,ho,_⟩:=h; intro e; rw [e] at ho; cases ho
 ·exact h.elim
 ·subst hi; obtain ⟨_,_,_,ho,_⟩:=h; rw [ho]; simp
 ·subst hi; obtain ⟨_,_,_,ho,_⟩:=h; rw [ho]; simp
 ·subst hi; obtain ⟨m,A,c,ho,_⟩:=h; intro e; rw [e] at ho; cases ho
 ·exact h.elim
theorem ylC {w : World} {G : Nat → Prop} {O : Nat → Obj} {blk : Nat → Option Nat} {v : Value} {x : AV} (h : RV2 w G O blk v x) {i : Nat} (hi : i ∈ x.yaW) : O i ≠ .none:=by
 cases x
 case agg l =>
  obtain ⟨arr,_,_,hl⟩:=h
  obtain ⟨y,hy,hi⟩:=List.mem_flatMap.1 hi
  obtain ⟨j,hj⟩:=List.getElem?_of_mem hy
  obtain ⟨u,_,hr⟩:=hl j y hj
  exact ygR hr hi
 case fn f l =>
  obtain ⟨arr,_,_,hl⟩:=h
  obtain ⟨y,hy,hi⟩:=List.mem_flatMap.1 hi
  obtain ⟨j,hj⟩:=List.getElem?_of_mem hy
  obtain ⟨u,_,hr⟩:=hl j y hj
  exact ygR hr hi
 all_goals (simp only [RV2] at h; simp only [AV.yaW] at hi; exact ygR h hi)
theorem yrn {w : World} {G : Nat → Prop} {O : Nat → Obj} {blk : Nat → Option Nat} {v : Value} {x : AV} (h : RV w G O blk v x) {i : Nat} (hi : i ∈ x.ids) : O i ≠ .none:=by
 cases x
 case tup l =>
  obtain ⟨arr,_,_,hl⟩:=h
  obtain ⟨y,hy,hi⟩:=List.mem_flatMap.1 hi
  obtain ⟨j,hj⟩:=List.getElem?_of_mem hy
  obtain ⟨u,_,hr⟩:=hl j y hj
  exact ylC hr hi
 all_goals (simp only [RV] at h; simp only [AV.ids] at hi; exact ylC h hi)
theorem Repr.sound {g : Ghost} {s : St} {a : Act} {w : World} {blk : Lay} (h : Repr g s a w blk) : Sound s:=by
 intro d hd
 refine ⟨fun t hi=>yrn (h.env t) hi hd,fun i cells ho x hx hi=>?_⟩
 have:=h.objs i
 rw [ho] at this
 obtain ⟨q,arr,e,_,_,_,hc⟩:=this
 obtain ⟨j,hj⟩:=List.getElem?_of_mem hx
 obtain ⟨u,_,hr⟩:=hc j x hj
 exact ygR hr (yaQ hi) hd
theorem ev_of {s s2 : St} {x : X} (h : ∀ t,t ∈ x.tm → s2.env t = s.env t) : s2.ev x = s.ev x:=by
 cases x with
 | t n=>exact h n (by simp [X.tm])
 | k a=>rfl
theorem yaM {i : Ins} {s s2 : St} (h : ∀ t,t ∈ i.rdx → s2.env t = s.env t) : ∀ x,x ∈ i.op.xs → s2.ev x = s.ev x :=
 fun x hx=>ev_of fun t ht=>h t (List.mem_append_right _ (List.mem_flatMap.2 ⟨x,hx,ht⟩))
theorem yqY {op : IOp} {s s2 : St} (h : ∀ x,x ∈ op.xs → s2.ev x = s.ev x) : yjl op s2 = yjl op s:=by
 cases op <;> first | rfl | (simp only [yjl]; rw [h _ (by simp [IOp.xs])])
theorem ydH {i : Ins} {s s2 : St} {v : AV} (h : ∀ x,x ∈ i.op.xs → s2.ev x = s.ev x) : yb9 i s2 v = yb9 i s v:=by
 unfold yb9; rw [List.map_congr_left h,yqY h]
theorem ylP {i : Ins} {s : St} {v : AV} : (∀ j,j ∈ v.ids → 2 * j + 1 ∈ (yb9 i s v).1) ∧ (∀ x,x ∈ i.op.xs → ∀ j,j ∈ (s.ev x).ids → 2 * j + 1 ∈ (yb9 i s v).1) ∧ (yjl i.op s = false → ∀ x,x ∈ i.op.xs → ∀ j,j ∈ (s.ev x).ids → 2 * j ∈ (yb9 i s v).1):=by
 refine ⟨fun j hj=>List.mem_append_right _ (yit.2 (List.mem_flatMap.2 ⟨v,by simp,hj⟩)),fun x hx j hj=>List.mem_append_right _ (yit.2 (List.mem_flatMap.2 ⟨s.ev x,List.mem_cons_of_mem _ (List.mem_map_of_mem hx),hj⟩)),fun hm x hx j hj=>List.mem_append_left _ ?_⟩
 rw [hm]
 exact ylu.2 (List.mem_flatMap.2 ⟨s.ev x,List.mem_map_of_mem hx,hj⟩)
theorem ynQ {P : Program} {op : IOp} {s : St} (hm : yjl op s = true) {ob ob' : Nat → Obj} {k : AV → Prop} (h : yY P op s.ev ob k) : yY P op s.ev ob' k:=by
 cases op <;> first | exact h | cases hm | skip
 rename_i x
 simp only [yjl] at hm
 simp only [yY] at h ⊢
 revert hm h
 generalize s.ev x = a
 intro hm h
 cases a with
 | c y=>cases y <;> exact h
 | sub _ _ _ _ _ _=>cases hm
 | _=>exact h
theorem yri {i : Ins} {s : St} {v : AV} (h : (yb9 i s v).2 = true) : v.cl = true ∧ ∀ x,x ∈ i.op.xs → (s.ev x).cl = true:=by
 have:=List.all_eq_true.1 h
 exact ⟨this v (by simp),fun x hx=>this _ (List.mem_cons_of_mem _ (List.mem_map_of_mem hx))⟩
theorem ypj {x : AV} {want : Bool} {A B : Prop} (h : ybz x want A B) : (∃ b,x = .c (.b b)) ∨ x = .und:=by
 unfold ybz at h
 split at h
 ·exact .inl ⟨_,rfl⟩
 ·exact .inr rfl
 ·exact h.elim
theorem yiH {P : Program} {i : Ins} {ev : X → AV} {ob : Nat → Obj} {k : AV → Prop} (h : yd1 P i ev ob k) : ∀ t b,i.g = some (t,b) → (∃ b,ev (.t t) = .c (.b b)) ∨ ev (.t t) = .und:=by
 intro t b hg
 unfold yd1 at h
 rw [hg] at h
 exact ypj h
theorem ybT {P : Program} {i : Ins} {ev ev' : X → AV} {ob ob' : Nat → Obj} {v : AV} (hg : ∀ t b,i.g = some (t,b) → ev' (.t t) = ev (.t t))
 (hv : (∀ k : AV → Prop,k v → yY P i.op ev ob k) → ∀ k : AV → Prop,k v → yY P i.op ev' ob' k) (h : ∀ k : AV → Prop,k v → yd1 P i ev ob k) : ∀ k : AV → Prop,k v → yd1 P i ev' ob' k:=by
 intro k hk
 unfold yd1 at h ⊢
 cases hg' : i.g with
 | none=>rw [hg'] at h; exact hv h k hk
 | some p =>
  obtain ⟨t,b⟩:=p
  rw [hg'] at h
  simp only at h ⊢
  rw [hg t b hg']
  have h1:=h k hk
  unfold ybz at h h1 ⊢
  split at h1
  ·rename_i v' hv'
   refine ⟨fun e=>?_,h1.2⟩
   refine hv (fun k2 hk2=>?_) k hk
   have:=h k2 hk2
   rw [hv'] at this
   exact this.1 e
  ·exact h1
  ·exact h1.elim
structure Apart (x y : Ins) : Prop where
 xy : ∀ d,x.d = some d → d ∉ y.rdx
 ne : ∀ d,x.d = some d → y.d ≠ some d
 yx : ∀ d,y.d = some d → d ∉ x.rdx
theorem ylL {x y : Ins} (h : yiW x y = true) : Apart x y:=by
 unfold yiW at h
 rw [Bool.and_eq_true] at h
 refine ⟨fun d e=>?_,fun d e=>?_,fun d e=>?_⟩
 ·have:=h.1; rw [e] at this; simp at this; exact this.1
 ·have:=h.1; rw [e] at this; simp at this; exact this.2
 ·have:=h.2; rw [e] at this; simp at this; exact this
theorem Apart.yi0 {x y : Ins} (h : Apart x y) {s : St} {v : AV} : ∀ t,t ∈ y.rdx → (s.put x.d v).env t = s.env t:=fun t ht=>ybr fun e=>h.xy t e ht
theorem Apart.yjJ {x y : Ins} (h : Apart x y) {s : St} {v : AV} : ∀ t,t ∈ x.rdx → (s.put y.d v).env t = s.env t:=fun t ht=>ybr fun e=>h.yx t e ht
theorem ycD {i : Ins} {t : Nat} {b : Bool} (h : i.g = some (t,b)) : t ∈ i.rdx:=by unfold Ins.rdx; rw [h]; simp
theorem put_comm {s : St} {d e : Option Nat} {u v : AV} (h : ∀ t,d = some t → e ≠ some t) : (s.put d u).put e v = (s.put e v).put d u:=by
 refine St.ext' (fun t=>?_) fun i=>by rw [yad,yad,yad,yad]
 by_cases h1 : e = some t
 ·have h2 : d ≠ some t:=fun h'=>h t h' h1
  rw [put_eq h1,ybr h2,put_eq h1]
 ·rw [ybr h1]
  by_cases h2 : d = some t
  ·rw [put_eq h2,put_eq h2]
  ·rw [ybr h2,ybr h2,ybr h1]
section
variable {P : Program} {x y : Ins} {s s1 s2 : St} {lx ly : Lab}
theorem ysT (hy : y.op.reads.isSome = true) (hx : x.op.reads.isSome = true) (ha : Apart x y) (h1 : TrQ P x lx s s1) (h2 : TrQ P y ly s1 s2) : ∃ s1',TrQ P y ly s s1' ∧ TrQ P x lx s1' s2:=by
 obtain ⟨u,rfl,hu,rfl⟩:=h1
 obtain ⟨v,rfl,hv,rfl⟩:=h2
 have ey:=yaM (i:=y) (s:=s.put x.d u) (s2:=s) fun t ht=>(ha.yi0 t ht).symm
 have ex:=yaM (i:=x) (s:=s) (s2:=s.put y.d v) fun t ht=>ha.yjJ t ht
 refine ⟨s.put y.d v,⟨v,rfl,?_,?_⟩,⟨u,put_comm ha.ne,?_,?_⟩⟩
 ·rw [yad] at hv
  exact ybT (fun t b hg=>(ha.yi0 t (ycD hg)).symm) (fun H k hk=>ydF hy ey (H k hk)) hv
 ·exact (ydH ey).symm
 ·rw [yad]
  exact ybT (ev:=s.ev) (fun t b hg=>ha.yjJ t (ycD hg)) (fun H k hk=>ydF hx ex (H k hk)) hu
 ·exact (ydH ex).symm
theorem yd9 {s : St} {d : Nat} (hc : Clear s d) {x : X} (hk : x.kok = true) : d ∉ (s.ev x).ids:=by
 cases x with
 | t n=>exact hc.1 n
 | k a =>
  have : a.ids = []:=by simpa [X.kok] using hk
  show d ∉ a.ids
  rw [this]; simp
theorem new_ne {s : St} {e : Nat} {v : AV} {o : Obj} {t : Nat} (h : t ≠ e) : (⟨upd e v s.env,upd e o s.objs⟩ : St).env t = s.env t:=by
 show upd e v s.env t = _; rw [yN,if_neg h]
theorem ycL {s : St} {e : Nat} {v : AV} {o : Obj} : (⟨upd e v s.env,upd e o s.objs⟩ : St).env e = v:=by
 show upd e v s.env e = _; rw [yN,if_pos rfl]
theorem yah {s : St} {e : Nat} {v : AV} {o : Obj} {i : Nat} (h : i ≠ e) : (⟨upd e v s.env,upd e o s.objs⟩ : St).objs i = s.objs i:=by
 show upd e o s.objs i = _; rw [yN,if_neg h]
theorem ybu {s : St} {e : Nat} {v : AV} {o : Obj} : (⟨upd e v s.env,upd e o s.objs⟩ : St).objs e = o:=by
 show upd e o s.objs e = _; rw [yN,if_pos rfl]
theorem ynB {s : St} {e : Nat} {u v : AV} {o : Obj} {d : Option Nat} (h : d ≠ some e) : (⟨upd e v (s.put d u).env,upd e o (s.put d u).objs⟩ : St) = (⟨upd e v s.env,upd e o s.objs⟩ : St).put d u:=by
 refine St.ext' (fun t=>?_) fun i=>by rw [yad]; rw [yad]
 by_cases h1 : t = e
 ·subst h1; rw [ycL,ybr h,ycL]
 ·rw [new_ne h1]
  by_cases h2 : d = some t
  ·rw [put_eq h2,put_eq h2]
  ·rw [ybr h2,ybr h2,new_ne h1]
theorem yuO (hs : Sound s) (hx : x.op.reads.isSome = true) (hk : x.op.xs.all X.kok = true) (ha : Apart x y) (h1 : TrQ P x lx s s1) (h2 : TrM P y ly s1 s2) : ∃ s1',TrM P y ly s s1' ∧ TrQ P x lx s1' s2:=by
 obtain ⟨u,rfl,hu,rfl⟩:=h1
 obtain ⟨e,o,v,hd,h0,rfl,hb,hv,hxs,rfl,ag⟩:=h2
 rw [yad] at h0
 have ey:=yaM (i:=y) (s:=s.put x.d u) (s2:=s) fun t ht=>(ha.yi0 t ht).symm
 have ev : ∀ t,t ∈ x.rdx → (⟨upd e v s.env,upd e o s.objs⟩ : St).env t = s.env t:=fun t ht=>new_ne fun h=>ha.yx e hd (h ▸ ht)
 have ex:=yaM (i:=x) ev
 have hc:=hs e h0
 have hne : x.d ≠ some e:=fun h=>ha.ne e h hd
 refine ⟨⟨upd e v s.env,upd e o s.objs⟩,⟨e,o,v,hd,h0,rfl,hb,hv,fun z hz=>by rw [ey z hz]; exact hxs z hz,rfl,fun s3 h3 h4 K hK=>ag s3 (fun z hz=>(h3 z hz).trans (ey z hz)) h4 K hK⟩,⟨u,ynB hne,?_,(ydH ex).symm⟩⟩
 refine ybT (ev:=s.ev) (ob:=s.objs) (fun t b hg=>ev t (ycD hg)) (fun H k hk'=>ydF hx ex ?_) hu
 exact yl8 hx (e:=e) (fun i hi=>yah hi) hc.2 (fun z hz=>yd9 hc (List.all_eq_true.1 hk z hz)) H k hk'
theorem yts (hs : Sound s) (hy : y.op.reads.isSome = true) (hk : y.op.xs.all X.kok = true) (ha : Apart x y) (h1 : TrM P x lx s s1) (h2 : TrQ P y ly s1 s2) : ∃ s1',TrQ P y ly s s1' ∧ TrM P x lx s1' s2:=by
 obtain ⟨e,o,v,hd,h0,rfl,hb,hv,hxs,rfl,ag⟩:=h1
 obtain ⟨u,rfl,hu,rfl⟩:=h2
 have ev : ∀ t,t ∈ y.rdx → s.env t = (⟨upd e v s.env,upd e o s.objs⟩ : St).env t:=fun t ht=>(new_ne fun (h : t = e)=>ha.xy e hd (h ▸ ht)).symm
 have ey:=yaM (i:=y) ev
 have ex:=yaM (i:=x) (s:=s) (s2:=s.put y.d u) fun t ht=>ha.yjJ t ht
 have hc:=hs e h0
 have hne : y.d ≠ some e:=ha.ne e hd
 refine ⟨s.put y.d u,⟨u,rfl,?_,(ydH ey).symm⟩,⟨e,o,v,hd,by rw [yad]; exact h0,(ynB hne).symm,hb,hv,fun z hz=>by rw [ex z hz]; exact hxs z hz,rfl,fun s3 h3 h4 K hK=>ag s3 (fun z hz=>(h3 z hz).trans (ex z hz)) h4 K hK⟩⟩
 refine ybT (ev:=(⟨upd e v s.env,upd e o s.objs⟩ : St).ev) (fun t b hg=>ev t (ycD hg)) (fun H k hk'=>ydF hy ey ?_) hu
 refine yl8 hy (e:=e) (fun i hi=>(yah hi).symm) (fun i cells hi z hz=>?_) (fun z hz=>by rw [← ey z hz]; exact yd9 hc (List.all_eq_true.1 hk z hz)) H k hk'
 by_cases h : i = e
 ·subst h
  have hi' : o = .box cells:=by rw [ybu] at hi; exact hi
  subst hi'
  intro hc'
  have:=hb.1 z hz
  have h5:=yaQ hc'
  rw [this] at h5; cases h5
 ·rw [yah h] at hi
  exact hc.2 i cells hi z hz
theorem ysL (ha : Apart x y) (h1 : TrM P x lx s s1) (h2 : TrM P y ly s1 s2) : ∃ s1',TrM P y ly s s1' ∧ TrM P x lx s1' s2:=by
 obtain ⟨e,o,v,hd,h0,rfl,hb,hv,hxs,rfl,ag⟩:=h1
 obtain ⟨e',o',v',hd',h0',rfl,hb',hv',hxs',rfl,ag'⟩:=h2
 have hne : e ≠ e':=fun h=>ha.ne e hd (h ▸ hd')
 rw [yah (Ne.symm hne)] at h0'
 have ey:=yaM (i:=y) (s:=⟨upd e v s.env,upd e o s.objs⟩) (s2:=s) fun t ht=>(new_ne fun (h : t = e)=>ha.xy e hd (h ▸ ht)).symm
 have ex:=yaM (i:=x) (s:=s) (s2:=⟨upd e' v' s.env,upd e' o' s.objs⟩) fun t ht=>new_ne fun h=>ha.yx e' hd' (h ▸ ht)
 refine ⟨⟨upd e' v' s.env,upd e' o' s.objs⟩,⟨e',o',v',hd',h0',rfl,hb',hv',fun z hz=>by rw [ey z hz]; exact hxs' z hz,rfl,fun s3 h3 h4 K hK=>ag' s3 (fun z hz=>(h3 z hz).trans (ey z hz)) h4 K hK⟩,
  ⟨e,o,v,hd,by rw [yah hne]; exact h0,?_,hb,hv,fun z hz=>by rw [ex z hz]; exact hxs z hz,rfl,fun s3 h3 h4 K hK=>ag s3 (fun z hz=>(h3 z hz).trans (ex z hz)) h4 K hK⟩⟩
 refine St.ext' (fun t=>?_) fun i=>?_
 ·by_cases h1 : t = e
  ·subst h1; rw [new_ne hne,ycL,ycL]
  ·by_cases h2 : t = e'
   ·subst h2; rw [ycL,new_ne h1,ycL]
   ·rw [new_ne h2,new_ne h1,new_ne h1,new_ne h2]
 ·by_cases h1 : i = e
  ·subst h1; rw [yah hne,ybu,ybu]
  ·by_cases h2 : i = e'
   ·subst h2; rw [ybu,yah h1,ybu]
   ·rw [yah h2,yah h1,yah h1,yah h2]
theorem ynU {s : St} {d e : Option Nat} {u v : AV} {Kl : List Nat} {U : List (Nat × Obj)} (h : ∀ t,d = some t → e ≠ some t) (hu : ∀ j,j ∈ Kl → j ∉ u.ids) : (s.put d u).act Kl U e v = (s.act Kl U e v).put d u:=by
 refine St.ext' (fun t=>?_) fun i=>by rw [ycy,yad,yad,ycy]
 by_cases h1 : e = some t
 ·have h2 : d ≠ some t:=fun h'=>h t h' h1
  rw [yk0 h1,ybr h2,yk0 h1]
 ·rw [ydq h1]
  by_cases h2 : d = some t
  ·rw [put_eq h2,put_eq h2,ybM hu]
  ·rw [ybr h2,ybr h2,ydq h1]
theorem ykm {Kl : List Nat} {U : List (Nat × Obj)} {W : List Nat} {o : Obj} {i : Nat} (h1 : ∀ j,j ∈ Kl → 2 * j + 1 ∈ W) (h2 : ∀ p,p ∈ U → 2 * p.1 ∈ W) (hk : 2 * i + 1 ∉ W) (h : 2 * i ∉ W) : ygs Kl U o i = o.kills Kl :=
 yhb (fun hj=>hk (h1 i hj)) fun p hp e=>h (e ▸ h2 p hp)
theorem ytG (hx : x.op.reads.isSome = true) (hcall : x.op.yE = false) (hk : x.op.xs.all X.kok = true) (ha : Apart x y) (hdis : ∀ j,j ∈ lx.1 → j ∉ ly.1) (h1 : TrQ P x lx s s1) (h2 : TrE P y ly s1 s2) : ∃ s1',TrE P y ly s s1' ∧ TrQ P x lx s1' s2:=by
 obtain ⟨u,rfl,hu,rfl⟩:=h1
 obtain ⟨Kl,U,v,rfl,ok,hl,hcl⟩:=h2
 have ey:=yaM (i:=y) (s:=s.put x.d u) (s2:=s) fun t ht=>(ha.yi0 t ht).symm
 obtain ⟨l1,l2,l3⟩:=ylP (i:=x) (s:=s) (v:=u)
 have hfree : ∀ {a : AV},(∀ j,j ∈ a.ids → 2 * j + 1 ∈ (yb9 x s u).1) → a.kills Kl = a:=fun h=>ybM fun j hj hi=>hdis _ (h j hi) (ok.kl j hj)
 have ex : ∀ z,z ∈ x.op.xs → (s.act Kl U y.d v).ev z = s.ev z:=by
  intro z hz
  cases z with
  | t n =>
   show (s.act Kl U y.d v).env n = s.env n
   rw [ydq fun e=>ha.yx n e (List.mem_append_right _ (List.mem_flatMap.2 ⟨_,hz,by simp [X.tm]⟩))]
   exact hfree fun j hj=>l2 _ hz j hj
  | k a=>rfl
 refine ⟨s.act Kl U y.d v,⟨Kl,U,v,rfl,⟨ok.kl,ok.up,fun s3 h3 h4 h5 K hK=>ok.again s3 (fun z hz=>(h3 z hz).trans (ey z hz)) (fun z hz j hj=>?_) (fun e he h6=>h5 e he (by rw [yad] at h6; exact h6)) K hK⟩,fun j hj=>?_,hcl⟩,⟨u,?_,?_,(ydH ex).symm⟩⟩
 ·rw [yad]; exact h4 z hz j (by rw [ey z hz]; exact hj)
 ·rcases hl j hj with ⟨z,hz,hj⟩ | h
  ·exact .inl ⟨z,hz,by rw [ey z hz]; exact hj⟩
  ·exact .inr h
 ·exact ynU ha.ne fun j hj hi=>hdis _ (l1 j hi) (ok.kl j hj)
 ·refine ybT (ev:=s.ev) (ob:=s.objs) (fun t b hg=>?_) (fun H k hk'=>ydF hx ex ?_) hu
  ·show (s.act Kl U y.d v).env t = s.env t
   rw [ydq fun e=>ha.yx t e (ycD hg)]
   rcases yiH (hu (fun _=>True) trivial) t b hg with ⟨b',hb⟩ | hb
   ·have : s.env t = .c (.b b'):=hb
    rw [this]; exact ybM fun j _ hj=>by cases hj
   ·have : s.env t = .und:=hb
    rw [this]; exact ybM fun j _ hj=>by cases hj
  ·cases hm : yjl x.op s with
   | true=>exact ynQ hm (H k hk')
   | false =>
    refine yk9 hx hcall (v:=u) (fun z hz i hi=>?_) H k hk'
    rw [ycy,ykm ok.kl ok.up (hdis _ (l2 z hz i hi)) (hdis _ (l3 hm z hz i hi))]
    exact ygg.kills fun j hj hi=>hdis _ (l1 j hi) (ok.kl j hj)
theorem ytT (hy : y.op.reads.isSome = true) (hcall : y.op.yE = false) (ha : Apart x y) (hdis : ∀ j,j ∈ lx.1 → j ∉ ly.1) (hcly : ly.2 = true) (h1 : TrE P x lx s s1) (h2 : TrQ P y ly s1 s2) : ∃ s1',TrQ P y ly s s1' ∧ TrE P x lx s1' s2:=by
 obtain ⟨Kl,U,v,rfl,ok,hl,hcl⟩:=h1
 obtain ⟨u,rfl,hu,rfl⟩:=h2
 obtain ⟨l1,l2,l3⟩:=ylP (i:=y) (s:=s.act Kl U x.d v) (v:=u)
 obtain ⟨c1,c2⟩:=yri hcly
 have ey : ∀ z,z ∈ y.op.xs → s.ev z = (s.act Kl U x.d v).ev z:=by
  intro z hz
  cases z with
  | t n =>
   show s.env n = (s.act Kl U x.d v).env n
   have hn : x.d ≠ some n:=fun e=>ha.xy n e (List.mem_append_right _ (List.mem_flatMap.2 ⟨_,hz,by simp [X.tm]⟩))
   have hc : ((s.act Kl U x.d v).env n).cl = true:=c2 _ hz
   rw [ydq hn] at hc ⊢
   exact (ydG hc).symm
  | k a=>rfl
 have ex:=yaM (i:=x) (s:=s) (s2:=s.put y.d u) fun t ht=>ha.yjJ t ht
 refine ⟨s.put y.d u,⟨u,rfl,?_,(ydH ey).symm⟩,⟨Kl,U,v,?_,⟨ok.kl,ok.up,fun s3 h3 h4 h5 K hK=>ok.again s3 (fun z hz=>(h3 z hz).trans (ex z hz)) (fun z hz j hj=>?_) (fun e he h6=>h5 e he (by rw [yad]; exact h6)) K hK⟩,fun j hj=>?_,hcl⟩⟩
 ·refine ybT (fun t b hg=>?_) (fun H k hk'=>ydF hy ey ?_) hu
  ·show s.env t = (s.act Kl U x.d v).env t
   have hn : x.d ≠ some t:=fun e=>ha.xy t e (ycD hg)
   have hc : ((s.act Kl U x.d v).env t).cl = true:=by
    rcases yiH (hu (fun _=>True) trivial) t b hg with ⟨b',hb⟩ | hb
    ·have : (s.act Kl U x.d v).env t = .c (.b b'):=hb
     rw [this]; rfl
    ·have : (s.act Kl U x.d v).env t = .und:=hb
     rw [this]; rfl
   rw [ydq hn] at hc ⊢
   exact (ydG hc).symm
  ·cases hm : yjl y.op (s.act Kl U x.d v) with
   | true=>exact ynQ hm (H k hk')
   | false =>
    refine yk9 hy hcall (v:=u) (fun z hz i hi=>?_) H k hk'
    rw [ycy,ykm ok.kl ok.up (fun h=>hdis _ h (l2 z hz i hi)) fun h=>hdis _ h (l3 hm z hz i hi)]
    exact ygg.ytk c1
 ·exact (ynU (fun t h h'=>ha.ne t h' h) fun j hj hi=>hdis _ (ok.kl j hj) (l1 j hi)).symm
 ·have:=h4 z hz j (by rw [ex z hz]; exact hj)
  rw [yad] at this; exact this
 ·rcases hl j hj with ⟨z,hz,hj⟩ | h
  ·exact .inl ⟨z,hz,by rw [ex z hz]; exact hj⟩
  ·exact .inr h
theorem yhg {s : St} {e : Nat} {o : Obj} {u v : AV} {d : Option Nat} {Kl : List Nat} {U : List (Nat × Obj)} (hne : d ≠ some e) (hu : ∀ j,j ∈ u.ids → j = e) (hb : o.bare) (h1 : e ∉ Kl) (h2 : ∀ p,p ∈ U → p.1 ≠ e) :
 (⟨upd e u s.env,upd e o s.objs⟩ : St).act Kl U d v = ⟨upd e u (s.act Kl U d v).env,upd e o (s.act Kl U d v).objs⟩:=by
 refine St.ext' (fun t=>?_) fun i=>?_
 ·by_cases h : t = e
  ·subst h; rw [ydq hne,ycL,ycL,ybM fun j hj hi=>h1 (hu j hi ▸ hj)]
  ·rw [new_ne h]
   by_cases h3 : d = some t
   ·rw [yk0 h3,yk0 h3]
   ·rw [ydq h3,ydq h3,new_ne h]
 ·rw [ycy]
  by_cases h : i = e
  ·subst h; rw [ybu,ybu,yhb h1 h2,ymh hb]
  ·rw [yah h,yah h,ycy]
theorem yua (hs : Sound s) (hk : y.op.xs.all X.kok = true) (ha : Apart x y) (h1 : TrM P x lx s s1) (h2 : TrE P y ly s1 s2) : ∃ s1',TrE P y ly s s1' ∧ TrM P x lx s1' s2:=by
 obtain ⟨e,o,u,hd,h0,rfl,hb,hu,hxs,rfl,ag⟩:=h1
 obtain ⟨Kl,U,v,rfl,ok,hl,hcl⟩:=h2
 have ey:=yaM (i:=y) (s:=⟨upd e u s.env,upd e o s.objs⟩) (s2:=s) fun t ht=>(new_ne fun (h : t = e)=>ha.xy e hd (h ▸ ht)).symm
 have hc:=hs e h0
 have hne : y.d ≠ some e:=ha.ne e hd
 have hfr : ∀ z,z ∈ y.op.xs → e ∉ (s.ev z).ids:=fun z hz=>yd9 hc (List.all_eq_true.1 hk z hz)
 have hel : ¬ (2 * e ∈ ly.1 ∨ 2 * e + 1 ∈ ly.1):=by
  intro h
  rcases hl e h with ⟨z,hz,hj⟩ | h
  ·exact hfr z hz (by rw [ey z hz]; exact hj)
  ·exact hne h
 have hKl : e ∉ Kl:=fun h=>hel (.inr (ok.kl e h))
 have hU : ∀ p,p ∈ U → p.1 ≠ e:=fun p hp h=>hel (.inl (h ▸ ok.up p hp))
 have ex : ∀ z,z ∈ x.op.xs → (s.act Kl U y.d v).ev z = s.ev z:=by
  intro z hz
  cases z with
  | t n =>
   show (s.act Kl U y.d v).env n = s.env n
   rw [ydq fun e=>ha.yx n e (List.mem_append_right _ (List.mem_flatMap.2 ⟨_,hz,by simp [X.tm]⟩))]
   have:=(hxs _ hz).1
   exact ybM fun j _ hj=>by rw [show (s.env n).ids = [] from this] at hj; cases hj
  | k a=>rfl
 refine ⟨s.act Kl U y.d v,⟨Kl,U,v,rfl,⟨ok.kl,ok.up,fun s3 h3 h4 h5 K hK=>ok.again s3 (fun z hz=>(h3 z hz).trans (ey z hz)) (fun z hz j hj=>?_) (fun f hf h6=>?_) K hK⟩,fun j hj=>?_,hcl⟩,
  ⟨e,o,u,hd,?_,yhg hne hu hb.1 hKl hU,hb,hu,fun z hz=>by rw [ex z hz]; exact hxs z hz,rfl,fun s3 h3 h4 K hK=>ag s3 (fun z hz=>(h3 z hz).trans (ex z hz)) h4 K hK⟩⟩
 ·rw [← ey z hz] at hj
  rw [yah fun (h : j = e)=>hfr z hz (h ▸ hj)]
  exact h4 z hz j hj
 ·have hfe : f ≠ e:=fun h=>hne (h ▸ hf)
  rw [yah hfe] at h6
  exact h5 f hf h6
 ·rcases hl j hj with ⟨z,hz,hj⟩ | h
  ·exact .inl ⟨z,hz,by rw [ey z hz]; exact hj⟩
  ·exact .inr h
 ·rw [ycy,h0,yhb hKl hU,Obj.ybJ]
theorem yt1 (hs : Sound s) (hk : x.op.xs.all X.kok = true) (ha : Apart x y) (hdis : ∀ j,j ∈ lx.1 → j ∉ ly.1) (h1 : TrE P x lx s s1) (h2 : TrM P y ly s1 s2) : ∃ s1',TrM P y ly s s1' ∧ TrE P x lx s1' s2:=by
 obtain ⟨Kl,U,v,rfl,ok,hl,hcl⟩:=h1
 obtain ⟨e,o,u,hd,h0,rfl,hb,hu,hxs,rfl,ag⟩:=h2
 have hel : 2 * e ∉ lx.1:=fun h=>hdis _ h (List.mem_append_left _ (ylu.2 (by simp [hd])))
 have hel2 : 2 * e + 1 ∉ lx.1:=fun h=>hdis _ h (List.mem_append_right _ (yit.2 (by simp [hd])))
 have hKl : e ∉ Kl:=fun h=>hel2 (ok.kl e h)
 have hU : ∀ p,p ∈ U → p.1 ≠ e:=fun p hp h=>hel (h ▸ ok.up p hp)
 rw [ycy,yhb hKl hU] at h0
 have h0' : s.objs e = .none:=by
  cases ho : s.objs e with
  | none=>rfl
  | _=>exact absurd h0 ((Obj.ybO _ _).2 (by rw [ho]; simp))
 have hc:=hs e h0'
 have hne : x.d ≠ some e:=fun h=>ha.ne e h hd
 have hfr : ∀ z,z ∈ x.op.xs → e ∉ (s.ev z).ids:=fun z hz=>yd9 hc (List.all_eq_true.1 hk z hz)
 have ey : ∀ z,z ∈ y.op.xs → s.ev z = (s.act Kl U x.d v).ev z:=by
  intro z hz
  cases z with
  | t n =>
   show s.env n = (s.act Kl U x.d v).env n
   have hn : x.d ≠ some n:=fun e=>ha.xy n e (List.mem_append_right _ (List.mem_flatMap.2 ⟨_,hz,by simp [X.tm]⟩))
   have hc : ((s.act Kl U x.d v).env n).cl = true:=(hxs _ hz).2
   rw [ydq hn] at hc ⊢
   exact (ydG hc).symm
  | k a=>rfl
 have ex:=yaM (i:=x) (s:=s) (s2:=⟨upd e u s.env,upd e o s.objs⟩) fun t ht=>new_ne fun h=>ha.yx e hd (h ▸ ht)
 refine ⟨⟨upd e u s.env,upd e o s.objs⟩,⟨e,o,u,hd,h0',rfl,hb,hu,fun z hz=>by rw [ey z hz]; exact hxs z hz,rfl,fun s3 h3 h4 K hK=>ag s3 (fun z hz=>(h3 z hz).trans (ey z hz)) h4 K hK⟩,
  ⟨Kl,U,v,(yhg hne hu hb.1 hKl hU).symm,⟨ok.kl,ok.up,fun s3 h3 h4 h5 K hK=>ok.again s3 (fun z hz=>(h3 z hz).trans (ex z hz)) (fun z hz j hj=>?_) (fun f hf h6=>?_) K hK⟩,fun j hj=>?_,hcl⟩⟩
 ·have:=h4 z hz j (by rw [ex z hz]; exact hj)
  rw [yah fun (h : j = e)=>hfr z hz (h ▸ hj)] at this
  exact this
 ·have hfe : f ≠ e:=fun h=>hne (h ▸ hf)
  exact h5 f hf (by rw [yah hfe]; exact h6)
 ·rcases hl j hj with ⟨z,hz,hj⟩ | h
  ·exact .inl ⟨z,hz,by rw [ex z hz]; exact hj⟩
  ·exact .inr h
end
theorem ynM {d : Nat} {c : C} : ∀ p,p ∈ c.yar d → p.2.bare ∧ p.2 ≠ .none:=by
 intro p hp
 cases c <;> simp only [C.yar,List.not_mem_nil,List.mem_singleton] at hp <;> first | exact hp.elim | skip
 ·subst hp; exact ⟨trivial,by simp⟩
 ·subst hp; exact ⟨trivial,by simp⟩
 ·split at hp
  ·rw [List.mem_singleton] at hp
   subst hp
   refine ⟨fun x hx=>?_,by simp⟩
   obtain ⟨c,_,rfl⟩:=List.mem_map.1 hx
   rfl
  ·cases hp
theorem ymp {d : Nat} : ∀ {l : List C} {j : Nat} (p : Nat × Obj),p ∈ yeT d j l → p.2.bare ∧ p.2 ≠ .none
 | [],_,p,hp=>by cases hp
 | c :: l,j,p,hp=>by
  rcases List.mem_append.1 hp with h | h
  ·exact ynM p h
  ·exact ymp p h
theorem yml {d : Nat} {x : AV} : ∀ p,p ∈ x.ydb d → p.2.bare ∧ p.2 ≠ .none:=by
 intro p hp
 cases x <;> simp only [AV.ydb,List.not_mem_nil] at hp <;> first | exact hp.elim | skip
 ·exact ynM p hp
 ·exact ymp p hp
theorem ylS {d : Nat} : ∀ {l : List AV} {j : Nat} (p : Nat × Obj),p ∈ yeL d j l → p.2.bare ∧ p.2 ≠ .none
 | [],_,p,hp=>by cases hp
 | c :: l,j,p,hp=>by
  rcases List.mem_append.1 hp with h | h
  ·exact yml p h
  ·exact ylS p h
theorem ykO {d : Nat} {x : AV} : ∀ p,p ∈ x.yar d → p.2.bare ∧ p.2 ≠ .none:=by
 intro p hp
 cases x
 case tup l=>exact ylS p hp
 all_goals (simp only [AV.yar] at hp; exact yml p hp)
theorem ykc {l : List (Nat × Obj)} {i : Nat} (h : i ∈ l.map (·.1)) : ∃ p,p ∈ l ∧ p.1 = i:=by
 obtain ⟨p,hp,e⟩:=List.mem_map.1 h
 exact ⟨p,hp,e⟩
theorem yaB {s : St} {d t : Nat} {res : AV} (h : t ≠ d) : (s.take d res).env t = s.env t:=by
 show upd d _ s.env t = _; rw [yN,if_neg h]
theorem ybF {s : St} {d : Nat} {res : AV} : (s.take d res).env d = res.unp d:=by
 show upd d _ s.env d = _; rw [yN,if_pos rfl]
theorem yaD {s : St} {d i : Nat} {res : AV} (h : i ∉ (res.yar d).map (·.1)) : (s.take d res).objs i = s.objs i:=ydl h
theorem yer {s : St} {d : Nat} {res : AV} (hn : ((res.yar d).map (·.1)).Nodup) {p : Nat × Obj} (hp : p ∈ res.yar d) : (s.take d res).objs p.1 = p.2:=ycf hn p hp
theorem yeo {O O' : Nat → Obj} {i : Nat} (h : O i = O' i) : ∀ {l : List (Nat × Obj)},yae O l i = yae O' l i
 | []=>h
 | (k,o) :: l=>by
  show upd k o _ i = upd k o _ i
  rw [yN,yN,yeo h]
theorem ylN {s : St} {x : Option Nat} {d : Nat} {u res : AV} (h : x ≠ some d) : (s.put x u).take d res = (s.take d res).put x u:=by
 refine St.ext' (fun t=>?_) fun i=>by
  rw [yad]
  show yae (s.put x u).objs _ i = yae s.objs _ i
  rw [yad]
 by_cases h1 : t = d
 ·subst h1; rw [ybF,ybr h,ybF]
 ·rw [yaB h1]
  by_cases h2 : x = some t
  ·rw [put_eq h2,put_eq h2]
  ·rw [ybr h2,ybr h2,yaB h1]
section
variable {P : Program} {x y : Ins} {s s1 s2 : St} {lx ly : Lab} {d d' : Nat} {res res' : AV} {f f' : Nat} {xs xs' : List X} {args args' : List AV}
theorem MakeP.at (h : MakeP P x s d res f xs args) {s2 : St} (he : ∀ z,z ∈ x.op.xs → s2.ev z = s.ev z) (ho : ybt s (xs.map s.ev) args → ybt s2 (xs.map s.ev) args) (hf : yeI s2 (res.yar d)) : MakeP P x s2 d res f xs args:=by
 have e : xs.map s2.ev = xs.map s.ev:=List.map_congr_left fun z hz=>he z (by rw [h.opr]; exact hz)
 exact ⟨h.gd,h.dst,h.opr,h.own,by rw [e]; exact ho h.outs,by rw [e]; exact h.cl,hf⟩
theorem MakeP.ykn (hs : Sound s) (h : MakeP P x s d res f xs args) (hk : x.op.xs.all X.kok = true) {e : Nat} (h0 : s.objs e = .none) : ∀ a,a ∈ xs.map s.ev → e ∉ a.yau:=by
 intro a ha hc
 obtain ⟨z,hz,rfl⟩:=List.mem_map.1 ha
 exact yd9 (hs e h0) (List.all_eq_true.1 hk z (by rw [h.opr]; exact hz)) (ybE hc)
theorem MakeP.none (h : MakeP P x s d res f xs args) {i : Nat} (hi : i ∈ (res.yar d).map (·.1)) : s.objs i = .none:=by
 obtain ⟨p,hp,rfl⟩:=ykc hi
 exact h.fresh.1 p hp
theorem MakeP.cells (hs : Sound s) (h : MakeP P x s d res f xs args) : ∀ i cells,(s.take d res).objs i = .box cells → ∀ z,z ∈ cells → ∀ j,j ∈ z.yan → ¬ j ∈ (res.yar d).map (·.1):=by
 intro i cells hi z hz j hj hE
 by_cases hc : i ∈ (res.yar d).map (·.1)
 ·obtain ⟨p,hp,rfl⟩:=ykc hc
  rw [yer h.fresh.2 hp] at hi
  have:=(ykO p hp).1
  rw [hi] at this
  have h2:=yaQ hj
  rw [this z hz] at h2; cases h2
 ·rw [yaD hc] at hi
  exact (hs j (h.none hE)).2 i cells hi z hz hj
theorem MakeP.ypB (hs : Sound s) (h : MakeP P x s d res f xs args) : ∀ i cells,s.objs i = .box cells → ∀ z,z ∈ cells → ∀ j,j ∈ z.yan → ¬ j ∈ (res.yar d).map (·.1) :=
 fun i cells hi z hz j hj hE=>(hs j (h.none hE)).2 i cells hi z hz hj
theorem ysK (hs : Sound s) (hx : x.op.reads.isSome = true) (hk : x.op.xs.all X.kok = true) (ha : Apart x y) (h1 : TrQ P x lx s s1) (h2 : TrN P y s1 s2) : ∃ s1',TrN P y s s1' ∧ TrQ P x lx s1' s2:=by
 obtain ⟨u,rfl,hu,rfl⟩:=h1
 obtain ⟨d,res,f,xs,args,hm,rfl⟩:=h2
 have ey:=yaM (i:=y) (s:=s.put x.d u) (s2:=s) fun t ht=>(ha.yi0 t ht).symm
 have hm' : MakeP P y s d res f xs args:=hm.at ey (fun h=>by rw [← ybB] at h ⊢; rw [yad] at h; exact h) ⟨fun p hp=>by have:=hm.fresh.1 p hp; show s.objs p.1 = _; rw [← yad (s:=s) (d:=x.d) (v:=u)]; exact this,hm.fresh.2⟩
 have hne : x.d ≠ some d:=fun h=>ha.ne d h hm.dst
 have ev : ∀ t,t ∈ x.rdx → (s.take d res).env t = s.env t:=fun t ht=>yaB fun h=>ha.yx d hm.dst (h ▸ ht)
 have ex:=yaM (i:=x) ev
 refine ⟨s.take d res,⟨d,res,f,xs,args,hm',rfl⟩,⟨u,ylN hne,?_,(ydH ex).symm⟩⟩
 refine ybT (ev:=s.ev) (ob:=s.objs) (fun t b hg=>ev t (ycD hg)) (fun H k hk'=>ydF hx ex ?_) hu
 exact yiL hx (E:=fun i=>i ∈ (res.yar d).map (·.1)) (fun i hi=>yaD hi) (hm'.ypB hs) (fun z hz j hj hE=>yd9 (hs j (hm'.none hE)) (List.all_eq_true.1 hk z hz) hj) H k hk'
theorem ytV (hs : Sound s) (hy : y.op.reads.isSome = true) (hk : y.op.xs.all X.kok = true) (ha : Apart x y) (h1 : TrN P x s s1) (h2 : TrQ P y ly s1 s2) : ∃ s1',TrQ P y ly s s1' ∧ TrN P x s1' s2:=by
 obtain ⟨d,res,f,xs,args,hm,rfl⟩:=h1
 obtain ⟨u,rfl,hu,rfl⟩:=h2
 have ev : ∀ t,t ∈ y.rdx → s.env t = (s.take d res).env t:=fun t ht=>(yaB fun (h : t = d)=>ha.xy d hm.dst (h ▸ ht)).symm
 have ey:=yaM (i:=y) ev
 have ex:=yaM (i:=x) (s:=s) (s2:=s.put y.d u) fun t ht=>ha.yjJ t ht
 have hne : y.d ≠ some d:=ha.ne d hm.dst
 refine ⟨s.put y.d u,⟨u,rfl,?_,(ydH ey).symm⟩,⟨d,res,f,xs,args,hm.at ex (fun h=>by rw [← ybB] at h ⊢; rw [yad]; exact h) ⟨fun p hp=>by have:=hm.fresh.1 p hp; show (s.put y.d u).objs p.1 = _; rw [yad]; exact this,hm.fresh.2⟩,(ylN hne).symm⟩⟩
 refine ybT (ev:=(s.take d res).ev) (fun t b hg=>ev t (ycD hg)) (fun H k hk'=>ydF hy ey ?_) hu
 exact yiL hy (E:=fun i=>i ∈ (res.yar d).map (·.1)) (fun i hi=>(yaD hi).symm) (hm.cells hs) (fun z hz j hj hE=>yd9 (hs j (hm.none hE)) (List.all_eq_true.1 hk z hz) (by rw [ey z hz]; exact hj)) H k hk'
theorem ysS (hs : Sound s) (hkx : x.op.xs.all X.kok = true) (hk : y.op.xs.all X.kok = true) (ha : Apart x y) (h1 : TrN P x s s1) (h2 : TrN P y s1 s2) : ∃ s1',TrN P y s s1' ∧ TrN P x s1' s2:=by
 obtain ⟨d,res,f,xs,args,hm,rfl⟩:=h1
 obtain ⟨d',res',f',xs',args',hm',rfl⟩:=h2
 have hne : d ≠ d':=fun h=>ha.ne d hm.dst (h ▸ hm'.dst)
 have ey:=yaM (i:=y) (s:=s.take d res) (s2:=s) fun t ht=>(yaB fun (h : t = d)=>ha.xy d hm.dst (h ▸ ht)).symm
 have ex:=yaM (i:=x) (s:=s) (s2:=s.take d' res') fun t ht=>yaB fun (h : t = d')=>ha.yx d' hm'.dst (h ▸ ht)
 have hdis : ∀ i,i ∈ (res'.yar d').map (·.1) → i ∉ (res.yar d).map (·.1):=by
  intro i hi hc
  have h1:=hm'.none hi
  obtain ⟨p,hp,rfl⟩:=ykc hc
  rw [yer hm.fresh.2 hp] at h1
  exact (ykO p hp).2 h1
 have hfr : ∀ i,i ∈ (res'.yar d').map (·.1) → s.objs i = .none:=by
  intro i hi
  have h1:=hm'.none hi
  rwa [yaD (hdis i hi)] at h1
 have hmap : xs'.map (s.take d res).ev = xs'.map s.ev:=List.map_congr_left fun z hz=>(ey z (by rw [hm'.opr]; exact hz)).symm
 have hy : MakeP P y s d' res' f' xs' args':=hm'.at ey (fun h=>by
  rw [← ybB] at h ⊢
  refine ya6 (E:=fun i=>i ∈ (res.yar d).map (·.1)) (fun i hi=>(yaD hi).symm) (hm.cells hs) (fun a ha' j hj hE=>?_) h
  rw [hmap] at ha'
  obtain ⟨z,hz,rfl⟩:=List.mem_map.1 ha'
  exact yd9 (hs j (hm.none hE)) (List.all_eq_true.1 hk z (by rw [hm'.opr]; exact hz)) (ybE hj)) ⟨fun p hp=>hfr p.1 (List.mem_map_of_mem hp),hm'.fresh.2⟩
 refine ⟨s.take d' res',⟨d',res',f',xs',args',hy,rfl⟩,⟨d,res,f,xs,args,hm.at ex (fun h=>?_) ⟨fun p hp=>?_,hm.fresh.2⟩,?_⟩⟩
 ·rw [← ybB] at h ⊢
  exact ya6 (E:=fun i=>i ∈ (res'.yar d').map (·.1)) (fun i hi=>yaD hi) (hy.ypB hs) (fun a ha' j hj hE=>hm.ykn hs hkx (hy.none hE) a ha' hj) h
 ·show (s.take d' res').objs p.1 = _
  rw [yaD fun h=>hdis _ h (List.mem_map_of_mem hp)]
  exact hm.fresh.1 p hp
 ·refine St.ext' (fun t=>?_) fun i=>?_
  ·by_cases h1 : t = d
   ·subst h1; rw [yaB hne,ybF,ybF]
   ·by_cases h2 : t = d'
    ·subst h2; rw [ybF,yaB h1,ybF]
    ·rw [yaB h2,yaB h1,yaB h1,yaB h2]
  ·by_cases h1 : i ∈ (res.yar d).map (·.1)
   ·have h2 : i ∉ (res'.yar d').map (·.1):=fun h=>hdis i h h1
    rw [yaD h2]
    obtain ⟨p,hp,rfl⟩:=ykc h1
    rw [yer hm.fresh.2 hp,yer hm.fresh.2 hp]
   ·rw [yaD (s:=s.take d' res') h1]
    by_cases h2 : i ∈ (res'.yar d').map (·.1)
    ·obtain ⟨p,hp,rfl⟩:=ykc h2
     rw [yer hm'.fresh.2 hp,yer hm'.fresh.2 hp]
    ·rw [yaD h2,yaD h1,yaD h2]
theorem yuz (hs : Sound s) (hkx : x.op.xs.all X.kok = true) (ha : Apart x y) (h1 : TrN P x s s1) (h2 : TrM P y ly s1 s2) : ∃ s1',TrM P y ly s s1' ∧ TrN P x s1' s2:=by
 obtain ⟨d,res,f,xs,args,hm,rfl⟩:=h1
 obtain ⟨e,o,v,hd,h0,rfl,hb,hv,hxs,rfl,ag⟩:=h2
 have hne : d ≠ e:=fun h=>ha.ne d hm.dst (h ▸ hd)
 have hE : e ∉ (res.yar d).map (·.1):=by
  intro hc
  obtain ⟨p,hp,rfl⟩:=ykc hc
  rw [yer hm.fresh.2 hp] at h0
  exact (ykO p hp).2 h0
 rw [yaD hE] at h0
 have ey:=yaM (i:=y) (s:=s.take d res) (s2:=s) fun t ht=>(yaB fun (h : t = d)=>ha.xy d hm.dst (h ▸ ht)).symm
 have ex:=yaM (i:=x) (s:=s) (s2:=⟨upd e v s.env,upd e o s.objs⟩) fun t ht=>new_ne fun h=>ha.yx e hd (h ▸ ht)
 refine ⟨⟨upd e v s.env,upd e o s.objs⟩,⟨e,o,v,hd,h0,rfl,hb,hv,fun z hz=>by rw [ey z hz]; exact hxs z hz,rfl,fun s3 h3 h4 K hK=>ag s3 (fun z hz=>(h3 z hz).trans (ey z hz)) h4 K hK⟩,
  ⟨d,res,f,xs,args,hm.at ex (fun h=>?_) ⟨fun p hp=>?_,hm.fresh.2⟩,?_⟩⟩
 ·rw [← ybB] at h ⊢
  exact ya6 (E:=fun i=>i = e) (fun i hi=>yah hi) (fun i cells hi z hz j hj hc=>(hs e h0).2 i cells hi z hz (hc ▸ hj)) (fun a ha' j hj hc=>hm.ykn hs hkx h0 a ha' (hc ▸ hj)) h
 ·show (⟨upd e v s.env,upd e o s.objs⟩ : St).objs p.1 = _
  rw [yah fun (h : p.1 = e)=>hE (h ▸ List.mem_map_of_mem hp)]
  exact hm.fresh.1 p hp
 ·refine St.ext' (fun t=>?_) fun i=>?_
  ·by_cases h1 : t = e
   ·subst h1; rw [ycL,yaB (Ne.symm hne),ycL]
   ·rw [new_ne h1]
    by_cases h2 : t = d
    ·subst h2; rw [ybF,ybF]
    ·rw [yaB h2,yaB h2,new_ne h1]
  ·by_cases h1 : i = e
   ·subst h1; rw [ybu,yaD hE,ybu]
   ·rw [yah h1]
    exact yeo (yah h1).symm
theorem ytm (hs : Sound s) (hk : y.op.xs.all X.kok = true) (ha : Apart x y) (h1 : TrM P x lx s s1) (h2 : TrN P y s1 s2) : ∃ s1',TrN P y s s1' ∧ TrM P x lx s1' s2:=by
 obtain ⟨e,o,v,hd,h0,rfl,hb,hv,hxs,rfl,ag⟩:=h1
 obtain ⟨d,res,f,xs,args,hm,rfl⟩:=h2
 have hne : d ≠ e:=fun h=>ha.ne e hd (h ▸ hm.dst)
 have hE : e ∉ (res.yar d).map (·.1):=by
  intro hc
  have h3:=hm.none hc
  rw [ybu] at h3
  exact hb.2 h3
 have ey:=yaM (i:=y) (s:=⟨upd e v s.env,upd e o s.objs⟩) (s2:=s) fun t ht=>(new_ne fun (h : t = e)=>ha.xy e hd (h ▸ ht)).symm
 have ex:=yaM (i:=x) (s:=s) (s2:=s.take d res) fun t ht=>yaB fun (h : t = d)=>ha.yx d hm.dst (h ▸ ht)
 have hmap : xs.map (⟨upd e v s.env,upd e o s.objs⟩ : St).ev = xs.map s.ev:=List.map_congr_left fun z hz=>(ey z (by rw [hm.opr]; exact hz)).symm
 have hy : MakeP P y s d res f xs args:=hm.at ey (fun h=>by
  rw [← ybB] at h ⊢
  refine ya6 (E:=fun i=>i = e) (fun i hi=>(yah hi).symm) (fun i cells hi z hz j hj hc=>?_) (fun a ha' j hj hc=>?_) h
  ·subst hc
   by_cases h4 : i = j
   ·subst h4
    rw [ybu] at hi
    subst hi
    have h5:=yaQ hj
    rw [hb.1 z hz] at h5; cases h5
   ·rw [yah h4] at hi
    exact (hs j h0).2 i cells hi z hz hj
  ·subst hc
   rw [hmap] at ha'
   obtain ⟨z,hz,rfl⟩:=List.mem_map.1 ha'
   exact yd9 (hs j h0) (List.all_eq_true.1 hk z (by rw [hm.opr]; exact hz)) (ybE hj)) ⟨fun p hp=>by
   have h3:=hm.fresh.1 p hp
   have h4 : (⟨upd e v s.env,upd e o s.objs⟩ : St).objs p.1 = .none:=h3
   rwa [yah fun (h : p.1 = e)=>hE (h ▸ List.mem_map_of_mem hp)] at h4,hm.fresh.2⟩
 refine ⟨s.take d res,⟨d,res,f,xs,args,hy,rfl⟩,⟨e,o,v,hd,by rw [yaD hE]; exact h0,?_,hb,hv,fun z hz=>by rw [ex z hz]; exact hxs z hz,rfl,fun s3 h3 h4 K hK=>ag s3 (fun z hz=>(h3 z hz).trans (ex z hz)) h4 K hK⟩⟩
 refine St.ext' (fun t=>?_) fun i=>?_
 ·by_cases h1 : t = e
  ·subst h1; rw [yaB (Ne.symm hne),ycL,ycL]
  ·rw [new_ne h1]
   by_cases h2 : t = d
   ·subst h2; rw [ybF,ybF]
   ·rw [yaB h2,yaB h2,new_ne h1]
 ·by_cases h1 : i = e
  ·subst h1; rw [yaD hE,ybu,ybu]
  ·rw [yah h1]
   exact yeo (yah h1)
end
end Go.Proofs.Ytefegahoniahkaa
namespace Go.Proofs.Ytefegahoniahkaa
open Go.RowKit
def Tr (P : Program) (r : RIns) (lab : Lab) (s s' : St) : Prop :=
 match r.k with
 | 0=>TrQ P r.i lab s s' ∨ TrN P r.i s s'
 | 1=>TrM P r.i lab s s'
 | _=>TrE P r.i lab s s'
def yc6 (a b : Lab) : Bool:=(a.1.all fun i=>!b.1.contains i) && b.2
def Run (P : Program) (rs : List RIns) (lab : Nat → Lab) : List Nat → St → St → Prop
 | [],s,sf=>s = sf
 | j :: L,s,sf=>∃ r s1,rs[j]? = some r ∧ Tr P r (lab j) s s1 ∧ Run P rs lab L s1 sf
def ycF (chk : List Nat) (h : List (Nat × Lab)) (lab : Lab) : Bool:=chk.all fun i=>yc6 (look ([],true) h i) lab
def yaR (b : Bool) (n : Nat) (lab : Lab) (h : List (Nat × Lab)) : List (Nat × Lab):=if b then (n,lab) :: h else h
def ynW (P : Program) (i : Ins) (s : St) (K : Lab → St → Prop) : Prop:=∃ lab s',TrE P i lab s s' ∧ K lab s'
def wpE (P : Program) : Nat → List RIns → List (Nat × Lab) → St → (St → Prop) → Prop
 | _,[],_,s,K=>K s
 | n,r :: l,h,s,K =>
  match r.k with
  | 0=>(yd1 P r.i s.ev s.objs fun v=>ycF r.chk h (yb9 r.i s v) = true ∧ wpE P (n + 1) l (yaR r.note n (yb9 r.i s v) h) (s.put r.i.d v) K) ∨
      mkE P r.i s fun s'=>ycF r.chk h ([],true) = true ∧ wpE P (n + 1) l (yaR r.note n ([],true) h) s' K
  | 1=>ycF r.chk h (yoR r.i) = true ∧ ycx P r.i.d r.i.op s fun s'=>wpE P (n + 1) l (yaR r.note n (yoR r.i) h) s' K
  | _=>if r.i.op.yE then ynW P r.i s fun lab s'=>ycF r.chk h lab = true ∧ wpE P (n + 1) l (yaR r.note n lab h) s' K
   else ycF r.chk h (ykS r.i s) = true ∧ yA P r.i.d r.i.op s fun s'=>wpE P (n + 1) l (yaR r.note n (ykS r.i s) h) s' K
section
variable {P : Program} {g : Ghost} {N : Nat} {s : St} {a : Act} {w : World} {blk : Lay} {ops : Array Oper}
theorem ypn {op : IOp} (h : op.yqx = true) : op.yE = false:=by cases op <;> first | rfl | cases h
theorem yio {r : RIns} (h : r.ok = true) : r.i.op.xs.all X.kok = true ∧
 ((r.k = 0 ∧ r.i.op.reads.isSome = true) ∨ (r.k = 1 ∧ r.i.g = none ∧ r.i.op.isMk = true ∧ r.i.d.isSome = true) ∨ (r.k = 2 ∧ r.i.g = none ∧ (r.i.op.yE = true ∨ (r.i.op.yE = false ∧ r.i.op.ye6 = true)))):=by
 unfold RIns.ok at h
 rw [Bool.and_eq_true] at h
 refine ⟨h.2,?_⟩
 have h1:=h.1
 rw [Bool.or_eq_true] at h1
 rcases h1 with h1 | h1
 case inr =>
  simp only [Bool.and_eq_true,beq_iff_eq] at h1
  refine .inr (.inr ⟨h1.1.1,by simpa using h1.1.2,?_⟩)
  cases hc : r.i.op.yE with
  | true=>exact .inl rfl
  | false =>
   have h2:=h1.2
   rw [hc] at h2
   exact .inr ⟨rfl,by simp [IOp.ye6,show r.i.op.ynt = true by simpa using h2]⟩
 unfold Ins.kind at h1
 split at h1
 ·rename_i e
  simp only [beq_iff_eq,Option.some.injEq] at h1
  exact .inl ⟨h1.symm,e⟩
 ·split at h1
  ·rename_i e
   simp only [beq_iff_eq,Option.some.injEq] at h1
   simp only [Bool.and_eq_true] at e
   exact .inr (.inl ⟨h1.symm,by simpa using e.1.1,e.1.2,e.2⟩)
  ·split at h1
   ·rename_i e
    simp only [beq_iff_eq,Option.some.injEq] at h1
    simp only [Bool.and_eq_true] at e
    exact .inr (.inr ⟨h1.symm,by simpa using e.1,.inr ⟨ypn e.2,by simp [IOp.ye6,e.2]⟩⟩)
   ·simp at h1
theorem yjz {i : Ins} (h : i.op.reads.isSome = true) : ∃ l,i.reads = some l:=by
 obtain ⟨l,hl⟩:=Option.isSome_iff_exists.1 h
 unfold Ins.reads
 rw [hl]
 exact ⟨_,rfl⟩
theorem ysv (hN : g.N = N) (h : Repr g s a w blk) {o : Oper} {r : RIns} (hc : ybY P N ops o = some r.i) (hok : r.ok = true) {lab : Lab} {s' : St} (ht : Tr P r lab s s') :
 (Region.wanted o (yielded ops a.tmps) = true ∧ yt P g o a w (fun s2=>s2 = s')) ∨ (Region.wanted o (yielded ops a.tmps) = false ∧ Repr g s' (a.put o.dst undef) w blk):=by
 obtain ⟨hd0,op,hop,hid,hiop,hg⟩:=yhZ hc
 have hd : ∀ d,o.dst = some d → d < g.N:=by rw [hN]; exact hd0
 have noguard : r.i.g = none → yA P o.dst op s (fun s2=>s2 = s') → Region.wanted o (yielded ops a.tmps) = true ∧ yt P g o a w (fun s2=>s2 = s'):=by
  intro e hst
  rcases hg with ⟨e1,e2⟩ | ⟨j,want,t,e1,e2,htl,e3⟩
  ·exact ⟨by simp [Region.wanted,e1],step_ok h hd hop hst⟩
  ·rw [e] at e3; cases e3
 obtain ⟨hk,hkind⟩:=yio hok
 unfold Tr at ht
 rcases hkind with ⟨e,h1⟩ | ⟨e,h1,h2,h3⟩ | ⟨e,h1,h2⟩
 ·rw [e] at ht
  rcases ht with ht | ht
  ·obtain ⟨v,rfl,hv,_⟩:=ht
   obtain ⟨l,hl⟩:=yjz h1
   exact yiw hN h hc hl hv
  ·obtain ⟨d,res,f,xs,args,hm,rfl⟩:=ht
   refine .inl (noguard hm.gd ?_)
   rw [← hid,← hiop]
   exact hm.step rfl
 ·rw [e] at ht
  obtain ⟨q,ob,v,hdq,h0,rfl,_,_,_,_,ag⟩:=ht
  refine .inl (noguard h1 ?_)
  rw [← hid,← hiop]
  exact ym5 (ag s (fun _ _=>rfl) h0 _ rfl)
 ·rw [e] at ht
  obtain ⟨Kl,U,v,rfl,ok,_⟩:=ht
  refine .inl (noguard h1 ?_)
  rw [← hid,← hiop]
  exact ok.again s (fun _ _=>rfl) (fun _ _ _ _=>rfl) (fun _ _ h=>h) _ rfl
theorem ynJ (hN : g.N = N) (h : Repr g s a w blk) {o : Oper} {r : RIns} (hc : ybY P N ops o = some r.i) (hok : r.ok = true) {lab : Lab} {s' : St} (ht : Tr P r lab s s') : ∃ a' w' blk',Repr g s' a' w' blk':=by
 rcases ysv (ops:=ops) hN h hc hok ht with ⟨_,ho⟩ | ⟨_,ho⟩
 ·obtain ⟨s2,a',w',blk',e,hr⟩:=ho.some_
  rw [e] at hr
  exact ⟨a',w',blk',hr⟩
 ·exact ⟨_,_,_,ho⟩
structure RegInfo (P : Program) (N : Nat) (ops : Array Oper) (rs : List RIns) (anc : List Nat) : Prop where
 len : rs.length = ops.size
 ins : ∀ (j : Nat) (o : Oper),ops[j]? = some o → ∃ r,rs[j]? = some r ∧ ybY P N ops o = some r.i
 ok : ∀ (j : Nat) (r : RIns),rs[j]? = some r → r.ok = true
 back : ∀ (j : Nat) (o : Oper),ops[j]? = some o → ∀ e ∈ o.after,Region.binds .any e = true → e.on < j
 pair : ∀ (i j : Nat) (x y : RIns),i < j → rs[i]? = some x → rs[j]? = some y → (anc.getD j 0).testBit i = true ∨ ydp x y = some true ∨ (ydp x y = some false ∧ i ∈ y.chk ∧ x.note = true)
inductive Anc (ops : List Oper) (i : Nat) : Nat → Prop where
 | edge {j : Nat} {o : Oper} {e : Edge} : ops[j]? = some o → e ∈ o.after → Region.binds .any e = true → e.on = i → Anc ops i j
 | step {j : Nat} {o : Oper} {e : Edge} : ops[j]? = some o → e ∈ o.after → Region.binds .any e = true → Anc ops i e.on → Anc ops i j
theorem yiY (all : List Oper) : ∀ (l : List Oper) (acc : List Nat),all.drop acc.length = l → (∀ j i,(acc.getD j 0).testBit i = true → Anc all i j) → ∀ j i,((yn0 acc l).getD j 0).testBit i = true → Anc all i j
 | [],acc,_,h=>h
 | o :: l,acc,hd,h=>by
  have hlt : acc.length < all.length:=by
   rcases Nat.lt_or_ge acc.length all.length with h | h
   ·exact h
   ·rw [List.drop_eq_nil_of_le h] at hd; cases hd
  rw [List.drop_eq_getElem_cons hlt] at hd
  obtain ⟨ho,hl⟩:=List.cons.inj hd
  have ho' : all[acc.length]? = some o:=by rw [List.getElem?_eq_getElem hlt,ho]
  refine yiY all l _ (by simpa using hl) fun j i hb=>?_
  rcases Nat.lt_trichotomy j acc.length with e | e | e
  ·rw [List.getD,List.getElem?_append_left e] at hb
   exact h j i hb
  ·subst e
   rw [List.getD,List.getElem?_append_right (Nat.le_refl _)] at hb
   simp only [Nat.sub_self,List.getElem?_cons_zero,Option.getD_some] at hb
   have fold : ∀ (es : List Edge) (m : Nat),(∀ e,e ∈ es → e ∈ o.after) → (m.testBit i = true → Anc all i acc.length) → (es.foldl (fun m e=>if Region.binds .any e then m ||| (1 <<< e.on) ||| (acc.getD e.on 0) else m) m).testBit i = true → Anc all i acc.length:=by
    intro es
    induction es with
    | nil=>intro m _ hm hb; exact hm hb
    | cons e es ih =>
     intro m hes hm hb
     refine ih _ (fun e' he'=>hes e' (by simp [he'])) (fun hb'=>?_) hb
     dsimp only at hb'
     split at hb'
     ·rename_i hbd
      rw [Nat.testBit_or,Nat.testBit_or,Bool.or_eq_true,Bool.or_eq_true] at hb'
      rcases hb' with (hb' | hb') | hb'
      ·exact hm hb'
      ·rw [Nat.one_shiftLeft,Nat.testBit_two_pow] at hb'
       exact .edge ho' (hes e (by simp)) hbd (by simpa using hb')
      ·exact .step ho' (hes e (by simp)) hbd (h _ _ hb')
     ·exact hm hb'
   exact fold o.after.toList 0 (fun e he=>by simpa using he) (fun hb=>by simp at hb) hb
  ·rw [List.getD,List.getElem?_eq_none (by simp; omega)] at hb
   simp at hb
theorem ymR {listed : Array Bool} (hdown : ∀ (j : Nat) (o : Oper),ops[j]? = some o → listed.getD j true = true → ∀ e ∈ o.after,Region.binds .any e = true → listed.getD e.on false = true) (hsz : listed.size = ops.size) {i : Nat} :
 ∀ {j : Nat},Anc ops.toList i j → (∀ o,ops[j]? = some o → ∀ e ∈ o.after,Region.binds .any e = true → listed.getD e.on false = true) → listed.getD i false = true:=by
 intro j h
 induction h with
 | edge ho he hb hi =>
  intro hall
  have:=hall _ (by simpa using ho) _ he hb
  rwa [hi] at this
 | @step j o e ho he hb hanc ih =>
  intro hall
  have h1:=hall _ (by simpa using ho) _ he hb
  refine ih fun o' ho' e' he' hb'=>hdown _ o' ho' ?_ e' he' hb'
  rw [Array.getD_eq_getD_getElem?] at h1 ⊢
  cases hq : listed[e.on]? with
  | none=>rfl
  | some b=>rw [hq] at h1; exact h1
theorem yfg {x y : RIns} {b : Bool} (h : ydp x y = some b) : yiW x.i y.i = true:=by
 unfold ydp at h
 split at h
 ·assumption
 ·cases h
theorem yrI {a b : Lab} (h : yc6 a b = true) : (∀ j,j ∈ a.1 → j ∉ b.1) ∧ b.2 = true:=by
 unfold yc6 at h
 rw [Bool.and_eq_true] at h
 refine ⟨fun j hj hb=>?_,h.2⟩
 have:=List.all_eq_true.1 h.1 j hj
 simp at this
 exact this hb
theorem yq3 {x y : RIns} {lx ly : Lab} {s1 s2 : St} (hs : Sound s) (okx : x.ok = true) (oky : y.ok = true) (hsw : ydp x y = some true ∨ (ydp x y = some false ∧ yc6 lx ly = true)) (h1 : Tr P x lx s s1) (h2 : Tr P y ly s1 s2) : ∃ s1',Tr P y ly s s1' ∧ Tr P x lx s1' s2:=by
 have ha : Apart x.i y.i:=by
  rcases hsw with h | ⟨h,_⟩
  ·exact ylL (yfg h)
  ·exact ylL (yfg h)
 have hdis : ydp x y = some false → (∀ j,j ∈ lx.1 → j ∉ ly.1) ∧ ly.2 = true:=by
  intro e
  rcases hsw with h | ⟨_,h⟩
  ·rw [e] at h; cases h
  ·exact yrI h
 obtain ⟨kx,hkx⟩:=yio okx
 obtain ⟨ky,hky⟩:=yio oky
 have hap : yiW x.i y.i = true:=by rcases hsw with h | ⟨h,_⟩ <;> exact yfg h
 unfold Tr at h1 h2 ⊢
 rcases hkx with ⟨ex,hx1⟩ | ⟨ex,hx1,hx2,hx3⟩ | ⟨ex,hx1,hx2⟩ <;> rcases hky with ⟨ey,hy1⟩ | ⟨ey,hy1,hy2,hy3⟩ | ⟨ey,hy1,hy2⟩ <;> rw [ex] at h1 ⊢ <;> rw [ey] at h2 ⊢ <;> simp only at h1 h2 ⊢
 ·rcases h1 with h1 | h1 <;> rcases h2 with h2 | h2
  ·obtain ⟨s',a,b⟩:=ysT hy1 hx1 ha h1 h2; exact ⟨s',.inl a,.inl b⟩
  ·obtain ⟨s',a,b⟩:=ysK hs hx1 kx ha h1 h2; exact ⟨s',.inr a,.inl b⟩
  ·obtain ⟨s',a,b⟩:=ytV hs hy1 ky ha h1 h2; exact ⟨s',.inl a,.inr b⟩
  ·obtain ⟨s',a,b⟩:=ysS hs kx ky ha h1 h2; exact ⟨s',.inr a,.inr b⟩
 ·rcases h1 with h1 | h1
  ·obtain ⟨s',a,b⟩:=yuO hs hx1 kx ha h1 h2; exact ⟨s',a,.inl b⟩
  ·obtain ⟨s',a,b⟩:=yuz hs kx ha h1 h2; exact ⟨s',a,.inr b⟩
 ·unfold ydp at hsw hdis
  rw [if_pos hap,ex,ey] at hsw hdis
  simp only at hsw hdis
  by_cases hc : x.i.op.yE = true
  ·rw [if_pos hc] at hsw; simp at hsw
  ·rw [if_neg hc] at hsw hdis
   rcases h1 with h1 | ⟨d,res,f,xs,args,hm,_⟩
   ·obtain ⟨s',a,b⟩:=ytG hx1 (by simpa using hc) kx ha (hdis (by first | rfl | trivial)).1 h1 h2; exact ⟨s',a,.inl b⟩
   ·exact absurd hm.yE hc
 ·rcases h2 with h2 | h2
  ·obtain ⟨s',a,b⟩:=yts hs hy1 ky ha h1 h2; exact ⟨s',.inl a,b⟩
  ·obtain ⟨s',a,b⟩:=ytm hs ky ha h1 h2; exact ⟨s',.inr a,b⟩
 ·exact ysL ha h1 h2
 ·exact yua hs ky ha h1 h2
 ·unfold ydp at hsw hdis
  rw [if_pos hap,ex,ey] at hsw hdis
  simp only at hsw hdis
  by_cases hc : y.i.op.yE = true
  ·rw [if_pos hc] at hsw; simp at hsw
  ·rw [if_neg hc] at hsw hdis
   rcases h2 with h2 | ⟨d,res,f,xs,args,hm,_⟩
   ·obtain ⟨s',a,b⟩:=ytT hy1 (by simpa using hc) ha (hdis (by first | rfl | trivial)).1 (hdis (by first | rfl | trivial)).2 h1 h2; exact ⟨s',.inl a,b⟩
   ·exact absurd hm.yE hc
 ·unfold ydp at hsw hdis
  rw [if_pos hap,ex,ey] at hsw hdis
  simp only at hsw hdis
  exact yt1 hs kx ha (hdis (by first | rfl | trivial)).1 h1 h2
 ·unfold ydp at hsw
  rw [if_pos hap,ex,ey] at hsw
  simp at hsw
theorem bubble {anc : List Nat} {rs : List RIns} (hR : RegInfo P N ops rs anc) (hN : g.N = N) {lab : Nat → Lab} (hchk : ∀ (j : Nat) (r : RIns),rs[j]? = some r → ∀ i,i ∈ r.chk → yc6 (lab i) (lab j) = true) {j : Nat} {L2 : List Nat} {sf : St} :
 ∀ (L1 : List Nat) (s : St) (a : Act) (w : World) (blk : Lay),Repr g s a w blk → (∀ i,i ∈ L1 → i < j ∧ ¬ (anc.getD j 0).testBit i = true) → Run P rs lab (L1 ++ j :: L2) s sf → ∃ r s1,rs[j]? = some r ∧ Tr P r (lab j) s s1 ∧ Run P rs lab (L1 ++ L2) s1 sf:=by
 intro L1
 induction L1 with
 | nil=>intro s a w blk _ _ h; exact h
 | cons i L1 ih =>
  intro s a w blk hr hL h
  obtain ⟨x,s1,hx,ht,hrun⟩:=h
  have hi : ∃ o,ops[i]? = some o:=by
   have : i < ops.size:=by rw [← hR.len]; exact (List.getElem?_eq_some_iff.1 hx).1
   exact ⟨_,Array.getElem?_eq_getElem this⟩
  obtain ⟨o,ho⟩:=hi
  obtain ⟨x',hx',hcx⟩:=hR.ins i o ho
  rw [hx] at hx'; cases hx'
  obtain ⟨a1,w1,blk1,hr1⟩:=ynJ (ops:=ops) hN hr hcx (hR.ok i x hx) ht
  obtain ⟨y,s2,hy,hty,hrun2⟩:=ih s1 a1 w1 blk1 hr1 (fun q hq=>hL q (by simp [hq])) hrun
  obtain ⟨hij,hna⟩:=hL i (by simp)
  have hsw : ydp x y = some true ∨ (ydp x y = some false ∧ yc6 (lab i) (lab j) = true):=by
   rcases hR.pair i j x y hij hx hy with e | e | ⟨e,e1,_⟩
   ·exact absurd e hna
   ·exact .inl e
   ·exact .inr ⟨e,hchk j y hy i e1⟩
  obtain ⟨s1',h1,h2⟩:=yq3 hr.sound (hR.ok i x hx) (hR.ok j y hy) hsw ht hty
  exact ⟨y,s1',hy,h1,x,s2,hx,h2,hrun2⟩
theorem yog {b : Bool} {n i : Nat} {lab : Lab} {h : List (Nat × Lab)} : look ([],true) (yaR b n lab h) i = if b = true ∧ i = n then lab else look ([],true) h i:=by
 unfold yaR
 cases b
 ·simp
 ·rw [if_pos rfl,yfN]; simp
theorem trace {anc : List Nat} {rs : List RIns} (hR : RegInfo P N ops rs anc) (hnote : ∀ (j : Nat) (y : RIns),rs[j]? = some y → ∀ i,i ∈ y.chk → i < j ∧ ∃ x,rs[i]? = some x ∧ x.note = true) (hN : g.N = N) {K : St → Prop} :
 ∀ (m n : Nat) (h : List (Nat × Lab)) (s : St) (a : Act) (w : World) (blk : Lay) (lab0 : Nat → Lab),n + m = rs.length → (∀ i x,i < n → rs[i]? = some x → x.note = true → look ([],true) h i = lab0 i) → Repr g s a w blk → wpE P n (rs.drop n) h s K →
  ∃ lab sf,(∀ i,i < n → lab i = lab0 i) ∧ K sf ∧ Run P rs lab (List.range' n m) s sf ∧ ∀ (j : Nat) (r : RIns),n ≤ j → rs[j]? = some r → ∀ i,i ∈ r.chk → yc6 (lab i) (lab j) = true:=by
 intro m
 induction m with
 | zero =>
  intro n h s a w blk lab0 hnm _ _ hw
  rw [List.drop_eq_nil_of_le (by omega)] at hw
  refine ⟨lab0,s,fun _ _=>rfl,hw,rfl,fun j r hj hr=>?_⟩
  have:=(List.getElem?_eq_some_iff.1 hr).1
  omega
 | succ m ih =>
  intro n h s a w blk lab0 hnm hh hr hw
  have hlt : n < rs.length:=by omega
  have hrn:=List.getElem?_eq_getElem hlt
  rw [List.drop_eq_getElem_cons hlt] at hw
  revert hrn hw
  generalize rs[n] = r
  intro hw hrn
  have hi : ∃ o,ops[n]? = some o:=⟨_,Array.getElem?_eq_getElem (by rw [← hR.len]; exact hlt)⟩
  obtain ⟨o,ho⟩:=hi
  obtain ⟨r',hr',hcr⟩:=hR.ins n o ho
  rw [hrn] at hr'; cases hr'
  have hok:=hR.ok n r hrn
  have go : ∀ (s1 : St) (ln : Lab),Tr P r ln s s1 → ycF r.chk h ln = true → wpE P (n + 1) (rs.drop (n + 1)) (yaR r.note n ln h) s1 K → ∃ lab sf,(∀ i,i < n → lab i = lab0 i) ∧ K sf ∧ Run P rs lab (List.range' n (m + 1)) s sf ∧ ∀ (j : Nat) (r : RIns),n ≤ j → rs[j]? = some r → ∀ i,i ∈ r.chk → yc6 (lab i) (lab j) = true:=by
   intro s1 ln ht hc hw1
   obtain ⟨a1,w1,blk1,hr1⟩:=ynJ (ops:=ops) hN hr hcr hok ht
   have hnx : ∀ i x,i < n + 1 → rs[i]? = some x → x.note = true → look ([],true) (yaR r.note n ln h) i = if i = n then ln else lab0 i:=by
    intro i x hin hx hxn
    rw [yog]
    by_cases e : i = n
    ·subst e
     rw [hrn] at hx; cases hx
     simp [hxn]
    ·rw [if_neg (by simp [e]),if_neg e]
     exact hh i x (by omega) hx hxn
   obtain ⟨lab,sf,e1,e2,e3,e4⟩:=ih (n + 1) (yaR r.note n ln h) s1 a1 w1 blk1 (fun i=>if i = n then ln else lab0 i) (by omega) hnx hr1 hw1
   ·have hn : lab n = ln:=by rw [e1 n (by omega)]; simp
    refine ⟨lab,sf,fun i hin=>?_,e2,?_,fun j r2 hj hr2 i hi=>?_⟩
    ·rw [e1 i (by omega),if_neg (by omega)]
    ·rw [List.range'_succ]
     exact ⟨r,s1,hrn,by rw [hn]; exact ht,e3⟩
    ·rcases Nat.lt_or_ge n j with hj' | hj'
     ·exact e4 j r2 hj' hr2 i hi
     ·have : j = n:=by omega
      subst this
      rw [hrn] at hr2; cases hr2
      obtain ⟨hin,x,hx,hxn⟩:=hnote j r hrn i hi
      have:=List.all_eq_true.1 hc i hi
      rw [hh i x hin hx hxn] at this
      rw [hn,e1 i (by omega),if_neg (by omega)]
      exact this
  obtain ⟨hk,hkind⟩:=yio hok
  unfold wpE at hw
  rcases hkind with ⟨e,h1⟩ | ⟨e,h1,h2,h3⟩ | ⟨e,h1,h2⟩
  ·rw [e] at hw
   simp only at hw
   rcases hw with hw | hw
   ·obtain ⟨l,hl⟩:=yjz h1
    obtain ⟨v,⟨hc,hw1⟩,hall⟩:=ylW (P:=P) hr hl _ hw
    refine go _ _ ?_ hc hw1
    unfold Tr; rw [e]
    exact .inl ⟨v,rfl,hall,rfl⟩
   ·obtain ⟨d,res,f,xs,args,hm,hc,hw1⟩:=yq7 hw
    refine go _ _ ?_ hc hw1
    unfold Tr; rw [e]
    exact .inr ⟨d,res,f,xs,args,hm,rfl⟩
  ·rw [e] at hw
   simp only at hw
   obtain ⟨hc,hw⟩:=hw
   obtain ⟨q,ob,v,a1,a2,a3,a4,a5,a6,a7⟩:=yrD h2 hw
   refine go _ _ ?_ hc a3
   unfold Tr; rw [e]
   exact ⟨q,ob,v,a1,a2,rfl,a4,a5,a6,rfl,a7⟩
  ·rw [e] at hw
   simp only at hw
   rcases h2 with h2 | ⟨h0,h2⟩
   ·rw [if_pos h2] at hw
    obtain ⟨ln,s1,ht,hc,hw1⟩:=hw
    refine go s1 ln ?_ hc hw1
    unfold Tr; rw [e]; exact ht
   rw [if_neg (by simp [h0])] at hw
   obtain ⟨hc,hw⟩:=hw
   obtain ⟨Kl,U,v,a1,a2⟩:=yqm h2 hw
   refine go _ _ ?_ hc a1
   unfold Tr; rw [e]
   refine ⟨Kl,U,v,rfl,a2,fun j hj=>?_,rfl⟩
   rcases yq6 h2 hj with hj | hj
   ·exact .inl (yrv h2 j hj)
   ·exact .inr hj
theorem yk1 {p q : Nat → Bool} {n j : Nat} (hj : j < n) (hp : p j = true) (hq : q j = false) (hpq : ∀ i,i ≠ j → p i = q i) :
 ∃ L1 L2,(List.range n).filter p = L1 ++ j :: L2 ∧ (List.range n).filter q = L1 ++ L2 ∧ ∀ i,i ∈ L1 → i < j ∧ p i = true:=by
 have e : List.range n = List.range j ++ j :: (List.range n).drop (j + 1):=by
  conv=>lhs; rw [← List.take_append_drop j (List.range n)]
  rw [List.take_range,Nat.min_eq_left (by omega),List.drop_eq_getElem_cons (by simpa using hj)]
  simp
 refine ⟨(List.range j).filter p,((List.range n).drop (j + 1)).filter p,?_,?_,fun i hi=>?_⟩
 ·conv=>lhs; rw [e]
  rw [List.filter_append,List.filter_cons,hp]; rfl
 ·conv=>lhs; rw [e]
  rw [List.filter_append,List.filter_cons,hq]
  congr 1
  ·apply List.filter_congr
   intro i hi
   rw [hpq i (by have:=List.mem_range.1 hi; omega)]
  ·simp only [Bool.false_eq_true,if_false]
   apply List.filter_congr
   intro i hi
   refine (hpq i ?_).symm
   rintro rfl
   obtain ⟨k,hk⟩:=List.getElem?_of_mem hi
   rw [List.getElem?_drop,List.getElem?_range] at hk
   ·simp at hk
    omega
   ·have:=(List.getElem?_eq_some_iff.1 hk).1
    simp at this; omega
 ·rw [List.mem_filter] at hi
  exact ⟨List.mem_range.1 hi.1,hi.2⟩
theorem yqs {anc : List Nat} {rs : List RIns} (hR : RegInfo P N ops rs anc) (hanc : ∀ j i,(anc.getD j 0).testBit i = true → Anc ops.toList i j) (hN : g.N = N) {lab : Nat → Lab} (hchk : ∀ (j : Nat) (r : RIns),rs[j]? = some r → ∀ i,i ∈ r.chk → yc6 (lab i) (lab j) = true) {Q : Exit → Act → World → Prop} {sf : St}
 (hQ : ∀ a' w' blk',Repr g sf a' w' blk' → Q .normal a' w') :
 ∀ (fuel : Nat) (listed : Array Bool) (s : St) (a : Act) (w : World) (blk : Lay),listed.size = ops.size → (∀ (j : Nat) (o : Oper),ops[j]? = some o → listed.getD j true = true → ∀ e ∈ o.after,Region.binds .any e = true → listed.getD e.on false = true) →
  Repr g s a w blk → Run P rs lab ((List.range ops.size).filter fun j=>!listed.getD j true) s sf → ((List.range ops.size).filter fun j=>!listed.getD j true).length = fuel → wpAny P .any ops Q fuel listed a w:=by
 intro fuel
 have done : ∀ (listed : Array Bool) (s : St) (a : Act) (w : World) (blk : Lay),listed.size = ops.size → Repr g s a w blk → Run P rs lab ((List.range ops.size).filter fun j=>!listed.getD j true) s sf → Region.ready .any ops listed = [] → Q .normal a w:=by
  intro listed s a w blk hs hr hrun hnil
  have hall : ∀ j,j < ops.size → listed.getD j true = true:=by
   intro j
   induction j using Nat.strongRecOn with
   | _ j ih =>
    intro hj
    cases hl : listed.getD j true with
    | true=>rfl
    | false =>
     exfalso
     have : j ∈ Region.ready .any ops listed:=by
      unfold Region.ready
      rw [List.mem_filter]
      refine ⟨List.mem_range.2 hj,?_⟩
      rw [Array.getElem?_eq_getElem hj]
      simp only [hl,Option.map_some,Option.getD_some,Bool.not_false,Bool.true_and,Array.all_eq_true',Bool.or_eq_true,Bool.not_eq_true']
      intro e he
      cases hb : Region.binds .any e with
      | false=>exact .inl rfl
      | true =>
       have h1:=hR.back j _ (Array.getElem?_eq_getElem hj) e he hb
       have h2:=ih e.on h1 (by omega)
       refine .inr ?_
       rw [Array.getD_eq_getD_getElem?,Array.getElem?_eq_getElem (by omega)] at h2 ⊢
       exact h2
     rw [hnil] at this
     cases this
  have : (List.range ops.size).filter (fun j=>!listed.getD j true) = []:=by
   rw [List.filter_eq_nil_iff]
   intro j hj
   simp [hall j (List.mem_range.1 hj)]
  rw [this] at hrun
  have e : s = sf:=hrun
  exact hQ a w blk (e ▸ hr)
 induction fuel with
 | zero =>
  intro listed s a w blk hs hdown hr hrun hcount
  have hnil : Region.ready .any ops listed = []:=by
   rw [List.length_eq_zero_iff,List.filter_eq_nil_iff] at hcount
   unfold Region.ready
   rw [List.filter_eq_nil_iff]
   intro j hj
   have:=hcount j hj
   simp only [Bool.not_eq_true',Bool.not_eq_false] at this
   simp [this]
  exact ⟨hnil,done listed s a w blk hs hr hrun hnil⟩
 | succ fuel ih =>
  intro listed s a w blk hs hdown hr hrun hcount
  refine ⟨fun hnil=>done listed s a w blk hs hr hrun hnil,fun i hi=>?_⟩
  unfold Region.ready at hi
  rw [List.mem_filter] at hi
  obtain ⟨hi1,hi2⟩:=hi
  have hio:=List.mem_range.1 hi1
  have ho:=Array.getElem?_eq_getElem hio
  revert ho
  generalize ops[i] = o
  intro ho
  rw [ho] at hi2
  simp only [Option.map_some,Option.getD_some,Bool.and_eq_true,Bool.not_eq_true',Array.all_eq_true',Bool.or_eq_true] at hi2
  obtain ⟨hnl,haft⟩:=hi2
  have hpre : ∀ o',ops[i]? = some o' → ∀ e ∈ o'.after,Region.binds .any e = true → listed.getD e.on false = true:=by
   intro o' ho' e he hb
   rw [ho] at ho'; cases ho'
   rcases haft e he with h | h
   ·rw [hb] at h; cases h
   ·exact h
  have hnext2 : ∀ j,j ≠ i → (listed.setIfInBounds i true).getD j true = listed.getD j true:=by
   intro j e
   rw [Array.getD_eq_getD_getElem?,Array.getElem?_setIfInBounds,if_neg (Ne.symm e),← Array.getD_eq_getD_getElem?]
  have hset : (listed.setIfInBounds i true).getD i true = true:=by
   rw [Array.getD_eq_getD_getElem?,Array.getElem?_setIfInBounds,if_pos rfl]; simp [hs,hio]
  have hset2 : ∀ j,listed.getD j false = true → (listed.setIfInBounds i true).getD j false = true:=by
   intro j hj
   rw [Array.getD_eq_getD_getElem?,Array.getElem?_setIfInBounds]
   by_cases e : i = j
   ·subst e; simp [hs,hio]
   ·rw [if_neg e,← Array.getD_eq_getD_getElem?]; exact hj
  obtain ⟨L1,L2,e1,e2,e3⟩:=yk1 (p:=fun j=>!listed.getD j true) (q:=fun j=>!(listed.setIfInBounds i true).getD j true) hio (by simp [hnl]) (by simp [hset]) (fun j hj=>by simp only [hnext2 j hj])
  rw [e1] at hrun hcount
  obtain ⟨r,s1,hri,ht,hrun1⟩:=bubble hR hN hchk L1 s a w blk hr (fun q hq=>⟨(e3 q hq).1,fun hb=>by
   have h1:=ymR hdown hs (hanc i q hb) hpre
   have h2 : listed.getD q true = false:=by simpa using (e3 q hq).2
   rw [Array.getD_eq_getD_getElem?] at h1 h2
   cases hq' : listed[q]? with
   | none=>rw [hq'] at h1; cases h1
   | some b=>rw [hq'] at h1 h2; simp at h1 h2; rw [h1] at h2; cases h2⟩) hrun
  obtain ⟨r',hr',hcr⟩:=hR.ins i o ho
  rw [hri] at hr'; cases hr'
  have cont : ∀ a' w' blk',Repr g s1 a' w' blk' → wpAny P .any ops Q fuel (listed.setIfInBounds i true) a' w':=by
   intro a' w' blk' hr'
   refine ih (listed.setIfInBounds i true) s1 a' w' blk' (by simpa using hs) ?_ hr' (by rw [e2]; exact hrun1) ?_
   ·intro j o' hj hlj e he hb
    by_cases h1 : j = i
    ·subst h1; exact hset2 _ (hpre o' hj e he hb)
    ·rw [hnext2 j h1] at hlj
     exact hset2 _ (hdown j o' hj hlj e he hb)
   ·rw [e2]
    simp at hcount ⊢
    omega
  unfold wpOp
  rw [ho]
  rcases ysv (ops:=ops) hN hr hcr (hR.ok i r hri) ht with ⟨e,hok⟩ | ⟨e,hrr⟩
  ·simp only [e,if_true]
   exact .inl (hok.wp fun s' blk' a' w' hs' hr'=>cont a' w' blk' (by rw [hs'] at hr'; exact hr'))
  ·simp only [e]
   exact cont _ _ _ hrr
theorem ylT {f : Nat → Ins → RIns} : ∀ {l : List Ins} {n j : Nat} {i : Ins},l[j]? = some i → ∃ r,(ypH f n l)[j]? = some r ∧ r.i = i
 | [],_,_,_,h=>by simp at h
 | x :: l,n,j,i,h=>by
  cases j with
  | zero=>simp at h; subst h; exact ⟨_,rfl,rfl⟩
  | succ j=>exact ylT (l:=l) (n:=n + 1) (by simpa using h)
theorem yly {f : Nat → Ins → RIns} : ∀ {l : List Ins} {n : Nat},(ypH f n l).length = l.length
 | [],_=>rfl
 | x :: l,n=>by simp [ypH,yly]
theorem yiR (hN : g.N = N) {id : Nat} {rs : List RIns} {K : St → Prop} {Q : Exit → Act → World → Prop} {cf : List Nat} (hc : ynv cf P N ops = some rs) (h : Repr g s a w blk) (hw : wpE P 0 rs [] s K)
 (hQ : ∀ s' a' w' blk',K s' → Repr g s' a' w' blk' → Q .normal a' w') : (Code.region id ops true).wp P Q a w:=by
 unfold ynv at hc
 split at hc
 case h_2=>cases hc
 rename_i is hci
 simp only at hc
 split at hc
 case isFalse=>cases hc
 rename_i hif
 injection hc with hc
 simp only [Bool.and_eq_true] at hif
 obtain ⟨⟨⟨⟨hmix,hoks⟩,hback⟩,hpairs⟩,hnotes⟩:=hif
 rw [hc] at hoks hpairs hnotes
 obtain ⟨hlen,hget⟩:=ycu hci
 have hrl : rs.length = ops.size:=by rw [← hc]; simp [mkR,yly,hlen]
 have hR : RegInfo P N ops rs (yn0 [] ops.toList):=by
  refine ⟨hrl,fun j o ho=>?_,fun j r hr=>List.all_eq_true.1 hoks r (List.mem_of_getElem? hr),fun j o ho e he hb=>?_,fun i j x y hij hx hy=>?_⟩
  ·obtain ⟨i,hi,hci⟩:=hget j o (by rw [Array.getElem?_toList]; exact ho)
   obtain ⟨r,hr,hri⟩:=ylT (f:=_) (n:=0) hi
   exact ⟨r,by rw [← hc]; exact hr,by rw [hri]; exact hci⟩
  ·unfold ykw at hback
   have hj : j < ops.toList.length:=by simpa using (Array.getElem?_eq_some_iff.1 ho).1
   have:=List.all_eq_true.1 hback j (List.mem_range.2 hj)
   rw [Array.getElem?_toList,ho] at this
   simp only [Array.all_eq_true',Bool.or_eq_true,Bool.not_eq_true',decide_eq_true_eq] at this
   rcases this e he with h1 | h1
   ·rw [hb] at h1; cases h1
   ·exact h1
  ·unfold ynw at hpairs
   have:=List.all_eq_true.1 hpairs j (List.mem_range.2 (List.getElem?_eq_some_iff.1 hy).1)
   rw [hy] at this
   have:=List.all_eq_true.1 this i (List.mem_range.2 hij)
   rw [hx] at this
   simp only [Bool.or_eq_true] at this
   rcases this with h1 | h1
   ·exact .inl h1
   ·split at h1
    ·rename_i e; exact .inr (.inl e)
    ·rename_i e; simp only [Bool.and_eq_true,List.contains_eq_mem,decide_eq_true_eq] at h1; exact .inr (.inr ⟨e,h1⟩)
    ·cases h1
 have hnote : ∀ (j : Nat) (y : RIns),rs[j]? = some y → ∀ i,i ∈ y.chk → i < j ∧ ∃ x,rs[i]? = some x ∧ x.note = true:=by
  intro j y hy i hi
  unfold ynX at hnotes
  have:=List.all_eq_true.1 hnotes j (List.mem_range.2 (List.getElem?_eq_some_iff.1 hy).1)
  rw [hy] at this
  have:=List.all_eq_true.1 this i hi
  simp only [Bool.and_eq_true,decide_eq_true_eq] at this
  refine ⟨this.1,?_⟩
  have h2:=this.2
  split at h2
  ·exact ⟨_,‹_›,h2⟩
  ·cases h2
 have h1 : Repr g s a { w with drawn:=w.drawn + 1 } blk:=h.drew
 obtain ⟨lab,sf,_,hK,hrun,hchk⟩:=trace hR hnote hN rs.length 0 [] s a _ blk (fun _=>([],true)) (by omega) (fun i x hi=>absurd hi (by omega)) h1 hw
 refine wp_region_any hmix ?_
 have hlist : (List.range ops.size).filter (fun j=>!(Array.replicate ops.size false).getD j true) = List.range ops.size:=by
  rw [List.filter_eq_self]
  intro j hj
  have hlt:=List.mem_range.1 hj
  rw [Array.getD_eq_getD_getElem?]
  simp [hlt]
 refine yqs hR (yiY ops.toList ops.toList [] rfl (fun j i hb=>by simp at hb)) hN (fun j r hr=>hchk j r (by omega) hr) (fun a' w' blk' hr=>hQ _ a' w' blk' hK hr) ops.size (Array.replicate ops.size false) s a _ blk (by simp) ?_ h1 ?_ (by rw [hlist,List.length_range])
 ·intro j o hj hl
  exfalso
  have hlt : j < ops.size:=(Array.getElem?_eq_some_iff.1 hj).1
  rw [Array.getD_eq_getD_getElem?] at hl
  simp [hlt] at hl
 ·rw [hlist,List.range_eq_range',← hrl]
  exact hrun
end
end Go.Proofs.Ytefegahoniahkaa
namespace Go.Proofs.Ytefegahoniahkaa
open Go.RowKit
def lift (g : Ghost) (Q : Ex → St → Prop) : Exit → Act → World → Prop
 | .normal,a,w=>∃ s blk,Q .normal s ∧ Repr g s a w blk
 | .exit id,a,w=>∃ s blk,Q (.exit id) s ∧ Repr g s a w blk
 | .ret,a,w=>∃ s blk,Q .ret s ∧ Repr g s a w blk
 | _,_,_=>False
def yi1 (P : Program) (N : Nat) (c : SC) (s : St) (Q : Ex → St → Prop) : Prop :=
 ∀ g,g.N = N → ∀ fl code,ydA fl P N code = some c → ∀ a w blk,Repr g s a w blk → (Code.loop code).wp P (lift g Q) a w
def wpS (P : Program) (N : Nat) : SC → St → (Ex → St → Prop) → Prop
 | .skip,s,Q=>Q .normal s
 | .reg l,s,Q=>wpI P l s (Q .normal)
 | .regq l,s,Q=>wpQ P l s (Q .normal)
 | .rege l,s,Q=>wpE P 0 l [] s (Q .normal)
 | .seq a b,s,Q=>wpS P N a s (Ex.then (fun _ s'=>wpS P N b s' Q) Q)
 | .cond x a b,s,Q=>yf1 (s.ev x) (wpS P N a s Q) (wpS P N b s Q)
 | .block id c,s,Q=>wpS P N c s (Ex.inBlock id Q)
 | .loop c,s,Q=>yi1 P N c s Q
 | .exit id,s,Q=>Q (.exit id) s
 | .ret,s,Q=>Q .ret s
theorem yfY {P : Program} {g : Ghost} {N : Nat} {fl : Option (List Nat)} (hN : g.N = N) : ∀ {code : Code} {c : SC} {s : St} {Q : Ex → St → Prop} {a : Act} {w : World} {blk : Lay},
 ydA fl P N code = some c → wpS P N c s Q → Repr g s a w blk → code.wp P (lift g Q) a w:=by
 intro code
 induction code with
 | skip=>intro c s Q a w blk hc hw h; cases hc; exact wp_skip ⟨s,blk,hw,h⟩
 | region id ops draw =>
  intro c s Q a w blk hc hw h
  simp only [ydA] at hc
  split at hc
  ·rename_i hd
   subst hd
   split at hc
   ·split at hc
    ·rename_i l hl
     cases hc
     exact yiR hN hl h hw fun s' a' w' blk' k r=>⟨s',blk',k,r⟩
    ·simp only [Option.map_eq_some_iff] at hc
     obtain ⟨l,hl,rfl⟩:=hc
     exact yjd hN hl h hw fun s' a' w' blk' k r=>⟨s',blk',k,r⟩
   ·split at hc
    ·rename_i l hl
     cases hc
     exact yjd hN hl h hw fun s' a' w' blk' k r=>⟨s',blk',k,r⟩
    ·simp only [Option.map_eq_some_iff] at hc
     obtain ⟨l,hl,rfl⟩:=hc
     exact yiR hN hl h hw fun s' a' w' blk' k r=>⟨s',blk',k,r⟩
  ·rename_i hd
   simp only [Option.map_eq_some_iff] at hc
   obtain ⟨l,hl,rfl⟩:=hc
   have e : draw = false:=by simpa using hd
   subst e
   exact wp_region_list (yki hN hl h hw fun s' blk' a' w' k r=>⟨s',blk',k,r⟩)
 | seq x y ihx ihy =>
  intro c s Q a w blk hc hw h
  simp only [ydA] at hc
  split at hc
  ·rename_i cx cy h1 h2
   cases hc
   refine wp_seq (Code.wp_mono ?_ (ihx h1 hw h))
   intro e a' w' hl
   cases e with
   | normal=>obtain ⟨s',blk',k,r⟩:=hl; exact ihy h2 k r
   | exit id=>exact hl
   | ret=>exact hl
   | goto l=>exact hl
   | panic ch=>exact hl
   | outgrown=>exact hl
  ·cases hc
 | cond x t e iht ihe =>
  intro c s Q a w blk hc hw h
  simp only [ydA] at hc
  split at hc
  ·rename_i cx' ct ce h1 h2 h3
   cases hc
   simp only [wpS] at hw
   have hx:=h.ev h1
   unfold yf1 at hw
   split at hw
   ·rename_i v hv
    rw [hv] at hx
    refine wp_cond (t:=v) hx.bool ?_
    cases v
    ·exact ihe h3 (hw.2 rfl) h
    ·exact iht h2 (hw.1 rfl) h
   ·exact hw.elim
  ·cases hc
 | block id body ih =>
  intro c s Q a w blk hc hw h
  simp only [ydA,Option.map_eq_some_iff] at hc
  obtain ⟨cb,hb,rfl⟩:=hc
  refine wp_block (Code.wp_mono ?_ (ih hb hw h))
  intro e a' w' hl
  cases e with
  | normal=>exact hl
  | exit id' =>
   obtain ⟨s',blk',k,r⟩:=hl
   simp only [Exit.inBlock]
   simp only [Ex.inBlock] at k
   split
   ·rename_i e; rw [if_pos e] at k; exact ⟨s',blk',k,r⟩
   ·rename_i e; rw [if_neg e] at k; exact ⟨s',blk',k,r⟩
  | ret=>exact hl
  | goto l=>exact hl
  | panic ch=>exact hl
  | outgrown=>exact hl
 | loop body ih =>
  intro c s Q a w blk hc hw h
  simp only [ydA,Option.map_eq_some_iff] at hc
  obtain ⟨cb,hb,rfl⟩:=hc
  exact hw g hN fl body hb a w blk h
 | exit id=>intro c s Q a w blk hc hw h; cases hc; exact wp_exit ⟨s,blk,hw,h⟩
 | ret=>intro c s Q a w blk hc hw h; cases hc; exact wp_ret ⟨s,blk,hw,h⟩
 | rangeFunc f ps x y=>intro c s Q a w blk hc; cases hc
 | scope b=>intro c s Q a w blk hc; cases hc
 | label l=>intro c s Q a w blk hc; cases hc
 | goto l=>intro c s Q a w blk hc; cases hc
 | refuse wy=>intro c s Q a w blk hc; cases hc
def St.le (s s' : St) : Prop:=∀ (g : Ghost) (a : Act) (w : World) (blk : Lay),Repr g s a w blk → ∃ blk',Repr g s' a w blk'
theorem St.le_refl (s : St) : s.le s:=fun _ _ _ blk h=>⟨blk,h⟩
theorem yw {P : Program} {N : Nat} {c : SC} {s : St} {Q : Ex → St → Prop} {ι : Type} (I : ι → Prop) (S : ι → St) (μ : ι → Nat) (i0 : ι) (h0 : I i0) (hs : s.le (S i0))
 (round : ∀ i,I i → wpS P N c (S i) (Ex.then (fun _ s'=>∃ j,I j ∧ μ j < μ i ∧ s'.le (S j)) Q)) : yi1 P N c s Q:=by
 intro g hN fl code hc a w blk h b k cs
 have key : ∀ n i,μ i = n → I i → ∀ a w blk,Repr g (S i) a w blk →
  ∃ e a' w',lift g Q e a' w' ∧ Arrives P (lone (b.at a (.code code :: .inLoop code :: k)) cs w) b k cs e a' w':=by
  intro n
  induction n using Nat.strongRecOn with
  | _ n ih =>
   intro i hn hI a w blk h
   obtain ⟨e,a1,w1,hq,harr⟩:=yfY hN hc (round i hI) h b (.inLoop code :: k) cs
   cases e with
   | normal =>
    obtain ⟨s1,blk1,⟨j,hj,hlt,hle⟩,r1⟩:=hq
    obtain ⟨blk2,r2⟩:=hle g a1 w1 blk1 r1
    obtain ⟨e2,a2,w2,hq2,harr2⟩:=ih (μ j) (hn ▸ hlt) j rfl hj a1 w1 blk2 r2
    exact ⟨e2,a2,w2,hq2,.of_steps (Steps.trans harr (.one step_inLoop)) harr2⟩
   | exit id=>exact ⟨.exit id,a1,w1,hq,.pass (x:=.inLoop code) rfl (fun _ _=>.inl (by simp)) harr⟩
   | ret=>exact ⟨.ret,a1,w1,hq,.pass (x:=.inLoop code) rfl (fun _ _=>.inl (by simp)) harr⟩
   | goto l=>exact hq.elim
   | panic ch=>exact hq.elim
   | outgrown=>exact hq.elim
 obtain ⟨blk1,h1⟩:=hs g a w blk h
 obtain ⟨e,a',w',hq,harr⟩:=key _ i0 rfl h0 a w blk1 h1
 exact ⟨e,a',w',hq,.of_steps (.one step_loop) harr⟩
def AV.yJ (ids : List Nat) : AV → Bool
 | .box i _ | .row i _ _ _ | .own i _ _ | .cut i _ _ _=>ids.contains i
 | .sub _ _ _ _ _ _ | .ya4 _ _ _ _ _ _ _=>false
 | _=>true
def AV.yc (ids : List Nat) : AV → Bool
 | .agg l | .fn _ l=>l.all (AV.yJ ids)
 | .tup _=>false
 | x=>x.yJ ids
def Obj.yc (ids : List Nat) : Obj → Bool
 | .box l=>l.all (AV.yJ ids)
 | _=>true
def Obj.leO : Obj → Obj → Prop
 | .row k rows,.tr k' _ rows'=>k = k' ∧ rows = rows'
 | .tr k _ rows,.tr k' _ rows'=>k = k' ∧ rows = rows'
 | o,o'=>o = o'
theorem Obj.yjG {o o' : Obj} (h : o.leO o') : o'.yay = o.yay:=by
 unfold Obj.leO at h
 split at h
 ·obtain ⟨rfl,rfl⟩:=h; rfl
 ·obtain ⟨rfl,rfl⟩:=h; rfl
 ·rw [h]
theorem Obj.ykp {o o' : Obj} (h : o.leO o') : o = o' ∨ (∃ k rows v,o = .row k rows ∧ o' = .tr k v rows) ∨ (∃ k v v' rows,o = .tr k v rows ∧ o' = .tr k v' rows):=by
 cases o <;> cases o' <;> first
  | exact .inl h
  | (obtain ⟨rfl,rfl⟩:=h; exact .inr (.inl ⟨_,_,_,rfl,rfl⟩))
  | (obtain ⟨rfl,rfl⟩:=h; exact .inr (.inr ⟨_,_,_,_,rfl,rfl⟩))
theorem Obj.yrj {l : List AV} {o' : Obj} (h : (Obj.box l).leO o') : o' = .box l:=by
 rcases Obj.ykp h with h | ⟨_,_,_,h,_⟩ | ⟨_,_,_,_,h,_⟩
 ·exact h.symm
 ·cases h
 ·cases h
theorem Obj.yo9 {o o' : Obj} (h : o.leO o') (hn : o' ≠ .none) : o ≠ .none:=by
 unfold Obj.leO at h
 split at h
 ·simp
 ·simp
 ·rw [h]; exact hn
section
variable {g : Ghost} {s s' : St} {a : Act} {w : World} {blk : Nat → Option Nat}
theorem RV1.sub {G G' : Nat → Prop} {O O' : Nat → Obj} {ids : List Nat} {v : Value} {x : AV} (hG : ∀ b,G b → G' b) (hO : ∀ id,id ∈ ids → (O id).leO (O' id)) (h : RV1 w G O blk v x) (hr : x.yJ ids = true) : RV1 w G' O' blk v x:=by
 cases x with
 | any=>trivial
 | und=>exact h
 | c x=>exact Rd.mono h hG (fun _ _ _ h=>h)
 | nil k=>exact h
 | clip k rows=>obtain ⟨a,n,e,hr⟩:=h; exact ⟨a,n,e,hr.mono hG (fun _ _ _ h=>h)⟩
 | box id off =>
  obtain ⟨b,cells,ho,r⟩:=h
  have:=hO id (by simpa [AV.yJ] using hr)
  rw [ho] at this
  exact ⟨b,cells,Obj.yrj this,r⟩
 | row id k i off =>
  obtain ⟨b,m,ho,r⟩:=h
  exact ⟨b,m,by rw [Obj.yjG (hO id (by simpa [AV.yJ] using hr))]; exact ho,r⟩
 | elt cs =>
  obtain ⟨ad,e,hc⟩:=h
  exact ⟨ad,e,fun j c hj=>let ⟨hg,u,hu,hr⟩:=hc j c hj; ⟨hG _ hg,u,hu,hr.mono hG (fun _ _ _ h=>h)⟩⟩
 | own id k n =>
  obtain ⟨m,ho,r⟩:=h
  exact ⟨m,by rw [Obj.yjG (hO id (by simpa [AV.yJ] using hr))]; exact ho,r⟩
 | cut id k lo n =>
  obtain ⟨m,A,c,ho,r⟩:=h
  exact ⟨m,A,c,by rw [Obj.yjG (hO id (by simpa [AV.yJ] using hr))]; exact ho,r⟩
 | sub id ver i j k n=>simp [AV.yJ] at hr
 | ya4 id ver i j k i' off=>simp [AV.yJ] at hr
 | agg l=>exact h
 | tup l=>exact h
 | fn f l=>exact h
theorem RV.sub {G G' : Nat → Prop} {O O' : Nat → Obj} {ids : List Nat} {v : Value} {x : AV} (hG : ∀ b,G b → G' b) (hO : ∀ id,id ∈ ids → (O id).leO (O' id)) (h : RV w G O blk v x) (hr : x.yc ids = true) : RV w G' O' blk v x:=by
 cases x
 case tup l=>simp [AV.yc] at hr
 case agg l =>
  obtain ⟨arr,e,hs,hx⟩:=h
  refine ⟨arr,e,hs,fun j x hj=>?_⟩
  obtain ⟨u,hu,hru⟩:=hx j x hj
  exact ⟨u,hu,RV1.sub hG hO hru (List.all_eq_true.1 hr x (List.mem_of_getElem? hj))⟩
 case fn f l =>
  obtain ⟨arr,e,hs,hx⟩:=h
  refine ⟨arr,e,hs,fun j x hj=>?_⟩
  obtain ⟨u,hu,hru⟩:=hx j x hj
  exact ⟨u,hu,RV1.sub hG hO hru (List.all_eq_true.1 hr x (List.mem_of_getElem? hj))⟩
 all_goals (simp only [RV,RV2] at h ⊢; exact RV1.sub hG hO h (by simpa [AV.yc] using hr))
theorem yhU {α : Type} (d : α) (f : Nat → α) : ∀ (l : List (Nat × α)),(∀ p ∈ l,f p.1 = p.2) → ∀ t,look d l t = d ∨ (f t = look d l t ∧ (t,look d l t) ∈ l)
 | [],_,_=>.inl rfl
 | (k,v) :: l,h,t=>by
  rw [yfN]
  split
  ·rename_i e; subst e; exact .inr ⟨h (_,v) (by simp),by simp⟩
  ·rcases yhU d f l (fun p hp=>h p (by simp [hp])) t with e | ⟨e,hm⟩
   ·exact .inl e
   ·exact .inr ⟨e,by simp [hm]⟩
theorem yg1 {α : Type} (d : α) (f : Nat → α) (R : α → α → Prop) : ∀ (l : List (Nat × α)),(∀ p ∈ l,R (f p.1) p.2) → ∀ t,look d l t = d ∨ (R (f t) (look d l t) ∧ (t,look d l t) ∈ l)
 | [],_,_=>.inl rfl
 | (k,v) :: l,h,t=>by
  rw [yfN]
  split
  ·rename_i e; subst e; exact .inr ⟨h (_,v) (by simp),by simp⟩
  ·rcases yg1 d f R l (fun p hp=>h p (by simp [hp])) t with e | ⟨e,hm⟩
   ·exact .inl e
   ·exact .inr ⟨e,by simp [hm]⟩
def yaV (L : List (Nat × AV)) (O : List (Nat × Obj)) : St:=⟨look .any L,look .none O⟩
theorem yD {L : List (Nat × AV)} {OL : List (Nat × Obj)} (he : ∀ p ∈ L,s.env p.1 = p.2) (ho : ∀ p ∈ OL,(s.objs p.1).leO p.2)
 (hr : (L.all fun p=>p.2.yc (OL.map (·.1))) = true) (hro : (OL.all fun p=>p.2.yc (OL.map (·.1))) = true) : s.le (yaV L OL):=by
 intro g a w blk h
 have hO2 : ∀ id,look .none OL id = .none ∨ ((s.objs id).leO (look .none OL id) ∧ (id,look .none OL id) ∈ OL):=yg1 Obj.none s.objs Obj.leO OL ho
 have hO : ∀ id,id ∈ OL.map (·.1) → (s.objs id).leO (look .none OL id):=by
  intro id hid
  obtain ⟨p,hp,rfl⟩:=List.mem_map.1 hid
  have : ∀ (l : List (Nat × Obj)),(∀ p ∈ l,(s.objs p.1).leO p.2) → ∀ p ∈ l,(s.objs p.1).leO (look .none l p.1):=by
   intro l
   induction l with
   | nil=>intro _ p hp; cases hp
   | cons q l ih =>
    intro hl p hp
    obtain ⟨k,v⟩:=q
    rw [yfN]
    split
    ·rename_i e; rw [e]; exact hl (k,v) (by simp)
    ·rename_i e
     rcases List.mem_cons.1 hp with e2 | e2
     ·subst e2; exact absurd rfl e
     ·exact ih (fun p hp=>hl p (by simp [hp])) p e2
  exact this OL ho p hp
 have hlv : ∀ id,look .none OL id ≠ .none → s.objs id ≠ .none:=by
  intro id hid
  rcases hO2 id with e | ⟨e,_⟩
  ·exact absurd e hid
  ·exact Obj.yo9 e hid
 have hG : ∀ b,Good g s.objs blk w b → Good g (look .none OL) blk w b:=fun b hb=>⟨hb.1,fun id hid=>hb.2 id (hlv id hid)⟩
 refine ⟨blk,h.size,h.small,h.defers,h.below,h.g0,h.f0,h.g0f,fun t=>?_,fun id=>?_,fun i b hi hb=>h.new i b (hlv i hi) hb,fun i j b hi hj=>h.inj i j b (hlv i hi) (hlv j hj),fun i b hi=>h.apart i b (hlv i hi)⟩
 ·show RV w (Good g (look .none OL) blk w) (look .none OL) blk _ (look .any L t)
  rcases yhU AV.any s.env L he t with e | ⟨e,hm⟩
  ·rw [e]; trivial
  ·rw [← e]
   exact RV.sub hG hO (h.env t) (by rw [e]; exact List.all_eq_true.1 hr _ hm)
 ·show yaL w (Good g (look .none OL) blk w) (look .none OL) blk _ _ (look .none OL id)
  rcases hO2 id with e | ⟨e,hm⟩
  ·rw [e]; trivial
  ·have hob:=h.objs id
   have hrr:=List.all_eq_true.1 hro _ hm
   revert e hob hrr
   generalize look .none OL id = ob
   intro e hob hrr
   rcases Obj.ykp e with e | ⟨k,rows,v',heq,rfl⟩ | ⟨k,v,v',rows,heq,rfl⟩
   ·rw [e] at hob
    cases ob with
    | none=>trivial
    | box cells =>
     obtain ⟨q,arr,e,e1,e2,e3,e4⟩:=hob
     exact ⟨q,arr,e,e1,e2,e3,fun j x hx=>let ⟨u,hu,hru⟩:=e4 j x hx; ⟨u,hu,RV1.sub hG hO hru (List.all_eq_true.1 hrr x (List.mem_of_getElem? hx))⟩⟩
    | row k rows =>
     rcases hob with hob | ⟨q,arr,e,e1,e2,e3,e4,e5⟩
     ·exact .inl hob
     ·exact .inr ⟨q,arr,e,e1,e2,e3,e4,fun i r j c hr hc=>let ⟨u,hu,hru⟩:=e5 i r j c hr hc; ⟨u,hu,hru.mono hG (fun _ _ _ h=>h)⟩⟩
    | tr k v rows =>
     rcases hob with hob | ⟨q,arr,e,e1,e2,e3,e4,e5⟩
     ·exact .inl hob
     ·exact .inr ⟨q,arr,e,e1,e2,e3,e4,e5.mono hG (fun _ _ _ h=>h) (fun _ h=>h) (fun _ _=>rfl)⟩
   ·rw [heq] at hob
    rcases hob with hob | ⟨q,arr,e,e1,e2,e3,e4,e5⟩
    ·exact .inl hob
    ·refine .inr ⟨q,arr,e,e1,e2,e3,e4,fun i j=>(arr[i * k + j]?).getD undef,fun _ _=>noF,fun _ _ _ h=>h.elim,fun _ _ _ _ _ h=>h.elim,fun i r hr j c hc=>?_,fun i r hr j c hc=>?_⟩
     ·obtain ⟨u,hu,_⟩:=e5 i r j c hr hc
      dsimp only; rw [hu]; rfl
     ·obtain ⟨u,hu,hru⟩:=e5 i r j c hr hc
      dsimp only; rw [hu]
      exact .sh (hru.mono hG (fun _ _ _ h=>h))
   ·rw [heq] at hob
    rcases hob with hob | ⟨q,arr,e,e1,e2,e3,e4,e5⟩
    ·exact .inl hob
    ·exact .inr ⟨q,arr,e,e1,e2,e3,e4,e5.mono hG (fun _ _ _ h=>h) (fun _ h=>h) (fun _ _=>rfl)⟩
end
theorem ymL {P : Program} {N : Nat} {c : SC} {s : St} {Q : Ex → St → Prop} (fl : Bool) (t k : Nat) {k0 : Nat} (ht : t < ybx) (h1 : s.env t = .nil k0) (h2 : (s.ob t).isNone = true) (h : yi1 P N c ⟨upd t (.own t k 0) s.env,upd t (mkO fl k []) s.objs⟩ Q) : yi1 P N c s Q:=by
 intro g hN fl2 code hc a w blk hr
 refine h g hN fl2 code hc a w _ (?_ : Repr g _ a w (blk.upd t none noF))
 have hv:=hr.virt (d:=t) (k:=k) fl (ybH h2)
 refine ⟨hv.size,hv.small,hv.defers,hv.below,hv.g0,hv.f0,hv.g0f,fun t'=>?_,hv.objs,hv.new,hv.inj,hv.apart⟩
 show RV _ _ _ _ _ (upd t (.own t k 0) s.env t')
 rw [yN]
 split
 ·rename_i e
  subst e
  have:=hr.env t'
  rw [h1] at this
  exact ⟨0,by simp [upd,yiB],Nat.le_refl _,.inl ⟨by show (blk.upd _ _ _).root t' = _; rw [Lay.yU,if_pos rfl],rfl,none,this⟩⟩
 ·exact hv.env t'
theorem yhz {P : Program} {N : Nat} {c : SC} {s : St} {Q : Ex → St → Prop} (t k : Nat) {k0 : Nat} (h1 : s.env t = .nil k0) (h2 : (s.ob t).isNone = true) (ht : t < ybx) (h : yi1 P N c ⟨upd t (.own t k 0) s.env,upd t (.row k []) s.objs⟩ Q) : yi1 P N c s Q :=
 ymL true t k ht h1 h2 h
end Go.Proofs.Ytefegahoniahkaa
namespace Go.Proofs.Ytefegahoniahkaa
open Go.RowKit
inductive RS where
 | t (n : Nat)
 | cl (n k : Nat)
 | c1 (n : Nat)
def yew (P : Program) : ResultVar → Option RS
 | .tmp t=>if t < ybx then some (.t t) else none
 | .cell t ty=>if t < ybx then match yi5 P ty,ycq P ty with
  | some true,some k=>some (.cl t k)
  | some false,some _=>some (.c1 t)
  | _,_=>none
  else none
def ycz (P : Program) : List ResultVar → Option (List RS)
 | []=>some []
 | r :: l=>match yew P r,ycz P l with
  | some x,some xs=>some (x :: xs)
  | _,_=>none
def ydc (s : St) (r : RS) (y : AV) : Prop :=
 match r with
 | .t n=>ybi s (s.env n) y
 | .cl n k=>match s.env n with
  | .box id 0=>match s.ob id with
   | .box cells=>cells.length = k ∧ ybi s (.agg cells) y
   | _=>False
  | _=>False
 | .c1 n=>match s.env n with
  | .box id 0=>match s.ob id with
   | .box [x]=>ybi s x y
   | _=>False
  | _=>False
def yfI (s : St) : List RS → List AV → Prop
 | [],[]=>True
 | r :: l,y :: l'=>ydc s r y ∧ yfI s l l'
 | _,_=>False
def ydZ (s : St) (rs : List RS) (res : AV) : Prop :=
 match rs with
 | [r]=>ydc s r res
 | rs=>∃ ys,res = .tup ys ∧ yfI s rs ys
def yhv (args : List AV) : St:=⟨fun t=>(args[t]?).getD .any,fun _=>.none⟩
structure Has (P : Program) (f N : Nat) (c : SC) (rs : List RS) : Prop where
 small : N ≤ ybx
 ok : ∃ fn code,P.funcs[f]? = some fn ∧ fn.body = some code ∧ fn.ntmps = N ∧ (∃ fl,ydA fl P N code = some c) ∧ ycz P fn.results.toList = some rs
section
variable {P : Program} {g : Ghost} {s : St} {a : Act} {w : World} {blk : Lay}
theorem yga {t : TypeId} (ht : yi5 P t = some false) {ad : Addr} {u : Value} (hu : w.cell? ad = some u) : (loadVar t ad).run P w = .ok u w:=by
 have:=yhh ht hu
 simpa [Instr.loadAt,Instr.sureAddr] using this
theorem ygi {t : TypeId} {n : Nat} (ht : yi5 P t = some true) (hn : ycq P t = some n) {ad : Addr} {us : List Value} (hl : us.length = n) (hu : ∀ j u,us[j]? = some u → w.cell? (ad.add j) = some u) :
 (loadVar t ad).run P w = .ok (.agg us.toArray) w:=by
 have:=yg9 ht hn hl hu
 simpa [Instr.loadAt,Instr.sureAddr] using this
def ydW (tmps : Array Value) : ResultVar → Sem Value
 | .tmp t=>pure (tmps.getD t undef)
 | .cell a t=>do loadVar t (← asAddr (tmps.getD a undef))
theorem yoC (h : Repr g s a w blk) {r : ResultVar} {q : RS} {y : AV} (hq : yew P r = some q) (hy : ydc s q y) : ∃ v,(ydW a.tmps r).run P w = .ok v w ∧ RV2 w (All g w) noO noB v y:=by
 cases r with
 | tmp t =>
  simp only [yew] at hq
  split at hq
  ·rename_i hlt
   cases hq
   exact ⟨_,rfl,ygP h (fun _ h=>h) (h.at_ hlt) hy⟩
  ·cases hq
 | cell t ty =>
  simp only [yew] at hq
  split at hq
  case isFalse=>cases hq
  rename_i hlt
  have hen:=h.at_ hlt
  split at hq
  ·rename_i k h1 h2
   cases hq
   simp only [ydc] at hy
   split at hy
   ·rename_i id hid
    rw [hid] at hen
    obtain ⟨b,cells',hO',hb,e1⟩:=hen
    split at hy
    ·rename_i cells hO
     obtain ⟨hk,hy⟩:=hy
     obtain ⟨arr,e,b1,b2,b3⟩:=h.box hO hb
     have hr:=ygi (P:=P) (w:=w) h1 h2 (ad:=⟨b,0,none⟩) (us:=arr.toList) (by simp; omega) (fun j u hu=>by rw [add_lit,Nat.zero_add,cell_of w b1]; simpa using hu)
     refine ⟨.agg arr,?_,ygP h (fun _ h=>h) (x:=.agg cells) ⟨arr,rfl,b2,b3⟩ hy⟩
     simp [ydW,e1,asAddr,hr]
    ·exact hy.elim
   ·exact hy.elim
  ·rename_i k h1 h2
   cases hq
   simp only [ydc] at hy
   split at hy
   ·rename_i id hid
    rw [hid] at hen
    obtain ⟨b,cells',hO',hb,e1⟩:=hen
    split at hy
    ·rename_i x hO
     obtain ⟨arr,e,b1,b2,b3⟩:=h.box hO hb
     obtain ⟨u,hu,hru⟩:=b3 0 x rfl
     have hr:=yga (P:=P) (w:=w) h1 (ad:=⟨b,0,none⟩) (u:=u) (by rw [cell_of w b1]; exact hu)
     refine ⟨u,?_,ygP h (fun _ h=>h) (.of1 hru) hy⟩
     simp [ydW,e1,asAddr,hr]
    ·exact hy.elim
   ·exact hy.elim
  ·cases hq
theorem yhL (h : Repr g s a w blk) : ∀ {l : List ResultVar} {rs : List RS} {ys : List AV},ycz P l = some rs → yfI s rs ys →
 ∃ vs : List Value,(l.mapM (ydW a.tmps)).run P w = .ok vs w ∧ vs.length = ys.length ∧ vs.length = rs.length ∧ ∀ (j : Nat) (y : AV),ys[j]? = some y → ∃ u,vs[j]? = some u ∧ RV2 w (All g w) noO noB u y
 | [],rs,ys,hc,hy=>by
  cases hc
  cases ys with
  | nil=>exact ⟨[],by simp,rfl,rfl,fun j y hj=>by simp at hj⟩
  | cons y ys=>exact hy.elim
 | r :: l,rs,ys,hc,hy=>by
  simp only [ycz] at hc
  split at hc
  ·rename_i q qs h1 h2
   cases hc
   cases ys with
   | nil=>exact hy.elim
   | cons y ys =>
    obtain ⟨v,hv,hr⟩:=yoC h h1 hy.1
    obtain ⟨vs,e1,e2,e3,e4⟩:=yhL h h2 hy.2
    refine ⟨v :: vs,by simp [List.mapM_cons,hv,e1],by simp [e2],by simp [e3],fun j z hj=>?_⟩
    cases j with
    | zero=>simp at hj; subst hj; exact ⟨v,rfl,hr⟩
    | succ j=>exact e4 j z (by simpa using hj)
  ·cases hc
theorem ydx {fn : Func} {tmps : Array Value} {vs : List Value} (h : (fn.results.toList.mapM (ydW tmps)).run P w = .ok vs w) :
 (results fn tmps).run P w = .ok (if h : vs.toArray.size = 1 then vs.toArray[0] else .tuple vs.toArray) w:=by
 have e : (results fn tmps) = (do let vs ← fn.results.mapM (ydW tmps); pure (if h : vs.size = 1 then vs[0] else .tuple vs)):=by
  unfold results
  congr 1
 rw [e,Array.mapM_eq_mapM_toList]
 simp [h]
theorem ynZ (h : Repr g s a w blk) {fn : Func} {rs : List RS} {res : AV} (hc : ycz P fn.results.toList = some rs) (hy : ydZ s rs res) : ∃ v,(results fn a.tmps).run P w = .ok v w ∧ RV w (All g w) noO noB v res:=by
 have one : ∀ r,rs = [r] → ydc s r res → ∃ v,(results fn a.tmps).run P w = .ok v w ∧ RV w (All g w) noO noB v res:=by
  intro r e hr
  subst e
  obtain ⟨vs,e1,e2,e3,e4⟩:=yhL h (ys:=[res]) hc ⟨hr,trivial⟩
  obtain ⟨u,hu,hru⟩:=e4 0 res rfl
  match vs,e3,hu with
  | [u'],_,hu =>
   simp at hu; subst hu
   exact ⟨_,ydx e1,yfH (by simpa using hru)⟩
 unfold ydZ at hy
 split at hy
 ·exact one _ rfl hy
 ·rename_i hne
  obtain ⟨ys,rfl,hy⟩:=hy
  obtain ⟨vs,e1,e2,e3,e4⟩:=yhL h hc hy
  have hl : vs.toArray.size ≠ 1:=by
   intro e
   have : rs.length = 1:=by rw [← e3]; simpa using e
   match rs,this,hne with
   | [r],_,hne=>exact hne r rfl
  refine ⟨_,ydx e1,?_⟩
  rw [dif_neg hl]
  exact ⟨vs.toArray,rfl,by simpa using e2,fun j y hj=>by obtain ⟨u,hu,hr⟩:=e4 j y hj; exact ⟨u,by simpa using hu,hr⟩⟩
end
theorem yqR {w : World} {G : Nat → Prop} {O : Nat → Obj} {blk : Nat → Option Nat} {v : Value} {x : AV} (h : RV w G O blk v x) : x.wf:=by
 have one : ∀ {v : Value} {x : AV},RV1 w G O blk v x → x.wf1:=by
  intro v x h
  cases x with
  | elt cs =>
   obtain ⟨ad,_,hc⟩:=h
   intro z hz
   obtain ⟨j,hj⟩:=List.getElem?_of_mem hz
   obtain ⟨_,u,_,hr⟩:=hc j z hj
   exact hr.wf
  | c x=>exact Rd.wf h
  | _=>exact trivial
 cases x
 case agg l =>
  obtain ⟨arr,e,hs,hl⟩:=h
  intro y hy
  obtain ⟨j,hj⟩:=List.getElem?_of_mem hy
  obtain ⟨u,_,hr⟩:=hl j y hj
  exact one hr
 case fn f l =>
  obtain ⟨arr,e,hs,hl⟩:=h
  intro y hy
  obtain ⟨j,hj⟩:=List.getElem?_of_mem hy
  obtain ⟨u,_,hr⟩:=hl j y hj
  exact one hr
 case tup l=>trivial
 all_goals (simp only [RV,RV2] at h; exact one h)
theorem yfO : ∀ (l : List AV),(∀ x,x ∈ l → x.wf) → ye5 l
 | [],_=>trivial
 | x :: l,h=>⟨h x (by simp),yfO l fun y hy=>h y (by simp [hy])⟩
theorem yqL {w : World} {G G' : Nat → Prop} {v : Value} {x : AV} (hG : ∀ b,G b → G' b) (h : RV w G noO noB v x) : RV w G' noO noB v x:=ygS (O:=noO) (bl:=noB) hG h
theorem yuF {w w' : World} {G : Nat → Prop} {N : Nat} {vs : Array Value} {v : Value} {x : AV} (h : RV w' (All ⟨w,G,noF,N,vs⟩ w') noO noB v x) : RV w' (fun b=>G b ∨ (w.heap.size ≤ b ∧ b < w'.heap.size)) noO noB v x :=
 yqL (fun b hb=>by
  rcases hb with (hb | hb) | hb
  ·exact .inl hb
  ·exact hb.elim
  ·exact .inr hb) h
theorem yF {P : Program} {f N : Nat} {c : SC} {rs : List RS} {args : List AV} {res : AV} (hf : Has P f N c rs) (hN : args.length ≤ N)
 (H : ye5 args → wpS P N c (yhv args) (fun e s=>match e with | .exit _=>False | _=>ydZ s rs res)) : yR P f args res:=by
 obtain ⟨fn,code,h1,h2,h3,⟨fl,h4⟩,h5⟩:=hf.ok
 intro w G hG vs hvs hv
 have hwf : ye5 args:=yfO args fun x hx=>by
  obtain ⟨j,hj⟩:=List.getElem?_of_mem hx
  obtain ⟨u,_,hr⟩:=hv j x hj
  exact yqR hr
 refine calls_of_wp h1 h2 ?_
 let g : Ghost:=⟨w,G,noF,N,#[]⟩
 let L0 : Lay:=⟨noB,fun _=>noF⟩
 have hgood : ∀ b,G b → Good g noO L0 w b:=fun b hb=>⟨.inl hb,fun id hid=>absurd rfl hid⟩
 have hinit : Repr g (yhv args) { tmps:=vs ++ Array.replicate (fn.ntmps - vs.size) undef,defers:=[] } w L0:=by
  refine ⟨by simp [g]; omega,hf.small,rfl,Off.refl _ _,hG,fun b hb=>hb.elim,fun b hb h=>h.elim,fun t=>?_,fun id=>trivial,fun id b hid=>absurd rfl hid,fun i j b hi=>absurd rfl hi,fun i b hi=>absurd rfl hi⟩
  show RV _ _ _ _ _ ((args[t]?).getD .any)
  cases ht : args[t]? with
  | none=>trivial
  | some x =>
   obtain ⟨u,hu,hr⟩:=hv t x ht
   have hlt : t < vs.size:=(Array.getElem?_eq_some_iff.1 hu).1
   have hsm:=hf.small
   have : g.val { tmps:=vs ++ Array.replicate (fn.ntmps - vs.size) undef,defers:=[] } t = u:=by
    unfold Ghost.val
    rw [if_pos (by omega),Array.getD_eq_getD_getElem?,Array.getElem?_append_left hlt,hu]; rfl
   rw [this]
   exact ygS (O:=noO) hgood hr
 refine Code.wp_mono ?_ (yfY (g:=g) rfl h4 (H hwf) hinit)
 intro e a' w' hl
 have fin : ∀ s blk,ydZ s rs res → Repr g s a' w' blk → a'.defers = [] ∧ ∃ v,(results fn a'.tmps).run P w' = .ok v w' ∧ (∃ v',Ending.returned v = .returned v' ∧ Below w.heap.size w w' ∧ RV w' (fun b=>G b ∨ (w.heap.size ≤ b ∧ b < w'.heap.size)) noO noB v' res):=by
  intro s blk hr h
  obtain ⟨v,e1,e2⟩:=ynZ h h5 hr
  exact ⟨h.defers,v,e1,v,rfl,Off.below h.below,yuF e2⟩
 cases e with
 | normal=>obtain ⟨s,blk,hr,h⟩:=hl; exact fin s blk hr h
 | exit id=>obtain ⟨s,blk,hr,h⟩:=hl; exact hr.elim
 | ret=>obtain ⟨s,blk,hr,h⟩:=hl; exact fin s blk hr h
 | goto l=>exact hl.elim
 | panic ch=>exact hl.elim
 | outgrown=>exact hl.elim
end Go.Proofs.Ytefegahoniahkaa
