/- What the law FnExactSailAll stands on: the machine, in short form (names, layout). -/
import Derived.Test.YtjojilkdkgmbgaaGreatSExactSailAllA7
set_option linter.all false
namespace Go.Proofs.YtjojilkdkgmbgaaGreat
open Go.RowKit
theorem yRO {w : World} {G F : Nat → Prop} {v : Value} {cs : List C} (h : OT w G v (.bx cs) F) :
 ∃ (b0 : Nat) (arr : Array Value) (e : TypeId) (Fs : Nat → Nat → Prop),v = .pointer (some ⟨b0,0,none⟩) ∧ w.heap[b0]? = some (.cells arr e (0,0)) ∧ arr.size = cs.length ∧ F b0 ∧ (∀ j x,Fs j x → F x ∧ x ≠ b0) ∧ (∀ j j' x,Fs j x → Fs j' x → j = j') ∧
  ∀ (j : Nat) (c : C),cs[j]? = some c → ∃ u,arr[j]? = some u ∧ OT w G u c (Fs j):=by
 cases h with
 | sh h=>cases h
 | @bx b0 cells arr e F0 vals Fs h1 h2 h3 h4 h5 h6 h7=>exact ⟨b0,arr,e,Fs,rfl,h1,h2,h3,h4,h5,fun j c hj=>⟨_,h6 j c hj,h7 j c hj⟩⟩
theorem yRD {s : St} {x : AV} {c : C} {l : List Nat} (h : pk1 s x = some (c,l)) : ∀ i,i ∈ l → (s.objs i).ybP ≠ none:=by
 intro i hi
 unfold pk1 at h
 split at h
 ·split at h
  ·cases h; cases hi
  ·cases h
 ·cases h; cases hi
 ·cases h; cases hi
 ·split at h
  ·rename_i ho
   split at h
   ·cases h
    rw [List.mem_singleton] at hi; subst hi
    rw [show s.objs i = _ from ho]; simp [Obj.ybP]
   ·cases h
  ·rename_i ho
   split at h
   ·cases h
    rw [List.mem_singleton] at hi; subst hi
    rw [show s.objs i = _ from ho]; simp [Obj.ybP]
   ·cases h
  ·cases h
 ·cases h
theorem yQD {s : St} : ∀ {l : List AV} {cs : List C} {ids : List Nat},pkl s l = some (cs,ids) → ∀ i,i ∈ ids → (s.objs i).ybP ≠ none
 | [],cs,ids,h,i,hi=>by cases h; cases hi
 | x :: l,cs,ids,h,i,hi=>by
  simp only [pkl] at h
  split at h
  ·rename_i c a cs' as h1 h2
   cases h
   rcases List.mem_append.1 hi with hi | hi
   ·exact yRD h1 i hi
   ·exact yQD h2 i hi
  ·cases h
def St.yQm (s : St) (ids : List Nat) (id d0 : Nat) (cs' : List C) : St:=⟨(s.drops ids).env,yaL (upd id (.box (yjP d0 0 cs')) (s.drops ids).objs) (ydw d0 0 cs')⟩
section
variable {g : Ghost} {s : St} {a : Act} {w : World} {L : Lay}
theorem Repr.yQm (h : Repr g s a w L) {w' : World} {F' : Nat → Prop} {id d0 b0 : Nat} {ids : List Nat} {xs : List AV} {cs' : List C} (hO : s.ob id = .box xs) (hb0 : L.root id = some b0) (hni : id ∉ ids)
 {X : Nat → Prop} (hX1 : ∀ b,X b → b = b0 ∨ ∃ i,i ∈ ids ∧ s.objs i ≠ .none ∧ L.fp i b)
 (hoff : Off X w w') (hF' : ∀ b,F' b → X b ∨ (w.heap.size ≤ b ∧ b < w'.heap.size))
 (hot : OT w' (fun b=>((Good g s.objs L w b ∨ X b) ∨ (w.heap.size ≤ b ∧ b < w'.heap.size)) ∧ ¬ F' b) (.pointer (some ⟨b0,0,none⟩)) (.bx cs') F') (hfr : yU (s.drops ids) (ydw d0 0 cs')) :
 ∃ L' : Lay,Repr g (s.yQm ids id d0 cs') a w' L':=by
 obtain ⟨b1,arr,ty,Fs,q0,q1,q2,q3,q4,q5,q6⟩:=yRO hot
 have e0 : b0 = b1:=by injection q0 with q0; injection q0 with q0; injection q0
 subst e0
 obtain ⟨R,S,h1,h2,h3,h4,h5⟩:=yru (w:=w') (G:=fun b=>((Good g s.objs L w b ∨ X b) ∨ (w.heap.size ≤ b ∧ b < w'.heap.size)) ∧ ¬ F' b) d0 arr.toList q5 cs' 0 (fun i c hc=>by
  obtain ⟨u,hu,ho⟩:=q6 i c hc
  rw [Nat.zero_add]
  exact ⟨u,by simpa using hu,ho⟩) hfr.2
 generalize hl : ydw d0 0 cs' = l at *
 have hO' : s.objs id = .box xs:=hO
 have hlive : s.objs id ≠ .none:=by rw [hO']; simp
 let L' : Lay:=⟨fun i=>if i ∈ l.map (·.1) then R i else L.root i,fun i=>if i ∈ l.map (·.1) then S i else if i = id then noF else L.sub i⟩
 have rt : ∀ i,L'.root i = if i ∈ l.map (·.1) then R i else L.root i:=fun i=>rfl
 have sb : ∀ i,L'.sub i = if i ∈ l.map (·.1) then S i else if i = id then noF else L.sub i:=fun i=>rfl
 have mem : ∀ i,i ∈ l.map (·.1) → ∃ p,p ∈ l ∧ p.1 = i:=fun i hi=>by obtain ⟨p,hp,e⟩:=List.mem_map.1 hi; exact ⟨p,hp,e⟩
 have fpF : ∀ i,i ∈ l.map (·.1) → ∀ b,L'.fp i b → F' b ∧ b ≠ b0:=by
  intro i hi b hf
  obtain ⟨p,hp,rfl⟩:=mem i hi
  unfold Lay.fp at hf
  rw [rt,sb,if_pos hi,if_pos hi] at hf
  obtain ⟨j,_,hj⟩:=h1 p hp b hf
  exact q4 j b hj
 have none_ : ∀ i,i ∈ l.map (·.1) → i ∉ ids → s.objs i = .none:=by
  intro i hi hn
  obtain ⟨p,hp,rfl⟩:=mem i hi
  have:=hfr.1 p hp
  rw [St.yzp,if_neg hn] at this
  exact Classical.byContradiction fun hne=>(Obj.ydO ids _).2 hne this
 have hid : id ∉ l.map (·.1):=fun hm=>hlive (none_ id hm hni)
 have fpI : ∀ b,L'.fp id b → b = b0:=by
  intro b hb
  unfold Lay.fp at hb
  rw [rt,sb,if_neg hid,if_neg hid,if_pos rfl,hb0] at hb
  rcases hb with e | e
  ·cases e; rfl
  ·exact e.elim
 have oI : yaL (upd id (.box (yjP d0 0 cs')) (s.drops ids).objs) l id = .box (yjP d0 0 cs'):=by
  rw [yeW hid]; simp [yaq]
 have fX : ∀ b,X b → ∃ i,((i ∈ l.map (·.1) ∨ i = id) ∨ i ∈ ids) ∧ s.objs i ≠ .none ∧ L.fp i b:=by
  intro b hb
  rcases hX1 b hb with e | ⟨i,e1,e2,e3⟩
  ·exact ⟨id,.inl (.inr rfl),hlive,.inl (by rw [e]; exact hb0)⟩
  ·exact ⟨i,.inr e1,e2,e3⟩
 have e : (⟨fun t=>(s.env t).kills ids,yaL (upd id (.box (yjP d0 0 cs')) (s.drops ids).objs) l⟩ : St) = s.yQm ids id d0 cs':=by
  have : (fun t=>(s.env t).kills ids) = (s.drops ids).env:=funext fun t=>(St.yjz ids s t).symm
  rw [this,← hl]; rfl
 have key:=h.ywN ids (fun i=>i ∈ l.map (·.1) ∨ i = id) (objs':=yaL (upd id (.box (yjP d0 0 cs')) (s.drops ids).objs) l) (w':=w') (L':=L') (X:=X) hoff
  (fun q hq=>fX q hq)
  (fun i hi=>by
   have h1 : i ∉ l.map (·.1):=fun e=>hi (.inl e)
   have h2 : i ≠ id:=fun e=>hi (.inr e)
   exact ⟨by rw [yeW h1,yaq,if_neg h2]; exact St.ydR ids s i,by rw [rt,if_neg h1],by rw [sb,if_neg h1,if_neg h2]⟩)
  (fun i b hi _ hf=>by
   rcases hi with hi | rfl
   ·rcases hF' b (fpF i hi b hf).1 with e | e
    ·exact .inl (fX b e)
    ·exact .inr e
   ·exact .inl ⟨i,.inl (.inr rfl),hlive,.inl (by rw [fpI b hf]; exact hb0)⟩)
  (fun i j b hi hj _ _ hfi hfj=>by
   rcases hi with hi | rfl <;> rcases hj with hj | rfl
   ·obtain ⟨p,hp,rfl⟩:=mem i hi
    obtain ⟨q,hq,rfl⟩:=mem j hj
    unfold Lay.fp at hfi hfj
    rw [rt,sb,if_pos hi,if_pos hi] at hfi
    rw [rt,sb,if_pos hj,if_pos hj] at hfj
    exact h3 p q hp hq b hfi hfj
   ·exact ((fpF i hi b hfi).2 (fpI b hfj)).elim
   ·exact ((fpF j hj b hfj).2 (fpI b hfi)).elim
   ·rfl)
  (fun i b hi _ hr=>by
   rcases hi with hi | rfl
   ·obtain ⟨p,hp,rfl⟩:=mem i hi
    rw [rt,if_pos hi] at hr
    rw [sb,if_pos hi]
    exact h2 p hp b hr
   ·rw [sb,if_neg hid,if_pos rfl]
    exact fun h=>h.elim)
  (fun i hi hn hs=>by
   rcases hi with hi | rfl
   ·exact absurd (none_ i hi hn) hs
   ·rw [oI,hO']
    exact ⟨trivial,by rw [rt,if_neg hid]⟩)
  (fun i k v' rows hi hn hk=>by
   rcases hi with hi | rfl
   ·rw [none_ i hi hn] at hk; cases hk
   ·rw [hO'] at hk; cases hk)
  (fun G' K hN hM i hi=>by
   have hG : ∀ b,((Good g s.objs L w b ∨ X b) ∨ (w.heap.size ≤ b ∧ b < w'.heap.size)) ∧ ¬ F' b → G' b:=by
    rintro b ⟨e1,e2⟩
    have away : ∀ i,(i ∈ l.map (·.1) ∨ i = id) → yaL (upd id (.box (yjP d0 0 cs')) (s.drops ids).objs) l i ≠ .none → ¬ L'.fp i b:=by
     intro i hi _ hf
     rcases hi with hi | rfl
     ·exact e2 (fpF i hi b hf).1
     ·exact e2 (by rw [fpI b hf]; exact q3)
    rcases e1 with (e1 | e1) | e1
    ·exact K.good b e1
    ·exact hM b (fX b e1) away
    ·exact hN b e1.1 e1.2 away
   have hOB : ∀ p,p ∈ l → yaL (upd id (.box (yjP d0 0 cs')) (s.drops ids).objs) l p.1 = p.2 ∧ L'.root p.1 = R p.1:=fun p hp=>⟨yeL hfr.2 p hp,by rw [rt,if_pos (List.mem_map_of_mem hp)]⟩
   rcases hi with hi | rfl
   ·obtain ⟨p,hp,rfl⟩:=mem i hi
    rw [rt,sb,if_pos hi,if_pos hi,yeL hfr.2 p hp]
    exact h5 G' _ _ hG p hp
   ·rw [oI,rt,if_neg hid]
    refine ⟨b0,arr,ty,hb0,q1,by rw [ymY]; exact q2,fun j x hx=>?_⟩
    obtain ⟨u,hu,hr⟩:=h4 G' _ L'.root hG hOB j x hx
    rw [Nat.zero_add] at hu
    exact ⟨u,by simpa using hu,hr⟩)
 rw [e] at key
 exact ⟨L',key.1⟩
end
section
variable {P : Program} {f : Nat} {s : St} {d : Option Nat} {avs args : List AV} {res : AV} {K : St → Prop}
theorem yRC (d0 : Nat) {id : Nat} {ids : List Nat} {xs : List AV} {cs cs' : List C} (hp : InF P f (.c (.bx cs)) (.c (.bx cs')) args res) (hO : s.ob id = .box xs) (hpk : pkl s xs = some (cs,ids)) (hnd : ids.Nodup)
 (ho : ybD s avs args) (hdat : avs.all AV.ycJ = true) (hs : res.scalar = true) (hfr : yU (s.drops ids) (ydw d0 0 cs')) (hK : K ((s.yQm ids id d0 cs').put d res)) : yfo P f (.box id 0 :: avs) d s K:=by
 intro g a w blk h hd vs hvs hv
 obtain ⟨h1,h2⟩:=yeN ho
 obtain ⟨v0,hv0,hr0⟩:=hv 0 _ rfl
 have hlive : s.objs id ≠ .none:=by rw [show s.objs id = _ from hO]; simp
 obtain ⟨b0,cells,q1,q2,rfl⟩:=(show RV1 w (Good g s.objs blk w) s.objs blk v0 (.box id 0) from hr0)
 have q2' : blk.root id = some b0:=q2
 obtain ⟨arr,e,r1,r2,r3⟩:=h.box hO q2
 obtain ⟨Fs,p1,p2,p3,p4⟩:=yvJ h (us:=arr.toList) hpk (fun j x hj=>let ⟨u,hu,hr⟩:=r3 j x hj; ⟨u,by simpa using hu,hr⟩) hnd
 have hni : id ∉ ids:=fun hm=>yQD hpk id hm (by rw [show s.objs id = _ from hO]; rfl)
 have hne : ∀ i,i ∈ ids → s.objs i ≠ .none → ∀ b,blk.fp i b → b ≠ b0:=by
  intro i hi hl b hf e
  subst e
  exact hni (h.inj i id b hl hlive hf (.inl q2') ▸ hi)
 let X : Nat → Prop:=fun b=>b = b0 ∨ ∃ i,i ∈ ids ∧ s.objs i ≠ .none ∧ blk.fp i b
 have hot : OT w (Good g s.objs blk w) (.pointer (some ⟨b0,0,none⟩)) (.bx cs) X:=by
  refine .bx (fun j=>arr.toList.getD j undef) Fs r1 (by rw [r2,p1]) (.inl rfl) (fun j x hx=>?_) p4 (fun j c hc=>?_) (fun j c hc=>?_)
  ·obtain ⟨i0,m0,m1,m2⟩:=p3 j x hx
   exact ⟨.inr ⟨i0,m0,m1,m2⟩,hne i0 m0 m1 x m2⟩
  ·obtain ⟨u,hu,_⟩:=p2 j c hc
   rw [List.getD_eq_getElem?_getD,hu]
   simpa using hu
  ·obtain ⟨u,hu,ho⟩:=p2 j c hc
   rw [List.getD_eq_getElem?_getD,hu]
   exact ho
 have hXl : ∀ b,X b → ∃ i,s.objs i ≠ .none ∧ blk.fp i b:=by
  rintro b (e | ⟨i,_,e2,e3⟩)
  ·exact ⟨id,hlive,.inl (by rw [e]; exact q2')⟩
  ·exact ⟨i,e2,e3⟩
 refine (hp w (Good g s.objs blk w) X (fun b hb=>yhz h hb) (fun b hb=>?_) (fun b hb hx=>?_) vs _ (by simp at hvs; omega) hv0 hot (fun j y hj=>?_)).mono ?_
 ·obtain ⟨i,e1,e2⟩:=hXl b hb
  exact (h.new i b e1 e2).2
 ·obtain ⟨i,e1,e2⟩:=hXl b hx
  exact hb.2 i e1 e2
 ·obtain ⟨x,hx,hxy⟩:=h2 j y hj
  obtain ⟨u,hu,hru⟩:=hv (j + 1) x (by simpa using hx)
  exact ⟨u,hu,ynR (fun _ h=>h) hru (List.all_eq_true.1 hdat x (List.mem_of_getElem? hx)) hxy⟩
 ·rintro e w' ⟨v,F',rfl,hoff,hF',hx',hr⟩
  obtain ⟨L',hL⟩:=h.yQm hO q2' hni (X:=X) (fun b hb=>hb) hoff hF' hx' hfr
  exact ⟨v,rfl,_,L',hK,hL.put hd (yjx hs hr)⟩
end
def yPr (cs : List C) (args : List AV) : St:=⟨fun t=>if t = 1000000 then .box 0 0 else if t = 0 then .box 0 0 else (args[t - 1]?).getD .any,fun i=>if i = 0 then .box (yjP 0 0 cs) else yaL noO (ydw 0 0 cs) i⟩
def ptrP (s : St) (rs : List RS) (cs' : List C) (res : AV) : Prop:=s.env 1000000 = .box 0 0 ∧ (∃ xs ids,s.ob 0 = .box xs ∧ pkl s xs = some (cs',ids) ∧ ids.Nodup) ∧ yml s rs res
theorem yRH {c : C} {i : Nat} {p : Nat × Obj} (h : p ∈ c.ya6 i) : p.1 = i:=by
 cases c <;> simp only [C.ya6] at h <;> first
  | (split at h <;> first | (rw [List.mem_singleton] at h; rw [h]) | cases h)
  | (rw [List.mem_singleton] at h; rw [h])
  | cases h
theorem yRa : ∀ {cs : List C} {j : Nat} {p : Nat × Obj},p ∈ ydw 0 j cs → 1 ≤ p.1
 | [],_,p,h=>by cases h
 | c :: cs,j,p,h=>by
  rcases List.mem_append.1 (show p ∈ c.ya6 (sid 0 j) ++ ydw 0 (j + 1) cs from h) with h | h
  ·rw [yRH h]; unfold sid; omega
  ·exact yRa h
theorem yRR {P : Program} {f N : Nat} {c : SC} {rs : List RS} {cs cs' : List C} {args : List AV} {res : AV} (hf : Has P f N c rs) (hN : args.length + 1 ≤ N) (hn : ((ydw 0 0 cs).map (·.1)).Nodup) (hsc : res.scalar = true)
 (H : ygO args → wpS P N c (yPr cs args) (fun e s=>match e with | .exit _=>False | _=>ptrP s rs cs' res)) : InF P f (.c (.bx cs)) (.c (.bx cs')) args res:=by
 obtain ⟨fn,code,h1,h2,h3,⟨fl,h4⟩,h5⟩:=hf.ok
 intro w G F hG hF hGF vs v0 hvs hv0 hx hv
 have hwf : ygO args:=yjB args fun x hx=>by
  obtain ⟨j,hj⟩:=List.getElem?_of_mem hx
  obtain ⟨u,_,hr⟩:=hv j x hj
  exact yzI hr
 refine calls_of_wp h1 h2 ?_
 obtain ⟨b0,arr,ty,Fs,rfl,x1,x2,x3,x4,x5,x6⟩:=yRO hx
 obtain ⟨R,S,a1,a2,a3,a4,a5⟩:=yru (w:=w) (G:=G) 0 arr.toList x5 cs 0 (fun i c hc=>by
  obtain ⟨u,hu,ho⟩:=x6 i c hc
  rw [Nat.zero_add]
  exact ⟨u,by simpa using hu,ho⟩) hn
 have hge : ∀ p,p ∈ ydw 0 0 cs → p.1 ≠ 0:=fun p hp=>by have:=yRa hp; omega
 generalize hl : ydw 0 0 cs = l at *
 let g : Ghost:=⟨w,G,F,N,#[.pointer (some ⟨b0,0,none⟩)]⟩
 let ids:=l.map (·.1)
 have h0 : 0 ∉ ids:=fun hm=>by obtain ⟨p,hp,e⟩:=List.mem_map.1 hm; exact hge p hp e
 let L0 : Lay:=⟨fun i=>if i = 0 then some b0 else if i ∈ ids then R i else none,fun i=>if i ∈ ids then S i else noF⟩
 have o0 : (yPr cs args).objs 0 = .box (yjP 0 0 cs):=by simp [yPr]
 have oI : ∀ i,i ≠ 0 → (yPr cs args).objs i = yaL noO l i:=fun i hi=>by rw [← hl]; exact if_neg hi
 have mem : ∀ i,i ∈ ids → ∃ p,p ∈ l ∧ p.1 = i:=fun i hi=>by obtain ⟨p,hp,e⟩:=List.mem_map.1 hi; exact ⟨p,hp,e⟩
 have dead : ∀ i,i ∉ ids → yaL noO l i = .none:=fun i hi=>yeW hi
 have rt : ∀ i,i ∈ ids → L0.root i = R i:=fun i hi=>by
  show (if i = 0 then some b0 else if i ∈ ids then R i else none) = R i
  rw [if_neg (fun e=>by subst e; exact h0 hi),if_pos hi]
 have sb : ∀ i,i ∈ ids → L0.sub i = S i:=fun i hi=>if_pos hi
 have fp0 : ∀ b,L0.fp 0 b → b = b0:=by
  rintro b (e | e)
  ·have e : some b0 = some b:=e
   cases e; rfl
  ·have e : (if 0 ∈ ids then S 0 else noF) b:=e
   rw [if_neg h0] at e
   exact e.elim
 have fpI : ∀ i b,i ∈ ids → L0.fp i b → F b ∧ b ≠ b0:=by
  intro i b hi hf
  obtain ⟨p,hp,rfl⟩:=mem i hi
  unfold Lay.fp at hf
  rw [rt _ hi,sb _ hi] at hf
  obtain ⟨j,_,hj⟩:=a1 p hp b hf
  exact x4 j b hj
 have live : ∀ i,(yPr cs args).objs i ≠ .none → i = 0 ∨ i ∈ ids:=by
  intro i hi
  by_cases e : i = 0
  ·exact .inl e
  ·rw [oI i e] at hi
   by_cases hm : i ∈ ids
   ·exact .inr hm
   ·exact absurd (dead i hm) hi
 have hgood : ∀ b,G b → Good g (yPr cs args).objs L0 w b:=by
  intro b hb
  refine ⟨.inl (.inl hb),fun i hi hf=>?_⟩
  rcases live i hi with rfl | hm
  ·exact hGF b hb (by rw [fp0 b hf]; exact x3)
  ·exact hGF b hb (fpI i b hm hf).1
 have hptr : ∀ {G' : Nat → Prop},RV w G' (yPr cs args).objs L0 (.pointer (some ⟨b0,0,none⟩)) (.box 0 0):=⟨b0,_,o0,rfl,rfl⟩
 have hOB : ∀ p,p ∈ l → (yPr cs args).objs p.1 = p.2 ∧ L0.root p.1 = R p.1:=fun p hp=>⟨by rw [oI _ (hge p hp)]; exact yeL hn p hp,rt _ (List.mem_map_of_mem hp)⟩
 have hinit : Repr g (yPr cs args) { tmps:=vs ++ Array.replicate (fn.ntmps - vs.size) undef,defers:=[] } w L0:=by
  refine ⟨by simp [g]; omega,hf.small,rfl,Off.refl _ _,hG,hF,hGF,fun t=>?_,fun id=>?_,fun id b hid hfp=>?_,fun i j b hi hj hfi hfj=>?_,fun i b hi hr=>?_⟩
  ·have hsm:=hf.small
   have val : ∀ u,vs[t]? = some u → g.val { tmps:=vs ++ Array.replicate (fn.ntmps - vs.size) undef,defers:=[] } t = u:=by
    intro u hu
    have hlt : t < vs.size:=(Array.getElem?_eq_some_iff.1 hu).1
    unfold Ghost.val
    rw [if_pos (by unfold ycZ at *; omega),Array.getD_eq_getD_getElem?,Array.getElem?_append_left hlt,hu]; rfl
   show RV _ _ _ _ _ (if t = 1000000 then .box 0 0 else if t = 0 then .box 0 0 else (args[t - 1]?).getD .any)
   split
   ·rename_i e
    subst e
    have : g.val { tmps:=vs ++ Array.replicate (fn.ntmps - vs.size) undef,defers:=[] } 1000000 = .pointer (some ⟨b0,0,none⟩):=by
     unfold Ghost.val; rw [if_neg (by unfold ycZ; omega)]; simp [g,ycZ]
    rw [this]; exact hptr
   ·split
    ·rename_i e
     subst e
     rw [val _ hv0]; exact hptr
    ·rename_i e1 e2
     cases ht : args[t - 1]? with
     | none=>trivial
     | some y =>
      obtain ⟨u,hu,hr⟩:=hv (t - 1) y ht
      rw [show t - 1 + 1 = t by omega] at hu
      rw [val u hu]
      exact yk5 (O:=(yPr cs args).objs) hgood hr
  ·by_cases e : id = 0
   ·subst e
    rw [o0]
    refine ⟨b0,arr,ty,rfl,x1,by rw [ymY]; exact x2,fun j x hx=>?_⟩
    obtain ⟨u,hu,hr⟩:=a4 _ _ L0.root hgood hOB j x hx
    rw [Nat.zero_add] at hu
    exact ⟨u,by simpa using hu,hr⟩
   ·rw [oI id e]
    by_cases hm : id ∈ ids
    ·obtain ⟨p,hp,rfl⟩:=mem id hm
     rw [yeL hn p hp,sb _ hm,show L0.root p.1 = _ from rt _ hm]
     exact a5 _ _ _ hgood p hp
    ·rw [dead id hm]; trivial
  ·rcases live id hid with rfl | hm
   ·rw [fp0 b hfp]; exact ⟨.inl x3,hF b0 x3⟩
   ·have:=(fpI id b hm hfp).1
    exact ⟨.inl this,hF b this⟩
  ·rcases live i hi with rfl | hm <;> rcases live j hj with rfl | hm'
   ·rfl
   ·exact ((fpI j b hm' hfj).2 (fp0 b hfi)).elim
   ·exact ((fpI i b hm hfi).2 (fp0 b hfj)).elim
   ·obtain ⟨p,hp,rfl⟩:=mem i hm
    obtain ⟨q,hq,rfl⟩:=mem j hm'
    unfold Lay.fp at hfi hfj
    rw [rt _ hm,sb _ hm] at hfi
    rw [rt _ hm',sb _ hm'] at hfj
    exact a3 p q hp hq b hfi hfj
  ·rcases live i hi with rfl | hm
   ·show ¬ (if 0 ∈ ids then S 0 else noF) b
    rw [if_neg h0]; exact fun h=>h.elim
   ·obtain ⟨p,hp,rfl⟩:=mem i hm
    rw [rt _ hm] at hr
    rw [sb _ hm]
    exact a2 p hp b hr
 refine Code.wp_mono ?_ (yjq (g:=g) rfl h4 (H hwf) hinit)
 intro e a' w' hl
 have fin : ∀ s blk,ptrP s rs cs' res → Repr g s a' w' blk → a'.defers = [] ∧ ∃ v,(results fn a'.tmps).run P w' = .ok v w' ∧ (∃ v' F',Ending.returned v = .returned v' ∧ Off F w w' ∧ (∀ b,F' b → F b ∨ (w.heap.size ≤ b ∧ b < w'.heap.size)) ∧
  yeC w' (fun b=>((G b ∨ F b) ∨ (w.heap.size ≤ b ∧ b < w'.heap.size)) ∧ ¬ F' b) (.pointer (some ⟨b0,0,none⟩)) (.c (.bx cs')) F' ∧ RV w' noF noO noB v' res):=by
  rintro s blk ⟨c1,⟨xs,ids',c2,c3,c4⟩,c5⟩ h
  obtain ⟨v,e1,e2⟩:=yxa h h5 c5
  have hsl:=h.env 1000000
  have hv : g.val a' 1000000 = .pointer (some ⟨b0,0,none⟩):=by unfold Ghost.val; rw [if_neg (by unfold ycZ; omega)]; simp [g,ycZ]
  rw [hv,c1] at hsl
  obtain ⟨b1,cells,q1,q2,q3⟩:=(show RV1 w' (Good g s.objs blk w') s.objs blk (.pointer (some ⟨b0,0,none⟩)) (.box 0 0) from hsl)
  have hb1 : b1 = b0:=by injection q3 with q3; injection q3 with q3; injection q3 with q3; exact q3.symm
  subst hb1
  have q2' : blk.root 0 = some b1:=q2
  have hlive : s.objs 0 ≠ .none:=by rw [show s.objs 0 = _ from c2]; simp
  obtain ⟨arr2,ty2,r1,r2,r3⟩:=h.box c2 q2
  obtain ⟨Fs2,p1,p2,p3,p4⟩:=yvJ h (us:=arr2.toList) c3 (fun j x hj=>let ⟨u,hu,hr⟩:=r3 j x hj; ⟨u,by simpa using hu,hr⟩) c4
  have hni : 0 ∉ ids':=fun hm=>yQD c3 0 hm (by rw [show s.objs 0 = _ from c2]; rfl)
  let F' : Nat → Prop:=fun b=>b = b1 ∨ ∃ i,i ∈ ids' ∧ s.objs i ≠ .none ∧ blk.fp i b
  have hF'l : ∀ b,F' b → ∃ i,s.objs i ≠ .none ∧ blk.fp i b:=by
   rintro b (e | ⟨i,_,e2,e3⟩)
   ·exact ⟨0,hlive,.inl (by rw [e]; exact q2')⟩
   ·exact ⟨i,e2,e3⟩
  refine ⟨h.defers,v,e1,v,F',rfl,h.below,fun b hb=>?_,?_,yjx hsc e2⟩
  ·obtain ⟨i,m1,m2⟩:=hF'l b hb
   obtain ⟨n1,n2⟩:=h.new i b m1 m2
   rcases n1 with n1 | n1
   ·exact .inl n1
   ·exact .inr ⟨n1,n2⟩
  ·have hot : OT w' (Good g s.objs blk w') (.pointer (some ⟨b1,0,none⟩)) (.bx cs') F':=by
    refine .bx (fun j=>arr2.toList.getD j undef) Fs2 r1 (by rw [r2,p1]) (.inl rfl) (fun j x hx=>?_) p4 (fun j c hc=>?_) (fun j c hc=>?_)
    ·obtain ⟨i0,m0,m1,m2⟩:=p3 j x hx
     refine ⟨.inr ⟨i0,m0,m1,m2⟩,fun e=>hni ?_⟩
     subst e
     exact h.inj i0 0 x m1 hlive m2 (.inl q2') ▸ m0
    ·obtain ⟨u,hu,_⟩:=p2 j c hc
     rw [List.getD_eq_getElem?_getD,hu]
     simpa using hu
    ·obtain ⟨u,hu,ho⟩:=p2 j c hc
     rw [List.getD_eq_getElem?_getD,hu]
     exact ho
   refine OT.mono hot (fun b hb=>⟨hb.1,fun hF=>?_⟩) (fun _ _ _ h=>h) (fun _ h=>h) (fun _ _=>rfl)
   obtain ⟨i,m1,m2⟩:=hF'l b hF
   exact hb.2 i m1 m2
 cases e with
 | normal=>obtain ⟨s,blk,hr,h⟩:=hl; exact fin s blk hr h
 | exit id=>obtain ⟨s,blk,hr,h⟩:=hl; exact hr.elim
 | ret=>obtain ⟨s,blk,hr,h⟩:=hl; exact fin s blk hr h
 | goto l=>exact hl.elim
 | panic ch=>exact hl.elim
 | outgrown=>exact hl.elim
@[simp] theorem yRN {cs : List C} {args : List AV} {t : Nat} : (yPr cs args).env t = if t = 1000000 then .box 0 0 else if t = 0 then .box 0 0 else (args[t - 1]?).getD .any:=rfl
@[simp] theorem yRP {cs : List C} {args : List AV} {i : Nat} : (yPr cs args).ob i = if i = 0 then .box (yjP 0 0 cs) else yaL noO (ydw 0 0 cs) i:=rfl
@[simp] theorem yRL {cs : List C} {args : List AV} {i : Nat} : (yPr cs args).objs i = if i = 0 then .box (yjP 0 0 cs) else yaL noO (ydw 0 0 cs) i:=rfl
@[simp] theorem yRV {s : St} {ids : List Nat} {id d0 : Nat} {cs' : List C} {t : Nat} : (s.yQm ids id d0 cs').env t = (s.drops ids).env t:=rfl
@[simp] theorem yRQ {s : St} {ids : List Nat} {id d0 : Nat} {cs' : List C} {i : Nat} : (s.yQm ids id d0 cs').objs i = yaL (fun j=>if j = id then .box (yjP d0 0 cs') else (s.drops ids).objs j) (ydw d0 0 cs') i:=rfl
@[simp] theorem yRY {s : St} {ids : List Nat} {id d0 : Nat} {cs' : List C} {i : Nat} : (s.yQm ids id d0 cs').ob i = yaL (fun j=>if j = id then .box (yjP d0 0 cs') else (s.drops ids).objs j) (ydw d0 0 cs') i:=rfl
theorem OT.tree {w : World} {G F : Nat → Prop} {v : Value} {k : Nat} {rows : List (List C)} (h : OT w G v (.ow k rows) F) : OT w G v (.ot k rows) F:=by
 cases h with
 | sh h=>cases h
 | ow0=>exact .ot0
 | ow vals h1 h2 h3 h4 h5 h6 h7 h8 h9=>exact .ot vals (fun _ _=>noF) h1 h2 h3 h4 h5 h6 h7 (fun _ _ _ h=>h.elim) (fun _ _ _ _ _ h=>h.elim) h8 (fun i r hr j c hj=>.sh (h9 i r hr j c hj))
end Go.Proofs.YtjojilkdkgmbgaaGreat
