/- What the law FnOnceIn stands on: contracts of functions, what each answers as plain Lean, in short form (names, layout). -/
import Derived.Test.YtpiplmnecmkafaaGreatSOnceIn4
set_option linter.all false
namespace Go.Proofs.YtpiplmnecmkafaaGreat
open Go.RowKit
open Go.ChangeShapes Go.WideShapes
def jkC (c : UInt8) (ns : List Nat) : Nat → List UInt8
 | 0=>[]
 | k + 1=>match ns[k]? with
  | some n=>(if k = 0 then [] else jkC c ns k ++ [c]) ++ fmt n
  | none=>jkC c ns k
theorem yaer {c : UInt8} {ns : List Nat} {n : Nat} (h : ns[0]? = some n) : jkC c ns 1 = fmt n:=by
 unfold jkC; rw [h]; simp
theorem yadV {c : UInt8} {ns : List Nat} {k n : Nat} (h : ns[k]? = some n) (hk : k ≠ 0) : jkC c ns (k + 1) = jkC c ns k ++ c :: fmt n:=by
 conv=>lhs; unfold jkC
 rw [h]; simp [hk]
theorem yabE {c : UInt8} {ns : List Nat} (hn : ∀ n ∈ ns,n ≤ 1000000000) : ∀ k : Nat,(jkC c ns k).length ≤ 20 * k
 | 0=>by simp [jkC]
 | k + 1=>by
  have ih:=yabE (c:=c) hn k
  unfold jkC
  cases h : ns[k]? with
  | none=>simp only; omega
  | some n =>
   have:=(yXw (hn n (List.mem_of_getElem? h))).1
   simp only [List.length_append]
   split <;> simp <;> omega
theorem yadz (c : UInt8) (ns : List Nat) (hn : ∀ n ∈ ns,n ≤ 1000000000) (hl : ns.length ≤ 1000) : yB Tryz.prog 62 [.c (.sl 1 (ns.map ni)),.c (.s (bs [c]))] (.c (.s (bs (jkC c ns ns.length)))):=by
 refine yh yW4 ?_
 simp -dsimp -implicitDefEqProofs
 refine yg (ι:=Nat) (fun k=>k ≤ ns.length) (fun k=>yO [(0,.c (.sl 1 (ns.map ni))),(1,.c (.s (bs [c]))),(5,.c (.s (bs (jkC c ns k)))),(6,.c (.i k))] []) (fun k=>ns.length - k) 0 (by simp) (by apply yj <;> simp [jkC]; try rfl) ?_
 rintro k hk
 have hlen:=yabE (c:=c) hn k
 rcases Nat.lt_or_ge k ns.length with klt | kge
 ·obtain ⟨n,hb⟩ : ∃ b,ns[k]? = some b:=⟨_,List.getElem?_eq_getElem klt⟩
  have gb:=(List.getElem?_eq_some_iff.1 hb).2
  have hnl:=hn n (List.mem_of_getElem? hb)
  have hfl:=(yXw hnl).1
  by_cases k0 : k = 0
  ·subst k0
   have e1:=yaer (c:=c) hb
   have e0 : jkC c ns 0 = []:=rfl
   simp -dsimp -implicitDefEqProofs [hb,gb,klt,yG klt,ni,e0]
   intro hm
   refine yaQ (yWy n hnl) (by simp -dsimp -implicitDefEqProofs) rfl ?_
   simp -dsimp -implicitDefEqProofs [yWi,yXb]
   refine ⟨by unfold maxLen; omega,by unfold inI; omega,1,by omega,by omega,?_⟩
   apply yj <;> simp [e1]
  ·have e1:=yadV (c:=c) hb k0
   have t1 : (0 < k) = True:=eq_true (by omega)
   simp -dsimp -implicitDefEqProofs [hb,gb,klt,yG klt,t1,k0,ni,yWi,yXb]
   intro hm
   refine ⟨by unfold maxLen; omega,?_⟩
   refine yaQ (yWy n hnl) (by simp -dsimp -implicitDefEqProofs) rfl ?_
   simp -dsimp -implicitDefEqProofs [yWi,yXb]
   refine ⟨by unfold maxLen; omega,yw klt hm,k + 1,klt,by omega,?_⟩
   apply yj <;> simp [e1]
 ·have : k = ns.length:=by omega
  subst this
  simp -dsimp -implicitDefEqProofs [yaB kge]
def yaaz (b : Boat) : List Nat:=[b.Id.toNat,b.Length.toNat,b.Width.toNat,b.Draught.toNat,b.Speed.toNat,b.Class.toNat]
def yaap (r : List Boat) (s : List UInt8) : Nat → List UInt8
 | 0=>s
 | i + 1=>match r[i]? with
  | some b=>(if i = 0 then yaap r s i else yaap r s i ++ [43]) ++ jkC 58 (yaaz b) 6
  | none=>yaap r s i
def trTx (rows : List (List Boat)) (s : List UInt8) : Nat → List UInt8
 | 0=>s
 | k + 1=>match rows[k]? with
  | some r=>yaap r (if k = 0 then trTx rows s k else trTx rows s k ++ [47]) r.length
  | none=>trTx rows s k
def FT (t : Train) : List UInt8:=if yP t then trTx t.Rows (if t.Up then [94] else [118]) t.Rows.length else []
theorem yabk {b : Boat} (h : ybr b = true) : ∀ n ∈ yaaz b,n ≤ 1000000000:=by
 have:=yMg h
 intro n hn
 simp only [yaaz,List.mem_cons,List.mem_nil_iff,or_false] at hn
 omega
theorem yabI {r : List Boat} {s : List UInt8} {i : Nat} {b : Boat} (h : r[i]? = some b) : yaap r s (i + 1) = (if i = 0 then yaap r s i else yaap r s i ++ [43]) ++ jkC 58 (yaaz b) 6:=by
 conv=>lhs; unfold yaap
 rw [h]
theorem yacn {rows : List (List Boat)} {s : List UInt8} {k : Nat} {r : List Boat} (h : rows[k]? = some r) : trTx rows s (k + 1) = yaap r (if k = 0 then trTx rows s k else trTx rows s k ++ [47]) r.length:=by
 conv=>lhs; unfold trTx
 rw [h]
theorem yabr {r : List Boat} {s : List UInt8} (hr : ∀ b ∈ r,ybr b = true) : ∀ i : Nat,(yaap r s i).length ≤ s.length + 121 * i
 | 0=>by simp [yaap]
 | i + 1=>by
  have ih:=yabr (s:=s) hr i
  cases h : r[i]? with
  | none=>unfold yaap; rw [h]; simp only; omega
  | some b =>
   rw [yabI h]
   have:=yabE (c:=58) (yabk (hr b (List.mem_of_getElem? h))) 6
   simp only [List.length_append]
   split <;> simp <;> omega
theorem yacR {rows : List (List Boat)} {s : List UInt8} (hr : ∀ r ∈ rows,r.length ≤ 6 ∧ ∀ b ∈ r,ybr b = true) : ∀ k : Nat,(trTx rows s k).length ≤ s.length + 800 * k
 | 0=>by simp [trTx]
 | k + 1=>by
  have ih:=yacR (s:=s) hr k
  cases h : rows[k]? with
  | none=>unfold trTx; rw [h]; simp only; omega
  | some r =>
   rw [yacn h]
   obtain ⟨h1,h2⟩:=hr r (List.mem_of_getElem? h)
   have:=yabr (s:=if k = 0 then trTx rows s k else trTx rows s k ++ [47]) h2 r.length
   have h3 : (if k = 0 then trTx rows s k else trTx rows s k ++ [47]).length ≤ (trTx rows s k).length + 1:=by split <;> simp
   omega
theorem yaem {r : List Boat} {rows : List (List Boat)} (h : r ∈ rows) : r.length ≤ rows.flatten.length:=by
 induction rows with
 | nil=>cases h
 | cons a l ih =>
  simp only [List.flatten_cons,List.length_append]
  rcases List.mem_cons.1 h with rfl | h
  ·omega
  ·have:=ih h; omega
theorem yadQ {t : Train} (h : yP t = true) : t.Rows.length ≤ 6 ∧ ∀ r ∈ t.Rows,r.length ≤ 6 ∧ ∀ b ∈ r,ybr b = true:=by
 have F:=yhY h
 have key : ∀ rows : List (List Boat),(∀ r ∈ rows,full r = true) → rows.length ≤ rows.flatten.length:=by
  intro rows hr
  induction rows with
  | nil=>simp
  | cons a l ih =>
   have h1:=ytQ.1 (hr a (by simp))
   have h2:=ih fun r h=>hr r (List.mem_cons_of_mem _ h)
   simp only [List.flatten_cons,List.length_append,List.length_cons]
   omega
 have h6:=F.len
 unfold Train.yas at h6
 refine ⟨by have:=key t.Rows F.rows; omega,fun r hr=>⟨by have:=yaem hr; omega,fun b hb=>F.ok b (List.mem_flatten.2 ⟨r,hr,hb⟩)⟩⟩
theorem bsl47 : (⟨#[47]⟩ : ByteArray) = bs [47]:=rfl
theorem bsl43 : (⟨#[43]⟩ : ByteArray) = bs [43]:=rfl
theorem bsl58 : (⟨#[58]⟩ : ByteArray) = bs [58]:=rfl
set_option maxRecDepth 4000 in
theorem yaav (t : Train) (hs : t.small) : yB Tryz.prog 26 [.agg (t.enc.map .c)] (.c (.s (bs (FT t)))):=by
 refine yh yaaO ?_
 simp -dsimp -implicitDefEqProofs
 refine yc (yds t hs) ?_
 cases hok : yP t with
 | false =>
  have h1 : FT t = []:=by unfold FT; rw [hok]; rfl
  rw [h1]
  simp -dsimp -implicitDefEqProofs
  rfl
 | true =>
  obtain ⟨r6,hr⟩:=yadQ hok
  obtain ⟨up,rows⟩:=t
  simp only at r6 hr
  obtain ⟨s0,hs0⟩ : ∃ s0 : List UInt8,s0 = if up then [94] else [118]:=⟨_,rfl⟩
  have hl0 : s0.length = 1:=by rw [hs0]; split <;> rfl
  have h1 : FT ⟨up,rows⟩ = trTx rows s0 rows.length:=by unfold FT; rw [hok,hs0]; rfl
  rw [h1]
  have hT0 : trTx rows s0 0 = s0:=rfl
  simp -dsimp -implicitDefEqProofs
  refine ⟨fun hu=>?_,fun hu=>?_⟩
  all_goals
   rw [hu] at hs0
   simp only [if_true,Bool.false_eq_true,if_false] at hs0
   refine yg (ι:=Nat) (fun k=>k ≤ rows.length) (fun k=>yO [(1,.box 1 0),(3,.c (.s (bs (trTx rows s0 k)))),(4,.c (.i k))] [(1,.box ((Train.enc ⟨up,rows⟩).map .c))]) (fun k=>rows.length - k) 0 (by simp) (by apply yj <;> simp [hT0,hs0]; try rfl) ?_
   rintro k hk
   have hlen:=yacR (s:=s0) hr k
   rcases Nat.lt_or_ge k rows.length with klt | kge
   ·obtain ⟨r,hrk⟩ : ∃ r,rows[k]? = some r:=⟨_,List.getElem?_eq_getElem klt⟩
    have gr:=(List.getElem?_eq_some_iff.1 hrk).2
    have hsucc:=yacn (s:=s0) hrk
    obtain ⟨l6,hb⟩:=hr r (List.mem_of_getElem? hrk)
    obtain ⟨s1,hs1⟩ : ∃ s1,s1 = if k = 0 then trTx rows s0 k else trTx rows s0 k ++ [47]:=⟨_,rfl⟩
    rw [← hs1] at hsucc
    have hl1 : s1.length ≤ (trTx rows s0 k).length + 1:=by rw [hs1]; split <;> simp
    have hR0 : yaap r s1 0 = s1:=rfl
    by_cases k0 : k = 0
    all_goals
     first
      | have t1 : (0 < k) = True:=eq_true (by omega)
      | have t1 : (0 < k) = False:=eq_false (by omega)
     first
      | rw [if_neg k0] at hs1
      | rw [if_pos k0] at hs1
     first
      | have k1 : (k = 0) = False:=eq_false k0
      | have k1:=t1
     simp -dsimp -implicitDefEqProofs [hrk,gr,klt,yG klt,t1,k1,bsl47,yWi,yXb,← hs1]
     intro hm
     try refine ⟨by unfold maxLen; omega,?_⟩
     refine yg (ι:=Nat) (fun i=>i ≤ r.length) (fun i=>yO [(1,.box 1 0),(3,.c (.s (bs (yaap r s1 i)))),(4,.c (.i k)),(5,.c (.i i))] [(1,.box ((Train.enc ⟨up,rows⟩).map .c))]) (fun i=>r.length - i) 0 (by simp) (by apply yj <;> simp [hR0]) ?_
     rintro i hi
     have hlen2:=yabr (s:=s1) hb i
     rcases Nat.lt_or_ge i r.length with ilt | ige
     ·obtain ⟨b,hbi⟩ : ∃ b,r[i]? = some b:=⟨_,List.getElem?_eq_getElem ilt⟩
      have gb:=(List.getElem?_eq_some_iff.1 hbi).2
      have hsucc2:=yabI (s:=s1) hbi
      have hbo:=hb b (List.mem_of_getElem? hbi)
      have hj:=yabE (c:=58) (yabk hbo) 6
      have hbf:=yMg hbo
      have n1 : ni b.Id.toNat = [.i b.Id]:=by unfold ni; rw [Int.toNat_of_nonneg (by omega)]
      have n2 : ni b.Length.toNat = [.i b.Length]:=by unfold ni; rw [Int.toNat_of_nonneg (by omega)]
      have n3 : ni b.Width.toNat = [.i b.Width]:=by unfold ni; rw [Int.toNat_of_nonneg (by omega)]
      have n4 : ni b.Draught.toNat = [.i b.Draught]:=by unfold ni; rw [Int.toNat_of_nonneg (by omega)]
      have n5 : ni b.Speed.toNat = [.i b.Speed]:=by unfold ni; rw [Int.toNat_of_nonneg (by omega)]
      have n6 : ni b.Class.toNat = [.i b.Class]:=by unfold ni; rw [Int.toNat_of_nonneg (by omega)]
      have hmap : (yaaz b).map ni = [[.i b.Id],[.i b.Length],[.i b.Width],[.i b.Draught],[.i b.Speed],[.i b.Class]]:=by simp only [yaaz,List.map_cons,List.map_nil,n1,n2,n3,n4,n5,n6]
      have hJ:=yadz 58 (yaaz b) (yabk hbo) (by simp [yaaz])
      rw [hmap,show (yaaz b).length = 6 from rfl] at hJ
      by_cases i0 : i = 0
      all_goals
       first
        | have t2 : (0 < i) = True:=eq_true (by omega)
        | have t2 : (0 < i) = False:=eq_false (by omega)
       first
        | rw [if_neg i0] at hsucc2
        | rw [if_pos i0] at hsucc2
       first
        | have i1 : (i = 0) = False:=eq_false i0
        | have i1:=t2
       simp -dsimp -implicitDefEqProofs [hrk,gr,klt,hbi,gb,ilt,yG ilt,t2,i1,bsl43,yWi,yXb]
       intro hm2
       try refine ⟨by unfold maxLen; omega,?_⟩
       refine yaQ (hJ) (by simp -dsimp -implicitDefEqProofs [bsl58]) rfl ?_
       simp -dsimp -implicitDefEqProofs [yWi,yXb]
       refine ⟨by unfold maxLen; omega,yw ilt hm2,i + 1,ilt,by omega,?_⟩
       apply yj <;> simp [hsucc2]
     ·have : i = r.length:=by omega
      subst this
      simp -dsimp -implicitDefEqProofs [hrk,gr,klt,yaB ige]
      intro hm2
      refine ⟨yw klt hm,k + 1,klt,by omega,?_⟩
      apply yj <;> simp [hsucc]
   ·have : k = rows.length:=by omega
    subst this
    simp -dsimp -implicitDefEqProofs [yaB kge]
theorem yacp (a : Train) (hs : a.small) : yB Tryz.prog 8 [.agg (a.enc.map .c),.agg (a.enc.map .c)] (.c (.b true)):=by
 refine yh yabc ?_
 simp -dsimp -implicitDefEqProofs
 refine yaC (yaav a hs) ?_
 simp -dsimp -implicitDefEqProofs
 refine yaC (yaav a hs) ?_
 simp -dsimp -implicitDefEqProofs
theorem yZI {x : List Nat} (h : (C.sl 1 (x.map yZn)).WF) : ∃ code : List UInt8,x.map yZn = code.map yvZ:=by
 simp only [C.WF] at h
 refine ⟨x.map fun n=>UInt8.ofNat n,?_⟩
 rw [List.map_map]
 apply List.map_congr_left
 intro n hn
 have h1:=(h.2 _ (List.mem_map_of_mem hn)).2 (.u n) (by simp [yZn])
 simp only [C.WF] at h1
 simp [yZn,yvZ,Nat.mod_eq_of_lt h1]
theorem big_c (code : List UInt8) : yB Tryz.prog 5 [.c (.sl 1 (code.map yvZ))] (.c (.b (decide (1048576 < code.length)))):=by
 refine yh yZq ?_
 simp -dsimp -implicitDefEqProofs
 intro _
 omega
theorem yaaY (x : Waterway) (t : Train) (hs : x.small) (ht : t.small) : yB Tryz.prog 7 [.agg (x.enc.map .c),.agg (t.enc.map .c)] (.tup [.agg ((yOk x t).1.enc.map .c),.c (.b (yOk x t).2)]) :=
 (yOR x t hs ht).pure (by
  generalize (yOk x t).1 = y
  simp [AV.shr,AV.yAK,AV.ysI,ybQ,C.shr,Waterway.yI,yag Reach.yaa,yag Work.yaa,yag ycu,yag Train.yaa,yag Passing.yaa])
structure Round (x : Waterway) (t : Train) (y : Waterway) (K : Nat) (l0 ly : List Mover) (m : Mover) : Prop where
 up : t.Up = true → K + 1 = x.Reaches.length
 down : t.Up = false → K = 0
 xm : x.Movers[K]? = some l0
 ym : y.Movers[K]? = some ly
 len : ly.length = l0.length + 1
 last : ly[l0.length]? = some m
 mt : m.Train = t
 e1 : yOk x t = (y,true)
 e2 : yOk y t = (y,false)
 small : y.small
 places : (yUs y).length = y.Entered.length
 few : (yUs y).length ≤ 1000000000
theorem yaec {x0 x : Waterway} {ts : List Train} {t : Train} {k : Nat} (hb : Bare x0) (h : Went x0 (ts.take k) x) (hs : x.small) (hk : ts[k]? = some t) (hok : ∀ t ∈ ts,yP t = true ∧ t.small) (hnd : (ts.flatMap yaY).Nodup) (h8 : ts.length ≤ 8) :
 ∃ y K l0 ly m,Round x t y K l0 ly m ∧ Went x0 (ts.take (k + 1)) y:=by
 have hmem:=List.mem_of_getElem? hk
 have klt:=(List.getElem?_eq_some_iff.1 hk).1
 obtain ⟨hto,hts⟩:=hok t hmem
 have hsub : ∀ t ∈ ts.take k,yP t = true:=fun t h=>(hok t (List.mem_of_mem_take h)).1
 have hlk : (ts.take k).length < 20:=by rw [List.length_take]; omega
 have htk : ts.take (k + 1) = ts.take k ++ [t]:=by rw [List.take_succ,hk]; rfl
 have hW:=yacg h hto hsub hlk
 rw [← htk] at hW
 have hF:=yOO h.ok hto
 have hsy:=yOJ hF hs hts
 have hnew : ∀ i ∈ yaY t,i ∉ (ts.take k).flatMap yaY:=by
  intro i hi hm
  have hdr : ts = ts.take k ++ t :: ts.drop (k + 1):=by
   have h1 : ts.drop k = t :: ts.drop (k + 1):=by
    rw [List.drop_eq_getElem_cons klt,(List.getElem?_eq_some_iff.1 hk).2]
   rw [← h1,List.take_append_drop]
  rw [hdr,List.flatMap_append,List.nodup_append] at hnd
  exact hnd.2.2 i hm i (by simp only [List.flatMap_cons,List.mem_append]; exact .inl hi) rfl
 obtain ⟨l0,hl0⟩ : ∃ l0,x.Movers[yOI x t]? = some l0:=⟨_,List.getElem?_eq_getElem hF.kl⟩
 have hg : x.Movers.getD (yOI x t) [] = l0:=by rw [List.getD_eq_getElem?_getD,hl0]; rfl
 have hP:=yaaI hb hW
 have hle : (yUs (yOl x t)).length = (yOl x t).Entered.length:=by rw [hP.1.length_eq,hP.2]
 have hE:=(yOO hW.ok hto).ent
 refine ⟨yOl x t,yOI x t,l0,l0 ++ [⟨t,yOM x t⟩],⟨t,yOM x t⟩,⟨fun hu=>?_,fun hu=>?_,hl0,?_,by simp,by simp,rfl,yadG h hto hsub hlk hnew,yacG hto,hsy,hle,by omega⟩,hW⟩
 ·have:=hF.two
  unfold yOI; rw [if_pos hu]; omega
 ·unfold yOI; rw [hu]; rfl
 ·show (x.Movers.set (yOI x t) (x.Movers.getD (yOI x t) [] ++ [⟨t,yOM x t⟩]))[yOI x t]? = _
  rw [List.getElem?_set_self hF.kl,hg]
theorem yaen {x : Waterway} (h : yar x = true) : x.Entered.length ≤ 2000:=by
 simp only [yar,ybW,Bool.and_eq_true,decide_eq_true_eq] at h
 omega
set_option maxRecDepth 20000 in
theorem yadd (x0 : List Nat) : yB Tryz.prog 3 [.c (.sl 1 (x0.map yZn))] (.c (.b true)):=by
 refine yJu yabx fun hwf=>?_
 obtain ⟨code,hcode⟩:=yZI (x:=x0) hwf.1
 rw [hcode]
 clear hwf
 simp -dsimp -implicitDefEqProofs
 refine yc (big_c code) ?_
 by_cases hbig : 1048576 < code.length
 ·have t1 : (1048576 < code.length) = True:=eq_true hbig
  simp -dsimp -implicitDefEqProofs [t1]
 ·have t1 : (1048576 < code.length) = False:=eq_false hbig
  simp -dsimp -implicitDefEqProofs [t1]
  have hD:=yabN code (by omega)
  obtain ⟨hB,hBs⟩:=yadC code (0,hash code)
  have hB : Bare (dwX code):=hB
  have hBs : (dwX code).small:=hBs
  obtain ⟨⟨tok,_,tnd⟩,t8⟩:=yaeB code
  generalize dwX code = x0 at *
  generalize dwT code = ts at *
  refine yaP (hD) (by simp -dsimp -implicitDefEqProofs) rfl ?_
  simp -dsimp -implicitDefEqProofs
  refine yg (ι:=Nat × Waterway) (fun q=>q.1 ≤ ts.length ∧ Went x0 (ts.take q.1) q.2 ∧ q.2.small) (fun q=>yO [(3,.box 3 0),(4,.c (.sl 2 (ts.map Train.enc))),(5,.c (.i q.1))] [(3,.box (q.2.enc.map .c))]) (fun q=>ts.length - q.1) (0,x0) ⟨Nat.zero_le _,yaea hB,hBs⟩ (by apply yj <;> simp) ?_
  rintro ⟨k,x⟩ ⟨hk,hw,hs⟩
  simp only at hk hw hs
  rcases Nat.lt_or_ge k ts.length with klt | kge
  ·obtain ⟨t,ht⟩ : ∃ t,ts[k]? = some t:=⟨_,List.getElem?_eq_getElem klt⟩
   have gt:=(List.getElem?_eq_some_iff.1 ht).2
   obtain ⟨y,K,l0,ly,m,R,hwy⟩:=yaec hB hw hs ht tok tnd t8
   obtain ⟨tok1,tsm⟩:=tok t (List.mem_of_getElem? ht)
   have p1:=yaaY x t hs tsm
   have p2:=yaaY y t R.small tsm
   rw [R.e1] at p1
   rw [R.e2] at p2
   simp -dsimp -implicitDefEqProofs [ht,gt,klt,yG klt]
   intro hm
   refine ya2 (p1) (by simp -dsimp -implicitDefEqProofs) (.inl rfl) ?_
   simp -dsimp -implicitDefEqProofs [ht,gt,klt]
   refine ya2 (p2) (by simp -dsimp -implicitDefEqProofs) (.inl rfl) ?_
   have hxm:=R.xm
   have hym:=R.ym
   have gxm:=(List.getElem?_eq_some_iff.1 hxm).2
   have gym:=(List.getElem?_eq_some_iff.1 hym).2
   have lxm:=(List.getElem?_eq_some_iff.1 hxm).1
   have lym:=(List.getElem?_eq_some_iff.1 hym).1
   have hla:=R.last
   have gla:=(List.getElem?_eq_some_iff.1 hla).2
   have lla:=(List.getElem?_eq_some_iff.1 hla).1
   have hln:=R.len
   have eln : ((ly.length : Int) - 1) = ((l0.length : Nat) : Int):=by omega
   have hmt:=R.mt
   have hlI : ((ly.length : Int) = (l0.length : Int) + 1) = True:=eq_true (by omega)
   have hS:=yacp t tsm
   have hP:=yU2 y R.small R.few
   have hpe:=R.places
   have hpI : (((yUs y).length : Int) = (y.Entered.length : Int)) = True:=eq_true (by omega)
   cases hup : t.Up with
   | false =>
    have hK:=R.down hup
    subst hK
    simp -dsimp -implicitDefEqProofs [ht,gt,klt,hup,hxm,hym,gxm,gym,lxm,lym,hla,gla,lla,eln,hlI,hmt]
    intro n1 n2
    unfold maxLen at n1 n2
    refine ⟨by unfold inI; omega,fun n3=>⟨by unfold inI; omega,?_⟩⟩
    refine ⟨_,_,hS,by simp -dsimp -implicitDefEqProofs [hup],.inr rfl,?_⟩
    simp -dsimp -implicitDefEqProofs
    refine ⟨_,_,hP,by simp -dsimp -implicitDefEqProofs,.inl rfl,?_⟩
    simp -dsimp -implicitDefEqProofs [hpI]
    intro n5 n6
    refine ⟨yw klt hm,k + 1,y,⟨klt,hwy,R.small⟩,by omega,?_⟩
    apply yj <;> simp
   | true =>
    have hK:=R.up hup
    have eK : ((x.Reaches.length : Int) - 1) = ((K : Nat) : Int):=by omega
    simp -dsimp -implicitDefEqProofs [ht,gt,klt,hup,eK,hxm,hym,gxm,gym,lxm,lym,hla,gla,lla,eln,hlI,hmt]
    intro n0
    unfold maxLen at n0
    refine ⟨by unfold inI; omega,fun n1 n2=>?_⟩
    unfold maxLen at n1 n2
    refine ⟨by unfold inI; omega,fun n3=>⟨by unfold inI; omega,?_⟩⟩
    refine ⟨_,_,hS,by simp -dsimp -implicitDefEqProofs [hup],.inr rfl,?_⟩
    simp -dsimp -implicitDefEqProofs
    refine ⟨_,_,hP,by simp -dsimp -implicitDefEqProofs,.inl rfl,?_⟩
    simp -dsimp -implicitDefEqProofs [hpI]
    intro n5 n6
    refine ⟨yw klt hm,k + 1,y,⟨klt,hwy,R.small⟩,by omega,?_⟩
    apply yj <;> simp
  ·have : k = ts.length:=by omega
   subst this
   rw [List.take_length] at hw
   have hP:=yaaI hB hw
   have hE:=(yaen hw.ok)
   have hL:=yVU x hs (by rw [hP.1.length_eq,← hP.2]; omega)
   have hO:=(yabO x 0 hs).pure (y:=.c (.sl 4 [])) (by rw [yadF hB hw]; simp [AV.shr,AV.ysI,C.shr,ykv])
   rw [yacF hB hw tnd] at hL
   simp -dsimp -implicitDefEqProofs [yaB kge]
   intro hm
   refine yaQ (hL) (by simp -dsimp -implicitDefEqProofs) rfl ?_
   simp -dsimp -implicitDefEqProofs
   refine yaP (hO) (by simp -dsimp -implicitDefEqProofs) rfl ?_
   simp -dsimp -implicitDefEqProofs
theorem yZF {xs : List C} (h : Fits [.u] xs) : ∃ n : Nat,xs = yZn n:=by
 obtain ⟨c0,ys,rfl,h0,h⟩:=h.cons_inv
 obtain rfl:=h.ycx
 obtain ⟨n0,rfl⟩:=h0.u_inv
 exact ⟨n0,rfl⟩
theorem yabV : IsLaw Rows.fnOnceInSpec Tryz.f3.params.size:=by
 refine ⟨rfl,fun H ds h=>?_⟩
 match ds,h with
 | [d0],_=>rfl
theorem yabe : LawFacts Tryz.prog Tryz.f3 (Tryz.f3.resultTypes.getD 0 0) [(false,[.sl [.u]])] :=
 ⟨yrS,by kernel_rfl,by kernel_rfl,by kernel_rfl,by kernel_rfl⟩
set_option maxRecDepth 100000 in
theorem yabD (os : Os) (started : os.Started) (H : Type) (enc : TypeId × Value → H) :
 ReturnsInHanded {} Tryz.checked os 3 .any (Rows.fnOnceInSpec.pre6 enc Tryz.prog Tryz.f3 Rows.fnOnceInRow.domain false) (Rows.fnOnceInSpec.post enc Tryz.prog Tryz.f3 false true false false):=by
 refine law_lifted (C:=Tryz.checked) yt1 started (by kernel_rfl) Tryz.func3
  (ChangeSpec.witness6 (enc:=enc) (C:=Tryz.checked) false ⟨#[],#[.slice none 0 0],[]⟩ 8 (by kernel_rfl) (by kernel_rfl) (by kernel_rfl) (by kernel_rfl)) yabV yabe ?_
 rintro avs ⟨a,avs0,rfl,ha,rfl⟩
 cases ha with
 | one h0 =>
  obtain ⟨x0,rfl⟩:=h0.ycq yZn fun xs h=>yZF h
  exact yadd x0
theorem yabY : ypf Tryz.prog 3 Tryz.f3 Rows.fnOnceInSpec Rows.fnOnceInRow = true:=by kernel_rfl
theorem yabX : Tryz.pinned.checked.prog.funcNamed Rows.fnOnceInRow.func = some 3:=by kernel_rfl
theorem yaca : Tryz.f3.isInstance Tryz.pinned.checked.prog Rows.fnOnceInRow.origin Rows.fnOnceInRow.targs:=(of_decide_eq_true (by kernel_rfl))
theorem yacc : Tryz.f3.isWrapper Tryz.pinned.checked.prog Rows.fnOnceInRow.wrapper Rows.fnOnceInRow.mainSum:=by
 unfold Func.isWrapper; first | (rw [if_pos (by decide +kernel)]; kernel_rfl) | (rw [if_neg (by decide +kernel)]; exact ⟨rfl,rfl⟩)
theorem FnOnceIn_holds : Rows.FnOnceInSaid :=
 OpenClaim.holds_of_wide (p:=Tryz.pinned) (s:=Rows.fnOnceInSpec) (c:=Rows.fnOnceInRow) 3 Tryz.f3 rfl rfl rfl rfl rfl rfl rfl ⟨rfl,rfl,rfl,rfl,rfl⟩ rfl rfl rfl rfl rfl yabX Tryz.func3
  (yyi yxx yabY ⟨rfl,rfl,rfl,rfl,rfl,rfl,rfl,rfl⟩) yaca yacc (fun os started H enc _=>yabD os started H enc)
end Go.Proofs.YtpiplmnecmkafaaGreat
