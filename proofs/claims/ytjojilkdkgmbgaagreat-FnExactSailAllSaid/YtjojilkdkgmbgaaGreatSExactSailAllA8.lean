/- What the law FnExactSailAll stands on: the machine, in short form (names, layout). -/
import Derived.Test.YtjojilkdkgmbgaaGreatSExactSailAllA7
set_option linter.all false
namespace Go.Proofs.YtjojilkdkgmbgaaGreat
open Go.RowKit
inductive H where
 | p (c : C)
 | w (k : Nat) (rows : List (List C))
 | t (k : Nat) (rows : List (List C))
def H.c : H → C
 | .p c=>c
 | .w k rows=>cw k rows
 | .t k rows=>ct k rows
def hv (id k : Nat) : List (List C) → AV
 | []=>.c (.sl k [])
 | r :: l=>.own id k (r :: l).length
def hw (k : Nat) : List (List C) → Obj
 | []=>.none
 | r :: l=>.row k (r :: l)
def ht (k ver : Nat) : List (List C) → Obj
 | []=>.none
 | r :: l=>.tr k ver (r :: l)
def H.av (id : Nat) : H → AV
 | .p c=>.c c
 | .w k rows=>hv id k rows
 | .t k rows=>hv id k rows
def H.ob : H → Obj
 | .p _=>.none
 | .w k rows=>hw k rows
 | .t k rows=>ht k 0 rows
def H.ok : H → Prop
 | .p c=>c.plain = true
 | _=>True
def avH : Nat → List H → List AV
 | _,[]=>[]
 | j,h :: l=>h.av (sid 0 j) :: avH (j + 1) l
def obH : Nat → List H → Nat → Obj
 | _,[]=>fun _=>.none
 | j,h :: l=>fun i=>if i = sid 0 j then h.ob else obH (j + 1) l i
def okH : List H → Prop
 | []=>True
 | h :: l=>h.ok ∧ okH l
theorem unp_H {h : H} (ho : h.ok) (id : Nat) : h.c.unp id = h.av id:=by
 cases h with
 | p c=>exact yBw id c ho
 | w k rows=>cases rows <;> rfl
 | t k rows=>cases rows <;> rfl
theorem ywu {h : H} (ho : h.ok) (id : Nat) : (h.c.ya6 id = [] ∧ h.ob = .none) ∨ h.c.ya6 id = [(id,h.ob)]:=by
 cases h with
 | p c =>
  refine .inl ⟨?_,rfl⟩
  have hp : c.plain = true:=ho
  cases c <;> first | rfl | simp [C.plain] at hp
 | w k rows=>cases rows <;> first | exact .inl ⟨rfl,rfl⟩ | exact .inr rfl
 | t k rows=>cases rows <;> first | exact .inl ⟨rfl,rfl⟩ | exact .inr rfl
theorem yy5 : ∀ {hs : List H} {j : Nat},okH hs → yjP 0 j (hs.map H.c) = avH j hs
 | [],_,_=>rfl
 | h :: l,j,ho=>by
  show h.c.unp (sid 0 j) :: yjP 0 (j + 1) (l.map H.c) = _
  rw [unp_H ho.1,yy5 ho.2]; rfl
theorem yov : ∀ {hs : List H} {j : Nat} {p : Nat × Obj},okH hs → p ∈ ydw 0 j (hs.map H.c) → ∃ j',j ≤ j' ∧ p.1 = sid 0 j'
 | [],_,p,_,hp=>by cases hp
 | h :: l,j,p,ho,hp=>by
  rcases List.mem_append.1 (show p ∈ h.c.ya6 (sid 0 j) ++ ydw 0 (j + 1) (l.map H.c) from hp) with h1 | h1
  ·rcases ywu ho.1 (sid 0 j) with ⟨e,_⟩ | e
   ·rw [e] at h1; cases h1
   ·rw [e,List.mem_singleton] at h1; subst h1; exact ⟨j,Nat.le_refl _,rfl⟩
  ·obtain ⟨j',e1,e2⟩:=yov ho.2 h1
   exact ⟨j',by omega,e2⟩
theorem ytA {j j' : Nat} (h : sid 0 j = sid 0 j') : j = j':=by unfold sid at h; omega
theorem yu0 : ∀ {hs : List H} {j : Nat},okH hs → ((ydw 0 j (hs.map H.c)).map (·.1)).Nodup
 | [],_,_=>by simp [ydw]
 | h :: l,j,ho=>by
  show ((h.c.ya6 (sid 0 j) ++ ydw 0 (j + 1) (l.map H.c)).map (·.1)).Nodup
  have ih:=yu0 (hs:=l) (j:=j + 1) ho.2
  rcases ywu ho.1 (sid 0 j) with ⟨e,_⟩ | e
  ·rw [e]; exact ih
  ·rw [e,List.map_append,List.nodup_append]
   refine ⟨by simp,ih,fun x hx y hy hxy=>?_⟩
   simp only [List.map_cons,List.map_nil,List.mem_singleton] at hx
   obtain ⟨p,hp,rfl⟩:=List.mem_map.1 hy
   obtain ⟨j',e1,e2⟩:=yov ho.2 hp
   rw [hx,e2] at hxy
   have:=ytA hxy
   omega
theorem yzl : ∀ {hs : List H} {j i : Nat},okH hs → yaL noO (ydw 0 j (hs.map H.c)) i = obH j hs i
 | [],_,_,_=>rfl
 | h :: l,j,i,ho=>by
  show yaL noO (h.c.ya6 (sid 0 j) ++ ydw 0 (j + 1) (l.map H.c)) i = if i = sid 0 j then h.ob else obH (j + 1) l i
  have ih:=yzl (hs:=l) (j:=j + 1) (i:=i) ho.2
  have hout : i = sid 0 j → yaL noO (ydw 0 (j + 1) (l.map H.c)) i = .none:=by
   intro e
   rw [yeW]
   ·rfl
   ·intro hc
    obtain ⟨p,hp,e2⟩:=List.mem_map.1 hc
    obtain ⟨j',e3,e4⟩:=yov ho.2 hp
    rw [e4,e] at e2
    have:=ytA e2
    omega
  rcases ywu ho.1 (sid 0 j) with ⟨e,e0⟩ | e
  ·rw [e,List.nil_append]
   split
   ·rename_i h1; rw [hout h1,e0]
   ·exact ih
  ·rw [e]
   show upd (sid 0 j) h.ob _ i = _
   rw [yaq]
   split
   ·rfl
   ·exact ih
def lieH (s : St) (j : Nat) : H → Prop
 | .p c=>c.plain = true
 | .w k rows=>s.ob (sid 0 j) = hw k rows
 | .t k rows=>∃ ver,s.ob (sid 0 j) = ht k ver rows
def yxj (s : St) : Nat → List H → Prop
 | _,[]=>True
 | j,h :: l=>lieH s j h ∧ yxj s (j + 1) l
theorem yC4 {s : St} {j : Nat} {h : H} (hl : lieH s j h) : yf4 s (h.av (sid 0 j)) h.c:=by
 cases h with
 | p c=>exact ⟨rfl,hl⟩
 | w k rows =>
  cases rows with
  | nil=>exact ⟨rfl,rfl⟩
  | cons r l =>
   have ho : s.ob (sid 0 j) = .row k (r :: l):=hl
   show (match s.ob (sid 0 j) with
    | .row k0 rs=>k0 = k ∧ k = k ∧ r :: l = rs.take (r :: l).length
    | _=>False)
   rw [ho]
   exact ⟨rfl,rfl,List.take_length.symm⟩
 | t k rows =>
  obtain ⟨ver,hl⟩:=hl
  cases rows with
  | nil=>exact ⟨rfl,rfl⟩
  | cons r l =>
   have ho : s.ob (sid 0 j) = .tr k ver (r :: l):=hl
   show (match s.ob (sid 0 j) with
    | .row k0 rs=>k0 = k ∧ k = k ∧ r :: l = rs.take (r :: l).length
    | .tr k0 _ rs=>k0 = k ∧ k = k ∧ r :: l = rs.take (r :: l).length
    | _=>False)
   rw [ho]
   exact ⟨rfl,rfl,List.take_length.symm⟩
theorem yy1 {s : St} : ∀ {hs : List H} {j : Nat},yxj s j hs → ytp s (avH j hs) ((hs.map H.c).map .c)
 | [],_,_=>trivial
 | h :: l,j,hl=>⟨⟨_,rfl,yC4 hl.1⟩,yy1 hl.2⟩
theorem yCi (h : H) (id : Nat) : (h.av id).oid = [] ∨ (h.av id).oid = [id]:=by
 cases h with
 | p c=>exact .inl rfl
 | w k rows=>cases rows <;> first | exact .inl rfl | exact .inr rfl
 | t k rows=>cases rows <;> first | exact .inl rfl | exact .inr rfl
theorem yxe : ∀ {hs : List H} {j x : Nat},x ∈ (avH j hs).flatMap AV.oid → ∃ j',j ≤ j' ∧ x = sid 0 j'
 | [],_,x,hx=>by cases hx
 | h :: l,j,x,hx=>by
  rcases List.mem_append.1 (show x ∈ (h.av (sid 0 j)).oid ++ (avH (j + 1) l).flatMap AV.oid from hx) with h1 | h1
  ·rcases yCi h (sid 0 j) with e | e
   ·rw [e] at h1; cases h1
   ·rw [e,List.mem_singleton] at h1; exact ⟨j,Nat.le_refl _,h1⟩
  ·obtain ⟨j',e1,e2⟩:=yxe h1
   exact ⟨j',by omega,e2⟩
theorem ywR : ∀ {hs : List H} {j : Nat},((avH j hs).flatMap AV.oid).Nodup
 | [],_=>by simp [avH]
 | h :: l,j=>by
  show ((h.av (sid 0 j)).oid ++ (avH (j + 1) l).flatMap AV.oid).Nodup
  have ih:=ywR (hs:=l) (j:=j + 1)
  rcases yCi h (sid 0 j) with e | e
  ·rw [e]; exact ih
  ·rw [e,List.nodup_append]
   refine ⟨by simp,ih,fun x hx y hy hxy=>?_⟩
   rw [List.mem_singleton] at hx
   obtain ⟨j',e1,e2⟩:=yxe hy
   rw [hx,e2] at hxy
   have:=ytA hxy
   omega
def yvi (hs : List H) (args : List AV) : St:=⟨fun t=>if t = 1000000 then .agg (avH 0 hs) else if t = 0 then .agg (avH 0 hs) else (args[t - 1]?).getD .any,obH 0 hs⟩
def inH (s : St) (rs : List RS) (hs : List H) (res : AV) : Prop:=inP s rs (.agg ((hs.map H.c).map .c)) res
theorem yDB {s : St} {rs : List RS} {hs : List H} {res : AV} (h1 : s.env 1000000 = .agg (avH 0 hs)) (h2 : yxj s 0 hs) (h3 : yml s rs res) : inH s rs hs res:=by
 refine ⟨?_,?_,h3⟩
 ·rw [h1]; exact yy1 h2
 ·rw [h1]; exact ywR
theorem yEO {P : Program} {f N : Nat} {c : SC} {rs : List RS} {hs hs' : List H} {args : List AV} {res : AV} (hf : Has P f N c rs) (hN : args.length + 1 ≤ N) (ho : okH hs) (hsc : res.scalar = true)
 (HH : ygO args → wpS P N c (yvi hs args) (fun e s=>match e with | .exit _=>False | _=>inH s rs hs' res)) : InF P f (.agg ((hs.map H.c).map .c)) (.agg ((hs'.map H.c).map .c)) args res:=by
 refine ybO hf hN (by show ((ydw 0 0 (AV.cs ((hs.map H.c).map .c))).map (·.1)).Nodup; rw [ylW]; exact yu0 ho) hsc fun hwf=>?_
 have e : yjk (.agg ((hs.map H.c).map .c)) args = yvi hs args:=by
  have e1 : (AV.agg ((hs.map H.c).map .c)).yjS 0 = .agg (avH 0 hs):=by
   show AV.agg (yjP 0 0 (AV.cs ((hs.map H.c).map .c))) = _
   rw [ylW,yy5 ho]
  refine St.ext' (fun t=>?_) fun i=>?_
  ·show (if t = 1000000 then (AV.agg ((hs.map H.c).map .c)).yjS 0 else if t = 0 then (AV.agg ((hs.map H.c).map .c)).yjS 0 else (args[t - 1]?).getD .any) = _
   rw [e1]; rfl
  ·show yaL noO (ydw 0 0 (AV.cs ((hs.map H.c).map .c))) i = _
   rw [ylW,yzl ho]; rfl
 rw [e]
 exact HH hwf
@[simp] theorem yHz {id k : Nat} {rows : List (List C)} : (hv id k rows).yaE = true:=by cases rows <;> rfl
@[simp] theorem yGk {hs : List H} {args : List AV} {t : Nat} : (yvi hs args).env t = if t = 1000000 then .agg (avH 0 hs) else if t = 0 then .agg (avH 0 hs) else (args[t - 1]?).getD .any:=rfl
@[simp] theorem yHZ {hs : List H} {args : List AV} {i : Nat} : (yvi hs args).ob i = obH 0 hs i:=rfl
@[simp] theorem yCW {hs : List H} {args : List AV} {i : Nat} : (yvi hs args).objs i = obH 0 hs i:=rfl
@[simp] theorem avH_nil {j : Nat} : avH j [] = []:=rfl
@[simp] theorem avH_p {j : Nat} {c : C} {l : List H} : avH j (.p c :: l) = .c c :: avH (j + 1) l:=rfl
@[simp] theorem avH_w {j k : Nat} {rows : List (List C)} {l : List H} : avH j (.w k rows :: l) = hv (sid 0 j) k rows :: avH (j + 1) l:=rfl
@[simp] theorem avH_t {j k : Nat} {rows : List (List C)} {l : List H} : avH j (.t k rows :: l) = hv (sid 0 j) k rows :: avH (j + 1) l:=rfl
@[simp] theorem obH_nil {j i : Nat} : obH j [] i = .none:=rfl
@[simp] theorem obH_p {j i : Nat} {c : C} {l : List H} : obH j (.p c :: l) i = if i = sid 0 j then .none else obH (j + 1) l i:=rfl
@[simp] theorem obH_w {j k i : Nat} {rows : List (List C)} {l : List H} : obH j (.w k rows :: l) i = if i = sid 0 j then hw k rows else obH (j + 1) l i:=rfl
@[simp] theorem obH_t {j k i : Nat} {rows : List (List C)} {l : List H} : obH j (.t k rows :: l) i = if i = sid 0 j then ht k 0 rows else obH (j + 1) l i:=rfl
section
variable {P : Program} {f : Nat} {s : St} {d : Option Nat} {avs args : List AV} {res : AV} {K : St → Prop} {id k ver : Nat} {rows rows' : List (List C)}
theorem ygd {o : Obj} (h : s.ob id = o) : s.yat id o = s:=by
 refine St.ext' (fun t=>rfl) fun i=>?_
 show upd id o s.objs i = _
 rw [yaq]
 split
 ·rename_i e; rw [e]; exact h.symm
 ·rfl
theorem yy6 (h : rows'.length = rows.length) : hv id k rows' = hv id k rows:=by
 cases rows <;> cases rows' <;> simp_all [hv]
theorem yl7 (hp : InF P f (.c (cw k rows)) (.c (cw k rows')) args res) (hO : s.ob id = hw k rows) (hl : rows'.length = rows.length) (ho : ybD s avs args) (hdat : avs.all AV.ycJ = true) (hs : res.scalar = true)
 (hK : K ((s.yat id (hw k rows')).put d res)) : yfo P f (hv id k rows :: avs) d s K:=by
 cases rows with
 | nil =>
  have : rows' = []:=List.length_eq_zero_iff.1 (by simpa using hl)
  subst this
  refine ycW (up:=none) hp ho hdat hs (yb6 rfl) ?_
  rw [ygd (o:=hw k []) hO] at hK
  exact hK
 | cons r l =>
  obtain ⟨r',l',rfl⟩ : ∃ r' l',rows' = r' :: l':=by cases rows' with | nil=>simp at hl | cons r' l'=>exact ⟨r',l',rfl⟩
  refine ycW (up:=some (id,.row k (r' :: l'))) hp ho hdat hs (ybY (rows:=r :: l) hO rfl rfl rfl hl rfl rfl) ?_
  exact hK
theorem ygZ (hp : InF P f (.c (ct k rows)) (.c (ct k rows')) args res) (hO : s.ob id = ht k ver rows) (hl : rows'.length = rows.length) (ho : ybD s avs args) (hdat : avs.all AV.ycJ = true) (hs : res.scalar = true)
 (hK : K ((s.yat id (ht k (ver + 1) rows')).put d res)) : yfo P f (hv id k rows :: avs) d s K:=by
 cases rows with
 | nil =>
  have : rows' = []:=List.length_eq_zero_iff.1 (by simpa using hl)
  subst this
  refine ycW (up:=none) hp ho hdat hs (yb6 rfl) ?_
  rw [ygd (o:=ht k (ver + 1) []) hO] at hK
  exact hK
 | cons r l =>
  obtain ⟨r',l',rfl⟩ : ∃ r' l',rows' = r' :: l':=by cases rows' with | nil=>simp at hl | cons r' l'=>exact ⟨r',l',rfl⟩
  refine ycW (up:=some (id,.tr k (ver + 1) (r' :: l'))) hp ho hdat hs (yf9 (rows:=r :: l) hO rfl rfl rfl rfl hl rfl rfl) ?_
  exact hK
theorem yzw {c1 c2 : C} {i1 i2 k1 k2 : Nat} {r1 r2 r1' r2' : List (List C)} (hp : InF P f (.agg ([c1,c2,cw k1 r1,cw k2 r2].map .c)) (.agg ([c1,c2,cw k1 r1',cw k2 r2'].map .c)) args res) (hne : i1 ≠ i2) (p1 : c1.plain = true) (p2 : c2.plain = true)
 (h1 : s.ob i1 = hw k1 r1) (h2 : s.ob i2 = hw k2 r2) (l1 : r1'.length = r1.length) (l2 : r2'.length = r2.length) (ho : ybD s avs args) (hdat : avs.all AV.ycJ = true) (hs : res.scalar = true)
 (hK : K (((s.yat i1 (hw k1 r1')).yat i2 (hw k2 r2')).put d res)) : yfo P f (.agg [.c c1,.c c2,hv i1 k1 r1,hv i2 k2 r2] :: avs) d s K:=by
 cases r1 with
 | nil =>
  have e1 : r1' = []:=List.length_eq_zero_iff.1 (by simpa using l1)
  subst e1
  rw [ygd (o:=hw k1 []) h1] at hK
  cases r2 with
  | nil =>
   have e2 : r2' = []:=List.length_eq_zero_iff.1 (by simpa using l2)
   subst e2
   rw [ygd (o:=hw k2 []) h2] at hK
   exact yg1 (ups:=[none,none,none,none]) hp ho hdat hs ⟨yb6 p1,yb6 p2,yb6 rfl,yb6 rfl,trivial⟩ (by simp [ydf]) hK
  | cons r l =>
   obtain ⟨r',l',rfl⟩ : ∃ r' l',r2' = r' :: l':=by cases r2' with | nil=>simp at l2 | cons r' l'=>exact ⟨r',l',rfl⟩
   exact yg1 (ups:=[none,none,none,some (i2,.row k2 (r' :: l'))]) hp ho hdat hs ⟨yb6 p1,yb6 p2,yb6 rfl,ybY (rows:=r :: l) h2 rfl rfl rfl l2 rfl rfl,trivial⟩ (by simp [ydf]) hK
 | cons q m =>
  obtain ⟨q',m',rfl⟩ : ∃ r' l',r1' = r' :: l':=by cases r1' with | nil=>simp at l1 | cons r' l'=>exact ⟨r',l',rfl⟩
  cases r2 with
  | nil =>
   have e2 : r2' = []:=List.length_eq_zero_iff.1 (by simpa using l2)
   subst e2
   have h2' : (s.yat i1 (hw k1 (q' :: m'))).ob i2 = hw k2 []:=by
    show upd i1 _ s.objs i2 = _
    rw [yaq,if_neg (Ne.symm hne)]; exact h2
   rw [ygd (o:=hw k2 []) h2'] at hK
   exact yg1 (ups:=[none,none,some (i1,.row k1 (q' :: m')),none]) hp ho hdat hs ⟨yb6 p1,yb6 p2,ybY (rows:=q :: m) h1 rfl rfl rfl l1 rfl rfl,yb6 rfl,trivial⟩ (by simp [ydf]) hK
  | cons r l =>
   obtain ⟨r',l',rfl⟩ : ∃ r' l',r2' = r' :: l':=by cases r2' with | nil=>simp at l2 | cons r' l'=>exact ⟨r',l',rfl⟩
   refine yg1 (ups:=[none,none,some (i1,.row k1 (q' :: m')),some (i2,.row k2 (r' :: l'))]) hp ho hdat hs ⟨yb6 p1,yb6 p2,ybY (rows:=q :: m) h1 rfl rfl rfl l1 rfl rfl,ybY (rows:=r :: l) h2 rfl rfl rfl l2 rfl rfl,trivial⟩ (by simp [ydf,hne]) ?_
   have e : s.turned [none,none,some (i1,.row k1 (q' :: m')),some (i2,.row k2 (r' :: l'))] = (s.yat i1 (hw k1 (q' :: m'))).yat i2 (hw k2 (r' :: l')):=by
    refine St.ext' (fun t=>rfl) fun i=>?_
    show upd i1 _ (upd i2 _ s.objs) i = upd i2 _ (upd i1 _ s.objs) i
    simp only [yaq]
    by_cases a : i = i1
    ·have b : i ≠ i2:=fun h=>hne (a.symm.trans h)
     rw [if_pos a,if_neg b,if_pos a]; rfl
    ·rw [if_neg a]
     by_cases b : i = i2
     ·rw [if_pos b,if_pos b]; rfl
     ·rw [if_neg b,if_neg b,if_neg a]
   rw [e]; exact hK
end
end Go.Proofs.YtjojilkdkgmbgaaGreat
