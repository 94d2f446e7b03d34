/- What the law FnExactAbleCalls stands on: contracts of functions, what each answers as plain Lean, in short form (names, layout). -/
import Derived.Test.YtmimbhooaidelaaGreatSExactAbleCalls4
set_option linter.all false
namespace Go.Proofs.YtmimbhooaidelaaGreat
open Go.RowKit
open Go.ChangeShapes Go.WideShapes
theorem ytp (xs : List Passing) (k : Int) (h0 : 0 ≤ k) (h1 : k + cnt yaz xs ≤ 8000000000000000000) :
 InF Tryz.prog ydm (.c (ct 4 (xs.map Passing.yO))) (.c (ct 4 (yaF yby yaz k xs))) [.c (.i k)] (.c (.i (k + cnt yaz xs))) := by
 rcases Nat.eq_zero_or_pos xs.length with hx | hx
 ·have : xs = [] := List.length_eq_zero_iff.1 hx
  subst this
  refine ybq ygP (by simp) (by simp) rfl fun hwf => ?_
  simp -dsimp -implicitDefEqProofs [ydl, yaF, cnt]
  refine yh (ι := Unit) (fun _ => True) (fun _ => yP [(0, .c (.sl 4 [])), (1, .c (.i k)), (5, .c (.i 0)), (1000000, .c (.sl 4 []))] []) (fun _ => 0) () trivial (by apply yj <;> simp [AV.yc, AV.yA, Obj.yc]) ?_
  rintro _ _
  simp -dsimp -implicitDefEqProofs
 ·rw [ycp (by simpa using hx), ycp (by rw [yU]; exact hx)]
  refine ybq ygP (by simp) (by simp) rfl fun hwf => ?_
  simp -dsimp -implicitDefEqProofs [ydl]
  refine yh (ι := Nat) (fun i => i ≤ xs.length) (fun i => yP [(0, .own 0 4 xs.length), (1, .c (.i (k + yaY yaz xs i))), (5, .c (.i i)), (1000000, .own 0 4 xs.length)] [(0, .tr 4 0 (ycc yby Passing.yO yaz k xs i))]) (fun i => xs.length - i) 0 (by simp) (by apply yj <;> simp [AV.yc, AV.yA, Obj.yc, ycW, yb0, Obj.leO]) ?_
  rintro i hi
  rcases Nat.lt_or_ge i xs.length with hlt | hge
  ·obtain ⟨e, he⟩ : ∃ e, xs[i]? = some e := ⟨_, List.getElem?_eq_getElem hlt⟩
   have hg := ydZ (f := yby) (g := Passing.yO) (n := yaz) (k := k) he
   have hl := yd2 (f := yby) (g := Passing.yO) (n := yaz) (k := k) (xs := xs) (i := i)
   have hs := yd4 (f := yby) (g := Passing.yO) (n := yaz) (k := k) he
   have hc := ybY (n := yaz) he
   have hle := ydr (n := yaz) (xs := xs) (i := i + 1)
   have hn : yaz e = 1 + 1 + 1 + cnt nB e.Train.Rows := rfl
   generalize hM : ycc yby Passing.yO yaz k xs i = M at *
   generalize hK : (k + (yaY yaz xs i : Int)) = K at *
   have hlt2 : i < M.length := by omega
   have g1 : M[i] = Passing.yO e := (List.getElem?_eq_some_iff.1 hg).2
   have hself : ∀ a, (M.set i a)[i]? = some a := fun a => List.getElem?_set_self hlt2
   have hgetD : ∀ a, (M.set i a)[i]?.getD [] = a := fun a => by rw [hself]; rfl
   simp only [Passing.yO] at hg g1
   have hk : 0 ≤ K := by omega
   simp -dsimp -implicitDefEqProofs [yI hlt, hg, hl, hlt2, g1, hself, setAt]
   intro hlen
   repeat (refine ⟨by first | exact hlt | (unfold inI; omega) | exact yfP (by omega), ?_⟩)
   refine ybB (k0 := 4) (j := 3) (i := (i : Int)) (r := [.i K, .i (K + 1), .b (decide ((K + 1 + 1).tmod 3 = 0)), .ot 1 (e.Train.Rows.map yS)]) (c := .ot 1 (e.Train.Rows.map yS)) (c' := .ot 1 (yaF fB nB (K + 1 + 1 + 1) e.Train.Rows)) (ygX e.Train.Rows (K + 1 + 1 + 1) (by omega) (by omega)) (by simp) rfl rfl rfl (by first | exact hself _ | simpa using hg) rfl ⟨_, by rw [yU]; simp, rfl, rfl, rfl⟩ (by simp [C.sz]) ?_
   simp -dsimp -implicitDefEqProofs [setAt, hself, hlt2, hl]
   repeat (refine ⟨by first | exact hlt | (unfold inI; omega) | exact yfP (by omega) | exact yu hlt hlen, ?_⟩)
   refine ⟨i + 1, hlt, by omega, ?_⟩
   simp only [yby] at hs
   apply yj <;> simp [AV.yc, AV.yA, Obj.yc, Obj.leO, hs, hself] <;> omega
  ·have : i = xs.length := by omega
   subst this
   simp -dsimp -implicitDefEqProofs
   intro _
   rw [ydX (Nat.le_refl _), ycC (Nat.le_refl _), List.take_of_length_le (by rw [yU]; exact Nat.le_refl _)]
   exact ⟨rfl, rfl⟩
@[simp] def Waterway.yO (e : Waterway) : List C := [.i e.Time, .ot 3 (e.Reaches.map Reach.yO), .ow 2 (e.Ways.map Way.enc), .ot 22 (e.Works.map Work.yO), .ot 1 (e.Movers.map yaE), .ot 2 (e.Arrived.map Train.yO), .ow 1 (e.Entered.map yac), .i e.Tariff.Base, .i e.Tariff.PerArea, .ow 1 (e.Tariff.PerClass.map yac), .ow 1 (e.Tariff.Weights.map yac), .ow 5 (e.Book.map Entry.enc), .ot 4 (e.Passings.map Passing.yO), .i e.Start, .i e.In, .i e.Out]
theorem Waterway.yaa (e : Waterway) : ybV e.yO = some e.enc := by simp [Waterway.yO, ybV, yc6 Reach.yaa, yc6 Work.yaa, yc6 ycB, yc6 Train.yaa, yc6 Passing.yaa]
theorem Waterway.yas (e : Waterway) : ∀ c ∈ e.yO, c.closed := by
 simp only [Waterway.yO, List.mem_cons, List.not_mem_nil, or_false, forall_eq_or_imp, forall_eq]
 exact ⟨by simp [C.closed], ybD Reach.yas _ _, by simp [C.closed], ybD Work.yas _ _, ybD ypo _ _, ybD Train.yas _ _, by simp [C.closed], by simp [C.closed], by simp [C.closed], by simp [C.closed], by simp [C.closed], by simp [C.closed], ybD Passing.yas _ _, by simp [C.closed], by simp [C.closed], by simp [C.closed]⟩
set_option maxRecDepth 20000 in
theorem yvC (e : Waterway) (hl : Waterway.small e) : ycE Tryz.prog ya6 [.agg (e.enc.map .c)] (.agg (e.yO.map .c)) := by
 refine ybb yih (by simp) fun hwf => ?_
 simp -dsimp -implicitDefEqProofs [yev]
 refine yal (yyO e.Reaches hl.1) (by simp) (ybD Reach.yas _ _) (by simp [yau]) ?_
 simp -dsimp -implicitDefEqProofs [yK]
 refine yal (yBR e.Ways hl.2.1) (by simp) (by simp [AV.closed, AV.ybW, C.closed]) (by simp [yau]) ?_
 simp -dsimp -implicitDefEqProofs [yK]
 refine yal (yAq e.Works hl.2.2.1) (by simp) (ybD Work.yas _ _) (by simp [yau]) ?_
 simp -dsimp -implicitDefEqProofs [yK]
 refine yal (yxp e.Movers hl.2.2.2.1) (by simp) (ybD ypo _ _) (by simp [yau]) ?_
 simp -dsimp -implicitDefEqProofs [yK]
 refine yal (yrY e.Arrived hl.2.2.2.2.1) (by simp) (ybD Train.yas _ _) (by simp [yau]) ?_
 simp -dsimp -implicitDefEqProofs [yK]
 refine yal (ypt e.Entered hl.2.2.2.2.2.1.1) (by simp) (by simp [AV.closed, AV.ybW, C.closed]) (by simp [yau]) ?_
 simp -dsimp -implicitDefEqProofs [yK]
 refine yal (yzy e.Tariff hl.2.2.2.2.2.2.1) (by simp) (yhi (Tariff.yas _)) (by simp [yau]) ?_
 simp -dsimp -implicitDefEqProofs [yK]
 refine yal (yyC e.Book hl.2.2.2.2.2.2.2.1.1) (by simp) (by simp [AV.closed, AV.ybW, C.closed]) (by simp [yau]) ?_
 simp -dsimp -implicitDefEqProofs [yK]
 refine yal (ywi e.Passings hl.2.2.2.2.2.2.2.2) (by simp) (ybD Passing.yas _ _) (by simp [yau]) ?_
 simp -dsimp -implicitDefEqProofs [yK]
theorem yyh (xs : List CallT) (hl : yd0 xs) : ycE Tryz.prog yfb [.c (.sl 4 (xs.map CallT.enc))] (.c (.ot 4 (xs.map CallT.yO))) := by
 refine ybb yqe (by simp) fun hwf => ?_
 simp -dsimp -implicitDefEqProofs [yjA]
 intro hlen
 have hl1 := hl.1
 refine yu0 (k0 := 4) 3 4 (by simp) (by simp) (by decide) ?_
 refine yh (ι := Nat) (fun k => k ≤ xs.length) (fun k => yP [(3, .own 3 4 k), (6, .c (.sl 4 (xs.map CallT.enc))), (7, .c (.i xs.length)), (8, .c (.i k))] [(3, .tr 4 0 ((xs.take k).map CallT.yO))]) (fun k => xs.length - k) 0 (by simp) (by apply yj <;> simp [AV.yc, AV.yA, Obj.yc, Obj.leO]) ?_
 rintro k hk
 rcases Nat.lt_or_ge k xs.length with hlt | hge
 ·obtain ⟨e, he⟩ : ∃ e, xs[k]? = some e := ⟨_, List.getElem?_eq_getElem hlt⟩
  have hs : xs.take (k + 1) = xs.take k ++ [e] := by rw [List.take_succ, he]; rfl
  have he2 := hl.2 e (List.mem_of_getElem? he)
  have g1 := (List.getElem?_eq_some_iff.1 he).2
  simp -dsimp -implicitDefEqProofs [he, g1, hlt, yI hlt]
  refine yuZ (yxQ e.Train he2) (by simp) (yhi (Train.yas e.Train)) (by simp [yau]) ?_
  simp -dsimp -implicitDefEqProofs [yK, Nat.min_eq_left hk, yo0]
  refine ⟨by omega, yu hlt hlen, k + 1, hlt, by omega, ?_⟩
  have hs2 : (xs.map CallT.yO).take (k + 1) = (xs.map CallT.yO).take k ++ [CallT.yO e] := by rw [← List.map_take, ← List.map_take, hs, List.map_append]; rfl
  apply yj <;> simp [AV.yc, AV.yA, Obj.yc, Obj.leO, hs2]
 ·have : k = xs.length := by omega
  subst this
  simp -dsimp -implicitDefEqProofs [yK]
  try simp
def ytG (W : Int) (k : Nat) (a : Int × Int × Int) (t : Train) : Int × Int × Int :=
 if 0 < k ∧ a.2.1 + yaR t ≤ W then (a.1, a.2.1 + yaR t, if a.2.2 < yb9 t then yb9 t else a.2.2)
 else (a.1 + a.2.2, yaR t, yb9 t)
def ygh (W : Int) (l : List Train) : Nat → Int × Int × Int
 | 0 => (0, 0, 0)
 | k + 1 => match l[k]? with
  | some t => ytG W k (ygh W l k) t
  | none => ygh W l k
def ydj (L W : Int) (l : List Train) : Bool := Distinct l && l.all (fun t => decide (yaR t ≤ W)) && decide ((ygh W l l.length).1 + (ygh W l l.length).2.2 ≤ L)
theorem ypN {W : Int} {l : List Train} {k : Nat} {t : Train} (h : l[k]? = some t) : ygh W l (k + 1) = ytG W k (ygh W l k) t := by
 simp only [ygh, h]
theorem yvw {W : Int} {l : List Train} : ∀ k : Nat, (0 ≤ (ygh W l k).1 ∧ (ygh W l k).1 ≤ 1200 * k) ∧ (0 ≤ (ygh W l k).2.1 ∧ (ygh W l k).2.1 ≤ 180 * k) ∧ (0 ≤ (ygh W l k).2.2 ∧ (ygh W l k).2.2 ≤ 1200)
 | 0 => by simp [ygh]
 | k + 1 => by
  have ih := yvw (W := W) (l := l) k
  cases h : l[k]? with
  | none => simp only [ygh, h]; omega
  | some t =>
   have h1 := yop t
   have h2 := ymt t
   rw [ypN h]
   unfold ytG
   split
   ·simp only
    refine ⟨by omega, by omega, ?_⟩
    split <;> omega
   ·simp only; omega
theorem yqm {L W : Int} {l : List Train} (h : Distinct l = false) : ydj L W l = false := by simp [ydj, h]
theorem yDS {l : List Train} (h : 8 < l.length) : Distinct l = false := by
 have : decide (l.length ≤ 8) = false := by simp; omega
 simp [Distinct, this]
theorem yqO {L W : Int} {l : List Train} {k : Nat} {t : Train} (h : l[k]? = some t) (hw : W < yaR t) : ydj L W l = false := by
 have : l.all (fun t => decide (yaR t ≤ W)) = false := all_false (p := fun t => decide (yaR t ≤ W)) h (by simp; omega)
 simp only [ydj, this, Bool.and_false, Bool.false_and]
theorem yje (l : List Train) (e : Lock) (hs : ya9 l) : yF Tryz.prog ydR [.agg (e.enc.map .c), .c (.sl 2 (l.map Train.enc))] (.c (.b (ydj e.Length e.Width l))) := by
 refine yt yor (by simp) fun hwf => ?_
 simp -dsimp -implicitDefEqProofs [yhh]
 refine yg (yjG l hs) (by simp) rfl ?_
 cases hd : Distinct l with
 | false => simp -dsimp -implicitDefEqProofs; exact yqm hd
 | true =>
 have h8 : l.length ≤ 8 := by simp only [Distinct, Bool.and_eq_true, decide_eq_true_eq] at hd; exact hd.1.1
 simp -dsimp -implicitDefEqProofs
 intro hlen
 refine yh (ι := Nat) (fun k => k ≤ l.length ∧ ∀ t ∈ l.take k, decide (yaR t ≤ e.Width) = true) (fun k => yP [(2, .box 2 0), (5, .c (.i (ygh e.Width l k).1)), (6, .c (.i (ygh e.Width l k).2.1)), (7, .c (.i (ygh e.Width l k).2.2)), (15, .c (.sl 2 (l.map Train.enc))), (16, .c (.i l.length)), (17, .c (.i k))] [(2, .box (e.enc.map .c))]) (fun k => l.length - k) 0 (by simp) (by apply yj <;> simp [AV.yc, AV.yA, Obj.yc, ygh]) ?_
 rintro k ⟨hk, hall⟩
 have hin := yvw (W := e.Width) (l := l) k
 rcases Nat.lt_or_ge k l.length with hlt | hge
 ·obtain ⟨t, ht⟩ : ∃ t, l[k]? = some t := ⟨_, List.getElem?_eq_getElem hlt⟩
  have hts := hs.2 t (List.mem_of_getElem? ht)
  have h1 := yop t
  have h2 := ymt t
  have e1 := ypN (W := e.Width) ht
  simp -dsimp -implicitDefEqProofs [ht, yI hlt]
  refine ⟨_, _, yvx t hts, by simp, .inr rfl, ?_⟩
  simp -dsimp -implicitDefEqProofs
  refine ⟨_, _, yuG t hts, by simp, .inr rfl, ?_⟩
  simp -dsimp -implicitDefEqProofs
  refine ⟨fun hw => (yqO ht hw), fun hw => ?_⟩
  have hall' := yL (p := fun t => decide (yaR t ≤ e.Width)) ht hall (by simpa using hw)
  unfold ytG at e1
  have hall2 : ∀ x ∈ l.take (k + 1), yaR x ≤ e.Width := by simpa using hall'
  refine ⟨fun hk0 => ⟨by unfold inI; omega, fun hf => ?_, fun hf => ?_⟩, fun hk0 => ?_⟩
  ·have e2 := e1.trans (if_pos ⟨hk0, hf⟩)
   refine ⟨by unfold inI; omega, yu hlt hlen, k + 1, ⟨hlt, hall2⟩, by omega, ?_⟩
   apply yj <;> simp [AV.yc, AV.yA, Obj.yc, e2]
  ·have e2 := e1.trans (if_neg (fun h => by omega))
   refine ⟨by unfold inI; omega, yu hlt hlen, k + 1, ⟨hlt, hall2⟩, by omega, ?_⟩
   apply yj <;> simp [AV.yc, AV.yA, Obj.yc, e2]
  ·have e2 := e1.trans (if_neg (fun h => by omega))
   refine ⟨by unfold inI; omega, yu hlt hlen, k + 1, ⟨hlt, hall2⟩, by omega, ?_⟩
   apply yj <;> simp [AV.yc, AV.yA, Obj.yc, e2]
 ·have hall2 := yQ (p := fun t => decide (yaR t ≤ e.Width)) hge hall
  have : k = l.length := by omega
  subst this
  simp -dsimp -implicitDefEqProofs
  refine ⟨by unfold inI; omega, ?_⟩
  have ha : l.all (fun t => decide (yaR t ≤ e.Width)) = true := hall2
  simp only [ydj, hd, ha, Bool.true_and]
theorem yjy (l : List Train) (e : Lock) (hs : ya9 l) : yF Tryz.prog ydW [.agg (e.enc.map .c), .c (.sl 2 (l.map Train.enc))] (.c (.b (ydj e.Length e.Width l))) := by
 refine yt yoz (by simp) fun hwf => ?_
 simp -dsimp -implicitDefEqProofs [yhP]
 intro hlen0
 refine ⟨fun h8 => yqm (yDS (by omega)), fun h8 => ?_⟩
 refine yh (ι := Nat) (fun k => k ≤ l.length ∧ (∀ t ∈ l.take k, yH t = true) ∧ ∀ t ∈ l.take k, decide (yaR t ≤ e.Width) = true) (fun k => yP [(2, .box 2 0), (1, .c (.sl 2 (l.map Train.enc))), (5, .c (.i (ygh e.Width l k).1)), (7, .c (.i (ygh e.Width l k).2.1)), (6, .c (.i (ygh e.Width l k).2.2)), (8, .c (.i k))] [(2, .box (e.enc.map .c))]) (fun k => l.length - k) 0 (by simp) (by apply yj <;> simp [AV.yc, AV.yA, Obj.yc, ygh]) ?_
 rintro k ⟨hk, hok, hall⟩
 have hin := yvw (W := e.Width) (l := l) k
 rcases Nat.lt_or_ge k l.length with hlt | hge
 ·obtain ⟨t, ht⟩ : ∃ t, l[k]? = some t := ⟨_, List.getElem?_eq_getElem hlt⟩
  have hts := hs.2 t (List.mem_of_getElem? ht)
  have h1 := yop t
  have h2 := ymt t
  have e1 := ypN (W := e.Width) ht
  simp -dsimp -implicitDefEqProofs [ht, yI hlt]
  intro hlen
  refine yg (ybg t hts) (by simp) rfl ?_
  cases hto : yH t with
  | false => simp -dsimp -implicitDefEqProofs; exact yqm (yqj ht hto)
  | true =>
  have hok' := yL (p := yH) ht hok hto
  simp -dsimp -implicitDefEqProofs [ht, yI hlt]
  refine yg (ywE t hts) (by simp) rfl ?_
  simp -dsimp -implicitDefEqProofs
  refine ⟨fun hw => (yqO ht hw), fun hw => ?_⟩
  have hall' := yL (p := fun t => decide (yaR t ≤ e.Width)) ht hall (by simpa using hw)
  unfold ytG at e1
  have hall2 : ∀ x ∈ l.take (k + 1), yaR x ≤ e.Width := by simpa using hall'
  refine ⟨fun hk0 => ⟨by unfold inI; omega, fun hf => ?_, fun hf => ?_⟩, fun hk0 => ?_⟩
  ·have e2 := e1.trans (if_pos ⟨hk0, hf⟩)
   refine ⟨by unfold inI; omega, ?_⟩
   simp -dsimp -implicitDefEqProofs [ht, (List.getElem?_eq_some_iff.1 ht).2, hlt, yI hlt]
   refine yg (yiN t hts) (by simp) rfl ?_
   simp -dsimp -implicitDefEqProofs
   refine ⟨yu hlt hlen, k + 1, ⟨hlt, hok', hall2⟩, by omega, ?_⟩
   apply yj <;> simp [AV.yc, AV.yA, Obj.yc, e2]
  ·have e2 := e1.trans (if_neg (fun h => by omega))
   refine ⟨by unfold inI; omega, ?_⟩
   simp -dsimp -implicitDefEqProofs [ht, (List.getElem?_eq_some_iff.1 ht).2, hlt, yI hlt]
   refine yg (yiN t hts) (by simp) rfl ?_
   simp -dsimp -implicitDefEqProofs
   refine ⟨yu hlt hlen, k + 1, ⟨hlt, hok', hall2⟩, by omega, ?_⟩
   apply yj <;> simp [AV.yc, AV.yA, Obj.yc, e2]
  ·have e2 := e1.trans (if_neg (fun h => by omega))
   refine ⟨by unfold inI; omega, ?_⟩
   simp -dsimp -implicitDefEqProofs [ht, (List.getElem?_eq_some_iff.1 ht).2, hlt, yI hlt]
   refine yg (yiN t hts) (by simp) rfl ?_
   simp -dsimp -implicitDefEqProofs
   refine ⟨yu hlt hlen, k + 1, ⟨hlt, hok', hall2⟩, by omega, ?_⟩
   apply yj <;> simp [AV.yc, AV.yA, Obj.yc, e2]
 ·have hall2 := yQ (p := fun t => decide (yaR t ≤ e.Width)) hge hall
  have hok2 := yQ (p := yH) hge hok
  have hok3 : ∀ t ∈ l, yH t = true := List.all_eq_true.1 hok2
  have : k = l.length := by omega
  subst this
  simp -dsimp -implicitDefEqProofs
  intro _
  refine ⟨by unfold inI; omega, fun hL => ?_, fun hL => ?_⟩
  ·have h88 : l.length ≤ 8 := by omega
   refine yg (ymO l hs h88 hok3) (by simp) rfl ?_
   simp -dsimp -implicitDefEqProofs
   have : l.length ≤ 8 := by omega
   simp [ydj, Distinct, hok2, hall2, hL, this]
  ·simp only [ydj]
   have : ¬ ((ygh e.Width l l.length).1 + (ygh e.Width l l.length).2.2 ≤ e.Length) := by omega
   simp [this]
def yoG (a b : Reach) (w : Work) (c : CallT) : Int := if c.Train.Up then ya3 b - w.Lock.SillBelow else ya3 a - w.Lock.SillAbove
def yd9 (a b : Reach) (w : Work) (c : CallT) : Bool := decide (ya0 c.Train ≤ yoG a b w c) && ydj w.Lock.Length w.Lock.Width [c.Train]
def able (a b : Reach) (w : Work) : List CallT := w.Calls.filter (yd9 a b w)
def yfd (a b : Reach) (w : Work) (k : Nat) : List CallT := (w.Calls.take k).filter (yd9 a b w)
theorem yqq {a b : Reach} {w : Work} {k : Nat} {c : CallT} (h : w.Calls[k]? = some c) : yfd a b w (k + 1) = yfd a b w k ++ (if yd9 a b w c then [c] else []) := by
 unfold yfd
 rw [List.take_succ, h, List.filter_append]
 cases hc : yd9 a b w c <;> simp [hc]
theorem ysT {a b : Reach} {w : Work} {k : Nat} (h : w.Calls.length ≤ k) : yfd a b w k = able a b w := by
 unfold yfd able; rw [List.take_of_length_le h]
theorem yrN {a b : Reach} {w : Work} {k : Nat} : (yfd a b w k).length ≤ w.Calls.length := by
 have := List.length_filter_le (yd9 a b w) (w.Calls.take k)
 rw [List.length_take] at this
 unfold yfd; omega
structure SillOk (w : Work) : Prop where
 a : 0 ≤ w.Lock.SillAbove ∧ w.Lock.SillAbove ≤ 100000
 b : 0 ≤ w.Lock.SillBelow ∧ w.Lock.SillBelow ≤ 100000
theorem yC3 {w : Work} (h : yaS w = true) : SillOk w := by
 simp only [yaS, ya4, Bool.and_eq_true] at h
 exact ⟨yR.1 h.1.1.1.1.1.1.1.1.1.1.1.1.1.2, yR.1 h.1.1.1.1.1.1.1.1.1.1.1.1.2⟩
theorem ywS {t : Train} (h : t.small) : ya9 [t] := ⟨by simp, fun x hx => by simp at hx; rw [hx]; exact h⟩
set_option maxRecDepth 20000 in
theorem yHA (x : Waterway) (k : Nat) (w : Work) (a b : Reach) (hs : Work.small w) (hw : x.Works[k]? = some w) (ha : x.Reaches[k]? = some a) (hb : x.Reaches[k + 1]? = some b) (hsill : SillOk w) (hrl : x.Reaches.length ≤ 1048576) :
 yF Tryz.prog ymo [.agg (x.enc.map .c), .c (.i k)] (.c (.sl 4 ((able a b w).map CallT.enc))) := by
 have kw := (List.getElem?_eq_some_iff.1 hw).1
 have ka := (List.getElem?_eq_some_iff.1 ha).1
 have kb := (List.getElem?_eq_some_iff.1 hb).1
 have gw := (List.getElem?_eq_some_iff.1 hw).2
 have ga := (List.getElem?_eq_some_iff.1 ha).2
 have gb := (List.getElem?_eq_some_iff.1 hb).2
 obtain ⟨q1, q2⟩ := hsill
 have la := ykD a
 have lb := ykD b
 have hc1 := hs.2.2.1
 refine yt yxx (by simp) fun hwf => ?_
 simp -dsimp -implicitDefEqProofs [yqK, hw, gw, kw, yI kw]
 simp -dsimp -implicitDefEqProofs [ha, ga, ka, yI ka]
 refine ⟨_, _, ypi a, by simp, .inr rfl, ?_⟩
 simp -dsimp -implicitDefEqProofs
 refine ⟨by unfold inI; omega, by unfold inI; omega, by omega, by omega, ?_⟩
 simp -dsimp -implicitDefEqProofs [hb, gb]
 refine ⟨_, _, ypi b, by simp, .inr rfl, ?_⟩
 simp -dsimp -implicitDefEqProofs
 refine ⟨by unfold inI; omega, fun hlen => ?_⟩
 refine ym3 (k0 := 4) 8 4 (by simp) (by simp) (by decide) ?_
 refine yh (ι := Nat) (fun i => i ≤ w.Calls.length) (fun i => yP [(2, .box 2 0), (5, .box 5 0), (6, .c (.i (ya3 a - w.Lock.SillAbove))), (7, .c (.i (ya3 b - w.Lock.SillBelow))), (8, .own 8 4 (yfd a b w i).length), (39, .c (.sl 4 (w.Calls.map CallT.enc))), (40, .c (.i w.Calls.length)), (41, .c (.i i))] [(2, .box (x.enc.map .c)), (5, .box (w.enc.map .c)), (8, .row 4 ((yfd a b w i).map CallT.enc))]) (fun i => w.Calls.length - i) 0 (by simp) (by apply yj <;> simp [AV.yc, AV.yA, Obj.yc, yfd]) ?_
 rintro i hi
 have hil := yrN (a := a) (b := b) (w := w) (k := i)
 rcases Nat.lt_or_ge i w.Calls.length with hlt | hge
 ·obtain ⟨c, hc⟩ : ∃ c, w.Calls[i]? = some c := ⟨_, List.getElem?_eq_getElem hlt⟩
  have g1 := (List.getElem?_eq_some_iff.1 hc).2
  have hcs := hs.2.2.2 c (List.mem_of_getElem? hc)
  have e1 := yqq (a := a) (b := b) hc
  have hd := ypl c.Train
  have fin : ∀ {z : Int}, z = yoG a b w c → yd9 a b w c = (decide (ya0 c.Train ≤ z) && ydj w.Lock.Length w.Lock.Width [c.Train]) := fun h => by rw [h]; rfl
  cases hu : c.Train.Up with
  | true =>
   have fin := fin (z := ya3 b - w.Lock.SillBelow) (by unfold yoG; rw [if_pos hu])
   simp -dsimp -implicitDefEqProofs [hc, g1, hlt, yI hlt, hu]
   refine yg (yml c.Train hcs) (by simp [hu]) rfl ?_
   simp -dsimp -implicitDefEqProofs
   refine ⟨fun hd1 => ?_, fun hd1 => ?_⟩
   ·have hff := yje [c.Train] w.Lock (ywS hcs)
    refine yg (hff) (by simp [hu]) rfl ?_
    cases hf : ydj w.Lock.Length w.Lock.Width [c.Train] with
    | true =>
     have e2 : yd9 a b w c = true := by rw [fin]; simp [hd1, hf]
     rw [e2] at e1
     simp -dsimp -implicitDefEqProofs [hu]
     refine ⟨by omega, yu hlt hlen, i + 1, hlt, by omega, ?_⟩
     apply yj <;> simp [AV.yc, AV.yA, Obj.yc, e1, hu]
    | false =>
     have e2 : yd9 a b w c = false := by rw [fin]; simp [hf]
     rw [e2] at e1
     simp -dsimp -implicitDefEqProofs
     refine ⟨yu hlt hlen, i + 1, hlt, by omega, ?_⟩
     apply yj <;> simp [AV.yc, AV.yA, Obj.yc, e1]
   ·have e2 : yd9 a b w c = false := by
     have : ¬ ya0 c.Train ≤ ya3 b - w.Lock.SillBelow := by omega
     rw [fin]; simp [this]
    rw [e2] at e1
    refine ⟨yu hlt hlen, i + 1, hlt, by omega, ?_⟩
    apply yj <;> simp [AV.yc, AV.yA, Obj.yc, e1]
  | false =>
   have fin := fin (z := ya3 a - w.Lock.SillAbove) (by unfold yoG; rw [if_neg (by simp [hu])])
   simp -dsimp -implicitDefEqProofs [hc, g1, hlt, yI hlt, hu]
   refine yg (yml c.Train hcs) (by simp [hu]) rfl ?_
   simp -dsimp -implicitDefEqProofs
   refine ⟨fun hd1 => ?_, fun hd1 => ?_⟩
   ·have hff := yje [c.Train] w.Lock (ywS hcs)
    refine yg (hff) (by simp [hu]) rfl ?_
    cases hf : ydj w.Lock.Length w.Lock.Width [c.Train] with
    | true =>
     have e2 : yd9 a b w c = true := by rw [fin]; simp [hd1, hf]
     rw [e2] at e1
     simp -dsimp -implicitDefEqProofs [hu]
     refine ⟨by omega, yu hlt hlen, i + 1, hlt, by omega, ?_⟩
     apply yj <;> simp [AV.yc, AV.yA, Obj.yc, e1, hu]
    | false =>
     have e2 : yd9 a b w c = false := by rw [fin]; simp [hf]
     rw [e2] at e1
     simp -dsimp -implicitDefEqProofs
     refine ⟨yu hlt hlen, i + 1, hlt, by omega, ?_⟩
     apply yj <;> simp [AV.yc, AV.yA, Obj.yc, e1]
   ·have e2 : yd9 a b w c = false := by
     have : ¬ ya0 c.Train ≤ ya3 a - w.Lock.SillAbove := by omega
     rw [fin]; simp [this]
    rw [e2] at e1
    refine ⟨yu hlt hlen, i + 1, hlt, by omega, ?_⟩
    apply yj <;> simp [AV.yc, AV.yA, Obj.yc, e1]
 ·simp -dsimp -implicitDefEqProofs [yah hge]
  rw [ysT hge]
  exact yK.symm
def ybv (x : Waterway) (k : Int) : List CallT :=
 if yai x && decide (0 ≤ k) && decide (k < x.Works.length) then (match x.Works[k.toNat]?, x.Reaches[k.toNat]?, x.Reaches[k.toNat + 1]? with
  | some w, some a, some b => able a b w
  | _, _, _ => []) else []
structure WorkAt (x : Waterway) (k : Nat) (w : Work) (a b : Reach) : Prop where
 hw : x.Works[k]? = some w
 ha : x.Reaches[k]? = some a
 hb : x.Reaches[k + 1]? = some b
 ok : yaS w = true
 wl : x.Works.length + 1 = x.Reaches.length
theorem yBU {x : Waterway} {k : Nat} (h : yai x = true) (hk : k < x.Works.length) : ∃ w a b, WorkAt x k w a b := by
 simp only [yai, Bool.and_eq_true] at h
 obtain ⟨⟨⟨⟨⟨⟨⟨h1, h2⟩, h3⟩, h4⟩, h5⟩, h6⟩, h7⟩, h8⟩ := h
 simp only [ybc, Bool.and_eq_true, decide_eq_true_eq, List.all_eq_true] at h2
 obtain ⟨⟨⟨⟨⟨⟨p1, p2⟩, p3⟩, p4⟩, p5⟩, p6⟩, p7⟩ := h2
 have e1 : x.Works[k]? = some x.Works[k] := List.getElem?_eq_getElem hk
 exact ⟨x.Works[k], x.Reaches[k]'(by omega), x.Reaches[k + 1]'(by omega), e1, List.getElem?_eq_getElem _, List.getElem?_eq_getElem _, p7 _ (List.mem_of_getElem? e1), p5⟩
theorem yxW {x : Waterway} {k : Int} (h : yai x = false) : ybv x k = [] := by simp [ybv, h]
theorem yw4 {x : Waterway} {k : Int} (h : k < 0) : ybv x k = [] := by
 have : ¬ 0 ≤ k := by omega
 simp [ybv, this]
theorem yxw {x : Waterway} {k : Int} (h : (x.Works.length : Int) ≤ k) : ybv x k = [] := by
 have : ¬ k < x.Works.length := by omega
 simp [ybv, this]
theorem yw6 {x : Waterway} {k : Nat} {w : Work} {a b : Reach} (h : yai x = true) (hw : WorkAt x k w a b) : ybv x k = able a b w := by
 have hk := (List.getElem?_eq_some_iff.1 hw.hw).1
 have h1 : ((k : Nat) : Int) < x.Works.length := by omega
 simp [ybv, h, h1, hw.hw, hw.ha, hw.hb]
set_option maxRecDepth 20000 in
theorem ysZ (x : Waterway) (k : Int) (hl : x.small) : ycE Tryz.prog yca [.agg (x.enc.map .c), .c (.i k)] (.c (.ot 4 ((ybv x k).map CallT.yO))) := by
 refine ybb yqd (by simp) fun hwf => ?_
 simp -dsimp -implicitDefEqProofs [yjC]
 refine yg (yqX x hl) (by simp) rfl ?_
 cases h : yai x with
 | false => simp -dsimp -implicitDefEqProofs; simp [yxW h]
 | true =>
 simp -dsimp -implicitDefEqProofs
 refine ⟨fun h0 => ?_, fun h0 => ?_⟩
 rotate_left
 ·simp [yw4 h0]
 intro hlen
 refine ⟨fun h1 => ?_, fun h1 => ?_⟩
 ·simp [yxw h1]
 obtain ⟨n, rfl⟩ := Int.eq_ofNat_of_zero_le h0
 obtain ⟨w, a, b, hw⟩ := yBU (k := n) h (by omega)
 have hws : Work.small w := hl.2.2.1.2 w (List.mem_of_getElem? hw.hw)
 rw [yw6 h hw]
 refine yJ (yHA x n w a b hws hw.hw hw.ha hw.hb (yC3 hw.ok) hl.1.1) (by simp) rfl ?_
 have hsm : yd0 (able a b w) := ⟨Nat.le_trans (List.length_filter_le _ _) hws.2.2.1, fun c hc => hws.2.2.2 c (List.mem_filter.1 hc).1⟩
 generalize able a b w = r at *
 simp -dsimp -implicitDefEqProofs
 refine yal (yyh r hsm) (by simp) (ybD CallT.yas _ _) (by simp [yau]) ?_
 simp -dsimp -implicitDefEqProofs [yK]
set_option maxRecDepth 20000 in
theorem yrS (x : Waterway) (k : Int) (hl : x.small) : yF Tryz.prog yfw [.agg (x.enc.map .c), .c (.i k)] (.c (.sl 4 ((ybv x k).map CallT.enc))) := by
 refine yt ypR (by simp) fun hwf => ?_
 simp -dsimp -implicitDefEqProofs [yjr]
 refine yg (yq2 x hl) (by simp) rfl ?_
 cases h : yai x with
 | false => simp -dsimp -implicitDefEqProofs; simp [yxW h]
 | true =>
 have hwl := hl.2.2.1.1
 simp -dsimp -implicitDefEqProofs
 intro hlen
 refine ⟨by unfold inI; omega, ?_⟩
 refine yg (yC k 0 (x.Works.length - 1)) (by simp) rfl ?_
 cases hin : inRange k 0 (x.Works.length - 1) with
 | false =>
  simp -dsimp -implicitDefEqProofs
  have : ¬ (0 ≤ k ∧ k ≤ x.Works.length - 1) := fun h => by rw [yR.2 h] at hin; cases hin
  rcases Int.lt_or_le k 0 with h0 | h0
  ·simp [yw4 h0]
  ·simp [yxw (x := x) (k := k) (by omega)]
 | true =>
 have hr := yR.1 hin
 obtain ⟨n, rfl⟩ := Int.eq_ofNat_of_zero_le hr.1
 obtain ⟨w, a, b, hw⟩ := yBU (k := n) h (by omega)
 have hs : Work.small w := hl.2.2.1.2 w (List.mem_of_getElem? hw.hw)
 rw [yw6 h hw]
 have hrl := hl.1.1
 obtain ⟨hw, ha, hb, hok, hwl2⟩ := hw
 have kw := (List.getElem?_eq_some_iff.1 hw).1
 have ka := (List.getElem?_eq_some_iff.1 ha).1
 have kb := (List.getElem?_eq_some_iff.1 hb).1
 have gw := (List.getElem?_eq_some_iff.1 hw).2
 have ga := (List.getElem?_eq_some_iff.1 ha).2
 have gb := (List.getElem?_eq_some_iff.1 hb).2
 obtain ⟨q1, q2⟩ := yC3 hok
 have la := ykD a
 have lb := ykD b
 have hc1 := hs.2.2.1
 simp -dsimp -implicitDefEqProofs [hw, gw, kw, yI kw]
 refine yh (ι := Nat) (fun i => i ≤ w.Calls.length) (fun i => yP [(1, .c (.i n)), (2, .box 2 0), (5, .own 10 4 (yfd a b w i).length), (6, .box 6 0), (7, .c (.i i))] [(2, .box (x.enc.map .c)), (6, .box (w.enc.map .c)), (10, .row 4 ((yfd a b w i).map CallT.enc))]) (fun i => w.Calls.length - i) 0 (by simp) (by apply yj <;> simp [AV.yc, AV.yA, Obj.yc, yfd]) ?_
 rintro i hi
 have hil := yrN (a := a) (b := b) (w := w) (k := i)
 rcases Nat.lt_or_ge i w.Calls.length with hlt | hge
 ·obtain ⟨c, hc⟩ : ∃ c, w.Calls[i]? = some c := ⟨_, List.getElem?_eq_getElem hlt⟩
  have g1 := (List.getElem?_eq_some_iff.1 hc).2
  have hcs := hs.2.2.2 c (List.mem_of_getElem? hc)
  have e1 := yqq (a := a) (b := b) hc
  have hd := ypl c.Train
  have fin : ∀ {z : Int}, z = yoG a b w c → yd9 a b w c = (decide (ya0 c.Train ≤ z) && ydj w.Lock.Length w.Lock.Width [c.Train]) := fun h => by rw [h]; rfl
  simp -dsimp -implicitDefEqProofs [hc, g1, hlt, yI hlt, ha, ga, ka, yI ka]
  intro hlen2
  refine ⟨_, _, ype a, by simp, .inr rfl, ?_⟩
  simp -dsimp -implicitDefEqProofs
  refine ⟨by unfold inI; omega, ?_⟩
  refine ⟨fun hu => ?_, fun hu => ?_⟩
  ·have fin := fin (z := ya3 b - w.Lock.SillBelow) (by unfold yoG; rw [if_pos hu])
   refine ⟨by unfold inI; omega, by omega, by omega, ?_⟩
   simp -dsimp -implicitDefEqProofs [hb, gb]
   refine ⟨_, _, ype b, by simp, .inr rfl, ?_⟩
   simp -dsimp -implicitDefEqProofs
   refine ⟨by unfold inI; omega, ?_⟩
   refine yg (ylT c.Train hcs) (by simp [hu]) rfl ?_
   simp -dsimp -implicitDefEqProofs
   refine ⟨fun hd1 => ?_, fun hd1 => ?_⟩
   ·have hff := yjy [c.Train] w.Lock (ywS hcs)
    refine yg (hff) (by simp [hu]) rfl ?_
    cases hf : ydj w.Lock.Length w.Lock.Width [c.Train] with
    | true =>
     have e2 : yd9 a b w c = true := by rw [fin]; simp [hd1, hf]
     rw [e2] at e1
     simp -dsimp -implicitDefEqProofs
     refine ysx (yve c.Train hcs) (by simp [hu]) (.inl rfl) ?_
     simp -dsimp -implicitDefEqProofs [hc, g1, hlt, yI hlt, yo0]
     refine ⟨by omega, yu hlt hlen2, i + 1, hlt, by omega, ?_⟩
     apply yj <;> simp [AV.yc, AV.yA, Obj.yc, e1, hu]
    | false =>
     have e2 : yd9 a b w c = false := by rw [fin]; simp [hf]
     rw [e2] at e1
     simp -dsimp -implicitDefEqProofs
     refine ⟨yu hlt hlen2, i + 1, hlt, by omega, ?_⟩
     apply yj <;> simp [AV.yc, AV.yA, Obj.yc, e1]
   ·have e2 : yd9 a b w c = false := by
     have : ¬ ya0 c.Train ≤ ya3 b - w.Lock.SillBelow := by omega
     rw [fin]; simp [this]
    rw [e2] at e1
    refine ⟨yu hlt hlen2, i + 1, hlt, by omega, ?_⟩
    apply yj <;> simp [AV.yc, AV.yA, Obj.yc, e1]
  ·have fin := fin (z := ya3 a - w.Lock.SillAbove) (by unfold yoG; rw [if_neg (by simp [hu])])
   refine yg (ylT c.Train hcs) (by simp [hu]) rfl ?_
   simp -dsimp -implicitDefEqProofs
   refine ⟨fun hd1 => ?_, fun hd1 => ?_⟩
   ·have hff := yjy [c.Train] w.Lock (ywS hcs)
    refine yg (hff) (by simp [hu]) rfl ?_
    cases hf : ydj w.Lock.Length w.Lock.Width [c.Train] with
    | true =>
     have e2 : yd9 a b w c = true := by rw [fin]; simp [hd1, hf]
     rw [e2] at e1
     simp -dsimp -implicitDefEqProofs
     refine ysx (yve c.Train hcs) (by simp [hu]) (.inl rfl) ?_
     simp -dsimp -implicitDefEqProofs [hc, g1, hlt, yI hlt, yo0]
     refine ⟨by omega, yu hlt hlen2, i + 1, hlt, by omega, ?_⟩
     apply yj <;> simp [AV.yc, AV.yA, Obj.yc, e1, hu]
    | false =>
     have e2 : yd9 a b w c = false := by rw [fin]; simp [hf]
     rw [e2] at e1
     simp -dsimp -implicitDefEqProofs
     refine ⟨yu hlt hlen2, i + 1, hlt, by omega, ?_⟩
     apply yj <;> simp [AV.yc, AV.yA, Obj.yc, e1]
   ·have e2 : yd9 a b w c = false := by
     have : ¬ ya0 c.Train ≤ ya3 a - w.Lock.SillAbove := by omega
     rw [fin]; simp [this]
    rw [e2] at e1
    refine ⟨yu hlt hlen2, i + 1, hlt, by omega, ?_⟩
    apply yj <;> simp [AV.yc, AV.yA, Obj.yc, e1]
 ·simp -dsimp -implicitDefEqProofs [yah hge]
  intro _
  rw [ysT hge]
  exact yK.symm
def ye5 {α : Type} (t : α → Nat) (xs : List α) : Nat := xs.length + (xs.map t).sum
def yck {α : Type} (f : α → Int → Int) (t : α → Nat) : Prop := ∀ x l, 0 ≤ l → l ≤ 1048576 → 0 ≤ f x l → f x l + t x ≤ l
theorem yaL {a : Int} {f : Int → Int} (h : 0 ≤ ybd a f) : 0 ≤ a ∧ ybd a f = f a := by
 rcases Int.lt_or_le a 0 with e | e
 ·rw [yM e] at h; omega
 ·exact ⟨e, yw e⟩
theorem ykM {α : Type} : yck (fun (xs : List α) l => szS xs.length l) (fun xs => xs.length) := by
 intro xs l h0 h1 h
 simp only [szS] at h ⊢
 split at h
 ·omega
 ·rename_i h2; rw [if_neg h2]; omega
theorem ytj {α : Type} {f : α → Int → Int} {t : α → Nat} (hf : yck f t) : ∀ (xs : List α) (l : Int), 0 ≤ l → l ≤ 1048576 → 0 ≤ yan f xs l → yan f xs l + ((xs.map t).sum : Nat) ≤ l
 | [], l, _, _, _ => by simp [yan]
 | x :: xs, l, h0, h1, h => by
  simp only [yan] at h ⊢
  obtain ⟨p, e⟩ := yaL h
  rw [e] at h ⊢
  have h2 := hf x l h0 h1 p
  have h3 := ytj hf xs (f x l) p (by omega) h
  simp only [List.map_cons, List.sum_cons, Int.natCast_add]; omega
theorem yfU {α : Type} {f : α → Int → Int} {t : α → Nat} (hf : yck f t) : yck (yeY f) (ye5 t) := by
 intro xs l h0 h1 h
 unfold yeY at h ⊢
 obtain ⟨p, e⟩ := yaL h
 rw [e] at h ⊢
 have h2 := ykM xs l h0 h1 p
 have h3 := ytj hf xs _ p (by simp only at h2 ⊢; omega) h
 unfold ye5
 simp only at h2
 omega
theorem ycL {α : Type} {n t : α → Nat} (h : ∀ x, n x ≤ 27 * (1 + t x)) : ∀ xs : List α, cnt n xs ≤ 27 * ye5 t xs
 | [] => by simp [cnt]
 | x :: xs => by
  have h1 := ycL h xs
  have h2 := h x
  simp only [cnt, ye5, List.map_cons, List.sum_cons, List.length_cons] at h1 ⊢
  omega
def yep (xs : List Int) : Nat := xs.length
theorem yij : yck ykO yep := ykM
def yon (xs : List Entry) : Nat := xs.length
theorem yuz : yck yjP yon := ykM
def ynh (xs : List Boat) : Nat := xs.length
theorem yvR : yck yeB ynh := ykM
def yfm : List (List Boat) → Nat := ye5 ynh
theorem yui : yck yec yfm := yfU yvR
theorem yz6 (r : List Boat) : nB r ≤ 27 * (1 + ynh r) := by unfold nB ynh; omega
def ybN (e : Train) : Nat := yfm e.Rows
theorem yg2 : yck ybC ybN := by
 intro e l h0 h1 h
 unfold ybC at h ⊢
 obtain ⟨p0, e0⟩ := yaL h
 rw [e0] at h ⊢
 have t0 := yui e.Rows _ h0 h1 p0
 unfold ybN
 omega
def yos (xs : List Point) : Nat := xs.length
theorem yuf : yck yjK yos := ykM
def yg4 (e : Reach) : Nat := yos e.Table + yep e.Pipe
theorem yvv : yck ycb yg4 := by
 intro e l h0 h1 h
 unfold ycb at h ⊢
 obtain ⟨p0, e0⟩ := yaL h
 rw [e0] at h ⊢
 have t0 := yuf e.Table _ h0 h1 p0
 obtain ⟨p1, e1⟩ := yaL h
 rw [e1] at h ⊢
 have t1 := yij e.Pipe _ p0 (by omega) p1
 unfold yg4
 omega
def yoI : List Reach → Nat := ye5 yg4
theorem yuP : yck yd6 yoI := yfU yvv
theorem ywT (e : Reach) : ya7 e ≤ 27 * (1 + yg4 e) := by
 have : yos e.Table = e.Table.length := rfl
 have : yep e.Pipe = e.Pipe.length := rfl
 simp only [ya7, yg4]
 omega
def ytl (xs : List Way) : Nat := xs.length
theorem yxs : yck ypr ytl := ykM
def ykw (xs : List Pause) : Nat := xs.length
theorem yuA : yck yjN ykw := ykM
def yhp : List Train → Nat := ye5 ybN
theorem ynJ : yck yc3 yhp := yfU yg2
theorem yqL (e : Train) : yG e ≤ 27 * (1 + ybN e) := by
 have := ycL yz6 e.Rows
 simp only [yG, ybN, yfm]
 omega
def ymm (e : Lock) : Nat := yhp e.Inside
theorem yxg : yck yio ymm := by
 intro e l h0 h1 h
 unfold yio at h ⊢
 obtain ⟨p0, e0⟩ := yaL h
 rw [e0] at h ⊢
 have t0 := ynJ e.Inside _ h0 h1 p0
 unfold ymm
 omega
def yju (e : CallT) : Nat := ybN e.Train
theorem yxy : yck ydz yju := by
 intro e l h0 h1 h
 unfold ydz at h ⊢
 obtain ⟨p0, e0⟩ := yaL h
 rw [e0] at h ⊢
 have t0 := yg2 e.Train _ h0 h1 p0
 unfold yju
 omega
def yjo : List CallT → Nat := ye5 yju
theorem yv7 : yck yfX yjo := yfU yxy
theorem ysn (e : CallT) : yar e ≤ 27 * (1 + yju e) := by
 have := ycL yz6 e.Train.Rows
 simp only [yar, yju, ybN, yfm]
 omega
def yds (e : Work) : Nat := ymm e.Lock + ykw e.Pauses + yjo e.Calls
theorem yx2 : yck ycN yds := by
 intro e l h0 h1 h
 unfold ycN at h ⊢
 obtain ⟨p0, e0⟩ := yaL h
 rw [e0] at h ⊢
 have t0 := yxg e.Lock _ h0 h1 p0
 obtain ⟨p1, e1⟩ := yaL h
 rw [e1] at h ⊢
 have t1 := yuA e.Pauses _ p0 (by omega) p1
 obtain ⟨p2, e2⟩ := yaL h
 rw [e2] at h ⊢
 have t2 := yv7 e.Calls _ p1 (by omega) p2
 unfold yds
 omega
def ynd : List Work → Nat := ye5 yds
theorem yv2 : yck yfV ynd := yfU yx2
theorem yzf (e : Work) : ybs e ≤ 27 * (1 + yds e) := by
 have := ycL yqL e.Lock.Inside
 have : ykw e.Pauses = e.Pauses.length := rfl
 have := ycL ysn e.Calls
 simp only [ybs, yds, ymm, yhp, yjo]
 omega
def yjM (e : Mover) : Nat := ybN e.Train
theorem yv0 : yck ycx yjM := by
 intro e l h0 h1 h
 unfold ycx at h ⊢
 obtain ⟨p0, e0⟩ := yaL h
 rw [e0] at h ⊢
 have t0 := yg2 e.Train _ h0 h1 p0
 unfold yjM
 omega
def yg9 : List Mover → Nat := ye5 yjM
theorem yuy : yck ybL yg9 := yfU yv0
theorem nM_le (e : Mover) : nM e ≤ 27 * (1 + yjM e) := by
 have := ycL yz6 e.Train.Rows
 simp only [nM, yjM, ybN, yfm]
 omega
def ylJ : List (List Mover) → Nat := ye5 yg9
theorem ysi : yck ycT ylJ := yfU yuy
theorem ywg (r : List Mover) : yaO r ≤ 27 * (1 + yg9 r) := by have := ycL nM_le r; unfold yaO yg9; omega
def yj0 (e : Tariff) : Nat := yep e.PerClass + yep e.Weights
theorem yuh : yck ydb yj0 := by
 intro e l h0 h1 h
 unfold ydb at h ⊢
 obtain ⟨p0, e0⟩ := yaL h
 rw [e0] at h ⊢
 have t0 := yij e.PerClass _ h0 h1 p0
 obtain ⟨p1, e1⟩ := yaL h
 rw [e1] at h ⊢
 have t1 := yij e.Weights _ p0 (by omega) p1
 unfold yj0
 omega
def yd1 (e : Passing) : Nat := ybN e.Train
theorem ytF : yck ybo yd1 := by
 intro e l h0 h1 h
 unfold ybo at h ⊢
 obtain ⟨p0, e0⟩ := yaL h
 rw [e0] at h ⊢
 have t0 := yg2 e.Train _ h0 h1 p0
 unfold yd1
 omega
def ykg : List Passing → Nat := ye5 yd1
theorem yrb : yck ycm ykg := yfU ytF
theorem yt1 (e : Passing) : yaz e ≤ 27 * (1 + yd1 e) := by
 have := ycL yz6 e.Train.Rows
 simp only [yaz, yd1, ybN, yfm]
 omega
def ydc (e : Waterway) : Nat := yoI e.Reaches + ytl e.Ways + ynd e.Works + ylJ e.Movers + yhp e.Arrived + yep e.Entered + yj0 e.Tariff + yon e.Book + ykg e.Passings
theorem yrr : yck yaK ydc := by
 intro e l h0 h1 h
 unfold yaK at h ⊢
 obtain ⟨p0, e0⟩ := yaL h
 rw [e0] at h ⊢
 have t0 := yuP e.Reaches _ h0 h1 p0
 obtain ⟨p1, e1⟩ := yaL h
 rw [e1] at h ⊢
 have t1 := yxs e.Ways _ p0 (by omega) p1
 obtain ⟨p2, e2⟩ := yaL h
 rw [e2] at h ⊢
 have t2 := yv2 e.Works _ p1 (by omega) p2
 obtain ⟨p3, e3⟩ := yaL h
 rw [e3] at h ⊢
 have t3 := ysi e.Movers _ p2 (by omega) p3
 obtain ⟨p4, e4⟩ := yaL h
 rw [e4] at h ⊢
 have t4 := ynJ e.Arrived _ p3 (by omega) p4
 obtain ⟨p5, e5⟩ := yaL h
 rw [e5] at h ⊢
 have t5 := yij e.Entered _ p4 (by omega) p5
 obtain ⟨p6, e6⟩ := yaL h
 rw [e6] at h ⊢
 have t6 := yuh e.Tariff _ p5 (by omega) p6
 obtain ⟨p7, e7⟩ := yaL h
 rw [e7] at h ⊢
 have t7 := yuz e.Book _ p6 (by omega) p7
 obtain ⟨p8, e8⟩ := yaL h
 rw [e8] at h ⊢
 have t8 := yrb e.Passings _ p7 (by omega) p8
 unfold ydc
 omega
def hsW (x : Waterway) : List H := [.p (.i x.Time), .t 3 (x.Reaches.map Reach.yO), .w 2 (x.Ways.map Way.enc), .t 22 (x.Works.map Work.yO), .t 1 (x.Movers.map yaE), .t 2 (x.Arrived.map Train.yO), .w 1 (x.Entered.map yac),
 .p (.i x.Tariff.Base), .p (.i x.Tariff.PerArea), .w 1 (x.Tariff.PerClass.map yac), .w 1 (x.Tariff.Weights.map yac), .w 5 (x.Book.map Entry.enc), .t 4 (x.Passings.map Passing.yO), .p (.i x.Start), .p (.i x.In), .p (.i x.Out)]
def wm1 (x : Waterway) (k : Int) : Int := k + cnt ya7 x.Reaches
def wm2 (x : Waterway) (k : Int) : Int := wm1 x k + 2 * x.Ways.length
def wm3 (x : Waterway) (k : Int) : Int := wm2 x k + cnt ybs x.Works
def wm4 (x : Waterway) (k : Int) : Int := wm3 x k + cnt yaO x.Movers
def wm5 (x : Waterway) (k : Int) : Int := wm4 x k + cnt yG x.Arrived
def wm6 (x : Waterway) (k : Int) : Int := wm5 x k + x.Entered.length
def wm7 (x : Waterway) (k : Int) : Int := wm6 x k + nT x.Tariff
def wm8 (x : Waterway) (k : Int) : Int := wm7 x k + 5 * x.Book.length
def wm9 (x : Waterway) (k : Int) : Int := wm8 x k + cnt yaz x.Passings
def hsM (x : Waterway) (k : Int) : List H := [.p (.i x.Time), .t 3 (yaF ycZ ya7 k x.Reaches), .w 2 (marked yi3 2 [] (wm1 x k) x.Ways.length), .t 22 (yaF yeF ybs (wm2 x k) x.Works), .t 1 (yaF ycf yaO (wm3 x k) x.Movers), .t 2 (yaF ybz yG (wm4 x k) x.Arrived), .w 1 (marked yac 1 [] (wm5 x k) x.Entered.length),
 .p (.i x.Tariff.Base), .p (.i x.Tariff.PerArea), .w 1 (marked yac 1 [] (wm6 x k) x.Tariff.PerClass.length), .w 1 (marked yac 1 [] (wm6 x k + x.Tariff.PerClass.length) x.Tariff.Weights.length), .w 5 (marked ytS 5 [] (wm7 x k) x.Book.length), .t 4 (yaF yby yaz (wm8 x k) x.Passings), .p (.i x.Start), .p (.i x.In), .p (.i x.Out)]
theorem yjq {id k n : Nat} {mk : Int → List C} {c j : Int} {rows : List (List C)} (h : n = rows.length) : hv id k (marked mk c [] j n) = hv id k rows := yCL (by rw [yZ, h])
theorem yoW {α : Type} {id k : Nat} {f : Int → α → List C} {n : α → Nat} {j : Int} {g : α → List C} {xs : List α} : hv id k (yaF f n j xs) = hv id k (xs.map g) := yCL (by rw [yU, List.length_map])
structure WkB (x : Waterway) (k : Int) : Prop where
 b0 : 0 ≤ k
 b1 : k ≤ wm1 x k
 b2 : wm1 x k ≤ wm2 x k
 b3 : wm2 x k ≤ wm3 x k
 b4 : wm3 x k ≤ wm4 x k
 b5 : wm4 x k ≤ wm5 x k
 b6 : wm5 x k ≤ wm6 x k
 b7 : wm6 x k ≤ wm7 x k
 b8 : wm7 x k ≤ wm8 x k
 b9 : wm8 x k ≤ wm9 x k
theorem wkB (x : Waterway) {k : Int} (h : 0 ≤ k) : WkB x k := by
 refine ⟨h, ?_, ?_, ?_, ?_, ?_, ?_, ?_, ?_, ?_⟩ <;> simp only [wm1, wm2, wm3, wm4, wm5, wm6, wm7, wm8, wm9, nT] <;> omega
set_option maxRecDepth 20000 in
theorem ytf (x : Waterway) (k : Int) (h0 : 0 ≤ k) (h1 : wm9 x k ≤ 4000000000000000000) :
 InF Tryz.prog ydn (.agg (((hsW x).map H.c).map .c)) (.agg (((hsM x k).map H.c).map .c)) [.c (.i k)] (.c (.i (wm9 x k))) := by
 obtain ⟨b0, b1, b2, b3, b4, b5, b6, b7, b8, b9⟩ := wkB x h0
 have e1 : wm1 x k = k + cnt ya7 x.Reaches := rfl
 have e2 : wm2 x k = wm1 x k + 2 * x.Ways.length := rfl
 have e3 : wm3 x k = wm2 x k + cnt ybs x.Works := rfl
 have e4 : wm4 x k = wm3 x k + cnt yaO x.Movers := rfl
 have e5 : wm5 x k = wm4 x k + cnt yG x.Arrived := rfl
 have e6 : wm6 x k = wm5 x k + x.Entered.length := rfl
 have e7 : wm7 x k = wm6 x k + nT x.Tariff := rfl
 have e8 : wm8 x k = wm7 x k + 5 * x.Book.length := rfl
 have e9 : wm9 x k = wm8 x k + cnt yaz x.Passings := rfl
 have m1 := yvB x.Reaches k h0 (by omega)
 have m2 := yyK x.Ways (wm1 x k) (by omega) (by omega)
 have m3 := yx5 x.Works (wm2 x k) (by omega) (by omega)
 have m4 := yt0 x.Movers (wm3 x k) (by omega) (by omega)
 have m5 := ypA x.Arrived (wm4 x k) (by omega) (by omega)
 have m6 := yb1 x.Entered (wm5 x k) (by omega) (by omega)
 have m7 := ywx x.Tariff (wm6 x k) (by omega) (by omega)
 have m8 := yvF x.Book (wm7 x k) (by omega) (by omega)
 have m9 := ytp x.Passings (wm8 x k) (by omega) (by omega)
 rw [← e1] at m1; rw [← e2] at m2; rw [← e3] at m3; rw [← e4] at m4; rw [← e5] at m5; rw [← e6] at m6; rw [← e7] at m7; rw [← e8] at m8; rw [← e9] at m9
 refine yGh ynu (by simp) (by simp [hsW, okH, H.ok]) rfl fun hwf => ?_
 simp -dsimp -implicitDefEqProofs [ygR, hsW]
 refine yjt (ver := 0) m1 (by simp) (by simp [yU]) (by simp) rfl rfl ?_
 simp -dsimp -implicitDefEqProofs
 refine yqi m2 (by simp) (by simp [yZ]) (by simp) rfl rfl ?_
 simp -dsimp -implicitDefEqProofs
 refine yjt (ver := 0) m3 (by simp) (by simp [yU]) (by simp) rfl rfl ?_
 simp -dsimp -implicitDefEqProofs
 refine yjt (ver := 0) m4 (by simp) (by simp [yU]) (by simp) rfl rfl ?_
 simp -dsimp -implicitDefEqProofs
 refine yjt (ver := 0) m5 (by simp) (by simp [yU]) (by simp) rfl rfl ?_
 simp -dsimp -implicitDefEqProofs
 refine yqi m6 (by simp) (by simp [yZ]) (by simp) rfl rfl ?_
 simp -dsimp -implicitDefEqProofs
 refine yB4 m7 (by decide) rfl rfl (by simp) (by simp) (by simp [yZ]) (by simp [yZ]) (by simp) rfl rfl ?_
 simp -dsimp -implicitDefEqProofs
 refine yqi m8 (by simp) (by simp [yZ]) (by simp) rfl rfl ?_
 simp -dsimp -implicitDefEqProofs
 refine yjt (ver := 0) m9 (by simp) (by simp [yU]) (by simp) rfl rfl ?_
 simp -dsimp -implicitDefEqProofs
 refine yHC ?_ ?_ ?_
 ·simp [hsM]
  exact ⟨yoW.symm, (yjq (by simp)).symm, yoW.symm, yoW.symm, yoW.symm, (yjq (by simp)).symm, (yjq (by simp)).symm, (yjq (by simp)).symm, (yjq (by simp)).symm, yoW.symm⟩
 ·simp [hsM, yz8, lieH]
  exact ⟨⟨1, rfl⟩, ⟨1, rfl⟩, ⟨1, rfl⟩, ⟨1, rfl⟩, ⟨1, rfl⟩⟩
 ·simp [ytE]
theorem yFO (x : Waterway) (k : Int) : wm9 x k ≤ k + 27 * (ydc x : Int) := by
 have a1 := ycL ywT x.Reaches
 have a2 := ycL yzf x.Works
 have a3 := ycL ywg x.Movers
 have a4 := ycL yqL x.Arrived
 have a5 := ycL yt1 x.Passings
 have b1 : yoI x.Reaches = ye5 yg4 x.Reaches := rfl
 have b2 : ynd x.Works = ye5 yds x.Works := rfl
 have b3 : ylJ x.Movers = ye5 yg9 x.Movers := rfl
 have b4 : yhp x.Arrived = ye5 ybN x.Arrived := rfl
 have b5 : ykg x.Passings = ye5 yd1 x.Passings := rfl
 have c1 : ytl x.Ways = x.Ways.length := rfl
 have c2 : yep x.Entered = x.Entered.length := rfl
 have c3 : yon x.Book = x.Book.length := rfl
 have c4 : yep x.Tariff.PerClass = x.Tariff.PerClass.length := rfl
 have c5 : yep x.Tariff.Weights = x.Tariff.Weights.length := rfl
 simp only [wm1, wm2, wm3, wm4, wm5, wm6, wm7, wm8, wm9, nT, ydc, yj0]
 omega
theorem yuU {α : Type} {f : Int → α → List C} {n : α → Nat} {k : Int} {xs : List α} : (yaF f n k xs).take xs.length = yaF f n k xs := List.take_of_length_le (by rw [yU]; exact Nat.le_refl _)
theorem yq9 (x : Waterway) (k : Int) (h : ydc x ≤ 1048576) : 1 + (cnt yar (ybv x k) : Int) ≤ 100000000 := by
 have hsum : ∀ l : List Work, ∀ w ∈ l, yds w ≤ (l.map yds).sum := by
  intro l
  induction l with
  | nil => simp
  | cons a l ih =>
   intro w hw
   rcases List.mem_cons.1 hw with e | e
   ·rw [e]; simp
   ·have := ih w e; simp; omega
 have hfil : ∀ (p : CallT → Bool) (l : List CallT), cnt yar (l.filter p) ≤ cnt yar l := by
  intro p l
  unfold cnt
  induction l with
  | nil => simp
  | cons a l ih =>
   rw [List.filter_cons]
   split
   ·simp; simpa using ih
   ·simp; have : ((l.filter p).map yar).sum ≤ (l.map yar).sum := by simpa using ih
    omega
 unfold ybv
 split
 ·split
  ·rename_i w a b hw ha hb
   have h1 := hsum x.Works w (List.mem_of_getElem? hw)
   have h2 := hfil (yd9 a b w) w.Calls
   have h3 := ycL ysn w.Calls
   have h4 : ynd x.Works = x.Works.length + (x.Works.map yds).sum := rfl
   have h5 : yjo w.Calls = ye5 yju w.Calls := rfl
   have h6 : yds w = ymm w.Lock + ykw w.Pauses + yjo w.Calls := rfl
   unfold ydc at h
   unfold able
   omega
  ·simp [cnt]
 ·simp [cnt]
set_option maxRecDepth 40000 in
theorem yoq (x0 : Waterway) (x1 : Int) : yF Tryz.prog yed [.agg (x0.enc.map .c), .c (.i x1)] (.c (.b true)) := by
 refine yt yjs (by simp) fun hwf => ?_
 simp -dsimp -implicitDefEqProofs [yeb]
 refine yg (ytZ x0 1048576 (by omega) (by omega)) (by simp) rfl ?_
 simp -dsimp -implicitDefEqProofs
 intro hsz0
 have hl0 := yCP yrL (by omega) (by omega) hsz0
 have ht := yrr x0 1048576 (by omega) (by omega) hsz0
 have hwm := yFO x0 1
 have hO := ysZ x0 x1 hl0
 have hS := yrS x0 x1 hl0
 have hM := yq9 x0 x1 (by omega)
 refine yJ (ykv x0 hl0) (by simp) rfl ?_
 simp -dsimp -implicitDefEqProofs
 refine yJ (hS) (by simp) rfl ?_
 generalize ybv x0 x1 = r at *
 simp -dsimp -implicitDefEqProofs
 refine yal (yvC x0 hl0) (by simp) (yhi (Waterway.yas x0)) (by simp [yau]) ?_
 simp -dsimp -implicitDefEqProofs
 have hP : yF Tryz.prog yca [.agg (x0.enc.map .c), .c (.i x1)] (.c (.sl 4 (r.map CallT.enc))) := hO.pure (by simp [AV.shr, AV.yCt, C.shr, yak CallT.yaa])
 refine yal hO (by simp [yK, yak Reach.yaa, yak Work.yaa, yak ycB, yak Train.yaa, yak Passing.yaa, yak CallT.yaa]) (ybD CallT.yas _ _) (by simp [yau]) ?_
 simp -dsimp -implicitDefEqProofs
 refine yg (ynn r r) (by simp [yK, yak Reach.yaa, yak Work.yaa, yak ycB, yak Train.yaa, yak Passing.yaa, yak CallT.yaa]) rfl ?_
 simp -dsimp -implicitDefEqProofs
 refine ⟨_, _, ykv x0 hl0, by simp, .inl rfl, ?_⟩
 simp -dsimp -implicitDefEqProofs
 refine ⟨_, _, yv5 x0 x0, by simp [yK, yak Reach.yaa, yak Work.yaa, yak ycB, yak Train.yaa, yak Passing.yaa, yak CallT.yaa], .inr rfl, ?_⟩
 simp -dsimp -implicitDefEqProofs
 refine ymW (ups := [none, some (20023, .tr 3 1 (yaF ycZ ya7 1 x0.Reaches)), some (30023, .row 2 (marked yi3 2 [] (wm1 x0 1) x0.Ways.length)), some (40023, .tr 22 1 (yaF yeF ybs (wm2 x0 1) x0.Works)), some (50023, .tr 1 1 (yaF ycf yaO (wm3 x0 1) x0.Movers)), some (60023, .tr 2 1 (yaF ybz yG (wm4 x0 1) x0.Arrived)), some (70023, .row 1 (marked yac 1 [] (wm5 x0 1) x0.Entered.length)), none, none, some (100023, .row 1 (marked yac 1 [] (wm6 x0 1) x0.Tariff.PerClass.length)), some (110023, .row 1 (marked yac 1 [] (wm6 x0 1 + x0.Tariff.PerClass.length) x0.Tariff.Weights.length)), some (120023, .row 5 (marked ytS 5 [] (wm7 x0 1) x0.Book.length)), some (130023, .tr 4 1 (yaF yby yaz (wm8 x0 1) x0.Passings)), none, none, none]) (ytf x0 1 (by omega) (by omega)) (by simp) rfl rfl
  ⟨ycI rfl, yov (rows := x0.Reaches.map Reach.yO) (by simp) rfl rfl rfl (by simp) (by simp [yU]) rfl rfl, ycK (rows := x0.Ways.map Way.enc) (by simp) rfl rfl (by simp) (by simp [yZ]) rfl rfl, yov (rows := x0.Works.map Work.yO) (by simp) rfl rfl rfl (by simp) (by simp [yU]) rfl rfl, yov (rows := x0.Movers.map yaE) (by simp) rfl rfl rfl (by simp) (by simp [yU]) rfl rfl, yov (rows := x0.Arrived.map Train.yO) (by simp) rfl rfl rfl (by simp) (by simp [yU]) rfl rfl, ycK (rows := x0.Entered.map yac) (by simp) rfl rfl (by simp) (by simp [yZ]) rfl rfl, ycI rfl, ycI rfl, ycK (rows := x0.Tariff.PerClass.map yac) (by simp) rfl rfl (by simp) (by simp [yZ]) rfl rfl, ycK (rows := x0.Tariff.Weights.map yac) (by simp) rfl rfl (by simp) (by simp [yZ]) rfl rfl, ycK (rows := x0.Book.map Entry.enc) (by simp) rfl rfl (by simp) (by simp [yZ]) rfl rfl, yov (rows := x0.Passings.map Passing.yO) (by simp) rfl rfl rfl (by simp) (by simp [yU]) rfl rfl, ycI rfl, ycI rfl, ycI rfl, trivial⟩ (by simp [ydg]) ?_
 have w9 : 0 ≤ wm9 x0 1 := by have := wkB x0 (k := 1) (by omega); obtain ⟨b0, b1, b2, b3, b4, b5, b6, b7, b8, b9⟩ := this; omega
 have n1 : (wm9 x0 1 < 0) = False := by simp; omega
 simp -dsimp -implicitDefEqProofs [n1]
 refine yg (ynn r r) (by simp [yK, yak Reach.yaa, yak Work.yaa, yak ycB, yak Train.yaa, yak Passing.yaa, yak CallT.yaa]) rfl ?_
 simp -dsimp -implicitDefEqProofs
 refine ycd (up := some (26, .tr 4 1 (yaF ydA yar 1 r))) (yqJ r 1 (by omega) (by omega)) (by simp) rfl rfl (yov (rows := r.map CallT.yO) (by simp) rfl rfl rfl (by simp) (by simp [yU]) rfl rfl) ?_
 simp -dsimp -implicitDefEqProofs
 have hH := yw1 r 1 (by omega) (by omega)
 refine yg (hH) (by simp [yd3, yuU, yaZ yo5, yaZ yqz, yaZ ynR, yaZ ykH, yaZ ylR, yaZ ymb]) rfl ?_
 have n2 : (1 + (cnt yar r : Int) < 0) = False := by simp; omega
 simp -dsimp -implicitDefEqProofs [n2]
 refine yJ (ykv x0 hl0) (by simp) rfl ?_
 simp -dsimp -implicitDefEqProofs
 refine yJ (hP) (by simp) rfl ?_
 simp -dsimp -implicitDefEqProofs
 refine yg (ynn r r) (by simp [yK, yak Reach.yaa, yak Work.yaa, yak ycB, yak Train.yaa, yak Passing.yaa, yak CallT.yaa]) rfl ?_
 simp -dsimp -implicitDefEqProofs
 refine yg (hH) (by simp [yd3, yuU, yaZ yo5, yaZ yqz, yaZ ynR, yaZ ykH, yaZ ylR, yaZ ymb]) rfl ?_
 simp -dsimp -implicitDefEqProofs [n2]
theorem yAE {xs : List C} (h : Fits [.i, .i, .i, .i, .i] xs) : ∃ e : Entry, xs = e.enc := by
 obtain ⟨c0, ys, rfl, h0, h⟩ := h.cons_inv
 obtain ⟨c1, ys, rfl, h1, h⟩ := h.cons_inv
 obtain ⟨c2, ys, rfl, h2, h⟩ := h.cons_inv
 obtain ⟨c3, ys, rfl, h3, h⟩ := h.cons_inv
 obtain ⟨c4, ys, rfl, h4, h⟩ := h.cons_inv
 obtain rfl := h.yb7
 obtain ⟨n0, rfl⟩ := h0.yaH
 obtain ⟨n1, rfl⟩ := h1.yaH
 obtain ⟨n2, rfl⟩ := h2.yaH
 obtain ⟨n3, rfl⟩ := h3.yaH
 obtain ⟨n4, rfl⟩ := h4.yaH
 exact ⟨⟨n0, n1, n2, n3, n4⟩, rfl⟩
theorem yoU {xs : List C} (h : Fits [.i] xs) : ∃ n : Int, xs = yac n := by
 obtain ⟨c0, ys, rfl, h0, h⟩ := h.cons_inv
 obtain rfl := h.yb7
 obtain ⟨n0, rfl⟩ := h0.yaH
 exact ⟨n0, rfl⟩
theorem yEh {xs : List C} (h : Fits [.i, .i] xs) : ∃ e : Way, xs = e.enc := by
 obtain ⟨c0, ys, rfl, h0, h⟩ := h.cons_inv
 obtain ⟨c1, ys, rfl, h1, h⟩ := h.cons_inv
 obtain rfl := h.yb7
 obtain ⟨n0, rfl⟩ := h0.yaH
 obtain ⟨n1, rfl⟩ := h1.yaH
 exact ⟨⟨n0, n1⟩, rfl⟩
theorem yBC {xs : List C} (h : Fits [.i, .i, .i, .i, .i, .i] xs) : ∃ e : Boat, xs = e.enc := by
 obtain ⟨c0, ys, rfl, h0, h⟩ := h.cons_inv
 obtain ⟨c1, ys, rfl, h1, h⟩ := h.cons_inv
 obtain ⟨c2, ys, rfl, h2, h⟩ := h.cons_inv
 obtain ⟨c3, ys, rfl, h3, h⟩ := h.cons_inv
 obtain ⟨c4, ys, rfl, h4, h⟩ := h.cons_inv
 obtain ⟨c5, ys, rfl, h5, h⟩ := h.cons_inv
 obtain rfl := h.yb7
 obtain ⟨n0, rfl⟩ := h0.yaH
 obtain ⟨n1, rfl⟩ := h1.yaH
 obtain ⟨n2, rfl⟩ := h2.yaH
 obtain ⟨n3, rfl⟩ := h3.yaH
 obtain ⟨n4, rfl⟩ := h4.yaH
 obtain ⟨n5, rfl⟩ := h5.yaH
 exact ⟨⟨n0, n1, n2, n3, n4, n5⟩, rfl⟩
theorem yng {xs : List C} (h : Fits [.sl [.i, .i, .i, .i, .i, .i]] xs) : ∃ e : List Boat, xs = yV e := by
 obtain ⟨c0, ys, rfl, h0, h⟩ := h.cons_inv
 obtain rfl := h.yb7
 obtain ⟨n0, rfl⟩ := h0.yb3 Boat.enc fun _ h => yBC h
 exact ⟨n0, rfl⟩
theorem yu4 {xs : List C} (h : Fits [.b, .sl [.sl [.i, .i, .i, .i, .i, .i]]] xs) : ∃ e : Train, xs = e.enc := by
 obtain ⟨c0, ys, rfl, h0, h⟩ := h.cons_inv
 obtain ⟨c1, ys, rfl, h1, h⟩ := h.cons_inv
 obtain rfl := h.yb7
 obtain ⟨n0, rfl⟩ := h0.yxJ
 obtain ⟨n1, rfl⟩ := h1.yb3 yV fun _ h => yng h
 exact ⟨⟨n0, n1⟩, rfl⟩
theorem yAC {xs : List C} (h : Fits [.b, .sl [.sl [.i, .i, .i, .i, .i, .i]], .i] xs) : ∃ e : Mover, xs = e.enc := by
 obtain ⟨c0, ys, rfl, h0, h⟩ := h.cons_inv
 obtain ⟨c1, ys, rfl, h1, h⟩ := h.cons_inv
 obtain ⟨c2, ys, rfl, h2, h⟩ := h.cons_inv
 obtain rfl := h.yb7
 obtain ⟨n0, rfl⟩ := h0.yxJ
 obtain ⟨n1, rfl⟩ := h1.yb3 yV fun _ h => yng h
 obtain ⟨n2, rfl⟩ := h2.yaH
 exact ⟨⟨⟨n0, n1⟩, n2⟩, rfl⟩
theorem yBc {xs : List C} (h : Fits [.i, .i] xs) : ∃ e : Point, xs = e.enc := by
 obtain ⟨c0, ys, rfl, h0, h⟩ := h.cons_inv
 obtain ⟨c1, ys, rfl, h1, h⟩ := h.cons_inv
 obtain rfl := h.yb7
 obtain ⟨n0, rfl⟩ := h0.yaH
 obtain ⟨n1, rfl⟩ := h1.yaH
 exact ⟨⟨n0, n1⟩, rfl⟩
theorem yAG {xs : List C} (h : Fits [.sl [.i, .i], .i, .sl [.i]] xs) : ∃ e : Reach, xs = e.enc := by
 obtain ⟨c0, ys, rfl, h0, h⟩ := h.cons_inv
 obtain ⟨c1, ys, rfl, h1, h⟩ := h.cons_inv
 obtain ⟨c2, ys, rfl, h2, h⟩ := h.cons_inv
 obtain rfl := h.yb7
 obtain ⟨n0, rfl⟩ := h0.yb3 Point.enc fun _ h => yBc h
 obtain ⟨n1, rfl⟩ := h1.yaH
 obtain ⟨n2, rfl⟩ := h2.yb3 yac fun _ h => yoU h
 exact ⟨⟨n0, n1, n2⟩, rfl⟩
theorem yAU {xs : List C} (h : Fits [.i, .i] xs) : ∃ e : Pause, xs = e.enc := by
 obtain ⟨c0, ys, rfl, h0, h⟩ := h.cons_inv
 obtain ⟨c1, ys, rfl, h1, h⟩ := h.cons_inv
 obtain rfl := h.yb7
 obtain ⟨n0, rfl⟩ := h0.yaH
 obtain ⟨n1, rfl⟩ := h1.yaH
 exact ⟨⟨n0, n1⟩, rfl⟩
theorem yCp {xs : List C} (h : Fits [.b, .sl [.sl [.i, .i, .i, .i, .i, .i]], .i, .i] xs) : ∃ e : CallT, xs = e.enc := by
 obtain ⟨c0, ys, rfl, h0, h⟩ := h.cons_inv
 obtain ⟨c1, ys, rfl, h1, h⟩ := h.cons_inv
 obtain ⟨c2, ys, rfl, h2, h⟩ := h.cons_inv
 obtain ⟨c3, ys, rfl, h3, h⟩ := h.cons_inv
 obtain rfl := h.yb7
 obtain ⟨n0, rfl⟩ := h0.yxJ
 obtain ⟨n1, rfl⟩ := h1.yb3 yV fun _ h => yng h
 obtain ⟨n2, rfl⟩ := h2.yaH
 obtain ⟨n3, rfl⟩ := h3.yaH
 exact ⟨⟨⟨n0, n1⟩, n2, n3⟩, rfl⟩
theorem yCx {xs : List C} (h : Fits [.i, .i, .i, .i, .i, .i, .i, .i, .i, .sl [.b, .sl [.sl [.i, .i, .i, .i, .i, .i]]], .i, .i, .i, .i, .i, .i, .i, .i, .sl [.i, .i], .b, .i, .sl [.b, .sl [.sl [.i, .i, .i, .i, .i, .i]], .i, .i]] xs) : ∃ e : Work, xs = e.enc := by
 obtain ⟨c0, ys, rfl, h0, h⟩ := h.cons_inv
 obtain ⟨c1, ys, rfl, h1, h⟩ := h.cons_inv
 obtain ⟨c2, ys, rfl, h2, h⟩ := h.cons_inv
 obtain ⟨c3, ys, rfl, h3, h⟩ := h.cons_inv
 obtain ⟨c4, ys, rfl, h4, h⟩ := h.cons_inv
 obtain ⟨c5, ys, rfl, h5, h⟩ := h.cons_inv
 obtain ⟨c6, ys, rfl, h6, h⟩ := h.cons_inv
 obtain ⟨c7, ys, rfl, h7, h⟩ := h.cons_inv
 obtain ⟨c8, ys, rfl, h8, h⟩ := h.cons_inv
 obtain ⟨c9, ys, rfl, h9, h⟩ := h.cons_inv
 obtain ⟨c10, ys, rfl, h10, h⟩ := h.cons_inv
 obtain ⟨c11, ys, rfl, h11, h⟩ := h.cons_inv
 obtain ⟨c12, ys, rfl, h12, h⟩ := h.cons_inv
 obtain ⟨c13, ys, rfl, h13, h⟩ := h.cons_inv
 obtain ⟨c14, ys, rfl, h14, h⟩ := h.cons_inv
 obtain ⟨c15, ys, rfl, h15, h⟩ := h.cons_inv
 obtain ⟨c16, ys, rfl, h16, h⟩ := h.cons_inv
 obtain ⟨c17, ys, rfl, h17, h⟩ := h.cons_inv
 obtain ⟨c18, ys, rfl, h18, h⟩ := h.cons_inv
 obtain ⟨c19, ys, rfl, h19, h⟩ := h.cons_inv
 obtain ⟨c20, ys, rfl, h20, h⟩ := h.cons_inv
 obtain ⟨c21, ys, rfl, h21, h⟩ := h.cons_inv
 obtain rfl := h.yb7
 obtain ⟨n0, rfl⟩ := h0.yaH
 obtain ⟨n1, rfl⟩ := h1.yaH
 obtain ⟨n2, rfl⟩ := h2.yaH
 obtain ⟨n3, rfl⟩ := h3.yaH
 obtain ⟨n4, rfl⟩ := h4.yaH
 obtain ⟨n5, rfl⟩ := h5.yaH
 obtain ⟨n6, rfl⟩ := h6.yaH
 obtain ⟨n7, rfl⟩ := h7.yaH
 obtain ⟨n8, rfl⟩ := h8.yaH
 obtain ⟨n9, rfl⟩ := h9.yb3 Train.enc fun _ h => yu4 h
 obtain ⟨n10, rfl⟩ := h10.yaH
 obtain ⟨n11, rfl⟩ := h11.yaH
 obtain ⟨n12, rfl⟩ := h12.yaH
 obtain ⟨n13, rfl⟩ := h13.yaH
 obtain ⟨n14, rfl⟩ := h14.yaH
 obtain ⟨n15, rfl⟩ := h15.yaH
 obtain ⟨n16, rfl⟩ := h16.yaH
 obtain ⟨n17, rfl⟩ := h17.yaH
 obtain ⟨n18, rfl⟩ := h18.yb3 Pause.enc fun _ h => yAU h
 obtain ⟨n19, rfl⟩ := h19.yxJ
 obtain ⟨n20, rfl⟩ := h20.yaH
 obtain ⟨n21, rfl⟩ := h21.yb3 CallT.enc fun _ h => yCp h
 exact ⟨⟨⟨n0, n1, n2, n3, n4, n5, n6, n7, n8, n9⟩, ⟨n10, n11, n12, n13, n14⟩, ⟨n15, n16, n17⟩, n18, ⟨n19, n20⟩, n21⟩, rfl⟩
theorem yze {xs : List C} (h : Fits [.sl [.b, .sl [.sl [.i, .i, .i, .i, .i, .i]], .i]] xs) : ∃ e : List Mover, xs = yav e := by
 obtain ⟨c0, ys, rfl, h0, h⟩ := h.cons_inv
 obtain rfl := h.yb7
 obtain ⟨n0, rfl⟩ := h0.yb3 Mover.enc fun _ h => yAC h
 exact ⟨n0, rfl⟩
theorem yx0 {xs : List C} (h : Fits [.i, .i, .b, .sl [.sl [.i, .i, .i, .i, .i, .i]]] xs) : ∃ e : Passing, xs = e.enc := by
 obtain ⟨c0, ys, rfl, h0, h⟩ := h.cons_inv
 obtain ⟨c1, ys, rfl, h1, h⟩ := h.cons_inv
 obtain ⟨c2, ys, rfl, h2, h⟩ := h.cons_inv
 obtain ⟨c3, ys, rfl, h3, h⟩ := h.cons_inv
 obtain rfl := h.yb7
 obtain ⟨n0, rfl⟩ := h0.yaH
 obtain ⟨n1, rfl⟩ := h1.yaH
 obtain ⟨n2, rfl⟩ := h2.yxJ
 obtain ⟨n3, rfl⟩ := h3.yb3 yV fun _ h => yng h
 exact ⟨⟨n0, n1, ⟨n2, n3⟩⟩, rfl⟩
theorem yvU {xs : List C} (h : Fits [.i, .sl [.sl [.i, .i], .i, .sl [.i]], .sl [.i, .i], .sl [.i, .i, .i, .i, .i, .i, .i, .i, .i, .sl [.b, .sl [.sl [.i, .i, .i, .i, .i, .i]]], .i, .i, .i, .i, .i, .i, .i, .i, .sl [.i, .i], .b, .i, .sl [.b, .sl [.sl [.i, .i, .i, .i, .i, .i]], .i, .i]], .sl [.sl [.b, .sl [.sl [.i, .i, .i, .i, .i, .i]], .i]], .sl [.b, .sl [.sl [.i, .i, .i, .i, .i, .i]]], .sl [.i], .i, .i, .sl [.i], .sl [.i], .sl [.i, .i, .i, .i, .i], .sl [.i, .i, .b, .sl [.sl [.i, .i, .i, .i, .i, .i]]], .i, .i, .i] xs) : ∃ e : Waterway, xs = e.enc := by
 obtain ⟨c0, ys, rfl, h0, h⟩ := h.cons_inv
 obtain ⟨c1, ys, rfl, h1, h⟩ := h.cons_inv
 obtain ⟨c2, ys, rfl, h2, h⟩ := h.cons_inv
 obtain ⟨c3, ys, rfl, h3, h⟩ := h.cons_inv
 obtain ⟨c4, ys, rfl, h4, h⟩ := h.cons_inv
 obtain ⟨c5, ys, rfl, h5, h⟩ := h.cons_inv
 obtain ⟨c6, ys, rfl, h6, h⟩ := h.cons_inv
 obtain ⟨c7, ys, rfl, h7, h⟩ := h.cons_inv
 obtain ⟨c8, ys, rfl, h8, h⟩ := h.cons_inv
 obtain ⟨c9, ys, rfl, h9, h⟩ := h.cons_inv
 obtain ⟨c10, ys, rfl, h10, h⟩ := h.cons_inv
 obtain ⟨c11, ys, rfl, h11, h⟩ := h.cons_inv
 obtain ⟨c12, ys, rfl, h12, h⟩ := h.cons_inv
 obtain ⟨c13, ys, rfl, h13, h⟩ := h.cons_inv
 obtain ⟨c14, ys, rfl, h14, h⟩ := h.cons_inv
 obtain ⟨c15, ys, rfl, h15, h⟩ := h.cons_inv
 obtain rfl := h.yb7
 obtain ⟨n0, rfl⟩ := h0.yaH
 obtain ⟨n1, rfl⟩ := h1.yb3 Reach.enc fun _ h => yAG h
 obtain ⟨n2, rfl⟩ := h2.yb3 Way.enc fun _ h => yEh h
 obtain ⟨n3, rfl⟩ := h3.yb3 Work.enc fun _ h => yCx h
 obtain ⟨n4, rfl⟩ := h4.yb3 yav fun _ h => yze h
 obtain ⟨n5, rfl⟩ := h5.yb3 Train.enc fun _ h => yu4 h
 obtain ⟨n6, rfl⟩ := h6.yb3 yac fun _ h => yoU h
 obtain ⟨n7, rfl⟩ := h7.yaH
 obtain ⟨n8, rfl⟩ := h8.yaH
 obtain ⟨n9, rfl⟩ := h9.yb3 yac fun _ h => yoU h
 obtain ⟨n10, rfl⟩ := h10.yb3 yac fun _ h => yoU h
 obtain ⟨n11, rfl⟩ := h11.yb3 Entry.enc fun _ h => yAE h
 obtain ⟨n12, rfl⟩ := h12.yb3 Passing.enc fun _ h => yx0 h
 obtain ⟨n13, rfl⟩ := h13.yaH
 obtain ⟨n14, rfl⟩ := h14.yaH
 obtain ⟨n15, rfl⟩ := h15.yaH
 exact ⟨⟨n0, n1, n2, n3, n4, n5, n6, ⟨n7, n8, n9, n10⟩, n11, n12, n13, n14, n15⟩, rfl⟩
theorem ykG : IsLaw Rows.fnExactAbleCallsSpec Tryz.f4.params.size := by
 refine ⟨rfl, fun H ds h => ?_⟩
 match ds, h with
 | [d0, d1], _ => rfl
theorem yhY : LawFacts Tryz.prog Tryz.f4 (Tryz.f4.resultTypes.getD 0 0) [(true, [.i, .sl [.sl [.i, .i], .i, .sl [.i]], .sl [.i, .i], .sl [.i, .i, .i, .i, .i, .i, .i, .i, .i, .sl [.b, .sl [.sl [.i, .i, .i, .i, .i, .i]]], .i, .i, .i, .i, .i, .i, .i, .i, .sl [.i, .i], .b, .i, .sl [.b, .sl [.sl [.i, .i, .i, .i, .i, .i]], .i, .i]], .sl [.sl [.b, .sl [.sl [.i, .i, .i, .i, .i, .i]], .i]], .sl [.b, .sl [.sl [.i, .i, .i, .i, .i, .i]]], .sl [.i], .i, .i, .sl [.i], .sl [.i], .sl [.i, .i, .i, .i, .i], .sl [.i, .i, .b, .sl [.sl [.i, .i, .i, .i, .i, .i]]], .i, .i, .i]), (false, [.i])] :=
 ⟨yu2, by kernel_rfl, by kernel_rfl, by kernel_rfl, by kernel_rfl⟩
set_option maxRecDepth 100000 in
theorem yjz (os : Os) (started : os.Started) (H : Type) (enc : TypeId × Value → H) :
 ReturnsInHanded {} Tryz.checked os 4 .any (Rows.fnExactAbleCallsSpec.pre6 enc Tryz.prog Tryz.f4 Rows.fnExactAbleCallsRow.domain false) (Rows.fnExactAbleCallsSpec.post enc Tryz.prog Tryz.f4 false true false false) := by
 refine law_lifted (C := Tryz.checked) yxA started (by kernel_rfl) Tryz.func4
  (ChangeSpec.witness6 (enc := enc) (C := Tryz.checked) false ⟨#[], #[.agg #[.int .i64 0, .slice none 0 0, .slice none 0 0, .slice none 0 0, .slice none 0 0, .slice none 0 0, .slice none 0 0, .int .i64 0, .int .i64 0, .slice none 0 0, .slice none 0 0, .slice none 0 0, .slice none 0 0, .int .i64 0, .int .i64 0, .int .i64 0], .int .i64 0], []⟩ 8 (by kernel_rfl) (by kernel_rfl) (by kernel_rfl) (by kernel_rfl)) ykG yhY ?_
 rintro avs ⟨a, avs0, rfl, ha, b, avs1, rfl, hb, rfl⟩
 cases ha with
 | st h0 =>
  cases hb with
  | one h1 =>
   obtain ⟨x0, rfl⟩ := yvU h0
   obtain ⟨x1, rfl⟩ := h1.yaH
   exact yoq x0 x1
theorem yjW : ytM Tryz.prog 4 Tryz.f4 Rows.fnExactAbleCallsSpec Rows.fnExactAbleCallsRow = true := by kernel_rfl
theorem ykt : Tryz.pinned.checked.prog.funcNamed Rows.fnExactAbleCallsRow.func = some 4 := by kernel_rfl
theorem ylx : Tryz.f4.isInstance Tryz.pinned.checked.prog Rows.fnExactAbleCallsRow.origin Rows.fnExactAbleCallsRow.targs := (of_decide_eq_true (by kernel_rfl))
theorem yly : Tryz.f4.isWrapper Tryz.pinned.checked.prog Rows.fnExactAbleCallsRow.wrapper Rows.fnExactAbleCallsRow.mainSum := by
 unfold Func.isWrapper; first | (rw [if_pos (by decide +kernel)]; kernel_rfl) | (rw [if_neg (by decide +kernel)]; exact ⟨rfl, rfl⟩)
theorem FnExactAbleCalls_holds : Rows.FnExactAbleCallsSaid :=
 OpenClaim.holds_of_wide (p := Tryz.pinned) (s := Rows.fnExactAbleCallsSpec) (c := Rows.fnExactAbleCallsRow) 4 Tryz.f4 rfl rfl rfl rfl rfl rfl rfl ⟨rfl, rfl, rfl, rfl, rfl⟩ rfl rfl rfl rfl rfl ykt Tryz.func4
  (yBk yAs yjW ⟨rfl, rfl, rfl, rfl, rfl, rfl, rfl, rfl⟩) ylx yly (fun os started H enc _ => yjz os started H enc)
end Go.Proofs.YtmimbhooaidelaaGreat
